/- The law CrewNames: the numbers 170, 310 and 64 are what the closed statement says. No condition. -/
import Derived.Test.YtaddmokllmdngaaPCrewNamesx1
namespace Go.Proofs.Ytaddmokllmdngaa.Pure
open Go.RowKit Go.Proofs.Ytaddmokllmdngaa.PCrewNames Go.Proofs.YtaddmokllmdngaaW.PrintWords Go.Proofs.YtaddmokllmdngaaW.PrintLast

/-- YOURS: colonnadelaw31_CrewNames.f  = some true
What it reaches (each with k first where it has rounds; `.mono`: more rounds tell the same; `.l0`, ..: its loops, with `.mono_l`): colonnadelaw31_CrewNames.f -/
theorem CrewNames : colonnadelaw31_CrewNames.Pure := by
  rfl

end Go.Proofs.Ytaddmokllmdngaa.Pure
