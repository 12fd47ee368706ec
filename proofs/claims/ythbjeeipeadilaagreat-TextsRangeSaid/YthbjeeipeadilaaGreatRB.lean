/- What every row of this seat asks of the program. -/
import Derived.Test.YthbjeeipeadilaaGreatRows
import Derived.Test.YthbjeeipeadilaaGreatPvL
namespace Go.Proofs.YthbjeeipeadilaaGreat
open Go Go.Pv Go.RowKit
theorem own : ownKnob Tryz.prog.godebug = none := by kernel_rfl
theorem laidOut : laidOutB Tryz.prog = true := by kernel_rfl
end Go.Proofs.YthbjeeipeadilaaGreat
