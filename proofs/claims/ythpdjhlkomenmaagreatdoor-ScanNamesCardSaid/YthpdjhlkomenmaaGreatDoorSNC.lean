/- ScanNames: the card: the law answers true; its listed variable is tied to the program's text. -/
import Derived.Test.YthpdjhlkomenmaaGreatDoorSNR
import Derived.Test.YthpdjhlkomenmaaGreatDoorCards
import Derived.Test.YthpdjhlkomenmaaGreatDoorTie
import Derived.SevenTiedAt
namespace Go.Proofs.YthpdjhlkomenmaaGreatDoor
open Go
set_option maxRecDepth 100000
/-- The card holds: WHATEVER THE INPUT the law answers true. -/
theorem scanNames_card : Rows.ScanNamesCardSaid :=
  Claim7.holds_tied_plain_at .later [] [.data] true (true, "399b8e13478670504a2ef255b3cb5ad1fed97fbefccf3bfbac3982b88b2b2e91") true
    scanNames.over (fun _ h => by cases h) (by kernel_rfl) (fun _ h => by cases h) scanNames_row_tie rfl ⟨rfl, rfl⟩ (by kernel_rfl) rfl
    (fun f fn hf hfn => by
      obtain rfl : f = 3 := Option.some.inj ((show Tryz.prog.funcNamed "colonnade/colonnadelaw28.ScanNames" = some 3 by kernel_rfl).symm.trans hf) |>.symm
      obtain rfl : fn = Tryz.f3 := (Option.some.inj (Tryz.func3.symm.trans hfn)).symm
      exact ⟨by kernel_rfl, fun j t ht => by
        rw [Tryz.params3] at ht
        simp at ht⟩)
    (by kernel_rfl)
#print axioms scanNames_card
end Go.Proofs.YthpdjhlkomenmaaGreatDoor
