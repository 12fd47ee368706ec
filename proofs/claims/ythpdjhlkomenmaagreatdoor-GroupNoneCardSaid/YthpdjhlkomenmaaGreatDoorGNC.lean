/- GroupNone: the card: the law answers true; its listed variable is tied to the program's text. -/
import Derived.Test.YthpdjhlkomenmaaGreatDoorGNR
import Derived.Test.YthpdjhlkomenmaaGreatDoorCards
import Derived.Test.YthpdjhlkomenmaaGreatDoorTie
import Derived.SevenTiedAt
namespace Go.Proofs.YthpdjhlkomenmaaGreatDoor
open Go
set_option maxRecDepth 100000
/-- The card holds: WHATEVER THE INPUT the law answers true. -/
theorem groupNone_card : Rows.GroupNoneCardSaid :=
  Claim7.holds_tied_plain_at .later [] [.data] true (true, "399b8e13478670504a2ef255b3cb5ad1fed97fbefccf3bfbac3982b88b2b2e91") true
    groupNone.over (fun _ h => by cases h) (by kernel_rfl) (fun _ h => by cases h) groupNone_row_tie rfl ⟨rfl, rfl⟩ (by kernel_rfl) rfl
    (fun f fn hf hfn => by
      obtain rfl : f = 4 := Option.some.inj ((show Tryz.prog.funcNamed "colonnade/colonnadelaw29.GroupNone" = some 4 by kernel_rfl).symm.trans hf) |>.symm
      obtain rfl : fn = Tryz.f4 := (Option.some.inj (Tryz.func4.symm.trans hfn)).symm
      exact ⟨by kernel_rfl, fun j t ht => by
        rw [Tryz.params4] at ht
        simp at ht⟩)
    (by kernel_rfl)
#print axioms groupNone_card
end Go.Proofs.YthpdjhlkomenmaaGreatDoor
