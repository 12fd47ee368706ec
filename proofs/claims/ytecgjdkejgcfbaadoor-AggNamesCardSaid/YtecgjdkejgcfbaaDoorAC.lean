/- AggNames: the card: the law answers true; its listed variable is tied to the program's text. -/
import Derived.Test.YtecgjdkejgcfbaaDoorAR
import Derived.Test.YtecgjdkejgcfbaaDoorCards
import Derived.Test.YtecgjdkejgcfbaaDoorTie
import Derived.SevenTiedAt
namespace Go.Proofs.YtecgjdkejgcfbaaDoor
open Go
set_option maxRecDepth 100000
/-- The card holds: WHATEVER THE INPUT the law answers true. -/
theorem aggNames_card : Rows.AggNamesCardSaid :=
  Claim7.holds_tied_plain_at .later [] [.data] true (true, "217a2214ef6cb8cd71a6545066c633b95f85b0adc18a0dfe47a443a2fcd28b05") true
    aggNames.over (fun _ h => by cases h) (by kernel_rfl) (fun _ h => by cases h) aggNames_row_tie rfl ⟨rfl, rfl⟩ (by kernel_rfl) rfl
    (fun f fn hf hfn => by
      obtain rfl : f = 3 := Option.some.inj ((show Tryd.prog.funcNamed "colonnade/colonnadelaw22.AggNames" = some 3 by kernel_rfl).symm.trans hf) |>.symm
      obtain rfl : fn = Tryd.f3 := (Option.some.inj (Tryd.func3.symm.trans hfn)).symm
      exact ⟨by kernel_rfl, fun j t ht => by
        rw [Tryd.params3] at ht
        simp at ht⟩)
    (by kernel_rfl)
#print axioms aggNames_card
end Go.Proofs.YtecgjdkejgcfbaaDoor
