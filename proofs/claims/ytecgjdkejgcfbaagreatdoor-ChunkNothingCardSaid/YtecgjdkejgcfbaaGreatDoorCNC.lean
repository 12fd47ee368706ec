/- ChunkNothing: the card: the law answers true; its listed variable is tied to the program's text. -/
import Derived.Test.YtecgjdkejgcfbaaGreatDoorCNR
import Derived.Test.YtecgjdkejgcfbaaGreatDoorCards
import Derived.Test.YtecgjdkejgcfbaaGreatDoorTie
import Derived.SevenTiedAt
namespace Go.Proofs.YtecgjdkejgcfbaaGreatDoor
open Go
set_option maxRecDepth 100000
/-- The card holds: WHATEVER THE INPUT the law answers true. -/
theorem chunkNothing_card : Rows.ChunkNothingCardSaid :=
  Claim7.holds_tied_plain_at .later [] [.data] true (true, "fd3a0eeec491e4720a61f4619f296a902771d6cce5b95f5cfb6f23fc05fb497c") true
    chunkNothing.over (fun _ h => by cases h) (by kernel_rfl) (fun _ h => by cases h) chunkNothing_row_tie rfl ⟨rfl, rfl⟩ (by kernel_rfl) rfl
    (fun f fn hf hfn => by
      obtain rfl : f = 3 := Option.some.inj ((show Tryz.prog.funcNamed "colonnade/colonnadelaw12.ChunkNothing" = some 3 by kernel_rfl).symm.trans hf) |>.symm
      obtain rfl : fn = Tryz.f3 := (Option.some.inj (Tryz.func3.symm.trans hfn)).symm
      exact ⟨by kernel_rfl, fun j t ht => by
        rw [Tryz.params3] at ht
        simp at ht⟩)
    (by kernel_rfl)
#print axioms chunkNothing_card
end Go.Proofs.YtecgjdkejgcfbaaGreatDoor
