/-
  DERIVED. GIVEN WITH THE SEED: THE CARDS: each row of YtecgjdkejgcfbaaGreatDoorRows.lean that lists a variable, with what it lists TIED to the program's text (the seventh form; the later family's looks); each row that meets fmt, with fmt's text TOLD by the authors' own Lean function (tested against real Go, not proved from fmt's source: count such statements apart). THE CARD IS WHAT COUNTS. Prove the row's statement (the work); the ties are given (YtecgjdkejgcfbaaGreatDoorTie.lean); close each card by the builder's one call (the guide's Derived/Test/ToyasCard.lean, 'card_holds'). Laid BY PROGRAM, IN A SANDBOX (cutbox-door.mjs). By AI agents, Wed Nov 11 2026. No macro, syntax, notation, axiom, sorry.
-/
import Derived.Test.YtecgjdkejgcfbaaGreatDoorRows
import GoSem.ClaimSeven
namespace Go.Proofs.YtecgjdkejgcfbaaGreatDoor
namespace Rows

/-- THE TIED CARD OF 'colonnadelaw12.ChunkNothing'. -/
def chunkNothingCard : Claim7 := { stood := { row := chunkNothingRow, standIns := [], harness := (true, "fd3a0eeec491e4720a61f4619f296a902771d6cce5b95f5cfb6f23fc05fb497c"), looks := true }, kinds := [], alts := [], laidByText := true, laidKinds := [.data], laidTests := true, laidLooks := .later }
def ChunkNothingCardSaid : Prop := Claim7.holds Tryz.pinned (.plain (OpenSpec.ofChange chunkNothingSpec)) chunkNothingCard

/-- THE SECOND FORM's CARD OF 'colonnadelaw12.ChunkNothing'. -/
def chunkNothingUptoCard : Claim7 := { stood := { row := chunkNothingUptoRow, standIns := [], harness := (true, "fd3a0eeec491e4720a61f4619f296a902771d6cce5b95f5cfb6f23fc05fb497c"), looks := true }, kinds := [], alts := [], laidByText := true, laidKinds := [.data], laidTests := true, laidLooks := .later }
def ChunkNothingUptoCardSaid : Prop := Claim7.holds Tryz.pinned (.plain (OpenSpec.upto chunkNothingSpec)) chunkNothingUptoCard
end Rows
end Go.Proofs.YtecgjdkejgcfbaaGreatDoor
