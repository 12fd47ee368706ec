/-
  DERIVED. GIVEN WITH THE SEED: THE CARDS: each row of YthpdjhlkomenmaaGreatDoorRows.lean that lists a variable, with what it lists TIED to the program's text (the seventh form; the later family's looks); each row that meets fmt, with fmt's text TOLD by the authors' own Lean function (tested against real Go, not proved from fmt's source: count such statements apart). THE CARD IS WHAT COUNTS. Prove the row's statement (the work); the ties are given (YthpdjhlkomenmaaGreatDoorTie.lean); close each card by the builder's one call (the guide's Derived/Test/ToyasCard.lean, 'card_holds'). Laid BY PROGRAM, IN A SANDBOX (cutbox-door.mjs). By AI agents, Wed Nov 11 2026. No macro, syntax, notation, axiom, sorry.
-/
import Derived.Test.YthpdjhlkomenmaaGreatDoorRows
import GoSem.ClaimSeven
namespace Go.Proofs.YthpdjhlkomenmaaGreatDoor
namespace Rows

/-- THE TIED CARD OF 'colonnadelaw28.ScanNames'. -/
def scanNamesCard : Claim7 := { stood := { row := scanNamesRow, standIns := [], harness := (true, "399b8e13478670504a2ef255b3cb5ad1fed97fbefccf3bfbac3982b88b2b2e91"), looks := true }, kinds := [], alts := [], laidByText := true, laidKinds := [.data], laidTests := true, laidLooks := .later }
def ScanNamesCardSaid : Prop := Claim7.holds Tryz.pinned (.plain (OpenSpec.ofChange scanNamesSpec)) scanNamesCard

/-- THE TIED CARD OF 'colonnadelaw29.GroupNone'. -/
def groupNoneCard : Claim7 := { stood := { row := groupNoneRow, standIns := [], harness := (true, "399b8e13478670504a2ef255b3cb5ad1fed97fbefccf3bfbac3982b88b2b2e91"), looks := true }, kinds := [], alts := [], laidByText := true, laidKinds := [.data], laidTests := true, laidLooks := .later }
def GroupNoneCardSaid : Prop := Claim7.holds Tryz.pinned (.plain (OpenSpec.ofChange groupNoneSpec)) groupNoneCard

/-- THE SECOND FORM's CARD OF 'colonnadelaw28.ScanNames'. -/
def scanNamesUptoCard : Claim7 := { stood := { row := scanNamesUptoRow, standIns := [], harness := (true, "399b8e13478670504a2ef255b3cb5ad1fed97fbefccf3bfbac3982b88b2b2e91"), looks := true }, kinds := [], alts := [], laidByText := true, laidKinds := [.data], laidTests := true, laidLooks := .later }
def ScanNamesUptoCardSaid : Prop := Claim7.holds Tryz.pinned (.plain (OpenSpec.upto scanNamesSpec)) scanNamesUptoCard

/-- THE SECOND FORM's CARD OF 'colonnadelaw29.GroupNone'. -/
def groupNoneUptoCard : Claim7 := { stood := { row := groupNoneUptoRow, standIns := [], harness := (true, "399b8e13478670504a2ef255b3cb5ad1fed97fbefccf3bfbac3982b88b2b2e91"), looks := true }, kinds := [], alts := [], laidByText := true, laidKinds := [.data], laidTests := true, laidLooks := .later }
def GroupNoneUptoCardSaid : Prop := Claim7.holds Tryz.pinned (.plain (OpenSpec.upto groupNoneSpec)) groupNoneUptoCard
end Rows
end Go.Proofs.YthpdjhlkomenmaaGreatDoor
