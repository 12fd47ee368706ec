/-
  No cell of these rows narrows 'for every input' (looked for: loops, veiled, ifaces, maps, wideKeys, modest, calm, conditions, laid).
  DERIVED. THE GIVEN ROWS OF THIS SEAT. 3 by the template 'for every input the law returns true; each argument reads behind the call as it read before'; 0 by the template 'total and deterministic' (their statements: YthbjeeipeadilaaGreatTotals.lean).
  GIVEN WITH THE SEED: the statements are not yours to turn. If you find one false, say at which input.
  Laid BY PROGRAM, IN A SANDBOX (cutbox-rows.mjs): the forced cells as the released guide's own fill.sh prints them over the translation 4ee44f05f99f75a7… (all of the seat's roots in one cut). By AI agents, Wed Nov 11 2026. No macro, syntax, notation, axiom, sorry.
-/
import Derived.Test.YthbjeeipeadilaaGreatChecked
import GoSem.Claim
import GoSem.ClaimJoined
import GoSem.ClaimMapViews
import Derived.JoinedTies
import Derived.KernelRfl
namespace Go.Proofs.YthbjeeipeadilaaGreat
/- THE CELL 'sum', in the pinned program and in every row, IS THE sha256 OF THE DUMP (.gsa) THAT YthbjeeipeadilaaGreatProg.lean LOADS. Nothing in Lean hashes anything: it is a label: what it is worth is what the hold of that sum in a sandbox is worth. -/
noncomputable def Tryz.pinned : Pinned := { name := "ythbjeeipeadilaagreat", sum := "4ee44f05f99f75a7ff0f6e1473f668ae7f1d66cf3b98437c59c5c54a402bc6ce", checked := Tryz.checked }
namespace Rows
def none {H : Type} : Left H := { results := [], args := [] }

/-- 'colonnadelaw12.ChunkSpreads': WHATEVER THE INPUT: true; the input reads as it did. -/
def chunkSpreadsSpec : ChangeSpec := { name := "chunkSpreads", fn := fun _ => fun
  | [d1, d2] => { results := [.lit (.bool true)], args := [d1, d2] }
  | _ => none }
def chunkSpreadsRow : OpenClaim := { program := "ythbjeeipeadilaagreat", sum := "4ee44f05f99f75a7ff0f6e1473f668ae7f1d66cf3b98437c59c5c54a402bc6ce", func := "colonnade/colonnadelaw12.ChunkSpreads", spec := "chunkSpreads", inPlace := ["math.Float64bits", "math.Float64frombits"], unfollowed := true, recurses := true, apart := false }
def ChunkSpreadsSaid : Prop := chunkSpreadsRow.holds Tryz.pinned (OpenSpec.ofChange chunkSpreadsSpec)

/-- ITS FALSE NEIGHBOUR: 'it returns false'. Refute it at one input. -/
def chunkSpreadsWrong : ChangeSpec := { name := "chunkSpreads", fn := fun _ => fun
  | [d1, d2] => { results := [.lit (.bool false)], args := [d1, d2] }
  | _ => none }
def ChunkSpreadsWrongFalsely : Prop := chunkSpreadsRow.holds Tryz.pinned (OpenSpec.ofChange chunkSpreadsWrong)

/-- 'colonnadelaw20.TextsRange': WHATEVER THE INPUT: true; the input reads as it did. -/
def textsRangeSpec : ChangeSpec := { name := "textsRange", fn := fun _ => fun
  | [d1, d2] => { results := [.lit (.bool true)], args := [d1, d2] }
  | _ => none }
def textsRangeRow : OpenClaim := { program := "ythbjeeipeadilaagreat", sum := "4ee44f05f99f75a7ff0f6e1473f668ae7f1d66cf3b98437c59c5c54a402bc6ce", func := "colonnade/colonnadelaw20.TextsRange", spec := "textsRange", inPlace := ["math.Float64bits", "math.Float64frombits", "internal/bytealg.abigen_runtime_cmpstring"], unfollowed := true, recurses := true, apart := false }
def TextsRangeSaid : Prop := textsRangeRow.holds Tryz.pinned (OpenSpec.ofChange textsRangeSpec)

/-- ITS FALSE NEIGHBOUR: 'it returns false'. Refute it at one input. -/
def textsRangeWrong : ChangeSpec := { name := "textsRange", fn := fun _ => fun
  | [d1, d2] => { results := [.lit (.bool false)], args := [d1, d2] }
  | _ => none }
def TextsRangeWrongFalsely : Prop := textsRangeRow.holds Tryz.pinned (OpenSpec.ofChange textsRangeWrong)

/-- 'colonnadelaw19.IntsTranslates': WHATEVER THE INPUT: true; the input reads as it did. -/
def intsTranslatesSpec : ChangeSpec := { name := "intsTranslates", fn := fun _ => fun
  | [d1, d2, d3, d4, d5] => { results := [.lit (.bool true)], args := [d1, d2, d3, d4, d5] }
  | _ => none }
def intsTranslatesRow : OpenClaim := { program := "ythbjeeipeadilaagreat", sum := "4ee44f05f99f75a7ff0f6e1473f668ae7f1d66cf3b98437c59c5c54a402bc6ce", func := "colonnade/colonnadelaw19.IntsTranslates", spec := "intsTranslates", inPlace := ["math.Float64bits", "math.Float64frombits", "internal/bytealg.abigen_runtime_cmpstring"], unfollowed := true, recurses := true, apart := false }
def IntsTranslatesSaid : Prop := intsTranslatesRow.holds Tryz.pinned (OpenSpec.ofChange intsTranslatesSpec)

/-- ITS FALSE NEIGHBOUR: 'it returns false'. Refute it at one input. -/
def intsTranslatesWrong : ChangeSpec := { name := "intsTranslates", fn := fun _ => fun
  | [d1, d2, d3, d4, d5] => { results := [.lit (.bool false)], args := [d1, d2, d3, d4, d5] }
  | _ => none }
def IntsTranslatesWrongFalsely : Prop := intsTranslatesRow.holds Tryz.pinned (OpenSpec.ofChange intsTranslatesWrong)

/- THE SECOND FORM. 'bulk': how many values and letters a reading holds, each counted each time it is reached (what is shared counts as often as it is met; a slice's spare places count too). A statement '..UptoSaid' is the law's where the arguments, and the package variables that the reading takes, are together of bulk at most 1048576: NARROWER than '..Said'. Prove '..Said' where nothing that the law and all that it calls make is longer than what came in: it says more and counts as full. Else prove '..UptoSaid'. A law counts once. -/
mutual
def uptoBulk {H : Type} : DataW H → Nat
  | .lit (.string bytes) => bytes.length + 1
  | .lit _ => 1
  | .nil => 1
  | .ptr d => uptoBulk d + 1
  | .slice elems spare => uptoBulkAll elems + uptoBulkAll spare + 1
  | .agg parts => uptoBulkAll parts + 1
  | .iface _ d => uptoBulk d + 1
  | .map entries => uptoBulkEntries entries + 1
  | .held _ => 1
def uptoBulkAll {H : Type} : List (DataW H) → Nat
  | [] => 0
  | d :: r => uptoBulk d + uptoBulkAll r
def uptoBulkEntries {H : Type} : List (Lit × DataW H) → Nat
  | [] => 0
  | x :: r => uptoBulkEntry x + uptoBulkEntries r
def uptoBulkEntry {H : Type} : Lit × DataW H → Nat
  | (.string bytes, d) => bytes.length + uptoBulk d + 1
  | (_, d) => uptoBulk d + 1
 end
def uptoSmall : (H : Type) → List (DataW H) → Bool := fun _ ds => decide (uptoBulkAll ds ≤ 1048576)
def OpenSpec.upto (s : _root_.Go.ChangeSpec) : _root_.Go.OpenSpec := { _root_.Go.OpenSpec.ofChange s with cond := some uptoSmall }

/-- 'colonnadelaw12.ChunkSpreads', WHERE WHAT IT READS IS OF BULK AT MOST 1048576: true; the input reads as it did. -/
def chunkSpreadsUptoRow : OpenClaim := { program := "ythbjeeipeadilaagreat", sum := "4ee44f05f99f75a7ff0f6e1473f668ae7f1d66cf3b98437c59c5c54a402bc6ce", func := "colonnade/colonnadelaw12.ChunkSpreads", spec := "chunkSpreads", inPlace := ["math.Float64bits", "math.Float64frombits"], unfollowed := true, recurses := true, apart := false, narrowed := true }
def ChunkSpreadsUptoSaid : Prop := chunkSpreadsUptoRow.holds Tryz.pinned (OpenSpec.upto chunkSpreadsSpec)

/-- 'colonnadelaw20.TextsRange', WHERE WHAT IT READS IS OF BULK AT MOST 1048576: true; the input reads as it did. -/
def textsRangeUptoRow : OpenClaim := { program := "ythbjeeipeadilaagreat", sum := "4ee44f05f99f75a7ff0f6e1473f668ae7f1d66cf3b98437c59c5c54a402bc6ce", func := "colonnade/colonnadelaw20.TextsRange", spec := "textsRange", inPlace := ["math.Float64bits", "math.Float64frombits", "internal/bytealg.abigen_runtime_cmpstring"], unfollowed := true, recurses := true, apart := false, narrowed := true }
def TextsRangeUptoSaid : Prop := textsRangeUptoRow.holds Tryz.pinned (OpenSpec.upto textsRangeSpec)

/-- 'colonnadelaw19.IntsTranslates', WHERE WHAT IT READS IS OF BULK AT MOST 1048576: true; the input reads as it did. -/
def intsTranslatesUptoRow : OpenClaim := { program := "ythbjeeipeadilaagreat", sum := "4ee44f05f99f75a7ff0f6e1473f668ae7f1d66cf3b98437c59c5c54a402bc6ce", func := "colonnade/colonnadelaw19.IntsTranslates", spec := "intsTranslates", inPlace := ["math.Float64bits", "math.Float64frombits", "internal/bytealg.abigen_runtime_cmpstring"], unfollowed := true, recurses := true, apart := false, narrowed := true }
def IntsTranslatesUptoSaid : Prop := intsTranslatesUptoRow.holds Tryz.pinned (OpenSpec.upto intsTranslatesSpec)

end Rows
end Go.Proofs.YthbjeeipeadilaaGreat
