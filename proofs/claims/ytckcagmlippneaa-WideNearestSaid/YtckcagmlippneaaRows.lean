/-
  No cell of these rows narrows 'for every input' (looked for: loops, veiled, ifaces, maps, wideKeys, modest, calm, conditions, laid).
  DERIVED. THE GIVEN ROWS OF THIS SEAT. 12 by the template 'for every input the law returns true; each argument reads behind the call as it read before'; 0 by the template 'total and deterministic' (their statements: YtckcagmlippneaaTotals.lean).
  GIVEN WITH THE SEED: the statements are not yours to turn. If you find one false, say at which input.
  Laid BY PROGRAM, IN A SANDBOX (cutbox-rows.mjs): the forced cells as the released guide's own fill.sh prints them over the translation 112b29f5c0fd26ed… (all of the seat's roots in one cut). By AI agents, Wed Nov 11 2026. No macro, syntax, notation, axiom, sorry.
-/
import Derived.Test.YtckcagmlippneaaChecked
import GoSem.Claim
import GoSem.ClaimJoined
import GoSem.ClaimMapViews
import Derived.JoinedTies
import Derived.KernelRfl
namespace Go.Proofs.Ytckcagmlippneaa
/- THE CELL 'sum', in the pinned program and in every row, IS THE sha256 OF THE DUMP (.gsa) THAT YtckcagmlippneaaProg.lean LOADS. Nothing in Lean hashes anything: it is a label: what it is worth is what the hold of that sum in a sandbox is worth. -/
noncomputable def Try.pinned : Pinned := { name := "ytckcagmlippneaa", sum := "112b29f5c0fd26edce0d09137089ea01e42b1ec54064fa0b25114e701f2dc0fe", checked := Try.checked }
namespace Rows
def none {H : Type} : Left H := { results := [], args := [] }

/-- 'colonnadelaw21.WideAdds': WHATEVER THE INPUT: true; the input reads as it did. -/
def wideAddsSpec : ChangeSpec := { name := "wideAdds", fn := fun _ => fun
  | [d1, d2] => { results := [.lit (.bool true)], args := [d1, d2] }
  | _ => none }
def wideAddsRow : OpenClaim := { program := "ytckcagmlippneaa", sum := "112b29f5c0fd26edce0d09137089ea01e42b1ec54064fa0b25114e701f2dc0fe", func := "colonnade/colonnadelaw21.WideAdds", spec := "wideAdds", inPlace := ["math/bits.Add64", "math/bits.Sub64", "math.Float64bits", "math.Float64frombits"], named := ["math/bits.divideError", "math/bits.overflowError"], apart := false }
def WideAddsSaid : Prop := wideAddsRow.holds Try.pinned (OpenSpec.ofChange wideAddsSpec)

/-- ITS FALSE NEIGHBOUR: 'it returns false'. Refute it at one input. -/
def wideAddsWrong : ChangeSpec := { name := "wideAdds", fn := fun _ => fun
  | [d1, d2] => { results := [.lit (.bool false)], args := [d1, d2] }
  | _ => none }
def WideAddsWrongFalsely : Prop := wideAddsRow.holds Try.pinned (OpenSpec.ofChange wideAddsWrong)

/-- 'colonnadelaw21.WideOfs': WHATEVER THE INPUT: true; the input reads as it did. -/
def wideOfsSpec : ChangeSpec := { name := "wideOfs", fn := fun _ => fun
  | [d1, d2] => { results := [.lit (.bool true)], args := [d1, d2] }
  | _ => none }
def wideOfsRow : OpenClaim := { program := "ytckcagmlippneaa", sum := "112b29f5c0fd26edce0d09137089ea01e42b1ec54064fa0b25114e701f2dc0fe", func := "colonnade/colonnadelaw21.WideOfs", spec := "wideOfs", inPlace := ["math/bits.Sub64", "math.Float64bits", "math.Float64frombits", "math/bits.Add64"], named := ["math/bits.divideError", "math/bits.overflowError"], apart := false }
def WideOfsSaid : Prop := wideOfsRow.holds Try.pinned (OpenSpec.ofChange wideOfsSpec)

/-- ITS FALSE NEIGHBOUR: 'it returns false'. Refute it at one input. -/
def wideOfsWrong : ChangeSpec := { name := "wideOfs", fn := fun _ => fun
  | [d1, d2] => { results := [.lit (.bool false)], args := [d1, d2] }
  | _ => none }
def WideOfsWrongFalsely : Prop := wideOfsRow.holds Try.pinned (OpenSpec.ofChange wideOfsWrong)

/-- 'colonnadelaw21.WideInts': WHATEVER THE INPUT: true; the input reads as it did. -/
def wideIntsSpec : ChangeSpec := { name := "wideInts", fn := fun _ => fun
  | [d] => { results := [.lit (.bool true)], args := [d] }
  | _ => none }
def wideIntsRow : OpenClaim := { program := "ytckcagmlippneaa", sum := "112b29f5c0fd26edce0d09137089ea01e42b1ec54064fa0b25114e701f2dc0fe", func := "colonnade/colonnadelaw21.WideInts", spec := "wideInts", inPlace := ["math/bits.Sub64", "math.Float64bits", "math.Float64frombits", "math/bits.Add64"], named := ["math/bits.divideError", "math/bits.overflowError"], apart := false }
def WideIntsSaid : Prop := wideIntsRow.holds Try.pinned (OpenSpec.ofChange wideIntsSpec)

/-- ITS FALSE NEIGHBOUR: 'it returns false'. Refute it at one input. -/
def wideIntsWrong : ChangeSpec := { name := "wideInts", fn := fun _ => fun
  | [d] => { results := [.lit (.bool false)], args := [d] }
  | _ => none }
def WideIntsWrongFalsely : Prop := wideIntsRow.holds Try.pinned (OpenSpec.ofChange wideIntsWrong)

/-- 'colonnadelaw21.WideSums': WHATEVER THE INPUT: true; the input reads as it did. -/
def wideSumsSpec : ChangeSpec := { name := "wideSums", fn := fun _ => fun
  | [d] => { results := [.lit (.bool true)], args := [d] }
  | _ => none }
def wideSumsRow : OpenClaim := { program := "ytckcagmlippneaa", sum := "112b29f5c0fd26edce0d09137089ea01e42b1ec54064fa0b25114e701f2dc0fe", func := "colonnade/colonnadelaw21.WideSums", spec := "wideSums", inPlace := ["math/bits.Add64", "math/bits.Sub64", "math.Float64bits", "math.Float64frombits"], named := ["math/bits.divideError", "math/bits.overflowError"], apart := false }
def WideSumsSaid : Prop := wideSumsRow.holds Try.pinned (OpenSpec.ofChange wideSumsSpec)

/-- ITS FALSE NEIGHBOUR: 'it returns false'. Refute it at one input. -/
def wideSumsWrong : ChangeSpec := { name := "wideSums", fn := fun _ => fun
  | [d] => { results := [.lit (.bool false)], args := [d] }
  | _ => none }
def WideSumsWrongFalsely : Prop := wideSumsRow.holds Try.pinned (OpenSpec.ofChange wideSumsWrong)

/-- 'colonnadelaw21.WideTexts': WHATEVER THE INPUT: true; the input reads as it did. -/
def wideTextsSpec : ChangeSpec := { name := "wideTexts", fn := fun _ => fun
  | [d] => { results := [.lit (.bool true)], args := [d] }
  | _ => none }
def wideTextsRow : OpenClaim := { program := "ytckcagmlippneaa", sum := "112b29f5c0fd26edce0d09137089ea01e42b1ec54064fa0b25114e701f2dc0fe", func := "colonnade/colonnadelaw21.WideTexts", spec := "wideTexts", inPlace := ["math/bits.Sub64", "math.Float64bits", "math.Float64frombits", "math/bits.Add64"], named := ["math/bits.divideError", "math/bits.overflowError"], apart := false }
def WideTextsSaid : Prop := wideTextsRow.holds Try.pinned (OpenSpec.ofChange wideTextsSpec)

/-- ITS FALSE NEIGHBOUR: 'it returns false'. Refute it at one input. -/
def wideTextsWrong : ChangeSpec := { name := "wideTexts", fn := fun _ => fun
  | [d] => { results := [.lit (.bool false)], args := [d] }
  | _ => none }
def WideTextsWrongFalsely : Prop := wideTextsRow.holds Try.pinned (OpenSpec.ofChange wideTextsWrong)

/-- 'colonnadelaw21.WideReads': WHATEVER THE INPUT: true; the input reads as it did. -/
def wideReadsSpec : ChangeSpec := { name := "wideReads", fn := fun _ => fun
  | [d] => { results := [.lit (.bool true)], args := [d] }
  | _ => none }
def wideReadsRow : OpenClaim := { program := "ytckcagmlippneaa", sum := "112b29f5c0fd26edce0d09137089ea01e42b1ec54064fa0b25114e701f2dc0fe", func := "colonnade/colonnadelaw21.WideReads", spec := "wideReads", inPlace := ["math/bits.Add64", "math/bits.Sub64", "math.Float64bits", "math.Float64frombits"], named := ["math/bits.divideError", "math/bits.overflowError"], apart := false }
def WideReadsSaid : Prop := wideReadsRow.holds Try.pinned (OpenSpec.ofChange wideReadsSpec)

/-- ITS FALSE NEIGHBOUR: 'it returns false'. Refute it at one input. -/
def wideReadsWrong : ChangeSpec := { name := "wideReads", fn := fun _ => fun
  | [d] => { results := [.lit (.bool false)], args := [d] }
  | _ => none }
def WideReadsWrongFalsely : Prop := wideReadsRow.holds Try.pinned (OpenSpec.ofChange wideReadsWrong)

/-- 'colonnadelaw21.WideMeans': WHATEVER THE INPUT: true; the input reads as it did. -/
def wideMeansSpec : ChangeSpec := { name := "wideMeans", fn := fun _ => fun
  | [d1, d2] => { results := [.lit (.bool true)], args := [d1, d2] }
  | _ => none }
def wideMeansRow : OpenClaim := { program := "ytckcagmlippneaa", sum := "112b29f5c0fd26edce0d09137089ea01e42b1ec54064fa0b25114e701f2dc0fe", func := "colonnade/colonnadelaw21.WideMeans", spec := "wideMeans", inPlace := ["math/bits.Sub64", "math.Float64bits", "math.Float64frombits", "math/bits.Add64"], named := ["math/bits.divideError", "math/bits.overflowError"], apart := false }
def WideMeansSaid : Prop := wideMeansRow.holds Try.pinned (OpenSpec.ofChange wideMeansSpec)

/-- ITS FALSE NEIGHBOUR: 'it returns false'. Refute it at one input. -/
def wideMeansWrong : ChangeSpec := { name := "wideMeans", fn := fun _ => fun
  | [d1, d2] => { results := [.lit (.bool false)], args := [d1, d2] }
  | _ => none }
def WideMeansWrongFalsely : Prop := wideMeansRow.holds Try.pinned (OpenSpec.ofChange wideMeansWrong)

/-- 'colonnadelaw21.WideAnyOrder': WHATEVER THE INPUT: true; the input reads as it did. -/
def wideAnyOrderSpec : ChangeSpec := { name := "wideAnyOrder", fn := fun _ => fun
  | [d1, d2, d3] => { results := [.lit (.bool true)], args := [d1, d2, d3] }
  | _ => none }
def wideAnyOrderRow : OpenClaim := { program := "ytckcagmlippneaa", sum := "112b29f5c0fd26edce0d09137089ea01e42b1ec54064fa0b25114e701f2dc0fe", func := "colonnade/colonnadelaw21.WideAnyOrder", spec := "wideAnyOrder", inPlace := ["math/bits.Sub64", "math.Float64bits", "math.Float64frombits", "math/bits.Add64"], named := ["math/bits.divideError", "math/bits.overflowError"], apart := false }
def WideAnyOrderSaid : Prop := wideAnyOrderRow.holds Try.pinned (OpenSpec.ofChange wideAnyOrderSpec)

/-- ITS FALSE NEIGHBOUR: 'it returns false'. Refute it at one input. -/
def wideAnyOrderWrong : ChangeSpec := { name := "wideAnyOrder", fn := fun _ => fun
  | [d1, d2, d3] => { results := [.lit (.bool false)], args := [d1, d2, d3] }
  | _ => none }
def WideAnyOrderWrongFalsely : Prop := wideAnyOrderRow.holds Try.pinned (OpenSpec.ofChange wideAnyOrderWrong)

/-- 'colonnadelaw21.WideGroup': WHATEVER THE INPUT: true; the input reads as it did. -/
def wideGroupSpec : ChangeSpec := { name := "wideGroup", fn := fun _ => fun
  | [d1, d2, d3] => { results := [.lit (.bool true)], args := [d1, d2, d3] }
  | _ => none }
def wideGroupRow : OpenClaim := { program := "ytckcagmlippneaa", sum := "112b29f5c0fd26edce0d09137089ea01e42b1ec54064fa0b25114e701f2dc0fe", func := "colonnade/colonnadelaw21.WideGroup", spec := "wideGroup", inPlace := ["math/bits.Add64", "math/bits.Sub64", "math.Float64bits", "math.Float64frombits"], named := ["math/bits.divideError", "math/bits.overflowError"], apart := false }
def WideGroupSaid : Prop := wideGroupRow.holds Try.pinned (OpenSpec.ofChange wideGroupSpec)

/-- ITS FALSE NEIGHBOUR: 'it returns false'. Refute it at one input. -/
def wideGroupWrong : ChangeSpec := { name := "wideGroup", fn := fun _ => fun
  | [d1, d2, d3] => { results := [.lit (.bool false)], args := [d1, d2, d3] }
  | _ => none }
def WideGroupWrongFalsely : Prop := wideGroupRow.holds Try.pinned (OpenSpec.ofChange wideGroupWrong)

/-- 'colonnadelaw21.WideBack': WHATEVER THE INPUT: true; the input reads as it did. -/
def wideBackSpec : ChangeSpec := { name := "wideBack", fn := fun _ => fun
  | [d1, d2] => { results := [.lit (.bool true)], args := [d1, d2] }
  | _ => none }
def wideBackRow : OpenClaim := { program := "ytckcagmlippneaa", sum := "112b29f5c0fd26edce0d09137089ea01e42b1ec54064fa0b25114e701f2dc0fe", func := "colonnade/colonnadelaw21.WideBack", spec := "wideBack", inPlace := ["math/bits.Sub64", "math/bits.Add64", "math.Float64bits", "math.Float64frombits"], named := ["math/bits.divideError", "math/bits.overflowError"], apart := false }
def WideBackSaid : Prop := wideBackRow.holds Try.pinned (OpenSpec.ofChange wideBackSpec)

/-- ITS FALSE NEIGHBOUR: 'it returns false'. Refute it at one input. -/
def wideBackWrong : ChangeSpec := { name := "wideBack", fn := fun _ => fun
  | [d1, d2] => { results := [.lit (.bool false)], args := [d1, d2] }
  | _ => none }
def WideBackWrongFalsely : Prop := wideBackRow.holds Try.pinned (OpenSpec.ofChange wideBackWrong)

/-- 'colonnadelaw21.WideNearest': WHATEVER THE INPUT: true; the input reads as it did. -/
def wideNearestSpec : ChangeSpec := { name := "wideNearest", fn := fun _ => fun
  | [d1, d2] => { results := [.lit (.bool true)], args := [d1, d2] }
  | _ => none }
def wideNearestRow : OpenClaim := { program := "ytckcagmlippneaa", sum := "112b29f5c0fd26edce0d09137089ea01e42b1ec54064fa0b25114e701f2dc0fe", func := "colonnade/colonnadelaw21.WideNearest", spec := "wideNearest", inPlace := ["math/bits.Sub64", "math.Float64bits", "math.Float64frombits", "math/bits.Add64"], named := ["math/bits.divideError", "math/bits.overflowError"], apart := false }
def WideNearestSaid : Prop := wideNearestRow.holds Try.pinned (OpenSpec.ofChange wideNearestSpec)

/-- ITS FALSE NEIGHBOUR: 'it returns false'. Refute it at one input. -/
def wideNearestWrong : ChangeSpec := { name := "wideNearest", fn := fun _ => fun
  | [d1, d2] => { results := [.lit (.bool false)], args := [d1, d2] }
  | _ => none }
def WideNearestWrongFalsely : Prop := wideNearestRow.holds Try.pinned (OpenSpec.ofChange wideNearestWrong)

/-- 'colonnadelaw21.WideMeanGoes': WHATEVER THE INPUT: true; the input reads as it did. -/
def wideMeanGoesSpec : ChangeSpec := { name := "wideMeanGoes", fn := fun _ => fun
  | [d1, d2, d3, d4] => { results := [.lit (.bool true)], args := [d1, d2, d3, d4] }
  | _ => none }
def wideMeanGoesRow : OpenClaim := { program := "ytckcagmlippneaa", sum := "112b29f5c0fd26edce0d09137089ea01e42b1ec54064fa0b25114e701f2dc0fe", func := "colonnade/colonnadelaw21.WideMeanGoes", spec := "wideMeanGoes", inPlace := ["math/bits.Sub64", "math.Float64bits", "math.Float64frombits", "math/bits.Add64"], named := ["math/bits.divideError", "math/bits.overflowError"], apart := false }
def WideMeanGoesSaid : Prop := wideMeanGoesRow.holds Try.pinned (OpenSpec.ofChange wideMeanGoesSpec)

/-- ITS FALSE NEIGHBOUR: 'it returns false'. Refute it at one input. -/
def wideMeanGoesWrong : ChangeSpec := { name := "wideMeanGoes", fn := fun _ => fun
  | [d1, d2, d3, d4] => { results := [.lit (.bool false)], args := [d1, d2, d3, d4] }
  | _ => none }
def WideMeanGoesWrongFalsely : Prop := wideMeanGoesRow.holds Try.pinned (OpenSpec.ofChange wideMeanGoesWrong)

/- THE SECOND FORM. 'bulk': how many values and letters a reading holds, each counted each time it is reached (what is shared counts as often as it is met; a slice's spare places count too). A statement '..UptoSaid' is the law's where the arguments, and the package variables that the reading takes, are together of bulk at most 1048576: NARROWER than '..Said'. Prove '..Said' where nothing that the law and all that it calls make is longer than what came in: it says more and counts as full. Else prove '..UptoSaid'. A law counts once. -/
mutual
def uptoBulk {H : Type} : DataW H → Nat
  | .lit (.string bytes) => bytes.length + 1
  | .lit _ => 1
  | .nil => 1
  | .ptr d => uptoBulk d + 1
  | .slice elems spare => uptoBulkAll elems + uptoBulkAll spare + 1
  | .agg parts => uptoBulkAll parts + 1
  | .iface _ d => uptoBulk d + 1
  | .map entries => uptoBulkEntries entries + 1
  | .held _ => 1
def uptoBulkAll {H : Type} : List (DataW H) → Nat
  | [] => 0
  | d :: r => uptoBulk d + uptoBulkAll r
def uptoBulkEntries {H : Type} : List (Lit × DataW H) → Nat
  | [] => 0
  | x :: r => uptoBulkEntry x + uptoBulkEntries r
def uptoBulkEntry {H : Type} : Lit × DataW H → Nat
  | (.string bytes, d) => bytes.length + uptoBulk d + 1
  | (_, d) => uptoBulk d + 1
 end
def uptoSmall : (H : Type) → List (DataW H) → Bool := fun _ ds => decide (uptoBulkAll ds ≤ 1048576)
def OpenSpec.upto (s : _root_.Go.ChangeSpec) : _root_.Go.OpenSpec := { _root_.Go.OpenSpec.ofChange s with cond := some uptoSmall }

/-- 'colonnadelaw21.WideAdds', WHERE WHAT IT READS IS OF BULK AT MOST 1048576: true; the input reads as it did. -/
def wideAddsUptoRow : OpenClaim := { program := "ytckcagmlippneaa", sum := "112b29f5c0fd26edce0d09137089ea01e42b1ec54064fa0b25114e701f2dc0fe", func := "colonnade/colonnadelaw21.WideAdds", spec := "wideAdds", inPlace := ["math/bits.Add64", "math/bits.Sub64", "math.Float64bits", "math.Float64frombits"], named := ["math/bits.divideError", "math/bits.overflowError"], apart := false, narrowed := true }
def WideAddsUptoSaid : Prop := wideAddsUptoRow.holds Try.pinned (OpenSpec.upto wideAddsSpec)

/-- 'colonnadelaw21.WideOfs', WHERE WHAT IT READS IS OF BULK AT MOST 1048576: true; the input reads as it did. -/
def wideOfsUptoRow : OpenClaim := { program := "ytckcagmlippneaa", sum := "112b29f5c0fd26edce0d09137089ea01e42b1ec54064fa0b25114e701f2dc0fe", func := "colonnade/colonnadelaw21.WideOfs", spec := "wideOfs", inPlace := ["math/bits.Sub64", "math.Float64bits", "math.Float64frombits", "math/bits.Add64"], named := ["math/bits.divideError", "math/bits.overflowError"], apart := false, narrowed := true }
def WideOfsUptoSaid : Prop := wideOfsUptoRow.holds Try.pinned (OpenSpec.upto wideOfsSpec)

/-- 'colonnadelaw21.WideInts', WHERE WHAT IT READS IS OF BULK AT MOST 1048576: true; the input reads as it did. -/
def wideIntsUptoRow : OpenClaim := { program := "ytckcagmlippneaa", sum := "112b29f5c0fd26edce0d09137089ea01e42b1ec54064fa0b25114e701f2dc0fe", func := "colonnade/colonnadelaw21.WideInts", spec := "wideInts", inPlace := ["math/bits.Sub64", "math.Float64bits", "math.Float64frombits", "math/bits.Add64"], named := ["math/bits.divideError", "math/bits.overflowError"], apart := false, narrowed := true }
def WideIntsUptoSaid : Prop := wideIntsUptoRow.holds Try.pinned (OpenSpec.upto wideIntsSpec)

/-- 'colonnadelaw21.WideSums', WHERE WHAT IT READS IS OF BULK AT MOST 1048576: true; the input reads as it did. -/
def wideSumsUptoRow : OpenClaim := { program := "ytckcagmlippneaa", sum := "112b29f5c0fd26edce0d09137089ea01e42b1ec54064fa0b25114e701f2dc0fe", func := "colonnade/colonnadelaw21.WideSums", spec := "wideSums", inPlace := ["math/bits.Add64", "math/bits.Sub64", "math.Float64bits", "math.Float64frombits"], named := ["math/bits.divideError", "math/bits.overflowError"], apart := false, narrowed := true }
def WideSumsUptoSaid : Prop := wideSumsUptoRow.holds Try.pinned (OpenSpec.upto wideSumsSpec)

/-- 'colonnadelaw21.WideTexts', WHERE WHAT IT READS IS OF BULK AT MOST 1048576: true; the input reads as it did. -/
def wideTextsUptoRow : OpenClaim := { program := "ytckcagmlippneaa", sum := "112b29f5c0fd26edce0d09137089ea01e42b1ec54064fa0b25114e701f2dc0fe", func := "colonnade/colonnadelaw21.WideTexts", spec := "wideTexts", inPlace := ["math/bits.Sub64", "math.Float64bits", "math.Float64frombits", "math/bits.Add64"], named := ["math/bits.divideError", "math/bits.overflowError"], apart := false, narrowed := true }
def WideTextsUptoSaid : Prop := wideTextsUptoRow.holds Try.pinned (OpenSpec.upto wideTextsSpec)

/-- 'colonnadelaw21.WideReads', WHERE WHAT IT READS IS OF BULK AT MOST 1048576: true; the input reads as it did. -/
def wideReadsUptoRow : OpenClaim := { program := "ytckcagmlippneaa", sum := "112b29f5c0fd26edce0d09137089ea01e42b1ec54064fa0b25114e701f2dc0fe", func := "colonnade/colonnadelaw21.WideReads", spec := "wideReads", inPlace := ["math/bits.Add64", "math/bits.Sub64", "math.Float64bits", "math.Float64frombits"], named := ["math/bits.divideError", "math/bits.overflowError"], apart := false, narrowed := true }
def WideReadsUptoSaid : Prop := wideReadsUptoRow.holds Try.pinned (OpenSpec.upto wideReadsSpec)

/-- 'colonnadelaw21.WideMeans', WHERE WHAT IT READS IS OF BULK AT MOST 1048576: true; the input reads as it did. -/
def wideMeansUptoRow : OpenClaim := { program := "ytckcagmlippneaa", sum := "112b29f5c0fd26edce0d09137089ea01e42b1ec54064fa0b25114e701f2dc0fe", func := "colonnade/colonnadelaw21.WideMeans", spec := "wideMeans", inPlace := ["math/bits.Sub64", "math.Float64bits", "math.Float64frombits", "math/bits.Add64"], named := ["math/bits.divideError", "math/bits.overflowError"], apart := false, narrowed := true }
def WideMeansUptoSaid : Prop := wideMeansUptoRow.holds Try.pinned (OpenSpec.upto wideMeansSpec)

/-- 'colonnadelaw21.WideAnyOrder', WHERE WHAT IT READS IS OF BULK AT MOST 1048576: true; the input reads as it did. -/
def wideAnyOrderUptoRow : OpenClaim := { program := "ytckcagmlippneaa", sum := "112b29f5c0fd26edce0d09137089ea01e42b1ec54064fa0b25114e701f2dc0fe", func := "colonnade/colonnadelaw21.WideAnyOrder", spec := "wideAnyOrder", inPlace := ["math/bits.Sub64", "math.Float64bits", "math.Float64frombits", "math/bits.Add64"], named := ["math/bits.divideError", "math/bits.overflowError"], apart := false, narrowed := true }
def WideAnyOrderUptoSaid : Prop := wideAnyOrderUptoRow.holds Try.pinned (OpenSpec.upto wideAnyOrderSpec)

/-- 'colonnadelaw21.WideGroup', WHERE WHAT IT READS IS OF BULK AT MOST 1048576: true; the input reads as it did. -/
def wideGroupUptoRow : OpenClaim := { program := "ytckcagmlippneaa", sum := "112b29f5c0fd26edce0d09137089ea01e42b1ec54064fa0b25114e701f2dc0fe", func := "colonnade/colonnadelaw21.WideGroup", spec := "wideGroup", inPlace := ["math/bits.Add64", "math/bits.Sub64", "math.Float64bits", "math.Float64frombits"], named := ["math/bits.divideError", "math/bits.overflowError"], apart := false, narrowed := true }
def WideGroupUptoSaid : Prop := wideGroupUptoRow.holds Try.pinned (OpenSpec.upto wideGroupSpec)

/-- 'colonnadelaw21.WideBack', WHERE WHAT IT READS IS OF BULK AT MOST 1048576: true; the input reads as it did. -/
def wideBackUptoRow : OpenClaim := { program := "ytckcagmlippneaa", sum := "112b29f5c0fd26edce0d09137089ea01e42b1ec54064fa0b25114e701f2dc0fe", func := "colonnade/colonnadelaw21.WideBack", spec := "wideBack", inPlace := ["math/bits.Sub64", "math/bits.Add64", "math.Float64bits", "math.Float64frombits"], named := ["math/bits.divideError", "math/bits.overflowError"], apart := false, narrowed := true }
def WideBackUptoSaid : Prop := wideBackUptoRow.holds Try.pinned (OpenSpec.upto wideBackSpec)

/-- 'colonnadelaw21.WideNearest', WHERE WHAT IT READS IS OF BULK AT MOST 1048576: true; the input reads as it did. -/
def wideNearestUptoRow : OpenClaim := { program := "ytckcagmlippneaa", sum := "112b29f5c0fd26edce0d09137089ea01e42b1ec54064fa0b25114e701f2dc0fe", func := "colonnade/colonnadelaw21.WideNearest", spec := "wideNearest", inPlace := ["math/bits.Sub64", "math.Float64bits", "math.Float64frombits", "math/bits.Add64"], named := ["math/bits.divideError", "math/bits.overflowError"], apart := false, narrowed := true }
def WideNearestUptoSaid : Prop := wideNearestUptoRow.holds Try.pinned (OpenSpec.upto wideNearestSpec)

/-- 'colonnadelaw21.WideMeanGoes', WHERE WHAT IT READS IS OF BULK AT MOST 1048576: true; the input reads as it did. -/
def wideMeanGoesUptoRow : OpenClaim := { program := "ytckcagmlippneaa", sum := "112b29f5c0fd26edce0d09137089ea01e42b1ec54064fa0b25114e701f2dc0fe", func := "colonnade/colonnadelaw21.WideMeanGoes", spec := "wideMeanGoes", inPlace := ["math/bits.Sub64", "math.Float64bits", "math.Float64frombits", "math/bits.Add64"], named := ["math/bits.divideError", "math/bits.overflowError"], apart := false, narrowed := true }
def WideMeanGoesUptoSaid : Prop := wideMeanGoesUptoRow.holds Try.pinned (OpenSpec.upto wideMeanGoesSpec)

end Rows
end Go.Proofs.Ytckcagmlippneaa
