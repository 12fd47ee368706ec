/-
  No cell of these rows narrows 'for every input' (looked for: loops, veiled, ifaces, maps, wideKeys, modest, calm, conditions, laid).
  DERIVED. THE GIVEN ROWS OF THIS SEAT. 5 by the template 'for every input the law returns true; each argument reads behind the call as it read before'; 0 by the template 'total and deterministic' (their statements: YtaddmokllmdngaaTotals.lean).
  GIVEN WITH THE SEED: the statements are not yours to turn. If you find one false, say at which input.
  Laid BY PROGRAM, IN A SANDBOX (cutbox-rows.mjs): the forced cells as the released guide's own fill.sh prints them over the translation 96ad6eb52bad98d0… (all of the seat's roots in one cut). By AI agents, Wed Nov 11 2026. No macro, syntax, notation, axiom, sorry.
-/
import Derived.Test.YtaddmokllmdngaaChecked
import GoSem.Claim
import GoSem.ClaimJoined
import GoSem.ClaimMapViews
import Derived.JoinedTies
import Derived.KernelRfl
namespace Go.Proofs.Ytaddmokllmdngaa
/- THE CELL 'sum', in the pinned program and in every row, IS THE sha256 OF THE DUMP (.gsa) THAT YtaddmokllmdngaaProg.lean LOADS. Nothing in Lean hashes anything: it is a label: what it is worth is what the hold of that sum in a sandbox is worth. -/
noncomputable def Try.pinned : Pinned := { name := "ytaddmokllmdngaa", sum := "96ad6eb52bad98d06c61e2211029f6529b69bc0cec3c735a4954901274f01756", checked := Try.checked }
namespace Rows
def none {H : Type} : Left H := { results := [], args := [] }

/-- 'colonnadelaw31.CrewNames': WHATEVER THE INPUT: true; the input reads as it did. -/
def crewNamesSpec : ChangeSpec := { name := "crewNames", fn := fun _ => fun
  | [] => { results := [.lit (.bool true)], args := [] }
  | _ => none }
def crewNamesRow : OpenClaim := { program := "ytaddmokllmdngaa", sum := "96ad6eb52bad98d06c61e2211029f6529b69bc0cec3c735a4954901274f01756", func := "colonnade/colonnadelaw31.CrewNames", spec := "crewNames", apart := false }
def CrewNamesSaid : Prop := crewNamesRow.holds Try.pinned (OpenSpec.ofChange crewNamesSpec)

/-- ITS FALSE NEIGHBOUR: 'it returns false'. Refute it at one input. -/
def crewNamesWrong : ChangeSpec := { name := "crewNames", fn := fun _ => fun
  | [] => { results := [.lit (.bool false)], args := [] }
  | _ => none }
def CrewNamesWrongFalsely : Prop := crewNamesRow.holds Try.pinned (OpenSpec.ofChange crewNamesWrong)

/-- 'colonnadelaw19.IntsFrames': WHATEVER THE INPUT: true; the input reads as it did. -/
def intsFramesSpec : ChangeSpec := { name := "intsFrames", fn := fun _ => fun
  | [d1, d2, d3, d4] => { results := [.lit (.bool true)], args := [d1, d2, d3, d4] }
  | _ => none }
def intsFramesRow : OpenClaim := { program := "ytaddmokllmdngaa", sum := "96ad6eb52bad98d06c61e2211029f6529b69bc0cec3c735a4954901274f01756", func := "colonnade/colonnadelaw19.IntsFrames", spec := "intsFrames", apart := false }
def IntsFramesSaid : Prop := intsFramesRow.holds Try.pinned (OpenSpec.ofChange intsFramesSpec)

/-- ITS FALSE NEIGHBOUR: 'it returns false'. Refute it at one input. -/
def intsFramesWrong : ChangeSpec := { name := "intsFrames", fn := fun _ => fun
  | [d1, d2, d3, d4] => { results := [.lit (.bool false)], args := [d1, d2, d3, d4] }
  | _ => none }
def IntsFramesWrongFalsely : Prop := intsFramesRow.holds Try.pinned (OpenSpec.ofChange intsFramesWrong)

/-- 'colonnadelaw20.TextsRanges': WHATEVER THE INPUT: true; the input reads as it did. -/
def textsRangesSpec : ChangeSpec := { name := "textsRanges", fn := fun _ => fun
  | [d1, d2] => { results := [.lit (.bool true)], args := [d1, d2] }
  | _ => none }
def textsRangesRow : OpenClaim := { program := "ytaddmokllmdngaa", sum := "96ad6eb52bad98d06c61e2211029f6529b69bc0cec3c735a4954901274f01756", func := "colonnade/colonnadelaw20.TextsRanges", spec := "textsRanges", unfollowed := true, recurses := true, apart := false }
def TextsRangesSaid : Prop := textsRangesRow.holds Try.pinned (OpenSpec.ofChange textsRangesSpec)

/-- ITS FALSE NEIGHBOUR: 'it returns false'. Refute it at one input. -/
def textsRangesWrong : ChangeSpec := { name := "textsRanges", fn := fun _ => fun
  | [d1, d2] => { results := [.lit (.bool false)], args := [d1, d2] }
  | _ => none }
def TextsRangesWrongFalsely : Prop := textsRangesRow.holds Try.pinned (OpenSpec.ofChange textsRangesWrong)

/-- 'colonnadelaw22.AggMerges': WHATEVER THE INPUT: true; the input reads as it did. -/
def aggMergesSpec : ChangeSpec := { name := "aggMerges", fn := fun _ => fun
  | [d] => { results := [.lit (.bool true)], args := [d] }
  | _ => none }
def aggMergesRow : OpenClaim := { program := "ytaddmokllmdngaa", sum := "96ad6eb52bad98d06c61e2211029f6529b69bc0cec3c735a4954901274f01756", func := "colonnade/colonnadelaw22.AggMerges", spec := "aggMerges", inPlace := ["math.Float64bits", "math.Float64frombits", "math.archTrunc", "math/bits.Add64", "internal/bytealg.abigen_runtime_cmpstring"], recurses := true, apart := false }
def AggMergesSaid : Prop := aggMergesRow.holds Try.pinned (OpenSpec.ofChange aggMergesSpec)

/-- ITS FALSE NEIGHBOUR: 'it returns false'. Refute it at one input. -/
def aggMergesWrong : ChangeSpec := { name := "aggMerges", fn := fun _ => fun
  | [d] => { results := [.lit (.bool false)], args := [d] }
  | _ => none }
def AggMergesWrongFalsely : Prop := aggMergesRow.holds Try.pinned (OpenSpec.ofChange aggMergesWrong)

/-- 'colonnadelaw22.AggAnswers': WHATEVER THE INPUT: true; the input reads as it did. -/
def aggAnswersSpec : ChangeSpec := { name := "aggAnswers", fn := fun _ => fun
  | [d1, d2] => { results := [.lit (.bool true)], args := [d1, d2] }
  | _ => none }
def aggAnswersRow : OpenClaim := { program := "ytaddmokllmdngaa", sum := "96ad6eb52bad98d06c61e2211029f6529b69bc0cec3c735a4954901274f01756", func := "colonnade/colonnadelaw22.AggAnswers", spec := "aggAnswers", inPlace := ["math.Float64bits", "math.Float64frombits", "math/bits.Sub64"], named := ["math/bits.divideError", "math/bits.overflowError"], apart := false }
def AggAnswersSaid : Prop := aggAnswersRow.holds Try.pinned (OpenSpec.ofChange aggAnswersSpec)

/-- ITS FALSE NEIGHBOUR: 'it returns false'. Refute it at one input. -/
def aggAnswersWrong : ChangeSpec := { name := "aggAnswers", fn := fun _ => fun
  | [d1, d2] => { results := [.lit (.bool false)], args := [d1, d2] }
  | _ => none }
def AggAnswersWrongFalsely : Prop := aggAnswersRow.holds Try.pinned (OpenSpec.ofChange aggAnswersWrong)

/- THE SECOND FORM. 'bulk': how many values and letters a reading holds, each counted each time it is reached (what is shared counts as often as it is met; a slice's spare places count too). A statement '..UptoSaid' is the law's where the arguments, and the package variables that the reading takes, are together of bulk at most 1048576: NARROWER than '..Said'. Prove '..Said' where nothing that the law and all that it calls make is longer than what came in: it says more and counts as full. Else prove '..UptoSaid'. A law counts once. -/
mutual
def uptoBulk {H : Type} : DataW H → Nat
  | .lit (.string bytes) => bytes.length + 1
  | .lit _ => 1
  | .nil => 1
  | .ptr d => uptoBulk d + 1
  | .slice elems spare => uptoBulkAll elems + uptoBulkAll spare + 1
  | .agg parts => uptoBulkAll parts + 1
  | .iface _ d => uptoBulk d + 1
  | .map entries => uptoBulkEntries entries + 1
  | .held _ => 1
def uptoBulkAll {H : Type} : List (DataW H) → Nat
  | [] => 0
  | d :: r => uptoBulk d + uptoBulkAll r
def uptoBulkEntries {H : Type} : List (Lit × DataW H) → Nat
  | [] => 0
  | x :: r => uptoBulkEntry x + uptoBulkEntries r
def uptoBulkEntry {H : Type} : Lit × DataW H → Nat
  | (.string bytes, d) => bytes.length + uptoBulk d + 1
  | (_, d) => uptoBulk d + 1
 end
def uptoSmall : (H : Type) → List (DataW H) → Bool := fun _ ds => decide (uptoBulkAll ds ≤ 1048576)
def OpenSpec.upto (s : _root_.Go.ChangeSpec) : _root_.Go.OpenSpec := { _root_.Go.OpenSpec.ofChange s with cond := some uptoSmall }

/-- 'colonnadelaw31.CrewNames', WHERE WHAT IT READS IS OF BULK AT MOST 1048576: true; the input reads as it did. -/
def crewNamesUptoRow : OpenClaim := { program := "ytaddmokllmdngaa", sum := "96ad6eb52bad98d06c61e2211029f6529b69bc0cec3c735a4954901274f01756", func := "colonnade/colonnadelaw31.CrewNames", spec := "crewNames", apart := false, narrowed := true }
def CrewNamesUptoSaid : Prop := crewNamesUptoRow.holds Try.pinned (OpenSpec.upto crewNamesSpec)

/-- 'colonnadelaw19.IntsFrames', WHERE WHAT IT READS IS OF BULK AT MOST 1048576: true; the input reads as it did. -/
def intsFramesUptoRow : OpenClaim := { program := "ytaddmokllmdngaa", sum := "96ad6eb52bad98d06c61e2211029f6529b69bc0cec3c735a4954901274f01756", func := "colonnade/colonnadelaw19.IntsFrames", spec := "intsFrames", apart := false, narrowed := true }
def IntsFramesUptoSaid : Prop := intsFramesUptoRow.holds Try.pinned (OpenSpec.upto intsFramesSpec)

/-- 'colonnadelaw20.TextsRanges', WHERE WHAT IT READS IS OF BULK AT MOST 1048576: true; the input reads as it did. -/
def textsRangesUptoRow : OpenClaim := { program := "ytaddmokllmdngaa", sum := "96ad6eb52bad98d06c61e2211029f6529b69bc0cec3c735a4954901274f01756", func := "colonnade/colonnadelaw20.TextsRanges", spec := "textsRanges", unfollowed := true, recurses := true, apart := false, narrowed := true }
def TextsRangesUptoSaid : Prop := textsRangesUptoRow.holds Try.pinned (OpenSpec.upto textsRangesSpec)

/-- 'colonnadelaw22.AggMerges', WHERE WHAT IT READS IS OF BULK AT MOST 1048576: true; the input reads as it did. -/
def aggMergesUptoRow : OpenClaim := { program := "ytaddmokllmdngaa", sum := "96ad6eb52bad98d06c61e2211029f6529b69bc0cec3c735a4954901274f01756", func := "colonnade/colonnadelaw22.AggMerges", spec := "aggMerges", inPlace := ["math.Float64bits", "math.Float64frombits", "math.archTrunc", "math/bits.Add64", "internal/bytealg.abigen_runtime_cmpstring"], recurses := true, apart := false, narrowed := true }
def AggMergesUptoSaid : Prop := aggMergesUptoRow.holds Try.pinned (OpenSpec.upto aggMergesSpec)

/-- 'colonnadelaw22.AggAnswers', WHERE WHAT IT READS IS OF BULK AT MOST 1048576: true; the input reads as it did. -/
def aggAnswersUptoRow : OpenClaim := { program := "ytaddmokllmdngaa", sum := "96ad6eb52bad98d06c61e2211029f6529b69bc0cec3c735a4954901274f01756", func := "colonnade/colonnadelaw22.AggAnswers", spec := "aggAnswers", inPlace := ["math.Float64bits", "math.Float64frombits", "math/bits.Sub64"], named := ["math/bits.divideError", "math/bits.overflowError"], apart := false, narrowed := true }
def AggAnswersUptoSaid : Prop := aggAnswersUptoRow.holds Try.pinned (OpenSpec.upto aggAnswersSpec)

end Rows
end Go.Proofs.Ytaddmokllmdngaa
