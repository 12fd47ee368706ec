/- TextsRanges: what is handed in: a list of texts, a text. -/
import Derived.Test.YtaddmokllmdngaaT4
import Derived.Test.YtaddmokllmdngaaPvL
namespace Go.Proofs.Ytaddmokllmdngaa
open Go Go.Pv Go.RowKit Go.ChangeShapes Go.WideShapes Go.ChangeAt
set_option linter.unusedSimpArgs false
set_option linter.unusedVariables false
set_option maxRecDepth 10000
variable {H : Type} {enc : TypeId × Value → H} {W : World} {base : Nat} {v : Value} {d : DataW H} {ps : List MemPlace} {t e : TypeId}

theorem own : ownKnob Try.prog.godebug = none := by kernel_rfl
theorem laidOut : laidOutB Try.prog = true := by kernel_rfl
theorem open_s (ht : Try.prog.underlying t = some .string) (hval : Value.okWide Try.prog W .any base t v) (h : DataW.Trod enc Try.prog W 0 (fun _ => true) true t v d ps)
    (hw : (d.weights Try.prog t).all (· ≤ reachBytes) = true) : ∃ l : List UInt8, l.length ≤ reachBytes ∧ Rep (memH W) (fun _ => .no) v (.str (bsA l)) := by
  obtain ⟨s, rfl⟩ := okWide_string ht hval
  obtain ⟨x, ⟨l, e1, w1⟩, hr⟩ := (Typ.str ht).one h hw rfl
  injection e1 with e1
  subst e1
  exact ⟨l, w1, hr⟩
theorem strs_of : ∀ (xs : List (List DV)), (∀ x ∈ xs, ∃ l : List UInt8, x = [.str (bsA l)] ∧ l.length ≤ reachBytes) → ∃ l : List BL, xs = strs l ∧ Short reachBytes l
  | [], _ => ⟨[], rfl, fun i h => by cases h⟩
  | x :: xs, h => by
    obtain ⟨z, e1, w1⟩ := h x (List.mem_cons_self ..)
    obtain ⟨l, e2, w2⟩ := strs_of xs fun y hy => h y (List.mem_cons_of_mem _ hy)
    refine ⟨z :: l, by rw [e1, e2]; rfl, fun i hi => ?_⟩
    rcases List.mem_cons.1 hi with rfl | hi
    · exact w1
    · exact w2 i hi
theorem open_ss (ht : Try.prog.underlying t = some (.slice e)) (he : Try.prog.underlying e = some .string) (hc : Try.prog.cellsOf e = 1) (hb : Try.prog.bytesOf e = 16) (hval : Value.okWide Try.prog W .any base t v) (h : DataW.Trod enc Try.prog W 0 (fun _ => true) true t v d ps)
    (hw : (d.weights Try.prog t).all (· ≤ reachBytes) = true) : ∃ l : List BL, Short reachBytes l ∧ l.length * 16 ≤ reachBytes ∧ Rep (memH W) (fun _ => .no) v (.list (strs l)) := by
  obtain ⟨a, len, cap, rfl⟩ := okWide_slice ht hval
  obtain ⟨x, ⟨xs, e1, w1, _, w2⟩, hr⟩ := (Typ.slice ht (Typ.str he) hc).one h hw rfl
  injection e1 with e1
  subst e1
  obtain ⟨l, rfl, hl⟩ := strs_of xs w1
  rw [hb, strs_len] at w2
  exact ⟨l, hl, w2, hr⟩
theorem lawRanges' (l : List BL) (hs : Short reachBytes l) (hl : l.length * 16 ≤ reachBytes) (b : BL) (hb : b.length ≤ reachBytes) :
    FnC Try.prog 5 [.list (strs l), .str (bsA b)] (· = .bool true) := lawRanges l b hl hs hb
end Go.Proofs.Ytaddmokllmdngaa
