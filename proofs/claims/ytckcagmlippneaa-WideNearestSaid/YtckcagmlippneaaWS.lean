/- The rows' other parameters: whole numbers, texts, slices of whole numbers. -/
import Derived.Test.YtckcagmlippneaaWQ
namespace Go.Proofs.Ytckcagmlippneaa
open Go Go.Pv Go.RowKit Go.ChangeShapes Go.WideShapes Go.ChangeAt
set_option linter.unusedSimpArgs false
set_option linter.unusedVariables false
set_option maxRecDepth 10000
variable {H : Type} {enc : TypeId × Value → H} {W : World} {base : Nat} {v : Value} {d : DataW H} {ps : List MemPlace} {t e : TypeId}

theorem open_i (ht : Try.prog.underlying t = some (.int .i64)) (hval : Value.okWide Try.prog W .any base t v) (h : DataW.Trod enc Try.prog W 0 (fun _ => true) true t v d ps)
    (hw : (d.weights Try.prog t).all (· ≤ reachBytes) = true) : ∃ z, i64R z ∧ Rep (memH W) (fun _ => .no) v (.int .i64 z) := by
  obtain ⟨n, rfl⟩ := okWide_int ht hval
  obtain ⟨x, ⟨z, e1, w1⟩, hr⟩ := (Typ.int ht).one h hw rfl
  injection e1 with e1
  subst e1
  exact ⟨z, bounds_i64 w1, hr⟩
theorem open_s (ht : Try.prog.underlying t = some .string) (hval : Value.okWide Try.prog W .any base t v) (h : DataW.Trod enc Try.prog W 0 (fun _ => true) true t v d ps)
    (hw : (d.weights Try.prog t).all (· ≤ reachBytes) = true) : ∃ l : List UInt8, l.length ≤ reachBytes ∧ Rep (memH W) (fun _ => .no) v (.str (bsA l)) := by
  obtain ⟨s, rfl⟩ := okWide_string ht hval
  obtain ⟨x, ⟨l, e1, w1⟩, hr⟩ := (Typ.str ht).one h hw rfl
  injection e1 with e1
  subst e1
  exact ⟨l, w1, hr⟩
theorem ints_of : ∀ (xs : List (List DV)), (∀ x ∈ xs, ∃ z, x = [.int .i64 z] ∧ (Lit.int .i64 z).wf = true) → ∃ l : List Int, xs = l.map (fun i => [.int .i64 i]) ∧ ∀ i ∈ l, i64R i
  | [], _ => ⟨[], rfl, fun i h => by cases h⟩
  | x :: xs, h => by
    obtain ⟨z, e1, w1⟩ := h x (List.mem_cons_self ..)
    obtain ⟨l, e2, w2⟩ := ints_of xs fun y hy => h y (List.mem_cons_of_mem _ hy)
    refine ⟨z :: l, by rw [e1, e2]; rfl, fun i hi => ?_⟩
    rcases List.mem_cons.1 hi with rfl | hi
    · exact bounds_i64 w1
    · exact w2 i hi
theorem open_is (ht : Try.prog.underlying t = some (.slice e)) (he : Try.prog.underlying e = some (.int .i64)) (hc : Try.prog.cellsOf e = 1) (hb : Try.prog.bytesOf e = 8) (hval : Value.okWide Try.prog W .any base t v) (h : DataW.Trod enc Try.prog W 0 (fun _ => true) true t v d ps)
    (hw : (d.weights Try.prog t).all (· ≤ reachBytes) = true) : ∃ l : List Int, (∀ i ∈ l, i64R i) ∧ l.length * 8 ≤ reachBytes ∧ Rep (memH W) (fun _ => .no) v (intsD l) := by
  obtain ⟨a, len, cap, rfl⟩ := okWide_slice ht hval
  obtain ⟨x, ⟨xs, e1, w1, _, w2⟩, hr⟩ := (Typ.slice ht (Typ.int he) hc).one h hw rfl
  injection e1 with e1
  subst e1
  obtain ⟨l, rfl, hl⟩ := ints_of xs w1
  rw [hb] at w2
  exact ⟨l, hl, by simpa using w2, hr⟩
end Go.Proofs.Ytckcagmlippneaa
