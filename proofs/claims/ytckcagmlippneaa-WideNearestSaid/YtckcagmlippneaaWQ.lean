/- The rows' parameters: wides, whole numbers, texts, slices of whole numbers. -/
import Derived.Test.YtckcagmlippneaaWO
import Derived.Test.YtckcagmlippneaaPvL
set_option linter.unusedSimpArgs false
set_option linter.unusedVariables false
namespace Go.Proofs.Ytckcagmlippneaa
open Go Go.Pv Go.RowKit Go.ChangeShapes Go.WideShapes Go.ChangeAt
set_option maxRecDepth 10000

theorem own : ownKnob Try.prog.godebug = none := by kernel_rfl
theorem laidOut : laidOutB Try.prog = true := by kernel_rfl

theorem wideC_of (z u : Int) (b1 : -9223372036854775808 ≤ z ∧ z ≤ 9223372036854775807) (b2 : 0 ≤ u ∧ u ≤ 18446744073709551615) : [DV.int .i64 z, .int .u64 u] = wideC (z * 18446744073709551616 + u) := by
  unfold wideC hiW loW
  have e1 : (z * 18446744073709551616 + u) / 18446744073709551616 = z := by omega
  have e2 : (z * 18446744073709551616 + u) % 18446744073709551616 = u := by omega
  have e3 : IntKind.i64.wrap z = z := by rw [IntKind.wrap_i64]; omega
  rw [e1, e2, e3]
theorem typWide : Typ Try.prog 24 2 (fun ds => ∃ x, in128 x ∧ ds = wideC x) := by
  have h := Typ.struct (P := Try.prog) Try.underlying24 [(1, fun ds => ∃ z, ds = [.int .i64 z] ∧ (Lit.int .i64 z).wf = true), (1, fun ds => ∃ z, ds = [.int .u64 z] ∧ (Lit.int .u64 z).wf = true)] (by kernel_rfl) rfl ?_
  · refine h.mono ?_
    rintro ds ⟨parts, rfl, hp⟩
    rcases parts with _ | ⟨a, _ | ⟨b, _ | ⟨c, r⟩⟩⟩
    · exact hp.elim
    · exact hp.2.elim
    · obtain ⟨⟨z, e1, w1⟩, ⟨u, e2, w2⟩, _⟩ := hp
      subst e1; subst e2
      have b1 := bounds_i64 w1
      have b2 := bounds_u64 w2
      exact ⟨z * 18446744073709551616 + u, by unfold in128; omega, wideC_of z u b1 b2⟩
    · exact hp.2.2.elim
  · intro i f p hf hp
    match i with
    | 0 => simp at hf hp; subst hf; subst hp; exact ⟨Typ.int Try.underlying2, by kernel_rfl, rfl⟩
    | 1 => simp at hf hp; subst hf; subst hp; exact ⟨Typ.int Try.underlying22, by kernel_rfl, rfl⟩
    | i + 2 => simp at hp
theorem open_wide {H : Type} {enc : TypeId × Value → H} {W : World} {base : Nat} {v : Value} {d : DataW H} {ps : List MemPlace} (hval : Value.okWide Try.prog W .any base 24 v) (h : DataW.Trod enc Try.prog W 0 (fun _ => true) true 24 v d ps)
    (hw : (d.weights Try.prog 24).all (· ≤ reachBytes) = true) : ∃ x, in128 x ∧ Rep (memH W) (fun _ => .no) v (wideD x) := by
  obtain ⟨cs, rfl, _⟩ := okWide_struct Try.underlying24 hval
  obtain ⟨ds, ⟨x, hx, rfl⟩, hr⟩ := typWide.agg h hw
  exact ⟨x, hx, hr⟩
end Go.Proofs.Ytckcagmlippneaa
