/- Values compared: the reference's numbers. -/
import Derived.Test.YtaddmokllmdngaaN4
namespace Go.Proofs.Ytaddmokllmdngaa
open Go Go.Pv Go.RowKit
set_option linter.unusedSimpArgs false
set_option linter.unusedVariables false
set_option maxRecDepth 10000
set_option exponentiation.threshold 2000

def truncN (f : Nat) : Nat := Ieee.double.nearest (signF f) (wholeV f) 0
theorem dec_fin {f : Nat} (hf : Fin64 f) : ∃ m i, FloatKind.f64.decode f = .number (signF f) m i ∧ (Ieee.Datum.number (signF f) m i).integral .zero = .number (signF f) (wholeV f) 0 := by
  have h := (integral_fin hf).1
  obtain ⟨m, e, r, _⟩ := read_fin hf
  rw [r] at h
  exact ⟨m, _, r, h⟩
section
attribute [local irreducible] FloatKind.decode Ieee.Datum.integral FloatKind.encode
theorem trunc_run0 {f : Nat} {s : Bool} {m : Nat} {i : Int} (hd : FloatKind.f64.decode f = .number s m i) : Extern.MathFloor.toIntegral "math.archTrunc" .zero #[.float .f64 f] = pure (.float .f64 (FloatKind.f64.encode ((Ieee.Datum.number s m i).integral .zero))) := by
  conv => lhs; whnf
  rw [hd]
end
theorem trunc_run {f : Nat} (hf : Fin64 f) : Extern.MathFloor.toIntegral "math.archTrunc" .zero #[.float .f64 f] = pure (.float .f64 (truncN f)) := by
  obtain ⟨m, i, hd, hi⟩ := dec_fin hf
  rw [trunc_run0 hd, hi]; rfl
theorem truncA (f : Nat) (hf : Fin64 f) : FnC Try.prog 88 [.flt .f64 f] (· = .flt .f64 (truncN f)) :=
  FnC.ext (by simp) (by rintro _ rfl; simp) fun vs h w hs hr => by
    obtain rfl := one1 (v := .float .f64 f) rfl hs hr
    refine ⟨.float .f64 (truncN f), _, ?_, .flt _ _, rfl⟩
    rw [run_callFunc_extern Try.func88 (by kernel_rfl) (by kernel_rfl) (by kernel_rfl) (e := Extern.MathFloor.toIntegral "math.archTrunc" .zero) (by kernel_rfl), trunc_run hf]; rfl
theorem truncF (f : Nat) (hf : Fin64 f) : FnC Try.prog 70 [.flt .f64 f] (· = .flt .f64 (truncN f)) := by
  refine FnC.mk Try.func70 rfl rfl (Nat.le_of_ble_eq_true rfl) (by simp) (by rintro _ rfl; simp) ?_
  refine joinK.direct ⟨fun _ => ?_, fun h => (by cases h)⟩
  refine callK.eq (truncA f hf) ?_
  exact fin_eq (.flt _ _) rfl rfl
theorem trunc_worth {f : Nat} (hf : Fin64 f) (hb : wholeV f ≤ 18446744073709551616) : worth (truncN f) = wholeI f * (unitF : Int) ∧ Fin64 (truncN f) := by
  obtain ⟨n, j, e1, e2⟩ := (integral_fin hf).2
  have h := nearest_whole (signF f) e1 e2 hb
  rw [unit_eq] at h
  refine ⟨?_, h.2⟩
  unfold truncN wholeI
  rw [h.1, rung_mul]
end Go.Proofs.Ytaddmokllmdngaa
