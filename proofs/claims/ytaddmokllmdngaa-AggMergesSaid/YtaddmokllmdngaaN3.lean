/- Values compared: a whole number against a real. -/
import Derived.Test.YtaddmokllmdngaaN2
import Derived.Test.YtaddmokllmdngaaPvI
namespace Go.Proofs.Ytaddmokllmdngaa
open Go Go.Pv Go.RowKit
set_option linter.unusedSimpArgs false
set_option linter.unusedVariables false
set_option maxRecDepth 10000
set_option exponentiation.threshold 2000

theorem purK_mk {P : Program} {o : Oper} {env : Env} {K : DV → Prop} {v : Value} (h1 : (notSel o.op && o.op.operands.toList.all (fun x => (toV (ev env x)).isSome)) = true) (h : pureRun P (execOp (fun x => (toV (ev env x)).getD undef) o) = some (.value v)) (hK : K (ofV1 v)) : purK P o env K := by
  unfold purK; rw [h1, h]; exact hK
theorem f2i_pure {f : Nat} {T : Int} (hT : (FloatKind.f64.decode f).toInt .zero = some T) (hr : IntKind.i64.min ≤ T ∧ T ≤ IntKind.i64.max) : Conv.floatToInt .f64 f .i64 = .pure (.int .i64 T) := by
  unfold Conv.floatToInt; simp only [hT]; rw [if_pos hr]; rfl
theorem pr_f2i {P : Program} {s t : TypeId} {f : Nat} {T : Int} {dst : Option Tmp} {ty : TypeId} {pos : String} {after : Array Edge} {guard : Option (Nat × Bool)} {x : Operand} {ρ : Operand → Value} (hx : ρ x = .float .f64 f) (h1 : P.underlying s = some (.float .f64)) (h2 : P.underlying t = some (.int .i64))
    (hc : Conv.floatToInt .f64 f .i64 = .pure (.int .i64 T)) : pureRun P (execOp ρ { dst := dst, op := .convert s t x, type := ty, pos := pos, after := after, guard := guard }) = some (.value (.int .i64 T)) := by
  unfold execOp
  simp only [hx]
  unfold convert underlying
  simp only [Bind.bind, Sem.bind, pureRun, h1, h2, hc, Pure.pure]
  simp only [program, Sem.bind, pureRun, h1, h2]
  show pureRun P ((Conv.floatToInt .f64 f .i64).bind fun r => Sem.pure (Next.value r)) = _
  rw [hc]; rfl
theorem pr_i2f {P : Program} {s t : TypeId} {T : Int} {dst : Option Tmp} {ty : TypeId} {pos : String} {after : Array Edge} {guard : Option (Nat × Bool)} {x : Operand} {ρ : Operand → Value} (hx : ρ x = .int .i64 T) (h1 : P.underlying s = some (.int .i64)) (h2 : P.underlying t = some (.float .f64)) :
    pureRun P (execOp ρ { dst := dst, op := .convert s t x, type := ty, pos := pos, after := after, guard := guard }) = some (.value (.float .f64 (FloatKind.f64.nearest T))) := by
  unfold execOp
  simp only [hx]
  unfold convert underlying
  simp only [Bind.bind, Sem.bind, pureRun, h1, h2, Pure.pure]
  simp only [program, Sem.bind, pureRun, h1, h2]
  rfl
def unitF : Nat := 2 ^ 1074
theorem unit_eq : 2 ^ 1074 = unitF := by unfold unitF; rfl
theorem unit_pos : 0 < unitF := by rw [← unit_eq]; exact Nat.pow_pos (by decide)
attribute [irreducible] unitF
def wholeI (f : Nat) : Int := rungI (signF f) (wholeV f)
theorem whole_toInt {f : Nat} (hf : Fin64 f) : (FloatKind.f64.decode f).toInt .zero = some (wholeI f) := by
  show (Ieee.double.read f).toInt .zero = _
  unfold Ieee.Datum.toInt
  rw [(integral_fin hf).1]
  simp only [signed_eq]
  rw [Nat.pow_zero, Nat.mul_one]; rfl
theorem rung_abs (s : Bool) (t : Nat) : (rungI s t).natAbs = t := by unfold rungI; cases s <;> simp
theorem rung_neg (s : Bool) (t k : Nat) : rungI (decide (rungI s t < 0)) (t * k) = rungI s t * (k : Int) := by
  by_cases h0 : t = 0
  · subst h0
    have e1 : rungI s 0 = 0 := by unfold rungI; cases s <;> rfl
    rw [Nat.zero_mul, e1, Int.zero_mul]; rfl
  · have e : decide (rungI s t < 0) = s := by
      unfold rungI; cases s
      · exact decide_eq_false (by simp)
      · exact decide_eq_true (by simp only [cond_true]; omega)
    rw [e, rung_mul]
theorem enc_near (n : Int) : FloatKind.f64.nearest n = Ieee.double.nearest (decide (n < 0)) n.natAbs 0 := rfl
theorem near_rung (s : Bool) {t n j : Nat} (e1 : t = n * 2 ^ j) (e2 : n < 9007199254740992) (hb : t ≤ 18446744073709551616) (z : Int) (hz : z = rungI s t) : worth (FloatKind.f64.nearest z) = z * (unitF : Int) ∧ Fin64 (FloatKind.f64.nearest z) := by
  have h := nearest_whole (decide (z < 0)) e1 e2 hb
  have hn : z.natAbs = t := by rw [hz]; exact rung_abs s t
  rw [unit_eq] at h
  rw [enc_near, hn]
  refine ⟨?_, h.2⟩
  rw [h.1, hz]
  exact rung_neg s t unitF
theorem nearest_back {f : Nat} (hf : Fin64 f) (hb : wholeV f ≤ 18446744073709551616) : worth (FloatKind.f64.nearest (wholeI f)) = wholeI f * (unitF : Int) ∧ Fin64 (FloatKind.f64.nearest (wholeI f)) := by
  obtain ⟨n, j, e1, e2⟩ := (integral_fin hf).2
  exact near_rung (signF f) e1 e2 hb (wholeI f) rfl
theorem rest_of (s : Bool) (V u : Nat) : rungI s V - rungI s (V / u) * (u : Int) = rungI s (V % u) := by
  have h := Nat.div_add_mod V u
  rw [Nat.mul_comm] at h
  rw [← rung_mul]
  revert h
  generalize V % u = r
  generalize V / u * u = q
  intro h
  subst h
  unfold rungI
  cases s <;> simp only [cond_true, cond_false] <;> omega
theorem wholeV_eq (f : Nat) : wholeV f = magV (f % 9223372036854775808) / unitF := by unfold wholeV; rw [unit_eq]
theorem whole_rest (f : Nat) : worth f - wholeI f * (unitF : Int) = rungI (signF f) (magV (f % 9223372036854775808) % unitF) := by
  unfold worth wholeI
  rw [wholeV_eq]
  exact rest_of _ _ _
theorem cP_ok : worth 4890909195324358656 = 9223372036854775808 * (unitF : Int) ∧ Fin64 4890909195324358656 := by
  have h : FOk 1085 4503599627370496 := ⟨by decide, by decide, by decide⟩
  have e : (4890909195324358656 : Nat) = fbits false 1085 4503599627370496 := by decide +kernel
  rw [e]
  obtain ⟨w1, w2⟩ := worth_fbits h false
  refine ⟨?_, w2⟩
  rw [w1]
  have e2 : 4503599627370496 * 2 ^ 1085 = 9223372036854775808 * unitF := by
    rw [← unit_eq, show (4503599627370496 : Nat) = 2 ^ 52 from rfl, show (9223372036854775808 : Nat) = 2 ^ 63 from rfl, ← Nat.pow_add 2 52 1085]
  rw [e2]
  unfold rungI
  rw [cond_false, Int.natCast_mul]; rfl
theorem cN_ok : worth 14114281232179134464 = -(9223372036854775808 * (unitF : Int)) ∧ Fin64 14114281232179134464 := by
  have h : FOk 1085 4503599627370496 := ⟨by decide, by decide, by decide⟩
  have e : (14114281232179134464 : Nat) = fbits true 1085 4503599627370496 := by decide +kernel
  rw [e]
  obtain ⟨w1, w2⟩ := worth_fbits h true
  refine ⟨?_, w2⟩
  rw [w1]
  have e2 : 4503599627370496 * 2 ^ 1085 = 9223372036854775808 * unitF := by
    rw [← unit_eq, show (4503599627370496 : Nat) = 2 ^ 52 from rfl, show (9223372036854775808 : Nat) = 2 ^ 63 from rfl, ← Nat.pow_add 2 52 1085]
  rw [e2]
  unfold rungI
  rw [cond_true, Int.natCast_mul]; rfl
theorem geq_fin {f g : Nat} (hf : Fin64 f) (hg : Fin64 g) : (FloatKind.f64.format.order f g == some Ordering.gt || FloatKind.f64.format.order f g == some Ordering.eq) = decide (worth f ≥ worth g) := by
  rw [show FloatKind.f64.format.order f g = _ from order_fin hf hg, show compare (worth f) (worth g) = if worth f < worth g then Ordering.lt else if worth f = worth g then .eq else .gt from rfl]
  by_cases h : worth f < worth g
  · rw [if_pos h, decide_eq_false (by omega)]; rfl
  · rw [if_neg h]
    by_cases h2 : worth f = worth g
    · rw [if_pos h2, decide_eq_true (by omega)]; rfl
    · rw [if_neg h2, decide_eq_true (by omega)]; rfl
/-- Its whole part is an Int. -/
theorem whole_range {f : Nat} (h1 : ¬ worth f ≥ 9223372036854775808 * (unitF : Int)) (h2 : ¬ worth f < -(9223372036854775808 * (unitF : Int))) : (IntKind.i64.min ≤ wholeI f ∧ wholeI f ≤ IntKind.i64.max) ∧ wholeV f ≤ 18446744073709551616 := by
  have hu := unit_pos
  have e := wholeV_eq f
  rw [show IntKind.i64.min = -9223372036854775808 from rfl, show IntKind.i64.max = 9223372036854775807 from rfl]
  unfold wholeI
  unfold worth at h1 h2
  rw [e]
  generalize magV (f % 9223372036854775808) = V at *
  unfold rungI at *
  cases hs : signF f
  · rw [hs] at h1 h2
    simp only [cond_false] at h1 h2 ⊢
    have : V / unitF < 9223372036854775808 := by
      rw [Nat.div_lt_iff_lt_mul hu]; omega
    omega
  · rw [hs] at h1 h2
    simp only [cond_true] at h1 h2 ⊢
    have : V / unitF ≤ 9223372036854775808 := by
      apply Nat.le_of_lt_succ
      rw [Nat.div_lt_iff_lt_mul hu]; omega
    omega
end Go.Proofs.Ytaddmokllmdngaa
