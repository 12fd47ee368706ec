/- WideMeans: the law's walk (built). -/
import Derived.Test.YtckcagmlippneaaWM2
namespace Go.Proofs.Ytckcagmlippneaa
open Go Go.Pv Go.RowKit
set_option linter.unusedSimpArgs false
set_option linter.unusedVariables false
set_option maxRecDepth 10000
set_option exponentiation.threshold 2000

theorem inf_q : floatBits .quo .f64 4607182418800017408 0 = some 9218868437227405312 := by decide +kernel
theorem cut_54 (V : Nat) (h : 18014398509481984 ≤ V) : ∃ T, T = bitLen V - 54 ∧ 9007199254740992 ≤ V / 2 ^ T ∧ V / 2 ^ T < 18014398509481984 := by
  have hL : 54 ≤ V.log2 := (Nat.le_log2 (by omega)).2 h
  have hb : bitLen V = V.log2 + 1 := by unfold bitLen; rw [if_neg (by omega)]
  refine ⟨_, rfl, ?_, ?_⟩
  · rw [hb, Nat.le_div_iff_mul_le (Nat.pow_pos (by decide))]
    have h1 : 2 ^ V.log2 ≤ V := Nat.log2_self_le (by omega)
    have h2 : 9007199254740992 * 2 ^ (V.log2 + 1 - 54) = 2 ^ V.log2 := by
      rw [show (9007199254740992 : Nat) = 2 ^ 53 from rfl, ← Nat.pow_add]; congr 1; omega
    rw [h2]; exact h1
  · rw [hb, Nat.div_lt_iff_lt_mul (Nat.pow_pos (by decide))]
    have h1 : V < 2 ^ (V.log2 + 1) := Nat.lt_log2_self
    have h2 : 18014398509481984 * 2 ^ (V.log2 + 1 - 54) = 2 ^ (V.log2 + 1) := by
      rw [show (18014398509481984 : Nat) = 2 ^ 54 from rfl, ← Nat.pow_add]; congr 1; omega
    rw [h2]; exact h1
theorem ref_fok (x : Int) (m : Nat) (hx : in128 x) (hm : 0 < m) (hm2 : m < 9223372036854775808) (hx0 : x ≠ 0) : ∃ E M, FOk E M ∧ refF x m = fbits (decide (x < 0)) E M := by
  obtain ⟨T, hT, h1, h2⟩ := cut_54 (Xs x.natAbs 0 / m) (by
    rcases Nat.lt_or_ge (Xs x.natAbs 0 / m) 18014398509481984 with h | h
    · exact (no_zero x.natAbs m hm hm2 h (by omega)).elim
    · exact h)
  have e : Xs x.natAbs 0 / m / 2 ^ T = Xs x.natAbs T / m := by
    rw [quo_of, quo_of, Nat.pow_zero, Nat.mul_one, Nat.div_div_eq_div_mul]
  rw [e] at h1 h2
  have hok := meanOk_of x.natAbs m T h1 h2
  have hrg := hok.range (by have := hx.1; have := hx.2; omega) (by omega) (Nat.lt_trans hm2 (by decide)) hm
  have hw := mW_range (stk x.natAbs m T) h1 h2
  rw [refF_of x m T hok hx0]
  generalize mW (Xs x.natAbs T / m) (stk x.natAbs m T) = w at hw
  have a := hrg.2
  by_cases hb : w = 9007199254740992
  · rw [hb, mB_max]; exact ⟨_, _, ⟨by decide, by decide, by clear e h1 h2 hok hw; omega⟩, rfl⟩
  · rw [mB_lt _ _ hb]; exact ⟨_, _, ⟨hw.1, Nat.lt_of_le_of_ne hw.2 hb, by clear e h1 h2 hok hw; omega⟩, rfl⟩
theorem ref_order (x : Int) (m : Nat) (hx : in128 x) (hm : 0 < m) (hm2 : m < 9223372036854775808) (hx0 : x ≠ 0) : (FloatKind.f64.format.order (refF x m) (refF x m) == some Ordering.eq) = true := by
  obtain ⟨E, M, h, e⟩ := ref_fok x m hx hm hm2 hx0
  rw [e, show FloatKind.f64.format.order (fbits (decide (x < 0)) E M) (fbits (decide (x < 0)) E M) = _ from order_fbits h h _ _ rfl rfl]
  rw [show compare (rungI (decide (x < 0)) (E * 4503599627370496 + M)) (rungI (decide (x < 0)) (E * 4503599627370496 + M)) = Ordering.eq from Int.compare_eq_eq.2 rfl]
  rfl
theorem ref_order0 (x : Int) (m : Nat) (hx : in128 x) (hm : 0 < m) (hm2 : m < 9223372036854775808) (hx0 : x ≠ 0) : (!(FloatKind.f64.format.order (refF x m) 0 == some Ordering.eq)) = true := by
  obtain ⟨E, M, h, e⟩ := ref_fok x m hx hm hm2 hx0
  rw [e, show FloatKind.f64.format.order (fbits (decide (x < 0)) E M) 0 = _ from order_f0 h _]
  cases decide (x < 0) <;> rfl
theorem lawMeans (x n : Int) (hx : in128 x) (hn : i64R n) : FnC Try.prog 9 [wideD x, .int .i64 n] (· = .bool true) := by
  have c0 := meanW x n hx hn
  by_cases hn1 : n < 1
  · rw [show meanD x n = .tup [.flt .f64 0, .int .i64 2] from by unfold meanD; rw [if_pos hn1]] at c0
    refine FnC.mk Try.func9 rfl rfl (Nat.le_of_ble_eq_true rfl) (blw_wi _ _) (by rintro _ rfl; simp) ?_
    refine callK.eq c0 ?_
    refine joinK.direct ⟨fun _ => ?_, fun h => absurd hn1 (of_decide_eq_false h)⟩
    refine guardK.spec ?_
    refine ⟨rfl, optK.mk inf_q ?_⟩
    refine callE.mk known ?_
    exact fin_eq (.bool _) rfl (bool_eq (by decide +kernel))
  obtain ⟨m, rfl⟩ : ∃ m : Nat, n = m := ⟨n.toNat, by omega⟩
  have hm : 0 < m := by omega
  have hm2 : m < 9223372036854775808 := by have := hn.2; omega
  have c1 := meanR x hx m hm hm2
  have hD : meanD x m = .tup [.flt .f64 (refF x m), .int .i64 0] := by
    unfold meanD refF; rw [if_neg hn1]; split
    · rfl
    · rw [Int.toNat_natCast]
  rw [hD] at c0
  by_cases hx0 : x = 0
  · rw [show refF x m = 0 from if_pos hx0] at c0 c1
    refine FnC.mk Try.func9 rfl rfl (Nat.le_of_ble_eq_true rfl) (blw_wi _ _) (by rintro _ rfl; simp) ?_
    refine callK.eq c0 ?_
    refine joinK.direct ⟨fun h => absurd (of_decide_eq_true h) hn1, fun _ => join_go ?_⟩
    refine callK.eq c1 ?_
    refine guardK.spec ?_
    refine ⟨rfl, optK.mk inf_q ?_⟩
    refine callE.mk known ?_
    exact fin_eq (.bool _) rfl (bool_eq (by decide +kernel))
  have ho := ref_order x m hx hm hm2 hx0
  have ho0 := ref_order0 x m hx hm hm2 hx0
  generalize hw : refF x m = w at *
  refine FnC.mk Try.func9 rfl rfl (Nat.le_of_ble_eq_true rfl) (blw_wi _ _) (by rintro _ rfl; simp) ?_
  refine callK.eq c0 ?_
  refine joinK.direct ⟨fun h => absurd (of_decide_eq_true h) hn1, fun _ => join_go ?_⟩
  refine callK.eq c1 ?_
  refine guardK.split ?_
  refine ⟨fun _ => ?_, fun h => absurd h (by simp)⟩
  refine ⟨fun _ => ?_, fun h => ?_⟩
  · refine ⟨fun h => ?_, fun h => ?_⟩
    · exact absurd (ho0.symm.trans h) (by decide)
    · show callK _ _ _ _ _
      refine callK.eq known ?_
      exact fin_eq (.bool _) rfl rfl
  · exact absurd (ho.symm.trans h) (by decide)
end Go.Proofs.Ytckcagmlippneaa
