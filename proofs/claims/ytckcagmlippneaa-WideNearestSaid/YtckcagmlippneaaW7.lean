/- Wide's reference: Power, Of, Times. -/
import Derived.Test.YtckcagmlippneaaW6
set_option linter.unusedSimpArgs false
set_option linter.unusedVariables false
namespace Go.Proofs.Ytckcagmlippneaa
open Go Go.Pv Go.RowKit
set_option maxRecDepth 10000
set_option exponentiation.threshold 1000

theorem power (k : Nat) (hk : k < 384) : FnC Try.prog 56 [.int .i64 k] (· = numD (2 ^ k)) := by
  refine FnC.mk Try.func56 rfl rfl (Nat.le_of_ble_eq_true rfl) (by simp) (by rintro _ rfl; exact blw_numD _) ?_
  refine callK.eq (small 1 (by decide)) ?_
  refine callK.eq (shifted 1 k (by omega)) ?_
  refine fin_eq (.agg [.list _, .bool _]) rfl (num_eq ?_ ?_)
  · rw [Nat.one_mul, Nat.mod_eq_of_lt (Nat.pow_lt_pow_right (by decide) hk)]
    rw [show (2 : Int) ^ k = ((2 ^ k : Nat) : Int) from by simp]; rfl
  · rw [show (2 : Int) ^ k = ((2 ^ k : Nat) : Int) from by simp]
    exact (decide_eq_false (Int.not_lt.2 (Int.natCast_nonneg _))).symm

theorem ofN (a : Int) (b : Nat) (ha : i64R a) (hb : b < 18446744073709551616) : FnC Try.prog 42 [.int .i64 a, .int .u64 b] (· = numD (a * 18446744073709551616 + b)) := by
  refine FnC.mk Try.func42 rfl rfl (Nat.le_of_ble_eq_true rfl) (by simp) (by rintro _ rfl; exact blw_numD _) ?_
  obtain ⟨h1, h2⟩ := ha
  refine callK.eq (intN a ⟨h1, h2⟩) ?_
  refine callK.eq (shifted a.natAbs 64 (by decide)) ?_
  refine drawK.mk (by kernel_rfl) ?_
  refine callE.mk (small b hb) ?_
  have e : DV.agg [.list (digL (a.natAbs * 2 ^ 64 % 2 ^ 384)), .bool (decide (a < 0))] = numD (a * 18446744073709551616) := by
    refine num_eq ?_ ?_
    · rw [Nat.mod_eq_of_lt (by omega)]; omega
    · rw [decide_eq_decide]; omega
  have c := plusN (a * 18446744073709551616) b (by omega) (by omega)
  rw [← e] at c
  refine callE.mk c ?_
  exact fin_eq (.agg [.list _, .bool _]) rfl rfl
end Go.Proofs.Ytckcagmlippneaa
