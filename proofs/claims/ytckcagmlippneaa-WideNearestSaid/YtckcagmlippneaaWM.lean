/- wide's Mean: the walk. -/
import Derived.Test.YtckcagmlippneaaWL
set_option linter.unusedSimpArgs false
set_option linter.unusedVariables false
namespace Go.Proofs.Ytckcagmlippneaa
open Go Go.Pv Go.RowKit
set_option maxRecDepth 10000
set_option exponentiation.threshold 1000

theorem xor_top (x : Nat) (h : x < 2 ^ 63) : x ^^^ 2 ^ 63 = 2 ^ 63 + x := by
  apply Nat.eq_of_testBit_eq
  intro i
  rw [Nat.testBit_xor, Nat.testBit_two_pow]
  rcases Nat.lt_trichotomy i 63 with h1 | h1 | h1
  · rw [Nat.testBit_two_pow_add_gt h1]
    simp [show ¬ 63 = i from by omega]
  · subst h1
    rw [Nat.testBit_two_pow_add_eq]
    simp
  · have h2 : 2 ^ 64 ≤ 2 ^ i := Nat.pow_le_pow_right (by decide) (by omega)
    rw [Nat.testBit_lt_two_pow (show x < 2 ^ i by omega), Nat.testBit_lt_two_pow (show 2 ^ 63 + x < 2 ^ i by omega)]
    simp [show ¬ 63 = i from by omega]
theorem neg_fbits {E M : Nat} (h : FOk E M) : Op.negFloat .f64 (fbits false E M) = fbits true E M := by
  obtain ⟨h1, h2, h3⟩ := h
  rw [fbits_pos, fbits_neg]
  have := xor_top (E * 4503599627370496 + M) (by omega)
  exact this
theorem mB_max (neg : Bool) (T : Nat) : mB neg T 9007199254740992 = fbits neg (T + 876) 4503599627370496 := rfl
theorem mB_lt (neg : Bool) (T : Nat) {w : Nat} (h : w ≠ 9007199254740992) : mB neg T w = fbits neg (T + 875) w := by
  unfold mB; rw [beq_eq_false_iff_ne.2 h, cond_false]
theorem neg_mB {T w : Nat} (hT : T ≤ 300) (h1 : 4503599627370496 ≤ w) (h2 : w ≤ 9007199254740992) : Op.negFloat .f64 (mB false T w) = mB true T w := by
  by_cases hb : w = 9007199254740992
  · rw [hb, mB_max, mB_max]; exact neg_fbits ⟨by decide, by decide, by omega⟩
  · rw [mB_lt _ _ hb, mB_lt _ _ hb]; exact neg_fbits ⟨by omega, by omega, by omega⟩
theorem f64_near (w : Nat) : FloatKind.f64.nearest (w : Int) = Ieee.double.nearest false w 0 := by
  show Ieee.double.nearest (decide ((w : Int) < 0)) (w : Int).natAbs 0 = _
  rw [decide_eq_false (by omega), Int.natAbs_natCast]
theorem f64_max : FloatKind.f64.nearest ((9007199254740992 : Nat) : Int) = fbits false 1075 4503599627370496 := by
  rw [f64_near]
  exact nearest_fbits (E := 1075) (M := 4503599627370496) ⟨by decide, by decide, by decide⟩ false 1 0 (by decide)
theorem f64_lt {w : Nat} (h1 : 4503599627370496 ≤ w) (h2 : w < 9007199254740992) : FloatKind.f64.nearest (w : Int) = fbits false 1074 w := by
  rw [f64_near]
  have := nearest_fbits (E := 1074) (M := w) ⟨h1, h2, by decide⟩ false 0 0 (by decide)
  rw [Nat.pow_zero, Nat.mul_one] at this
  exact this
theorem ldexpW {T w : Nat} (hT : T ≤ 300) (h1 : 4503599627370496 ≤ w) (h2 : w ≤ 9007199254740992) (e : Int) (he : e = (T : Int) - 199) :
    FnC Try.prog 58 [.flt .f64 (FloatKind.f64.nearest (w : Int)), .int .i64 e] (· = .flt .f64 (mB false T w)) := by
  by_cases hb : w = 9007199254740992
  · rw [hb, f64_max, mB_max]; exact ldexpF ⟨by decide, by decide, by decide⟩ (by omega) e (by omega)
  · rw [f64_lt h1 (by omega), mB_lt _ _ hb]; exact ldexpF ⟨h1, by omega, by decide⟩ (by omega) e (by omega)

def meanD (x n : Int) : DV :=
  if n < 1 then .tup [.flt .f64 0, .int .i64 2] else if x = 0 then .tup [.flt .f64 0, .int .i64 0] else .tup [.flt .f64 (meanB (decide (x < 0)) x.natAbs n.toNat), .int .i64 0]
theorem blw_meanD (x n : Int) : Blw 0 (meanD x n) := by unfold meanD; split <;> (try split) <;> simp

theorem len_54 (x : Nat) : (bitLen x : Int) < 54 ↔ x < 9007199254740992 := by
  have h := bitLen_spec x
  constructor
  · intro h1
    have h2 : 2 ^ bitLen x ≤ 2 ^ 53 := Nat.pow_le_pow_right (by decide) (by omega)
    omega
  · intro h1
    rcases Nat.eq_zero_or_pos x with e | e
    · subst e; decide
    · have h2 := h.2 (by omega)
      rcases Nat.lt_or_ge (bitLen x) 54 with h3 | h3
      · omega
      · have h4 : 2 ^ 53 ≤ 2 ^ (bitLen x - 1) := Nat.pow_le_pow_right (by decide) (by omega)
        omega
theorem len_gt54 (x : Nat) : (bitLen x : Int) > 54 ↔ 18014398509481984 ≤ x := by
  have h := bitLen_spec x
  constructor
  · intro h1
    have h2 := h.2 (by rintro rfl; revert h1; decide)
    have h4 : 2 ^ 54 ≤ 2 ^ (bitLen x - 1) := Nat.pow_le_pow_right (by decide) (by omega)
    omega
  · intro h1
    rcases Nat.lt_or_ge 54 (bitLen x) with h3 | h3
    · omega
    · have h4 : 2 ^ bitLen x ≤ 2 ^ 54 := Nat.pow_le_pow_right (by decide) h3
      omega
theorem k_bound {N n k : Nat} (hN : 0 < N) (hn : n < 2 ^ 63) (hn0 : 0 < n) (h : N * 2 ^ k / n < 9007199254740992) : k < 116 := by
  rcases Nat.lt_or_ge k 116 with h1 | h1
  · exact h1
  · exfalso
    rw [Nat.div_lt_iff_lt_mul hn0] at h
    have h2 : 1 * 2 ^ 116 ≤ N * 2 ^ k := Nat.mul_le_mul hN (Nat.pow_le_pow_right (by decide) h1)
    have h3 : 9007199254740992 * n ≤ 9007199254740992 * 2 ^ 63 := Nat.mul_le_mul_left _ (Nat.le_of_lt hn)
    have h4 : 9007199254740992 * 2 ^ 63 = 1 * 2 ^ 116 := by decide
    omega
end Go.Proofs.Ytckcagmlippneaa
