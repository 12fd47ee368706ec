/- float64: every finite number is a whole number of units of 2^-1074 (worth); order, zeros, NaNs and infinities by their words. -/
import Derived.Test.YtaddmokllmdngaaPvF
set_option linter.unusedSimpArgs false
set_option linter.unusedVariables false
set_option exponentiation.threshold 2000
namespace Go.Pv
open Go

def signF (f : Nat) : Bool := decide (9223372036854775808 ≤ f)
def magV (x : Nat) : Nat := if x < 4503599627370496 then x else (4503599627370496 + x % 4503599627370496) * 2 ^ (x / 4503599627370496 - 1)
def worth (f : Nat) : Int := rungI (signF f) (magV (f % 9223372036854775808))
structure Fin64 (f : Nat) : Prop where
  lt : f < 18446744073709551616
  fin : f % 9223372036854775808 < 9218868437227405312
theorem read_sign {f : Nat} (h : f < 18446744073709551616) : (f / 9223372036854775808 % 2 == 1) = signF f := by
  unfold signF
  by_cases hs : 9223372036854775808 ≤ f
  · rw [decide_eq_true hs, show f / 9223372036854775808 % 2 = 1 from by omega]; rfl
  · rw [decide_eq_false hs, show f / 9223372036854775808 % 2 = 0 from by omega]; rfl
theorem read_fin {f : Nat} (h : Fin64 f) : ∃ m e : Nat, Ieee.double.read f = .number (signF f) m ((e : Int) - 1074) ∧ m * 2 ^ e = magV (f % 9223372036854775808) := by
  obtain ⟨h1, h2⟩ := h
  have hs := read_sign h1
  unfold Ieee.Format.read
  simp only [f_sw, f_bin, f_inf, f_lp, hs]
  unfold magV
  generalize f % 9223372036854775808 = x at *
  by_cases hx : x < 4503599627370496
  · rw [if_pos hx, if_pos hx]
    exact ⟨x, 0, rfl, by simp⟩
  · rw [if_neg hx, if_pos h2, if_neg hx]
    exact ⟨_, x / 4503599627370496 - 1, by congr 1, rfl⟩
theorem read_inf {f : Nat} (h : f < 18446744073709551616) (hx : f % 9223372036854775808 = 9218868437227405312) : Ieee.double.read f = .infinity (signF f) := by
  have hs := read_sign h
  unfold Ieee.Format.read
  simp only [f_sw, f_bin, f_inf, f_lp, hs, hx]
  rw [if_neg (by omega), if_neg (by omega), if_pos trivial]
theorem read_nan {f : Nat} (h : f < 18446744073709551616) (hx : 9218868437227405312 < f % 9223372036854775808) : ∃ n, Ieee.double.read f = .nan (signF f) n := by
  have hs := read_sign h
  unfold Ieee.Format.read
  simp only [f_sw, f_bin, f_inf, f_lp, hs]
  generalize f % 9223372036854775808 = x at *
  rw [if_neg (by omega), if_neg (by omega), if_neg (by omega)]
  exact ⟨_, rfl⟩
theorem rung_mul (s : Bool) (a k : Nat) : rungI s (a * k) = rungI s a * (k : Int) := by
  unfold rungI; cases s
  · simp
  · simp [Int.neg_mul]
theorem cmp_scale (a b : Int) (k : Nat) (hk : 0 < k) : compare (a * (k : Int)) (b * (k : Int)) = compare a b := by
  have hk' : (0 : Int) < (k : Int) := by omega
  refine cmp_congr ?_ ?_
  · exact ⟨fun h => Int.lt_of_mul_lt_mul_right h (by omega), fun h => Int.mul_lt_mul_of_pos_right h hk'⟩
  · exact ⟨fun h => Int.eq_of_mul_eq_mul_right (by omega) h, fun h => by rw [h]⟩
/-- Finite numbers stand as what they are worth. -/
theorem order_fin {f g : Nat} (hf : Fin64 f) (hg : Fin64 g) : Ieee.double.order f g = some (compare (worth f) (worth g)) := by
  obtain ⟨m, e, r1, v1⟩ := read_fin hf
  obtain ⟨n, d, r2, v2⟩ := read_fin hg
  unfold Ieee.Format.order
  rw [r1, r2]
  unfold Ieee.Datum.order
  simp only [signed_eq]
  refine congrArg some ?_
  unfold worth
  rw [← v1, ← v2]
  obtain ⟨c, hc⟩ : ∃ c, c = min e d := ⟨_, rfl⟩
  have e1 : ((e : Int) - 1074 - min ((e : Int) - 1074) ((d : Int) - 1074)).toNat = e - c := by omega
  have e2 : ((d : Int) - 1074 - min ((e : Int) - 1074) ((d : Int) - 1074)).toNat = d - c := by omega
  rw [e1, e2]
  have p1 : m * 2 ^ e = m * 2 ^ (e - c) * 2 ^ c := by rw [Nat.mul_assoc, ← Nat.pow_add]; congr 2; omega
  have p2 : n * 2 ^ d = n * 2 ^ (d - c) * 2 ^ c := by rw [Nat.mul_assoc, ← Nat.pow_add]; congr 2; omega
  rw [p1, p2, rung_mul (signF f) (m * 2 ^ (e - c)) (2 ^ c), rung_mul (signF g) (n * 2 ^ (d - c)) (2 ^ c), cmp_scale _ _ _ (Nat.pow_pos (by decide))]
theorem magV_pos {x : Nat} : magV x = 0 ↔ x = 0 := by
  unfold magV
  split
  · exact Iff.rfl
  · constructor
    · intro h
      have : 0 < (4503599627370496 + x % 4503599627370496) * 2 ^ (x / 4503599627370496 - 1) := Nat.mul_pos (by omega) (Nat.pow_pos (by decide))
      omega
    · intro h; omega
theorem worth_0 : worth 0 = 0 := rfl
theorem fin_0 : Fin64 0 := ⟨by decide, by decide⟩
theorem cmp_eq_iff (a b : Int) : compare a b = .eq ↔ a = b := by
  rw [show compare a b = if a < b then Ordering.lt else if a = b then .eq else .gt from rfl]
  by_cases h : a < b
  · rw [if_pos h]; constructor
    · intro h; cases h
    · intro h; omega
  · rw [if_neg h]
    by_cases h2 : a = b
    · rw [if_pos h2]; exact ⟨fun _ => h2, fun _ => rfl⟩
    · rw [if_neg h2]; constructor
      · intro h; cases h
      · intro h; exact absurd h h2
theorem worth_zero {f : Nat} : worth f = 0 ↔ f % 9223372036854775808 = 0 := by
  unfold worth rungI
  rw [← magV_pos]
  cases signF f <;> simp <;> omega
/-- f == 0 -/
theorem eq_zero {f : Nat} (h : f < 18446744073709551616) : (Ieee.double.order f 0 == some .eq) = decide (f % 9223372036854775808 = 0) := by
  rcases Nat.lt_trichotomy (f % 9223372036854775808) 9218868437227405312 with hx | hx | hx
  · rw [order_fin ⟨h, hx⟩ fin_0, Bool.eq_iff_iff, beq_iff_eq, decide_eq_true_iff, Option.some.injEq, cmp_eq_iff, worth_0]
    exact worth_zero
  · unfold Ieee.Format.order
    rw [read_inf h hx, read_0, decide_eq_false (by omega)]
    cases signF f <;> rfl
  · obtain ⟨n, e⟩ := read_nan h hx
    unfold Ieee.Format.order
    rw [e, read_0, decide_eq_false (by omega)]
    rfl
/-- f == f -/
theorem flt_self {f : Nat} (h : f < 18446744073709551616) : (Ieee.double.order f f == some .eq) = decide (f % 9223372036854775808 ≤ 9218868437227405312) := by
  rcases Nat.lt_trichotomy (f % 9223372036854775808) 9218868437227405312 with hx | hx | hx
  · rw [order_fin ⟨h, hx⟩ ⟨h, hx⟩, Bool.eq_iff_iff, beq_iff_eq, decide_eq_true_iff, Option.some.injEq, cmp_eq_iff]
    exact ⟨fun _ => by omega, fun _ => rfl⟩
  · unfold Ieee.Format.order
    rw [read_inf h hx, decide_eq_true (by omega)]
    cases signF f <;> rfl
  · obtain ⟨n, e⟩ := read_nan h hx
    unfold Ieee.Format.order
    rw [e, decide_eq_false (by omega)]
    rfl
theorem pow_mono {a b : Nat} (h : a ≤ b) : 2 ^ a ≤ 2 ^ b := Nat.pow_le_pow_right (by decide) h
/-- A greater word is worth more. -/
theorem magV_lt {x y : Nat} (h : x < y) : magV x < magV y := by
  unfold magV
  by_cases hx : x < 4503599627370496
  · rw [if_pos hx]
    by_cases hy : y < 4503599627370496
    · rw [if_pos hy]; exact h
    · rw [if_neg hy]
      have : 4503599627370496 * 1 ≤ (4503599627370496 + y % 4503599627370496) * 2 ^ (y / 4503599627370496 - 1) := Nat.mul_le_mul (by omega) (Nat.pow_pos (by decide))
      omega
  · rw [if_neg hx, if_neg (by omega)]
    by_cases hq : x / 4503599627370496 = y / 4503599627370496
    · rw [hq]
      exact Nat.mul_lt_mul_of_pos_right (by omega) (Nat.pow_pos (by decide))
    · have hq2 : x / 4503599627370496 < y / 4503599627370496 := by
        have := Nat.div_le_div_right (c := 4503599627370496) (Nat.le_of_lt h); omega
      have h1 : 2 ^ (x / 4503599627370496 - 1) * 2 ≤ 2 ^ (y / 4503599627370496 - 1) := by
        rw [← Nat.pow_succ]; exact pow_mono (by omega)
      have h2 : (4503599627370496 + x % 4503599627370496) * 2 ^ (x / 4503599627370496 - 1) < 9007199254740992 * 2 ^ (x / 4503599627370496 - 1) := Nat.mul_lt_mul_of_pos_right (by omega) (Nat.pow_pos (by decide))
      have h3 : 4503599627370496 * 2 ^ (y / 4503599627370496 - 1) ≤ (4503599627370496 + y % 4503599627370496) * 2 ^ (y / 4503599627370496 - 1) := Nat.mul_le_mul_right _ (by omega)
      generalize 2 ^ (x / 4503599627370496 - 1) = u at *
      generalize 2 ^ (y / 4503599627370496 - 1) = w at *
      omega
theorem magV_le {x y : Nat} (h : x ≤ y) : magV x ≤ magV y := by
  rcases Nat.eq_or_lt_of_le h with rfl | h
  · exact Nat.le_refl _
  · exact Nat.le_of_lt (magV_lt h)
/-- |f| > MaxFloat64, of a word without its sign. -/
theorem gt_max {x : Nat} (h : x < 9223372036854775808) : (Ieee.double.order x 9218868437227405311 == some .gt) = decide (x = 9218868437227405312) := by
  have hm : Fin64 9218868437227405311 := ⟨by decide, by decide⟩
  have hxm : x % 9223372036854775808 = x := Nat.mod_eq_of_lt h
  rcases Nat.lt_trichotomy x 9218868437227405312 with hx | hx | hx
  · rw [order_fin ⟨by omega, by omega⟩ hm, decide_eq_false (by omega)]
    unfold worth
    rw [hxm, show signF x = false from decide_eq_false (by omega), show signF 9218868437227405311 = false from rfl, show 9218868437227405311 % 9223372036854775808 = 9218868437227405311 from rfl]
    have := magV_le (x := x) (y := 9218868437227405311) (by omega)
    unfold rungI
    generalize magV x = u at *
    generalize magV 9218868437227405311 = w at *
    simp only [cond_false]
    rw [show compare (u : Int) (w : Int) = if (u : Int) < w then Ordering.lt else if (u : Int) = w then .eq else .gt from rfl]
    by_cases h1 : (u : Int) < w
    · rw [if_pos h1]; rfl
    · rw [if_neg h1, if_pos (by omega)]; rfl
  · rw [decide_eq_true hx]
    unfold Ieee.Format.order
    obtain ⟨m, e, r, _⟩ := read_fin hm
    rw [read_inf (by omega) (by rw [hxm]; exact hx), r, show signF x = false from decide_eq_false (by omega)]
    rfl
  · obtain ⟨n, e⟩ := read_nan (f := x) (by omega) (by omega)
    unfold Ieee.Format.order
    rw [e, decide_eq_false (by omega)]
    rfl
end Go.Pv
