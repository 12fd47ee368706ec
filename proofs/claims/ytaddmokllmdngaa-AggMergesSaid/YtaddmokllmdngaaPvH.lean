/- float64: whole parts, told exactly. -/
import Derived.Test.YtaddmokllmdngaaPvG
set_option linter.unusedSimpArgs false
set_option linter.unusedVariables false
set_option exponentiation.threshold 2000
namespace Go.Pv
open Go

theorem worth_fbits {E M : Nat} (h : FOk E M) (s : Bool) : worth (fbits s E M) = rungI s (M * 2 ^ E) ∧ Fin64 (fbits s E M) := by
  obtain ⟨h1, h2, h3⟩ := h
  have hx : fbits s E M % 9223372036854775808 = E * 4503599627370496 + M := by
    cases s
    · rw [fbits_pos]; omega
    · rw [fbits_neg]; omega
  have hl : fbits s E M < 18446744073709551616 := by
    cases s
    · rw [fbits_pos]; omega
    · rw [fbits_neg]; omega
  have hs : signF (fbits s E M) = s := by
    unfold signF
    cases s
    · rw [fbits_pos]; exact decide_eq_false (by omega)
    · rw [fbits_neg]; exact decide_eq_true (by omega)
  refine ⟨?_, hl, by rw [hx]; omega⟩
  unfold worth magV
  rw [hx, hs, if_neg (by omega), show (E * 4503599627370496 + M) / 4503599627370496 - 1 = E from by omega, show 4503599627370496 + (E * 4503599627370496 + M) % 4503599627370496 = M from by omega]
/-- What is dropped towards zero. -/
theorem cut_zero (s : Bool) (n d : Nat) : Ieee.Toward.zero.cut s n d = n / 2 ^ d := by
  unfold Ieee.Toward.cut
  simp only [Bool.toNat_false, Nat.add_zero, Nat.shiftLeft_eq, Nat.one_mul]
  by_cases h : d ≤ n.log2 + 2
  · rw [Nat.min_eq_left h]
  · rw [Nat.min_eq_right (by omega)]
    have h1 : n < 2 ^ (n.log2 + 1) := Nat.lt_log2_self
    have h2 := pow_mono (show n.log2 + 1 ≤ n.log2 + 2 by omega)
    have h3 := pow_mono (show n.log2 + 2 ≤ d by omega)
    rw [Nat.div_eq_of_lt (by omega), Nat.div_eq_of_lt (by omega)]
/-- The whole part, in its own units. -/
def wholeV (f : Nat) : Nat := magV (f % 9223372036854775808) / 2 ^ 1074
theorem read_fin' {f : Nat} (h : Fin64 f) : ∃ m e : Nat, Ieee.double.read f = .number (signF f) m ((e : Int) - 1074) ∧ m * 2 ^ e = magV (f % 9223372036854775808) ∧ m < 9007199254740992 := by
  obtain ⟨h1, h2⟩ := h
  have hs := read_sign h1
  unfold Ieee.Format.read
  simp only [f_sw, f_bin, f_inf, f_lp, hs]
  unfold magV
  generalize f % 9223372036854775808 = x at *
  by_cases hx : x < 4503599627370496
  · rw [if_pos hx, if_pos hx]
    exact ⟨x, 0, rfl, by simp, by omega⟩
  · rw [if_neg hx, if_pos h2, if_neg hx]
    exact ⟨_, x / 4503599627370496 - 1, by congr 1, rfl, by omega⟩
theorem whole_of {m e : Nat} (k : Nat) : m * 2 ^ ((e : Int) - (k : Int)).toNat / 2 ^ (-((e : Int) - (k : Int))).toNat = m * 2 ^ e / 2 ^ k := by
  by_cases h : k ≤ e
  · rw [show ((e : Int) - k).toNat = e - k from by omega, show (-((e : Int) - k)).toNat = 0 from by omega, Nat.pow_zero, Nat.div_one]
    have : m * 2 ^ e = m * 2 ^ (e - k) * 2 ^ k := by rw [Nat.mul_assoc, ← Nat.pow_add]; congr 2; omega
    rw [this, Nat.mul_div_cancel _ (Nat.pow_pos (by decide))]
  · rw [show ((e : Int) - k).toNat = 0 from by omega, show (-((e : Int) - k)).toNat = k - e from by omega, Nat.pow_zero, Nat.mul_one]
    have : 2 ^ k = 2 ^ (k - e) * 2 ^ e := by rw [← Nat.pow_add]; congr 1; omega
    rw [this, Nat.mul_div_mul_right _ _ (Nat.pow_pos (by decide))]
/-- Made whole towards zero; of at most 53 bits that count. -/
theorem integral_fin {f : Nat} (h : Fin64 f) : (Ieee.double.read f).integral .zero = .number (signF f) (wholeV f) 0 ∧ ∃ n j, wholeV f = n * 2 ^ j ∧ n < 9007199254740992 := by
  obtain ⟨m, e, r, v, hm⟩ := read_fin' h
  have hw := @whole_of m e 1074
  refine ⟨?_, ?_⟩
  · rw [r]
    unfold Ieee.Datum.integral
    simp only [cut_zero, Nat.shiftLeft_eq]
    unfold wholeV
    rw [← v]
    exact congrArg (fun t => Ieee.Datum.number (signF f) t 0) hw
  · unfold wholeV
    rw [← v, ← hw]
    by_cases h : 1074 ≤ e
    · refine ⟨m, e - 1074, ?_, hm⟩
      rw [show ((e : Int) - ((1074 : Nat) : Int)).toNat = e - 1074 from by omega, show (-((e : Int) - ((1074 : Nat) : Int))).toNat = 0 from by omega, Nat.pow_zero, Nat.div_one]
    · refine ⟨m / 2 ^ (1074 - e), 0, ?_, Nat.lt_of_le_of_lt (Nat.div_le_self _ _) hm⟩
      rw [show ((e : Int) - ((1074 : Nat) : Int)).toNat = 0 from by omega, show (-((e : Int) - ((1074 : Nat) : Int))).toNat = 1074 - e from by omega, Nat.pow_zero, Nat.mul_one, Nat.mul_one]
/-- A whole number with at most 53 bits that count is told exactly. -/
theorem nearest_whole (s : Bool) {t n j : Nat} (ht : t = n * 2 ^ j) (hn : n < 9007199254740992) (hb : t ≤ 18446744073709551616) : worth (Ieee.double.nearest s t 0) = rungI s (t * 2 ^ 1074) ∧ Fin64 (Ieee.double.nearest s t 0) := by
  by_cases h0 : t = 0
  · rw [h0]
    have e : Ieee.double.nearest s 0 0 = Ieee.double.word s 0 := by unfold Ieee.Format.nearest; rw [if_pos rfl]
    rw [e, Nat.zero_mul]
    cases s
    · exact ⟨rfl, by decide, by decide⟩
    · exact ⟨rfl, by decide, by decide⟩
  have hL1 : 2 ^ t.log2 ≤ t := Nat.log2_self_le h0
  have hL2 : t < 2 ^ (t.log2 + 1) := Nat.lt_log2_self
  obtain ⟨L, hL⟩ : ∃ L, L = t.log2 := ⟨_, rfl⟩
  rw [← hL] at hL1 hL2
  have hL64 : L ≤ 64 := by
    apply Nat.le_of_not_lt; intro hc
    have := pow_mono (show 65 ≤ L by omega)
    have e : (2 : Nat) ^ 65 = 36893488147419103232 := by decide
    omega
  by_cases hc : 52 ≤ L
  · have hLj : L - 52 ≤ j := by
      apply Nat.le_of_not_lt; intro hc2
      have h1 : n * 2 ^ j < 9007199254740992 * 2 ^ j := Nat.mul_lt_mul_of_pos_right hn (Nat.pow_pos (by decide))
      have h2 : (9007199254740992 : Nat) * 2 ^ j = 2 ^ (53 + j) := by rw [Nat.pow_add]
      have h3 := pow_mono (show 53 + j ≤ L by omega)
      omega
    have hM : t = n * 2 ^ (j - (L - 52)) * 2 ^ (L - 52) := by rw [ht, Nat.mul_assoc, ← Nat.pow_add]; congr 2; omega
    generalize n * 2 ^ (j - (L - 52)) = M at *
    have p52 : (2 : Nat) ^ L = 4503599627370496 * 2 ^ (L - 52) := by
      rw [show (4503599627370496 : Nat) = 2 ^ 52 from rfl, ← Nat.pow_add]; congr 1; omega
    have p53 : (2 : Nat) ^ (L + 1) = 9007199254740992 * 2 ^ (L - 52) := by
      rw [show (9007199254740992 : Nat) = 2 ^ 53 from rfl, ← Nat.pow_add]; congr 1; omega
    have pp : 0 < 2 ^ (L - 52) := Nat.pow_pos (by decide)
    have m1 : 4503599627370496 ≤ M := by
      apply Nat.le_of_mul_le_mul_right _ pp; rw [← p52, ← hM]; exact hL1
    have m2 : M < 9007199254740992 := by
      apply Nat.lt_of_mul_lt_mul_right (a := 2 ^ (L - 52)); rw [← p53, ← hM]; exact hL2
    have hok : FOk (1074 + (L - 52)) M := ⟨m1, m2, by omega⟩
    have hne := nearest_fbits hok s (L - 52) 0 (by omega)
    rw [← hM] at hne
    rw [hne]
    obtain ⟨w1, w2⟩ := worth_fbits hok s
    refine ⟨?_, w2⟩
    rw [w1, hM, Nat.mul_assoc, ← Nat.pow_add, Nat.add_comm]
  · have m1 : 4503599627370496 ≤ t * 2 ^ (52 - L) := by
      have := Nat.mul_le_mul_right (2 ^ (52 - L)) hL1
      rw [← Nat.pow_add, show L + (52 - L) = 52 from by omega] at this
      exact this
    have m2 : t * 2 ^ (52 - L) < 9007199254740992 := by
      have := Nat.mul_lt_mul_of_pos_right hL2 (Nat.pow_pos (n := 52 - L) (show 0 < 2 by decide))
      rw [← Nat.pow_add, show L + 1 + (52 - L) = 53 from by omega] at this
      exact this
    have hok : FOk (L + 1022) (t * 2 ^ (52 - L)) := ⟨m1, m2, by omega⟩
    have hne : Ieee.double.nearest s t 0 = fbits s (L + 1022) (t * 2 ^ (52 - L)) := by
      have hfb : ((Ieee.double.fractionBits : Nat) : Int) = 52 := rfl
      have hc2 := cut_exact s (t * 2 ^ (52 - L)) 0 _ rfl (by omega)
      rw [Nat.pow_zero, Nat.mul_one] at hc2
      unfold Ieee.Format.nearest
      rw [if_neg h0, ← hL, f_lp, f_bin, f_inf, hfb]
      have e0 : max ((0 : Int) + (L : Int) - 52) (-1074) = (L : Int) - 52 := by omega
      simp only [e0]
      have e1 : ((0 : Int) - ((L : Int) - 52)).toNat = 52 - L := by omega
      have e2 : ((L : Int) - 52 - 0).toNat = 0 := by omega
      have e3 : ((L : Int) - 52 - -1074).toNat = L + 1022 := by omega
      rw [e1, e2, e3, Nat.shiftLeft_eq, hc2]
      exact congrArg (Ieee.double.word s) (Nat.min_eq_left (by omega))
    rw [hne]
    obtain ⟨w1, w2⟩ := worth_fbits hok s
    refine ⟨?_, w2⟩
    rw [w1, Nat.mul_assoc, ← Nat.pow_add, show 52 - L + (L + 1022) = 1074 from by omega]
end Go.Pv
