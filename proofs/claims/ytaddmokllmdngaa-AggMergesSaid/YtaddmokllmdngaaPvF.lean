/- float64: numbers that need no rounding: what they read as, what 'nearest' makes of them; times and by powers of two. -/
import Derived.Test.YtaddmokllmdngaaPv5
import Derived.Laws.MathBits
import Derived.Laws.BitsLemmas
set_option linter.unusedSimpArgs false
set_option linter.unusedVariables false
namespace Go.Pv
open Go
set_option exponentiation.threshold 2000

/-- The word of M * 2 ^ (E - 1074), M of 53 bits. -/
def fbits (neg : Bool) (E M : Nat) : Nat := Ieee.double.word neg (E * 4503599627370496 + M)
structure FOk (E M : Nat) : Prop where
  lo : 4503599627370496 ≤ M
  hi : M < 9007199254740992
  e : E ≤ 2045

theorem f_sw : Ieee.double.signWeight = 9223372036854775808 := rfl
theorem f_bin : Ieee.double.binade = 4503599627370496 := rfl
theorem f_inf : Ieee.double.infRung = 9218868437227405312 := rfl
theorem f_lp : Ieee.double.leastPlace = -1074 := rfl
theorem fbits_pos (E M : Nat) : fbits false E M = E * 4503599627370496 + M := rfl
theorem fbits_neg (E M : Nat) : fbits true E M = 9223372036854775808 + (E * 4503599627370496 + M) := rfl

theorem read_fbits {E M : Nat} (h : FOk E M) (neg : Bool) : Ieee.double.read (fbits neg E M) = .number neg M ((E : Int) - 1074) := by
  obtain ⟨h1, h2, h3⟩ := h
  have hr : (fbits neg E M) % 9223372036854775808 = E * 4503599627370496 + M := by
    cases neg
    · rw [fbits_pos]; omega
    · rw [fbits_neg]; omega
  have hn : (fbits neg E M / 9223372036854775808 % 2 == 1) = neg := by
    cases neg
    · rw [fbits_pos, show (E * 4503599627370496 + M) / 9223372036854775808 = 0 from by omega]; rfl
    · rw [fbits_neg, show (9223372036854775808 + (E * 4503599627370496 + M)) / 9223372036854775808 = 1 from by omega]; rfl
  unfold Ieee.Format.read
  simp only [f_sw, f_bin, f_inf, f_lp, hr, hn]
  rw [if_neg (by omega), if_pos (by omega)]
  have e1 : 4503599627370496 + (E * 4503599627370496 + M) % 4503599627370496 = M := by omega
  have e2 : (-1074 : Int) + (((E * 4503599627370496 + M) / 4503599627370496 - 1 : Nat) : Int) = (E : Int) - 1074 := by omega
  rw [e1, e2]

theorem log2_mul_pow (M j : Nat) (h1 : 4503599627370496 ≤ M) (h2 : M < 9007199254740992) : (M * 2 ^ j).log2 = 52 + j := by
  have hp : 0 < 2 ^ j := Nat.pow_pos (by decide)
  refine (Nat.log2_eq_iff (Nat.ne_of_gt (Nat.mul_pos (by omega) hp))).2 ⟨?_, ?_⟩
  · rw [Nat.pow_add]; exact Nat.mul_le_mul_right _ (by exact h1)
  · rw [show 52 + j + 1 = 53 + j from by omega, Nat.pow_add]; exact Nat.mul_lt_mul_of_pos_right (by exact h2) hp

/-- The last digit that is kept: nothing is dropped. -/
theorem cut_exact (neg : Bool) (M j l : Nat) (hl : (M * 2 ^ j).log2 = l) (hj : j ≤ l + 2) : Ieee.Toward.even.cut neg (M * 2 ^ j) j = M := by
  have hpw : 0 < 2 ^ j := Nat.pow_pos (by decide)
  unfold Ieee.Toward.cut
  simp only [hl]
  rw [show min j (l + 2) = j from Nat.min_eq_left hj, Nat.shiftLeft_eq, Nat.one_mul, Nat.mul_div_cancel _ hpw, Nat.mul_mod_left, Nat.mul_zero]
  have h5 : decide (2 ^ j < 0) = false := decide_eq_false (Nat.not_lt_zero _)
  have h6 : (2 ^ j == 0) = false := beq_eq_false_iff_ne.2 (Nat.ne_of_gt hpw)
  rw [h5, h6]
  rfl
/-- A number of 53 bits, told with j zeros more: nothing is rounded. -/
theorem nearest_fbits {E M : Nat} (h : FOk E M) (neg : Bool) (j : Nat) (p : Int) (hp : p = (E : Int) - 1074 - j) : Ieee.double.nearest neg (M * 2 ^ j) p = fbits neg E M := by
  obtain ⟨h1, h2, h3⟩ := h
  subst hp
  have hpw : 0 < 2 ^ j := Nat.pow_pos (by decide)
  have hl := log2_mul_pow M j h1 h2
  have hfb : ((Ieee.double.fractionBits : Nat) : Int) = 52 := rfl
  have hc := cut_exact neg M j _ hl (by omega)
  have hz : ¬ M * 2 ^ j = 0 := Nat.ne_of_gt (Nat.mul_pos (by omega) hpw)
  unfold Ieee.Format.nearest
  rw [if_neg hz, hl, f_lp, f_bin, f_inf, hfb]
  generalize M * 2 ^ j = m at *
  have e0 : max ((E : Int) - 1074 - (j : Int) + ((52 + j : Nat) : Int) - 52) (-1074) = (E : Int) - 1074 := by omega
  simp only [e0]
  have e1 : ((E : Int) - 1074 - (j : Int) - ((E : Int) - 1074)).toNat = 0 := by omega
  have e2 : ((E : Int) - 1074 - ((E : Int) - 1074 - (j : Int))).toNat = j := by omega
  have e3 : ((E : Int) - 1074 - -1074).toNat = E := by omega
  rw [e1, e2, e3, Nat.shiftLeft_zero, hc]
  exact congrArg (Ieee.double.word neg) (Nat.min_eq_left (by omega))

/-- Times a power of two. -/
theorem mul_fbits {E M E' E2 : Nat} (h : FOk E M) (neg : Bool) (hE : E' ≤ 2045) (h2 : E2 ≤ 2045) (he : E2 + 1022 = E + E') : floatBits .mul .f64 (fbits neg E M) (fbits false E' 4503599627370496) = some (fbits neg E2 M) := by
  have h1 := nearest_fbits (E := E2) (M := M) ⟨h.lo, h.hi, h2⟩ neg 52 ((E : Int) - 1074 + ((E' : Int) - 1074)) (by omega)
  have h3 : floatBits .mul .f64 (fbits neg E M) (fbits false E' 4503599627370496) = ((Ieee.double.read (fbits neg E M)).product (Ieee.double.read (fbits false E' 4503599627370496))).map Ieee.double.write := rfl
  rw [h3, read_fbits h, read_fbits ⟨by decide, by decide, hE⟩]
  simp only [Ieee.Datum.product, Option.map_some, Bool.xor_false]
  exact congrArg some h1
theorem mul_swap {E M E' M' : Nat} (h : FOk E M) (h' : FOk E' M') (s t : Bool) : floatBits .mul .f64 (fbits s E M) (fbits t E' M') = floatBits .mul .f64 (fbits t E' M') (fbits s E M) := by
  have h3 : ∀ x y, floatBits .mul .f64 x y = ((Ieee.double.read x).product (Ieee.double.read y)).map Ieee.double.write := fun _ _ => rfl
  rw [h3, h3, read_fbits h, read_fbits h']
  simp only [Ieee.Datum.product]
  rw [Bool.xor_comm s t, Nat.mul_comm M M', Int.add_comm ((E : Int) - 1074)]
/-- By 2. -/
theorem half_fbits {E M E2 : Nat} (h : FOk E M) (neg : Bool) (he : E2 + 1 = E) : floatBits .quo .f64 (fbits neg E M) (fbits false 1023 4503599627370496) = some (fbits neg E2 M) := by
  have h1 := nearest_fbits (E := E2) (M := M) ⟨h.lo, h.hi, by have := h.e; omega⟩ neg 3 ((E : Int) - 1074 - (((1023 : Nat) : Int) - 1074) - (54 : Nat) - 1) (by omega)
  have h3 : floatBits .quo .f64 (fbits neg E M) (fbits false 1023 4503599627370496) = ((Ieee.double.read (fbits neg E M)).quotient (Ieee.double.fractionBits + 2) (Ieee.double.read (fbits false 1023 4503599627370496))).map Ieee.double.write := rfl
  have hl : M.log2 = 52 := by have := log2_mul_pow M 0 h.lo h.hi; simpa using this
  have hl2 : (4503599627370496 : Nat).log2 = 52 := by have := log2_mul_pow 4503599627370496 0 (by decide) (by decide); simpa using this
  have hq : ∀ n, n = 4503599627370496 → 2 * (M <<< 54 / n) + (M <<< 54 % n != 0).toNat = M * 2 ^ 3 := by
    intro n hn
    have hd : M <<< 54 = n * (M * 4) := by rw [Nat.shiftLeft_eq, hn]; omega
    rw [hd, Nat.mul_div_cancel_left _ (by omega), Nat.mul_mod_right]
    show 2 * (M * 4) + 0 = _
    omega
  rw [h3, read_fbits h, read_fbits ⟨by decide, by decide, by decide⟩]
  unfold Ieee.Datum.quotient
  simp only [hl, hl2, Bool.xor_false]
  rw [if_neg (by decide), Option.map_some]
  refine congrArg some (Eq.trans ?_ h1)
  have hf : Ieee.double.fractionBits + 2 + 52 - 52 = 54 := rfl
  rw [hf, hq _ rfl]
  rfl

theorem andNot_sign (z : Int) (h0 : 0 ≤ z) (h1 : z < 18446744073709551616) : bits .andNot .u64 z 9223372036854775808 = z % 9223372036854775808 := by go_bits2
theorem andNot_exp (z : Int) (h0 : 0 ≤ z) (h1 : z < 9223372036854775808) : bits .andNot .u64 z 9218868437227405312 = z % 4503599627370496 := by
  go_bits2
  obtain ⟨n, rfl⟩ := Int.eq_ofNat_of_zero_le h0
  have e : (9227875636482146303 : Nat) = 2 ^ 63 ||| (2 ^ 52 - 1) := by decide
  have hz : n &&& 2 ^ 63 = 0 := by
    apply Nat.eq_of_testBit_eq
    intro i
    rw [Nat.testBit_and, Nat.zero_testBit, Nat.testBit_two_pow]
    by_cases h : 63 = i
    · subst h
      rw [Nat.testBit_lt_two_pow (by omega)]; rfl
    · simp [h]
  rw [Int.toNat_natCast, e, Nat.and_or_distrib_left, hz, Nat.zero_or, Nat.and_two_pow_sub_one_eq_mod]
  omega
theorem and_2047 (z : Int) (h0 : 0 ≤ z) (h1 : z < 9223372036854775808) : bits .and .i64 z 2047 = z % 2048 := by
  obtain ⟨n, rfl⟩ := Int.eq_ofNat_of_zero_le h0
  have key : (BitVec.ofInt 64 (n : Int) &&& BitVec.ofInt 64 2047).toNat = n % 2 ^ 11 := by
    have h127 : (BitVec.ofInt 64 2047).toNat = 2 ^ 11 - 1 := by decide
    rw [BitVec.toNat_and, h127, Nat.and_two_pow_sub_one_eq_mod, BitVec.ofInt_natCast, BitVec.toNat_ofNat]
    omega
  show IntKind.i64.wrap ((BitVec.ofInt 64 (n : Int) &&& BitVec.ofInt 64 2047).toNat : Nat) = _
  rw [key, IntKind.wrap_i64]
  omega

/-- The order of numbers is that of their words (with their signs). -/
def rungI (neg : Bool) (r : Nat) : Int := bif neg then -(r : Int) else r
theorem cmp_congr {a b c d : Int} (h1 : a < b ↔ c < d) (h2 : a = b ↔ c = d) : compare a b = compare c d := by
  have e : ∀ x y : Int, compare x y = if x < y then .lt else if x = y then .eq else .gt := fun x y => rfl
  rw [e, e]
  simp only [h1, h2]
theorem pow_le (n : Nat) : 1 ≤ 2 ^ n := Nat.pow_pos (by decide)
/-- Magnitudes: by the exponent first. -/
theorem mag_lt {E M E' M' : Nat} (h : FOk E M) (h' : FOk E' M') (i j : Nat) (hij : (E : Int) - i = (E' : Int) - j) (h0 : i = 0 ∨ j = 0) :
    (M * 2 ^ i < M' * 2 ^ j ↔ E * 4503599627370496 + M < E' * 4503599627370496 + M') ∧ (M * 2 ^ i = M' * 2 ^ j ↔ E * 4503599627370496 + M = E' * 4503599627370496 + M') := by
  have := h.lo; have := h.hi; have := h'.lo; have := h'.hi
  rcases h0 with rfl | rfl
  · have hE : E' = E + j := by omega
    subst hE
    rw [Nat.pow_zero, Nat.mul_one]
    cases j with
    | zero => rw [Nat.pow_zero, Nat.mul_one]; exact ⟨by omega, by omega⟩
    | succ j =>
      have h5 := pow_le j
      have h6 : M' * 2 ^ (j + 1) = M' * 2 ^ j * 2 := by rw [Nat.pow_succ, Nat.mul_assoc]
      have h7 : M' * 1 ≤ M' * 2 ^ j := Nat.mul_le_mul_left _ h5
      rw [h6]
      generalize M' * 2 ^ j = x at *
      exact ⟨⟨fun _ => by omega, fun _ => by omega⟩, ⟨fun _ => by omega, fun _ => by omega⟩⟩
  · have hE : E = E' + i := by omega
    subst hE
    rw [Nat.pow_zero, Nat.mul_one]
    cases i with
    | zero => rw [Nat.pow_zero, Nat.mul_one]; exact ⟨by omega, by omega⟩
    | succ j =>
      have h5 := pow_le j
      have h6 : M * 2 ^ (j + 1) = M * 2 ^ j * 2 := by rw [Nat.pow_succ, Nat.mul_assoc]
      have h7 : M * 1 ≤ M * 2 ^ j := Nat.mul_le_mul_left _ h5
      rw [h6]
      generalize M * 2 ^ j = x at *
      exact ⟨⟨fun _ => by omega, fun _ => by omega⟩, ⟨fun _ => by omega, fun _ => by omega⟩⟩
theorem signed_eq (neg : Bool) (m up : Nat) : Ieee.signed neg m up = rungI neg (m * 2 ^ up) := by
  unfold Ieee.signed rungI
  rw [Nat.shiftLeft_eq]
  cases neg <;> rfl
theorem cmp_rung (s t : Bool) (x y r r' : Nat) (g1 : x < y ↔ r < r') (g2 : x = y ↔ r = r') (p1 : 0 < x) (p2 : 0 < y) (q1 : 0 < r) (q2 : 0 < r') : compare (rungI s x) (rungI t y) = compare (rungI s r) (rungI t r') := by
  unfold rungI
  refine cmp_congr ?_ ?_ <;> cases s <;> cases t <;> simp only [cond_true, cond_false] <;> omega
theorem order_fbits {E M E' M' r r' : Nat} (h : FOk E M) (h' : FOk E' M') (s t : Bool) (hr : r = E * 4503599627370496 + M) (hr' : r' = E' * 4503599627370496 + M') :
    Ieee.double.order (fbits s E M) (fbits t E' M') = some (compare (rungI s r) (rungI t r')) := by
  unfold Ieee.Format.order
  rw [read_fbits h, read_fbits h']
  unfold Ieee.Datum.order
  simp only [signed_eq]
  refine congrArg some ?_
  obtain ⟨i, hi⟩ : ∃ i, i = ((E : Int) - 1074 - min ((E : Int) - 1074) ((E' : Int) - 1074)).toNat := ⟨_, rfl⟩
  obtain ⟨j, hj⟩ : ∃ j, j = ((E' : Int) - 1074 - min ((E : Int) - 1074) ((E' : Int) - 1074)).toNat := ⟨_, rfl⟩
  rw [← hi, ← hj]
  obtain ⟨g1, g2⟩ := mag_lt h h' i j (by omega) (by omega)
  rw [← hr, ← hr'] at g1 g2
  have p1 : 0 < M * 2 ^ i := Nat.mul_pos (by have := h.lo; omega) (Nat.pow_pos (by decide))
  have p2 : 0 < M' * 2 ^ j := Nat.mul_pos (by have := h'.lo; omega) (Nat.pow_pos (by decide))
  have q1 : 0 < r := by have := h.lo; omega
  have q2 : 0 < r' := by have := h'.lo; omega
  generalize M * 2 ^ i = x at *
  generalize M' * 2 ^ j = y at *
  exact cmp_rung s t x y r r' g1 g2 p1 p2 q1 q2
theorem read_0 : Ieee.double.read 0 = .number false 0 (-1074) := by decide +kernel
theorem order_f0 {E M : Nat} (h : FOk E M) (s : Bool) : Ieee.double.order (fbits s E M) 0 = some (bif s then .lt else .gt) := by
  unfold Ieee.Format.order
  rw [read_fbits h, read_0]
  unfold Ieee.Datum.order
  simp only [signed_eq]
  refine congrArg some ?_
  generalize ((E : Int) - 1074 - min ((E : Int) - 1074) (-1074)).toNat = i
  have p1 : 0 < M * 2 ^ i := Nat.mul_pos (by have := h.lo; omega) (Nat.pow_pos (by decide))
  generalize M * 2 ^ i = x at *
  rw [Nat.zero_mul]
  have e : ∀ x y : Int, compare x y = if x < y then .lt else if x = y then .eq else .gt := fun x y => rfl
  rw [e]
  unfold rungI
  cases s
  · simp only [cond_false]; rw [if_neg (by omega), if_neg (by omega)]
  · simp only [cond_true, cond_false]; rw [if_pos (by omega)]
theorem order_0f {E M : Nat} (h : FOk E M) (s : Bool) : Ieee.double.order 0 (fbits s E M) = some (bif s then .gt else .lt) := by
  unfold Ieee.Format.order
  rw [read_fbits h, read_0]
  unfold Ieee.Datum.order
  simp only [signed_eq]
  refine congrArg some ?_
  generalize ((E : Int) - 1074 - min (-1074) ((E : Int) - 1074)).toNat = i
  have p1 : 0 < M * 2 ^ i := Nat.mul_pos (by have := h.lo; omega) (Nat.pow_pos (by decide))
  generalize M * 2 ^ i = x at *
  rw [Nat.zero_mul]
  have e : ∀ x y : Int, compare x y = if x < y then .lt else if x = y then .eq else .gt := fun x y => rfl
  rw [e]
  unfold rungI
  cases s
  · simp only [cond_false]; rw [if_pos (by omega)]
  · simp only [cond_true, cond_false]; rw [if_neg (by omega), if_neg (by omega)]
theorem order_00 : Ieee.double.order 0 0 = some .eq := by decide +kernel
end Go.Pv
