/- math/bits: Div64. -/
import Derived.Test.YtckcagmlippneaaWC
set_option linter.unusedSimpArgs false
set_option linter.unusedVariables false
namespace Go.Proofs.Ytckcagmlippneaa
open Go Go.Pv Go.RowKit
set_option maxRecDepth 10000
set_option exponentiation.threshold 1000

/-- One digit of a long division: the guess q, what is left r. -/
structure DigOk (Y n1 n0 u w : Nat) : Prop where
  hY : Y = n1 * 4294967296 + n0
  h0 : n0 < 4294967296
  h1 : 2147483648 ≤ n1
  h1' : n1 < 4294967296
  hu : u < Y
  hw : w < 4294967296
theorem dig_mul {Y n1 n0 u w : Nat} (h : DigOk Y n1 n0 u w) (q : Nat) : q * Y = q * n1 * 4294967296 + q * n0 := by
  rw [h.hY, Nat.mul_add, ← Nat.mul_assoc]
theorem dig_pos {Y n1 n0 u w : Nat} (h : DigOk Y n1 n0 u w) : 0 < Y := by have := h.h1; have := h.hY; omega
theorem dig_start {Y n1 n0 u w : Nat} (h : DigOk Y n1 n0 u w) : (u * 4294967296 + w) / Y ≤ u / n1 := by
  have hm := dig_mul h ((u * 4294967296 + w) / Y)
  have hle := Nat.div_mul_le_self (u * 4294967296 + w) Y
  have := h.hw
  rw [Nat.le_div_iff_mul_le (by have := h.h1; omega)]
  generalize (u * 4294967296 + w) / Y = t at *
  generalize t * Y = p at *
  generalize t * n1 = a at *
  generalize t * n0 = b at *
  omega
theorem dig_down {Y n1 n0 u w q r : Nat} (h : DigOk Y n1 n0 u w) (hr : r + q * n1 = u) (ht : 4294967296 ≤ q ∨ 4294967296 * r + w < q * n0) : (u * 4294967296 + w) / Y < q := by
  rw [Nat.div_lt_iff_lt_mul (dig_pos h)]
  have hm := dig_mul h q
  have := h.hw
  have := h.hu
  rcases ht with ht | ht
  · have h2 := Nat.mul_le_mul_right Y ht
    generalize q * Y = p at *
    omega
  · generalize q * Y = p at *
    generalize q * n1 = a at *
    generalize q * n0 = b at *
    omega
theorem dig_end {Y n1 n0 u w q r : Nat} (h : DigOk Y n1 n0 u w) (hr : r + q * n1 = u) (hq : (u * 4294967296 + w) / Y ≤ q) (ht : q * n0 ≤ 4294967296 * r + w) : q = (u * 4294967296 + w) / Y := by
  refine Nat.le_antisymm ?_ hq
  rw [Nat.le_div_iff_mul_le (dig_pos h)]
  have hm := dig_mul h q
  generalize q * Y = p at *
  generalize q * n1 = a at *
  generalize q * n0 = b at *
  omega
theorem dig_break {Y n1 n0 u w q r : Nat} (h : DigOk Y n1 n0 u w) (hr : r + q * n1 = u) (hq : (u * 4294967296 + w) / Y ≤ q) (ht : 4294967296 ≤ r) : q = (u * 4294967296 + w) / Y := by
  refine dig_end h hr hq ?_
  have h0 := h.h0
  have hu := h.hu
  have hY := h.hY
  have hqB : q < 4294967296 := by
    rcases Nat.lt_or_ge q 4294967296 with h1 | h1
    · exact h1
    · have := Nat.mul_le_mul_right n1 h1
      generalize q * n1 = a at *
      omega
  have h1 : q * n0 ≤ 4294967296 * n0 := Nat.mul_le_mul_right _ (by omega)
  generalize q * n0 = b at *
  omega
theorem dig_lt {Y n1 n0 u w : Nat} (h : DigOk Y n1 n0 u w) : (u * 4294967296 + w) / Y < 4294967296 := by
  rw [Nat.div_lt_iff_lt_mul (dig_pos h)]
  have := h.hu; have := h.hw
  omega
theorem two_digs' {B Y N w0 : Nat} (hY : 0 < Y) :
    N / Y * B + (N % Y * B + w0) / Y = (N * B + w0) / Y ∧ (N % Y * B + w0) % Y = (N * B + w0) % Y := by
  have e : N * B + w0 = (N % Y * B + w0) + Y * (N / Y * B) := by
    have h := Nat.div_add_mod N Y
    have h2 : N * B = (Y * (N / Y) + N % Y) * B := by rw [h]
    rw [h2, Nat.add_mul, ← Nat.mul_assoc]; omega
  constructor
  · rw [e, Nat.add_mul_div_left _ _ hY]; omega
  · rw [e, Nat.add_mul_mod_self_left]
theorem two_digs {Y u w1 w0 : Nat} (hY : 0 < Y) :
    (u * 4294967296 + w1) / Y * 4294967296 + ((u * 4294967296 + w1) % Y * 4294967296 + w0) / Y = ((u * 4294967296 + w1) * 4294967296 + w0) / Y ∧
    ((u * 4294967296 + w1) % Y * 4294967296 + w0) % Y = ((u * 4294967296 + w1) * 4294967296 + w0) % Y := two_digs' hY
theorem norm_num' (M hi lo s : Nat) (hM : M = 2 ^ 64) (hs : s ≤ 64) : (hi * 2 ^ s + lo / 2 ^ (64 - s)) * M + lo * 2 ^ s % M = (hi * M + lo) * 2 ^ s := by
  have h1 : lo / 2 ^ (64 - s) = lo * 2 ^ s / M := by
    have : M = 2 ^ (64 - s) * 2 ^ s := by rw [hM, ← Nat.pow_add]; congr 1; omega
    rw [this, Nat.mul_div_mul_right _ _ (Nat.pow_pos (by decide))]
  rw [h1, Nat.add_mul, Nat.add_mul, Nat.add_assoc, Nat.div_add_mod' (lo * 2 ^ s), Nat.mul_right_comm]
theorem norm_num (hi lo s : Nat) (hs : s ≤ 64) :
    (hi * 2 ^ s + lo / 2 ^ (64 - s)) * 18446744073709551616 + lo * 2 ^ s % 18446744073709551616 = (hi * 18446744073709551616 + lo) * 2 ^ s := norm_num' _ hi lo s (by decide) hs

theorem shl_v (x s : Nat) (hs : s ≤ 64) : IntKind.u64.wrap ((x : Int) * 2 ^ min (IntKind.u64.wrap (s : Int)).toNat IntKind.u64.bits) = ((x * 2 ^ s % 18446744073709551616 : Nat) : Int) := by
  rw [show IntKind.u64.wrap (s : Int) = ((s : Nat) : Int) from by rw [IntKind.wrap_u64]; omega, Int.toNat_natCast, show min s IntKind.u64.bits = s from Nat.min_eq_left hs,
    show (x : Int) * 2 ^ s = ((x * 2 ^ s : Nat) : Int) from by simp, IntKind.wrap_u64]
  generalize x * 2 ^ s = y
  omega
theorem shr_v (x s : Nat) (hs : s ≤ 64) : (x : Int).fdiv (2 ^ min (IntKind.u64.wrap (s : Int)).toNat IntKind.u64.bits) = ((x / 2 ^ s : Nat) : Int) := by
  rw [show IntKind.u64.wrap (s : Int) = ((s : Nat) : Int) from by rw [IntKind.wrap_u64]; omega]
  exact fdiv_lit x s hs
theorem or_add (a b s : Nat) (ha : a * 2 ^ s < 18446744073709551616) (hb : b < 2 ^ s) (hs : s ≤ 64) : IntKind.u64.wrap ((BitVec.ofInt IntKind.u64.bits ((a * 2 ^ s : Nat) : Int) ||| BitVec.ofInt IntKind.u64.bits ((b : Nat) : Int)).toNat : Int) = ((a * 2 ^ s + b : Nat) : Int) := by
  have hp : 2 ^ s ≤ 2 ^ 64 := Nat.pow_le_pow_right (by decide) hs
  have hb' : b < 2 ^ 64 := Nat.lt_of_lt_of_le hb hp
  have eo : (BitVec.ofInt IntKind.u64.bits ((a * 2 ^ s : Nat) : Int) ||| BitVec.ofInt IntKind.u64.bits ((b : Nat) : Int)).toNat = a * 2 ^ s + b := by
    rw [BitVec.toNat_or, BitVec.ofInt_natCast, BitVec.ofInt_natCast, BitVec.toNat_ofNat, BitVec.toNat_ofNat]
    show (a * 2 ^ s) % 2 ^ 64 ||| b % 2 ^ 64 = _
    rw [Nat.mod_eq_of_lt ha, Nat.mod_eq_of_lt hb']
    have hq := Nat.two_pow_add_eq_or_of_lt hb a
    rw [Nat.mul_comm] at hq
    exact hq.symm
  rw [eo]
  have : a * 2 ^ s + b < 18446744073709551616 := by
    rw [← eo]; exact (BitVec.ofInt IntKind.u64.bits ((a * 2 ^ s : Nat) : Int) ||| BitVec.ofInt IntKind.u64.bits ((b : Nat) : Int)).isLt
  generalize a * 2 ^ s + b = y at *
  rw [IntKind.wrap_u64]; omega
end Go.Proofs.Ytckcagmlippneaa
