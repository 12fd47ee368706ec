/- Wide's reference: Mean: the plain law of the long division. -/
import Derived.Test.YtckcagmlippneaaWZ
namespace Go.Proofs.Ytckcagmlippneaa
open Go Go.Pv Go.RowKit
set_option linter.unusedSimpArgs false
set_option linter.unusedVariables false
set_option maxRecDepth 10000
set_option exponentiation.threshold 2000

def XK (K N s : Nat) : Nat := N * 2 ^ K / 2 ^ s
theorem XK_step (K N i : Nat) : XK K N i = XK K N (i + 1) * 2 + XK K N i % 2 := by
  have : XK K N (i + 1) = XK K N i / 2 := by unfold XK; rw [Nat.pow_succ, Nat.div_div_eq_div_mul]
  rw [this]; omega
theorem XK_bit (K N i : Nat) (h : K ≤ i) : XK K N i % 2 = N / 2 ^ (i - K) % 2 := by
  unfold XK
  have : 2 ^ i = 2 ^ (i - K) * 2 ^ K := by rw [← Nat.pow_add]; congr 1; omega
  rw [this, Nat.mul_div_mul_right _ _ (Nat.pow_pos (by decide))]
theorem XK_low (K N i : Nat) (h : i < K) : XK K N i % 2 = 0 := by
  unfold XK
  have : 2 ^ K = 2 ^ i * (2 * 2 ^ (K - 1 - i)) := by rw [← Nat.mul_assoc, ← Nat.pow_succ, ← Nat.pow_add]; congr 1; omega
  rw [this, Nat.mul_left_comm, Nat.mul_div_cancel_left _ (Nat.pow_pos (by decide)), Nat.mul_left_comm, Nat.mul_mod_right]
def Xs (N s : Nat) : Nat := XK 200 N s
theorem Xs_step (N i : Nat) : Xs N i = Xs N (i + 1) * 2 + Xs N i % 2 := XK_step 200 N i
theorem Xs_bit (N i : Nat) (h : 200 ≤ i) : Xs N i % 2 = N / 2 ^ (i - 200) % 2 := XK_bit 200 N i h
theorem Xs_low (N i : Nat) (h : i < 200) : Xs N i % 2 = 0 := XK_low 200 N i h
theorem XK_top (K N s : Nat) (h : N < 2 ^ 128) (hs : 128 + K ≤ s) : XK K N s = 0 := by
  unfold XK
  refine Nat.div_eq_of_lt ?_
  have h1 : N * 2 ^ K < 2 ^ 128 * 2 ^ K := Nat.mul_lt_mul_of_pos_right h (Nat.pow_pos (by decide))
  have h2 : 2 ^ 128 * 2 ^ K ≤ 2 ^ s := by rw [← Nat.pow_add]; exact Nat.pow_le_pow_right (by decide) hs
  exact Nat.lt_of_lt_of_le h1 h2
theorem Xs_top (N : Nat) (h : N < 2 ^ 128) : Xs N 584 = 0 := XK_top 200 N 584 h (by decide)
theorem Xs_zero (N : Nat) : Xs N 0 = N * 2 ^ 200 := by show N * 2 ^ 200 / 2 ^ 0 = _; rw [Nat.pow_zero, Nat.div_one]
/-- One digit more of the quotient. -/
theorem quo_step (X m b : Nat) (hm : 0 < m) (hb : b < 2) :
    (X * 2 + b) / m = X / m * 2 + (if m ≤ X % m * 2 + b then 1 else 0) ∧ (X * 2 + b) % m = (if m ≤ X % m * 2 + b then X % m * 2 + b - m else X % m * 2 + b) := by
  have h := Nat.div_add_mod X m
  have hlt := Nat.mod_lt X hm
  have e : X * 2 + b = (X % m * 2 + b) + m * (X / m * 2) := by
    rw [← Nat.mul_assoc]
    generalize m * (X / m) = p at *
    omega
  rw [e, Nat.add_mul_div_left _ _ hm, Nat.add_mul_mod_self_left]
  split
  · rename_i h1
    have e2 : X % m * 2 + b = (X % m * 2 + b - m) + m * 1 := by omega
    constructor
    · rw [e2, Nat.add_mul_div_left _ _ hm, Nat.div_eq_of_lt (by omega)]; omega
    · conv => lhs; rw [e2]
      rw [Nat.add_mul_mod_self_left, Nat.mod_eq_of_lt (by omega)]
  · rename_i h1
    constructor
    · rw [Nat.div_eq_of_lt (by omega)]; omega
    · rw [Nat.mod_eq_of_lt (by omega)]
theorem bitLen_2 (Q c : Nat) (hQ : 0 < Q) (hc : c < 2) : bitLen (Q * 2 + c) = bitLen Q + 1 := by
  have := bitLen_shift (Q * 2 + c) 1 (by rw [Nat.pow_one]; omega)
  rw [this, Nat.pow_one, show (Q * 2 + c) / 2 = Q from by omega]; omega
theorem dig_or (r b : Nat) (hb : b < 2) : digN (r * 2) 0 ||| b = digN (r * 2 + b) 0 := by
  unfold digN
  rw [Nat.pow_zero, Nat.div_one, Nat.div_one]
  have h1 := Nat.two_pow_add_eq_or_of_lt (i := 1) (b := b) (by omega) (r * 2 % 65536 / 2)
  have h2 : 2 ^ 1 * (r * 2 % 65536 / 2) = r * 2 % 65536 := by rw [Nat.pow_one]; omega
  rw [h2] at h1
  rw [← h1]; omega
theorem digL_set0 (r b : Nat) (hb : b < 2) : (digL (r * 2)).set 0 (cell32 (digN (r * 2) 0 ||| b)) = digL (r * 2 + b) := by
  apply List.ext_getElem?
  intro p
  by_cases hp : p < 24
  · rw [List.getElem?_set, digL_get (r * 2 + b) p hp]
    by_cases e : 0 = p
    · subst e
      rw [if_pos rfl, if_pos (by rw [digL_len]; decide), dig_or r b hb]
    · rw [if_neg e, digL_get (r * 2) p hp]
      have : digN (r * 2 + b) p = digN (r * 2) p := by
        unfold digN
        obtain ⟨k, hk⟩ : ∃ k, p = k + 1 := ⟨p - 1, by omega⟩
        rw [hk, Nat.pow_succ, Nat.mul_comm (65536 ^ k) 65536, ← Nat.div_div_eq_div_mul, ← Nat.div_div_eq_div_mul, show (r * 2 + b) / 65536 = r * 2 / 65536 from by omega]
      rw [this]
  · rw [List.getElem?_eq_none (by simp [digL_len]; omega), List.getElem?_eq_none (by rw [digL_len]; omega)]
theorem sticky_K (K N m s : Nat) : (N * 2 ^ K % (m * 2 ^ s) ≠ 0) ↔ (XK K N s % m ≠ 0 ∨ N % 2 ^ (s - K) ≠ 0) := by
  have hA : N * 2 ^ K % 2 ^ s ≠ 0 ↔ N % 2 ^ (s - K) ≠ 0 := by
    rcases Nat.lt_or_ge K s with h | h
    · have : 2 ^ s = 2 ^ (s - K) * 2 ^ K := by rw [← Nat.pow_add]; congr 1; omega
      rw [this, Nat.mul_mod_mul_right]
      have hp : 0 < 2 ^ K := Nat.pow_pos (by decide)
      constructor
      · intro h2 e; rw [e] at h2; simp at h2
      · intro h2 e
        rcases Nat.mul_eq_zero.1 e with e | e
        · exact h2 e
        · omega
    · rw [show s - K = 0 from by omega, Nat.pow_zero, Nat.mod_one]
      have : 2 ^ K = 2 ^ s * 2 ^ (K - s) := by rw [← Nat.pow_add]; congr 1; omega
      rw [this, Nat.mul_left_comm, Nat.mul_mod_right]
  rw [← hA, Nat.mul_comm m, Nat.mod_mul]
  unfold XK
  have hp : 0 < 2 ^ s := Nat.pow_pos (by decide)
  generalize N * 2 ^ K % 2 ^ s = a
  generalize N * 2 ^ K / 2 ^ s % m = b
  constructor
  · intro h
    by_cases hb : b = 0
    · subst hb; rw [Nat.mul_zero] at h; exact .inr (by omega)
    · exact .inl hb
  · intro h e
    have h1 : a = 0 := by omega
    have h2 : 2 ^ s * b = 0 := by omega
    rcases Nat.mul_eq_zero.1 h2 with h3 | h3 <;> omega
theorem sticky_of (N m s : Nat) : (N * 2 ^ 200 % (m * 2 ^ s) ≠ 0) ↔ (Xs N s % m ≠ 0 ∨ N % 2 ^ (s - 200) ≠ 0) := sticky_K 200 N m s
theorem quo_of (N m s : Nat) : Xs N s / m = N * 2 ^ 200 / (m * 2 ^ s) := by
  show N * 2 ^ 200 / 2 ^ s / m = _
  rw [Nat.div_div_eq_div_mul, Nat.mul_comm m]
end Go.Proofs.Ytckcagmlippneaa
