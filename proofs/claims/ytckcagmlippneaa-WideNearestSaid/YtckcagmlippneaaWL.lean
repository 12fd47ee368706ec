/- The mean's plain law: the quotient's 54 highest bits, what is left over, the rounding. -/
import Derived.Test.YtckcagmlippneaaWK
set_option linter.unusedSimpArgs false
set_option linter.unusedVariables false
namespace Go.Proofs.Ytckcagmlippneaa
open Go Go.Pv Go.RowKit
set_option maxRecDepth 10000
set_option exponentiation.threshold 1000

def mT (N n : Nat) : Nat := bitLen (N * 2 ^ 200 / n) - 54
def mQ (N n : Nat) : Nat := N * 2 ^ 200 / (n * 2 ^ mT N n)
def mS (N n : Nat) : Bool := decide (N * 2 ^ 200 % (n * 2 ^ mT N n) ≠ 0)
def mW (q : Nat) (s : Bool) : Nat := q / 2 + bif (q % 2 == 1) && (s || q / 2 % 2 == 1) then 1 else 0
/-- The word of w times 2 ^ (T - 199). -/
def mB (neg : Bool) (T w : Nat) : Nat := bif w == 9007199254740992 then fbits neg (T + 876) 4503599627370496 else fbits neg (T + 875) w
def meanB (neg : Bool) (N n : Nat) : Nat := mB neg (mT N n) (mW (mQ N n) (mS N n))

theorem bitLen_54 {q : Nat} (h1 : 9007199254740992 ≤ q) (h2 : q < 18014398509481984) : bitLen q = 54 := by
  unfold bitLen
  rw [if_neg (by omega)]
  have : q.log2 = 53 := (Nat.log2_eq_iff (by omega)).2 ⟨by omega, by omega⟩
  omega
/-- q bits of the quotient, at the place T. -/
structure MeanOk (N n T q : Nat) (s : Bool) : Prop where
  hq : q = N * 2 ^ 200 / (n * 2 ^ T)
  hs : s = decide (N * 2 ^ 200 % (n * 2 ^ T) ≠ 0)
  h1 : 9007199254740992 ≤ q
  h2 : q < 18014398509481984
theorem MeanOk.uniq {N n T q : Nat} {s : Bool} (h : MeanOk N n T q s) : T = mT N n ∧ q = mQ N n ∧ s = mS N n := by
  have hT : T = mT N n := by
    have e := h.hq
    rw [← Nat.div_div_eq_div_mul] at e
    have h3 := bitLen_shift (N * 2 ^ 200 / n) T (by rw [← e]; have := h.h1; omega)
    rw [← e, bitLen_54 h.h1 h.h2] at h3
    unfold mT
    rw [h3]; omega
  subst hT
  exact ⟨rfl, h.hq, h.hs⟩
theorem MeanOk.range {N n T q : Nat} {s : Bool} (h : MeanOk N n T q s) (hN : N < 2 ^ 128) (hN0 : 0 < N) (hn : n < 2 ^ 64) (hn0 : 0 < n) : 80 ≤ T ∧ T ≤ 300 := by
  have hp : 0 < 2 ^ T := Nat.pow_pos (by decide)
  have hnT : 0 < n * 2 ^ T := Nat.mul_pos hn0 hp
  constructor
  · rcases Nat.lt_or_ge T 80 with hlt | hge
    · exfalso
      have h2 := h.h2
      rw [h.hq, Nat.div_lt_iff_lt_mul hnT] at h2
      have h3 : n * 2 ^ T ≤ 2 ^ 64 * 2 ^ 79 := Nat.mul_le_mul (Nat.le_of_lt hn) (Nat.pow_le_pow_right (by decide) (by omega))
      have h4 : 18014398509481984 * (n * 2 ^ T) ≤ 18014398509481984 * (2 ^ 64 * 2 ^ 79) := Nat.mul_le_mul_left _ h3
      have h5 : 1 * 2 ^ 200 ≤ N * 2 ^ 200 := Nat.mul_le_mul_right _ hN0
      have h6 : 18014398509481984 * (2 ^ 64 * 2 ^ 79) ≤ 1 * 2 ^ 200 := by decide
      omega
    · exact hge
  · rcases Nat.lt_or_ge 300 T with hlt | hge
    · exfalso
      have h1 := h.h1
      rw [h.hq, Nat.le_div_iff_mul_le hnT] at h1
      have h3 : 1 * 2 ^ 301 ≤ n * 2 ^ T := Nat.mul_le_mul hn0 (Nat.pow_le_pow_right (by decide) hlt)
      have h4 : 9007199254740992 * (1 * 2 ^ 301) ≤ 9007199254740992 * (n * 2 ^ T) := Nat.mul_le_mul_left _ h3
      have h5 : N * 2 ^ 200 < 2 ^ 128 * 2 ^ 200 := Nat.mul_lt_mul_of_pos_right hN (by decide)
      have h6 : 2 ^ 128 * 2 ^ 200 ≤ 9007199254740992 * (1 * 2 ^ 301) := by decide
      omega
    · exact hge
theorem mW_range {q : Nat} (s : Bool) (h1 : 9007199254740992 ≤ q) (h2 : q < 18014398509481984) : 4503599627370496 ≤ mW q s ∧ mW q s ≤ 9007199254740992 := by
  unfold mW
  cases (q % 2 == 1) && (s || q / 2 % 2 == 1) <;> simp only [cond_true, cond_false] <;> omega

/-- So many bits up (k), so many down (j): the same, told with 200. -/
theorem mean_of {N n k j q : Nat} {s : Bool} (hk : k ≤ 200) (hq : q = N * 2 ^ k / (n * 2 ^ j)) (hs : s = decide (N * 2 ^ k % (n * 2 ^ j) ≠ 0)) (h1 : 9007199254740992 ≤ q) (h2 : q < 18014398509481984) :
    MeanOk N n (200 - k + j) q s := by
  have hp : 0 < 2 ^ (200 - k) := Nat.pow_pos (by decide)
  have e1 : N * 2 ^ 200 = N * 2 ^ k * 2 ^ (200 - k) := by rw [Nat.mul_assoc, ← Nat.pow_add, show k + (200 - k) = 200 from by omega]
  have e2 : n * 2 ^ (200 - k + j) = n * 2 ^ j * 2 ^ (200 - k) := by rw [Nat.mul_assoc, ← Nat.pow_add, Nat.add_comm j]
  refine ⟨?_, ?_, h1, h2⟩
  · rw [e1, e2, Nat.mul_div_mul_right _ _ hp]; exact hq
  · rw [e1, e2, Nat.mul_mod_mul_right, hs, decide_eq_decide]
    have : N * 2 ^ k % (n * 2 ^ j) * 2 ^ (200 - k) = 0 ↔ N * 2 ^ k % (n * 2 ^ j) = 0 := by
      rw [Nat.mul_eq_zero]
      exact ⟨fun h => h.resolve_right (by omega), .inl⟩
    omega
/-- One bit more up. -/
theorem up_step (X n : Nat) (hn : 0 < n) : (X * 2) / n = X / n * 2 + (if n ≤ X % n * 2 then 1 else 0) ∧ (X * 2) % n = (if n ≤ X % n * 2 then X % n * 2 - n else X % n * 2) := by
  have h := Nat.div_add_mod X n
  have hlt := Nat.mod_lt X hn
  have e : X * 2 = X % n * 2 + n * (X / n * 2) := by
    rw [← Nat.mul_assoc]
    generalize n * (X / n) = p at *
    omega
  rw [e, Nat.add_mul_div_left _ _ hn, Nat.add_mul_mod_self_left]
  split
  · rename_i h1
    have e2 : X % n * 2 = (X % n * 2 - n) + n * 1 := by omega
    constructor
    · rw [e2, Nat.add_mul_div_left _ _ hn, Nat.div_eq_of_lt (by omega)]; omega
    · conv => lhs; rw [e2]
      rw [Nat.add_mul_mod_self_left, Nat.mod_eq_of_lt (by omega)]
  · rename_i h1
    constructor
    · rw [Nat.div_eq_of_lt (by omega)]; omega
    · rw [Nat.mod_eq_of_lt (by omega)]
/-- One bit more down. -/
theorem down_step (X m : Nat) (hm : 0 < m) : X / (m * 2) = X / m / 2 ∧ (X % (m * 2) ≠ 0 ↔ X % m ≠ 0 ∨ X / m % 2 = 1) := by
  refine ⟨(Nat.div_div_eq_div_mul _ _ _).symm, ?_⟩
  rw [Nat.mod_mul]
  have h2 := Nat.mod_two_eq_zero_or_one (X / m)
  rcases h2 with h2 | h2 <;> rw [h2] <;> omega
end Go.Proofs.Ytckcagmlippneaa
