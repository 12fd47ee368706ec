/- WideMeanGoes: the plain law of means: they go up, they turn; of n times a whole number it is that number. -/
import Derived.Test.YtckcagmlippneaaWM3
namespace Go.Proofs.Ytckcagmlippneaa
open Go Go.Pv Go.RowKit
set_option linter.unusedSimpArgs false
set_option linter.unusedVariables false
set_option maxRecDepth 10000
set_option exponentiation.threshold 2000

theorem mW_mono {q q' : Nat} {s s' : Bool} (h : q < q' ∨ (q = q' ∧ (s = true → s' = true))) : mW q s ≤ mW q' s' := by
  unfold mW
  rcases h with h | ⟨rfl, h⟩
  · by_cases ho : q % 2 = 1
    · have h1 : q / 2 + 1 ≤ q' / 2 := by omega
      have : (bif (q % 2 == 1) && (s || q / 2 % 2 == 1) then 1 else 0) ≤ 1 := by cases ((q % 2 == 1) && (s || q / 2 % 2 == 1)) <;> decide
      omega
    · have : (q % 2 == 1) = false := by simpa using ho
      rw [this, Bool.false_and, cond_false]
      have h1 : q / 2 ≤ q' / 2 := by omega
      omega
  · cases s with
    | false =>
      cases s' with
      | false => exact Nat.le_refl _
      | true =>
        cases (q % 2 == 1) <;> cases (q / 2 % 2 == 1) <;> simp
    | true => rw [h rfl]; exact Nat.le_refl _
theorem rk_core {X X' m T T' q q' : Nat} {s s' : Bool} (hX : X ≤ X') (hm : 0 < m) (hq : q = X / (m * 2 ^ T)) (hs : s = decide (X % (m * 2 ^ T) ≠ 0)) (h1 : 9007199254740992 ≤ q) (h2 : q < 18014398509481984)
    (hq' : q' = X' / (m * 2 ^ T')) (hs' : s' = decide (X' % (m * 2 ^ T') ≠ 0)) (h1' : 9007199254740992 ≤ q') (h2' : q' < 18014398509481984) :
    (T + 875) * 4503599627370496 + mW q s ≤ (T' + 875) * 4503599627370496 + mW q' s' := by
  have hD : 0 < m * 2 ^ T := Nat.mul_pos hm (Nat.pow_pos (by decide))
  have hD' : 0 < m * 2 ^ T' := Nat.mul_pos hm (Nat.pow_pos (by decide))
  have r1 := mW_range s h1 h2
  have r2 := mW_range s' h1' h2'
  rcases Nat.lt_trichotomy T T' with hT | hT | hT
  · generalize mW q s = w at *
    generalize mW q' s' = w' at *
    clear hq hs hq' hs' hX hD hD'
    omega
  · subst hT
    have hle : q ≤ q' := by rw [hq, hq']; exact Nat.div_le_div_right hX
    refine Nat.add_le_add_left (mW_mono ?_) _
    rcases Nat.lt_or_ge q q' with hlt | hge
    · exact .inl hlt
    · have he : q = q' := Nat.le_antisymm hle hge
      refine .inr ⟨he, fun hst => ?_⟩
      rw [hs] at hst
      have hst := of_decide_eq_true hst
      rw [hs']
      refine decide_eq_true fun h0 => ?_
      have e1 := Nat.div_add_mod X (m * 2 ^ T)
      have e2 := Nat.div_add_mod X' (m * 2 ^ T)
      rw [← hq] at e1
      rw [← hq', h0, ← he] at e2
      generalize m * 2 ^ T = D at *
      generalize D * q = Y at *
      clear hq hq' hs hs'
      omega
  · exfalso
    have g1 : 9007199254740992 * (m * 2 ^ T) ≤ X := by rw [← Nat.le_div_iff_mul_le hD, ← hq]; exact h1
    have g2 : X' < 18014398509481984 * (m * 2 ^ T') := by rw [← Nat.div_lt_iff_lt_mul hD', ← hq']; exact h2'
    have g3 : m * 2 ^ T' * 2 ≤ m * 2 ^ T := by
      rw [Nat.mul_assoc, ← Nat.pow_succ]
      exact Nat.mul_le_mul_left _ (Nat.pow_le_pow_right (by decide) hT)
    clear hq hq' hs hs'
    generalize m * 2 ^ T = D at *
    generalize m * 2 ^ T' = D' at *
    omega
theorem rk_mono {N N' m T T' q q' : Nat} {s s' : Bool} (h : MeanOk N m T q s) (h' : MeanOk N' m T' q' s') (hm : 0 < m) (hN : N ≤ N') : (T + 875) * 4503599627370496 + mW q s ≤ (T' + 875) * 4503599627370496 + mW q' s' :=
  rk_core (Nat.mul_le_mul_right _ hN) hm h.hq h.hs h.h1 h.h2 h'.hq h'.hs h'.h1 h'.h2

/-- The rung of a mean. -/
def rkM (N m : Nat) : Nat := (mT N m + 875) * 4503599627370496 + mW (mQ N m) (mS N m)
theorem mean_at (N m : Nat) (hN : 0 < N) (hm : 0 < m) (hm2 : m < 9223372036854775808) : MeanOk N m (mT N m) (mQ N m) (mS N m) := by
  obtain ⟨T, hT, h1, h2⟩ := cut_54 (Xs N 0 / m) (by
    rcases Nat.lt_or_ge (Xs N 0 / m) 18014398509481984 with h | h
    · exact (no_zero N m hm hm2 h hN).elim
    · exact h)
  have e : Xs N 0 / m / 2 ^ T = Xs N T / m := by
    rw [quo_of, quo_of, Nat.pow_zero, Nat.mul_one, Nat.div_div_eq_div_mul]
  rw [e] at h1 h2
  have hok := meanOk_of N m T h1 h2
  obtain ⟨a, b, c⟩ := hok.uniq
  rw [← a, ← b, ← c]; exact hok
theorem ref_at (x : Int) (m : Nat) (hx : in128 x) (hm : 0 < m) (hm2 : m < 9223372036854775808) (hx0 : x ≠ 0) : ∃ E M, FOk E M ∧ refF x m = fbits (decide (x < 0)) E M ∧ E * 4503599627370496 + M = rkM x.natAbs m := by
  have hok := mean_at x.natAbs m (by omega) hm hm2
  have hrg := hok.range (by have := hx.1; have := hx.2; omega) (by omega) (Nat.lt_trans hm2 (by decide)) hm
  have hw := mW_range (mS x.natAbs m) hok.h1 hok.h2
  have e : refF x m = mB (decide (x < 0)) (mT x.natAbs m) (mW (mQ x.natAbs m) (mS x.natAbs m)) := by unfold refF meanB; rw [if_neg hx0]
  rw [e]
  unfold rkM
  generalize mW (mQ x.natAbs m) (mS x.natAbs m) = w at hw ⊢
  generalize mT x.natAbs m = T at hrg ⊢
  by_cases hb : w = 9007199254740992
  · rw [hb, mB_max]; exact ⟨_, _, ⟨by decide, by decide, by omega⟩, rfl, by omega⟩
  · rw [mB_lt _ _ hb]; exact ⟨_, _, ⟨hw.1, Nat.lt_of_le_of_ne hw.2 hb, by omega⟩, rfl, rfl⟩
theorem rkM_mono {N N' m : Nat} (hN : 0 < N) (h : N ≤ N') (hm : 0 < m) (hm2 : m < 9223372036854775808) : rkM N m ≤ rkM N' m :=
  rk_mono (mean_at N m hN hm hm2) (mean_at N' m (by omega) hm hm2) hm h

theorem rk_pos (N m : Nat) : 0 < rkM N m := by
  unfold rkM
  generalize mT N m = T
  generalize mW (mQ N m) (mS N m) = w
  omega
attribute [local irreducible] rkM
/-- Where a number lies: its sign, its rung. -/
def rg (x : Int) (r : Nat) : Int := if x = 0 then 0 else rungI (decide (x < 0)) r
def rgI (x : Int) (m : Nat) : Int := rg x (rkM x.natAbs m)
theorem rg_0 (r : Nat) : rg 0 r = 0 := rfl
theorem rg_neg {x : Int} (h : x < 0) (r : Nat) : rg x r = -(r : Int) := by unfold rg rungI; rw [if_neg (by omega), decide_eq_true h]; rfl
theorem rg_pos {x : Int} (h : 0 < x) (r : Nat) : rg x r = (r : Int) := by unfold rg rungI; rw [if_neg (by omega), decide_eq_false (by omega)]; rfl
theorem rg_le {x y : Int} {r r' : Nat} (p1 : 0 < r) (p2 : 0 < r') (h : x ≤ y) (g1 : x < 0 → y < 0 → r' ≤ r) (g2 : 0 < x → 0 < y → r ≤ r') : rg x r ≤ rg y r' := by
  rcases Int.lt_trichotomy x 0 with hx | hx | hx <;> rcases Int.lt_trichotomy y 0 with hy | hy | hy
  · rw [rg_neg hx, rg_neg hy]; have := g1 hx hy; omega
  · subst hy; rw [rg_neg hx, rg_0]; omega
  · rw [rg_neg hx, rg_pos hy]; omega
  · omega
  · subst hx; subst hy; rw [rg_0, rg_0]; exact Int.le_refl _
  · subst hx; rw [rg_0, rg_pos hy]; omega
  · omega
  · omega
  · rw [rg_pos hx, rg_pos hy]; have := g2 hx hy; omega
theorem cmp_is (a b : Int) : compare a b = if a < b then .lt else if a = b then .eq else .gt := rfl
theorem cmp_lt {a b : Int} (h : a < b) : compare a b = .lt := by rw [cmp_is, if_pos h]
theorem cmp_gt {a b : Int} (h : b < a) : compare a b = .gt := by rw [cmp_is, if_neg (by omega), if_neg (by omega)]
theorem cmp_eq {a b : Int} (h : a = b) : compare a b = .eq := by rw [cmp_is, if_neg (by omega), if_pos h]
/-- A mean's word: 0, or a number with a sign and a rung. -/
inductive FW : Int → Nat → Nat → Prop
  | zero (r : Nat) : FW 0 r 0
  | num (x : Int) (r E M : Nat) (hx : x ≠ 0) (h : FOk E M) (hr : r = E * 4503599627370496 + M) : FW x r (fbits (decide (x < 0)) E M)
theorem FW.order {x y : Int} {r r' f g : Nat} (h : FW x r f) (h' : FW y r' g) : Ieee.double.order f g = some (compare (rg x r) (rg y r')) := by
  cases h with
  | zero r =>
    cases h' with
    | zero r' => rw [order_00, rg_0, rg_0, cmp_eq rfl]
    | num y r' E M hy h hr =>
      rw [order_0f h, rg_0]
      have hp : 0 < r' := by have := h.lo; omega
      rcases Int.lt_or_gt_of_ne hy with hs | hs
      · rw [decide_eq_true hs, rg_neg hs, cmp_gt (by omega)]; rfl
      · rw [decide_eq_false (by omega), rg_pos hs, cmp_lt (by omega)]; rfl
  | num x r E M hx h hr =>
    have hp : 0 < r := by have := h.lo; omega
    cases h' with
    | zero r' =>
      rw [order_f0 h, rg_0]
      rcases Int.lt_or_gt_of_ne hx with hs | hs
      · rw [decide_eq_true hs, rg_neg hs, cmp_lt (by omega)]; rfl
      · rw [decide_eq_false (by omega), rg_pos hs, cmp_gt (by omega)]; rfl
    | num y r' E' M' hy h' hr' =>
      rw [order_fbits h h' _ _ hr hr']
      unfold rg
      rw [if_neg hx, if_neg hy]
theorem ref_fw (x : Int) (m : Nat) (hx : in128 x) (hm : 0 < m) (hm2 : m < 9223372036854775808) : FW x (rkM x.natAbs m) (refF x m) := by
  by_cases hx0 : x = 0
  · subst hx0; rw [refF_0]; exact .zero _
  · obtain ⟨E, M, h, e, hr⟩ := ref_at x m hx hm hm2 hx0
    rw [e]; exact .num x _ E M hx0 h hr.symm
theorem order_ref (x y : Int) (m : Nat) (hx : in128 x) (hy : in128 y) (hm : 0 < m) (hm2 : m < 9223372036854775808) : FloatKind.f64.format.order (refF x m) (refF y m) = some (compare (rgI x m) (rgI y m)) :=
  FW.order (ref_fw x m hx hm hm2) (ref_fw y m hy hm hm2)
theorem rg_mono {x y : Int} {m : Nat} (h : x ≤ y) (hm : 0 < m) (hm2 : m < 9223372036854775808) : rgI x m ≤ rgI y m :=
  rg_le (rk_pos _ _) (rk_pos _ _) h (fun h1 h2 => rkM_mono (by omega) (by omega) hm hm2) (fun h1 h2 => rkM_mono (by omega) (by omega) hm hm2)
theorem order_le {x y : Int} {m : Nat} (hx : in128 x) (hy : in128 y) (hm : 0 < m) (hm2 : m < 9223372036854775808) (h : x ≤ y) : (FloatKind.f64.format.order (refF x m) (refF y m) == some Ordering.gt) = false := by
  rw [order_ref x y m hx hy hm hm2]
  have := rg_mono (m := m) h hm hm2
  generalize rgI x m = a at *
  generalize rgI y m = b at *
  by_cases h1 : a < b
  · rw [cmp_lt h1]; rfl
  · rw [cmp_eq (by omega)]; rfl
theorem order_ge {x y : Int} {m : Nat} (hx : in128 x) (hy : in128 y) (hm : 0 < m) (hm2 : m < 9223372036854775808) (h : y ≤ x) : (FloatKind.f64.format.order (refF x m) (refF y m) == some Ordering.lt) = false := by
  rw [order_ref x y m hx hy hm hm2]
  have := rg_mono (m := m) h hm hm2
  generalize rgI x m = a at *
  generalize rgI y m = b at *
  by_cases h1 : a = b
  · rw [cmp_eq h1]; rfl
  · rw [cmp_gt (by omega)]; rfl
theorem order_self (x : Int) (m : Nat) (hx : in128 x) (hm : 0 < m) (hm2 : m < 9223372036854775808) : (FloatKind.f64.format.order (refF x m) (refF x m) == some Ordering.eq) = true := by
  rw [order_ref x x m hx hx hm hm2, cmp_eq rfl]; rfl

/-- 0 less a number. -/
theorem sub_fbits {E M : Nat} (h : FOk E M) (s : Bool) : floatBits .sub .f64 0 (fbits s E M) = some (fbits (!s) E M) := by
  show Ieee.Format.sub Ieee.double 0 (fbits s E M) = _
  unfold Ieee.Format.sub
  rw [read_0, read_fbits h]
  simp only [Ieee.Datum.opposite, Ieee.Datum.sum, signed_eq]
  have e0 : min (-1074 : Int) ((E : Int) - 1074) = -1074 := by omega
  have e1 : ((E : Int) - 1074 - -1074).toNat = E := by omega
  have e2 : ((-1074 : Int) - -1074).toNat = 0 := by omega
  rw [e0, e1, e2]
  have hp : 0 < M * 2 ^ E := Nat.mul_pos (by have := h.lo; omega) (Nat.pow_pos (by decide))
  have hz : rungI false (0 * 2 ^ 0) = 0 := rfl
  rw [hz]
  have hn := nearest_fbits h (!s) E (-1074) (by omega)
  generalize M * 2 ^ E = V at hp hn ⊢
  have ht : ∀ b : Bool, 0 + rungI b V = rungI b V := fun b => by omega
  rw [ht]
  have h1 : ¬ rungI (!s) V = 0 := by cases s <;> simp [rungI] <;> omega
  have h2 : decide (rungI (!s) V < 0) = !s := by cases s <;> simp [rungI] <;> omega
  have h3 : (rungI (!s) V).natAbs = V := by cases s <;> simp [rungI]
  rw [if_neg h1, h2, h3]
  show some (Ieee.double.nearest (!s) V (-1074)) = _
  rw [hn]
theorem sub_00 : floatBits .sub .f64 0 0 = some 0 := by decide +kernel
theorem turned (x : Int) (m : Nat) (hx : in128 x) (hm : 0 < m) (hm2 : m < 9223372036854775808) (hl : x ≠ -170141183460469231731687303715884105728) : floatBits .sub .f64 0 (refF x m) = some (refF (-x) m) := by
  by_cases hx0 : x = 0
  · subst hx0; rw [refF_0, sub_00]; rfl
  · obtain ⟨E, M, h, e, hr⟩ := ref_at x m hx hm hm2 hx0
    obtain ⟨E', M', h', e', hr'⟩ := ref_at (-x) m (by unfold in128 at *; omega) hm hm2 (by omega)
    rw [Int.natAbs_neg, ← hr] at hr'
    have := h.lo; have := h.hi; have := h'.lo; have := h'.hi
    have hE : E' = E := by clear e e'; omega
    subst hE
    have hM : M' = M := by clear e e'; omega
    subst hM
    rw [e, sub_fbits h, e']
    congr 2
    rcases Int.lt_or_gt_of_ne hx0 with hs | hs
    · rw [decide_eq_true hs, decide_eq_false (by omega)]; rfl
    · rw [decide_eq_false (by omega), decide_eq_true (by omega)]; rfl
/-- A number below 2 ^ 53 is told as it is. -/
theorem nearest_small {E M n i : Nat} (h : FOk E M) (neg : Bool) (hn : n * 2 ^ i = M) (p : Int) (hp : p = (E : Int) - 1074 + i) : Ieee.double.nearest neg n p = fbits neg E M := by
  obtain ⟨h1, h2, h3⟩ := h
  subst hp
  have hn0 : ¬ n = 0 := by rintro rfl; omega
  have hi : i ≤ 52 := by
    rcases Nat.lt_or_ge 52 i with hlt | hge
    · exfalso
      have h5 : 2 ^ 53 ≤ 2 ^ i := Nat.pow_le_pow_right (by decide) hlt
      have h6 : 1 * 2 ^ i ≤ n * 2 ^ i := Nat.mul_le_mul_right _ (by omega)
      omega
    · exact hge
  have hl : n.log2 = 52 - i := by
    refine (Nat.log2_eq_iff hn0).2 ⟨?_, ?_⟩
    · refine Nat.le_of_mul_le_mul_right (c := 2 ^ i) ?_ (Nat.pow_pos (by decide))
      rw [← Nat.pow_add, hn, show 52 - i + i = 52 by omega]; exact h1
    · refine Nat.lt_of_mul_lt_mul_right (a := 2 ^ i) ?_
      rw [← Nat.pow_add, hn, show 52 - i + 1 + i = 53 by omega]; exact h2
  have hfb : ((Ieee.double.fractionBits : Nat) : Int) = 52 := rfl
  unfold Ieee.Format.nearest
  rw [if_neg hn0, hl, f_lp, f_bin, f_inf, hfb]
  have e0 : max ((E : Int) - 1074 + (i : Int) + ((52 - i : Nat) : Int) - 52) (-1074) = (E : Int) - 1074 := by omega
  simp only [e0]
  have e1 : ((E : Int) - 1074 + (i : Int) - ((E : Int) - 1074)).toNat = i := by omega
  have e2 : ((E : Int) - 1074 - ((E : Int) - 1074 + (i : Int))).toNat = 0 := by omega
  have e3 : ((E : Int) - 1074 - -1074).toNat = E := by omega
  have hc := cut_exact neg M 0 _ rfl (Nat.zero_le _)
  rw [Nat.pow_zero, Nat.mul_one] at hc
  rw [e1, e2, e3, Nat.shiftLeft_eq, hn, hc]
  exact congrArg (Ieee.double.word neg) (Nat.min_eq_left (by omega))
theorem whole_at (n : Nat) (h0 : 0 < n) (h : n < 9007199254740992) : ∃ i M, i ≤ 52 ∧ n * 2 ^ i = M ∧ 4503599627370496 ≤ M ∧ M < 9007199254740992 := by
  have hl := Nat.log2_self_le (n := n) (by omega)
  have hl2 := Nat.lt_log2_self (n := n)
  have h52 : n.log2 ≤ 52 := by
    have : n.log2 < 53 := (Nat.log2_lt (by omega)).2 h
    omega
  refine ⟨52 - n.log2, _, by omega, rfl, ?_, ?_⟩
  · have := Nat.mul_le_mul_right (2 ^ (52 - n.log2)) hl
    rw [← Nat.pow_add, show n.log2 + (52 - n.log2) = 52 by omega] at this
    exact this
  · have := Nat.mul_lt_mul_of_pos_right hl2 (Nat.pow_pos (n := 52 - n.log2) (show 0 < 2 by decide))
    rw [← Nat.pow_add, show n.log2 + 1 + (52 - n.log2) = 53 by omega] at this
    exact this
theorem mean_whole_core {n m i M K : Nat} (hm : 0 < m) (hi : i ≤ 52) (hn : n * 2 ^ i = M) (h1 : 4503599627370496 ≤ M) (h2 : M < 9007199254740992) (hK : 60 ≤ K) :
    (n * m * 2 ^ K) / (m * 2 ^ (K - i - 1)) = M * 2 ∧ (n * m * 2 ^ K) % (m * 2 ^ (K - i - 1)) = 0 := by
  have e : n * m * 2 ^ K = (M * 2) * (m * 2 ^ (K - i - 1)) := by
    rw [← hn, show K = i + (1 + (K - i - 1)) by omega, Nat.pow_add, Nat.pow_add, show i + (1 + (K - i - 1)) - i - 1 = K - i - 1 by omega, Nat.pow_one]
    ac_rfl
  have hp : 0 < m * 2 ^ (K - i - 1) := Nat.mul_pos hm (Nat.pow_pos (by decide))
  rw [e]
  exact ⟨Nat.mul_div_cancel _ hp, Nat.mul_mod_left _ _⟩
theorem mean_whole (j : Int) (m : Nat) (hm : 0 < m) (hm2 : m < 9223372036854775808) (hj : j.natAbs < 9007199254740992) : refF (j * m) m = FloatKind.f64.nearest j := by
  by_cases hj0 : j = 0
  · subst hj0; rw [Int.zero_mul, refF_0]; decide +kernel
  obtain ⟨i, M, hi, hn, h1, h2⟩ := whole_at j.natAbs (by omega) hj
  have hx0 : j * (m : Int) ≠ 0 := Int.mul_ne_zero hj0 (by omega)
  have hab : (j * (m : Int)).natAbs = j.natAbs * m := by rw [Int.natAbs_mul, Int.natAbs_natCast]
  obtain ⟨q1, q2⟩ := mean_whole_core (K := 200) hm hi hn h1 h2 (by decide)
  have hok : MeanOk (j * (m : Int)).natAbs m (200 - i - 1) (M * 2) false := by
    rw [hab]
    exact ⟨q1.symm, by rw [q2]; rfl, by omega, by omega⟩
  obtain ⟨u1, u2, u3⟩ := hok.uniq
  have hw : mW (M * 2) false = M := by
    unfold mW
    rw [show (M * 2 % 2 == 1) = false by simp, Bool.false_and, cond_false]; omega
  have hsg : decide (j * (m : Int) < 0) = decide (j < 0) := by
    refine decide_eq_decide.2 ⟨fun h => ?_, fun h => ?_⟩
    · rcases Int.lt_or_le j 0 with hs | hs
      · exact hs
      · exact absurd (Int.mul_nonneg hs (Int.natCast_nonneg m)) (by omega)
    · exact Int.mul_neg_of_neg_of_pos h (by omega)
  have hnr : FloatKind.f64.nearest j = Ieee.double.nearest (decide (j < 0)) j.natAbs 0 := rfl
  rw [hnr, nearest_small (E := 1074 - i) ⟨h1, h2, by omega⟩ (decide (j < 0)) hn 0 (by omega)]
  unfold refF meanB
  rw [if_neg hx0, ← u1, ← u2, ← u3, hw, hsg, mB_lt _ _ (by omega), show 200 - i - 1 + 875 = 1074 - i by omega]
end Go.Proofs.Ytckcagmlippneaa
