/- Sets of bits as words of 64: which bit says what; how many are set. No program in sight. -/
import Derived.Test.YthbjeeipeadilaaGreatPvS
set_option linter.unusedSimpArgs false
set_option linter.unusedVariables false
set_option maxRecDepth 10000
namespace Go.Pv
open Go

/-- The number whose lowest bits are these. -/
def bn : List Bool → Nat
  | [] => 0
  | b :: l => b.toNat + 2 * bn l
theorem bn_lt : ∀ l : List Bool, bn l < 2 ^ l.length
  | [] => by simp [bn]
  | b :: l => by
    have := bn_lt l
    have hb : b.toNat ≤ 1 := Bool.toNat_le b
    simp only [bn, List.length_cons, Nat.pow_succ]; omega
theorem bn_bit : ∀ (l : List Bool) (i : Nat), (bn l).testBit i = (l[i]?).getD false
  | [], i => by simp [bn]
  | b :: l, 0 => by
    simp only [bn, List.getElem?_cons_zero, Option.getD_some, Nat.testBit_zero]
    cases b <;> simp <;> omega
  | b :: l, i + 1 => by
    have e : (b.toNat + 2 * bn l) / 2 = bn l := by have := Bool.toNat_le b; omega
    simp only [bn, Nat.testBit_succ, List.getElem?_cons_succ, e]
    exact bn_bit l i
/-- A set's word number j, and all of them. -/
def wd (l : List Bool) (j : Nat) : Nat := bn ((l.drop (64 * j)).take 64)
def wds (l : List Bool) : List Nat := (List.range ((l.length + 63) / 64)).map (wd l)
theorem wds_length (l : List Bool) : (wds l).length = (l.length + 63) / 64 := by simp [wds]
theorem wd_lt (l : List Bool) (j : Nat) : wd l j < 2 ^ 64 := by
  refine Nat.lt_of_lt_of_le (bn_lt _) (Nat.pow_le_pow_right (by omega) ?_)
  simp; omega
theorem wds_get {l : List Bool} {j : Nat} (h : j < (l.length + 63) / 64) : (wds l)[j]? = some (wd l j) := by
  unfold wds; rw [List.getElem?_map, List.getElem?_range h]; rfl
theorem wd_bit (l : List Bool) (j i : Nat) : (wd l j).testBit i = if i < 64 then (l[64 * j + i]?).getD false else false := by
  unfold wd
  rw [bn_bit, List.getElem?_take]
  by_cases h : i < 64
  · rw [if_pos h, if_pos h, List.getElem?_drop]
  · rw [if_neg h, if_neg h]; rfl
theorem lt64_ext {a b : Nat} (h : ∀ i, i < 64 → a.testBit i = b.testBit i) (ha : a < 2 ^ 64) (hb : b < 2 ^ 64) : a = b := by
  apply Nat.eq_of_testBit_eq
  intro i
  by_cases hi : i < 64
  · exact h i hi
  · have : 2 ^ 64 ≤ 2 ^ i := Nat.pow_le_pow_right (by omega) (by omega)
    rw [Nat.testBit_lt_two_pow (by omega), Nat.testBit_lt_two_pow (by omega)]
theorem wds_ext {ws : List Nat} {l : List Bool} (hl : ws.length = (l.length + 63) / 64) (h : ∀ (j w : Nat), ws[j]? = some w → w < 2 ^ 64 ∧ ∀ i, i < 64 → w.testBit i = (l[64 * j + i]?).getD false) : ws = wds l := by
  apply List.ext_getElem?
  intro j
  by_cases hj : j < (l.length + 63) / 64
  · rw [wds_get hj, List.getElem?_eq_getElem (by omega)]
    obtain ⟨h1, h2⟩ := h j _ (List.getElem?_eq_getElem (by omega))
    congr 1
    refine lt64_ext (fun i hi => ?_) h1 (wd_lt l j)
    rw [h2 i hi, wd_bit, if_pos hi]
  · rw [List.getElem?_eq_none (by omega), List.getElem?_eq_none (by rw [wds_length]; omega)]
theorem wds_false (n : Nat) : wds (List.replicate n false) = List.replicate ((n + 63) / 64) 0 := by
  refine (wds_ext (by simp) fun j w e => ?_).symm
  have hw := List.mem_of_getElem? e
  rw [List.mem_replicate] at hw
  rw [hw.2]
  refine ⟨by simp, fun i hi => ?_⟩
  rw [Nat.zero_testBit]
  cases e2 : (List.replicate n false)[64 * j + i]? with
  | none => rfl
  | some b => have := List.mem_of_getElem? e2; rw [List.mem_replicate] at this; simp [this.2]
theorem div_mod_64 {i j k : Nat} (hk : k < 64) : 64 * j + k = i ↔ j = i / 64 ∧ k = i % 64 := by omega
/-- One more. -/
theorem wds_put {l : List Bool} {i : Nat} (hi : i < l.length) : (wds l).set (i / 64) (wd l (i / 64) ||| 2 ^ (i % 64)) = wds (l.set i true) := by
  refine wds_ext (by simp [wds_length]) fun j w e => ?_
  rw [List.getElem?_set] at e
  have hlt : (2 : Nat) ^ (i % 64) < 2 ^ 64 := Nat.pow_lt_pow_right (by omega) (by omega)
  by_cases hj : i / 64 = j
  · subst hj
    rw [if_pos rfl, wds_length, if_pos (by omega)] at e
    injection e with e; subst e
    refine ⟨Nat.or_lt_two_pow (wd_lt _ _) hlt, fun k hk => ?_⟩
    rw [Nat.testBit_or, wd_bit, if_pos hk, Nat.testBit_two_pow, List.getElem?_set]
    by_cases hik : i = 64 * (i / 64) + k
    · rw [if_pos hik, if_pos hi, show i % 64 = k by omega]; simp
    · rw [if_neg hik, decide_eq_false (by omega), Bool.or_false]
  · rw [if_neg hj] at e
    have hjl : j < (l.length + 63) / 64 := by have := (List.getElem?_eq_some_iff.1 e).1; rwa [wds_length] at this
    rw [wds_get hjl] at e
    injection e with e; subst e
    refine ⟨wd_lt _ _, fun k hk => ?_⟩
    rw [wd_bit, if_pos hk, List.getElem?_set, if_neg (by omega)]
/-- One less. -/
theorem wds_take {l : List Bool} {i : Nat} (hi : i < l.length) : (wds l).set (i / 64) (wd l (i / 64) &&& (2 ^ 64 - 1 - 2 ^ (i % 64))) = wds (l.set i false) := by
  refine wds_ext (by simp [wds_length]) fun j w e => ?_
  rw [List.getElem?_set] at e
  have hlt : (2 : Nat) ^ (i % 64) < 2 ^ 64 := Nat.pow_lt_pow_right (by omega) (by omega)
  by_cases hj : i / 64 = j
  · subst hj
    rw [if_pos rfl, wds_length, if_pos (by omega)] at e
    injection e with e; subst e
    refine ⟨Nat.and_lt_two_pow _ (Nat.lt_of_le_of_lt (Nat.sub_le _ _) (by decide)), fun k hk => ?_⟩
    rw [Nat.testBit_and, wd_bit, if_pos hk, show 2 ^ 64 - 1 - 2 ^ (i % 64) = 2 ^ 64 - (2 ^ (i % 64) + 1) by omega, Nat.testBit_two_pow_sub_succ hlt, Nat.testBit_two_pow, List.getElem?_set]
    by_cases hik : i = 64 * (i / 64) + k
    · rw [if_pos hik, if_pos hi, show i % 64 = k by omega]; simp
    · rw [if_neg hik, decide_eq_false (show ¬ i % 64 = k by omega), decide_eq_true hk]; simp
  · rw [if_neg hj] at e
    have hjl : j < (l.length + 63) / 64 := by have := (List.getElem?_eq_some_iff.1 e).1; rwa [wds_length] at this
    rw [wds_get hjl] at e
    injection e with e; subst e
    refine ⟨wd_lt _ _, fun k hk => ?_⟩
    rw [wd_bit, if_pos hk, List.getElem?_set, if_neg (by omega)]

/-- How many of the k lowest bits are set. -/
def ones : Nat → Nat → Nat
  | 0, _ => 0
  | k + 1, x => x % 2 + ones k (x / 2)
theorem ones_le : ∀ (k x : Nat), ones k x ≤ k
  | 0, _ => Nat.le_refl _
  | k + 1, x => by have := ones_le k (x / 2); simp only [ones]; omega
theorem ones_bn : ∀ (l : List Bool) (k : Nat), l.length ≤ k → ones k (bn l) = l.count true
  | [], k, _ => by
    have : ∀ k, ones k 0 = 0 := fun k => by induction k with | zero => rfl | succ k ih => simp [ones, ih]
    simp [bn, this]
  | b :: l, 0, h => by simp at h
  | b :: l, k + 1, h => by
    have hb := Bool.toNat_le b
    have e1 : (b.toNat + 2 * bn l) % 2 = b.toNat := by omega
    have e2 : (b.toNat + 2 * bn l) / 2 = bn l := by omega
    simp only [ones, bn, e1, e2, ones_bn l k (by simpa using h)]
    cases b <;> simp; omega
theorem ones_split : ∀ (j k x : Nat), ones (j + k) x = ones j (x % 2 ^ j) + ones k (x / 2 ^ j)
  | 0, k, x => by simp [ones]
  | j + 1, k, x => by
    have h0 : 0 < 2 ^ j := Nat.pow_pos (by omega)
    rw [show j + 1 + k = (j + k) + 1 by omega]
    simp only [ones]
    rw [ones_split j k (x / 2), Nat.pow_succ, Nat.mul_comm (2 ^ j) 2, Nat.mod_mul_right_div_self, Nat.div_div_eq_div_mul, Nat.mod_mul_right_mod]
    omega
theorem bn_rep : ∀ (k : Nat) (l : List Bool), bn (List.replicate k false ++ l) = 2 ^ k * bn l
  | 0, l => by simp
  | k + 1, l => by
    rw [List.replicate_succ, List.cons_append]
    simp only [bn, bn_rep k l, Nat.pow_succ, Bool.toNat_false]
    rw [Nat.mul_comm (2 ^ k) 2, Nat.mul_assoc, Nat.zero_add]
theorem bn_app : ∀ (a b : List Bool), bn (a ++ b) = bn a + 2 ^ a.length * bn b
  | [], b => by simp [bn]
  | x :: a, b => by
    simp only [List.cons_append, bn, bn_app a b, List.length_cons, Nat.pow_succ]
    rw [Nat.mul_add, ← Nat.mul_assoc, Nat.mul_comm 2 (2 ^ a.length)]; omega
theorem ones_wd (l : List Bool) (j : Nat) : ones 64 (wd l j) = ((l.drop (64 * j)).take 64).count true := ones_bn _ 64 (by simp; omega)
/-- The first r of a word, moved up. -/
theorem ones_up (l : List Bool) (j r : Nat) (hr : r < 64) (hr0 : 0 < r) (hl : 64 * j + r ≤ l.length) : ones 64 (wd l j * 2 ^ (64 - r) % 2 ^ 64) = ((l.drop (64 * j)).take r).count true := by
  have e : (l.drop (64 * j)).take 64 = (l.drop (64 * j)).take r ++ ((l.drop (64 * j)).drop r).take (64 - r) := by
    have key : ∀ (m : Nat) (L : List Bool), r ≤ m → L.take m = L.take r ++ (L.drop r).take (m - r) := fun m L hm => by rw [← List.take_add]; congr 1; omega
    exact key 64 _ (by omega)
  have hlen : ((l.drop (64 * j)).take r).length = r := by simp; omega
  have e2 : 2 ^ (64 - r) * 2 ^ r = 2 ^ 64 := by rw [← Nat.pow_add]; congr 1; omega
  have e3 : wd l j * 2 ^ (64 - r) % 2 ^ 64 = bn (List.replicate (64 - r) false ++ (l.drop (64 * j)).take r) := by
    rw [bn_rep]
    unfold wd
    rw [e, bn_app, hlen, Nat.mul_comm, Nat.mul_add, ← Nat.mul_assoc, e2, Nat.add_mul_mod_self_left, Nat.mod_eq_of_lt]
    have := bn_lt ((l.drop (64 * j)).take r)
    rw [hlen] at this
    rw [← e2]
    exact Nat.mul_lt_mul_of_pos_left this (Nat.pow_pos (by omega))
  rw [e3, ones_bn _ 64 (by simp; omega), List.count_append, List.count_replicate]
  simp

/-- A number out of bytes. -/
def vl : List Nat → Nat
  | [] => 0
  | b :: bs => b + 256 * vl bs
theorem vl_lt : ∀ {bs : List Nat}, (∀ b ∈ bs, b < 256) → vl bs < 256 ^ bs.length
  | [], _ => by simp [vl]
  | b :: bs, h => by
    have h1 := h b (List.mem_cons_self ..)
    have h2 := vl_lt fun x hx => h x (List.mem_cons_of_mem _ hx)
    simp only [vl, List.length_cons, Nat.pow_succ]; omega
theorem vl_of : ∀ (n x : Nat), x < 256 ^ n → ∃ bs, bs.length = n ∧ (∀ b ∈ bs, b < 256) ∧ vl bs = x
  | 0, x, h => ⟨[], rfl, (fun _ h => by cases h), by simp at h; simp [vl, h]⟩
  | n + 1, x, h => by
    rw [Nat.pow_succ] at h
    obtain ⟨bs, h1, h2, h3⟩ := vl_of n (x / 256) (by omega)
    refine ⟨x % 256 :: bs, by simp [h1], fun b hb => ?_, by simp only [vl, h3]; omega⟩
    rcases List.mem_cons.1 hb with rfl | hb
    · omega
    · exact h2 b hb
theorem byte_and (k b y m M' : Nat) (hb : b < 256) (hk : k ≤ 8) (hm : m < 2 ^ (8 - k)) : ((b + 256 * y) / 2 ^ k &&& (m + 256 * M')) = (b / 2 ^ k &&& m) + 256 * (y / 2 ^ k &&& M') := by
  have hm8 : m < 2 ^ 8 := Nat.lt_of_lt_of_le hm (Nat.pow_le_pow_right (by omega) (by omega))
  have hbk : b / 2 ^ k &&& m < 2 ^ 8 := Nat.and_lt_two_pow _ hm8
  apply Nat.eq_of_testBit_eq
  intro i
  rw [show b + 256 * y = 2 ^ 8 * y + b by omega, show m + 256 * M' = 2 ^ 8 * M' + m by omega, show (b / 2 ^ k &&& m) + 256 * (y / 2 ^ k &&& M') = 2 ^ 8 * (y / 2 ^ k &&& M') + (b / 2 ^ k &&& m) by omega]
  rw [Nat.testBit_and, Nat.testBit_two_pow_mul_add _ hbk, Nat.testBit_two_pow_mul_add _ hm8, Nat.testBit_div_two_pow, Nat.testBit_two_pow_mul_add _ (by omega)]
  by_cases hi : i < 8
  · rw [if_pos hi, if_pos hi, Nat.testBit_and, Nat.testBit_div_two_pow]
    by_cases hik : i + k < 8
    · rw [if_pos hik]
    · rw [if_neg hik, Nat.testBit_lt_two_pow (x := m) (i := i) (Nat.lt_of_lt_of_le hm (Nat.pow_le_pow_right (by omega) (by omega)))]
      simp
  · rw [if_neg hi, if_neg hi, if_neg (by omega), Nat.testBit_and, Nat.testBit_div_two_pow, show i + k - 8 = i - 8 + k by omega]
theorem and_vl (k m : Nat) (hk : k ≤ 8) (hm : m < 2 ^ (8 - k)) : ∀ bs : List Nat, (∀ b ∈ bs, b < 256) → (vl bs / 2 ^ k &&& vl (List.replicate bs.length m)) = vl (bs.map fun b => b / 2 ^ k &&& m)
  | [], _ => by simp [vl]
  | b :: bs, h => by
    simp only [List.length_cons, List.replicate_succ, vl, List.map_cons]
    rw [byte_and k b (vl bs) m _ (h b (List.mem_cons_self ..)) hk hm, and_vl k m hk hm bs fun x hx => h x (List.mem_cons_of_mem _ hx)]
theorem vl_add (f g : Nat → Nat) : ∀ bs : List Nat, vl (bs.map f) + vl (bs.map g) = vl (bs.map fun b => f b + g b)
  | [] => rfl
  | b :: bs => by have := vl_add f g bs; simp only [List.map_cons, vl] at this ⊢; omega
theorem fold4 : ∀ bs : List Nat, (∀ b ∈ bs, b % 16 ≤ 4 ∧ b / 16 ≤ 4) → (vl bs / 16 + vl bs &&& vl (List.replicate bs.length 15)) = vl (bs.map fun b => (b / 16 + b) % 16) ∧ vl bs % 16 ≤ 4
  | [], _ => by simp [vl]
  | b :: bs, h => by
    have hb := h b (List.mem_cons_self ..)
    obtain ⟨ih, hv⟩ := fold4 bs fun x hx => h x (List.mem_cons_of_mem _ hx)
    refine ⟨?_, by simp only [vl]; omega⟩
    simp only [List.length_cons, List.replicate_succ, vl, List.map_cons]
    have e : (b + 256 * vl bs) / 16 + (b + 256 * vl bs) = (b / 16 + b + 16 * (vl bs % 16)) + 256 * (vl bs / 16 + vl bs) := by omega
    have := byte_and 0 (b / 16 + b + 16 * (vl bs % 16)) (vl bs / 16 + vl bs) 15 (vl (List.replicate bs.length 15)) (by omega) (by omega) (by decide)
    rw [Nat.pow_zero, Nat.div_one, Nat.div_one, Nat.div_one] at this
    rw [e, this, ih, show 15 = 2 ^ 4 - 1 from rfl, Nat.and_two_pow_sub_one_eq_mod]
    omega
theorem ones_vl : ∀ bs : List Nat, (∀ b ∈ bs, b < 256) → ones (8 * bs.length) (vl bs) = (bs.map (ones 8)).sum
  | [], _ => rfl
  | b :: bs, h => by
    have hb := h b (List.mem_cons_self ..)
    have ih := ones_vl bs fun x hx => h x (List.mem_cons_of_mem _ hx)
    simp only [List.length_cons, vl, List.map_cons, List.sum_cons]
    rw [show 8 * (bs.length + 1) = 8 + 8 * bs.length by omega, ones_split, show (b + 256 * vl bs) % 2 ^ 8 = b by omega, show (b + 256 * vl bs) / 2 ^ 8 = vl bs by omega, ih]
end Go.Pv
