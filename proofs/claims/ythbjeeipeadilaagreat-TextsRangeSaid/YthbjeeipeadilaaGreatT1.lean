/- TextsRanges: the plain law: lists of bytes, their order, beginnings, where a binary search ends. -/
import Derived.Test.YthbjeeipeadilaaGreatPvS
set_option linter.unusedSimpArgs false
set_option linter.unusedVariables false
namespace Go.Proofs.YthbjeeipeadilaaGreat
open Go Go.Pv

abbrev BL := List UInt8
def blt (a b : BL) : Bool := Op.bytesLess a b
def pre (b k : BL) : Bool := decide (b.length ≤ k.length) && decide (k.take b.length = b)
theorem blt_nil (a : BL) : blt a [] = false := by cases a <;> rfl
theorem blt_cons (a b : UInt8) (x y : BL) : blt (a :: x) (b :: y) = (decide (a < b) || (a == b && blt x y)) := rfl
theorem blt_irrefl : ∀ a : BL, blt a a = false
  | [] => rfl
  | a :: x => by rw [blt_cons, blt_irrefl x]; simp [UInt8.lt_irrefl]
theorem blt_trans : ∀ {a b c : BL}, blt a b = true → blt b c = true → blt a c = true
  | a, b, [], _, h => by rw [blt_nil] at h; cases h
  | a, [], c :: z, h, _ => by rw [blt_nil] at h; cases h
  | [], b :: y, c :: z, _, _ => rfl
  | a :: x, b :: y, c :: z, h1, h2 => by
    rw [blt_cons, Bool.or_eq_true, Bool.and_eq_true, decide_eq_true_iff, beq_iff_eq] at h1 h2 ⊢
    rcases h1 with h1 | ⟨rfl, h1⟩
    · rcases h2 with h2 | ⟨rfl, h2⟩
      · exact .inl (UInt8.lt_trans h1 h2)
      · exact .inl h1
    · rcases h2 with h2 | ⟨rfl, h2⟩
      · exact .inl h2
      · exact .inr ⟨rfl, blt_trans h1 h2⟩
theorem pre_cons (x y : UInt8) (b k : BL) : pre (x :: b) (y :: k) = ((y == x) && pre b k) := by
  unfold pre
  rw [Bool.eq_iff_iff]
  simp only [List.length_cons, List.take_succ_cons, Bool.and_eq_true, decide_eq_true_eq, beq_iff_eq, List.cons.injEq]
  constructor
  · rintro ⟨h1, h2, h3⟩; exact ⟨h2, by omega, h3⟩
  · rintro ⟨h2, h1, h3⟩; exact ⟨by omega, h2, h3⟩
theorem pre_nil (k : BL) : pre [] k = true := by simp [pre]
theorem pre_cons_nil (x : UInt8) (b : BL) : pre (x :: b) [] = false := by simp [pre]
/-- What begins so is not below. -/
theorem pre_nlt : ∀ {b k : BL}, pre b k = true → blt k b = false
  | [], k, _ => blt_nil k
  | x :: b, [], h => by rw [pre_cons_nil] at h; cases h
  | x :: b, y :: k, h => by
    rw [pre_cons, Bool.and_eq_true, beq_iff_eq] at h
    obtain ⟨rfl, h⟩ := h
    rw [blt_cons, pre_nlt h]; simp [UInt8.lt_irrefl]
/-- Of what is not below b, what lies below something that begins with b begins so too. -/
theorem pre_mono : ∀ {b k l : BL}, blt k b = false → blt k l = true → pre b l = true → pre b k = true
  | [], k, l, _, _, _ => pre_nil k
  | x :: b, k, [], _, h, _ => by rw [blt_nil] at h; cases h
  | x :: b, [], y :: l, h, _, _ => by cases h
  | x :: b, z :: k, y :: l, h1, h2, h3 => by
    rw [pre_cons, Bool.and_eq_true, beq_iff_eq] at h3 ⊢
    obtain ⟨rfl, h3⟩ := h3
    rw [blt_cons, Bool.or_eq_true, Bool.and_eq_true, decide_eq_true_iff, beq_iff_eq] at h2
    rw [blt_cons, Bool.or_eq_false_iff] at h1
    obtain ⟨h1, h1'⟩ := h1
    rcases h2 with h2 | ⟨rfl, h2⟩
    · rw [decide_eq_false_iff_not] at h1; exact absurd h2 h1
    · refine ⟨rfl, pre_mono ?_ h2 h3⟩
      simpa using h1'

def Rising (l : List BL) : Prop := ∀ (i j : Nat) a b, l[i]? = some a → l[j]? = some b → i < j → blt a b = true
/-- Where a search for the first that is not below ends. -/
def Ends (l : List BL) (f : BL → Bool) (p : Nat) : Prop :=
  p ≤ l.length ∧ (∀ a, 0 < p → l[p - 1]? = some a → f a = true) ∧ (∀ a, l[p]? = some a → f a = false)
theorem count_at {l : List BL} {f : BL → Bool} {p : Nat} (hp : p ≤ l.length) (h1 : ∀ (i : Nat) a, i < p → l[i]? = some a → f a = true) (h2 : ∀ (i : Nat) a, p ≤ i → l[i]? = some a → f a = false) : l.countP f = p := by
  have e : l = l.take p ++ l.drop p := (List.take_append_drop p l).symm
  rw [e, List.countP_append]
  have c1 : (l.take p).countP f = p := by
    rw [List.countP_eq_length.2 fun a ha => ?_, List.length_take, Nat.min_eq_left hp]
    obtain ⟨i, hi, rfl⟩ := List.mem_iff_getElem.1 ha
    rw [List.length_take] at hi
    exact h1 i _ (by omega) (by rw [List.getElem_take]; exact List.getElem?_eq_getElem (by omega))
  have c2 : (l.drop p).countP f = 0 := by
    rw [List.countP_eq_zero]
    intro a ha
    obtain ⟨i, hi, rfl⟩ := List.mem_iff_getElem.1 ha
    rw [List.length_drop] at hi
    rw [h2 (p + i) _ (by omega) (by rw [List.getElem_drop]; exact List.getElem?_eq_getElem (by omega))]
    decide
  omega
theorem count_below {l : List BL} {b : BL} {p : Nat} (hr : Rising l) (h : Ends l (blt · b) p) : l.countP (blt · b) = p ∧ (∀ (i : Nat) a, p ≤ i → l[i]? = some a → blt a b = false) := by
  obtain ⟨h0, h1, h2⟩ := h
  have up : ∀ (i : Nat) a, p ≤ i → l[i]? = some a → blt a b = false := by
    intro i a hi ha
    by_cases e : i = p
    · subst e; exact h2 a ha
    · have hl := (List.getElem?_eq_some_iff.1 ha).1
      have hp := List.getElem?_eq_getElem (l := l) (i := p) (by omega)
      rw [Bool.eq_false_iff]
      intro hab
      have := blt_trans (hr p i _ a hp ha (by omega)) hab
      exact absurd (this.symm.trans (h2 _ hp)) (by decide)
  refine ⟨count_at h0 (fun i a hi ha => ?_) up, up⟩
  have hp := List.getElem?_eq_getElem (l := l) (i := p - 1) (by omega)
  have hb := h1 _ (by omega) hp
  by_cases e : i = p - 1
  · subst e; rw [hp] at ha; cases ha; exact hb
  · exact blt_trans (hr i (p - 1) a _ ha hp (by omega)) hb
theorem count_pre {l : List BL} {b : BL} {p q : Nat} (hr : Rising l) (h : Ends l (blt · b) p) (hq : Ends (l.drop p) (pre b ·) q) : l.countP (pre b ·) = q := by
  obtain ⟨hc, up⟩ := count_below hr h
  obtain ⟨h0, h1, h2⟩ := hq
  have hpl := h.1
  rw [List.length_drop] at h0
  have low : ∀ (i : Nat) a, i < p → l[i]? = some a → pre b a = false := by
    intro i a hi ha
    rw [Bool.eq_false_iff]
    intro hp
    have hx := pre_nlt hp
    have hpg := List.getElem?_eq_getElem (l := l) (i := p - 1) (by omega)
    have hb := h.2.1 _ (by omega) hpg
    have : blt a b = true := by
      by_cases e : i = p - 1
      · subst e; rw [hpg] at ha; cases ha; exact hb
      · exact blt_trans (hr i (p - 1) a _ ha hpg (by omega)) hb
    rw [this] at hx; cases hx
  have e : l = l.take p ++ l.drop p := (List.take_append_drop p l).symm
  rw [e, List.countP_append]
  have c1 : (l.take p).countP (pre b ·) = 0 := by
    rw [List.countP_eq_zero]
    intro a ha
    obtain ⟨i, hi, rfl⟩ := List.mem_iff_getElem.1 ha
    rw [List.length_take] at hi
    rw [low i _ (by omega) (by rw [List.getElem_take]; exact List.getElem?_eq_getElem (by omega))]
    decide
  have c2 : (l.drop p).countP (pre b ·) = q := by
    refine count_at (by rw [List.length_drop]; exact h0) (fun i a hi ha => ?_) (fun i a hi ha => ?_)
    · have hg := List.getElem?_eq_getElem (l := l.drop p) (i := q - 1) (by rw [List.length_drop]; omega)
      have hb := h1 _ (by omega) hg
      by_cases e : i = q - 1
      · subst e; rw [hg] at ha; cases ha; exact hb
      · rw [List.getElem?_drop] at ha hg
        exact pre_mono (up (p + i) a (by omega) ha) (hr (p + i) (p + (q - 1)) a _ ha hg (by omega)) hb
    · by_cases e : i = q
      · subst e; exact h2 a ha
      · have hl := (List.getElem?_eq_some_iff.1 ha).1
        have hg := List.getElem?_eq_getElem (l := l.drop p) (i := q) (by omega)
        have hn := h2 _ hg
        rw [List.getElem?_drop] at ha hg
        rw [Bool.eq_false_iff]
        intro hb
        have := pre_mono (up (p + q) _ (by omega) hg) (hr (p + q) (p + i) _ a hg ha (by omega)) hb
        exact absurd (this.symm.trans hn) (by decide)
  omega
end Go.Proofs.YthbjeeipeadilaaGreat
