/- WideAnyOrder: the law's walk. -/
import Derived.Test.YtckcagmlippneaaWA1
namespace Go.Proofs.Ytckcagmlippneaa
open Go Go.Pv Go.RowKit
set_option linter.unusedSimpArgs false
set_option linter.unusedVariables false
set_option maxRecDepth 10000
set_option exponentiation.threshold 1000

theorem callK_ex {P : Program} {f : FuncId} {ds : List DV} {σ : Objs} {K : DV → Objs → Prop} {S : Type} {R : S → Prop} {g : S → DV} (hf : FnC P f ds (fun d => ∃ s, R s ∧ d = g s)) (hK : ∀ s, R s → K (g s) σ) : callK P f ds σ K :=
  callK.intro hf fun d ⟨s, h, e⟩ => e ▸ hK s h
theorem foldl_add (l : List Int) : ∀ a : Int, l.foldl (· + ·) a = a + l.foldl (· + ·) 0 := by
  induction l with
  | nil => intro a; simp
  | cons x l ih => intro a; simp only [List.foldl_cons]; rw [ih (a + x), ih (0 + x)]; omega
theorem sumI_cons (x : Int) (l : List Int) : sumI (x :: l) = x + sumI l := by
  unfold sumI; rw [List.foldl_cons, foldl_add l (0 + x)]; omega
theorem sumI_nil : sumI [] = 0 := rfl
theorem sumI_perm {l r : List Int} (h : l.Perm r) : sumI l = sumI r := by
  induction h with
  | nil => rfl
  | cons x _ ih => rw [sumI_cons, sumI_cons, ih]
  | swap x y l => rw [sumI_cons, sumI_cons, sumI_cons, sumI_cons]; omega
  | trans _ _ h1 h2 => exact h1.trans h2
theorem sumI_app (a b : List Int) : sumI (a ++ b) = sumI a + sumI b := by
  induction a with
  | nil => simp [sumI_nil]
  | cons x a ih => rw [List.cons_append, sumI_cons, sumI_cons, ih]; omega
/-- The numbers, in an order. -/
def gOf (l : List Int) (a : List Nat) : List Int := a.map fun j => (l[j]?).getD 0
theorem gOf_sum {l : List Int} {a : List Nat} (h : a.Perm (List.range l.length)) : sumI (gOf l a) = sumI l := by
  have e : (List.range l.length).map (fun j => (l[j]?).getD 0) = l := by
    apply List.ext_getElem
    · simp
    · intro i h1 h2
      simp at h1
      simp [h1]
  have := sumI_perm (h.map fun j => (l[j]?).getD 0)
  rw [e] at this
  exact this
theorem gOf_get {l : List Int} {a : List Nat} {i j : Nat} (hj : a[i]? = some j) {z : Int} (hz : l[j]? = some z) : (gOf l a)[i]? = some z := by
  unfold gOf; rw [List.getElem?_map, hj]; simp [hz]
theorem gOf_len (l : List Int) (a : List Nat) : (gOf l a).length = a.length := by simp [gOf]
def oneI (g : List Int) (k i : Nat) : Int := sumI (g.take (min i k))
def twoI (g : List Int) (k i : Nat) : Int := sumI ((g.take i).drop k)
theorem one_step {g : List Int} {k i : Nat} {z : Int} (hz : g[i]? = some z) (h : i < k) : oneI g k (i + 1) = oneI g k i + z ∧ twoI g k (i + 1) = twoI g k i := by
  have hi := (List.getElem?_eq_some_iff.1 hz).1
  refine ⟨?_, ?_⟩
  · unfold oneI
    rw [show min (i + 1) k = i + 1 by omega, show min i k = i by omega, take_snoc' g i z hz, sumI_snoc]
  · unfold twoI
    rw [List.drop_eq_nil_of_le (by simp; omega), List.drop_eq_nil_of_le (by simp; omega)]
theorem two_step {g : List Int} {k i : Nat} {z : Int} (hz : g[i]? = some z) (h : ¬ i < k) : oneI g k (i + 1) = oneI g k i ∧ twoI g k (i + 1) = z + twoI g k i := by
  have hi := (List.getElem?_eq_some_iff.1 hz).1
  refine ⟨?_, ?_⟩
  · unfold oneI
    rw [show min (i + 1) k = k by omega, show min i k = k by omega]
  · unfold twoI
    rw [take_snoc' g i z hz, List.drop_append_of_le_length (by simp; omega), sumI_snoc]; omega
theorem one_two {g : List Int} {k : Nat} (h : k ≤ g.length) : oneI g k g.length + twoI g k g.length = sumI g := by
  unfold oneI twoI
  rw [show min g.length k = k by omega, List.take_length, ← sumI_app, List.take_append_drop]
theorem one_0 (g : List Int) (k : Nat) : oneI g k 0 = 0 ∧ twoI g k 0 = 0 := by
  unfold oneI twoI; simp [sumI_nil]
/-- What stands already. -/
def seen (l : List Int) (i : Nat) : Int := sumI (l.filter fun y => (l.take i).contains y)
theorem seen_0 (l : List Int) : seen l 0 = 0 := by
  unfold seen
  rw [List.filter_eq_nil_iff.2 (fun a _ => by simp)]; rfl
theorem seen_end (l : List Int) : seen l l.length = sumI l := by
  unfold seen
  rw [List.take_length, List.filter_eq_self.2 (fun a ha => by simpa using ha)]
theorem filter_split (l : List Int) (p : Int → Bool) (x : Int) (hx : p x = false) : sumI (l.filter fun y => p y || y == x) = sumI (l.filter p) + x * (l.count x : Nat) := by
  induction l with
  | nil => simp [sumI_nil]
  | cons y l ih =>
    by_cases hy : y = x
    · subst hy
      rw [List.filter_cons_of_pos (by simp), List.filter_cons_of_neg (by simp [hx]), List.count_cons_self, sumI_cons, ih]
      rw [show (((l.count y + 1 : Nat)) : Int) = (l.count y : Int) + 1 by omega, Int.mul_add, Int.mul_one]; omega
    · rw [List.count_cons_of_ne (by simpa using hy)]
      by_cases hp : p y
      · rw [List.filter_cons_of_pos (by simp [hp]), List.filter_cons_of_pos (by simp [hp]), sumI_cons, sumI_cons, ih]; omega
      · rw [List.filter_cons_of_neg (by simp [hp, hy]), List.filter_cons_of_neg (by simp [hp]), ih]
theorem seen_step {l : List Int} {i : Nat} {x : Int} (hx : l[i]? = some x) : seen l (i + 1) = seen l i + (if (l.take i).contains x then 0 else x * (l.count x : Nat)) := by
  have e : ∀ y : Int, (l.take (i + 1)).contains y = ((l.take i).contains y || y == x) := by
    intro y
    rw [take_snoc' l i x hx, Bool.eq_iff_iff]
    simp
  unfold seen
  rw [show (l.filter fun y => (l.take (i + 1)).contains y) = l.filter fun y => (l.take i).contains y || y == x from by simp only [e]]
  by_cases hc : (l.take i).contains x
  · rw [if_pos hc, Int.add_zero]
    congr 1
    apply List.filter_congr
    intro y _
    by_cases hy : y = x
    · subst hy; rw [hc]; simp
    · simp [hy]
  · rw [if_neg hc]
    exact filter_split l _ x (by simpa using hc)
/-- How often x stands among the first j; whether none of them stands ahead of i. -/
def firstB (l : List Int) (x : Int) (i : Nat) : Nat → Bool
  | 0 => true
  | j + 1 => firstB l x i j && (if l[j]? = some x then decide (i ≤ j) else true)
theorem firstB_end {l : List Int} {x : Int} {i : Nat} (hi : i ≤ l.length) : firstB l x i l.length = !(l.take i).contains x := by
  have key : ∀ n, n ≤ l.length → (firstB l x i n = true ↔ ∀ j, j < n → l[j]? = some x → i ≤ j) := by
    intro n
    induction n with
    | zero => intro _; simp [firstB]
    | succ n ih =>
      intro hn
      simp only [firstB, Bool.and_eq_true]
      rw [ih (by omega)]
      constructor
      · rintro ⟨h1, h2⟩ j hj he
        by_cases hjn : j = n
        · subst hjn; rw [if_pos he] at h2; exact of_decide_eq_true h2
        · exact h1 j (by omega) he
      · intro h
        refine ⟨fun j hj he => h j (by omega) he, ?_⟩
        by_cases he : l[n]? = some x
        · rw [if_pos he]; exact decide_eq_true (h n (by omega) he)
        · rw [if_neg he]
  rw [Bool.eq_iff_iff, key _ (Nat.le_refl _)]
  simp only [Bool.not_eq_true', List.contains_eq_mem, decide_eq_false_iff_not]
  constructor
  · intro h hm
    obtain ⟨j, hj, e⟩ := List.getElem_of_mem hm
    rw [List.getElem_take] at e
    simp at hj
    have := h j (by omega) (by rw [List.getElem?_eq_getElem (by omega), e])
    omega
  · intro h j hj he
    rcases Nat.lt_or_ge j i with hlt | hge
    · exact absurd (List.mem_iff_getElem?.2 ⟨j, by rw [List.getElem?_take, if_pos hlt]; exact he⟩) h
    · exact hge
theorem count_step {l : List Int} {j : Nat} {y : Int} (hy : l[j]? = some y) (x : Int) : (l.take (j + 1)).count x = (l.take j).count x + (if y = x then 1 else 0) := by
  rw [take_snoc' l j y hy, List.count_append, List.count_singleton]
  by_cases h : y = x <;> simp [h]
theorem firstB_step {l : List Int} {j : Nat} {y : Int} (hy : l[j]? = some y) (x : Int) (i : Nat) : firstB l x i (j + 1) = (firstB l x i j && (if y = x then decide (i ≤ j) else true)) := by
  simp only [firstB, hy, Option.some.injEq]
end Go.Proofs.Ytckcagmlippneaa
