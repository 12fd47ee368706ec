/- TextsRange: the plain law: which keys begin so, which lie below. -/
import Derived.Test.YthbjeeipeadilaaGreatU3
namespace Go.Proofs.YthbjeeipeadilaaGreat
open Go Go.Pv Go.RowKit
set_option linter.unusedSimpArgs false
set_option linter.unusedVariables false
set_option maxRecDepth 10000

theorem ends_below {l : List BL} {b : BL} {p : Nat} (hr : Rising l) (h : Ends l (blt · b) p) (i : Nat) (a : BL) (ha : l[i]? = some a) : blt a b = decide (i < p) := by
  obtain ⟨h0, h1, h2⟩ := h
  have hl := (List.getElem?_eq_some_iff.1 ha).1
  by_cases hip : i < p
  · rw [decide_eq_true hip]
    have hp := List.getElem?_eq_getElem (l := l) (i := p - 1) (by omega)
    have hb := h1 _ (by omega) hp
    by_cases e : i = p - 1
    · subst e; rw [hp] at ha; cases ha; exact hb
    · exact blt_trans (hr i (p - 1) a _ ha hp (by omega)) hb
  · rw [decide_eq_false hip]
    by_cases e : i = p
    · subst e; exact h2 a ha
    · have hp := List.getElem?_eq_getElem (l := l) (i := p) (by omega)
      rw [Bool.eq_false_iff]
      intro hab
      have := blt_trans (hr p i _ a hp ha (by omega)) hab
      exact absurd (this.symm.trans (h2 _ hp)) (by decide)
theorem ends_pre {l : List BL} {b : BL} {p q : Nat} (hr : Rising l) (h : Ends l (blt · b) p) (hq : Ends (l.drop p) (pre b ·) q) (i : Nat) (a : BL) (ha : l[i]? = some a) : pre b a = (decide (p ≤ i) && decide (i < p + q)) := by
  have hb := ends_below hr h
  have hl := (List.getElem?_eq_some_iff.1 ha).1
  by_cases hip : i < p
  · rw [decide_eq_false (show ¬ p ≤ i by omega), Bool.false_and, Bool.eq_false_iff]
    intro hp
    have := pre_nlt hp
    rw [hb i a ha, decide_eq_true hip] at this; cases this
  · rw [decide_eq_true (show p ≤ i by omega), Bool.true_and]
    obtain ⟨h0, h1, h2⟩ := hq
    rw [List.length_drop] at h0
    have up : ∀ (j : Nat) c, p ≤ j → l[j]? = some c → blt c b = false := fun j c hj hc => by rw [hb j c hc]; exact decide_eq_false (by omega)
    by_cases hiq : i < p + q
    · rw [decide_eq_true hiq]
      have hg := List.getElem?_eq_getElem (l := l.drop p) (i := q - 1) (by rw [List.length_drop]; omega)
      have hbb := h1 _ (by omega) hg
      rw [List.getElem?_drop] at hg
      by_cases e : i = p + (q - 1)
      · subst e; rw [hg] at ha; cases ha; exact hbb
      · exact pre_mono (up i a (by omega) ha) (hr i (p + (q - 1)) a _ ha hg (by omega)) hbb
    · rw [decide_eq_false hiq]
      have hg := List.getElem?_eq_getElem (l := l.drop p) (i := q) (by rw [List.length_drop]; omega)
      have hn := h2 _ hg
      rw [List.getElem?_drop] at hg
      by_cases e : i = p + q
      · subst e; rw [hg] at ha; cases ha; exact hn
      · rw [Bool.eq_false_iff]
        intro hbb
        have := pre_mono (up (p + q) _ (by omega) hg) (hr (p + q) i _ a hg ha (by omega)) hbb
        exact absurd (this.symm.trans hn) (by decide)
theorem rising_nil : Rising [] := fun i j a b h => by simp at h
theorem rising_one (y : BL) : Rising [y] := fun i j a b h1 h2 hij => by
  have h2 := (List.getElem?_eq_some_iff.1 h2).1
  simp at h2; omega
theorem rising_snoc {ks : List BL} {y z : BL} (h : Rising ks) (hz : ks[ks.length - 1]? = some z) (hy : blt z y = true) : Rising (ks ++ [y]) := by
  intro i j a b ha hb hij
  have hjl := (List.getElem?_eq_some_iff.1 hb).1
  simp at hjl
  rw [List.getElem?_append_left (by omega)] at ha
  by_cases hj : j < ks.length
  · rw [List.getElem?_append_left hj] at hb
    exact h i j a b ha hb hij
  · have e : j = ks.length := by omega
    subst e
    simp at hb; subst hb
    by_cases e : i = ks.length - 1
    · subst e; rw [hz] at ha; cases ha; exact hy
    · exact blt_trans (h i (ks.length - 1) a z ha hz (by omega)) hy
def Short (m : Nat) (l : List BL) : Prop := ∀ y ∈ l, y.length ≤ m
theorem strs_app (l m : List BL) : strs l ++ strs m = strs (l ++ m) := by unfold strs; rw [List.map_append]
def strPO (l : List BL) : Option PO := some ⟨false, 1, 9, strs l⟩
theorem snap_strsF (l : List BL) (g : Nat → Option PO) (id : Nat) (h : g id = some ⟨true, 1, 9, strs l⟩) : Snap g (.ref id 0 l.length) (.list (strs l)) := by
  have hs := snap_whole (po := ⟨true, 1, 9, strs l⟩) (g := g) (id := id) h (strs_blw l)
  rwa [show (PO.mk true 1 9 (strs l)).els.length = l.length from strs_len l] at hs
end Go.Proofs.YthbjeeipeadilaaGreat
