/- TextsRanges: sort.Search with the closure; both Ranges. -/
import Derived.Test.YthbjeeipeadilaaGreatU2
namespace Go.Proofs.YthbjeeipeadilaaGreat
open Go Go.Pv Go.RowKit
set_option linter.unusedSimpArgs false
set_option linter.unusedVariables false
set_option maxRecDepth 10000

def fnD : DV := .func (.func 39) [] [.pobj 0 0 0, .pobj 2 0 0, .pobj 1 0 0]
theorem searchS (l : List BL) (b : BL) (p : Nat) (hl : l.length ≤ maxLen) (hs : ∀ y ∈ l, y.length ≤ maxLen) (hp : p ≤ l.length) :
    FnS Tryz.prog 38 [.int .i64 (l.length - p : Nat), fnD] (capO l b p) (fun d s => ∃ q : Nat, Ends (l.drop p) (pre b ·) q ∧ d = .int .i64 q ∧ s = capO l b p) := by
  have hdl : (l.drop p).length = l.length - p := List.length_drop ..
  refine FnS.mk Tryz.func38 rfl rfl (Nat.le_of_ble_eq_true rfl) ?_
  refine joinK.use [5] (fun q : Nat => [.int .i64 q]) (fun _ => capO l b p) (fun q => Ends (l.drop p) (pre b ·) q) ?_ ?_
  · refine loopK.use [1, 5, 6] (fun s : Nat × Nat => [fnD, .int .i64 s.1, .int .i64 s.2]) (fun _ => capO l b p)
      (fun s => s.1 ≤ s.2 ∧ s.2 ≤ l.length - p ∧ (∀ a, 0 < s.1 → (l.drop p)[s.1 - 1]? = some a → pre b a = true) ∧ (∀ a, (l.drop p)[s.2]? = some a → pre b a = false)) (fun s => s.2 - s.1) (0, l.length - p)
      ⟨Nat.zero_le _, Nat.le_refl _, fun a h => absurd h (by omega), fun a h => by rw [List.getElem?_eq_none (by omega)] at h; cases h⟩ ⟨rfl, rfl, rfl, trivial⟩ (.inl rfl) ?_
    rintro ⟨i, j⟩ ⟨h1, h2, h3, h4⟩
    simp only at h1 h2 h3 h4
    by_cases hij : i < j
    · have hm := mid_of i j hij (by omega)
      have hd : decide ((i : Int) < (j : Int)) = true := decide_eq_true (by omega)
      obtain ⟨m, hmm⟩ : ∃ m, m = (i + j) / 2 := ⟨_, rfl⟩
      rw [← hmm] at hm
      have b1 : i ≤ m := by omega
      have b2 : m < j := by omega
      have b3 : m < (l.drop p).length := by omega
      clear hmm
      have hg := List.getElem?_eq_getElem b3
      have hy : ((l.drop p)[m]).length ≤ maxLen := hs _ (List.mem_of_mem_drop (List.getElem_mem b3))
      generalize (l.drop p)[m] = y at *
      have hg2 : l[p + m]? = some y := by rw [← List.getElem?_drop]; exact hg
      have cc := closS l b p m y hl hy hg2
      rw [← hm] at cc
      have e3 : IntKind.i64.wrap ((m : Int) + 1) = ((m + 1 : Nat) : Int) := by unfold maxLen at hl; rw [IntKind.wrap_i64]; omega
      rw [← hm] at e3
      have f1 : m + 1 ≤ j := by omega
      have f2 : j - (m + 1) < j - i := by omega
      have f3 : m ≤ l.length - p := by omega
      have f4 : m - i < j - i := by omega
      refine joinK.direct ?_
      refine ⟨fun _ => join_go ?_, fun h => absurd (hd.symm.trans h) (by decide)⟩
      refine ⟨by decide, ?_⟩
      refine callK.id cc ?_
      refine ⟨fun h => ?_, fun h => ?_⟩
      · have h : (!(!pre b y)) = true := h
        refine loop_next (m + 1, j) ⟨f1, h2, fun a _ ha => ?_, h4⟩ f2 ⟨rfl, int_eq e3, rfl, trivial⟩ (.inl rfl)
        rw [Nat.add_sub_cancel, hg] at ha; cases ha; simpa using h
      · have h : (!(!pre b y)) = false := h
        refine loop_next (i, m) ⟨b1, f3, h3, fun a ha => ?_⟩ f4 ⟨rfl, rfl, int_eq hm, trivial⟩ (.inl rfl)
        rw [hg] at ha; cases ha; simpa using h
    · have hd : decide ((i : Int) < (j : Int)) = false := decide_eq_false (by omega)
      have e : i = j := by omega
      subst e
      refine joinK.direct ?_
      refine ⟨fun h => absurd (hd.symm.trans h) (by decide), fun _ => ?_⟩
      exact join_at i ⟨by omega, h3, h4⟩ ⟨rfl, trivial⟩ (.inl rfl)
  intro q hq
  exact .inl ⟨q, hq, rfl, rfl⟩
/-- The program's Range, of any keys. -/
theorem rangeC (l : List BL) (b : BL) (hl : l.length ≤ maxLen) (hs : ∀ y ∈ l, y.length ≤ maxLen) :
    FnC Tryz.prog 12 [.list (strs l), .str (bsA b)] (fun d => ∃ s : Nat × Nat, (Ends l (blt · b) s.1 ∧ Ends (l.drop s.1) (pre b ·) s.2) ∧ d = .tup [.int .i64 s.1, .int .i64 (s.1 + s.2 : Nat)]) := by
  have hlen := strs_len l
  refine FnC.mk Tryz.func12 rfl rfl (Nat.le_of_ble_eq_true rfl) (by intro d hd; simp at hd; rcases hd with rfl | rfl; exact strD_blw l; simp) (by rintro _ ⟨s, _, rfl⟩; simp) ?_
  refine callK_st (floorC l b hl) ?_
  intro p hp
  have hpl := hp.1
  have cs := searchS l b p hl hs hpl
  have hw : IntKind.i64.wrap (((strs l).length : Int) - p) = ((l.length - p : Nat) : Int) := by unfold maxLen at hl; rw [hlen, IntKind.wrap_i64]; omega
  rw [← hw] at cs
  refine callK_own cs ?_
  rintro _ _ ⟨q, hq, rfl, rfl⟩
  have hql := hq.1
  rw [List.length_drop] at hql
  have hw2 : IntKind.i64.wrap ((p : Int) + q) = ((p + q : Nat) : Int) := by unfold maxLen at hl; rw [IntKind.wrap_i64]; omega
  refine drawK.mk (by kernel_rfl) ?_
  have ht : DV.tup [.int .i64 (p : Int), .int .i64 (IntKind.i64.wrap ((p : Int) + q))] = .tup [.int .i64 (p : Int), .int .i64 ((p + q : Nat) : Int)] := by rw [hw2]
  exact .inl ⟨(p, q), ⟨hp, hq⟩, ht⟩
end Go.Proofs.YthbjeeipeadilaaGreat
