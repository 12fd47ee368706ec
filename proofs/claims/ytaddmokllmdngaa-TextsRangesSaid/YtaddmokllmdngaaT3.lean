/- TextsRanges: sort.Search with the closure; both Ranges. -/
import Derived.Test.YtaddmokllmdngaaT2
namespace Go.Proofs.Ytaddmokllmdngaa
open Go Go.Pv Go.RowKit
set_option linter.unusedSimpArgs false
set_option linter.unusedVariables false
set_option maxRecDepth 10000

def fnD : DV := .func (.func 24) [] [.pobj 0 0 0, .pobj 2 0 0, .pobj 1 0 0]
theorem searchS (l : List BL) (b : BL) (p : Nat) (hl : l.length ≤ maxLen) (hs : ∀ y ∈ l, y.length ≤ maxLen) (hp : p ≤ l.length) :
    FnS Try.prog 23 [.int .i64 (l.length - p : Nat), fnD] (capO l b p) (fun d s => ∃ q : Nat, Ends (l.drop p) (pre b ·) q ∧ d = .int .i64 q ∧ s = capO l b p) := by
  have hdl : (l.drop p).length = l.length - p := List.length_drop ..
  refine FnS.mk Try.func23 rfl rfl (Nat.le_of_ble_eq_true rfl) ?_
  refine joinK.use [5] (fun q : Nat => [.int .i64 q]) (fun _ => capO l b p) (fun q => Ends (l.drop p) (pre b ·) q) ?_ ?_
  · refine loopK.use [1, 5, 6] (fun s : Nat × Nat => [fnD, .int .i64 s.1, .int .i64 s.2]) (fun _ => capO l b p)
      (fun s => s.1 ≤ s.2 ∧ s.2 ≤ l.length - p ∧ (∀ a, 0 < s.1 → (l.drop p)[s.1 - 1]? = some a → pre b a = true) ∧ (∀ a, (l.drop p)[s.2]? = some a → pre b a = false)) (fun s => s.2 - s.1) (0, l.length - p)
      ⟨Nat.zero_le _, Nat.le_refl _, fun a h => absurd h (by omega), fun a h => by rw [List.getElem?_eq_none (by omega)] at h; cases h⟩ ⟨rfl, rfl, rfl, trivial⟩ (.inl rfl) ?_
    rintro ⟨i, j⟩ ⟨h1, h2, h3, h4⟩
    simp only at h1 h2 h3 h4
    by_cases hij : i < j
    · have hm := mid_of i j hij (by omega)
      have hd : decide ((i : Int) < (j : Int)) = true := decide_eq_true (by omega)
      obtain ⟨m, hmm⟩ : ∃ m, m = (i + j) / 2 := ⟨_, rfl⟩
      rw [← hmm] at hm
      have b1 : i ≤ m := by omega
      have b2 : m < j := by omega
      have b3 : m < (l.drop p).length := by omega
      clear hmm
      have hg := List.getElem?_eq_getElem b3
      have hy : ((l.drop p)[m]).length ≤ maxLen := hs _ (List.mem_of_mem_drop (List.getElem_mem b3))
      generalize (l.drop p)[m] = y at *
      have hg2 : l[p + m]? = some y := by rw [← List.getElem?_drop]; exact hg
      have cc := closS l b p m y hl hy hg2
      rw [← hm] at cc
      have e3 : IntKind.i64.wrap ((m : Int) + 1) = ((m + 1 : Nat) : Int) := by unfold maxLen at hl; rw [IntKind.wrap_i64]; omega
      rw [← hm] at e3
      have f1 : m + 1 ≤ j := by omega
      have f2 : j - (m + 1) < j - i := by omega
      have f3 : m ≤ l.length - p := by omega
      have f4 : m - i < j - i := by omega
      refine joinK.direct ?_
      refine ⟨fun _ => join_go ?_, fun h => absurd (hd.symm.trans h) (by decide)⟩
      refine ⟨by decide, ?_⟩
      refine callK.id cc ?_
      refine ⟨fun h => ?_, fun h => ?_⟩
      · have h : (!(!pre b y)) = true := h
        refine loop_next (m + 1, j) ⟨f1, h2, fun a _ ha => ?_, h4⟩ f2 ⟨rfl, int_eq e3, rfl, trivial⟩ (.inl rfl)
        rw [Nat.add_sub_cancel, hg] at ha; cases ha; simpa using h
      · have h : (!(!pre b y)) = false := h
        refine loop_next (i, m) ⟨b1, f3, h3, fun a ha => ?_⟩ f4 ⟨rfl, rfl, int_eq hm, trivial⟩ (.inl rfl)
        rw [hg] at ha; cases ha; simpa using h
    · have hd : decide ((i : Int) < (j : Int)) = false := decide_eq_false (by omega)
      have e : i = j := by omega
      subst e
      refine joinK.direct ?_
      refine ⟨fun h => absurd (hd.symm.trans h) (by decide), fun _ => ?_⟩
      exact join_at i ⟨by omega, h3, h4⟩ ⟨rfl, trivial⟩ (.inl rfl)
  intro q hq
  exact .inl ⟨q, hq, rfl, rfl⟩
/-- The program's Range, of any keys. -/
theorem rangeC (l : List BL) (b : BL) (hl : l.length ≤ maxLen) (hs : ∀ y ∈ l, y.length ≤ maxLen) :
    FnC Try.prog 11 [.list (strs l), .str (bsA b)] (fun d => ∃ s : Nat × Nat, (Ends l (blt · b) s.1 ∧ Ends (l.drop s.1) (pre b ·) s.2) ∧ d = .tup [.int .i64 s.1, .int .i64 (s.1 + s.2 : Nat)]) := by
  have hlen := strs_len l
  refine FnC.mk Try.func11 rfl rfl (Nat.le_of_ble_eq_true rfl) (by intro d hd; simp at hd; rcases hd with rfl | rfl; exact strD_blw l; simp) (by rintro _ ⟨s, _, rfl⟩; simp) ?_
  refine callK_st (floorC l b hl) ?_
  intro p hp
  have hpl := hp.1
  have cs := searchS l b p hl hs hpl
  have hw : IntKind.i64.wrap (((strs l).length : Int) - p) = ((l.length - p : Nat) : Int) := by unfold maxLen at hl; rw [hlen, IntKind.wrap_i64]; omega
  rw [← hw] at cs
  refine callK_own cs ?_
  rintro _ _ ⟨q, hq, rfl, rfl⟩
  have hql := hq.1
  rw [List.length_drop] at hql
  have hw2 : IntKind.i64.wrap ((p : Int) + q) = ((p + q : Nat) : Int) := by unfold maxLen at hl; rw [IntKind.wrap_i64]; omega
  refine drawK.mk (by kernel_rfl) ?_
  have ht : DV.tup [.int .i64 (p : Int), .int .i64 (IntKind.i64.wrap ((p : Int) + q))] = .tup [.int .i64 (p : Int), .int .i64 ((p + q : Nat) : Int)] := by rw [hw2]
  exact .inl ⟨(p, q), ⟨hp, hq⟩, ht⟩
theorem count_snoc (l : List BL) (f : BL → Bool) (i : Nat) (y : BL) (h : l[i]? = some y) : (l.take (i + 1)).countP f = (l.take i).countP f + if f y then 1 else 0 := by
  rw [List.take_add_one, h, List.countP_append]
  simp [List.countP_cons]
theorem count_le (l : List BL) (f : BL → Bool) (i : Nat) : (l.take i).countP f ≤ i := Nat.le_trans List.countP_le_length (by rw [List.length_take]; omega)
theorem disj (b : BL) : ∀ l : List BL, l.countP (blt · b) + l.countP (pre b ·) ≤ l.length
  | [] => by simp
  | y :: l => by
    have ih := disj b l
    simp only [List.countP_cons, List.length_cons]
    cases h : pre b y with
    | true => rw [pre_nlt h]; simp; omega
    | false => cases blt y b <;> simp <;> omega
theorem count_sub (l : List BL) (f : BL → Bool) (i : Nat) : (l.take i).countP f ≤ l.countP f := (List.take_sublist i l).countP_le
/-- The reference's Range. -/
theorem rangeR (l : List BL) (b : BL) (hl : l.length ≤ maxLen) (hs : ∀ y ∈ l, y.length ≤ maxLen) :
    FnC Try.prog 10 [.list (strs l), .str (bsA b)] (· = .tup [.int .i64 (l.countP (blt · b) : Nat), .int .i64 (l.countP (blt · b) + l.countP (pre b ·) : Nat)]) := by
  have hlen := strs_len l
  have hml : maxLen = 9223372036854775807 := rfl
  refine FnC.mk Try.func10 rfl rfl (Nat.le_of_ble_eq_true rfl) (by intro d hd; simp at hd; rcases hd with rfl | rfl; exact strD_blw l; simp) (by rintro _ rfl; simp) ?_
  refine joinK.use [0, 1, 6] (fun _ : Unit => [.list (strs l), .str (bsA b), .int .i64 (l.countP (blt · b) : Nat)]) (fun _ => []) (fun _ => True) ?_ ?_
  · refine loopK.use [0, 1, 6, 7] (fun i : Nat => [.list (strs l), .str (bsA b), .int .i64 ((l.take i).countP (blt · b) : Nat), .int .i64 i]) (fun _ => []) (fun i => i ≤ l.length) (fun i => l.length - i) 0 (Nat.zero_le _) ⟨rfl, rfl, rfl, rfl, trivial⟩ (.inl rfl) ?_
    intro i hi
    by_cases hil : i < l.length
    · have hd : decide ((i : Int) < ((strs l).length : Int)) = true := decide_eq_true (by omega)
      have hg := List.getElem?_eq_getElem hil
      generalize l[i] = y at *
      have hsg := strs_get hg
      have e0 : (0 : Int) ≤ (i : Int) := by omega
      have e1 : (i : Int) < ((strs l).length : Int) := by omega
      have e2 : (i : Int).toNat = i := by omega
      rw [← e2] at hsg
      have hc := count_snoc l (blt · b) i y hg
      have hcl := count_le l (blt · b) i
      have hw : IntKind.i64.wrap ((i : Int) + 1) = ((i + 1 : Nat) : Int) := by rw [IntKind.wrap_i64]; omega
      have hw2 : IntKind.i64.wrap (((l.take i).countP (blt · b) : Int) + 1) = (((l.take i).countP (blt · b) + 1 : Nat) : Int) := by rw [IntKind.wrap_i64]; omega
      have ht := toL_lt y b
      have f1 : i + 1 ≤ l.length := by omega
      have f2 : l.length - (i + 1) < l.length - i := by omega
      refine joinK.direct ?_
      refine ⟨fun _ => join_go ?_, fun h => absurd (hd.symm.trans h) (by decide)⟩
      refine joinK.direct ?_
      refine ⟨e0, e1, optK.mk hsg ?_⟩
      refine ⟨fun h => ?_, fun h => ?_⟩
      · have h : blt y b = true := ht.symm.trans h
        have hc2 : ((l.take (i + 1)).countP (blt · b) : Nat) = (l.take i).countP (blt · b) + 1 := by rw [hc]; simp [h]
        refine join_go (loop_next (i + 1) f1 f2 ⟨rfl, rfl, int_eq (hw2.trans (by rw [hc2])), int_eq hw, trivial⟩ (.inl rfl))
      · have h : blt y b = false := ht.symm.trans h
        have hc2 : ((l.take (i + 1)).countP (blt · b) : Nat) = (l.take i).countP (blt · b) := by rw [hc]; simp [h]
        refine join_go (loop_next (i + 1) f1 f2 ⟨rfl, rfl, int_eq (by rw [hc2]), int_eq hw, trivial⟩ (.inl rfl))
    · have hd : decide ((i : Int) < ((strs l).length : Int)) = false := decide_eq_false (by omega)
      have e : i = l.length := by omega
      subst e
      refine joinK.direct ?_
      refine ⟨fun h => absurd (hd.symm.trans h) (by decide), fun _ => ?_⟩
      exact join_at () trivial ⟨rfl, rfl, int_eq (by rw [List.take_length]), trivial⟩ (.inl rfl)
  rintro ⟨⟩ -
  have hdj := disj b l
  generalize hF : l.countP (blt · b) = F at *
  refine joinK.use [6, 8] (fun _ : Unit => [.int .i64 F, .int .i64 (F + l.countP (pre b ·) : Nat)]) (fun _ => []) (fun _ => True) ?_ ?_
  · refine loopK.use [0, 1, 6, 8, 9] (fun i : Nat => [.list (strs l), .str (bsA b), .int .i64 F, .int .i64 (F + (l.take i).countP (pre b ·) : Nat), .int .i64 i]) (fun _ => []) (fun i => i ≤ l.length) (fun i => l.length - i) 0 (Nat.zero_le _) ⟨rfl, rfl, rfl, rfl, rfl, trivial⟩ (.inl rfl) ?_
    intro i hi
    by_cases hil : i < l.length
    · have hd : decide ((i : Int) < ((strs l).length : Int)) = true := decide_eq_true (by omega)
      have hg := List.getElem?_eq_getElem hil
      have hyl : (l[i]).length ≤ maxLen := hs _ (List.getElem_mem hil)
      generalize l[i] = y at *
      have hsg := strs_get hg
      have e0 : (0 : Int) ≤ (i : Int) := by omega
      have e1 : (i : Int) < ((strs l).length : Int) := by omega
      have e2 : (i : Int).toNat = i := by omega
      rw [← e2] at hsg
      have hc := count_snoc l (pre b ·) i y hg
      have hcl := count_sub l (pre b ·) i
      have hw : IntKind.i64.wrap ((i : Int) + 1) = ((i + 1 : Nat) : Int) := by rw [IntKind.wrap_i64]; omega
      have hcs := count_sub l (pre b ·) (i + 1)
      have hw2 : pre b y = true → IntKind.i64.wrap (((F + (l.take i).countP (pre b ·) : Nat) : Int) + 1) = ((F + ((l.take i).countP (pre b ·) + 1) : Nat) : Int) := by
        intro h; rw [hc, if_pos h] at hcs; rw [IntKind.wrap_i64]; omega
      have cb := beginsR y b hyl
      have f1 : i + 1 ≤ l.length := by omega
      have f2 : l.length - (i + 1) < l.length - i := by omega
      refine joinK.direct ?_
      refine ⟨fun _ => join_go ?_, fun h => absurd (hd.symm.trans h) (by decide)⟩
      refine joinK.direct ?_
      refine ⟨e0, e1, optK.mk hsg ?_⟩
      refine callK.eq cb ?_
      refine ⟨fun h => ?_, fun h => ?_⟩
      · have h : pre b y = true := h
        have hc2 : ((l.take (i + 1)).countP (pre b ·) : Nat) = (l.take i).countP (pre b ·) + 1 := by rw [hc]; simp [h]
        refine join_go (loop_next (i + 1) f1 f2 ⟨rfl, rfl, rfl, int_eq ((hw2 h).trans (by rw [hc2])), int_eq hw, trivial⟩ (.inl rfl))
      · have h : pre b y = false := h
        have hc2 : ((l.take (i + 1)).countP (pre b ·) : Nat) = (l.take i).countP (pre b ·) := by rw [hc]; simp [h]
        refine join_go (loop_next (i + 1) f1 f2 ⟨rfl, rfl, rfl, int_eq (by rw [hc2]), int_eq hw, trivial⟩ (.inl rfl))
    · have hd : decide ((i : Int) < ((strs l).length : Int)) = false := decide_eq_false (by omega)
      have e : i = l.length := by omega
      subst e
      refine joinK.direct ?_
      refine ⟨fun h => absurd (hd.symm.trans h) (by decide), fun _ => ?_⟩
      exact join_at () trivial ⟨rfl, int_eq (by rw [List.take_length]), trivial⟩ (.inl rfl)
  rintro ⟨⟩ -
  exact fin_eq (.tup [.int _ _, .int _ _]) rfl rfl
end Go.Proofs.Ytaddmokllmdngaa
