/- The reference's Spread; are two sets the same; ChunkSpreads. -/
import Derived.Test.YthbjeeipeadilaaGreatB6
set_option linter.unusedSimpArgs false
set_option linter.unusedVariables false
set_option maxRecDepth 10000
namespace Go.Proofs.YthbjeeipeadilaaGreat
open Go Go.Pv Go.RowKit

def boolPO (l : List Bool) : Option PO := some ⟨false, 1, 4, bools l⟩
theorem bools_app (a b : List Bool) : bools a ++ bools b = bools (a ++ b) := by simp [bools]
theorem bools_one (x : Bool) : [[DV.bool x]] = bools [x] := rfl
theorem bool2_blw (d n : List Bool) : ∀ x ∈ [DV.list (bools d), DV.list (bools n)], Blw 0 x := by
  intro x hx; simp at hx; rcases hx with rfl | rfl <;> exact list_blw (bools_blw _)
theorem snap_bools (l : List Bool) (g : Nat → Option PO) (id : Nat) (h : g id = boolPO l) : Snap g (.ref id 0 l.length) (.list (bools l)) := by
  have hs := snap_whole (po := ⟨false, 1, 4, bools l⟩) (g := g) (id := id) h (bools_blw l)
  rwa [show (PO.mk false 1 4 (bools l)).els.length = l.length from bools_length l] at hs
theorem refSpread (d n : List Bool) (hd : d.length ≤ 16777216) (hn : n.length ≤ 16777216) :
    FnC Tryz.prog 7 [.list (bools d), .list (bools n)] (· = if d.length = n.count false then .tup [.list (bools (spr d n)), .int .i64 0] else .tup [.nils, .int .i64 11]) := by
  have hbd := bools_length d
  have hbn := bools_length n
  have hsl := spr_length d n
  have bd := list_blw (bools_blw d)
  have bn := list_blw (bools_blw n)
  have hpr : ∀ x, (x = if d.length = n.count false then DV.tup [.list (bools (spr d n)), .int .i64 0] else .tup [.nils, .int .i64 11]) → Blw 0 x := by
    rintro _ rfl
    by_cases h : d.length = n.count false
    · rw [if_pos h, blw_tup]; intro x hx; simp at hx; rcases hx with rfl | rfl; exact list_blw (bools_blw _); simp
    · rw [if_neg h]; simp
  refine FnC.mk Tryz.func7 rfl rfl (Nat.le_of_ble_eq_true rfl) (bool2_blw d n) hpr ?_
  refine joinK.use [0, 1, 6] (fun _ : Unit => [.list (bools d), .list (bools n), .int .i64 (n.count false : Nat)]) (fun _ => []) (fun _ => True) ?_ ?_
  · refine loopK.use [0, 1, 6, 7] (fun i : Nat => [.list (bools d), .list (bools n), .int .i64 ((n.take i).count false : Nat), .int .i64 i]) (fun _ => []) (fun i => i ≤ n.length) (fun i => n.length - i) 0 (Nat.zero_le _) ⟨rfl, rfl, rfl, rfl, trivial⟩ (.inl rfl) ?_
    intro i hi
    by_cases hil : i < n.length
    · have hdc : decide ((i : Int) < ((bools n).length : Int)) = true := decide_eq_true (by omega)
      have hg0 := List.getElem?_eq_getElem hil
      have hcs := count_step hg0
      have hcl := count_lim n i
      generalize n[i] = x at *
      have hbg : (bools n)[(i : Int).toNat]? = some [.bool x] := by rw [Int.toNat_natCast]; exact bools_get hg0
      have e0 : (0 : Int) ≤ (i : Int) := by omega
      have e1 : (i : Int) < ((bools n).length : Int) := by omega
      have hw1 : IntKind.i64.wrap ((i : Int) + 1) = ((i + 1 : Nat) : Int) := by rw [IntKind.wrap_i64]; omega
      have hw2 : IntKind.i64.wrap (((n.take i).count false : Nat) + 1 : Int) = ((n.take i).count false + 1 : Nat) := by rw [IntKind.wrap_i64]; omega
      have f1 : i + 1 ≤ n.length := by omega
      have f2 : n.length - (i + 1) < n.length - i := by omega
      refine joinK.direct ?_
      refine ⟨fun _ => join_go ?_, fun h => absurd (hdc.symm.trans h) (by decide)⟩
      refine joinK.direct ?_
      refine ⟨e0, e1, optK.mk hbg ?_⟩
      refine ⟨fun hx => ?_, fun hx => ?_⟩
      · have hx : (!x) = true := hx
        have hk : (n.take (i + 1)).count false = (n.take i).count false + 1 := by rw [hcs]; cases x; rfl; cases hx
        exact join_go (loop_next (i + 1) f1 f2 ⟨rfl, rfl, int_eq (by rw [hw2, hk]), int_eq hw1, trivial⟩ (.inl rfl))
      · have hx : (!x) = false := hx
        have hk : (n.take (i + 1)).count false = (n.take i).count false := by rw [hcs]; cases x; cases hx; rfl
        exact join_go (loop_next (i + 1) f1 f2 ⟨rfl, rfl, int_eq (by rw [hk]), int_eq hw1, trivial⟩ (.inl rfl))
    · have hdc : decide ((i : Int) < ((bools n).length : Int)) = false := decide_eq_false (by omega)
      have e : i = n.length := by omega
      subst e
      refine joinK.direct ?_
      refine ⟨fun h => absurd (hdc.symm.trans h) (by decide), fun _ => ?_⟩
      exact join_at () trivial ⟨rfl, rfl, int_eq (by rw [List.take_length]), trivial⟩ (.inl rfl)
  rintro ⟨⟩ -
  by_cases hc : d.length = n.count false
  · have hne : (((bools d).length : Int) != ((n.count false : Nat) : Int)) = false := by simp; omega
    rw [if_pos hc]
    refine joinK.direct ?_
    refine ⟨fun h => absurd (hne.symm.trans h) (by decide), fun _ => join_go ?_⟩
    refine joinK.use [8] (fun _ : Unit => [.ref 0 0 (spr d n).length]) (fun _ => [boolPO (spr d n)]) (fun _ => True) ?_ ?_
    · refine loopK.useG [0, 1, 8, 9, 10] (fun i : Nat => [.list (bools d), .list (bools n), .ref 0 0 i, .int .i64 ((n.take i).count false : Nat), .int .i64 i]) (fun i => [boolPO ((spr d n).take i)]) (fun i => i ≤ n.length) (fun i => n.length - i) 0 (Nat.zero_le _)
        (weak_gc [] [none] rfl ⟨ren_eq rfl bd, ren_eq rfl bn, .nil _ rfl, ren_eq rfl (by simp), ren_eq rfl (by simp), trivial⟩ ⟨rfl, trivial⟩) ?_
      intro i hi
      by_cases hil : i < n.length
      · have hdc : decide ((i : Int) < ((bools n).length : Int)) = true := decide_eq_true (by omega)
        have hg0 := List.getElem?_eq_getElem hil
        have hsg := spr_get d n i _ hg0
        have hcs := count_step hg0
        have hlt := count_lt (n := n) (i := i)
        have hcl := count_lim n i
        rw [hg0] at hlt
        generalize n[i] = x at *
        have hbg : (bools n)[(i : Int).toNat]? = some [.bool x] := by rw [Int.toNat_natCast]; exact bools_get hg0
        have e0 : (0 : Int) ≤ (i : Int) := by omega
        have e1 : (i : Int) < ((bools n).length : Int) := by omega
        have hw1 : IntKind.i64.wrap ((i : Int) + 1) = ((i + 1 : Nat) : Int) := by rw [IntKind.wrap_i64]; omega
        have hw2 : IntKind.i64.wrap (((n.take i).count false : Nat) + 1 : Int) = ((n.take i).count false + 1 : Nat) := by rw [IntKind.wrap_i64]; omega
        have f1 : i + 1 ≤ n.length := by omega
        have f2 : n.length - (i + 1) < n.length - i := by omega
        have c1 : i + 1 ≤ maxLen := by unfold maxLen; omega
        have c2 : (i + 1) * 1 ≤ 140737488355328 := by omega
        have htl : ((spr d n).take i).length = i := by simp; omega
        have hbl : i = (bools ((spr d n).take i)).length := by rw [bools_length, htl]
        cases x with
        | true =>
          have hk : (n.take (i + 1)).count false = (n.take i).count false := hcs
          have hap : bools ((spr d n).take i) ++ [[.bool false]] = bools ((spr d n).take (i + 1)) := by rw [bools_one, bools_app, List.take_add_one, hsg]; rfl
          refine joinK.direct ?_
          refine ⟨fun _ => join_go ?_, fun h => absurd (hdc.symm.trans h) (by decide)⟩
          refine joinK.direct ?_
          refine guardK.split ?_
          refine ⟨e0, e1, optK.mk hbg ?_⟩
          refine ⟨fun h => absurd h (by decide), fun _ => ?_⟩
          refine appK.go ⟨.cons rfl .nil, hbl, .at 1 rfl c1 c2, ?_⟩
          refine ⟨e0, e1, optK.mk hbg ?_⟩
          refine ⟨fun h => absurd h (by decide), fun _ => ?_⟩
          exact join_go (loop_gc (i + 1) f1 f2 (weak_gc [] [some 2] rfl ⟨ren_eq rfl bd, ren_eq rfl bn, ren_ref rfl rfl, ren_eq (int_eq (by rw [hk])) (by simp), ren_eq (int_eq hw1) (by simp), trivial⟩ ⟨⟨rfl, rfl, rfl, els_same hap (bools_blw _)⟩, trivial⟩))
        | false =>
          have hk : (n.take (i + 1)).count false = (n.take i).count false + 1 := hcs
          have hkd : (n.take i).count false < d.length := by have := hlt rfl; omega
          have hdg := List.getElem?_eq_getElem hkd
          rw [hdg] at hsg
          generalize d[(n.take i).count false] = y at *
          have hap : bools ((spr d n).take i) ++ [[.bool y]] = bools ((spr d n).take (i + 1)) := by rw [bools_one, bools_app, List.take_add_one, hsg]; rfl
          have hdg2 : (bools d)[(((n.take i).count false : Nat) : Int).toNat]? = some [.bool y] := by rw [Int.toNat_natCast]; exact bools_get hdg
          have g0 : (0 : Int) ≤ (((n.take i).count false : Nat) : Int) := by omega
          have g1 : (((n.take i).count false : Nat) : Int) < ((bools d).length : Int) := by omega
          refine joinK.direct ?_
          refine ⟨fun _ => join_go ?_, fun h => absurd (hdc.symm.trans h) (by decide)⟩
          refine joinK.direct ?_
          refine guardK.split ?_
          refine ⟨e0, e1, optK.mk hbg ?_⟩
          refine ⟨fun _ => ?_, fun h => absurd h (by decide)⟩
          refine ⟨g0, g1, optK.mk hdg2 ?_⟩
          refine appK.go ⟨.cons rfl .nil, hbl, .at 1 rfl c1 c2, ?_⟩
          refine ⟨e0, e1, optK.mk hbg ?_⟩
          refine ⟨fun _ => ?_, fun h => absurd h (by decide)⟩
          exact join_go (loop_gc (i + 1) f1 f2 (weak_gc [] [some 2] rfl ⟨ren_eq rfl bd, ren_eq rfl bn, ren_ref rfl rfl, ren_eq (int_eq (by rw [hw2, hk])) (by simp), ren_eq (int_eq hw1) (by simp), trivial⟩ ⟨⟨rfl, rfl, rfl, els_same hap (bools_blw _)⟩, trivial⟩))
      · have hdc : decide ((i : Int) < ((bools n).length : Int)) = false := decide_eq_false (by omega)
        have e : i = n.length := by omega
        subst e
        have hfin : [boolPO ((spr d n).take n.length)] = [boolPO (spr d n)] := by rw [← hsl, List.take_length]
        refine joinK.direct ?_
        refine ⟨fun h => absurd (hdc.symm.trans h) (by decide), fun _ => ?_⟩
        exact join_at () trivial ⟨by rw [hsl]; rfl, trivial⟩ (.inl hfin)
    rintro ⟨⟩ -
    exact .inr ⟨.tup [.list (bools (spr d n)), .int .i64 0], snap_tup (show Snaps (obj [boolPO (spr d n)]) [.ref 0 0 (spr d n).length, .int .i64 0] [.list (bools (spr d n)), .int .i64 0] from ⟨snap_bools _ _ _ rfl, .pure _ (by simp), trivial⟩), rfl⟩
  · have hne : (((bools d).length : Int) != ((n.count false : Nat) : Int)) = true := by simp; omega
    rw [if_neg hc]
    refine joinK.direct ?_
    refine ⟨fun _ => ?_, fun h => absurd (hne.symm.trans h) (by decide)⟩
    exact .inl rfl
theorem sameSet (l : List Bool) (hl : l.length ≤ 16777216) : FnC Tryz.prog 10 [setP l, .list (bools l)] (· = .bool true) := by
  have hbl := bools_length l
  have bl := list_blw (bools_blw l)
  have sl := setP_blw l
  have h1 : (((l.length : Nat) : Int) != ((bools l).length : Int)) = false := by simp; omega
  refine FnC.mk Tryz.func10 rfl rfl (Nat.le_of_ble_eq_true rfl) (by intro x hx; simp at hx; rcases hx with rfl | rfl; exact sl; exact bl) (by rintro _ rfl; simp) ?_
  refine joinK.direct ?_
  refine guardK.split ?_
  refine ⟨fun _ => ?_, fun h => absurd h (by decide)⟩
  refine callK.eq (lenC l) ?_
  refine ⟨fun h => absurd (h1.symm.trans h) (by decide), fun _ => join_go ?_⟩
  refine joinK.use [] (fun _ : Unit => []) (fun _ => []) (fun _ => True) ?_ ?_
  · refine loopK.use [0, 1, 5] (fun i : Nat => [setP l, .list (bools l), .int .i64 i]) (fun _ => []) (fun i => i ≤ l.length) (fun i => l.length - i) 0 (Nat.zero_le _) ⟨rfl, rfl, rfl, trivial⟩ (.inl rfl) ?_
    intro i hi
    by_cases hil : i < l.length
    · have hdc : decide ((i : Int) < ((bools l).length : Int)) = true := decide_eq_true (by omega)
      have hg0 := List.getElem?_eq_getElem hil
      have cg := getC l i hl
      rw [hg0] at cg
      generalize l[i] = x at *
      have hbg : (bools l)[(i : Int).toNat]? = some [.bool x] := by rw [Int.toNat_natCast]; exact bools_get hg0
      have e0 : (0 : Int) ≤ (i : Int) := by omega
      have e1 : (i : Int) < ((bools l).length : Int) := by omega
      have hw1 : IntKind.i64.wrap ((i : Int) + 1) = ((i + 1 : Nat) : Int) := by rw [IntKind.wrap_i64]; omega
      have hx : (x != x) = false := by simp
      have f1 : i + 1 ≤ l.length := by omega
      have f2 : l.length - (i + 1) < l.length - i := by omega
      refine joinK.direct ?_
      refine ⟨fun _ => join_go ?_, fun h => absurd (hdc.symm.trans h) (by decide)⟩
      refine joinK.direct ?_
      refine drawK.mk (by kernel_rfl) ?_
      refine callE.mk cg ?_
      refine ⟨e0, e1, optK.mk hbg ?_⟩
      refine ⟨fun h => absurd (hx.symm.trans h) (by decide), fun _ => join_go ?_⟩
      exact loop_next (i + 1) f1 f2 ⟨rfl, rfl, int_eq hw1, trivial⟩ (.inl rfl)
    · have hdc : decide ((i : Int) < ((bools l).length : Int)) = false := decide_eq_false (by omega)
      refine joinK.direct ?_
      refine ⟨fun h => absurd (hdc.symm.trans h) (by decide), fun _ => ?_⟩
      exact join_at () trivial trivial (.inl rfl)
  rintro ⟨⟩ -
  exact fin_eq (.bool _) rfl rfl
end Go.Proofs.YthbjeeipeadilaaGreat
