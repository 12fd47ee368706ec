/- TextsRange: the law's walk; what is handed in. -/
import Derived.Test.YthbjeeipeadilaaGreatU4
import Derived.Test.YthbjeeipeadilaaGreatTAW
import Derived.Test.YthbjeeipeadilaaGreatPvL
namespace Go.Proofs.YthbjeeipeadilaaGreat
open Go Go.Pv Go.RowKit Go.ChangeShapes Go.WideShapes Go.ChangeAt
set_option linter.unusedSimpArgs false
set_option linter.unusedVariables false
set_option maxRecDepth 10000
set_option maxHeartbeats 1000000 in
theorem lawRange (l : List BL) (b : BL) (hl : l.length * 16 ≤ 140737488351232) (hs : Short 140737488351232 l) (hb : b.length ≤ 140737488351232) :
    FnC Tryz.prog 4 [.list (strs l), .str (bsA b)] (· = .bool true) := by
  have hlen := strs_len l
  have hml : maxLen = 9223372036854775807 := rfl
  have zb := bsA_size b
  refine FnC.mk Tryz.func4 rfl rfl (Nat.le_of_ble_eq_true rfl) (by intro d hd; simp at hd; rcases hd with rfl | rfl; exact strD_blw l; simp) (by rintro _ rfl; simp) ?_
  refine callK.eq awake20 ?_
  refine joinK.direct ?_
  refine ⟨fun h => absurd h (by decide), fun _ => join_go ?_⟩
  refine joinK.use [1, 6] (fun ks : List BL => [.str (bsA b), .list (strs ks)]) (fun _ => []) (fun ks => Rising ks ∧ ks.length ≤ l.length ∧ Short 140737488351232 ks) ?_ ?_
  · refine loopK.useG [0, 1, 6, 7] (fun s : Nat × List BL => [.list (strs l), .str (bsA b), .ref 0 0 s.2.length, .int .i64 s.1]) (fun s => [strPO s.2]) (fun s => s.1 ≤ l.length ∧ s.2.length ≤ s.1 ∧ Rising s.2 ∧ Short 140737488351232 s.2) (fun s => l.length - s.1) (0, [])
      ⟨Nat.zero_le _, Nat.le_refl _, rising_nil, fun y hy => by cases hy⟩
      (weak_gc [] [none] rfl ⟨ren_eq rfl (strD_blw l), ren_eq rfl (by simp), .nil _ rfl, ren_eq rfl (by simp), trivial⟩ ⟨rfl, trivial⟩) ?_
    rintro ⟨i, ks⟩ ⟨h1, h2, h3, h4⟩
    simp only at h1 h2 h3 h4
    have hkl := strs_len ks
    by_cases hil : i < l.length
    · have hd : decide ((i : Int) < ((strs l).length : Int)) = true := decide_eq_true (by omega)
      have hg := List.getElem?_eq_getElem hil
      have hy : (l[i]).length ≤ 140737488351232 := hs _ (List.getElem_mem hil)
      generalize l[i] = y at *
      have hsg := strs_get hg
      have e0 : (0 : Int) ≤ (i : Int) := by omega
      have e1 : (i : Int) < ((strs l).length : Int) := by omega
      have e2 : (i : Int).toNat = i := by omega
      rw [← e2] at hsg
      have hw : IntKind.i64.wrap ((i : Int) + 1) = ((i + 1 : Nat) : Int) := by rw [IntKind.wrap_i64]; omega
      have f1 : i + 1 ≤ l.length := by omega
      have f2 : l.length - (i + 1) < l.length - i := by omega
      have f3 : ks.length ≤ i + 1 := by omega
      have f4 : (ks ++ [y]).length ≤ i + 1 := by simp; omega
      have f5 : Short 140737488351232 (ks ++ [y]) := fun z hz => by
        rcases List.mem_append.1 hz with hz | hz
        · exact h4 z hz
        · simp at hz; subst hz; exact hy
      have c1 : ks.length + 1 ≤ maxLen := by omega
      have c2 : (ks.length + 1) * 16 ≤ 140737488355328 := by omega
      have hap : strs ks ++ [[.str (bsA y)]] = strs (ks ++ [y]) := strs_app ks [y]
      have hal : ks.length + 1 = (ks ++ [y]).length := by simp
      by_cases hk0 : ks.length = 0
      · have hz : ((ks.length : Int) == 0) = true := by rw [hk0]; rfl
        have hr1 : Rising (ks ++ [y]) := by rw [List.length_eq_zero_iff.1 hk0]; exact rising_one y
        refine joinK.direct ?_
        refine ⟨fun _ => join_go ?_, fun h => absurd (hd.symm.trans h) (by decide)⟩
        refine joinK.direct ?_
        refine drawK.mk (by kernel_rfl) ?_
        refine ⟨fun h => absurd (hz.symm.trans h) (by decide), fun _ => ?_⟩
        refine ⟨fun _ => ?_, fun h => absurd h (by simp)⟩
        refine ⟨e0, e1, optK.mk hsg ?_⟩
        refine appK.go ⟨.cons rfl .nil, hkl.symm, .at 16 rfl c1 c2, ?_⟩
        exact join_go (loop_gc (i + 1, ks ++ [y]) ⟨f1, f4, hr1, f5⟩ f2 (weak_gc [] [some 2] rfl ⟨ren_eq rfl (strD_blw l), ren_eq rfl (by simp), ren_ref rfl hal, ren_eq (int_eq hw) (by simp), trivial⟩ ⟨⟨rfl, rfl, rfl, els_same hap (strs_blw _)⟩, trivial⟩))
      · have hz : ((ks.length : Int) == 0) = false := by rw [beq_eq_false_iff_ne]; omega
        have hlg := List.getElem?_eq_getElem (l := ks) (i := ks.length - 1) (by omega)
        generalize ks[ks.length - 1]'(by omega) = z at *
        have hlg2 := strs_get hlg
        have hw1 : IntKind.i64.wrap ((ks.length : Int) - 1) = ((ks.length - 1 : Nat) : Int) := by rw [IntKind.wrap_i64]; omega
        have g0 : (0 : Int) ≤ ((ks.length - 1 : Nat) : Int) := by omega
        have g1 : ((ks.length - 1 : Nat) : Int) < (ks.length : Int) := by omega
        have g2 : 0 + (((ks.length - 1 : Nat) : Int)).toNat = ks.length - 1 := by omega
        rw [← g2] at hlg2
        rw [← hw1] at g0 g1 hlg2
        have ht := toL_lt z y
        refine joinK.direct ?_
        refine ⟨fun _ => join_go ?_, fun h => absurd (hd.symm.trans h) (by decide)⟩
        refine joinK.direct ?_
        refine drawK.mk (by kernel_rfl) ?_
        refine ⟨fun _ => ?_, fun h => absurd (hz.symm.trans h) (by simp)⟩
        refine ⟨g0, g1, optK.mk rfl ?_⟩
        refine optK.mk hlg2 ?_
        refine ⟨e0, e1, optK.mk hsg ?_⟩
        refine ⟨fun hlt => ?_, fun hlt => ?_⟩
        · have hlt : blt z y = true := ht.symm.trans hlt
          have hr1 := rising_snoc h3 hlg hlt
          refine ⟨e0, e1, optK.mk hsg ?_⟩
          refine appK.go ⟨.cons rfl .nil, hkl.symm, .at 16 rfl c1 c2, ?_⟩
          exact join_go (loop_gc (i + 1, ks ++ [y]) ⟨f1, f4, hr1, f5⟩ f2 (weak_gc [] [some 2] rfl ⟨ren_eq rfl (strD_blw l), ren_eq rfl (by simp), ren_ref rfl hal, ren_eq (int_eq hw) (by simp), trivial⟩ ⟨⟨rfl, rfl, rfl, els_same hap (strs_blw _)⟩, trivial⟩))
        · refine join_go (loop_next (i + 1, ks) ⟨f1, f3, h3, h4⟩ f2 ⟨rfl, rfl, rfl, int_eq hw, trivial⟩ (.inl rfl))
    · have hd : decide ((i : Int) < ((strs l).length : Int)) = false := decide_eq_false (by omega)
      have hle : ks.length ≤ l.length := by omega
      refine joinK.direct ?_
      refine ⟨fun h => absurd (hd.symm.trans h) (by decide), fun _ => ?_⟩
      exact join_gc ks ⟨h3, hle, h4⟩ (weak_gc [0] [] rfl ⟨ren_eq rfl (by simp), .snap _ _ (snap_strsF ks _ 0 rfl), trivial⟩ trivial)
  rintro ks ⟨hr, hkl, hks⟩
  have hksl := strs_len ks
  have cr := rangeC ks b (by omega) (fun y hy => Nat.le_trans (hks y hy) (by rw [hml]; decide))
  refine callK_st cr ?_
  rintro ⟨p, q⟩ ⟨hp, hq⟩
  have hpl := hp.1
  have hql := hq.1
  rw [List.length_drop] at hql
  simp only at hp hq hpl hql
  have d1 : decide ((p : Int) < 0) = false := decide_eq_false (by omega)
  have d2 : decide (((p + q : Nat) : Int) < (p : Int)) = false := decide_eq_false (by omega)
  have d3 : decide (((p + q : Nat) : Int) > ((strs ks).length : Int)) = false := decide_eq_false (by omega)
  have dc : (bif (bif decide ((p : Int) < 0) then true else decide (((p + q : Nat) : Int) < (p : Int))) then true else decide (((p + q : Nat) : Int) > ((strs ks).length : Int))) = false := by rw [d1, d2, d3]; rfl
  refine joinK.direct ?_
  refine guardK.spec ?_
  refine ⟨fun h => absurd (dc.symm.trans h) (by decide), fun _ => join_go ?_⟩
  refine joinK.use [] (fun _ : Unit => []) (fun _ => []) (fun _ => True) ?_ ?_
  · refine loopK.use [1, 6, 8, 9, 10] (fun i : Nat => [.str (bsA b), .list (strs ks), .int .i64 p, .int .i64 (p + q : Nat), .int .i64 i]) (fun _ => []) (fun i => i ≤ ks.length) (fun i => ks.length - i) 0 (Nat.zero_le _) ⟨rfl, rfl, rfl, rfl, rfl, trivial⟩ (.inl rfl) ?_
    intro i hi
    by_cases hil : i < ks.length
    · have hd : decide ((i : Int) < ((strs ks).length : Int)) = true := decide_eq_true (by omega)
      have hg := List.getElem?_eq_getElem hil
      have hy : (ks[i]).length ≤ 140737488351232 := hks _ (List.getElem_mem hil)
      generalize ks[i] = y at *
      have hsg := strs_get hg
      have e0 : (0 : Int) ≤ (i : Int) := by omega
      have e1 : (i : Int) < ((strs ks).length : Int) := by omega
      have e2 : (i : Int).toNat = i := by omega
      rw [← e2] at hsg
      have hw : IntKind.i64.wrap ((i : Int) + 1) = ((i + 1 : Nat) : Int) := by rw [IntKind.wrap_i64]; omega
      have f1 : i + 1 ≤ ks.length := by omega
      have f2 : ks.length - (i + 1) < ks.length - i := by omega
      have zy := bsA_size y
      have hbl := ends_below hr hp i y hg
      have hpr := ends_pre hr hp hq i y hg
      have hlt := toL_lt y b
      refine joinK.direct ?_
      refine ⟨fun _ => join_go ?_, fun h => absurd (hd.symm.trans h) (by decide)⟩
      have hlast : ∀ v : Bool, v = pre b y → (bif (v != (bif decide ((i : Int) ≥ (p : Int)) then decide ((i : Int) < ((p + q : Nat) : Int)) else false)) then true else (Op.bytesLess (bsA y).toList (bsA b).toList != decide ((i : Int) < (p : Int)))) = false := by
        intro v hv
        rw [hv, hpr, hlt, hbl]
        have a1 : decide ((i : Int) ≥ (p : Int)) = decide (p ≤ i) := by rw [decide_eq_decide]; omega
        have a2 : decide ((i : Int) < ((p + q : Nat) : Int)) = decide (i < p + q) := by rw [decide_eq_decide]; omega
        have a3 : decide ((i : Int) < (p : Int)) = decide (i < p) := by rw [decide_eq_decide]; omega
        rw [a1, a2, a3]
        cases decide (p ≤ i) <;> cases decide (i < p + q) <;> cases decide (i < p) <;> rfl
      by_cases hge : b.length ≤ y.length
      · have hc : decide (((bsA y).size : Int) ≥ ((bsA b).size : Int)) = true := decide_eq_true (by omega)
        have hm : (if ((bsA b).size : Int) < ((bsA y).size : Int) then ((bsA b).size : Int) else ((bsA y).size : Int)) = ((bsA b).size : Int) := by split <;> omega
        have m0 : (0 : Int) ≤ (if ((bsA b).size : Int) < ((bsA y).size : Int) then ((bsA b).size : Int) else ((bsA y).size : Int)) := by rw [hm]; omega
        have m1 : (if ((bsA b).size : Int) < ((bsA y).size : Int) then ((bsA b).size : Int) else ((bsA y).size : Int)) ≤ ((bsA y).size : Int) := by rw [hm]; omega
        have hpv := pre_val hge
        rw [← hm] at hpv
        have hfin := hlast _ hpv
        refine joinK.direct ?_
        refine drawK.mk (by kernel_rfl) ?_
        refine ⟨e0, e1, optK.mk hsg ?_⟩
        refine ⟨fun _ => ?_, fun h => absurd (hc.symm.trans h) (by decide)⟩
        refine ⟨e0, e1, optK.mk hsg ?_⟩
        refine ⟨e0, e1, optK.mk hsg ?_⟩
        refine ⟨m0, m1, ?_⟩
        refine guardK.spec ?_
        refine ⟨e0, e1, optK.mk hsg ?_⟩
        refine ⟨fun h => absurd (hfin.symm.trans h) (by decide), fun _ => join_go ?_⟩
        exact loop_next (i + 1) f1 f2 ⟨rfl, rfl, rfl, rfl, int_eq hw, trivial⟩ (.inl rfl)
      · have hc : decide (((bsA y).size : Int) ≥ ((bsA b).size : Int)) = false := decide_eq_false (by omega)
        have hfin := hlast false (by unfold pre; rw [decide_eq_false hge]; rfl)
        refine joinK.direct ?_
        refine drawK.mk (by kernel_rfl) ?_
        refine ⟨e0, e1, optK.mk hsg ?_⟩
        refine ⟨fun h => absurd (hc.symm.trans h) (by decide), fun _ => ?_⟩
        refine guardK.spec ?_
        refine ⟨e0, e1, optK.mk hsg ?_⟩
        refine ⟨fun h => absurd (hfin.symm.trans h) (by decide), fun _ => join_go ?_⟩
        exact loop_next (i + 1) f1 f2 ⟨rfl, rfl, rfl, rfl, int_eq hw, trivial⟩ (.inl rfl)
    · have hd : decide ((i : Int) < ((strs ks).length : Int)) = false := decide_eq_false (by omega)
      refine joinK.direct ?_
      refine ⟨fun h => absurd (hd.symm.trans h) (by decide), fun _ => ?_⟩
      exact join_at () trivial trivial (.inl rfl)
  rintro ⟨⟩ -
  exact fin_eq (.bool _) rfl rfl
variable {H : Type} {enc : TypeId × Value → H} {W : World} {base : Nat} {v : Value} {d : DataW H} {ps : List MemPlace} {t e : TypeId}

theorem open_s (ht : Tryz.prog.underlying t = some .string) (hval : Value.okWide Tryz.prog W .any base t v) (h : DataW.Trod enc Tryz.prog W 0 (fun _ => true) true t v d ps)
    (hw : (d.weights Tryz.prog t).all (· ≤ reachBytes) = true) : ∃ l : List UInt8, l.length ≤ reachBytes ∧ Rep (memH W) (fun _ => .no) v (.str (bsA l)) := by
  obtain ⟨s, rfl⟩ := okWide_string ht hval
  obtain ⟨x, ⟨l, e1, w1⟩, hr⟩ := (Typ.str ht).one h hw rfl
  injection e1 with e1
  subst e1
  exact ⟨l, w1, hr⟩
theorem strs_of : ∀ (xs : List (List DV)), (∀ x ∈ xs, ∃ l : List UInt8, x = [.str (bsA l)] ∧ l.length ≤ reachBytes) → ∃ l : List BL, xs = strs l ∧ Short reachBytes l
  | [], _ => ⟨[], rfl, fun i h => by cases h⟩
  | x :: xs, h => by
    obtain ⟨z, e1, w1⟩ := h x (List.mem_cons_self ..)
    obtain ⟨l, e2, w2⟩ := strs_of xs fun y hy => h y (List.mem_cons_of_mem _ hy)
    refine ⟨z :: l, by rw [e1, e2]; rfl, fun i hi => ?_⟩
    rcases List.mem_cons.1 hi with rfl | hi
    · exact w1
    · exact w2 i hi
theorem open_ss (ht : Tryz.prog.underlying t = some (.slice e)) (he : Tryz.prog.underlying e = some .string) (hc : Tryz.prog.cellsOf e = 1) (hb : Tryz.prog.bytesOf e = 16) (hval : Value.okWide Tryz.prog W .any base t v) (h : DataW.Trod enc Tryz.prog W 0 (fun _ => true) true t v d ps)
    (hw : (d.weights Tryz.prog t).all (· ≤ reachBytes) = true) : ∃ l : List BL, Short reachBytes l ∧ l.length * 16 ≤ reachBytes ∧ Rep (memH W) (fun _ => .no) v (.list (strs l)) := by
  obtain ⟨a, len, cap, rfl⟩ := okWide_slice ht hval
  obtain ⟨x, ⟨xs, e1, w1, _, w2⟩, hr⟩ := (Typ.slice ht (Typ.str he) hc).one h hw rfl
  injection e1 with e1
  subst e1
  obtain ⟨l, rfl, hl⟩ := strs_of xs w1
  rw [hb, strs_len] at w2
  exact ⟨l, hl, w2, hr⟩
theorem lawRange' (l : List BL) (hs : Short reachBytes l) (hl : l.length * 16 ≤ reachBytes) (b : BL) (hb : b.length ≤ reachBytes) :
    FnC Tryz.prog 4 [.list (strs l), .str (bsA b)] (· = .bool true) := lawRange l b hl hs hb
end Go.Proofs.YthbjeeipeadilaaGreat
