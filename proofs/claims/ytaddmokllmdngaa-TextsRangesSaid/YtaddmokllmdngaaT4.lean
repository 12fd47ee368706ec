/- TextsRanges: the law's walk. -/
import Derived.Test.YtaddmokllmdngaaT3
namespace Go.Proofs.Ytaddmokllmdngaa
open Go Go.Pv Go.RowKit
set_option linter.unusedSimpArgs false
set_option linter.unusedVariables false
set_option maxRecDepth 10000

def markB : BL := [109, 97, 114, 107]
def strPO (l : List BL) : Option PO := some ⟨false, 1, 9, strs l⟩
theorem rising_nil : Rising [] := fun i j a b h => by simp at h
theorem rising_one (y : BL) : Rising [y] := fun i j a b h1 h2 hij => by
  have h2 := (List.getElem?_eq_some_iff.1 h2).1
  simp at h2; omega
theorem rising_snoc {ks : List BL} {y z : BL} (h : Rising ks) (hz : ks[ks.length - 1]? = some z) (hy : blt z y = true) : Rising (ks ++ [y]) := by
  intro i j a b ha hb hij
  have hjl := (List.getElem?_eq_some_iff.1 hb).1
  simp at hjl
  rw [List.getElem?_append_left (by omega)] at ha
  by_cases hj : j < ks.length
  · rw [List.getElem?_append_left hj] at hb
    exact h i j a b ha hb hij
  · have e : j = ks.length := by omega
    subst e
    simp at hb; subst hb
    by_cases e : i = ks.length - 1
    · subst e; rw [hz] at ha; cases ha; exact hy
    · exact blt_trans (h i (ks.length - 1) a z ha hz (by omega)) hy
theorem blt_app (b : BL) : ∀ x y : BL, blt (b ++ x) (b ++ y) = blt x y := by
  induction b with
  | nil => intro x y; rfl
  | cons a b ih =>
    intro x y
    rw [List.cons_append, List.cons_append, blt_cons, ih]
    simp [UInt8.lt_irrefl]
theorem rising_app {ks : List BL} (b : BL) (h : Rising ks) : Rising (ks.map (b ++ ·)) := by
  intro i j x y hx hy hij
  rw [List.getElem?_map] at hx hy
  cases hx' : ks[i]? with
  | none => rw [hx'] at hx; cases hx
  | some x' =>
    cases hy' : ks[j]? with
    | none => rw [hy'] at hy; cases hy
    | some y' =>
      rw [hx'] at hx; rw [hy'] at hy
      simp at hx hy; subst hx; subst hy
      rw [blt_app]; exact h i j x' y' hx' hy' hij
def Short (m : Nat) (l : List BL) : Prop := ∀ y ∈ l, y.length ≤ m
theorem short_app {ks : List BL} {m n : Nat} {b : BL} (h : Short m ks) (hb : b.length ≤ n) : Short (n + m) (ks.map (b ++ ·)) := by
  intro y hy
  obtain ⟨x, hx, rfl⟩ := List.mem_map.1 hy
  have := h x hx
  simp; omega
theorem short_le {ks : List BL} {m n : Nat} (h : Short m ks) (hn : m ≤ n) : ∀ y ∈ ks, y.length ≤ n := fun y hy => Nat.le_trans (h y hy) hn
/-- The keys, so many of them told anew. -/
def cur (b : BL) (ks : List BL) (i : Nat) : List BL := (ks.take i).map (b ++ ·) ++ ks.drop i
theorem cur_len (b : BL) (ks : List BL) (i : Nat) : (cur b ks i).length = ks.length := by unfold cur; simp; omega
theorem cur_0 (b : BL) (ks : List BL) : cur b ks 0 = ks := rfl
theorem cur_end (b : BL) (ks : List BL) : cur b ks ks.length = ks.map (b ++ ·) := by unfold cur; simp
theorem cur_at (b : BL) (ks : List BL) (i : Nat) (y : BL) (h : ks[i]? = some y) : (cur b ks i)[i]? = some y := by
  have hi := (List.getElem?_eq_some_iff.1 h).1
  unfold cur
  rw [List.getElem?_append_right (by simp; omega), List.length_map, List.length_take, Nat.min_eq_left (by omega), List.getElem?_drop, Nat.sub_self]
  exact h
theorem cur_set (b : BL) (ks : List BL) (i : Nat) (y : BL) (h : ks[i]? = some y) : (cur b ks i).set i (b ++ y) = cur b ks (i + 1) := by
  have hi := (List.getElem?_eq_some_iff.1 h).1
  have e : ks.drop i = y :: ks.drop (i + 1) := by rw [List.drop_eq_getElem_cons hi]; rw [List.getElem?_eq_getElem hi] at h; cases h; rfl
  have e2 : ks.take (i + 1) = ks.take i ++ [y] := by rw [List.take_add_one, h]; rfl
  unfold cur
  rw [e, e2, List.set_append_right _ _ (by simp; omega), List.length_map, List.length_take, Nat.min_eq_left (by omega), Nat.sub_self, List.map_append]
  simp
theorem strs_set (l : List BL) (i : Nat) (y : BL) : (strs l).set i [.str (bsA y)] = strs (l.set i y) := by unfold strs; rw [List.map_set]
theorem strs_app (l m : List BL) : strs l ++ strs m = strs (l ++ m) := by unfold strs; rw [List.map_append]
theorem strs_one (y : BL) : strs [y] = [[.str (bsA y)]] := rfl
theorem snap_strs (l : List BL) (g : Nat → Option PO) (id : Nat) (h : g id = some ⟨true, 1, 9, strs l⟩) : Snap g (.ref id 0 l.length) (.list (strs l)) := by
  have hs := snap_whole (po := ⟨true, 1, 9, strs l⟩) (g := g) (id := id) h (strs_blw l)
  rwa [show (PO.mk true 1 9 (strs l)).els.length = l.length from strs_len l] at hs
theorem snap_part (l m : List BL) (g : Nat → Option PO) (id : Nat) (h : g id = some ⟨true, 1, 9, strs (l ++ m)⟩) : Snap g (.ref id 0 l.length) (.list (strs l)) := by
  have hs := snap_ref (po := ⟨true, 1, 9, strs (l ++ m)⟩) (g := g) (id := id) (off := 0) (len := l.length) h (strs_blw _) (by simp [strs_len])
  have e : ((strs (l ++ m)).drop 0).take l.length = strs l := by rw [List.drop_zero]; unfold strs; rw [← List.map_take, List.take_left]
  rwa [show (PO.mk true 1 9 (strs (l ++ m))).els = strs (l ++ m) from rfl, e] at hs
theorem callK_lendR {P : Program} {f : FuncId} {ds ds' : List DV} {σ : Objs} {K : DV → Objs → Prop} {S : Type} {R : S → Prop} {g : S → DV} (F : List Nat) (hf : FnC P f ds' (fun d => ∃ s, R s ∧ d = g s)) (hs : Snaps (fobj (frz F σ)) ds ds')
    (hr : ∀ s, Sca (g s)) (hK : ∀ s, R s → K (g s) σ) : callK P f ds σ K := by
  unfold callK; exact .inl ⟨F, ds', hs, .inl ⟨_, hf, fun d ⟨s, h, e⟩ => .inl (by subst e; exact ⟨hr s, hK s h⟩)⟩⟩

theorem strs_ok (l : List BL) : elsOk 1 (strs l) := fun ds h => by obtain ⟨y, _, rfl⟩ := List.mem_map.1 h; rfl
theorem ref_eq {id a b : Nat} (h : a = b) : DV.ref id 0 a = .ref id 0 b := by rw [h]
theorem two_st {a b c d : List (List DV)} (h1 : a = c) (h2 : b = d) : [some (PO.mk false 1 9 a), some (PO.mk false 1 9 b)] = [some (PO.mk false 1 9 c), some (PO.mk false 1 9 d)] := by rw [h1, h2]
set_option maxHeartbeats 1000000 in
theorem lawRanges (l : List BL) (b : BL) (hl : l.length * 16 ≤ 140737488351232) (hs : Short 140737488351232 l) (hb : b.length ≤ 140737488351232) :
    FnC Try.prog 5 [.list (strs l), .str (bsA b)] (· = .bool true) := by
  have hlen := strs_len l
  have hml : maxLen = 9223372036854775807 := rfl
  have hsl : ∀ y ∈ l, y.length ≤ maxLen := short_le hs (by rw [hml]; decide)
  have hlast := rangeC l b (by omega) hsl
  refine FnC.mk Try.func5 rfl rfl (Nat.le_of_ble_eq_true rfl) (by intro d hd; simp at hd; rcases hd with rfl | rfl; exact strD_blw l; simp) (by rintro _ rfl; simp) ?_
  refine joinK.use [0, 1, 5] (fun ks : List BL => [.list (strs l), .str (bsA b), .ref 0 0 ks.length]) (fun ks => [strPO ks]) (fun ks => Rising ks ∧ ks.length ≤ l.length ∧ Short 140737488351232 ks) ?_ ?_
  · refine loopK.useG [0, 1, 5, 6] (fun s : Nat × List BL => [.list (strs l), .str (bsA b), .ref 0 0 s.2.length, .int .i64 s.1]) (fun s => [strPO s.2]) (fun s => s.1 ≤ l.length ∧ s.2.length ≤ s.1 ∧ Rising s.2 ∧ Short 140737488351232 s.2) (fun s => l.length - s.1) (0, [])
      ⟨Nat.zero_le _, Nat.le_refl _, rising_nil, fun y hy => by cases hy⟩
      (weak_gc [] [none] rfl ⟨ren_eq rfl (strD_blw l), ren_eq rfl (by simp), .nil _ rfl, ren_eq rfl (by simp), trivial⟩ ⟨rfl, trivial⟩) ?_
    rintro ⟨i, ks⟩ ⟨h1, h2, h3, h4⟩
    simp only at h1 h2 h3 h4
    have hkl := strs_len ks
    by_cases hil : i < l.length
    · have hd : decide ((i : Int) < ((strs l).length : Int)) = true := decide_eq_true (by omega)
      have hg := List.getElem?_eq_getElem hil
      have hy : (l[i]).length ≤ 140737488351232 := hs _ (List.getElem_mem hil)
      generalize l[i] = y at *
      have hsg := strs_get hg
      have e0 : (0 : Int) ≤ (i : Int) := by omega
      have e1 : (i : Int) < ((strs l).length : Int) := by omega
      have e2 : (i : Int).toNat = i := by omega
      rw [← e2] at hsg
      have hw : IntKind.i64.wrap ((i : Int) + 1) = ((i + 1 : Nat) : Int) := by rw [IntKind.wrap_i64]; omega
      have f1 : i + 1 ≤ l.length := by omega
      have f2 : l.length - (i + 1) < l.length - i := by omega
      have f3 : ks.length ≤ i + 1 := by omega
      have f4 : (ks ++ [y]).length ≤ i + 1 := by simp; omega
      have f5 : Short 140737488351232 (ks ++ [y]) := fun z hz => by
        rcases List.mem_append.1 hz with hz | hz
        · exact h4 z hz
        · simp at hz; subst hz; exact hy
      have c1 : ks.length + 1 ≤ maxLen := by omega
      have c2 : (ks.length + 1) * 16 ≤ 140737488355328 := by omega
      have hap : strs ks ++ [[.str (bsA y)]] = strs (ks ++ [y]) := strs_app ks [y]
      have hal : ks.length + 1 = (ks ++ [y]).length := by simp
      by_cases hk0 : ks.length = 0
      · have hz : ((ks.length : Int) == 0) = true := by rw [hk0]; rfl
        have hr1 : Rising (ks ++ [y]) := by rw [List.length_eq_zero_iff.1 hk0]; exact rising_one y
        refine joinK.direct ?_
        refine ⟨fun _ => join_go ?_, fun h => absurd (hd.symm.trans h) (by decide)⟩
        refine joinK.direct ?_
        refine drawK.mk (by kernel_rfl) ?_
        refine ⟨fun h => absurd (hz.symm.trans h) (by decide), fun _ => ?_⟩
        refine ⟨fun _ => ?_, fun h => absurd h (by simp)⟩
        refine ⟨e0, e1, optK.mk hsg ?_⟩
        refine appK.go ⟨.cons rfl .nil, hkl.symm, .at 16 rfl c1 c2, ?_⟩
        exact join_go (loop_gc (i + 1, ks ++ [y]) ⟨f1, f4, hr1, f5⟩ f2 (weak_gc [] [some 2] rfl ⟨ren_eq rfl (strD_blw l), ren_eq rfl (by simp), ren_ref rfl hal, ren_eq (int_eq hw) (by simp), trivial⟩ ⟨⟨rfl, rfl, rfl, els_same hap (strs_blw _)⟩, trivial⟩))
      · have hz : ((ks.length : Int) == 0) = false := by rw [beq_eq_false_iff_ne]; omega
        have hlg := List.getElem?_eq_getElem (l := ks) (i := ks.length - 1) (by omega)
        generalize ks[ks.length - 1]'(by omega) = z at *
        have hlg2 := strs_get hlg
        have hw1 : IntKind.i64.wrap ((ks.length : Int) - 1) = ((ks.length - 1 : Nat) : Int) := by rw [IntKind.wrap_i64]; omega
        have g0 : (0 : Int) ≤ ((ks.length - 1 : Nat) : Int) := by omega
        have g1 : ((ks.length - 1 : Nat) : Int) < (ks.length : Int) := by omega
        have g2 : 0 + (((ks.length - 1 : Nat) : Int)).toNat = ks.length - 1 := by omega
        rw [← g2] at hlg2
        rw [← hw1] at g0 g1 hlg2
        have ht := toL_lt z y
        refine joinK.direct ?_
        refine ⟨fun _ => join_go ?_, fun h => absurd (hd.symm.trans h) (by decide)⟩
        refine joinK.direct ?_
        refine drawK.mk (by kernel_rfl) ?_
        refine ⟨fun _ => ?_, fun h => absurd (hz.symm.trans h) (by decide)⟩
        refine ⟨g0, g1, optK.mk rfl ?_⟩
        refine optK.mk hlg2 ?_
        refine ⟨e0, e1, optK.mk hsg ?_⟩
        refine ⟨fun h => ?_, fun h => ?_⟩
        · have h : blt z y = true := ht.symm.trans h
          have hr1 := rising_snoc h3 hlg h
          refine ⟨e0, e1, optK.mk hsg ?_⟩
          refine appK.go ⟨.cons rfl .nil, hkl.symm, .at 16 rfl c1 c2, ?_⟩
          exact join_go (loop_gc (i + 1, ks ++ [y]) ⟨f1, f4, hr1, f5⟩ f2 (weak_gc [] [some 2] rfl ⟨ren_eq rfl (strD_blw l), ren_eq rfl (by simp), ren_ref rfl hal, ren_eq (int_eq hw) (by simp), trivial⟩ ⟨⟨rfl, rfl, rfl, els_same hap (strs_blw _)⟩, trivial⟩))
        · exact join_go (loop_next (i + 1, ks) ⟨f1, f3, h3, h4⟩ f2 ⟨rfl, rfl, rfl, int_eq hw, trivial⟩ (.inl rfl))
    · have hd : decide ((i : Int) < ((strs l).length : Int)) = false := decide_eq_false (by omega)
      have e : i = l.length := by omega
      subst e
      refine joinK.direct ?_
      refine ⟨fun h => absurd (hd.symm.trans h) (by decide), fun _ => ?_⟩
      exact join_at ks ⟨h3, h2, h4⟩ ⟨rfl, rfl, rfl, trivial⟩ (.inl rfl)
  rintro ks ⟨hr, hkl, hks⟩
  have hsk := strs_len ks
  have hdt : ((strs ks).drop 0).take ks.length = strs ks := by rw [List.drop_zero, ← hsk, List.take_length]
  have hok : elsOk 1 (((strs ks).drop 0).take ks.length) := by rw [hdt]; exact strs_ok ks
  have hnl : 0 + (((strs ks).drop 0).take ks.length).length = ks.length := by rw [hdt, hsk]; omega
  have c1 : 0 + (((strs ks).drop 0).take ks.length).length ≤ maxLen := by omega
  have c2 : (0 + (((strs ks).drop 0).take ks.length).length) * 16 ≤ 140737488355328 := by rw [hnl]; omega
  have c3 : 0 + (((strs ks).drop 0).take ks.length).length + 1 ≤ maxLen := by omega
  have c4 : (0 + (((strs ks).drop 0).take ks.length).length + 1) * 16 ≤ 140737488355328 := by rw [hnl]; omega
  have hl2 : 0 + (((strs ks).drop 0).take ks.length).length = ([] ++ ((strs ks).drop 0).take ks.length).length := by rw [List.nil_append]; omega
  have hl3 : 0 + (((strs ks).drop 0).take ks.length).length + 1 = ks.length + 1 := by omega
  have hel : ([] ++ ((strs ks).drop 0).take ks.length) ++ [[.str (bsA markB)]] = strs (ks ++ [markB]) := by rw [List.nil_append, hdt]; exact strs_app ks [markB]
  refine appK.go ⟨hok, rfl, .at 16 rfl c1 c2, ?_⟩
  refine appK.go ⟨.cons rfl .nil, hl2, .at 16 rfl c3 c4, ?_⟩
  refine joinK.use [0, 1] (fun _ : Unit => [.list (strs l), .str (bsA b)]) (fun _ => []) (fun _ => True) ?_ ?_
  · refine loopK.useG [0, 1, 5, 7, 8] (fun s : Nat × List BL => [.list (strs l), .str (bsA b), .ref 0 0 s.2.length, .ref 1 0 (s.2.length + 1), .int .i64 s.1]) (fun s => [strPO s.2, strPO (s.2 ++ [markB])])
      (fun s => s.1 ≤ 2 ∧ Rising s.2 ∧ s.2.length ≤ l.length ∧ Short ((s.1 + 1) * 140737488351232) s.2) (fun s => 2 - s.1) (0, ks) ⟨Nat.zero_le _, hr, hkl, by simpa using hks⟩
      (weak_gc [] [some 0, some 4] rfl ⟨ren_eq rfl (strD_blw l), ren_eq rfl (by simp), ren_ref rfl rfl, ren_ref rfl hl3, ren_eq rfl (by simp), trivial⟩ ⟨⟨rfl, rfl, rfl, els_same rfl (strs_blw _)⟩, ⟨rfl, rfl, rfl, els_same hel (strs_blw _)⟩, trivial⟩) ?_
    clear hsk hdt hok hnl c1 c2 c3 c4 hl2 hl3 hel hr hkl hks ks
    rintro ⟨t, ks⟩ ⟨ht, hr, hkl, hks⟩
    simp only at ht hr hkl hks
    by_cases ht2 : t < 2
    · have hd : decide ((t : Int) < 2) = true := decide_eq_true (by omega)
      have hsk := strs_len ks
      have hskm := strs_len (ks ++ [markB])
      rw [List.length_append, List.length_singleton] at hskm
      have hshort : ∀ y ∈ ks, y.length ≤ maxLen := short_le hks (by omega)
      have cR := rangeR ks b (by omega) hshort
      have cC := rangeC ks b (by omega) hshort
      have hb1 : (0 : Int) ≤ (ks.length : Int) := by omega
      have hb3 : (ks.length : Int) ≤ (((strs (ks ++ [markB])).length - 0 : Nat) : Int) := by omega
      have hsn2 : ∀ g : Nat → Option PO, g 1 = some ⟨true, 1, 9, strs (ks ++ [markB])⟩ → Snap g (.ref 1 (0 + (0 : Int).toNat) ((ks.length : Int).toNat - (0 : Int).toNat)) (.list (strs ks)) := by
        intro g hg
        rw [show 0 + (0 : Int).toNat = 0 from rfl, show (ks.length : Int).toNat - (0 : Int).toNat = ks.length from by omega]
        exact snap_part ks [markB] g 1 hg
      have hwt : IntKind.i64.wrap ((t : Int) + 1) = ((t + 1 : Nat) : Int) := by rw [IntKind.wrap_i64]; omega
      have hmk : (strs (ks ++ [markB]))[0 + (ks.length : Int).toNat]? = some [.str (bsA markB)] := by
        rw [show 0 + (ks.length : Int).toNat = ks.length from by omega]
        exact strs_get (by simp)
      have hmk1 : (ks.length : Int) < ((ks.length + 1 : Nat) : Int) := by omega
      have hcnd : ∀ p q : Int, (bif (bif (p != p) then true else (q != q)) then true else !((bsA markB).toList == (bsA markB).toList)) = false := by intro p q; simp
      refine joinK.direct ?_
      refine ⟨fun _ => join_go ?_, fun h => absurd (hd.symm.trans h) (by decide)⟩
      refine joinK.direct ?_
      refine callK.lend [0] cR ⟨snap_strs ks _ 0 rfl, .pure (.str (bsA b)) (by simp), trivial⟩ (by simp) ?_
      refine ⟨hb1, hb3, ?_⟩
      refine callK_lendR [1] cC ⟨hsn2 _ rfl, .pure (.str (bsA b)) (by simp), trivial⟩ (by intro s; simp) ?_
      rintro ⟨p, q⟩ ⟨hp, hq⟩
      have e1 := (count_below hr hp).1
      have e2 := count_pre hr hp hq
      refine joinK.use [0, 1, 5, 7, 8, 9, 10, 11, 12] (fun _ : Unit => [.list (strs l), .str (bsA b), .ref 0 0 ks.length, .ref 1 0 (ks.length + 1), .int .i64 t, .int .i64 p, .int .i64 (p + q : Nat), .int .i64 p, .int .i64 (p + q : Nat)]) (fun _ => [strPO ks, strPO (ks ++ [markB])]) (fun _ => True) ?_ ?_
      · refine loopK.use [0, 1, 5, 7, 8, 9, 10, 11, 12, 13] (fun i : Nat => [.list (strs l), .str (bsA b), .ref 0 0 ks.length, .ref 1 0 (ks.length + 1), .int .i64 t, .int .i64 p, .int .i64 (p + q : Nat), .int .i64 p, .int .i64 (p + q : Nat), .int .i64 i]) (fun _ => [strPO ks, strPO (ks ++ [markB])]) (fun i => i ≤ ks.length) (fun i => ks.length - i) 0 (Nat.zero_le _)
          ⟨rfl, rfl, rfl, rfl, rfl, int_eq (by rw [e1]), int_eq (by rw [e1, e2]), rfl, rfl, rfl, trivial⟩ (.inl rfl) ?_
        intro i hi
        by_cases hil : i < ks.length
        · have hd : decide ((i : Int) < (ks.length : Int)) = true := decide_eq_true (by omega)
          have hg := List.getElem?_eq_getElem hil
          generalize ks[i] = y at *
          have hkey : (strs ks)[0 + (i : Int).toNat]? = some [.str (bsA y)] := by rw [show 0 + (i : Int).toNat = i from by omega]; exact strs_get hg
          have hown : (strs (ks ++ [markB]))[0 + (i : Int).toNat]? = some [.str (bsA y)] := by rw [show 0 + (i : Int).toNat = i from by omega]; exact strs_get (by rw [List.getElem?_append_left hil]; exact hg)
          have e0 : (0 : Int) ≤ (i : Int) := by omega
          have e1 : (i : Int) < (ks.length : Int) := by omega
          have e1' : (i : Int) < ((ks.length + 1 : Nat) : Int) := by omega
          have hw : IntKind.i64.wrap ((i : Int) + 1) = ((i + 1 : Nat) : Int) := by rw [IntKind.wrap_i64]; omega
          have hne : (!((bsA y).toList == (bsA y).toList)) = false := by simp
          have f1 : i + 1 ≤ ks.length := by omega
          have f2 : ks.length - (i + 1) < ks.length - i := by omega
          refine joinK.direct ?_
          refine ⟨fun _ => join_go ?_, fun h => absurd (hd.symm.trans h) (by decide)⟩
          refine joinK.direct ?_
          refine drawK.mk (by kernel_rfl) ?_
          refine ⟨e0, e1', optK.mk rfl ?_⟩
          refine optK.mk hown ?_
          refine ⟨e0, e1, optK.mk rfl ?_⟩
          refine optK.mk hkey ?_
          refine ⟨fun h => absurd (hne.symm.trans h) (by decide), fun _ => join_go ?_⟩
          exact loop_next (i + 1) f1 f2 ⟨rfl, rfl, rfl, rfl, rfl, rfl, rfl, rfl, rfl, int_eq hw, trivial⟩ (.inl rfl)
        · have hd : decide ((i : Int) < (ks.length : Int)) = false := decide_eq_false (by omega)
          refine joinK.direct ?_
          refine ⟨fun h => absurd (hd.symm.trans h) (by decide), fun _ => ?_⟩
          exact join_at () trivial ⟨rfl, rfl, rfl, rfl, rfl, rfl, rfl, rfl, rfl, trivial⟩ (.inl rfl)
      rintro ⟨⟩ -
      refine joinK.direct ?_
      refine guardK.spec ?_
      refine ⟨hb1, hmk1, optK.mk rfl ?_⟩
      refine optK.mk hmk ?_
      refine ⟨fun h => absurd ((hcnd p (p + q : Nat)).symm.trans h) (by decide), fun _ => join_go ?_⟩
      have hml2 : (b.length : Int) ≤ 140737488351232 := by omega
      have hml3 : (ks.map (b ++ ·)).length = ks.length := List.length_map ..
      have hs3 : Short ((t + 1 + 1) * 140737488351232) (ks.map (b ++ ·)) := by
        have := short_app hks hb
        intro y hy
        have := this y hy
        omega
      have ht3 : t + 1 ≤ 2 := by omega
      have hkl3 : (ks.map (b ++ ·)).length ≤ l.length := by omega
      have hm3 : 2 - (t + 1) < 2 - t := by omega
      have hr3 := rising_app b hr
      refine loopK.use [0, 1, 5, 7, 8, 14] (fun i : Nat => [.list (strs l), .str (bsA b), .ref 0 0 ks.length, .ref 1 0 (ks.length + 1), .int .i64 t, .int .i64 i]) (fun i => [strPO (cur b ks i), strPO (cur b ks i ++ [markB])]) (fun i => i ≤ ks.length) (fun i => ks.length - i) 0 (Nat.zero_le _)
        ⟨rfl, rfl, rfl, rfl, rfl, rfl, trivial⟩ (.inl rfl) ?_
      intro i hi
      by_cases hil : i < ks.length
      · have hd : decide ((i : Int) < (ks.length : Int)) = true := decide_eq_true (by omega)
        have hg := List.getElem?_eq_getElem hil
        have hyl := hks _ (List.getElem_mem hil)
        generalize ks[i] = y at *
        have hcl := cur_len b ks i
        have hca := cur_at b ks i y hg
        have hcs := cur_set b ks i y hg
        have hi0 : 0 + (i : Int).toNat = i := by omega
        have hk1 : (strs (cur b ks i))[0 + (i : Int).toNat]? = some [.str (bsA y)] := by rw [hi0]; exact strs_get hca
        have hst : (strs (cur b ks i)).set (0 + (i : Int).toNat) [.str (bsA b ++ bsA y)] = strs (cur b ks (i + 1)) := by rw [hi0, bsA_app, strs_set, hcs]
        have hk2 : ((strs (cur b ks i)).set (0 + (i : Int).toNat) [.str (bsA b ++ bsA y)])[0 + (i : Int).toNat]? = some [.str (bsA b ++ bsA y)] := by
          rw [hi0, List.getElem?_set_self (by rw [strs_len]; omega)]
        have hk3 : (strs (cur b ks i ++ [markB]))[0 + (i : Int).toNat]? = some [.str (bsA y)] := by rw [hi0]; exact strs_get (by rw [List.getElem?_append_left (by omega)]; exact hca)
        have hst2 : (strs (cur b ks i ++ [markB])).set (0 + (i : Int).toNat) [.str (bsA b ++ bsA y)] = strs (cur b ks (i + 1) ++ [markB]) := by
          rw [hi0, bsA_app, strs_set, List.set_append_left _ _ (by omega), hcs]
        have e0 : (0 : Int) ≤ (i : Int) := by omega
        have e1 : (i : Int) < (ks.length : Int) := by omega
        have e1' : (i : Int) < ((ks.length + 1 : Nat) : Int) := by omega
        have hw : IntKind.i64.wrap ((i : Int) + 1) = ((i + 1 : Nat) : Int) := by rw [IntKind.wrap_i64]; omega
        have hsz : (((bsA b).size + (bsA y).size : Nat) : Int) ≤ IntKind.i64.max := by
          rw [bsA_size, bsA_size, show IntKind.i64.max = 9223372036854775807 from rfl]; omega
        have f1 : i + 1 ≤ ks.length := by omega
        have f2 : ks.length - (i + 1) < ks.length - i := by omega
        refine joinK.direct ?_
        refine ⟨fun _ => join_go ?_, fun h => absurd (hd.symm.trans h) (by decide)⟩
        refine ⟨e0, e1, optK.mk rfl ?_⟩
        refine optK.mk hk1 ?_
        refine ⟨hsz, ?_⟩
        refine ⟨e0, e1, optK.mk rfl ?_⟩
        refine optK.mk hk1 ?_
        refine ⟨e0, e1, optK.mk rfl ?_⟩
        refine optK.mk hk2 ?_
        refine ⟨e0, e1', optK.mk rfl ?_⟩
        refine optK.mk hk3 ?_
        exact loop_next (i + 1) f1 f2 ⟨rfl, rfl, rfl, rfl, rfl, int_eq hw, trivial⟩ (.inl (two_st hst hst2))
      · have hd : decide ((i : Int) < (ks.length : Int)) = false := decide_eq_false (by omega)
        have e : i = ks.length := by omega
        subst e
        have hce := cur_end b ks
        refine joinK.direct ?_
        refine ⟨fun h => absurd (hd.symm.trans h) (by decide), fun _ => ?_⟩
        have hce2 : strs (cur b ks ks.length) = strs (ks.map (b ++ ·)) := by rw [hce]
        have hce3 : strs (cur b ks ks.length ++ [markB]) = strs (ks.map (b ++ ·) ++ [markB]) := by rw [hce]
        exact join_go (loop_next (t + 1, ks.map (b ++ ·)) ⟨ht3, hr3, hkl3, hs3⟩ hm3 ⟨rfl, rfl, ref_eq hml3.symm, ref_eq (by rw [hml3]), int_eq hwt, trivial⟩ (.inl (two_st hce2 hce3)))
    · have hd : decide ((t : Int) < 2) = false := decide_eq_false (by omega)
      refine joinK.direct ?_
      refine ⟨fun h => absurd (hd.symm.trans h) (by decide), fun _ => ?_⟩
      exact join_gc () trivial (weak_gc [] [] rfl ⟨ren_eq rfl (strD_blw l), ren_eq rfl (by simp), trivial⟩ trivial)
  rintro ⟨⟩ -
  refine callK_st hlast ?_
  intro s hs
  exact fin_eq (.bool _) rfl rfl
end Go.Proofs.Ytaddmokllmdngaa
