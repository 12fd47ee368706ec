/- AggMerges: the law's walk. -/
import Derived.Test.YtaddmokllmdngaaNP
import Derived.Test.YtaddmokllmdngaaPvY
namespace Go.Proofs.Ytaddmokllmdngaa
open Go Go.Pv Go.RowKit
set_option linter.unusedSimpArgs false
set_option linter.unusedVariables false
set_option maxRecDepth 10000

def nowE (xs : List SV) : Option PO := some ⟨false, 12, 42, xs.map stC⟩
theorem stC_sca (v : SV) : Sca (.agg (stC v)) := by
  rw [sca_agg]; intro d hd
  unfold stC at hd; simp at hd
  rcases hd with rfl | rfl | rfl | rfl | rfl | rfl | rfl | rfl | rfl | rfl | rfl | rfl <;> simp
theorem three_x {xs : List SV} {a b : List (List DV)} (h : a = b) : [markPO, some (PO.mk false 12 38 a), nowE xs] = [markPO, some (PO.mk false 12 38 b), nowE xs] := by rw [h]
theorem three_n {xs : List SV} {a b : List (List DV)} (h : a = b) : [markPO, xPO xs, some (PO.mk false 12 42 a)] = [markPO, xPO xs, some (PO.mk false 12 42 b)] := by rw [h]
theorem set1 {E : List (List DV)} {q : Nat} (h : q < E.length) (c : List DV) : (E.set q c)[q]? = some c := by rw [List.getElem?_set_self h]
theorem set2 {E : List (List DV)} {q : Nat} (h : q < E.length) (c c' : List DV) : ((E.set q c).set q c')[q]? = some c' := set1 (by rw [List.length_set]; exact h) c'
theorem set3e (E : List (List DV)) (q : Nat) (a b c : List DV) : ((E.set q a).set q b).set q c = E.set q c := by rw [List.set_set, List.set_set]
theorem set2e (E : List (List DV)) (q : Nat) (b c : List DV) : (E.set q b).set q c = E.set q c := by rw [List.set_set]
theorem stC_scas (l : List SV) : ∀ es ∈ l.map stC, ∀ d ∈ es, Sca d := by
  intro es hes d hd
  obtain ⟨v, _, rfl⟩ := List.mem_map.1 hes
  exact sca_agg.1 (stC_sca v) d hd
theorem wrap_s (i : Nat) (h : i < 9223372036854775807) : IntKind.i64.wrap ((i : Int) + 1) = ((i + 1 : Nat) : Int) := by rw [IntKind.wrap_i64]; omega
set_option maxHeartbeats 40000000 in
theorem lawMerges (l : List SV) (hl : l.length * 112 ≤ 140737488351232) (hF0 : ∀ b ∈ l, b.F) : FnC Try.prog 6 [.list (l.map stC)] (· = .bool true) := by
  have hbl : Blw 0 (.list (l.map stC)) := by rw [blw_list]; exact stC_blw l
  have hm : maxLen = 9223372036854775807 := rfl
  have cs := statesO l (by omega) (by omega)
  have hXl : (l.map stC).length = l.length := List.length_map ..
  have hx0 := xPO_blw l
  have hmb := markC_blw
  have hcap : (l.map stC).length + 2 ≤ maxLen ∧ ((l.map stC).length + 2) * 112 ≤ 140737488355328 := by omega
  obtain ⟨X, hX⟩ : ∃ X, X = l.map stC := ⟨_, rfl⟩
  have hxl : l.map stC ++ [markC, markC] = X ++ [markC, markC] := by rw [hX]
  have hsc : ∀ es ∈ X, ∀ d ∈ es, Sca d := hX ▸ stC_scas l
  rw [← hX] at hbl cs hXl hcap ⊢
  refine FnC.mk Try.func6 rfl rfl (Nat.le_of_ble_eq_true rfl) (by intro d hd; simp at hd; subst hd; exact hbl) (by rintro _ rfl; simp) ?_
  refine drawK.mkM (fun t => bif Nat.beq t 12 then 1 else bif Nat.beq t 15 then 3 else 0) (by kernel_rfl) ?_
  show callM _ _ _ _ _
  refine callM.mk [] cs ⟨.pure _ hbl, trivial⟩ rfl hsc ?_
  refine appK.ref (news := [markC, markC]) rfl rfl (by kernel_rfl) rfl (by kernel_rfl) (by kernel_rfl) rfl (.cons rfl (.cons rfl .nil)) (.at 112 rfl hcap.1 hcap.2) ?_
  refine joinK.use [] (fun _ : Unit => []) (fun _ => []) (fun _ => True) ?_ ?_
  rotate_left
  · rintro ⟨⟩ -
    exact fin_eq (.bool _) rfl rfl
  refine loopK.useG [0, 3, 4, 5] (fun s : Nat × List SV => [.list X, .pobj 0 0 0, .ref 1 0 (X.length + 2), .int .i64 s.1]) (fun s => [markPO, xPO s.2]) (fun s => s.1 ≤ 3 ∧ s.2.length = X.length ∧ ∀ b ∈ s.2, b.F) (fun s => 3 - s.1) (0, l) ⟨Nat.zero_le _, hXl.symm, hF0⟩
    (weak_gc [] [some 0, some 2] rfl ⟨ren_eq rfl hbl, .pobj _ _ _ _ rfl, ren_ref rfl rfl, ren_eq rfl (by simp), trivial⟩ ⟨⟨rfl, rfl, rfl, els_same rfl (fun ds h => hmb ds (by simp at h; subst h; simp))⟩, ⟨rfl, rfl, rfl, els_same hxl.symm hx0⟩, trivial⟩) ?_
  rintro ⟨t, xs⟩ ⟨ht, hx, hF⟩
  simp only at ht hx hF
  by_cases ht3 : t < 3
  · have hd : decide ((t : Int) < 3) = true := decide_eq_true (by omega)
    have hwt := wrap_s t (by omega)
    have h31 : t + 1 ≤ 3 := by omega
    have h32 : 3 - (t + 1) < 3 - t := by omega
    refine joinK.direct ?_
    refine ⟨fun _ => join_go ?_, fun h => absurd (hd.symm.trans h) (by decide)⟩
    refine joinK.use [0, 3, 4, 5] (fun ys : List SV => [.list X, .pobj 0 0 0, .ref 1 0 (X.length + 2), .int .i64 t]) (fun ys => [markPO, xPO ys]) (fun ys => ys.length = X.length ∧ ∀ b ∈ ys, b.F) ?_ ?_
    rotate_left
    · rintro ys ⟨hy, hyF⟩
      exact loop_next (t + 1, ys) ⟨h31, hy, hyF⟩ h32 ⟨rfl, rfl, rfl, int_eq hwt, trivial⟩ (.inl rfl)
    have b0 : (0 : Int) ≤ (X.length : Int) := by omega
    have b1 : (112 : Int) * (X.length : Int) ≤ 281474976710656 := by omega
    have b2 : (X.length : Int) ≤ 9223372036854775807 := by omega
    refine ⟨b0, Int.le_refl _, b1, b2, by decide, rfl, rfl, ?_⟩
    have hb3 : (X.length : Int) ≤ (((xs.map stC ++ [markC, markC]).length - 0 : Nat) : Int) := by simp; omega
    have b4 : (X.length : Int) < ((X.length + 2 : Nat) : Int) := by omega
    have hmX : (X.length : Int) + 1 < 9223372036854775807 := by omega
    have hwX : IntKind.i64.wrap ((X.length : Int) + 1) = ((X.length + 1 : Nat) : Int) := wrap_s X.length (by omega)
    have gm0 : (xs.map stC ++ [markC, markC])[0 + (X.length : Int).toNat]? = some markC := by have := x_mark xs 0 (by decide); rw [Nat.add_zero, hx] at this; exact this
    have gm1 : (xs.map stC ++ [markC, markC])[0 + (IntKind.i64.wrap ((X.length : Int) + 1)).toNat]? = some markC := by have := x_mark xs 1 (by decide); rw [hx] at this; rw [hwX]; exact this
    have c0 : (0 : Int) ≤ IntKind.i64.wrap ((X.length : Int) + 1) := by rw [hwX]; omega
    have c1 : IntKind.i64.wrap ((X.length : Int) + 1) < ((X.length + 2 : Nat) : Int) := by rw [hwX]; omega
    have hml : xs.length ≤ maxLen := by omega
    have hmr := mergeR xs hml hF
    have hmw := mergeW xs hml hF
    have hsm := sameL (mrgL xs)
    have hsca := stC_sca (mrgL xs)
    generalize mrgL xs = mg at *
    have hsn : ∀ (g : Nat → Option PO), g 2 = some ⟨true, 12, 42, xs.map stC⟩ → Snap g (.ref 2 0 X.length) (.list (xs.map stC)) := hx ▸ fun g h => snap_now xs g 2 h
    have hsx : ∀ (g : Nat → Option PO), g 1 = some ⟨true, 12, 38, xs.map stC ++ [markC, markC]⟩ → Snap g (.ref 1 0 X.length) (.list (xs.map stC)) := hx ▸ fun g h => snap_x xs g 1 h
    have hn0 := @now_0 xs X.length
    refine joinK.use [0, 3, 4, 5, 6] (fun _ : Unit => [.list X, .pobj 0 0 0, .ref 1 0 (X.length + 2), .int .i64 t, .ref 2 0 X.length]) (fun _ => [markPO, xPO xs, nowE xs]) (fun _ => True) ?_ ?_
    · refine loopK.use [0, 3, 4, 5, 6, 7] (fun i : Nat => [.list X, .pobj 0 0 0, .ref 1 0 (X.length + 2), .int .i64 t, .ref 2 0 X.length, .int .i64 i]) (fun i => [markPO, xPO xs, nowPO xs X.length i]) (fun i => i ≤ X.length) (fun i => X.length - i) 0 (Nat.zero_le _) ⟨rfl, rfl, rfl, rfl, rfl, rfl, trivial⟩ (.inl (three_n hn0)) ?_
      intro i hi
      by_cases hiX : i < X.length
      · have hd : decide ((i : Int) < (X.length : Int)) = true := decide_eq_true (by omega)
        have i0 : (0 : Int) ≤ (i : Int) := by omega
        have i1 : (i : Int) < ((X.length + 2 : Nat) : Int) := by omega
        have i2 : (i : Int) < (X.length : Int) := by omega
        have hv := List.getElem?_eq_getElem (show i < xs.length by omega)
        have gx := x_at hv
        have gn := now_at hx hiX
        have gs := now_set hx hv
        generalize xs[i] = v at *
        have hw := wrap_s i (by omega)
        have m1 : i + 1 ≤ X.length := by omega
        have m2 : X.length - (i + 1) < X.length - i := by omega
        refine joinK.direct ?_
        refine ⟨fun _ => join_go ?_, fun h => absurd (hd.symm.trans h) (by decide)⟩
        refine drawK.mk (by kernel_rfl) ?_
        refine ⟨i0, i1, optK.mk rfl ?_⟩
        refine optK.mk gx ?_
        refine ⟨i0, i1, optK.mk rfl ?_⟩
        refine optK.mk gx ?_
        refine ⟨i0, i1, optK.mk rfl ?_⟩
        refine optK.mk gx ?_
        refine ⟨i0, i1, optK.mk rfl ?_⟩
        refine optK.mk gx ?_
        refine ⟨i0, i1, optK.mk rfl ?_⟩
        refine optK.mk gx ?_
        refine ⟨i0, i1, optK.mk rfl ?_⟩
        refine optK.mk gx ?_
        refine ⟨i0, i2, optK.mk rfl ?_⟩
        refine optK.mk gn ?_
        exact loop_next (i + 1) m1 m2 ⟨rfl, rfl, rfl, rfl, rfl, int_eq hw, trivial⟩ (.inl (three_n gs))
      · have hd : decide ((i : Int) < (X.length : Int)) = false := decide_eq_false (by omega)
        have e : i = X.length := by omega
        have ne := now_end hx
        subst e
        refine joinK.direct ?_
        refine ⟨fun h => absurd (hd.symm.trans h) (by decide), fun _ => ?_⟩
        exact join_at () trivial ⟨rfl, rfl, rfl, rfl, rfl, trivial⟩ (.inl (three_n ne))
    rintro ⟨⟩ -
    refine callK.lend [2] hmr ⟨hsn _ rfl, trivial⟩ hsca ?_
    refine joinK.direct ?_
    refine drawK.mk (by kernel_rfl) ?_
    refine ⟨b0, hb3, ?_⟩
    refine callE.lend [1] hmw ⟨hsx _ rfl, trivial⟩ hsca ?_
    refine callE.mk hsm ?_
    refine ⟨fun _ => ?_, fun h => absurd h (by decide)⟩
    refine ⟨b0, b4, optK.mk rfl ?_⟩
    refine optK.mk gm0 ?_
    refine ⟨EqOk.mk (by kernel_rfl), ?_⟩
    refine ⟨fun _ => ?_, fun h => absurd h (by decide +kernel)⟩
    refine ⟨c0, c1, optK.mk rfl ?_⟩
    refine optK.mk gm1 ?_
    refine ⟨EqOk.mk (by kernel_rfl), ?_⟩
    refine ⟨fun h => absurd h (by decide +kernel), fun _ => join_go ?_⟩
    have hmk : ∀ ds ∈ [markC], ∀ d ∈ ds, Blw 0 d := fun ds h => hmb ds (by simp at h; subst h; simp)
    refine loopK.useG [0, 3, 4, 5, 6, 9] (fun s : Nat × List SV => [.list X, .pobj 0 0 0, .ref 1 0 (X.length + 2), .int .i64 t, .ref 2 0 X.length, .int .i64 s.1]) (fun s => [markPO, xPO s.2, nowE xs]) (fun s => s.1 ≤ X.length ∧ s.2.length = X.length ∧ (∀ b ∈ s.2, b.F) ∧ ∀ j, s.1 ≤ j → s.2[j]? = xs[j]?) (fun s => X.length - s.1) (0, xs) ⟨Nat.zero_le _, hx, hF, fun _ _ => rfl⟩
      (weak_gc [] [some 0, some 1, some 2] rfl ⟨ren_eq rfl hbl, .pobj _ _ _ _ rfl, ren_ref rfl rfl, ren_eq rfl (by simp), ren_ref rfl rfl, ren_eq rfl (by simp), trivial⟩ ⟨⟨rfl, rfl, rfl, els_same rfl hmk⟩, ⟨rfl, rfl, rfl, els_same rfl (xPO_blw xs)⟩, ⟨rfl, rfl, rfl, els_same rfl (stC_blw xs)⟩, trivial⟩) ?_
    rintro ⟨i, ys⟩ ⟨hi, hy, hyF, hyx⟩
    simp only at hi hy hyF hyx
    by_cases hiX : i < X.length
    · have hd : decide ((i : Int) < (X.length : Int)) = true := decide_eq_true (by omega)
      have i0 : (0 : Int) ≤ (i : Int) := by omega
      have i1 : (i : Int) < ((X.length + 2 : Nat) : Int) := by omega
      have i2 : (i : Int) < (X.length : Int) := by omega
      have hiy : i < ys.length := by omega
      have hv := List.getElem?_eq_getElem hiy
      have hvF := hyF _ (List.getElem_mem hiy)
      have gx := x_at hv
      have gn : (xs.map stC)[0 + (i : Int).toNat]? = some (stC ys[i]) := by
        rw [show 0 + (i : Int).toNat = i by omega, List.getElem?_map, ← hyx i (Nat.le_refl _), hv]; rfl
      generalize ys[i] = v at *
      have hw := wrap_s i (by omega)
      have m1 : i + 1 ≤ X.length := by omega
      have m2 : X.length - (i + 1) < X.length - i := by omega
      have hq : 0 + (i : Int).toNat < (ys.map stC ++ [markC, markC]).length := by simp; omega
      have f1 := fun c => set1 hq c
      have f2 := fun c c' => set2 hq c c'
      have e2 := set2e (ys.map stC ++ [markC, markC]) (0 + (i : Int).toNat)
      have e3 := set3e (ys.map stC ++ [markC, markC]) (0 + (i : Int).toNat)
      have xst := @x_set ys i (turnSV t i v) hiy
      have tt := @turn_t t i v
      have tf := @turn_f t i v
      have hJ : (ys.set i (turnSV t i v)).length = X.length ∧ (∀ b ∈ ys.set i (turnSV t i v), b.F) ∧ ∀ j, i + 1 ≤ j → (ys.set i (turnSV t i v))[j]? = xs[j]? :=
        ⟨by rw [List.length_set]; exact hy, set_F hyF (turn_F hvF), fun j hj => by rw [List.getElem?_set_ne (by omega)]; exact hyx j (by omega)⟩
      have hsv := sameL v
      refine joinK.direct ?_
      refine ⟨fun _ => join_go ?_, fun h => absurd (hd.symm.trans h) (by decide)⟩
      refine joinK.direct ?_
      refine joinK.direct ?_
      refine drawK.mk (by kernel_rfl) ?_
      refine ⟨i0, i1, optK.mk rfl ?_⟩
      refine optK.mk gx ?_
      refine ⟨i0, i2, optK.mk rfl ?_⟩
      refine optK.mk gn ?_
      refine callE.mk hsv ?_
      refine ⟨fun h => absurd h (by decide), fun _ => join_go ?_⟩
      refine ⟨i0, i1, optK.mk rfl ?_⟩
      refine optK.mk gx ?_
      refine ⟨i0, i1, optK.mk rfl ?_⟩
      refine optK.mk gx ?_
      refine ⟨i0, i1, optK.mk rfl ?_⟩
      refine optK.mk (f1 _) ?_
      refine ⟨i0, i1, optK.mk rfl ?_⟩
      refine optK.mk (f1 _) ?_
      refine ⟨i0, i1, optK.mk rfl ?_⟩
      refine optK.mk (f2 _ _) ?_
      refine ⟨fun hk => ?_, fun hk => join_go ?_⟩
      · refine ⟨i0, i1, optK.mk rfl ?_⟩
        refine optK.mk (f2 _ _) ?_
        refine ⟨i0, i1, optK.mk rfl ?_⟩
        refine optK.mk (f2 _ _) ?_
        refine join_go ?_
        exact loop_next (i + 1, ys.set i (turnSV t i v)) ⟨m1, hJ⟩ m2 ⟨rfl, rfl, rfl, rfl, rfl, int_eq hw, trivial⟩ (.inl (three_x ((e3 _ _ _).trans ((congrArg (fun c => (ys.map stC ++ [markC, markC]).set (0 + (i : Int).toNat) c) (tt hk)).trans xst))))
      · exact loop_next (i + 1, ys.set i (turnSV t i v)) ⟨m1, hJ⟩ m2 ⟨rfl, rfl, rfl, rfl, rfl, int_eq hw, trivial⟩ (.inl (three_x ((e2 _ _).trans ((congrArg (fun c => (ys.map stC ++ [markC, markC]).set (0 + (i : Int).toNat) c) (tf hk)).trans xst))))
    · have hd : decide ((i : Int) < (X.length : Int)) = false := decide_eq_false (by omega)
      refine joinK.direct ?_
      refine ⟨fun h => absurd (hd.symm.trans h) (by decide), fun _ => ?_⟩
      exact join_gc ys ⟨hy, hyF⟩ (weak_gc [] [some 0, some 1] rfl ⟨ren_eq rfl hbl, .pobj _ _ _ _ rfl, ren_ref rfl rfl, ren_eq rfl (by simp), trivial⟩ ⟨⟨rfl, rfl, rfl, els_same rfl hmk⟩, ⟨rfl, rfl, rfl, els_same rfl (xPO_blw ys)⟩, trivial⟩)
  · have e : t = 3 := by omega
    subst e
    refine joinK.direct ?_
    refine ⟨fun h => absurd (show decide ((3 : Int) < 3) = true from h) (by decide), fun _ => ?_⟩
    exact join_at () trivial trivial (.inr ⟨_, rfl, by simp, by simp⟩)
end Go.Proofs.Ytaddmokllmdngaa
