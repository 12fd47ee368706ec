/- WideSums: the law's walk. -/
import Derived.Test.YtckcagmlippneaaWT
namespace Go.Proofs.Ytckcagmlippneaa
open Go Go.Pv Go.RowKit
set_option linter.unusedSimpArgs false
set_option linter.unusedVariables false
set_option maxRecDepth 10000
set_option exponentiation.threshold 1000

def i64s (l : List Int) : List (List DV) := l.map fun i => [.int .i64 i]
theorem i64s_len (l : List Int) : (i64s l).length = l.length := by simp [i64s]
theorem i64s_blw (l : List Int) {m : Nat} : ∀ ds ∈ i64s l, ∀ d ∈ ds, Blw m d := by
  intro ds h d hd
  simp only [i64s, List.mem_map] at h
  obtain ⟨b, _, rfl⟩ := h
  simp at hd; subst hd; simp
theorem i64s_app (l : List Int) (b : Int) : i64s l ++ [[.int .i64 b]] = i64s (l ++ [b]) := by simp [i64s]
theorem i64s_get {l : List Int} {p : Nat} {b : Int} (h : l[p]? = some b) : (i64s l)[p]? = some [.int .i64 b] := by unfold i64s; rw [List.getElem?_map, h]; rfl
theorem i64s_set (l : List Int) (p : Nat) (b : Int) : (i64s l).set p [.int .i64 b] = i64s (l.set p b) := by unfold i64s; rw [List.map_set]
def intsPO (l : List Int) : Option PO := some ⟨false, 1, 2, i64s l⟩

def halfI (z : Int) : Int := z.tdiv 2 + 1
theorem halfI_r {z : Int} (h : i64R z) : i64R (halfI z) := by
  unfold halfI i64R
  have := h.1; have := h.2
  rcases Int.lt_or_le z 0 with h1 | h1
  · have : z.tdiv 2 = -((-z) / 2) := by
      rw [← Int.neg_neg (z.tdiv 2), ← Int.neg_tdiv, Int.tdiv_eq_ediv_of_nonneg (by omega)]
    omega
  · rw [Int.tdiv_eq_ediv_of_nonneg h1]; omega
theorem halfI_w {z : Int} (h : i64R z) : IntKind.i64.wrap (IntKind.i64.wrap (z.tdiv 2) + 1) = halfI z := by
  have h2 := halfI_r h
  unfold halfI i64R at h2
  have h0 : -9223372036854775808 ≤ z.tdiv 2 := by
    rcases Int.lt_or_le z 0 with h1 | h1
    · have : z.tdiv 2 = -((-z) / 2) := by
        rw [← Int.neg_neg (z.tdiv 2), ← Int.neg_tdiv, Int.tdiv_eq_ediv_of_nonneg (by omega)]
      have := h.1
      omega
    · rw [Int.tdiv_eq_ediv_of_nonneg h1]; omega
  unfold halfI
  rw [IntKind.wrap_i64, IntKind.wrap_i64]
  omega
theorem sum_bound (l : List Int) (hl : ∀ i ∈ l, i64R i) : (sumI l).natAbs ≤ l.length * 9223372036854775808 := by
  have key : ∀ (l : List Int) (a : Int), (∀ i ∈ l, i64R i) → (l.foldl (· + ·) a).natAbs ≤ a.natAbs + l.length * 9223372036854775808 := by
    intro l
    induction l with
    | nil => intro a _; simp
    | cons x l ih =>
      intro a h
      have h1 := ih (a + x) fun i hi => h i (List.mem_cons_of_mem _ hi)
      have h2 := h x (List.mem_cons_self ..)
      have := h2.1; have := h2.2
      simp only [List.foldl_cons, List.length_cons]
      omega
  have := key l 0 hl
  simpa [sumI] using this
/-- The numbers, halved up to i, and 77. -/
def cur (l : List Int) (i : Nat) : List Int := (l.take i).map halfI ++ l.drop i ++ [77]
theorem cur_len (l : List Int) (i : Nat) : (cur l i).length = l.length + 1 := by simp [cur]; omega
theorem cur_get (l : List Int) (i : Nat) (z : Int) (h : l[i]? = some z) : (cur l i)[i]? = some z := by
  have hi := (List.getElem?_eq_some_iff.1 h).1
  unfold cur
  rw [List.append_assoc, List.getElem?_append_right (by simp; omega)]
  simp only [List.length_map, List.length_take, Nat.min_eq_left (Nat.le_of_lt hi), Nat.sub_self]
  rw [List.getElem?_append_left (by simp; omega), List.getElem?_drop]
  simpa using h
theorem cur_set (l : List Int) (i : Nat) (z : Int) (h : l[i]? = some z) : (cur l i).set i (halfI z) = cur l (i + 1) := by
  have hi := (List.getElem?_eq_some_iff.1 h).1
  have hz : l[i] = z := by rw [List.getElem?_eq_getElem hi] at h; exact Option.some.inj h
  have e1 : l.drop i = z :: l.drop (i + 1) := by rw [← hz]; exact List.drop_eq_getElem_cons hi
  have e2 : l.take (i + 1) = l.take i ++ [z] := take_snoc' l i z h
  unfold cur
  rw [e1, e2, List.append_assoc, List.set_append_right _ _ (by simp; omega)]
  simp only [List.length_map, List.length_take, Nat.min_eq_left (Nat.le_of_lt hi), Nat.sub_self, List.cons_append, List.set_cons_zero, List.map_append, List.map_cons, List.map_nil, List.append_assoc]
  rfl
theorem cur_zero (l : List Int) : cur l 0 = l ++ [77] := by simp [cur]
theorem cur_end (l : List Int) : (cur l l.length).take l.length = l.map halfI := by simp [cur]
theorem sumI_le {l : List Int} (hl : ∀ i ∈ l, i64R i) (hy : l.length * 8 ≤ reachBytes) (i : Nat) : (sumI (l.take i)).natAbs < 2 ^ 120 ∧ (sumI ((l.take i).map halfI)).natAbs < 2 ^ 120 := by
  have h1 := sum_bound (l.take i) fun z hz => hl z (List.mem_of_mem_take hz)
  have h2 := sum_bound ((l.take i).map halfI) fun z hz => by
    obtain ⟨y, hy, rfl⟩ := List.mem_map.1 hz
    exact halfI_r (hl y (List.mem_of_mem_take hy))
  rw [List.length_take] at h1
  rw [List.length_map, List.length_take] at h2
  unfold reachBytes at hy
  have : min i l.length ≤ l.length := Nat.min_le_right _ _
  omega
theorem take_get {α : Type} (l : List α) (i : Nat) (z : α) (h : l[i]? = some z) (f : α → Int) : sumI ((l.take (i + 1)).map f) = sumI ((l.take i).map f) + f z := by
  rw [take_snoc' l i z h, List.map_append, List.map_cons, List.map_nil, sumI_snoc]

theorem i64_lt {z : Int} (h : i64R z) : z.natAbs < 65536 ^ 24 := by obtain ⟨h1, h2⟩ := h; omega
theorem nums {a b : Int} (h : a = b) : [numC a] = [numC b] := by rw [h]
theorem num_blw (x : Int) : ∀ ds ∈ [numC x], ∀ d ∈ ds, Blw 0 d := by
  intro ds h d hd
  simp only [List.mem_singleton] at h
  subst h
  simp only [numC, List.mem_cons, List.not_mem_nil, or_false] at hd
  rcases hd with rfl | rfl
  · rw [blw_list]; exact blw_digL _
  · simp
theorem lawSums (l : List Int) (hl : ∀ i ∈ l, i64R i) (hy : l.length * 8 ≤ reachBytes) : FnC Try.prog 6 [intsD l] (· = .bool true) := by
  refine FnC.mk Try.func6 rfl rfl (Nat.le_of_ble_eq_true rfl) ?_ (by rintro _ rfl; simp) ?_
  · intro d hd
    simp at hd
    subst hd
    simp [intsD]
  have hlen : l.length < 17592186044416 := by unfold reachBytes at hy; omega
  have hmax : l.length + 1 ≤ maxLen := by unfold maxLen; omega
  have hb := sumI_le hl hy
  have hcap : capOk (l.length + 1) 8 := ⟨hmax, by unfold reachBytes at hy; omega⟩
  have hlR : ∀ i z, l[i]? = some z → i64R z := fun i z h => hl z (List.mem_of_getElem? h)
  refine callK.eq (intN 0 (by unfold i64R; decide)) ?_
  refine joinK.use [0, 3, 4] (fun _ : Unit => [intsD l, .pobj 0 0 0, .ref 1 0 l.length]) (fun _ => [numPO (numC (sumI l)), intsPO l]) (fun _ => True) ?_ ?_
  · refine loopK.useG [0, 3, 4, 5] (fun i : Nat => [intsD l, .pobj 0 0 0, .ref 1 0 i, .int .i64 i]) (fun i => [numPO (numC (sumI (l.take i))), intsPO (l.take i)])
      (fun i => i ≤ l.length) (fun i => l.length - i) 0 (Nat.zero_le _)
      (weak_gc [] [some 0, none] rfl ⟨ren_eq rfl (by simp [intsD]), .pobj _ _ _ _ rfl, .nil _ rfl, ren_eq rfl (by simp), trivial⟩ ⟨⟨rfl, rfl, rfl, els_same rfl (num_blw _)⟩, rfl, trivial⟩) ?_
    intro i hi
    refine joinK.direct ?_
    refine optK.mk rfl ?_
    refine ⟨fun h => join_go ?_, fun h => ?_⟩
    · have h : i < l.length := by
        have h : decide ((i : Int) < ((l.map fun i => [DV.int .i64 i]).length : Int)) = true := h
        have := of_decide_eq_true h; simp at this; omega
      have hz := List.getElem?_eq_getElem h
      have hg : (l.map fun i => [DV.int .i64 i])[(i : Int).toNat]? = some [.int .i64 l[i]] := by simp [h]
      have hil : (i : Int) < ((l.map fun i => [DV.int .i64 i]).length : Int) := by simp; omega
      refine drawK.mk (by kernel_rfl) ?_
      refine ⟨by omega, hil, optK.mk hg ?_⟩
      refine callE.mk (intN l[i] (hlR i _ hz)) ?_
      refine callE.mk (plusN (sumI (l.take i)) l[i] (by have := (hb i).1; omega) (i64_lt (hlR i _ hz))) ?_
      refine ⟨by omega, hil, optK.mk hg ?_⟩
      have htk := take_snoc' l i _ hz
      refine appK.go ⟨.cons rfl .nil, by simp [i64s_len]; omega, .at 8 rfl (by simp; omega) (by simp; have := hcap.2; omega), ?_⟩
      refine loop_gc (i + 1) (by omega) (by omega) (weak_gc [] [some 0, some 3] rfl ⟨ren_eq rfl (by simp [intsD]), .pobj _ _ _ _ rfl, ren_ref rfl (by simp), ren_eq (int_eq ?_) (by simp), trivial⟩
        ⟨⟨rfl, rfl, rfl, els_same (nums ?_) (num_blw _)⟩, ⟨rfl, rfl, rfl, els_same ?_ (i64s_blw _)⟩, trivial⟩)
      · rw [IntKind.wrap_i64]; omega
      · rw [htk, sumI_snoc]
      · exact (i64s_app _ _).trans (congrArg i64s htk.symm)
    · have h : i = l.length := by
        have h : decide ((i : Int) < ((l.map fun i => [DV.int .i64 i]).length : Int)) = false := h
        have := of_decide_eq_false h; simp at this; omega
      subst h
      refine join_at () trivial ⟨rfl, rfl, rfl, trivial⟩ (.inl ?_)
      show [numPO (numC (sumI (l.take l.length))), intsPO (l.take l.length)] = _
      rw [List.take_length]
  rintro ⟨⟩ -
  refine appK.go ⟨.cons rfl .nil, (i64s_len _).symm, .at 8 rfl (by simp; omega) (by simp; exact hcap.2), ?_⟩
  have happ : i64s l ++ [[DV.int .i64 77]] = i64s (l ++ [77]) := i64s_app l 77
  have hsl : ((i64s l ++ [[DV.int .i64 77]]).drop 0).take l.length = l.map fun i => [DV.int .i64 i] := by
    rw [happ, List.drop_zero]; unfold i64s; rw [List.map_append, List.take_left' (by simp)]
  have hblw : ∀ ds ∈ i64s l ++ [[DV.int .i64 77]], ∀ d ∈ ds, Blw 0 d := by rw [happ]; exact i64s_blw _
  have hl2 : (i64s l ++ [[DV.int .i64 77]]).length = l.length + 1 := by rw [happ, i64s_len]; simp
  have hSum := sumW l hl (by unfold maxLen at *; omega)
  have hsn : ∀ g : Nat → Option PO, g 3 = some ⟨true, 1, 2, i64s l ++ [[.int .i64 77]]⟩ → Snap g (.ref 3 0 l.length) (intsD l) := by
    intro g hg
    have := snap_ref (off := 0) (len := l.length) hg hblw (by rw [hl2]; omega)
    rw [hsl] at this
    exact this
  have hb1 : (0 : Int) ≤ ((l.map fun i => [DV.int .i64 i]).length : Int) := Int.natCast_nonneg _
  have hb2 : ((l.map fun i => [DV.int .i64 i]).length : Int) ≤ (((i64s l ++ [[DV.int .i64 77]]).length - 0 : Nat) : Int) := by rw [hl2, List.length_map]; omega
  refine ⟨hb1, hb2, ?_⟩
  have hlen' : ((l.map fun i => [DV.int .i64 i]).length : Int).toNat = l.length := by simp
  have hSnap : ∀ g : Nat → Option PO, g 3 = some ⟨true, 1, 2, i64s l ++ [[.int .i64 77]]⟩ → Snap g (.ref 3 (0 + 0) (((l.map fun i => [DV.int .i64 i]).length : Int).toNat - 0)) (intsD l) := by
    rw [hlen']; exact hsn
  refine callK.lend [3] hSum ⟨hSnap _ rfl, trivial⟩ (by unfold wideD; simp) ?_
  have h77 : (i64s l ++ [[DV.int .i64 77]])[0 + ((l.map fun i => [DV.int .i64 i]).length : Int).toNat]? = some [.int .i64 77] := by
    rw [hlen', Nat.zero_add, List.getElem?_append_right (by simp [i64s_len]), i64s_len]; simp
  have hlt77 : ((l.map fun i => [DV.int .i64 i]).length : Int) < ((l.length + [[DV.int .i64 77]].length : Nat) : Int) := by simp; omega
  refine joinK.direct ?_
  refine drawK.mk (by kernel_rfl) ?_
  have hsl0 := (hb l.length).1
  rw [List.take_length] at hsl0
  refine callE.mk (ofL (sumI l) (by omega)) ?_
  refine ⟨EqOk.mk (by kernel_rfl), ?_⟩
  refine ⟨fun _ => ?_, fun h => absurd h (by simp)⟩
  refine ⟨hb1, hlt77, optK.mk rfl ?_⟩
  refine optK.mk h77 ?_
  refine ⟨fun h => absurd h (by simp), fun _ => join_go ?_⟩
  refine callK.eq (intN 0 (by unfold i64R; decide)) ?_
  refine joinK.use [0, 4, 7] (fun _ : Unit => [intsD l, .ref 0 0 (l.length + 1), .pobj 1 0 0]) (fun _ => [intsPO (cur l l.length), numPO (numC (sumI (l.map halfI)))]) (fun _ => True) ?_ ?_
  · refine loopK.useG [0, 4, 7, 8] (fun i : Nat => [intsD l, .ref 0 0 (l.length + 1), .pobj 1 0 0, .int .i64 i]) (fun i => [intsPO (cur l i), numPO (numC (sumI ((l.take i).map halfI)))])
      (fun i => i ≤ l.length) (fun i => l.length - i) 0 (Nat.zero_le _)
      (weak_gc [] [some 3, some 5] rfl ⟨ren_eq rfl (by simp [intsD]), .ref _ _ _ _ rfl, .pobj _ _ _ _ rfl, ren_eq rfl (by simp), trivial⟩ ⟨⟨rfl, rfl, rfl, els_same (happ.trans (congrArg i64s (cur_zero l).symm)) (i64s_blw _)⟩, ⟨rfl, rfl, rfl, els_same rfl (num_blw _)⟩, trivial⟩) ?_
    intro i hi
    refine joinK.direct ?_
    refine ⟨fun h => join_go ?_, fun h => ?_⟩
    · have h : i < l.length := by
        have h : decide ((i : Int) < ((l.map fun i => [DV.int .i64 i]).length : Int)) = true := h
        have := of_decide_eq_true h; simp at this; omega
      have hz := List.getElem?_eq_getElem h
      have hzR := hlR i _ hz
      have ei : (i : Int).toNat = i := by omega
      have hg : (l.map fun i => [DV.int .i64 i])[(i : Int).toNat]? = some [.int .i64 l[i]] := by simp [h]
      have hil : (i : Int) < ((l.map fun i => [DV.int .i64 i]).length : Int) := by simp; omega
      have hil2 : (i : Int) < ((l.length + 1 : Nat) : Int) := by omega
      have hc := i64s_get (cur_get l i _ hz)
      have hc' : (i64s (cur l i))[0 + (i : Int).toNat]? = some [.int .i64 l[i]] := by rw [ei, Nat.zero_add]; exact hc
      have hst : (i64s (cur l i)).set (0 + (i : Int).toNat) [.int .i64 (IntKind.i64.wrap (IntKind.i64.wrap (l[i].tdiv 2) + 1))] = i64s (cur l (i + 1)) := by
        rw [ei, Nat.zero_add, halfI_w hzR, i64s_set, cur_set l i _ hz]
      refine joinK.direct ?_
      refine joinK.direct ?_
      refine drawK.mk (by kernel_rfl) ?_
      refine ⟨by omega, hil2, optK.mk rfl ?_⟩
      refine optK.mk hc' ?_
      refine ⟨by omega, hil, optK.mk hg ?_⟩
      refine ⟨fun h => absurd h (by simp), fun _ => join_go ?_⟩
      refine ⟨by omega, hil2, optK.mk rfl ?_⟩
      refine optK.mk hc' ?_
      refine ⟨rfl, by decide, ?_⟩
      refine ⟨by omega, hil2, optK.mk rfl ?_⟩
      refine optK.mk hc' ?_
      have hlen3 : i < (i64s (cur l i)).length := by rw [i64s_len, cur_len]; omega
      have hc2 : ((i64s (cur l i)).set (0 + (i : Int).toNat) [.int .i64 (IntKind.i64.wrap (IntKind.i64.wrap (l[i].tdiv 2) + 1))])[0 + (i : Int).toNat]? = some [.int .i64 (IntKind.i64.wrap (IntKind.i64.wrap (l[i].tdiv 2) + 1))] := by
        rw [ei, Nat.zero_add, List.getElem?_set_self hlen3]
      have ci := intN (halfI l[i]) (halfI_r hzR)
      rw [← halfI_w hzR] at ci
      refine drawK.mk (by kernel_rfl) ?_
      refine ⟨by omega, hil2, optK.mk rfl ?_⟩
      refine optK.mk hc2 ?_
      refine callE.mk ci ?_
      refine callE.mk (plusN (sumI ((l.take i).map halfI)) (IntKind.i64.wrap (IntKind.i64.wrap (l[i].tdiv 2) + 1)) (Nat.lt_trans (hb i).2 (by decide)) (by rw [halfI_w hzR]; exact i64_lt (halfI_r hzR))) ?_
      refine join_go (loop_gc (i + 1) (by omega) (by omega) (weak_gc [] [some 0, some 1] rfl ⟨ren_eq rfl (by simp [intsD]), .ref _ _ _ _ rfl, .pobj _ _ _ _ rfl, ren_eq (int_eq ?_) (by simp), trivial⟩
        ⟨⟨rfl, rfl, rfl, els_same hst (i64s_blw _)⟩, ⟨rfl, rfl, rfl, els_same (nums ?_) (num_blw _)⟩, trivial⟩))
      · rw [IntKind.wrap_i64]; omega
      · rw [halfI_w hzR, take_get l i _ hz]
    · have h : i = l.length := by
        have h : decide ((i : Int) < ((l.map fun i => [DV.int .i64 i]).length : Int)) = false := h
        have := of_decide_eq_false h; simp at this; omega
      subst h
      refine join_at () trivial ⟨rfl, rfl, rfl, trivial⟩ (.inl ?_)
      show [intsPO (cur l l.length), numPO (numC (sumI ((l.take l.length).map halfI)))] = _
      rw [List.take_length]
  rintro ⟨⟩ -
  have hm : ∀ z ∈ l.map halfI, i64R z := fun z hz => by
    obtain ⟨y, hy, rfl⟩ := List.mem_map.1 hz
    exact halfI_r (hl y hy)
  have hSum2 := sumW (l.map halfI) hm (by rw [List.length_map]; unfold maxLen at *; omega)
  have hb3 : ((l.map fun i => [DV.int .i64 i]).length : Int) ≤ (((i64s (cur l l.length)).length - 0 : Nat) : Int) := by rw [i64s_len, cur_len, List.length_map]; omega
  have hsn2 : ∀ g : Nat → Option PO, g 0 = some ⟨true, 1, 2, i64s (cur l l.length)⟩ → Snap g (.ref 0 (0 + 0) (((l.map fun i => [DV.int .i64 i]).length : Int).toNat - 0)) (intsD (l.map halfI)) := by
    intro g hg
    rw [hlen']
    have := snap_ref (off := 0) (len := l.length) hg (i64s_blw _) (by simp only [i64s_len, cur_len]; omega)
    have e : ((i64s (cur l l.length)).drop 0).take l.length = i64s (l.map halfI) := by
      rw [List.drop_zero]; unfold i64s; rw [← List.map_take, cur_end]
    rw [show (PO.mk true 1 2 (i64s (cur l l.length))).els = i64s (cur l l.length) from rfl, e] at this
    exact this
  have hsl2 := (hb l.length).2
  rw [List.take_length] at hsl2
  refine drawK.mk (by kernel_rfl) ?_
  refine ⟨hb1, hb3, ?_⟩
  refine callE.lend [0] hSum2 ⟨hsn2 _ rfl, trivial⟩ (by unfold wideD; simp) ?_
  refine callE.mk (ofL (sumI (l.map halfI)) (by omega)) ?_
  refine ⟨EqOk.mk (by kernel_rfl), ?_⟩
  refine ⟨fun _ => ?_, fun h => absurd h (by simp)⟩
  refine callE.mk known ?_
  exact fin_eq (.bool _) rfl rfl
end Go.Proofs.Ytckcagmlippneaa
