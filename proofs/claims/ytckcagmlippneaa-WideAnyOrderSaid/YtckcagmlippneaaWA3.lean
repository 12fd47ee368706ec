/- WideAnyOrder: the law's walk. -/
import Derived.Test.YtckcagmlippneaaWA2
namespace Go.Proofs.Ytckcagmlippneaa
open Go Go.Pv Go.RowKit
set_option linter.unusedSimpArgs false
set_option linter.unusedVariables false
set_option maxRecDepth 10000
set_option exponentiation.threshold 1000

theorem ints_get {l : List Int} {i : Nat} {z : Int} (h : l[i]? = some z) : (l.map fun i => [DV.int .i64 i])[(i : Int).toNat]? = some [.int .i64 z] := by
  rw [show (i : Int).toNat = i by omega, List.getElem?_map, h]; rfl
theorem wideCs {x y : Int} (h : x = y) : [wideC x] = [wideC y] := by rw [h]
theorem nth_of {l : List Int} {a : List Nat} (ha : a.Perm (List.range l.length)) {i : Nat} (hi : i < l.length) : ∃ j z, a[i]? = some j ∧ j < l.length ∧ l[j]? = some z ∧ (gOf l a)[i]? = some z := by
  have hal : a.length = l.length := ha.length_eq.trans List.length_range
  have h1 := List.getElem?_eq_getElem (show i < a.length by omega)
  have hj : a[i] < l.length := by
    have := (ha.mem_iff (a := a[i])).1 (List.getElem_mem _)
    simpa using this
  have h2 := List.getElem?_eq_getElem hj
  exact ⟨a[i], l[a[i]], h1, hj, h2, gOf_get h1 h2⟩
theorem wide00 : wideC 0 = wide0 := by unfold wideC wide0 hiW loW; rw [IntKind.wrap_i64]; rfl
theorem start_objs (S : Int) (g : List Int) (k : Nat) : [widePO (wideC S), widePO wide0, widePO wide0] = [widePO (wideC S), widePO (wideC (oneI g k 0)), widePO (wideC (twoI g k 0))] := by
  rw [(one_0 g k).1, (one_0 g k).2, wide00]
theorem objs3 {S a b a' b' : Int} (h1 : a = a') (h2 : b = b') : [widePO (wideC S), widePO (wideC a), widePO (wideC b)] = [widePO (wideC S), widePO (wideC a'), widePO (wideC b')] := by rw [h1, h2]
theorem objs4 {S a b r r' : Int} (h1 : r = r') : [widePO (wideC S), widePO (wideC a), widePO (wideC b), widePO (wideC r)] = [widePO (wideC S), widePO (wideC a), widePO (wideC b), widePO (wideC r')] := by rw [h1]
theorem intW2 (x : Int) (hx : in128 x) : ∃ (v : Int) (b : Bool), FnC Try.prog 28 [wideD x] (· = .tup [.int .i64 v, .bool b]) := by
  have c := intW x hx
  by_cases h : isI64 x = true
  · rw [if_pos h] at c; exact ⟨_, _, c⟩
  · rw [if_neg h] at c; exact ⟨_, _, c⟩
theorem start4 (S a b : Int) (l : List Int) : [widePO (wideC S), widePO (wideC a), widePO (wideC b), widePO wide0] = [widePO (wideC S), widePO (wideC a), widePO (wideC b), widePO (wideC (seen l 0))] := by rw [seen_0, wide00]
theorem cnt_R (l : List Int) (hn : l.length ≤ 4096) (x : Int) : i64R ((l.count x : Nat) : Int) := by
  have : l.count x ≤ l.length := List.count_le_length
  unfold i64R; omega
theorem cnt_le (l : List Int) (hn : l.length ≤ 4096) (x : Int) (j : Nat) : (l.take j).count x ≤ 4096 := by
  have : (l.take j).count x ≤ (l.take j).length := List.count_le_length
  rw [List.length_take] at this; omega
theorem in_sum (l : List Int) (hl : ∀ i ∈ l, i64R i) (hn : l.length ≤ 4096) : in128 (sumI l) := by
  have := sum_bound l hl
  have h2 : l.length * 9223372036854775808 ≤ 4096 * 9223372036854775808 := Nat.mul_le_mul_right _ hn
  unfold in128; omega
theorem lawAnyOrder (l : List Int) (hl : ∀ i ∈ l, i64R i) (hy : l.length * 8 ≤ reachBytes) (picks : List Int) (hp : ∀ i ∈ picks, i64R i) (hpy : picks.length * 8 ≤ reachBytes) (cut : Int) (hc : i64R cut) :
    FnC Try.prog 10 [intsD l, intsD picks, .int .i64 cut] (· = .bool true) := by
  have hblw : ∀ d ∈ [intsD l, intsD picks, .int .i64 cut], Blw 0 d := by
    intro d hd
    simp at hd
    rcases hd with rfl | rfl | rfl <;> simp [intsD]
  have hlR : ∀ i z, l[i]? = some z → i64R z := fun i z h => hl z (List.mem_of_getElem? h)
  have hmax : l.length ≤ maxLen := by unfold reachBytes at hy; unfold maxLen; omega
  have hL : ((l.map fun i => [DV.int .i64 i]).length : Int) = (l.length : Int) := by simp
  rcases Nat.lt_or_ge 4096 l.length with hn | hn
  · have hgt : decide (((l.map fun i => [DV.int .i64 i]).length : Int) > 4096) = true := by rw [hL]; exact decide_eq_true (by omega)
    refine FnC.mk Try.func10 rfl rfl (Nat.le_of_ble_eq_true rfl) hblw (by rintro _ rfl; simp) ?_
    refine joinK.direct ?_
    refine callK.eq known ?_
    refine ⟨fun h => absurd h (by simp), fun _ => join_go ?_⟩
    refine joinK.direct ?_
    refine ⟨fun h => ?_, fun h => absurd (hgt.symm.trans h) (by decide)⟩
    exact fin_eq (.bool _) rfl rfl
  have hngt : decide (((l.map fun i => [DV.int .i64 i]).length : Int) > 4096) = false := by rw [hL]; exact decide_eq_false (by omega)
  have hord : FnC Try.prog 37 [intsD picks, .int .i64 ((l.map fun i => [DV.int .i64 i]).length : Int)] (fun d => ∃ l' : List Nat, l'.Perm (List.range l.length) ∧ d = .list (natsL l')) := by
    have := orderF picks l.length hn
    rwa [show ((l.length : Nat) : Int) = ((l.map fun i => [DV.int .i64 i]).length : Int) by simp] at this
  obtain ⟨k0, hk0, ek0⟩ : ∃ k : Nat, k ≤ l.length ∧ (0 < l.length → (IntKind.i64.wrap (cut.tmod ((l.map fun i => [DV.int .i64 i]).length : Int) + ((l.map fun i => [DV.int .i64 i]).length : Int))).tmod ((l.map fun i => [DV.int .i64 i]).length : Int) = k) := by
    rcases Nat.eq_zero_or_pos l.length with h | h
    · exact ⟨0, Nat.zero_le _, fun h' => by omega⟩
    · obtain ⟨k, hk, ek⟩ := pick_k cut l.length h hn
      exact ⟨k, by omega, fun _ => by rw [hL]; exact ek⟩
  have hne : 0 < l.length → ((l.map fun i => [DV.int .i64 i]).length : Int) ≠ 0 := fun h => by rw [hL]; omega
  have hpos : decide (((l.map fun i => [DV.int .i64 i]).length : Int) > 0) = true → 0 < l.length := fun h => by
    have := of_decide_eq_true h; rw [hL] at this; omega
  have hlt : ∀ i : Nat, decide ((i : Int) < ((l.map fun i => [DV.int .i64 i]).length : Int)) = true → i < l.length := fun i h => by
    have := of_decide_eq_true h; rw [hL] at this; omega
  have hge : ∀ i : Nat, i ≤ l.length → decide ((i : Int) < ((l.map fun i => [DV.int .i64 i]).length : Int)) = false → i = l.length := fun i hi h => by
    have := of_decide_eq_false h; rw [hL] at this; omega
  refine FnC.mk Try.func10 rfl rfl (Nat.le_of_ble_eq_true rfl) hblw (by rintro _ rfl; simp) ?_
  refine joinK.direct ?_
  refine callK.eq known ?_
  refine ⟨fun h => absurd h (by simp), fun _ => join_go ?_⟩
  refine joinK.direct ?_
  refine ⟨fun h => absurd (hngt.symm.trans h) (by decide), fun h => join_go ?_⟩
  refine callK.eq (sumW l hl hmax) ?_
  show callK _ _ _ _ _
  refine callK_ex hord fun a ha => ?_
  have hal : a.length = l.length := ha.length_eq.trans List.length_range
  refine joinK.use [0, 7, 8, 9, 10, 11] (fun k : Nat => [intsD l, .pobj 0 0 0, .list (natsL a), .pobj 1 0 0, .pobj 2 0 0, .int .i64 k]) (fun _ => [widePO (wideC (sumI l)), widePO wide0, widePO wide0]) (fun k => k ≤ l.length) ?_ ?_
  · refine ⟨fun h => ?_, fun h => ?_⟩
    · refine ⟨rfl, hne (hpos h), ?_⟩
      refine ⟨rfl, hne (hpos h), ?_⟩
      exact join_at k0 hk0 ⟨rfl, rfl, rfl, rfl, rfl, int_eq (ek0 (hpos h)), trivial⟩ (.inl rfl)
    · exact join_at 0 (Nat.zero_le _) ⟨rfl, rfl, rfl, rfl, rfl, rfl, trivial⟩ (.inl rfl)
  intro k hk
  refine joinK.use [0, 7, 9, 10] (fun _ : Unit => [intsD l, .pobj 0 0 0, .pobj 1 0 0, .pobj 2 0 0]) (fun _ => [widePO (wideC (sumI l)), widePO (wideC (oneI (gOf l a) k l.length)), widePO (wideC (twoI (gOf l a) k l.length))]) (fun _ => True) ?_ ?_
  · refine loopK.use [0, 7, 8, 9, 10, 11, 12] (fun i : Nat => [intsD l, .pobj 0 0 0, .list (natsL a), .pobj 1 0 0, .pobj 2 0 0, .int .i64 k, .int .i64 i]) (fun i => [widePO (wideC (sumI l)), widePO (wideC (oneI (gOf l a) k i)), widePO (wideC (twoI (gOf l a) k i))])
      (fun i => i ≤ l.length) (fun i => l.length - i) 0 (Nat.zero_le _) ⟨rfl, rfl, rfl, rfl, rfl, rfl, rfl, trivial⟩ (.inl (start_objs _ _ _)) ?_
    intro i hi
    refine joinK.direct ?_
    refine ⟨fun h => join_go ?_, fun h => ?_⟩
    · have h : i < l.length := hlt i h
      obtain ⟨j, z, h1, h2, h3, h4⟩ := nth_of ha h
      have i0 : (0 : Int) ≤ (i : Int) := Int.natCast_nonneg i
      have j0 : (0 : Int) ≤ (j : Int) := Int.natCast_nonneg j
      have i1 : (i : Int) < ((natsL a).length : Int) := by rw [natsL_len, hal]; omega
      have j1 : (j : Int) < ((l.map fun i => [DV.int .i64 i]).length : Int) := by rw [hL]; omega
      have g1 : (natsL a)[(i : Int).toNat]? = some [.int .i64 (j : Int)] := natsL_get (by rw [show (i : Int).toNat = i by omega]; exact h1)
      have g2 := ints_get h3
      have hzR := hlR j z h3
      have hnx : IntKind.i64.wrap ((i : Int) + 1) = ((i + 1 : Nat) : Int) := by rw [IntKind.wrap_i64]; omega
      have hmu : l.length - (i + 1) < l.length - i := by omega
      refine joinK.direct ?_
      refine ⟨fun hk' => ?_, fun hk' => ?_⟩
      · have hs := one_step (g := gOf l a) h4 (k := k) (by have hk' : decide ((i : Int) < (k : Int)) = true := hk'; have := of_decide_eq_true hk'; omega)
        refine drawK.mk (by kernel_rfl) ?_
        refine ⟨i0, i1, optK.mk g1 ?_⟩
        refine ⟨j0, j1, optK.mk g2 ?_⟩
        refine callE.mk (ofW z hzR) ?_
        refine callE.mk (plusW (oneI (gOf l a) k i) z) ?_
        exact join_go (loop_next (i + 1) h hmu ⟨rfl, rfl, rfl, rfl, rfl, rfl, int_eq hnx, trivial⟩ (.inl (objs3 hs.1.symm hs.2.symm)))
      · have hs := two_step (g := gOf l a) h4 (k := k) (by have hk' : decide ((i : Int) < (k : Int)) = false := hk'; have := of_decide_eq_false hk'; omega)
        refine drawK.mk (by kernel_rfl) ?_
        refine ⟨i0, i1, optK.mk g1 ?_⟩
        refine ⟨j0, j1, optK.mk g2 ?_⟩
        refine callE.mk (ofW z hzR) ?_
        refine callE.mk (plusW z (twoI (gOf l a) k i)) ?_
        exact join_go (loop_next (i + 1) h hmu ⟨rfl, rfl, rfl, rfl, rfl, rfl, int_eq hnx, trivial⟩ (.inl (objs3 hs.1.symm hs.2.symm)))
    · have h : i = l.length := hge i hi h
      subst h
      exact join_at () trivial ⟨rfl, rfl, rfl, rfl, trivial⟩ (.inl rfl)
  rintro ⟨⟩ -
  have hsum : oneI (gOf l a) k l.length + twoI (gOf l a) k l.length = sumI l := by
    have := one_two (g := gOf l a) (k := k) (by rw [gOf_len, hal]; exact hk)
    rw [gOf_len, hal] at this
    rw [this, gOf_sum ha]
  generalize oneI (gOf l a) k l.length = A at *
  generalize twoI (gOf l a) k l.length = B at *
  refine joinK.use [7, 9, 10, 13] (fun _ : Unit => [.pobj 0 0 0, .pobj 1 0 0, .pobj 2 0 0, .pobj 3 0 0]) (fun _ => [widePO (wideC (sumI l)), widePO (wideC A), widePO (wideC B), widePO (wideC (sumI l))]) (fun _ => True) ?_ ?_
  · refine loopK.use [0, 7, 9, 10, 13, 14] (fun i : Nat => [intsD l, .pobj 0 0 0, .pobj 1 0 0, .pobj 2 0 0, .pobj 3 0 0, .int .i64 i]) (fun i => [widePO (wideC (sumI l)), widePO (wideC A), widePO (wideC B), widePO (wideC (seen l i))])
      (fun i => i ≤ l.length) (fun i => l.length - i) 0 (Nat.zero_le _) ⟨rfl, rfl, rfl, rfl, rfl, rfl, trivial⟩ (.inl (start4 _ _ _ _)) ?_
    intro i hi
    refine joinK.direct ?_
    refine ⟨fun h => join_go ?_, fun h => ?_⟩
    · have h : i < l.length := hlt i h
      have hz := List.getElem?_eq_getElem h
      generalize l[i] = z at hz
      have hzR := hlR i z hz
      have i0 : (0 : Int) ≤ (i : Int) := Int.natCast_nonneg i
      have i1 : (i : Int) < ((l.map fun i => [DV.int .i64 i]).length : Int) := by rw [hL]; omega
      have g1 := ints_get hz
      have hnx : ∀ i : Nat, i < l.length → IntKind.i64.wrap ((i : Int) + 1) = ((i + 1 : Nat) : Int) := fun i hi => by rw [IntKind.wrap_i64]; omega
      have hmu : l.length - (i + 1) < l.length - i := by omega
      have hcs : ∀ j : Nat, IntKind.i64.wrap ((((l.take j).count z : Nat) : Int) + 1) = (((l.take j).count z + 1 : Nat) : Int) := fun j => by
        have := cnt_le l hn z j
        rw [IntKind.wrap_i64]; omega
      have hst := seen_step hz
      have hfe := firstB_end (x := z) (Nat.le_of_lt h)
      refine joinK.direct ?_
      refine joinK.use [0, 7, 9, 10, 13, 14, 15, 16] (fun _ : Unit => [intsD l, .pobj 0 0 0, .pobj 1 0 0, .pobj 2 0 0, .pobj 3 0 0, .int .i64 i, .int .i64 ((l.count z : Nat) : Int), .bool (firstB l z i l.length)])
        (fun _ => [widePO (wideC (sumI l)), widePO (wideC A), widePO (wideC B), widePO (wideC (seen l i))]) (fun _ => True) ?_ ?_
      · refine loopK.use [0, 7, 9, 10, 13, 14, 15, 16, 17] (fun j : Nat => [intsD l, .pobj 0 0 0, .pobj 1 0 0, .pobj 2 0 0, .pobj 3 0 0, .int .i64 i, .int .i64 (((l.take j).count z : Nat) : Int), .bool (firstB l z i j), .int .i64 j])
          (fun _ => [widePO (wideC (sumI l)), widePO (wideC A), widePO (wideC B), widePO (wideC (seen l i))]) (fun j => j ≤ l.length) (fun j => l.length - j) 0 (Nat.zero_le _) ⟨rfl, rfl, rfl, rfl, rfl, rfl, rfl, rfl, rfl, trivial⟩ (.inl rfl) ?_
        intro j hj
        refine joinK.direct ?_
        refine ⟨fun h2 => join_go ?_, fun h2 => ?_⟩
        · have h2 : j < l.length := hlt j h2
          have hy := List.getElem?_eq_getElem h2
          generalize l[j] = y at hy
          have j0 : (0 : Int) ≤ (j : Int) := Int.natCast_nonneg j
          have j1 : (j : Int) < ((l.map fun i => [DV.int .i64 i]).length : Int) := by rw [hL]; omega
          have g2 := ints_get hy
          have hc1 := count_step hy z
          have hf1 := firstB_step hy z i
          have hmu2 : l.length - (j + 1) < l.length - j := by omega
          refine joinK.direct ?_
          refine drawK.mk (by kernel_rfl) ?_
          refine ⟨j0, j1, optK.mk g2 ?_⟩
          refine ⟨i0, i1, optK.mk g1 ?_⟩
          refine ⟨fun h3 => ?_, fun h3 => ?_⟩
          · have h3 : (y == z) = true := h3
            have h3 : y = z := by simpa using h3
            rw [if_pos h3] at hc1 hf1
            have hif : (bif firstB l z i j then decide ((j : Int) ≥ (i : Int)) else false) = firstB l z i (j + 1) := by
              rw [hf1, Bool.cond_false_right]
              congr 1
              exact decide_eq_decide.2 (by omega)
            refine guardK.spec ?_
            exact join_go (loop_next (j + 1) h2 hmu2 ⟨rfl, rfl, rfl, rfl, rfl, rfl, int_eq ((hcs j).trans (by rw [hc1])), bool_eq hif, int_eq (hnx j h2), trivial⟩ (.inl rfl))
          · have h3 : (y == z) = false := h3
            have h3 : ¬ y = z := by simpa using h3
            rw [if_neg h3] at hc1 hf1
            rw [Bool.and_true] at hf1
            exact join_go (loop_next (j + 1) h2 hmu2 ⟨rfl, rfl, rfl, rfl, rfl, rfl, int_eq (by rw [hc1]; rfl), bool_eq hf1.symm, int_eq (hnx j h2), trivial⟩ (.inl rfl))
        · have h2 : j = l.length := hge j hj h2
          subst h2
          exact join_at () trivial ⟨rfl, rfl, rfl, rfl, rfl, rfl, int_eq (by rw [List.take_length]), rfl, trivial⟩ (.inl rfl)
      rintro ⟨⟩ -
      refine ⟨fun h2 => ?_, fun h2 => ?_⟩
      · have h2 : firstB l z i l.length = true := h2
        rw [hfe] at h2
        rw [if_neg (by simpa using h2)] at hst
        refine drawK.mk (by kernel_rfl) ?_
        refine ⟨i0, i1, optK.mk g1 ?_⟩
        refine callE.mk (timesW z _ hzR (cnt_R l hn z)) ?_
        refine callE.mk (plusW (seen l i) (z * (l.count z : Nat))) ?_
        exact join_go (loop_next (i + 1) h hmu ⟨rfl, rfl, rfl, rfl, rfl, int_eq (hnx i h), trivial⟩ (.inl (objs4 hst.symm)))
      · have h2 : firstB l z i l.length = false := h2
        rw [hfe] at h2
        rw [if_pos (by simpa using h2), Int.add_zero] at hst
        exact join_go (loop_next (i + 1) h hmu ⟨rfl, rfl, rfl, rfl, rfl, int_eq (hnx i h), trivial⟩ (.inl (objs4 hst.symm)))
    · have h : i = l.length := hge i hi h
      subst h
      exact join_at () trivial ⟨rfl, rfl, rfl, rfl, trivial⟩ (.inl (objs4 (seen_end l)))
  rintro ⟨⟩ -
  have cp : FnC Try.prog 20 [wideD A, wideD B] (· = wideD (sumI l)) := hsum ▸ plusW A B
  have cp2 : FnC Try.prog 20 [wideD B, wideD A] (· = wideD (sumI l)) := by
    have := plusW B A
    rwa [Int.add_comm, hsum] at this
  have ci := intW (sumI l) (in_sum l hl hn)
  generalize sumI l = S at *
  generalize (if isI64 S then S else 0) = v at ci
  generalize isI64 S = bb at ci
  refine callK.eq ci ?_
  refine callK.eq cp ?_
  show callK _ _ _ _ _
  refine callK.eq ci ?_
  refine drawK.mk (by kernel_rfl) ?_
  refine callE.mk cp ?_
  refine ⟨EqOk.mk (by kernel_rfl), ?_⟩
  refine ⟨fun _ => ?_, fun h => absurd h (by simp)⟩
  refine callE.mk cp2 ?_
  refine ⟨EqOk.mk (by kernel_rfl), ?_⟩
  refine ⟨fun _ => ?_, fun h => absurd h (by simp)⟩
  refine ⟨EqOk.mk (by kernel_rfl), ?_⟩
  refine ⟨fun _ => ?_, fun h => absurd h (by simp)⟩
  refine ⟨fun _ => ?_, fun h => absurd h (by simp)⟩
  exact fin_eq (.bool _) rfl (bool_eq (by simp))
end Go.Proofs.Ytckcagmlippneaa
