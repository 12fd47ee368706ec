/- WideAnyOrder's order: some order of the numbers below n. -/
import Derived.Test.YtckcagmlippneaaWU
namespace Go.Proofs.Ytckcagmlippneaa
open Go Go.Pv Go.RowKit
set_option linter.unusedSimpArgs false
set_option linter.unusedVariables false
set_option maxRecDepth 10000

def natsL (l : List Nat) : List (List DV) := l.map fun (i : Nat) => [DV.int .i64 (i : Int)]
def natPO (l : List Nat) : Option PO := some ⟨false, 1, 3, natsL l⟩
theorem natsL_len (l : List Nat) : (natsL l).length = l.length := by simp [natsL]
theorem natsL_blw (l : List Nat) {m : Nat} : ∀ ds ∈ natsL l, ∀ d ∈ ds, Blw m d := by
  intro ds h d hd
  simp only [natsL, List.mem_map] at h
  obtain ⟨b, _, rfl⟩ := h
  simp at hd; subst hd; simp
theorem natsL_app (l r : List Nat) : natsL l ++ natsL r = natsL (l ++ r) := by simp [natsL]
theorem natsL_get {l : List Nat} {p b : Nat} (h : l[p]? = some b) : (natsL l)[p]? = some [.int .i64 (b : Int)] := by unfold natsL; rw [List.getElem?_map, h]; rfl
theorem natsL_ok (l : List Nat) : elsOk 1 (natsL l) := by
  intro ds h
  simp only [natsL, List.mem_map] at h
  obtain ⟨b, _, rfl⟩ := h
  rfl
theorem natsL_cut (l : List Nat) (a b : Nat) : ((natsL l).drop a).take b = natsL ((l.drop a).take b) := by unfold natsL; rw [List.map_take, List.map_drop]
theorem pick_k (p : Int) (m : Nat) (hm : 0 < m) (hm2 : m ≤ 4096) : ∃ k : Nat, k < m ∧ (IntKind.i64.wrap (p.tmod m + m)).tmod m = k := by
  have h1 : p.tmod m < m := Int.tmod_lt_of_pos _ (by omega)
  have h2 : -(m : Int) < p.tmod m := by
    have := Int.lt_tmod_of_pos p (show (0 : Int) < m by omega)
    omega
  rw [IntKind.wrap_i64]
  have e : (p.tmod ↑m + ↑m + 9223372036854775808) % 18446744073709551616 - 9223372036854775808 = p.tmod m + m := by omega
  rw [e, Int.tmod_eq_emod_of_nonneg (by omega)]
  have h3 := Int.emod_nonneg (p.tmod m + m) (show (m : Int) ≠ 0 by omega)
  have h4 := Int.emod_lt_of_pos (p.tmod m + m) (show (0 : Int) < m by omega)
  exact ⟨((p.tmod m + m) % m).toNat, by omega, by omega⟩
theorem perm_step (l left : List Nat) (k : Nat) (hk : k < left.length) (n : Nat) (h : (l ++ left).Perm (List.range n)) : ((l ++ [left[k]]) ++ (left.take k ++ left.drop (k + 1))).Perm (List.range n) := by
  refine List.Perm.trans ?_ h
  rw [List.append_assoc]
  refine List.Perm.append_left l ?_
  have e : left = left.take k ++ left[k] :: left.drop (k + 1) := by rw [← List.drop_eq_getElem_cons hk, List.take_append_drop]
  refine List.Perm.trans ?_ (List.Perm.of_eq e.symm)
  exact List.perm_middle (a := left[k]) (l₁ := left.take k) (l₂ := left.drop (k + 1)) |>.symm

theorem orderF (picks : List Int) (n : Nat) (hn : n ≤ 4096) : FnC Try.prog 37 [intsD picks, .int .i64 n] (fun d => ∃ l : List Nat, l.Perm (List.range n) ∧ d = .list (natsL l)) := by
  refine FnC.mk Try.func37 rfl rfl (Nat.le_of_ble_eq_true rfl) ?_ ?_ ?_
  · intro d hd
    simp at hd
    rcases hd with rfl | rfl <;> simp [intsD]
  · rintro _ ⟨l, _, rfl⟩
    rw [blw_list]; exact natsL_blw l
  refine joinK.use [0, 1, 5, 6] (fun _ : Unit => [intsD picks, .int .i64 n, .ref 0 0 n, .nils]) (fun _ => [natPO (List.range n)]) (fun _ => True) ?_ ?_
  · refine loopK.useG [0, 1, 5, 6, 7] (fun i : Nat => [intsD picks, .int .i64 n, .ref 0 0 i, .nils, .int .i64 i]) (fun i => [natPO (List.range i)]) (fun i => i ≤ n) (fun i => n - i) 0 (Nat.zero_le _)
      (weak_gc [] [none] rfl ⟨ren_eq rfl (by simp [intsD]), ren_eq rfl (by simp), .nil _ rfl, ren_eq rfl (by simp), ren_eq rfl (by simp), trivial⟩ ⟨rfl, trivial⟩) ?_
    intro i hi
    refine joinK.direct ?_
    refine ⟨fun h => join_go ?_, fun h => ?_⟩
    · have h : i < n := by have h : decide ((i : Int) < (n : Int)) = true := h; have := of_decide_eq_true h; omega
      refine appK.go ⟨.cons rfl .nil, by simp [natsL_len], .at 8 rfl (by simp [maxLen]; omega) (by simp; omega), ?_⟩
      refine loop_gc (i + 1) (by omega) (by omega) (weak_gc [] [some 2] rfl ⟨ren_eq rfl (by simp [intsD]), ren_eq rfl (by simp), ren_ref rfl (by simp), ren_eq rfl (by simp), ren_eq (int_eq ?_) (by simp), trivial⟩
        ⟨⟨rfl, rfl, rfl, els_same ?_ (natsL_blw _)⟩, trivial⟩)
      · rw [IntKind.wrap_i64]; omega
      · exact (natsL_app _ [i]).trans (congrArg natsL List.range_succ.symm)
    · have h : i = n := by have h : decide ((i : Int) < (n : Int)) = false := h; have := of_decide_eq_false h; omega
      subst h
      exact join_at () trivial ⟨rfl, rfl, rfl, rfl, trivial⟩ (.inl rfl)
  rintro ⟨⟩ -
  refine joinK.use [6] (fun l : List Nat => [.ref 0 0 l.length]) (fun l => [natPO l]) (fun l => l.Perm (List.range n)) ?_ ?_
  · refine loopK.useG [0, 5, 6, 8] (fun s : Nat × List Nat × List Nat => [intsD picks, .ref 0 0 s.2.1.length, .ref 1 0 s.2.2.length, .int .i64 s.1]) (fun s => [natPO s.2.1, natPO s.2.2])
      (fun s => (s.2.2 ++ s.2.1).Perm (List.range n) ∧ s.1 ≤ n ∧ s.1 = s.2.2.length) (fun s => s.2.1.length) (0, List.range n, []) ⟨List.Perm.refl _, Nat.zero_le _, rfl⟩
      (weak_gc [] [some 0, none] rfl ⟨ren_eq rfl (by simp [intsD]), ren_ref rfl (by simp), .nil _ rfl, ren_eq rfl (by simp), trivial⟩ ⟨⟨rfl, rfl, rfl, els_same rfl (natsL_blw _)⟩, rfl, trivial⟩) ?_
    rintro ⟨i, left, l⟩ ⟨hperm, hi, hil⟩
    have hlen : l.length + left.length = n := by have := hperm.length_eq; simpa using this
    refine joinK.direct ?_
    refine ⟨fun h => join_go ?_, fun h => ?_⟩
    · have hpos : 0 < left.length := by
        have h : decide ((left.length : Int) > 0) = true := h
        have := of_decide_eq_true h; omega
      refine joinK.direct ?_
      refine joinK.use [0, 5, 6, 8, 9] (fun k : Nat => [intsD picks, .ref 0 0 left.length, .ref 1 0 l.length, .int .i64 i, .int .i64 k]) (fun _ => [natPO left, natPO l]) (fun k => k < left.length) ?_ ?_
      · refine ⟨fun h => ?_, fun h => ?_⟩
        · have h : i < picks.length := by
            have h : decide ((i : Int) < ((picks.map fun i => [DV.int .i64 i]).length : Int)) = true := h
            have := of_decide_eq_true h; simp at this; omega
          have hg : (picks.map fun i => [DV.int .i64 i])[(i : Int).toNat]? = some [.int .i64 picks[i]] := by simp [h]
          have hil2 : (i : Int) < ((picks.map fun i => [DV.int .i64 i]).length : Int) := by simp; omega
          have hne : ((left.length : Nat) : Int) ≠ 0 := by omega
          obtain ⟨k, hk, ek⟩ := pick_k picks[i] left.length hpos (by omega)
          refine ⟨by omega, hil2, optK.mk hg ?_⟩
          refine ⟨rfl, hne, ?_⟩
          refine ⟨rfl, hne, ?_⟩
          exact join_at k hk ⟨rfl, rfl, rfl, rfl, int_eq ek, trivial⟩ (.inl rfl)
        · exact join_at 0 hpos ⟨rfl, rfl, rfl, rfl, rfl, trivial⟩ (.inl rfl)
      intro k hk
      have hk1 : (k : Int) < ((left.length : Nat) : Int) := by omega
      have ek : (k : Int).toNat = k := by omega
      have hget : (natsL left)[0 + (k : Int).toNat]? = some [.int .i64 (left[k] : Int)] := by
        rw [ek, Nat.zero_add]; exact natsL_get (List.getElem?_eq_getElem hk)
      refine ⟨by omega, hk1, optK.mk rfl ?_⟩
      refine optK.mk hget ?_
      refine appK.go ⟨.cons rfl .nil, (natsL_len l).symm, .at 8 rfl (by simp [maxLen]; omega) (by simp; omega), ?_⟩
      have hb1 : (k : Int) ≤ ((natsL left).length - 0 : Nat) := by rw [natsL_len]; omega
      refine ⟨by omega, hb1, ?_⟩
      have hcut1 : ((natsL left).drop 0).take ((k : Int).toNat - 0) = natsL (left.take k) := by rw [ek, natsL_cut]; rfl
      have hcut2 : ((natsL left).drop (0 + (IntKind.i64.wrap ((k : Int) + 1)).toNat)).take (left.length - (IntKind.i64.wrap ((k : Int) + 1)).toNat) = natsL (left.drop (k + 1)) := by
        have e : (IntKind.i64.wrap ((k : Int) + 1)).toNat = k + 1 := by rw [IntKind.wrap_i64]; omega
        rw [e, Nat.zero_add, natsL_cut, List.take_of_length_le (by simp)]
      have hw1 : IntKind.i64.wrap ((k : Int) + 1) = (k : Int) + 1 := by rw [IntKind.wrap_i64]; omega
      have hok1 : elsOk 1 (((natsL left).drop 0).take ((k : Int).toNat - 0)) := by rw [hcut1]; exact natsL_ok _
      have hl1 : (((natsL left).drop 0).take ((k : Int).toNat - 0)).length ≤ 4096 := by rw [hcut1, natsL_len]; simp; omega
      have hl2 : (((natsL left).drop 0).take ((k : Int).toNat - 0)).length + (((natsL left).drop (0 + (IntKind.i64.wrap ((k : Int) + 1)).toNat)).take (left.length - (IntKind.i64.wrap ((k : Int) + 1)).toNat)).length ≤ 4096 := by
        rw [hcut1, hcut2, natsL_len, natsL_len]; simp; omega
      have hok2 : elsOk 1 (((natsL left).drop (0 + (IntKind.i64.wrap ((k : Int) + 1)).toNat)).take (left.length - (IntKind.i64.wrap ((k : Int) + 1)).toNat)) := by rw [hcut2]; exact natsL_ok _
      have cap : ∀ {m : Nat}, m ≤ 4096 → m ≤ maxLen ∧ m * 8 ≤ 140737488355328 := fun h => ⟨by unfold maxLen; omega, by omega⟩
      have hb2 : (0 : Int) ≤ IntKind.i64.wrap ((k : Int) + 1) := by rw [hw1]; omega
      have hb3 : IntKind.i64.wrap ((k : Int) + 1) ≤ ((left.length : Nat) : Int) := by rw [hw1]; omega
      refine appK.go ⟨hok1, .at 8 rfl (cap hl1).1 (cap hl1).2, ?_⟩
      refine ⟨hb2, hb3, ?_⟩
      refine appK.go ⟨hok2, rfl, .at 8 rfl (cap hl2).1 (cap hl2).2, ?_⟩
      have hml : (left.take k ++ left.drop (k + 1)).length < left.length := by rw [List.length_append, List.length_take, List.length_drop]; omega
      have hil0 : i = l.length := hil
      have hil' : i + 1 = (l ++ [left[k]]).length := by rw [List.length_append, ← hil0]; rfl
      have hin : i + 1 ≤ n := by omega
      have hst : ((natsL left).drop 0).take ((k : Int).toNat - 0) ++ ((natsL left).drop (0 + (IntKind.i64.wrap ((k : Int) + 1)).toNat)).take (left.length - (IntKind.i64.wrap ((k : Int) + 1)).toNat) = natsL (left.take k ++ left.drop (k + 1)) := by
        rw [hcut1, hcut2, natsL_app]
      have hln : (((natsL left).drop 0).take ((k : Int).toNat - 0)).length + (((natsL left).drop (0 + (IntKind.i64.wrap ((k : Int) + 1)).toNat)).take (left.length - (IntKind.i64.wrap ((k : Int) + 1)).toNat)).length = (left.take k ++ left.drop (k + 1)).length := by
        rw [hcut1, hcut2, natsL_len, natsL_len, List.length_append]
      refine join_go (loop_gc (i + 1, left.take k ++ left.drop (k + 1), l ++ [left[k]]) ⟨perm_step l left k hk n hperm, hin, hil'⟩ hml
        (weak_gc [] [some 5, some 3] rfl ⟨ren_eq rfl (by simp [intsD]), ren_ref rfl hln, ren_ref rfl (by simp), ren_eq (int_eq ?_) (by simp), trivial⟩
          ⟨⟨rfl, rfl, rfl, els_same hst (natsL_blw _)⟩, ⟨rfl, rfl, rfl, els_same (natsL_app l [left[k]]) (natsL_blw _)⟩, trivial⟩))
      rw [IntKind.wrap_i64]; omega
    · have h0 : left = [] := by
        have h : decide ((left.length : Int) > 0) = false := h
        have := of_decide_eq_false h
        exact List.length_eq_zero_iff.1 (by omega)
      subst h0
      exact join_gc l (by simpa using hperm) (weak_gc [] [some 1] rfl ⟨ren_ref rfl rfl, trivial⟩ ⟨⟨rfl, rfl, rfl, els_same rfl (natsL_blw _)⟩, trivial⟩)
  intro l hl
  exact .inr ⟨_, by rw [← natsL_len]; exact snap_whole (po := ⟨false, 1, 3, natsL l⟩) rfl (natsL_blw l), l, hl, rfl⟩
end Go.Proofs.Ytckcagmlippneaa
