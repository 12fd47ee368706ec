/- AggMerges: states, as a new object. -/
import Derived.Test.YtaddmokllmdngaaNL
namespace Go.Proofs.Ytaddmokllmdngaa
open Go Go.Pv Go.RowKit
set_option linter.unusedSimpArgs false
set_option linter.unusedVariables false
set_option maxRecDepth 10000

set_option maxHeartbeats 4000000 in
theorem statesO (l : List SV) (hl : l.length * 112 ≤ 140737488355328) (hl2 : l.length ≤ maxLen) : FnO Try.prog 12 [.list (l.map stC)] false ⟨false, 12, 38, l.map stC⟩ := by
  refine FnO.mk Try.func12 rfl rfl (Nat.le_of_ble_eq_true rfl) ?_ ?_ ?_
  · intro d hd; simp at hd; subst hd; rw [blw_list]; exact stC_blw l
  · exact stC_blw l
  refine joinK.use [3] (fun _ : Unit => [.ref 0 0 l.length]) (fun _ => [stPO l]) (fun _ => True) ?_ ?_
  · refine loopK.useG [0, 3, 4] (fun i : Nat => [.list (l.map stC), .ref 0 0 i, .int .i64 i]) (fun i => [stPO (l.take i)]) (fun i => i ≤ l.length) (fun i => l.length - i) 0 (Nat.zero_le _)
      (weak_gc [] [none] rfl ⟨ren_eq rfl (by rw [blw_list]; exact stC_blw l), .nil _ rfl, ren_eq rfl (by simp), trivial⟩ ⟨rfl, trivial⟩) ?_
    intro i hi
    have hlen : (l.map stC).length = l.length := by simp
    have hbl : Blw 0 (.list (l.map stC)) := by rw [blw_list]; exact stC_blw l
    refine joinK.direct ?_
    refine ⟨fun h => join_go ?_, fun h => ?_⟩
    · have h : i < l.length := by have h : decide ((i : Int) < ((l.map stC).length : Int)) = true := h; have := of_decide_eq_true h; omega
      have hil : (i : Int) < ((l.map stC).length : Int) := by omega
      have hg : (l.map stC)[(i : Int).toNat]? = some (stC l[i]) := by
        rw [show (i : Int).toNat = i from by omega, List.getElem?_map, List.getElem?_eq_getElem h]; rfl
      have hv := List.getElem?_eq_getElem h
      generalize l[i] = v at *
      have hti : i = ((l.take i).map stC).length := by simp; omega
      have hc1 : i + 1 ≤ maxLen := by omega
      have hc2 : (i + 1) * 112 ≤ 140737488355328 := by omega
      have hti2 : i + 1 = ((l.take (i + 1)).map stC).length := by simp; omega
      have htc := take_stC l i v hv
      have hw : IntKind.i64.wrap ((i : Int) + 1) = ((i + 1 : Nat) : Int) := by rw [IntKind.wrap_i64]; unfold maxLen at hl2; omega
      have hm1 : i + 1 ≤ l.length := by omega
      have hm2 : l.length - (i + 1) < l.length - i := by omega
      have h0 : (0 : Int) ≤ i := by omega
      have hbt := stC_blw (l.take (i + 1))
      refine drawK.mk (by kernel_rfl) ?_
      refine ⟨h0, hil, optK.mk hg ?_⟩
      refine ⟨h0, hil, optK.mk hg ?_⟩
      refine ⟨h0, hil, optK.mk hg ?_⟩
      refine ⟨h0, hil, optK.mk hg ?_⟩
      refine ⟨h0, hil, optK.mk hg ?_⟩
      refine ⟨h0, hil, optK.mk hg ?_⟩
      refine appK.ref (po := ⟨false, 12, 38, (l.take i).map stC⟩) (news := [stC v]) rfl rfl (by kernel_rfl) rfl (by kernel_rfl) (by kernel_rfl) hti (.cons rfl .nil) (.at 112 rfl hc1 hc2) ?_
      refine loop_gc (i + 1) hm1 hm2 (weak_gc [] [some 2] rfl ⟨ren_eq rfl hbl, ren_ref rfl rfl, ren_eq (int_eq hw) (by simp), trivial⟩
        ⟨⟨rfl, rfl, rfl, els_same htc hbt⟩, trivial⟩)
    · have h : i = l.length := by have h : decide ((i : Int) < ((l.map stC).length : Int)) = false := h; have := of_decide_eq_false h; omega
      subst h
      refine join_at () trivial ⟨rfl, trivial⟩ (.inl ?_)
      show [stPO (l.take l.length)] = _
      rw [List.take_length]
  rintro ⟨⟩ -
  exact ⟨0, rfl, rfl, ref_eq (List.length_map ..).symm⟩
end Go.Proofs.Ytaddmokllmdngaa
