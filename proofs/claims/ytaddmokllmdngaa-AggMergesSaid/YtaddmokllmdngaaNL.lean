/- States put together: the program's Merge; same. -/
import Derived.Test.YtaddmokllmdngaaNK
namespace Go.Proofs.Ytaddmokllmdngaa
open Go Go.Pv Go.RowKit
set_option linter.unusedSimpArgs false
set_option linter.unusedVariables false
set_option maxRecDepth 10000

set_option maxHeartbeats 4000000 in
theorem mergeW (l : List SV) (hl : l.length ≤ maxLen) (hF : ∀ b ∈ l, b.F) : FnC Try.prog 15 [.list (l.map stC)] (· = .agg (stC (mrgL l))) := by
  have hbl : Blw 0 (.list (l.map stC)) := by rw [blw_list]; exact stC_blw l
  refine FnC.mk Try.func15 rfl rfl (Nat.le_of_ble_eq_true rfl) ?_ ?_ ?_
  · intro d hd; simp at hd; subst hd; exact hbl
  · rintro _ rfl; rw [blw_agg]; exact stC_blw [mrgL l] _ (by simp)
  refine joinK.use [2, 3] (fun _ : Unit => [.pobj 0 0 0, .pobj 1 0 0]) (fun _ => [onePO zeroSV, onePO (mrgL l)]) (fun _ => True) ?_ ?_
  · refine loopK.use [2, 3, 6, 7, 8] (fun i : Nat => [.pobj 0 0 0, .pobj 1 0 0, .list (l.map stC), .int .i64 (l.map stC).length, .int .i64 i]) (fun i => [onePO zeroSV, onePO (mrgL (l.take i))]) (fun i => i ≤ l.length) (fun i => l.length - i) 0 (Nat.zero_le _) ⟨rfl, rfl, rfl, rfl, rfl, trivial⟩ (.inl rfl) ?_
    intro i hi
    have hlen : (l.map stC).length = l.length := by simp
    by_cases h : i < l.length
    · have hd : decide ((i : Int) < ((l.map stC).length : Int)) = true := decide_eq_true (by omega)
      have hil : (i : Int) < ((l.map stC).length : Int) := by omega
      have hg : (l.map stC)[(i : Int).toNat]? = some (stC l[i]) := by
        rw [show (i : Int).toNat = i from by omega, List.getElem?_map, List.getElem?_eq_getElem h]; rfl
      have hb : (l[i]).F := hF _ (List.getElem_mem h)
      have hnx := mrgL_take (List.getElem?_eq_getElem h)
      have ha := mrgL_takeF hF i
      generalize l[i] = b at *
      generalize mrgL (l.take i) = a at *
      have hw : IntKind.i64.wrap ((i : Int) + 1) = ((i + 1 : Nat) : Int) := by rw [IntKind.wrap_i64]; unfold maxLen at hl; omega
      have hm1 : i + 1 ≤ l.length := by omega
      have hm2 : l.length - (i + 1) < l.length - i := by omega
      have h0 : (0 : Int) ≤ i := by omega
      have cp := plusW a.x b.x
      have hu : (sumSV a b).F := ⟨ha.f, ha.f'⟩
      have ce := endsW (sumSV a b) hu b.k b.i b.k' b.i' b.f b.f' b.s b.s' hb.f hb.f'
      rw [show ((sumSV a b).lo b.k b.i b.f b.s).hi b.k' b.i' b.f' b.s' = mrgL (l.take (i + 1)) from hnx.symm] at ce
      clear hnx
      have hbm := stC_blw [mrgL (l.take (i + 1))]
      refine joinK.direct ?_
      refine ⟨fun _ => join_go ?_, fun h => absurd (hd.symm.trans h) (by decide)⟩
      refine ⟨h0, hil, optK.mk hg ?_⟩
      refine callK.eq cp ?_
      refine callK.S [] [some 1] [9, 0, 9] (.tup []) [onePO zeroSV, onePO (mrgL (l.take (i + 1))), some ⟨false, 12, 38, [stC b]⟩] ce rfl
        ⟨⟨rfl, rfl, rfl, els_same rfl (stC_blw [sumSV a b])⟩, trivial⟩ ⟨.pobj 1 0 0 0 rfl, ren_eq rfl (by simp [valC]), ren_eq rfl (by simp [valC]), trivial⟩ rfl rfl (ren_eq rfl (by simp))
        ⟨rfl, ⟨rfl, rfl, rfl, els_same rfl hbm⟩, rfl, trivial⟩ ?_
      exact loop_gc (i + 1) hm1 hm2 (weak_gc [] [some 0, some 1] rfl ⟨.pobj _ _ _ _ rfl, .pobj _ _ _ _ rfl, ren_eq rfl hbl, ren_eq rfl (by simp), ren_eq (int_eq hw) (by simp), trivial⟩
        ⟨⟨rfl, rfl, rfl, els_same rfl (stC_blw [zeroSV])⟩, ⟨rfl, rfl, rfl, els_same rfl hbm⟩, trivial⟩)
    · have hd : decide ((i : Int) < ((l.map stC).length : Int)) = false := decide_eq_false (by omega)
      have e : i = l.length := by omega
      have e2 : l.take i = l := by rw [e, List.take_length]
      refine joinK.direct ?_
      refine ⟨fun h => absurd (hd.symm.trans h) (by decide), fun _ => ?_⟩
      rw [e2]
      exact join_at () trivial ⟨rfl, rfl, trivial⟩ (.inl rfl)
  rintro ⟨⟩ -
  exact fin_eq (.agg (stC (mrgL l))) rfl rfl
theorem wide_self (a b : Int) : (a == a && (b == b && true)) = true := by simp
set_option maxHeartbeats 4000000 in
theorem sameL (v : SV) : FnC Try.prog 14 [.agg (stC v), .agg (stC v)] (· = .bool true) := by
  have c1 := alikeL v.k v.i v.f v.s
  have c2 := alikeL v.k' v.i' v.f' v.s'
  have e1 : (bif v.r == v.r then v.c == v.c else false) = true := by simp
  have e2 := wide_self (hiW v.x) (loW v.x)
  refine FnC.mk Try.func14 rfl rfl (Nat.le_of_ble_eq_true rfl) ?_ (by rintro _ rfl; simp) ?_
  · intro d hd
    simp at hd; subst hd; rw [blw_agg]; exact stC_blw [v] _ (by simp)
  refine guardK.spec ?_
  refine ⟨EqOk.mk (by kernel_rfl), ?_⟩
  refine callE.mk c1 ?_
  refine callE.mk c2 ?_
  refine fin_eq (.bool _) rfl (bool_eq ?_)
  show (bif (bif (bif (bif v.r == v.r then v.c == v.c else false) then (hiW v.x == hiW v.x && (loW v.x == loW v.x && true)) else false) then true else false) then true else false) = true
  rw [e1, e2]; rfl
end Go.Proofs.Ytaddmokllmdngaa
