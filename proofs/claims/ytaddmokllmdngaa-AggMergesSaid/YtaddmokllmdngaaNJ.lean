/- States put together: the program's ends (a least and a greatest value taken into a state). -/
import Derived.Test.YtaddmokllmdngaaNI
namespace Go.Proofs.Ytaddmokllmdngaa
open Go Go.Pv Go.RowKit
set_option linter.unusedSimpArgs false
set_option linter.unusedVariables false
set_option maxRecDepth 10000

def onePO (v : SV) : Option PO := some ⟨false, 12, 38, [stC v]⟩
def boxPO (k i : Int) (f : Nat) (s : ByteArray) : Option PO := some ⟨false, 4, 36, [valC k i f s]⟩
theorem three_po {a b : List DV} (k i k' i' : Int) (f f' : Nat) (s s' : ByteArray) (h : a = b) :
    [some (PO.mk false 12 38 [a]), boxPO k i f s, boxPO k' i' f' s'] = [some (PO.mk false 12 38 [b]), boxPO k i f s, boxPO k' i' f' s'] := by rw [h]
theorem one_el {a b : List DV} (h : a = b) : [a] = [b] := by rw [h]
theorem endsW (v : SV) (hv : v.F) (k i k' i' : Int) (f f' : Nat) (s s' : ByteArray) (hf : f < 18446744073709551616) (hf' : f' < 18446744073709551616) :
    FnS Try.prog 30 [.pobj 0 0 0, .agg (valC k i f s), .agg (valC k' i' f' s')] [onePO v] (fun d σ => d = .tup [] ∧ σ = [onePO ((v.lo k i f s).hi k' i' f' s')]) := by
  have c1 := mayW k i f s hf
  have c2 := cmpW k i v.k v.i f v.f s v.s hf hv.f
  have l1 := @lo_t v k i f s
  have l2 := @lo_f v k i f s
  have hv1 := lo_F hv k i s hf
  have c3 := mayW k' i' f' s' hf'
  have c4 := cmpW k' i' (v.lo k i f s).k' (v.lo k i f s).i' f' (v.lo k i f s).f' s' (v.lo k i f s).s' hf' hv1.f'
  have g1 := @hi_t (v.lo k i f s) k' i' f' s'
  have g2 := @hi_f (v.lo k i f s) k' i' f' s'
  have p0 := @tL0 k i f s v.k v.i v.f v.s
  have p1 := @tL1 k i f s v.k v.i v.f v.s
  have p2 := @tL2 k i f s v.k v.i v.f v.s
  have p3 := @tL3 k i f s v.k v.i v.f v.s
  generalize v.lo k i f s = u at *
  have q0 := @tG0 k' i' f' s' u.k' u.i' u.f' u.s'
  have q1 := @tG1 k' i' f' s' u.k' u.i' u.f' u.s'
  have q2 := @tG2 k' i' f' s' u.k' u.i' u.f' u.s'
  have q3 := @tG3 k' i' f' s' u.k' u.i' u.f' u.s'
  generalize u.hi k' i' f' s' = z at *
  refine FnS.mk Try.func30 rfl rfl (Nat.le_of_ble_eq_true rfl) ?_
  refine joinK.use [0, 5] (fun _ : Unit => [.pobj 0 0 0, .pobj 2 0 0]) (fun _ => [onePO u, boxPO k i f s, boxPO k' i' f' s']) (fun _ => True) ?_ ?_
  · refine drawK.mk (by kernel_rfl) ?_
    refine ⟨fun a1 => ?_, fun a1 => ?_⟩
    · refine callE.mk c1 ?_
      refine ⟨fun a2 => ?_, fun a2 => ?_⟩
      · refine ⟨fun a3 => ?_, fun a3 => ?_⟩
        · refine callE.mk c2 ?_
          refine ⟨fun a4 => ?_, fun a4 => ?_⟩
          · exact join_at () trivial ⟨rfl, rfl, trivial⟩ (.inl (three_po k i k' i' f f' s s' (l1 (p3 a1 a2 a3 a4))))
          · exact join_at () trivial ⟨rfl, rfl, trivial⟩ (.inl (three_po k i k' i' f f' s s' (l2 (p3 a1 a2 a3 a4))))
        · refine ⟨fun _ => ?_, fun h => absurd h (by simp)⟩
          exact join_at () trivial ⟨rfl, rfl, trivial⟩ (.inl (three_po k i k' i' f f' s s' (l1 (p2 a1 a2 a3))))
      · refine ⟨fun h => absurd h (by simp), fun _ => ?_⟩
        exact join_at () trivial ⟨rfl, rfl, trivial⟩ (.inl (three_po k i k' i' f f' s s' (l2 (p1 a1 a2))))
    · refine ⟨fun h => absurd h (by simp), fun _ => ?_⟩
      exact join_at () trivial ⟨rfl, rfl, trivial⟩ (.inl (three_po k i k' i' f f' s s' (l2 (p0 a1))))
  rintro ⟨⟩ -
  refine drawK.mk (by kernel_rfl) ?_
  refine ⟨fun a1 => ?_, fun a1 => ?_⟩
  · refine callE.mk c3 ?_
    refine ⟨fun a2 => ?_, fun a2 => ?_⟩
    · refine ⟨fun a3 => ?_, fun a3 => ?_⟩
      · refine callE.mk c4 ?_
        refine ⟨fun a4 => ?_, fun a4 => ?_⟩
        · exact finS_gc [] [some 0] rfl ⟨⟨rfl, rfl, rfl, els_same (one_el (g1 (q3 a1 a2 a3 a4))) (stC_blw [z])⟩, trivial⟩ (ren_eq rfl (by simp))
        · exact finS_gc [] [some 0] rfl ⟨⟨rfl, rfl, rfl, els_same (one_el (g2 (q3 a1 a2 a3 a4))) (stC_blw [z])⟩, trivial⟩ (ren_eq rfl (by simp))
      · refine ⟨fun _ => ?_, fun h => absurd h (by simp)⟩
        exact finS_gc [] [some 0] rfl ⟨⟨rfl, rfl, rfl, els_same (one_el (g1 (q2 a1 a2 a3))) (stC_blw [z])⟩, trivial⟩ (ren_eq rfl (by simp))
    · refine ⟨fun h => absurd h (by simp), fun _ => ?_⟩
      exact finS_gc [] [some 0] rfl ⟨⟨rfl, rfl, rfl, els_same (one_el (g2 (q1 a1 a2))) (stC_blw [z])⟩, trivial⟩ (ren_eq rfl (by simp))
  · refine ⟨fun h => absurd h (by simp), fun _ => ?_⟩
    exact finS_gc [] [some 0] rfl ⟨⟨rfl, rfl, rfl, els_same (one_el (g2 (q0 a1))) (stC_blw [z])⟩, trivial⟩ (ren_eq rfl (by simp))
end Go.Proofs.Ytaddmokllmdngaa
