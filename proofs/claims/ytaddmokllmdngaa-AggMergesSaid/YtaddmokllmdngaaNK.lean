/- States put together: the reference's Merge. -/
import Derived.Test.YtaddmokllmdngaaNJ
namespace Go.Proofs.Ytaddmokllmdngaa
open Go Go.Pv Go.RowKit
set_option linter.unusedSimpArgs false
set_option linter.unusedVariables false
set_option maxRecDepth 10000

def rOne (v : SV) : Option PO := some ⟨false, 12, 42, [stC v]⟩
theorem two_po {a b : List DV} (h : a = b) : [rOne zeroSV, some (PO.mk false 12 42 [a])] = [rOne zeroSV, some (PO.mk false 12 42 [b])] := by rw [h]
theorem zero_st : stC zeroSV = [.int .i64 0, .int .i64 0, .int .i64 0, .int .u64 0, .int .i64 0, .int .i64 0, .flt .f64 0, .str .empty, .int .i64 0, .int .i64 0, .flt .f64 0, .str .empty] := rfl
theorem mergeR (l : List SV) (hl : l.length ≤ maxLen) (hF : ∀ b ∈ l, b.F) : FnC Try.prog 13 [.list (l.map stC)] (· = .agg (stC (mrgL l))) := by
  have hbl : Blw 0 (.list (l.map stC)) := by rw [blw_list]; exact stC_blw l
  refine FnC.mk Try.func13 rfl rfl (Nat.le_of_ble_eq_true rfl) ?_ ?_ ?_
  · intro d hd; simp at hd; subst hd; exact hbl
  · rintro _ rfl; rw [blw_agg]; exact stC_blw [mrgL l] _ (by simp)
  refine joinK.use [2, 3] (fun _ : Unit => [.pobj 0 0 0, .pobj 1 0 0]) (fun _ => [rOne zeroSV, rOne (mrgL l)]) (fun _ => True) ?_ ?_
  · refine loopK.use [0, 2, 3, 4] (fun i : Nat => [.list (l.map stC), .pobj 0 0 0, .pobj 1 0 0, .int .i64 i]) (fun i => [rOne zeroSV, rOne (mrgL (l.take i))]) (fun i => i ≤ l.length) (fun i => l.length - i) 0 (Nat.zero_le _) ⟨rfl, rfl, rfl, rfl, trivial⟩ (.inl rfl) ?_
    intro i hi
    have hlen : (l.map stC).length = l.length := by simp
    by_cases h : i < l.length
    · have hd : decide ((i : Int) < ((l.map stC).length : Int)) = true := decide_eq_true (by omega)
      have hil : (i : Int) < ((l.map stC).length : Int) := by omega
      have hg : (l.map stC)[(i : Int).toNat]? = some (stC l[i]) := by
        rw [show (i : Int).toNat = i from by omega, List.getElem?_map, List.getElem?_eq_getElem h]; rfl
      have hb : (l[i]).F := hF _ (List.getElem_mem h)
      have hnx := mrgL_take (List.getElem?_eq_getElem h)
      have ha := mrgL_takeF hF i
      generalize l[i] = b at *
      generalize mrgL (l.take i) = a at *
      have hw : IntKind.i64.wrap ((i : Int) + 1) = ((i + 1 : Nat) : Int) := by rw [IntKind.wrap_i64]; unfold maxLen at hl; omega
      have hm1 : i + 1 ≤ l.length := by omega
      have hm2 : l.length - (i + 1) < l.length - i := by omega
      have h0 : (0 : Int) ≤ i := by omega
      have cp := plus22 a.x b.x
      have hu : (sumSV a b).F := ⟨ha.f, ha.f'⟩
      have ct := thereR b.k b.i b.f b.s hb.f
      have cc := cmpR b.k b.i a.k a.i b.f a.f b.s a.s hb.f ha.f
      have l1 := @lo_t (sumSV a b) b.k b.i b.f b.s
      have l2 := @lo_f (sumSV a b) b.k b.i b.f b.s
      have p0 := @uL0 b.k b.i b.f b.s a.k a.i a.f a.s
      have p2 := @uL2 b.k b.i b.f b.s a.k a.i a.f a.s
      have p3 := @uL3 b.k b.i b.f b.s a.k a.i a.f a.s
      have hu1 := lo_F hu b.k b.i b.s hb.f
      have hmg : (mrg a b) = ((sumSV a b).lo b.k b.i b.f b.s).hi b.k' b.i' b.f' b.s' := rfl
      rw [hmg] at hnx
      generalize (sumSV a b).lo b.k b.i b.f b.s = u at *
      have ct2 := thereR b.k' b.i' b.f' b.s' hb.f'
      have cc2 := cmpR b.k' b.i' u.k' u.i' b.f' u.f' b.s' u.s' hb.f' hu1.f'
      have g1 := @hi_t u b.k' b.i' b.f' b.s'
      have g2 := @hi_f u b.k' b.i' b.f' b.s'
      have q0 := @uG0 b.k' b.i' b.f' b.s' u.k' u.i' u.f' u.s'
      have q2 := @uG2 b.k' b.i' b.f' b.s' u.k' u.i' u.f' u.s'
      have q3 := @uG3 b.k' b.i' b.f' b.s' u.k' u.i' u.f' u.s'
      rw [← hnx] at g1 g2
      clear hnx hmg
      refine joinK.direct ?_
      refine ⟨fun _ => join_go ?_, fun h => absurd (hd.symm.trans h) (by decide)⟩
      refine joinK.use [0, 2, 3, 4] (fun _ : Unit => [.list (l.map stC), .pobj 0 0 0, .pobj 1 0 0, .int .i64 i]) (fun _ => [rOne zeroSV, rOne (mrgL (l.take (i + 1)))]) (fun _ => True) ?_ ?_
      · refine drawK.mk (by kernel_rfl) ?_
        refine ⟨h0, hil, optK.mk hg ?_⟩
        refine drawK.mk (by kernel_rfl) ?_
        refine ⟨h0, hil, optK.mk hg ?_⟩
        refine drawK.mk (by kernel_rfl) ?_
        refine ⟨h0, hil, optK.mk hg ?_⟩
        refine ⟨h0, hil, optK.mk hg ?_⟩
        refine callE.mk cp ?_
        refine joinK.use [0, 2, 3, 4] (fun _ : Unit => [.list (l.map stC), .pobj 0 0 0, .pobj 1 0 0, .int .i64 i]) (fun _ => [rOne zeroSV, rOne u]) (fun _ => True) ?_ ?_
        · refine drawK.mk (by kernel_rfl) ?_
          refine ⟨h0, hil, optK.mk hg ?_⟩
          refine callE.mk ct ?_
          refine ⟨fun a1 => ?_, fun a1 => ?_⟩
          · refine ⟨fun a2 => ?_, fun a2 => ?_⟩
            · refine ⟨h0, hil, optK.mk hg ?_⟩
              refine callE.mk cc ?_
              refine ⟨fun a3 => ?_, fun a3 => ?_⟩
              · refine ⟨h0, hil, optK.mk hg ?_⟩
                exact join_at () trivial ⟨rfl, rfl, rfl, rfl, trivial⟩ (.inl (two_po (l1 (p3 a1 a2 a3))))
              · exact join_at () trivial ⟨rfl, rfl, rfl, rfl, trivial⟩ (.inl (two_po (l2 (p3 a1 a2 a3))))
            · refine ⟨fun _ => ?_, fun h => absurd h (by simp)⟩
              refine ⟨h0, hil, optK.mk hg ?_⟩
              exact join_at () trivial ⟨rfl, rfl, rfl, rfl, trivial⟩ (.inl (two_po (l1 (p2 a1 a2))))
          · refine ⟨fun h => absurd h (by simp), fun _ => ?_⟩
            exact join_at () trivial ⟨rfl, rfl, rfl, rfl, trivial⟩ (.inl (two_po (l2 (p0 a1))))
        rintro ⟨⟩ -
        refine drawK.mk (by kernel_rfl) ?_
        refine ⟨h0, hil, optK.mk hg ?_⟩
        refine callE.mk ct2 ?_
        refine ⟨fun a1 => ?_, fun a1 => ?_⟩
        · refine ⟨fun a2 => ?_, fun a2 => ?_⟩
          · refine ⟨h0, hil, optK.mk hg ?_⟩
            refine callE.mk cc2 ?_
            refine ⟨fun a3 => ?_, fun a3 => ?_⟩
            · refine ⟨h0, hil, optK.mk hg ?_⟩
              exact join_at () trivial ⟨rfl, rfl, rfl, rfl, trivial⟩ (.inl (two_po (g1 (q3 a1 a2 a3))))
            · exact join_at () trivial ⟨rfl, rfl, rfl, rfl, trivial⟩ (.inl (two_po (g2 (q3 a1 a2 a3))))
          · refine ⟨fun _ => ?_, fun h => absurd h (by simp)⟩
            refine ⟨h0, hil, optK.mk hg ?_⟩
            exact join_at () trivial ⟨rfl, rfl, rfl, rfl, trivial⟩ (.inl (two_po (g1 (q2 a1 a2))))
        · refine ⟨fun h => absurd h (by simp), fun _ => ?_⟩
          exact join_at () trivial ⟨rfl, rfl, rfl, rfl, trivial⟩ (.inl (two_po (g2 (q0 a1))))
      rintro ⟨⟩ -
      exact loop_next (i + 1) hm1 hm2 ⟨rfl, rfl, rfl, int_eq hw, trivial⟩ (.inl rfl)
    · have hd : decide ((i : Int) < ((l.map stC).length : Int)) = false := decide_eq_false (by omega)
      have e : i = l.length := by omega
      have e2 : l.take i = l := by rw [e, List.take_length]
      refine joinK.direct ?_
      refine ⟨fun h => absurd (hd.symm.trans h) (by decide), fun _ => ?_⟩
      rw [e2]
      exact join_at () trivial ⟨rfl, rfl, trivial⟩ (.inl rfl)
  rintro ⟨⟩ -
  exact fin_eq (.agg _) rfl rfl
end Go.Proofs.Ytaddmokllmdngaa
