/- The walk over pure values is sound: bodies. -/
import Derived.Test.YtaddmokllmdngaaPv8
set_option linter.unusedSimpArgs false
set_option linter.unusedVariables false
namespace Go.Pv
open Go Go.RowKit
variable {P : Program} {C : Ctx} {n : Nat} {h : Hp} {β : Nat → Bl} {w : World} {a : Act}

theorem inv_drop {σ tail : Objs} (hi : Inv C (σ ++ tail) h β w) (hk0 : C.k ≤ σ.length) (hb : ∀ po, some po ∈ σ → ∀ ds ∈ po.els, ∀ d ∈ ds, Blw σ.length d) :
    Inv C σ h (fun id => if id < σ.length then β id else .no) w := by
  have hcase : ∀ {id b sz N K t}, (if id < σ.length then β id else Bl.no) = .at b sz N K t → id < σ.length ∧ β id = .at b sz N K t := by
    intro id b sz N K t q
    by_cases h1 : id < σ.length
    · rw [if_pos h1] at q; exact ⟨h1, q⟩
    · rw [if_neg h1] at q; cases q
  have hobj : ∀ {id}, id < σ.length → obj (σ ++ tail) id = obj σ id := by
    intro id hlt
    unfold obj; rw [List.getElem?_append_left hlt]
  refine { os := hi.os, tape := hi.tape, output := hi.output, size := hi.size, view := hi.view, hle := hi.hle, hnew := hi.hnew, own := fun id b sz N K t q => hi.own _ _ _ _ _ _ (hcase q).2,
           unborn := fun id hge => if_neg (by omega), inj := fun id id' b _ _ _ _ _ _ _ _ q1 q2 => hi.inj _ _ _ _ _ _ _ _ _ _ _ (hcase q1).2 (hcase q2).2, live := ?_, objs := ?_, frame := hi.frame,
           gho := fun id hid => by simp only [if_pos (show id < σ.length by omega)]; exact hi.gho id hid,
           born := fun id hid => by simp only [if_pos hid]; exact hi.born id (by simp; omega) }
  · intro id po q
    have hlt := obj_lt q
    have e0 : (if id < σ.length then β id else Bl.no) = β id := if_pos hlt
    rcases hi.live id po ((hobj hlt).trans q) with ⟨b, K, hb⟩ | ⟨hb, hn⟩
    · exact .inl ⟨b, K, e0.trans hb⟩
    · exact .inr ⟨e0.trans hb, hn⟩
  · intro id b sz N K t q
    obtain ⟨hlt, q⟩ := hcase q
    obtain ⟨po, cs, g1, g2, g3, g4, g5, g6, g7, g8⟩ := hi.objs id b sz N K t q
    rw [hobj hlt] at g1
    refine ⟨po, cs, g1, g2, g3, g4, g5, ?_, g7, g8⟩
    intro i ds e1
    obtain ⟨k1, k2⟩ := g6 i ds e1
    refine ⟨k1, fun j d e2 => ?_⟩
    obtain ⟨u, k3, k4, k5⟩ := k2 j d e2
    have hmem : some po ∈ σ := by
      unfold obj at g1
      split at g1
      · rename_i po' hpo
        injection g1 with g1; subst g1
        exact List.mem_of_getElem? hpo
      · cases g1
    exact ⟨u, k3, k4, k5.blw (hb po hmem _ (List.mem_of_getElem? e1) _ (List.mem_of_getElem? e2)) (fun id hid => if_pos hid)⟩

theorem sim_weakG {st st' : PSt} (hs : Sim C n st a w) (hw : WeakG C.k st st') : Sim C n st' a w := by
  obtain ⟨hd, hn, h, β, hi, he⟩ := hs
  obtain ⟨F, ids, h0, h1, h2⟩ := hw
  obtain ⟨h', hle, hi'⟩ := inv_frz F st.σ h hi
  refine ⟨hd, hn, h', _, inv_ren hi' h0 h1, fun t => ?_⟩
  rcases h2 t with e | e
  · rw [e]; exact .junk _
  · exact ren_rep hi' e ((he t).mono hle (BLe.refl _))

theorem sim_weak {st st' : PSt} (hs : Sim C n st a w) (hw : Weak C.k st st') : Sim C n st' a w := by
  rcases hw with hw | hw
  case inr => exact sim_weakG hs hw
  obtain ⟨hd, hn, h, β, hi, he⟩ := hs
  obtain ⟨tail, h1, h2, h3⟩ := hw
  by_cases ht : tail = []
  · subst ht
    rw [List.append_nil] at h1
    refine ⟨hd, hn, h, β, h1 ▸ hi, fun t => ?_⟩
    rcases h2 t with e | ⟨e, _⟩
    · rw [e]; exact .junk _
    · rw [e]; exact he t
  · have h3 := h3.resolve_left ht
    refine ⟨hd, hn, h, _, inv_drop (h1 ▸ hi) h3.1 h3.2, fun t => ?_⟩
    rcases h2 t with e | ⟨e, hb⟩
    · rw [e]; exact .junk _
    · rw [e]; exact (he t).blw (hb.resolve_left ht) (fun id hid => if_pos hid)

theorem pwp_sound : ∀ (c : Code) (st : PSt) (K : Exit → PSt → Prop) (a : Act) (w : World) (Q : Exit → Act → World → Prop), pwp P n C.k c st K → Sim C n st a w →
    (∀ e st' a' w', Sim C n st' a' w' → K e st' → Q e a' w') → c.wp P Q a w := by
  intro c
  induction c with
  | skip => intro st K a w Q hk hs hq; exact wp_skip (hq _ _ _ _ hs hk)
  | region id ops draw =>
    intro st K a w Q hk hs hq
    unfold pwp at hk
    cases draw with
    | true =>
      simp only [cond_true] at hk
      unfold drawK at hk
      obtain ⟨M, h1, hk⟩ := hk
      rw [Bool.and_eq_true] at h1
      exact draw_sound h1.2 h1.1 hk hs fun st' a' w' hs' hk' => hq _ _ _ _ hs' hk'
    | false =>
      simp only [cond_false] at hk
      cases hgd : ops.toList.any (·.guard.isSome) with
      | true =>
        rw [hgd] at hk
        simp only [cond_true] at hk
        unfold guardK at hk
        rcases hk with hk | ⟨M, hk, hM⟩
        · exact guard_sound hk hs fun st' a' w' hs' hk' => hq _ _ _ _ hs' hk'
        · exact wp_region_list (pops_start hk hs fun st' a' w' hs' hk' => let ⟨st'', hw, hm⟩ := hk'; hq _ _ _ _ (sim_weak hs' hw) (hM _ hm))
      | false => rw [hgd] at hk; exact wp_region_list (pops_start hk hs fun st' a' w' hs' hk' => hq _ _ _ _ hs' hk')
  | seq x y ihx ihy =>
    intro st K a w Q hk hs hq
    unfold pwp at hk
    cases hc : hasCond x with
    | true =>
      rw [hc] at hk
      simp only [cond_true] at hk
      unfold joinK at hk
      obtain ⟨M, hk, hM⟩ := hk
      refine wp_seq (ihx st _ a w _ hk hs fun e st' a' w' hs' hk' => ?_)
      cases e with
      | normal => obtain ⟨st'', hw, hk'⟩ := hk'; exact ihy st'' K a' w' Q (hM _ hk') (sim_weak hs' hw) hq
      | exit id => exact hq _ _ _ _ hs' hk'
      | goto l => exact hq _ _ _ _ hs' hk'
      | ret => exact hq _ _ _ _ hs' hk'
      | panic ch => exact hq _ _ _ _ hs' hk'
      | outgrown => exact hq _ _ _ _ hs' hk'
    | false =>
    rw [hc] at hk
    simp only [cond_false] at hk
    refine wp_seq (ihx st _ a w _ hk hs fun e st' a' w' hs' hk' => ?_)
    cases e with
    | normal => exact ihy st' K a' w' Q hk' hs' hq
    | exit id => exact hq _ _ _ _ hs' hk'
    | goto l => exact hq _ _ _ _ hs' hk'
    | ret => exact hq _ _ _ _ hs' hk'
    | panic ch => exact hq _ _ _ _ hs' hk'
    | outgrown => exact hq _ _ _ _ hs' hk'
  | cond c x y ihx ihy =>
    intro st K a w Q hk hs hq
    have hs' := hs
    obtain ⟨hd, hn, h, β, hi, he⟩ := hs'
    unfold pwp condK at hk
    have hc := rep_ev he c
    split at hk
    · rename_i b hb
      rw [hb] at hc
      have hce : a.eval c = .bool b := rep_toV rfl hc
      cases b with
      | true => exact wp_cond_true hce (ihx st K a w Q (hk.1 rfl) hs hq)
      | false => exact wp_cond_false hce (ihy st K a w Q (hk.2 rfl) hs hq)
    · exact hk.elim
  | block id b ih =>
    intro st K a w Q hk hs hq
    unfold pwp at hk
    refine wp_block (ih st _ a w _ hk hs fun e st' a' w' hs' hk' => ?_)
    cases e with
    | normal => exact hq _ _ _ _ hs' hk'
    | exit id' =>
      simp only [Exit.inBlock]
      cases hb : Nat.beq id' id with
      | true =>
        simp only [hb, cond_true] at hk'
        rw [if_pos (Nat.eq_of_beq_eq_true hb)]; exact hq _ _ _ _ hs' hk'
      | false =>
        simp only [hb, cond_false] at hk'
        rw [if_neg (by rintro rfl; simp at hb)]; exact hq _ _ _ _ hs' hk'
    | goto l => exact hq _ _ _ _ hs' hk'
    | ret => exact hq _ _ _ _ hs' hk'
    | panic ch => exact hq _ _ _ _ hs' hk'
    | outgrown => exact hq _ _ _ _ hs' hk'
  | loop b ih =>
    intro st K a w Q hk hs hq
    unfold pwp loopK at hk
    obtain ⟨I, m, st0, hw0, hI, hround⟩ := hk
    refine wp_loop_ghost (fun m a w => ∃ st, I m st ∧ Sim C n st a w) m ⟨st0, hI, sim_weak hs hw0⟩ ?_
    rintro m a w ⟨st, hI, hs⟩
    refine ih st _ a w _ (hround m st hI) hs fun e st' a' w' hs' hk' => ?_
    cases e with
    | normal => obtain ⟨m', st'', hlt, hw', hI'⟩ := hk'; exact ⟨m', hlt, st'', hI', sim_weak hs' hw'⟩
    | exit id => exact hq _ _ _ _ hs' hk'
    | goto l => exact hq _ _ _ _ hs' hk'
    | ret => exact hq _ _ _ _ hs' hk'
    | panic ch => exact hq _ _ _ _ hs' hk'
    | outgrown => exact hq _ _ _ _ hs' hk'
  | exit id => intro st K a w Q hk hs hq; exact wp_exit (hq _ _ _ _ hs hk)
  | scope b ih =>
    intro st K a w Q hk hs hq
    unfold pwp at hk
    refine wp_scope_straight (ih st _ a w _ hk hs fun e st' a' w' hs' hk' => ?_)
    cases e with
    | goto l => exact hk'.elim
    | normal => exact hq _ _ _ _ hs' hk'
    | exit id => exact hq _ _ _ _ hs' hk'
    | ret => exact hq _ _ _ _ hs' hk'
    | panic ch => exact hq _ _ _ _ hs' hk'
    | outgrown => exact hq _ _ _ _ hs' hk'
  | label l => intro st K a w Q hk hs hq; exact wp_label (hq _ _ _ _ hs hk)
  | ret => intro st K a w Q hk hs hq; exact wp_ret (hq _ _ _ _ hs hk)
  | _ => intro st K a w Q hk hs hq; exact hk.elim

end Go.Pv
