/- The walk over pure values is sound: bodies. -/
import Derived.Test.YtckcagmlippneaaPv8
set_option linter.unusedSimpArgs false
set_option linter.unusedVariables false
namespace Go.Pv
open Go Go.RowKit
variable {P : Program} {C : Ctx} {n : Nat} {h : Hp} {β : Nat → Bl} {w : World} {a : Act}

theorem inv_drop {σ tail : Objs} (hi : Inv C (σ ++ tail) h β w) (hb : ∀ po, some po ∈ σ → ∀ ds ∈ po.els, ∀ d ∈ ds, Blw σ.length d) :
    Inv C σ h (fun id => if id < σ.length then β id else .no) w := by
  have hcase : ∀ {id b sz N K t}, (if id < σ.length then β id else Bl.no) = .at b sz N K t → id < σ.length ∧ β id = .at b sz N K t := by
    intro id b sz N K t q
    by_cases h1 : id < σ.length
    · rw [if_pos h1] at q; exact ⟨h1, q⟩
    · rw [if_neg h1] at q; cases q
  have hobj : ∀ {id}, id < σ.length → obj (σ ++ tail) id = obj σ id := by
    intro id hlt
    unfold obj; rw [List.getElem?_append_left hlt]
  refine { os := hi.os, tape := hi.tape, output := hi.output, size := hi.size, view := hi.view, hle := hi.hle, hnew := hi.hnew, own := fun id b sz N K t q => hi.own _ _ _ _ _ _ (hcase q).2,
           unborn := fun id hge => if_neg (by omega), inj := fun id id' b _ _ _ _ _ _ _ _ q1 q2 => hi.inj _ _ _ _ _ _ _ _ _ _ _ (hcase q1).2 (hcase q2).2, live := ?_, objs := ?_, frame := hi.frame }
  · intro id po q
    have hlt := obj_lt q
    have e0 : (if id < σ.length then β id else Bl.no) = β id := if_pos hlt
    rcases hi.live id po ((hobj hlt).trans q) with ⟨b, K, hb⟩ | ⟨hb, hn⟩
    · exact .inl ⟨b, K, e0.trans hb⟩
    · exact .inr ⟨e0.trans hb, hn⟩
  · intro id b sz N K t q
    obtain ⟨hlt, q⟩ := hcase q
    obtain ⟨po, cs, g1, g2, g3, g4, g5, g6, g7, g8⟩ := hi.objs id b sz N K t q
    rw [hobj hlt] at g1
    refine ⟨po, cs, g1, g2, g3, g4, g5, ?_, g7, g8⟩
    intro i ds e1
    obtain ⟨k1, k2⟩ := g6 i ds e1
    refine ⟨k1, fun j d e2 => ?_⟩
    obtain ⟨u, k3, k4, k5⟩ := k2 j d e2
    have hmem : some po ∈ σ := by
      unfold obj at g1
      split at g1
      · rename_i po' hpo
        injection g1 with g1; subst g1
        exact List.mem_of_getElem? hpo
      · cases g1
    exact ⟨u, k3, k4, k5.blw (hb po hmem _ (List.mem_of_getElem? e1) _ (List.mem_of_getElem? e2)) (fun id hid => if_pos hid)⟩

open Classical in
/-- Where the new objects lie. -/
noncomputable def renB (ids : List (Option Nat)) (σ' : Objs) (β : Nat → Bl) : Nat → Bl := fun j =>
  match ids[j]? with
  | some (some i) => if (obj σ' j).isSome then β i else .dead
  | some none => if (obj σ' j).isSome then .nil else .dead
  | none => .no

theorem ren_rep {σ σ' : Objs} (hi : Inv C σ h β w) {ids : List (Option Nat)} {d d' : DV} (hr : Ren (fobj σ) ids d d') : ∀ {v : Value}, Rep h β v d → Rep h (renB ids σ' β) v d' := by
  induction hr with
  | junk d => intro v _; exact .junk v
  | same d hb => intro v r; exact r.blw hb (fun id hid => absurd hid (by omega))
  | snap d d' hs => intro v r; exact (rep_snapF hi hs r).mono (HLe.refl _) (fun id => .inr (.inl rfl))
  | ref i j off len hj =>
    intro v r
    have hB : renB ids σ' β j = if (obj σ' j).isSome then β i else .dead := by unfold renB; rw [hj]
    by_cases ho : (obj σ' j).isSome
    · rw [if_pos ho] at hB
      cases r with
      | refAt _ _ _ cap o b sz N K t hb h1 h2 h3 => exact .refAt _ _ _ _ _ _ _ _ _ _ (hB.trans hb) h1 h2 h3
      | refNil _ hb => exact .refNil _ (hB.trans hb)
      | refDead _ _ _ _ hb => exact .refDead _ _ _ _ (hB.trans hb)
    · rw [if_neg ho] at hB; exact .refDead _ _ _ _ hB
  | nil j hj =>
    intro v r
    have hB : renB ids σ' β j = if (obj σ' j).isSome then .nil else .dead := by unfold renB; rw [hj]
    by_cases ho : (obj σ' j).isSome
    · rw [if_pos ho] at hB
      cases r with
      | nils => exact .refNil _ hB
    · rw [if_neg ho] at hB; exact .refDead _ _ _ _ hB
  | pobj i j x y hj =>
    intro v r
    have hB : renB ids σ' β j = if (obj σ' j).isSome then β i else .dead := by unfold renB; rw [hj]
    by_cases ho : (obj σ' j).isSome
    · rw [if_pos ho] at hB
      cases r with
      | pobjAt _ _ _ b sz N K t hb => exact .pobjAt _ _ _ _ _ _ _ _ (hB.trans hb)
      | pobjDead _ _ _ _ hb => exact .pobjDead _ _ _ _ (hB.trans hb)
    · rw [if_neg ho] at hB; exact .pobjDead _ _ _ _ hB
  | agg cs ds hl hs ih =>
    intro v r
    cases r with
    | agg vs _ hl' hr => 
      refine .agg vs ds (hl'.trans hl) fun k v d e1 e2 => ?_
      have hk : k < cs.length := by have := (List.getElem?_eq_some_iff.1 e2).1; omega
      exact ih k _ d (List.getElem?_eq_getElem hk) e2 (hr k v _ e1 (List.getElem?_eq_getElem hk))
  | tup cs ds hl hs ih =>
    intro v r
    cases r with
    | tup vs _ hl' hr => 
      refine .tup vs ds (hl'.trans hl) fun k v d e1 e2 => ?_
      have hk : k < cs.length := by have := (List.getElem?_eq_some_iff.1 e2).1; omega
      exact ih k _ d (List.getElem?_eq_getElem hk) e2 (hr k v _ e1 (List.getElem?_eq_getElem hk))
  | iface t x d hx ih =>
    intro v r
    cases r with
    | iface _ v _ r => exact .iface t v d (ih r)

theorem renB_at {ids : List (Option Nat)} {σ' : Objs} {j b sz N K : Nat} {t : TypeId} (q : renB ids σ' β j = .at b sz N K t) : ∃ i, ids[j]? = some (some i) ∧ β i = .at b sz N K t ∧ (obj σ' j).isSome := by
  unfold renB at q
  split at q
  · rename_i i hj
    by_cases ho : (obj σ' j).isSome
    · rw [if_pos ho] at q; exact ⟨i, hj, q, ho⟩
    · rw [if_neg ho] at q; cases q
  · by_cases ho : (obj σ' j).isSome
    · rw [if_pos ho] at q; cases q
    · rw [if_neg ho] at q; cases q
  · cases q

theorem inv_ren {σ σ' : Objs} (hi : Inv C σ h β w) {ids : List (Option Nat)} (hr : RenOs (fobj σ) ids σ σ') : Inv C σ' h (renB ids σ' β) w := by
  obtain ⟨hlen, hinj, hobj⟩ := hr
  refine { os := hi.os, tape := hi.tape, output := hi.output, size := hi.size, view := hi.view, hle := hi.hle, hnew := hi.hnew, own := ?_, unborn := ?_, inj := ?_, live := ?_, objs := ?_, frame := hi.frame }
  · intro j b sz N K t q
    obtain ⟨i, _, hb, _⟩ := renB_at q
    exact hi.own _ _ _ _ _ _ hb
  · intro j hge
    unfold renB; rw [List.getElem?_eq_none (by omega)]
  · intro j j' b sz N K t sz' N' K' t' q q'
    obtain ⟨i, h1, hb, _⟩ := renB_at q
    obtain ⟨i', h1', hb', _⟩ := renB_at q'
    have := hi.inj _ _ _ _ _ _ _ _ _ _ _ hb hb'
    subst this
    exact hinj _ _ _ h1 h1'
  · intro j po' ho
    have hs : (obj σ' j).isSome := by rw [ho]; rfl
    rcases hobj j po' ho with ⟨i, po, h1, h2, hf, hz, hty, hl, hel⟩ | ⟨h1, h2⟩
    · have hB : renB ids σ' β j = β i := by unfold renB; rw [h1]; exact if_pos hs
      rcases hi.live i po h2 with ⟨b, K, hb⟩ | ⟨hb, hn⟩
      · exact .inl ⟨b, K, by rw [hB, hb, hz, hty, hl]⟩
      · refine .inr ⟨by rw [hB, hb], ?_⟩
        rw [hn] at hl; exact List.length_eq_zero_iff.1 hl
    · have hB : renB ids σ' β j = .nil := by unfold renB; rw [h1]; exact if_pos hs
      exact .inr ⟨hB, h2⟩
  · intro j b sz N K t q
    obtain ⟨i, h1, hb, hs⟩ := renB_at q
    obtain ⟨po', ho⟩ := Option.isSome_iff_exists.1 hs
    rcases hobj j po' ho with ⟨i', po, h1', h2, hf, hz, hty, hl, hel⟩ | ⟨h1', _⟩
    · rw [h1] at h1'; injection h1' with h1'; injection h1' with h1'; subst h1'
      obtain ⟨po2, cs, g1, g2, g3, g4, g5, g6, g7, g8⟩ := hi.objs i b sz N K t hb
      rw [h2] at g1; injection g1 with g1; subst g1
      refine ⟨po', cs, ho, g2, g3, g4, g5, ?_, (fun e => g7 (hf ▸ e)), (fun e => g8 (hf ▸ e))⟩
      intro k ds e1
      have hk : k < po.els.length := by have := (List.getElem?_eq_some_iff.1 e1).1; omega
      obtain ⟨k1, k2⟩ := g6 k _ (List.getElem?_eq_getElem hk)
      obtain ⟨m1, m2⟩ := hel k _ ds (List.getElem?_eq_getElem hk) e1
      refine ⟨m1.trans k1, fun y d e2 => ?_⟩
      have hy : y < po.els[k].length := by have := (List.getElem?_eq_some_iff.1 e2).1; omega
      obtain ⟨u, k3, k4, k5⟩ := k2 y _ (List.getElem?_eq_getElem hy)
      exact ⟨u, k3, k4, ren_rep hi (m2 y _ d (List.getElem?_eq_getElem hy) e2) k5⟩
    · rw [h1] at h1'; cases h1'

theorem sim_weakG {st st' : PSt} (hs : Sim C n st a w) (hw : WeakG st st') : Sim C n st' a w := by
  obtain ⟨hd, hn, h, β, hi, he⟩ := hs
  obtain ⟨F, ids, h1, h2⟩ := hw
  obtain ⟨h', hle, hi'⟩ := inv_frz F st.σ h hi
  refine ⟨hd, hn, h', _, inv_ren hi' h1, fun t => ?_⟩
  rcases h2 t with e | e
  · rw [e]; exact .junk _
  · exact ren_rep hi' e ((he t).mono hle (BLe.refl _))

theorem sim_weak {st st' : PSt} (hs : Sim C n st a w) (hw : Weak st st') : Sim C n st' a w := by
  rcases hw with hw | hw
  case inr => exact sim_weakG hs hw
  obtain ⟨hd, hn, h, β, hi, he⟩ := hs
  obtain ⟨tail, h1, h2, h3⟩ := hw
  by_cases ht : tail = []
  · subst ht
    rw [List.append_nil] at h1
    refine ⟨hd, hn, h, β, h1 ▸ hi, fun t => ?_⟩
    rcases h2 t with e | ⟨e, _⟩
    · rw [e]; exact .junk _
    · rw [e]; exact he t
  · have h3 := h3.resolve_left ht
    refine ⟨hd, hn, h, _, inv_drop (h1 ▸ hi) h3, fun t => ?_⟩
    rcases h2 t with e | ⟨e, hb⟩
    · rw [e]; exact .junk _
    · rw [e]; exact (he t).blw (hb.resolve_left ht) (fun id hid => if_pos hid)

theorem pwp_sound : ∀ (c : Code) (st : PSt) (K : Exit → PSt → Prop) (a : Act) (w : World) (Q : Exit → Act → World → Prop), pwp P n c st K → Sim C n st a w →
    (∀ e st' a' w', Sim C n st' a' w' → K e st' → Q e a' w') → c.wp P Q a w := by
  intro c
  induction c with
  | skip => intro st K a w Q hk hs hq; exact wp_skip (hq _ _ _ _ hs hk)
  | region id ops draw =>
    intro st K a w Q hk hs hq
    unfold pwp at hk
    cases draw with
    | true =>
      simp only [cond_true] at hk
      unfold drawK at hk
      obtain ⟨h1, hk⟩ := hk
      rw [Bool.and_eq_true] at h1
      exact draw_sound h1.2 h1.1 hk hs fun st' a' w' hs' hk' => hq _ _ _ _ hs' hk'
    | false =>
      simp only [cond_false] at hk
      cases hgd : ops.toList.any (·.guard.isSome) with
      | true =>
        rw [hgd] at hk
        simp only [cond_true] at hk
        unfold guardK at hk
        rcases hk with hk | ⟨M, hk, hM⟩
        · exact guard_sound hk hs fun st' a' w' hs' hk' => hq _ _ _ _ hs' hk'
        · exact wp_region_list (pops_start hk hs fun st' a' w' hs' hk' => let ⟨st'', hw, hm⟩ := hk'; hq _ _ _ _ (sim_weak hs' hw) (hM _ hm))
      | false => rw [hgd] at hk; exact wp_region_list (pops_start hk hs fun st' a' w' hs' hk' => hq _ _ _ _ hs' hk')
  | seq x y ihx ihy =>
    intro st K a w Q hk hs hq
    unfold pwp at hk
    cases hc : hasCond x with
    | true =>
      rw [hc] at hk
      simp only [cond_true] at hk
      unfold joinK at hk
      obtain ⟨M, hk, hM⟩ := hk
      refine wp_seq (ihx st _ a w _ hk hs fun e st' a' w' hs' hk' => ?_)
      cases e with
      | normal => obtain ⟨st'', hw, hk'⟩ := hk'; exact ihy st'' K a' w' Q (hM _ hk') (sim_weak hs' hw) hq
      | exit id => exact hq _ _ _ _ hs' hk'
      | goto l => exact hq _ _ _ _ hs' hk'
      | ret => exact hq _ _ _ _ hs' hk'
      | panic ch => exact hq _ _ _ _ hs' hk'
      | outgrown => exact hq _ _ _ _ hs' hk'
    | false =>
    rw [hc] at hk
    simp only [cond_false] at hk
    refine wp_seq (ihx st _ a w _ hk hs fun e st' a' w' hs' hk' => ?_)
    cases e with
    | normal => exact ihy st' K a' w' Q hk' hs' hq
    | exit id => exact hq _ _ _ _ hs' hk'
    | goto l => exact hq _ _ _ _ hs' hk'
    | ret => exact hq _ _ _ _ hs' hk'
    | panic ch => exact hq _ _ _ _ hs' hk'
    | outgrown => exact hq _ _ _ _ hs' hk'
  | cond c x y ihx ihy =>
    intro st K a w Q hk hs hq
    have hs' := hs
    obtain ⟨hd, hn, h, β, hi, he⟩ := hs'
    unfold pwp condK at hk
    have hc := rep_ev he c
    split at hk
    · rename_i b hb
      rw [hb] at hc
      have hce : a.eval c = .bool b := rep_toV rfl hc
      cases b with
      | true => exact wp_cond_true hce (ihx st K a w Q (hk.1 rfl) hs hq)
      | false => exact wp_cond_false hce (ihy st K a w Q (hk.2 rfl) hs hq)
    · exact hk.elim
  | block id b ih =>
    intro st K a w Q hk hs hq
    unfold pwp at hk
    refine wp_block (ih st _ a w _ hk hs fun e st' a' w' hs' hk' => ?_)
    cases e with
    | normal => exact hq _ _ _ _ hs' hk'
    | exit id' =>
      simp only [Exit.inBlock]
      cases hb : Nat.beq id' id with
      | true =>
        simp only [hb, cond_true] at hk'
        rw [if_pos (Nat.eq_of_beq_eq_true hb)]; exact hq _ _ _ _ hs' hk'
      | false =>
        simp only [hb, cond_false] at hk'
        rw [if_neg (by rintro rfl; simp at hb)]; exact hq _ _ _ _ hs' hk'
    | goto l => exact hq _ _ _ _ hs' hk'
    | ret => exact hq _ _ _ _ hs' hk'
    | panic ch => exact hq _ _ _ _ hs' hk'
    | outgrown => exact hq _ _ _ _ hs' hk'
  | loop b ih =>
    intro st K a w Q hk hs hq
    unfold pwp loopK at hk
    obtain ⟨I, m, st0, hw0, hI, hround⟩ := hk
    refine wp_loop_ghost (fun m a w => ∃ st, I m st ∧ Sim C n st a w) m ⟨st0, hI, sim_weak hs hw0⟩ ?_
    rintro m a w ⟨st, hI, hs⟩
    refine ih st _ a w _ (hround m st hI) hs fun e st' a' w' hs' hk' => ?_
    cases e with
    | normal => obtain ⟨m', st'', hlt, hw', hI'⟩ := hk'; exact ⟨m', hlt, st'', hI', sim_weak hs' hw'⟩
    | exit id => exact hq _ _ _ _ hs' hk'
    | goto l => exact hq _ _ _ _ hs' hk'
    | ret => exact hq _ _ _ _ hs' hk'
    | panic ch => exact hq _ _ _ _ hs' hk'
    | outgrown => exact hq _ _ _ _ hs' hk'
  | exit id => intro st K a w Q hk hs hq; exact wp_exit (hq _ _ _ _ hs hk)
  | scope b ih =>
    intro st K a w Q hk hs hq
    unfold pwp at hk
    refine wp_scope_straight (ih st _ a w _ hk hs fun e st' a' w' hs' hk' => ?_)
    cases e with
    | goto l => exact hk'.elim
    | normal => exact hq _ _ _ _ hs' hk'
    | exit id => exact hq _ _ _ _ hs' hk'
    | ret => exact hq _ _ _ _ hs' hk'
    | panic ch => exact hq _ _ _ _ hs' hk'
    | outgrown => exact hq _ _ _ _ hs' hk'
  | label l => intro st K a w Q hk hs hq; exact wp_label (hq _ _ _ _ hs hk)
  | ret => intro st K a w Q hk hs hq; exact wp_ret (hq _ _ _ _ hs hk)
  | _ => intro st K a w Q hk hs hq; exact hk.elim

end Go.Pv
