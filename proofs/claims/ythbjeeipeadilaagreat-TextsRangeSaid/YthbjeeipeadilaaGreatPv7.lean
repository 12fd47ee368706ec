/- The walk over pure values is sound: bodies. -/
import Derived.Test.YthbjeeipeadilaaGreatPv8
import Derived.RangeFuncOwn
import Derived.RangeFuncRecord
set_option linter.unusedSimpArgs false
set_option linter.unusedVariables false
namespace Go.Pv
open Go Go.RowKit
variable {P : Program} {C : Ctx} {n : Nat} {h : Hp} {β : Nat → Bl} {w : World} {a : Act}

theorem inv_drop {σ tail : Objs} (hi : Inv C (σ ++ tail) h β w) (hk0 : C.k ≤ σ.length) (hb : ∀ po, some po ∈ σ → ∀ ds ∈ po.els, ∀ d ∈ ds, Blw σ.length d) :
    Inv C σ h (fun id => if id < σ.length then β id else .no) w := by
  have hcase : ∀ {id b sz N K t}, (if id < σ.length then β id else Bl.no) = .at b sz N K t → id < σ.length ∧ β id = .at b sz N K t := by
    intro id b sz N K t q
    by_cases h1 : id < σ.length
    · rw [if_pos h1] at q; exact ⟨h1, q⟩
    · rw [if_neg h1] at q; cases q
  have hobj : ∀ {id}, id < σ.length → obj (σ ++ tail) id = obj σ id := by
    intro id hlt
    unfold obj; rw [List.getElem?_append_left hlt]
  refine { os := hi.os, tape := hi.tape, output := hi.output, size := hi.size, view := hi.view, hle := hi.hle, hnew := hi.hnew, own := fun id b sz N K t q => hi.own _ _ _ _ _ _ (hcase q).2,
           unborn := fun id hge => if_neg (by omega), inj := fun id id' b _ _ _ _ _ _ _ _ q1 q2 => hi.inj _ _ _ _ _ _ _ _ _ _ _ (hcase q1).2 (hcase q2).2, live := ?_, objs := ?_, frame := hi.frame,
           gho := fun id hid => by simp only [if_pos (show id < σ.length by omega)]; exact hi.gho id hid,
           born := fun id hid => by simp only [if_pos hid]; exact hi.born id (by simp; omega) }
  · intro id po q
    have hlt := obj_lt q
    have e0 : (if id < σ.length then β id else Bl.no) = β id := if_pos hlt
    rcases hi.live id po ((hobj hlt).trans q) with ⟨b, K, hb⟩ | ⟨hb, hn⟩
    · exact .inl ⟨b, K, e0.trans hb⟩
    · exact .inr ⟨e0.trans hb, hn⟩
  · intro id b sz N K t q
    obtain ⟨hlt, q⟩ := hcase q
    obtain ⟨po, cs, g1, g2, g3, g4, g5, g6, g7, g8⟩ := hi.objs id b sz N K t q
    rw [hobj hlt] at g1
    refine ⟨po, cs, g1, g2, g3, g4, g5, ?_, g7, g8⟩
    intro i ds e1
    obtain ⟨k1, k2⟩ := g6 i ds e1
    refine ⟨k1, fun j d e2 => ?_⟩
    obtain ⟨u, k3, k4, k5⟩ := k2 j d e2
    have hmem : some po ∈ σ := by
      unfold obj at g1
      split at g1
      · rename_i po' hpo
        injection g1 with g1; subst g1
        exact List.mem_of_getElem? hpo
      · cases g1
    exact ⟨u, k3, k4, k5.blw (hb po hmem _ (List.mem_of_getElem? e1) _ (List.mem_of_getElem? e2)) (fun id hid => if_pos hid)⟩

theorem sim_weakG {st st' : PSt} (hs : Sim C n st a w) (hw : WeakG C.k st st') : Sim C n st' a w := by
  obtain ⟨hd, hn, h, β, hi, he⟩ := hs
  obtain ⟨F, ids, h0, h1, h2⟩ := hw
  obtain ⟨h', hle, hi'⟩ := inv_frz F st.σ h hi
  refine ⟨hd, hn, h', _, inv_ren hi' h0 h1, fun t => ?_⟩
  rcases h2 t with e | e
  · rw [e]; exact .junk _
  · exact ren_rep hi' e ((he t).mono hle (BLe.refl _))

theorem sim_weak {st st' : PSt} (hs : Sim C n st a w) (hw : Weak C.k st st') : Sim C n st' a w := by
  rcases hw with hw | hw
  case inr => exact sim_weakG hs hw
  obtain ⟨hd, hn, h, β, hi, he⟩ := hs
  obtain ⟨tail, h1, h2, h3⟩ := hw
  by_cases ht : tail = []
  · subst ht
    rw [List.append_nil] at h1
    refine ⟨hd, hn, h, β, h1 ▸ hi, fun t => ?_⟩
    rcases h2 t with e | ⟨e, _⟩
    · rw [e]; exact .junk _
    · rw [e]; exact he t
  · have h3 := h3.resolve_left ht
    refine ⟨hd, hn, h, _, inv_drop (h1 ▸ hi) h3.1 h3.2, fun t => ?_⟩
    rcases h2 t with e | ⟨e, hb⟩
    · rw [e]; exact .junk _
    · rw [e]; exact (he t).blw (hb.resolve_left ht) (fun id hid => if_pos hid)

/-! ranges over functions: what is laid for them -/
theorem repH {h h' : Hp} {β : Nat → Bl} (hh : ∀ (a : Addr) (v : Value), hcell h a = some v → hcell h' a = some v) {v : Value} {d : DV} (r : Rep h β v d) : Rep h' β v d := by
  induction r with
  | junk v => exact .junk v
  | bool b => exact .bool b
  | int k n => exact .int k n
  | flt k n => exact .flt k n
  | str s => exact .str s
  | agg cs ds hl _ ih => exact .agg cs ds hl ih
  | tup cs ds hl _ ih => exact .tup cs ds hl ih
  | nils => exact .nils
  | list a n c xs sz vs hn hnc hz hsz hc ho _ ih =>
    exact .list a n c xs sz vs hn hnc hz hsz (fun i ds j d e1 e2 => let ⟨ad, ea, hx⟩ := hc i ds j d e1 e2; ⟨ad, ea, hh _ _ hx⟩) ho ih
  | refNil id hb => exact .refNil _ hb
  | refAt id off len cap o b sz N C t hb h1 h2 h3 ht => exact .refAt id off len cap o b sz N C t hb h1 h2 h3 ht
  | refDead v id off len hb => exact .refDead _ _ _ _ hb
  | nilp => exact .nilp
  | pim a cs vs hc _ ih => exact .pim a cs vs (fun j d e => hh _ _ (hc j d e)) ih
  | pobjAt id i j b sz N C t hb ht => exact .pobjAt id i j b sz N C t hb ht
  | nilm => exact .nilm
  | mapAt id b sz N C hb => exact .mapAt id b sz N C hb
  | iterAt id b sz N C t hb ht => exact .iterAt id b sz N C t hb ht
  | hndDead v it id hb => exact .hndDead v it id hb
  | pobjDead v id i j hb => exact .pobjDead _ _ _ _ hb
  | nili => exact .nili
  | iface t v d _ ih => exact .iface t v d ih
  | nilf => exact .nilf
  | func fn fs cs ds es hl hm _ _ ih1 ih2 => exact .func fn fs cs ds es hl hm ih1 ih2
def minus (h : Hp) (b : Nat) : Hp := fun x => if x = b then none else h x
theorem minus_ne {h : Hp} {b x : Nat} (hx : x ≠ b) : minus h b x = h x := if_neg hx
theorem minus_self {h : Hp} {b : Nat} : minus h b b = none := if_pos rfl
theorem minus_le {h : Hp} {b x : Nat} {o : Obj} (e : minus h b x = some o) : x ≠ b ∧ h x = some o := by
  by_cases hx : x = b
  · subst hx; rw [minus_self] at e; cases e
  · rw [minus_ne hx] at e; exact ⟨hx, e⟩
theorem hcell_minus {h : Hp} {b : Nat} {o : Obj} (hb : h b = some o) (hc : o.isCells = false) (a : Addr) (v : Value) (e : hcell h a = some v) : hcell (minus h b) a = some v := by
  by_cases hx : a.block = b
  · unfold hcell at e
    rw [hx, hb] at e
    cases o with
    | cells c t fr => cases hc
    | _ => cases e
  · unfold hcell at *
    rw [minus_ne hx]; exact e
/-- A block that is no cells is turned. -/
theorem inv_turn {σ : Objs} (hi : Inv C σ h β w) {b : Nat} {o : Obj} (o' : Obj) (hb : h b = some o) (hc : o.isCells = false) (hsz : C.w0.heap.size ≤ b) (h0 : C.h0 b = none) (hA : ∀ cs t, ¬ AsC o cs t := by intro cs t h; cases h) : Inv C σ (minus h b) β (w.putObj b o') := by
  have hwb := hi.view _ _ hb
  refine { os := hi.os, tape := hi.tape, output := hi.output, size := by rw [World.putObj_size]; exact hi.size, view := ?_, hle := ?_, hnew := ?_, own := hi.own, unborn := hi.unborn, inj := hi.inj, live := hi.live, objs := ?_, frame := ?_, gho := hi.gho, born := hi.born }
  · intro x ob e
    obtain ⟨hx, e⟩ := minus_le e
    rw [World.putObj_heap_other hx]; exact hi.view _ _ e
  · intro x ob e
    have hx : x ≠ b := by rintro rfl; rw [h0] at e; cases e
    rw [minus_ne hx]; exact hi.hle _ _ e
  · intro x ob e
    exact hi.hnew x ob (minus_le e).2
  · intro id b' sz N K t q
    obtain ⟨po, cs, g1, g2, g3, g4, g5, g6, g7, g8⟩ := hi.objs id _ _ _ _ _ q
    have hne : b' ≠ b := by
      rintro rfl
      obtain ⟨ob, e1, e2⟩ := g4
      rw [hwb] at e1; injection e1 with e1; subst e1; exact hA _ _ e2
    refine ⟨po, cs, g1, g2, g3, (by rw [World.putObj_heap_other hne]; exact g4), g5, fun i ds e1 => ?_, fun e => ?_, fun e => ?_⟩
    · obtain ⟨k1, k2⟩ := g6 i ds e1
      refine ⟨k1, fun j d e2 => ?_⟩
      obtain ⟨u, k3, k4, k5⟩ := k2 j d e2
      exact ⟨u, k3, k4, repH (hcell_minus hb hc) k5⟩
    · rw [minus_ne hne]; exact g7 e
    · rw [minus_ne hne, World.putObj_heap_other hne]; exact g8 e
  · intro x hx hL
    rw [World.putObj_heap_other (by omega)]; exact hi.frame x hx hL
theorem inv_ctx {C' : Ctx} {σ : Objs} (hw : C'.w0 = C.w0) (hk : C'.k = C.k) (hβ : C'.β0 = C.β0) (hle : HLe C'.h0 h) (hn : ∀ b o, C.h0 b = some o → b < C.w0.heap.size → C'.h0 b = some o) (hi : Inv C σ h β w) : Inv C' σ h β w := by
  obtain ⟨w0, h0, k, β0, ds⟩ := C
  obtain ⟨w0', h0', k', β0', ds'⟩ := C'
  simp only at hw hk hβ hle hn
  subst hw; subst hk; subst hβ
  exact { os := hi.os, tape := hi.tape, output := hi.output, size := hi.size, view := hi.view, hle := hle, hnew := fun b o e => (hi.hnew b o e).imp (fun q => ⟨hn b o q.1 q.2, q.2⟩) id, own := hi.own, unborn := hi.unborn, inj := hi.inj, live := hi.live, objs := hi.objs, frame := hi.frame, gho := hi.gho, born := hi.born }
structure MarksOk (C : Ctx) : Prop where
  nodup : C.ds.Nodup
  ok : ∀ d ∈ C.ds, ∃ D, d = { target := .collected D, args := #[] } ∧ C.w0.heap.size ≤ D ∧ C.h0 D = some (.deferred (some []))
/-- The same call, with more marks. -/
structure Ext (C C' : Ctx) : Prop where
  w : C'.w0 = C.w0
  k : C'.k = C.k
  b : C'.β0 = C.β0
  le : ∀ b o, C.h0 b = some o → C'.h0 b = some o
  more : ∀ b o, C'.h0 b = some o → C.h0 b = some o ∨ C.w0.heap.size ≤ b
theorem Ext.refl (C : Ctx) : Ext C C := ⟨rfl, rfl, rfl, fun _ _ e => e, fun _ _ e => .inl e⟩
theorem Ext.trans {A B C : Ctx} (x : Ext A B) (y : Ext B C) : Ext A C :=
  ⟨y.w.trans x.w, y.k.trans x.k, y.b.trans x.b, fun b o e => y.le b o (x.le b o e), fun b o e => (y.more b o e).elim (fun e => x.more b o e) fun h => .inr (by rw [x.w] at h; exact h)⟩
/-- The marks of a frame that leaves are shut. -/
theorem sim_shut {st : PSt} (hb0 : ∀ b o, C.h0 b = some o → b < C.w0.heap.size) : ∀ (ds : List Deferred) (C' : Ctx) (a : Act) (w : World), C'.ds = ds → Ext C C' → MarksOk C' → Sim C' n st a w →
    ∃ w', (∀ (fn : Func) (R : Ending → World → Prop), LeavesIn Fence.wide 0 P fn a.tmps R [] .returning w' → LeavesInM Fence.wide 0 P fn a.tmps R a.defers .returning w) ∧ Sim { C with ds := [] } n st { a with defers := [] } w' := by
  intro ds
  induction ds with
  | nil =>
    rintro C' a w hds hx hm ⟨hd, hn, h, β, hi, he⟩
    rw [hds] at hd
    refine ⟨w, fun fn R hl => ?_, rfl, hn, h, β, ?_, he⟩
    · rw [hd]; exact hl
    · refine inv_ctx (C := C') hx.w.symm hx.k.symm hx.b.symm (fun b o e => hi.hle _ _ (hx.le b o e)) (fun b o e hb => ?_) hi
      rcases hx.more b o e with q | q
      · exact q
      · rw [hx.w] at hb; omega
  | cons d ds ih =>
    rintro C' a w hds hx hm ⟨hd, hn, h, β, hi, he⟩
    rw [hds] at hd
    obtain ⟨D, e1, e2, e3⟩ := hm.ok d (by rw [hds]; exact List.mem_cons_self ..)
    have hnd := hm.nodup
    rw [hds, List.nodup_cons] at hnd
    have hhD := hi.hle _ _ e3
    have hwD := hi.view _ _ hhD
    have hCD : C.h0 D = none := by
      cases hq : C.h0 D with
      | none => rfl
      | some o => have := hb0 D o hq; rw [hx.w] at e2; omega
    let C'' : Ctx := { C' with h0 := minus C'.h0 D, ds := ds }
    have hx' : Ext C C'' := ⟨hx.w, hx.k, hx.b, fun b o e => by
      have hb : b ≠ D := by rintro rfl; rw [hCD] at e; cases e
      show minus C'.h0 D b = some o
      rw [minus_ne hb]; exact hx.le b o e, fun b o e => hx.more b o (minus_le e).2⟩
    have hm' : MarksOk C'' := ⟨hnd.2, fun d' hd' => by
      obtain ⟨D', f1, f2, f3⟩ := hm.ok d' (by rw [hds]; exact List.mem_cons_of_mem _ hd')
      have hne : D' ≠ D := by rintro rfl; exact hnd.1 (by rw [e1, ← f1]; exact hd')
      exact ⟨D', f1, f2, by show minus C'.h0 D D' = _; rw [minus_ne hne]; exact f3⟩⟩
    have hi2 : Inv C'' st.σ h β w := inv_ctx (C := C') rfl rfl rfl (fun b o e => hi.hle _ _ (minus_le e).2) (fun b o e hb => by
      show minus C'.h0 D b = some o
      rw [minus_ne (by omega)]; exact e) hi
    have hi3 : Inv C'' st.σ (minus h D) β (w.putObj D (.deferred none)) := inv_turn hi2 _ hhD rfl e2 minus_self
    obtain ⟨w', h1, h2⟩ := ih C'' { a with defers := ds } (w.putObj D (.deferred none)) rfl hx' hm' ⟨rfl, hn, minus h D, β, hi3, fun t => repH (hcell_minus hhD rfl) (he t)⟩
    refine ⟨w', fun fn R hl => ?_, h2⟩
    rw [hd]
    exact ⟨by simp, .inl ⟨D, _, by rw [e1], run_takeDeferred hwD, h1 fn R hl⟩⟩
theorem hasBody_get {f : FuncId} (hb : hasBodyB P f = true) : ∃ fn c, P.funcs[f]? = some fn ∧ fn.body = some c ∧ fn.name ≠ "runtime.NumGoroutine" := by
  unfold hasBodyB at hb
  cases hf : P.funcs[f]? with
  | none => rw [hf] at hb; cases hb
  | some fn =>
    rw [hf] at hb
    simp only [Bool.and_eq_true, Bool.not_eq_true', Option.isSome_iff_exists] at hb
    obtain ⟨⟨c, hc⟩, hn⟩ := hb
    exact ⟨fn, c, rfl, hc, by simpa using hn⟩
theorem range_sound {k : Nat} {g : Operand} {ps : Array Tmp} {assign body : Code} {st : PSt} {K : Objs → Prop} {Q : Exit → Act → World → Prop} (hk : rangeK P g st K) (hm : MarksOk C) (hs : Sim C n st a w)
    (hq : ∀ C', Ext C C' → MarksOk C' → ∀ σ' a' w', Sim C' n ⟨st.env, σ'⟩ a' w' → K σ' → Q .normal a' w') : (Code.rangeFunc g ps assign body).wp P Q a w := by
  unfold rangeK at hk
  split at hk
  case h_2 => exact hk.elim
  rename_i f cs hev
  obtain ⟨hbody, hk⟩ := hk
  obtain ⟨fn0, c0, hf0, hc0, hn0⟩ := hasBody_get hbody
  obtain ⟨hd, hn, h, β, hi, he⟩ := hs
  have hrg := rep_ev he g
  rw [hev] at hrg
  obtain ⟨lb, hg, hrl⟩ : ∃ lb, a.eval g = .func (.func f) #[] lb ∧ RepVs h β lb cs := by
    generalize a.eval g = gv at *
    cases hrg with
    | func _ fs lb _ _ hl hm _ hq =>
      have : fs = #[] := Array.eq_empty_of_size_eq_zero hl
      subst this
      exact ⟨lb, rfl, hm, hq⟩
  refine wpIn_wide (n := 0) |>.1 (wpIn_rangeFunc ?_)
  intro fn _
  obtain ⟨rec, hrec⟩ : ∃ rec : Loop, rec = { state := .ready, pending := none, fn, tmps := a.tmps, params := ps, assign, body, defers := w.heap.size } := ⟨_, rfl⟩
  obtain ⟨W1, hW1⟩ : ∃ W1, (w.alloc (.deferred (some []))).alloc (.loop rec) = W1 := ⟨_, rfl⟩
  have hL1 : W1.heap[w.heap.size + 1]? = some (.loop rec) := by
    rw [← hW1]; have := World.alloc_heap_new (w.alloc (.deferred (some []))) (.loop rec); rwa [World.size_alloc] at this
  have hK1 : W1.heap[w.heap.size]? = some (.deferred (some [])) := by
    rw [← hW1]; exact (Below.heap_alloc _ _ _ (by simp)).trans (World.alloc_heap_new w _)
  have hbel : Below w.heap.size w W1 := by rw [← hW1]; exact ((Below.refl _ w).alloc (Nat.le_refl _) _).alloc (by simp) _
  have hlt : ∀ b o, h b = some o → b < w.heap.size := fun b o e => lt_of_some (hi.view b o e)
  let h1 : Hp := fun b => if b = w.heap.size then some (.deferred (some [])) else if b = w.heap.size + 1 then some (.loop rec) else h b
  have h1old : ∀ b, b < w.heap.size → h1 b = h b := fun b hb => by
    show (if b = w.heap.size then _ else if b = w.heap.size + 1 then _ else h b) = _
    rw [if_neg (by omega), if_neg (by omega)]
  have h1D : h1 w.heap.size = some (.deferred (some [])) := if_pos rfl
  have h1L : h1 (w.heap.size + 1) = some (.loop rec) := by
    show (if w.heap.size + 1 = w.heap.size then _ else if w.heap.size + 1 = w.heap.size + 1 then _ else h (w.heap.size + 1)) = _
    rw [if_neg (by omega), if_pos rfl]
  have hle1 : HLe h h1 := fun b o e => (h1old b (hlt b o e)).trans e
  have h1new : ∀ b o, h1 b = some o → (h b = some o ∧ b < w.heap.size) ∨ w.heap.size ≤ b := by
    intro b o e
    by_cases hb : b < w.heap.size
    · rw [h1old b hb] at e; exact .inl ⟨e, hb⟩
    · exact .inr (by omega)
  have hi1 : Inv C st.σ h1 β W1 := by
    refine inv_call hi hbel ?_ hle1 h1new
    intro b o e
    by_cases hb : b < w.heap.size
    · rw [h1old b hb] at e
      rw [hbel.block b hb]; exact hi.view _ _ e
    · by_cases h2 : b = w.heap.size
      · subst h2; rw [h1D] at e; injection e with e; subst e; exact hK1
      · by_cases h3 : b = w.heap.size + 1
        · subst h3; rw [h1L] at e; injection e with e; subst e; exact hL1
        · have : h1 b = h b := by
            show (if b = w.heap.size then _ else if b = w.heap.size + 1 then _ else h b) = _
            rw [if_neg h2, if_neg h3]
          rw [this] at e
          have := hlt b o e; omega
  let C' : Ctx := { C with h0 := fun b => if b = w.heap.size then some (.deferred (some [])) else C.h0 b, ds := { target := .collected w.heap.size, args := #[] } :: C.ds }
  have hC0 : ∀ b, b ≠ w.heap.size → C'.h0 b = C.h0 b := fun b hb => if_neg hb
  have hCD : C'.h0 w.heap.size = some (.deferred (some [])) := if_pos rfl
  have hClt : ∀ b o, C.h0 b = some o → b < w.heap.size := fun b o e => hlt b o (hi.hle b o e)
  have hx : Ext C C' := ⟨rfl, rfl, rfl, fun b o e => (hC0 b (by have := hClt b o e; omega)).trans e, fun b o e => by
    by_cases hb : b = w.heap.size
    · exact .inr (by rw [hb]; exact hi.size)
    · rw [hC0 b hb] at e; exact .inl e⟩
  have hm' : MarksOk C' := by
    refine ⟨?_, ?_⟩
    · show List.Nodup (_ :: C.ds)
      rw [List.nodup_cons]
      refine ⟨fun hmem => ?_, hm.nodup⟩
      obtain ⟨D, e1, e2, e3⟩ := hm.ok _ hmem
      injection e1 with e1
      injection e1 with e1
      have := hClt D _ e3
      omega
    · intro d hd'
      rcases List.mem_cons.1 hd' with rfl | hd'
      · exact ⟨w.heap.size, rfl, hi.size, hCD⟩
      · obtain ⟨D, e1, e2, e3⟩ := hm.ok d hd'
        exact ⟨D, e1, e2, (hC0 D (by have := hClt D _ e3; omega)).trans e3⟩
  have hi2 : Inv C' st.σ h1 β W1 := by
    refine inv_ctx (C := C) rfl rfl rfl ?_ (fun b o e _ => hx.le b o e) hi1
    intro b o e
    by_cases hb : b = w.heap.size
    · subst hb; rw [hCD] at e; rw [h1D]; exact e
    · rw [hC0 b hb] at e; exact hle1 b o (hi.hle b o e)
  have henter : ∀ vs : Array Value, (callFunc f vs).run P W1 = .ok (.enter f vs) W1 := fun vs => by
    simp [callFunc, Sem.run_bind, hf0, hn0, hc0]
  obtain ⟨vs, hvs⟩ : ∃ vs, vs = #[Value.func (.yield (w.heap.size + 1)) #[] #[]] ++ lb := ⟨_, rfl⟩
  refine ⟨w.heap.size + 1, [{ target := .collected w.heap.size, args := #[] }], W1, { target := .fn (.func f) lb, args := #[.func (.yield (w.heap.size + 1)) #[] #[]] }, W1, f, vs, W1, ?_, ?_, fun _ _ => trivial, ?_, (fun h => by cases h), ?_⟩
  · rw [← hW1, hrec]; exact run_enterLoop_outer _ _ _ _ _
  · simp only [resolve, hg]
    simp [go_sem]
  · rw [hvs]; simp [invoke, go_sem, henter]
  · refine callsIn_wide.2 ?_
    obtain ⟨o, ho⟩ : ∃ o : Oper, o = { dst := none, op := .call { callee := .value (.func f), args := vs.map .const, argTypes := #[] }, type := 0, pos := "", after := #[], guard := none } := ⟨_, rfl⟩
    have hci : CallIs P a o f vs := by
      have := call_direct (P := P) (a := a) (o := o) (c := { callee := .value (.func f), args := vs.map .const, argTypes := #[] }) (by rw [ho]) rfl
      have e : (vs.map Operand.const).map a.eval = vs := by
        rw [Array.map_map]
        have : a.eval ∘ Operand.const = id := by funext v; rfl
        rw [this, Array.map_id]
      rwa [e] at this
    have hrv : RepVs h1 β vs (.junk :: cs) := by
      rw [hvs]
      have r1 : RepVs h1 β #[Value.func (.yield (w.heap.size + 1)) #[] #[]] [.junk] := ⟨rfl, fun i u e e1 e2 => by
        cases i with
        | zero => simp at e2; subst e2; exact .junk _
        | succ i => simp at e2⟩
      exact r1.app (hrl.mono hle1 (BLe.refl β))
    have hwp : o.wp P a W1 (fun _ w3 => ∃ jump w4, (Instr.endLoop (w.heap.size + 1)).run P w3 = .ok jump w4 ∧ jump = none ∧ Q .normal { a with defers := [{ target := .collected w.heap.size, args := #[] }] ++ a.defers } w4) (fun _ _ _ => False) := by
      refine call_sound hci hk hi2 hrv ?_
      intro v d σ' h' β' w' hi' hh hb _ hk'
      have hL := hh _ _ h1L
      have hwL := hi'.view _ _ hL
      refine ⟨none, w'.putObj (w.heap.size + 1) (.loop { rec with state := .exhausted }), ?_, rfl, ?_⟩
      · have := run_endLoop (P := P) hwL (by rw [hrec]; simp)
        rw [this, hrec]
      · have hnone : C'.h0 (w.heap.size + 1) = none := by
          rw [hC0 _ (by omega)]
          cases hq : C.h0 (w.heap.size + 1) with
          | none => rfl
          | some o => have := hClt _ _ hq; omega
        have hi4 := inv_turn hi' (.loop { rec with state := .exhausted }) hL rfl (by have := hi.size; show C.w0.heap.size ≤ _; omega) hnone
        refine hq C' hx hm' σ' _ _ ⟨?_, hn, _, β', hi4, fun t => ?_⟩ hk'
        · show [_] ++ a.defers = _ :: C.ds
          rw [hd]; rfl
        · exact repH (hcell_minus hL rfl) ((he t).mono (fun b o e => hh b o (hle1 b o e)) hb)
    unfold Oper.wp at hwp
    rw [hci, henter] at hwp
    refine Calls.mono hwp ?_
    intro e w3 hpost
    cases e with
    | returned v =>
      obtain ⟨jump, w4, e1, e2, e3⟩ := hpost
      subst e2
      exact ⟨none, w4, e1, e3⟩
    | panicked ch => exact hpost.elim
    | outgrown => obtain ⟨_, _, hf⟩ := hpost; exact hf.elim

theorem pwp_sound {k : Nat} : ∀ (c : Code) (C : Ctx) (st : PSt) (K : Exit → PSt → Prop) (a : Act) (w : World) (Q : Exit → Act → World → Prop), C.k = k → MarksOk C → pwp P n k c st K → Sim C n st a w →
    (∀ C', Ext C C' → MarksOk C' → ∀ e st' a' w', Sim C' n st' a' w' → K e st' → Q e a' w') → c.wp P Q a w := by
  intro c
  induction c with
  | skip => intro C st K a w Q hck hm hk hs hq; exact wp_skip (hq C (.refl C) hm _ _ _ _ hs hk)
  | region id ops draw =>
    intro C st K a w Q hck hm hk hs hq
    unfold pwp at hk
    cases draw with
    | true =>
      simp only [cond_true] at hk
      unfold drawK at hk
      rcases hk with ⟨M, al, hal, h1, hk⟩ | ⟨b, h1, hk⟩
      · rw [Bool.and_eq_true] at h1
        exact draw_sound h1.2 h1.1 hal hk hs fun st' a' w' hs' hk' => hq C (.refl C) hm _ _ _ _ hs' hk'
      · rw [Bool.and_eq_true] at h1
        exact swap_sound h1.2 h1.1 hk hs fun st' a' w' hs' hk' => hq C (.refl C) hm _ _ _ _ hs' hk'
    | false =>
      simp only [cond_false] at hk
      cases hgd : ops.toList.any (·.guard.isSome) with
      | true =>
        rw [hgd] at hk
        simp only [cond_true] at hk
        unfold guardK at hk
        rcases hk with hk | ⟨M, hk, hM⟩
        · exact guard_sound hk hs fun st' a' w' hs' hk' => hq C (.refl C) hm _ _ _ _ hs' hk'
        · exact wp_region_list (pops_start hk hs fun st' a' w' hs' hk' => let ⟨st'', hw, hmm⟩ := hk'; hq C (.refl C) hm _ _ _ _ (sim_weak hs' (hck ▸ hw)) (hM _ hmm))
      | false => rw [hgd] at hk; exact wp_region_list (pops_start hk hs fun st' a' w' hs' hk' => hq C (.refl C) hm _ _ _ _ hs' hk')
  | seq x y ihx ihy =>
    intro C st K a w Q hck hm hk hs hq
    unfold pwp at hk
    cases hc : hasCond x with
    | true =>
      rw [hc] at hk
      simp only [cond_true] at hk
      unfold joinK at hk
      obtain ⟨M, hk, hM⟩ := hk
      refine wp_seq (ihx C st _ a w _ hck hm hk hs fun C' hx' hm' e st' a' w' hs' hk' => ?_)
      cases e with
      | normal => obtain ⟨st'', hw, hk'⟩ := hk'; exact ihy C' st'' K a' w' Q (hx'.k.trans hck) hm' (hM _ hk') (sim_weak hs' ((hx'.k.trans hck) ▸ hw)) fun C2 hx2 hm2 => hq C2 (hx'.trans hx2) hm2
      | exit id => exact hq C' hx' hm' _ _ _ _ hs' hk'
      | goto l => exact hq C' hx' hm' _ _ _ _ hs' hk'
      | ret => exact hq C' hx' hm' _ _ _ _ hs' hk'
      | panic ch => exact hq C' hx' hm' _ _ _ _ hs' hk'
      | outgrown => exact hq C' hx' hm' _ _ _ _ hs' hk'
    | false =>
    rw [hc] at hk
    simp only [cond_false] at hk
    refine wp_seq (ihx C st _ a w _ hck hm hk hs fun C' hx' hm' e st' a' w' hs' hk' => ?_)
    cases e with
    | normal => exact ihy C' st' K a' w' Q (hx'.k.trans hck) hm' hk' hs' fun C2 hx2 hm2 => hq C2 (hx'.trans hx2) hm2
    | exit id => exact hq C' hx' hm' _ _ _ _ hs' hk'
    | goto l => exact hq C' hx' hm' _ _ _ _ hs' hk'
    | ret => exact hq C' hx' hm' _ _ _ _ hs' hk'
    | panic ch => exact hq C' hx' hm' _ _ _ _ hs' hk'
    | outgrown => exact hq C' hx' hm' _ _ _ _ hs' hk'
  | cond c x y ihx ihy =>
    intro C st K a w Q hck hm hk hs hq
    have hs' := hs
    obtain ⟨hd, hn, h, β, hi, he⟩ := hs'
    unfold pwp condK at hk
    have hc := rep_ev he c
    split at hk
    · rename_i b hb
      rw [hb] at hc
      have hce : a.eval c = .bool b := rep_toV rfl hc
      cases b with
      | true => exact wp_cond_true hce (ihx C st K a w Q hck hm (hk.1 rfl) hs hq)
      | false => exact wp_cond_false hce (ihy C st K a w Q hck hm (hk.2 rfl) hs hq)
    · exact hk.elim
  | block id b ih =>
    intro C st K a w Q hck hm hk hs hq
    unfold pwp at hk
    refine wp_block (ih C st _ a w _ hck hm hk hs fun C' hx' hm' e st' a' w' hs' hk' => ?_)
    cases e with
    | normal => exact hq C' hx' hm' _ _ _ _ hs' hk'
    | exit id' =>
      simp only [Exit.inBlock]
      cases hb : Nat.beq id' id with
      | true =>
        simp only [hb, cond_true] at hk'
        rw [if_pos (Nat.eq_of_beq_eq_true hb)]; exact hq C' hx' hm' _ _ _ _ hs' hk'
      | false =>
        simp only [hb, cond_false] at hk'
        rw [if_neg (by rintro rfl; simp at hb)]; exact hq C' hx' hm' _ _ _ _ hs' hk'
    | goto l => exact hq C' hx' hm' _ _ _ _ hs' hk'
    | ret => exact hq C' hx' hm' _ _ _ _ hs' hk'
    | panic ch => exact hq C' hx' hm' _ _ _ _ hs' hk'
    | outgrown => exact hq C' hx' hm' _ _ _ _ hs' hk'
  | loop b ih =>
    intro C st K a w Q hck hm hk hs hq
    unfold pwp loopK at hk
    obtain ⟨I, m, st0, hw0, hI, hround⟩ := hk
    refine wp_loop_ghost (fun m a w => ∃ C1, Ext C C1 ∧ MarksOk C1 ∧ ∃ st, I m st ∧ Sim C1 n st a w) m ⟨C, .refl C, hm, st0, hI, sim_weak hs (hck ▸ hw0)⟩ ?_
    rintro m a w ⟨C1, hx1, hm1, st, hI, hs⟩
    refine ih C1 st _ a w _ (hx1.k.trans hck) hm1 (hround m st hI) hs fun C' hx2 hm' e st' a' w' hs' hk' => ?_
    have hx' := hx1.trans hx2
    cases e with
    | normal => obtain ⟨m', st'', hlt, hw', hI'⟩ := hk'; exact ⟨m', hlt, C', hx', hm', st'', hI', sim_weak hs' ((hx'.k.trans hck) ▸ hw')⟩
    | exit id => exact hq C' hx' hm' _ _ _ _ hs' hk'
    | goto l => exact hq C' hx' hm' _ _ _ _ hs' hk'
    | ret => exact hq C' hx' hm' _ _ _ _ hs' hk'
    | panic ch => exact hq C' hx' hm' _ _ _ _ hs' hk'
    | outgrown => exact hq C' hx' hm' _ _ _ _ hs' hk'
  | exit id => intro C st K a w Q hck hm hk hs hq; exact wp_exit (hq C (.refl C) hm _ _ _ _ hs hk)
  | scope b ih =>
    intro C st K a w Q hck hm hk hs hq
    unfold pwp at hk
    refine wp_scope_straight (ih C st _ a w _ hck hm hk hs fun C' hx' hm' e st' a' w' hs' hk' => ?_)
    cases e with
    | goto l => exact hk'.elim
    | normal => exact hq C' hx' hm' _ _ _ _ hs' hk'
    | exit id => exact hq C' hx' hm' _ _ _ _ hs' hk'
    | ret => exact hq C' hx' hm' _ _ _ _ hs' hk'
    | panic ch => exact hq C' hx' hm' _ _ _ _ hs' hk'
    | outgrown => exact hq C' hx' hm' _ _ _ _ hs' hk'
  | label l => intro C st K a w Q hck hm hk hs hq; exact wp_label (hq C (.refl C) hm _ _ _ _ hs hk)
  | ret => intro C st K a w Q hck hm hk hs hq; exact wp_ret (hq C (.refl C) hm _ _ _ _ hs hk)
  | rangeFunc g ps assign body _ _ =>
    intro C st K a w Q hck hm hk hs hq
    unfold pwp at hk
    exact range_sound (k := k) hk hm hs fun C' hx' hm' σ' a' w' hs' hk' => hq C' hx' hm' _ _ _ _ hs' hk'
  | _ => intro C st K a w Q hck hm hk hs hq; exact hk.elim

/-- A call, by its body: its marks are shut at its end. -/
theorem calls_pwp {f : FuncId} {fn : Func} {c : Code} {vs : Array Value} {w0 : World} {st : PSt} {K : Exit → PSt → Prop} {R : Ending → World → Prop} (hf : P.funcs[f]? = some fn) (hb : fn.body = some c) (hds : C.ds = []) (hb0 : ∀ b o, C.h0 b = some o → b < C.w0.heap.size)
    (hw : pwp P fn.ntmps C.k c st K) (hs : Sim C fn.ntmps st { tmps := vs ++ Array.replicate (fn.ntmps - vs.size) undef, defers := [] } w0)
    (hfin : ∀ e st' a' w', Sim C fn.ntmps st' a' w' → K e st' → (e = .normal ∨ e = .ret) ∧ ∃ v, (results fn a'.tmps).run P w' = .ok v w' ∧ R (.returned v) w') : Calls P f vs w0 R := by
  refine callsIn_wide.1 (callsIn_of_wp_marks (n := 0) hf hb trivial (wpIn_wide.2 (pwp_sound c C st K _ w0 _ rfl ⟨by rw [hds]; exact List.nodup_nil, fun d hd => by rw [hds] at hd; cases hd⟩ hw hs ?_)))
  intro C' hx hm e st' a' w' hs' hk'
  obtain ⟨w2, h1, h2⟩ := sim_shut (P := P) hb0 _ C' a' w' rfl hx hm hs'
  have hCe : { C with ds := [] } = C := by
    obtain ⟨w0, h0, k, β0, ds⟩ := C
    simp only at hds
    subst hds; rfl
  rw [hCe] at h2
  obtain ⟨he, v, hr, hR⟩ := hfin e st' _ w2 h2 hk'
  rcases he with rfl | rfl
  · exact h1 fn R ⟨v, hr, hR⟩
  · exact h1 fn R ⟨v, hr, hR⟩

end Go.Pv
