/- The walk over pure values: how a call begins and ends. -/
import Derived.Test.YthbjeeipeadilaaGreatPv7
set_option linter.unusedSimpArgs false
set_option linter.unusedVariables false
namespace Go.Pv
open Go Go.RowKit
variable {P : Program} {C : Ctx} {n k : Nat} {h : Hp} {β : Nat → Bl} {w : World} {a : Act}

def env0 (ds : List DV) : Env := fun t => (ds[t]?).getD .junk

open Classical in
noncomputable def frozenHp (h : Hp) (β : Nat → Bl) (w : World) : Hp := fun b =>
  match h b with
  | some o => some o
  | none => if ∃ id sz N K t, β id = .at b sz N K t then w.heap[b]? else none

theorem frozen_le : HLe h (frozenHp h β w) := by
  intro b o e; unfold frozenHp; rw [e]

theorem frozen_at {σ : Objs} (hi : Inv C σ h β w) {id b sz N K : Nat} {t : TypeId} (hb : β id = .at b sz N K t) {cs : Array Value} (hw : w.heap[b]? = some (.cells cs t (0, 0))) :
    frozenHp h β w b = some (.cells cs t (0, 0)) := by
  unfold frozenHp
  cases hx : h b with
  | some o => have := hi.view _ _ hx; rw [hw] at this; exact this.symm ▸ rfl
  | none => simp only; rw [if_pos ⟨id, sz, N, K, t, hb⟩]; exact hw

theorem rep_snap {σ : Objs} (hi : Inv C σ h β w) {d d' : DV} (hs : Snap (obj σ) d d') {v : Value} (r : Rep h β v d) : Rep (frozenHp h β w) (fun _ => .no) v d' :=
  rep_snapG hi frozen_le (fun id po e => ⟨e, fun b sz N K t cs hb hw => frozen_at hi hb hw⟩) hs r

def finK (σ : Objs) (R : DV → Prop) (d : DV) : Prop := R d ∨ ∃ d', Snap (obj σ) d d' ∧ R d'

theorem fin_eq {σ : Objs} {r d : DV} (d' : DV) (h : d = d') (hr : d' = r) : finK σ (· = r) d := .inl (h.trans hr)
def res1 (P : Program) (st : PSt) (r : ResultVar) (K : DV → Prop) : Prop :=
  match r with
  | .tmp t => K (st.env t)
  | .cell a t =>
    match st.env a with
    | .pobj id i j => optK (obj st.σ id) fun po => optK po.els[i]? fun ds => ldK P t ds j K
    | _ => False
def resL (P : Program) (st : PSt) : List ResultVar → (List DV → Prop) → Prop
  | [], K => K []
  | r :: rs, K => res1 P st r fun d => resL P st rs fun ds => K (d :: ds)
def resK (P : Program) (fn : Func) (st : PSt) (K : DV → Prop) : Prop :=
  match fn.results.toList with
  | [r] => res1 P st r K
  | rs => resL P st rs fun ds => K (.tup ds)
def retK (P : Program) (fn : Func) (R : DV → Prop) (e : Exit) (st : PSt) : Prop :=
  match e with
  | .normal | .ret => resK P fn st (finK st.σ R)
  | _ => False

theorem res1_sound {st : PSt} (hi : Inv C st.σ h β w) (he : ∀ t, Rep h β (a.tmps.getD t undef) (st.env t)) {r : ResultVar} {K : DV → Prop} (hk : res1 P st r K) :
    ∃ v d, ((match r with | .tmp t => pure (a.tmps.getD t undef) | .cell x t => do loadVar t (← asAddr (a.tmps.getD x undef)) : Sem Value)).run P w = .ok v w ∧ Rep h β v d ∧ K d := by
  cases r with
  | tmp t => exact ⟨_, _, rfl, he t, hk⟩
  | cell x t =>
    simp only [res1] at hk
    have hx := he x
    split at hk
    · rename_i id i j hev
      rw [hev] at hx
      obtain ⟨po, ho, hk⟩ := optK_some hk
      obtain ⟨ds, hds, hk⟩ := optK_some hk
      obtain ⟨b, K', hb, hv⟩ := pointer_of hi ho hx
      obtain ⟨b2, K2, hb2, hc⟩ := obj_cells hi ho (pobj_ty hi ho hx) hds
      rw [hb] at hb2; injection hb2 with e1; subst e1
      obtain ⟨v, d, hrun, hr, hk⟩ := ld_sound (P := P) hk _ hc
      rw [add_at] at hrun
      exact ⟨v, d, by simp only [hv, asAddr, Sem.run_bind, Sem.run_pure, Result.andThen_ok, hrun], hr, hk⟩
    · exact hk.elim

theorem resL_sound {st : PSt} (hi : Inv C st.σ h β w) (he : ∀ t, Rep h β (a.tmps.getD t undef) (st.env t)) : ∀ (rs : List ResultVar) (K : List DV → Prop), resL P st rs K →
    ∃ vs ds, (rs.mapM (fun r => match r with | .tmp t => pure (a.tmps.getD t undef) | .cell x t => do loadVar t (← asAddr (a.tmps.getD x undef)) : ResultVar → Sem Value)).run P w = .ok vs w ∧ vs.length = rs.length ∧
      vs.length = ds.length ∧ (∀ (i : Nat) (v : Value) (d : DV), vs[i]? = some v → ds[i]? = some d → Rep h β v d) ∧ K ds
  | [], K, hk => ⟨[], [], rfl, rfl, rfl, fun i v d e => by simp at e, hk⟩
  | r :: rs, K, hk => by
    simp only [resL] at hk
    obtain ⟨v, d, h1, h2, hk⟩ := res1_sound (P := P) hi he hk
    obtain ⟨vs, ds, h3, h3', h4, h5, hk⟩ := resL_sound hi he rs _ hk
    refine ⟨v :: vs, d :: ds, ?_, by simp [h3'], by simp [h4], ?_, hk⟩
    · rw [List.mapM_cons, Sem.run_bind, h1]
      simp only [Result.andThen_ok, Sem.run_bind, h3, Sem.run_pure]
    · intro i v' d' e1 e2
      cases i with
      | zero => simp at e1 e2; subst e1; subst e2; exact h2
      | succ i => exact h5 i v' d' (by simpa using e1) (by simpa using e2)

theorem resK_sound {fn : Func} {st : PSt} (hi : Inv C st.σ h β w) (he : ∀ t, Rep h β (a.tmps.getD t undef) (st.env t)) {K : DV → Prop} (hk : resK P fn st K) :
    ∃ v d, (results fn a.tmps).run P w = .ok v w ∧ Rep h β v d ∧ K d := by
  unfold resK at hk
  have hres : results fn a.tmps = (do
    let vs ← (fn.results.toList.mapM (fun r => match r with | .tmp t => pure (a.tmps.getD t undef) | .cell x t => do loadVar t (← asAddr (a.tmps.getD x undef)) : ResultVar → Sem Value))
    pure (if h : vs.toArray.size = 1 then vs.toArray[0] else .tuple vs.toArray)) := by
    unfold results
    rw [Array.mapM_eq_mapM_toList]
    simp only [map_eq_pure_bind, bind_assoc, pure_bind]
    rfl
  rw [hres]
  split at hk
  · rename_i r hr
    obtain ⟨v, d, h1, h2, hk⟩ := res1_sound (P := P) hi he hk
    refine ⟨v, d, ?_, h2, hk⟩
    rw [hr]
    simp only [List.mapM_cons, List.mapM_nil, Sem.run_bind]
    rw [h1]
    simp
  · rename_i rs hne
    obtain ⟨vs, ds, h1, h1', h2, h3, hk⟩ := resL_sound (P := P) hi he _ _ hk
    refine ⟨.tuple vs.toArray, .tup ds, ?_, .tup _ _ (by simpa using h2) (fun i v d e1 e2 => h3 i v d (by simpa using e1) e2), hk⟩
    rw [Sem.run_bind, h1]
    have hl1 : vs.length ≠ 1 := by
      intro hl
      rw [h1'] at hl
      obtain ⟨r, hr⟩ := List.length_eq_one_iff.1 hl
      exact hne r hr
    simp [hl1]

theorem sim_start {w0 : World} {h0 : Hp} {vs : Array Value} {ds : List DV} {m : Nat} (hview : ∀ b o, h0 b = some o → w0.heap[b]? = some o) (hsz : vs.size = ds.length) (hlen : ds.length ≤ m)
    (hrep : ∀ (i : Nat) (v : Value) (d : DV), vs[i]? = some v → ds[i]? = some d → Rep h0 (fun _ => .no) v d) :
    Sim (Ctx.plain w0 h0) m ⟨env0 ds, []⟩ { tmps := vs ++ Array.replicate (m - vs.size) undef, defers := [] } w0 := by
  refine ⟨rfl, by simp; omega, h0, fun _ => .no, ?_, ?_⟩
  · exact { os := rfl, tape := rfl, output := rfl, size := Nat.le_refl _, view := hview, hle := HLe.refl _, hnew := fun b o e => .inl ⟨e, lt_of_some (hview b o e)⟩,
            own := fun _ _ _ _ _ _ e => (by cases e), unborn := fun _ _ => rfl, inj := fun _ _ _ _ _ _ _ _ _ _ _ e => (by cases e), live := fun id po e => (by simp [obj] at e),
            objs := fun _ _ _ _ _ _ e => (by cases e), frame := fun _ _ _ => rfl, gho := fun id hid => absurd hid (Nat.not_lt_zero id), born := fun id hid => absurd hid (Nat.not_lt_zero id) }
  · intro t
    simp only [env0, Array.getD_eq_getD_getElem?, Array.getElem?_append]
    by_cases ht : t < vs.size
    · rw [if_pos ht, Array.getElem?_eq_getElem ht, List.getElem?_eq_getElem (by omega)]
      exact hrep t _ _ (Array.getElem?_eq_getElem ht) (List.getElem?_eq_getElem (by omega))
    · rw [List.getElem?_eq_none (by omega)]
      exact .junk _

theorem FnC.mk {f : FuncId} {fn : Func} {c : Code} {ds : List DV} {R : DV → Prop} (hf : P.funcs[f]? = some fn) (hb : fn.body = some c) (hname : (fn.name == "runtime.NumGoroutine") = false)
    (hlen : ds.length ≤ fn.ntmps) (hp : ∀ d ∈ ds, Blw 0 d) (hpr : ∀ d, R d → Blw 0 d) (hw : pwp P fn.ntmps 0 c ⟨env0 ds, []⟩ (retK P fn R)) : FnC P f ds R := by
  refine ⟨hp, hpr, fun w0 h0 vs hview hsz hrep => ?_⟩
  refine .inl ⟨fn, c, hf, hb, hname, calls_pwp (C := Ctx.plain w0 h0) hf hb rfl (fun b o e => lt_of_some (hview b o e)) hw (sim_start hview hsz hlen hrep) ?_⟩
  · rintro e st a w ⟨hd, hn, h, β, hi, he⟩ hk
    have hret : ∀ (hk : resK P fn st (finK st.σ R)), a.defers = [] ∧ ∃ v, (results fn a.tmps).run P w = .ok v w ∧ (∃ v', Ending.returned v = .returned v' ∧ ∃ d h', R d ∧ Rep h' (fun _ => .no) v' d ∧ Below w0.heap.size w0 w ∧
        (∀ b o, h' b = some o → w.heap[b]? = some o) ∧ HLe h0 h' ∧ (∀ b o, h' b = some o → (h0 b = some o ∧ b < w0.heap.size) ∨ w0.heap.size ≤ b)) := by
      intro hk
      obtain ⟨v, d, hrun, hr, hfin⟩ := resK_sound hi he hk
      obtain ⟨d', hs, hR⟩ : ∃ d', Snap (obj st.σ) d d' ∧ R d' := hfin.elim (fun hR => ⟨d, .pure _ (hpr d hR), hR⟩) id
      refine ⟨hd, v, hrun, v, rfl, d', frozenHp h β w, hR, rep_snap hi hs hr, ⟨hi.os, hi.tape, hi.output, hi.size, fun b hb => hi.frame b hb Ctx.plain_L⟩, ?_, hi.hle.trans frozen_le, ?_⟩
      · intro b o e
        unfold frozenHp at e
        cases hx : h b with
        | some o' => rw [hx] at e; injection e with e; subst e; exact hi.view b _ hx
        | none =>
          rw [hx] at e
          simp only at e
          split at e
          · exact e
          · cases e
      · intro b o e
        unfold frozenHp at e
        cases hx : h b with
        | some o' => rw [hx] at e; injection e with e; subst e; exact (hi.hnew b _ hx).imp id (fun q => q.resolve_right Ctx.plain_L)
        | none =>
          rw [hx] at e
          simp only at e
          split at e
          · rename_i hex
            obtain ⟨id, sz, N, K, t, hb⟩ := hex
            exact .inr ((hi.own _ _ _ _ _ _ hb).resolve_right Ctx.plain_L)
          · cases e
    cases e with
    | normal => exact ⟨.inl rfl, (hret hk).2⟩
    | ret => exact ⟨.inr rfl, (hret hk).2⟩
    | exit id => exact hk.elim
    | goto l => exact hk.elim
    | panic ch => exact hk.elim
    | outgrown => exact hk.elim

/-- The end of a call that hands back one new object. -/
def ownK (isPtr : Bool) (po : PO) (σ : Objs) (d : DV) : Prop :=
  ∃ id, obj σ id = some po ∧ po.frz = false ∧ d = bif isPtr then .pobj id 0 0 else .ref id 0 po.els.length
def retO (P : Program) (fn : Func) (isPtr : Bool) (po : PO) (e : Exit) (st : PSt) : Prop :=
  match e with
  | .normal | .ret => resK P fn st (ownK isPtr po st.σ)
  | _ => False

theorem inv_pick {σ : Objs} (hk0 : C.k = 0) (hi : Inv C σ h β w) {id : Nat} {po : PO} (ho : obj σ id = some po) (hb : ∀ ds ∈ po.els, ∀ d ∈ ds, Blw 0 d) : Inv C [some po] h (fun k => if k = 0 then β id else .no) w := by
  have hcase : ∀ {k b sz N K t}, (if k = 0 then β id else Bl.no) = .at b sz N K t → k = 0 ∧ β id = .at b sz N K t := by
    intro k b sz N K t q
    by_cases h1 : k = 0
    · rw [if_pos h1] at q; exact ⟨h1, q⟩
    · rw [if_neg h1] at q; cases q
  refine { os := hi.os, tape := hi.tape, output := hi.output, size := hi.size, view := hi.view, hle := hi.hle, hnew := hi.hnew, own := fun k b sz N K t q => hi.own _ _ _ _ _ _ (hcase q).2,
           unborn := fun k hge => if_neg (by simp at hge; omega), inj := fun k k' b _ _ _ _ _ _ _ _ q1 q2 => by rw [(hcase q1).1, (hcase q2).1], live := ?_, objs := ?_, frame := hi.frame, gho := fun id hid => absurd hid (by omega), born := fun k hk => by
             have hk0 : k = 0 := by simp at hk; omega
             simp only [if_pos hk0]; exact hi.born id (obj_lt ho) }
  · intro k q e
    have hk := obj_lt e
    simp at hk; subst hk
    simp [obj] at e; subst e
    rcases hi.live id po ho with ⟨b, K, hb⟩ | ⟨hb, hn⟩
    · exact .inl ⟨b, K, (if_pos rfl).trans hb⟩
    · exact .inr ⟨(if_pos rfl).trans hb, hn⟩
  · intro k b sz N K t q
    obtain ⟨rfl, q⟩ := hcase q
    obtain ⟨po', cs, g1, g2, g3, g4, g5, g6, g7, g8⟩ := hi.objs id _ _ _ _ _ q
    rw [ho] at g1; injection g1 with g1; subst g1
    refine ⟨po, cs, by simp [obj], g2, g3, g4, g5, ?_, g7, g8⟩
    intro i ds e1
    obtain ⟨k1, k2⟩ := g6 i ds e1
    refine ⟨k1, fun j d e2 => ?_⟩
    obtain ⟨u, k3, k4, k5⟩ := k2 j d e2
    exact ⟨u, k3, k4, k5.blw (hb _ (List.mem_of_getElem? e1) _ (List.mem_of_getElem? e2)) (fun id hid => absurd hid (by omega))⟩

theorem FnO.mk {f : FuncId} {fn : Func} {c : Code} {ds : List DV} {isPtr : Bool} {po : PO} (hf : P.funcs[f]? = some fn) (hb : fn.body = some c) (hname : (fn.name == "runtime.NumGoroutine") = false)
    (hlen : ds.length ≤ fn.ntmps) (hp : ∀ d ∈ ds, Blw 0 d) (hpo : ∀ ds ∈ po.els, ∀ d ∈ ds, Blw 0 d) (hw : pwp P fn.ntmps 0 c ⟨env0 ds, []⟩ (retO P fn isPtr po)) : FnO P f ds isPtr po := by
  refine ⟨hp, hpo, fun w0 h0 vs hview hsz hrep => ?_⟩
  refine .inl ⟨fn, c, hf, hb, hname, calls_pwp (C := Ctx.plain w0 h0) hf hb rfl (fun b o e => lt_of_some (hview b o e)) hw (sim_start hview hsz hlen hrep) ?_⟩
  rintro e st a w ⟨hd, hn, h, β, hi, he⟩ hk
  have hret : ∀ (hk : resK P fn st (ownK isPtr po st.σ)), a.defers = [] ∧ ∃ v, (results fn a.tmps).run P w = .ok v w ∧ (∃ v', Ending.returned v = .returned v' ∧ ∃ h β, Inv (Ctx.plain w0 h0) [some po] h β w ∧ Rep h β v' (bif isPtr then .pobj 0 0 0 else .ref 0 0 po.els.length)) := by
    intro hk
    obtain ⟨v, d, hrun, hr, id, ho, hfz, rfl⟩ := resK_sound hi he hk
    refine ⟨hd, v, hrun, v, rfl, h, _, inv_pick rfl hi ho hpo, ?_⟩
    cases isPtr with
    | true =>
      simp only [cond_true] at hr ⊢
      cases hr with
      | pobjAt _ _ _ b sz N K' t hb ht => exact .pobjAt _ _ _ _ _ _ _ _ ((if_pos rfl).trans hb) ht
      | pobjDead _ _ _ _ hb => exact .pobjDead _ _ _ _ ((if_pos rfl).trans hb)
    | false =>
      simp only [cond_false] at hr ⊢
      generalize hL : po.els.length = L at *
      cases hr with
      | refAt _ _ _ cap oo b sz N K' t hb q1 q2 q3 ht => exact .refAt _ _ _ _ _ _ _ _ _ _ ((if_pos rfl).trans hb) q1 q2 q3 ht
      | refNil _ hb => exact .refNil _ ((if_pos rfl).trans hb)
      | refDead _ _ _ _ hb => exact .refDead _ _ _ _ ((if_pos rfl).trans hb)
  cases e with
  | normal => exact ⟨.inl rfl, (hret hk).2⟩
  | ret => exact ⟨.inr rfl, (hret hk).2⟩
  | exit id => exact hk.elim
  | goto l => exact hk.elim
  | panic ch => exact hk.elim
  | outgrown => exact hk.elim

/-- The end of a call that was lent k objects: as it stands, or told anew (what is lent keeps its number). -/
def finSK (k : Nat) (σ : Objs) (R : DV → Objs → Prop) (d : DV) : Prop :=
  R d σ ∨ ∃ F ids d' σ', (∀ j, j < k → ids[j]? = some (some j)) ∧ RenOs (fobj (frz F σ)) ids (frz F σ) σ' ∧ Ren (fobj (frz F σ)) ids d d' ∧ R d' σ'
def retS (P : Program) (fn : Func) (k : Nat) (R : DV → Objs → Prop) (e : Exit) (st : PSt) : Prop :=
  match e with
  | .normal | .ret => resK P fn st (finSK k st.σ R)
  | _ => False
theorem sim_startS {w0 : World} {h0 : Hp} {β0 : Nat → Bl} {σ0 : Objs} {vs : Array Value} {ds : List DV} {m : Nat} (hi : Inv ⟨w0, h0, σ0.length, β0, []⟩ σ0 h0 β0 w0) (hsz : vs.size = ds.length) (hlen : ds.length ≤ m)
    (hrep : ∀ (i : Nat) (v : Value) (d : DV), vs[i]? = some v → ds[i]? = some d → Rep h0 β0 v d) :
    Sim ⟨w0, h0, σ0.length, β0, []⟩ m ⟨env0 ds, σ0⟩ { tmps := vs ++ Array.replicate (m - vs.size) undef, defers := [] } w0 := by
  refine ⟨rfl, by simp; omega, h0, β0, hi, ?_⟩
  intro t
  simp only [env0, Array.getD_eq_getD_getElem?, Array.getElem?_append]
  by_cases ht : t < vs.size
  · rw [if_pos ht, Array.getElem?_eq_getElem ht, List.getElem?_eq_getElem (by omega)]
    exact hrep t _ _ (Array.getElem?_eq_getElem ht) (List.getElem?_eq_getElem (by omega))
  · rw [List.getElem?_eq_none (by omega)]
    exact .junk _
theorem FnS.mk {f : FuncId} {fn : Func} {c : Code} {ds : List DV} {σ0 : Objs} {R : DV → Objs → Prop} (hf : P.funcs[f]? = some fn) (hb : fn.body = some c) (hname : (fn.name == "runtime.NumGoroutine") = false)
    (hlen : ds.length ≤ fn.ntmps) (hw : pwp P fn.ntmps σ0.length c ⟨env0 ds, σ0⟩ (retS P fn σ0.length R)) : FnS P f ds σ0 R := by
  intro w0 h0 β0 vs hi hsz hrep
  refine .inl ⟨fn, c, hf, hb, hname, calls_pwp (C := ⟨w0, h0, σ0.length, β0, []⟩) hf hb rfl (fun b o e => lt_of_some (hi.view b o e)) hw (sim_startS hi hsz hlen hrep) ?_⟩
  rintro e st a w ⟨hd, hn, h, β, hi, he⟩ hk
  have hret : ∀ (hk : resK P fn st (finSK σ0.length st.σ R)), a.defers = [] ∧ ∃ v, (results fn a.tmps).run P w = .ok v w ∧ (∃ v', Ending.returned v = .returned v' ∧ ∃ d σ h β, R d σ ∧ Inv ⟨w0, h0, σ0.length, β0, []⟩ σ h β w ∧ Rep h β v' d) := by
    intro hk
    obtain ⟨v, d, hrun, hr, hfin⟩ := resK_sound hi he hk
    refine ⟨hd, v, hrun, v, rfl, ?_⟩
    rcases hfin with hR | ⟨F, ids, d', σ', q1, q2, q3, hR⟩
    · exact ⟨d, st.σ, h, β, hR, hi, hr⟩
    · obtain ⟨h', hle, hi'⟩ := inv_frz F st.σ h hi
      exact ⟨d', σ', h', _, hR, inv_ren hi' q1 q2, ren_rep hi' q3 (hr.mono hle (BLe.refl β))⟩
  cases e with
  | normal => exact ⟨.inl rfl, (hret hk).2⟩
  | ret => exact ⟨.inr rfl, (hret hk).2⟩
  | exit id => exact hk.elim
  | goto l => exact hk.elim
  | panic ch => exact hk.elim
  | outgrown => exact hk.elim
/-- A contract without memory of the caller's, told as one that is lent nothing. -/
theorem FnS.imp {f : FuncId} {ds : List DV} {σ0 : Objs} {R R' : DV → Objs → Prop} (h : FnS P f ds σ0 R) (hR : ∀ d σ, R d σ → R' d σ) : FnS P f ds σ0 R' := by
  intro w0 h0 β0 vs hi hsz hrep
  rcases h w0 h0 β0 vs hi hsz hrep with ⟨fn, c, h1, h2, h3, h4⟩ | ⟨v, w', h1, d, σ, h', β, h2, h3⟩
  · exact .inl ⟨fn, c, h1, h2, h3, h4.mono fun e w' ⟨v, e1, d, σ, h', β, e2, e3⟩ => ⟨v, e1, d, σ, h', β, hR _ _ e2, e3⟩⟩
  · exact .inr ⟨v, w', h1, d, σ, h', β, hR _ _ h2, h3⟩

/-- A call that the model answers by itself. -/
theorem FnC.ext {f : FuncId} {ds : List DV} {R : DV → Prop} (hp : ∀ d ∈ ds, Blw 0 d) (hpr : ∀ d, R d → Blw 0 d) (hrun : ∀ (vs : Array Value) (h : Hp) (w : World), vs.size = ds.length →
    (∀ (i : Nat) (v : Value) (d : DV), vs[i]? = some v → ds[i]? = some d → Rep h (fun _ => .no) v d) → ∃ v d, (callFunc f vs).run P w = .ok (.value v) w ∧ Rep h (fun _ => .no) v d ∧ R d) : FnC P f ds R := by
  refine ⟨hp, hpr, fun w0 h0 vs hview hsz hrep => ?_⟩
  obtain ⟨v, d, hr, hr2, hR⟩ := hrun vs h0 w0 hsz hrep
  exact .inr ⟨v, w0, hr, d, h0, hR, hr2, Below.refl _ _, hview, HLe.refl _, fun b o e => .inl ⟨e, lt_of_some (hview b o e)⟩⟩

theorem drawK.mk {ops : Array Oper} {st : PSt} {p : Det → Prop} {K : PSt → Prop} (h : (drawOk M0 ops && P.follows .mixedOrders) = true) (hp : p (some M0)) : drawK P n ops st p K := by
  unfold drawK; exact .inl ⟨_, noAl, (fun _ _ e => by cases e), h, hp⟩
/-- ... with calls that make objects (1) or write (2), by what they write. -/
theorem drawK.mkM {ops : Array Oper} {st : PSt} {p : Det → Prop} {K : PSt → Prop} (M : Nat → Nat) (h : (drawOk M ops && P.follows .mixedOrders) = true) (hp : p (some M)) : drawK P n ops st p K := by
  unfold drawK; exact .inl ⟨M, noAl, (fun _ _ e => by cases e), h, hp⟩
theorem aliasB_P {ops : Array Oper} {env : Env} {a b : Tmp} (h : aliasB ops env a b = true) : AliasP ops env a b := by
  unfold aliasB at h
  split at h
  · rename_i id i j id' i' j' h1 h2
    rw [Bool.and_eq_true] at h
    refine ⟨fun k o hk => ?_, id, i, j, id', i', j', h1, h2, fun e => ?_⟩
    · have := (List.all_eq_true.1 h.2) o (by rw [← Array.getElem?_toList] at hk; exact List.mem_of_getElem? hk)
      cases hd : o.dst with
      | none => exact ⟨by simp, by simp⟩
      | some t =>
        rw [hd] at this
        simp only [Bool.and_eq_true] at this
        refine ⟨fun e => ?_, fun e => ?_⟩
        · injection e with e; subst e; simp at this
        · injection e with e; subst e; simp at this
    · subst e; simp at h
  · cases h
/-- ... where loads and stores of different objects have no order. -/
theorem drawK.mkA {ops : Array Oper} {st : PSt} {p : Det → Prop} {K : PSt → Prop} (M : Nat → Nat) (h : (drawOkA (aliasB ops st.env) M ops && P.follows .mixedOrders) = true) (hp : p (some M)) : drawK P n ops st p K := by
  unfold drawK; exact .inl ⟨M, _, (fun _ _ e => aliasB_P e), h, hp⟩
/-- ... two objects that are made in either order. -/
theorem drawK.mkS {ops : Array Oper} {st : PSt} {p : Det → Prop} {K : PSt → Prop} (a : Nat) (h : (swapOk P a ops && P.follows .mixedOrders) = true) (hp : pops P n (some M0) ops ops.toList [] st fun st' => ScaAt a ops st' ∧ K st') : drawK P n ops st p K := by
  unfold drawK; exact .inr ⟨a, h, hp⟩
theorem callW.mk {f : FuncId} {ds : List DV} {σ σ2 : Objs} {K : DV → Objs → Prop} {d2 : DV} (h : ∀ K' : DV → Objs → Prop, K' d2 σ2 → callK P f ds σ K') (hK : K d2 σ2) : callW P f ds σ K := by
  unfold callW; exact ⟨d2, σ2, h, hK⟩
theorem callM.mk {f : FuncId} {ds ds' : List DV} {σ : Objs} {K : DV → Objs → Prop} {isPtr : Bool} {po : PO} (F : List Nat) (hf : FnO P f ds' isPtr po) (hs : Snaps (fobj (frz F σ)) ds ds') (hz : po.frz = false) (hc : ∀ es ∈ po.els, ∀ d ∈ es, Sca d)
    (hK : K (bif isPtr then .pobj σ.length 0 0 else .ref σ.length 0 po.els.length) (σ ++ [some po])) : callM P f ds σ K := by
  unfold callM; exact ⟨F, ds', isPtr, po, hs, hf, hz, hc, hK⟩
theorem EqOk.mk {t : TypeId} (h : (eqOkB P 6 t && !P.eqGuardType P.depth t) = true) : EqOk P t := by
  unfold EqOk; exact h
theorem guardK.split {ops : Array Oper} {st : PSt} {K : PSt → Prop} (h : pops P n none ops ops.toList [] st K) : guardK P n k ops st K := by
  unfold guardK guard0; exact .inl (.inl h)
theorem guardK.spec {ops : Array Oper} {st : PSt} {K : PSt → Prop} (h : specs P n ops ops.toList [] st fun G st' => K ⟨clr G st'.env, st'.σ⟩) : guardK P n k ops st K := by
  unfold guardK guard0; exact .inl (.inr h)
theorem Snaps.pure {g : Nat → Option PO} : ∀ {ds : List DV}, (∀ d ∈ ds, Blw 0 d) → Snaps g ds ds
  | [], _ => trivial
  | d :: ds, h => ⟨.pure d (h d (List.mem_cons_self ..)), Snaps.pure fun x hx => h x (List.mem_cons_of_mem _ hx)⟩
theorem callE.mk {f : FuncId} {ds : List DV} {σ : Objs} {K : DV → Prop} {r : DV} (hf : FnC P f ds (· = r)) (hK : K r) : callE P f ds σ K := by
  unfold callE; exact ⟨[], ds, r, Snaps.pure hf.1, hf, .inl rfl, hK⟩
/-- Objects F are lent; the answer tells no memory. -/
theorem callE.lend {f : FuncId} {ds ds' : List DV} {σ : Objs} {K : DV → Prop} {r : DV} (F : List Nat) (hf : FnC P f ds' (· = r)) (hs : Snaps (fobj (frz F σ)) ds ds') (hr : Sca r) (hK : K r) : callE P f ds σ K := by
  unfold callE; exact ⟨F, ds', r, hs, hf, .inr hr, hK⟩

theorem callK.intro {f : FuncId} {ds : List DV} {σ : Objs} {K : DV → Objs → Prop} {R : DV → Prop} (hf : FnC P f ds R) (hK : ∀ d, R d → K d σ) : callK P f ds σ K := by
  unfold callK; exact .inl ⟨[], ds, Snaps.pure hf.1, .inl ⟨R, hf, fun d hd => .inr (hK d hd)⟩⟩
theorem callK.eq {f : FuncId} {ds : List DV} {σ : Objs} {K : DV → Objs → Prop} {r : DV} (hf : FnC P f ds (· = r)) (hK : K r σ) : callK P f ds σ K :=
  .intro hf fun _ e => e ▸ hK
/-- Objects F are lent; the answer tells no memory. -/
theorem callK.lend {f : FuncId} {ds ds' : List DV} {σ : Objs} {K : DV → Objs → Prop} {r : DV} (F : List Nat) (hf : FnC P f ds' (· = r)) (hs : Snaps (fobj (frz F σ)) ds ds') (hr : Sca r) (hK : K r σ) : callK P f ds σ K := by
  unfold callK; exact .inl ⟨F, ds', hs, .inl ⟨_, hf, fun d e => .inl (by subst e; exact ⟨hr, hK⟩)⟩⟩
/-- Objects F are given away: they are written no more. -/
theorem callK.give {f : FuncId} {ds ds' : List DV} {σ : Objs} {K : DV → Objs → Prop} {r : DV} (F : List Nat) (hf : FnC P f ds' (· = r)) (hs : Snaps (fobj (frz F σ)) ds ds') (hK : K r (frz F σ)) : callK P f ds σ K := by
  unfold callK; exact .inl ⟨F, ds', hs, .inl ⟨_, hf, fun d e => .inr (by subst e; exact hK)⟩⟩
/-- The answer is a new object. -/
theorem callK.own {f : FuncId} {ds : List DV} {σ : Objs} {K : DV → Objs → Prop} {isPtr : Bool} {po : PO} (hf : FnO P f ds isPtr po)
    (hK : K (bif isPtr then .pobj σ.length 0 0 else .ref σ.length 0 po.els.length) (σ ++ [some po])) : callK P f ds σ K := by
  unfold callK; exact .inl ⟨[], ds, Snaps.pure hf.1, .inr ⟨isPtr, po, hf, hK⟩⟩

/-- Objects F are lent for good; the answer is a new object. -/
theorem callK.ownF {f : FuncId} {ds ds' : List DV} {σ : Objs} {K : DV → Objs → Prop} {isPtr : Bool} {po : PO} (F : List Nat) (hf : FnO P f ds' isPtr po) (hs : Snaps (fobj (frz F σ)) ds ds')
    (hK : K (bif isPtr then .pobj (frz F σ).length 0 0 else .ref (frz F σ).length 0 po.els.length) (frz F σ ++ [some po])) : callK P f ds σ K := by
  unfold callK; exact .inl ⟨F, ds', hs, .inr ⟨isPtr, po, hf, hK⟩⟩
theorem lenS_ref {σ : Objs} {id off len : Nat} {po : PO} (h : obj σ id = some po) : lenS σ (.ref id off len) = some len := by simp [lenS, h]
theorem bool_eq {a b : Bool} (h : a = b) : DV.bool a = .bool b := by rw [h]
theorem int_eq {k : IntKind} {a b : Int} (h : a = b) : DV.int k a = .int k b := by rw [h]
theorem ref_eq {id off a b : Nat} (h : a = b) : DV.ref id off a = .ref id off b := by rw [h]
/-- So many elements, of so many bytes each, may be held. -/
def capOk (n b : Nat) : Prop := n ≤ maxLen ∧ n * b ≤ 140737488355328
theorem capOk.lit {n b : Nat} (m c : Nat) (h : n = m) (h' : b = c) (hm : m ≤ 1000) (hc : c ≤ 1000) : capOk n b := by
  subst h; subst h'
  have : n * b ≤ 1000 * 1000 := Nat.mul_le_mul hm hc
  exact ⟨by simp [maxLen]; omega, by omega⟩
theorem capOk.of {n b : Nat} (c : Nat) (h' : b = c) (hn : n ≤ 100000000000) (hc : c ≤ 1000) : capOk n b := by
  subst h'
  have : n * b ≤ 100000000000 * 1000 := Nat.mul_le_mul hn hc
  exact ⟨by simp [maxLen]; omega, by omega⟩
theorem capOk.at {n b : Nat} (c : Nat) (h' : b = c) (hn : n ≤ maxLen) (hc : n * c ≤ 140737488355328) : capOk n b := by
  subst h'; exact ⟨hn, hc⟩
def elsOk (sz : Nat) (news : List (List DV)) : Prop := ∀ ds ∈ news, ds.length = sz
theorem elsOk.nil {sz : Nat} : elsOk sz [] := fun _ h => by cases h
theorem elsOk.cons {sz : Nat} {d : List DV} {l : List (List DV)} (h : d.length = sz) (h' : elsOk sz l) : elsOk sz (d :: l) := fun x hx => by
  rcases List.mem_cons.1 hx with rfl | hx
  · exact h
  · exact h' x hx
def infOk (i : TypeInfo) : Bool := !Nat.beq i.size 0 && (match i.zero with | some z => Nat.beq z.cells.size i.size | none => false)
def poOk (po : PO) (i : TypeInfo) (e : TypeId) : Bool := !po.frz && Nat.beq po.sz i.size && Nat.beq po.ty e
theorem infOk.use {i : TypeInfo} (h : infOk i = true) : i.size ≠ 0 ∧ (i.zero.map fun z => z.cells.size) = some i.size := by
  unfold infOk at h
  rw [Bool.and_eq_true] at h
  refine ⟨fun e => by rw [e] at h; simp at h, ?_⟩
  cases hz : i.zero with
  | none => rw [hz] at h; simp at h
  | some z => rw [hz] at h; simp only [Option.map_some]; rw [Nat.eq_of_beq_eq_true h.2]
/-- append to a slice that shows a whole object. -/
theorem appK.ref {e : TypeId} {s x : DV} {σ : Objs} {K : DV → Objs → Prop} {i : TypeInfo} {id len : Nat} {po : PO} {news : List (List DV)} (hi : infoC P e = some i) (hs : s = .ref id 0 len) (hx : elsOf σ x = some news)
    (ho : obj σ id = some po) (h1 : infOk i = true) (h2 : poOk po i e = true) (hl : len = po.els.length) (h3 : elsOk i.size news) (hc : capOk (len + news.length) i.bytes)
    (hK : K (.ref σ.length 0 (len + news.length)) (σ.set id none ++ [some ⟨false, i.size, e, po.els ++ news⟩])) : appK P e s x σ K := by
  subst hs
  unfold appK
  rw [hi, hx]
  unfold poOk at h2
  rw [Bool.and_eq_true, Bool.and_eq_true, Bool.not_eq_true'] at h2
  refine ⟨(infOk.use h1).1, h3, (infOk.use h1).2, rfl, ?_⟩
  rw [ho]
  exact ⟨h2.1.1, Nat.eq_of_beq_eq_true h2.1.2, Nat.eq_of_beq_eq_true h2.2, hl, hc.1, hc.2, hK⟩
theorem appK.nil {e : TypeId} {s x : DV} {σ : Objs} {K : DV → Objs → Prop} {i : TypeInfo} {news : List (List DV)} (hi : infoC P e = some i) (hs : s = .nils) (hx : elsOf σ x = some news)
    (h1 : infOk i = true) (h3 : elsOk i.size news) (hc : capOk news.length i.bytes)
    (hK : K (.ref σ.length 0 news.length) (σ ++ [some ⟨false, i.size, e, news⟩])) : appK P e s x σ K := by
  subst hs
  unfold appK
  rw [hi, hx]
  exact ⟨(infOk.use h1).1, h3, (infOk.use h1).2, hc.1, hc.2, hK⟩
/-- append, as it is reckoned. -/
def appR (P : Program) (e : TypeId) (s x : DV) (σ : Objs) (K : DV → Objs → Prop) : Prop :=
  optK (infoC P e) fun i => bif infOk i then optK (elsOf σ x) fun news => elsOk i.size news ∧
    match s with
    | .nils => capOk news.length i.bytes ∧ K (.ref σ.length 0 news.length) (σ ++ [some ⟨false, i.size, e, news⟩])
    | .ref id off len => optK (obj σ id) fun po => bif poOk po i e && Nat.beq off 0 then len = po.els.length ∧ capOk (len + news.length) i.bytes ∧
        K (.ref σ.length 0 (len + news.length)) (σ.set id none ++ [some ⟨false, i.size, e, po.els ++ news⟩]) else False
    | _ => False
  else False
theorem appK.go {e : TypeId} {s x : DV} {σ : Objs} {K : DV → Objs → Prop} (h : appR P e s x σ K) : appK P e s x σ K := by
  unfold appR at h
  obtain ⟨i, hi, h⟩ := optK_some h
  obtain ⟨h1, h⟩ := bif_true h
  obtain ⟨news, hx, h3, h⟩ := optK_some h
  split at h
  · exact appK.nil hi rfl hx h1 h3 h.1 h.2
  · obtain ⟨po, ho, h⟩ := optK_some h
    obtain ⟨h2, h4, h5, h6⟩ := bif_true h
    rw [Bool.and_eq_true] at h2
    have := Nat.eq_of_beq_eq_true h2.2
    subst this
    exact appK.ref hi rfl hx ho h1 h2.1 h4 h3 h5 h6
  · exact h.elim
theorem ref_len {id off a b : Nat} (n : Nat) (h : a = n) (h' : n = b) : DV.ref id off a = .ref id off b := by rw [h, h']
def dropS : Nat → Code → Code
  | n + 1, .seq _ b => dropS n b
  | _, c => c
def bodyOf (fn : Func) : Code := fn.body.getD .skip
theorem optK.mk {α : Type} {x : Option α} {K : α → Prop} {y : α} (h : x = some y) (hk : K y) : optK x K := by subst h; exact hk

def envL : List Nat → List DV → Env
  | t :: L, v :: vs, x => bif Nat.beq x t then v else envL L vs x
  | _, _, _ => .junk
def EnvIs (e : Env) : List Nat → List DV → Prop
  | [], [] => True
  | t :: L, v :: vs => e t = v ∧ EnvIs e L vs
  | _, _ => False
def SigIs (σ σ' : Objs) (vs : List DV) : Prop :=
  σ = σ' ∨ ∃ tail, σ = σ' ++ tail ∧ (∀ v ∈ vs, Blw σ'.length v) ∧ ∀ po, some po ∈ σ' → ∀ ds ∈ po.els, ∀ d ∈ ds, Blw σ'.length d

theorem envL_cases : ∀ (L : List Nat) (vs : List DV) (e : Env) (t : Nat), EnvIs e L vs → envL L vs t = .junk ∨ (envL L vs t = e t ∧ envL L vs t ∈ vs)
  | [], [], _, _, _ => .inl rfl
  | [], _ :: _, _, _, h => h.elim
  | _ :: _, [], _, _, h => h.elim
  | s :: L, v :: vs, e, t, h => by
    simp only [envL]
    cases hb : Nat.beq t s with
    | true =>
      have := Nat.eq_of_beq_eq_true hb
      subst this
      exact .inr ⟨h.1.symm, List.mem_cons_self ..⟩
    | false =>
      rcases envL_cases L vs e t h.2 with q | ⟨q1, q2⟩
      · exact .inl q
      · exact .inr ⟨q1, List.mem_cons_of_mem _ q2⟩

theorem weak_of {st : PSt} {L : List Nat} {vs : List DV} {σ : Objs} (he : EnvIs st.env L vs) (hs : SigIs st.σ σ vs) (hk : k ≤ σ.length) : Weak k st ⟨envL L vs, σ⟩ := by
  refine .inl ?_
  rcases hs with hs | ⟨tail, h1, h2, h3⟩
  · refine ⟨[], by simpa using hs, fun t => ?_, .inl rfl⟩
    rcases envL_cases L vs st.env t he with q | ⟨q, _⟩
    · exact .inl q
    · exact .inr ⟨q, .inl rfl⟩
  · refine ⟨tail, h1, fun t => ?_, .inr ⟨hk, h3⟩⟩
    rcases envL_cases L vs st.env t he with q | ⟨q, hm⟩
    · exact .inl q
    · exact .inr ⟨q, .inr (q ▸ h2 _ hm)⟩

/-- A loop: L: the temporaries that its round reads ahead of writing them; what they hold, and the objects, as a function of s; what holds of s; what goes down. -/
theorem loopK.use {S : Type} {F : PSt → (Exit → PSt → Prop) → Prop} {st : PSt} {K : Exit → PSt → Prop} (L : List Nat) (vals : S → List DV) (objs : S → Objs) (J : S → Prop) (μ : S → Nat) (s0 : S)
    (hJ : J s0) (he : EnvIs st.env L (vals s0)) (hs : SigIs st.σ (objs s0) (vals s0))
    (hround : ∀ s, J s → F ⟨envL L (vals s), objs s⟩ fun e st' =>
      match e with
      | .normal => ∃ m' st'', m' < μ s ∧ Weak k st' st'' ∧ ∃ s, J s ∧ μ s = m' ∧ st'' = ⟨envL L (vals s), objs s⟩
      | e => K e st') (hk : k ≤ (objs s0).length := by first | exact Nat.zero_le _ | exact Nat.le_of_ble_eq_true rfl) : loopK k F st K := by
  unfold loopK
  refine ⟨fun m st => ∃ s, J s ∧ μ s = m ∧ st = ⟨envL L (vals s), objs s⟩, μ s0, _, weak_of he hs hk, ⟨s0, hJ, rfl, rfl⟩, ?_⟩
  rintro _ _ ⟨s, hJs, rfl, rfl⟩
  exact hround s hJs

theorem Weak.refl {k : Nat} (st : PSt) : Weak k st st := .inl ⟨[], by simp, fun t => .inr ⟨rfl, .inl rfl⟩, .inl rfl⟩
/-- What the temporaries hold, told anew. -/
def EnvRen (g : Nat → Option PO) (ids : List (Option Nat)) (e : Env) : List Nat → List DV → Prop
  | [], [] => True
  | t :: L, v :: vs => Ren g ids (e t) v ∧ EnvRen g ids e L vs
  | _, _ => False
theorem envL_ren {g : Nat → Option PO} {ids : List (Option Nat)} : ∀ (L : List Nat) (vs : List DV) (e : Env) (t : Nat), EnvRen g ids e L vs → envL L vs t = .junk ∨ Ren g ids (e t) (envL L vs t)
  | [], [], _, _, _ => .inl rfl
  | [], _ :: _, _, _, h => h.elim
  | _ :: _, [], _, _, h => h.elim
  | s :: L, v :: vs, e, t, h => by
    simp only [envL]
    cases hb : Nat.beq t s with
    | true =>
      have := Nat.eq_of_beq_eq_true hb
      subst this
      exact .inr h.1
    | false => exact envL_ren L vs e t h.2
/-- The objects, told anew: each new one by the old one that it is (ids), its elements one by one (or all alike). -/
def RenEls (g : Nat → Option PO) (ids : List (Option Nat)) (xs ys : List (List DV)) : Prop :=
  (xs = ys ∧ ∀ ds ∈ ys, ∀ d ∈ ds, Blw 0 d) ∨ (ys.length = xs.length ∧ ∀ (k : Nat) es ds, xs[k]? = some es → ys[k]? = some ds → ds.length = es.length ∧ ∀ (j : Nat) e d, es[j]? = some e → ds[j]? = some d → Ren g ids e d)
def objRen (g : Nat → Option PO) (ids : List (Option Nat)) (σ : Objs) (i : Option Nat) (x : Option PO) : Prop :=
  match x with
  | none => True
  | some po' =>
    match i with
    | none => po'.els = []
    | some i =>
      match obj σ i with
      | some po => po'.frz = po.frz ∧ po'.sz = po.sz ∧ po'.ty = po.ty ∧ RenEls g ids po.els po'.els
      | none => False
def objsRen (g : Nat → Option PO) (ids : List (Option Nat)) (σ : Objs) : List (Option Nat) → Objs → Prop
  | [], [] => True
  | i :: is, x :: xs => objRen g ids σ i x ∧ objsRen g ids σ is xs
  | _, _ => False
def distinctI : List (Option Nat) → Bool
  | [] => true
  | none :: is => distinctI is
  | some i :: is => is.all (fun x => match x with | some j => !Nat.beq i j | none => true) && distinctI is
theorem distinctI_get : ∀ (ids : List (Option Nat)), distinctI ids = true → ∀ (j j' i : Nat), ids[j]? = some (some i) → ids[j']? = some (some i) → j = j'
  | [], _, j, j', i, e, _ => by simp at e
  | none :: is, h, j, j', i, e, e' => by
    cases j with
    | zero => simp at e
    | succ j =>
      cases j' with
      | zero => simp at e'
      | succ j' => rw [distinctI_get is h j j' i (by simpa using e) (by simpa using e')]
  | some x :: is, h, j, j', i, e, e' => by
    simp only [distinctI, Bool.and_eq_true] at h
    have key : ∀ m, is[m]? = some (some x) → False := fun m hm => by
      have := List.all_eq_true.1 h.1 _ (List.mem_of_getElem? hm)
      simp at this
    cases j with
    | zero =>
      simp at e; subst e
      cases j' with
      | zero => rfl
      | succ j' => exact (key j' (by simpa using e')).elim
    | succ j =>
      cases j' with
      | zero => simp at e'; subst e'; exact (key j (by simpa using e)).elim
      | succ j' => rw [distinctI_get is h.2 j j' i (by simpa using e) (by simpa using e')]
theorem objsRen_get {g : Nat → Option PO} {ids : List (Option Nat)} {σ : Objs} : ∀ (is : List (Option Nat)) (xs : Objs), objsRen g ids σ is xs → xs.length = is.length ∧ ∀ (j : Nat) po', obj xs j = some po' →
    (∃ i po, is[j]? = some (some i) ∧ obj σ i = some po ∧ RenPO g ids po po') ∨ (is[j]? = some none ∧ po'.els = [])
  | [], [], _ => ⟨rfl, fun j po' e => by simp [obj] at e⟩
  | [], _ :: _, h => h.elim
  | _ :: _, [], h => h.elim
  | i :: is, x :: xs, h => by
    obtain ⟨h1, h2⟩ := objsRen_get is xs h.2
    refine ⟨by simp [h1], fun j po' e => ?_⟩
    cases j with
    | succ j => simpa using h2 j po' (by simpa [obj] using e)
    | zero =>
      obtain rfl : x = some po' := by
        cases x with
        | none => simp [obj] at e
        | some y => simp [obj] at e; rw [e]
      have hx := h.1
      unfold objRen at hx
      simp only at hx
      cases i with
      | none => exact .inr ⟨rfl, hx⟩
      | some i =>
        simp only at hx
        split at hx
        · rename_i po hpo
          obtain ⟨q1, q2, q3, q4⟩ := hx
          refine .inl ⟨i, po, rfl, hpo, q1, q2, q3, ?_⟩
          rcases q4 with ⟨q4, q5⟩ | ⟨q4, q5⟩
          · refine ⟨by rw [q4], fun k es ds e1 e2 => ?_⟩
            rw [q4, e2] at e1; injection e1 with e1; subst e1
            refine ⟨rfl, fun y a b e3 e4 => ?_⟩
            rw [e3] at e4; injection e4 with e4; subst e4
            exact .same _ (q5 _ (List.mem_of_getElem? e2) _ (List.mem_of_getElem? e3))
          · exact ⟨q4, q5⟩
        · exact hx.elim
/-- What is lent keeps its number. -/
def lentB (k : Nat) (ids : List (Option Nat)) : Bool := (List.range k).all fun j => match ids[j]? with | some (some i) => Nat.beq i j | _ => false
theorem lentB_get {k : Nat} {ids : List (Option Nat)} (h : lentB k ids = true) : ∀ j, j < k → ids[j]? = some (some j) := by
  intro j hj
  have := List.all_eq_true.1 h j (List.mem_range.2 hj)
  split at this
  · rename_i i hi; rw [hi, Nat.eq_of_beq_eq_true this]
  · cases this
/-- The objects under new numbers: ids tells which old one each new one is; F: those that are written no more from now on. -/
theorem weak_gc {st : PSt} {L : List Nat} {vs : List DV} {σ : Objs} (F : List Nat) (ids : List (Option Nat)) (hd : distinctI ids = true) (he : EnvRen (fobj (frz F st.σ)) ids st.env L vs)
    (hs : objsRen (fobj (frz F st.σ)) ids (frz F st.σ) ids σ) (hk : lentB k ids = true := by first | rfl | decide) : Weak k st ⟨envL L vs, σ⟩ := by
  obtain ⟨h1, h2⟩ := objsRen_get ids σ hs
  exact .inr ⟨F, ids, lentB_get hk, ⟨h1, distinctI_get ids hd, h2⟩, fun t => envL_ren L vs st.env t he⟩
/-- A region with guards, branch by branch; the branches meet: L, vals, objs, J as with a loop; each branch's end is told by join_at or join_gc. -/
theorem guardK.join {S : Type} {ops : Array Oper} {st : PSt} {K : PSt → Prop} (L : List Nat) (vals : S → List DV) (objs : S → Objs) (J : S → Prop)
    (h1 : pops P n none ops ops.toList [] st fun st' => ∃ st'', Weak k st' st'' ∧ ∃ s, J s ∧ st'' = ⟨envL L (vals s), objs s⟩)
    (h2 : ∀ s, J s → K ⟨envL L (vals s), objs s⟩) : guardK P n k ops st K := by
  unfold guardK
  exact .inr ⟨fun st' => ∃ s, J s ∧ st' = ⟨envL L (vals s), objs s⟩, h1, fun st' ⟨s, hs, e⟩ => e ▸ h2 s hs⟩
/-- A loop, whose start is told anew. -/
theorem loopK.useG {S : Type} {F : PSt → (Exit → PSt → Prop) → Prop} {st : PSt} {K : Exit → PSt → Prop} (L : List Nat) (vals : S → List DV) (objs : S → Objs) (J : S → Prop) (μ : S → Nat) (s0 : S)
    (hJ : J s0) (hw : Weak k st ⟨envL L (vals s0), objs s0⟩)
    (hround : ∀ s, J s → F ⟨envL L (vals s), objs s⟩ fun e st' =>
      match e with
      | .normal => ∃ m' st'', m' < μ s ∧ Weak k st' st'' ∧ ∃ s, J s ∧ μ s = m' ∧ st'' = ⟨envL L (vals s), objs s⟩
      | e => K e st') : loopK k F st K := by
  unfold loopK
  refine ⟨fun m st => ∃ s, J s ∧ μ s = m ∧ st = ⟨envL L (vals s), objs s⟩, μ s0, _, hw, ⟨s0, hJ, rfl, rfl⟩, ?_⟩
  rintro _ _ ⟨s, hJs, rfl, rfl⟩
  exact hround s hJs
theorem join_gc {S : Type} {L : List Nat} {vals : S → List DV} {objs : S → Objs} {J : S → Prop} {st' : PSt} (s : S) (hJ : J s) (hw : Weak k st' ⟨envL L (vals s), objs s⟩) :
    ∃ st'', Weak k st' st'' ∧ ∃ s, J s ∧ st'' = ⟨envL L (vals s), objs s⟩ := ⟨_, hw, s, hJ, rfl⟩
theorem loop_gc {S : Type} {L : List Nat} {vals : S → List DV} {objs : S → Objs} {J : S → Prop} {μ : S → Nat} {m : Nat} {st' : PSt} (s' : S) (hJ : J s') (hlt : μ s' < m)
    (hw : Weak k st' ⟨envL L (vals s'), objs s'⟩) : ∃ m' st'', m' < m ∧ Weak k st' st'' ∧ ∃ s, J s ∧ μ s = m' ∧ st'' = ⟨envL L (vals s), objs s⟩ :=
  ⟨μ s', _, hlt, hw, s', hJ, rfl, rfl⟩
/-- An object whose elements tell no object, kept. -/
theorem els_same {g : Nat → Option PO} {ids : List (Option Nat)} {xs ys : List (List DV)} (h : xs = ys) (hb : ∀ ds ∈ ys, ∀ d ∈ ds, Blw 0 d) : RenEls g ids xs ys := .inl ⟨h, hb⟩
theorem ren_eq {g : Nat → Option PO} {ids : List (Option Nat)} {d d' : DV} (h : d = d') (hb : Blw 0 d') : Ren g ids d d' := by subst h; exact .same _ hb
theorem ren_ref {g : Nat → Option PO} {ids : List (Option Nat)} {i j off len len' : Nat} (h : ids[j]? = some (some i)) (hl : len = len') : Ren g ids (.ref i off len) (.ref j off len') := hl ▸ .ref i j off len h

/-- The ways are told one by one, each up to the end. -/
theorem joinK.direct {F G : PSt → (Exit → PSt → Prop) → Prop} {st : PSt} {K : Exit → PSt → Prop} (h : F st fun e st' => match e with | .normal => ∃ st'', Weak k st' st'' ∧ G st'' K | e => K e st') : joinK k F G st K := by
  unfold joinK
  exact ⟨fun st' => G st' K, h, fun _ h => h⟩
/-- ... and at a way's end: on. -/
theorem join_go {st : PSt} {M : PSt → Prop} (h : M st) : ∃ st'', Weak k st st'' ∧ M st'' := ⟨st, .refl st, h⟩
/-- The ways meet: L, vals, objs, J as with a loop; each way's end is told by join_at. -/
theorem joinK.use {S : Type} {F G : PSt → (Exit → PSt → Prop) → Prop} {st : PSt} {K : Exit → PSt → Prop} (L : List Nat) (vals : S → List DV) (objs : S → Objs) (J : S → Prop)
    (h1 : F st fun e st' => match e with | .normal => ∃ st'', Weak k st' st'' ∧ ∃ s, J s ∧ st'' = ⟨envL L (vals s), objs s⟩ | e => K e st')
    (h2 : ∀ s, J s → G ⟨envL L (vals s), objs s⟩ K) : joinK k F G st K := by
  unfold joinK
  exact ⟨fun st' => ∃ s, J s ∧ st' = ⟨envL L (vals s), objs s⟩, h1, fun st' ⟨s, hs, e⟩ => e ▸ h2 s hs⟩
theorem join_at {S : Type} {L : List Nat} {vals : S → List DV} {objs : S → Objs} {J : S → Prop} {st' : PSt} (s : S) (hJ : J s) (he : EnvIs st'.env L (vals s)) (hs : SigIs st'.σ (objs s) (vals s)) (hk : k ≤ (objs s).length := by first | exact Nat.zero_le _ | exact Nat.le_of_ble_eq_true rfl) :
    ∃ st'', Weak k st' st'' ∧ ∃ s, J s ∧ st'' = ⟨envL L (vals s), objs s⟩ := ⟨_, weak_of he hs hk, s, hJ, rfl⟩

theorem loop_next {S : Type} {L : List Nat} {vals : S → List DV} {objs : S → Objs} {J : S → Prop} {μ : S → Nat} {m : Nat} {st' : PSt} (s' : S) (hJ : J s') (hlt : μ s' < m)
    (he : EnvIs st'.env L (vals s')) (hs : SigIs st'.σ (objs s') (vals s')) (hk : k ≤ (objs s').length := by first | exact Nat.zero_le _ | exact Nat.le_of_ble_eq_true rfl) : ∃ m' st'', m' < m ∧ Weak k st' st'' ∧ ∃ s, J s ∧ μ s = m' ∧ st'' = ⟨envL L (vals s), objs s⟩ :=
  ⟨μ s', _, hlt, weak_of he hs hk, s', hJ, rfl, rfl⟩

@[simp] theorem sca_bool {b : Bool} : Sca (.bool b) ↔ True := ⟨fun _ => trivial, fun _ => .bool b⟩
@[simp] theorem sca_int {k : IntKind} {x : Int} : Sca (.int k x) ↔ True := ⟨fun _ => trivial, fun _ => .int k x⟩
@[simp] theorem sca_flt {k : FloatKind} {x : Nat} : Sca (.flt k x) ↔ True := ⟨fun _ => trivial, fun _ => .flt k x⟩
@[simp] theorem sca_str {s : ByteArray} : Sca (.str s) ↔ True := ⟨fun _ => trivial, fun _ => .str s⟩
@[simp] theorem sca_agg {cs : List DV} : Sca (.agg cs) ↔ ∀ d ∈ cs, Sca d := ⟨fun h => by cases h with | agg _ h => exact h, .agg cs⟩
@[simp] theorem sca_tup {cs : List DV} : Sca (.tup cs) ↔ ∀ d ∈ cs, Sca d := ⟨fun h => by cases h with | tup _ h => exact h, .tup cs⟩
/-- A slice of an object whose elements tell no object. -/
theorem snap_ref {g : Nat → Option PO} {id off len : Nat} {po : PO} (ho : g id = some po) (hp : ∀ ds ∈ po.els, ∀ d ∈ ds, Blw 0 d) (hl : off + len ≤ po.els.length) : Snap g (.ref id off len) (.list ((po.els.drop off).take len)) := by
  have hget : ∀ i ds, ((po.els.drop off).take len)[i]? = some ds → po.els[off + i]? = some ds := by
    intro i ds e
    rw [List.getElem?_take] at e
    split at e
    · rwa [List.getElem?_drop] at e
    · cases e
  refine .ref _ _ _ po _ ho (by simp; omega) (fun i ds e => ⟨ds, hget i ds e, rfl⟩) ?_
  intro i ds es j d e h1 h2 h3 h4
  rw [hget i ds h1] at h2; injection h2 with h2; subst h2
  rw [h3] at h4; injection h4 with h4; subst h4
  exact .pure _ (hp _ (List.mem_of_getElem? (hget i ds h1)) _ (List.mem_of_getElem? h3))
theorem snap_whole {g : Nat → Option PO} {id : Nat} {po : PO} (ho : g id = some po) (hp : ∀ ds ∈ po.els, ∀ d ∈ ds, Blw 0 d) : Snap g (.ref id 0 po.els.length) (.list po.els) := by
  have := snap_ref (off := 0) (len := po.els.length) ho hp (by omega)
  simpa using this

theorem Snaps.len' {g : Nat → Option PO} {as bs : List DV} (h : Snaps g as bs) : as.length = bs.length := h.len
theorem snap_agg {g : Nat → Option PO} {cs ds : List DV} (h : Snaps g cs ds) : Snap g (.agg cs) (.agg ds) := .agg _ _ h.len fun j e d h1 h2 => h.get j e d h1 h2
theorem snap_tup {g : Nat → Option PO} {cs ds : List DV} (h : Snaps g cs ds) : Snap g (.tup cs) (.tup ds) := .tup _ _ h.len fun j e d h1 h2 => h.get j e d h1 h2

@[simp] theorem blw_junk {m : Nat} : Blw m .junk ↔ True := ⟨fun _ => trivial, fun _ => .junk⟩
@[simp] theorem blw_bool {m : Nat} {b : Bool} : Blw m (.bool b) ↔ True := ⟨fun _ => trivial, fun _ => .bool b⟩
@[simp] theorem blw_int {m : Nat} {k : IntKind} {x : Int} : Blw m (.int k x) ↔ True := ⟨fun _ => trivial, fun _ => .int k x⟩
@[simp] theorem blw_flt {m : Nat} {k : FloatKind} {x : Nat} : Blw m (.flt k x) ↔ True := ⟨fun _ => trivial, fun _ => .flt k x⟩
@[simp] theorem blw_str {m : Nat} {s : ByteArray} : Blw m (.str s) ↔ True := ⟨fun _ => trivial, fun _ => .str s⟩
@[simp] theorem blw_nils {m : Nat} : Blw m .nils ↔ True := ⟨fun _ => trivial, fun _ => .nils⟩
@[simp] theorem blw_nilp {m : Nat} : Blw m .nilp ↔ True := ⟨fun _ => trivial, fun _ => .nilp⟩
@[simp] theorem blw_nili {m : Nat} : Blw m .nili ↔ True := ⟨fun _ => trivial, fun _ => .nili⟩
@[simp] theorem blw_nilf {m : Nat} : Blw m .nilf ↔ True := ⟨fun _ => trivial, fun _ => .nilf⟩
@[simp] theorem blw_nilm {m : Nat} : Blw m .nilm ↔ True := ⟨fun _ => trivial, fun _ => .nilm⟩
@[simp] theorem blw_hnd {m id : Nat} {it : Bool} : Blw m (.hnd it id) ↔ id < m := ⟨fun h => by cases h with | hnd _ _ h => exact h, .hnd it id⟩
@[simp] theorem blw_ref {m id off len : Nat} : Blw m (.ref id off len) ↔ id < m := ⟨fun h => by cases h with | ref _ _ _ h => exact h, .ref id off len⟩
@[simp] theorem blw_pobj {m id i j : Nat} : Blw m (.pobj id i j) ↔ id < m := ⟨fun h => by cases h with | pobj _ _ _ h => exact h, .pobj id i j⟩
@[simp] theorem blw_agg {m : Nat} {cs : List DV} : Blw m (.agg cs) ↔ ∀ d ∈ cs, Blw m d := ⟨fun h => by cases h with | agg _ h => exact h, .agg cs⟩
@[simp] theorem blw_tup {m : Nat} {cs : List DV} : Blw m (.tup cs) ↔ ∀ d ∈ cs, Blw m d := ⟨fun h => by cases h with | tup _ h => exact h, .tup cs⟩
@[simp] theorem blw_pim {m : Nat} {cs : List DV} : Blw m (.pim cs) ↔ ∀ d ∈ cs, Blw m d := ⟨fun h => by cases h with | pim _ h => exact h, .pim cs⟩
@[simp] theorem blw_list {m : Nat} {xs : List (List DV)} : Blw m (.list xs) ↔ ∀ ds ∈ xs, ∀ d ∈ ds, Blw m d := ⟨fun h => by cases h with | list _ h => exact h, .list xs⟩
@[simp] theorem blw_iface {m : Nat} {t : TypeId} {v : DV} : Blw m (.iface t v) ↔ Blw m v := ⟨fun h => by cases h with | iface _ _ h => exact h, .iface t v⟩

/-- A call that is lent objects: which (ids), as the callee numbers them (σ0), the arguments as it sees them (ds'); behind it: the caller's objects (σ2) and which of the callee's numbers they have (idsB). -/
def backIdsB (ids : List (Option Nat)) (n n1 : Nat) (idsB : List Nat) : Bool :=
  (List.range idsB.length).all fun m => match idsB[m]? with
    | some j => (Nat.blt m n && (match ids[j]? with | some (some i) => Nat.beq i m | _ => false)) || (Nat.ble n m && Nat.beq j (ids.length + (m - n))) || Nat.ble n1 j
    | none => true
theorem backIdsB_get {ids : List (Option Nat)} {n n1 : Nat} {idsB : List Nat} (h : backIdsB ids n n1 idsB = true) : backIds ids n n1 idsB := by
  intro m j hm
  have hml : m < idsB.length := (List.getElem?_eq_some_iff.1 hm).1
  have := List.all_eq_true.1 h m (List.mem_range.2 hml)
  rw [hm] at this
  simp only [Bool.or_eq_true, Bool.and_eq_true] at this
  rcases this with (⟨h1, h2⟩ | ⟨h1, h2⟩) | h1
  · refine .inl ⟨blt_true h1, ?_⟩
    split at h2
    · rename_i i hi; rw [hi, Nat.eq_of_beq_eq_true h2]
    · cases h2
  · exact .inr (.inl ⟨Nat.le_of_ble_eq_true h1, Nat.eq_of_beq_eq_true h2⟩)
  · exact .inr (.inr (Nat.le_of_ble_eq_true h1))
def lentQ (ids : List (Option Nat)) (m : Nat) : Bool := ids.any fun x => match x with | some i => Nat.beq i m | none => false
def backEach (ids : List (Option Nat)) (idsB : List Nat) (σ σ1 : Objs) : Nat → List Nat → Objs → Prop
  | _, [], [] => True
  | m, j :: js, x :: xs => (match x with
      | none => True
      | some po2 => bif Nat.blt m σ.length && !lentQ ids m then obj σ m = some po2 else objRen (fun _ => none) (idsB.map some) σ1 (some j) (some po2)) ∧ backEach ids idsB σ σ1 (m + 1) js xs
  | _, _, _ => False
theorem backEach_get {ids : List (Option Nat)} {idsB : List Nat} {σ σ1 : Objs} : ∀ (js : List Nat) (xs : Objs) (m0 : Nat), backEach ids idsB σ σ1 m0 js xs → xs.length = js.length ∧ ∀ m po2, obj xs m = some po2 →
    (m0 + m < σ.length ∧ (∀ j : Nat, ids[j]? ≠ some (some (m0 + m))) ∧ obj σ (m0 + m) = some po2) ∨ (∃ j po1, js[m]? = some j ∧ obj σ1 j = some po1 ∧ RenPO (fun _ => none) (idsB.map some) po1 po2)
  | [], [], _, _ => ⟨rfl, fun m po e => by simp [obj] at e⟩
  | [], _ :: _, _, h => h.elim
  | _ :: _, [], _, h => h.elim
  | j :: js, x :: xs, m0, h => by
    obtain ⟨h1, h2⟩ := backEach_get js xs (m0 + 1) h.2
    refine ⟨by simp [h1], fun m po2 e => ?_⟩
    cases m with
    | succ m =>
      have := h2 m po2 (by simpa [obj] using e)
      rw [show m0 + 1 + m = m0 + (m + 1) by omega] at this
      simpa using this
    | zero =>
      obtain rfl : x = some po2 := by
        cases x with
        | none => simp [obj] at e
        | some y => simp [obj] at e; rw [e]
      have hx := h.1
      simp only at hx
      cases hb : (Nat.blt m0 σ.length && !lentQ ids m0) with
      | true =>
        rw [hb] at hx
        rw [Bool.and_eq_true] at hb
        refine .inl ⟨blt_true hb.1, fun j e => ?_, hx⟩
        have hq : lentQ ids m0 = true := by
          unfold lentQ
          refine List.any_eq_true.2 ⟨some m0, List.mem_of_getElem? e, ?_⟩
          simp
        rw [hq] at hb; exact absurd hb.2 (by simp)
      | false =>
        rw [hb] at hx
        simp only [cond_false] at hx
        have := (objsRen_get (ids := idsB.map some) (σ := σ1) [some j] [some po2] ⟨hx, trivial⟩).2 0 po2 rfl
        rcases this with ⟨i, po1, e1, e2, e3⟩ | ⟨e1, _⟩
        · simp at e1; subst e1
          exact .inr ⟨j, po1, rfl, e2, e3⟩
        · simp at e1
theorem callK.S {f : FuncId} {ds ds' : List DV} {σ σ0 s1 : Objs} {K : DV → Objs → Prop} {r : DV} (F : List Nat) (ids : List (Option Nat)) (idsB : List Nat) (d2 : DV) (σ2 : Objs) (hf : FnS P f ds' σ0 (fun d s => d = r ∧ s = s1))
    (hd : distinctI ids = true) (hs : objsRen (fobj (frz F σ)) ids (frz F σ) ids σ0) (ha : Rens (fobj (frz F σ)) ids ds ds')
    (hb : backIdsB ids σ.length s1.length idsB = true) (hl : Nat.ble σ.length σ2.length = true) (hr : Ren (fun _ => none) (idsB.map some) r d2) (hσ : backEach ids idsB (frz F σ) s1 0 idsB σ2) (hK : K d2 σ2) : callK P f ds σ K := by
  unfold callK
  obtain ⟨h1, h2⟩ := objsRen_get ids σ0 hs
  obtain ⟨g1, g2⟩ := backEach_get idsB σ2 0 hσ
  refine .inr (.inl ⟨F, ids, ds', σ0, _, ⟨h1, distinctI_get ids hd, h2⟩, ha, hf, ?_⟩)
  rintro d1 σ1 ⟨rfl, rfl⟩
  refine ⟨idsB, d2, σ2, backIdsB_get hb, hr, ⟨g1, by rw [frz_length]; exact Nat.le_of_ble_eq_true hl, fun m po2 e => ?_⟩, hK⟩
  simpa using g2 m po2 e

/-- All is lent, under the numbers that it has. -/
theorem callK.id {f : FuncId} {ds : List DV} {σ s1 : Objs} {K : DV → Objs → Prop} {r : DV} (hf : FnS P f ds σ (fun d s => d = r ∧ s = s1)) (hK : K r s1) : callK P f ds σ K := by
  unfold callK
  exact .inr (.inr ⟨_, hf, fun d1 σ1 ⟨e1, e2⟩ => by subst e1; subst e2; exact hK⟩)
theorem finS_eq {k : Nat} {σ s : Objs} {r d : DV} (h1 : d = r) (h2 : σ = s) : finSK k σ (fun d σ => d = r ∧ σ = s) d := .inl ⟨h1, h2⟩
theorem finS_gc {k : Nat} {σ s : Objs} {r d : DV} (F : List Nat) (ids : List (Option Nat)) (hd : distinctI ids = true) (hs : objsRen (fobj (frz F σ)) ids (frz F σ) ids s) (hr : Ren (fobj (frz F σ)) ids d r)
    (hk : lentB k ids = true := by first | rfl | decide) : finSK k σ (fun d σ => d = r ∧ σ = s) d := by
  obtain ⟨h1, h2⟩ := objsRen_get ids s hs
  exact .inr ⟨F, ids, r, s, lentB_get hk, ⟨h1, distinctI_get ids hd, h2⟩, hr, rfl, rfl⟩

end Go.Pv
