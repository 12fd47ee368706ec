/- The walk over pure values is sound: the operations. -/
import Derived.Test.YthbjeeipeadilaaGreatPv1
import Derived.Orders
set_option linter.unusedSimpArgs false
set_option linter.unusedVariables false
namespace Go.Pv
open Go Go.RowKit

def Sim (C : Ctx) (n : Nat) (st : PSt) (a : Act) (w : World) : Prop :=
  a.defers = C.ds ∧ a.tmps.size = n ∧ ∃ h β, Inv C st.σ h β w ∧ ∀ t, Rep h β (a.tmps.getD t undef) (st.env t)

variable {P : Program} {C : Ctx} {n : Nat} {h : Hp} {β : Nat → Bl} {w : World} {a : Act}

theorem rep_ofV1 (v : Value) : Rep h β v (ofV1 v) := by
  unfold ofV1
  split
  · exact .bool _
  · exact .int _ _
  · exact .flt _ _
  · exact .str _
  · exact .nilp
  · exact .nils
  · exact .nili
  · exact .nilf
  · exact .nilm
  · exact .junk _

theorem rep_ofV (v : Value) : Rep h β v (ofV v) := by
  unfold ofV
  split
  · rename_i cs
    refine .agg _ _ (by simp) fun i v d e1 e2 => ?_
    simp only [List.getElem?_map, Array.getElem?_toList, e1, Option.map_some, Option.some.injEq] at e2
    subst e2; exact rep_ofV1 _
  · rename_i cs
    refine .tup _ _ (by simp) fun i v d e1 e2 => ?_
    simp only [List.getElem?_map, Array.getElem?_toList, e1, Option.map_some, Option.some.injEq] at e2
    subst e2; exact rep_ofV1 _
  · exact .iface _ _ _ (rep_ofV1 _)
  · exact rep_ofV1 _

theorem rep_ev {e : Env} (he : ∀ t, Rep h β (a.tmps.getD t undef) (e t)) (x : Operand) : Rep h β (a.eval x) (ev e x) := by
  cases x with
  | tmp t => exact he t
  | const v => exact rep_ofV v
  | global g => exact .junk _
  | func f => exact .func _ _ _ _ _ rfl rfl (fun i v d e => by simp at e) (fun i v d e => by simp at e)

theorem rep_toV {d : DV} {u v : Value} (hd : toV d = some v) (r : Rep h β u d) : u = v := by
  cases r <;> simp [toV] at hd <;> exact hd

theorem pureRun_run {α : Type} (P : Program) : ∀ (s : Sem α) (x : α), pureRun P s = some x → ∀ w, s.run P w = .ok x w := by
  intro s
  induction s with
  | pure a => intro x h w; simp [pureRun] at h; subst h; rfl
  | program k ih => intro x h w; simp only [pureRun] at h; exact ih P x h w
  | _ => intros; simp_all [pureRun]

theorem getD_put (a : Act) (d t : Nat) (v : Value) (hd : d < a.tmps.size) : (a.put (some d) v).tmps.getD t undef = if t = d then v else a.tmps.getD t undef := by
  simp only [Act.put, Array.getD_eq_getD_getElem?, Array.getElem?_setIfInBounds]
  by_cases h : t = d
  · subst h; simp [hd]
  · rw [if_neg (fun e => h e.symm), if_neg h]

theorem env_put {e : Env} {d : Nat} {v : Value} {x : DV} (he : ∀ t, Rep h β (a.tmps.getD t undef) (e t)) (hd : d < a.tmps.size) (hr : Rep h β v x) :
    ∀ t, Rep h β ((a.put (some d) v).tmps.getD t undef) (upd e d x t) := by
  intro t
  rw [getD_put a d t v hd]
  unfold upd
  by_cases hh : t = d
  · subst hh; simpa using hr
  · rw [if_neg hh]
    have : Nat.beq t d = false := by
      cases hb : Nat.beq t d with
      | false => rfl
      | true => exact absurd (Nat.eq_of_beq_eq_true hb) hh
    rw [this]; exact he t

theorem blt_true {d n : Nat} (h : Nat.blt d n = true) : d < n := Nat.le_of_ble_eq_true h

theorem put_sound {dst : Option Tmp} {x : DV} {st : PSt} {K : PSt → Prop} {v : Value} {next : Act → World → Prop} (hk : putK n dst x st K)
    (hd : a.defers = C.ds) (hn : a.tmps.size = n) (hi : Inv C st.σ h β w) (he : ∀ t, Rep h β (a.tmps.getD t undef) (st.env t)) (hr : Rep h β v x)
    (hnext : ∀ st' a' w', Sim C n st' a' w' → K st' → next a' w') : next (a.put dst v) w := by
  cases dst with
  | none => exact hnext st _ _ ⟨hd, hn, h, β, hi, he⟩ hk
  | some d =>
    rw [putK_eq] at hk; simp only at hk
    cases hb : Nat.blt d n with
    | false => rw [hb] at hk; exact hk.elim
    | true =>
      rw [hb] at hk
      have := blt_true hb
      exact hnext ⟨upd st.env d x, st.σ⟩ _ _ ⟨by simpa [Act.put] using hd, by simpa [Act.put] using hn, h, β, hi, env_put he (by omega) hr⟩ hk

/-- What follows an operation. -/
def VNext (C : Ctx) (h : Hp) (β : Nat → Bl) (a : Act) (o : Oper) (K : DV → Objs → Prop) (next : Act → World → Prop) : Prop :=
  ∀ (v : Value) (d : DV) (σ' : Objs) (h' : Hp) (β' : Nat → Bl) (w' : World), Inv C σ' h' β' w' → HLe h h' → BLe β β' → Rep h' β' v d → K d σ' → next (a.put o.dst v) w'

theorem wp_value {o : Oper} {v : Value} {w' : World} {next : Act → World → Prop} {Q : Exit → Act → World → Prop} (hr : (execOp a.eval o).run P w = .ok (.value v) w') (hn : next (a.put o.dst v) w') : o.wp P a w next Q := by
  unfold Oper.wp; rw [hr]; exact hn
theorem wp_skip_ {o : Oper} {w' : World} {next : Act → World → Prop} {Q : Exit → Act → World → Prop} (hr : (execOp a.eval o).run P w = .ok .skip w') (hn : next (a.put o.dst undef) w') : o.wp P a w next Q := by
  unfold Oper.wp; rw [hr]; exact hn

theorem obj_append {σ : Objs} {x : Option PO} {id : Nat} (hlt : id < σ.length) : obj (σ ++ [x]) id = obj σ id := by
  unfold obj; rw [List.getElem?_append_left hlt]
theorem obj_new {σ : Objs} {x : PO} : obj (σ ++ [some x]) σ.length = some x := by
  unfold obj; simp
theorem obj_lt {σ : Objs} {id : Nat} {po : PO} (h : obj σ id = some po) : id < σ.length := by
  unfold obj at h
  rcases Nat.lt_or_ge id σ.length with hlt | hge
  · exact hlt
  · rw [List.getElem?_eq_none hge] at h; cases h

theorem Inv.blk {σ : Objs} (hi : Inv C σ h β w) {id b sz N K : Nat} {t : TypeId} (hb : β id = .at b sz N K t) : b < w.heap.size := by
  obtain ⟨po, cs, _, _, _, ⟨_, hx, _⟩, _⟩ := hi.objs id b sz N K t hb
  exact lt_of_some hx

theorem heap_alloc_old' (w : World) (o : Obj) (b : Nat) (hb : b < w.heap.size) : (w.alloc o).heap[b]? = w.heap[b]? := heap_alloc_old w o hb

/-- A new object, of elements ds (K of them may lie there). -/
theorem inv_newO {σ : Objs} (hi : Inv C σ h β w) (t : TypeId) (o : Obj) (cs : Array Value) (sz K : Nat) (els : List (List DV)) (hK : els.length ≤ K) (hm : K ≤ maxLen) (hl : cs.size = K * sz) (hA : AsC o cs t)
    (hr : ∀ i ds, els[i]? = some ds → ds.length = sz ∧ ∀ (j : Nat) (d : DV), ds[j]? = some d → ∃ v, cs[i * sz + j]? = some v ∧ v.oneCell' = true ∧ Rep h β v d) :
    ∃ β', BLe β β' ∧ β' σ.length = .at w.heap.size sz els.length K t ∧ Inv C (σ ++ [some ⟨false, sz, t, els⟩]) h β' (w.alloc o) := by
  have hble : BLe β (fun id => if id = σ.length then .at w.heap.size sz els.length K t else β id) := by
    intro id
    by_cases h1 : id = σ.length
    · right; left; exact hi.unborn id (by omega)
    · left; simp [h1]
  refine ⟨_, hble, by simp, ?_⟩
  have hcase : ∀ {id b sz' N' K' t'}, (if id = σ.length then Bl.at w.heap.size sz els.length K t else β id) = .at b sz' N' K' t' →
      (id = σ.length ∧ b = w.heap.size ∧ sz' = sz ∧ N' = els.length ∧ K' = K ∧ t' = t) ∨ (id ≠ σ.length ∧ β id = .at b sz' N' K' t') := by
    intro id b sz' N' K' t' e
    by_cases h1 : id = σ.length
    · rw [if_pos h1] at e; injection e with e1 e2 e3 e4 e5
      exact .inl ⟨h1, e1.symm, e2.symm, e3.symm, e4.symm, e5.symm⟩
    · rw [if_neg h1] at e; exact .inr ⟨h1, e⟩
  have hsz : (w.alloc o).heap.size = w.heap.size + 1 := by simp
  refine { os := hi.os, tape := hi.tape, output := hi.output, size := by rw [hsz]; have := hi.size; omega, view := ?_, hle := hi.hle, hnew := hi.hnew, own := ?_, unborn := ?_, inj := ?_, live := ?_, objs := ?_, frame := ?_, gho := gho_ble hi.gho hble, born := ?_ }
  case refine_8 =>
    intro id hid
    simp only [List.length_append, List.length_cons, List.length_nil] at hid
    show (if id = σ.length then _ else β id) ≠ Bl.no
    by_cases h1 : id = σ.length
    · rw [if_pos h1]; intro e; cases e
    · rw [if_neg h1]; exact hi.born id (by omega)
  · intro b o e
    have := hi.view b o e
    rw [heap_alloc_old' _ _ _ (lt_of_some this)]; exact this
  · intro id b sz' N' K' t' e
    rcases hcase e with ⟨_, rfl, _⟩ | ⟨_, e⟩
    · exact .inl hi.size
    · exact hi.own id b sz' N' K' t' e
  · intro id hge
    simp only [List.length_append, List.length_cons, List.length_nil] at hge
    show (if id = σ.length then _ else β id) = Bl.no
    rw [if_neg (by omega)]; exact hi.unborn id (by omega)
  · intro id id' b s1 N1 K1 t1 s2 N2 K2 t2 e1 e2
    rcases hcase e1 with ⟨r1, rb, _⟩ | ⟨r1, e1⟩ <;> rcases hcase e2 with ⟨r2, rb2, _⟩ | ⟨r2, e2⟩
    · rw [r1, r2]
    · have := hi.blk e2; omega
    · have := hi.blk e1; omega
    · exact hi.inj id id' b _ _ _ _ _ _ _ _ e1 e2
  · intro id po e
    by_cases h1 : id = σ.length
    · subst h1
      rw [obj_new] at e; injection e with e; subst e
      exact .inl ⟨w.heap.size, K, by simp⟩
    · have hlt := obj_lt e
      simp only [List.length_append, List.length_cons, List.length_nil] at hlt
      rw [obj_append (by omega)] at e
      have e0 : (if id = σ.length then Bl.at w.heap.size sz els.length K t else β id) = β id := if_neg h1
      rcases hi.live id po e with ⟨b, K', hb⟩ | ⟨hb, hn⟩
      · exact .inl ⟨b, K', e0.trans hb⟩
      · exact .inr ⟨e0.trans hb, hn⟩
  · intro id b sz' N' K' t' e
    rcases hcase e with ⟨rfl, rfl, rfl, rfl, rfl, rfl⟩ | ⟨r, e⟩
    · refine ⟨_, cs, obj_new, hK, hm, ⟨_, heap_alloc_new w _, hA⟩, .inl hl, ?_, ?_, by simp⟩
      · intro i ds e1
        obtain ⟨q1, q2⟩ := hr i ds e1
        refine ⟨q1, fun j d e2 => ?_⟩
        obtain ⟨v, q3, qo, q4⟩ := q2 j d e2
        exact ⟨v, q3, qo, q4.mono (HLe.refl h) hble⟩
      · intro _
        cases hx : h w.heap.size with
        | none => rfl
        | some o => have := lt_of_some (hi.view _ _ hx); omega
    · obtain ⟨po, cs', g1, g2, g3, g4, g5, g6, g7, g8⟩ := hi.objs id b sz' N' K' t' e
      have hb := hi.blk e
      refine ⟨po, cs', (obj_append (obj_lt g1)).trans g1, g2, g3, (by rw [heap_alloc_old' _ _ _ hb]; exact g4), g5, ?_, g7, fun e => (g8 e).trans (heap_alloc_old' _ _ _ hb).symm⟩
      intro i ds e1
      obtain ⟨q1, q2⟩ := g6 i ds e1
      refine ⟨q1, fun j d e2 => ?_⟩
      obtain ⟨v, q3, qo, q4⟩ := q2 j d e2
      exact ⟨v, q3, qo, q4.mono (HLe.refl h) hble⟩
  · intro b hb hL
    rw [heap_alloc_old' _ _ _ (by have := hi.size; omega)]
    exact hi.frame b hb hL

theorem inv_new {σ : Objs} (hi : Inv C σ h β w) (t : TypeId) (ht : cellTy t = true) (cs : Array Value) (sz K : Nat) (els : List (List DV)) (hK : els.length ≤ K) (hm : K ≤ maxLen) (hl : cs.size = K * sz)
    (hr : ∀ i ds, els[i]? = some ds → ds.length = sz ∧ ∀ (j : Nat) (d : DV), ds[j]? = some d → ∃ v, cs[i * sz + j]? = some v ∧ v.oneCell' = true ∧ Rep h β v d) :
    ∃ β', BLe β β' ∧ β' σ.length = .at w.heap.size sz els.length K t ∧ Inv C (σ ++ [some ⟨false, sz, t, els⟩]) h β' (w.alloc (.cells cs t)) :=
  inv_newO hi t _ cs sz K els hK hm hl (.cells cs t ht) hr

theorem rep_cells {σ : Objs} (hi : Inv C σ h β w) {v : Value} {d : DV} (r : Rep h β v d) (hd : boxOk σ d = true) :
    v.cells.size = (cellsD d).length ∧ ∀ (i : Nat) (u : Value) (x : DV), v.cells[i]? = some u → (cellsD d)[i]? = some x → Rep h β u x := by
  have one : ∀ (v : Value) (d : DV), v.cells = #[v] → cellsD d = [d] → Rep h β v d → v.cells.size = (cellsD d).length ∧ ∀ (i : Nat) (u : Value) (x : DV), v.cells[i]? = some u → (cellsD d)[i]? = some x → Rep h β u x := by
    intro v d e1 e2 r
    rw [e1, e2]
    refine ⟨rfl, fun i u x q1 q2 => ?_⟩
    cases i with
    | zero => simp at q1 q2; subst q1; subst q2; exact r
    | succ i => simp at q1
  have dead : ∀ id, (obj σ id).isSome = true → β id ≠ .dead := by
    intro id e
    cases ho : obj σ id with
    | none => rw [ho] at e; cases e
    | some po =>
      rcases hi.live id po ho with ⟨b, K, hb⟩ | ⟨hb, _⟩ <;> (rw [hb]; intro q; cases q)
  cases r with
  | junk => cases hd
  | agg cs ds hl hr' => exact ⟨hl, fun i u x q1 q2 => hr' i u x q1 q2⟩
  | refDead _ _ _ _ hb => exact absurd hb (dead _ hd)
  | pobjDead _ _ _ _ hb => exact absurd hb (dead _ hd)
  | bool b => exact one _ _ rfl rfl (.bool b)
  | int k n => exact one _ _ rfl rfl (.int k n)
  | flt k n => exact one _ _ rfl rfl (.flt k n)
  | str s => exact one _ _ rfl rfl (.str s)
  | tup cs ds hl hr' => exact one _ _ rfl rfl (.tup cs ds hl hr')
  | nils => exact one _ _ rfl rfl .nils
  | list a n c xs sz vs hn hnc hz hsz hc ho hr' => exact one _ _ rfl rfl (.list a n c xs sz vs hn hnc hz hsz hc ho hr')
  | refAt id off len cap o b sz N C t hb h1 h2 h3 ht => exact one _ _ rfl rfl (.refAt id off len cap o b sz N C t hb h1 h2 h3 ht)
  | refNil id hb => exact one _ _ rfl rfl (.refNil id hb)
  | nilp => exact one _ _ rfl rfl .nilp
  | pim a cs vs hc hr' => exact one _ _ rfl rfl (.pim a cs vs hc hr')
  | pobjAt id i j b sz N C t hb ht => exact one _ _ rfl rfl (.pobjAt id i j b sz N C t hb ht)
  | nilm => exact one _ _ rfl rfl .nilm
  | mapAt id b sz N C hb => exact one _ _ rfl rfl (.mapAt id b sz N C hb)
  | iterAt id b sz N C t hb ht => exact one _ _ rfl rfl (.iterAt id b sz N C t hb ht)
  | hndDead _ _ _ hb => exact absurd hb (dead _ hd)
  | nili => exact one _ _ rfl rfl .nili
  | iface t v d hr' => exact one _ _ rfl rfl (.iface t v d hr')
  | nilf => exact one _ _ rfl rfl .nilf
  | func fn fs cs ds es hl hm hr' hq => exact one _ _ rfl rfl (.func fn fs cs ds es hl hm hr' hq)

theorem add_zero (a : Addr) : a.add 0 = a := by simp [Addr.add]
theorem add_add (a : Addr) (i j : Nat) : (a.add i).add j = a.add (i + j) := by
  unfold Addr.add
  by_cases hi : i = 0 <;> by_cases hj : j = 0 <;> simp [hi, hj, Nat.add_assoc]
theorem add_at (b o j : Nat) : (⟨b, o, none⟩ : Addr).add j = ⟨b, o + j, none⟩ := by
  unfold Addr.add
  by_cases hj : j = 0 <;> simp [hj]

/-- Reading cells that are told by ds. -/
theorem ld_sound {t : TypeId} {ds : List DV} {j : Nat} {K : DV → Prop} (hk : ldK P t ds j K) (ad : Addr)
    (hc : ∀ j d, ds[j]? = some d → ∃ v, w.cell? (ad.add j) = some v ∧ Rep h β v d) :
    ∃ v d, (loadVar t (ad.add j)).run P w = .ok v w ∧ Rep h β v d ∧ K d := by
  unfold ldK shp at hk
  have hagg : ∀ (i : TypeInfo), P.info? t = some i → (isAgg t).run P w = .ok true w → (bif Nat.ble (j + i.size) ds.length then K (.agg ((ds.drop j).take i.size)) else False) →
      ∃ v d, (loadVar t (ad.add j)).run P w = .ok v w ∧ Rep h β v d ∧ K d := by
    intro i hi hag hk
    cases hb : Nat.ble (j + i.size) ds.length with
    | false => rw [hb] at hk; exact hk.elim
    | true =>
      rw [hb] at hk
      have hle := Nat.le_of_ble_eq_true hb
      have hex : ∀ k, k < i.size → ∃ v, w.cell? ((ad.add j).add k) = some v ∧ ∀ d, ds[j + k]? = some d → Rep h β v d := by
        intro k hlt
        have hl : j + k < ds.length := by omega
        obtain ⟨v, h1, h2⟩ := hc (j + k) ds[j + k] (List.getElem?_eq_getElem hl)
        refine ⟨v, by rw [add_add]; exact h1, fun d e => ?_⟩
        rw [List.getElem?_eq_getElem hl] at e; injection e with e; subst e; exact h2
      let f : Nat → Value := fun k => ((w.cell? ((ad.add j).add k)).getD undef)
      have hf : ∀ k, k < i.size → w.cell? ((ad.add j).add k) = some (f k) := by
        intro k hlt
        obtain ⟨v, h1, _⟩ := hex k hlt
        simp only [f, h1, Option.getD_some]
      refine ⟨.agg ((List.range i.size).map f).toArray, _, ?_, ?_, hk⟩
      · simp only [loadVar, Sem.run_bind, hag, Result.andThen_ok, if_true, run_sizeOf w hi]
        rw [show P.cellsOf t = i.size by simp [Program.cellsOf, hi], run_loadCells w _ _ f hf]
        rfl
      · refine .agg _ _ (by simp; omega) ?_
        intro k v d e1 e2
        simp only [List.getElem?_toArray, List.getElem?_map] at e1
        rw [List.getElem?_take] at e2
        by_cases hlt : k < i.size
        · rw [if_pos hlt, List.getElem?_drop] at e2
          simp [hlt] at e1
          obtain ⟨v', h1, h2⟩ := hex k hlt
          have := hf k hlt
          rw [h1] at this; injection this with this
          rw [← e1, ← this]; exact h2 d e2
        · rw [if_neg hlt] at e2; cases e2
  have hone : ∀ (i : TypeInfo), P.info? t = some i → (isAgg t).run P w = .ok false w → (match (some (false, i.size) : Option (Bool × Nat)) with | some (true, n) => bif Nat.ble (j + n) ds.length then K (.agg ((ds.drop j).take n)) else False | some (false, 1) => optK ds[j]? K | _ => False) →
      ∃ v d, (loadVar t (ad.add j)).run P w = .ok v w ∧ Rep h β v d ∧ K d := by
    intro i hi hag hk
    have h1 : optK ds[j]? K := by
      revert hk; split <;> simp_all
    cases hd : ds[j]? with
    | none => rw [hd] at h1; exact h1.elim
    | some d =>
      rw [hd] at h1
      obtain ⟨v, g1, g2⟩ := hc j d hd
      refine ⟨v, d, ?_, g2, h1⟩
      simp [loadVar, Sem.run_bind, hag, g1]
  cases hu : P.underlying t with
  | none => simp [hu] at hk
  | some u =>
    cases hii : P.info? t with
    | none => cases u <;> simp [hu, hii] at hk
    | some i =>
      cases u with
      | struct fs => simp only [hu, hii] at hk; exact hagg i hii (by simp [isAgg, run_underlying hu]) hk
      | array m e => simp only [hu, hii] at hk; exact hagg i hii (by simp [isAgg, run_underlying hu]) hk
      | _ => simp only [hu, hii] at hk; exact hone i hii (by simp [isAgg, run_underlying hu]) hk

/-- An object that has an element lies somewhere. -/
theorem live_at {σ : Objs} (hi : Inv C σ h β w) {id i : Nat} {po : PO} {ds : List DV} (ho : obj σ id = some po) (hds : po.els[i]? = some ds) : ∃ b K, β id = .at b po.sz po.els.length K po.ty := by
  rcases hi.live id po ho with h1 | ⟨_, h2⟩
  · exact h1
  · rw [h2] at hds; simp at hds

/-- The cells of an object. -/
theorem obj_cells {σ : Objs} (hi : Inv C σ h β w) {id i : Nat} {po : PO} {ds : List DV} (ho : obj σ id = some po) (ht : cellTy po.ty = true) (hds : po.els[i]? = some ds) :
    ∃ b K, β id = .at b po.sz po.els.length K po.ty ∧ ∀ j d, ds[j]? = some d → ∃ v, w.cell? ((⟨b, i * po.sz, none⟩ : Addr).add j) = some v ∧ Rep h β v d := by
  obtain ⟨b, K, hb⟩ := live_at hi ho hds
  obtain ⟨po', cs, g1, g2, g3, g4, g5, g6, _⟩ := hi.objs id b _ _ _ _ hb
  rw [ho] at g1; injection g1 with g1; subst g1
  refine ⟨b, K, hb, fun j d e => ?_⟩
  obtain ⟨v, q1, _, q2⟩ := (g6 i ds hds).2 j d e
  refine ⟨v, ?_, q2⟩
  rw [add_at]
  simp [World.cell?, g4.cells ht, q1]
theorem pobj_ty {σ : Objs} (hi : Inv C σ h β w) {v : Value} {id i j : Nat} {po : PO} (ho : obj σ id = some po) (r : Rep h β v (.pobj id i j)) : cellTy po.ty = true := by
  cases r with
  | pobjAt _ _ _ b' sz N K' t hb' ht =>
    rcases hi.live id po ho with ⟨b, K, hb⟩ | ⟨hb, _⟩
    · rw [hb] at hb'; injection hb' with e1 e2 e3 e4 e5; rw [e5]; exact ht
    · rw [hb] at hb'; cases hb'
  | pobjDead _ _ _ _ hb' => rcases hi.live id po ho with ⟨b, K, hb⟩ | ⟨hb, _⟩ <;> (rw [hb] at hb'; cases hb')
theorem ref_ty {σ : Objs} (hi : Inv C σ h β w) {v : Value} {id off len b sz N K : Nat} {t : TypeId} (hb : β id = .at b sz N K t) (r : Rep h β v (.ref id off len)) : cellTy t = true := by
  cases r with
  | refAt _ _ _ _ _ _ _ _ _ _ hb' _ _ _ ht => rw [hb] at hb'; injection hb' with e1 e2 e3 e4 e5; rw [e5]; exact ht
  | refNil _ hb' => rw [hb] at hb'; cases hb'
  | refDead _ _ _ _ hb' => rw [hb] at hb'; cases hb'

end Go.Pv
