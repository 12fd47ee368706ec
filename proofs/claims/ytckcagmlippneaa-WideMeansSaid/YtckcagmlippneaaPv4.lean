/- The walk over pure values is sound: every operation, regions, bodies. -/
import Derived.Test.YtckcagmlippneaaPv3
import Derived.Scope
set_option linter.unusedSimpArgs false
set_option linter.unusedVariables false
namespace Go.Pv
open Go Go.RowKit
variable {P : Program} {C : Ctx} {n : Nat} {h : Hp} {β : Nat → Bl} {w : World} {a : Act}

theorem optK_some {α : Type} {x : Option α} {K : α → Prop} (h : optK x K) : ∃ y, x = some y ∧ K y := by
  cases x with
  | none => exact h.elim
  | some y => exact ⟨y, rfl, h⟩

theorem boxOk_alive {σ : Objs} (hi : Inv C σ h β w) {id : Nat} {po : PO} (ho : obj σ id = some po) : β id ≠ .dead := by
  rcases hi.live id po ho with ⟨b, K, hb⟩ | ⟨hb, _⟩ <;> (rw [hb]; intro q; cases q)

theorem one_cell {σ : Objs} (hi : Inv C σ h β w) {v : Value} {d : DV} (r : Rep h β v d) (hd : cellOk σ d = true) : v.oneCell' = true := by
  have dead : ∀ id, (obj σ id).isSome = true → β id ≠ .dead := by
    intro id e
    cases ho : obj σ id with
    | none => rw [ho] at e; cases e
    | some po => exact boxOk_alive hi ho
  cases r <;> first | rfl | (simp [cellOk] at hd; done) | (rename_i hbd; exact absurd hbd (dead _ hd))

theorem pointer_of {σ : Objs} (hi : Inv C σ h β w) {v : Value} {id i j : Nat} {po : PO} (ho : obj σ id = some po) (r : Rep h β v (.pobj id i j)) :
    ∃ b K, β id = .at b po.sz po.els.length K po.ty ∧ v = .pointer (some ⟨b, i * po.sz + j, none⟩) := by
  cases r with
  | pobjAt _ _ _ b' sz N K' t hb' =>
    rcases hi.live id po ho with ⟨b, K, hb⟩ | ⟨hb, _⟩
    case inr => rw [hb] at hb'; cases hb'
    rw [hb] at hb'; injection hb' with e1 e2 e3 e4 e5; subst e1; subst e2; exact ⟨b, K, hb, rfl⟩
  | pobjDead _ _ _ _ hb' => exact absurd hb' (boxOk_alive hi ho)

theorem pur_sound {o : Oper} {env : Env} {σ : Objs} {K : DV → Objs → Prop} (hk : purK P o env (K · σ)) (hi : Inv C σ h β w) (he : ∀ t, Rep h β (a.tmps.getD t undef) (env t)) {next : Act → World → Prop} {Q : Exit → Act → World → Prop}
    (hnext : VNext C h β a o K next) : o.wp P a w next Q := by
  unfold purK at hk
  cases hb : (notSel o.op && o.op.operands.toList.all fun x => (toV (ev env x)).isSome) with
  | false => rw [hb] at hk; exact hk.elim
  | true =>
    rw [hb] at hk
    rw [Bool.and_eq_true] at hb
    obtain ⟨hsel', hb⟩ := hb
    have hsel : ∀ cs b, o.op ≠ .select cs b := by intro cs b e; rw [e] at hsel'; cases hsel'
    have hex : execOp a.eval o = execOp (fun x => (toV (ev env x)).getD undef) o := by
      refine execOp_congr o hsel fun x hx => ?_
      have := List.all_eq_true.1 hb x (by simpa using hx)
      cases hv : toV (ev env x) with
      | none => rw [hv] at this; cases this
      | some v => rw [rep_toV hv (rep_ev he x)]; rfl
    simp only [cond_true] at hk
    split at hk
    · rename_i v hv
      exact wp_value (by rw [hex]; exact pureRun_run P _ _ hv w) (hnext _ _ _ _ _ _ hi (HLe.refl _) (BLe.refl _) (rep_ofV1 v) hk)
    · exact hk.elim

theorem fld_sound {t u : TypeId} {f off : Nat} (hf : fldOff P t f = some (off, u)) :
    ∃ fs x i, P.underlying t = some (.struct fs) ∧ fs[f]? = some x ∧ x.offset = off ∧ x.type = u ∧ P.info? x.type = some i ∧ i.size ≠ 0 := by
  unfold fldOff at hf
  split at hf
  · rename_i fs hu
    split at hf
    · rename_i x hx
      split at hf
      · rename_i i hi
        cases hb : Nat.beq i.size 0 with
        | true => rw [hb] at hf; cases hf
        | false =>
          rw [hb] at hf
          simp only [cond_false, Option.some.injEq, Prod.mk.injEq] at hf
          exact ⟨fs, x, i, hu, hx, hf.1, hf.2, hi, fun e => by rw [e] at hb; cases hb⟩
      · cases hf
    · cases hf
  · cases hf

theorem pim_of {v : Value} {cs : List DV} (r : Rep h β v (.pim cs)) : ∃ ad, v = .pointer (some ad) ∧ ∃ vs : Nat → Value, (∀ j d, cs[j]? = some d → hcell h (ad.add j) = some (vs j)) ∧ ∀ j d, cs[j]? = some d → Rep h β (vs j) d := by
  cases r with
  | pim ad _ vs hc hr => exact ⟨ad, rfl, vs, hc, hr⟩

theorem part_sound {t : TypeId} {ds : List DV} {j : Nat} {K : DV → Prop} (hk : ldK P t ds j K) (cs : Array Value) (hl : cs.size = ds.length)
    (hc : ∀ (i : Nat) (v : Value) (d : DV), cs[i]? = some v → ds[i]? = some d → Rep h β v d) : ∃ v d, (part t cs j).run P w = .ok v w ∧ Rep h β v d ∧ K d := by
  unfold ldK at hk
  cases hs : shp P t with
  | none => rw [hs] at hk; exact hk.elim
  | some x =>
    obtain ⟨ag, m⟩ := x
    obtain ⟨inf, hinf, him⟩ := shp_of hs
    have hu : ∃ u, P.underlying t = some u ∧ ((match u with | .struct _ | .array _ _ => true | _ => false) = ag) := by
      unfold shp at hs
      cases hu : P.underlying t with
      | none => simp [hu] at hs
      | some u => cases u <;> simp [hu, hinf] at hs <;> exact ⟨_, rfl, by simp [hs.1]⟩
    obtain ⟨u, hu, hag⟩ := hu
    rw [hs] at hk
    have hisagg : (isAgg t).run P w = .ok ag w := by
      subst hag
      cases u <;> simp [isAgg, run_underlying hu]
    cases ag with
    | true =>
      cases hb : Nat.ble (j + m) ds.length with
      | false => simp only [hb, cond_false] at hk
      | true =>
        simp only [hb, cond_true] at hk
        have hle := Nat.le_of_ble_eq_true hb
        refine ⟨.agg (cs.extract j (j + m)), _, ?_, ?_, hk⟩
        · simp only [part, Sem.run_bind, hisagg, Result.andThen_ok, if_true, run_sizeOf w hinf, show P.cellsOf t = inf.size by simp [Program.cellsOf, hinf], him, Sem.run_pure]
        · refine .agg _ _ (by simp; omega) fun i v d e1 e2 => ?_
          rw [Array.getElem?_extract] at e1
          rw [List.getElem?_take] at e2
          by_cases hlt : i < m
          · rw [if_pos hlt, List.getElem?_drop] at e2
            rw [if_pos (by omega)] at e1
            exact hc _ _ _ e1 e2
          · rw [if_neg hlt] at e2; cases e2
    | false =>
      have h1 : optK ds[j]? K := by
        revert hk; split <;> simp_all
      obtain ⟨d, hd, hk'⟩ := optK_some h1
      have hlt : j < cs.size := by rw [hl]; exact (List.getElem?_eq_some_iff.1 hd).1
      refine ⟨cs[j], d, ?_, hc j _ _ (Array.getElem?_eq_getElem hlt) hd, hk'⟩
      simp [part, Sem.run_bind, hisagg, Array.getElem?_eq_getElem hlt]


theorem fold_set : ∀ (vs : List Value) (k off : Nat) (cells : Array Value), off + k + vs.length ≤ cells.size →
    ((vs.zipIdx k).foldl (fun (cs : Array Value) (p : Value × Nat) => cs.setIfInBounds (off + p.2) p.1) cells).size = cells.size ∧
    ∀ q : Nat, ((vs.zipIdx k).foldl (fun (cs : Array Value) (p : Value × Nat) => cs.setIfInBounds (off + p.2) p.1) cells)[q]? = if off + k ≤ q ∧ q < off + k + vs.length then vs[q - (off + k)]? else cells[q]?
  | [], k, off, cells, _ => ⟨rfl, fun q => by rw [if_neg (by simp only [List.length_nil]; omega)]; rfl⟩
  | v :: vs, k, off, cells, hl => by
    simp only [List.length_cons] at hl
    simp only [List.zipIdx_cons, List.foldl_cons]
    obtain ⟨h1, h2⟩ := fold_set vs (k + 1) off (cells.setIfInBounds (off + k) v) (by rw [Array.size_setIfInBounds]; omega)
    refine ⟨by rw [h1, Array.size_setIfInBounds], fun q => ?_⟩
    rw [h2]
    by_cases e0 : q = off + k
    · subst e0
      rw [if_neg (by omega), if_pos (by simp only [List.length_cons]; omega), Array.getElem?_setIfInBounds, if_pos rfl, if_pos (by omega), Nat.sub_self]; rfl
    · by_cases e1 : off + (k + 1) ≤ q ∧ q < off + (k + 1) + vs.length
      · rw [if_pos e1, if_pos (by simp only [List.length_cons]; omega)]
        obtain ⟨r, rfl⟩ : ∃ r, q = off + (k + 1) + r := ⟨q - (off + (k + 1)), by omega⟩
        rw [show off + (k + 1) + r - (off + (k + 1)) = r by omega, show off + (k + 1) + r - (off + k) = r + 1 by omega]; rfl
      · rw [if_neg e1, if_neg (by simp only [List.length_cons]; omega), Array.getElem?_setIfInBounds, if_neg (by omega)]

theorem fill_sound {σ : Objs} (hi : Inv C σ h β w) (place : Nat → Option (Nat × Nat)) : ∀ (vals : List (Nat × Value)) (dvs : List (Nat × DV)) (cells : Array Value) (ds ds' : List DV),
    vals.length = dvs.length → (∀ (i : Nat) (p : Nat × Value) (q : Nat × DV), vals[i]? = some p → dvs[i]? = some q → p.1 = q.1 ∧ Rep h β p.2 q.2 ∧ boxOk σ q.2 = true) →
    cells.size = ds.length → (∀ (i : Nat) (v : Value) (d : DV), cells[i]? = some v → ds[i]? = some d → Rep h β v d) → fillD place ds dvs = some ds' →
    ∃ cells', Instr.fill place cells vals = some cells' ∧ cells'.size = ds'.length ∧ ∀ (i : Nat) (v : Value) (d : DV), cells'[i]? = some v → ds'[i]? = some d → Rep h β v d
  | [], [], cells, ds, ds', _, _, hl, hr, hf => by
    simp only [fillD, Option.some.injEq] at hf; subst hf
    exact ⟨cells, rfl, hl, hr⟩
  | [], _ :: _, _, _, _, hl, _, _, _, _ => by simp at hl
  | _ :: _, [], _, _, _, hl, _, _, _, _ => by simp at hl
  | (i, v) :: vals, (i', d) :: dvs, cells, ds, ds', hl, hp, hs, hr, hf => by
    obtain ⟨hii, hrep, hbox⟩ := hp 0 _ _ rfl rfl
    simp only at hii; subst hii
    simp only [fillD] at hf
    cases hpl : place i with
    | none => rw [hpl] at hf; cases hf
    | some x =>
      obtain ⟨off, sz⟩ := x
      rw [hpl] at hf
      simp only at hf
      cases hb : (Nat.beq (cellsD d).length sz && Nat.ble (off + sz) ds.length) with
      | false => rw [hb] at hf; cases hf
      | true =>
        rw [hb] at hf
        simp only [Bool.and_eq_true] at hb
        have h1 := Nat.eq_of_beq_eq_true hb.1
        have h2 := Nat.le_of_ble_eq_true hb.2
        obtain ⟨c1, c2⟩ := rep_cells hi hrep hbox
        have hvl : v.cells.toList.length = sz := by simp [c1, h1]
        obtain ⟨f1, f2⟩ := fold_set v.cells.toList 0 off cells (by omega)
        simp only [Nat.add_zero] at f2
        have hfold : v.cells.zipIdx.foldl (fun (cs : Array Value) (p : Value × Nat) => cs.setIfInBounds (off + p.2) p.1) cells = (v.cells.toList.zipIdx 0).foldl (fun (cs : Array Value) (p : Value × Nat) => cs.setIfInBounds (off + p.2) p.1) cells := by
          rw [← Array.foldl_toList, Array.toList_zipIdx]
        obtain ⟨cells', g1, g2⟩ := fill_sound hi place vals dvs ((v.cells.toList.zipIdx 0).foldl (fun (cs : Array Value) (p : Value × Nat) => cs.setIfInBounds (off + p.2) p.1) cells) (setCells ds off (cellsD d)) ds' (by simpa using hl)
          (fun k p q e1 e2 => hp (k + 1) p q e1 e2) (by rw [f1, setCells_length]; exact hs) (by
            intro k u x e1 e2
            rw [f2] at e1
            rw [setCells_get _ _ _ _ (by omega)] at e2
            by_cases hk : off ≤ k ∧ k < off + sz
            · rw [if_pos (by omega), Array.getElem?_toList] at e1
              rw [if_pos (by omega)] at e2
              exact c2 _ _ _ e1 e2
            · rw [if_neg (by omega)] at e1 e2
              exact hr _ _ _ e1 e2) hf
        refine ⟨cells', ?_, g2⟩
        unfold Instr.fill
        rw [hpl]
        simp only
        have hvs : v.cells.size = sz := by rw [← hvl]; simp
        rw [if_neg (by simp [hvs]; omega)]
        rw [← g1, hfold]

theorem rep_zero (z : Value) : z.cells.size = (cellsD (ofV z)).length ∧ ∀ (i : Nat) (v : Value) (d : DV), z.cells[i]? = some v → (cellsD (ofV z))[i]? = some d → Rep h β v d := by
  have one : ∀ (z : Value) (d : DV), z.cells = #[z] → cellsD d = [d] → Rep h β z d → z.cells.size = (cellsD d).length ∧ ∀ (i : Nat) (v : Value) (x : DV), z.cells[i]? = some v → (cellsD d)[i]? = some x → Rep h β v x := by
    intro z d e1 e2 r
    rw [e1, e2]
    refine ⟨rfl, fun i u x q1 q2 => ?_⟩
    cases i with
    | zero => simp at q1 q2; subst q1; subst q2; exact r
    | succ i => simp at q1
  cases z with
  | agg cs =>
    refine ⟨by simp [ofV, cellsD, Value.cells], fun i v d e1 e2 => ?_⟩
    simp only [ofV, cellsD, List.getElem?_map, Array.getElem?_toList] at e2
    simp only [Value.cells] at e1
    rw [e1] at e2
    injection e2 with e2; subst e2; exact rep_ofV1 _
  | slice b l c => cases b <;> cases l <;> cases c <;> exact one _ _ rfl rfl (rep_ofV _)
  | pointer b => cases b <;> exact one _ _ rfl rfl (rep_ofV _)
  | _ => exact one _ _ rfl rfl (rep_ofV _)


theorem built_sound {σ : Objs} (hi : Inv C σ h β w) {t : TypeId} (vals : List (Nat × Value)) (dvs : List (Nat × DV)) (ds' : List DV) (hl : vals.length = dvs.length)
    (hp : ∀ (i : Nat) (p : Nat × Value) (q : Nat × DV), vals[i]? = some p → dvs[i]? = some q → p.1 = q.1 ∧ Rep h β p.2 q.2 ∧ boxOk σ q.2 = true) (hb : builtD P t dvs = some ds') :
    ∃ cells, P.built t vals = some cells ∧ Rep h β (.agg cells) (.agg ds') := by
  unfold builtD placesD zeroD at hb
  cases hit : P.info? t with
  | none => simp [hit] at hb
  | some it =>
    cases hz : it.zero with
    | none => cases hu : P.underlying t with
      | none => simp [hit, hu] at hb
      | some u => cases u <;> simp [hit, hu, hz] at hb
    | some z =>
      obtain ⟨z1, z2⟩ := rep_zero (h := h) (β := β) z
      cases hu : P.underlying t with
      | none => simp [hit, hu] at hb
      | some u =>
        cases u <;> try (simp [hit, hu] at hb; done)
        case array m e =>
          cases hie : P.info? e with
          | none => simp [hit, hu, hie] at hb
          | some ie =>
            simp only [hit, hu, hie, hz, Option.map_some] at hb
            obtain ⟨cells, g1, g2, g3⟩ := fill_sound hi _ vals dvs z.cells _ ds' hl hp z1 z2 hb
            exact ⟨cells, by simp only [Program.built, hit, hu, hz, hie]; exact g1, .agg _ _ g2 g3⟩
        case struct fields =>
          cases hpl : fields.toList.mapM (fun f => (P.info? f.type).map fun i => (f.offset, i.size)) with
          | none => simp [hit, hu, hpl] at hb
          | some places =>
            simp only [hit, hu, hz, hpl, Option.map_some] at hb
            obtain ⟨cells, g1, g2, g3⟩ := fill_sound hi _ vals dvs z.cells _ ds' hl hp z1 z2 hb
            exact ⟨cells, by simp only [Program.built, hit, hu, hz, hpl]; exact g1, .agg _ _ g2 g3⟩

theorem rep_snapG {σ : Objs} (hi : Inv C σ h β w) {h2 : Hp} (hh2 : HLe h h2) {g : Nat → Option PO}
    (hg : ∀ id po, g id = some po → obj σ id = some po ∧ ∀ b sz N K t cs, β id = .at b sz N K t → w.heap[b]? = some (.cells cs t (0, 0)) → h2 b = some (.cells cs t (0, 0)))
    {d d' : DV} (hs : Snap g d d') : ∀ {v : Value}, Rep h β v d → Rep h2 (fun _ => .no) v d' := by
  induction hs with
  | pure d hb => intro v r; exact (r.mono hh2 (BLe.refl β)).blw hb (fun id hid => absurd hid (by omega))
  | ref id off len po xs ho' hx hel _ ih =>
    intro v r
    obtain ⟨ho, hfz⟩ := hg id po ho'
    cases r with
    | refDead _ _ _ _ hb' => exact absurd hb' (boxOk_alive hi ho)
    | refNil _ hb' =>
      have hxs : xs = [] := List.eq_nil_of_length_eq_zero hx
      subst hxs
      exact .list _ _ _ _ 0 (fun _ _ => undef) rfl (Nat.le_refl _) (fun _ => rfl) (fun i ds e => by simp at e) (fun i ds j d e => by simp at e) (fun i ds j d e => by simp at e) (fun i ds j d e => by simp at e)
    | refAt _ _ _ cap o b' sz N C' t hb' h1 h2 h3 =>
      rcases hi.live id po ho with ⟨b, K, hb⟩ | ⟨hb, _⟩
      case inr => rw [hb] at hb'; cases hb'
      obtain ⟨po', cs, g1, g2, g3, g4, g5, g6, _⟩ := hi.objs id b _ _ _ _ hb
      rw [ho] at g1; injection g1 with g1; subst g1
      rw [hb] at hb'; injection hb' with e1 e2 e3 e4 e5; subst e1; subst e2; subst e3; subst e4; subst e5
      have hcel : ∀ i ds j d, xs[i]? = some ds → ds[j]? = some d → ∃ es e v, po.els[off + i]? = some es ∧ es[j]? = some e ∧ cs[(off + i) * po.sz + j]? = some v ∧ v.oneCell' = true ∧ Rep h β v e := by
        intro i ds j d e1 e2
        obtain ⟨es, q1, q2⟩ := hel i ds e1
        have hj : j < es.length := by have := (List.getElem?_eq_some_iff.1 e2).1; omega
        obtain ⟨v, q3, qo, q4⟩ := (g6 _ _ q1).2 j _ (List.getElem?_eq_getElem hj)
        exact ⟨es, _, v, q1, List.getElem?_eq_getElem hj, q3, qo, q4⟩
      refine .list _ _ _ _ po.sz (fun i j => (cs[(off + i) * po.sz + j]?).getD undef) hx (by omega) (fun e => by cases e) ?_ ?_ ?_ ?_
      · intro i ds e1
        obtain ⟨es, q1, q2⟩ := hel i ds e1
        rw [q2]; exact (g6 _ _ q1).1
      · intro i ds j d e1 e2
        obtain ⟨es, e, v, q1, q2, q3, qo, q4⟩ := hcel i ds j d e1 e2
        refine ⟨_, rfl, ?_⟩
        have hlt : i < len := by have := (List.getElem?_eq_some_iff.1 e1).1; omega
        rw [h3 (.inl (by omega)), add_at]
        unfold hcell
        rw [hfz _ _ _ _ _ _ hb g4]
        simp only [q3, Option.getD_some]
        rw [← q3, Nat.add_mul, Nat.add_assoc]; rfl
      · intro i ds j d e1 e2
        obtain ⟨es, e, v, q1, q2, q3, qo, q4⟩ := hcel i ds j d e1 e2
        rw [q3]; exact qo
      · intro i ds j d e1 e2
        obtain ⟨es, e, v, q1, q2, q3, qo, q4⟩ := hcel i ds j d e1 e2
        rw [q3]
        exact ih i ds es j d e e1 q1 e2 q2 q4
  | agg cs ds hl _ ih =>
    intro v r
    cases r with
    | agg vs _ hl' hr =>
      refine .agg _ _ (by omega) fun i v d e1 e2 => ?_
      have hlt : i < cs.length := by have := (List.getElem?_eq_some_iff.1 e2).1; omega
      exact ih i _ d (List.getElem?_eq_getElem hlt) e2 (hr i v _ e1 (List.getElem?_eq_getElem hlt))
  | tup cs ds hl _ ih =>
    intro v r
    cases r with
    | tup vs _ hl' hr =>
      refine .tup _ _ (by omega) fun i v d e1 e2 => ?_
      have hlt : i < cs.length := by have := (List.getElem?_eq_some_iff.1 e2).1; omega
      exact ih i _ d (List.getElem?_eq_getElem hlt) e2 (hr i v _ e1 (List.getElem?_eq_getElem hlt))
  | iface t v d _ ih =>
    intro v r
    cases r with
    | iface _ v' _ hr => exact .iface _ _ _ (ih hr)
  | pobj id i j po es ds ho' he hl _ ih =>
    intro v r
    obtain ⟨ho, hfz⟩ := hg id po ho'
    obtain ⟨b, K, hb, rfl⟩ := pointer_of hi ho r
    obtain ⟨po', cs, g1, g2, g3, g4, g5, g6, _⟩ := hi.objs id b _ _ _ _ hb
    rw [ho] at g1; injection g1 with g1; subst g1
    have hcel : ∀ k d, ds[k]? = some d → ∃ e v, es[j + k]? = some e ∧ cs[i * po.sz + (j + k)]? = some v ∧ Rep h β v e := by
      intro k d e1
      have hk : j + k < es.length := by have := (List.getElem?_eq_some_iff.1 e1).1; omega
      obtain ⟨v, q3, _, q4⟩ := (g6 _ _ he).2 (j + k) _ (List.getElem?_eq_getElem hk)
      exact ⟨_, v, List.getElem?_eq_getElem hk, q3, q4⟩
    refine .pim _ _ (fun k => (cs[i * po.sz + (j + k)]?).getD undef) ?_ ?_
    · intro k d e1
      obtain ⟨e, v, q1, q2, q3⟩ := hcel k d e1
      rw [add_at]
      unfold hcell
      rw [hfz _ _ _ _ _ _ hb g4]
      simp only [q2, Option.getD_some]
      rw [← q2, Nat.add_assoc]; rfl
    · intro k d e1
      obtain ⟨e, v, q1, q2, q3⟩ := hcel k d e1
      rw [q2]
      exact ih k d e e1 q1 q3


theorem fobj_some {σ : Objs} {id : Nat} {po : PO} (e : fobj σ id = some po) : obj σ id = some po ∧ po.frz = true := by
  unfold fobj at e
  cases ho : obj σ id with
  | none => rw [ho] at e; cases e
  | some q =>
    rw [ho] at e
    simp only at e
    cases hq : q.frz with
    | false => rw [hq] at e; cases e
    | true => rw [hq] at e; injection e with e; subst e; exact ⟨rfl, hq⟩

theorem rep_snapF {σ : Objs} (hi : Inv C σ h β w) {d d' : DV} (hs : Snap (fobj σ) d d') {v : Value} (r : Rep h β v d) : Rep h (fun _ => .no) v d' := by
  refine rep_snapG hi (HLe.refl h) (fun id po e => ?_) hs r
  obtain ⟨ho, hf⟩ := fobj_some e
  refine ⟨ho, fun b sz N K t cs hb hw => ?_⟩
  obtain ⟨po', cs', g1, _, _, g4, _, _, _, g8⟩ := hi.objs id b _ _ _ _ hb
  rw [ho] at g1; injection g1 with g1; subst g1
  rw [g8 hf]; rw [hw] at g4; exact g4.symm

/-- The arguments of a call, as they are read there. -/
theorem args_snap {σ : Objs} (hi : Inv C σ h β w) {env : Env} (he : ∀ t, Rep h β (a.tmps.getD t undef) (env t)) {c : Call} {ds' : List DV} (hs : Snaps (fobj σ) (c.args.toList.map (ev env)) ds') :
    (c.args.map a.eval).size = ds'.length ∧ ∀ (i : Nat) (v : Value) (d : DV), (c.args.map a.eval)[i]? = some v → ds'[i]? = some d → Rep h (fun _ => .no) v d := by
  refine ⟨by have := hs.len; simpa using this, fun i v d e1 e2 => ?_⟩
  simp only [Array.getElem?_map] at e1
  cases hx : c.args[i]? with
  | none => rw [hx] at e1; cases e1
  | some x =>
    rw [hx] at e1; injection e1 with e1; subst e1
    have hm : (c.args.toList.map (ev env))[i]? = some (ev env x) := by rw [List.getElem?_map, Array.getElem?_toList, hx]; rfl
    exact rep_snapF hi (hs.get i _ _ hm e2) (rep_ev he x)

theorem callsV_sound {o : Oper} {c : Call} (ho : o.op = .call c) {f : FuncId} (hc : c.callee = .value (.func f)) {R : Value → World → Prop} (hcv : CallsV P f (c.args.map a.eval) w R)
    {next : Act → World → Prop} {Q : Exit → Act → World → Prop} (hfin : ∀ v w', R v w' → next (a.put o.dst v) w') : o.wp P a w next Q := by
  have hex : execOp a.eval o = (do let d ← resolve a.eval c o.type; invoke d.target d.args) := by unfold execOp; rw [ho]
  have hres : ∀ w, (resolve a.eval c o.type).run P w = .ok { target := .fn (.func f) #[], args := c.args.map a.eval } w := by
    intro w; simp [resolve, hc, Act.eval, Deferred.ofValue]
  unfold Oper.wp
  rw [hex, Sem.run_bind, hres]
  simp only [Result.andThen_ok, invoke, Array.append_empty]
  rcases hcv with ⟨fn, body, hfn, hbody, hname, hcalls⟩ | ⟨v, w', hrun, hpost⟩
  · have hname' : ¬ fn.name = "runtime.NumGoroutine" := by simpa using hname
    have : (callFunc f (c.args.map a.eval)).run P w = .ok (.enter f (c.args.map a.eval)) w := by
      simp [callFunc, Sem.run_bind, hfn, hname', hbody]
    rw [this]
    refine hcalls.mono ?_
    rintro e w' ⟨v, rfl, hpost⟩
    exact hfin v w' hpost
  · rw [hrun]
    exact hfin v w' hpost

/-- What was lent comes back. -/
theorem inv_back {σ : Objs} (hi : Inv C σ h β w) {hF : Hp} {w' : World} {h' : Hp} (hle : HLe h hF) (hb : Below w.heap.size w w') (hv : ∀ b o, h' b = some o → w'.heap[b]? = some o) (hle' : HLe hF h') :
    ∃ h'', HLe h h'' ∧ Inv C σ h'' β w' := by
  classical
  refine ⟨fun b => if h b = none ∧ b < w.heap.size then none else h' b, ?_, ?_⟩
  · intro b o e
    show (if h b = none ∧ b < w.heap.size then none else h' b) = some o
    rw [if_neg (by rintro ⟨q, _⟩; rw [q] at e; cases e)]
    exact hle' _ _ (hle _ _ e)
  · refine inv_call hi hb ?_ ?_ ?_
    · intro b o e
      split at e
      · cases e
      · exact hv b o e
    · intro b o e
      show (if h b = none ∧ b < w.heap.size then none else h' b) = some o
      rw [if_neg (by rintro ⟨q, _⟩; rw [q] at e; cases e)]
      exact hle' _ _ (hle _ _ e)
    · intro b o e
      by_cases hlt : b < w.heap.size
      · cases hx : h b with
        | none => rw [if_pos ⟨hx, hlt⟩] at e; cases e
        | some o' =>
          rw [if_neg (by rintro ⟨q, _⟩; rw [hx] at q; cases q), hle' _ _ (hle _ _ hx)] at e
          exact .inl ⟨e, hlt⟩
      · exact .inr (by omega)

/-- A new object out of a call. -/
theorem inv_join {σ : Objs} (hi : Inv C σ h β w) {w' : World} {h' : Hp} {β' : Nat → Bl} {po : PO} (hpo : ∀ ds ∈ po.els, ∀ d ∈ ds, Blw 0 d) (hj : Inv ⟨w, h⟩ [some po] h' β' w') :
    ∃ β'', BLe β β'' ∧ β'' σ.length = β' 0 ∧ Inv C (σ ++ [some po]) h' β'' w' := by
  have hbel : Below w.heap.size w w' := ⟨hj.os, hj.tape, hj.output, hj.size, fun b hb => hj.frame b hb⟩
  have hi2 : Inv C σ h' β w' := inv_call hi hbel hj.view hj.hle hj.hnew
  have hble : BLe β (fun id => if id = σ.length then β' 0 else β id) := by
    intro id
    by_cases h1 : id = σ.length
    · right; left; exact hi.unborn id (by omega)
    · left; simp [h1]
  refine ⟨_, hble, by simp, ?_⟩
  have hcase : ∀ {id b sz N K t}, (if id = σ.length then β' 0 else β id) = .at b sz N K t → (id = σ.length ∧ β' 0 = .at b sz N K t) ∨ (id ≠ σ.length ∧ β id = .at b sz N K t) := by
    intro id b sz N K t q
    by_cases h1 : id = σ.length
    · rw [if_pos h1] at q; exact .inl ⟨h1, q⟩
    · rw [if_neg h1] at q; exact .inr ⟨h1, q⟩
  have hnew : ∀ {b sz N K t}, β' 0 = .at b sz N K t → w.heap.size ≤ b := fun q => hj.own _ _ _ _ _ _ q
  have hs := hi.size
  refine { os := hi2.os, tape := hi2.tape, output := hi2.output, size := hi2.size, view := hi2.view, hle := hi2.hle, hnew := hi2.hnew, own := ?_, unborn := ?_, inj := ?_, live := ?_, objs := ?_, frame := hi2.frame }
  · intro id b sz N K t q
    rcases hcase q with ⟨_, q⟩ | ⟨_, q⟩
    · have := hnew q; omega
    · exact hi.own _ _ _ _ _ _ q
  · intro id hge
    simp only [List.length_append, List.length_cons, List.length_nil] at hge
    show (if id = σ.length then β' 0 else β id) = .no
    rw [if_neg (by omega)]; exact hi.unborn id (by omega)
  · intro id id' b s1 N1 K1 t1 s2 N2 K2 t2 q1 q2
    rcases hcase q1 with ⟨r1, q1⟩ | ⟨r1, q1⟩ <;> rcases hcase q2 with ⟨r2, q2⟩ | ⟨r2, q2⟩
    · rw [r1, r2]
    · have := hnew q1; have := hi.blk q2; omega
    · have := hnew q2; have := hi.blk q1; omega
    · exact hi.inj _ _ _ _ _ _ _ _ _ _ _ q1 q2
  · intro id q e
    by_cases h1 : id = σ.length
    · subst h1
      rw [obj_new] at e; injection e with e; subst e
      have e0 : (if σ.length = σ.length then β' 0 else β σ.length) = β' 0 := if_pos rfl
      rw [e0]
      exact hj.live 0 po (by simp [obj])
    · have hlt := obj_lt e
      simp only [List.length_append, List.length_cons, List.length_nil] at hlt
      rw [obj_append (by omega)] at e
      have e0 : (if id = σ.length then β' 0 else β id) = β id := if_neg h1
      rw [e0]; exact hi.live id q e
  · intro id b sz N K t q
    rcases hcase q with ⟨rfl, qq⟩ | ⟨r, qq⟩
    · obtain ⟨po', cs, g1, g2, g3, g4, g5, g6, g7, g8⟩ := hj.objs 0 _ _ _ _ _ qq
      simp [obj] at g1; subst g1
      refine ⟨po, cs, obj_new, g2, g3, g4, g5, ?_, g7, g8⟩
      intro i ds e1
      obtain ⟨k1, k2⟩ := g6 i ds e1
      refine ⟨k1, fun j d e2 => ?_⟩
      obtain ⟨u, k3, k4, k5⟩ := k2 j d e2
      exact ⟨u, k3, k4, k5.blw (hpo _ (List.mem_of_getElem? e1) _ (List.mem_of_getElem? e2)) (fun id hid => absurd hid (by omega))⟩
    · obtain ⟨po', cs, g1, g2, g3, g4, g5, g6, g7, g8⟩ := hi2.objs id _ _ _ _ _ qq
      refine ⟨po', cs, (obj_append (obj_lt g1)).trans g1, g2, g3, g4, g5, ?_, g7, g8⟩
      intro i ds e1
      obtain ⟨k1, k2⟩ := g6 i ds e1
      refine ⟨k1, fun j d e2 => ?_⟩
      obtain ⟨u, k3, k4, k5⟩ := k2 j d e2
      exact ⟨u, k3, k4, k5.mono (HLe.refl h') hble⟩

theorem call_sound {o : Oper} {c : Call} (ho : o.op = .call c) {f : FuncId} (hc : c.callee = .value (.func f)) {env : Env} {σ : Objs} {K : DV → Objs → Prop}
    (hk : callK P f (c.args.toList.map (ev env)) σ K) (hi : Inv C σ h β w) (he : ∀ t, Rep h β (a.tmps.getD t undef) (env t)) {next : Act → World → Prop} {Q : Exit → Act → World → Prop}
    (hnext : VNext C h β a o K next) : o.wp P a w next Q := by
  unfold callK at hk
  obtain ⟨F, ds', hs, hk⟩ := hk
  obtain ⟨hF, hleF, hiF⟩ := inv_frz F σ h hi
  obtain ⟨hl, hargs⟩ := args_snap hiF (fun t => (he t).mono hleF (BLe.refl β)) hs
  rcases hk with ⟨R, ⟨hp, hpr, hf⟩, hR⟩ | ⟨isPtr, po, ⟨hp, hpo, hf⟩, hK⟩
  · refine callsV_sound ho hc (hf w hF _ hiF.view hl hargs) ?_
    rintro v w' ⟨d, h', hRd, hrep, hbel, hv', hle, hnew⟩
    rcases hR d hRd with ⟨hsca, hk'⟩ | hk'
    · obtain ⟨h'', hle'', hi''⟩ := inv_back hi hleF hbel hv' hle
      exact hnext v d σ h'' β w' hi'' hle'' (BLe.refl β) (hrep.sca hsca) hk'
    · exact hnext v d _ h' β w' (inv_call hiF hbel hv' hle hnew) (hleF.trans hle) (BLe.refl β) (hrep.blw (hpr d hRd) (fun id hid => absurd hid (by omega))) hk'
  · refine callsV_sound ho hc (hf w hF _ hiF.view hl hargs) ?_
    rintro v w' ⟨h', β', hi', hrep⟩
    obtain ⟨β'', hle, he0, hi''⟩ := inv_join hiF hpo hi'
    refine hnext v _ _ h' β'' w' hi'' (hleF.trans hi'.hle) hle ?_ hK
    cases isPtr with
    | true =>
      simp only [cond_true] at hrep ⊢
      generalize h00 : β' 0 = x0 at *
      cases hrep with
      | pobjAt _ _ _ b sz N K' t hb => rw [h00] at hb; subst hb; exact .pobjAt _ _ _ _ _ _ _ _ he0
      | pobjDead _ _ _ _ hb => rw [h00] at hb; subst hb; exact .pobjDead _ _ _ _ he0
    | false =>
      simp only [cond_false] at hrep ⊢
      generalize h00 : β' 0 = x0 at *
      generalize hL : po.els.length = L at *
      cases hrep with
      | refAt _ _ _ cap oo b sz N K' t hb q1 q2 q3 => rw [h00] at hb; subst hb; exact .refAt _ _ _ _ _ _ _ _ _ _ he0 q1 q2 q3
      | refNil _ hb => rw [h00] at hb; subst hb; exact .refNil _ he0
      | refDead _ _ _ _ hb => rw [h00] at hb; subst hb; exact .refDead _ _ _ _ he0

end Go.Pv
