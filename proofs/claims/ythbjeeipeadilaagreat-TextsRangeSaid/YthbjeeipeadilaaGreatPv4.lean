/- The walk over pure values is sound: every operation, regions, bodies. -/
import Derived.Test.YthbjeeipeadilaaGreatPv3
import Derived.Scope
set_option linter.unusedSimpArgs false
set_option linter.unusedVariables false
namespace Go.Pv
open Go Go.RowKit
variable {P : Program} {C : Ctx} {n : Nat} {h : Hp} {β : Nat → Bl} {w : World} {a : Act}

theorem optK_some {α : Type} {x : Option α} {K : α → Prop} (h : optK x K) : ∃ y, x = some y ∧ K y := by
  cases x with
  | none => exact h.elim
  | some y => exact ⟨y, rfl, h⟩

theorem boxOk_alive {σ : Objs} (hi : Inv C σ h β w) {id : Nat} {po : PO} (ho : obj σ id = some po) : β id ≠ .dead := by
  rcases hi.live id po ho with ⟨b, K, hb⟩ | ⟨hb, _⟩ <;> (rw [hb]; intro q; cases q)

theorem one_cell {σ : Objs} (hi : Inv C σ h β w) {v : Value} {d : DV} (r : Rep h β v d) (hd : cellOk σ d = true) : v.oneCell' = true := by
  have dead : ∀ id, (obj σ id).isSome = true → β id ≠ .dead := by
    intro id e
    cases ho : obj σ id with
    | none => rw [ho] at e; cases e
    | some po => exact boxOk_alive hi ho
  cases r <;> first | rfl | (simp [cellOk] at hd; done) | (rename_i hbd; exact absurd hbd (dead _ hd))

theorem pointer_of {σ : Objs} (hi : Inv C σ h β w) {v : Value} {id i j : Nat} {po : PO} (ho : obj σ id = some po) (r : Rep h β v (.pobj id i j)) :
    ∃ b K, β id = .at b po.sz po.els.length K po.ty ∧ v = .pointer (some ⟨b, i * po.sz + j, none⟩) := by
  cases r with
  | pobjAt _ _ _ b' sz N K' t hb' =>
    rcases hi.live id po ho with ⟨b, K, hb⟩ | ⟨hb, _⟩
    case inr => rw [hb] at hb'; cases hb'
    rw [hb] at hb'; injection hb' with e1 e2 e3 e4 e5; subst e1; subst e2; exact ⟨b, K, hb, rfl⟩
  | pobjDead _ _ _ _ hb' => exact absurd hb' (boxOk_alive hi ho)

theorem pur_sound {o : Oper} {env : Env} {σ : Objs} {K : DV → Objs → Prop} (hk : purK P o env (K · σ)) (hi : Inv C σ h β w) (he : ∀ t, Rep h β (a.tmps.getD t undef) (env t)) {next : Act → World → Prop} {Q : Exit → Act → World → Prop}
    (hnext : VNext C h β a o K next) : o.wp P a w next Q := by
  unfold purK at hk
  cases hb : (notSel o.op && o.op.operands.toList.all fun x => (toV (ev env x)).isSome) with
  | false => rw [hb] at hk; exact hk.elim
  | true =>
    rw [hb] at hk
    rw [Bool.and_eq_true] at hb
    obtain ⟨hsel', hb⟩ := hb
    have hsel : ∀ cs b, o.op ≠ .select cs b := by intro cs b e; rw [e] at hsel'; cases hsel'
    have hex : execOp a.eval o = execOp (fun x => (toV (ev env x)).getD undef) o := by
      refine execOp_congr o hsel fun x hx => ?_
      have := List.all_eq_true.1 hb x (by simpa using hx)
      cases hv : toV (ev env x) with
      | none => rw [hv] at this; cases this
      | some v => rw [rep_toV hv (rep_ev he x)]; rfl
    simp only [cond_true] at hk
    split at hk
    · rename_i v hv
      exact wp_value (by rw [hex]; exact pureRun_run P _ _ hv w) (hnext _ _ _ _ _ _ hi (HLe.refl _) (BLe.refl _) (rep_ofV1 v) hk)
    · exact hk.elim

theorem fld_sound {t u : TypeId} {f off : Nat} (hf : fldOff P t f = some (off, u)) :
    ∃ fs x i, P.underlying t = some (.struct fs) ∧ fs[f]? = some x ∧ x.offset = off ∧ x.type = u ∧ P.info? x.type = some i ∧ i.size ≠ 0 := by
  unfold fldOff at hf
  split at hf
  · rename_i fs hu
    split at hf
    · rename_i x hx
      split at hf
      · rename_i i hi
        cases hb : Nat.beq i.size 0 with
        | true => rw [hb] at hf; cases hf
        | false =>
          rw [hb] at hf
          simp only [cond_false, Option.some.injEq, Prod.mk.injEq] at hf
          exact ⟨fs, x, i, hu, hx, hf.1, hf.2, hi, fun e => by rw [e] at hb; cases hb⟩
      · cases hf
    · cases hf
  · cases hf

theorem pim_of {v : Value} {cs : List DV} (r : Rep h β v (.pim cs)) : ∃ ad, v = .pointer (some ad) ∧ ∃ vs : Nat → Value, (∀ j d, cs[j]? = some d → hcell h (ad.add j) = some (vs j)) ∧ ∀ j d, cs[j]? = some d → Rep h β (vs j) d := by
  cases r with
  | pim ad _ vs hc hr => exact ⟨ad, rfl, vs, hc, hr⟩

theorem part_sound {t : TypeId} {ds : List DV} {j : Nat} {K : DV → Prop} (hk : ldK P t ds j K) (cs : Array Value) (hl : cs.size = ds.length)
    (hc : ∀ (i : Nat) (v : Value) (d : DV), cs[i]? = some v → ds[i]? = some d → Rep h β v d) : ∃ v d, (part t cs j).run P w = .ok v w ∧ Rep h β v d ∧ K d := by
  unfold ldK at hk
  cases hs : shp P t with
  | none => rw [hs] at hk; exact hk.elim
  | some x =>
    obtain ⟨ag, m⟩ := x
    obtain ⟨inf, hinf, him⟩ := shp_of hs
    have hu : ∃ u, P.underlying t = some u ∧ ((match u with | .struct _ | .array _ _ => true | _ => false) = ag) := by
      unfold shp at hs
      cases hu : P.underlying t with
      | none => simp [hu] at hs
      | some u => cases u <;> simp [hu, hinf] at hs <;> exact ⟨_, rfl, by simp [hs.1]⟩
    obtain ⟨u, hu, hag⟩ := hu
    rw [hs] at hk
    have hisagg : (isAgg t).run P w = .ok ag w := by
      subst hag
      cases u <;> simp [isAgg, run_underlying hu]
    cases ag with
    | true =>
      cases hb : Nat.ble (j + m) ds.length with
      | false => simp only [hb, cond_false] at hk
      | true =>
        simp only [hb, cond_true] at hk
        have hle := Nat.le_of_ble_eq_true hb
        refine ⟨.agg (cs.extract j (j + m)), _, ?_, ?_, hk⟩
        · simp only [part, Sem.run_bind, hisagg, Result.andThen_ok, if_true, run_sizeOf w hinf, show P.cellsOf t = inf.size by simp [Program.cellsOf, hinf], him, Sem.run_pure]
        · refine .agg _ _ (by simp; omega) fun i v d e1 e2 => ?_
          rw [Array.getElem?_extract] at e1
          rw [List.getElem?_take] at e2
          by_cases hlt : i < m
          · rw [if_pos hlt, List.getElem?_drop] at e2
            rw [if_pos (by omega)] at e1
            exact hc _ _ _ e1 e2
          · rw [if_neg hlt] at e2; cases e2
    | false =>
      have h1 : optK ds[j]? K := by
        revert hk; split <;> simp_all
      obtain ⟨d, hd, hk'⟩ := optK_some h1
      have hlt : j < cs.size := by rw [hl]; exact (List.getElem?_eq_some_iff.1 hd).1
      refine ⟨cs[j], d, ?_, hc j _ _ (Array.getElem?_eq_getElem hlt) hd, hk'⟩
      simp [part, Sem.run_bind, hisagg, Array.getElem?_eq_getElem hlt]


theorem fold_set : ∀ (vs : List Value) (k off : Nat) (cells : Array Value), off + k + vs.length ≤ cells.size →
    ((vs.zipIdx k).foldl (fun (cs : Array Value) (p : Value × Nat) => cs.setIfInBounds (off + p.2) p.1) cells).size = cells.size ∧
    ∀ q : Nat, ((vs.zipIdx k).foldl (fun (cs : Array Value) (p : Value × Nat) => cs.setIfInBounds (off + p.2) p.1) cells)[q]? = if off + k ≤ q ∧ q < off + k + vs.length then vs[q - (off + k)]? else cells[q]?
  | [], k, off, cells, _ => ⟨rfl, fun q => by rw [if_neg (by simp only [List.length_nil]; omega)]; rfl⟩
  | v :: vs, k, off, cells, hl => by
    simp only [List.length_cons] at hl
    simp only [List.zipIdx_cons, List.foldl_cons]
    obtain ⟨h1, h2⟩ := fold_set vs (k + 1) off (cells.setIfInBounds (off + k) v) (by rw [Array.size_setIfInBounds]; omega)
    refine ⟨by rw [h1, Array.size_setIfInBounds], fun q => ?_⟩
    rw [h2]
    by_cases e0 : q = off + k
    · subst e0
      rw [if_neg (by omega), if_pos (by simp only [List.length_cons]; omega), Array.getElem?_setIfInBounds, if_pos rfl, if_pos (by omega), Nat.sub_self]; rfl
    · by_cases e1 : off + (k + 1) ≤ q ∧ q < off + (k + 1) + vs.length
      · rw [if_pos e1, if_pos (by simp only [List.length_cons]; omega)]
        obtain ⟨r, rfl⟩ : ∃ r, q = off + (k + 1) + r := ⟨q - (off + (k + 1)), by omega⟩
        rw [show off + (k + 1) + r - (off + (k + 1)) = r by omega, show off + (k + 1) + r - (off + k) = r + 1 by omega]; rfl
      · rw [if_neg e1, if_neg (by simp only [List.length_cons]; omega), Array.getElem?_setIfInBounds, if_neg (by omega)]

theorem fill_sound {σ : Objs} (hi : Inv C σ h β w) (place : Nat → Option (Nat × Nat)) : ∀ (vals : List (Nat × Value)) (dvs : List (Nat × DV)) (cells : Array Value) (ds ds' : List DV),
    vals.length = dvs.length → (∀ (i : Nat) (p : Nat × Value) (q : Nat × DV), vals[i]? = some p → dvs[i]? = some q → p.1 = q.1 ∧ Rep h β p.2 q.2 ∧ boxOk σ q.2 = true) →
    cells.size = ds.length → (∀ (i : Nat) (v : Value) (d : DV), cells[i]? = some v → ds[i]? = some d → Rep h β v d) → fillD place ds dvs = some ds' →
    ∃ cells', Instr.fill place cells vals = some cells' ∧ cells'.size = ds'.length ∧ ∀ (i : Nat) (v : Value) (d : DV), cells'[i]? = some v → ds'[i]? = some d → Rep h β v d
  | [], [], cells, ds, ds', _, _, hl, hr, hf => by
    simp only [fillD, Option.some.injEq] at hf; subst hf
    exact ⟨cells, rfl, hl, hr⟩
  | [], _ :: _, _, _, _, hl, _, _, _, _ => by simp at hl
  | _ :: _, [], _, _, _, hl, _, _, _, _ => by simp at hl
  | (i, v) :: vals, (i', d) :: dvs, cells, ds, ds', hl, hp, hs, hr, hf => by
    obtain ⟨hii, hrep, hbox⟩ := hp 0 _ _ rfl rfl
    simp only at hii; subst hii
    simp only [fillD] at hf
    cases hpl : place i with
    | none => rw [hpl] at hf; cases hf
    | some x =>
      obtain ⟨off, sz⟩ := x
      rw [hpl] at hf
      simp only at hf
      cases hb : (Nat.beq (cellsD d).length sz && Nat.ble (off + sz) ds.length) with
      | false => rw [hb] at hf; cases hf
      | true =>
        rw [hb] at hf
        simp only [Bool.and_eq_true] at hb
        have h1 := Nat.eq_of_beq_eq_true hb.1
        have h2 := Nat.le_of_ble_eq_true hb.2
        obtain ⟨c1, c2⟩ := rep_cells hi hrep hbox
        have hvl : v.cells.toList.length = sz := by simp [c1, h1]
        obtain ⟨f1, f2⟩ := fold_set v.cells.toList 0 off cells (by omega)
        simp only [Nat.add_zero] at f2
        have hfold : v.cells.zipIdx.foldl (fun (cs : Array Value) (p : Value × Nat) => cs.setIfInBounds (off + p.2) p.1) cells = (v.cells.toList.zipIdx 0).foldl (fun (cs : Array Value) (p : Value × Nat) => cs.setIfInBounds (off + p.2) p.1) cells := by
          rw [← Array.foldl_toList, Array.toList_zipIdx]
        obtain ⟨cells', g1, g2⟩ := fill_sound hi place vals dvs ((v.cells.toList.zipIdx 0).foldl (fun (cs : Array Value) (p : Value × Nat) => cs.setIfInBounds (off + p.2) p.1) cells) (setCells ds off (cellsD d)) ds' (by simpa using hl)
          (fun k p q e1 e2 => hp (k + 1) p q e1 e2) (by rw [f1, setCells_length]; exact hs) (by
            intro k u x e1 e2
            rw [f2] at e1
            rw [setCells_get _ _ _ _ (by omega)] at e2
            by_cases hk : off ≤ k ∧ k < off + sz
            · rw [if_pos (by omega), Array.getElem?_toList] at e1
              rw [if_pos (by omega)] at e2
              exact c2 _ _ _ e1 e2
            · rw [if_neg (by omega)] at e1 e2
              exact hr _ _ _ e1 e2) hf
        refine ⟨cells', ?_, g2⟩
        unfold Instr.fill
        rw [hpl]
        simp only
        have hvs : v.cells.size = sz := by rw [← hvl]; simp
        rw [if_neg (by simp [hvs]; omega)]
        rw [← g1, hfold]

theorem rep_zero (z : Value) : z.cells.size = (cellsD (ofV z)).length ∧ ∀ (i : Nat) (v : Value) (d : DV), z.cells[i]? = some v → (cellsD (ofV z))[i]? = some d → Rep h β v d := by
  have one : ∀ (z : Value) (d : DV), z.cells = #[z] → cellsD d = [d] → Rep h β z d → z.cells.size = (cellsD d).length ∧ ∀ (i : Nat) (v : Value) (x : DV), z.cells[i]? = some v → (cellsD d)[i]? = some x → Rep h β v x := by
    intro z d e1 e2 r
    rw [e1, e2]
    refine ⟨rfl, fun i u x q1 q2 => ?_⟩
    cases i with
    | zero => simp at q1 q2; subst q1; subst q2; exact r
    | succ i => simp at q1
  cases z with
  | agg cs =>
    refine ⟨by simp [ofV, cellsD, Value.cells], fun i v d e1 e2 => ?_⟩
    simp only [ofV, cellsD, List.getElem?_map, Array.getElem?_toList] at e2
    simp only [Value.cells] at e1
    rw [e1] at e2
    injection e2 with e2; subst e2; exact rep_ofV1 _
  | slice b l c => cases b <;> cases l <;> cases c <;> exact one _ _ rfl rfl (rep_ofV _)
  | pointer b => cases b <;> exact one _ _ rfl rfl (rep_ofV _)
  | map b => cases b <;> exact one _ _ rfl rfl (rep_ofV _)
  | _ => exact one _ _ rfl rfl (rep_ofV _)


theorem built_sound {σ : Objs} (hi : Inv C σ h β w) {t : TypeId} (vals : List (Nat × Value)) (dvs : List (Nat × DV)) (ds' : List DV) (hl : vals.length = dvs.length)
    (hp : ∀ (i : Nat) (p : Nat × Value) (q : Nat × DV), vals[i]? = some p → dvs[i]? = some q → p.1 = q.1 ∧ Rep h β p.2 q.2 ∧ boxOk σ q.2 = true) (hb : builtD P t dvs = some ds') :
    ∃ cells, P.built t vals = some cells ∧ Rep h β (.agg cells) (.agg ds') := by
  unfold builtD placesD zeroD at hb
  cases hit : P.info? t with
  | none => simp [hit] at hb
  | some it =>
    cases hz : it.zero with
    | none => cases hu : P.underlying t with
      | none => simp [hit, hu] at hb
      | some u => cases u <;> simp [hit, hu, hz] at hb
    | some z =>
      obtain ⟨z1, z2⟩ := rep_zero (h := h) (β := β) z
      cases hu : P.underlying t with
      | none => simp [hit, hu] at hb
      | some u =>
        cases u <;> try (simp [hit, hu] at hb; done)
        case array m e =>
          cases hie : P.info? e with
          | none => simp [hit, hu, hie] at hb
          | some ie =>
            simp only [hit, hu, hie, hz, Option.map_some] at hb
            obtain ⟨cells, g1, g2, g3⟩ := fill_sound hi _ vals dvs z.cells _ ds' hl hp z1 z2 hb
            exact ⟨cells, by simp only [Program.built, hit, hu, hz, hie]; exact g1, .agg _ _ g2 g3⟩
        case struct fields =>
          cases hpl : fields.toList.mapM (fun f => (P.info? f.type).map fun i => (f.offset, i.size)) with
          | none => simp [hit, hu, hpl] at hb
          | some places =>
            simp only [hit, hu, hz, hpl, Option.map_some] at hb
            obtain ⟨cells, g1, g2, g3⟩ := fill_sound hi _ vals dvs z.cells _ ds' hl hp z1 z2 hb
            exact ⟨cells, by simp only [Program.built, hit, hu, hz, hpl]; exact g1, .agg _ _ g2 g3⟩

theorem rep_snapG {σ : Objs} (hi : Inv C σ h β w) {h2 : Hp} (hh2 : HLe h h2) {g : Nat → Option PO}
    (hg : ∀ id po, g id = some po → obj σ id = some po ∧ ∀ b sz N K t cs, β id = .at b sz N K t → w.heap[b]? = some (.cells cs t (0, 0)) → h2 b = some (.cells cs t (0, 0)))
    {d d' : DV} (hs : Snap g d d') : ∀ {v : Value}, Rep h β v d → Rep h2 (fun _ => .no) v d' := by
  induction hs with
  | pure d hb => intro v r; exact (r.mono hh2 (BLe.refl β)).blw hb (fun id hid => absurd hid (by omega))
  | ref id off len po xs ho' hx hel _ ih =>
    intro v r
    obtain ⟨ho, hfz⟩ := hg id po ho'
    cases r with
    | refDead _ _ _ _ hb' => exact absurd hb' (boxOk_alive hi ho)
    | refNil _ hb' =>
      have hxs : xs = [] := List.eq_nil_of_length_eq_zero hx
      subst hxs
      exact .list _ _ _ _ 0 (fun _ _ => undef) rfl (Nat.le_refl _) (fun _ => rfl) (fun i ds e => by simp at e) (fun i ds j d e => by simp at e) (fun i ds j d e => by simp at e) (fun i ds j d e => by simp at e)
    | refAt _ _ _ cap o b' sz N C' t hb' h1 h2 h3 ht =>
      rcases hi.live id po ho with ⟨b, K, hb⟩ | ⟨hb, _⟩
      case inr => rw [hb] at hb'; cases hb'
      obtain ⟨po', cs, g1, g2, g3, g4, g5, g6, _⟩ := hi.objs id b _ _ _ _ hb
      rw [ho] at g1; injection g1 with g1; subst g1
      rw [hb] at hb'; injection hb' with e1 e2 e3 e4 e5; subst e1; subst e2; subst e3; subst e4; subst e5
      have hcel : ∀ i ds j d, xs[i]? = some ds → ds[j]? = some d → ∃ es e v, po.els[off + i]? = some es ∧ es[j]? = some e ∧ cs[(off + i) * po.sz + j]? = some v ∧ v.oneCell' = true ∧ Rep h β v e := by
        intro i ds j d e1 e2
        obtain ⟨es, q1, q2⟩ := hel i ds e1
        have hj : j < es.length := by have := (List.getElem?_eq_some_iff.1 e2).1; omega
        obtain ⟨v, q3, qo, q4⟩ := (g6 _ _ q1).2 j _ (List.getElem?_eq_getElem hj)
        exact ⟨es, _, v, q1, List.getElem?_eq_getElem hj, q3, qo, q4⟩
      refine .list _ _ _ _ po.sz (fun i j => (cs[(off + i) * po.sz + j]?).getD undef) hx (by omega) (fun e => by cases e) ?_ ?_ ?_ ?_
      · intro i ds e1
        obtain ⟨es, q1, q2⟩ := hel i ds e1
        rw [q2]; exact (g6 _ _ q1).1
      · intro i ds j d e1 e2
        obtain ⟨es, e, v, q1, q2, q3, qo, q4⟩ := hcel i ds j d e1 e2
        refine ⟨_, rfl, ?_⟩
        have hlt : i < len := by have := (List.getElem?_eq_some_iff.1 e1).1; omega
        rw [h3 (.inl (by omega)), add_at]
        unfold hcell
        rw [hfz _ _ _ _ _ _ hb (g4.cells ht)]
        simp only [q3, Option.getD_some]
        rw [← q3, Nat.add_mul, Nat.add_assoc]; rfl
      · intro i ds j d e1 e2
        obtain ⟨es, e, v, q1, q2, q3, qo, q4⟩ := hcel i ds j d e1 e2
        rw [q3]; exact qo
      · intro i ds j d e1 e2
        obtain ⟨es, e, v, q1, q2, q3, qo, q4⟩ := hcel i ds j d e1 e2
        rw [q3]
        exact ih i ds es j d e e1 q1 e2 q2 q4
  | agg cs ds hl _ ih =>
    intro v r
    cases r with
    | agg vs _ hl' hr =>
      refine .agg _ _ (by omega) fun i v d e1 e2 => ?_
      have hlt : i < cs.length := by have := (List.getElem?_eq_some_iff.1 e2).1; omega
      exact ih i _ d (List.getElem?_eq_getElem hlt) e2 (hr i v _ e1 (List.getElem?_eq_getElem hlt))
  | tup cs ds hl _ ih =>
    intro v r
    cases r with
    | tup vs _ hl' hr =>
      refine .tup _ _ (by omega) fun i v d e1 e2 => ?_
      have hlt : i < cs.length := by have := (List.getElem?_eq_some_iff.1 e2).1; omega
      exact ih i _ d (List.getElem?_eq_getElem hlt) e2 (hr i v _ e1 (List.getElem?_eq_getElem hlt))
  | iface t v d _ ih =>
    intro v r
    cases r with
    | iface _ v' _ hr => exact .iface _ _ _ (ih hr)
  | pobj id i j po es ds ho' he hl _ ih =>
    intro v r
    obtain ⟨ho, hfz⟩ := hg id po ho'
    obtain ⟨b, K, hb, hvv⟩ := pointer_of hi ho r
    have hty := pobj_ty hi ho r
    subst hvv
    obtain ⟨po', cs, g1, g2, g3, g4, g5, g6, _⟩ := hi.objs id b _ _ _ _ hb
    rw [ho] at g1; injection g1 with g1; subst g1
    have hcel : ∀ k d, ds[k]? = some d → ∃ e v, es[j + k]? = some e ∧ cs[i * po.sz + (j + k)]? = some v ∧ Rep h β v e := by
      intro k d e1
      have hk : j + k < es.length := by have := (List.getElem?_eq_some_iff.1 e1).1; omega
      obtain ⟨v, q3, _, q4⟩ := (g6 _ _ he).2 (j + k) _ (List.getElem?_eq_getElem hk)
      exact ⟨_, v, List.getElem?_eq_getElem hk, q3, q4⟩
    refine .pim _ _ (fun k => (cs[i * po.sz + (j + k)]?).getD undef) ?_ ?_
    · intro k d e1
      obtain ⟨e, v, q1, q2, q3⟩ := hcel k d e1
      rw [add_at]
      unfold hcell
      rw [hfz _ _ _ _ _ _ hb (g4.cells hty)]
      simp only [q2, Option.getD_some]
      rw [← q2, Nat.add_assoc]; rfl
    · intro k d e1
      obtain ⟨e, v, q1, q2, q3⟩ := hcel k d e1
      rw [q2]
      exact ih k d e e1 q1 q3


theorem fobj_some {σ : Objs} {id : Nat} {po : PO} (e : fobj σ id = some po) : obj σ id = some po ∧ po.frz = true := by
  unfold fobj at e
  cases ho : obj σ id with
  | none => rw [ho] at e; cases e
  | some q =>
    rw [ho] at e
    simp only at e
    cases hq : q.frz with
    | false => rw [hq] at e; cases e
    | true => rw [hq] at e; injection e with e; subst e; exact ⟨rfl, hq⟩

theorem rep_snapF {σ : Objs} (hi : Inv C σ h β w) {d d' : DV} (hs : Snap (fobj σ) d d') {v : Value} (r : Rep h β v d) : Rep h (fun _ => .no) v d' := by
  refine rep_snapG hi (HLe.refl h) (fun id po e => ?_) hs r
  obtain ⟨ho, hf⟩ := fobj_some e
  refine ⟨ho, fun b sz N K t cs hb hw => ?_⟩
  obtain ⟨po', cs', g1, _, _, g4, _, _, _, g8⟩ := hi.objs id b _ _ _ _ hb
  rw [ho] at g1; injection g1 with g1; subst g1
  rw [g8 hf]; exact hw

/-- Values, told by pure ones, one by one. -/
def RepVs (h : Hp) (β : Nat → Bl) (vs : Array Value) (ds : List DV) : Prop :=
  vs.size = ds.length ∧ ∀ (i : Nat) (v : Value) (d : DV), vs[i]? = some v → ds[i]? = some d → Rep h β v d
theorem RepVs.mono {h' : Hp} {β' : Nat → Bl} {vs : Array Value} {ds : List DV} (r : RepVs h β vs ds) (hh : HLe h h') (hb : BLe β β') : RepVs h' β' vs ds := ⟨r.1, fun i v d e1 e2 => (r.2 i v d e1 e2).mono hh hb⟩
theorem RepVs.app {us vs : Array Value} {ds es : List DV} (r : RepVs h β us ds) (r' : RepVs h β vs es) : RepVs h β (us ++ vs) (ds ++ es) := by
  refine ⟨by simp [r.1, r'.1], fun i v d e1 e2 => ?_⟩
  rw [Array.getElem?_append] at e1
  rw [List.getElem?_append] at e2
  have := r.1
  by_cases hi : i < us.size
  · rw [if_pos hi] at e1; rw [if_pos (by omega)] at e2; exact r.2 i v d e1 e2
  · rw [if_neg hi] at e1; rw [if_neg (by omega), ← this] at e2; exact r'.2 _ v d e1 e2
theorem RepVs.args {env : Env} (he : ∀ t, Rep h β (a.tmps.getD t undef) (env t)) (xs : Array Operand) : RepVs h β (xs.map a.eval) (xs.toList.map (ev env)) := by
  refine ⟨by simp, fun i v d e1 e2 => ?_⟩
  simp only [Array.getElem?_map] at e1
  rw [List.getElem?_map, Array.getElem?_toList] at e2
  cases hx : xs[i]? with
  | none => rw [hx] at e1; cases e1
  | some x =>
    rw [hx] at e1 e2; injection e1 with e1; injection e2 with e2; subst e1; subst e2
    exact rep_ev he x
/-- The arguments of a call, as they are read there. -/
theorem args_snap {σ : Objs} (hi : Inv C σ h β w) {vs : Array Value} {ds ds' : List DV} (hr : RepVs h β vs ds) (hs : Snaps (fobj σ) ds ds') :
    vs.size = ds'.length ∧ ∀ (i : Nat) (v : Value) (d : DV), vs[i]? = some v → ds'[i]? = some d → Rep h (fun _ => .no) v d := by
  refine ⟨hr.1.trans hs.len, fun i v d e1 e2 => ?_⟩
  have hi2 : i < ds.length := by have := (List.getElem?_eq_some_iff.1 e2).1; have := hs.len; omega
  exact rep_snapF hi (hs.get i _ _ (List.getElem?_eq_getElem hi2) e2) (hr.2 i v _ e1 (List.getElem?_eq_getElem hi2))

open Classical in
/-- Where the new objects lie. -/
noncomputable def renB (ids : List (Option Nat)) (σ' : Objs) (β : Nat → Bl) : Nat → Bl := fun j =>
  match ids[j]? with
  | some (some i) => if (obj σ' j).isSome then β i else .dead
  | some none => if (obj σ' j).isSome then .nil else .dead
  | none => .no

theorem ren_repG {g : Nat → Option PO} {ids : List (Option Nat)} {β β' : Nat → Bl} (hsnap : ∀ v d d', Snap g d d' → Rep h β v d → Rep h (fun _ => .no) v d') (h1 : ∀ (i j : Nat), ids[j]? = some (some i) → β' j = β i ∨ β' j = .dead ∨ β i = .no)
    (h2 : ∀ (j : Nat), ids[j]? = some none → β' j = .nil ∨ β' j = .dead) {d d' : DV} (hr : Ren g ids d d') : ∀ {v : Value}, Rep h β v d → Rep h β' v d' := by
  induction hr with
  | junk d => intro v _; exact .junk v
  | same d hb => intro v r; exact r.blw hb (fun id hid => absurd hid (by omega))
  | snap d d' hs => intro v r; exact (hsnap _ _ _ hs r).mono (HLe.refl _) (fun id => .inr (.inl rfl))
  | ref i j off len hj =>
    intro v r
    rcases h1 i j hj with hB | hB | hB
    · cases r with
      | refAt _ _ _ cap o b sz N K t hb h1 h2 h3 ht => exact .refAt _ _ _ _ _ _ _ _ _ _ (hB.trans hb) h1 h2 h3 ht
      | refNil _ hb => exact .refNil _ (hB.trans hb)
      | refDead _ _ _ _ hb => exact .refDead _ _ _ _ (hB.trans hb)
    · exact .refDead _ _ _ _ hB
    · cases r with
      | refAt _ _ _ cap o b sz N K t hb h1 h2 h3 => rw [hB] at hb; cases hb
      | refNil _ hb => rw [hB] at hb; cases hb
      | refDead _ _ _ _ hb => rw [hB] at hb; cases hb
  | nil j hj =>
    intro v r
    rcases h2 j hj with hB | hB
    · cases r with
      | nils => exact .refNil _ hB
    · exact .refDead _ _ _ _ hB
  | pobj i j x y hj =>
    intro v r
    rcases h1 i j hj with hB | hB | hB
    · cases r with
      | pobjAt _ _ _ b sz N K t hb ht => exact .pobjAt _ _ _ _ _ _ _ _ (hB.trans hb) ht
      | pobjDead _ _ _ _ hb => exact .pobjDead _ _ _ _ (hB.trans hb)
    · exact .pobjDead _ _ _ _ hB
    · cases r with
      | pobjAt _ _ _ b sz N K t hb => rw [hB] at hb; cases hb
      | pobjDead _ _ _ _ hb => rw [hB] at hb; cases hb
  | hnd it i j hj =>
    intro v r
    rcases h1 i j hj with hB | hB | hB
    · cases r with
      | mapAt _ b sz N K hb => exact .mapAt _ _ _ _ _ (hB.trans hb)
      | iterAt _ b sz N K t hb ht => exact .iterAt _ _ _ _ _ _ (hB.trans hb) ht
      | hndDead _ _ _ hb => exact .hndDead _ _ _ (hB.trans hb)
    · exact .hndDead _ _ _ hB
    · cases r with
      | mapAt _ b sz N K hb => rw [hB] at hb; cases hb
      | iterAt _ b sz N K t hb ht => rw [hB] at hb; cases hb
      | hndDead _ _ _ hb => rw [hB] at hb; cases hb
  | agg cs ds hl hs ih =>
    intro v r
    cases r with
    | agg vs _ hl' hr =>
      refine .agg vs ds (hl'.trans hl) fun k v d e1 e2 => ?_
      have hk : k < cs.length := by have := (List.getElem?_eq_some_iff.1 e2).1; omega
      exact ih k _ d (List.getElem?_eq_getElem hk) e2 (hr k v _ e1 (List.getElem?_eq_getElem hk))
  | tup cs ds hl hs ih =>
    intro v r
    cases r with
    | tup vs _ hl' hr =>
      refine .tup vs ds (hl'.trans hl) fun k v d e1 e2 => ?_
      have hk : k < cs.length := by have := (List.getElem?_eq_some_iff.1 e2).1; omega
      exact ih k _ d (List.getElem?_eq_getElem hk) e2 (hr k v _ e1 (List.getElem?_eq_getElem hk))
  | iface t x d hx ih =>
    intro v r
    cases r with
    | iface _ v _ r => exact .iface t v d (ih r)
  | func fn fs cs fs' cs' hl hm hs ht ih1 ih2 =>
    intro v r
    cases r with
    | func _ us vs _ _ hl' hm' hr hq =>
      refine .func fn us vs fs' cs' (hl'.trans hl) (hm'.trans hm) (fun k v d e1 e2 => ?_) (fun k v d e1 e2 => ?_)
      · have hk : k < fs.length := by have := (List.getElem?_eq_some_iff.1 e2).1; omega
        exact ih1 k _ d (List.getElem?_eq_getElem hk) e2 (hr k v _ e1 (List.getElem?_eq_getElem hk))
      · have hk : k < cs.length := by have := (List.getElem?_eq_some_iff.1 e2).1; omega
        exact ih2 k _ d (List.getElem?_eq_getElem hk) e2 (hq k v _ e1 (List.getElem?_eq_getElem hk))

theorem ren_rep {σ σ' : Objs} (hi : Inv C σ h β w) {ids : List (Option Nat)} {d d' : DV} (hr : Ren (fobj σ) ids d d') {v : Value} (r : Rep h β v d) : Rep h (renB ids σ' β) v d' := by
  refine ren_repG (fun v d d' hs r => rep_snapF hi hs r) (fun i j hj => ?_) (fun j hj => ?_) hr r
  · have hB : renB ids σ' β j = if (obj σ' j).isSome then β i else .dead := by unfold renB; rw [hj]
    by_cases ho : (obj σ' j).isSome
    · rw [if_pos ho] at hB; exact .inl hB
    · rw [if_neg ho] at hB; exact .inr (.inl hB)
  · have hB : renB ids σ' β j = if (obj σ' j).isSome then .nil else .dead := by unfold renB; rw [hj]
    by_cases ho : (obj σ' j).isSome
    · rw [if_pos ho] at hB; exact .inl hB
    · rw [if_neg ho] at hB; exact .inr hB

theorem renB_at {ids : List (Option Nat)} {σ' : Objs} {j b sz N K : Nat} {t : TypeId} (q : renB ids σ' β j = .at b sz N K t) : ∃ i, ids[j]? = some (some i) ∧ β i = .at b sz N K t ∧ (obj σ' j).isSome := by
  unfold renB at q
  split at q
  · rename_i i hj
    by_cases ho : (obj σ' j).isSome
    · rw [if_pos ho] at q; exact ⟨i, hj, q, ho⟩
    · rw [if_neg ho] at q; cases q
  · by_cases ho : (obj σ' j).isSome
    · rw [if_pos ho] at q; cases q
    · rw [if_neg ho] at q; cases q
  · cases q

/-- What an object's elements are, told anew. -/
theorem ren_els {g : Nat → Option PO} {ids : List (Option Nat)} {β' : Nat → Bl} {po po' : PO} {cs : Array Value} {sz : Nat} (hrep : ∀ {v d d'}, Ren g ids d d' → Rep h β v d → Rep h β' v d') (hr : RenPO g ids po po')
    (g6 : ∀ i ds, po.els[i]? = some ds → ds.length = sz ∧ ∀ j d, ds[j]? = some d → ∃ v, cs[i * sz + j]? = some v ∧ v.oneCell' = true ∧ Rep h β v d) :
    ∀ i ds, po'.els[i]? = some ds → ds.length = sz ∧ ∀ j d, ds[j]? = some d → ∃ v, cs[i * sz + j]? = some v ∧ v.oneCell' = true ∧ Rep h β' v d := by
  obtain ⟨_, _, _, hl, hel⟩ := hr
  intro k ds e1
  have hk : k < po.els.length := by have := (List.getElem?_eq_some_iff.1 e1).1; omega
  obtain ⟨k1, k2⟩ := g6 k _ (List.getElem?_eq_getElem hk)
  obtain ⟨m1, m2⟩ := hel k _ ds (List.getElem?_eq_getElem hk) e1
  refine ⟨m1.trans k1, fun y d e2 => ?_⟩
  have hy : y < po.els[k].length := by have := (List.getElem?_eq_some_iff.1 e2).1; omega
  obtain ⟨u, k3, k4, k5⟩ := k2 y _ (List.getElem?_eq_getElem hy)
  exact ⟨u, k3, k4, hrep (m2 y _ d (List.getElem?_eq_getElem hy) e2) k5⟩

/-- The parts of an invariant that tell of objects. -/
structure InvO (σ : Objs) (h : Hp) (β : Nat → Bl) (w : World) : Prop where
  born : ∀ id, id < σ.length → β id ≠ .no
  unborn : ∀ id, σ.length ≤ id → β id = .no
  inj : ∀ id id' b sz N K t sz' N' K' t', β id = .at b sz N K t → β id' = .at b sz' N' K' t' → id = id'
  live : ∀ id po, obj σ id = some po → (∃ b K, β id = .at b po.sz po.els.length K po.ty) ∨ (β id = .nil ∧ po.els = [])
  objs : ∀ id b sz N K t, β id = .at b sz N K t → ∃ po cs, obj σ id = some po ∧ N ≤ K ∧ K ≤ maxLen ∧ 
    HasC w.heap[b]? cs t ∧ SzOk cs.size K N sz ∧ (∀ i ds, po.els[i]? = some ds → ds.length = sz ∧ ∀ j d, ds[j]? = some d → ∃ v, cs[i * sz + j]? = some v ∧ v.oneCell' = true ∧ Rep h β v d) ∧
    (po.frz = false → h b = none) ∧ (po.frz = true → h b = w.heap[b]?)

theorem ren_core {σ σ' : Objs} (hi : Inv C σ h β w) {ids : List (Option Nat)} (hr : RenOs (fobj σ) ids σ σ') : InvO σ' h (renB ids σ' β) w := by
  obtain ⟨hlen, hinj, hobj⟩ := hr
  refine { born := ?_, unborn := ?_, inj := ?_, live := ?_, objs := ?_ }
  · intro j hj e
    unfold renB at e
    rw [List.getElem?_eq_getElem (show j < ids.length by omega)] at e
    cases ho : obj σ' j with
    | none => rw [ho] at e; revert e; cases ids[j] <;> simp
    | some po' =>
      rw [ho] at e
      rcases hobj j po' ho with ⟨i, po, h1, h2, _⟩ | ⟨h1, _⟩
      · rw [List.getElem?_eq_getElem (show j < ids.length by omega)] at h1
        injection h1 with h1
        rw [h1] at e
        simp only [Option.isSome_some, if_true] at e
        rcases hi.live i po h2 with ⟨b, K, hb⟩ | ⟨hb, _⟩ <;> (rw [hb] at e; cases e)
      · rw [List.getElem?_eq_getElem (show j < ids.length by omega)] at h1
        injection h1 with h1
        rw [h1] at e
        simp at e
  · intro j hge
    unfold renB; rw [List.getElem?_eq_none (by omega)]
  · intro j j' b sz N K t sz' N' K' t' q q'
    obtain ⟨i, h1, hb, _⟩ := renB_at q
    obtain ⟨i', h1', hb', _⟩ := renB_at q'
    have := hi.inj _ _ _ _ _ _ _ _ _ _ _ hb hb'
    subst this
    exact hinj _ _ _ h1 h1'
  · intro j po' ho
    have hs : (obj σ' j).isSome := by rw [ho]; rfl
    rcases hobj j po' ho with ⟨i, po, h1, h2, hf, hz, hty, hl, hel⟩ | ⟨h1, h2⟩
    · have hB : renB ids σ' β j = β i := by unfold renB; rw [h1]; exact if_pos hs
      rcases hi.live i po h2 with ⟨b, K, hb⟩ | ⟨hb, hn⟩
      · exact .inl ⟨b, K, by rw [hB, hb, hz, hty, hl]⟩
      · refine .inr ⟨by rw [hB, hb], ?_⟩
        rw [hn] at hl; exact List.length_eq_zero_iff.1 hl
    · have hB : renB ids σ' β j = .nil := by unfold renB; rw [h1]; exact if_pos hs
      exact .inr ⟨hB, h2⟩
  · intro j b sz N K t q
    obtain ⟨i, h1, hb, hs⟩ := renB_at q
    obtain ⟨po', ho⟩ := Option.isSome_iff_exists.1 hs
    rcases hobj j po' ho with ⟨i', po, h1', h2, hpo⟩ | ⟨h1', _⟩
    · rw [h1] at h1'; injection h1' with h1'; injection h1' with h1'; subst h1'
      obtain ⟨po2, cs, g1, g2, g3, g4, g5, g6, g7, g8⟩ := hi.objs i b sz N K t hb
      rw [h2] at g1; injection g1 with g1; subst g1
      exact ⟨po', cs, ho, g2, g3, g4, g5, ren_els (fun hr r => ren_rep hi hr r) hpo g6, (fun e => g7 (hpo.1 ▸ e)), (fun e => g8 (hpo.1 ▸ e))⟩
    · rw [h1] at h1'; cases h1'

theorem inv_ren {σ σ' : Objs} (hi : Inv C σ h β w) {ids : List (Option Nat)} (hk0 : ∀ j, j < C.k → ids[j]? = some (some j)) (hr : RenOs (fobj σ) ids σ σ') : Inv C σ' h (renB ids σ' β) w := by
  have ho := ren_core hi hr
  refine { os := hi.os, tape := hi.tape, output := hi.output, size := hi.size, view := hi.view, hle := hi.hle, hnew := hi.hnew, own := ?_, unborn := ho.unborn, inj := ho.inj, live := ho.live, objs := ho.objs, frame := hi.frame, born := ho.born, gho := ?_ }
  · intro j b sz N K t q
    obtain ⟨i, _, hb, _⟩ := renB_at q
    exact hi.own _ _ _ _ _ _ hb
  · intro j hj
    have hB : renB ids σ' β j = if (obj σ' j).isSome then β j else .dead := by unfold renB; rw [hk0 j hj]
    rw [hB]
    by_cases ho : (obj σ' j).isSome
    · rw [if_pos ho]; exact hi.gho j hj
    · rw [if_neg ho]; exact .inr rfl

/-- What is lent to a call. -/
theorem inv_lend {σ σ0 : Objs} (hi : Inv C σ h β w) {ids : List (Option Nat)} (hr : RenOs (fobj σ) ids σ σ0) : Inv ⟨w, h, σ0.length, renB ids σ0 β, []⟩ σ0 h (renB ids σ0 β) w := by
  have ho := ren_core hi hr
  refine { os := rfl, tape := rfl, output := rfl, size := Nat.le_refl _, view := hi.view, hle := HLe.refl _, hnew := fun b o e => .inl ⟨e, lt_of_some (hi.view b o e)⟩, own := ?_, unborn := ho.unborn, inj := ho.inj, live := ho.live, objs := ho.objs, frame := fun _ _ _ => rfl, born := ho.born, gho := ?_ }
  · intro j b sz N K t q
    refine .inr ⟨j, sz, N, K, t, ?_, q⟩
    rcases Nat.lt_or_ge j σ0.length with hlt | hge
    · exact hlt
    · rw [ho.unborn j hge] at q; cases q
  · intro j hj
    cases hx : obj σ0 j with
    | some po =>
      refine .inl ⟨rfl, fun e => ?_⟩
      rcases ho.live j po hx with ⟨b, K, hb⟩ | ⟨hb, _⟩ <;> (rw [hb] at e; cases e)
    | none =>
      refine .inr ?_
      have hj' : j < ids.length := by have : σ0.length = ids.length := hr.1; have hj : j < σ0.length := hj; omega
      show renB ids σ0 β j = .dead
      unfold renB
      rw [List.getElem?_eq_getElem hj', hx]
      cases ids[j] <;> simp

open Classical in
/-- Where the objects lie behind a call. -/
noncomputable def backB (ids : List (Option Nat)) (idsB : List Nat) (n : Nat) (σ2 : Objs) (β β1 : Nat → Bl) : Nat → Bl := fun m =>
  if (obj σ2 m).isSome then (if m < n ∧ ∀ j : Nat, ids[j]? ≠ some (some m) then β m else match idsB[m]? with | some j => β1 j | _ => .dead)
  else if m < σ2.length then .dead else .no

theorem inv_backS {σ σ0 σ1 σ2 : Objs} (hi : Inv C σ h β w) {ids : List (Option Nat)} {idsB : List Nat} (hr : RenOs (fobj σ) ids σ σ0) {h1 : Hp} {β1 : Nat → Bl} {w1 : World} (hj : Inv ⟨w, h, σ0.length, renB ids σ0 β, []⟩ σ1 h1 β1 w1)
    (hids : backIds ids σ.length σ1.length idsB) (hB : BackOs ids idsB σ σ1 σ2) :
    BLe β (backB ids idsB σ.length σ2 β β1) ∧ Inv C σ2 h1 (backB ids idsB σ.length σ2 β β1) w1 ∧ ∀ v d d', Ren (fun _ => none) (idsB.map some) d d' → Rep h1 β1 v d → Rep h1 (backB ids idsB σ.length σ2 β β1) v d' := by
  obtain ⟨hB1, hB2, hB3⟩ := hB
  have hlen0 : σ0.length = ids.length := hr.1
  have hlive1 : ∀ j po, obj σ1 j = some po → β1 j ≠ .dead := by
    intro j po e
    rcases hj.live j po e with ⟨b, K, hb⟩ | ⟨hb, _⟩ <;> (rw [hb]; intro q; cases q)
  -- a block that is lent to the call lies at one of the caller's objects that are lent
  have hL : ∀ b, Ctx.L ⟨w, h, σ0.length, renB ids σ0 β, []⟩ b → ∃ (j i : Nat) (sz N K : Nat) (t : TypeId), ids[j]? = some (some i) ∧ β i = .at b sz N K t := by
    rintro b ⟨j, sz, N, K, t, _, q⟩
    obtain ⟨i, e1, e2, _⟩ := renB_at q
    exact ⟨j, i, sz, N, K, t, e1, e2⟩
  have hself : ∀ m j, idsB[m]? = some j → j < σ1.length → ¬ (m < σ.length ∧ ∀ j : Nat, ids[j]? ≠ some (some m)) := by
    rintro m j e hlt ⟨h1, h2⟩
    rcases hids m j e with ⟨_, e2⟩ | ⟨e2, _⟩ | e2
    · exact h2 j e2
    · omega
    · omega
  have bNon : ∀ m, (obj σ2 m).isSome → (m < σ.length ∧ ∀ j : Nat, ids[j]? ≠ some (some m)) → backB ids idsB σ.length σ2 β β1 m = β m := by
    intro m h1 h2; unfold backB; rw [if_pos h1, if_pos h2]
  have bNew : ∀ m j, (obj σ2 m).isSome → idsB[m]? = some j → j < σ1.length → backB ids idsB σ.length σ2 β β1 m = β1 j := by
    intro m j h1 h2 h3; unfold backB; rw [if_pos h1, if_neg (hself m j h2 h3), h2]
  have hat1 : ∀ {j b sz N K t}, β1 j = .at b sz N K t → j < σ1.length := by
    intro j b sz N K t q
    rcases Nat.lt_or_ge j σ1.length with hlt | hge
    · exact hlt
    · rw [hj.unborn j hge] at q; cases q
  have bCase : ∀ {m b sz N K t}, backB ids idsB σ.length σ2 β β1 m = .at b sz N K t → (obj σ2 m).isSome ∧ (((m < σ.length ∧ ∀ j : Nat, ids[j]? ≠ some (some m)) ∧ β m = .at b sz N K t) ∨ ∃ j, idsB[m]? = some j ∧ β1 j = .at b sz N K t) := by
    intro m b sz N K t q
    unfold backB at q
    by_cases h1 : (obj σ2 m).isSome
    · rw [if_pos h1] at q
      refine ⟨h1, ?_⟩
      by_cases h2 : m < σ.length ∧ ∀ j : Nat, ids[j]? ≠ some (some m)
      · rw [if_pos h2] at q; exact .inl ⟨h2, q⟩
      · rw [if_neg h2] at q
        split at q
        · rename_i j hj'; exact .inr ⟨j, hj', q⟩
        · cases q
    · rw [if_neg h1] at q
      split at q <;> cases q
  have hble : BLe β (backB ids idsB σ.length σ2 β β1) := by
    intro m
    by_cases hm : m < σ.length
    · cases ho : obj σ2 m with
      | none =>
        right; right
        unfold backB
        rw [if_neg (by rw [ho]; simp), if_pos (by omega)]
      | some po2 =>
        have hs : (obj σ2 m).isSome := by rw [ho]; rfl
        rcases hB3 m po2 ho with ⟨q1, q2, _⟩ | ⟨j, po1, q1, q2, _⟩
        · left; exact bNon m hs ⟨q1, q2⟩
        · left
          have hj1 := obj_lt q2
          rw [bNew m j hs q1 hj1]
          rcases hids m j q1 with ⟨_, e2⟩ | ⟨e2, _⟩ | e2
          · have hjl : j < σ0.length := by have := (List.getElem?_eq_some_iff.1 e2).1; omega
            rcases hj.gho j hjl with ⟨e3, _⟩ | e3
            · have e3 : β1 j = renB ids σ0 β j := e3
              unfold renB at e3
              rw [e2] at e3
              simp only at e3
              by_cases h0 : (obj σ0 j).isSome
              · rw [if_pos h0] at e3; exact e3
              · rw [if_neg h0] at e3; exact absurd e3 (hlive1 j po1 q2)
            · exact absurd e3 (hlive1 j po1 q2)
          · omega
          · omega
    · right; left; exact hi.unborn m (by omega)
  have hrep : ∀ v d d', Ren (fun _ => none) (idsB.map some) d d' → Rep h1 β1 v d → Rep h1 (backB ids idsB σ.length σ2 β β1) v d' := by
    intro v d d' hren r
    refine ren_repG (β := β1) (fun v d d' hs r => rep_snapG hj (HLe.refl _) (fun id po e => by cases e) hs r) (fun i m e => ?_) (fun m e => ?_) hren r
    · have e : idsB[m]? = some i := by
        rw [List.getElem?_map] at e
        cases hx : idsB[m]? with
        | none => rw [hx] at e; cases e
        | some y => rw [hx] at e; simpa using e
      by_cases h1 : (obj σ2 m).isSome
      · by_cases hlt : i < σ1.length
        · exact .inl (bNew m i h1 e hlt)
        · exact .inr (.inr (hj.unborn i (by omega)))
      · right; left
        have hml : m < σ2.length := by have := (List.getElem?_eq_some_iff.1 e).1; omega
        unfold backB; rw [if_neg h1, if_pos hml]
    · rw [List.getElem?_map] at e
      cases hx : idsB[m]? with
      | none => rw [hx] at e; cases e
      | some y => rw [hx] at e; simp at e
  have hsz := hi.size
  have hsz1 : w.heap.size ≤ w1.heap.size := hj.size
  -- a block that is not lent lies still
  have hnl : ∀ {m b sz N K t}, (m < σ.length ∧ ∀ j : Nat, ids[j]? ≠ some (some m)) → β m = .at b sz N K t → ¬ Ctx.L ⟨w, h, σ0.length, renB ids σ0 β, []⟩ b := by
    rintro m b sz N K t ⟨_, h2⟩ q hl
    obtain ⟨j, i, sz', N', K', t', e1, e2⟩ := hL b hl
    have := hi.inj _ _ _ _ _ _ _ _ _ _ _ q e2
    subst this; exact h2 j e1
  refine ⟨hble, ?_, hrep⟩
  refine { os := hj.os.trans hi.os, tape := hj.tape.trans hi.tape, output := hj.output.trans hi.output, size := Nat.le_trans hsz hsz1, view := hj.view, hle := hi.hle.trans hj.hle, hnew := ?_, own := ?_, unborn := ?_, inj := ?_, live := ?_, objs := ?_, frame := ?_, gho := gho_ble hi.gho hble, born := ?_ }
  case refine_8 =>
    intro m hm e
    unfold backB at e
    cases ho : obj σ2 m with
    | none => rw [ho] at e; rw [if_neg (by simp), if_pos hm] at e; cases e
    | some po2 =>
      have hs : (obj σ2 m).isSome := by rw [ho]; rfl
      rcases hB3 m po2 ho with ⟨q1, q2, q3⟩ | ⟨j, po1, q1, q2, _⟩
      · rw [if_pos hs, if_pos ⟨q1, q2⟩] at e
        rcases hi.live m po2 q3 with ⟨b, K, hb⟩ | ⟨hb, _⟩ <;> (rw [hb] at e; cases e)
      · rw [if_pos hs, if_neg (hself m j q1 (obj_lt q2)), q1] at e
        rcases hj.live j po1 q2 with ⟨b, K, hb⟩ | ⟨hb, _⟩ <;> (simp only [hb] at e; cases e)
  · intro b o e
    rcases hj.hnew b o e with ⟨e1, _⟩ | e1 | e1
    · exact hi.hnew b o e1
    · exact .inr (.inl (Nat.le_trans hsz e1))
    · obtain ⟨j, i, sz', N', K', t', _, e2⟩ := hL b e1
      exact .inr (hi.own _ _ _ _ _ _ e2)
  · intro m b sz N K t q
    obtain ⟨_, ⟨_, q⟩ | ⟨j, _, q⟩⟩ := bCase q
    · exact hi.own _ _ _ _ _ _ q
    · rcases hj.own _ _ _ _ _ _ q with e1 | e1
      · exact .inl (Nat.le_trans hsz e1)
      · obtain ⟨j, i, sz', N', K', t', _, e2⟩ := hL b e1
        exact hi.own _ _ _ _ _ _ e2
  · intro m hge
    unfold backB
    rw [if_neg (by intro e; obtain ⟨po, e⟩ := Option.isSome_iff_exists.1 e; have := obj_lt e; omega), if_neg (by omega)]
  · intro m m' b sz N K t sz' N' K' t' q q'
    obtain ⟨_, q⟩ := bCase q
    obtain ⟨_, q'⟩ := bCase q'
    have mix : ∀ {m m' j b sz N K : Nat} {t : TypeId} {sz' N' K' : Nat} {t' : TypeId}, (m < σ.length ∧ ∀ j : Nat, ids[j]? ≠ some (some m)) → β m = .at b sz N K t → idsB[m']? = some j → β1 j = .at b sz' N' K' t' → False := by
      intro m m' j b sz N K t sz' N' K' t' hn q _ q'
      rcases hj.own _ _ _ _ _ _ q' with e1 | e1
      · have := hi.blk q; have e1 : w.heap.size ≤ b := e1; omega
      · exact hnl hn q e1
    rcases q with ⟨hn, q⟩ | ⟨j, hm, q⟩ <;> rcases q' with ⟨hn', q'⟩ | ⟨j', hm', q'⟩
    · exact hi.inj _ _ _ _ _ _ _ _ _ _ _ q q'
    · exact (mix hn q hm' q').elim
    · exact (mix hn' q' hm q).elim
    · have := hj.inj _ _ _ _ _ _ _ _ _ _ _ q q'
      subst this
      have hj1 := hat1 q
      rcases hids m j hm with ⟨e1, e2⟩ | ⟨e1, e2⟩ | e1 <;> rcases hids m' j hm' with ⟨e1', e2'⟩ | ⟨e1', e2'⟩ | e1'
      · rw [e2] at e2'; injection e2' with e2'; injection e2'
      · have := (List.getElem?_eq_some_iff.1 e2).1; omega
      · omega
      · have := (List.getElem?_eq_some_iff.1 e2').1; omega
      · omega
      all_goals omega
  · intro m po2 ho
    have hs : (obj σ2 m).isSome := by rw [ho]; rfl
    rcases hB3 m po2 ho with ⟨q1, q2, q3⟩ | ⟨j, po1, q1, q2, hf, hz, hty, hl, hel⟩
    · rw [bNon m hs ⟨q1, q2⟩]; exact hi.live m po2 q3
    · rw [bNew m j hs q1 (obj_lt q2)]
      rcases hj.live j po1 q2 with ⟨b, K, hb⟩ | ⟨hb, hn⟩
      · exact .inl ⟨b, K, by rw [hb, hz, hty, hl]⟩
      · refine .inr ⟨hb, ?_⟩
        rw [hn] at hl; exact List.length_eq_zero_iff.1 hl
  · intro m b sz N K t q
    obtain ⟨hs, q⟩ := bCase q
    obtain ⟨po2, ho⟩ := Option.isSome_iff_exists.1 hs
    rcases q with ⟨hn, q⟩ | ⟨j, hm, q⟩
    · obtain ⟨po, cs, g1, g2, g3, g4, g5, g6, g7, g8⟩ := hi.objs m b sz N K t q
      have hpo : po2 = po := by
        rcases hB3 m po2 ho with ⟨_, _, q3⟩ | ⟨j, po1, q1, q2, _⟩
        · rw [g1] at q3; injection q3 with q3; exact q3.symm
        · exact absurd hn (hself m j q1 (obj_lt q2))
      subst hpo
      have hblt := hi.blk q
      have hfr : w1.heap[b]? = w.heap[b]? := hj.frame b hblt (hnl hn q)
      refine ⟨po2, cs, ho, g2, g3, (by rw [hfr]; exact g4), g5, ?_, ?_, fun e => ?_⟩
      rotate_left 2
      · obtain ⟨ob, e1, _⟩ := g4
        have := g8 e
        rw [e1] at this
        rw [hfr, e1]; exact hj.hle _ _ this
      · intro i ds e1
        obtain ⟨k1, k2⟩ := g6 i ds e1
        refine ⟨k1, fun y d e2 => ?_⟩
        obtain ⟨u, k3, k4, k5⟩ := k2 y d e2
        exact ⟨u, k3, k4, k5.mono hj.hle hble⟩
      · intro e
        cases hx : h1 b with
        | none => rfl
        | some o =>
          rcases hj.hnew b o hx with ⟨e1, _⟩ | e1 | e1
          · have e1 : h b = some o := e1; rw [g7 e] at e1; cases e1
          · have e1 : w.heap.size ≤ b := e1; omega
          · exact absurd e1 (hnl hn q)
    · obtain ⟨po, cs, g1, g2, g3, g4, g5, g6, g7, g8⟩ := hj.objs j b sz N K t q
      have hpo : RenPO (fun _ => none) (idsB.map some) po po2 := by
        rcases hB3 m po2 ho with ⟨q1, q2, _⟩ | ⟨j', po1, q1, q2, q3⟩
        · exact absurd ⟨q1, q2⟩ (hself m j hm (hat1 q))
        · rw [hm] at q1; injection q1 with q1; subst q1
          rw [g1] at q2; injection q2 with q2; subst q2; exact q3
      exact ⟨po2, cs, ho, g2, g3, g4, g5, ren_els (fun hr r => hrep _ _ _ hr r) hpo g6, (fun e => g7 (hpo.1 ▸ e)), (fun e => g8 (hpo.1 ▸ e))⟩
  · intro b hb hLb
    have hb' : b < w.heap.size := by omega
    rw [← hi.frame b hb hLb]
    refine hj.frame b hb' fun e1 => ?_
    obtain ⟨j, i, sz', N', K', t', _, e2⟩ := hL b e1
    rcases hi.own _ _ _ _ _ _ e2 with e3 | e3
    · omega
    · exact hLb e3

/-- All is lent, under the numbers that it has. -/
theorem inv_same {σ : Objs} (hi : Inv C σ h β w) : Inv ⟨w, h, σ.length, β, []⟩ σ h β w :=
  { os := rfl, tape := rfl, output := rfl, size := Nat.le_refl _, view := hi.view, hle := HLe.refl _, hnew := fun b o e => .inl ⟨e, lt_of_some (hi.view b o e)⟩,
    own := fun id b sz N K t q => .inr ⟨id, sz, N, K, t, (by
      show id < σ.length
      rcases Nat.lt_or_ge id σ.length with hlt | hge
      · exact hlt
      · rw [hi.unborn id hge] at q; cases q), q⟩,
    unborn := hi.unborn, inj := hi.inj, live := hi.live, objs := hi.objs, frame := fun _ _ _ => rfl, gho := fun id hid => .inl ⟨rfl, hi.born id hid⟩, born := hi.born }
theorem inv_sameB {σ σ1 : Objs} (hi : Inv C σ h β w) {h1 : Hp} {β1 : Nat → Bl} {w1 : World} (hj : Inv ⟨w, h, σ.length, β, []⟩ σ1 h1 β1 w1) : BLe β β1 ∧ Inv C σ1 h1 β1 w1 := by
  have hL : ∀ b, Ctx.L ⟨w, h, σ.length, β, []⟩ b → C.w0.heap.size ≤ b ∨ C.L b := by
    rintro b ⟨j, sz, N, K, t, _, q⟩
    exact hi.own _ _ _ _ _ _ q
  have hsz := hi.size
  have hsz1 : w.heap.size ≤ w1.heap.size := hj.size
  have hble : BLe β β1 := by
    intro id
    rcases Nat.lt_or_ge id σ.length with hlt | hge
    · rcases hj.gho id hlt with ⟨e, _⟩ | e
      · exact .inl e
      · exact .inr (.inr e)
    · exact .inr (.inl (hi.unborn id hge))
  refine ⟨hble, { os := hj.os.trans hi.os, tape := hj.tape.trans hi.tape, output := hj.output.trans hi.output, size := Nat.le_trans hsz hsz1, view := hj.view, hle := hi.hle.trans hj.hle, hnew := ?_, own := ?_, unborn := hj.unborn, inj := hj.inj, live := hj.live, objs := hj.objs, frame := ?_, gho := gho_ble hi.gho hble, born := hj.born }⟩
  · intro b o e
    rcases hj.hnew b o e with ⟨e1, _⟩ | e1 | e1
    · exact hi.hnew b o e1
    · exact .inr (.inl (Nat.le_trans hsz e1))
    · exact .inr (hL b e1)
  · intro m b sz N K t q
    rcases hj.own _ _ _ _ _ _ q with e1 | e1
    · exact .inl (Nat.le_trans hsz e1)
    · exact hL b e1
  · intro b hb hLb
    rw [← hi.frame b hb hLb]
    refine hj.frame b (Nat.lt_of_lt_of_le hb hsz) fun e1 => ?_
    rcases hL b e1 with e3 | e3
    · omega
    · exact hLb e3

theorem Rens.len {g : Nat → Option PO} {ids : List (Option Nat)} : ∀ {as bs : List DV}, Rens g ids as bs → as.length = bs.length
  | [], [], _ => rfl
  | [], _ :: _, h => h.elim
  | _ :: _, [], h => h.elim
  | _ :: as, _ :: bs, h => by simp [h.2.len]
theorem Rens.get {g : Nat → Option PO} {ids : List (Option Nat)} : ∀ {as bs : List DV}, Rens g ids as bs → ∀ (i : Nat) (a b : DV), as[i]? = some a → bs[i]? = some b → Ren g ids a b
  | [], [], _, i, a, b, e, _ => by simp at e
  | [], _ :: _, h, _, _, _, _, _ => h.elim
  | _ :: _, [], h, _, _, _, _, _ => h.elim
  | _ :: as, _ :: bs, h, i, a, b, e1, e2 => by
    cases i with
    | zero => simp at e1 e2; subst e1; subst e2; exact h.1
    | succ i => exact h.2.get i a b (by simpa using e1) (by simpa using e2)
theorem args_ren {σ σ0 : Objs} (hi : Inv C σ h β w) {vs : Array Value} {ds ds' : List DV} {ids : List (Option Nat)} (hr : RepVs h β vs ds) (hs : Rens (fobj σ) ids ds ds') :
    vs.size = ds'.length ∧ ∀ (i : Nat) (v : Value) (d : DV), vs[i]? = some v → ds'[i]? = some d → Rep h (renB ids σ0 β) v d := by
  refine ⟨hr.1.trans hs.len, fun i v d e1 e2 => ?_⟩
  have hi2 : i < ds.length := by have := (List.getElem?_eq_some_iff.1 e2).1; have := hs.len; omega
  exact ren_rep hi (hs.get i _ _ (List.getElem?_eq_getElem hi2) e2) (hr.2 i v _ e1 (List.getElem?_eq_getElem hi2))

theorem frz_length : ∀ (F : List Nat) (σ : Objs), (frz F σ).length = σ.length
  | [], _ => rfl
  | id :: F, σ => by
    simp only [frz]
    rw [frz_length F]
    split <;> simp
/-- What a call comes to: a function and its arguments. -/
def CallIs (P : Program) (a : Act) (o : Oper) (f : FuncId) (vs : Array Value) : Prop := ∀ w, (execOp a.eval o).run P w = (callFunc f vs).run P w
theorem call_direct {o : Oper} {c : Call} (ho : o.op = .call c) {f : FuncId} (hc : c.callee = .value (.func f)) : CallIs P a o f (c.args.map a.eval) := by
  intro w
  have hex : execOp a.eval o = (do let d ← resolve a.eval c o.type; invoke d.target d.args) := by unfold execOp; rw [ho]
  have hres : (resolve a.eval c o.type).run P w = .ok { target := .fn (.func f) #[], args := c.args.map a.eval } w := by
    simp [resolve, hc, Act.eval, Deferred.ofValue]
  rw [hex, Sem.run_bind, hres]
  simp [invoke]
theorem call_value {o : Oper} {c : Call} (ho : o.op = .call c) {x : Operand} (hc : c.callee = .value x) {f : FuncId} {fs cs : Array Value} (hx : a.eval x = .func (.func f) fs cs) : CallIs P a o f (fs ++ c.args.map a.eval ++ cs) := by
  intro w
  have hex : execOp a.eval o = (do let d ← resolve a.eval c o.type; invoke d.target d.args) := by unfold execOp; rw [ho]
  have hres : (resolve a.eval c o.type).run P w = .ok { target := .fn (.func f) cs, args := fs ++ c.args.map a.eval } w := by
    simp [resolve, hc, hx, Deferred.ofValue]
  rw [hex, Sem.run_bind, hres]
  simp [invoke]
theorem method_run {t : TypeId} {name : String} {f : FuncId} (hm : methodD P t name = some f) (v : Value) (fuel : Nat) (w : World) : (method (fuel + 1) t v name).run P w = .ok (f, v) w := by
  unfold methodD at hm
  split at hm
  case h_2 => cases hm
  rename_i i hinf
  split at hm
  case h_2 => cases hm
  rename_i m hfind
  have hm0 : (typeInfo t).run P w = .ok i w := run_typeInfo w hinf
  have hgo : ∀ (g : FuncId) (pr : Bool), m.path.toList = [] → m.func = some (g, pr) → (receiverAt t (.val v) pr (if m.path.isEmpty then some ((name.splitOn ".").getLastD name) else none)).run P w = .ok v w → (method (fuel + 1) t v name).run P w = .ok (g, v) w := by
    intro g pr h1 h2 h3
    simp only [method, Sem.run_bind, hm0, Result.andThen_ok, hfind, h1, follow, h2, Sem.run_pure]
    simp only [h3, Result.andThen_ok, Sem.run_pure]
  split at hm
  · rename_i g u h1 h2 h3
    injection hm with hm; subst hm
    exact hgo _ _ h1 h2 (by simp [receiverAt, run_underlying h3, Place.get])
  · cases hm
  · rename_i g u hne h1 h2 h3
    injection hm with hm; subst hm
    refine hgo _ _ h1 h2 ?_
    unfold receiverAt
    simp only [Sem.run_bind, run_underlying h3, Result.andThen_ok]
    first | rfl | (split; all_goals first | rfl | (exfalso; simp_all; done) | (exfalso; rename_i q _; exact hne _ q) | (exfalso; rename_i q; exact hne _ q))
  · cases hm
theorem call_invoke {o : Oper} {c : Call} (ho : o.op = .call c) {x : Operand} {name : String} (hc : c.callee = .invoke x name) {t : TypeId} {v : Value} (hx : a.eval x = .iface t v) {f : FuncId} (hm : methodD P t name = some f) :
    CallIs P a o f (#[v] ++ c.args.map a.eval) := by
  intro w
  have hex : execOp a.eval o = (do let d ← resolve a.eval c o.type; invoke d.target d.args) := by unfold execOp; rw [ho]
  have hres : (resolve a.eval c o.type).run P w = .ok { target := .fn (.method name) #[], args := #[.iface t v] ++ c.args.map a.eval } w := by
    simp [resolve, hc, hx]
  have hme : (method (P.types.size + Made.depth) t v name).run P w = .ok (f, v) w := method_run hm v (P.types.size + 99) w
  rw [hex, Sem.run_bind, hres]
  simp only [Result.andThen_ok, invoke]
  have h0 : (#[Value.iface t v] ++ c.args.map a.eval)[0]? = some (.iface t v) := by rw [Array.getElem?_append]; rfl
  have h1 : (#[Value.iface t v] ++ c.args.map a.eval).extract 1 (#[Value.iface t v] ++ c.args.map a.eval).size = c.args.map a.eval := by
    apply Array.ext'
    simp only [Array.toList_extract, Array.toList_append, List.extract_eq_take_drop]
    simp
    exact List.take_of_length_le (by simp)
  rw [h0]
  simp only [h1, callMethod, Sem.run_bind]
  rw [show (program : Sem Program).run P w = .ok P w from rfl]
  simp only [Result.andThen_ok, hme]
theorem callsV_sound {o : Oper} {f : FuncId} {vs : Array Value} (hci : CallIs P a o f vs) {R : Value → World → Prop} (hcv : CallsV P f vs w R)
    {next : Act → World → Prop} {Q : Exit → Act → World → Prop} (hfin : ∀ v w', R v w' → next (a.put o.dst v) w') : o.wp P a w next Q := by
  unfold Oper.wp
  rw [hci]
  rcases hcv with ⟨fn, body, hfn, hbody, hname, hcalls⟩ | ⟨v, w', hrun, hpost⟩
  · have hname' : ¬ fn.name = "runtime.NumGoroutine" := by simpa using hname
    have : (callFunc f vs).run P w = .ok (.enter f vs) w := by
      simp [callFunc, Sem.run_bind, hfn, hname', hbody]
    rw [this]
    refine hcalls.mono ?_
    rintro e w' ⟨v, rfl, hpost⟩
    exact hfin v w' hpost
  · rw [hrun]
    exact hfin v w' hpost

/-- What was lent comes back. -/
theorem inv_back {σ : Objs} (hi : Inv C σ h β w) {hF : Hp} {w' : World} {h' : Hp} (hle : HLe h hF) (hb : Below w.heap.size w w') (hv : ∀ b o, h' b = some o → w'.heap[b]? = some o) (hle' : HLe hF h') :
    ∃ h'', HLe h h'' ∧ (∀ b, w.heap.size ≤ b → h' b = none → h'' b = none) ∧ Inv C σ h'' β w' := by
  classical
  refine ⟨fun b => if h b = none ∧ b < w.heap.size then none else h' b, ?_, ?_, ?_⟩
  · intro b o e
    show (if h b = none ∧ b < w.heap.size then none else h' b) = some o
    rw [if_neg (by rintro ⟨q, _⟩; rw [q] at e; cases e)]
    exact hle' _ _ (hle _ _ e)
  · intro b hb e
    show (if h b = none ∧ b < w.heap.size then none else h' b) = none
    rw [if_neg (by rintro ⟨_, q⟩; omega)]; exact e
  · refine inv_call hi hb ?_ ?_ ?_
    · intro b o e
      split at e
      · cases e
      · exact hv b o e
    · intro b o e
      show (if h b = none ∧ b < w.heap.size then none else h' b) = some o
      rw [if_neg (by rintro ⟨q, _⟩; rw [q] at e; cases e)]
      exact hle' _ _ (hle _ _ e)
    · intro b o e
      by_cases hlt : b < w.heap.size
      · cases hx : h b with
        | none => rw [if_pos ⟨hx, hlt⟩] at e; cases e
        | some o' =>
          rw [if_neg (by rintro ⟨q, _⟩; rw [hx] at q; cases q), hle' _ _ (hle _ _ hx)] at e
          exact .inl ⟨e, hlt⟩
      · exact .inr (by omega)

/-- A new object out of a call. -/
theorem inv_joinG {σ : Objs} {w' : World} {h' h2 : Hp} {β' : Nat → Bl} {po : PO} (hi : Inv C σ h β w) (hi2 : Inv C σ h2 β w') {hx : Hp} (hj : Inv (Ctx.plain w hx) [some po] h' β' w')
    (hrep : ∀ ds ∈ po.els, ∀ d ∈ ds, ∀ (v : Value) (β'' : Nat → Bl), Rep h' β' v d → Rep h2 β'' v d) (hnone : ∀ b, w.heap.size ≤ b → h' b = none → h2 b = none) (hsome : po.frz = true → HLe h' h2) :
    ∃ β'', BLe β β'' ∧ β'' σ.length = β' 0 ∧ Inv C (σ ++ [some po]) h2 β'' w' := by
  have hble : BLe β (fun id => if id = σ.length then β' 0 else β id) := by
    intro id
    by_cases h1 : id = σ.length
    · right; left; exact hi.unborn id (by omega)
    · left; simp [h1]
  refine ⟨_, hble, by simp, ?_⟩
  have hcase : ∀ {id b sz N K t}, (if id = σ.length then β' 0 else β id) = .at b sz N K t → (id = σ.length ∧ β' 0 = .at b sz N K t) ∨ (id ≠ σ.length ∧ β id = .at b sz N K t) := by
    intro id b sz N K t q
    by_cases h1 : id = σ.length
    · rw [if_pos h1] at q; exact .inl ⟨h1, q⟩
    · rw [if_neg h1] at q; exact .inr ⟨h1, q⟩
  have hnew : ∀ {b sz N K t}, β' 0 = .at b sz N K t → w.heap.size ≤ b := fun q => (hj.own _ _ _ _ _ _ q).resolve_right Ctx.plain_L
  have hs := hi.size
  refine { os := hi2.os, tape := hi2.tape, output := hi2.output, size := hi2.size, view := hi2.view, hle := hi2.hle, hnew := hi2.hnew, own := ?_, unborn := ?_, inj := ?_, live := ?_, objs := ?_, frame := hi2.frame, gho := gho_ble hi.gho hble, born := ?_ }
  case refine_6 =>
    intro id hid
    simp only [List.length_append, List.length_cons, List.length_nil] at hid
    show (if id = σ.length then β' 0 else β id) ≠ Bl.no
    by_cases h1 : id = σ.length
    · rw [if_pos h1]; exact hj.born 0 (by simp)
    · rw [if_neg h1]; exact hi.born id (by omega)
  · intro id b sz N K t q
    rcases hcase q with ⟨_, q⟩ | ⟨_, q⟩
    · have := hnew q; exact .inl (by omega)
    · exact hi.own _ _ _ _ _ _ q
  · intro id hge
    simp only [List.length_append, List.length_cons, List.length_nil] at hge
    show (if id = σ.length then β' 0 else β id) = .no
    rw [if_neg (by omega)]; exact hi.unborn id (by omega)
  · intro id id' b s1 N1 K1 t1 s2 N2 K2 t2 q1 q2
    rcases hcase q1 with ⟨r1, q1⟩ | ⟨r1, q1⟩ <;> rcases hcase q2 with ⟨r2, q2⟩ | ⟨r2, q2⟩
    · rw [r1, r2]
    · have := hnew q1; have := hi.blk q2; omega
    · have := hnew q2; have := hi.blk q1; omega
    · exact hi.inj _ _ _ _ _ _ _ _ _ _ _ q1 q2
  · intro id q e
    by_cases h1 : id = σ.length
    · subst h1
      rw [obj_new] at e; injection e with e; subst e
      have e0 : (if σ.length = σ.length then β' 0 else β σ.length) = β' 0 := if_pos rfl
      rw [e0]
      exact hj.live 0 po (by simp [obj])
    · have hlt := obj_lt e
      simp only [List.length_append, List.length_cons, List.length_nil] at hlt
      rw [obj_append (by omega)] at e
      have e0 : (if id = σ.length then β' 0 else β id) = β id := if_neg h1
      rw [e0]; exact hi.live id q e
  · intro id b sz N K t q
    rcases hcase q with ⟨rfl, qq⟩ | ⟨r, qq⟩
    · obtain ⟨po', cs, g1, g2, g3, g4, g5, g6, g7, g8⟩ := hj.objs 0 _ _ _ _ _ qq
      simp [obj] at g1; subst g1
      refine ⟨po, cs, obj_new, g2, g3, g4, g5, ?_, (fun e => hnone b (hnew qq) (g7 e)), (fun e => ?_)⟩
      rotate_left 1
      · obtain ⟨ob, e1, _⟩ := g4
        have := g8 e
        rw [e1] at this
        rw [e1]; exact hsome e _ _ this
      intro i ds e1
      obtain ⟨k1, k2⟩ := g6 i ds e1
      refine ⟨k1, fun j d e2 => ?_⟩
      obtain ⟨u, k3, k4, k5⟩ := k2 j d e2
      exact ⟨u, k3, k4, hrep _ (List.mem_of_getElem? e1) _ (List.mem_of_getElem? e2) u _ k5⟩
    · obtain ⟨po', cs, g1, g2, g3, g4, g5, g6, g7, g8⟩ := hi2.objs id _ _ _ _ _ qq
      refine ⟨po', cs, (obj_append (obj_lt g1)).trans g1, g2, g3, g4, g5, ?_, g7, g8⟩
      intro i ds e1
      obtain ⟨k1, k2⟩ := g6 i ds e1
      refine ⟨k1, fun j d e2 => ?_⟩
      obtain ⟨u, k3, k4, k5⟩ := k2 j d e2
      exact ⟨u, k3, k4, k5.mono (HLe.refl h2) hble⟩
theorem inv_join {σ : Objs} (hi : Inv C σ h β w) {w' : World} {h' : Hp} {β' : Nat → Bl} {po : PO} (hpo : ∀ ds ∈ po.els, ∀ d ∈ ds, Blw 0 d) (hj : Inv (Ctx.plain w h) [some po] h' β' w') :
    ∃ β'', BLe β β'' ∧ β'' σ.length = β' 0 ∧ Inv C (σ ++ [some po]) h' β'' w' := by
  have hbel : Below w.heap.size w w' := ⟨hj.os, hj.tape, hj.output, hj.size, fun b hb => hj.frame b hb Ctx.plain_L⟩
  have hi2 : Inv C σ h' β w' := inv_call hi hbel hj.view hj.hle (fun b o e => (hj.hnew b o e).imp id (fun q => q.resolve_right Ctx.plain_L))
  exact inv_joinG hi hi2 hj (fun ds h1 d h2 v β'' r => r.blw (hpo ds h1 d h2) (fun id hid => absurd hid (by omega))) (fun _ _ e => e) (fun _ => HLe.refl _)
theorem callM_sound {o : Oper} {f : FuncId} {vs : Array Value} {ds : List DV} (hci : CallIs P a o f vs) {σ : Objs} {K : DV → Objs → Prop}
    (hk : callM P f ds σ K) (hi : Inv C σ h β w) (he : RepVs h β vs ds) {next : Act → World → Prop} {Q : Exit → Act → World → Prop}
    (hnext : VNext C h β a o K next) : o.wp P a w next Q := by
  unfold callM at hk
  obtain ⟨F, ds', isPtr, po, hs, ⟨hp, hpo, hf⟩, hz, hsca, hK⟩ := hk
  obtain ⟨hF, hleF, hiF⟩ := inv_frz F σ h hi
  obtain ⟨hl, hargs⟩ := args_snap hiF (he.mono hleF (BLe.refl β)) hs
  refine callsV_sound hci (hf w hF _ hiF.view hl hargs) ?_
  rintro v w' ⟨h', β', hj, hrep⟩
  have hbel : Below w.heap.size w w' := ⟨hj.os, hj.tape, hj.output, hj.size, fun b hb => hj.frame b hb Ctx.plain_L⟩
  obtain ⟨h'', hle'', hn'', hi''⟩ := inv_back hi hleF hbel hj.view hj.hle
  obtain ⟨β'', hle, he0, hi3⟩ := inv_joinG hi hi'' hj (fun ds h1 d h2 v β'' r => r.sca (hsca ds h1 d h2)) hn'' (fun e => by rw [hz] at e; cases e)
  refine hnext v _ _ h'' β'' w' hi3 hle'' hle ?_ hK
  cases isPtr with
  | true =>
    simp only [cond_true] at hrep ⊢
    generalize h00 : β' 0 = x0 at *
    cases hrep with
    | pobjAt _ _ _ b sz N K' t hb ht => rw [h00] at hb; subst hb; exact .pobjAt _ _ _ _ _ _ _ _ he0 ht
    | pobjDead _ _ _ _ hb => rw [h00] at hb; subst hb; exact .pobjDead _ _ _ _ he0
  | false =>
    simp only [cond_false] at hrep ⊢
    generalize h00 : β' 0 = x0 at *
    generalize hL : po.els.length = L at *
    cases hrep with
    | refAt _ _ _ cap oo b sz N K' t hb q1 q2 q3 ht => rw [h00] at hb; subst hb; exact .refAt _ _ _ _ _ _ _ _ _ _ he0 q1 q2 q3 ht
    | refNil _ hb => rw [h00] at hb; subst hb; exact .refNil _ he0
    | refDead _ _ _ _ hb => rw [h00] at hb; subst hb; exact .refDead _ _ _ _ he0

theorem call_sound {o : Oper} {f : FuncId} {vs : Array Value} {ds : List DV} (hci : CallIs P a o f vs) {σ : Objs} {K : DV → Objs → Prop}
    (hk : callK P f ds σ K) (hi : Inv C σ h β w) (he : RepVs h β vs ds) {next : Act → World → Prop} {Q : Exit → Act → World → Prop}
    (hnext : VNext C h β a o K next) : o.wp P a w next Q := by
  unfold callK at hk
  rcases hk with ⟨F, ds', hs, hk⟩ | ⟨F, ids, ds', σ0, R, hr, hs, hf, hK⟩ | ⟨R, hf, hK⟩
  case inr.inr =>
    refine callsV_sound hci (hf w h _ _ (inv_same hi) he.1 he.2) ?_
    rintro v w' ⟨d1, σ1, h1, β1, hR, hj, hrep⟩
    obtain ⟨b1, b2⟩ := inv_sameB hi hj
    exact hnext v d1 σ1 h1 β1 w' b2 hj.hle b1 hrep (hK d1 σ1 hR)
  case inr.inl =>
    obtain ⟨hF, hleF, hiF⟩ := inv_frz F σ h hi
    obtain ⟨hl, hargs⟩ := args_ren (σ0 := σ0) hiF (he.mono hleF (BLe.refl β)) hs
    refine callsV_sound hci (hf w hF _ _ (inv_lend hiF hr) hl hargs) ?_
    rintro v w' ⟨d1, σ1, h1, β1, hR, hj, hrep⟩
    obtain ⟨idsB, d2, σ2, q1, q2, q3, hk'⟩ := hK d1 σ1 hR
    obtain ⟨b1, b2, b3⟩ := inv_backS hiF hr hj (by rw [← frz_length] at q1; exact q1) q3
    exact hnext v d2 σ2 h1 _ w' b2 (hleF.trans hj.hle) b1 (b3 _ _ _ q2 hrep) hk'
  obtain ⟨hF, hleF, hiF⟩ := inv_frz F σ h hi
  obtain ⟨hl, hargs⟩ := args_snap hiF (he.mono hleF (BLe.refl β)) hs
  rcases hk with ⟨R, ⟨hp, hpr, hf⟩, hR⟩ | ⟨isPtr, po, ⟨hp, hpo, hf⟩, hK⟩
  · refine callsV_sound hci (hf w hF _ hiF.view hl hargs) ?_
    rintro v w' ⟨d, h', hRd, hrep, hbel, hv', hle, hnew⟩
    rcases hR d hRd with ⟨hsca, hk'⟩ | hk'
    · obtain ⟨h'', hle'', _, hi''⟩ := inv_back hi hleF hbel hv' hle
      exact hnext v d σ h'' β w' hi'' hle'' (BLe.refl β) (hrep.sca hsca) hk'
    · exact hnext v d _ h' β w' (inv_call hiF hbel hv' hle hnew) (hleF.trans hle) (BLe.refl β) (hrep.blw (hpr d hRd) (fun id hid => absurd hid (by omega))) hk'
  · refine callsV_sound hci (hf w hF _ hiF.view hl hargs) ?_
    rintro v w' ⟨h', β', hi', hrep⟩
    obtain ⟨β'', hle, he0, hi''⟩ := inv_join hiF hpo hi'
    refine hnext v _ _ h' β'' w' hi'' (hleF.trans hi'.hle) hle ?_ hK
    cases isPtr with
    | true =>
      simp only [cond_true] at hrep ⊢
      generalize h00 : β' 0 = x0 at *
      cases hrep with
      | pobjAt _ _ _ b sz N K' t hb ht => rw [h00] at hb; subst hb; exact .pobjAt _ _ _ _ _ _ _ _ he0 ht
      | pobjDead _ _ _ _ hb => rw [h00] at hb; subst hb; exact .pobjDead _ _ _ _ he0
    | false =>
      simp only [cond_false] at hrep ⊢
      generalize h00 : β' 0 = x0 at *
      generalize hL : po.els.length = L at *
      cases hrep with
      | refAt _ _ _ cap oo b sz N K' t hb q1 q2 q3 ht => rw [h00] at hb; subst hb; exact .refAt _ _ _ _ _ _ _ _ _ _ he0 q1 q2 q3 ht
      | refNil _ hb => rw [h00] at hb; subst hb; exact .refNil _ he0
      | refDead _ _ _ _ hb => rw [h00] at hb; subst hb; exact .refDead _ _ _ _ he0

end Go.Pv
