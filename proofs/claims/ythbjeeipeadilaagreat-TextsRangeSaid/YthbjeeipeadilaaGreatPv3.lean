/- The walk over pure values is sound: stores, and an operation of any kind. -/
import Derived.Test.YthbjeeipeadilaaGreatPv2
set_option linter.unusedSimpArgs false
set_option linter.unusedVariables false
namespace Go.Pv
open Go Go.RowKit
variable {P : Program} {C : Ctx} {n : Nat} {h : Hp} {β : Nat → Bl} {w : World} {a : Act}

theorem setCells_length : ∀ (vs : List DV) (ds : List DV) (j : Nat), (setCells ds j vs).length = ds.length
  | [], _, _ => rfl
  | _ :: vs, _, _ => by rw [setCells, setCells_length vs]; simp
theorem setCells_get : ∀ (vs : List DV) (ds : List DV) (j k : Nat), j + vs.length ≤ ds.length →
    (setCells ds j vs)[k]? = if j ≤ k ∧ k < j + vs.length then vs[k - j]? else ds[k]?
  | [], _, _, _, _ => by rw [if_neg (by simp only [List.length_nil]; omega)]; rfl
  | v :: vs, ds, j, k, hl => by
    simp only [List.length_cons] at hl
    rw [setCells, setCells_get vs _ _ _ (by rw [List.length_set]; omega)]
    by_cases h0 : k = j
    · subst h0
      rw [if_neg (by omega), if_pos (by simp only [List.length_cons]; omega), List.getElem?_set, if_pos rfl, if_pos (by omega), Nat.sub_self]; rfl
    · by_cases h1 : j + 1 ≤ k ∧ k < j + 1 + vs.length
      · rw [if_pos h1, if_pos (by simp only [List.length_cons]; omega)]
        obtain ⟨q, rfl⟩ : ∃ q, k = j + 1 + q := ⟨k - (j + 1), by omega⟩
        rw [show j + 1 + q - (j + 1) = q by omega, show j + 1 + q - j = q + 1 by omega]; rfl
      · rw [if_neg h1, if_neg (by simp only [List.length_cons]; omega)]
        rw [List.getElem?_set, if_neg (by omega)]

theorem obj_set_ne {σ : Objs} {id k : Nat} {x : Option PO} (hne : k ≠ id) : obj (σ.set id x) k = obj σ k := by
  unfold obj; rw [List.getElem?_set, if_neg (fun e => hne e.symm)]
theorem obj_set_eq {σ : Objs} {id : Nat} {x : PO} (hlt : id < σ.length) : obj (σ.set id (some x)) id = some x := by
  unfold obj; simp [hlt]

theorem inv_put {σ : Objs} (hi : Inv C σ h β w) {id b K : Nat} {po : PO} (hb : β id = .at b po.sz po.els.length K po.ty) (ho : obj σ id = some po) (hf : po.frz = false) (ht : cellTy po.ty = true)
    (cs' : Array Value) (els' : List (List DV)) (hlen : els'.length = po.els.length) (hsz : SzOk cs'.size K po.els.length po.sz)
    (hr : ∀ i ds, els'[i]? = some ds → ds.length = po.sz ∧ ∀ j d, ds[j]? = some d → ∃ v, cs'[i * po.sz + j]? = some v ∧ v.oneCell' = true ∧ Rep h β v d) :
    Inv C (σ.set id (some ⟨false, po.sz, po.ty, els'⟩)) h β (w.setRow b cs') := by
  obtain ⟨po', cs, g1, g2, g3, g4, g5, g6, g7, g8⟩ := hi.objs id b _ _ _ _ hb
  rw [ho] at g1; injection g1 with g1; subst g1
  have hnone := g7 hf
  have hlt := obj_lt ho
  refine { os := hi.os, tape := hi.tape, output := hi.output, size := by simpa using hi.size, view := ?_, hle := hi.hle, hnew := hi.hnew, own := hi.own, unborn := fun k hk => hi.unborn k (by simpa using hk), inj := hi.inj, live := ?_, objs := ?_, frame := ?_, gho := hi.gho, born := fun k hk => hi.born k (by simpa using hk) }
  · intro b' o e
    rw [setRow_other _ _ _ _ (by rintro rfl; rw [hnone] at e; cases e)]; exact hi.view _ _ e
  · intro k po' e
    by_cases hk : k = id
    · subst hk; rw [obj_set_eq hlt] at e; injection e with e; subst e
      exact .inl ⟨b, K, by simpa [hlen] using hb⟩
    · rw [obj_set_ne hk] at e; exact hi.live k po' e
  · intro k b' sz' N' K' t' e
    by_cases hk : k = id
    · subst hk
      rw [hb] at e; injection e with e1 e2 e3 e4 e5; subst e1; subst e2; subst e3; subst e4; subst e5
      exact ⟨_, cs', obj_set_eq hlt, g2, g3, ⟨_, setRow_heap _ _ _ _ _ _ (g4.cells ht), .cells _ _ ht⟩, hsz, hr, fun _ => hnone, by simp⟩
    · obtain ⟨q, cs2, k1, k2, k3, k4, k5, k6, k7, k8⟩ := hi.objs k b' _ _ _ _ e
      have hne : b' ≠ b := by rintro rfl; exact hk (hi.inj _ _ _ _ _ _ _ _ _ _ _ e hb)
      exact ⟨q, cs2, (obj_set_ne hk).trans k1, k2, k3, (by rw [setRow_other _ _ _ _ hne]; exact k4), k5, k6, k7, fun e => (k8 e).trans (setRow_other _ _ _ _ hne).symm⟩
  · intro b' hb' hL
    rw [setRow_other]
    · exact hi.frame b' hb' hL
    · rintro rfl
      rcases hi.own _ _ _ _ _ _ hb with h1 | h1
      · omega
      · exact hL h1

theorem store_sound {σ : Objs} (hi : Inv C σ h β w) {id i j : Nat} {po : PO} {ds : List DV} (ho : obj σ id = some po) (hf : po.frz = false) (ht0 : cellTy po.ty = true) (hds : po.els[i]? = some ds)
    {t : TypeId} {ag : Bool} {m : Nat} (hs : shp P t = some (ag, m)) {v : Value} {d : DV} (hr : Rep h β v d) (hd : boxOk σ d = true) (hok : (cellsD d).all (cellOk σ) = true)
    (hm : (cellsD d).length = m) (hj : j + m ≤ ds.length) {ad : Addr} {b K : Nat} (hb : β id = .at b po.sz po.els.length K po.ty) (had : ad = ⟨b, i * po.sz + j, none⟩) :
    ∃ w', (storeVar t ad v).run P w = .ok () w' ∧ Inv C (σ.set id (some ⟨false, po.sz, po.ty, po.els.set i (setCells ds j (cellsD d))⟩)) h β w' := by
  subst had
  obtain ⟨po', cs, g1, g2, g3, g4, g5, g6, g7, g8⟩ := hi.objs id b _ _ _ _ hb
  rw [ho] at g1; injection g1 with g1; subst g1
  obtain ⟨c1, c2⟩ := rep_cells hi hr hd
  obtain ⟨l1, l2⟩ := g6 i ds hds
  have hil : i < po.els.length := (List.getElem?_eq_some_iff.1 hds).1
  have hmul : (i + 1) * po.sz ≤ K * po.sz := Nat.mul_le_mul_right _ (by omega)
  have hmul' : (i + 1) * po.sz = i * po.sz + po.sz := by rw [Nat.add_mul, Nat.one_mul]
  have hvl : v.cells.toList.length = m := by simp [c1, hm]
  have hone : ∀ u ∈ v.cells.toList, u.oneCell' = true := by
    intro u hu
    obtain ⟨k, hk, rfl⟩ := List.getElem_of_mem hu
    have hk' : k < (cellsD d).length := by omega
    have e1 : v.cells[k]? = some v.cells.toList[k] := by rw [← Array.getElem?_toList]; exact List.getElem?_eq_getElem hk
    have r := c2 k _ _ e1 (List.getElem?_eq_getElem hk')
    have hc : cellOk σ (cellsD d)[k] = true := List.all_eq_true.1 hok _ (List.getElem_mem hk')
    generalize hx : (cellsD d)[k] = x at *
    generalize hu : v.cells.toList[k] = u at *
    have dead : ∀ id, (obj σ id).isSome = true → β id ≠ .dead := by
      intro id e
      cases ho : obj σ id with
      | none => rw [ho] at e; cases e
      | some po =>
        rcases hi.live id po ho with ⟨b, K, hb⟩ | ⟨hb, _⟩ <;> (rw [hb]; intro q; cases q)
    cases r <;> first | rfl | (simp [cellOk] at hc; done) | (rename_i hbd; exact absurd hbd (dead _ hc))
  have hsi : ∃ inf, P.info? t = some inf ∧ inf.size = m := by
    unfold shp at hs
    cases hu : P.underlying t with
    | none => simp [hu] at hs
    | some u =>
      cases hii : P.info? t with
      | none => cases u <;> simp [hu, hii] at hs
      | some inf => exact ⟨inf, rfl, by cases u <;> simp [hu, hii] at hs <;> exact hs.2⟩
  obtain ⟨inf, hinf, hism⟩ := hsi
  have hrun := run_storeCells_at (P := P) b (i * po.sz + j) po.ty v.cells.toList 0 cs w (g4.cells ht0) (by rw [hvl]; have := g5.le; omega) hone
  refine ⟨_, ?_, inv_put hi hb ho hf ht0 (cs.toList.take (i * po.sz + j) ++ v.cells.toList ++ cs.toList.drop (i * po.sz + j + m)).toArray _ (by simp) ?_ ?_⟩
  · simp only [storeVar, Sem.run_bind, run_sizeOf w hinf, Result.andThen_ok]
    rw [if_neg (by rw [c1, hm, show P.cellsOf t = inf.size by simp [Program.cellsOf, hinf], hism]; simp)]
    have := hrun
    simp only [Nat.add_zero, hvl] at this
    simpa using this
  · have hcs : (cs.toList.take (i * po.sz + j) ++ v.cells.toList ++ cs.toList.drop (i * po.sz + j + m)).toArray.size = cs.size := by
      have := g5.le
      simp only [List.size_toArray, List.length_append, List.length_take, List.length_drop, hvl, Array.length_toList]
      omega
    rw [hcs]; exact g5
  · intro i' ds' e
    have hlen : (cs.toList.take (i * po.sz + j)).length = i * po.sz + j := by have := g5.le; simp; omega
    have hget : ∀ q, (cs.toList.take (i * po.sz + j) ++ v.cells.toList ++ cs.toList.drop (i * po.sz + j + m)).toArray[q]? =
        if i * po.sz + j ≤ q ∧ q < i * po.sz + j + m then v.cells[q - (i * po.sz + j)]? else cs[q]? := by
      intro q
      rw [List.getElem?_toArray]
      by_cases q1 : q < i * po.sz + j
      · rw [if_neg (by omega), List.append_assoc, List.getElem?_append_left (by omega), List.getElem?_take, if_pos q1, Array.getElem?_toList]
      · by_cases q2 : q < i * po.sz + j + m
        · rw [if_pos ⟨by omega, q2⟩, List.getElem?_append_left (by simp only [List.length_append, hvl, hlen]; omega), List.getElem?_append_right (by omega), hlen, Array.getElem?_toList]
        · rw [if_neg (by omega), List.getElem?_append_right (by simp only [List.length_append, hvl, hlen]; omega)]
          simp only [List.length_append, hvl, hlen, List.getElem?_drop, Array.getElem?_toList]
          congr 1; omega
    rw [List.getElem?_set] at e
    by_cases hii : i = i'
    · subst hii
      rw [if_pos rfl, if_pos hil] at e; injection e with e; subst e
      refine ⟨by rw [setCells_length]; exact l1, fun k d' e' => ?_⟩
      rw [setCells_get _ _ _ _ (by omega)] at e'
      rw [hget]
      by_cases hk : j ≤ k ∧ k < j + m
      · rw [if_pos (by omega)] at e'
        rw [if_pos (by omega)]
        rw [show i * po.sz + k - (i * po.sz + j) = k - j by omega]
        have hkl : k - j < v.cells.size := by omega
        exact ⟨v.cells[k - j], Array.getElem?_eq_getElem hkl, hone _ (by simp), c2 _ _ _ (Array.getElem?_eq_getElem hkl) e'⟩
      · rw [if_neg (by omega)] at e'
        rw [if_neg (by omega)]
        exact l2 k d' e'
    · rw [if_neg hii] at e
      obtain ⟨l3, l4⟩ := g6 i' ds' e
      refine ⟨l3, fun k d' e' => ?_⟩
      have hk : k < ds'.length := (List.getElem?_eq_some_iff.1 e').1
      rw [hget, if_neg]
      · exact l4 k d' e'
      · rcases Nat.lt_or_gt_of_ne hii with hlt | hgt
        · have := Nat.mul_le_mul_right po.sz (show i + 1 ≤ i' by omega); omega
        · have := Nat.mul_le_mul_right po.sz (show i' + 1 ≤ i by omega)
          rw [Nat.add_mul, Nat.one_mul] at this; omega


theorem shp_of {t : TypeId} {ag : Bool} {m : Nat} (hs : shp P t = some (ag, m)) : ∃ inf, P.info? t = some inf ∧ inf.size = m := by
  unfold shp at hs
  cases hu : P.underlying t with
  | none => simp [hu] at hs
  | some u =>
    cases hii : P.info? t with
    | none => cases u <;> simp [hu, hii] at hs
    | some inf => exact ⟨inf, rfl, by cases u <;> simp [hu, hii] at hs <;> exact hs.2⟩

theorem Rep.blw {β' : Nat → Bl} {m : Nat} {v : Value} {d : DV} (r : Rep h β v d) (hb : Blw m d) (hβ : ∀ id, id < m → β' id = β id) : Rep h β' v d := by
  induction r with
  | junk v => exact .junk v
  | bool b => exact .bool b
  | int k n => exact .int k n
  | flt k n => exact .flt k n
  | str s => exact .str s
  | agg cs ds hl _ ih => cases hb with | agg _ hb => exact .agg cs ds hl fun i v d e1 e2 => ih i v d e1 e2 (hb _ (List.mem_of_getElem? e2))
  | tup cs ds hl _ ih => cases hb with | tup _ hb => exact .tup cs ds hl fun i v d e1 e2 => ih i v d e1 e2 (hb _ (List.mem_of_getElem? e2))
  | nils => exact .nils
  | list a n c xs sz vs hn hnc hz hsz hc ho _ ih =>
    cases hb with
    | list _ hb => exact .list a n c xs sz vs hn hnc hz hsz hc ho fun i ds j d e1 e2 => ih i ds j d e1 e2 (hb _ (List.mem_of_getElem? e1) _ (List.mem_of_getElem? e2))
  | refAt id off len cap o b sz N C t hb' h1 h2 h3 ht => cases hb with | ref _ _ _ hb => exact .refAt id off len cap o b sz N C t ((hβ id hb).trans hb') h1 h2 h3 ht
  | refNil id hb' => cases hb with | ref _ _ _ hb => exact .refNil _ ((hβ id hb).trans hb')
  | refDead v id off len hb' => cases hb with | ref _ _ _ hb => exact .refDead _ _ _ _ ((hβ id hb).trans hb')
  | nilp => exact .nilp
  | pim a cs vs hc _ ih => cases hb with | pim _ hb => exact .pim a cs vs hc fun j d e => ih j d e (hb _ (List.mem_of_getElem? e))
  | pobjAt id i j b sz N C t hb' ht => cases hb with | pobj _ _ _ hb => exact .pobjAt id i j b sz N C t ((hβ id hb).trans hb') ht
  | nilm => exact .nilm
  | mapAt id b sz N C hb' => cases hb with | hnd _ _ hb => exact .mapAt id b sz N C ((hβ id hb).trans hb')
  | iterAt id b sz N C t hb' ht => cases hb with | hnd _ _ hb => exact .iterAt id b sz N C t ((hβ id hb).trans hb') ht
  | hndDead v it id hb' => cases hb with | hnd _ _ hb => exact .hndDead _ _ _ ((hβ id hb).trans hb')
  | pobjDead v id i j hb' => cases hb with | pobj _ _ _ hb => exact .pobjDead _ _ _ _ ((hβ id hb).trans hb')
  | nili => exact .nili
  | iface t v d _ ih => cases hb with | iface _ _ hb => exact .iface t v d (ih hb)
  | nilf => exact .nilf
  | func fn fs cs ds es hl hm _ _ ih1 ih2 =>
    cases hb with
    | func _ _ _ hb hb2 => exact .func fn fs cs ds es hl hm (fun i v d e1 e2 => ih1 i v d e1 e2 (hb _ (List.mem_of_getElem? e2))) (fun i v d e1 e2 => ih2 i v d e1 e2 (hb2 _ (List.mem_of_getElem? e2)))

/-- What a call that owns nothing at its end leaves of the caller's world. -/
theorem inv_call {σ : Objs} (hi : Inv C σ h β w) {w' : World} {h' : Hp} (hb : Below w.heap.size w w') (hv : ∀ b o, h' b = some o → w'.heap[b]? = some o) (hle : HLe h h')
    (hn : ∀ b o, h' b = some o → (h b = some o ∧ b < w.heap.size) ∨ w.heap.size ≤ b) : Inv C σ h' β w' := by
  have hs := hi.size
  refine { os := hb.os.trans hi.os, tape := hb.tape.trans hi.tape, output := hb.output.trans hi.output, size := Nat.le_trans hs hb.size, view := hv, hle := hi.hle.trans hle, hnew := ?_, own := hi.own, unborn := hi.unborn, inj := hi.inj, live := hi.live, objs := ?_, frame := ?_, gho := hi.gho, born := hi.born }
  · intro b o e
    rcases hn b o e with ⟨e1, _⟩ | hge
    · exact hi.hnew b o e1
    · right; left; omega
  · intro id b sz N K t e
    obtain ⟨po, cs, g1, g2, g3, g4, g5, g6, g7, g8⟩ := hi.objs id b sz N K t e
    have hlt := hi.blk e
    refine ⟨po, cs, g1, g2, g3, (by rw [hb.block b hlt]; exact g4), g5, ?_, ?_, fun e => ?_⟩
    rotate_left 2
    · obtain ⟨ob, e1, _⟩ := g4
      have := g8 e
      rw [e1] at this
      rw [hb.block b hlt, e1]; exact hle _ _ this
    · intro i ds e1
      obtain ⟨q1, q2⟩ := g6 i ds e1
      refine ⟨q1, fun j d e2 => ?_⟩
      obtain ⟨v, q3, qo, q4⟩ := q2 j d e2
      exact ⟨v, q3, qo, q4.mono hle (BLe.refl β)⟩
    · intro e2
      cases hx : h' b with
      | none => rfl
      | some o =>
        rcases hn b o hx with ⟨e1, _⟩ | hge
        · rw [g7 e2] at e1; cases e1
        · omega
  · intro b hb' hL
    rw [hb.block b (by omega)]; exact hi.frame b hb' hL

theorem Rep.sca {h' : Hp} {β' : Nat → Bl} {v : Value} {d : DV} (r : Rep h β v d) (hs : Sca d) : Rep h' β' v d := by
  induction r with
  | junk v => exact .junk v
  | bool b => exact .bool b
  | int k n => exact .int k n
  | flt k n => exact .flt k n
  | str s => exact .str s
  | agg cs ds hl _ ih => cases hs with | agg _ hs => exact .agg cs ds hl fun i v d e1 e2 => ih i v d e1 e2 (hs _ (List.mem_of_getElem? e2))
  | tup cs ds hl _ ih => cases hs with | tup _ hs => exact .tup cs ds hl fun i v d e1 e2 => ih i v d e1 e2 (hs _ (List.mem_of_getElem? e2))
  | nils => exact .nils
  | nilp => exact .nilp
  | nili => exact .nili
  | iface t v d _ ih => cases hs with | iface _ _ hs => exact .iface t v d (ih hs)
  | nilf => exact .nilf
  | list => cases hs
  | refAt => cases hs
  | refNil => cases hs
  | refDead => cases hs
  | pim => cases hs
  | pobjAt => cases hs
  | nilm => exact .nilm
  | mapAt => cases hs
  | iterAt => cases hs
  | hndDead => cases hs
  | pobjDead => cases hs
  | func => cases hs

theorem inv_frz1 {σ : Objs} (hi : Inv C σ h β w) {id : Nat} {po : PO} (ho : obj σ id = some po) : ∃ h', HLe h h' ∧ Inv C (σ.set id (some ⟨true, po.sz, po.ty, po.els⟩)) h' β w := by
  have hlt := obj_lt ho
  have hob : ∀ {k q}, obj (σ.set id (some ⟨true, po.sz, po.ty, po.els⟩)) k = some q → ∃ q', obj σ k = some q' ∧ q'.sz = q.sz ∧ q'.ty = q.ty ∧ q'.els = q.els ∧ (k ≠ id → q' = q) := by
    intro k q e
    by_cases hk : k = id
    · subst hk; rw [obj_set_eq hlt] at e; injection e with e; subst e; exact ⟨po, ho, rfl, rfl, rfl, fun h => absurd rfl h⟩
    · rw [obj_set_ne hk] at e; exact ⟨q, e, rfl, rfl, rfl, fun _ => rfl⟩
  have hlive : ∀ k q, obj (σ.set id (some ⟨true, po.sz, po.ty, po.els⟩)) k = some q → (∃ b K, β k = .at b q.sz q.els.length K q.ty) ∨ (β k = .nil ∧ q.els = []) := by
    intro k q e
    obtain ⟨q', e', h1, h2, h3, _⟩ := hob e
    rw [← h1, ← h2, ← h3]; exact hi.live k q' e'
  rcases hi.live id po ho with ⟨b, K, hb⟩ | ⟨hb, hn⟩
  · obtain ⟨po', cs, g1, g2, g3, g4, g5, g6, g7, g8⟩ := hi.objs id b _ _ _ _ hb
    rw [ho] at g1; injection g1 with g1; subst g1
    obtain ⟨ob, g4, gA⟩ := g4
    have hle : HLe h (fun x => if x = b then some ob else h x) := by
      intro x o e
      show (if x = b then _ else h x) = some o
      by_cases hx : x = b
      · subst hx; rw [if_pos rfl]; have := hi.view _ _ e; rw [g4] at this; exact this
      · rw [if_neg hx]; exact e
    refine ⟨_, hle, { os := hi.os, tape := hi.tape, output := hi.output, size := hi.size, view := ?_, hle := hi.hle.trans hle, hnew := ?_, own := hi.own, unborn := fun k hk => hi.unborn k (by simpa using hk), inj := hi.inj, live := hlive, objs := ?_, frame := hi.frame, gho := hi.gho, born := fun k hk => hi.born k (by simpa using hk) }⟩
    · intro x o e
      by_cases hx : x = b
      · subst hx; simp only [if_true] at e; rw [← e]; exact g4
      · simp only [if_neg hx] at e; exact hi.view _ _ e
    · intro x o e
      by_cases hx : x = b
      · subst hx; exact .inr (hi.own _ _ _ _ _ _ hb)
      · simp only [if_neg hx] at e; exact hi.hnew _ _ e
    · intro k b' sz' N' K' t' e
      obtain ⟨q, cs2, k1, k2, k3, k4, k5, k6, k7, k8⟩ := hi.objs k b' _ _ _ _ e
      have hrep : ∀ i ds, q.els[i]? = some ds → ds.length = sz' ∧ ∀ j d, ds[j]? = some d → ∃ v, cs2[i * sz' + j]? = some v ∧ v.oneCell' = true ∧ Rep (fun x => if x = b then some ob else h x) β v d := by
        intro i ds e1
        obtain ⟨p1, p2⟩ := k6 i ds e1
        refine ⟨p1, fun j d e2 => ?_⟩
        obtain ⟨v, p3, p4, p5⟩ := p2 j d e2
        exact ⟨v, p3, p4, p5.mono hle (BLe.refl β)⟩
      by_cases hk : k = id
      · subst hk
        rw [hb] at e; injection e with e1 e2 e3 e4 e5; subst e1; subst e2; subst e3; subst e4; subst e5
        rw [ho] at k1; injection k1 with k1; subst k1
        exact ⟨_, cs2, obj_set_eq hlt, k2, k3, k4, k5, hrep, (fun e => by cases e), fun _ => by simp [g4]⟩
      · have hne : b' ≠ b := by rintro rfl; exact hk (hi.inj _ _ _ _ _ _ _ _ _ _ _ e hb)
        exact ⟨q, cs2, (obj_set_ne hk).trans k1, k2, k3, k4, k5, hrep, (fun e1 => by simp only [if_neg hne]; exact k7 e1), (fun e1 => by simp only [if_neg hne]; exact k8 e1)⟩
  · refine ⟨h, HLe.refl h, { os := hi.os, tape := hi.tape, output := hi.output, size := hi.size, view := hi.view, hle := hi.hle, hnew := hi.hnew, own := hi.own, unborn := fun k hk => hi.unborn k (by simpa using hk), inj := hi.inj, live := hlive, objs := ?_, frame := hi.frame, gho := hi.gho, born := fun k hk => hi.born k (by simpa using hk) }⟩
    intro k b' sz' N' K' t' e
    obtain ⟨q, cs2, k1, rest⟩ := hi.objs k b' _ _ _ _ e
    have hk : k ≠ id := by rintro rfl; rw [hb] at e; cases e
    exact ⟨q, cs2, (obj_set_ne hk).trans k1, rest⟩

theorem inv_frz : ∀ (F : List Nat) (σ : Objs) (h : Hp), Inv C σ h β w → ∃ h', HLe h h' ∧ Inv C (frz F σ) h' β w
  | [], _, h, hi => ⟨h, HLe.refl h, hi⟩
  | id :: F, σ, h, hi => by
    simp only [frz]
    cases ho : obj σ id with
    | none => exact inv_frz F σ h hi
    | some po =>
      obtain ⟨h1, hle1, hi1⟩ := inv_frz1 hi ho
      obtain ⟨h2, hle2, hi2⟩ := inv_frz F _ h1 hi1
      exact ⟨h2, hle1.trans hle2, hi2⟩

theorem Snaps.len {g : Nat → Option PO} : ∀ {as bs : List DV}, Snaps g as bs → as.length = bs.length
  | [], [], _ => rfl
  | [], _ :: _, h => h.elim
  | _ :: _, [], h => h.elim
  | _ :: as, _ :: bs, h => by simp [h.2.len]
theorem Snaps.get {g : Nat → Option PO} : ∀ {as bs : List DV}, Snaps g as bs → ∀ (i : Nat) (a b : DV), as[i]? = some a → bs[i]? = some b → Snap g a b
  | [], [], _, i, a, b, e, _ => by simp at e
  | [], _ :: _, h, _, _, _, _, _ => h.elim
  | _ :: _, [], h, _, _, _, _, _ => h.elim
  | _ :: as, _ :: bs, h, i, a, b, e1, e2 => by
    cases i with
    | zero => simp at e1 e2; subst e1; subst e2; exact h.1
    | succ i => exact h.2.get i a b (by simpa using e1) (by simpa using e2)

end Go.Pv
