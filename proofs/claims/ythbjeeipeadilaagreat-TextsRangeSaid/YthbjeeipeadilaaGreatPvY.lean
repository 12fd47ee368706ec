/- A run over pure values is what the call comes to. -/
import Derived.Test.YthbjeeipeadilaaGreatPvX
set_option linter.unusedSimpArgs false
set_option linter.unusedVariables false
namespace Go.Pv
open Go Go.RowKit
variable {P : Program}

theorem guardX_some {α : Type} {b : Bool} {x : Option α} {y : α} (h : guardX b x = some y) : b = true ∧ x = some y := by
  unfold guardX at h
  cases b with
  | false => cases h
  | true => exact ⟨rfl, h⟩
theorem bindX {α β : Type} {x : Option α} {f : α → Option β} {y : β} (h : x.bind f = some y) : ∃ a, x = some a ∧ f a = some y := Option.bind_eq_some_iff.1 h
theorem intX_some {d : DV} {z : Int} (h : intX d = some z) : ∃ k, d = .int k z := by
  unfold intX at h
  split at h
  · injection h with h; subst h; exact ⟨_, rfl⟩
  · cases h
theorem optK_of {α : Type} {x : Option α} {y : α} {K : α → Prop} (h : x = some y) (hk : K y) : optK x K := by rw [h]; exact hk
theorem inj2 {α β : Type} {a c : α} {b d : β} (h : some (a, b) = some (c, d)) : a = c ∧ b = d := by injection h with h; injection h with h1 h2; exact ⟨h1, h2⟩
theorem bif_yes {b : Bool} {p q : Prop} (hb : b = true) (hp : p) : bif b then p else q := by rw [hb]; exact hp
theorem bif_no {b : Bool} {p q : Prop} (hb : b = false) (hq : q) : bif b then p else q := by rw [hb]; exact hq
theorem bif_of {b : Bool} {p : Prop} (hb : b = true) (hp : p) : bif b then p else False := by rw [hb]; exact hp
theorem and3 {a b c : Bool} (h : (a && b && c) = true) : a = true ∧ b = true ∧ c = true := by
  rw [Bool.and_eq_true, Bool.and_eq_true] at h; exact ⟨h.1.1, h.1.2, h.2⟩

theorem partD_ld {t : TypeId} {cs : List DV} {j : Nat} {d : DV} (h : partD P t cs j = some d) {K : DV → Prop} (hk : K d) : ldK P t cs j K := by
  unfold partD at h; unfold ldK
  split at h
  · rename_i n hs
    cases hb : Nat.ble (j + n) cs.length with
    | false => rw [hb] at h; cases h
    | true => rw [hb] at h; injection h with h; subst h; exact hk
  · rename_i hs
    exact optK_of h hk
  · cases h

theorem mapX_get {α β : Type} {f : α → Option β} : ∀ {as : List α} {bs : List β}, mapX f as = some bs → as.length = bs.length ∧ ∀ (i : Nat) a b, as[i]? = some a → bs[i]? = some b → f a = some b
  | [], bs, h => by simp [mapX] at h; subst h; exact ⟨rfl, fun i a b e => by simp at e⟩
  | x :: as, bs, h => by
    simp only [mapX] at h
    obtain ⟨b, hb, h⟩ := bindX h
    obtain ⟨bs', hbs, h⟩ := bindX h
    injection h with h; subst h
    obtain ⟨h1, h2⟩ := mapX_get hbs
    refine ⟨by simp [h1], fun i a c e1 e2 => ?_⟩
    cases i with
    | zero => simp at e1 e2; subst e1; subst e2; exact hb
    | succ i => exact h2 i a c (by simpa using e1) (by simpa using e2)

theorem blw0_sound : ∀ (m : Nat) (d : DV), blw0 m d = true → Blw 0 d
  | 0, _, h => by cases h
  | m + 1, d, h => by
    have all : ∀ cs : List DV, cs.all (blw0 m) = true → ∀ d ∈ cs, Blw 0 d := fun cs hc d hd => blw0_sound m d (List.all_eq_true.1 hc d hd)
    cases d with
    | junk => exact .junk
    | bool b => exact .bool b
    | int k n => exact .int k n
    | flt k n => exact .flt k n
    | str s => exact .str s
    | agg cs => exact .agg cs (all cs h)
    | tup cs => exact .tup cs (all cs h)
    | nils => exact .nils
    | list xs => exact .list xs fun ds hds => all ds (List.all_eq_true.1 h ds hds)
    | ref id off len => cases h
    | nilp => exact .nilp
    | pim cs => exact .pim cs (all cs h)
    | pobj id i j => cases h
    | nili => exact .nili
    | iface t v => exact .iface t v (blw0_sound m v h)
    | nilf => exact .nilf
    | nilm => exact .nilm
    | hnd it id => cases h
    | func fn fs cs =>
      have h : (fs.all (blw0 m) && cs.all (blw0 m)) = true := h
      rw [Bool.and_eq_true] at h
      exact .func fn fs cs (all fs h.1) (all cs h.2)
theorem scaB_sound : ∀ (m : Nat) (d : DV), scaB m d = true → Sca d
  | 0, _, h => by cases h
  | m + 1, d, h => by
    have all : ∀ cs : List DV, cs.all (scaB m) = true → ∀ d ∈ cs, Sca d := fun cs hc d hd => scaB_sound m d (List.all_eq_true.1 hc d hd)
    cases d with
    | junk => exact .junk
    | bool b => exact .bool b
    | int k n => exact .int k n
    | flt k n => exact .flt k n
    | str s => exact .str s
    | agg cs => exact .agg cs (all cs h)
    | tup cs => exact .tup cs (all cs h)
    | nils => exact .nils
    | nilp => exact .nilp
    | nili => exact .nili
    | iface t v => exact .iface t v (scaB_sound m v h)
    | nilf => exact .nilf
    | nilm => exact .nilm
    | _ => cases h
theorem Sca.blw0 {d : DV} (h : Sca d) : Blw 0 d := by
  induction h with
  | junk => exact .junk
  | bool b => exact .bool b
  | int k n => exact .int k n
  | flt k n => exact .flt k n
  | str s => exact .str s
  | agg cs _ ih => exact .agg cs ih
  | tup cs _ ih => exact .tup cs ih
  | nils => exact .nils
  | nilp => exact .nilp
  | nili => exact .nili
  | iface t v _ ih => exact .iface t v ih
  | nilf => exact .nilf
  | nilm => exact .nilm

theorem frz_keep : ∀ (F : List Nat) (σ : Objs) (id : Nat) (po : PO), obj σ id = some po → ∃ po', obj (frz F σ) id = some po' ∧ po'.els = po.els ∧ ((id ∈ F ∨ po.frz = true) → po'.frz = true)
  | [], σ, id, po, h => ⟨po, h, rfl, fun q => q.elim (fun q => by cases q) (fun q => q)⟩
  | x :: F, σ, id, po, h => by
    simp only [frz]
    by_cases hx : id = x
    · subst hx
      rw [h]
      simp only
      obtain ⟨po', h1, h2, h3⟩ := frz_keep F (σ.set id (some ⟨true, po.sz, po.ty, po.els⟩)) id _ (obj_set_eq (obj_lt h))
      exact ⟨po', h1, h2, fun _ => h3 (.inr rfl)⟩
    · cases ho : obj σ x with
      | none =>
        obtain ⟨po', h1, h2, h3⟩ := frz_keep F σ id po h
        exact ⟨po', h1, h2, fun q => h3 (q.imp (fun q => (List.mem_cons.1 q).resolve_left hx) (fun q => q))⟩
      | some q =>
        simp only
        obtain ⟨po', h1, h2, h3⟩ := frz_keep F (σ.set x (some ⟨true, q.sz, q.ty, q.els⟩)) id po ((obj_set_ne hx).trans h)
        exact ⟨po', h1, h2, fun q => h3 (q.imp (fun q => (List.mem_cons.1 q).resolve_left hx) (fun q => q))⟩
theorem fobj_all {σ : Objs} {id : Nat} {po : PO} (h : obj σ id = some po) : ∃ po', fobj (frz (List.range σ.length) σ) id = some po' ∧ po'.els = po.els := by
  obtain ⟨po', h1, h2, h3⟩ := frz_keep (List.range σ.length) σ id po h
  refine ⟨po', ?_, h2⟩
  unfold fobj
  simp only [h1, h3 (.inl (List.mem_range.2 (obj_lt h))), cond_true]

theorem snapX_sound {σ : Objs} {g : Nat → Option PO} (hg : ∀ id po, obj σ id = some po → ∃ po', g id = some po' ∧ po'.els = po.els) : ∀ (m : Nat) (d d' : DV), snapX σ m d = some d' → Snap g d d'
  | 0, _, _, h => by cases h
  | m + 1, d, d', h => by
    unfold snapX at h
    cases hb : blw0 (m + 1) d with
    | true =>
      rw [hb] at h
      simp only [cond_true] at h
      injection h with h; subst h
      exact .pure _ (blw0_sound _ _ hb)
    | false =>
      rw [hb] at h
      simp only [cond_false] at h
      have mp : ∀ {as bs : List DV}, mapX (snapX σ m) as = some bs → as.length = bs.length ∧ ∀ (j : Nat) (e d : DV), as[j]? = some e → bs[j]? = some d → Snap g e d := by
        intro as bs hm
        obtain ⟨h1, h2⟩ := mapX_get hm
        exact ⟨h1, fun j e d e1 e2 => snapX_sound hg m e d (h2 j e d e1 e2)⟩
      split at h
      · rename_i id off len
        obtain ⟨po, hpo, h⟩ := bindX h
        obtain ⟨hl, h⟩ := guardX_some h
        obtain ⟨xs, hxs, h⟩ := bindX h
        injection h with h; subst h
        obtain ⟨h1, h2⟩ := mapX_get hxs
        obtain ⟨po', hgp, hels⟩ := hg id po hpo
        have hle := Nat.le_of_ble_eq_true hl
        have hget : ∀ (i : Nat) ds, xs[i]? = some ds → ∃ es, po.els[off + i]? = some es ∧ mapX (snapX σ m) es = some ds := by
          intro i ds e
          have hi : i < xs.length := (List.getElem?_eq_some_iff.1 e).1
          have hi2 : i < ((po.els.drop off).take len).length := by omega
          have e0 := List.getElem?_eq_getElem hi2
          refine ⟨_, ?_, h2 i _ ds e0 e⟩
          rw [List.getElem?_take] at e0
          split at e0
          · rw [List.getElem?_drop] at e0; exact e0
          · cases e0
        refine .ref id off len po' xs hgp (by rw [← h1]; simp; omega) (fun i ds e => ?_) (fun i ds es j d e h3 h4 h5 h6 => ?_)
        · obtain ⟨es, q1, q2⟩ := hget i ds e
          exact ⟨es, by rw [hels]; exact q1, (mp q2).1.symm⟩
        · obtain ⟨es', q1, q2⟩ := hget i ds h3
          rw [hels, q1] at h4; injection h4 with h4; subst h4
          exact (mp q2).2 j e d h6 h5
      · rename_i id i j
        obtain ⟨po, hpo, h⟩ := bindX h
        obtain ⟨es, hes, h⟩ := bindX h
        obtain ⟨hl, h⟩ := guardX_some h
        obtain ⟨ds, hds, h⟩ := bindX h
        injection h with h; subst h
        obtain ⟨po', hgp, hels⟩ := hg id po hpo
        obtain ⟨h1, h2⟩ := mp hds
        have hle := Nat.le_of_ble_eq_true hl
        refine .pobj id i j po' es ds hgp (by rw [hels]; exact hes) (by rw [← h1]; simp; omega) (fun k d e e1 e2 => ?_)
        exact h2 k e d (by rw [List.getElem?_drop]; exact e2) e1
      · obtain ⟨ds, hds, h⟩ := bindX h
        injection h with h; subst h
        exact .agg _ _ (mp hds).1 (mp hds).2
      · obtain ⟨ds, hds, h⟩ := bindX h
        injection h with h; subst h
        exact .tup _ _ (mp hds).1 (mp hds).2
      · obtain ⟨v, hv, h⟩ := bindX h
        injection h with h; subst h
        exact .iface _ _ _ (snapX_sound hg m _ _ hv)
      · cases h

def CallOK (P : Program) (call : CallX) : Prop := ∀ f ds σ d σ', call f ds σ = some (d, σ') → FnS P f ds σ (fun d1 s1 => d1 = d ∧ s1 = σ')

theorem fnC_of {f : FuncId} {ds : List DV} {r : DV} {s : Objs} (h : FnS P f ds [] (fun d1 s1 => d1 = r ∧ s1 = s)) (hd : ∀ d ∈ ds, Blw 0 d) (hr : Blw 0 r) : FnC P f ds (· = r) := by
  refine ⟨hd, fun d e => e ▸ hr, fun w0 h0 vs hview hsz hrep => ?_⟩
  have hi : Inv ⟨w0, h0, ([] : Objs).length, fun _ => .no, []⟩ [] h0 (fun _ => .no) w0 :=
    { os := rfl, tape := rfl, output := rfl, size := Nat.le_refl _, view := hview, hle := HLe.refl _, hnew := fun b o e => .inl ⟨e, lt_of_some (hview b o e)⟩,
      own := fun _ _ _ _ _ _ e => (by cases e), unborn := fun _ _ => rfl, inj := fun _ _ _ _ _ _ _ _ _ _ _ e => (by cases e), live := fun id po e => (by simp [obj] at e),
      objs := fun _ _ _ _ _ _ e => (by cases e), frame := fun _ _ _ => rfl, gho := fun id hid => absurd hid (Nat.not_lt_zero id), born := fun id hid => absurd hid (Nat.not_lt_zero id) }
  have nL : ∀ b, ¬ Ctx.L ⟨w0, h0, ([] : Objs).length, fun _ => .no, []⟩ b := fun b ⟨id, _, _, _, _, hid, _⟩ => Nat.not_lt_zero id hid
  have fin : ∀ v w, (∃ d σ h β, (d = r ∧ σ = s) ∧ Inv ⟨w0, h0, ([] : Objs).length, fun _ => .no, []⟩ σ h β w ∧ Rep h β v d) → ∃ d h, d = r ∧ Rep h (fun _ => .no) v d ∧ Below w0.heap.size w0 w ∧
      (∀ b o, h b = some o → w.heap[b]? = some o) ∧ HLe h0 h ∧ (∀ b o, h b = some o → (h0 b = some o ∧ b < w0.heap.size) ∨ w0.heap.size ≤ b) := by
    rintro v w ⟨d, σ, h', β, ⟨e0, _⟩, hj, hrep⟩
    rw [e0] at hrep
    exact ⟨r, h', rfl, hrep.blw hr (fun id hid => absurd hid (Nat.not_lt_zero id)), ⟨hj.os, hj.tape, hj.output, hj.size, fun b hb => hj.frame b hb (nL b)⟩, hj.view, hj.hle, fun b o e => (hj.hnew b o e).imp id (fun q => q.resolve_right (nL b))⟩
  rcases h w0 h0 _ vs hi hsz hrep with ⟨fn, c, h1, h2, h3, h4⟩ | ⟨v, w', h1, h2⟩
  · exact .inl ⟨fn, c, h1, h2, h3, h4.mono fun e w' ⟨v, e1, e2⟩ => ⟨v, e1, fin v w' e2⟩⟩
  · exact .inr ⟨v, w', h1, fin v w' h2⟩

theorem fnO_of {f : FuncId} {ds : List DV} {id n : Nat} {isPtr : Bool} {s : Objs} {po : PO} (h : FnS P f ds [] (fun d1 s1 => d1 = (bif isPtr then .pobj id 0 0 else .ref id 0 po.els.length) ∧ s1 = s)) (hd : ∀ d ∈ ds, Blw 0 d) (ho : obj s id = some po)
    (hc : ∀ es ∈ po.els, ∀ d ∈ es, Blw 0 d) : FnO P f ds isPtr po := by
  refine ⟨hd, hc, fun w0 h0 vs hview hsz hrep => ?_⟩
  have hi : Inv ⟨w0, h0, ([] : Objs).length, fun _ => .no, []⟩ [] h0 (fun _ => .no) w0 :=
    { os := rfl, tape := rfl, output := rfl, size := Nat.le_refl _, view := hview, hle := HLe.refl _, hnew := fun b o e => .inl ⟨e, lt_of_some (hview b o e)⟩,
      own := fun _ _ _ _ _ _ e => (by cases e), unborn := fun _ _ => rfl, inj := fun _ _ _ _ _ _ _ _ _ _ _ e => (by cases e), live := fun id po e => (by simp [obj] at e),
      objs := fun _ _ _ _ _ _ e => (by cases e), frame := fun _ _ _ => rfl, gho := fun id hid => absurd hid (Nat.not_lt_zero id), born := fun id hid => absurd hid (Nat.not_lt_zero id) }
  have fin : ∀ v w, (∃ d σ h β, (d = (bif isPtr then .pobj id 0 0 else .ref id 0 po.els.length) ∧ σ = s) ∧ Inv ⟨w0, h0, ([] : Objs).length, fun _ => .no, []⟩ σ h β w ∧ Rep h β v d) →
      ∃ h β, Inv (Ctx.plain w0 h0) [some po] h β w ∧ Rep h β v (bif isPtr then .pobj 0 0 0 else .ref 0 0 po.els.length) := by
    rintro v w ⟨d, σ, h', β, ⟨e0, e1⟩, hj, hr⟩
    rw [e0] at hr
    rw [e1] at hj
    refine ⟨h', _, inv_pick (C := Ctx.plain w0 h0) rfl hj ho hc, ?_⟩
    cases isPtr with
    | true =>
      simp only [cond_true] at hr ⊢
      cases hr with
      | pobjAt _ _ _ b sz N K' t hb ht => exact .pobjAt _ _ _ _ _ _ _ _ ((if_pos rfl).trans hb) ht
      | pobjDead _ _ _ _ hb => exact .pobjDead _ _ _ _ ((if_pos rfl).trans hb)
    | false =>
      simp only [cond_false] at hr ⊢
      generalize hL : po.els.length = L at *
      cases hr with
      | refAt _ _ _ cap oo b sz N K' t hb q1 q2 q3 ht => exact .refAt _ _ _ _ _ _ _ _ _ _ ((if_pos rfl).trans hb) q1 q2 q3 ht
      | refNil _ hb => exact .refNil _ ((if_pos rfl).trans hb)
      | refDead _ _ _ _ hb => exact .refDead _ _ _ _ ((if_pos rfl).trans hb)
  rcases h w0 h0 _ vs hi hsz hrep with ⟨fn, c, h1, h2, h3, h4⟩ | ⟨v, w', h1, h2⟩
  · exact .inl ⟨fn, c, h1, h2, h3, h4.mono fun e w' ⟨v, e1, e2⟩ => ⟨v, e1, fin v w' e2⟩⟩
  · exact .inr ⟨v, w', h1, fin v w' h2⟩
theorem snapsX {ds ds' : List DV} {σ : Objs} (hds : mapX (snapX σ 20) ds = some ds') : Snaps (fobj (frz (List.range σ.length) σ)) ds ds' := by
  obtain ⟨h1, h2⟩ := mapX_get hds
  have key : ∀ {as bs : List DV}, as.length = bs.length → (∀ (i : Nat) a b, as[i]? = some a → bs[i]? = some b → Snap (fobj (frz (List.range σ.length) σ)) a b) → Snaps (fobj (frz (List.range σ.length) σ)) as bs := by
    intro as
    induction as with
    | nil => intro bs h _; cases bs with | nil => exact trivial | cons => simp at h
    | cons a as ih =>
      intro bs h hh
      cases bs with
      | nil => simp at h
      | cons b bs => exact ⟨hh 0 a b rfl rfl, ih (by simpa using h) fun i x y e1 e2 => hh (i + 1) x y (by simpa using e1) (by simpa using e2)⟩
  exact key h1 fun i a b e1 e2 => snapX_sound (fun id po e => fobj_all e) _ _ _ (h2 i a b e1 e2)
theorem drawX_sound {call : CallX} (hc : CallOK P call) {f : FuncId} {ds : List DV} {σ : Objs} {r : DV} (h : drawX call f ds σ = some r) {K : DV → Prop} (hk : K r) : callE P f ds σ K := by
  unfold drawX at h
  obtain ⟨ds', hds, h⟩ := bindX h
  obtain ⟨⟨r', s'⟩, hr, h⟩ := bindX h
  obtain ⟨hb, h⟩ := guardX_some h
  injection h with h; subst h
  rw [Bool.and_eq_true] at hb
  have hsca := scaB_sound _ _ hb.2
  have hbl : ∀ d ∈ ds', Blw 0 d := fun d hd => blw0_sound _ _ (List.all_eq_true.1 hb.1 d hd)
  have hs := snapsX hds
  unfold callE
  exact ⟨_, ds', r', hs, fnC_of (hc _ _ _ _ _ hr) hbl hsca.blw0, .inr hsca, hk⟩

theorem makeX_sound {call : CallX} (hc : CallOK P call) {f : FuncId} {ds : List DV} {σ σ' : Objs} {d : DV} (h : makeX call f ds σ = some (d, σ')) {K : DV → Objs → Prop} (hk : K d σ') : callM P f ds σ K := by
  unfold makeX at h
  obtain ⟨ds', hds, h⟩ := bindX h
  obtain ⟨⟨r, s⟩, hr, h⟩ := bindX h
  obtain ⟨hb, h⟩ := guardX_some h
  have hbl : ∀ d ∈ ds', Blw 0 d := fun d hd => blw0_sound _ _ (List.all_eq_true.1 hb d hd)
  have sca : ∀ {po : PO}, po.els.all (fun es => es.all (scaB 40)) = true → ∀ es ∈ po.els, ∀ d ∈ es, Sca d := fun h es he d hd => scaB_sound _ _ (List.all_eq_true.1 (List.all_eq_true.1 h es he) d hd)
  split at h
  · rename_i id n e0
    simp only at e0; subst e0
    obtain ⟨po, hpo, h⟩ := bindX h
    obtain ⟨hb2, h⟩ := guardX_some h
    obtain ⟨b1, b2, b3⟩ := and3 hb2
    obtain ⟨e1, e2⟩ := inj2 h; subst e1; subst e2
    have hn := Nat.eq_of_beq_eq_true b2
    subst hn
    exact callM.mk (isPtr := false) _ (fnO_of (n := 0) (isPtr := false) (hc _ _ _ _ _ hr) hbl hpo (fun es he d hd => (sca b3 es he d hd).blw0)) (snapsX hds) (by simpa using b1) (sca b3) hk
  · rename_i id e0
    simp only at e0; subst e0
    obtain ⟨po, hpo, h⟩ := bindX h
    obtain ⟨hb2, h⟩ := guardX_some h
    rw [Bool.and_eq_true] at hb2
    obtain ⟨e1, e2⟩ := inj2 h; subst e1; subst e2
    exact callM.mk (isPtr := true) _ (fnO_of (n := 0) (isPtr := true) (hc _ _ _ _ _ hr) hbl hpo (fun es he d hd => (sca hb2.2 es he d hd).blw0)) (snapsX hds) (by simpa using hb2.1) (sca hb2.2) hk
  · cases h
theorem listB_eq {α : Type} {f : α → α → Bool} (hf : ∀ a b, f a b = true → a = b) : ∀ {as bs : List α}, listB f as bs = true → as = bs
  | [], [], _ => rfl
  | a :: as, b :: bs, h => by
    simp only [listB, Bool.and_eq_true] at h
    rw [hf a b h.1, listB_eq hf h.2]
  | [], _ :: _, h => by cases h
  | _ :: _, [], h => by cases h
theorem dvB_eq : ∀ (m : Nat) (a b : DV), dvB m a b = true → a = b
  | 0, _, _, h => by cases h
  | m + 1, a, b, h => by
    unfold dvB at h
    split at h
    · rfl
    · rw [of_decide_eq_true h]
    · rw [Bool.and_eq_true] at h; rw [of_decide_eq_true h.1, of_decide_eq_true h.2]
    · rw [Bool.and_eq_true] at h; rw [of_decide_eq_true h.1, of_decide_eq_true h.2]
    · rename_i x y
      have := of_decide_eq_true h
      cases x; cases y; simp only at this; rw [this]
    · rw [listB_eq (dvB_eq m) h]
    · rw [listB_eq (dvB_eq m) h]
    · rw [listB_eq (dvB_eq m) h]
    · rw [Bool.and_eq_true, Bool.and_eq_true] at h; rw [of_decide_eq_true h.1.1, listB_eq (dvB_eq m) h.1.2, listB_eq (dvB_eq m) h.2]
    · rfl
    · rw [listB_eq (fun _ _ => listB_eq (dvB_eq m)) h]
    · rw [Bool.and_eq_true, Bool.and_eq_true] at h; rw [of_decide_eq_true h.1.1, of_decide_eq_true h.1.2, of_decide_eq_true h.2]
    · rfl
    · rw [Bool.and_eq_true, Bool.and_eq_true] at h; rw [of_decide_eq_true h.1.1, of_decide_eq_true h.1.2, of_decide_eq_true h.2]
    · rfl
    · rw [Bool.and_eq_true] at h; rw [of_decide_eq_true h.1, dvB_eq m _ _ h.2]
    · rfl
    · rfl
    · rw [Bool.and_eq_true] at h; rw [of_decide_eq_true h.1, of_decide_eq_true h.2]
    · cases h
theorem optB_eq {a b : Option PO} (h : optB a b = true) : a = b := by
  unfold optB at h
  split at h
  · rfl
  · rename_i x y
    rw [Bool.and_eq_true, Bool.and_eq_true, Bool.and_eq_true] at h
    have e1 := of_decide_eq_true h.1.1.1
    have e2 := of_decide_eq_true h.1.1.2
    have e3 := of_decide_eq_true h.1.2
    have e4 := listB_eq (fun _ _ => listB_eq (dvB_eq 20)) h.2
    cases x; cases y
    simp only at e1 e2 e3 e4
    rw [e1, e2, e3, e4]
  · cases h
theorem preB_eq : ∀ {σ σ' : Objs}, preB σ σ' = true → ∃ xs, σ' = σ ++ xs
  | [], σ', _ => ⟨σ', rfl⟩
  | x :: σ, y :: σ', h => by
    simp only [preB, Bool.and_eq_true] at h
    obtain ⟨xs, e⟩ := preB_eq h.2
    exact ⟨xs, by rw [optB_eq h.1, e]; rfl⟩
  | _ :: _, [], h => by cases h
theorem callDX_sound {call : CallX} (hc : CallOK P call) {det : Det} {dst : Option Tmp} {f : FuncId} {ds : List DV} {σ σ' : Objs} {d : DV} (h : callDX call det dst f ds σ = some (d, σ')) {K : DV → Objs → Prop} (hk : K d σ') : callD P det dst f ds σ K := by
  unfold callDX at h; unfold callD
  split at h
  · exact callK.id (hc _ _ _ _ _ h) hk
  · rename_i M
    simp only
    split at h
    · rename_i e0
      obtain ⟨d', hd, h⟩ := bindX h
      obtain ⟨e1, e2⟩ := inj2 h; subst e1; subst e2
      rw [e0]
      exact drawX_sound (K := (K · σ)) hc hd hk
    · rename_i e0
      rw [e0]
      exact makeX_sound hc h hk
    · rename_i e0
      rw [e0]
      obtain ⟨⟨d', s'⟩, hd, h⟩ := bindX h
      obtain ⟨hp, h⟩ := guardX_some h
      obtain ⟨e1, e2⟩ := inj2 h; subst e1; subst e2
      obtain ⟨xs, e⟩ := preB_eq hp
      have e : s' = σ ++ xs := e
      simp only
      unfold callG
      exact ⟨_, xs, fun K' h' => callK.id (hc _ _ _ _ _ hd) (by rw [e]; exact h'), by rw [← e]; exact hk⟩
    · rename_i n0 n1 n4
      split
      · rename_i e; exact (n0 e).elim
      · rename_i e; exact (n1 e).elim
      · rename_i e; exact (n4 e).elim
      · exact callW.mk (fun K' h' => callK.id (hc _ _ _ _ _ h) h') hk

theorem purX_sound {o : Oper} {env : Env} {d : DV} (h : purX P o env = some d) {K : DV → Prop} (hk : K d) : purK P o env K := by
  unfold purX at h
  obtain ⟨hb, h⟩ := guardX_some h
  unfold purK
  refine bif_of hb ?_
  split at h
  · rename_i v hv; rw [hv]; injection h with h; subst h; exact hk
  · cases h

theorem bndX_sound {lo hi : Option DV} {n m : Nat} {b : Nat × Nat} (h : bndX lo hi n m = some b) {K : Nat → Nat → Prop} (hk : K b.1 b.2) : bndK lo hi n m K := by
  unfold bndX at h; unfold bndK
  split at h
  · injection h with h; subst h; exact hk
  · obtain ⟨z, hz, h⟩ := bindX h
    obtain ⟨k, hz'⟩ := intX_some hz
    simp only [hz', isInt]
    obtain ⟨hb, h⟩ := guardX_some h
    rw [Bool.and_eq_true] at hb
    injection h with h; subst h
    exact ⟨of_decide_eq_true hb.1, of_decide_eq_true hb.2, hk⟩
  · obtain ⟨z, hz, h⟩ := bindX h
    obtain ⟨k, hz'⟩ := intX_some hz
    simp only [hz', isInt]
    obtain ⟨hb, h⟩ := guardX_some h
    rw [Bool.and_eq_true] at hb
    injection h with h; subst h
    exact ⟨of_decide_eq_true hb.1, of_decide_eq_true hb.2, hk⟩
  · obtain ⟨z, hz, h⟩ := bindX h
    obtain ⟨k, hz'⟩ := intX_some hz
    simp only [hz', isInt]
    obtain ⟨y, hy, h⟩ := bindX h
    obtain ⟨k', hy'⟩ := intX_some hy
    simp only [hy', isInt]
    obtain ⟨hb, h⟩ := guardX_some h
    obtain ⟨b1, b2, b3⟩ := and3 hb
    injection h with h; subst h
    exact ⟨of_decide_eq_true b1, of_decide_eq_true b2, of_decide_eq_true b3, hk⟩

theorem ixX_sound {e : TypeId} {x i d : DV} {σ : Objs} (h : ixX P e x i σ = some d) {K : DV → Prop} (hk : K d) : ixK P e x i σ K := by
  unfold ixX at h; unfold ixK
  obtain ⟨z, hz, h⟩ := bindX h
  obtain ⟨k, hz'⟩ := intX_some hz
  simp only [hz', isInt]
  obtain ⟨s, hs, h⟩ := bindX h
  refine optK_of hs ?_
  split at h
  · obtain ⟨hb, h⟩ := guardX_some h
    rw [Bool.and_eq_true] at hb
    obtain ⟨po, hpo, h⟩ := bindX h
    obtain ⟨h2, h⟩ := guardX_some h
    injection h with h; subst h
    exact ⟨of_decide_eq_true hb.1, of_decide_eq_true hb.2, optK_of hpo (bif_of h2 hk)⟩
  · obtain ⟨hb, h⟩ := guardX_some h
    rw [Bool.and_eq_true] at hb
    obtain ⟨ds, hds, h⟩ := bindX h
    obtain ⟨h2, h⟩ := guardX_some h
    injection h with h; subst h
    exact ⟨of_decide_eq_true hb.1, of_decide_eq_true hb.2, optK_of hds (bif_of h2 hk)⟩
  · cases h
theorem ixaX_sound {m : Nat} {e : TypeId} {x i d : DV} {σ : Objs} (h : ixaX P m e x i σ = some d) {K : DV → Prop} (hk : K d) : ixaK P m e x i σ K := by
  unfold ixaX at h; unfold ixaK
  obtain ⟨z, hz, h⟩ := bindX h
  obtain ⟨k, hz'⟩ := intX_some hz
  simp only [hz', isInt]
  obtain ⟨s, hs, h⟩ := bindX h
  obtain ⟨hb, h⟩ := guardX_some h
  rw [Bool.and_eq_true] at hb
  refine optK_of hs ⟨of_decide_eq_true hb.1, of_decide_eq_true hb.2, ?_⟩
  split at h
  · obtain ⟨po, hpo, h⟩ := bindX h
    injection h with h; subst h
    exact optK_of hpo hk
  · injection h with h; subst h; exact hk
  · cases h

theorem binX_sound {op : BinOp} {x y d : DV} {o : Oper} {env : Env} (h : binX op x y (purX P o env) = some d) {K : DV → Prop} (hk : K d) : binK op x y K (purK P o env K) := by
  unfold binX at h; unfold binK
  split at h
  · obtain ⟨hb, h⟩ := guardX_some h
    rw [Bool.and_eq_true] at hb
    injection h with h; subst h
    exact ⟨of_decide_eq_true hb.1, by simpa using hb.2, hk⟩
  · obtain ⟨hb, h⟩ := guardX_some h
    rw [Bool.and_eq_true] at hb
    injection h with h; subst h
    exact ⟨of_decide_eq_true hb.1, by simpa using hb.2, hk⟩
  · obtain ⟨hb, h⟩ := guardX_some h
    injection h with h; subst h
    exact ⟨of_decide_eq_true hb, hk⟩
  · obtain ⟨hb, h⟩ := guardX_some h
    injection h with h; subst h
    exact ⟨of_decide_eq_true hb, hk⟩
  · obtain ⟨hb, h⟩ := guardX_some h
    injection h with h; subst h
    exact ⟨of_decide_eq_true hb, hk⟩
  · obtain ⟨hb, h⟩ := guardX_some h
    obtain ⟨r, hr, h⟩ := bindX h
    injection h with h; subst h
    exact ⟨of_decide_eq_true hb, optK_of hr hk⟩
  · obtain ⟨hb, h⟩ := guardX_some h
    obtain ⟨r, hr, h⟩ := bindX h
    injection h with h; subst h
    exact ⟨of_decide_eq_true hb, optK_of hr hk⟩
  · obtain ⟨hb, h⟩ := guardX_some h
    obtain ⟨r, hr, h⟩ := bindX h
    injection h with h; subst h
    exact ⟨of_decide_eq_true hb, optK_of hr hk⟩
  · obtain ⟨hb, h⟩ := guardX_some h
    obtain ⟨r, hr, h⟩ := bindX h
    injection h with h; subst h
    exact ⟨of_decide_eq_true hb, optK_of hr hk⟩
  · rename_i g1 g2 g3 g4 g5 g6 g7 g8 g9
    split
    · exact (g1 _ _ _ _ rfl rfl rfl).elim
    · exact (g2 _ _ _ _ rfl rfl rfl).elim
    · exact (g3 _ _ _ _ rfl rfl rfl).elim
    · exact (g4 _ _ _ _ rfl rfl rfl).elim
    · exact (g5 _ _ rfl rfl rfl).elim
    · exact (g6 _ _ _ _ rfl rfl rfl).elim
    · exact (g7 _ _ _ _ rfl rfl rfl).elim
    · exact (g8 _ _ _ _ rfl rfl rfl).elim
    · exact (g9 _ _ _ _ rfl rfl rfl).elim
    · exact purX_sound h hk

theorem eqTopX_sound {σ : Objs} {t : TypeId} {x y d : DV} {f : Bool → DV} {o : Oper} {env : Env} (h : eqTopX P σ t x y f (purX P o env) = some d) {K : DV → Prop} (hk : K d) : eqTop P σ t x y (fun r => K (f r)) (purK P o env K) := by
  unfold eqTopX at h; unfold eqTop
  split at h
  · obtain ⟨hb, h⟩ := guardX_some h
    obtain ⟨r, hr, h⟩ := bindX h
    injection h with h; subst h
    exact ⟨EqOk.mk hb, optK_of hr hk⟩
  · rename_i hne
    split at h
    · rename_i r hr
      obtain ⟨hb, h⟩ := guardX_some h
      injection h with h; subst h
      split
      · exact (hne _ _ rfl rfl).elim
      · rw [hr]; exact bif_of hb hk
    · rename_i hr
      split
      · exact (hne _ _ rfl rfl).elim
      · rw [hr]; exact purX_sound h hk
theorem cmpX_sound {σ : Objs} {op : BinOp} {t : TypeId} {x y d : DV} {o : Oper} {env : Env} (h : cmpX P σ op t x y (purX P o env) = some d) {K : DV → Prop} (hk : K d) : cmpK P σ op t x y K (purK P o env K) := by
  unfold cmpX at h; unfold cmpK
  split at h
  · exact eqTopX_sound h hk
  · exact eqTopX_sound h hk
  · rename_i n1 n2
    split
    · exact (n1 rfl).elim
    · exact (n2 rfl).elim
    · exact binX_sound h hk
theorem cvtX_sound {s t : TypeId} {d r : DV} {σ : Objs} {o : Oper} {env : Env} (h : cvtX P s t d σ (purX P o env) = some r) {K : DV → Prop} (hk : K r) : cvtK P s t d σ K (purK P o env K) := by
  unfold cvtX at h; unfold cvtK
  cases hb : isSl d with
  | false =>
    rw [hb] at h
    simp only [cond_false] at h ⊢
    split at h
    · rename_i r' hr0
      injection h with h; subst h
      simp only [hr0]; exact hk
    · rename_i hr0
      simp only [hr0]; exact purX_sound h hk
  | true =>
    rw [hb] at h
    simp only [cond_true] at h ⊢
    split at h
    · rename_i e h1 h2
      split at h
      · rename_i h3
        obtain ⟨els, h4, h⟩ := bindX h
        obtain ⟨bs, h5, h⟩ := bindX h
        injection h with h; subst h
        simp only [h1, h2, h3]
        exact optK_of h4 (optK_of h5 hk)
      · cases h
    · cases h
theorem assertX_sound {t : TypeId} {ok : Bool} {d r : DV} (h : assertX P t ok d = some r) {K : DV → Prop} (hk : K r) : assertK P t ok d K := by
  unfold assertX at h; unfold assertK
  split at h
  · cases h
  · rename_i u t' v hne hu
    rw [hu]
    have go : (bif Nat.beq t' t then K (bif ok then .tup [v, .bool true] else v) else (bif ok then optK ((P.info? t).bind (·.zero)) fun z => K (.tup [ofV z, .bool false]) else False)) := by
      cases hb : Nat.beq t' t with
      | true =>
        rw [hb] at h
        injection h with h; subst h
        exact hk
      | false =>
        rw [hb] at h
        simp only [cond_false] at h ⊢
        cases ok with
        | false => cases h
        | true =>
          obtain ⟨z, hz, h⟩ := bindX h
          injection h with h; subst h
          exact optK_of (K := fun z => K (.tup [ofV z, .bool false])) hz hk
    cases u <;> first | exact go | exact absurd rfl (hne _)
  · rename_i u hne hu
    rw [hu]
    have go : (bif ok then optK ((P.info? t).bind (·.zero)) fun z => K (.tup [ofV z, .bool false]) else False) := by
      cases ok with
      | false => cases h
      | true =>
        obtain ⟨z, hz, h⟩ := bindX h
        injection h with h; subst h
        exact optK_of (K := fun z => K (.tup [ofV z, .bool false])) hz hk
    cases u <;> first | exact go | exact absurd rfl (hne _)
  · cases h
theorem capB_sound {n b : Nat} (h : capB n b = true) : capOk n b := by
  unfold capB at h
  rw [Bool.and_eq_true] at h
  exact ⟨Nat.le_of_ble_eq_true h.1, Nat.le_of_ble_eq_true h.2⟩
theorem copyX_sound {e : TypeId} {x y d : DV} {σ σ' : Objs} (h : copyX P e x y σ = some (d, σ')) {K : DV → Objs → Prop} (hk : K d σ') : copyK P e x y σ K := by
  unfold copyX at h
  unfold copyK
  split at h
  · simp only
    obtain ⟨po, hpo, h⟩ := bindX h
    obtain ⟨h1, h⟩ := guardX_some h
    refine optK_of hpo ?_
    refine bif_of h1 ?_
    generalize hq : Nat.beq (Nat.min _ _) 0 = q at h ⊢
    cases q with
    | true =>
      simp only [cond_true] at h ⊢
      obtain ⟨e1, e2⟩ := inj2 h; subst e1; subst e2; exact hk
    | false =>
      simp only [cond_false] at h ⊢
      obtain ⟨h2, h⟩ := guardX_some h
      obtain ⟨e1, e2⟩ := inj2 h; subst e1; subst e2
      exact bif_of h2 hk
  · cases h
theorem appX_sound {e : TypeId} {s x d : DV} {σ σ' : Objs} (h : appX P e s x σ = some (d, σ')) {K : DV → Objs → Prop} (hk : K d σ') : appK P e s x σ K := by
  unfold appX at h
  refine appK.go ?_
  unfold appR
  obtain ⟨i, hi, h⟩ := bindX h
  obtain ⟨h1, h⟩ := guardX_some h
  obtain ⟨news, hn, h⟩ := bindX h
  obtain ⟨h2, h⟩ := guardX_some h
  refine optK_of hi (bif_of h1 (optK_of hn ⟨fun ds hds => Nat.eq_of_beq_eq_true (List.all_eq_true.1 h2 ds hds), ?_⟩))
  split at h
  · obtain ⟨h3, h⟩ := guardX_some h
    obtain ⟨e1, e2⟩ := inj2 h; subst e1; subst e2
    exact ⟨capB_sound h3, hk⟩
  · obtain ⟨po, hpo, h⟩ := bindX h
    obtain ⟨h3, h⟩ := guardX_some h
    obtain ⟨e1, e2⟩ := inj2 h; subst e1; subst e2
    rw [Bool.and_eq_true, Bool.and_eq_true, Bool.and_eq_true] at h3
    exact optK_of hpo (bif_of (by rw [Bool.and_eq_true]; exact h3.1.1) ⟨Nat.eq_of_beq_eq_true h3.1.2, capB_sound h3.2, hk⟩)
  · cases h

theorem lookX_sound {xt : TypeId} {x i d : DV} {ok : Bool} {σ : Objs} (h : lookX P xt x i ok σ = some d) {K : DV → Prop} (hk : K d) : lookK P xt x i ok σ K := by
  unfold lookX at h; unfold lookK
  split at h
  case h_2 => cases h
  rename_i kt et hu
  obtain ⟨hb, h⟩ := guardX_some h
  obtain ⟨es, hes, h⟩ := bindX h
  obtain ⟨r, hr, h⟩ := bindX h
  simp only [hu, hb, cond_true, hes, optK, hr]
  cases r with
  | none =>
    obtain ⟨z, hz, h⟩ := bindX h
    injection h with h; subst h
    simp only [hz]; exact hk
  | some y => simp only at h ⊢; injection h with h; subst h; exact hk
theorem updX_sound {t : TypeId} {m k x : DV} {σ σ' : Objs} (h : updX P t m k x σ = some σ') {K : DV → Objs → Prop} (hk : K .junk σ') : updK P t m k x σ K := by
  unfold updX at h; unfold updK
  split at h
  case h_2 => cases h
  rename_i kt et id hu
  obtain ⟨hb, h⟩ := guardX_some h
  obtain ⟨es, hes, h⟩ := bindX h
  obtain ⟨r, hr, h⟩ := bindX h
  simp only [hu, hb, cond_true, hes, optK, hr]
  cases r with
  | none => simp only at h ⊢; injection h with h; subst h; exact hk
  | some y => simp only at h ⊢; injection h with h; subst h; exact hk
theorem makeMX_sound {t : TypeId} {r : Option DV} {σ σ' : Objs} {d : DV} (h : makeMX P t r σ = some (d, σ')) {K : DV → Objs → Prop} (hk : K d σ') : makeMK P t r σ K := by
  unfold makeMX at h; unfold makeMK
  split at h
  · obtain ⟨e1, e2⟩ := inj2 h; subst e1; subst e2; exact hk
  · split at h
    · rename_i hu; simp only [hu]; obtain ⟨e1, e2⟩ := inj2 h; subst e1; subst e2; exact hk
    · cases h
theorem rangeMX_sound {t : TypeId} {x : DV} {σ σ' : Objs} {d : DV} (h : rangeMX P t x σ = some (d, σ')) {K : DV → Objs → Prop} (hk : K d σ') : rangeMK P t x σ K := by
  unfold rangeMX at h; unfold rangeMK
  split at h
  · rename_i hu; simp only [hu]; obtain ⟨e1, e2⟩ := inj2 h; subst e1; subst e2; exact hk
  · rename_i hu
    obtain ⟨es, hes, h⟩ := bindX h
    simp only [hu]; obtain ⟨e1, e2⟩ := inj2 h; subst e1; subst e2; exact optK_of hes hk
  · rename_i hu; simp only [hu]; obtain ⟨e1, e2⟩ := inj2 h; subst e1; subst e2; exact hk
  · cases h
theorem entryMX_sound {it d : DV} {σ : Objs} (h : entryMX it σ = some d) {K : DV → Prop} (hk : K d) : entryMK it σ K := by
  unfold entryMX at h; unfold entryMK
  obtain ⟨⟨id, po, ds⟩, hx, h⟩ := bindX h
  refine optK_of hx ?_
  simp only at h ⊢
  split at h
  case h_2 => cases h
  obtain ⟨hb, h⟩ := guardX_some h
  obtain ⟨es, hes, h⟩ := bindX h
  obtain ⟨hl, h⟩ := guardX_some h
  refine bif_of hb (optK_of hes ⟨of_decide_eq_true hl, ?_⟩)
  split at h
  · rename_i z hz
    obtain ⟨h0, h⟩ := guardX_some h
    obtain ⟨k, hkk, h⟩ := bindX h
    obtain ⟨v, hv, h⟩ := bindX h
    injection h with h; subst h
    simp only [hz]
    exact ⟨of_decide_eq_true h0, optK_of hkk (optK_of hv hk)⟩
  · cases h
theorem mapX_mem {α β : Type} {f : α → Option β} : ∀ {as : List α} {bs : List β}, mapX f as = some bs → ∀ a ∈ as, ∃ b, f a = some b ∧ b ∈ bs
  | [], bs, h, a, ha => by cases ha
  | x :: as, bs, h, a, ha => by
    simp only [mapX] at h
    obtain ⟨b, hb, h⟩ := bindX h
    obtain ⟨bs', hbs, h⟩ := bindX h
    injection h with h; subst h
    rcases List.mem_cons.1 ha with rfl | ha
    · exact ⟨b, hb, List.mem_cons_self ..⟩
    · obtain ⟨c, h1, h2⟩ := mapX_mem hbs a ha
      exact ⟨c, h1, List.mem_cons_of_mem _ h2⟩
theorem nextMX_sound {it : DV} {isS : Bool} {σ : Objs} {l : List (DV × Objs)} (h : nextMX it isS σ = some l) {K : DV → Objs → Prop} (hk : ∀ r ∈ l, K r.1 r.2) : nextMK it isS σ K := by
  unfold nextMX at h; unfold nextMK
  obtain ⟨⟨id, po, ds⟩, hx, h⟩ := bindX h
  refine optK_of hx ?_
  simp only at h ⊢
  split at h
  · rename_i s kk pos _
    obtain ⟨hb, h⟩ := guardX_some h
    refine bif_of hb ?_
    cases hc : (decide (0 ≤ pos) && decide (pos < (s.size : Int))) with
    | true => rw [hc] at h; simp only [cond_true] at h ⊢; injection h with h; subst h; exact hk _ (List.mem_cons_self ..)
    | false =>
      rw [hc] at h
      simp only [cond_false] at h ⊢
      cases hc2 : decide (0 ≤ pos) with
      | true => rw [hc2] at h; simp only [cond_true] at h ⊢; injection h with h; subst h; exact hk _ (List.mem_cons_self ..)
      | false => rw [hc2] at h; cases h
  · obtain ⟨hb, h⟩ := guardX_some h
    injection h with h; subst h
    exact bif_of hb (hk _ (List.mem_cons_self ..))
  · rename_i m k1 since k2 last seen _
    obtain ⟨hb, h⟩ := guardX_some h
    obtain ⟨es, hes, h⟩ := bindX h
    obtain ⟨hl, h⟩ := guardX_some h
    rw [Bool.and_eq_true] at hl
    refine bif_of hb (optK_of hes ⟨of_decide_eq_true hl.1, of_decide_eq_true hl.2, ?_⟩)
    have hmem : ∀ i, i ∈ (List.range (es.length / 2)).filter (notSeen seen) ↔ i < es.length / 2 ∧ notSeen seen i = true := fun i => by simp [List.mem_filter]
    split at h
    · rename_i hf
      injection h with h; subst h
      refine ⟨fun i k v hns hk1 hk2 => ?_, fun _ => hk _ (List.mem_cons_self ..)⟩
      have hlt := (List.getElem?_eq_some_iff.1 hk2).1
      have := (hmem i).2 ⟨by omega, hns⟩
      rw [hf] at this; cases this
    · rename_i j js hf
      refine ⟨fun i k v hns hk1 hk2 => ?_, fun hall => ?_⟩
      · have hlt := (List.getElem?_eq_some_iff.1 hk2).1
        have hi := (hmem i).2 ⟨by omega, hns⟩
        rw [hf] at hi
        obtain ⟨r, hr, hrl⟩ := mapX_mem h i hi
        rw [hk1, hk2] at hr
        simp only [Option.bind_some, Option.some.injEq] at hr
        have := hk r hrl
        rw [← hr] at this; exact this
      · exfalso
        obtain ⟨h1, h2⟩ := (hmem j).1 (by rw [hf]; exact List.mem_cons_self ..)
        rw [hall j (by omega)] at h2; cases h2
  · cases h
theorem plainX_sound {α : Type} {det : Det} {x : Option α} {y : α} (h : plainX det x = some y) : det = none ∧ x = some y := by
  unfold plainX at h
  split at h
  · exact ⟨rfl, h⟩
  · cases h
theorem sl3X_sound {det : Det} {e : TypeId} {x hi mx d : DV} {lo : Option DV} {σ σ' : Objs} (h : sl3X P det e x lo hi mx σ = some (d, σ')) {K : DV → Objs → Prop} (hk : K d σ') : sl3K P det e x lo hi mx σ K := by
  unfold sl3X at h; unfold sl3K
  obtain ⟨zu, hu, h⟩ := bindX h
  obtain ⟨ku, hu⟩ := intX_some hu
  obtain ⟨zm, hm, h⟩ := bindX h
  obtain ⟨km, hm⟩ := intX_some hm
  obtain ⟨zl, hl, h⟩ := bindX h
  obtain ⟨hb, h⟩ := guardX_some h
  obtain ⟨b1, b2, b3⟩ := and3 hb
  have low : ∀ K' : Int → Prop, K' zl → lowK lo K' := by
    intro K' hK'
    unfold lowX at hl; unfold lowK
    split at hl
    · injection hl with hl; rw [hl]; exact hK'
    · obtain ⟨k, hd⟩ := intX_some hl
      simp only [hd, isInt]; exact hK'
  simp only [hu, hm, isInt]
  refine low _ ⟨of_decide_eq_true b1, of_decide_eq_true b2, of_decide_eq_true b3, ?_⟩
  unfold sl3M
  split at h
  · obtain ⟨hm0, h⟩ := guardX_some h
    obtain ⟨s, hs, h⟩ := bindX h
    obtain ⟨e1, e2⟩ := inj2 h; subst e1; subst e2
    exact ⟨of_decide_eq_true hm0, optK_of hs hk⟩
  · obtain ⟨s, hs, h⟩ := bindX h
    obtain ⟨hg, h⟩ := guardX_some h
    rw [Bool.and_eq_true] at hg
    obtain ⟨e1, e2⟩ := inj2 h; subst e1; subst e2
    exact optK_of hs ⟨fun ds hds => Nat.eq_of_beq_eq_true (List.all_eq_true.1 hg.1 ds hds), of_decide_eq_true hg.2, hk⟩
  · obtain ⟨hd, h⟩ := plainX_sound h
    subst hd
    obtain ⟨s, hs, h⟩ := bindX h
    obtain ⟨po, hpo, h⟩ := bindX h
    obtain ⟨hg, h⟩ := guardX_some h
    cases hcl : clipB po _ _ _ _ _ with
    | true =>
      rw [hcl] at h
      obtain ⟨e1, e2⟩ := inj2 h; subst e1; subst e2
      exact optK_of hs (optK_of hpo (bif_of hg (bif_yes hcl hk)))
    | false =>
    rw [hcl] at h
    simp only [cond_false] at h
    obtain ⟨hg2, h⟩ := guardX_some h
    rw [Bool.and_eq_true, Bool.and_eq_true] at hg2
    obtain ⟨e1, e2⟩ := inj2 h; subst e1; subst e2
    refine optK_of hs (optK_of hpo (bif_of hg (bif_no hcl ⟨of_decide_eq_true hg2.1, fun ds hds d hd => blw0_sound _ _ (List.all_eq_true.1 (List.all_eq_true.1 hg2.2.1 ds hds) d hd), fun ds hds => Nat.eq_of_beq_eq_true (List.all_eq_true.1 hg2.2.2 ds hds), hk⟩)))
  · cases h
theorem vopX_sound {call : CallX} (hc : CallOK P call) {det : Det} {o : Oper} {env : Env} {σ σ' : Objs} {d : DV} (h : vopX P call det o env σ = some (d, σ')) {K : DV → Objs → Prop} (hk : K d σ') : vop P det o env σ K := by
  have one : ∀ {x : Option DV}, (x.bind fun d => some (d, σ)) = some (d, σ') → x = some d ∧ K d σ := by
    intro x e
    obtain ⟨y, hy, e⟩ := bindX e
    obtain ⟨e1, e2⟩ := inj2 e; subst e1; subst e2
    exact ⟨hy, hk⟩
  unfold vopX at h; unfold vop
  split at h
  all_goals try (rename_i ho; simp only [ho])
  · obtain ⟨e1, e2⟩ := inj2 h; subst e1; subst e2; exact hk
  · obtain ⟨e1, e2⟩ := inj2 h; subst e1; subst e2; exact hk
  · split at h
    · rename_i v hv
      obtain ⟨e1, e2⟩ := inj2 h; subst e1; subst e2
      simp only [hv]
      cases v with
      | true => exact ⟨fun _ => hk, fun e => by cases e⟩
      | false => exact ⟨(fun e => by cases e), fun _ => hk⟩
    · cases h
  · obtain ⟨cs, hz, h⟩ := bindX h
    obtain ⟨hb, h⟩ := guardX_some h
    obtain ⟨e1, e2⟩ := inj2 h; subst e1; subst e2
    exact optK_of hz (bif_of hb hk)
  · obtain ⟨hb, h⟩ := guardX_some h
    obtain ⟨e1, e2⟩ := inj2 h; subst e1; subst e2
    exact bif_of hb hk
  · obtain ⟨hb, h⟩ := guardX_some h
    obtain ⟨cs, hz, h⟩ := bindX h
    obtain ⟨e1, e2⟩ := inj2 h; subst e1; subst e2
    exact bif_of hb (optK_of hz hk)
  · split at h
    · rename_i e hu
      obtain ⟨i, hi, h⟩ := bindX h
      obtain ⟨z, hz, h⟩ := bindX h
      obtain ⟨hb, h⟩ := guardX_some h
      obtain ⟨flat, hf, h⟩ := bindX h
      obtain ⟨hb2, h⟩ := guardX_some h
      simp only [hu]
      refine optK_of hi (optK_of hz (bif_of hb (optK_of hf (bif_of hb2 ?_))))
      cases hal : asList det o.dst with
      | false =>
        rw [hal] at h
        obtain ⟨e1, e2⟩ := inj2 h; subst e1; subst e2
        exact hk
      | true =>
        rw [hal] at h
        obtain ⟨hpl, h⟩ := guardX_some h
        obtain ⟨e1, e2⟩ := inj2 h; subst e1; subst e2
        exact bif_of hpl hk
    · cases h
  · split at h
    · rename_i hev
      obtain ⟨po, hpo, h⟩ := bindX h
      obtain ⟨ds, hds, h⟩ := bindX h
      obtain ⟨h, hk⟩ := one h
      simp only [hev]
      exact optK_of hpo (optK_of hds (partD_ld h hk))
    · rename_i hev
      obtain ⟨h, hk⟩ := one h
      simp only [hev]
      exact partD_ld h hk
    · cases h
  · split at h
    · rename_i hev hs
      obtain ⟨po, hpo, h⟩ := bindX h
      obtain ⟨ds, hds, h⟩ := bindX h
      obtain ⟨hb, h⟩ := guardX_some h
      obtain ⟨e1, e2⟩ := inj2 h; subst e1; subst e2
      simp only [hev, hs]
      exact optK_of hpo (optK_of hds (bif_of hb hk))
    · cases h
  · split at h
    · rename_i hev hf
      obtain ⟨po, hpo, h⟩ := bindX h
      obtain ⟨e1, e2⟩ := inj2 h; subst e1; subst e2
      simp only [hev, hf]
      exact optK_of hpo hk
    · rename_i hev hf
      obtain ⟨e1, e2⟩ := inj2 h; subst e1; subst e2
      simp only [hev, hf]
      exact hk
    · cases h
  · split at h
    · rename_i hev hf
      obtain ⟨h, hk⟩ := one h
      simp only [hev, hf]
      exact partD_ld h hk
    · cases h
  · split at h
    · rename_i hu
      obtain ⟨h, hk⟩ := one h
      simp only [hu]
      exact ixX_sound h hk
    · rename_i hu
      obtain ⟨h, hk⟩ := one h
      simp only [hu]
      exact ixaX_sound h hk
    · cases h
  · split at h
    · rename_i hu hev
      obtain ⟨z, hz, h⟩ := bindX h
      obtain ⟨k, hz⟩ := intX_some hz
      obtain ⟨hb, h⟩ := guardX_some h
      obtain ⟨b, hb2, h⟩ := bindX h
      obtain ⟨e1, e2⟩ := inj2 h; subst e1; subst e2
      simp only [hu, hev, hz, isInt]
      exact ⟨of_decide_eq_true hb, optK_of hb2 hk⟩
    · rename_i hu hev
      obtain ⟨z, hz, h⟩ := bindX h
      obtain ⟨k, hz⟩ := intX_some hz
      obtain ⟨s, hs, h⟩ := bindX h
      obtain ⟨hb, h⟩ := guardX_some h
      rw [Bool.and_eq_true] at hb
      obtain ⟨h, hk⟩ := one h
      simp only [hu, hev, hz, isInt]
      exact optK_of hs ⟨of_decide_eq_true hb.1, of_decide_eq_true hb.2, partD_ld h hk⟩
    · cases h
  · split at h
    · rename_i hu hev
      obtain ⟨b, hb, h⟩ := bindX h
      obtain ⟨e1, e2⟩ := inj2 h; subst e1; subst e2
      simp only [hu, hev]
      exact bndX_sound hb hk
    · rename_i hu hev
      obtain ⟨s, hs, h⟩ := bindX h
      obtain ⟨b, hb, h⟩ := bindX h
      obtain ⟨e1, e2⟩ := inj2 h; subst e1; subst e2
      simp only [hu, hev]
      exact optK_of hs (bndX_sound hb hk)
    · rename_i hu hev
      obtain ⟨s, hs, h⟩ := bindX h
      obtain ⟨hb2, h⟩ := guardX_some h
      obtain ⟨b, hb, h⟩ := bindX h
      obtain ⟨e1, e2⟩ := inj2 h; subst e1; subst e2
      simp only [hu, hev]
      exact optK_of hs ⟨fun ds hds => Nat.eq_of_beq_eq_true (List.all_eq_true.1 hb2 ds hds), bndX_sound hb hk⟩
    · rename_i hu hev
      obtain ⟨s, hs, h⟩ := bindX h
      obtain ⟨po, hpo, h⟩ := bindX h
      obtain ⟨hb2, h⟩ := guardX_some h
      obtain ⟨b, hb, h⟩ := bindX h
      obtain ⟨e1, e2⟩ := inj2 h; subst e1; subst e2
      simp only [hu, hev]
      exact optK_of hs (optK_of hpo (bif_of hb2 (bndX_sound hb hk)))
    · rename_i hu
      split at h
      case h_2 => cases h
      simp only [hu]
      exact sl3X_sound h hk
    · cases h
  · split at h
    · rename_i hu
      obtain ⟨i, hi, h⟩ := bindX h
      obtain ⟨z, hz, h⟩ := bindX h
      obtain ⟨l, hl, h⟩ := bindX h
      obtain ⟨kl, hl⟩ := intX_some hl
      obtain ⟨c, hcc, h⟩ := bindX h
      obtain ⟨kc, hcc⟩ := intX_some hcc
      obtain ⟨hb, h⟩ := guardX_some h
      obtain ⟨e1, e2⟩ := inj2 h; subst e1; subst e2
      simp only [Bool.and_eq_true, decide_eq_true_eq, Bool.not_eq_true', decide_eq_false_iff_not] at hb
      obtain ⟨⟨⟨⟨⟨⟨g1, g2⟩, g3⟩, g4⟩, g5⟩, g6⟩, g7⟩ := hb
      simp only [hu, hl, hcc, isInt]
      exact optK_of hi (optK_of hz ⟨g1, g2, g3, g4, g5, g6, g7, hk⟩)
    · cases h
  · obtain ⟨h, hk⟩ := one h
    exact cmpX_sound h hk
  · obtain ⟨h, hk⟩ := one h
    exact cvtX_sound h hk
  · split at h
    · cases h
    · rename_i u hne hu
      obtain ⟨e1, e2⟩ := inj2 h; subst e1; subst e2
      simp only [hu]
      exact hk
    · cases h
  · split at h
    · rename_i hev
      obtain ⟨po, hpo, h⟩ := bindX h
      obtain ⟨e1, e2⟩ := inj2 h; subst e1; subst e2
      simp only [hev]
      exact optK_of hpo hk
    · rename_i hev
      obtain ⟨e1, e2⟩ := inj2 h; subst e1; subst e2
      simp only [hev]; exact hk
    · rename_i hev
      obtain ⟨e1, e2⟩ := inj2 h; subst e1; subst e2
      simp only [hev]; exact hk
    · rename_i hev
      obtain ⟨e1, e2⟩ := inj2 h; subst e1; subst e2
      simp only [hev]; exact hk
    · cases h
  · obtain ⟨h, hk⟩ := one h
    exact assertX_sound h hk
  · obtain ⟨e1, e2⟩ := inj2 h; subst e1; subst e2; exact hk
  · split at h
    · rename_i hev
      obtain ⟨h, hk⟩ := one h
      simp only [hev]
      exact optK_of h hk
    · cases h
  · obtain ⟨h, hk⟩ := one h
    exact lookX_sound h hk
  · obtain ⟨hd, h⟩ := plainX_sound h
    obtain ⟨s, hs, h⟩ := bindX h
    obtain ⟨e1, e2⟩ := inj2 h; subst e1; subst e2; subst hd
    exact updX_sound hs hk
  · obtain ⟨hd, h⟩ := plainX_sound h
    obtain ⟨s, hs, h⟩ := bindX h
    obtain ⟨e1, e2⟩ := inj2 h; subst e1; subst e2; subst hd
    exact updX_sound hs hk
  · obtain ⟨hd, h⟩ := plainX_sound h
    subst hd
    exact makeMX_sound h hk
  · obtain ⟨hd, h⟩ := plainX_sound h
    subst hd
    exact rangeMX_sound h hk
  · cases h
  · obtain ⟨hd, h⟩ := plainX_sound h
    subst hd
    obtain ⟨h, hk⟩ := one h
    exact entryMX_sound (K := (K · σ)) h hk
  · rename_i c
    split at h
    · rename_i f e0
      simp only [e0]
      exact callDX_sound hc h hk
    · rename_i e0
      simp only [e0]
      split at h
      · rename_i x t ha hty
        split at h
        · rename_i hu hev
          obtain ⟨e1, e2⟩ := inj2 h; subst e1; subst e2
          simp only [ha, hty, hu, hev]; exact hk
        · rename_i hu
          obtain ⟨m, hm, h⟩ := bindX h
          obtain ⟨e1, e2⟩ := inj2 h; subst e1; subst e2
          simp only [ha, hty, hu]
          exact optK_of (K := fun m : Nat => K (.int .i64 m) σ) hm hk
        · rename_i hu
          obtain ⟨es, hes, h⟩ := bindX h
          obtain ⟨e1, e2⟩ := inj2 h; subst e1; subst e2
          simp only [ha, hty, hu]
          exact optK_of (K := fun es : List DV => K (.int .i64 (es.length / 2 : Nat)) σ) hes hk
        · cases h
      · cases h
    · rename_i e0
      simp only [e0]
      split at h
      · rename_i s x t u ha hty
        split at h
        · rename_i hu
          obtain ⟨hb, h⟩ := guardX_some h
          simp only [ha, hty, hu]
          exact bif_of hb (appX_sound h hk)
        · cases h
      · cases h
    · rename_i e0
      simp only [e0]
      split at h
      · rename_i x y t u ha hty
        split at h
        · rename_i hu
          obtain ⟨hd, h⟩ := plainX_sound h
          subst hd
          simp only [ha, hty, hu, plainDet]
          exact copyX_sound h hk
        · cases h
      · cases h
    · rename_i e0
      simp only [e0]
      split at h
      · rename_i ha
        obtain ⟨e1, e2⟩ := inj2 h; subst e1; subst e2
        simp only [ha]; exact hk
      · cases h
    · rename_i e0
      simp only [e0]
      split at h
      · rename_i ha
        obtain ⟨e1, e2⟩ := inj2 h; subst e1; subst e2
        simp only [ha]; exact hk
      · cases h
    · cases h
    · rename_i n1 n2 n3 n4 n5 n5' n6
      obtain ⟨x, hx, h⟩ := bindX h
      have go : optK (calleeD P env c) fun x => callD P det o.dst x.1 x.2 σ K := optK_of hx (callDX_sound hc h hk)
      split
      · rename_i f e; exact (n1 f e).elim
      · rename_i e; exact (n6 _ e).elim
      · rename_i e; exact (n6 _ e).elim
      · rename_i e; exact (n6 _ e).elim
      · rename_i e; exact (n6 _ e).elim
      · rename_i e; exact (n6 _ e).elim
      · rename_i e; exact (n6 _ e).elim
      · exact go
  · obtain ⟨h, hk⟩ := one h
    have hp := purX_sound (K := (K · σ)) h hk
    exact hp

theorem putX_sound {n : Nat} {dst : Option Tmp} {v : DV} {st st' : PSt} (h : putX n dst v st = some st') {K : PSt → Prop} (hk : K st') : putK n dst v st K := by
  unfold putX at h; rw [putK_eq]
  split at h
  · injection h with h; subst h; exact hk
  · obtain ⟨hb, h⟩ := guardX_some h
    injection h with h; subst h
    exact bif_of hb hk
theorem allX_mem {α β : Type} {f : α → Option (List β)} : ∀ {as : List α} {l : List β}, allX f as = some l → ∀ a ∈ as, ∃ bs, f a = some bs ∧ ∀ b ∈ bs, b ∈ l
  | [], l, h, a, ha => by cases ha
  | [x], l, h, a, ha => by
    simp only [allX] at h
    have : a = x := by simpa using ha
    subst this; exact ⟨l, h, fun b hb => hb⟩
  | x :: y :: as, l, h, a, ha => by
    simp only [allX] at h
    obtain ⟨bs, hbs, h⟩ := bindX h
    obtain ⟨cs, hcs, h⟩ := bindX h
    injection h with h; subst h
    rcases List.mem_cons.1 ha with rfl | ha
    · exact ⟨bs, hbs, fun b hb => List.mem_append_left _ hb⟩
    · obtain ⟨ds, h1, h2⟩ := allX_mem (as := y :: as) hcs a ha
      exact ⟨ds, h1, fun b hb => List.mem_append_right _ (h2 b hb)⟩
theorem bindL_some {α β : Type} {x : Option (List α)} {f : α → Option (List β)} {l : List β} (h : bindL x f = some l) : ∃ as, x = some as ∧ ∀ a ∈ as, ∃ bs, f a = some bs ∧ ∀ b ∈ bs, b ∈ l := by
  obtain ⟨as, has, h⟩ := bindX h
  exact ⟨as, has, allX_mem h⟩
theorem popX_sound {call : CallX} (hc : CallOK P call) {n : Nat} {det : Det} {o : Oper} {st : PSt} {l : List PSt} (h : popX P call n det o st = some l) {K : PSt → Prop} (hk : ∀ s ∈ l, K s) : pop P n det o st K := by
  unfold popX at h
  cases hb : nilB P det o st.env st.σ with
  | true =>
    rw [hb] at h
    simp only [cond_true] at h
    obtain ⟨a, ha, h⟩ := bindX h
    obtain ⟨b, hb2, h⟩ := bindX h
    injection h with h; subst h
    rw [pop_both hb]
    exact ⟨putX_sound ha (hk a (by simp)), putX_sound hb2 (hk b (by simp))⟩
  | false =>
    rw [hb] at h
    simp only [cond_false] at h
    rw [pop_eq hb]
    split at h
    · rename_i it isS ho
      obtain ⟨hd, h⟩ := plainX_sound h
      subst hd
      obtain ⟨rs, hrs, h⟩ := bindX h
      have hv : nextMK (ev st.env it) isS st.σ fun d σ' => putK n o.dst d ⟨st.env, σ'⟩ K := nextMX_sound hrs fun r hr => by
        obtain ⟨s, hs, hsl⟩ := mapX_mem h r hr
        exact putX_sound hs (hk s hsl)
      unfold vop
      rw [ho]
      exact hv
    · obtain ⟨⟨d, σ'⟩, hr, h⟩ := bindX h
      obtain ⟨s, hs, h⟩ := bindX h
      injection h with h; subst h
      exact vopX_sound hc hr (putX_sound hs (hk s (by simp)))
theorem popsX_sound {call : CallX} (hc : CallOK P call) {n : Nat} {det : Det} {ops : Array Oper} {K : PSt → Prop} : ∀ (os : List Oper) (G : Kn) (st : PSt) (l : List PSt), popsX P call n det ops os G st = some l → (∀ s ∈ l, K s) → pops P n det ops os G st K
  | [], G, st, l, h, hk => by simp only [popsX] at h; injection h with h; subst h; exact hk _ (by simp)
  | o :: rest, G, st, l, h, hk => by
    have put : ∀ {G' dst v}, ((putX n dst v st).bind fun s => popsX P call n det ops rest G' s) = some l → putK n dst v st fun s => pops P n det ops rest G' s K := by
      intro G' dst v e
      obtain ⟨s, hs, e⟩ := bindX e
      exact putX_sound hs (popsX_sound hc rest _ s l e hk)
    have pop' : ∀ {G'}, (bindL (popX P call n det o st) fun s => popsX P call n det ops rest G' s) = some l → pop P n det o st fun s => pops P n det ops rest G' s K := by
      intro G' e
      obtain ⟨as, has, e⟩ := bindL_some e
      refine popX_sound hc has fun s hs => ?_
      obtain ⟨bs, h1, h2⟩ := e s hs
      exact popsX_sound hc rest _ s bs h1 fun b hb => hk b (h2 b hb)
    unfold popsX at h; rw [pops_eq]
    cases hg : o.guard with
    | none =>
      simp only [hg] at h ⊢
      cases hp : knownPick G o.op with
      | some x => simp only [hp] at h ⊢; exact put h
      | none => simp only [hp] at h ⊢; exact pop' h
    | some jw =>
      obtain ⟨j, want⟩ := jw
      simp only [hg] at h ⊢
      cases ht : (ops[j]?).bind (·.dst) with
      | none => simp only [ht] at h; cases h
      | some t =>
        simp only [ht] at h ⊢
        cases hl : gl G t with
        | some x =>
          cases x with
          | some b =>
            simp only [hl] at h ⊢
            cases hb : (b == want) with
            | true =>
              simp only [hb, cond_true] at h ⊢
              cases hp : knownPick G o.op with
              | some x => simp only [hp] at h ⊢; exact put h
              | none => simp only [hp] at h ⊢; exact pop' h
            | false => simp only [hb, cond_false] at h ⊢; exact put h
          | none => simp only [hl] at h ⊢; exact put h
        | none =>
          simp only [hl] at h ⊢
          split at h
          · rename_i b hb
            simp only [hb]
            cases hw : (b == want) with
            | true =>
              have hw' : b = want := by simpa using hw
              simp only [hw, cond_true] at h
              refine ⟨fun _ => ?_, fun e => ?_⟩
              · cases hp : knownPick ((t, some (some want)) :: G) o.op with
                | some x => simp only [hp] at h ⊢; exact put h
                | none => simp only [hp] at h ⊢; exact pop' h
              · rw [hw'] at e; cases want <;> cases e
            | false =>
              have hw' : b = !want := by cases b <;> cases want <;> simp_all
              simp only [hw, cond_false] at h
              exact ⟨fun e => (by rw [hw'] at e; cases want <;> cases e), fun _ => put h⟩
          · cases h

theorem loopX_sound {F : PSt → (Exit → PSt → Prop) → Prop} {G : PSt → Option (List (Exit × PSt))} {k : Nat} (hG : ∀ st l (K : Exit → PSt → Prop), G st = some l → (∀ r ∈ l, K r.1 r.2) → F st K) {K : Exit → PSt → Prop} :
    ∀ (m : Nat) (st : PSt) (l : List (Exit × PSt)), loopX G m st = some l → (∀ r ∈ l, K r.1 r.2) → loopK k F st K := by
  intro m st l h hk
  unfold loopK
  refine ⟨fun m st => ∃ l, loopX G m st = some l ∧ ∀ r ∈ l, K r.1 r.2, m, st, .refl st, ⟨l, h, hk⟩, ?_⟩
  rintro m st ⟨l, h, hk⟩
  cases m with
  | zero => cases h
  | succ m =>
    simp only [loopX] at h
    obtain ⟨as, has, h⟩ := bindL_some h
    refine hG st as _ has fun r hr => ?_
    obtain ⟨bs, h1, h2⟩ := h r hr
    obtain ⟨e1, s1⟩ := r
    cases e1 with
    | normal => exact ⟨m, s1, Nat.lt_succ_self m, .refl s1, bs, h1, fun b hb => hk b (h2 b hb)⟩
    | _ => simp only at h1; injection h1 with h1; subst h1; exact hk _ (h2 _ (by simp))

theorem tryX_some {α β : Type} {f : α → Option β} {b : β} : ∀ {as : List α}, tryX f as = some b → ∃ a, a ∈ as ∧ f a = some b
  | [], h => by cases h
  | a :: as, h => by
    simp only [tryX] at h
    split at h
    · rename_i c hc; injection h with h; subst h; exact ⟨a, List.mem_cons_self .., hc⟩
    · obtain ⟨x, h1, h2⟩ := tryX_some h
      exact ⟨x, List.mem_cons_of_mem _ h1, h2⟩
theorem normX_some {x : Option (List PSt)} {l : List (Exit × PSt)} (h : normX x = some l) : ∃ ss, x = some ss ∧ ∀ s ∈ ss, (Exit.normal, s) ∈ l := by
  obtain ⟨ss, hs, h⟩ := bindX h
  injection h with h; subst h
  exact ⟨ss, hs, fun s hm => List.mem_map.2 ⟨s, hm, rfl⟩⟩
theorem orX_some {α : Type} {x y : Option α} {a : α} (h : orX x y = some a) : x = some a ∨ y = some a := by
  cases x with
  | none => exact .inr h
  | some b => exact .inl h
theorem scaAtX_sound {a : Nat} {ops : Array Oper} {st : PSt} (h : scaAtX a ops st = true) : ScaAt a ops st := by
  intro j o t hj ho ht
  have := List.all_eq_true.1 h j (List.mem_range.2 hj)
  simp only [ho, ht] at this
  exact scaB_sound _ _ this
theorem codeX_sound {call : CallX} (hc : CallOK P call) {n k lf : Nat} : ∀ (c : Code) (st : PSt) (l : List (Exit × PSt)) (K : Exit → PSt → Prop), codeX P call n lf c st = some l → (∀ r ∈ l, K r.1 r.2) → pwp P n k c st K := by
  intro c
  induction c with
  | skip => intro st l K h hk; simp only [codeX] at h; injection h with h; subst h; exact hk _ (List.mem_cons_self ..)
  | region id ops draw =>
    intro st l K h hk
    simp only [codeX] at h
    unfold pwp
    cases draw with
    | true =>
      simp only [cond_true] at h ⊢
      rcases orX_some h with h | h
      · obtain ⟨⟨b, M⟩, _, h⟩ := tryX_some h
        obtain ⟨hb, h⟩ := guardX_some h
        obtain ⟨ss, hs, hh⟩ := normX_some h
        cases b with
        | true => exact drawK.mkA M hb (popsX_sound hc _ _ _ _ hs fun s hm => hk _ (hh s hm))
        | false => exact drawK.mkM M hb (popsX_sound hc _ _ _ _ hs fun s hm => hk _ (hh s hm))
      · obtain ⟨a, _, h⟩ := tryX_some h
        obtain ⟨hb, h⟩ := guardX_some h
        obtain ⟨ss, hs, h⟩ := bindX h
        obtain ⟨hsc, h⟩ := guardX_some h
        obtain ⟨ss', e, hh⟩ := normX_some h
        injection e with e
        subst e
        exact drawK.mkS a hb (popsX_sound hc _ _ _ _ hs fun s hm => ⟨scaAtX_sound (List.all_eq_true.1 hsc s hm), hk _ (hh s hm)⟩)
    | false =>
      simp only [cond_false] at h ⊢
      obtain ⟨ss, hs, h⟩ := normX_some h
      cases ops.toList.any (·.guard.isSome) with
      | true => exact guardK.split (popsX_sound hc _ _ _ _ hs fun s hm => hk _ (h s hm))
      | false => exact popsX_sound hc _ _ _ _ hs fun s hm => hk _ (h s hm)
  | seq a b iha ihb =>
    intro st l K h hk
    simp only [codeX] at h
    obtain ⟨as, has, h⟩ := bindL_some h
    unfold pwp
    cases hasCond a with
    | true =>
      refine joinK.direct (iha st as _ has fun r hr => ?_)
      obtain ⟨bs, h1, h2⟩ := h r hr
      obtain ⟨e1, s1⟩ := r
      cases e1 with
      | normal => exact join_go (ihb s1 bs K h1 fun x hx => hk x (h2 x hx))
      | _ => simp only at h1; injection h1 with h1; subst h1; exact hk _ (h2 _ (List.mem_cons_self ..))
    | false =>
      refine iha st as _ has fun r hr => ?_
      obtain ⟨bs, h1, h2⟩ := h r hr
      obtain ⟨e1, s1⟩ := r
      cases e1 with
      | normal => exact ihb s1 bs K h1 fun x hx => hk x (h2 x hx)
      | _ => simp only at h1; injection h1 with h1; subst h1; exact hk _ (h2 _ (List.mem_cons_self ..))
  | cond c a b iha ihb =>
    intro st l K h hk
    simp only [codeX] at h
    unfold pwp condK
    split at h
    · rename_i v hv
      simp only [hv]
      cases v with
      | true => exact ⟨fun _ => iha st l K h hk, fun q => by cases q⟩
      | false => exact ⟨(fun q => by cases q), fun _ => ihb st l K h hk⟩
    · cases h
  | block id b ih =>
    intro st l K h hk
    simp only [codeX] at h
    obtain ⟨as, has, h⟩ := bindL_some h
    unfold pwp
    refine ih st as _ has fun r hr => ?_
    obtain ⟨bs, h1, h2⟩ := h r hr
    obtain ⟨e1, s1⟩ := r
    cases e1 with
    | exit id' =>
      simp only at h1 ⊢
      cases hb : Nat.beq id' id with
      | true => rw [hb] at h1; simp only [cond_true] at h1 ⊢; injection h1 with h1; subst h1; exact hk _ (h2 _ (List.mem_cons_self ..))
      | false => rw [hb] at h1; simp only [cond_false] at h1 ⊢; injection h1 with h1; subst h1; exact hk _ (h2 _ (List.mem_cons_self ..))
    | _ => simp only at h1; injection h1 with h1; subst h1; exact hk _ (h2 _ (List.mem_cons_self ..))
  | loop b ih =>
    intro st l K h hk
    simp only [codeX] at h
    unfold pwp
    exact loopX_sound (fun st l K h hk => ih st l K h hk) lf st l h hk
  | exit id => intro st l K h hk; simp only [codeX] at h; injection h with h; subst h; exact hk _ (List.mem_cons_self ..)
  | scope b ih =>
    intro st l K h hk
    simp only [codeX] at h
    obtain ⟨as, has, h⟩ := bindL_some h
    unfold pwp
    refine ih st as _ has fun r hr => ?_
    obtain ⟨bs, h1, h2⟩ := h r hr
    obtain ⟨e1, s1⟩ := r
    cases e1 with
    | goto g => cases h1
    | _ => simp only at h1; injection h1 with h1; subst h1; exact hk _ (h2 _ (List.mem_cons_self ..))
  | label _ => intro st l K h hk; simp only [codeX] at h; injection h with h; subst h; exact hk _ (List.mem_cons_self ..)
  | ret => intro st l K h hk; simp only [codeX] at h; injection h with h; subst h; exact hk _ (List.mem_cons_self ..)
  | rangeFunc g ps assign body _ _ =>
    intro st l K h hk
    simp only [codeX] at h
    unfold pwp rangeK
    split at h
    · rename_i f cs hev
      obtain ⟨hb, h⟩ := guardX_some h
      obtain ⟨⟨d, σ'⟩, h1, h⟩ := bindX h
      injection h with h; subst h
      simp only [hev]
      exact ⟨hb, callK.id (hc _ _ _ _ _ h1) (hk _ (List.mem_cons_self ..))⟩
    · cases h
  | _ => intro st l K h hk; cases h

theorem res1X_sound {st : PSt} {r : ResultVar} {d : DV} (h : res1X P st r = some d) {K : DV → Prop} (hk : K d) : res1 P st r K := by
  unfold res1X at h; unfold res1
  split at h
  · injection h with h; subst h; exact hk
  · split at h
    · rename_i hev
      obtain ⟨po, hpo, h⟩ := bindX h
      obtain ⟨ds, hds, h⟩ := bindX h
      simp only [hev]
      exact optK_of hpo (optK_of hds (partD_ld h hk))
    · cases h
theorem resLX_sound {st : PSt} : ∀ (rs : List ResultVar) (ds : List DV) (K : List DV → Prop), mapX (res1X P st) rs = some ds → K ds → resL P st rs K
  | [], ds, K, h, hk => by simp [mapX] at h; subst h; exact hk
  | r :: rs, ds, K, h, hk => by
    simp only [mapX] at h
    obtain ⟨d, hd, h⟩ := bindX h
    obtain ⟨ds', hds, h⟩ := bindX h
    injection h with h; subst h
    exact res1X_sound hd (resLX_sound rs ds' _ hds hk)
theorem resX_sound {fn : Func} {st : PSt} {d : DV} (h : resX P fn st = some d) {K : DV → Prop} (hk : K d) : resK P fn st K := by
  unfold resX at h; unfold resK
  split at h
  · rename_i hr; simp only [hr]; exact res1X_sound h hk
  · rename_i hne
    obtain ⟨ds, hds, h⟩ := bindX h
    injection h with h; subst h
    split
    · rename_i r hr; exact absurd hr (hne r)
    · exact resLX_sound _ ds _ hds hk

/-- Each object is itself. -/
def idl (n : Nat) : List (Option Nat) := (List.range n).map some
theorem idl_get {n i : Nat} (h : i < n) : (idl n)[i]? = some (some i) := by
  unfold idl; rw [List.getElem?_map, List.getElem?_range h]; rfl
theorem renB0_sound {g : Nat → Option PO} {n : Nat} : ∀ (m : Nat) (d : DV), renB0 n m d = true → Ren g (idl n) d d
  | 0, _, h => by cases h
  | m + 1, d, h => by
    unfold renB0 at h
    cases hb : blw0 (m + 1) d with
    | true => exact .same d (blw0_sound _ _ hb)
    | false =>
      rw [hb] at h
      simp only [cond_false] at h
      have all : ∀ {cs : List DV}, cs.all (renB0 n m) = true → ∀ (k : Nat) (c d : DV), cs[k]? = some c → cs[k]? = some d → Ren g (idl n) c d := fun hc k c d e1 e2 => by
        rw [e1] at e2; injection e2 with e2; subst e2
        exact renB0_sound m c (List.all_eq_true.1 hc c (List.mem_of_getElem? e1))
      split at h
      · exact .ref _ _ _ _ (idl_get (blt_true h))
      · exact .pobj _ _ _ _ (idl_get (blt_true h))
      · exact .hnd _ _ _ (idl_get (blt_true h))
      · exact .agg _ _ rfl (all h)
      · exact .tup _ _ rfl (all h)
      · exact .iface _ _ _ (renB0_sound m _ h)
      · rw [Bool.and_eq_true] at h
        exact .func _ _ _ _ _ rfl rfl (all h.1) (all h.2)
      · cases h
theorem keepX_get {S : List Nat} : ∀ (σ : Objs) (i : Nat), (keepX S i σ).length = σ.length ∧ ∀ j po, obj (keepX S i σ) j = some po → obj σ j = some po
  | [], i => ⟨rfl, fun j po h => by simp [keepX, obj] at h⟩
  | x :: xs, i => by
    obtain ⟨h1, h2⟩ := keepX_get (S := S) xs (i + 1)
    refine ⟨by simp [keepX, h1], fun j po h => ?_⟩
    cases j with
    | zero =>
      simp only [keepX, obj, List.getElem?_cons_zero] at h ⊢
      cases hb : S.any (Nat.beq i) with
      | true => rw [hb] at h; exact h
      | false => rw [hb] at h; cases h
    | succ j =>
      have := h2 j po (by simpa [keepX, obj] using h)
      simpa [obj] using this
theorem gcX_sound {k : Nat} {d d' : DV} {σ σ' : Objs} (h : gcX k (d, σ) = some (d', σ')) : finSK k σ (fun d1 s1 => d1 = d' ∧ s1 = σ') d := by
  unfold gcX at h
  obtain ⟨hb, h⟩ := guardX_some h
  rw [Bool.and_eq_true, Bool.and_eq_true] at hb
  obtain ⟨hkb, hb⟩ := hb
  obtain ⟨e1, e2⟩ := inj2 h
  simp only at e1 hb hkb
  have hk := Nat.le_of_ble_eq_true hkb
  subst e1
  obtain ⟨g1, g2⟩ := keepX_get (S := reachX σ 1000 (idsIn 20 d ++ List.range k) []) σ 0
  refine .inr ⟨[], idl σ.length, d, σ', fun j hj => idl_get (by omega), ?_, renB0_sound _ _ hb.1, rfl, rfl⟩
  have e2 : keepX (reachX σ 1000 (idsIn 20 d ++ List.range k) []) 0 σ = σ' := e2
  rw [← e2]
  refine ⟨by rw [g1]; simp [idl], ?_, ?_⟩
  · intro j j' i q q'
    have f : ∀ {j i : Nat}, (idl σ.length)[j]? = some (some i) → j = i := by
      intro j i q
      unfold idl at q
      rw [List.getElem?_map] at q
      cases hr : (List.range σ.length)[j]? with
      | none => rw [hr] at q; cases q
      | some x =>
        rw [hr] at q
        have := (List.getElem?_eq_some_iff.1 hr)
        simp at q
        obtain ⟨_, e⟩ := this
        simp at e; omega
    rw [f q, f q']
  · intro j po hj
    have ho := g2 j po hj
    refine .inl ⟨j, po, idl_get (obj_lt ho), ho, rfl, rfl, rfl, rfl, ?_⟩
    intro kk es ds e1 e2
    rw [e1] at e2; injection e2 with e2; subst e2
    refine ⟨rfl, fun jj e f f1 f2 => ?_⟩
    rw [f1] at f2; injection f2 with f2; subst f2
    have hm : some po ∈ keepX (reachX σ 1000 (idsIn 20 d ++ List.range k) []) 0 σ := by
      unfold obj at hj
      split at hj
      · rename_i po' hq; injection hj with hj; subst hj; exact List.mem_of_getElem? hq
      · cases hj
    have := List.all_eq_true.1 hb.2 _ hm
    exact renB0_sound _ _ (List.all_eq_true.1 (List.all_eq_true.1 this es (List.mem_of_getElem? e1)) e (List.mem_of_getElem? f1))
theorem meetX_sound {k : Nat} {l : List (DV × Objs)} {r : DV × Objs} (h : meetX k l = some r) : ∀ x ∈ l, finSK k x.2 (fun d1 s1 => d1 = r.1 ∧ s1 = r.2) x.1 := by
  intro x hx
  unfold meetX at h
  split at h
  · cases h
  · rename_i y
    injection h with h; subst h
    have : x = y := by simpa using hx
    subst this
    exact .inl ⟨rfl, rfl⟩
  · rename_i y ys hne
    obtain ⟨z, hz, h⟩ := bindX h
    obtain ⟨hall, h⟩ := guardX_some h
    injection h with h; subst h
    rcases List.mem_cons.1 hx with rfl | hx
    · exact gcX_sound hz
    · have := List.all_eq_true.1 hall x hx
      split at this
      · rename_i u hu
        rw [Bool.and_eq_true] at this
        have e1 := dvB_eq _ _ _ this.1
        have e2 := listB_eq (fun _ _ => optB_eq) this.2
        rw [← e1, ← e2]
        exact gcX_sound hu
      · cases this
/-- What is known of calls, if the calls that they make are known. -/
def HookOK (P : Program) (ext : CallX → CallX) : Prop := ∀ call, CallOK P call → CallOK P (ext call)
theorem runX_ok {ext : CallX → CallX} (he : HookOK P ext) {lf : Nat} : ∀ m, CallOK P (runX P ext lf m)
  | 0, f, ds, σ, d, σ', h => by cases h
  | m + 1, f, ds, σ, d, σ', h => by
    unfold runX at h
    split at h
    · rename_i r hr; injection h with h; subst h; exact he _ (runX_ok he m) _ _ _ _ _ hr
    · split at h
      · rename_i fn hf
        split at h
        · rename_i c hb
          obtain ⟨h1, h⟩ := guardX_some h
          rw [Bool.and_eq_true, Bool.not_eq_true'] at h1
          obtain ⟨l, hl, h⟩ := bindX h
          obtain ⟨rs, hrs, h⟩ := bindX h
          refine FnS.mk hf hb h1.1 (Nat.le_of_ble_eq_true h1.2) (codeX_sound (runX_ok he m) c _ l _ hl fun r hr => ?_)
          obtain ⟨x, hx, hxl⟩ := mapX_mem hrs r hr
          obtain ⟨e, st⟩ := r
          have fin : ((resX P fn st).bind fun d => some (d, st.σ)) = some x → resK P fn st (finSK σ.length st.σ fun d1 s1 => d1 = d ∧ s1 = σ') := by
            intro h'
            obtain ⟨d', hd, h'⟩ := bindX h'
            injection h' with h'; subst h'
            exact resX_sound hd (meetX_sound h _ hxl)
          cases e with
          | normal => exact fin hx
          | ret => exact fin hx
          | _ => cases hx
        · cases h
      · cases h
/-- A closed call, reckoned. -/
theorem runX_fnC {ext : CallX → CallX} (he : HookOK P ext) {lf m : Nat} {f : FuncId} {ds : List DV} {r : DV} {s : Objs} (h : runX P ext lf m f ds [] = some (r, s)) (hd : ∀ d ∈ ds, Blw 0 d) (hr : Blw 0 r) : FnC P f ds (· = r) :=
  fnC_of (runX_ok he m _ _ _ _ _ h) hd hr
def trueX : Option (DV × Objs) → Bool
  | some (.bool true, _) => true
  | _ => false
/-- A closed law that answers true, reckoned. -/
theorem runX_true {ext : CallX → CallX} (he : HookOK P ext) (lf m : Nat) {f : FuncId} (h : trueX (runX P ext lf m f [] []) = true) : FnC P f [] (· = .bool true) := by
  unfold trueX at h
  split at h
  · rename_i s hs; exact runX_fnC he hs (by simp) (.bool true)
  · cases h
theorem noExt : HookOK P (fun _ _ _ _ => none) := fun _ _ f ds σ d σ' h => by cases h
theorem noCall : CallOK P (fun _ _ _ => none) := fun f ds σ d σ' h => by cases h

end Go.Pv
