/- A run over pure values is what the call comes to. -/
import Derived.Test.YtecgjdkejgcfbaaDoorPvX
set_option linter.unusedSimpArgs false
set_option linter.unusedVariables false
namespace Go.Pv
open Go Go.RowKit
variable {P : Program}

theorem guardX_some {α : Type} {b : Bool} {x : Option α} {y : α} (h : guardX b x = some y) : b = true ∧ x = some y := by
  unfold guardX at h
  cases b with
  | false => cases h
  | true => exact ⟨rfl, h⟩
theorem bindX {α β : Type} {x : Option α} {f : α → Option β} {y : β} (h : x.bind f = some y) : ∃ a, x = some a ∧ f a = some y := Option.bind_eq_some_iff.1 h
theorem intX_some {d : DV} {z : Int} (h : intX d = some z) : ∃ k, d = .int k z := by
  unfold intX at h
  split at h
  · injection h with h; subst h; exact ⟨_, rfl⟩
  · cases h
theorem optK_of {α : Type} {x : Option α} {y : α} {K : α → Prop} (h : x = some y) (hk : K y) : optK x K := by rw [h]; exact hk
theorem inj2 {α β : Type} {a c : α} {b d : β} (h : some (a, b) = some (c, d)) : a = c ∧ b = d := by injection h with h; injection h with h1 h2; exact ⟨h1, h2⟩
theorem bif_of {b : Bool} {p : Prop} (hb : b = true) (hp : p) : bif b then p else False := by rw [hb]; exact hp
theorem and3 {a b c : Bool} (h : (a && b && c) = true) : a = true ∧ b = true ∧ c = true := by
  rw [Bool.and_eq_true, Bool.and_eq_true] at h; exact ⟨h.1.1, h.1.2, h.2⟩

theorem partD_ld {t : TypeId} {cs : List DV} {j : Nat} {d : DV} (h : partD P t cs j = some d) {K : DV → Prop} (hk : K d) : ldK P t cs j K := by
  unfold partD at h; unfold ldK
  split at h
  · rename_i n hs
    cases hb : Nat.ble (j + n) cs.length with
    | false => rw [hb] at h; cases h
    | true => rw [hb] at h; injection h with h; subst h; exact hk
  · rename_i hs
    exact optK_of h hk
  · cases h

theorem mapX_get {α β : Type} {f : α → Option β} : ∀ {as : List α} {bs : List β}, mapX f as = some bs → as.length = bs.length ∧ ∀ (i : Nat) a b, as[i]? = some a → bs[i]? = some b → f a = some b
  | [], bs, h => by simp [mapX] at h; subst h; exact ⟨rfl, fun i a b e => by simp at e⟩
  | x :: as, bs, h => by
    simp only [mapX] at h
    obtain ⟨b, hb, h⟩ := bindX h
    obtain ⟨bs', hbs, h⟩ := bindX h
    injection h with h; subst h
    obtain ⟨h1, h2⟩ := mapX_get hbs
    refine ⟨by simp [h1], fun i a c e1 e2 => ?_⟩
    cases i with
    | zero => simp at e1 e2; subst e1; subst e2; exact hb
    | succ i => exact h2 i a c (by simpa using e1) (by simpa using e2)

theorem blw0_sound : ∀ (m : Nat) (d : DV), blw0 m d = true → Blw 0 d
  | 0, _, h => by cases h
  | m + 1, d, h => by
    have all : ∀ cs : List DV, cs.all (blw0 m) = true → ∀ d ∈ cs, Blw 0 d := fun cs hc d hd => blw0_sound m d (List.all_eq_true.1 hc d hd)
    cases d with
    | junk => exact .junk
    | bool b => exact .bool b
    | int k n => exact .int k n
    | flt k n => exact .flt k n
    | str s => exact .str s
    | agg cs => exact .agg cs (all cs h)
    | tup cs => exact .tup cs (all cs h)
    | nils => exact .nils
    | list xs => exact .list xs fun ds hds => all ds (List.all_eq_true.1 h ds hds)
    | ref id off len => cases h
    | nilp => exact .nilp
    | pim cs => exact .pim cs (all cs h)
    | pobj id i j => cases h
    | nili => exact .nili
    | iface t v => exact .iface t v (blw0_sound m v h)
    | nilf => exact .nilf
    | func fn fs cs =>
      have h : (fs.all (blw0 m) && cs.all (blw0 m)) = true := h
      rw [Bool.and_eq_true] at h
      exact .func fn fs cs (all fs h.1) (all cs h.2)
theorem scaB_sound : ∀ (m : Nat) (d : DV), scaB m d = true → Sca d
  | 0, _, h => by cases h
  | m + 1, d, h => by
    have all : ∀ cs : List DV, cs.all (scaB m) = true → ∀ d ∈ cs, Sca d := fun cs hc d hd => scaB_sound m d (List.all_eq_true.1 hc d hd)
    cases d with
    | junk => exact .junk
    | bool b => exact .bool b
    | int k n => exact .int k n
    | flt k n => exact .flt k n
    | str s => exact .str s
    | agg cs => exact .agg cs (all cs h)
    | tup cs => exact .tup cs (all cs h)
    | nils => exact .nils
    | nilp => exact .nilp
    | nili => exact .nili
    | iface t v => exact .iface t v (scaB_sound m v h)
    | nilf => exact .nilf
    | _ => cases h
theorem Sca.blw0 {d : DV} (h : Sca d) : Blw 0 d := by
  induction h with
  | junk => exact .junk
  | bool b => exact .bool b
  | int k n => exact .int k n
  | flt k n => exact .flt k n
  | str s => exact .str s
  | agg cs _ ih => exact .agg cs ih
  | tup cs _ ih => exact .tup cs ih
  | nils => exact .nils
  | nilp => exact .nilp
  | nili => exact .nili
  | iface t v _ ih => exact .iface t v ih
  | nilf => exact .nilf

theorem frz_keep : ∀ (F : List Nat) (σ : Objs) (id : Nat) (po : PO), obj σ id = some po → ∃ po', obj (frz F σ) id = some po' ∧ po'.els = po.els ∧ ((id ∈ F ∨ po.frz = true) → po'.frz = true)
  | [], σ, id, po, h => ⟨po, h, rfl, fun q => q.elim (fun q => by cases q) (fun q => q)⟩
  | x :: F, σ, id, po, h => by
    simp only [frz]
    by_cases hx : id = x
    · subst hx
      rw [h]
      simp only
      obtain ⟨po', h1, h2, h3⟩ := frz_keep F (σ.set id (some ⟨true, po.sz, po.ty, po.els⟩)) id _ (obj_set_eq (obj_lt h))
      exact ⟨po', h1, h2, fun _ => h3 (.inr rfl)⟩
    · cases ho : obj σ x with
      | none =>
        obtain ⟨po', h1, h2, h3⟩ := frz_keep F σ id po h
        exact ⟨po', h1, h2, fun q => h3 (q.imp (fun q => (List.mem_cons.1 q).resolve_left hx) (fun q => q))⟩
      | some q =>
        simp only
        obtain ⟨po', h1, h2, h3⟩ := frz_keep F (σ.set x (some ⟨true, q.sz, q.ty, q.els⟩)) id po ((obj_set_ne hx).trans h)
        exact ⟨po', h1, h2, fun q => h3 (q.imp (fun q => (List.mem_cons.1 q).resolve_left hx) (fun q => q))⟩
theorem fobj_all {σ : Objs} {id : Nat} {po : PO} (h : obj σ id = some po) : ∃ po', fobj (frz (List.range σ.length) σ) id = some po' ∧ po'.els = po.els := by
  obtain ⟨po', h1, h2, h3⟩ := frz_keep (List.range σ.length) σ id po h
  refine ⟨po', ?_, h2⟩
  unfold fobj
  simp only [h1, h3 (.inl (List.mem_range.2 (obj_lt h))), cond_true]

theorem snapX_sound {σ : Objs} {g : Nat → Option PO} (hg : ∀ id po, obj σ id = some po → ∃ po', g id = some po' ∧ po'.els = po.els) : ∀ (m : Nat) (d d' : DV), snapX σ m d = some d' → Snap g d d'
  | 0, _, _, h => by cases h
  | m + 1, d, d', h => by
    unfold snapX at h
    cases hb : blw0 (m + 1) d with
    | true =>
      rw [hb] at h
      simp only [cond_true] at h
      injection h with h; subst h
      exact .pure _ (blw0_sound _ _ hb)
    | false =>
      rw [hb] at h
      simp only [cond_false] at h
      have mp : ∀ {as bs : List DV}, mapX (snapX σ m) as = some bs → as.length = bs.length ∧ ∀ (j : Nat) (e d : DV), as[j]? = some e → bs[j]? = some d → Snap g e d := by
        intro as bs hm
        obtain ⟨h1, h2⟩ := mapX_get hm
        exact ⟨h1, fun j e d e1 e2 => snapX_sound hg m e d (h2 j e d e1 e2)⟩
      split at h
      · rename_i id off len
        obtain ⟨po, hpo, h⟩ := bindX h
        obtain ⟨hl, h⟩ := guardX_some h
        obtain ⟨xs, hxs, h⟩ := bindX h
        injection h with h; subst h
        obtain ⟨h1, h2⟩ := mapX_get hxs
        obtain ⟨po', hgp, hels⟩ := hg id po hpo
        have hle := Nat.le_of_ble_eq_true hl
        have hget : ∀ (i : Nat) ds, xs[i]? = some ds → ∃ es, po.els[off + i]? = some es ∧ mapX (snapX σ m) es = some ds := by
          intro i ds e
          have hi : i < xs.length := (List.getElem?_eq_some_iff.1 e).1
          have hi2 : i < ((po.els.drop off).take len).length := by omega
          have e0 := List.getElem?_eq_getElem hi2
          refine ⟨_, ?_, h2 i _ ds e0 e⟩
          rw [List.getElem?_take] at e0
          split at e0
          · rw [List.getElem?_drop] at e0; exact e0
          · cases e0
        refine .ref id off len po' xs hgp (by rw [← h1]; simp; omega) (fun i ds e => ?_) (fun i ds es j d e h3 h4 h5 h6 => ?_)
        · obtain ⟨es, q1, q2⟩ := hget i ds e
          exact ⟨es, by rw [hels]; exact q1, (mp q2).1.symm⟩
        · obtain ⟨es', q1, q2⟩ := hget i ds h3
          rw [hels, q1] at h4; injection h4 with h4; subst h4
          exact (mp q2).2 j e d h6 h5
      · rename_i id i j
        obtain ⟨po, hpo, h⟩ := bindX h
        obtain ⟨es, hes, h⟩ := bindX h
        obtain ⟨hl, h⟩ := guardX_some h
        obtain ⟨ds, hds, h⟩ := bindX h
        injection h with h; subst h
        obtain ⟨po', hgp, hels⟩ := hg id po hpo
        obtain ⟨h1, h2⟩ := mp hds
        have hle := Nat.le_of_ble_eq_true hl
        refine .pobj id i j po' es ds hgp (by rw [hels]; exact hes) (by rw [← h1]; simp; omega) (fun k d e e1 e2 => ?_)
        exact h2 k e d (by rw [List.getElem?_drop]; exact e2) e1
      · obtain ⟨ds, hds, h⟩ := bindX h
        injection h with h; subst h
        exact .agg _ _ (mp hds).1 (mp hds).2
      · obtain ⟨ds, hds, h⟩ := bindX h
        injection h with h; subst h
        exact .tup _ _ (mp hds).1 (mp hds).2
      · obtain ⟨v, hv, h⟩ := bindX h
        injection h with h; subst h
        exact .iface _ _ _ (snapX_sound hg m _ _ hv)
      · cases h

def CallOK (P : Program) (call : CallX) : Prop := ∀ f ds σ d σ', call f ds σ = some (d, σ') → FnS P f ds σ (fun d1 s1 => d1 = d ∧ s1 = σ')

theorem fnC_of {f : FuncId} {ds : List DV} {r : DV} {s : Objs} (h : FnS P f ds [] (fun d1 s1 => d1 = r ∧ s1 = s)) (hd : ∀ d ∈ ds, Blw 0 d) (hr : Blw 0 r) : FnC P f ds (· = r) := by
  refine ⟨hd, fun d e => e ▸ hr, fun w0 h0 vs hview hsz hrep => ?_⟩
  have hi : Inv ⟨w0, h0, ([] : Objs).length, fun _ => .no, []⟩ [] h0 (fun _ => .no) w0 :=
    { os := rfl, tape := rfl, output := rfl, size := Nat.le_refl _, view := hview, hle := HLe.refl _, hnew := fun b o e => .inl ⟨e, lt_of_some (hview b o e)⟩,
      own := fun _ _ _ _ _ _ e => (by cases e), unborn := fun _ _ => rfl, inj := fun _ _ _ _ _ _ _ _ _ _ _ e => (by cases e), live := fun id po e => (by simp [obj] at e),
      objs := fun _ _ _ _ _ _ e => (by cases e), frame := fun _ _ _ => rfl, gho := fun id hid => absurd hid (Nat.not_lt_zero id), born := fun id hid => absurd hid (Nat.not_lt_zero id) }
  have nL : ∀ b, ¬ Ctx.L ⟨w0, h0, ([] : Objs).length, fun _ => .no, []⟩ b := fun b ⟨id, _, _, _, _, hid, _⟩ => Nat.not_lt_zero id hid
  have fin : ∀ v w, (∃ d σ h β, (d = r ∧ σ = s) ∧ Inv ⟨w0, h0, ([] : Objs).length, fun _ => .no, []⟩ σ h β w ∧ Rep h β v d) → ∃ d h, d = r ∧ Rep h (fun _ => .no) v d ∧ Below w0.heap.size w0 w ∧
      (∀ b o, h b = some o → w.heap[b]? = some o) ∧ HLe h0 h ∧ (∀ b o, h b = some o → (h0 b = some o ∧ b < w0.heap.size) ∨ w0.heap.size ≤ b) := by
    rintro v w ⟨d, σ, h', β, ⟨e0, _⟩, hj, hrep⟩
    rw [e0] at hrep
    exact ⟨r, h', rfl, hrep.blw hr (fun id hid => absurd hid (Nat.not_lt_zero id)), ⟨hj.os, hj.tape, hj.output, hj.size, fun b hb => hj.frame b hb (nL b)⟩, hj.view, hj.hle, fun b o e => (hj.hnew b o e).imp id (fun q => q.resolve_right (nL b))⟩
  rcases h w0 h0 _ vs hi hsz hrep with ⟨fn, c, h1, h2, h3, h4⟩ | ⟨v, w', h1, h2⟩
  · exact .inl ⟨fn, c, h1, h2, h3, h4.mono fun e w' ⟨v, e1, e2⟩ => ⟨v, e1, fin v w' e2⟩⟩
  · exact .inr ⟨v, w', h1, fin v w' h2⟩

theorem fnO_of {f : FuncId} {ds : List DV} {id n : Nat} {isPtr : Bool} {s : Objs} {po : PO} (h : FnS P f ds [] (fun d1 s1 => d1 = (bif isPtr then .pobj id 0 0 else .ref id 0 po.els.length) ∧ s1 = s)) (hd : ∀ d ∈ ds, Blw 0 d) (ho : obj s id = some po)
    (hc : ∀ es ∈ po.els, ∀ d ∈ es, Blw 0 d) : FnO P f ds isPtr po := by
  refine ⟨hd, hc, fun w0 h0 vs hview hsz hrep => ?_⟩
  have hi : Inv ⟨w0, h0, ([] : Objs).length, fun _ => .no, []⟩ [] h0 (fun _ => .no) w0 :=
    { os := rfl, tape := rfl, output := rfl, size := Nat.le_refl _, view := hview, hle := HLe.refl _, hnew := fun b o e => .inl ⟨e, lt_of_some (hview b o e)⟩,
      own := fun _ _ _ _ _ _ e => (by cases e), unborn := fun _ _ => rfl, inj := fun _ _ _ _ _ _ _ _ _ _ _ e => (by cases e), live := fun id po e => (by simp [obj] at e),
      objs := fun _ _ _ _ _ _ e => (by cases e), frame := fun _ _ _ => rfl, gho := fun id hid => absurd hid (Nat.not_lt_zero id), born := fun id hid => absurd hid (Nat.not_lt_zero id) }
  have fin : ∀ v w, (∃ d σ h β, (d = (bif isPtr then .pobj id 0 0 else .ref id 0 po.els.length) ∧ σ = s) ∧ Inv ⟨w0, h0, ([] : Objs).length, fun _ => .no, []⟩ σ h β w ∧ Rep h β v d) →
      ∃ h β, Inv (Ctx.plain w0 h0) [some po] h β w ∧ Rep h β v (bif isPtr then .pobj 0 0 0 else .ref 0 0 po.els.length) := by
    rintro v w ⟨d, σ, h', β, ⟨e0, e1⟩, hj, hr⟩
    rw [e0] at hr
    rw [e1] at hj
    refine ⟨h', _, inv_pick (C := Ctx.plain w0 h0) rfl hj ho hc, ?_⟩
    cases isPtr with
    | true =>
      simp only [cond_true] at hr ⊢
      cases hr with
      | pobjAt _ _ _ b sz N K' t hb => exact .pobjAt _ _ _ _ _ _ _ _ ((if_pos rfl).trans hb)
      | pobjDead _ _ _ _ hb => exact .pobjDead _ _ _ _ ((if_pos rfl).trans hb)
    | false =>
      simp only [cond_false] at hr ⊢
      generalize hL : po.els.length = L at *
      cases hr with
      | refAt _ _ _ cap oo b sz N K' t hb q1 q2 q3 => exact .refAt _ _ _ _ _ _ _ _ _ _ ((if_pos rfl).trans hb) q1 q2 q3
      | refNil _ hb => exact .refNil _ ((if_pos rfl).trans hb)
      | refDead _ _ _ _ hb => exact .refDead _ _ _ _ ((if_pos rfl).trans hb)
  rcases h w0 h0 _ vs hi hsz hrep with ⟨fn, c, h1, h2, h3, h4⟩ | ⟨v, w', h1, h2⟩
  · exact .inl ⟨fn, c, h1, h2, h3, h4.mono fun e w' ⟨v, e1, e2⟩ => ⟨v, e1, fin v w' e2⟩⟩
  · exact .inr ⟨v, w', h1, fin v w' h2⟩
theorem snapsX {ds ds' : List DV} {σ : Objs} (hds : mapX (snapX σ 20) ds = some ds') : Snaps (fobj (frz (List.range σ.length) σ)) ds ds' := by
  obtain ⟨h1, h2⟩ := mapX_get hds
  have key : ∀ {as bs : List DV}, as.length = bs.length → (∀ (i : Nat) a b, as[i]? = some a → bs[i]? = some b → Snap (fobj (frz (List.range σ.length) σ)) a b) → Snaps (fobj (frz (List.range σ.length) σ)) as bs := by
    intro as
    induction as with
    | nil => intro bs h _; cases bs with | nil => exact trivial | cons => simp at h
    | cons a as ih =>
      intro bs h hh
      cases bs with
      | nil => simp at h
      | cons b bs => exact ⟨hh 0 a b rfl rfl, ih (by simpa using h) fun i x y e1 e2 => hh (i + 1) x y (by simpa using e1) (by simpa using e2)⟩
  exact key h1 fun i a b e1 e2 => snapX_sound (fun id po e => fobj_all e) _ _ _ (h2 i a b e1 e2)
theorem drawX_sound {call : CallX} (hc : CallOK P call) {f : FuncId} {ds : List DV} {σ : Objs} {r : DV} (h : drawX call f ds σ = some r) {K : DV → Prop} (hk : K r) : callE P f ds σ K := by
  unfold drawX at h
  obtain ⟨ds', hds, h⟩ := bindX h
  obtain ⟨⟨r', s'⟩, hr, h⟩ := bindX h
  obtain ⟨hb, h⟩ := guardX_some h
  injection h with h; subst h
  rw [Bool.and_eq_true] at hb
  have hsca := scaB_sound _ _ hb.2
  have hbl : ∀ d ∈ ds', Blw 0 d := fun d hd => blw0_sound _ _ (List.all_eq_true.1 hb.1 d hd)
  have hs := snapsX hds
  unfold callE
  exact ⟨_, ds', r', hs, fnC_of (hc _ _ _ _ _ hr) hbl hsca.blw0, .inr hsca, hk⟩

theorem makeX_sound {call : CallX} (hc : CallOK P call) {f : FuncId} {ds : List DV} {σ σ' : Objs} {d : DV} (h : makeX call f ds σ = some (d, σ')) {K : DV → Objs → Prop} (hk : K d σ') : callM P f ds σ K := by
  unfold makeX at h
  obtain ⟨ds', hds, h⟩ := bindX h
  obtain ⟨⟨r, s⟩, hr, h⟩ := bindX h
  obtain ⟨hb, h⟩ := guardX_some h
  have hbl : ∀ d ∈ ds', Blw 0 d := fun d hd => blw0_sound _ _ (List.all_eq_true.1 hb d hd)
  have sca : ∀ {po : PO}, po.els.all (fun es => es.all (scaB 40)) = true → ∀ es ∈ po.els, ∀ d ∈ es, Sca d := fun h es he d hd => scaB_sound _ _ (List.all_eq_true.1 (List.all_eq_true.1 h es he) d hd)
  split at h
  · rename_i id n e0
    simp only at e0; subst e0
    obtain ⟨po, hpo, h⟩ := bindX h
    obtain ⟨hb2, h⟩ := guardX_some h
    obtain ⟨b1, b2, b3⟩ := and3 hb2
    obtain ⟨e1, e2⟩ := inj2 h; subst e1; subst e2
    have hn := Nat.eq_of_beq_eq_true b2
    subst hn
    exact callM.mk (isPtr := false) _ (fnO_of (n := 0) (isPtr := false) (hc _ _ _ _ _ hr) hbl hpo (fun es he d hd => (sca b3 es he d hd).blw0)) (snapsX hds) (by simpa using b1) (sca b3) hk
  · rename_i id e0
    simp only at e0; subst e0
    obtain ⟨po, hpo, h⟩ := bindX h
    obtain ⟨hb2, h⟩ := guardX_some h
    rw [Bool.and_eq_true] at hb2
    obtain ⟨e1, e2⟩ := inj2 h; subst e1; subst e2
    exact callM.mk (isPtr := true) _ (fnO_of (n := 0) (isPtr := true) (hc _ _ _ _ _ hr) hbl hpo (fun es he d hd => (sca hb2.2 es he d hd).blw0)) (snapsX hds) (by simpa using hb2.1) (sca hb2.2) hk
  · cases h
theorem callDX_sound {call : CallX} (hc : CallOK P call) {det : Det} {dst : Option Tmp} {f : FuncId} {ds : List DV} {σ σ' : Objs} {d : DV} (h : callDX call det dst f ds σ = some (d, σ')) {K : DV → Objs → Prop} (hk : K d σ') : callD P det dst f ds σ K := by
  unfold callDX at h; unfold callD
  split at h
  · exact callK.id (hc _ _ _ _ _ h) hk
  · rename_i M
    simp only
    split at h
    · rename_i e0
      obtain ⟨d', hd, h⟩ := bindX h
      obtain ⟨e1, e2⟩ := inj2 h; subst e1; subst e2
      rw [e0]
      exact drawX_sound (K := (K · σ)) hc hd hk
    · rename_i e0
      rw [e0]
      exact makeX_sound hc h hk
    · rename_i n0 n1
      split
      · rename_i e; exact (n0 e).elim
      · rename_i e; exact (n1 e).elim
      · exact callW.mk (fun K' h' => callK.id (hc _ _ _ _ _ h) h') hk

theorem purX_sound {o : Oper} {env : Env} {d : DV} (h : purX P o env = some d) {K : DV → Prop} (hk : K d) : purK P o env K := by
  unfold purX at h
  obtain ⟨hb, h⟩ := guardX_some h
  unfold purK
  refine bif_of hb ?_
  split at h
  · rename_i v hv; rw [hv]; injection h with h; subst h; exact hk
  · cases h

theorem bndX_sound {lo hi : Option DV} {n m : Nat} {b : Nat × Nat} (h : bndX lo hi n m = some b) {K : Nat → Nat → Prop} (hk : K b.1 b.2) : bndK lo hi n m K := by
  unfold bndX at h; unfold bndK
  split at h
  · injection h with h; subst h; exact hk
  · obtain ⟨z, hz, h⟩ := bindX h
    obtain ⟨k, hz'⟩ := intX_some hz
    simp only [hz', isInt]
    obtain ⟨hb, h⟩ := guardX_some h
    rw [Bool.and_eq_true] at hb
    injection h with h; subst h
    exact ⟨of_decide_eq_true hb.1, of_decide_eq_true hb.2, hk⟩
  · obtain ⟨z, hz, h⟩ := bindX h
    obtain ⟨k, hz'⟩ := intX_some hz
    simp only [hz', isInt]
    obtain ⟨hb, h⟩ := guardX_some h
    rw [Bool.and_eq_true] at hb
    injection h with h; subst h
    exact ⟨of_decide_eq_true hb.1, of_decide_eq_true hb.2, hk⟩
  · obtain ⟨z, hz, h⟩ := bindX h
    obtain ⟨k, hz'⟩ := intX_some hz
    simp only [hz', isInt]
    obtain ⟨y, hy, h⟩ := bindX h
    obtain ⟨k', hy'⟩ := intX_some hy
    simp only [hy', isInt]
    obtain ⟨hb, h⟩ := guardX_some h
    obtain ⟨b1, b2, b3⟩ := and3 hb
    injection h with h; subst h
    exact ⟨of_decide_eq_true b1, of_decide_eq_true b2, of_decide_eq_true b3, hk⟩

theorem ixX_sound {e : TypeId} {x i d : DV} {σ : Objs} (h : ixX P e x i σ = some d) {K : DV → Prop} (hk : K d) : ixK P e x i σ K := by
  unfold ixX at h; unfold ixK
  obtain ⟨z, hz, h⟩ := bindX h
  obtain ⟨k, hz'⟩ := intX_some hz
  simp only [hz', isInt]
  obtain ⟨s, hs, h⟩ := bindX h
  refine optK_of hs ?_
  split at h
  · obtain ⟨hb, h⟩ := guardX_some h
    rw [Bool.and_eq_true] at hb
    obtain ⟨po, hpo, h⟩ := bindX h
    obtain ⟨h2, h⟩ := guardX_some h
    injection h with h; subst h
    exact ⟨of_decide_eq_true hb.1, of_decide_eq_true hb.2, optK_of hpo (bif_of h2 hk)⟩
  · obtain ⟨hb, h⟩ := guardX_some h
    rw [Bool.and_eq_true] at hb
    obtain ⟨ds, hds, h⟩ := bindX h
    obtain ⟨h2, h⟩ := guardX_some h
    injection h with h; subst h
    exact ⟨of_decide_eq_true hb.1, of_decide_eq_true hb.2, optK_of hds (bif_of h2 hk)⟩
  · cases h
theorem ixaX_sound {m : Nat} {e : TypeId} {x i d : DV} {σ : Objs} (h : ixaX P m e x i σ = some d) {K : DV → Prop} (hk : K d) : ixaK P m e x i σ K := by
  unfold ixaX at h; unfold ixaK
  obtain ⟨z, hz, h⟩ := bindX h
  obtain ⟨k, hz'⟩ := intX_some hz
  simp only [hz', isInt]
  obtain ⟨s, hs, h⟩ := bindX h
  obtain ⟨hb, h⟩ := guardX_some h
  rw [Bool.and_eq_true] at hb
  refine optK_of hs ⟨of_decide_eq_true hb.1, of_decide_eq_true hb.2, ?_⟩
  split at h
  · obtain ⟨po, hpo, h⟩ := bindX h
    injection h with h; subst h
    exact optK_of hpo hk
  · injection h with h; subst h; exact hk
  · cases h

theorem binX_sound {op : BinOp} {x y d : DV} {o : Oper} {env : Env} (h : binX op x y (purX P o env) = some d) {K : DV → Prop} (hk : K d) : binK op x y K (purK P o env K) := by
  unfold binX at h; unfold binK
  split at h
  · obtain ⟨hb, h⟩ := guardX_some h
    rw [Bool.and_eq_true] at hb
    injection h with h; subst h
    exact ⟨of_decide_eq_true hb.1, by simpa using hb.2, hk⟩
  · obtain ⟨hb, h⟩ := guardX_some h
    rw [Bool.and_eq_true] at hb
    injection h with h; subst h
    exact ⟨of_decide_eq_true hb.1, by simpa using hb.2, hk⟩
  · obtain ⟨hb, h⟩ := guardX_some h
    injection h with h; subst h
    exact ⟨of_decide_eq_true hb, hk⟩
  · obtain ⟨hb, h⟩ := guardX_some h
    injection h with h; subst h
    exact ⟨of_decide_eq_true hb, hk⟩
  · obtain ⟨hb, h⟩ := guardX_some h
    injection h with h; subst h
    exact ⟨of_decide_eq_true hb, hk⟩
  · obtain ⟨hb, h⟩ := guardX_some h
    obtain ⟨r, hr, h⟩ := bindX h
    injection h with h; subst h
    exact ⟨of_decide_eq_true hb, optK_of hr hk⟩
  · obtain ⟨hb, h⟩ := guardX_some h
    obtain ⟨r, hr, h⟩ := bindX h
    injection h with h; subst h
    exact ⟨of_decide_eq_true hb, optK_of hr hk⟩
  · obtain ⟨hb, h⟩ := guardX_some h
    obtain ⟨r, hr, h⟩ := bindX h
    injection h with h; subst h
    exact ⟨of_decide_eq_true hb, optK_of hr hk⟩
  · obtain ⟨hb, h⟩ := guardX_some h
    obtain ⟨r, hr, h⟩ := bindX h
    injection h with h; subst h
    exact ⟨of_decide_eq_true hb, optK_of hr hk⟩
  · rename_i g1 g2 g3 g4 g5 g6 g7 g8 g9
    split
    · exact (g1 _ _ _ _ rfl rfl rfl).elim
    · exact (g2 _ _ _ _ rfl rfl rfl).elim
    · exact (g3 _ _ _ _ rfl rfl rfl).elim
    · exact (g4 _ _ _ _ rfl rfl rfl).elim
    · exact (g5 _ _ rfl rfl rfl).elim
    · exact (g6 _ _ _ _ rfl rfl rfl).elim
    · exact (g7 _ _ _ _ rfl rfl rfl).elim
    · exact (g8 _ _ _ _ rfl rfl rfl).elim
    · exact (g9 _ _ _ _ rfl rfl rfl).elim
    · exact purX_sound h hk

theorem eqTopX_sound {σ : Objs} {t : TypeId} {x y d : DV} {f : Bool → DV} {o : Oper} {env : Env} (h : eqTopX P σ t x y f (purX P o env) = some d) {K : DV → Prop} (hk : K d) : eqTop P σ t x y (fun r => K (f r)) (purK P o env K) := by
  unfold eqTopX at h; unfold eqTop
  split at h
  · obtain ⟨hb, h⟩ := guardX_some h
    obtain ⟨r, hr, h⟩ := bindX h
    injection h with h; subst h
    exact ⟨EqOk.mk hb, optK_of hr hk⟩
  · rename_i hne
    split at h
    · rename_i r hr
      obtain ⟨hb, h⟩ := guardX_some h
      injection h with h; subst h
      split
      · exact (hne _ _ rfl rfl).elim
      · rw [hr]; exact bif_of hb hk
    · rename_i hr
      split
      · exact (hne _ _ rfl rfl).elim
      · rw [hr]; exact purX_sound h hk
theorem cmpX_sound {σ : Objs} {op : BinOp} {t : TypeId} {x y d : DV} {o : Oper} {env : Env} (h : cmpX P σ op t x y (purX P o env) = some d) {K : DV → Prop} (hk : K d) : cmpK P σ op t x y K (purK P o env K) := by
  unfold cmpX at h; unfold cmpK
  split at h
  · exact eqTopX_sound h hk
  · exact eqTopX_sound h hk
  · rename_i n1 n2
    split
    · exact (n1 rfl).elim
    · exact (n2 rfl).elim
    · exact binX_sound h hk
theorem cvtX_sound {s t : TypeId} {d r : DV} {σ : Objs} {o : Oper} {env : Env} (h : cvtX P s t d σ (purX P o env) = some r) {K : DV → Prop} (hk : K r) : cvtK P s t d σ K (purK P o env K) := by
  unfold cvtX at h; unfold cvtK
  cases hb : isSl d with
  | false => rw [hb] at h; exact purX_sound h hk
  | true =>
    rw [hb] at h
    simp only [cond_true] at h ⊢
    split at h
    · rename_i e h1 h2
      split at h
      · rename_i h3
        obtain ⟨els, h4, h⟩ := bindX h
        obtain ⟨bs, h5, h⟩ := bindX h
        injection h with h; subst h
        simp only [h1, h2, h3]
        exact optK_of h4 (optK_of h5 hk)
      · cases h
    · cases h
theorem assertX_sound {t : TypeId} {ok : Bool} {d r : DV} (h : assertX P t ok d = some r) {K : DV → Prop} (hk : K r) : assertK P t ok d K := by
  unfold assertX at h; unfold assertK
  split at h
  · cases h
  · rename_i u t' v hne hu
    rw [hu]
    have go : (bif Nat.beq t' t then K (bif ok then .tup [v, .bool true] else v) else (bif ok then optK ((P.info? t).bind (·.zero)) fun z => K (.tup [ofV z, .bool false]) else False)) := by
      cases hb : Nat.beq t' t with
      | true =>
        rw [hb] at h
        injection h with h; subst h
        exact hk
      | false =>
        rw [hb] at h
        simp only [cond_false] at h ⊢
        cases ok with
        | false => cases h
        | true =>
          obtain ⟨z, hz, h⟩ := bindX h
          injection h with h; subst h
          exact optK_of (K := fun z => K (.tup [ofV z, .bool false])) hz hk
    cases u <;> first | exact go | exact absurd rfl (hne _)
  · rename_i u hne hu
    rw [hu]
    have go : (bif ok then optK ((P.info? t).bind (·.zero)) fun z => K (.tup [ofV z, .bool false]) else False) := by
      cases ok with
      | false => cases h
      | true =>
        obtain ⟨z, hz, h⟩ := bindX h
        injection h with h; subst h
        exact optK_of (K := fun z => K (.tup [ofV z, .bool false])) hz hk
    cases u <;> first | exact go | exact absurd rfl (hne _)
  · cases h
theorem capB_sound {n b : Nat} (h : capB n b = true) : capOk n b := by
  unfold capB at h
  rw [Bool.and_eq_true] at h
  exact ⟨Nat.le_of_ble_eq_true h.1, Nat.le_of_ble_eq_true h.2⟩
theorem appX_sound {e : TypeId} {s x d : DV} {σ σ' : Objs} (h : appX P e s x σ = some (d, σ')) {K : DV → Objs → Prop} (hk : K d σ') : appK P e s x σ K := by
  unfold appX at h
  refine appK.go ?_
  unfold appR
  obtain ⟨i, hi, h⟩ := bindX h
  obtain ⟨h1, h⟩ := guardX_some h
  obtain ⟨news, hn, h⟩ := bindX h
  obtain ⟨h2, h⟩ := guardX_some h
  refine optK_of hi (bif_of h1 (optK_of hn ⟨fun ds hds => Nat.eq_of_beq_eq_true (List.all_eq_true.1 h2 ds hds), ?_⟩))
  split at h
  · obtain ⟨h3, h⟩ := guardX_some h
    obtain ⟨e1, e2⟩ := inj2 h; subst e1; subst e2
    exact ⟨capB_sound h3, hk⟩
  · obtain ⟨po, hpo, h⟩ := bindX h
    obtain ⟨h3, h⟩ := guardX_some h
    obtain ⟨e1, e2⟩ := inj2 h; subst e1; subst e2
    rw [Bool.and_eq_true, Bool.and_eq_true, Bool.and_eq_true] at h3
    exact optK_of hpo (bif_of (by rw [Bool.and_eq_true]; exact h3.1.1) ⟨Nat.eq_of_beq_eq_true h3.1.2, capB_sound h3.2, hk⟩)
  · cases h

theorem vopX_sound {call : CallX} (hc : CallOK P call) {det : Det} {o : Oper} {env : Env} {σ σ' : Objs} {d : DV} (h : vopX P call det o env σ = some (d, σ')) {K : DV → Objs → Prop} (hk : K d σ') : vop P det o env σ K := by
  have one : ∀ {x : Option DV}, (x.bind fun d => some (d, σ)) = some (d, σ') → x = some d ∧ K d σ := by
    intro x e
    obtain ⟨y, hy, e⟩ := bindX e
    obtain ⟨e1, e2⟩ := inj2 e; subst e1; subst e2
    exact ⟨hy, hk⟩
  unfold vopX at h; unfold vop
  split at h
  all_goals try (rename_i ho; simp only [ho])
  · obtain ⟨e1, e2⟩ := inj2 h; subst e1; subst e2; exact hk
  · obtain ⟨e1, e2⟩ := inj2 h; subst e1; subst e2; exact hk
  · split at h
    · rename_i v hv
      obtain ⟨e1, e2⟩ := inj2 h; subst e1; subst e2
      simp only [hv]
      cases v with
      | true => exact ⟨fun _ => hk, fun e => by cases e⟩
      | false => exact ⟨(fun e => by cases e), fun _ => hk⟩
    · cases h
  · obtain ⟨cs, hz, h⟩ := bindX h
    obtain ⟨hb, h⟩ := guardX_some h
    obtain ⟨e1, e2⟩ := inj2 h; subst e1; subst e2
    exact optK_of hz (bif_of hb hk)
  · obtain ⟨hb, h⟩ := guardX_some h
    obtain ⟨e1, e2⟩ := inj2 h; subst e1; subst e2
    exact bif_of hb hk
  · obtain ⟨hb, h⟩ := guardX_some h
    obtain ⟨cs, hz, h⟩ := bindX h
    obtain ⟨e1, e2⟩ := inj2 h; subst e1; subst e2
    exact bif_of hb (optK_of hz hk)
  · split at h
    · rename_i e hu
      obtain ⟨i, hi, h⟩ := bindX h
      obtain ⟨z, hz, h⟩ := bindX h
      obtain ⟨hb, h⟩ := guardX_some h
      obtain ⟨flat, hf, h⟩ := bindX h
      obtain ⟨hb2, h⟩ := guardX_some h
      simp only [hu]
      refine optK_of hi (optK_of hz (bif_of hb (optK_of hf (bif_of hb2 ?_))))
      cases hal : asList det o.dst with
      | false =>
        rw [hal] at h
        obtain ⟨e1, e2⟩ := inj2 h; subst e1; subst e2
        exact hk
      | true =>
        rw [hal] at h
        obtain ⟨hpl, h⟩ := guardX_some h
        obtain ⟨e1, e2⟩ := inj2 h; subst e1; subst e2
        exact bif_of hpl hk
    · cases h
  · split at h
    · rename_i hev
      obtain ⟨po, hpo, h⟩ := bindX h
      obtain ⟨ds, hds, h⟩ := bindX h
      obtain ⟨h, hk⟩ := one h
      simp only [hev]
      exact optK_of hpo (optK_of hds (partD_ld h hk))
    · rename_i hev
      obtain ⟨h, hk⟩ := one h
      simp only [hev]
      exact partD_ld h hk
    · cases h
  · split at h
    · rename_i hev hs
      obtain ⟨po, hpo, h⟩ := bindX h
      obtain ⟨ds, hds, h⟩ := bindX h
      obtain ⟨hb, h⟩ := guardX_some h
      obtain ⟨e1, e2⟩ := inj2 h; subst e1; subst e2
      simp only [hev, hs]
      exact optK_of hpo (optK_of hds (bif_of hb hk))
    · cases h
  · split at h
    · rename_i hev hf
      obtain ⟨po, hpo, h⟩ := bindX h
      obtain ⟨e1, e2⟩ := inj2 h; subst e1; subst e2
      simp only [hev, hf]
      exact optK_of hpo hk
    · rename_i hev hf
      obtain ⟨e1, e2⟩ := inj2 h; subst e1; subst e2
      simp only [hev, hf]
      exact hk
    · cases h
  · split at h
    · rename_i hev hf
      obtain ⟨h, hk⟩ := one h
      simp only [hev, hf]
      exact partD_ld h hk
    · cases h
  · split at h
    · rename_i hu
      obtain ⟨h, hk⟩ := one h
      simp only [hu]
      exact ixX_sound h hk
    · rename_i hu
      obtain ⟨h, hk⟩ := one h
      simp only [hu]
      exact ixaX_sound h hk
    · cases h
  · split at h
    · rename_i hu hev
      obtain ⟨z, hz, h⟩ := bindX h
      obtain ⟨k, hz⟩ := intX_some hz
      obtain ⟨hb, h⟩ := guardX_some h
      obtain ⟨b, hb2, h⟩ := bindX h
      obtain ⟨e1, e2⟩ := inj2 h; subst e1; subst e2
      simp only [hu, hev, hz, isInt]
      exact ⟨of_decide_eq_true hb, optK_of hb2 hk⟩
    · rename_i hu hev
      obtain ⟨z, hz, h⟩ := bindX h
      obtain ⟨k, hz⟩ := intX_some hz
      obtain ⟨s, hs, h⟩ := bindX h
      obtain ⟨hb, h⟩ := guardX_some h
      rw [Bool.and_eq_true] at hb
      obtain ⟨h, hk⟩ := one h
      simp only [hu, hev, hz, isInt]
      exact optK_of hs ⟨of_decide_eq_true hb.1, of_decide_eq_true hb.2, partD_ld h hk⟩
    · cases h
  · split at h
    · rename_i hu hev
      obtain ⟨b, hb, h⟩ := bindX h
      obtain ⟨e1, e2⟩ := inj2 h; subst e1; subst e2
      simp only [hu, hev]
      exact bndX_sound hb hk
    · rename_i hu hev
      obtain ⟨s, hs, h⟩ := bindX h
      obtain ⟨b, hb, h⟩ := bindX h
      obtain ⟨e1, e2⟩ := inj2 h; subst e1; subst e2
      simp only [hu, hev]
      exact optK_of hs (bndX_sound hb hk)
    · rename_i hu hev
      obtain ⟨s, hs, h⟩ := bindX h
      obtain ⟨hb2, h⟩ := guardX_some h
      obtain ⟨b, hb, h⟩ := bindX h
      obtain ⟨e1, e2⟩ := inj2 h; subst e1; subst e2
      simp only [hu, hev]
      exact optK_of hs ⟨fun ds hds => Nat.eq_of_beq_eq_true (List.all_eq_true.1 hb2 ds hds), bndX_sound hb hk⟩
    · rename_i hu hev
      obtain ⟨s, hs, h⟩ := bindX h
      obtain ⟨po, hpo, h⟩ := bindX h
      obtain ⟨hb2, h⟩ := guardX_some h
      obtain ⟨b, hb, h⟩ := bindX h
      obtain ⟨e1, e2⟩ := inj2 h; subst e1; subst e2
      simp only [hu, hev]
      exact optK_of hs (optK_of hpo (bif_of hb2 (bndX_sound hb hk)))
    · cases h
  · split at h
    · rename_i hu
      obtain ⟨i, hi, h⟩ := bindX h
      obtain ⟨z, hz, h⟩ := bindX h
      obtain ⟨l, hl, h⟩ := bindX h
      obtain ⟨kl, hl⟩ := intX_some hl
      obtain ⟨c, hcc, h⟩ := bindX h
      obtain ⟨kc, hcc⟩ := intX_some hcc
      obtain ⟨hb, h⟩ := guardX_some h
      obtain ⟨e1, e2⟩ := inj2 h; subst e1; subst e2
      simp only [Bool.and_eq_true, decide_eq_true_eq, Bool.not_eq_true', decide_eq_false_iff_not] at hb
      obtain ⟨⟨⟨⟨⟨⟨g1, g2⟩, g3⟩, g4⟩, g5⟩, g6⟩, g7⟩ := hb
      simp only [hu, hl, hcc, isInt]
      exact optK_of hi (optK_of hz ⟨g1, g2, g3, g4, g5, g6, g7, hk⟩)
    · cases h
  · obtain ⟨h, hk⟩ := one h
    exact cmpX_sound h hk
  · obtain ⟨h, hk⟩ := one h
    exact cvtX_sound h hk
  · split at h
    · cases h
    · rename_i u hne hu
      obtain ⟨e1, e2⟩ := inj2 h; subst e1; subst e2
      simp only [hu]
      exact hk
    · cases h
  · split at h
    · rename_i hev
      obtain ⟨po, hpo, h⟩ := bindX h
      obtain ⟨e1, e2⟩ := inj2 h; subst e1; subst e2
      simp only [hev]
      exact optK_of hpo hk
    · rename_i hev
      obtain ⟨e1, e2⟩ := inj2 h; subst e1; subst e2
      simp only [hev]; exact hk
    · rename_i hev
      obtain ⟨e1, e2⟩ := inj2 h; subst e1; subst e2
      simp only [hev]; exact hk
    · rename_i hev
      obtain ⟨e1, e2⟩ := inj2 h; subst e1; subst e2
      simp only [hev]; exact hk
    · cases h
  · obtain ⟨h, hk⟩ := one h
    exact assertX_sound h hk
  · obtain ⟨e1, e2⟩ := inj2 h; subst e1; subst e2; exact hk
  · split at h
    · rename_i hev
      obtain ⟨h, hk⟩ := one h
      simp only [hev]
      exact optK_of h hk
    · cases h
  · rename_i c
    split at h
    · rename_i f e0
      simp only [e0]
      exact callDX_sound hc h hk
    · rename_i e0
      simp only [e0]
      split at h
      · rename_i x t ha hty
        split at h
        · rename_i hu hev
          obtain ⟨e1, e2⟩ := inj2 h; subst e1; subst e2
          simp only [ha, hty, hu, hev]; exact hk
        · rename_i hu
          obtain ⟨m, hm, h⟩ := bindX h
          obtain ⟨e1, e2⟩ := inj2 h; subst e1; subst e2
          simp only [ha, hty, hu]
          exact optK_of (K := fun m : Nat => K (.int .i64 m) σ) hm hk
        · cases h
      · cases h
    · rename_i e0
      simp only [e0]
      split at h
      · rename_i s x t u ha hty
        split at h
        · rename_i hu
          obtain ⟨hb, h⟩ := guardX_some h
          simp only [ha, hty, hu]
          exact bif_of hb (appX_sound h hk)
        · cases h
      · cases h
    · rename_i e0
      simp only [e0]
      split at h
      · rename_i ha
        obtain ⟨e1, e2⟩ := inj2 h; subst e1; subst e2
        simp only [ha]; exact hk
      · cases h
    · rename_i e0
      simp only [e0]
      split at h
      · rename_i ha
        obtain ⟨e1, e2⟩ := inj2 h; subst e1; subst e2
        simp only [ha]; exact hk
      · cases h
    · cases h
    · rename_i n1 n2 n3 n4 n5 n6
      obtain ⟨x, hx, h⟩ := bindX h
      have go : optK (calleeD P env c) fun x => callD P det o.dst x.1 x.2 σ K := optK_of hx (callDX_sound hc h hk)
      split
      · rename_i f e; exact (n1 f e).elim
      · rename_i e; exact (n6 _ e).elim
      · rename_i e; exact (n6 _ e).elim
      · rename_i e; exact (n6 _ e).elim
      · rename_i e; exact (n6 _ e).elim
      · rename_i e; exact (n6 _ e).elim
      · exact go
  · obtain ⟨h, hk⟩ := one h
    have hp := purX_sound (K := (K · σ)) h hk
    exact hp

theorem putX_sound {n : Nat} {dst : Option Tmp} {v : DV} {st st' : PSt} (h : putX n dst v st = some st') {K : PSt → Prop} (hk : K st') : putK n dst v st K := by
  unfold putX at h; rw [putK_eq]
  split at h
  · injection h with h; subst h; exact hk
  · obtain ⟨hb, h⟩ := guardX_some h
    injection h with h; subst h
    exact bif_of hb hk
theorem nilB_X {call : CallX} {det : Det} {o : Oper} {env : Env} {σ σ' : Objs} {d : DV} (h : vopX P call det o env σ = some (d, σ')) : nilB P det o env σ = false := by
  cases hb : nilB P det o env σ with
  | false => rfl
  | true =>
    exfalso
    have none_of : ∀ (op : BinOp) (t e : TypeId) (x y yt) (id off len : Nat), (op = .eql ∨ op = .neq) → o.op = .binOp op t x y yt → ev env y = .nils → P.underlying t = some (.slice e) → ev env x = .ref id off len → (isObj σ id && !hasEls σ id) = true → False := by
      intro op t e x y yt id off len hop ho hy ht hx hb
      rw [Bool.and_eq_true, Bool.not_eq_true'] at hb
      unfold vopX at h
      rw [ho] at h
      have : cmpX P σ op t (ev env x) (ev env y) (purX P o env) = none := by
        rw [hx, hy]
        rcases hop with rfl | rfl <;> simp [cmpX, eqTopX, eqR, ht, eqNeed, hb.2, guardX]
      simp only [this] at h
      cases h
    have none_ofL : ∀ (op : BinOp) (t e : TypeId) (x y yt), (op = .eql ∨ op = .neq) → o.op = .binOp op t x y yt → ev env y = .nils → P.underlying t = some (.slice e) → ev env x = .list [] → False := by
      intro op t e x y yt hop ho hy ht hx
      unfold vopX at h
      rw [ho] at h
      have hp : purX P o env = none := by
        unfold purX
        rw [ho]
        have : (Op.binOp op t x y yt).operands.toList.all (fun x => (toV (ev env x)).isSome) = false := by simp [Op.operands, hx, toV]
        rw [this]; simp [guardX]
      have : cmpX P σ op t (ev env x) (ev env y) (purX P o env) = none := by
        rw [hx, hy, hp]
        rcases hop with rfl | rfl <;> simp [cmpX, eqTopX, eqR, ht]
      simp only [this] at h
      cases h
    unfold nilB at hb
    split at hb
    · rename_i t x y yt ho
      split at hb
      case h_2 => cases hb
      rename_i hye
      split at hb
      · rename_i e id off len ht hxe
        exact none_of _ _ _ _ _ _ _ _ _ (.inl rfl) ho hye ht hxe hb
      · rename_i e ht hxe
        exact none_ofL _ _ _ _ _ _ (.inl rfl) ho hye ht hxe
      · cases hb
    · rename_i t x y yt ho
      split at hb
      case h_2 => cases hb
      rename_i hye
      split at hb
      · rename_i e id off len ht hxe
        exact none_of _ _ _ _ _ _ _ _ _ (.inr rfl) ho hye ht hxe hb
      · rename_i e ht hxe
        exact none_ofL _ _ _ _ _ _ (.inr rfl) ho hye ht hxe
      · cases hb
    · cases hb
theorem popX_sound {call : CallX} (hc : CallOK P call) {n : Nat} {det : Det} {o : Oper} {st st' : PSt} (h : popX P call n det o st = some st') {K : PSt → Prop} (hk : K st') : pop P n det o st K := by
  unfold popX at h
  obtain ⟨⟨d, σ'⟩, hr, h⟩ := bindX h
  rw [pop_eq (nilB_X hr)]
  exact vopX_sound hc hr (putX_sound h hk)
theorem popsX_sound {call : CallX} (hc : CallOK P call) {n : Nat} {det : Det} {ops : Array Oper} {K : PSt → Prop} : ∀ (l : List Oper) (G : Kn) (st st' : PSt), popsX P call n det ops l G st = some st' → K st' → pops P n det ops l G st K
  | [], G, st, st', h, hk => by simp only [popsX] at h; injection h with h; subst h; exact hk
  | o :: rest, G, st, st', h, hk => by
    have put : ∀ {G' dst v}, ((putX n dst v st).bind fun s => popsX P call n det ops rest G' s) = some st' → putK n dst v st fun s => pops P n det ops rest G' s K := by
      intro G' dst v e
      obtain ⟨s, hs, e⟩ := bindX e
      exact putX_sound hs (popsX_sound hc rest _ s st' e hk)
    have pop' : ∀ {G'}, ((popX P call n det o st).bind fun s => popsX P call n det ops rest G' s) = some st' → pop P n det o st fun s => pops P n det ops rest G' s K := by
      intro G' e
      obtain ⟨s, hs, e⟩ := bindX e
      exact popX_sound hc hs (popsX_sound hc rest _ s st' e hk)
    unfold popsX at h; rw [pops_eq]
    cases hg : o.guard with
    | none =>
      simp only [hg] at h ⊢
      cases hp : knownPick G o.op with
      | some x => simp only [hp] at h ⊢; exact put h
      | none => simp only [hp] at h ⊢; exact pop' h
    | some jw =>
      obtain ⟨j, want⟩ := jw
      simp only [hg] at h ⊢
      cases ht : (ops[j]?).bind (·.dst) with
      | none => simp only [ht] at h; cases h
      | some t =>
        simp only [ht] at h ⊢
        cases hl : gl G t with
        | some x =>
          cases x with
          | some b =>
            simp only [hl] at h ⊢
            cases hb : (b == want) with
            | true =>
              simp only [hb, cond_true] at h ⊢
              cases hp : knownPick G o.op with
              | some x => simp only [hp] at h ⊢; exact put h
              | none => simp only [hp] at h ⊢; exact pop' h
            | false => simp only [hb, cond_false] at h ⊢; exact put h
          | none => simp only [hl] at h ⊢; exact put h
        | none =>
          simp only [hl] at h ⊢
          split at h
          · rename_i b hb
            simp only [hb]
            cases hw : (b == want) with
            | true =>
              have hw' : b = want := by simpa using hw
              simp only [hw, cond_true] at h
              refine ⟨fun _ => ?_, fun e => ?_⟩
              · cases hp : knownPick ((t, some (some want)) :: G) o.op with
                | some x => simp only [hp] at h ⊢; exact put h
                | none => simp only [hp] at h ⊢; exact pop' h
              · rw [hw'] at e; cases want <;> cases e
            | false =>
              have hw' : b = !want := by cases b <;> cases want <;> simp_all
              simp only [hw, cond_false] at h
              exact ⟨fun e => (by rw [hw'] at e; cases want <;> cases e), fun _ => put h⟩
          · cases h

theorem loopX_sound {F : PSt → (Exit → PSt → Prop) → Prop} {G : PSt → Option (Exit × PSt)} {k : Nat} (hG : ∀ st e st' (K : Exit → PSt → Prop), G st = some (e, st') → K e st' → F st K) {K : Exit → PSt → Prop} :
    ∀ (m : Nat) (st : PSt) (e : Exit) (st' : PSt), loopX G m st = some (e, st') → K e st' → loopK k F st K := by
  intro m st e st' h hk
  unfold loopK
  refine ⟨fun m st => loopX G m st = some (e, st'), m, st, .refl st, h, ?_⟩
  intro m st h
  cases m with
  | zero => cases h
  | succ m =>
    simp only [loopX] at h
    obtain ⟨⟨e1, s1⟩, h1, h⟩ := bindX h
    refine hG st e1 s1 _ h1 ?_
    cases e1 with
    | normal => exact ⟨m, s1, Nat.lt_succ_self m, .refl s1, h⟩
    | _ => obtain ⟨q1, q2⟩ := inj2 h; subst q1; subst q2; exact hk

theorem tryX_some {α β : Type} {f : α → Option β} {b : β} : ∀ {as : List α}, tryX f as = some b → ∃ a, a ∈ as ∧ f a = some b
  | [], h => by cases h
  | a :: as, h => by
    simp only [tryX] at h
    split at h
    · rename_i c hc; injection h with h; subst h; exact ⟨a, List.mem_cons_self .., hc⟩
    · obtain ⟨x, h1, h2⟩ := tryX_some h
      exact ⟨x, List.mem_cons_of_mem _ h1, h2⟩
theorem codeX_sound {call : CallX} (hc : CallOK P call) {n k lf : Nat} : ∀ (c : Code) (st : PSt) (e : Exit) (st' : PSt) (K : Exit → PSt → Prop), codeX P call n lf c st = some (e, st') → K e st' → pwp P n k c st K := by
  intro c
  induction c with
  | skip => intro st e st' K h hk; simp only [codeX] at h; obtain ⟨q1, q2⟩ := inj2 h; subst q1; subst q2; exact hk
  | region id ops draw =>
    intro st e st' K h hk
    simp only [codeX] at h
    unfold pwp
    cases draw with
    | true =>
      simp only [cond_true] at h ⊢
      obtain ⟨M, _, h⟩ := tryX_some h
      obtain ⟨hb, h⟩ := guardX_some h
      obtain ⟨s, hs, h⟩ := bindX h
      obtain ⟨q1, q2⟩ := inj2 h; subst q1; subst q2
      exact drawK.mkM M hb (popsX_sound hc _ _ _ _ hs hk)
    | false =>
      simp only [cond_false] at h ⊢
      obtain ⟨s, hs, h⟩ := bindX h
      obtain ⟨q1, q2⟩ := inj2 h; subst q1; subst q2
      cases ops.toList.any (·.guard.isSome) with
      | true => exact guardK.split (popsX_sound hc _ _ _ _ hs hk)
      | false => exact popsX_sound hc _ _ _ _ hs hk
  | seq a b iha ihb =>
    intro st e st' K h hk
    simp only [codeX] at h
    obtain ⟨⟨e1, s1⟩, h1, h⟩ := bindX h
    unfold pwp
    cases hasCond a with
    | true =>
      refine joinK.direct (iha st e1 s1 _ h1 ?_)
      cases e1 with
      | normal => exact join_go (ihb s1 e st' K h hk)
      | _ => obtain ⟨q1, q2⟩ := inj2 h; subst q1; subst q2; exact hk
    | false =>
      refine iha st e1 s1 _ h1 ?_
      cases e1 with
      | normal => exact ihb s1 e st' K h hk
      | _ => obtain ⟨q1, q2⟩ := inj2 h; subst q1; subst q2; exact hk
  | cond c a b iha ihb =>
    intro st e st' K h hk
    simp only [codeX] at h
    unfold pwp condK
    split at h
    · rename_i v hv
      simp only [hv]
      cases v with
      | true => exact ⟨fun _ => iha st e st' K h hk, fun q => by cases q⟩
      | false => exact ⟨(fun q => by cases q), fun _ => ihb st e st' K h hk⟩
    · cases h
  | block id b ih =>
    intro st e st' K h hk
    simp only [codeX] at h
    obtain ⟨⟨e1, s1⟩, h1, h⟩ := bindX h
    unfold pwp
    refine ih st e1 s1 _ h1 ?_
    cases e1 with
    | exit id' =>
      simp only at h ⊢
      cases hb : Nat.beq id' id with
      | true => rw [hb] at h; obtain ⟨q1, q2⟩ := inj2 h; subst q1; subst q2; exact hk
      | false => rw [hb] at h; obtain ⟨q1, q2⟩ := inj2 h; subst q1; subst q2; exact hk
    | _ => obtain ⟨q1, q2⟩ := inj2 h; subst q1; subst q2; exact hk
  | loop b ih =>
    intro st e st' K h hk
    simp only [codeX] at h
    unfold pwp
    exact loopX_sound (fun st e st' K h hk => ih st e st' K h hk) lf st e st' h hk
  | exit id => intro st e st' K h hk; simp only [codeX] at h; obtain ⟨q1, q2⟩ := inj2 h; subst q1; subst q2; exact hk
  | scope b ih =>
    intro st e st' K h hk
    simp only [codeX] at h
    obtain ⟨⟨e1, s1⟩, h1, h⟩ := bindX h
    unfold pwp
    refine ih st e1 s1 _ h1 ?_
    cases e1 with
    | goto l => cases h
    | _ => obtain ⟨q1, q2⟩ := inj2 h; subst q1; subst q2; exact hk
  | label l => intro st e st' K h hk; simp only [codeX] at h; obtain ⟨q1, q2⟩ := inj2 h; subst q1; subst q2; exact hk
  | ret => intro st e st' K h hk; simp only [codeX] at h; obtain ⟨q1, q2⟩ := inj2 h; subst q1; subst q2; exact hk
  | rangeFunc g ps assign body _ _ =>
    intro st e st' K h hk
    simp only [codeX] at h
    unfold pwp rangeK
    split at h
    · rename_i f cs hev
      obtain ⟨hb, h⟩ := guardX_some h
      obtain ⟨⟨d, σ'⟩, h1, h⟩ := bindX h
      obtain ⟨q1, q2⟩ := inj2 h; subst q1; subst q2
      simp only [hev]
      exact ⟨hb, callK.id (hc _ _ _ _ _ h1) hk⟩
    · cases h
  | _ => intro st e st' K h hk; cases h

theorem res1X_sound {st : PSt} {r : ResultVar} {d : DV} (h : res1X P st r = some d) {K : DV → Prop} (hk : K d) : res1 P st r K := by
  unfold res1X at h; unfold res1
  split at h
  · injection h with h; subst h; exact hk
  · split at h
    · rename_i hev
      obtain ⟨po, hpo, h⟩ := bindX h
      obtain ⟨ds, hds, h⟩ := bindX h
      simp only [hev]
      exact optK_of hpo (optK_of hds (partD_ld h hk))
    · cases h
theorem resLX_sound {st : PSt} : ∀ (rs : List ResultVar) (ds : List DV) (K : List DV → Prop), mapX (res1X P st) rs = some ds → K ds → resL P st rs K
  | [], ds, K, h, hk => by simp [mapX] at h; subst h; exact hk
  | r :: rs, ds, K, h, hk => by
    simp only [mapX] at h
    obtain ⟨d, hd, h⟩ := bindX h
    obtain ⟨ds', hds, h⟩ := bindX h
    injection h with h; subst h
    exact res1X_sound hd (resLX_sound rs ds' _ hds hk)
theorem resX_sound {fn : Func} {st : PSt} {d : DV} (h : resX P fn st = some d) {K : DV → Prop} (hk : K d) : resK P fn st K := by
  unfold resX at h; unfold resK
  split at h
  · rename_i hr; simp only [hr]; exact res1X_sound h hk
  · rename_i hne
    obtain ⟨ds, hds, h⟩ := bindX h
    injection h with h; subst h
    split
    · rename_i r hr; exact absurd hr (hne r)
    · exact resLX_sound _ ds _ hds hk

theorem runX_ok {ext : CallX} (he : CallOK P ext) {lf : Nat} : ∀ m, CallOK P (runX P ext lf m)
  | 0, f, ds, σ, d, σ', h => by cases h
  | m + 1, f, ds, σ, d, σ', h => by
    unfold runX at h
    split at h
    · rename_i r hr; injection h with h; subst h; exact he _ _ _ _ _ hr
    · split at h
      · rename_i fn hf
        split at h
        · rename_i c hb
          obtain ⟨h1, h⟩ := guardX_some h
          rw [Bool.and_eq_true, Bool.not_eq_true'] at h1
          obtain ⟨⟨e, st⟩, h2, h⟩ := bindX h
          refine FnS.mk hf hb h1.1 (Nat.le_of_ble_eq_true h1.2) (codeX_sound (runX_ok he m) c _ e st _ h2 ?_)
          have fin : ((resX P fn st).bind fun d => some (d, st.σ)) = some (d, σ') → resK P fn st (finSK σ.length st.σ fun d1 s1 => d1 = d ∧ s1 = σ') := by
            intro h
            obtain ⟨d', hd, h⟩ := bindX h
            obtain ⟨q1, q2⟩ := inj2 h; subst q1; subst q2
            exact resX_sound hd (.inl ⟨rfl, rfl⟩)
          cases e with
          | normal => exact fin h
          | ret => exact fin h
          | _ => cases h
        · cases h
      · cases h
/-- A closed call, reckoned. -/
theorem runX_fnC {ext : CallX} (he : CallOK P ext) {lf m : Nat} {f : FuncId} {ds : List DV} {r : DV} {s : Objs} (h : runX P ext lf m f ds [] = some (r, s)) (hd : ∀ d ∈ ds, Blw 0 d) (hr : Blw 0 r) : FnC P f ds (· = r) :=
  fnC_of (runX_ok he m _ _ _ _ _ h) hd hr
def trueX : Option (DV × Objs) → Bool
  | some (.bool true, _) => true
  | _ => false
/-- A closed law that answers true, reckoned. -/
theorem runX_true {ext : CallX} (he : CallOK P ext) (lf m : Nat) {f : FuncId} (h : trueX (runX P ext lf m f [] []) = true) : FnC P f [] (· = .bool true) := by
  unfold trueX at h
  split at h
  · rename_i s hs; exact runX_fnC he hs (by simp) (.bool true)
  · cases h
theorem noExt : CallOK P (fun _ _ _ => none) := fun f ds σ d σ' h => by cases h

end Go.Pv
