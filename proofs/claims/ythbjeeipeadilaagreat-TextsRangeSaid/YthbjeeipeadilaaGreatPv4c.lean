/- The walk over pure values: an operation comes to one value. -/
import Derived.Test.YthbjeeipeadilaaGreatPv4b
set_option linter.unusedSimpArgs false
set_option linter.unusedVariables false
namespace Go.Pv
open Go Go.RowKit
variable {P : Program} {M : Nat → Nat}

theorem obj_ext {σ t : Objs} {id : Nat} {po : PO} (h : obj σ id = some po) : obj (σ ++ t) id = some po := by
  have hlt := obj_lt h
  unfold obj at *
  rw [List.getElem?_append_left hlt]; exact h
theorem boxOk_ext {σ : Objs} (t : Objs) {d : DV} (h : boxOk σ d = true) : boxOk (σ ++ t) d = true := by
  have go : ∀ id, (obj σ id).isSome = true → (obj (σ ++ t) id).isSome = true := by
    intro id e
    cases ho : obj σ id with
    | none => rw [ho] at e; cases e
    | some po => rw [obj_ext ho]; rfl
  cases d <;> first | exact h | exact go _ h
theorem elsOf_ext {σ : Objs} (t : Objs) {d : DV} {x : List (List DV)} (h : elsOf σ d = some x) : elsOf (σ ++ t) d = some x := by
  cases d <;> first | exact h | (simp only [elsOf, Option.map_eq_some_iff] at h ⊢; obtain ⟨po, h1, h2⟩ := h; exact ⟨po, obj_ext h1, h2⟩)
theorem lenS_ext {σ : Objs} (t : Objs) {d : DV} {x : Nat} (h : lenS σ d = some x) : lenS (σ ++ t) d = some x := by
  cases d <;> first | exact h | (simp only [lenS, Option.map_eq_some_iff] at h ⊢; obtain ⟨po, h1, h2⟩ := h; exact ⟨po, obj_ext h1, h2⟩)

theorem entsOf_ext {σ : Objs} (t : Objs) {d : DV} {ds : List DV} (h : entsOf σ d = some ds) : entsOf (σ ++ t) d = some ds := by
  unfold entsOf at *
  split at h
  · exact h
  · rename_i id
    cases ho : obj σ id with
    | none => rw [ho] at h; cases h
    | some po => rw [ho] at h; rw [obj_ext ho]; exact h
  · cases h
theorem lookK_pt {xt : TypeId} {x i : DV} {ok : Bool} {σ : Objs} {K : DV → Prop} (hk : lookK P xt x i ok σ K) : ∃ d, K d ∧ ∀ (t : Objs) (K' : DV → Prop), K' d → lookK P xt x i ok (σ ++ t) K' := by
  unfold lookK at hk
  split at hk
  case h_2 => exact hk.elim
  rename_i kt et hu
  obtain ⟨hkt, hk⟩ := bif_true hk
  obtain ⟨ds, hds, hk⟩ := optK_some hk
  obtain ⟨r, hr, hk⟩ := optK_some hk
  cases r with
  | none =>
    obtain ⟨z, hz, hk⟩ := optK_some hk
    exact ⟨_, hk, fun t K' h => by unfold lookK; simp only [hu, hkt, cond_true, entsOf_ext t hds, hr, hz, optK]; exact h⟩
  | some y => exact ⟨_, hk, fun t K' h => by unfold lookK; simp only [hu, hkt, cond_true, entsOf_ext t hds, hr, optK]; exact h⟩

theorem sl3K_pt {M : Nat → Nat} {e : TypeId} {x hi mx : DV} {lo : Option DV} {σ : Objs} {K : DV → Objs → Prop} (hk : sl3K P (some M) e x lo hi mx σ K) : ∃ d, K d σ ∧ ∀ (t : Objs) (K' : DV → Objs → Prop), K' d (σ ++ t) → sl3K P (some M) e x lo hi mx (σ ++ t) K' := by
  unfold sl3K at hk
  obtain ⟨ku, zu, eh, hk1⟩ := isInt_some hk
  clear hk
  subst eh
  obtain ⟨km, zm, em, hk2⟩ := isInt_some hk1
  clear hk1
  subst em
  have go : ∀ zl : Int, (0 ≤ zl ∧ zl ≤ zu ∧ zu ≤ zm ∧ sl3M P (some M) e x zl zu zm σ K) → ∃ d, K d σ ∧ ∀ (t : Objs) (K' : DV → Objs → Prop), K' d (σ ++ t) → (0 ≤ zl ∧ zl ≤ zu ∧ zu ≤ zm ∧ sl3M P (some M) e x zl zu zm (σ ++ t) K') := by
    rintro zl ⟨h0, h1, h2, hk⟩
    unfold sl3M at hk ⊢
    split at hk
    · obtain ⟨hm, hk⟩ := hk
      obtain ⟨s, hs, hk⟩ := optK_some hk
      exact ⟨_, hk, fun t K' h => ⟨h0, h1, h2, hm, by rw [hs]; exact h⟩⟩
    · obtain ⟨s, hs, ha, hm, hk⟩ := optK_some hk
      exact ⟨_, hk, fun t K' h => ⟨h0, h1, h2, by rw [hs]; exact ⟨ha, hm, h⟩⟩⟩
    · exact hk.elim
    · exact hk.elim
  cases lo with
  | none =>
    obtain ⟨d, hkd, hp⟩ := go 0 hk2
    exact ⟨d, hkd, fun t K' h => by unfold sl3K; exact hp t K' h⟩
  | some y =>
    have hk3 : isInt y _ := hk2
    obtain ⟨k, z, ey, hk4⟩ := isInt_some hk3
    clear hk2 hk3
    subst ey
    obtain ⟨d, hkd, hp⟩ := go z hk4
    exact ⟨d, hkd, fun t K' h => by unfold sl3K; exact hp t K' h⟩

/-- What an operation comes to. -/
structure Pt (P : Program) (M : Nat → Nat) (o : Oper) (env : Env) (σ : Objs) (d : DV) (σ' : Objs) : Prop where
  here : ∀ K : DV → Objs → Prop, K d σ' → vop P (some M) o env σ K
  ro : roOp M o = true → σ' = σ
  grow : mkOp M o = true → ∃ xs, σ' = σ ++ xs
  ext : roOp M o = true → ∀ (t : Objs) (K : DV → Objs → Prop), K d (σ ++ t) → vop P (some M) o env (σ ++ t) K

/-- A read-only operation, by how it is told at any objects that are at least these. -/
theorem Pt.of_ro {o : Oper} {env : Env} {σ : Objs} {d : DV} (hm : mkOp M o = false) (h : ∀ (t : Objs) (K : DV → Objs → Prop), K d (σ ++ t) → vop P (some M) o env (σ ++ t) K) : Pt P M o env σ d σ :=
  ⟨fun K hk => by have := h [] K (by rw [List.append_nil]; exact hk); rwa [List.append_nil] at this, fun _ => rfl, (fun e => by rw [hm] at e; cases e), fun _ t K hk => h t K hk⟩
theorem Pt.of_mk {o : Oper} {env : Env} {σ : Objs} {d : DV} {xs : Objs} (hr : roOp M o = false) (h : ∀ (K : DV → Objs → Prop), K d (σ ++ xs) → vop P (some M) o env σ K) : Pt P M o env σ d (σ ++ xs) :=
  ⟨h, (fun e => by rw [hr] at e; cases e), fun _ => ⟨xs, rfl⟩, (fun e => by rw [hr] at e; cases e)⟩
theorem Pt.of_mut {o : Oper} {env : Env} {σ σ' : Objs} {d : DV} (hr : roOp M o = false) (hm : mkOp M o = false) (h : ∀ (K : DV → Objs → Prop), K d σ' → vop P (some M) o env σ K) : Pt P M o env σ d σ' :=
  ⟨h, (fun e => by rw [hr] at e; cases e), (fun e => by rw [hm] at e; cases e), (fun e => by rw [hr] at e; cases e)⟩

theorem ldK_pt {t : TypeId} {cs : List DV} {j : Nat} {K : DV → Prop} (hk : ldK P t cs j K) : ∃ d, K d ∧ ∀ K' : DV → Prop, K' d → ldK P t cs j K' := by
  unfold ldK at hk ⊢
  cases hs : shp P t with
  | none => rw [hs] at hk; exact hk.elim
  | some x =>
    obtain ⟨ag, m⟩ := x
    rw [hs] at hk
    cases ag with
    | true =>
      simp only at hk ⊢
      cases hb : Nat.ble (j + m) cs.length with
      | false => rw [hb] at hk; exact hk.elim
      | true => rw [hb] at hk; exact ⟨_, hk, fun K' h => h⟩
    | false =>
      by_cases hm : m = 1
      · subst hm
        simp only at hk ⊢
        obtain ⟨d, hd, hk⟩ := optK_some hk
        exact ⟨d, hk, fun K' h => by rw [hd]; exact h⟩
      · exfalso
        revert hk; split <;> simp_all
theorem isInt_pt {d : DV} {W : Int → Prop} (hk : isInt d W) : ∃ k z, d = .int k z ∧ W z := isInt_some hk
theorem bndK_pt {lo hi : Option DV} {n m : Nat} {K : Nat → Nat → Prop} (hk : bndK lo hi n m K) : ∃ l u, K l u ∧ ∀ K' : Nat → Nat → Prop, K' l u → bndK lo hi n m K' := by
  unfold bndK at hk ⊢
  cases hi with
  | none =>
    cases lo with
    | none => exact ⟨_, _, hk, fun _ h => h⟩
    | some l => obtain ⟨k, z, rfl, h0, h1, hk⟩ := isInt_some hk; exact ⟨_, _, hk, fun _ h => ⟨h0, h1, h⟩⟩
  | some u =>
    cases lo with
    | none => obtain ⟨k, z, rfl, h0, h1, hk⟩ := isInt_some hk; exact ⟨_, _, hk, fun _ h => ⟨h0, h1, h⟩⟩
    | some l =>
      simp only at hk ⊢
      obtain ⟨k, z, rfl, hk⟩ := isInt_some hk
      simp only [isInt] at hk ⊢
      obtain ⟨k', z', rfl, h0, h1, h2, hk⟩ := isInt_some hk
      exact ⟨_, _, hk, fun _ h => ⟨h0, h1, h2, h⟩⟩
theorem purK_pt {o : Oper} {env : Env} {K : DV → Prop} (hk : purK P o env K) : ∃ d, K d ∧ ∀ K' : DV → Prop, K' d → purK P o env K' := by
  unfold purK at hk ⊢
  cases hb : (notSel o.op && o.op.operands.toList.all fun x => (toV (ev env x)).isSome) with
  | false => rw [hb] at hk; exact hk.elim
  | true =>
    rw [hb] at hk
    simp only [cond_true] at hk ⊢
    split at hk
    · exact ⟨_, hk, fun K' h => h⟩
    · exact hk.elim

theorem all_ext {σ : Objs} (t : Objs) {l : List DV} (h : l.all (cellOk σ) = true) : l.all (cellOk (σ ++ t)) = true := by
  rw [List.all_eq_true] at *
  intro d hd
  have := h d hd
  have go : ∀ id, (obj σ id).isSome = true → (obj (σ ++ t) id).isSome = true := by
    intro id e
    cases ho : obj σ id with
    | none => rw [ho] at e; cases e
    | some po => rw [obj_ext ho]; rfl
  cases d <;> first | exact this | exact go _ this

theorem frz_ext : ∀ (F : List Nat) (σ t : Objs) (id : Nat) (po : PO), obj (frz F σ) id = some po → obj (frz F (σ ++ t)) id = some po
  | [], σ, t, id, po, h => obj_ext h
  | x :: F, σ, t, id, po, h => by
    simp only [frz] at h ⊢
    cases hx : obj σ x with
    | none =>
      rw [hx] at h
      simp only at h
      cases hy : obj (σ ++ t) x with
      | none => exact frz_ext F σ t id po h
      | some q =>
        -- what is beyond σ doesn't matter to what σ tells
        have hge : σ.length ≤ x := by
          rcases Nat.lt_or_ge x σ.length with hlt | hge
          · unfold obj at hx hy; rw [List.getElem?_append_left hlt] at hy
            split at hx
            · cases hx
            · rename_i hne; split at hy
              · rename_i po' hpo; exact absurd hpo (hne po')
              · cases hy
          · exact hge
        have : (σ ++ t).set x (some ⟨true, q.sz, q.ty, q.els⟩) = σ ++ t.set (x - σ.length) (some ⟨true, q.sz, q.ty, q.els⟩) := by
          rw [List.set_append_right _ _ hge]
        simp only
        rw [this]
        exact frz_ext F σ _ id po h
    | some q =>
      rw [hx] at h
      rw [obj_ext hx]
      simp only at h ⊢
      rw [List.set_append_left _ _ (obj_lt hx)]
      exact frz_ext F _ t id po h

theorem snap_mono {g g' : Nat → Option PO} (hg : ∀ id po, g id = some po → g' id = some po) {a b : DV} (h : Snap g a b) : Snap g' a b := by
  induction h with
  | pure d hb => exact .pure d hb
  | ref id off len po xs ho hx hel _ ih => exact .ref id off len po xs (hg _ _ ho) hx hel ih
  | agg cs ds hl _ ih => exact .agg cs ds hl ih
  | tup cs ds hl _ ih => exact .tup cs ds hl ih
  | iface t v d _ ih => exact .iface t v d ih
  | pobj id i j po es ds ho he hl _ ih => exact .pobj id i j po es ds (hg _ _ ho) he hl ih
theorem snaps_mono {g g' : Nat → Option PO} (hg : ∀ id po, g id = some po → g' id = some po) : ∀ {as bs : List DV}, Snaps g as bs → Snaps g' as bs
  | [], [], _ => trivial
  | [], _ :: _, h => h.elim
  | _ :: _, [], h => h.elim
  | _ :: _, _ :: _, h => ⟨snap_mono hg h.1, snaps_mono hg h.2⟩
theorem snaps_ext (F : List Nat) {σ : Objs} (t : Objs) {as bs : List DV} (h : Snaps (fobj (frz F σ)) as bs) : Snaps (fobj (frz F (σ ++ t))) as bs := by
  refine snaps_mono (fun id po e => ?_) h
  obtain ⟨h1, h2⟩ := fobj_some e
  unfold fobj
  rw [frz_ext F σ t id po h1]
  simp [h2]

theorem isObj_ext {σ : Objs} (t : Objs) {id : Nat} (h : isObj σ id = true) : isObj (σ ++ t) id = true := by
  unfold isObj at *
  split at h
  · rename_i po hpo; rw [obj_ext hpo]
  · cases h
theorem hasEls_ext {σ : Objs} (t : Objs) {id : Nat} (h : hasEls σ id = true) : hasEls (σ ++ t) id = true := by
  unfold hasEls at *
  split at h
  · rename_i po hpo; rw [obj_ext hpo]; exact h
  · cases h
theorem eqNeed_ext {σ : Objs} (t : Objs) {x y : DV} (h : eqNeed σ x y = true) : eqNeed (σ ++ t) x y = true := by
  unfold eqNeed at *
  split at h
  · exact hasEls_ext t h
  · exact isObj_ext t h
  · exact isObj_ext t h
  · exact isObj_ext t h
  · exact isObj_ext t h
  · first | rfl | (split <;> first | rfl | (exfalso; simp_all; done))
theorem eqTop_pt {t : TypeId} {x y : DV} {σ : Objs} {K : Bool → Prop} {D : Prop} (hk : eqTop P σ t x y K D) :
    (∃ r, K r ∧ ∀ (u : Objs) (K' : Bool → Prop) (D' : Prop), K' r → eqTop P (σ ++ u) t x y K' D') ∨ (D ∧ ∀ (u : Objs) (K' : Bool → Prop) (D' : Prop), D' → eqTop P (σ ++ u) t x y K' D') := by
  unfold eqTop at hk
  split at hk
  · obtain ⟨h1, hk⟩ := hk
    obtain ⟨r, hr, hk⟩ := optK_some hk
    exact .inl ⟨r, hk, fun u K' D' h => by unfold eqTop; exact ⟨h1, by rw [hr]; exact h⟩⟩
  · rename_i hne
    split at hk
    · rename_i r hr
      obtain ⟨hn, hk⟩ := bif_true hk
      refine .inl ⟨r, hk, fun u K' D' h => ?_⟩
      unfold eqTop
      split
      · exact (hne _ _ rfl rfl).elim
      · rw [hr]; simp only [eqNeed_ext u hn, cond_true]; exact h
    · rename_i hr
      refine .inr ⟨hk, fun u K' D' h => ?_⟩
      unfold eqTop
      split
      · exact (hne _ _ rfl rfl).elim
      · rw [hr]; exact h

theorem call_pt {o : Oper} {c : Call} (ho : o.op = .call c) (hnb : ∀ b, c.callee ≠ .builtin b) {env : Env} {f : FuncId} {ds : List DV} {σ : Objs} {K : DV → Objs → Prop}
    (hvop : ∀ (σ' : Objs) (K' : DV → Objs → Prop), callD P (some M) o.dst f ds σ' K' → vop P (some M) o env σ' K') (hk : callD P (some M) o.dst f ds σ K) : ∃ d σ', K d σ' ∧ Pt P M o env σ d σ' := by
  have hcl : roOp M o = Nat.beq (clsOf M o.dst) 0 ∧ mkOp M o = (Nat.beq (clsOf M o.dst) 1 || Nat.beq (clsOf M o.dst) 4) := by
    unfold roOp mkOp
    rw [ho]
    simp only
    cases hc : c.callee with
    | builtin b => exact absurd hc (hnb b)
    | value x => exact ⟨by simp, by simp⟩
    | invoke x n => exact ⟨by simp, by simp⟩
  unfold callD at hk
  simp only at hk
  generalize hq : clsOf M o.dst = q at *
  match q, hk with
  | 0, hk =>
    unfold callE at hk
    obtain ⟨F, ds', r, hs, hf, hF, hk⟩ := hk
    refine ⟨_, _, hk, .of_ro (by rw [hcl.2]; rfl) fun t' K' h => hvop _ _ ?_⟩
    unfold callD; simp only [hq]
    unfold callE; exact ⟨F, ds', r, snaps_ext F t' hs, hf, hF, h⟩
  | 1, hk =>
    unfold callM at hk
    obtain ⟨F, ds', isPtr, po, hs, hf, hz, hsca, hk⟩ := hk
    refine ⟨_, _, hk, .of_mk (by rw [hcl.1]; rfl) fun K' h => hvop _ _ ?_⟩
    unfold callD; simp only [hq]
    unfold callM; exact ⟨F, ds', isPtr, po, hs, hf, hz, hsca, h⟩
  | 4, hk =>
    unfold callG at hk
    obtain ⟨d2, xs, hall, hk⟩ := hk
    refine ⟨_, _, hk, .of_mk (by rw [hcl.1]; rfl) fun K' h => hvop _ _ ?_⟩
    unfold callD; simp only [hq]
    unfold callG; exact ⟨d2, xs, hall, h⟩
  | 2, hk =>
    unfold callW at hk
    obtain ⟨d2, σ2, hall, hk⟩ := hk
    refine ⟨_, _, hk, .of_mut (by rw [hcl.1]; rfl) (by rw [hcl.2]; rfl) fun K' h => hvop _ _ ?_⟩
    unfold callD; simp only [hq]
    unfold callW; exact ⟨d2, σ2, hall, h⟩
  | 3, hk =>
    unfold callW at hk
    obtain ⟨d2, σ2, hall, hk⟩ := hk
    refine ⟨_, _, hk, .of_mut (by rw [hcl.1]; rfl) (by rw [hcl.2]; rfl) fun K' h => hvop _ _ ?_⟩
    unfold callD; simp only [hq]
    unfold callW; exact ⟨d2, σ2, hall, h⟩
  | q + 5, hk =>
    simp only at hk
    unfold callW at hk
    obtain ⟨d2, σ2, hall, hk⟩ := hk
    refine ⟨_, _, hk, .of_mut (by rw [hcl.1]; rfl) (by rw [hcl.2]; rfl) fun K' h => hvop _ _ ?_⟩
    unfold callD; simp only [hq]
    unfold callW; exact ⟨d2, σ2, hall, h⟩

theorem vop_pt {o : Oper} {env : Env} {σ : Objs} {K : DV → Objs → Prop} (hk : vop P (some M) o env σ K) : ∃ d σ', K d σ' ∧ Pt P M o env σ d σ' := by
  unfold vop at hk
  split at hk
  · rename_i x ho
    exact ⟨_, _, hk, .of_ro (by simp [mkOp, ho]) fun t K h => by unfold vop; rw [ho]; exact h⟩
  · rename_i x ho
    exact ⟨_, _, hk, .of_ro (by simp [mkOp, ho]) fun t K h => by unfold vop; rw [ho]; exact h⟩
  · rename_i c x y ho
    split at hk
    · rename_i b hb
      cases b with
      | true => exact ⟨_, _, hk.1 rfl, .of_ro (by simp [mkOp, ho]) fun t K h => by unfold vop; rw [ho]; simp only [hb]; exact ⟨fun _ => h, fun e => by cases e⟩⟩
      | false => exact ⟨_, _, hk.2 rfl, .of_ro (by simp [mkOp, ho]) fun t K h => by unfold vop; rw [ho]; simp only [hb]; exact ⟨(fun e => by cases e), fun _ => h⟩⟩
    · exact hk.elim
  · rename_i t ho
    obtain ⟨cs, hz, hk⟩ := optK_some hk
    obtain ⟨hb, hk⟩ := bif_true hk
    exact ⟨_, _, hk, .of_mk (by simp [roOp, ho]) fun K h => by unfold vop; rw [ho]; simp only [hz, optK, hb, cond_true]; exact h⟩
  · rename_i t x ho
    obtain ⟨hb, hk⟩ := bif_true hk
    exact ⟨_, _, hk, .of_mk (by simp [roOp, ho]) fun K h => by unfold vop; rw [ho]; simp only [hb, cond_true]; exact h⟩
  · rename_i t parts ho
    obtain ⟨hb, hk⟩ := bif_true hk
    obtain ⟨cs, hz, hk⟩ := optK_some hk
    refine ⟨_, _, hk, .of_ro (by simp [mkOp, ho]) fun t K h => ?_⟩
    have hb' : parts.toList.all (fun p => boxOk (σ ++ t) (ev env p.2)) = true := List.all_eq_true.2 fun p hp => boxOk_ext t (List.all_eq_true.1 hb p hp)
    unfold vop; rw [ho]; simp only [hb', hz, optK, cond_true]; exact h
  · rename_i t len parts ho
    split at hk
    · rename_i e hu
      obtain ⟨i, hi, hk⟩ := optK_some hk
      obtain ⟨z, hz, hk⟩ := optK_some hk
      obtain ⟨hb, hk⟩ := bif_true hk
      obtain ⟨flat, hf, hk⟩ := optK_some hk
      obtain ⟨hb2, hk⟩ := bif_true hk
      cases hal : asList (some M) o.dst with
      | false =>
        rw [hal] at hk
        exact ⟨_, _, hk, .of_mk (by simp only [roOp, ho]; exact hal) fun K h => by unfold vop; rw [ho]; simp only [hu, hi, hz, optK, hb, cond_true, hf, hb2, hal, cond_false]; exact h⟩
      | true =>
        rw [hal] at hk
        obtain ⟨hpl, hk⟩ := bif_true hk
        refine ⟨_, _, hk, .of_ro (by simp only [mkOp, ho]; rw [show Nat.beq (clsOf M o.dst) 3 = true from hal]; rfl) fun t K h => ?_⟩
        rw [Bool.and_eq_true, Bool.and_eq_true, Bool.and_eq_true] at hb
        have hb' : (parts.toList.all (fun p => boxOk (σ ++ t) (ev env p.2)) && Nat.ble 1 i.size && Nat.beq z.length i.size && Nat.ble (len * i.size) 16777216) = true := by
          rw [Bool.and_eq_true, Bool.and_eq_true, Bool.and_eq_true]
          exact ⟨⟨⟨List.all_eq_true.2 fun p hp => boxOk_ext t (List.all_eq_true.1 hb.1.1.1 p hp), hb.1.1.2⟩, hb.1.2⟩, hb.2⟩
        unfold vop; rw [ho]; simp only [hu, hi, hz, optK, hb', cond_true, hf, all_ext t hb2, hal, hpl]; exact h
    · exact hk.elim
  · rename_i t x ho
    split at hk
    · rename_i id i j hev
      obtain ⟨po, hpo, hk⟩ := optK_some hk
      obtain ⟨ds, hds, hk⟩ := optK_some hk
      obtain ⟨d, hk, hld⟩ := ldK_pt hk
      refine ⟨_, _, hk, .of_ro (by simp [mkOp, ho]) fun t' K h => ?_⟩
      unfold vop; rw [ho]; simp only [hev, obj_ext hpo, optK, hds]; exact hld _ h
    · rename_i cs hev
      obtain ⟨d, hk, hld⟩ := ldK_pt hk
      refine ⟨_, _, hk, .of_ro (by simp [mkOp, ho]) fun t' K h => ?_⟩
      unfold vop; rw [ho]; simp only [hev]; exact hld _ h
    · exact hk.elim
  · rename_i t x y ho
    split at hk
    · rename_i id i j ag m hev hs
      obtain ⟨po, hpo, hk⟩ := optK_some hk
      obtain ⟨ds, hds, hk⟩ := optK_some hk
      obtain ⟨hb, hk⟩ := bif_true hk
      exact ⟨_, _, hk, .of_mut (by simp [roOp, ho]) (by simp [mkOp, ho]) fun K h => by unfold vop; rw [ho]; simp only [hev, hs, hpo, optK, hds, hb, cond_true]; exact h⟩
    · exact hk.elim
  · rename_i t x f ho
    split at hk
    · rename_i id i j off u hev hf
      obtain ⟨po, hpo, hk⟩ := optK_some hk
      exact ⟨_, _, hk, .of_ro (by simp [mkOp, ho]) fun t' K h => by unfold vop; rw [ho]; simp only [hev, hf, obj_ext hpo, optK]; exact h⟩
    · rename_i cs off u hev hf
      exact ⟨_, _, hk, .of_ro (by simp [mkOp, ho]) fun t' K h => by unfold vop; rw [ho]; simp only [hev, hf]; exact h⟩
    · exact hk.elim
  · rename_i t x f ho
    split at hk
    · rename_i cs off u hev hf
      obtain ⟨d, hk, hld⟩ := ldK_pt hk
      exact ⟨_, _, hk, .of_ro (by simp [mkOp, ho]) fun t' K h => by unfold vop; rw [ho]; simp only [hev, hf]; exact hld _ h⟩
    · exact hk.elim
  · rename_i t x i ho
    split at hk
    · rename_i e hu
      unfold ixK at hk
      obtain ⟨k, z, hz, hk⟩ := isInt_some hk
      obtain ⟨s, hs, hk⟩ := optK_some hk
      split at hk
      · rename_i id off len hev
        obtain ⟨h0, h1, hk⟩ := hk
        obtain ⟨po, hpo, hk⟩ := optK_some hk
        obtain ⟨hb, hk⟩ := bif_true hk
        exact ⟨_, _, hk, .of_ro (by simp [mkOp, ho]) fun t' K h => by unfold vop; rw [ho]; simp only [hu, ixK, hz, isInt, hs, optK, hev, obj_ext hpo, hb, cond_true]; exact ⟨h0, h1, h⟩⟩
      · rename_i xs hev
        obtain ⟨h0, h1, hk⟩ := hk
        obtain ⟨ds, hds, hk⟩ := optK_some hk
        obtain ⟨hb, hk⟩ := bif_true hk
        exact ⟨_, _, hk, .of_ro (by simp [mkOp, ho]) fun t' K h => by unfold vop; rw [ho]; simp only [hu, ixK, hz, isInt, hs, optK, hev, hds, hb, cond_true]; exact ⟨h0, h1, h⟩⟩
      · exact hk.elim
    · rename_i m e hu
      unfold ixaK at hk
      obtain ⟨k, z, hz, hk⟩ := isInt_some hk
      obtain ⟨s, hs, hk⟩ := optK_some hk
      obtain ⟨h0, h1, hk⟩ := hk
      split at hk
      · rename_i id b j hev
        obtain ⟨po, hpo, hk⟩ := optK_some hk
        exact ⟨_, _, hk, .of_ro (by simp [mkOp, ho]) fun t' K h => by unfold vop; rw [ho]; simp only [hu, ixaK, hz, isInt, hs, optK, hev, obj_ext hpo]; exact ⟨h0, h1, h⟩⟩
      · rename_i cs hev
        exact ⟨_, _, hk, .of_ro (by simp [mkOp, ho]) fun t' K h => by unfold vop; rw [ho]; simp only [hu, ixaK, hz, isInt, hs, optK, hev]; exact ⟨h0, h1, h⟩⟩
      · exact hk.elim
    · exact hk.elim
  · rename_i t x i ho
    split at hk
    · rename_i s hu hev
      obtain ⟨k, z, hz, h0, hk⟩ := isInt_some hk
      obtain ⟨b, hb, hk⟩ := optK_some hk
      exact ⟨_, _, hk, .of_ro (by simp [mkOp, ho]) fun t' K h => by unfold vop; rw [ho]; simp only [hu, hev, hz, isInt, hb, optK]; exact ⟨h0, h⟩⟩
    · rename_i m e cs hu hev
      obtain ⟨k, z, hz, hk⟩ := isInt_some hk
      obtain ⟨s, hs, hk⟩ := optK_some hk
      obtain ⟨h0, h1, hk⟩ := hk
      obtain ⟨d, hk, hld⟩ := ldK_pt hk
      exact ⟨_, _, hk, .of_ro (by simp [mkOp, ho]) fun t' K h => by unfold vop; rw [ho]; simp only [hu, hev, hz, isInt, hs, optK]; exact ⟨h0, h1, hld _ h⟩⟩
    · exact hk.elim
  · rename_i t x lo hi mx ho
    split at hk
    · rename_i s hu hev
      obtain ⟨l, u, hk, hb⟩ := bndK_pt hk
      exact ⟨_, _, hk, .of_ro (by simp [mkOp, ho]) fun t' K h => by unfold vop; rw [ho]; simp only [hu, hev]; exact hb _ h⟩
    · rename_i e hu hev
      obtain ⟨s, hs, hk⟩ := optK_some hk
      obtain ⟨l, u, hk, hb⟩ := bndK_pt hk
      exact ⟨_, _, hk, .of_ro (by simp [mkOp, ho]) fun t' K h => by unfold vop; rw [ho]; simp only [hu, hev, hs, optK]; exact hb _ h⟩
    · rename_i e xs hu hev
      obtain ⟨s, hs, hall, hk⟩ := optK_some hk
      obtain ⟨l, u, hk, hb⟩ := bndK_pt hk
      exact ⟨_, _, hk, .of_ro (by simp [mkOp, ho]) fun t' K h => by unfold vop; rw [ho]; simp only [hu, hev, hs, optK]; exact ⟨hall, hb _ h⟩⟩
    · rename_i e id off len hu hev
      obtain ⟨s, hs, hk⟩ := optK_some hk
      obtain ⟨po, hpo, hk⟩ := optK_some hk
      obtain ⟨hb, hk⟩ := bif_true hk
      obtain ⟨l, u, hk, hbd⟩ := bndK_pt hk
      exact ⟨_, _, hk, .of_ro (by simp [mkOp, ho]) fun t' K h => by unfold vop; rw [ho]; simp only [hu, hev, hs, optK, obj_ext hpo, hb, cond_true]; exact hbd _ h⟩
    · rename_i e mo hu
      split at hk
      case h_2 => exact hk.elim
      rename_i uo
      obtain ⟨d, hk, hp⟩ := sl3K_pt hk
      exact ⟨_, _, hk, .of_ro (by simp [mkOp, ho]) fun t' K h => by unfold vop; rw [ho]; simp only [hu]; exact hp t' _ h⟩
    · exact hk.elim
  · rename_i t l c ho
    split at hk
    · rename_i e hu
      obtain ⟨i, hi, hk⟩ := optK_some hk
      obtain ⟨z, hz, hk⟩ := optK_some hk
      obtain ⟨kl, lz, el, hk⟩ := isInt_some hk
      obtain ⟨kc, cz, ec, hk⟩ := isInt_some hk
      obtain ⟨h0, h1, h2, h3, h4, h5, h6, hk⟩ := hk
      exact ⟨_, _, hk, .of_mk (by simp [roOp, ho]) fun K h => by unfold vop; rw [ho]; simp only [hu, hi, hz, optK, el, ec, isInt]; exact ⟨h0, h1, h2, h3, h4, h5, h6, h⟩⟩
    · exact hk.elim
  · rename_i op t x y yt ho
    unfold cmpK at hk
    have cmp : ∀ (neg : Bool), (op = bif neg then .neq else .eql) → eqTop P σ t (ev env x) (ev env y) (fun r => K (.bool (bif neg then !r else r)) σ) (purK P o env (K · σ)) → ∃ d σ', K d σ' ∧ Pt P M o env σ d σ' := by
      intro neg hop hk
      rcases eqTop_pt hk with ⟨r, hk, hp⟩ | ⟨hk, hp⟩
      · refine ⟨_, _, hk, .of_ro (by simp [mkOp, ho]) fun t' K h => ?_⟩
        unfold vop; rw [ho]; subst hop
        cases neg <;> exact hp _ _ _ h
      · obtain ⟨d, hk, hp2⟩ := purK_pt hk
        refine ⟨_, _, hk, .of_ro (by simp [mkOp, ho]) fun t' K h => ?_⟩
        unfold vop; rw [ho]; subst hop
        cases neg <;> exact hp _ _ _ (hp2 _ h)
    split at hk
    · exact cmp false rfl hk
    · exact cmp true rfl hk
    rename_i n1 n2
    have hcb : ∀ (σ : Objs) (K : DV → Prop) (D : Prop), cmpK P σ op t (ev env x) (ev env y) K D = binK op (ev env x) (ev env y) K D := fun σ K D => by
      unfold cmpK; split
      · exact (n1 rfl).elim
      · exact (n2 rfl).elim
      · rfl
    clear n1 n2 cmp
    unfold binK at hk
    split at hk
    · rename_i k p k' q hxe hye
      obtain ⟨h1, h2, hk⟩ := hk
      exact ⟨_, _, hk, .of_ro (by simp [mkOp, ho]) fun t' K h => by unfold vop; rw [ho]; simp only [hcb, binK, hxe, hye]; exact ⟨h1, h2, h⟩⟩
    · rename_i k p k' q hxe hye
      obtain ⟨h1, h2, hk⟩ := hk
      exact ⟨_, _, hk, .of_ro (by simp [mkOp, ho]) fun t' K h => by unfold vop; rw [ho]; simp only [hcb, binK, hxe, hye]; exact ⟨h1, h2, h⟩⟩
    · rename_i k p k' q hxe hye
      obtain ⟨h1, hk⟩ := hk
      exact ⟨_, _, hk, .of_ro (by simp [mkOp, ho]) fun t' K h => by unfold vop; rw [ho]; simp only [hcb, binK, hxe, hye]; exact ⟨h1, h⟩⟩
    · rename_i k p k' q hxe hye
      obtain ⟨h1, hk⟩ := hk
      exact ⟨_, _, hk, .of_ro (by simp [mkOp, ho]) fun t' K h => by unfold vop; rw [ho]; simp only [hcb, binK, hxe, hye]; exact ⟨h1, h⟩⟩
    · rename_i p q hxe hye
      obtain ⟨h1, hk⟩ := hk
      exact ⟨_, _, hk, .of_ro (by simp [mkOp, ho]) fun t' K h => by unfold vop; rw [ho]; simp only [hcb, binK, hxe, hye]; exact ⟨h1, h⟩⟩
    · rename_i k p k' q hxe hye
      obtain ⟨h1, hk⟩ := hk
      obtain ⟨r, hr, hk⟩ := optK_some hk
      exact ⟨_, _, hk, .of_ro (by simp [mkOp, ho]) fun t' K h => by unfold vop; rw [ho]; simp only [hcb, binK, hxe, hye]; exact ⟨h1, by rw [hr]; exact h⟩⟩
    · rename_i k p k' q hxe hye
      obtain ⟨h1, hk⟩ := hk
      obtain ⟨r, hr, hk⟩ := optK_some hk
      exact ⟨_, _, hk, .of_ro (by simp [mkOp, ho]) fun t' K h => by unfold vop; rw [ho]; simp only [hcb, binK, hxe, hye]; exact ⟨h1, by rw [hr]; exact h⟩⟩
    · rename_i k p k' q hxe hye
      obtain ⟨h1, hk⟩ := hk
      obtain ⟨r, hr, hk⟩ := optK_some hk
      exact ⟨_, _, hk, .of_ro (by simp [mkOp, ho]) fun t' K h => by unfold vop; rw [ho]; simp only [hcb, binK, hxe, hye]; exact ⟨h1, by rw [hr]; exact h⟩⟩
    · rename_i k p k' q hxe hye
      obtain ⟨h1, hk⟩ := hk
      obtain ⟨r, hr, hk⟩ := optK_some hk
      exact ⟨_, _, hk, .of_ro (by simp [mkOp, ho]) fun t' K h => by unfold vop; rw [ho]; simp only [hcb, binK, hxe, hye]; exact ⟨h1, by rw [hr]; exact h⟩⟩
    · rename_i g1 g2 g3 g4 g5 g6 g7 g8 g9
      obtain ⟨d, hk, hp⟩ := purK_pt hk
      refine ⟨_, _, hk, .of_ro (by simp [mkOp, ho]) fun t' K h => ?_⟩
      unfold vop; rw [ho]; simp only [hcb]
      unfold binK
      split
      · rename_i e1 e2; exact (g1 _ _ _ _ rfl e1 e2).elim
      · rename_i e1 e2; exact (g2 _ _ _ _ rfl e1 e2).elim
      · rename_i e1 e2; exact (g3 _ _ _ _ rfl e1 e2).elim
      · rename_i e1 e2; exact (g4 _ _ _ _ rfl e1 e2).elim
      · rename_i e1 e2; exact (g5 _ _ rfl e1 e2).elim
      · rename_i e1 e2; exact (g6 _ _ _ _ rfl e1 e2).elim
      · rename_i e1 e2; exact (g7 _ _ _ _ rfl e1 e2).elim
      · rename_i e1 e2; exact (g8 _ _ _ _ rfl e1 e2).elim
      · rename_i e1 e2; exact (g9 _ _ _ _ rfl e1 e2).elim
      · exact hp _ h
  · rename_i s t x ho
    unfold cvtK at hk
    cases hb : isSl (ev env x) with
    | false =>
      rw [hb] at hk
      simp only [cond_false] at hk
      split at hk
      · rename_i r hr0
        exact ⟨_, _, hk, .of_ro (by simp [mkOp, ho]) fun t' K h => by unfold vop; rw [ho]; simp only [cvtK, hb, cond_false, hr0]; exact h⟩
      rename_i hr0
      obtain ⟨d, hk, hp⟩ := purK_pt hk
      exact ⟨_, _, hk, .of_ro (by simp [mkOp, ho]) fun t' K h => by unfold vop; rw [ho]; simp only [cvtK, hb, cond_false, hr0]; exact hp _ h⟩
    | true =>
      rw [hb] at hk
      simp only [cond_true] at hk
      split at hk
      · rename_i e hs ht
        split at hk
        · rename_i hu
          obtain ⟨els, hels, hk⟩ := optK_some hk
          obtain ⟨bs, hbs, hk⟩ := optK_some hk
          exact ⟨_, _, hk, .of_ro (by simp [mkOp, ho]) fun t' K h => by unfold vop; rw [ho]; simp only [cvtK, hb, cond_true, hs, ht, hu, elsOf_ext t' hels, hbs, optK]; exact h⟩
        · exact hk.elim
      · exact hk.elim
  · rename_i t x ho
    split at hk
    · exact hk.elim
    · rename_i u hne hu
      refine ⟨_, _, hk, .of_ro (by simp [mkOp, ho]) fun t' K h => ?_⟩
      unfold vop; rw [ho]; simp only [hu]; exact h
    · exact hk.elim
  · rename_i x ho
    split at hk
    · rename_i id i j hev
      obtain ⟨po, hpo, hk⟩ := optK_some hk
      exact ⟨_, _, hk, .of_ro (by simp [mkOp, ho]) fun t' K h => by unfold vop; rw [ho]; simp only [hev, obj_ext hpo, optK]; exact h⟩
    · rename_i cs hev
      exact ⟨_, _, hk, .of_ro (by simp [mkOp, ho]) fun t' K h => by unfold vop; rw [ho]; simp only [hev]; exact h⟩
    · rename_i f fs cs hev
      exact ⟨_, _, hk, .of_ro (by simp [mkOp, ho]) fun t' K h => by unfold vop; rw [ho]; simp only [hev]; exact h⟩
    · rename_i t d hev
      exact ⟨_, _, hk, .of_ro (by simp [mkOp, ho]) fun t' K h => by unfold vop; rw [ho]; simp only [hev]; exact h⟩
    · exact hk.elim
  · rename_i x xt t ok ho
    have key : ∃ d, K d σ ∧ ∀ K' : DV → Prop, K' d → assertK P t ok (ev env x) K' := by
      unfold assertK at hk ⊢
      split at hk
      · exact hk.elim
      · rename_i u t' d hne hu hev
        cases hb : Nat.beq t' t with
        | true =>
          rw [hb] at hk
          exact ⟨_, hk, fun K' h => h⟩
        | false =>
          rw [hb] at hk
          cases ok with
          | false => exact hk.elim
          | true =>
            obtain ⟨z, hz, hk⟩ := optK_some hk
            exact ⟨_, hk, fun K' h => by simp only [hz, optK, cond_true, cond_false]; exact h⟩
      · rename_i u hne hu hev
        cases ok with
        | false => exact hk.elim
        | true =>
          obtain ⟨z, hz, hk⟩ := optK_some hk
          exact ⟨_, hk, fun K' h => by simp only [hz, optK, cond_true]; exact h⟩
      · exact hk.elim
    obtain ⟨d, hk, hp⟩ := key
    exact ⟨_, _, hk, .of_ro (by simp [mkOp, ho]) fun t' K h => by unfold vop; rw [ho]; exact hp _ h⟩
  · rename_i fn fs cs ho
    exact ⟨_, _, hk, .of_ro (by simp [mkOp, ho]) fun t' K h => by unfold vop; rw [ho]; exact h⟩
  · rename_i x i ho
    split at hk
    · rename_i ds hev
      obtain ⟨d, hd, hk⟩ := optK_some hk
      exact ⟨_, _, hk, .of_ro (by simp [mkOp, ho]) fun t' K h => by unfold vop; rw [ho]; simp only [hev, hd, optK]; exact h⟩
    · exact hk.elim
  · rename_i xt x i ok ho
    obtain ⟨d, hk, hp⟩ := lookK_pt hk
    exact ⟨_, _, hk, .of_ro (by simp [mkOp, ho]) fun t' K h => by unfold vop; rw [ho]; exact hp t' _ h⟩
  · exact hk.elim
  · exact hk.elim
  · exact hk.elim
  · exact hk.elim
  · exact hk.elim
  · exact hk.elim
  · rename_i c ho
    split at hk
    · rename_i f hc
      exact call_pt ho (fun b e => by rw [hc] at e; cases e) (fun σ' K' h => by unfold vop; rw [ho]; simp only [hc]; exact h) hk
    · rename_i hc
      split at hk
      · rename_i x t ha hty
        split at hk
        · rename_i s hu hev
          exact ⟨_, _, hk, .of_ro (by simp [mkOp, ho, hc]) fun t' K h => by unfold vop; rw [ho]; simp only [hc, ha, hty, hu, hev]; exact h⟩
        · rename_i e hu
          obtain ⟨m, hm, hk⟩ := optK_some hk
          exact ⟨_, _, hk, .of_ro (by simp [mkOp, ho, hc]) fun t' K h => by unfold vop; rw [ho]; simp only [hc, ha, hty, hu, lenS_ext t' hm, optK]; exact h⟩
        · rename_i kt et hu
          obtain ⟨es, hes, hk⟩ := optK_some hk
          exact ⟨_, _, hk, .of_ro (by simp [mkOp, ho, hc]) fun t' K h => by unfold vop; rw [ho]; simp only [hc, ha, hty, hu, entsOf_ext t' hes, optK]; exact h⟩
        · exact hk.elim
      · exact hk.elim
    · rename_i hc
      split at hk
      · rename_i s x t u ha hty
        split at hk
        · rename_i e hu
          obtain ⟨hb, hk⟩ := bif_true hk
          unfold appK at hk
          obtain ⟨i, hi, hk⟩ := optK_some hk
          obtain ⟨news, hnews, h1, h2, h3, hk⟩ := optK_some hk
          split at hk
          · rename_i hev
            obtain ⟨h4, h5, hk⟩ := hk
            exact ⟨_, _, hk, .of_mut (by simp [roOp, ho, hc]) (by simp [mkOp, ho, hc]) fun K h => by unfold vop; rw [ho]; simp only [hc, ha, hty, hu, hb, cond_true, appK, hi, hnews, optK, hev]; exact ⟨h1, h2, h3, h4, h5, h⟩⟩
          · rename_i id off len hev
            obtain ⟨h4, hk⟩ := hk
            obtain ⟨po, hpo, h5, h6, h7, h8, h9, h10, hk⟩ := optK_some hk
            exact ⟨_, _, hk, .of_mut (by simp [roOp, ho, hc]) (by simp [mkOp, ho, hc]) fun K h => by unfold vop; rw [ho]; simp only [hc, ha, hty, hu, hb, cond_true, appK, hi, hnews, optK, hev, hpo]; exact ⟨h1, h2, h3, h4, h5, h6, h7, h8, h9, h10, h⟩⟩
          · exact hk.elim
        · exact hk.elim
      · exact hk.elim
    · split at hk
      · split at hk
        · exact hk.elim
        · exact hk.elim
      · exact hk.elim
    · rename_i hc
      split at hk
      · rename_i hargs
        exact ⟨_, _, hk, .of_ro (by simp [mkOp, ho, hc]) fun t' K h => by unfold vop; rw [ho]; simp only [hc, hargs]; exact h⟩
      · exact hk.elim
    · rename_i hc
      split at hk
      · rename_i hargs
        exact ⟨_, _, hk, .of_ro (by simp [mkOp, ho, hc]) fun t' K h => by unfold vop; rw [ho]; simp only [hc, hargs]; exact h⟩
      · exact hk.elim
    · exact hk.elim
    · rename_i n1 n2 n3 n4 n5 n6
      obtain ⟨x, hx, hk⟩ := optK_some hk
      refine call_pt ho (fun b e => n6 b e) (fun σ' K' h => ?_) hk
      unfold vop; rw [ho]
      simp only [hx, optK]; exact h
  · rename_i hne
    obtain ⟨d, hk, hp⟩ := purK_pt hk
    refine ⟨_, _, hk, .of_ro ?_ fun t' K h => ?_⟩
    · unfold mkOp; split <;> simp_all
    · unfold vop; split <;> first | exact hp _ h | (exfalso; simp_all; done) | (exfalso; simp_all; rename_i hx hq; exact hx _ _ _ _ _ rfl rfl rfl rfl rfl) | (exfalso; simp_all; rename_i hx; exact hx _ _ _ _ rfl rfl rfl rfl) | (exfalso; simp_all; rename_i hx hq; exact hx _ _ _ _ rfl rfl rfl rfl) | (exfalso; simp_all; rename_i hx; exact absurd (((hx _ _ _).1 rfl rfl rfl).symm.trans ((hx _ _ _).2 rfl rfl rfl)) Bool.noConfusion) | (exfalso; simp_all; rename_i hx hq; exact absurd (((hx _ _ _).1 rfl rfl rfl).symm.trans ((hx _ _ _).2 rfl rfl rfl)) Bool.noConfusion)

end Go.Pv
