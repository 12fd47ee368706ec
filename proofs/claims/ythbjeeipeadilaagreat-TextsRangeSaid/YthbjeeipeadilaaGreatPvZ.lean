/- A call, reckoned, its answer told as what is read. -/
import Derived.Test.YthbjeeipeadilaaGreatPvY
set_option linter.unusedSimpArgs false
set_option linter.unusedVariables false
set_option maxRecDepth 10000
namespace Go.Pv
open Go Go.RowKit
variable {P : Program}
/-- A contract without memory of the caller's whose answer is told as what is read. -/
theorem FnS.toC {f : FuncId} {ds : List DV} {R : DV → Objs → Prop} {R' : DV → Prop} (h : FnS P f ds [] R) (hp : ∀ d ∈ ds, Blw 0 d) (hs : ∀ d σ, R d σ → ∃ d', Snap (obj σ) d d' ∧ R' d') (hpr : ∀ d, R' d → Blw 0 d) : FnC P f ds R' := by
  refine ⟨hp, hpr, fun w0 h0 vs hview hsz hrep => ?_⟩
  obtain ⟨_, _, h', β, hi, _⟩ := sim_start (m := vs.size) hview hsz (by omega) hrep
  have hi0 : Inv ⟨w0, h0, ([] : Objs).length, fun _ => .no, []⟩ [] h0 (fun _ => .no) w0 :=
    { os := rfl, tape := rfl, output := rfl, size := Nat.le_refl _, view := hview, hle := HLe.refl _, hnew := fun b o e => .inl ⟨e, lt_of_some (hview b o e)⟩,
      own := fun _ _ _ _ _ _ e => (by cases e), unborn := fun _ _ => rfl, inj := fun _ _ _ _ _ _ _ _ _ _ _ e => (by cases e), live := fun id po e => (by simp [obj] at e),
      objs := fun _ _ _ _ _ _ e => (by cases e), frame := fun _ _ _ => rfl, gho := fun id hid => absurd hid (Nat.not_lt_zero id), born := fun id hid => absurd hid (Nat.not_lt_zero id) }
  have key : ∀ v w, (∃ d σ h β, R d σ ∧ Inv ⟨w0, h0, ([] : Objs).length, fun _ => .no, []⟩ σ h β w ∧ Rep h β v d) → ∃ d h', R' d ∧ Rep h' (fun _ => .no) v d ∧ Below w0.heap.size w0 w ∧
      (∀ b o, h' b = some o → w.heap[b]? = some o) ∧ HLe h0 h' ∧ (∀ b o, h' b = some o → (h0 b = some o ∧ b < w0.heap.size) ∨ w0.heap.size ≤ b) := by
    rintro v w ⟨d, σ, h, β, hR, hi, hr⟩
    have hi : Inv (Ctx.plain w0 h0) σ h β w := hi
    obtain ⟨d', hsn, hR'⟩ := hs d σ hR
    refine ⟨d', frozenHp h β w, hR', rep_snap hi hsn hr, ⟨hi.os, hi.tape, hi.output, hi.size, fun b hb => hi.frame b hb Ctx.plain_L⟩, ?_, hi.hle.trans frozen_le, ?_⟩
    · intro b o e
      unfold frozenHp at e
      cases hx : h b with
      | some o' => rw [hx] at e; injection e with e; subst e; exact hi.view b _ hx
      | none =>
        rw [hx] at e
        simp only at e
        split at e
        · exact e
        · cases e
    · intro b o e
      unfold frozenHp at e
      cases hx : h b with
      | some o' => rw [hx] at e; injection e with e; subst e; exact (hi.hnew b _ hx).imp id (fun q => q.resolve_right Ctx.plain_L)
      | none =>
        rw [hx] at e
        simp only at e
        split at e
        · rename_i hex
          obtain ⟨id, sz, N, K, t, hb⟩ := hex
          exact .inr ((hi.own _ _ _ _ _ _ hb).resolve_right Ctx.plain_L)
        · cases e
  rcases h w0 h0 (fun _ => .no) vs hi0 hsz hrep with ⟨fn, c, h1, h2, h3, h4⟩ | ⟨v, w', h1, h2⟩
  · exact .inl ⟨fn, c, h1, h2, h3, h4.mono fun e w' ⟨v, e1, h5⟩ => ⟨v, e1, key v w' h5⟩⟩
  · exact .inr ⟨v, w', h1, key v w' h2⟩

def runC (P : Program) (ext : CallX → CallX) (lf m : Nat) (f : FuncId) (ds : List DV) (d : DV) : Bool :=
  ds.all (blw0 40) && blw0 40 d && (match runX P ext lf m f ds [] with
    | some (r, σ) => (match snapX σ 20 r with | some r' => dvB 40 r' d | none => false)
    | none => false)
theorem runC_true {ext : CallX → CallX} (he : HookOK P ext) (lf m : Nat) {f : FuncId} {ds : List DV} {d : DV} (h : runC P ext lf m f ds d = true) : FnC P f ds (· = d) := by
  unfold runC at h
  rw [Bool.and_eq_true, Bool.and_eq_true] at h
  obtain ⟨⟨h1, h2⟩, h⟩ := h
  split at h
  · rename_i r σ hr
    split at h
    · rename_i r' hs
      have e := dvB_eq _ _ _ h
      subst e
      have hd := blw0_sound _ _ h2
      refine FnS.toC (runX_ok he m _ _ _ _ _ hr) (fun x hx => blw0_sound _ _ (List.all_eq_true.1 h1 x hx)) (fun x s ⟨e1, e2⟩ => ?_) (by rintro _ rfl; exact hd)
      subst e1; subst e2
      exact ⟨_, snapX_sound (fun id po e => ⟨po, e, rfl⟩) _ _ _ hs, rfl⟩
    · cases h
  · cases h
end Go.Pv
