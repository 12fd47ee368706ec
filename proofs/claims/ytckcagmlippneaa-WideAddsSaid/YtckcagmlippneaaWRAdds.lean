/- WideAdds: of any two wides, Plus, Minus and Cmp answer as the document's own numbers do. Under no condition. -/
import Derived.Test.YtckcagmlippneaaWP
import Derived.Test.YtckcagmlippneaaWQ
set_option linter.unusedSimpArgs false
set_option linter.unusedVariables false
namespace Go.Proofs.Ytckcagmlippneaa.wideAdds
open Go Go.Pv Go.ChangeShapes Go.WideShapes Go.ChangeAt Go.RowKit
set_option linter.unusedVariables false
set_option maxRecDepth 100000 in
theorem lifted (os : Os) (started : os.Started) (H : Type) (enc : TypeId × Value → H) :
    ReturnsInHanded {} Try.checked os 3 .any (Rows.wideAddsSpec.pre6 enc Try.prog Try.f3 Rows.wideAddsRow.domain false) (Rows.wideAddsSpec.post enc Try.prog Try.f3 false true false false) := by
  refine returnsInHanded_of_change_sized (C := Try.checked) own started (by kernel_rfl) Try.func3
    (ChangeSpec.witness6 (enc := enc) (C := Try.checked) false ⟨#[], #[.agg #[.int .i64 0, .int .u64 0], .agg #[.int .i64 0, .int .u64 0]], []⟩ 8 (by kernel_rfl) (by kernel_rfl) (by kernel_rfl) (by kernel_rfl)) ?_
  intro W base args ds gs before hval0 hW hcnd hsz0 _
  have hsz : (DataW.weightsEach Try.prog (Try.f3.params.toList ++ Rows.wideAddsSpec.plain.varTypes Try.prog) (ds ++ gs)).all (· ≤ reachBytes) = true := hsz0
  have hval : ∀ (j : Nat) t v, Try.f3.params[j]? = some t → args[j]? = some v → Value.okWide Try.prog W .any base t v := hval0
  have hW' := hW
  have hlt := hW'.lt
  obtain ⟨p, q, hA0, hV, rfl, hfz, hnd⟩ := hW
  have hA : DataW.TrodAll enc Try.prog W 0 (fun _ => true) true Try.f3.params.toList args.toList ds p := hA0
  obtain ⟨rfl, rfl⟩ := trodVars_none hV
  rw [Try.params3] at hA hval hsz
  have hA' := hA
  obtain ⟨v0, vs0, d0, ds0, p0, q0, hargs, rfl, rfl, h0, r0⟩ := trodAll_cons hA
  obtain ⟨v1, vs1, d1, ds1, p1, q1, rfl, rfl, rfl, h1, r1⟩ := trodAll_cons r0
  obtain ⟨rfl, rfl, rfl⟩ := trodAll_nil r1
  obtain rfl : args = #[v0, v1] := by cases args; simp_all
  have hs := weightsEach_get hsz
  obtain ⟨x, hx, rx⟩ := open_wide (hval 0 _ v0 rfl rfl) h0 (hs 0 _ _ rfl rfl)
  obtain ⟨y, hy, ry⟩ := open_wide (hval 1 _ v1 rfl rfl) h1 (hs 1 _ _ rfl rfl)
  refine (law_post (enc := enc) (lawAdds x y hx hy) Try.func3 rfl (by decide) laidOut ?_ hA' (fun z hz => hlt z (List.mem_append_left _ hz)) rfl ?_).mono fun e W' ⟨he, bel, hT⟩ => ?_
  · intro t ht
    simp at ht
    subst ht
    exact ⟨by kernel_rfl, of_decide_eq_true (by kernel_rfl)⟩
  · intro i v d e1 e2
    match i with
    | 0 => simp at e1 e2; subst e1; subst e2; exact rx
    | 1 => simp at e1 e2; subst e1; subst e2; exact ry
    | i + 2 => simp at e2
  subst he
  exact ⟨_, rfl, _, _, _, [], _, [], hW', trodAll_mk1 (shut_bool Try.underlying4 _), hT, rfl, bel.frame _, fun h => by cases h⟩
theorem over : Rows.wideAddsRow.holds Try.pinned (OpenSpec.ofChange Rows.wideAddsSpec) :=
  OpenClaim.holds_of_wide 3 Try.f3 rfl rfl rfl rfl rfl rfl rfl ⟨rfl, rfl, rfl, rfl, rfl⟩ rfl rfl rfl rfl rfl (by kernel_rfl) Try.func3 (by kernel_rfl)
    (of_decide_eq_true (by kernel_rfl)) (by unfold Func.isWrapper; first | (rw [if_pos (by decide +kernel)]; kernel_rfl) | (rw [if_neg (by decide +kernel)]; exact ⟨rfl, rfl⟩))
    (fun os started H enc _ => lifted os started H enc)
theorem proved : Rows.WideAddsSaid := over
#print axioms proved
end Go.Proofs.Ytckcagmlippneaa.wideAdds
namespace Go.Proofs.Ytckcagmlippneaa
/-- The row, under a short name, for the claim. -/
theorem wideAdds_holds : Rows.WideAddsSaid := wideAdds.proved
end Go.Proofs.Ytckcagmlippneaa
