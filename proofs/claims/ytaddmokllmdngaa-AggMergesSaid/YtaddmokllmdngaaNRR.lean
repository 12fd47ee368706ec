/- AggMerges: the law answers true. Under no condition. -/
import Derived.Test.YtaddmokllmdngaaNR
namespace Go.Proofs.Ytaddmokllmdngaa.aggMerges
open Go Go.Pv Go.ChangeShapes Go.WideShapes Go.ChangeAt Go.RowKit
set_option linter.unusedVariables false
set_option linter.unusedSimpArgs false
set_option maxRecDepth 100000 in
theorem lifted (os : Os) (started : os.Started) (H : Type) (enc : TypeId × Value → H) :
    ReturnsInHanded {} Try.checked os 6 .any (Rows.aggMergesSpec.pre6 enc Try.prog Try.f6 Rows.aggMergesRow.domain false) (Rows.aggMergesSpec.post enc Try.prog Try.f6 false true false false) := by
  refine returnsInHanded_of_change_sized (C := Try.checked) own started (by kernel_rfl) Try.func6
    (ChangeSpec.witness6 (enc := enc) (C := Try.checked) false ⟨#[], #[.slice none 0 0], []⟩ 8 (by kernel_rfl) (by kernel_rfl) (by kernel_rfl) (by kernel_rfl)) ?_
  intro W base args ds gs before hval0 hW hcnd hsz0 _
  have hsz : (DataW.weightsEach Try.prog (Try.f6.params.toList ++ Rows.aggMergesSpec.plain.varTypes Try.prog) (ds ++ gs)).all (· ≤ reachBytes) = true := hsz0
  have hval : ∀ (j : Nat) t v, Try.f6.params[j]? = some t → args[j]? = some v → Value.okWide Try.prog W .any base t v := hval0
  have hW' := hW
  have hlt := hW'.lt
  obtain ⟨p, q, hA0, hV, rfl, hfz, hnd⟩ := hW
  have hA : DataW.TrodAll enc Try.prog W 0 (fun _ => true) true Try.f6.params.toList args.toList ds p := hA0
  obtain ⟨rfl, rfl⟩ := trodVars_none hV
  rw [Try.params6] at hA hval hsz
  have hA' := hA
  obtain ⟨v0, vs0, d0, ds0, p0, q0, hargs, rfl, rfl, h0, r0⟩ := trodAll_cons hA
  obtain ⟨rfl, rfl, rfl⟩ := trodAll_nil r0
  obtain rfl : args = #[v0] := by cases args; simp_all
  have hs := weightsEach_get hsz
  obtain ⟨x0, hx0, hy0, rx0⟩ := open_sts Try.underlying31 (by kernel_rfl) (by kernel_rfl) (hval 0 _ v0 rfl rfl) h0 (hs 0 _ _ rfl rfl)
  refine (law_post (enc := enc) (lawMerges' x0 hx0 hy0) Try.func6 rfl (by decide) laidOut ?_ hA' (fun z hz => hlt z (List.mem_append_left _ hz)) rfl ?_).mono fun e W' ⟨he, bel, hT⟩ => ?_
  · intro t ht
    simp only [List.mem_cons, List.not_mem_nil, or_false] at ht
    subst ht
    exact ⟨by kernel_rfl, of_decide_eq_true (by kernel_rfl)⟩
  · intro i v d e1 e2
    match i with
    | 0 => simp at e1 e2; subst e1; subst e2; exact rx0
    | i + 1 => simp at e2
  subst he
  exact ⟨_, rfl, _, _, _, [], _, [], hW', trodAll_mk1 (shut_bool Try.underlying4 _), hT, rfl, bel.frame _, fun h => by cases h⟩
theorem over : Rows.aggMergesRow.holds Try.pinned (OpenSpec.ofChange Rows.aggMergesSpec) :=
  OpenClaim.holds_of_wide 6 Try.f6 rfl rfl rfl rfl rfl rfl rfl ⟨rfl, rfl, rfl, rfl, rfl⟩ rfl rfl rfl rfl rfl (by kernel_rfl) Try.func6 (by kernel_rfl)
    (of_decide_eq_true (by kernel_rfl)) (by unfold Func.isWrapper; first | (rw [if_pos (by decide +kernel)]; kernel_rfl) | (rw [if_neg (by decide +kernel)]; exact ⟨rfl, rfl⟩))
    (fun os started H enc _ => lifted os started H enc)
theorem proved : Rows.AggMergesSaid := over
#print axioms proved
end Go.Proofs.Ytaddmokllmdngaa.aggMerges
namespace Go.Proofs.Ytaddmokllmdngaa
/-- The row, under a short name, for the claim. -/
theorem aggMerges_holds : Rows.AggMergesSaid := aggMerges.proved
end Go.Proofs.Ytaddmokllmdngaa
