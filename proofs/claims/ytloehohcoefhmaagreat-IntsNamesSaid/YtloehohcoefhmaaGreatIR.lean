/- IntsNames: the law answers true. Under no condition. -/
import Derived.Test.YtloehohcoefhmaaGreatIN
import Derived.Test.YtloehohcoefhmaaGreatRB
namespace Go.Proofs.YtloehohcoefhmaaGreat.intsNames
open Go Go.Pv Go.ChangeShapes Go.WideShapes Go.ChangeAt Go.RowKit
set_option linter.unusedVariables false
set_option linter.unusedSimpArgs false
set_option maxRecDepth 100000 in
theorem lifted (os : Os) (started : os.Started) (H : Type) (enc : TypeId × Value → H) :
    ReturnsInHanded {} Tryz.checked os 3 .any (Rows.intsNamesSpec.pre6 enc Tryz.prog Tryz.f3 Rows.intsNamesRow.domain false) (Rows.intsNamesSpec.post enc Tryz.prog Tryz.f3 false true false false) := by
  refine returnsInHanded_of_change_sized (C := Tryz.checked) own started (by kernel_rfl) Tryz.func3
    (ChangeSpec.witness6 (enc := enc) (C := Tryz.checked) false ⟨#[], #[], []⟩ 8 (by kernel_rfl) (by kernel_rfl) (by kernel_rfl) (by kernel_rfl)) ?_
  intro W base args ds gs before hval0 hW hcnd hsz0 _
  have hsz : (DataW.weightsEach Tryz.prog (Tryz.f3.params.toList ++ Rows.intsNamesSpec.plain.varTypes Tryz.prog) (ds ++ gs)).all (· ≤ reachBytes) = true := hsz0
  have hval : ∀ (j : Nat) t v, Tryz.f3.params[j]? = some t → args[j]? = some v → Value.okWide Tryz.prog W .any base t v := hval0
  have hW' := hW
  have hlt := hW'.lt
  obtain ⟨p, q, hA0, hV, rfl, hfz, hnd⟩ := hW
  have hA : DataW.TrodAll enc Tryz.prog W 0 (fun _ => true) true Tryz.f3.params.toList args.toList ds p := hA0
  obtain ⟨rfl, rfl⟩ := trodVars_none hV
  rw [Tryz.params3] at hA hval hsz
  have hA' := hA
  obtain ⟨hargs, rfl, rfl⟩ := trodAll_nil hA
  obtain rfl : args = #[] := by cases args; simp_all
  refine (law_post (enc := enc) (lawNames ) Tryz.func3 rfl (by decide) laidOut ?_ hA' (fun z hz => hlt z (List.mem_append_left _ hz)) rfl ?_).mono fun e W' ⟨he, bel, hT⟩ => ?_
  · intro t ht; cases ht
  · intro i v d e1 e2
    match i with
    | i => simp at e2
  subst he
  exact ⟨_, rfl, _, _, _, [], _, [], hW', trodAll_mk1 (shut_bool Tryz.underlying4 _), hT, rfl, bel.frame _, fun h => by cases h⟩
theorem over : Rows.intsNamesRow.holds Tryz.pinned (OpenSpec.ofChange Rows.intsNamesSpec) :=
  OpenClaim.holds_of_wide 3 Tryz.f3 rfl rfl rfl rfl rfl rfl rfl ⟨rfl, rfl, rfl, rfl, rfl⟩ rfl rfl rfl rfl rfl (by kernel_rfl) Tryz.func3 (by kernel_rfl)
    (of_decide_eq_true (by kernel_rfl)) (by unfold Func.isWrapper; first | (rw [if_pos (by decide +kernel)]; kernel_rfl) | (rw [if_neg (by decide +kernel)]; exact ⟨rfl, rfl⟩))
    (fun os started H enc _ => lifted os started H enc)
theorem proved : Rows.IntsNamesSaid := over
#print axioms proved
end Go.Proofs.YtloehohcoefhmaaGreat.intsNames
namespace Go.Proofs.YtloehohcoefhmaaGreat
/-- The row, under a short name, for the claim. -/
theorem intsNames_holds : Rows.IntsNamesSaid := intsNames.proved
end Go.Proofs.YtloehohcoefhmaaGreat
