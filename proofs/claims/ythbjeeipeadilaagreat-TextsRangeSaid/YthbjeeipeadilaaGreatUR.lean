/- TextsRange: the law answers true. Under no condition. -/
import Derived.Test.YthbjeeipeadilaaGreatU5
import Derived.Test.YthbjeeipeadilaaGreatRB
namespace Go.Proofs.YthbjeeipeadilaaGreat.textsRange
open Go Go.Pv Go.ChangeShapes Go.WideShapes Go.ChangeAt Go.RowKit
set_option linter.unusedVariables false
set_option linter.unusedSimpArgs false
set_option maxRecDepth 100000 in
theorem lifted (os : Os) (started : os.Started) (H : Type) (enc : TypeId × Value → H) :
    ReturnsInHanded {} Tryz.checked os 4 .any (Rows.textsRangeSpec.pre6 enc Tryz.prog Tryz.f4 Rows.textsRangeRow.domain false) (Rows.textsRangeSpec.post enc Tryz.prog Tryz.f4 false true false false) := by
  refine returnsInHanded_of_change_sized (C := Tryz.checked) own started (by kernel_rfl) Tryz.func4
    (ChangeSpec.witness6 (enc := enc) (C := Tryz.checked) false ⟨#[], #[.slice none 0 0, .string .empty], []⟩ 8 (by kernel_rfl) (by kernel_rfl) (by kernel_rfl) (by kernel_rfl)) ?_
  intro W base args ds gs before hval0 hW hcnd hsz0 _
  have hsz : (DataW.weightsEach Tryz.prog (Tryz.f4.params.toList ++ Rows.textsRangeSpec.plain.varTypes Tryz.prog) (ds ++ gs)).all (· ≤ reachBytes) = true := hsz0
  have hval : ∀ (j : Nat) t v, Tryz.f4.params[j]? = some t → args[j]? = some v → Value.okWide Tryz.prog W .any base t v := hval0
  have hW' := hW
  have hlt := hW'.lt
  obtain ⟨p, q, hA0, hV, rfl, hfz, hnd⟩ := hW
  have hA : DataW.TrodAll enc Tryz.prog W 0 (fun _ => true) true Tryz.f4.params.toList args.toList ds p := hA0
  obtain ⟨rfl, rfl⟩ := trodVars_none hV
  rw [Tryz.params4] at hA hval hsz
  have hA' := hA
  obtain ⟨v0, vs0, d0, ds0, p0, q0, hargs, rfl, rfl, h0, r0⟩ := trodAll_cons hA
  obtain ⟨v1, vs1, d1, ds1, p1, q1, rfl, rfl, rfl, h1, r1⟩ := trodAll_cons r0
  obtain ⟨rfl, rfl, rfl⟩ := trodAll_nil r1
  obtain rfl : args = #[v0, v1] := by cases args; simp_all
  have hs := weightsEach_get hsz
  obtain ⟨x0, hx0, hy0, rx0⟩ := open_ss Tryz.underlying33 Tryz.underlying9 (by kernel_rfl) (by kernel_rfl) (hval 0 _ v0 rfl rfl) h0 (hs 0 _ _ rfl rfl)
  obtain ⟨x1, hx1, rx1⟩ := open_s Tryz.underlying9 (hval 1 _ v1 rfl rfl) h1 (hs 1 _ _ rfl rfl)
  refine (law_post (enc := enc) (lawRange' x0 hx0 hy0 x1 hx1) Tryz.func4 rfl (by decide) laidOut ?_ hA' (fun z hz => hlt z (List.mem_append_left _ hz)) rfl ?_).mono fun e W' ⟨he, bel, hT⟩ => ?_
  · intro t ht
    simp only [List.mem_cons, List.not_mem_nil, or_false] at ht
    rcases ht with rfl | rfl
    all_goals exact ⟨by kernel_rfl, of_decide_eq_true (by kernel_rfl)⟩
  · intro i v d e1 e2
    match i with
    | 0 => simp at e1 e2; subst e1; subst e2; exact rx0
    | 1 => simp at e1 e2; subst e1; subst e2; exact rx1
    | i + 2 => simp at e2
  subst he
  exact ⟨_, rfl, _, _, _, [], _, [], hW', trodAll_mk1 (shut_bool Tryz.underlying4 _), hT, rfl, bel.frame _, fun h => by cases h⟩
theorem over : Rows.textsRangeRow.holds Tryz.pinned (OpenSpec.ofChange Rows.textsRangeSpec) :=
  OpenClaim.holds_of_wide 4 Tryz.f4 rfl rfl rfl rfl rfl rfl rfl ⟨rfl, rfl, rfl, rfl, rfl⟩ rfl rfl rfl rfl rfl (by kernel_rfl) Tryz.func4 (by kernel_rfl)
    (of_decide_eq_true (by kernel_rfl)) (by unfold Func.isWrapper; first | (rw [if_pos (by decide +kernel)]; kernel_rfl) | (rw [if_neg (by decide +kernel)]; exact ⟨rfl, rfl⟩))
    (fun os started H enc _ => lifted os started H enc)
theorem proved : Rows.TextsRangeSaid := over
#print axioms proved
end Go.Proofs.YthbjeeipeadilaaGreat.textsRange
namespace Go.Proofs.YthbjeeipeadilaaGreat
/-- The row, under a short name, for the claim. -/
theorem textsRange_holds : Rows.TextsRangeSaid := textsRange.proved
end Go.Proofs.YthbjeeipeadilaaGreat
