/- IntsTranslates: the law answers true. Under no condition. -/
import Derived.Test.YthbjeeipeadilaaGreatJ3
import Derived.Test.YthbjeeipeadilaaGreatRB
namespace Go.Proofs.YthbjeeipeadilaaGreat.intsTranslates
open Go Go.Pv Go.ChangeShapes Go.WideShapes Go.ChangeAt Go.RowKit
set_option linter.unusedVariables false
set_option linter.unusedSimpArgs false
set_option maxRecDepth 100000 in
theorem lifted (os : Os) (started : os.Started) (H : Type) (enc : TypeId × Value → H) :
    ReturnsInHanded {} Tryz.checked os 5 .any (Rows.intsTranslatesSpec.pre6 enc Tryz.prog Tryz.f5 Rows.intsTranslatesRow.domain false) (Rows.intsTranslatesSpec.post enc Tryz.prog Tryz.f5 false true false false) := by
  refine returnsInHanded_of_change_sized (C := Tryz.checked) own started (by kernel_rfl) Tryz.func5
    (ChangeSpec.witness6 (enc := enc) (C := Tryz.checked) false ⟨#[], #[.int .i64 0, .int .i64 0, .int .i64 0, .int .i64 0, .int .u64 0], []⟩ 8 (by kernel_rfl) (by kernel_rfl) (by kernel_rfl) (by kernel_rfl)) ?_
  intro W base args ds gs before hval0 hW hcnd hsz0 _
  have hsz : (DataW.weightsEach Tryz.prog (Tryz.f5.params.toList ++ Rows.intsTranslatesSpec.plain.varTypes Tryz.prog) (ds ++ gs)).all (· ≤ reachBytes) = true := hsz0
  have hval : ∀ (j : Nat) t v, Tryz.f5.params[j]? = some t → args[j]? = some v → Value.okWide Tryz.prog W .any base t v := hval0
  have hW' := hW
  have hlt := hW'.lt
  obtain ⟨p, q, hA0, hV, rfl, hfz, hnd⟩ := hW
  have hA : DataW.TrodAll enc Tryz.prog W 0 (fun _ => true) true Tryz.f5.params.toList args.toList ds p := hA0
  obtain ⟨rfl, rfl⟩ := trodVars_none hV
  rw [Tryz.params5] at hA hval hsz
  have hA' := hA
  obtain ⟨v0, vs0, d0, ds0, p0, q0, hargs, rfl, rfl, h0, r0⟩ := trodAll_cons hA
  obtain ⟨v1, vs1, d1, ds1, p1, q1, rfl, rfl, rfl, h1, r1⟩ := trodAll_cons r0
  obtain ⟨v2, vs2, d2, ds2, p2, q2, rfl, rfl, rfl, h2, r2⟩ := trodAll_cons r1
  obtain ⟨v3, vs3, d3, ds3, p3, q3, rfl, rfl, rfl, h3, r3⟩ := trodAll_cons r2
  obtain ⟨v4, vs4, d4, ds4, p4, q4, rfl, rfl, rfl, h4, r4⟩ := trodAll_cons r3
  obtain ⟨rfl, rfl, rfl⟩ := trodAll_nil r4
  obtain rfl : args = #[v0, v1, v2, v3, v4] := by cases args; simp_all
  have hs := weightsEach_get hsz
  obtain ⟨x0, hx0, rx0⟩ := open_k Tryz.underlying3 (hval 0 _ v0 rfl rfl) h0 (hs 0 _ _ rfl rfl)
  obtain ⟨x1, hx1, rx1⟩ := open_k Tryz.underlying2 (hval 1 _ v1 rfl rfl) h1 (hs 1 _ _ rfl rfl)
  obtain ⟨x2, hx2, rx2⟩ := open_k Tryz.underlying2 (hval 2 _ v2 rfl rfl) h2 (hs 2 _ _ rfl rfl)
  obtain ⟨x3, hx3, rx3⟩ := open_k Tryz.underlying3 (hval 3 _ v3 rfl rfl) h3 (hs 3 _ _ rfl rfl)
  obtain ⟨x4, hx4, rx4⟩ := open_k Tryz.underlying37 (hval 4 _ v4 rfl rfl) h4 (hs 4 _ _ rfl rfl)
  refine (law_post (enc := enc) (lawTranslates' x0 hx0 x1 hx1 x2 hx2 x3 hx3 x4 hx4) Tryz.func5 rfl (by decide) laidOut ?_ hA' (fun z hz => hlt z (List.mem_append_left _ hz)) rfl ?_).mono fun e W' ⟨he, bel, hT⟩ => ?_
  · intro t ht
    simp only [List.mem_cons, List.not_mem_nil, or_false] at ht
    rcases ht with rfl | rfl | rfl | rfl | rfl
    all_goals exact ⟨by kernel_rfl, of_decide_eq_true (by kernel_rfl)⟩
  · intro i v d e1 e2
    match i with
    | 0 => simp at e1 e2; subst e1; subst e2; exact rx0
    | 1 => simp at e1 e2; subst e1; subst e2; exact rx1
    | 2 => simp at e1 e2; subst e1; subst e2; exact rx2
    | 3 => simp at e1 e2; subst e1; subst e2; exact rx3
    | 4 => simp at e1 e2; subst e1; subst e2; exact rx4
    | i + 5 => simp at e2
  subst he
  exact ⟨_, rfl, _, _, _, [], _, [], hW', trodAll_mk1 (shut_bool Tryz.underlying4 _), hT, rfl, bel.frame _, fun h => by cases h⟩
theorem over : Rows.intsTranslatesRow.holds Tryz.pinned (OpenSpec.ofChange Rows.intsTranslatesSpec) :=
  OpenClaim.holds_of_wide 5 Tryz.f5 rfl rfl rfl rfl rfl rfl rfl ⟨rfl, rfl, rfl, rfl, rfl⟩ rfl rfl rfl rfl rfl (by kernel_rfl) Tryz.func5 (by kernel_rfl)
    (of_decide_eq_true (by kernel_rfl)) (by unfold Func.isWrapper; first | (rw [if_pos (by decide +kernel)]; kernel_rfl) | (rw [if_neg (by decide +kernel)]; exact ⟨rfl, rfl⟩))
    (fun os started H enc _ => lifted os started H enc)
theorem proved : Rows.IntsTranslatesSaid := over
#print axioms proved
end Go.Proofs.YthbjeeipeadilaaGreat.intsTranslates
namespace Go.Proofs.YthbjeeipeadilaaGreat
/-- The row, under a short name, for the claim. -/
theorem intsTranslates_holds : Rows.IntsTranslatesSaid := intsTranslates.proved
end Go.Proofs.YthbjeeipeadilaaGreat
