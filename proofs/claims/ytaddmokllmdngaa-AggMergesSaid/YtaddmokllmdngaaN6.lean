/- Values compared: the reference's numbers, of an Int and a Real. -/
import Derived.Test.YtaddmokllmdngaaN5
namespace Go.Proofs.Ytaddmokllmdngaa
open Go Go.Pv Go.RowKit
set_option linter.unusedSimpArgs false
set_option linter.unusedVariables false
set_option maxRecDepth 10000
set_option exponentiation.threshold 2000

theorem whole_of_worth {g : Nat} {z : Int} (h : worth g = z * (unitF : Int)) : wholeI g = z := by
  have hu := unit_pos
  have h2 : magV (g % 9223372036854775808) = z.natAbs * unitF := by
    have := congrArg Int.natAbs h
    unfold worth at this
    rwa [rung_abs, Int.natAbs_mul, Int.natAbs_natCast] at this
  unfold wholeI
  rw [wholeV_eq, h2, Nat.mul_div_cancel _ hu]
  unfold worth at h
  rw [h2, rung_mul] at h
  exact Int.eq_of_mul_eq_mul_right (by omega) h
attribute [local irreducible] purK
theorem numIR (i ib : Int) (fa f : Nat) (sa sb : ByteArray) (hf : Fin64 f) : FnC Try.prog 44 [.agg (valC 1 i fa sa), .agg (valC 3 ib f sb)] (· = .int .i64 (agn i f)) := by
  have g1 := geq_fin hf cP_ok.2
  have g2 := lss_fin hf cN_ok.2
  rw [cP_ok.1] at g1
  rw [cN_ok.1] at g2
  have v1 : worth f ≥ 9223372036854775808 * (unitF : Int) → (-1 : Int) = agn i f := fun h => by unfold agn; rw [if_pos h]
  have v2 : ¬ worth f ≥ 9223372036854775808 * (unitF : Int) → worth f < -(9223372036854775808 * (unitF : Int)) → (1 : Int) = agn i f := fun h h' => by unfold agn; rw [if_neg h, if_pos h']
  have v3 : ¬ worth f ≥ 9223372036854775808 * (unitF : Int) → ¬ worth f < -(9223372036854775808 * (unitF : Int)) → (sg i (wholeI f) != 0) = true → sg i (wholeI f) = agn i f := fun h h' h3 => by unfold agn; rw [if_neg h, if_neg h', if_pos h3]
  have v4 : ¬ worth f ≥ 9223372036854775808 * (unitF : Int) → ¬ worth f < -(9223372036854775808 * (unitF : Int)) → (sg i (wholeI f) != 0) = false → sg (wholeI f * (unitF : Int)) (worth f) = agn i f := fun h h' h3 => by unfold agn; rw [if_neg h, if_neg h', if_neg (by rw [h3]; decide)]
  refine FnC.mk Try.func44 rfl rfl (Nat.le_of_ble_eq_true rfl) (by simp [valC]) (by rintro _ rfl; simp) ?_
  refine joinK.direct ?_
  refine guardK.spec ?_
  refine purK_mk rfl rfl ?_
  refine purK_mk rfl rfl ?_
  refine ⟨fun h => absurd h (by decide), fun _ => join_go ?_⟩
  refine joinK.direct ?_
  refine guardK.spec ?_
  refine purK_mk rfl rfl ?_
  refine purK_mk rfl rfl ?_
  refine ⟨fun h => absurd h (by decide), fun _ => join_go ?_⟩
  refine joinK.direct ?_
  refine purK_mk rfl rfl ?_
  refine ⟨fun h => absurd h (by decide), fun _ => join_go ?_⟩
  refine joinK.direct ?_
  refine purK_mk rfl rfl ?_
  refine ⟨fun h1 => ?_, fun h1 => join_go ?_⟩
  · exact fin_eq (.int _ _) rfl (int_eq (v1 (of_decide_eq_true (g1.symm.trans h1))))
  have h1' := of_decide_eq_false (g1.symm.trans h1)
  refine joinK.direct ?_
  refine purK_mk rfl rfl ?_
  refine ⟨fun h2 => ?_, fun h2 => join_go ?_⟩
  · exact fin_eq (.int _ _) rfl (int_eq (v2 h1' (of_decide_eq_true (g2.symm.trans h2))))
  have h2' := of_decide_eq_false (g2.symm.trans h2)
  have hw := whole_range h1' h2'
  have ht := trunc_worth hf hw.2
  have hwt := whole_of_worth ht.1
  have hti := whole_toInt ht.2
  rw [hwt] at hti
  have hc := f2i_pure hti hw.1
  have gg := gtr_fin hf ht.2
  have gl := lss_fin hf ht.2
  rw [ht.1] at gg gl
  have v3' := v3 h1' h2'
  have v4' := v4 h1' h2'
  refine callK.eq (truncF f hf) ?_
  refine purK_mk (v := .int .i64 (wholeI f)) rfl (pr_f2i rfl Try.underlying34 Try.underlying2 hc) ?_
  refine callK.eq (intsR i (wholeI f)) ?_
  refine joinK.direct ?_
  refine purK_mk rfl rfl ?_
  refine ⟨fun h3 => ?_, fun h3 => join_go ?_⟩
  · exact fin_eq (.int _ _) rfl (int_eq (v3' h3))
  refine joinK.direct ?_
  refine purK_mk rfl rfl ?_
  refine ⟨fun h4 => ?_, fun h4 => join_go ?_⟩
  · have h4' := of_decide_eq_true (gg.symm.trans h4)
    exact fin_eq (.int _ _) rfl (int_eq ((sg_lt (decide_eq_true h4')).trans (v4' h3)))
  have h4' := of_decide_eq_false (gg.symm.trans h4)
  refine joinK.direct ?_
  refine purK_mk rfl rfl ?_
  refine ⟨fun h5 => ?_, fun h5 => join_go ?_⟩
  · have h5' := of_decide_eq_true (gl.symm.trans h5)
    exact fin_eq (.int _ _) rfl (int_eq ((sg_gt (decide_eq_false h4') (decide_eq_true h5')).trans (v4' h3)))
  have h5' := of_decide_eq_false (gl.symm.trans h5)
  exact fin_eq (.int _ _) rfl (int_eq ((sg_eq (decide_eq_false h4') (decide_eq_false h5')).trans (v4' h3)))
end Go.Proofs.Ytaddmokllmdngaa
