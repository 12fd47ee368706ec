/- Values compared: value.against. -/
import Derived.Test.YtaddmokllmdngaaN3
namespace Go.Proofs.Ytaddmokllmdngaa
open Go Go.Pv Go.RowKit
set_option linter.unusedSimpArgs false
set_option linter.unusedVariables false
set_option maxRecDepth 10000
set_option exponentiation.threshold 2000

/-- A whole number against a real. -/
def agn (i : Int) (f : Nat) : Int :=
  if worth f ≥ 9223372036854775808 * (unitF : Int) then -1 else if worth f < -(9223372036854775808 * (unitF : Int)) then 1 else if (sg i (wholeI f) != 0) = true then sg i (wholeI f) else sg (wholeI f * (unitF : Int)) (worth f)
theorem rung_small (s : Bool) (r : Nat) {b : Nat} (h : r < b) : (rungI s r).natAbs < b := by rw [rung_abs]; exact h
theorem sg_congr {x q W : Int} (h1 : 0 < x ↔ 0 < W - q) (h2 : x < 0 ↔ W - q < 0) : sg 0 x = sg q W := by
  have a : (0 < x) = (q < W) := propext ⟨fun h => by have := h1.1 h; omega, fun h => h1.2 (by omega)⟩
  have b : (x < 0) = (W < q) := propext ⟨fun h => by have := h2.1 h; omega, fun h => h2.2 (by omega)⟩
  simp only [sg, a, b]
theorem sub_back {f : Nat} (hf : Fin64 f) (hb : wholeV f ≤ 18446744073709551616) : ∃ d, floatBits .sub .f64 f (FloatKind.f64.nearest (wholeI f)) = some d ∧ Fin64 d ∧ sg 0 (worth d) = sg (wholeI f * (unitF : Int)) (worth f) := by
  obtain ⟨w1, w2⟩ := nearest_back hf hb
  have hlt : (worth f - worth (FloatKind.f64.nearest (wholeI f))).natAbs < 2 ^ 1140 := by
    rw [w1, whole_rest]
    refine rung_small _ _ (Nat.lt_trans (Nat.mod_lt _ unit_pos) ?_)
    rw [← unit_eq]; exact Nat.pow_lt_pow_right (by decide) (by decide)
  obtain ⟨d, e1, e2, e3, e4⟩ := sub_sign hf w2 hlt
  refine ⟨d, e1, e2, ?_⟩
  rw [w1] at e3 e4
  exact sg_congr e3 e4
attribute [local irreducible] purK
theorem againstW (i : Int) (f : Nat) (hf : Fin64 f) : FnC Try.prog 78 [.int .i64 i, .flt .f64 f] (· = .int .i64 (agn i f)) := by
  have g1 := geq_fin hf cP_ok.2
  have g2 := lss_fin hf cN_ok.2
  rw [cP_ok.1] at g1
  rw [cN_ok.1] at g2
  have v1 : worth f ≥ 9223372036854775808 * (unitF : Int) → (-1 : Int) = agn i f := fun h => by unfold agn; rw [if_pos h]
  have v2 : ¬ worth f ≥ 9223372036854775808 * (unitF : Int) → worth f < -(9223372036854775808 * (unitF : Int)) → (1 : Int) = agn i f := fun h h' => by unfold agn; rw [if_neg h, if_pos h']
  have v3 : ¬ worth f ≥ 9223372036854775808 * (unitF : Int) → ¬ worth f < -(9223372036854775808 * (unitF : Int)) → (sg i (wholeI f) != 0) = true → sg i (wholeI f) = agn i f := fun h h' h3 => by unfold agn; rw [if_neg h, if_neg h', if_pos h3]
  have v4 : ¬ worth f ≥ 9223372036854775808 * (unitF : Int) → ¬ worth f < -(9223372036854775808 * (unitF : Int)) → (sg i (wholeI f) != 0) = false → sg (wholeI f * (unitF : Int)) (worth f) = agn i f := fun h h' h3 => by unfold agn; rw [if_neg h, if_neg h', if_neg (by rw [h3]; decide)]
  refine FnC.mk Try.func78 rfl rfl (Nat.le_of_ble_eq_true rfl) (by simp) (by rintro _ rfl; simp) ?_
  refine joinK.direct ?_
  refine purK_mk rfl rfl ?_
  refine ⟨fun h1 => ?_, fun h1 => ?_⟩
  · exact fin_eq (.int _ _) rfl (int_eq (v1 (of_decide_eq_true (g1.symm.trans h1))))
  have h1' := of_decide_eq_false (g1.symm.trans h1)
  refine purK_mk rfl rfl ?_
  refine ⟨fun h2 => ?_, fun h2 => join_go ?_⟩
  · exact fin_eq (.int _ _) rfl (int_eq (v2 h1' (of_decide_eq_true (g2.symm.trans h2))))
  have h2' := of_decide_eq_false (g2.symm.trans h2)
  have hw := whole_range h1' h2'
  have hc := f2i_pure (whole_toInt hf) hw.1
  have hsb := sub_back hf hw.2
  have v3' := v3 h1' h2'
  have v4' := v4 h1' h2'
  refine purK_mk (v := .int .i64 (wholeI f)) rfl (pr_f2i rfl Try.underlying34 Try.underlying2 hc) ?_
  refine joinK.direct ?_
  refine callK.eq (cmpC64 i (wholeI f)) ?_
  refine purK_mk rfl rfl ?_
  refine ⟨fun h3 => ?_, fun h3 => join_go ?_⟩
  · exact fin_eq (.int _ _) rfl (int_eq (v3' h3))
  · refine purK_mk rfl (pr_i2f rfl Try.underlying2 Try.underlying34) ?_
    refine ⟨rfl, optK.mk hsb.choose_spec.1 ?_⟩
    refine callK.eq (cmpF 0 _ fin_0 hsb.choose_spec.2.1) ?_
    exact fin_eq (.int _ _) rfl (int_eq (hsb.choose_spec.2.2.trans (v4' h3)))
end Go.Proofs.Ytaddmokllmdngaa
