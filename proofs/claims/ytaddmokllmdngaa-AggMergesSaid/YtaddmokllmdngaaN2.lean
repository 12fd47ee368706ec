/- Values compared: the plain parts. -/
import Derived.Test.YtaddmokllmdngaaN1
namespace Go.Proofs.Ytaddmokllmdngaa
open Go Go.Pv Go.RowKit
set_option linter.unusedSimpArgs false
set_option linter.unusedVariables false
set_option maxRecDepth 10000

def sg (a b : Int) : Int := if a < b then -1 else if b < a then 1 else 0
theorem sg_lt {a b : Int} (h : decide (a < b) = true) : (-1 : Int) = sg a b := by unfold sg; rw [if_pos (of_decide_eq_true h)]
theorem sg_gt {a b : Int} (h : decide (a < b) = false) (h2 : decide (a > b) = true) : (1 : Int) = sg a b := by unfold sg; rw [if_neg (of_decide_eq_false h), if_pos (of_decide_eq_true h2)]
theorem sg_eq {a b : Int} (h : decide (a < b) = false) (h2 : decide (a > b) = false) : (0 : Int) = sg a b := by unfold sg; rw [if_neg (of_decide_eq_false h), if_neg (of_decide_eq_false h2)]
theorem lessR (a b : Int) : FnC Try.prog 42 [.int .i64 a, .int .i64 b] (· = .int .i64 (sg a b)) := by
  refine FnC.mk Try.func42 rfl rfl (Nat.le_of_ble_eq_true rfl) (by simp) (by rintro _ rfl; simp) ?_
  refine joinK.direct ⟨fun h1 => ?_, fun h1 => join_go ?_⟩
  · exact fin_eq (.int _ _) rfl (int_eq (sg_lt h1))
  · refine joinK.direct ⟨fun h2 => ?_, fun h2 => join_go ?_⟩
    · exact fin_eq (.int _ _) rfl (int_eq (sg_gt h1 h2))
    · exact fin_eq (.int _ _) rfl (int_eq (sg_eq h1 h2))
theorem intsR (a b : Int) : FnC Try.prog 69 [.int .i64 a, .int .i64 b] (· = .int .i64 (sg a b)) := by
  refine FnC.mk Try.func69 rfl rfl (Nat.le_of_ble_eq_true rfl) (by simp) (by rintro _ rfl; simp) ?_
  refine joinK.direct ⟨fun h1 => ?_, fun h1 => join_go ?_⟩
  · exact fin_eq (.int _ _) rfl (int_eq (sg_lt h1))
  · refine joinK.direct ⟨fun h2 => ?_, fun h2 => join_go ?_⟩
    · exact fin_eq (.int _ _) rfl (int_eq (sg_gt h1 h2))
    · exact fin_eq (.int _ _) rfl (int_eq (sg_eq h1 h2))
theorem nanI (a : Int) : FnC Try.prog 90 [.int .i64 a] (· = .bool false) := by
  have h : (a != a) = false := by simp
  refine FnC.mk Try.func90 rfl rfl (Nat.le_of_ble_eq_true rfl) (by simp) (by rintro _ rfl; simp) ?_
  exact fin_eq (.bool _) rfl (bool_eq h)
theorem nanI64 (a : Int) : FnC Try.prog 92 [.int .i64 a] (· = .bool false) := by
  have h : (a != a) = false := by simp
  refine FnC.mk Try.func92 rfl rfl (Nat.le_of_ble_eq_true rfl) (by simp) (by rintro _ rfl; simp) ?_
  exact fin_eq (.bool _) rfl (bool_eq h)
theorem cmpC (a b : Int) : FnC Try.prog 72 [.int .i64 a, .int .i64 b] (· = .int .i64 (sg a b)) := by
  refine FnC.mk Try.func72 rfl rfl (Nat.le_of_ble_eq_true rfl) (by simp) (by rintro _ rfl; simp) ?_
  refine callK.eq (nanI a) ?_
  refine callK.eq (nanI b) ?_
  refine joinK.direct ⟨fun h => (by cases h), fun _ => join_go ?_⟩
  refine joinK.direct ⟨fun h => (by cases h), fun _ => join_go ?_⟩
  refine joinK.direct ⟨fun h1 => ?_, fun h1 => join_go ?_⟩
  · exact fin_eq (.int _ _) rfl (int_eq (sg_lt h1))
  · refine joinK.direct ⟨fun h2 => ?_, fun h2 => join_go ?_⟩
    · exact fin_eq (.int _ _) rfl (int_eq (sg_gt h1 h2))
    · exact fin_eq (.int _ _) rfl (int_eq (sg_eq h1 h2))
theorem cmpC64 (a b : Int) : FnC Try.prog 75 [.int .i64 a, .int .i64 b] (· = .int .i64 (sg a b)) := by
  refine FnC.mk Try.func75 rfl rfl (Nat.le_of_ble_eq_true rfl) (by simp) (by rintro _ rfl; simp) ?_
  refine callK.eq (nanI64 a) ?_
  refine callK.eq (nanI64 b) ?_
  refine joinK.direct ⟨fun h => (by cases h), fun _ => join_go ?_⟩
  refine joinK.direct ⟨fun h => (by cases h), fun _ => join_go ?_⟩
  refine joinK.direct ⟨fun h1 => ?_, fun h1 => join_go ?_⟩
  · exact fin_eq (.int _ _) rfl (int_eq (sg_lt h1))
  · refine joinK.direct ⟨fun h2 => ?_, fun h2 => join_go ?_⟩
    · exact fin_eq (.int _ _) rfl (int_eq (sg_gt h1 h2))
    · exact fin_eq (.int _ _) rfl (int_eq (sg_eq h1 h2))
/-- Finite numbers. -/
theorem lss_fin {f g : Nat} (hf : Fin64 f) (hg : Fin64 g) : (FloatKind.f64.format.order f g == some Ordering.lt) = decide (worth f < worth g) := by
  rw [show FloatKind.f64.format.order f g = _ from order_fin hf hg, show compare (worth f) (worth g) = if worth f < worth g then Ordering.lt else if worth f = worth g then .eq else .gt from rfl]
  by_cases h : worth f < worth g
  · rw [if_pos h, decide_eq_true h]; rfl
  · rw [if_neg h, decide_eq_false h]; split <;> rfl
theorem gtr_fin {f g : Nat} (hf : Fin64 f) (hg : Fin64 g) : (FloatKind.f64.format.order f g == some Ordering.gt) = decide (worth f > worth g) := by
  rw [show FloatKind.f64.format.order f g = _ from order_fin hf hg, show compare (worth f) (worth g) = if worth f < worth g then Ordering.lt else if worth f = worth g then .eq else .gt from rfl]
  by_cases h : worth f < worth g
  · rw [if_pos h, decide_eq_false (by omega)]; rfl
  · rw [if_neg h]
    by_cases h2 : worth f = worth g
    · rw [if_pos h2, decide_eq_false (by omega)]; rfl
    · rw [if_neg h2, decide_eq_true (by omega)]; rfl
theorem nanF (f : Nat) (hf : Fin64 f) : FnC Try.prog 93 [.flt .f64 f] (· = .bool false) := by
  have e : (FloatKind.f64.format.order f f != some Ordering.eq) = false := by
    have h := flt_self hf.lt
    rw [decide_eq_true (show f % 9223372036854775808 ≤ 9218868437227405312 by have := hf.fin; omega)] at h
    rw [show (FloatKind.f64.format.order f f != some Ordering.eq) = !(Ieee.double.order f f == some Ordering.eq) from rfl, h]; rfl
  refine FnC.mk Try.func93 rfl rfl (Nat.le_of_ble_eq_true rfl) (by simp) (by rintro _ rfl; simp) ?_
  exact fin_eq (.bool _) rfl (bool_eq e)
theorem cmpF (f g : Nat) (hf : Fin64 f) (hg : Fin64 g) : FnC Try.prog 76 [.flt .f64 f, .flt .f64 g] (· = .int .i64 (sg (worth f) (worth g))) := by
  have e1 := lss_fin hf hg
  have e2 := gtr_fin hf hg
  refine FnC.mk Try.func76 rfl rfl (Nat.le_of_ble_eq_true rfl) (by simp) (by rintro _ rfl; simp) ?_
  refine callK.eq (nanF f hf) ?_
  refine callK.eq (nanF g hg) ?_
  refine joinK.direct ⟨fun h => (by cases h), fun _ => join_go ?_⟩
  refine joinK.direct ⟨fun h => (by cases h), fun _ => join_go ?_⟩
  refine joinK.direct ⟨fun h1 => ?_, fun h1 => join_go ?_⟩
  · exact fin_eq (.int _ _) rfl (int_eq (sg_lt (e1.symm.trans h1)))
  · refine joinK.direct ⟨fun h2 => ?_, fun h2 => join_go ?_⟩
    · exact fin_eq (.int _ _) rfl (int_eq (sg_gt (e1.symm.trans h1) (e2.symm.trans h2)))
    · exact fin_eq (.int _ _) rfl (int_eq (sg_eq (e1.symm.trans h1) (e2.symm.trans h2)))
end Go.Proofs.Ytaddmokllmdngaa
