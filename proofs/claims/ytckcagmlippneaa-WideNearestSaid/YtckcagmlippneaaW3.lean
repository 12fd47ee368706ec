/- Wide's reference: numbers: Plus, Turned, Below, Small, Int. -/
import Derived.Test.YtckcagmlippneaaW2
import Derived.Laws.BitsLemmas
set_option linter.unusedSimpArgs false
set_option linter.unusedVariables false
namespace Go.Proofs.Ytckcagmlippneaa
open Go Go.Pv Go.RowKit
set_option maxRecDepth 10000

def numD (x : Int) : DV := .agg [.list (digL x.natAbs), .bool (decide (x < 0))]
theorem blw_numD (x : Int) {m : Nat} : Blw m (numD x) := by
  unfold numD
  rw [blw_agg]
  intro d hd
  simp only [List.mem_cons, List.not_mem_nil, or_false] at hd
  rcases hd with rfl | rfl
  · rw [blw_list]; exact blw_digL _
  · simp
theorem num_eq {a : Nat} {b : Bool} {x : Int} (ha : a = x.natAbs) (hb : b = decide (x < 0)) : DV.agg [.list (digL a), .bool b] = numD x := by rw [ha, hb]; rfl
theorem blw_nums {x y : Int} : ∀ d ∈ [numD x, numD y], Blw 0 d := by
  intro d hd
  simp only [List.mem_cons, List.not_mem_nil, or_false] at hd
  rcases hd with rfl | rfl <;> exact blw_numD _
theorem blw_num1 {x : Int} : ∀ d ∈ [numD x], Blw 0 d := by
  intro d hd
  simp only [List.mem_cons, List.not_mem_nil, or_false] at hd
  subst hd; exact blw_numD _

theorem plusN (x y : Int) (hx : x.natAbs < 65536 ^ 24) (hy : y.natAbs < 65536 ^ 24) : FnC Try.prog 17 [numD x, numD y] (· = numD (x + y)) := by
  refine FnC.mk Try.func17 rfl rfl (Nat.le_of_ble_eq_true rfl) blw_nums (by rintro _ rfl; exact blw_numD _) ?_
  refine joinK.direct ⟨fun h => ?_, fun h => join_go ?_⟩
  · have h : (decide (x < 0) == decide (y < 0)) = true := h
    refine drawK.mk (by kernel_rfl) ?_
    refine callE.mk (add x.natAbs y.natAbs) ?_
    refine fin_eq (.agg [.list _, .bool _]) rfl (num_eq ?_ ?_)
    all_goals (by_cases h1 : x < 0 <;> by_cases h2 : y < 0 <;> simp [h1, h2] at h ⊢ <;> omega)
  have h : (decide (x < 0) == decide (y < 0)) = false := h
  refine joinK.direct ?_
  refine callK.eq (below x.natAbs y.natAbs hx hy) ?_
  refine ⟨fun h2 => ?_, fun h2 => join_go ?_⟩
  · have h2 : x.natAbs < y.natAbs := of_decide_eq_true h2
    refine drawK.mk (by kernel_rfl) ?_
    refine callE.mk (take y.natAbs x.natAbs (by omega)) ?_
    refine fin_eq (.agg [.list _, .bool _]) rfl (num_eq ?_ ?_)
    all_goals (by_cases h1 : x < 0 <;> by_cases h2 : y < 0 <;> simp [h1, h2] at h ⊢ <;> omega)
  · have h2 : ¬ x.natAbs < y.natAbs := of_decide_eq_false h2
    refine callK.eq (take x.natAbs y.natAbs (by omega)) ?_
    refine guardK.spec ?_
    refine callE.mk (isZero (x.natAbs - y.natAbs) (by omega)) ?_
    refine fin_eq (.agg [.list _, .bool _]) rfl (num_eq ?_ ?_)
    · by_cases h1 : x < 0 <;> by_cases h2 : y < 0 <;> simp [h1, h2] at h ⊢ <;> omega
    · by_cases h1 : x < 0 <;> by_cases h2 : y < 0 <;> simp only [h1, h2, decide_true, decide_false, cond_true, cond_false, BEq.rfl, Bool.true_eq_false] at h ⊢
      · rw [Bool.eq_iff_iff]; simp; omega
      · rw [Bool.eq_iff_iff]; simp; omega

theorem turnedN (x : Int) (hx : x.natAbs < 65536 ^ 24) : FnC Try.prog 18 [numD x] (· = numD (-x)) := by
  refine FnC.mk Try.func18 rfl rfl (Nat.le_of_ble_eq_true rfl) blw_num1 (by rintro _ rfl; exact blw_numD _) ?_
  refine drawK.mk (by kernel_rfl) ?_
  refine ⟨fun h => ?_, fun h => ?_⟩
  · have h : (!decide (x < 0)) = true := h
    refine callE.mk (isZero x.natAbs hx) ?_
    refine fin_eq (.agg [.list _, .bool _]) rfl (num_eq (by omega) ?_)
    have h1 : ¬ x < 0 := by simpa using h
    rw [Bool.eq_iff_iff]; simp; omega
  · have h : (!decide (x < 0)) = !true := h
    refine fin_eq (.agg [.list _, .bool _]) rfl (num_eq (by omega) ?_)
    by_cases h1 : x < 0 <;> simp [h1] at h ⊢; omega

theorem belowN (x y : Int) (hx : x.natAbs < 65536 ^ 24) (hy : y.natAbs < 65536 ^ 24) : FnC Try.prog 19 [numD x, numD y] (· = .bool (decide (x < y))) := by
  refine FnC.mk Try.func19 rfl rfl (Nat.le_of_ble_eq_true rfl) blw_nums (by rintro _ rfl; simp) ?_
  refine joinK.direct ⟨fun h => ?_, fun h => join_go ?_⟩
  · have h : (decide (x < 0) != decide (y < 0)) = true := h
    refine fin_eq (.bool _) rfl (bool_eq ?_)
    by_cases h1 : x < 0 <;> by_cases h2 : y < 0 <;> simp [h1, h2] at h ⊢ <;> omega
  have h : (decide (x < 0) != decide (y < 0)) = false := h
  refine joinK.direct ⟨fun h2 => ?_, fun h2 => join_go ?_⟩
  · have h2 : x < 0 := of_decide_eq_true h2
    refine callK.eq (below y.natAbs x.natAbs hy hx) ?_
    refine fin_eq (.bool _) rfl (bool_eq ?_)
    by_cases h3 : y < 0 <;> simp [h2, h3] at h ⊢ <;> omega
  · have h2 : ¬ x < 0 := of_decide_eq_false h2
    refine callK.eq (below x.natAbs y.natAbs hx hy) ?_
    refine fin_eq (.bool _) rfl (bool_eq ?_)
    by_cases h3 : y < 0 <;> simp [h2, h3] at h ⊢ <;> omega
end Go.Proofs.Ytckcagmlippneaa
