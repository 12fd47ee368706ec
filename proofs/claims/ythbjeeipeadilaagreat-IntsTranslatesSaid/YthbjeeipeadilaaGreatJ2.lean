/- IntsTranslates: the plain law, and the law's walk. -/
import Derived.Test.YthbjeeipeadilaaGreatJ1
import Derived.Test.YthbjeeipeadilaaGreatB3
import Derived.Test.YthbjeeipeadilaaGreatJA
set_option linter.unusedSimpArgs false
set_option linter.unusedVariables false
set_option maxRecDepth 10000
namespace Go.Proofs.YthbjeeipeadilaaGreat
open Go Go.Pv Go.RowKit

theorem holdsC (op a b : Int) : FnC Tryz.prog 15 [.int .i64 op, .int .i64 a, .int .i64 b] (· = .bool (standsF op a b)) := by
  refine FnC.mk Tryz.func15 rfl rfl (Nat.le_of_ble_eq_true rfl) (by simp) (by rintro _ rfl; simp) ?_
  refine guardK.spec ?_
  refine fin_eq (.bool _) rfl ?_
  unfold standsF
  simp only [Bool.cond_false_right, Bool.cond_true_left]
theorem standsC (op a b : Int) : FnC Tryz.prog 17 [.int .i64 op, .int .u64 a, .int .u64 b] (· = .bool (standsF op a b)) := by
  refine FnC.mk Tryz.func17 rfl rfl (Nat.le_of_ble_eq_true rfl) (by simp) (by rintro _ rfl; simp) ?_
  refine guardK.spec ?_
  refine fin_eq (.bool _) rfl ?_
  unfold standsF
  simp only [Bool.cond_false_right, Bool.cond_true_left]
theorem pickC (k n : Int) (hn : 1 ≤ n) (hn2 : n ≤ 100) : FnC Tryz.prog 14 [.int .i64 k, .int .i64 n] (· = .int .i64 (k % n)) := by
  have h1 : decide (n < 1) = false := decide_eq_false (by omega)
  have ht : k.tmod n = if 0 ≤ k ∨ k % n = 0 then k % n else k % n - n := by
    rw [Int.tmod_eq_emod]
    by_cases h : 0 ≤ k
    · rw [if_pos (.inl h), if_pos (.inl h)]; omega
    · by_cases h2 : k % n = 0
      · rw [if_pos (.inr (Int.dvd_of_emod_eq_zero h2)), if_pos (.inr h2)]; omega
      · rw [if_neg (by rintro (q | q); exact h q; exact h2 (Int.emod_eq_zero_of_dvd q)), if_neg (by omega)]
        have : (n.natAbs : Int) = n := by omega
        omega
  have hm0 := Int.emod_nonneg k (show n ≠ 0 by omega)
  have hm1 := Int.emod_lt_of_pos k (show 0 < n by omega)
  refine FnC.mk Tryz.func14 rfl rfl (Nat.le_of_ble_eq_true rfl) (by simp) (by rintro _ rfl; simp) ?_
  refine joinK.direct ?_
  refine ⟨fun h => absurd (h1.symm.trans h) (by decide), fun _ => join_go ?_⟩
  refine ⟨rfl, by omega, ?_⟩
  refine joinK.direct ?_
  refine ⟨fun h2 => ?_, fun h2 => ?_⟩
  · have h2 : decide (k.tmod n < 0) = true := h2
    have h2 := of_decide_eq_true h2
    refine join_go ?_
    refine fin_eq (.int _ _) rfl (int_eq ?_)
    rw [IntKind.wrap_i64]
    split at ht <;> omega
  · have h2 : decide (k.tmod n < 0) = false := h2
    have h2 := of_decide_eq_false h2
    refine join_go ?_
    refine fin_eq (.int _ _) rfl (int_eq ?_)
    split at ht <;> omega
/-- What is said of a code is what is said of its number. -/
theorem plainT (op c base width x : Int) (hc : -9223372036854775808 ≤ c ∧ c ≤ 9223372036854775807) (hb : -9223372036854775808 ≤ base ∧ base ≤ 9223372036854775807) (ho : 1 ≤ op ∧ op ≤ 6) (hw : 0 ≤ width ∧ width ≤ 64)
    (hx : 0 ≤ x) (hx1 : x ≤ 9223372036854775807 - base) (hx2 : width < 64 → x ≤ limI width) :
    ∃ to v a n, intsF op c base width = .tup [.int .i64 to, .int .u64 v, .bool a, .bool n] ∧
      ((a || n) = true → (a != n) = true ∧ standsF op (base + x) c = a ∧ to = 0 ∧ v = 0) ∧ ((a || n) = false → to = op ∧ v = IntKind.u64.wrap (IntKind.u64.wrap c - IntKind.u64.wrap base) ∧ standsF op (base + x) c = standsF op x v) := by
  have hbad : badF op width = false := by
    unfold badF
    rw [decide_eq_false (show ¬ op < 1 by omega), decide_eq_false (show ¬ op > 6 by omega), decide_eq_false (show ¬ width < 0 by omega), decide_eq_false (show ¬ width > 64 by omega)]; rfl
  have hD0 : dropF base 9223372036854775807 = 9223372036854775807 - base := by
    unfold dropF; rw [show decide ((9223372036854775807 : Int) < base) = false from decide_eq_false (by omega), cond_false, IntKind.wrap_u64, IntKind.wrap_u64, IntKind.wrap_u64]; omega
  have hdr : dropF base c = if base ≤ c then c - base else 0 := by
    unfold dropF
    by_cases h : base ≤ c
    · rw [show decide (c < base) = false from decide_eq_false (by omega), cond_false, IntKind.wrap_u64, IntKind.wrap_u64, IntKind.wrap_u64, if_pos h]; omega
    · rw [show decide (c < base) = true from decide_eq_true (by omega), if_neg h]; rfl
  have hlim0 : 0 ≤ limI width := by unfold limI; rw [IntKind.wrap_u64]; omega
  have hlast : x ≤ lastI base width ∧ lastI base width ≤ 9223372036854775807 - base := by
    unfold lastI; rw [hD0]
    by_cases h : width < 64
    · have := hx2 h
      rw [decide_eq_true h]; simp only [cond_true]; split <;> omega
    · rw [decide_eq_false h]; simp only [cond_false]; omega
  have hat : base ≤ c → IntKind.u64.wrap (IntKind.u64.wrap c - IntKind.u64.wrap base) = c - base := by
    intro h; rw [IntKind.wrap_u64, IntKind.wrap_u64, IntKind.wrap_u64]; omega
  generalize hlst : lastI base width = last at *
  unfold intsF intsR
  rw [hbad]
  simp only [cond_false]
  unfold lowI highI
  rw [hlst, hdr]
  by_cases h1 : base ≤ c
  · rw [if_pos h1, show decide (c < base) = false from decide_eq_false (by omega), hat h1]
    by_cases h2 : c - base ≤ last
    · rw [show decide (c - base > last) = false from decide_eq_false (by omega)]
      clear hdr hD0 hlim0 hlst hat hx2 hbad
      obtain rfl | rfl | rfl | rfl | rfl | rfl : op = 1 ∨ op = 2 ∨ op = 3 ∨ op = 4 ∨ op = 5 ∨ op = 6 := by omega
      · by_cases h3 : last = 0
        · exact ⟨0, 0, true, false, by simp [allI, noneI, h3], by simp [standsF]; omega, by simp⟩
        · exact ⟨1, c - base, false, false, by simp [allI, noneI, beq_false_of_ne h3], by simp, by simp [standsF]; rw [Bool.eq_iff_iff]; simp; omega⟩
      · by_cases h3 : last = 0
        · exact ⟨0, 0, false, true, by simp [allI, noneI, h3], by simp [standsF]; omega, by simp⟩
        · exact ⟨2, c - base, false, false, by simp [allI, noneI, beq_false_of_ne h3], by simp, by simp [standsF]; rw [Bool.eq_iff_iff]; simp; omega⟩
      · by_cases h3 : c - base = 0
        · exact ⟨0, 0, false, true, by simp [allI, noneI, h3], by simp [standsF]; omega, by simp⟩
        · exact ⟨3, c - base, false, false, by simp [allI, noneI, beq_false_of_ne h3], by simp, by simp [standsF]; omega⟩
      · by_cases h3 : c - base = last
        · exact ⟨0, 0, true, false, by simp [allI, noneI, h3], by simp [standsF]; omega, by simp⟩
        · exact ⟨4, c - base, false, false, by simp [allI, noneI, beq_false_of_ne h3], by simp, by simp [standsF]; omega⟩
      · by_cases h3 : c - base = last
        · exact ⟨0, 0, false, true, by simp [allI, noneI, h3], by simp [standsF]; omega, by simp⟩
        · exact ⟨5, c - base, false, false, by simp [allI, noneI, beq_false_of_ne h3], by simp, by simp [standsF]; omega⟩
      · by_cases h3 : c - base = 0
        · exact ⟨0, 0, true, false, by simp [allI, noneI, h3], by simp [standsF]; omega, by simp⟩
        · exact ⟨6, c - base, false, false, by simp [allI, noneI, beq_false_of_ne h3], by simp, by simp [standsF]; omega⟩
    · rw [show decide (c - base > last) = true from decide_eq_true (by omega)]
      clear hdr hD0 hlim0 hlst hat hx2 hbad
      obtain rfl | rfl | rfl | rfl | rfl | rfl : op = 1 ∨ op = 2 ∨ op = 3 ∨ op = 4 ∨ op = 5 ∨ op = 6 := by omega
      · exact ⟨0, 0, false, true, by simp [allI, noneI], by simp [standsF]; omega, by simp⟩
      · exact ⟨0, 0, true, false, by simp [allI, noneI], by simp [standsF]; omega, by simp⟩
      · exact ⟨0, 0, true, false, by simp [allI, noneI], by simp [standsF]; omega, by simp⟩
      · exact ⟨0, 0, true, false, by simp [allI, noneI], by simp [standsF]; omega, by simp⟩
      · exact ⟨0, 0, false, true, by simp [allI, noneI], by simp [standsF]; omega, by simp⟩
      · exact ⟨0, 0, false, true, by simp [allI, noneI], by simp [standsF]; omega, by simp⟩
  · rw [if_neg h1, show decide (c < base) = true from decide_eq_true (by omega)]
    clear hdr hD0 hlim0 hlst hat hx2 hbad
    obtain rfl | rfl | rfl | rfl | rfl | rfl : op = 1 ∨ op = 2 ∨ op = 3 ∨ op = 4 ∨ op = 5 ∨ op = 6 := by omega
    · exact ⟨0, 0, false, true, by simp [allI, noneI], by simp [standsF]; omega, by simp⟩
    · exact ⟨0, 0, true, false, by simp [allI, noneI], by simp [standsF]; omega, by simp⟩
    · exact ⟨0, 0, false, true, by simp [allI, noneI], by simp [standsF]; omega, by simp⟩
    · exact ⟨0, 0, false, true, by simp [allI, noneI], by simp [standsF]; omega, by simp⟩
    · exact ⟨0, 0, true, false, by simp [allI, noneI], by simp [standsF]; omega, by simp⟩
    · exact ⟨0, 0, true, false, by simp [allI, noneI], by simp [standsF]; omega, by simp⟩
end Go.Proofs.YthbjeeipeadilaaGreat
