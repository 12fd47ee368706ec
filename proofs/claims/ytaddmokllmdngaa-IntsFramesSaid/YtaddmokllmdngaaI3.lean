import Derived.Test.YtaddmokllmdngaaI2
namespace Go.Proofs.Ytaddmokllmdngaa
open Go Go.Pv Go.RowKit
set_option maxRecDepth 10000

theorem all_codes (p : Int → Bool) (c base width : Int) : (codesF c base width).all p = (p 0 && p (lastF base width) && (bif decide (c ≥ base) && decide (atF c base ≤ lastF base width) then p (atF c base) && (bif decide (atF c base > 0) then p (IntKind.u64.wrap (atF c base - 1)) else true) && (bif decide (atF c base < lastF base width) then p (IntKind.u64.wrap (atF c base + 1)) else true) else true)) := by
  unfold codesF
  cases decide (c ≥ base) && decide (atF c base ≤ lastF base width) <;> cases decide (atF c base > 0) <;> cases decide (atF c base < lastF base width) <;> simp [Bool.and_assoc]

theorem plain (op c base width : Int) (hc : -9223372036854775808 ≤ c ∧ c ≤ 9223372036854775807) (hb : -9223372036854775808 ≤ base ∧ base ≤ 9223372036854775807) :
    refF op c base width = intsF op c base width := by
  unfold refF intsF
  cases hbad : badF op width with
  | true => rfl
  | false =>
  simp only [cond_false]
  have hop : 1 ≤ op ∧ op ≤ 6 ∧ 0 ≤ width ∧ width ≤ 64 := by
    revert hbad; unfold badF
    cases h1 : decide (op < 1) <;> cases h2 : decide (op > 6) <;> cases h3 : decide (width < 0) <;> simp
    simp at h1 h2 h3; omega
  have hw : IntKind.u64.wrap width = width := IntWalk.u64_in width ⟨hop.2.2.1, by omega⟩
  have hlim : lim width = limI width := by unfold lim limI; rw [hw]
  have hL0 : last0 base = 9223372036854775807 - base := by unfold last0; rw [IntKind.wrap_u64, IntKind.wrap_u64]; omega
  have hD0 : dropF base 9223372036854775807 = 9223372036854775807 - base := by
    unfold dropF; rw [show decide ((9223372036854775807 : Int) < base) = false from decide_eq_false (by omega), cond_false, IntKind.wrap_u64, IntKind.wrap_u64, IntKind.wrap_u64]; omega
  have hlim0 : 0 ≤ limI width := by unfold limI; rw [IntKind.wrap_u64]; omega
  have hlast : lastF base width = lastI base width := by
    unfold lastF lastI cutF; rw [hlim, hL0, hD0]
    cases h1 : decide (width < 64) with
    | false => simp
    | true =>
      by_cases h2 : limI width < 9223372036854775807 - base
      · simp [h2]
      · simp [h2]
  have hat : atF c base = if base ≤ c then c - base else c - base + 18446744073709551616 := by
    unfold atF; rw [IntKind.wrap_u64, IntKind.wrap_u64, IntKind.wrap_u64]; split <;> omega
  have hdr : dropF base c = if base ≤ c then c - base else 0 := by
    unfold dropF
    by_cases h : base ≤ c
    · rw [show decide (c < base) = false from decide_eq_false (by omega), cond_false, IntKind.wrap_u64, IntKind.wrap_u64, IntKind.wrap_u64, if_pos h]; omega
    · rw [show decide (c < base) = true from decide_eq_true (by omega), if_neg h]; rfl
  have hlb : 0 ≤ lastI base width ∧ lastI base width ≤ 9223372036854775807 - base := by
    unfold lastI; rw [hD0]
    cases decide (width < 64) with
    | false => simp; omega
    | true => simp only [cond_true]; split <;> omega
  generalize hlst : lastI base width = last at *
  have his : ∀ x, 0 ≤ x → x ≤ last → isAt op c base x = standsF op (base + x) c := by
    intro x h0 h1; unfold isAt; congr 1
    rw [IntKind.wrap_u64, IntKind.wrap_u64, IntKind.wrap_i64]; omega
  unfold refTailF intsR
  rw [all_codes, all_codes, hlast, hdr]
  unfold lowI highI
  rw [hlst, hdr]
  rw [his 0 (by omega) (by omega), his last (by omega) (by omega)]
  have hdec : ∀ q : Prop, ∀ [Decidable q], (decide q = true ↔ q) := fun q _ => decide_eq_true_iff
  by_cases h1 : base ≤ c
  · rw [if_pos h1] at hat
    rw [hat, if_pos h1]
    rw [show decide (c < base) = false from decide_eq_false (by omega), show decide (c ≥ base) = true from decide_eq_true h1]
    by_cases h2 : c - base ≤ last
    · rw [show decide (c - base ≤ last) = true from decide_eq_true h2, show decide (c - base > last) = false from decide_eq_false (by omega)]
      simp only [Bool.and_true, cond_true, Bool.not_false, Bool.not_true, cond_false]
      rw [his (c - base) (by omega) (by omega)]
      by_cases h3 : c - base > 0
      · rw [show decide (c - base > 0) = true from decide_eq_true h3, show IntKind.u64.wrap (c - base - 1) = c - base - 1 from IntWalk.u64_in _ ⟨by omega, by omega⟩, his (c - base - 1) (by omega) (by omega)]
        by_cases h4 : c - base < last
        · rw [show decide (c - base < last) = true from decide_eq_true h4, show IntKind.u64.wrap (c - base + 1) = c - base + 1 from IntWalk.u64_in _ ⟨by omega, by omega⟩, his (c - base + 1) (by omega) (by omega)]
          clear his hat hdr hlast hD0 hL0 hlim hw hlim0 hlst
          obtain rfl | rfl | rfl | rfl | rfl | rfl : op = 1 ∨ op = 2 ∨ op = 3 ∨ op = 4 ∨ op = 5 ∨ op = 6 := by omega
          all_goals (simp only [standsF, allI, noneI]; simp; grind)
        · rw [show decide (c - base < last) = false from decide_eq_false h4]
          clear his hat hdr hlast hD0 hL0 hlim hw hlim0 hlst
          obtain rfl | rfl | rfl | rfl | rfl | rfl : op = 1 ∨ op = 2 ∨ op = 3 ∨ op = 4 ∨ op = 5 ∨ op = 6 := by omega
          all_goals (simp only [standsF, allI, noneI]; simp; grind)
      · rw [show decide (c - base > 0) = false from decide_eq_false h3]
        by_cases h4 : c - base < last
        · rw [show decide (c - base < last) = true from decide_eq_true h4, show IntKind.u64.wrap (c - base + 1) = c - base + 1 from IntWalk.u64_in _ ⟨by omega, by omega⟩, his (c - base + 1) (by omega) (by omega)]
          clear his hat hdr hlast hD0 hL0 hlim hw hlim0 hlst
          obtain rfl | rfl | rfl | rfl | rfl | rfl : op = 1 ∨ op = 2 ∨ op = 3 ∨ op = 4 ∨ op = 5 ∨ op = 6 := by omega
          all_goals (simp only [standsF, allI, noneI]; simp; grind)
        · rw [show decide (c - base < last) = false from decide_eq_false h4]
          clear his hat hdr hlast hD0 hL0 hlim hw hlim0 hlst
          obtain rfl | rfl | rfl | rfl | rfl | rfl : op = 1 ∨ op = 2 ∨ op = 3 ∨ op = 4 ∨ op = 5 ∨ op = 6 := by omega
          all_goals (simp only [standsF, allI, noneI]; simp; grind)
    · rw [show decide (c - base ≤ last) = false from decide_eq_false h2, show decide (c - base > last) = true from decide_eq_true (by omega)]
      simp only [Bool.and_true, Bool.and_false, cond_true, Bool.not_false, Bool.not_true, cond_false]
      clear his hat hdr hlast hD0 hL0 hlim hw hlim0 hlst
      obtain rfl | rfl | rfl | rfl | rfl | rfl : op = 1 ∨ op = 2 ∨ op = 3 ∨ op = 4 ∨ op = 5 ∨ op = 6 := by omega
      all_goals (simp only [standsF, allI, noneI]; simp; grind)
  · rw [if_neg h1] at hat
    rw [hat, if_neg h1]
    rw [show decide (c < base) = true from decide_eq_true (by omega), show decide (c ≥ base) = false from decide_eq_false h1]
    simp only [Bool.false_and, cond_true, Bool.not_false, Bool.not_true, cond_false]
    clear his hat hdr hlast hD0 hL0 hlim hw hlim0 hlst
    obtain rfl | rfl | rfl | rfl | rfl | rfl : op = 1 ∨ op = 2 ∨ op = 3 ∨ op = 4 ∨ op = 5 ∨ op = 6 := by omega
    all_goals (simp only [standsF, allI, noneI]; simp; grind)

theorem intsF_tup (op c base width : Int) : ∃ a b x y, intsF op c base width = .tup [.int .i64 a, .int .u64 b, .bool x, .bool y] := by
  unfold intsF intsR
  cases badF op width with
  | true => exact ⟨_, _, _, _, rfl⟩
  | false =>
    simp only [cond_false]
    cases (bif allI op (lowI c base) (highI c base width) (lastI base width) (dropF base c) then true else noneI op (lowI c base) (highI c base width) (lastI base width) (dropF base c)) <;> exact ⟨_, _, _, _, rfl⟩

theorem law (op c base width : Int) (hc : -9223372036854775808 ≤ c ∧ c ≤ 9223372036854775807) (hb : -9223372036854775808 ≤ base ∧ base ≤ 9223372036854775807) :
    FnC Try.prog 4 [.int .i64 op, .int .i64 c, .int .i64 base, .int .i64 width] (· = .bool true) := by
  obtain ⟨a, b, x, y, e⟩ := intsF_tup op c base width
  have r1 := refToFrame op c base width
  have r2 := intsToFrame op c base width
  rw [plain op c base width hc hb, e] at r1
  rw [e] at r2
  refine FnC.mk Try.func4 rfl rfl (Nat.le_of_ble_eq_true rfl) (by simp) (by rintro _ rfl; simp) ?_
  refine callK.eq r1 ?_
  refine callK.eq r2 ?_
  refine guardK.spec ?_
  exact fin_eq (.bool _) rfl (by simp)
end Go.Proofs.Ytaddmokllmdngaa
