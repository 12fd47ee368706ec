/- WideOfs, WideInts: the laws' walks. -/
import Derived.Test.YtckcagmlippneaaWO
namespace Go.Proofs.Ytckcagmlippneaa
open Go Go.Pv Go.RowKit
set_option linter.unusedSimpArgs false
set_option linter.unusedVariables false
set_option maxRecDepth 10000
set_option exponentiation.threshold 1000

theorem isI64_of {i : Int} (h : i64R i) : isI64 i = true := by unfold isI64; have := h.1; have := h.2; simp; omega
theorem i64_in128 {i : Int} (h : i64R i) : in128 i := ⟨by have := h.1; omega, by have := h.2; omega⟩
theorem prod_lt {i n : Int} (hi : i64R i) (hn : i64R n) : (i * n).natAbs < 2 ^ 200 := by
  obtain ⟨h1, h2⟩ := hi
  obtain ⟨h3, h4⟩ := hn
  rw [Int.natAbs_mul]
  have : i.natAbs * n.natAbs ≤ 2 ^ 64 * 2 ^ 64 := Nat.mul_le_mul (by omega) (by omega)
  omega
theorem mul_abs (i n : Int) : (if n < 0 then -(i * (n.natAbs : Int)) else i * (n.natAbs : Int)) = i * n := by
  split
  · rename_i h
    rw [show ((n.natAbs : Nat) : Int) = -n from by omega, Int.mul_neg, Int.neg_neg]
  · rename_i h
    rw [show ((n.natAbs : Nat) : Int) = n from by omega]
theorem lawOfs (i : Int) (hi : i64R i) (n : Int) (hn : i64R n) : FnC Try.prog 4 [.int .i64 i, .int .i64 n] (· = .bool true) := by
  refine FnC.mk Try.func4 rfl rfl (Nat.le_of_ble_eq_true rfl) (by simp) (by rintro _ rfl; simp) ?_
  have bi : i.natAbs < 2 ^ 64 := by have := hi.1; have := hi.2; omega
  have bn : n.natAbs < 18446744073709551616 := by have := hn.1; have := hn.2; omega
  have bp : (i * (n.natAbs : Int)).natAbs < 2 ^ 200 := by
    rw [Int.natAbs_mul, Int.natAbs_natCast]
    have : i.natAbs * n.natAbs ≤ 2 ^ 64 * 2 ^ 64 := Nat.mul_le_mul (by omega) (by omega)
    omega
  have bp2 := prod_lt hi hn
  refine callK.eq (intN i hi) ?_
  refine callK.eq (ofL i (by omega)) ?_
  refine callK.eq (intN n hn) ?_
  refine callK.eq (intN i hi) ?_
  refine callK.eq (magL n hn) ?_
  refine callK.eq (timesN i n.natAbs (by omega) bn) ?_
  refine joinK.use [0, 1, 5, 7] (fun _ : Unit => [.int .i64 i, .int .i64 n, .pobj 0 0 0, .pobj 2 0 0]) (fun _ => [widePO (wideC i), numPO (numC n), numPO (numC (i * n))]) (fun _ => True) ?_ ?_
  · refine ⟨fun h => ?_, fun h => ?_⟩
    · have h : n < 0 := of_decide_eq_true h
      refine callK.eq (turnedN _ (by omega)) ?_
      refine join_at () trivial ⟨rfl, rfl, rfl, rfl, trivial⟩ (.inl ?_)
      have := mul_abs i n
      rw [if_pos h] at this
      exact congrArg (fun z => [widePO (wideC i), numPO (numC n), numPO (numC z)]) this
    · have h : ¬ n < 0 := of_decide_eq_false h
      refine join_at () trivial ⟨rfl, rfl, rfl, rfl, trivial⟩ (.inl ?_)
      have := mul_abs i n
      rw [if_neg h] at this
      exact congrArg (fun z => [widePO (wideC i), numPO (numC n), numPO (numC z)]) this
  rintro ⟨⟩ -
  have c := intW i (i64_in128 hi)
  rw [isI64_of hi, if_pos rfl] at c
  refine callK.eq (ofW i hi) ?_
  refine callK.eq c ?_
  refine drawK.mk (by kernel_rfl) ?_
  refine callE.mk (ofW i hi) ?_
  refine ⟨EqOk.mk (by kernel_rfl), ?_⟩
  refine ⟨fun _ => ?_, fun h => absurd h (by simp)⟩
  refine callE.mk (timesW i n hi hn) ?_
  refine callE.mk (ofL (i * n) (by omega)) ?_
  refine ⟨EqOk.mk (by kernel_rfl), ?_⟩
  refine ⟨fun _ => ?_, fun h => absurd h (by simp)⟩
  refine ⟨fun _ => ?_, fun h => absurd h (by simp)⟩
  refine ⟨fun _ => ?_, fun h => absurd h (by simp)⟩
  refine callE.mk known ?_
  exact fin_eq (.bool _) rfl rfl

theorem lawInts (x : Int) (hx : in128 x) : FnC Try.prog 5 [wideD x] (· = .bool true) := by
  refine FnC.mk Try.func5 rfl rfl (Nat.le_of_ble_eq_true rfl) blw_wide1 (by rintro _ rfl; simp) ?_
  have bx : x.natAbs < 2 ^ 128 := by have := hx.1; have := hx.2; omega
  refine callK.eq (numL x hx) ?_
  refine drawK.mk (by kernel_rfl) ?_
  refine callE.mk (intN (-9223372036854775808) (by unfold i64R; decide)) ?_
  refine callE.mk (belowN x (-9223372036854775808) (by omega) (by decide)) ?_
  have c := intW x hx
  have out : isI64 x = false → (if isI64 x then x else 0) = 0 := fun h => by rw [h]; rfl
  refine ⟨fun h1 => ?_, fun h1 => ?_⟩
  · have h1 : (!decide (x < -9223372036854775808)) = true := h1
    have h1 : ¬ x < -9223372036854775808 := by simpa using h1
    refine callE.mk (intN 9223372036854775807 (by unfold i64R; decide)) ?_
    refine callE.mk (belowN 9223372036854775807 x (by decide) (by omega)) ?_
    refine callK.eq c ?_
    refine joinK.direct ⟨fun h2 => ?_, fun h2 => join_go ?_⟩
    · have h2 : (!(!decide (9223372036854775807 < x))) = true := h2
      have h2 : 9223372036854775807 < x := by simpa using h2
      have hn : isI64 x = false := by unfold isI64; simp; omega
      refine guardK.split ?_
      refine ⟨fun _ => ?_, fun h => absurd h (by rw [hn]; decide)⟩
      refine ⟨fun _ => ?_, fun h => absurd h (by rw [out hn]; decide)⟩
      refine callK.eq known ?_
      exact fin_eq (.bool _) rfl rfl
    · have h2 : (!(!decide (9223372036854775807 < x))) = false := h2
      have h2 : ¬ 9223372036854775807 < x := by simpa using h2
      have hn : isI64 x = true := by unfold isI64; simp; omega
      refine drawK.mk (by kernel_rfl) ?_
      refine ⟨fun _ => ?_, fun h => absurd h (by rw [hn]; decide)⟩
      have e : (if isI64 x then x else 0) = x := by rw [hn]; rfl
      have ci := intN x ⟨by omega, by omega⟩
      rw [← e] at ci
      refine callE.mk ci ?_
      refine callE.mk (ofL _ (by rw [e]; omega)) ?_
      refine ⟨EqOk.mk (by kernel_rfl), ?_⟩
      refine ⟨fun _ => ?_, fun h => absurd h (by rw [e]; simp)⟩
      refine callE.mk known ?_
      exact fin_eq (.bool _) rfl rfl
  · have h1 : (!decide (x < -9223372036854775808)) = !true := h1
    have h1 : x < -9223372036854775808 := by simpa using h1
    have hn : isI64 x = false := by unfold isI64; simp; omega
    refine callK.eq c ?_
    refine joinK.direct ⟨fun _ => ?_, fun h => (by cases h)⟩
    refine guardK.split ?_
    refine ⟨fun _ => ?_, fun h => absurd h (by rw [hn]; decide)⟩
    refine ⟨fun _ => ?_, fun h => absurd h (by rw [out hn]; decide)⟩
    refine callK.eq known ?_
    exact fin_eq (.bool _) rfl rfl
end Go.Proofs.Ytckcagmlippneaa
