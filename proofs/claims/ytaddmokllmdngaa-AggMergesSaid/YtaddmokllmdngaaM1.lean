/- The seat s1: floats of the mean as a value: value.Real and the reference's; alike. -/
import Derived.Test.YtaddmokllmdngaaM0
namespace Go.Proofs.Ytaddmokllmdngaa
open Go Go.Pv Go.RowKit
set_option linter.unusedSimpArgs false
set_option linter.unusedVariables false
set_option maxRecDepth 10000
set_option exponentiation.threshold 2000

theorem write_0 (p : Int) : Ieee.double.write (.number false 0 p) = 0 := by
  show Ieee.double.nearest false 0 p = 0
  unfold Ieee.Format.nearest; rw [if_pos rfl]; rfl
theorem sub_self {E M : Nat} (h : FOk E M) (s : Bool) : floatBits .sub .f64 (fbits s E M) (fbits s E M) = some 0 := by
  have h3 : floatBits .sub .f64 (fbits s E M) (fbits s E M) = ((Ieee.double.read (fbits s E M)).sum (Ieee.double.read (fbits s E M)).opposite).map Ieee.double.write := rfl
  rw [h3, read_fbits h]
  unfold Ieee.Datum.opposite Ieee.Datum.sum
  simp only [signed_eq, Int.min_self, Int.sub_self, Option.map_some]
  have e : rungI s (M * 2 ^ (0 : Int).toNat) + rungI (!s) (M * 2 ^ (0 : Int).toNat) = 0 := by
    generalize M * 2 ^ (0 : Int).toNat = x
    unfold rungI; cases s <;> simp only [Bool.not_true, Bool.not_false, cond_true, cond_false] <;> omega
  rw [e, if_pos rfl]
  cases s <;> exact congrArg some (write_0 _)
theorem add_zero' {E M : Nat} (h : FOk E M) (s : Bool) : floatBits .add .f64 (fbits s E M) 0 = some (fbits s E M) := by
  have h3 : floatBits .add .f64 (fbits s E M) 0 = ((Ieee.double.read (fbits s E M)).sum (Ieee.double.read 0)).map Ieee.double.write := rfl
  rw [h3, read_fbits h, read_0]
  unfold Ieee.Datum.sum
  have em : min ((E : Int) - 1074) (-1074) = -1074 := by omega
  have et : ((E : Int) - 1074 - -1074).toNat = E := by omega
  simp only [signed_eq, em, et, Option.map_some, Nat.zero_mul]
  have p1 : 0 < M * 2 ^ E := Nat.mul_pos (by have := h.lo; omega) (Nat.pow_pos (by decide))
  have e : rungI s (M * 2 ^ E) + rungI false 0 = rungI s (M * 2 ^ E) := by unfold rungI; simp
  rw [e]
  have e2 : ¬ rungI s (M * 2 ^ E) = 0 := by unfold rungI; generalize M * 2 ^ E = x at *; cases s <;> simp only [cond_true, cond_false] <;> omega
  have e3 : decide (rungI s (M * 2 ^ E) < 0) = s := by unfold rungI; generalize M * 2 ^ E = x at *; cases s <;> simp only [cond_true, cond_false] <;> simp <;> omega
  have e4 : (rungI s (M * 2 ^ E)).natAbs = M * 2 ^ E := by unfold rungI; generalize M * 2 ^ E = x at *; cases s <;> simp only [cond_true, cond_false] <;> omega
  rw [if_neg e2, e3, e4]
  exact congrArg some (nearest_fbits h s E (-1074) (by omega))
theorem mul_sign {E M : Nat} (h : FOk E M) (s : Bool) : floatBits .mul .f64 (fbits false E M) (fbits s 1022 4503599627370496) = some (fbits s E M) := by
  have h1 := nearest_fbits (E := E) (M := M) h s 52 ((E : Int) - 1074 + (((1022 : Nat) : Int) - 1074)) (by omega)
  have h3 : floatBits .mul .f64 (fbits false E M) (fbits s 1022 4503599627370496) = ((Ieee.double.read (fbits false E M)).product (Ieee.double.read (fbits s 1022 4503599627370496))).map Ieee.double.write := rfl
  rw [h3, read_fbits h, read_fbits ⟨by decide, by decide, by decide⟩]
  simp only [Ieee.Datum.product, Option.map_some, Bool.false_xor]
  exact congrArg some h1
theorem fone : (4607182418800017408 : Nat) = fbits false 1022 4503599627370496 := by decide +kernel
theorem mone_f : (13830554455654793216 : Nat) = fbits true 1022 4503599627370496 := by decide +kernel
theorem sub_00 : floatBits .sub .f64 0 0 = some 0 := by decide +kernel
theorem add_00 : floatBits .add .f64 0 0 = some 0 := by decide +kernel
theorem mul_01 : floatBits .mul .f64 0 4607182418800017408 = some 0 := by decide +kernel
/-- A value. -/
def valC (k i : Int) (f : Nat) (s : ByteArray) : List DV := [.int .i64 k, .int .i64 i, .flt .f64 f, .str s]

theorem noneV : FnC Try.prog 64 [] (· = .agg (valC 0 0 0 .empty)) := by
  refine FnC.mk Try.func64 rfl rfl (Nat.le_of_ble_eq_true rfl) (by simp) (by rintro _ rfl; simp [valC]) ?_
  exact fin_eq (.agg _) rfl rfl
theorem intV (i : Int) : FnC Try.prog 34 [.int .i64 i] (· = .agg (valC 1 i 0 .empty)) := by
  refine FnC.mk Try.func34 rfl rfl (Nat.le_of_ble_eq_true rfl) (by simp) (by rintro _ rfl; simp [valC]) ?_
  exact fin_eq (.agg _) rfl rfl
theorem realV (f : Nat) (hs : floatBits .sub .f64 f f = some 0) (ha : floatBits .add .f64 f 0 = some f) : FnC Try.prog 36 [.flt .f64 f] (· = .agg (valC 3 0 f .empty)) := by
  refine FnC.mk Try.func36 rfl rfl (Nat.le_of_ble_eq_true rfl) (by simp) (by rintro _ rfl; simp [valC]) ?_
  refine joinK.direct ⟨rfl, optK.mk hs ?_⟩
  refine ⟨fun h => ?_, fun _ => join_go ?_⟩
  · exfalso
    have h : (FloatKind.f64.format.order 0 0 != some Ordering.eq) = true := h
    rw [show FloatKind.f64.format.order 0 0 = some Ordering.eq from order_00] at h
    cases h
  · refine ⟨rfl, optK.mk ha ?_⟩
    exact fin_eq (.agg _) rfl rfl
theorem signR {E M : Nat} (h : FOk E M) (s : Bool) : FnC Try.prog 51 [.flt .f64 (fbits s E M)] (· = .flt .f64 (fbits s 1022 4503599627370496)) := by
  refine FnC.mk Try.func51 rfl rfl (Nat.le_of_ble_eq_true rfl) (by simp) (by rintro _ rfl; simp) ?_
  have ho : FloatKind.f64.format.order (fbits s E M) 0 = _ := order_f0 h s
  refine joinK.direct ⟨fun h => ?_, fun h => join_go ?_⟩
  · have h : (FloatKind.f64.format.order (fbits s E M) 0 == some Ordering.lt) = true := h
    rw [ho] at h
    have e : s = true := by cases s; exact absurd h (by decide); rfl
    exact fin_eq (.flt _ _) rfl (flt_eq (by rw [e]; exact mone_f))
  · have h : (FloatKind.f64.format.order (fbits s E M) 0 == some Ordering.lt) = false := h
    rw [ho] at h
    have e : s = false := by cases s; rfl; exact absurd h (by decide)
    exact fin_eq (.flt _ _) rfl (flt_eq (by rw [e]; exact fone))
theorem signR0 : FnC Try.prog 51 [.flt .f64 0] (· = .flt .f64 4607182418800017408) := by
  refine FnC.mk Try.func51 rfl rfl (Nat.le_of_ble_eq_true rfl) (by simp) (by rintro _ rfl; simp) ?_
  refine joinK.direct ⟨fun h => ?_, fun h => join_go ?_⟩
  · exfalso
    have h : (FloatKind.f64.format.order 0 0 == some Ordering.lt) = true := h
    rw [show FloatKind.f64.format.order 0 0 = some Ordering.eq from order_00] at h
    cases h
  · exact fin_eq (.flt _ _) rfl rfl
theorem isNaN0 : FnC Try.prog 48 [.flt .f64 0] (· = .bool false) := by
  refine FnC.mk Try.func48 rfl rfl (Nat.le_of_ble_eq_true rfl) (by simp) (by rintro _ rfl; simp) ?_
  refine fin_eq (.bool _) rfl (bool_eq ?_)
  rw [show FloatKind.f64.format.order 0 0 = some Ordering.eq from order_00]; rfl
theorem order_0max : Ieee.double.order 0 9218868437227405311 = some .lt := by decide +kernel
theorem isInf0 : FnC Try.prog 49 [.flt .f64 0, .int .i64 0] (· = .bool false) := by
  refine FnC.mk Try.func49 rfl rfl (Nat.le_of_ble_eq_true rfl) (by simp) (by rintro _ rfl; simp) ?_
  refine joinK.direct ⟨fun _ => ?_, fun h => (by cases h)⟩
  refine callK.eq (absF 0 (by decide)) ?_
  refine join_go ?_
  refine fin_eq (.bool _) rfl (bool_eq ?_)
  rw [show FloatKind.f64.format.order (0 % 9223372036854775808) 9218868437227405311 = some Ordering.lt from order_0max]; rfl
/-- The reference's Real: of a number that is finite and no zero. -/
theorem realR {E M : Nat} (h : FOk E M) (s : Bool) : FnC Try.prog 32 [.flt .f64 (fbits s E M)] (· = .agg (valC 3 0 (fbits s E M) .empty)) := by
  have ho : FloatKind.f64.format.order (fbits s E M) 0 = some (bif s then .lt else .gt) := order_f0 h s
  have c := absF (fbits s E M) (fbits_abs h s).2
  rw [(fbits_abs h s).1] at c
  have c1 := isNaN h s
  have c2 := isInf h s
  have c3 := signR h s
  have c4 := mul_sign h s
  generalize fbits s E M = f at *
  refine FnC.mk Try.func32 rfl rfl (Nat.le_of_ble_eq_true rfl) (by simp) (by rintro _ rfl; simp [valC]) ?_
  refine joinK.direct ?_
  refine guardK.spec ?_
  refine callK.eq c1 ?_
  refine callE.mk c2 ?_
  refine ⟨fun h => (by cases h), fun _ => ?_⟩
  refine join_go ?_
  refine joinK.direct ⟨fun h => ?_, fun _ => join_go ?_⟩
  · exfalso
    have h : (FloatKind.f64.format.order f 0 == some Ordering.eq) = true := h
    rw [ho] at h
    cases s <;> exact absurd h (by decide)
  · refine callK.eq c ?_
    refine callK.eq c3 ?_
    refine ⟨rfl, optK.mk c4 ?_⟩
    exact fin_eq (.agg _) rfl rfl
theorem realR0 : FnC Try.prog 32 [.flt .f64 0] (· = .agg (valC 3 0 0 .empty)) := by
  have ho : FloatKind.f64.format.order 0 0 = some Ordering.eq := order_00
  have c := absF 0 (by decide)
  rw [Nat.zero_mod] at c
  refine FnC.mk Try.func32 rfl rfl (Nat.le_of_ble_eq_true rfl) (by simp) (by rintro _ rfl; simp [valC]) ?_
  refine joinK.direct ?_
  refine guardK.spec ?_
  refine callK.eq isNaN0 ?_
  refine callE.mk isInf0 ?_
  refine ⟨fun h => (by cases h), fun _ => ?_⟩
  refine join_go ?_
  refine joinK.direct ⟨fun _ => join_go ?_, fun h => ?_⟩
  · refine callK.eq c ?_
    refine callK.eq signR0 ?_
    refine ⟨rfl, optK.mk mul_01 ?_⟩
    exact fin_eq (.agg _) rfl rfl
  · exfalso
    have h : (FloatKind.f64.format.order 0 0 == some Ordering.eq) = false := h
    rw [ho] at h
    cases h
theorem wideR (n : Int) (hn : i64R n) : FnC Try.prog 31 [.int .i64 n] (· = .tup [.int .i64 (if n < 0 then -1 else 0), .int .u64 (IntKind.u64.wrap n)]) := by
  refine FnC.mk Try.func31 rfl rfl (Nat.le_of_ble_eq_true rfl) (by simp) (by rintro _ rfl; simp) ?_
  refine joinK.direct ⟨fun h => ?_, fun h => join_go ?_⟩
  · have h : n < 0 := of_decide_eq_true h
    exact fin_eq (.tup [.int _ _, .int _ _]) rfl (by rw [if_pos h])
  · have h : ¬ n < 0 := of_decide_eq_false h
    exact fin_eq (.tup [.int _ _, .int _ _]) rfl (by rw [if_neg h])
theorem self_f {f : Nat} (h : (bif FloatKind.f64.format.order f f != some Ordering.eq then FloatKind.f64.format.order f f != some Ordering.eq else false) = false) : Op.floatEq .f64 f f = true := by
  show (FloatKind.f64.format.order f f == some Ordering.eq) = true
  revert h
  cases FloatKind.f64.format.order f f with
  | none => intro h; cases h
  | some o => cases o <;> intro h <;> first | rfl | cases h
theorem h0 : Op.floatEq .f64 0 0 = true := by
  show (FloatKind.f64.format.order 0 0 == some Ordering.eq) = true
  rw [show FloatKind.f64.format.order 0 0 = some Ordering.eq from order_00]; rfl
theorem self_eq (k i : Int) (s : ByteArray) {f : Nat} (h : Op.floatEq .f64 f f = true) : (k == k && (i == i && (Op.floatEq .f64 f f && (s == s && true)))) = true := by
  have e : (s == s) = true := by cases s with | mk d => exact beq_self_eq_true d
  rw [h, e]; simp
/-- alike, of the same value twice. -/
theorem alikeL (k i : Int) (f : Nat) (s : ByteArray) : FnC Try.prog 18 [.agg (valC k i f s), .agg (valC k i f s)] (· = .bool true) := by
  refine FnC.mk Try.func18 rfl rfl (Nat.le_of_ble_eq_true rfl) (by simp [valC]) (by rintro _ rfl; simp) ?_
  refine joinK.direct ?_
  refine guardK.spec ?_
  refine ⟨fun h => join_go ?_, fun h => join_go ?_⟩
  · refine ⟨EqOk.mk (by kernel_rfl), ?_⟩
    refine fin_eq (.bool _) rfl (bool_eq ?_)
    exact self_eq k i s h0
  · refine ⟨EqOk.mk (by kernel_rfl), ?_⟩
    refine fin_eq (.bool _) rfl (bool_eq ?_)
    have h : (bif FloatKind.f64.format.order f f != some Ordering.eq then FloatKind.f64.format.order f f != some Ordering.eq else false) = false := h
    exact self_eq k i s (self_f h)
end Go.Proofs.Ytaddmokllmdngaa
