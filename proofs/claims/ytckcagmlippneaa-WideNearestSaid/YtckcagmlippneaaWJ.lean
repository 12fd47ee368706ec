/- math: the words of floats; Abs, IsInf, IsNaN, normalize, Ldexp of a number that needs no rounding. -/
import Derived.Test.YtckcagmlippneaaWI
import Derived.Test.YtckcagmlippneaaPvF
set_option linter.unusedSimpArgs false
set_option linter.unusedVariables false
namespace Go.Proofs.Ytckcagmlippneaa
open Go Go.Pv Go.RowKit
set_option maxRecDepth 10000
set_option exponentiation.threshold 1000

theorem one1 {h : Hp} {β : Nat → Bl} {vs : Array Value} {d : DV} {v : Value} (ht : toV d = some v) (hs : vs.size = 1) (hr : ∀ (i : Nat) (v : Value) (d' : DV), vs[i]? = some v → [d][i]? = some d' → Rep h β v d') :
    vs = #[v] := by
  apply Array.ext_getElem?
  intro i
  match i with
  | 0 =>
    have r := hr 0 _ d (Array.getElem?_eq_getElem (by omega)) rfl
    rw [Array.getElem?_eq_getElem (by omega), rep_toV ht r]; rfl
  | i + 1 => rw [Array.getElem?_eq_none (by omega)]; simp

theorem f64bits (b : Nat) : FnC Try.prog 39 [.flt .f64 b] (· = .int .u64 b) :=
  FnC.ext (by simp) (by rintro _ rfl; simp) fun vs h w hs hr => by
    obtain rfl := one1 (v := .float .f64 b) rfl hs hr
    refine ⟨.int .u64 b, _, ?_, .int _ _, rfl⟩
    rw [run_callFunc_extern Try.func39 (by kernel_rfl) (by kernel_rfl) (by kernel_rfl) (e := Extern.MathFloatBits.float64bits) (by kernel_rfl)]; rfl
theorem f64from (n : Int) : FnC Try.prog 41 [.int .u64 n] (· = .flt .f64 n.toNat) :=
  FnC.ext (by simp) (by rintro _ rfl; simp) fun vs h w hs hr => by
    obtain rfl := one1 (v := .int .u64 n) rfl hs hr
    refine ⟨.float .f64 n.toNat, _, ?_, .flt _ _, rfl⟩
    rw [run_callFunc_extern Try.func41 (by kernel_rfl) (by kernel_rfl) (by kernel_rfl) (e := Extern.MathFloatBits.float64frombits) (by kernel_rfl)]; rfl
theorem flt_eq {k : FloatKind} {a b : Nat} (h : a = b) : DV.flt k a = .flt k b := by rw [h]

theorem absF (b : Nat) (hb : b < 18446744073709551616) : FnC Try.prog 38 [.flt .f64 b] (· = .flt .f64 (b % 9223372036854775808)) := by
  refine FnC.mk Try.func38 rfl rfl (Nat.le_of_ble_eq_true rfl) (by simp) (by rintro _ rfl; simp) ?_
  refine callK.eq (f64bits b) ?_
  refine callK.eq (f64from _) ?_
  refine fin_eq (.flt _ _) rfl (flt_eq ?_)
  have := andNot_sign b (by omega) (by omega)
  rw [show IntKind.u64.wrap ((BitVec.ofInt IntKind.u64.bits (b : Int) &&& ~~~BitVec.ofInt IntKind.u64.bits 9223372036854775808).toNat : Int) = (b : Int) % 9223372036854775808 from this]
  omega

theorem fbits_abs {E M : Nat} (h : FOk E M) (s : Bool) : fbits s E M % 9223372036854775808 = fbits false E M ∧ fbits s E M < 18446744073709551616 := by
  obtain ⟨h1, h2, h3⟩ := h
  cases s
  · rw [fbits_pos]; omega
  · rw [fbits_neg, fbits_pos]; omega
theorem max_f : (9218868437227405311 : Nat) = fbits false 2045 9007199254740991 := by decide +kernel
theorem min_f : (4503599627370496 : Nat) = fbits false 0 4503599627370496 := by decide +kernel
theorem ok_max : FOk 2045 9007199254740991 := ⟨by decide, by decide, by decide⟩
theorem ok_min : FOk 0 4503599627370496 := ⟨by decide, by decide, by decide⟩
theorem cmp_eqs (x y : Int) : compare x y = if x < y then .lt else if x = y then .eq else .gt := rfl
theorem not_gt {a b : Nat} (h : a ≤ b) : (some (compare (rungI false a) (rungI false b)) == some Ordering.gt) = false := by
  rw [cmp_eqs]; unfold rungI; simp only [cond_false]
  by_cases h1 : a < b
  · rw [if_pos (by omega)]; rfl
  · rw [if_neg (by omega), if_pos (by omega)]; rfl
theorem not_lt' {a b : Nat} (h : b ≤ a) : (some (compare (rungI false a) (rungI false b)) == some Ordering.lt) = false := by
  rw [cmp_eqs]; unfold rungI; simp only [cond_false]
  by_cases h1 : a = b
  · rw [if_neg (by omega), if_pos (by omega)]; rfl
  · rw [if_neg (by omega), if_neg (by omega)]; rfl
theorem is_eq (x : Int) : (some (compare x x) != some Ordering.eq) = false := by
  rw [cmp_eqs, if_neg (by omega), if_pos rfl]; rfl

theorem isInf {E M : Nat} (h : FOk E M) (s : Bool) : FnC Try.prog 64 [.flt .f64 (fbits s E M), .int .i64 0] (· = .bool false) := by
  refine FnC.mk Try.func64 rfl rfl (Nat.le_of_ble_eq_true rfl) (by simp) (by rintro _ rfl; simp) ?_
  refine joinK.direct ⟨fun _ => ?_, fun h => (by cases h)⟩
  have c := absF (fbits s E M) (fbits_abs h s).2
  rw [(fbits_abs h s).1] at c
  refine callK.eq c ?_
  refine join_go ?_
  refine fin_eq (.bool _) rfl (bool_eq ?_)
  rw [show FloatKind.f64.format.order (fbits false E M) 9218868437227405311 = _ from (congrArg (Ieee.double.order (fbits false E M)) max_f).trans (order_fbits h ok_max false false rfl rfl)]
  exact not_gt (by obtain ⟨h1, h2, h3⟩ := h; omega)
theorem isNaN {E M : Nat} (h : FOk E M) (s : Bool) : FnC Try.prog 65 [.flt .f64 (fbits s E M)] (· = .bool false) := by
  refine FnC.mk Try.func65 rfl rfl (Nat.le_of_ble_eq_true rfl) (by simp) (by rintro _ rfl; simp) ?_
  refine fin_eq (.bool _) rfl (bool_eq ?_)
  rw [show FloatKind.f64.format.order (fbits s E M) (fbits s E M) = _ from order_fbits h h s s rfl rfl]
  exact is_eq _
theorem normalizeF {E M : Nat} (h : FOk E M) (s : Bool) : FnC Try.prog 66 [.flt .f64 (fbits s E M)] (· = .tup [.flt .f64 (fbits s E M), .int .i64 0]) := by
  refine FnC.mk Try.func66 rfl rfl (Nat.le_of_ble_eq_true rfl) (by simp) (by rintro _ rfl; simp) ?_
  have c := absF (fbits s E M) (fbits_abs h s).2
  rw [(fbits_abs h s).1] at c
  refine joinK.direct ?_
  refine callK.eq c ?_
  refine ⟨fun h2 => ?_, fun _ => join_go ?_⟩
  · exfalso
    have h2 : (FloatKind.f64.format.order (fbits false E M) 4503599627370496 == some Ordering.lt) = true := h2
    rw [show FloatKind.f64.format.order (fbits false E M) 4503599627370496 = _ from (congrArg (Ieee.double.order (fbits false E M)) min_f).trans (order_fbits h ok_min false false rfl rfl)] at h2
    rw [not_lt' (by obtain ⟨h1, h2, h3⟩ := h; omega)] at h2
    cases h2
  · exact fin_eq (.tup [.flt _ _, .int _ _]) rfl rfl
end Go.Proofs.Ytckcagmlippneaa
