/- math: Ldexp of a number that needs no rounding. -/
import Derived.Test.YtckcagmlippneaaWJ
set_option linter.unusedSimpArgs false
set_option linter.unusedVariables false
namespace Go.Proofs.Ytckcagmlippneaa
open Go Go.Pv Go.RowKit
set_option maxRecDepth 10000
set_option exponentiation.threshold 1000

theorem one_f : (4607182418800017408 : Nat) = fbits false 1022 4503599627370496 := by decide +kernel
theorem exp_of {E M : Nat} (h : FOk E M) (x e : Int) (hx : x = (E * 4503599627370496 + M : Nat)) (E2 : Nat) (h2 : E2 ≤ 2045) (he : (E2 : Int) = E + e) :
    IntKind.i64.wrap (IntKind.i64.wrap (e + 0) + IntKind.i64.wrap (bits .and .i64 (IntKind.i64.wrap (x.fdiv (2 ^ min (52 : Int).toNat IntKind.u64.bits))) 2047 - 1023)) = (E2 : Int) - 1022 := by
  obtain ⟨h1, h3, h4⟩ := h
  subst hx
  rw [show ((E * 4503599627370496 + M : Nat) : Int).fdiv (2 ^ min (52 : Int).toNat IntKind.u64.bits) = (((E * 4503599627370496 + M) / 2 ^ 52 : Nat) : Int) from fdiv_lit _ 52 (by decide)]
  have e1 : (E * 4503599627370496 + M) / 2 ^ 52 = E + 1 := by omega
  rw [e1, show IntKind.i64.wrap ((E + 1 : Nat) : Int) = ((E + 1 : Nat) : Int) from by rw [IntKind.wrap_i64]; omega, and_2047 _ (by omega) (by omega)]
  simp only [IntKind.wrap_i64]
  omega
theorem word_of {E M : Nat} (h : FOk E M) (x y : Int) (hx : x = (E * 4503599627370496 + M : Nat)) (E2 : Nat) (h2 : E2 ≤ 2045) (hy : y = (E2 : Int) - 1022) :
    IntKind.u64.wrap ((BitVec.ofInt IntKind.u64.bits (bits .andNot .u64 x 9218868437227405312) ||| BitVec.ofInt IntKind.u64.bits (IntKind.u64.wrap (IntKind.u64.wrap (IntKind.i64.wrap (y + 1023)) * 2 ^ min (52 : Int).toNat IntKind.u64.bits))).toNat : Int) = ((E2 * 4503599627370496 + M : Nat) : Int) := by
  obtain ⟨h1, h3, h4⟩ := h
  subst hx; subst hy
  rw [andNot_exp _ (by omega) (by omega), show IntKind.u64.wrap (IntKind.i64.wrap ((E2 : Int) - 1022 + 1023)) = ((E2 + 1 : Nat) : Int) from by rw [IntKind.wrap_i64, IntKind.wrap_u64]; omega,
    show ((E * 4503599627370496 + M : Nat) : Int) % 4503599627370496 = ((M - 4503599627370496 : Nat) : Int) from by omega,
    show ((E2 + 1 : Nat) : Int) * 2 ^ min (52 : Int).toNat IntKind.u64.bits = (((E2 + 1) * 2 ^ 52 : Nat) : Int) from by
      rw [show min (52 : Int).toNat IntKind.u64.bits = 52 from rfl]; omega,
    show IntKind.u64.wrap (((E2 + 1) * 2 ^ 52 : Nat) : Int) = (((E2 + 1) * 2 ^ 52 : Nat) : Int) from by rw [IntKind.wrap_u64]; omega]
  have := or_add (E2 + 1) (M - 4503599627370496) 52 (by omega) (by omega) (by decide)
  rw [BitVec.or_comm] at this
  rw [this]
  omega

theorem ldexp0 {E M E2 : Nat} (h : FOk E M) (h2 : E2 ≤ 2045) (e : Int) (he : (E2 : Int) = E + e) : FnC Try.prog 63 [.flt .f64 (fbits false E M), .int .i64 e] (· = .flt .f64 (fbits false E2 M)) := by
  refine FnC.mk Try.func63 rfl rfl (Nat.le_of_ble_eq_true rfl) (by simp) (by rintro _ rfl; simp) ?_
  have hE := h.e
  refine joinK.direct ?_
  refine ⟨fun h3 => ?_, fun _ => ?_⟩
  · exfalso
    have h3 : (FloatKind.f64.format.order (fbits false E M) 0 == some Ordering.eq) = true := h3
    rw [show FloatKind.f64.format.order (fbits false E M) 0 = _ from order_f0 h false] at h3
    cases h3
  refine guardK.spec ?_
  refine callK.eq (isInf h false) ?_
  refine callE.mk (isNaN h false) ?_
  refine ⟨fun h3 => (by cases h3), fun _ => join_go ?_⟩
  refine callK.eq (normalizeF h false) ?_
  refine callK.eq (f64bits _) ?_
  have hx := exp_of h (fbits false E M : Nat) e rfl E2 h2 he
  refine ⟨by decide, ?_⟩
  refine joinK.direct ⟨fun h3 => ?_, fun _ => join_go ?_⟩
  · exfalso
    have h3 : decide (IntKind.i64.wrap (IntKind.i64.wrap (e + 0) + IntKind.i64.wrap (bits .and .i64 (IntKind.i64.wrap (((fbits false E M : Nat) : Int).fdiv (2 ^ min (52 : Int).toNat IntKind.u64.bits))) 2047 - 1023)) < -1075) = true := h3
    rw [hx] at h3
    have := of_decide_eq_true h3; omega
  refine joinK.direct ⟨fun h3 => ?_, fun _ => join_go ?_⟩
  · exfalso
    have h3 : decide (IntKind.i64.wrap (IntKind.i64.wrap (e + 0) + IntKind.i64.wrap (bits .and .i64 (IntKind.i64.wrap (((fbits false E M : Nat) : Int).fdiv (2 ^ min (52 : Int).toNat IntKind.u64.bits))) 2047 - 1023)) > 1023) = true := h3
    rw [hx] at h3
    have := of_decide_eq_true h3; omega
  refine joinK.direct ⟨fun h3 => ?_, fun _ => join_go ?_⟩
  · exfalso
    have h3 : decide (IntKind.i64.wrap (IntKind.i64.wrap (e + 0) + IntKind.i64.wrap (bits .and .i64 (IntKind.i64.wrap (((fbits false E M : Nat) : Int).fdiv (2 ^ min (52 : Int).toNat IntKind.u64.bits))) 2047 - 1023)) < -1022) = true := h3
    rw [hx] at h3
    have := of_decide_eq_true h3; omega
  refine ⟨by decide, ?_⟩
  refine callK.eq (f64from _) ?_
  refine ⟨rfl, optK.mk (y := fbits false E2 M) ?_ ?_⟩
  · have hw := word_of h (fbits false E M : Nat) _ rfl E2 h2 hx
    have hw2 := congrArg Int.toNat hw
    refine (congrArg (fun z => floatBits .mul .f64 4607182418800017408 z) hw2).trans ?_
    rw [Int.toNat_natCast, ← fbits_pos, one_f, mul_swap ⟨by decide, by decide, by decide⟩ ⟨h.lo, h.hi, h2⟩]
    exact mul_fbits ⟨h.lo, h.hi, h2⟩ false (by decide) h2 (by omega)
  · exact fin_eq (.flt _ _) rfl rfl

theorem ldexpF {E M E2 : Nat} (h : FOk E M) (h2 : E2 ≤ 2045) (e : Int) (he : (E2 : Int) = E + e) : FnC Try.prog 58 [.flt .f64 (fbits false E M), .int .i64 e] (· = .flt .f64 (fbits false E2 M)) := by
  refine FnC.mk Try.func58 rfl rfl (Nat.le_of_ble_eq_true rfl) (by simp) (by rintro _ rfl; simp) ?_
  refine joinK.direct ⟨fun h => (by cases h), fun _ => join_go ?_⟩
  refine callK.eq (ldexp0 h h2 e he) ?_
  exact fin_eq (.flt _ _) rfl rfl
end Go.Proofs.Ytckcagmlippneaa
