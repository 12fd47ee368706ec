/- Wide's reference: Int, shifted, Power, Of. -/
import Derived.Test.YtckcagmlippneaaW4
set_option linter.unusedSimpArgs false
set_option linter.unusedVariables false
namespace Go.Proofs.Ytckcagmlippneaa
open Go Go.Pv Go.RowKit
set_option maxRecDepth 10000

def i64R (i : Int) : Prop := -9223372036854775808 ≤ i ∧ i ≤ 9223372036854775807
theorem intN (i : Int) (hi : i64R i) : FnC Try.prog 24 [.int .i64 i] (· = numD i) := by
  obtain ⟨h1, h2⟩ := hi
  refine FnC.mk Try.func24 rfl rfl (Nat.le_of_ble_eq_true rfl) (by simp) (by rintro _ rfl; exact blw_numD _) ?_
  refine joinK.direct ⟨fun h => ?_, fun h => join_go ?_⟩
  · have h : 0 ≤ i := of_decide_eq_true h
    have c := small i.toNat (by omega)
    rw [show ((i.toNat : Nat) : Int) = IntKind.u64.wrap i from by rw [IntKind.wrap_u64]; omega] at c
    refine callK.eq c ?_
    refine fin_eq (.agg [.list _, .bool _]) rfl ?_
    show numD (IntKind.u64.wrap i) = numD i
    rw [IntKind.wrap_u64, Int.emod_eq_of_lt (by omega) (by omega)]
  · have h : ¬ 0 ≤ i := of_decide_eq_false h
    have c := small (-i).toNat (by omega)
    rw [show (((-i).toNat : Nat) : Int) = IntKind.u64.wrap (IntKind.u64.wrap (IntKind.i64.wrap (0 - (IntKind.i64.wrap (i + 1)))) + 1) from by rw [IntKind.wrap_u64, IntKind.wrap_u64, IntKind.wrap_i64, IntKind.wrap_i64]; omega] at c
    have e : IntKind.u64.wrap (IntKind.u64.wrap (IntKind.i64.wrap (0 - (IntKind.i64.wrap (i + 1)))) + 1) = -i := by rw [IntKind.wrap_u64, IntKind.wrap_u64, IntKind.wrap_i64, IntKind.wrap_i64]; omega
    refine callK.eq c ?_
    refine fin_eq (.agg [.list _, .bool _]) rfl (num_eq ?_ ?_)
    · rw [e]; omega
    · simp; omega
end Go.Proofs.Ytckcagmlippneaa
