/- Values compared: both Compares, where one of the two may not be. -/
import Derived.Test.YtaddmokllmdngaaNC
namespace Go.Proofs.Ytaddmokllmdngaa
open Go Go.Pv Go.RowKit
set_option linter.unusedSimpArgs false
set_option linter.unusedVariables false
set_option maxRecDepth 10000

def badC (m n : Bool) : Int := bif m == n then 0 else bif m then 1 else -1
theorem cmpR_bad (k i k' i' : Int) (f f' : Nat) (s s' : ByteArray) (hf : f < 18446744073709551616) (hf' : f' < 18446744073709551616) (h : (mayB k i f s && mayB k' i' f' s') = false) :
    FnC Try.prog 28 [.agg (valC k i f s), .agg (valC k' i' f' s')] (· = .int .i64 (badC (mayB k i f s) (mayB k' i' f' s'))) := by
  have c1 := mayR k i f s hf
  have c2 := mayR k' i' f' s' hf'
  generalize mayB k i f s = m at *
  generalize mayB k' i' f' s' = n at *
  have hc : (bif !m then true else !n) = true := by cases m <;> cases n <;> first | rfl | cases h
  have v1 : (m == n) = true → (0 : Int) = badC m n := fun h => by unfold badC; rw [h]; rfl
  have v2 : (m == n) = false → m = true → (1 : Int) = badC m n := fun h h2 => by unfold badC; rw [h, h2]; rfl
  have v3 : (m == n) = false → m = false → (-1 : Int) = badC m n := fun h h2 => by unfold badC; rw [h, h2]; rfl
  refine FnC.mk Try.func28 rfl rfl (Nat.le_of_ble_eq_true rfl) (by simp [valC]) (by rintro _ rfl; simp) ?_
  refine callK.eq c1 ?_
  refine callK.eq c2 ?_
  refine joinK.direct ?_
  refine guardK.spec ?_
  refine ⟨fun _ => ?_, fun h => absurd (hc.symm.trans h) (by decide)⟩
  refine joinK.direct ⟨fun h1 => ?_, fun h1 => join_go ?_⟩
  · exact fin_eq (.int _ _) rfl (int_eq (v1 h1))
  refine joinK.direct ⟨fun h2 => ?_, fun h2 => join_go ?_⟩
  · exact fin_eq (.int _ _) rfl (int_eq (v2 h1 h2))
  · exact fin_eq (.int _ _) rfl (int_eq (v3 h1 h2))
end Go.Proofs.Ytaddmokllmdngaa
