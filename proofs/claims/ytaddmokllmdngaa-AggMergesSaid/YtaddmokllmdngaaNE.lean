/- Values compared: the program's Compare, where one of the two may not be. -/
import Derived.Test.YtaddmokllmdngaaND
namespace Go.Proofs.Ytaddmokllmdngaa
open Go Go.Pv Go.RowKit
set_option linter.unusedSimpArgs false
set_option linter.unusedVariables false
set_option maxRecDepth 10000

theorem cls_bad (m n : Bool) (k k' : Int) (h : (m && n) = false) : sg (clsW m k) (clsW n k') = badC m n ∧ ((m == n) = true → decide (clsW m k < 2) = true) := by
  have p : ∀ q : Int, 0 < clsW true q := fun q => by
    unfold clsW
    generalize (q == 0) = x; generalize (q == 2) = y
    cases x <;> cases y <;> decide
  have z : ∀ q : Int, clsW false q = 0 := fun q => rfl
  cases m <;> cases n
  · rw [z, z]; exact ⟨rfl, fun _ => rfl⟩
  · refine ⟨?_, fun h => by cases h⟩
    have := p k'
    rw [z]; unfold sg; rw [if_pos this]; rfl
  · refine ⟨?_, fun h => by cases h⟩
    have h1 := p k
    have h2 : ¬ clsW true k < 0 := by omega
    rw [z]; unfold sg; rw [if_neg h2, if_pos h1]; rfl
  · cases h
theorem cmpW_bad (k i k' i' : Int) (f f' : Nat) (s s' : ByteArray) (hf : f < 18446744073709551616) (hf' : f' < 18446744073709551616) (h : (mayB k i f s && mayB k' i' f' s') = false) :
    FnC Try.prog 47 [.agg (valC k i f s), .agg (valC k' i' f' s')] (· = .int .i64 (badC (mayB k i f s) (mayB k' i' f' s'))) := by
  have c1 := classW k i f s hf
  have c2 := classW k' i' f' s' hf'
  generalize mayB k i f s = m at *
  generalize mayB k' i' f' s' = n at *
  have c3 := cmpC (clsW m k) (clsW n k')
  obtain ⟨e1, e2⟩ := cls_bad m n k k' h
  have v1 : sg (clsW m k) (clsW n k') = badC m n := e1
  have v0 : (sg (clsW m k) (clsW n k') != 0) = false → (0 : Int) = badC m n ∧ (m == n) = true := fun h0 => by
    rw [e1] at h0
    cases m <;> cases n <;> first | exact ⟨rfl, rfl⟩ | cases h0 | cases h
  refine FnC.mk Try.func47 rfl rfl (Nat.le_of_ble_eq_true rfl) (by simp [valC]) (by rintro _ rfl; simp) ?_
  refine joinK.direct ?_
  refine drawK.mk (by kernel_rfl) ?_
  refine callE.mk c1 ?_
  refine callE.mk c2 ?_
  refine callE.mk c3 ?_
  refine ⟨fun h1 => ?_, fun h1 => join_go ?_⟩
  · exact fin_eq (.int _ _) rfl (int_eq v1)
  have w0 := v0 h1
  have w1 := e2 w0.2
  refine joinK.direct ?_
  refine callK.eq c1 ?_
  refine ⟨fun _ => ?_, fun h => absurd (w1.symm.trans h) (by decide)⟩
  exact fin_eq (.int _ _) rfl (int_eq w0.1)
end Go.Proofs.Ytaddmokllmdngaa
