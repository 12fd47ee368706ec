/- Values compared: cmp.Or of two; texts. -/
import Derived.Test.YtaddmokllmdngaaN8
namespace Go.Proofs.Ytaddmokllmdngaa
open Go Go.Pv Go.RowKit
set_option linter.unusedSimpArgs false
set_option linter.unusedVariables false
set_option maxRecDepth 10000

def orI (a b : Int) : Int := bif a != 0 then a else b
theorem orC (a b : Int) : FnC Try.prog 77 [.list [[.int .i64 a], [.int .i64 b]]] (· = .int .i64 (orI a b)) := by
  have v1 : (a != 0) = true → a = orI a b := fun h => by unfold orI; rw [h]; rfl
  have v2 : (a != 0) = false → (b != 0) = true → b = orI a b := fun h _ => by unfold orI; rw [h]; rfl
  have v3 : (a != 0) = false → (b != 0) = false → (0 : Int) = orI a b := fun h h2 => by
    unfold orI; rw [h]
    have : b = 0 := by simpa using h2
    rw [this]; rfl
  refine FnC.mk Try.func77 rfl rfl (Nat.le_of_ble_eq_true rfl) (by simp) (by rintro _ rfl; simp) ?_
  refine joinK.use [3] (fun _ : Unit => [.int .i64 0]) (fun _ => []) (fun _ => (a != 0) = false ∧ (b != 0) = false) ?_ ?_
  · refine loopK.use [3, 6, 7, 8] (fun n : Nat => [.int .i64 0, .list [[.int .i64 a], [.int .i64 b]], .int .i64 2, .int .i64 n]) (fun _ => []) (fun n => n = 0 ∨ (n = 1 ∧ (a != 0) = false) ∨ (n = 2 ∧ (a != 0) = false ∧ (b != 0) = false)) (fun n => 2 - n) 0 (.inl rfl) ⟨rfl, rfl, rfl, rfl, trivial⟩ (.inl rfl) ?_
    rintro n (rfl | ⟨rfl, h1⟩ | ⟨rfl, h1, h2⟩)
    · refine joinK.direct ?_
      refine ⟨fun _ => join_go ?_, fun h => absurd h (by decide)⟩
      refine joinK.direct ?_
      refine ⟨by decide, (by show (0 : Int) < 2; decide), ?_⟩
      refine ⟨fun h => ?_, fun h => join_go ?_⟩
      · exact fin_eq (.int _ _) rfl (int_eq (v1 h))
      · exact loop_next 1 (.inr (.inl ⟨rfl, h⟩)) (by decide) ⟨rfl, rfl, rfl, rfl, trivial⟩ (.inl rfl)
    · refine joinK.direct ?_
      refine ⟨fun _ => join_go ?_, fun h => absurd h (by decide)⟩
      refine joinK.direct ?_
      refine ⟨by decide, (by show (1 : Int) < 2; decide), ?_⟩
      refine ⟨fun h => ?_, fun h => join_go ?_⟩
      · exact fin_eq (.int _ _) rfl (int_eq (v2 h1 h))
      · exact loop_next 2 (.inr (.inr ⟨rfl, h1, h⟩)) (by decide) ⟨rfl, rfl, rfl, rfl, trivial⟩ (.inl rfl)
    · refine joinK.direct ?_
      refine ⟨fun h => absurd h (by decide), fun _ => ?_⟩
      exact join_at () ⟨h1, h2⟩ ⟨rfl, trivial⟩ (.inl rfl)
  rintro ⟨⟩ ⟨h1, h2⟩
  exact fin_eq (.int _ _) rfl (int_eq (v3 h1 h2))
end Go.Proofs.Ytaddmokllmdngaa
