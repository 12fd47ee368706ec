/- WideAdds: the law's walk. -/
import Derived.Test.YtckcagmlippneaaWO
set_option linter.unusedSimpArgs false
set_option linter.unusedVariables false
namespace Go.Proofs.Ytckcagmlippneaa
open Go Go.Pv Go.RowKit
set_option maxRecDepth 10000
set_option exponentiation.threshold 1000

theorem eq_self {a b : Bool} {h : Bool} (e : ((a && (b && true)) = !true)) (ha : a = true) (hb : b = true) : False := by subst ha; subst hb; cases e
theorem lawAdds (x y : Int) (hx : in128 x) (hy : in128 y) : FnC Try.prog 3 [wideD x, wideD y] (· = .bool true) := by
  refine FnC.mk Try.func3 rfl rfl (Nat.le_of_ble_eq_true rfl) blw_wide2 (by rintro _ rfl; simp) ?_
  have bx : x.natAbs < 2 ^ 128 := by have := hx.1; have := hx.2; omega
  have byy : y.natAbs < 2 ^ 128 := by have := hy.1; have := hy.2; omega
  refine callK.eq (numL x hx) ?_
  refine callK.eq (numL y hy) ?_
  refine callK.eq (plusN x y (by omega) (by omega)) ?_
  refine callK.eq (ofL (x + y) (by omega)) ?_
  refine drawK.mk (by kernel_rfl) ?_
  refine callE.mk (turnedN y (by omega)) ?_
  refine callE.mk (plusN x (-y) (by omega) (by omega)) ?_
  refine callE.mk (ofL (x + -y) (by omega)) ?_
  refine joinK.use [2, 3, 7, 8, 9] (fun _ : Unit => [.pobj 0 0 0, .pobj 1 0 0, .pobj 4 0 0, .pobj 5 0 0, .int .i64 (cmpI x y)]) (fun _ => [widePO (wideC x), widePO (wideC y), numPO (numC x), numPO (numC y), widePO (wideC (x + y)), widePO (wideC (x + -y))]) (fun _ => True) ?_ ?_
  · refine callK.eq (belowN x y (by omega) (by omega)) ?_
    refine ⟨fun h => ?_, fun h => ?_⟩
    · have h : x < y := of_decide_eq_true h
      exact join_at () trivial ⟨rfl, rfl, rfl, rfl, int_eq (by unfold cmpI; rw [if_pos h]), trivial⟩ (.inl rfl)
    · have h : ¬ x < y := of_decide_eq_false h
      refine callK.eq (belowN y x (by omega) (by omega)) ?_
      refine ⟨fun h2 => ?_, fun h2 => ?_⟩
      · have h2 : y < x := of_decide_eq_true h2
        exact join_at () trivial ⟨rfl, rfl, rfl, rfl, int_eq (by unfold cmpI; rw [if_neg h, if_neg (by omega)]), trivial⟩ (.inl rfl)
      · have h2 : ¬ y < x := of_decide_eq_false h2
        exact join_at () trivial ⟨rfl, rfl, rfl, rfl, int_eq (by unfold cmpI; rw [if_neg h, if_pos (by omega)]), trivial⟩ (.inl rfl)
  rintro ⟨⟩ -
  refine drawK.mk (by kernel_rfl) ?_
  refine callE.mk (plusW x y) ?_
  refine ⟨EqOk.mk (by kernel_rfl), ?_⟩
  refine ⟨fun _ => ?_, fun h => absurd h (by simp)⟩
  have c := minusW x y
  refine callE.mk c ?_
  refine ⟨EqOk.mk (by kernel_rfl), ?_⟩
  refine ⟨fun _ => ?_, fun h => absurd h (by rw [show x - y = x + -y from by omega]; simp)⟩
  refine callE.mk (cmpW x y hx hy) ?_
  refine ⟨fun _ => ?_, fun h => absurd h (by simp)⟩
  refine callE.mk known ?_
  exact fin_eq (.bool _) rfl rfl
end Go.Proofs.Ytckcagmlippneaa
