/- Values compared: the reference's texts. -/
import Derived.Test.YtaddmokllmdngaaNB
namespace Go.Proofs.Ytaddmokllmdngaa
open Go Go.Pv Go.RowKit
set_option linter.unusedSimpArgs false
set_option linter.unusedVariables false
set_option maxRecDepth 10000

theorem textsR (a b : List UInt8) (ha : a.length ≤ maxLen) : FnC Try.prog 43 [.str (bsA a), .str (bsA b)] (· = .int .i64 (tcmp a b)) := by
  have za := bsA_size a
  have zb := bsA_size b
  refine FnC.mk Try.func43 rfl rfl (Nat.le_of_ble_eq_true rfl) (by simp) (by rintro _ rfl; simp) ?_
  refine joinK.use [0, 1] (fun _ : Unit => [.str (bsA a), .str (bsA b)]) (fun _ => []) (fun _ => ∀ j, j < min a.length b.length → a[j]? = b[j]?) ?_ ?_
  · refine loopK.use [0, 1, 5] (fun i : Nat => [.str (bsA a), .str (bsA b), .int .i64 i]) (fun _ => []) (fun i => i ≤ min a.length b.length ∧ ∀ j, j < i → a[j]? = b[j]?) (fun i => min a.length b.length - i) 0 ⟨Nat.zero_le _, fun j h => absurd h (by omega)⟩ ⟨rfl, rfl, rfl, trivial⟩ (.inl rfl) ?_
    rintro i ⟨hi, heq⟩
    by_cases hil : i < min a.length b.length
    · have hc : (bif decide ((i : Int) < ((bsA a).size : Int)) then decide ((i : Int) < ((bsA b).size : Int)) else false) = true := by
        rw [za, zb, decide_eq_true (by omega), decide_eq_true (by omega)]; rfl
      have g1 : a[i]? = some (a[i]'(by omega)) := List.getElem?_eq_getElem (by omega)
      have g2 : b[i]? = some (b[i]'(by omega)) := List.getElem?_eq_getElem (by omega)
      generalize a[i]'(by omega) = x at *
      generalize b[i]'(by omega) = y at *
      have e0 : (0 : Int) ≤ (i : Int) := by omega
      have i1 : (bsA a)[(i : Int).toNat]? = some x := by rw [show (i : Int).toNat = i from by omega, bsA_get]; exact g1
      have i2 : (bsA b)[(i : Int).toNat]? = some y := by rw [show (i : Int).toNat = i from by omega, bsA_get]; exact g2
      have hw : IntKind.i64.wrap ((i : Int) + 1) = ((i + 1 : Nat) : Int) := by unfold maxLen at ha; rw [IntKind.wrap_i64]; omega
      have wx : IntKind.i64.wrap (x.toNat : Int) = (x.toNat : Int) := by have := x.toNat_lt; rw [IntKind.wrap_i64]; omega
      have wy : IntKind.i64.wrap (y.toNat : Int) = (y.toNat : Int) := by have := y.toNat_lt; rw [IntKind.wrap_i64]; omega
      have cl := lessR (x.toNat : Int) (y.toNat : Int)
      have cn := fun hne : x ≠ y => tcmp_ne g1 g2 hne heq
      have f1 : i + 1 ≤ min a.length b.length := by omega
      have f2 : min a.length b.length - (i + 1) < min a.length b.length - i := by omega
      have f3 : ((x.toNat : Int) != (y.toNat : Int)) = false → ∀ j, j < i + 1 → a[j]? = b[j]? := fun h j hj => by
        by_cases e : j = i
        · subst e
          have : x = y := by have h := (by simpa using h : (x.toNat : Int) = y.toNat); exact UInt8.toNat_inj.1 (by omega)
          rw [g1, g2, this]
        · exact heq j (by omega)
      have f4 : ((x.toNat : Int) != (y.toNat : Int)) = true → x ≠ y := fun h e => by rw [e] at h; simp at h
      rw [← wx, ← wy] at cl
      refine joinK.direct ?_
      refine guardK.spec ?_
      refine ⟨fun _ => join_go ?_, fun h => absurd (hc.symm.trans h) (by decide)⟩
      refine joinK.direct ?_
      refine drawK.mk (by kernel_rfl) ?_
      refine ⟨e0, optK.mk i1 ?_⟩
      refine ⟨e0, optK.mk i2 ?_⟩
      refine ⟨fun h => ?_, fun h => join_go ?_⟩
      · refine drawK.mk (by kernel_rfl) ?_
        refine ⟨e0, optK.mk i1 ?_⟩
        refine ⟨e0, optK.mk i2 ?_⟩
        refine callE.mk cl ?_
        exact fin_eq (.int _ _) rfl (int_eq (by rw [wx, wy]; exact (cn (f4 h)).symm))
      · exact loop_next (i + 1) ⟨f1, f3 h⟩ f2 ⟨rfl, rfl, int_eq hw, trivial⟩ (.inl rfl)
    · have hc : (bif decide ((i : Int) < ((bsA a).size : Int)) then decide ((i : Int) < ((bsA b).size : Int)) else false) = false := by
        rw [za, zb]
        by_cases h : (i : Int) < (a.length : Int)
        · rw [decide_eq_true h, decide_eq_false (by omega)]; rfl
        · rw [decide_eq_false h]; rfl
      have e : i = min a.length b.length := by omega
      refine joinK.direct ?_
      refine guardK.spec ?_
      refine ⟨fun h => absurd (hc.symm.trans h) (by decide), fun _ => ?_⟩
      exact join_at () (fun j hj => heq j (by omega)) ⟨rfl, rfl, trivial⟩ (.inl rfl)
  rintro ⟨⟩ heq
  have c := lessR ((bsA a).size : Int) ((bsA b).size : Int)
  have e : sg ((bsA a).size : Int) ((bsA b).size : Int) = tcmp a b := by rw [za, zb]; exact (tcmp_eq heq).symm
  refine callK.eq c ?_
  exact fin_eq (.int _ _) rfl (int_eq e)
end Go.Proofs.Ytaddmokllmdngaa
