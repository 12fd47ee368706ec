/- Values compared: the program's Compare of any two. -/
import Derived.Test.YtaddmokllmdngaaNG
namespace Go.Proofs.Ytaddmokllmdngaa
open Go Go.Pv Go.RowKit
set_option linter.unusedSimpArgs false
set_option linter.unusedVariables false
set_option maxRecDepth 10000

theorem clsW_lt {k : Int} {f : Nat} {s : ByteArray} (h : KOk k f s) : decide (clsW true k < 2) = (k == 0) := by
  rcases h with rfl | rfl | ⟨rfl, _⟩ | ⟨rfl, _⟩ <;> rfl
theorem nn4 {k i : Int} {f : Nat} {k' i' : Int} {f' : Nat} (h : (bif k == 1 then k' == 1 else false) = true) : sg i i' = nmC k i f k' i' f' := by
  unfold nmC
  by_cases h1 : (k == 1) = true
  · rw [h1] at h ⊢
    have h : (k' == 1) = true := h
    rw [h]; rfl
  · rw [show (k == 1) = false by simpa using h1] at h; cases h
theorem nn5 {k i : Int} {f : Nat} {k' i' : Int} {f' : Nat} (n1 : k = 1 ∨ (k = 3 ∧ Fin64 f)) (n2 : k' = 1 ∨ (k' = 3 ∧ Fin64 f')) (h : (bif k == 3 then k' == 3 else false) = true) : sg (worth f) (worth f') = nmC k i f k' i' f' ∧ Fin64 f ∧ Fin64 f' := by
  rcases n1 with rfl | ⟨rfl, hf⟩ <;> rcases n2 with rfl | ⟨rfl, hf'⟩ <;> first | exact absurd h (by decide) | exact ⟨rfl, hf, hf'⟩
theorem nn6 {k i : Int} {f : Nat} {k' i' : Int} {f' : Nat} (n1 : k = 1 ∨ (k = 3 ∧ Fin64 f)) (n2 : k' = 1 ∨ (k' = 3 ∧ Fin64 f')) (h4 : (bif k == 1 then k' == 1 else false) = false) (h6 : (k == 1) = true) : orI (agn i f') (-1) = nmC k i f k' i' f' ∧ Fin64 f' := by
  rcases n1 with rfl | ⟨rfl, hf⟩ <;> rcases n2 with rfl | ⟨rfl, hf'⟩ <;> first | exact absurd h4 (by decide) | exact absurd h6 (by decide) | exact ⟨rfl, hf'⟩
theorem nn7 {k i : Int} {f : Nat} {k' i' : Int} {f' : Nat} (n1 : k = 1 ∨ (k = 3 ∧ Fin64 f)) (n2 : k' = 1 ∨ (k' = 3 ∧ Fin64 f')) (h5 : (bif k == 3 then k' == 3 else false) = false) (h6 : (k == 1) = false) : orI (IntKind.i64.wrap (0 - agn i' f)) 1 = nmC k i f k' i' f' ∧ Fin64 f := by
  rcases n1 with rfl | ⟨rfl, hf⟩ <;> rcases n2 with rfl | ⟨rfl, hf'⟩ <;> first | exact absurd h5 (by decide) | exact absurd h6 (by decide) | exact ⟨rfl, hf⟩
theorem snap_two {g : Nat → Option PO} {id : Nat} {t : TypeId} {a b : Int} {z : Bool} (h : g id = some ⟨z, 1, t, [[.int .i64 a], [.int .i64 b]]⟩) : Snap g (.ref id 0 2) (.list [[.int .i64 a], [.int .i64 b]]) :=
  snap_whole (po := ⟨z, 1, t, [[.int .i64 a], [.int .i64 b]]⟩) h (by simp)
theorem cmpW_ok (k i k' i' : Int) (f f' : Nat) (s s' : ByteArray) (hf : f < 18446744073709551616) (hf' : f' < 18446744073709551616) (hm : mayB k i f s = true) (hm' : mayB k' i' f' s' = true) :
    FnC Try.prog 47 [.agg (valC k i f s), .agg (valC k' i' f' s')] (· = .int .i64 (cmpG k i f s k' i' f' s')) := by
  have c1 := classW k i f s hf
  have c2 := classW k' i' f' s' hf'
  have o1 := may_kok hf hm
  have o2 := may_kok hf' hm'
  rw [hm] at c1
  rw [hm'] at c2
  have c3 := cmpC (clsW true k) (clsW true k')
  rw [sg_cls o1 o2] at c3
  have v1 := fun h => @cg1 k i f s k' i' f' s' h
  have v2 := fun h => @cg2 k i f s k' i' f' s' h
  have v3 := fun h => @cg3 k i f s k' i' f' s' h
  have v4 := fun h => @cg4 k i f s k' i' f' s' h
  have v5 := fun h => @nums k f s k' f' s' o1 o2 h
  have c4 := cmpString s s'
  have c5 := cmpC64 i i'
  have w0 := clsW_lt o1
  refine FnC.mk Try.func47 rfl rfl (Nat.le_of_ble_eq_true rfl) (by simp [valC]) (by rintro _ rfl; simp) ?_
  refine joinK.direct ?_
  refine drawK.mk (by kernel_rfl) ?_
  refine callE.mk c1 ?_
  refine callE.mk c2 ?_
  refine callE.mk c3 ?_
  refine ⟨fun h1 => ?_, fun h1 => join_go ?_⟩
  · exact fin_eq (.int _ _) rfl (int_eq (v1 h1))
  refine joinK.direct ?_
  refine callK.eq c1 ?_
  refine ⟨fun h2 => ?_, fun h2 => ?_⟩
  · exact fin_eq (.int _ _) rfl (int_eq (v2 h1 (w0.symm.trans h2)))
  have h2 := w0.symm.trans h2
  refine ⟨fun h3 => ?_, fun h3 => ?_⟩
  · refine callK.eq c4 ?_
    exact fin_eq (.int _ _) rfl (int_eq (v3 h1 h3))
  have n1 := (v5 h1 h2 h3).1
  have n2 := (v5 h1 h2 h3).2
  have e := v4 h1 h2 h3
  have e4 := @nn4 k i f k' i' f'
  have e5 := @nn5 k i f k' i' f' n1 n2
  have e6 := @nn6 k i f k' i' f' n1 n2
  have e7 := @nn7 k i f k' i' f' n1 n2
  refine guardK.spec ?_
  refine ⟨fun h4 => ?_, fun h4 => ?_⟩
  · refine callK.eq c5 ?_
    exact fin_eq (.int _ _) rfl (int_eq ((e4 h4).trans e))
  refine guardK.spec ?_
  refine ⟨fun h5 => ?_, fun h5 => ?_⟩
  · refine callK.eq (cmpF f f' (e5 h5).2.1 (e5 h5).2.2) ?_
    exact fin_eq (.int _ _) rfl (int_eq ((e5 h5).1.trans e))
  refine ⟨fun h6 => ?_, fun h6 => join_go ?_⟩
  · have e6 := e6 h4 h6
    refine callK.eq (againstW i f' e6.2) ?_
    refine callK.lend [2] (orC (agn i f') (-1)) ⟨snap_two rfl, trivial⟩ (.int _ _) ?_
    exact fin_eq (.int _ _) rfl (int_eq (e6.1.trans e))
  · have e7 := e7 h5 h6
    refine callK.eq (againstW i' f e7.2) ?_
    refine callK.lend [2] (orC (IntKind.i64.wrap (0 - agn i' f)) 1) ⟨snap_two rfl, trivial⟩ (.int _ _) ?_
    exact fin_eq (.int _ _) rfl (int_eq (e7.1.trans e))
theorem cmpW (k i k' i' : Int) (f f' : Nat) (s s' : ByteArray) (hf : f < 18446744073709551616) (hf' : f' < 18446744073709551616) :
    FnC Try.prog 47 [.agg (valC k i f s), .agg (valC k' i' f' s')] (· = .int .i64 (cmpV k i f s k' i' f' s')) := by
  by_cases h : (mayB k i f s && mayB k' i' f' s') = true
  · have h2 := h
    rw [Bool.and_eq_true] at h2
    rw [← cmpV_ok h2.1 h2.2]
    exact cmpW_ok k i k' i' f f' s s' hf hf' h2.1 h2.2
  · have h : (mayB k i f s && mayB k' i' f' s') = false := by simpa using h
    rw [← cmpV_bad h]
    exact cmpW_bad k i k' i' f f' s s' hf hf' h
end Go.Proofs.Ytaddmokllmdngaa
