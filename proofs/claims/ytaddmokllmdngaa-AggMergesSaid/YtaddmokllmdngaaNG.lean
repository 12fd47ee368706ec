/- Values compared: the reference's Compare of any two. -/
import Derived.Test.YtaddmokllmdngaaNF
namespace Go.Proofs.Ytaddmokllmdngaa
open Go Go.Pv Go.RowKit
set_option linter.unusedSimpArgs false
set_option linter.unusedVariables false
set_option maxRecDepth 10000

def numB (k i : Int) (f : Nat) (k' i' : Int) (f' : Nat) : Int :=
  bif k == 1 then (bif k' == 1 then sg i i' else agn i f') else (bif k' == 1 then IntKind.i64.wrap (0 - agn i' f) else sg (worth f) (worth f'))
theorem numsR {k i : Int} {f : Nat} {s : ByteArray} {k' i' : Int} {f' : Nat} {s' : ByteArray} (h : k = 1 ∨ (k = 3 ∧ Fin64 f)) (h' : k' = 1 ∨ (k' = 3 ∧ Fin64 f')) :
    FnC Try.prog 44 [.agg (valC k i f s), .agg (valC k' i' f' s')] (· = .int .i64 (numB k i f k' i' f')) := by
  rcases h with rfl | ⟨rfl, hf⟩ <;> rcases h' with rfl | ⟨rfl, hf'⟩
  · exact numII i i' f f' s s'
  · exact numIR i i' f f' s s' hf'
  · exact numRI i i' f f' s s' hf
  · exact numRR i i' f f' s s' hf hf'
theorem numB_0 {k i : Int} {f : Nat} {k' i' : Int} {f' : Nat} (h : k = 1 ∨ (k = 3 ∧ Fin64 f)) (h' : k' = 1 ∨ (k' = 3 ∧ Fin64 f')) (h0 : (numB k i f k' i' f' == 0) = true) : sg k k' = nmC k i f k' i' f' := by
  have h0 := eq_of_beq h0
  rcases h with rfl | ⟨rfl, hf⟩ <;> rcases h' with rfl | ⟨rfl, hf'⟩
  · have h0 : sg i i' = 0 := h0
    show sg 1 1 = sg i i'
    rw [h0]; rfl
  · have h0 : agn i f' = 0 := h0
    show sg 1 3 = orI (agn i f') (-1)
    rw [h0]; rfl
  · have h0 : IntKind.i64.wrap (0 - agn i' f) = 0 := h0
    show sg 3 1 = orI (IntKind.i64.wrap (0 - agn i' f)) 1
    rw [h0]; rfl
  · have h0 : sg (worth f) (worth f') = 0 := h0
    show sg 3 3 = sg (worth f) (worth f')
    rw [h0]; rfl
theorem orI_ne {a b : Int} (h : (a == 0) = false) : a = orI a b := by unfold orI; rw [show (a != 0) = !(a == 0) from rfl, h]; rfl
theorem numB_1 {k i : Int} {f : Nat} {k' i' : Int} {f' : Nat} (h : k = 1 ∨ (k = 3 ∧ Fin64 f)) (h' : k' = 1 ∨ (k' = 3 ∧ Fin64 f')) (h0 : (numB k i f k' i' f' == 0) = false) : numB k i f k' i' f' = nmC k i f k' i' f' := by
  rcases h with rfl | ⟨rfl, hf⟩ <;> rcases h' with rfl | ⟨rfl, hf'⟩
  · rfl
  · exact orI_ne h0
  · exact orI_ne h0
  · rfl
theorem clsR_0 {k : Int} : (clsR k == 0) = (k == 0) := by
  unfold clsR
  by_cases h0 : (k == 0) = true
  · rw [h0]; rfl
  · have h0 : (k == 0) = false := by simpa using h0
    rw [h0]; generalize (k == 2) = q; cases q <;> rfl
theorem clsR_2 {k : Int} (h : (k == 0) = false) : (clsR k == 2) = (k == 2) := by
  unfold clsR
  rw [h]; generalize (k == 2) = q; cases q <;> rfl
theorem sg_ne (a b : Int) : (a != b) = (sg a b != 0) := by
  unfold sg
  by_cases h1 : a < b
  · rw [if_pos h1]
    have : (a == b) = false := by simp; omega
    rw [show (a != b) = !(a == b) from rfl, this]; rfl
  · rw [if_neg h1]
    by_cases h2 : b < a
    · rw [if_pos h2]
      have : (a == b) = false := by simp; omega
      rw [show (a != b) = !(a == b) from rfl, this]; rfl
    · rw [if_neg h2]
      have : (a == b) = true := by simp; omega
      rw [show (a != b) = !(a == b) from rfl, this]; rfl
theorem cmpR_ok (k i k' i' : Int) (f f' : Nat) (s s' : ByteArray) (hf : f < 18446744073709551616) (hf' : f' < 18446744073709551616) (hm : mayB k i f s = true) (hm' : mayB k' i' f' s' = true) :
    FnC Try.prog 28 [.agg (valC k i f s), .agg (valC k' i' f' s')] (· = .int .i64 (cmpG k i f s k' i' f' s')) := by
  have c1 := mayR k i f s hf
  have c2 := mayR k' i' f' s' hf'
  have o1 := may_kok hf hm
  have o2 := may_kok hf' hm'
  rw [hm] at c1
  rw [hm'] at c2
  have c3 := classR k i f s
  have c4 := classR k' i' f' s'
  have c5 := lessR (clsR k) (clsR k')
  have c6 := lessR k k'
  have v0 := sg_ne (clsR k) (clsR k')
  have v1 := fun h => @cg1 k i f s k' i' f' s' h
  have v2 := fun h => @cg2 k i f s k' i' f' s' h
  have v3 := fun h => @cg3 k i f s k' i' f' s' h
  have v4 := fun h => @cg4 k i f s k' i' f' s' h
  have v5 := fun h => @nums k f s k' f' s' o1 o2 h
  have v6 := fun h => @txts k f s k' f' s' o1 o2 h
  have c7 : s.size ≤ 65535 → FnC Try.prog 43 [.str s, .str s'] (· = .int .i64 (Extern.BytealgCompare.cmp s s')) := fun h => by
    have := textsR s.data.toList s'.data.toList (by unfold maxLen; have : s.size = s.data.toList.length := rfl; omega)
    rw [← bsA_self s, ← bsA_self s'] at this
    exact this
  have w0 := @clsR_0 k
  have w2 := @clsR_2 k
  refine FnC.mk Try.func28 rfl rfl (Nat.le_of_ble_eq_true rfl) (by simp [valC]) (by rintro _ rfl; simp) ?_
  refine callK.eq c1 ?_
  refine callK.eq c2 ?_
  refine joinK.direct ?_
  refine guardK.spec ?_
  refine ⟨fun h => absurd h (by decide), fun _ => join_go ?_⟩
  refine joinK.direct ?_
  refine drawK.mk (by kernel_rfl) ?_
  refine callE.mk c3 ?_
  refine callE.mk c4 ?_
  refine ⟨fun h1 => ?_, fun h1 => join_go ?_⟩
  · refine drawK.mk (by kernel_rfl) ?_
    refine callE.mk c3 ?_
    refine callE.mk c4 ?_
    refine callE.mk c5 ?_
    exact fin_eq (.int _ _) rfl (int_eq (v1 (v0.symm.trans h1)))
  have h1 := v0.symm.trans h1
  refine joinK.direct ?_
  refine callK.eq c3 ?_
  refine ⟨fun h2 => ?_, fun h2 => join_go ?_⟩
  · exact fin_eq (.int _ _) rfl (int_eq (v2 h1 (w0.symm.trans h2)))
  have h2 := w0.symm.trans h2
  refine joinK.direct ?_
  refine callK.eq c3 ?_
  refine ⟨fun h3 => ?_, fun h3 => join_go ?_⟩
  · have h3 := (w2 h2).symm.trans h3
    refine callK.eq (c7 (v6 h1 h3)) ?_
    exact fin_eq (.int _ _) rfl (int_eq (v3 h1 h3))
  have h3 := (w2 h2).symm.trans h3
  have n1 := (v5 h1 h2 h3).1
  have n2 := (v5 h1 h2 h3).2
  have e := v4 h1 h2 h3
  have e0 := @numB_0 k i f k' i' f' n1 n2
  have e1 := @numB_1 k i f k' i' f' n1 n2
  refine callK.eq (@numsR k i f s k' i' f' s' n1 n2) ?_
  refine joinK.direct ⟨fun h4 => ?_, fun h4 => join_go ?_⟩
  · refine callK.eq c6 ?_
    exact fin_eq (.int _ _) rfl (int_eq ((e0 h4).trans e))
  · exact fin_eq (.int _ _) rfl (int_eq ((e1 h4).trans e))
theorem cmpV_ok {k i k' i' : Int} {f f' : Nat} {s s' : ByteArray} (hm : mayB k i f s = true) (hm' : mayB k' i' f' s' = true) : cmpG k i f s k' i' f' s' = cmpV k i f s k' i' f' s' := by unfold cmpV; rw [hm, hm']; rfl
theorem cmpV_bad {k i k' i' : Int} {f f' : Nat} {s s' : ByteArray} (h : (mayB k i f s && mayB k' i' f' s') = false) : badC (mayB k i f s) (mayB k' i' f' s') = cmpV k i f s k' i' f' s' := by unfold cmpV; rw [h]; rfl
theorem cmpR (k i k' i' : Int) (f f' : Nat) (s s' : ByteArray) (hf : f < 18446744073709551616) (hf' : f' < 18446744073709551616) :
    FnC Try.prog 28 [.agg (valC k i f s), .agg (valC k' i' f' s')] (· = .int .i64 (cmpV k i f s k' i' f' s')) := by
  by_cases h : (mayB k i f s && mayB k' i' f' s') = true
  · have h2 := h
    rw [Bool.and_eq_true] at h2
    rw [← cmpV_ok h2.1 h2.2]
    exact cmpR_ok k i k' i' f f' s s' hf hf' h2.1 h2.2
  · have h : (mayB k i f s && mayB k' i' f' s') = false := by simpa using h
    rw [← cmpV_bad h]
    exact cmpR_bad k i k' i' f f' s s' hf hf' h
end Go.Proofs.Ytaddmokllmdngaa
