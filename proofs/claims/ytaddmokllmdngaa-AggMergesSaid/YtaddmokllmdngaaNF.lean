/- Values compared: both Compares, where both may be; both Compares are one. -/
import Derived.Test.YtaddmokllmdngaaNE
namespace Go.Proofs.Ytaddmokllmdngaa
open Go Go.Pv Go.RowKit
set_option linter.unusedSimpArgs false
set_option linter.unusedVariables false
set_option maxRecDepth 10000

def nmC (k i : Int) (f : Nat) (k' i' : Int) (f' : Nat) : Int :=
  bif k == 1 then (bif k' == 1 then sg i i' else orI (agn i f') (-1)) else (bif k' == 1 then orI (IntKind.i64.wrap (0 - agn i' f)) 1 else sg (worth f) (worth f'))
/-- Two values that may be, compared. -/
def cmpG (k i : Int) (f : Nat) (s : ByteArray) (k' i' : Int) (f' : Nat) (s' : ByteArray) : Int :=
  bif sg (clsR k) (clsR k') != 0 then sg (clsR k) (clsR k') else bif k == 0 then 0 else bif k == 2 then Extern.BytealgCompare.cmp s s' else nmC k i f k' i' f'
/-- Two values compared. -/
def cmpV (k i : Int) (f : Nat) (s : ByteArray) (k' i' : Int) (f' : Nat) (s' : ByteArray) : Int :=
  bif mayB k i f s && mayB k' i' f' s' then cmpG k i f s k' i' f' s' else badC (mayB k i f s) (mayB k' i' f' s')
/-- What a value that may be is like. -/
def KOk (k : Int) (f : Nat) (s : ByteArray) : Prop := k = 0 ∨ k = 1 ∨ (k = 2 ∧ s.size ≤ 65535) ∨ (k = 3 ∧ Fin64 f)
theorem may_kok {k i : Int} {f : Nat} {s : ByteArray} (hf : f < 18446744073709551616) (h : mayB k i f s = true) : KOk k f s := by
  unfold KOk
  by_cases h3 : (k == 3) = true
  · rw [← mayB_3 h3] at h
    unfold may3 at h
    rw [absLe_eq] at h
    refine .inr (.inr (.inr ⟨eq_of_beq h3, hf, ?_⟩))
    by_cases hh : f % 9223372036854775808 < 9218868437227405312
    · exact hh
    · rw [decide_eq_false hh] at h
      generalize bareB k i s = q at h
      cases q <;> cases h
  · have h3 : (k == 3) = false := by simpa using h3
    rw [← mayB_n h3] at h
    unfold mayN bareB at h
    have hk : 0 ≤ k ∧ k < 3 := by
      by_cases h0 : k ≥ 0
      · by_cases h4 : k < 3
        · exact ⟨h0, h4⟩
        · rw [decide_eq_false h4] at h
          generalize (bif (bif (bif (bif i == 0 then true else k == 1) then (bif isEmp s then true else bif k == 2 then isShort s else false) else false) then ((f : Int) == 0) else false) then decide (k ≥ 0) else false) = q at h
          cases q <;> cases h
      · rw [decide_eq_false h0] at h
        generalize (bif (bif (bif i == 0 then true else k == 1) then (bif isEmp s then true else bif k == 2 then isShort s else false) else false) then ((f : Int) == 0) else false) = q at h
        cases q <;> cases h
    have hc : k = 0 ∨ k = 1 ∨ k = 2 := by omega
    rcases hc with rfl | rfl | rfl
    · exact .inl rfl
    · exact .inr (.inl rfl)
    · refine .inr (.inr (.inl ⟨rfl, ?_⟩))
      have he := @emp_short s
      have hs : isShort s = true := by
        generalize isEmp s = e at *; generalize isShort s = q at *; generalize (i == 0) = a at *; generalize ((f : Int) == 0) = z at *
        cases e
        · cases q
          · cases a <;> cases h
          · rfl
        · exact he rfl
      unfold isShort at hs
      have := of_decide_eq_true hs
      omega
theorem sg_cls {k k' : Int} {f f' : Nat} {s s' : ByteArray} (h : KOk k f s) (h' : KOk k' f' s') : sg (clsW true k) (clsW true k') = sg (clsR k) (clsR k') := by
  rcases h with rfl | rfl | ⟨rfl, _⟩ | ⟨rfl, _⟩ <;> rcases h' with rfl | rfl | ⟨rfl, _⟩ | ⟨rfl, _⟩ <;> rfl
section
variable {k i : Int} {f : Nat} {s : ByteArray} {k' i' : Int} {f' : Nat} {s' : ByteArray}
theorem cg1 (h1 : (sg (clsR k) (clsR k') != 0) = true) : sg (clsR k) (clsR k') = cmpG k i f s k' i' f' s' := by unfold cmpG; rw [h1]; rfl
theorem cg2 (h1 : (sg (clsR k) (clsR k') != 0) = false) (h2 : (k == 0) = true) : (0 : Int) = cmpG k i f s k' i' f' s' := by unfold cmpG; rw [h1, h2]; rfl
theorem cg3 (h1 : (sg (clsR k) (clsR k') != 0) = false) (h2 : (k == 2) = true) : Extern.BytealgCompare.cmp s s' = cmpG k i f s k' i' f' s' := by
  unfold cmpG; rw [h1]; rw [eq_of_beq h2]; rfl
theorem cg4 (h1 : (sg (clsR k) (clsR k') != 0) = false) (h2 : (k == 0) = false) (h3 : (k == 2) = false) : nmC k i f k' i' f' = cmpG k i f s k' i' f' s' := by unfold cmpG; rw [h1, h2, h3]; rfl
theorem nums (h : KOk k f s) (h' : KOk k' f' s') (h1 : (sg (clsR k) (clsR k') != 0) = false) (h2 : (k == 0) = false) (h3 : (k == 2) = false) : (k = 1 ∨ (k = 3 ∧ Fin64 f)) ∧ (k' = 1 ∨ (k' = 3 ∧ Fin64 f')) := by
  rcases h with rfl | rfl | ⟨rfl, _⟩ | ⟨rfl, hf⟩ <;> rcases h' with rfl | rfl | ⟨rfl, _⟩ | ⟨rfl, hf'⟩ <;> first | exact absurd h1 (by decide) | exact absurd h2 (by decide) | exact absurd h3 (by decide) | skip
  · exact ⟨.inl rfl, .inl rfl⟩
  · exact ⟨.inl rfl, .inr ⟨rfl, hf'⟩⟩
  · exact ⟨.inr ⟨rfl, hf⟩, .inl rfl⟩
  · exact ⟨.inr ⟨rfl, hf⟩, .inr ⟨rfl, hf'⟩⟩
theorem txts (h : KOk k f s) (h' : KOk k' f' s') (h1 : (sg (clsR k) (clsR k') != 0) = false) (h2 : (k == 2) = true) : s.size ≤ 65535 := by
  rcases h with rfl | rfl | ⟨rfl, hs⟩ | ⟨rfl, hf⟩ <;> first | exact hs | exact absurd h2 (by decide)
end
end Go.Proofs.Ytaddmokllmdngaa
