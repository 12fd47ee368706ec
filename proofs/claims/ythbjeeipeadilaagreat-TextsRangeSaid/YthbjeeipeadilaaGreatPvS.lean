/- Strings told by lists of bytes. -/
import Derived.Test.YthbjeeipeadilaaGreatPv5
import Derived.Laws.Strings
set_option linter.unusedSimpArgs false
set_option linter.unusedVariables false
namespace Go.Pv
open Go

def bsA (l : List UInt8) : ByteArray := ⟨l.toArray⟩
theorem bsA_self (s : ByteArray) : s = bsA s.data.toList := rfl
theorem bsA_size (l : List UInt8) : (bsA l).size = l.length := by simp [bsA, ByteArray.size]
theorem bsA_get (l : List UInt8) (i : Nat) : (bsA l)[i]? = l[i]? := by
  by_cases h : i < l.length
  · rw [List.getElem?_eq_getElem h, getElem?_pos (bsA l) i (by rw [bsA_size]; exact h)]
    simp [bsA, ByteArray.getElem_eq_getElem_data]
  · rw [List.getElem?_eq_none (by omega), getElem?_neg (bsA l) i (by rw [bsA_size]; omega)]
theorem bsA_inj {a b : List UInt8} (h : bsA a = bsA b) : a = b := by
  have := congrArg (fun s : ByteArray => s.data.toList) h
  simpa [bsA] using this
theorem bsA_eq {a b : List UInt8} : bsA a = bsA b ↔ a = b := ⟨bsA_inj, fun h => by rw [h]⟩
theorem bsA_app (a b : List UInt8) : bsA a ++ bsA b = bsA (a ++ b) := by
  apply ByteArray.ext
  simp [bsA]
theorem bsA_extract (l : List UInt8) (a b : Nat) : (bsA l).extract a b = bsA ((l.take b).drop a) := by
  apply ByteArray.ext
  simp [bsA, List.drop_take]
theorem bytes_beq (a b : ByteArray) : (a == b) = decide (a = b) := by
  cases a; cases b; rename_i x y
  show (x == y) = _
  rw [Bool.eq_iff_iff, beq_iff_eq, decide_eq_true_iff]
  constructor
  · rintro rfl; rfl
  · intro h; injection h
theorem bsA_beq (a b : List UInt8) : (bsA a == bsA b) = decide (a = b) := by
  rw [bytes_beq, decide_eq_decide]; exact bsA_eq
theorem bsA_toList (l : List UInt8) : (bsA l).toList = l := ByteArray.toList_mk l
/-- Strings compared, as the model compares them. -/
theorem str_cmp (a b : List UInt8) : ((bsA a).toList == (bsA b).toList) = decide (a = b) := by
  rw [bsA_toList, bsA_toList, Bool.eq_iff_iff]; simp
theorem str_eqA {a b : List UInt8} (h : a = b) : DV.str (bsA a) = .str (bsA b) := by rw [h]
end Go.Pv
