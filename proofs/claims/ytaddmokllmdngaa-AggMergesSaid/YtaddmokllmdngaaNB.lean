/- Values compared: texts, by the reference. -/
import Derived.Test.YtaddmokllmdngaaNA
namespace Go.Proofs.Ytaddmokllmdngaa
open Go Go.Pv Go.RowKit
set_option linter.unusedSimpArgs false
set_option linter.unusedVariables false
set_option maxRecDepth 10000

abbrev tcmp (a b : List UInt8) : Int := Extern.BytealgCompare.cmp (bsA a) (bsA b)
theorem bsA_at (l : List UInt8) (i : Nat) (x : UInt8) (h : l[i]? = some x) : (bsA l)[i]! = x := by
  have := bsA_get l i
  rw [h] at this
  rw [getElem!_def, this]
theorem tcmp_ne {a b : List UInt8} {i : Nat} {x y : UInt8} (ha : a[i]? = some x) (hb : b[i]? = some y) (hne : x ≠ y) (heq : ∀ j, j < i → a[j]? = b[j]?) : tcmp a b = sg x.toNat y.toNat := by
  have la := (List.getElem?_eq_some_iff.1 ha).1
  have lb := (List.getElem?_eq_some_iff.1 hb).1
  have hf : (List.range (min (bsA a).size (bsA b).size)).find? (fun i => (bsA a)[i]! != (bsA b)[i]!) = some i := by
    rw [List.find?_range_eq_some]
    refine ⟨?_, ?_, ?_⟩
    · rw [bsA_at a i x ha, bsA_at b i y hb]; simpa using hne
    · rw [bsA_size, bsA_size]; exact List.mem_range.2 (by omega)
    · intro j hj
      have e := heq j hj
      have h1 : a[j]? = some a[j] := List.getElem?_eq_getElem (by omega)
      rw [bsA_at a j _ h1, bsA_at b j _ (e.symm.trans h1)]; simp
  unfold tcmp Extern.BytealgCompare.cmp
  rw [hf]
  simp only
  rw [bsA_at a i x ha, bsA_at b i y hb]
  unfold sg
  have hn : x.toNat ≠ y.toNat := fun e => hne (UInt8.toNat_inj.1 e)
  by_cases h : x < y
  · have : x.toNat < y.toNat := UInt8.lt_iff_toNat_lt.1 h
    rw [if_pos h, if_pos (by omega)]
  · have : ¬ x.toNat < y.toNat := fun h2 => h (UInt8.lt_iff_toNat_lt.2 h2)
    rw [if_neg h, if_neg (by omega), if_pos (by omega)]
theorem tcmp_eq {a b : List UInt8} (heq : ∀ j, j < min a.length b.length → a[j]? = b[j]?) : tcmp a b = sg a.length b.length := by
  have hf : (List.range (min (bsA a).size (bsA b).size)).find? (fun i => (bsA a)[i]! != (bsA b)[i]!) = none := by
    rw [List.find?_range_eq_none]
    intro j hj
    rw [bsA_size, bsA_size] at hj
    have e := heq j hj
    have h1 : a[j]? = some a[j] := List.getElem?_eq_getElem (by omega)
    rw [bsA_at a j _ h1, bsA_at b j _ (e.symm.trans h1)]; simp
  unfold tcmp Extern.BytealgCompare.cmp
  rw [hf]
  simp only [bsA_size]
  unfold sg
  by_cases h : a.length < b.length
  · have h' : (a.length : Int) < (b.length : Int) := by omega
    rw [if_pos h, if_pos h']
  · have h' : ¬ (a.length : Int) < (b.length : Int) := by omega
    by_cases h2 : a.length > b.length
    · have h2' : (b.length : Int) < (a.length : Int) := by omega
      rw [if_neg h, if_neg h', if_pos h2, if_pos h2']
    · have h2' : ¬ (b.length : Int) < (a.length : Int) := by omega
      rw [if_neg h, if_neg h', if_neg h2, if_neg h2']
end Go.Proofs.Ytaddmokllmdngaa
