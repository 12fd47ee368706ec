/- The decimal text of a number; wide's Text. -/
import Derived.Test.YtckcagmlippneaaWE
import Derived.Test.YtckcagmlippneaaPvS
set_option linter.unusedSimpArgs false
set_option linter.unusedVariables false
namespace Go.Proofs.Ytckcagmlippneaa
open Go Go.Pv Go.RowKit
set_option maxRecDepth 10000
set_option exponentiation.threshold 1000

def digB (n : Nat) : UInt8 := UInt8.ofNat (48 + n % 10)
/-- The decimal digits of a number (of 0: one). -/
def dec (n : Nat) : List UInt8 := if n < 10 then [digB n] else dec (n / 10) ++ [digB n]
termination_by n
decreasing_by omega
def textL (x : Int) : List UInt8 := (if x < 0 then [45] else []) ++ dec x.natAbs
theorem dec_lt {n : Nat} (h : n < 10) : dec n = [digB n] := by rw [dec, if_pos h]
theorem dec_ge {n : Nat} (h : 10 ≤ n) : dec n = dec (n / 10) ++ [digB n] := by rw [dec, if_neg (by omega)]
theorem digB_val (n : Nat) : (digB n).toNat = 48 + n % 10 := by
  unfold digB
  rw [UInt8.toNat_ofNat_of_lt']
  show 48 + n % 10 < 256
  omega

def u8s (l : List UInt8) : List (List DV) := l.map fun b => [.int .u8 b.toNat]
theorem u8s_len (l : List UInt8) : (u8s l).length = l.length := by simp [u8s]
theorem u8s_blw (l : List UInt8) {m : Nat} : ∀ ds ∈ u8s l, ∀ d ∈ ds, Blw m d := by
  intro ds h d hd
  simp only [u8s, List.mem_map] at h
  obtain ⟨b, _, rfl⟩ := h
  simp at hd; subst hd; simp
theorem u8s_bytes : ∀ l : List UInt8, bytesD (u8s l) = some l
  | [] => rfl
  | b :: l => by
    have := u8s_bytes l
    unfold u8s at this ⊢
    rw [List.map_cons]
    simp [bytesD, byteD, this]
theorem u8s_app (l : List UInt8) (b : UInt8) : u8s l ++ [[.int .u8 b.toNat]] = u8s (l ++ [b]) := by simp [u8s]
def bytesPO (l : List UInt8) : Option PO := some ⟨false, 1, 5, u8s l⟩

/-- The bytes, the first k swapped with the last. -/
def swapK (l : List UInt8) (k : Nat) : List UInt8 := (List.range l.length).map fun p => if p < k ∨ l.length - k ≤ p then l.getD (l.length - 1 - p) 0 else l.getD p 0
theorem swapK_len (l : List UInt8) (k : Nat) : (swapK l k).length = l.length := by simp [swapK]
theorem swapK_get (l : List UInt8) (k p : Nat) (h : p < l.length) : (swapK l k)[p]? = some (if p < k ∨ l.length - k ≤ p then l.getD (l.length - 1 - p) 0 else l.getD p 0) := by simp [swapK, h]
theorem swapK_zero (l : List UInt8) : swapK l 0 = l := by
  apply List.ext_getElem?
  intro p
  by_cases h : p < l.length
  · rw [swapK_get l 0 p h, if_neg (by omega)]; simp [List.getD, h]
  · rw [List.getElem?_eq_none (by rw [swapK_len]; omega), List.getElem?_eq_none (by omega)]
theorem swapK_end (l : List UInt8) (k : Nat) (h : l.length ≤ 2 * k + 1) : swapK l k = l.reverse := by
  apply List.ext_getElem?
  intro p
  by_cases hp : p < l.length
  · rw [swapK_get l k p hp, List.getElem?_reverse hp]
    have e : ∀ q, q < l.length → l[q]? = some (l.getD q 0) := fun q hq => by simp [List.getD, hq]
    rw [e (l.length - 1 - p) (by omega)]
    split
    · rfl
    · have : l.length - 1 - p = p := by omega
      rw [this]
  · rw [List.getElem?_eq_none (by rw [swapK_len]; omega), List.getElem?_eq_none (by simp; omega)]
theorem swapK_step (l : List UInt8) (k : Nat) (h : 2 * k + 1 < l.length) :
    ((swapK l k).set k (l.getD (l.length - 1 - k) 0)).set (l.length - 1 - k) (l.getD k 0) = swapK l (k + 1) := by
  apply List.ext_getElem?
  intro p
  by_cases hp : p < l.length
  · rw [swapK_get l (k + 1) p hp, List.getElem?_set, List.getElem?_set]
    by_cases h1 : l.length - 1 - k = p
    · subst h1
      rw [if_pos rfl, if_pos (by simp [swapK_len]; omega), if_pos (by omega), show l.length - 1 - (l.length - 1 - k) = k from by omega]
    · rw [if_neg h1]
      by_cases h2 : k = p
      · subst h2
        rw [if_pos rfl, if_pos (by rw [swapK_len]; omega), if_pos (by omega)]
      · rw [if_neg h2, swapK_get l k p hp]
        by_cases h3 : p < k ∨ l.length - k ≤ p
        · rw [if_pos h3, if_pos (by omega)]
        · rw [if_neg h3, if_neg (by omega)]
  · rw [List.getElem?_eq_none (by simp [swapK_len]; omega), List.getElem?_eq_none (by rw [swapK_len]; omega)]
end Go.Proofs.Ytckcagmlippneaa
