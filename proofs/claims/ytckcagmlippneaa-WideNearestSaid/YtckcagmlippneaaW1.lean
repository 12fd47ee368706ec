/- Wide's reference: digits to the base 65536: zero, add, take, below, isZero. -/
import Derived.Test.YtckcagmlippneaaPv5
import Derived.Test.YtckcagmlippneaaRows
import Derived.IntWalk
set_option linter.unusedSimpArgs false
set_option linter.unusedVariables false
namespace Go.Proofs.Ytckcagmlippneaa
open Go Go.Pv Go.RowKit
set_option maxRecDepth 10000

def digN (n i : Nat) : Nat := n / 65536 ^ i % 65536
def cell32 (x : Nat) : List DV := [.int .u32 (x : Int)]
/-- The first k digits of a number, then zeros. -/
def digK (n k : Nat) : List (List DV) := (List.range 24).map fun i => cell32 (bif Nat.blt i k then digN n i else 0)
def digL (n : Nat) : List (List DV) := digK n 24
theorem digK_len (n k : Nat) : (digK n k).length = 24 := by simp [digK]
theorem digK_get (n k i : Nat) (hi : i < 24) : (digK n k)[i]? = some (cell32 (bif Nat.blt i k then digN n i else 0)) := by simp [digK, hi]
theorem digL_len (n : Nat) : (digL n).length = 24 := digK_len n 24
theorem digL_get (n i : Nat) (hi : i < 24) : (digL n)[i]? = some (cell32 (digN n i)) := by
  unfold digL; rw [digK_get _ _ _ hi]
  have : Nat.blt i 24 = true := Nat.ble_eq_true_of_le hi
  rw [this]; rfl
theorem digK_set (n k : Nat) : (digK n k).set k (cell32 (digN n k)) = digK n (k + 1) := by
  apply List.ext_getElem?
  intro j
  by_cases hj : j < 24
  · rw [List.getElem?_set, digK_get n (k + 1) j hj]
    by_cases hjk : k = j
    · subst hjk
      rw [if_pos rfl, if_pos (by rw [digK_len]; exact hj)]
      have : Nat.blt k (k + 1) = true := Nat.ble_eq_true_of_le (Nat.le_refl _)
      rw [this]; rfl
    · rw [if_neg hjk, digK_get n k j hj]
      have : Nat.blt j (k + 1) = Nat.blt j k := by
        rw [Bool.eq_iff_iff]; simp only [Nat.blt, Nat.ble_eq]; omega
      rw [this]
  · rw [List.getElem?_eq_none (by simp [digK_len]; omega), List.getElem?_eq_none (by simp [digK_len]; omega)]
theorem digK_zero (n : Nat) : digK n 0 = List.replicate 24 (cell32 0) := by
  have : ∀ i, Nat.blt i 0 = false := fun i => rfl
  simp [digK, this]; rfl
theorem digN_lt (n i : Nat) : digN n i < 65536 := Nat.mod_lt _ (by decide)
theorem blw_digL (n : Nat) {m : Nat} : ∀ ds ∈ digL n, ∀ d ∈ ds, Blw m d := by
  intro ds h d hd
  simp only [digL, digK, List.mem_map] at h
  obtain ⟨i, _, rfl⟩ := h
  simp [cell32] at hd; subst hd; simp

def objK (n k : Nat) : PO := ⟨false, 1, 85, digK n k⟩
theorem zero : FnO Try.prog 51 [] false (objK 0 0) := by
  refine FnO.mk Try.func51 rfl rfl (Nat.le_of_ble_eq_true rfl) (by simp) ?_ ?_
  · intro ds h d hd
    simp only [objK, digK, List.mem_map] at h
    obtain ⟨i, _, rfl⟩ := h
    simp [cell32] at hd; subst hd; simp
  · refine ⟨by decide, by decide, by decide, by decide, by decide, rfl, rfl, ?_⟩
    exact ⟨0, rfl, rfl, rfl⟩

theorem digK_zero' (n : Nat) : digK 0 0 = digK n 0 := by rw [digK_zero, digK_zero]

theorem add_dig (a b q : Nat) (hq : 0 < q) : ((a / q % 65536 + b / q % 65536 + (a % q + b % q) / q) % 65536 = (a + b) / q % 65536) ∧ ((a / q % 65536 + b / q % 65536 + (a % q + b % q) / q) / 65536 = (a % (q * 65536) + b % (q * 65536)) / (q * 65536)) := by
  have e1 : (a + b) / q = a / q + b / q + (a % q + b % q) / q := by
    have ha := Nat.div_add_mod a q
    have hb := Nat.div_add_mod b q
    have : a + b = (a % q + b % q) + q * (a / q + b / q) := by rw [Nat.mul_add]; omega
    rw [this, Nat.add_mul_div_left _ _ hq]; omega
  have e2 : ∀ x : Nat, x % (q * 65536) = x % q + q * (x / q % 65536) := fun x => Nat.mod_mul
  constructor
  · rw [e1]; omega
  · rw [e2, e2, ← Nat.div_div_eq_div_mul]
    have : (a % q + q * (a / q % 65536) + (b % q + q * (b / q % 65536))) = (a % q + b % q) + q * (a / q % 65536 + b / q % 65536) := by rw [Nat.mul_add]; omega
    rw [this, Nat.add_mul_div_left _ _ hq]; congr 1; omega

def carry (a b i : Nat) : Nat := (a % 65536 ^ i + b % 65536 ^ i) / 65536 ^ i
theorem carry_lt (a b i : Nat) : carry a b i < 2 := by
  unfold carry
  have hq : 0 < 65536 ^ i := Nat.pow_pos (by decide)
  have := Nat.mod_lt a hq; have := Nat.mod_lt b hq
  exact Nat.div_lt_of_lt_mul (by omega)

theorem tdiv_n (n : Nat) : ((n : Int)).tdiv 65536 = ((n / 65536 : Nat) : Int) := rfl
theorem tmod_n (n : Nat) : ((n : Int)).tmod 65536 = ((n % 65536 : Nat) : Int) := rfl
theorem set_cell {n i j : Nat} {v : Int} (hj : j = i) (h : v = digN n i) : (digK n i).set j [.int .u32 v] = digK n (i + 1) := by rw [h, hj]; exact digK_set n i
theorem digK_get' (n k : Nat) {i j : Nat} (hj : j = i) (hi : i < 24) : (digK n k)[j]? = some (cell32 (bif Nat.blt i k then digN n i else 0)) := by rw [hj]; exact digK_get n k i hi
theorem sig1 {els els' : List (List DV)} (h : els = els') : [some (PO.mk false 1 85 els)] = [some (PO.mk false 1 85 els')] := by rw [h]

theorem add (a b : Nat) : FnC Try.prog 44 [.list (digL a), .list (digL b)] (· = .list (digL (a + b))) := by
  refine FnC.mk Try.func44 rfl rfl (Nat.le_of_ble_eq_true rfl) ?_ (by rintro _ rfl; simpa using blw_digL (a + b)) ?_
  · intro d hd
    simp at hd
    rcases hd with rfl | rfl <;> simpa using blw_digL _
  refine callK.own zero ?_
  refine joinK.direct ?_
  refine loopK.use [0, 1, 5, 6, 7] (fun i : Nat => [.list (digL a), .list (digL b), .ref 0 0 24, .int .u32 (carry a b i : Nat), .int .i64 i]) (fun i => [some (objK (a + b) i)]) (fun i => i ≤ 24) (fun i => 24 - i) 0 (by decide)
    ⟨rfl, rfl, rfl, int_eq (by simp [carry, Nat.mod_one]), rfl, trivial⟩ (.inl ?_) ?_
  · show [some (objK 0 0)] = [some (objK (a + b) 0)]
    unfold objK; rw [digK_zero' (a + b)]
  intro i hi
  refine joinK.direct ⟨fun h => join_go ?_, fun h => join_go ?_⟩
  · have h : i < 24 := by have := of_decide_eq_true h; omega
    refine drawK.mk (by kernel_rfl) ?_
    refine ⟨by omega, by rw [digL_len]; omega, optK.mk (digL_get a i h) ?_⟩
    refine ⟨by omega, by rw [digL_len]; omega, optK.mk (digL_get b i h) ?_⟩
    refine ⟨rfl, by decide, by omega, by omega, optK.mk rfl ?_⟩
    refine optK.mk (digK_get' (a + b) i (i := i) (by omega) h) ?_
    refine ⟨rfl, by decide, ?_⟩
    have hm := add_dig a b (65536 ^ i) (Nat.pow_pos (by decide))
    have h1 := digN_lt a i
    have h2 := digN_lt b i
    have h3 := carry_lt a b i
    have hs : IntKind.u32.wrap (IntKind.u32.wrap ((digN a i : Int) + (digN b i : Int)) + (carry a b i : Int)) = ((digN a i + digN b i + carry a b i : Nat) : Int) := by
      rw [IntKind.wrap_u32, IntKind.wrap_u32]; omega
    refine loop_next (i + 1) (by omega) (by omega) ⟨rfl, rfl, rfl, int_eq ?_, int_eq ?_, trivial⟩ (.inl (sig1 (set_cell (by omega) ?_)))
    · have hc : (digN a i + digN b i + carry a b i) / 65536 = carry a b (i + 1) := by
        show _ = (a % 65536 ^ (i + 1) + b % 65536 ^ (i + 1)) / 65536 ^ (i + 1)
        rw [Nat.pow_succ]; exact hm.2
      rw [hs, tdiv_n, hc, IntKind.wrap_u32]
      have := carry_lt a b (i + 1); omega
    · rw [IntKind.wrap_i64]; omega
    · rw [hs, tmod_n]; exact congrArg Int.ofNat hm.1
  · have h : i = 24 := by have := of_decide_eq_false h; omega
    subst h
    exact .inr ⟨_, snap_whole (po := objK (a + b) 24) rfl (blw_digL (a + b)), rfl⟩
end Go.Proofs.Ytckcagmlippneaa
