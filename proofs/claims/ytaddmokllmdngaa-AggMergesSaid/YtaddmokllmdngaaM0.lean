import Derived.Test.YtaddmokllmdngaaPvF
import Derived.Test.YtaddmokllmdngaaPvL
import Derived.Test.YtaddmokllmdngaaPvS
import Derived.Test.YtaddmokllmdngaaRows
import Derived.Laws.Externs
import Derived.Laws.MathBits
import Derived.Laws.Bits64
import Derived.Laws.BitsLemmas
import Derived.IntWalk

section
namespace Go.Proofs.Ytaddmokllmdngaa
set_option linter.unusedSimpArgs false
set_option linter.unusedVariables false
open Go Go.Pv Go.RowKit
set_option maxRecDepth 10000

def digN (n i : Nat) : Nat := n / 65536 ^ i % 65536
def cell32 (x : Nat) : List DV := [.int .u32 (x : Int)]
/-- The first k digits of a number, then zeros. -/
def digK (n k : Nat) : List (List DV) := (List.range 24).map fun i => cell32 (bif Nat.blt i k then digN n i else 0)
def digL (n : Nat) : List (List DV) := digK n 24
theorem digK_len (n k : Nat) : (digK n k).length = 24 := by simp [digK]
theorem digK_get (n k i : Nat) (hi : i < 24) : (digK n k)[i]? = some (cell32 (bif Nat.blt i k then digN n i else 0)) := by simp [digK, hi]
theorem digL_len (n : Nat) : (digL n).length = 24 := digK_len n 24
theorem digL_get (n i : Nat) (hi : i < 24) : (digL n)[i]? = some (cell32 (digN n i)) := by
  unfold digL; rw [digK_get _ _ _ hi]
  have : Nat.blt i 24 = true := Nat.ble_eq_true_of_le hi
  rw [this]; rfl
theorem digK_set (n k : Nat) : (digK n k).set k (cell32 (digN n k)) = digK n (k + 1) := by
  apply List.ext_getElem?
  intro j
  by_cases hj : j < 24
  · rw [List.getElem?_set, digK_get n (k + 1) j hj]
    by_cases hjk : k = j
    · subst hjk
      rw [if_pos rfl, if_pos (by rw [digK_len]; exact hj)]
      have : Nat.blt k (k + 1) = true := Nat.ble_eq_true_of_le (Nat.le_refl _)
      rw [this]; rfl
    · rw [if_neg hjk, digK_get n k j hj]
      have : Nat.blt j (k + 1) = Nat.blt j k := by
        rw [Bool.eq_iff_iff]; simp only [Nat.blt, Nat.ble_eq]; omega
      rw [this]
  · rw [List.getElem?_eq_none (by simp [digK_len]; omega), List.getElem?_eq_none (by simp [digK_len]; omega)]
theorem digK_zero (n : Nat) : digK n 0 = List.replicate 24 (cell32 0) := by
  have : ∀ i, Nat.blt i 0 = false := fun i => rfl
  simp [digK, this]; rfl
theorem digN_lt (n i : Nat) : digN n i < 65536 := Nat.mod_lt _ (by decide)
theorem blw_digL (n : Nat) {m : Nat} : ∀ ds ∈ digL n, ∀ d ∈ ds, Blw m d := by
  intro ds h d hd
  simp only [digL, digK, List.mem_map] at h
  obtain ⟨i, _, rfl⟩ := h
  simp [cell32] at hd; subst hd; simp

def objK (n k : Nat) : PO := ⟨false, 1, 95, digK n k⟩
theorem zero : FnO Try.prog 54 [] false (objK 0 0) := by
  refine FnO.mk Try.func54 rfl rfl (Nat.le_of_ble_eq_true rfl) (by simp) ?_ ?_
  · intro ds h d hd
    simp only [objK, digK, List.mem_map] at h
    obtain ⟨i, _, rfl⟩ := h
    simp [cell32] at hd; subst hd; simp
  · refine ⟨by decide, by decide, by decide, by decide, by decide, rfl, rfl, ?_⟩
    exact ⟨0, rfl, rfl, rfl⟩

theorem digK_zero' (n : Nat) : digK 0 0 = digK n 0 := by rw [digK_zero, digK_zero]

theorem add_dig (a b q : Nat) (hq : 0 < q) : ((a / q % 65536 + b / q % 65536 + (a % q + b % q) / q) % 65536 = (a + b) / q % 65536) ∧ ((a / q % 65536 + b / q % 65536 + (a % q + b % q) / q) / 65536 = (a % (q * 65536) + b % (q * 65536)) / (q * 65536)) := by
  have e1 : (a + b) / q = a / q + b / q + (a % q + b % q) / q := by
    have ha := Nat.div_add_mod a q
    have hb := Nat.div_add_mod b q
    have : a + b = (a % q + b % q) + q * (a / q + b / q) := by rw [Nat.mul_add]; omega
    rw [this, Nat.add_mul_div_left _ _ hq]; omega
  have e2 : ∀ x : Nat, x % (q * 65536) = x % q + q * (x / q % 65536) := fun x => Nat.mod_mul
  constructor
  · rw [e1]; omega
  · rw [e2, e2, ← Nat.div_div_eq_div_mul]
    have : (a % q + q * (a / q % 65536) + (b % q + q * (b / q % 65536))) = (a % q + b % q) + q * (a / q % 65536 + b / q % 65536) := by rw [Nat.mul_add]; omega
    rw [this, Nat.add_mul_div_left _ _ hq]; congr 1; omega

def carry (a b i : Nat) : Nat := (a % 65536 ^ i + b % 65536 ^ i) / 65536 ^ i
theorem carry_lt (a b i : Nat) : carry a b i < 2 := by
  unfold carry
  have hq : 0 < 65536 ^ i := Nat.pow_pos (by decide)
  have := Nat.mod_lt a hq; have := Nat.mod_lt b hq
  exact Nat.div_lt_of_lt_mul (by omega)

theorem tdiv_n (n : Nat) : ((n : Int)).tdiv 65536 = ((n / 65536 : Nat) : Int) := rfl
theorem tmod_n (n : Nat) : ((n : Int)).tmod 65536 = ((n % 65536 : Nat) : Int) := rfl
theorem set_cell {n i j : Nat} {v : Int} (hj : j = i) (h : v = digN n i) : (digK n i).set j [.int .u32 v] = digK n (i + 1) := by rw [h, hj]; exact digK_set n i
theorem digK_get' (n k : Nat) {i j : Nat} (hj : j = i) (hi : i < 24) : (digK n k)[j]? = some (cell32 (bif Nat.blt i k then digN n i else 0)) := by rw [hj]; exact digK_get n k i hi
theorem sig1 {els els' : List (List DV)} (h : els = els') : [some (PO.mk false 1 95 els)] = [some (PO.mk false 1 95 els')] := by rw [h]

theorem add (a b : Nat) : FnC Try.prog 55 [.list (digL a), .list (digL b)] (· = .list (digL (a + b))) := by
  refine FnC.mk Try.func55 rfl rfl (Nat.le_of_ble_eq_true rfl) ?_ (by rintro _ rfl; simpa using blw_digL (a + b)) ?_
  · intro d hd
    simp at hd
    rcases hd with rfl | rfl <;> simpa using blw_digL _
  refine callK.own zero ?_
  refine joinK.direct ?_
  refine loopK.use [0, 1, 5, 6, 7] (fun i : Nat => [.list (digL a), .list (digL b), .ref 0 0 24, .int .u32 (carry a b i : Nat), .int .i64 i]) (fun i => [some (objK (a + b) i)]) (fun i => i ≤ 24) (fun i => 24 - i) 0 (by decide)
    ⟨rfl, rfl, rfl, int_eq (by simp [carry, Nat.mod_one]), rfl, trivial⟩ (.inl ?_) ?_
  · show [some (objK 0 0)] = [some (objK (a + b) 0)]
    unfold objK; rw [digK_zero' (a + b)]
  intro i hi
  refine joinK.direct ⟨fun h => join_go ?_, fun h => join_go ?_⟩
  · have h : i < 24 := by have := of_decide_eq_true h; omega
    refine drawK.mk (by kernel_rfl) ?_
    refine ⟨by omega, by rw [digL_len]; omega, optK.mk (digL_get a i h) ?_⟩
    refine ⟨by omega, by rw [digL_len]; omega, optK.mk (digL_get b i h) ?_⟩
    refine ⟨rfl, by decide, by omega, by omega, optK.mk rfl ?_⟩
    refine optK.mk (digK_get' (a + b) i (i := i) (by omega) h) ?_
    refine ⟨rfl, by decide, ?_⟩
    have hm := add_dig a b (65536 ^ i) (Nat.pow_pos (by decide))
    have h1 := digN_lt a i
    have h2 := digN_lt b i
    have h3 := carry_lt a b i
    have hs : IntKind.u32.wrap (IntKind.u32.wrap ((digN a i : Int) + (digN b i : Int)) + (carry a b i : Int)) = ((digN a i + digN b i + carry a b i : Nat) : Int) := by
      rw [IntKind.wrap_u32, IntKind.wrap_u32]; omega
    refine loop_next (i + 1) (by omega) (by omega) ⟨rfl, rfl, rfl, int_eq ?_, int_eq ?_, trivial⟩ (.inl (sig1 (set_cell (by omega) ?_)))
    · have hc : (digN a i + digN b i + carry a b i) / 65536 = carry a b (i + 1) := by
        show _ = (a % 65536 ^ (i + 1) + b % 65536 ^ (i + 1)) / 65536 ^ (i + 1)
        rw [Nat.pow_succ]; exact hm.2
      rw [hs, tdiv_n, hc, IntKind.wrap_u32]
      have := carry_lt a b (i + 1); omega
    · rw [IntKind.wrap_i64]; omega
    · rw [hs, tmod_n]; exact congrArg Int.ofNat hm.1
  · have h : i = 24 := by have := of_decide_eq_false h; omega
    subst h
    exact .inr ⟨_, snap_whole (po := objK (a + b) 24) rfl (blw_digL (a + b)), rfl⟩
end Go.Proofs.Ytaddmokllmdngaa
end
section
namespace Go.Proofs.Ytaddmokllmdngaa
set_option linter.unusedSimpArgs false
set_option linter.unusedVariables false
open Go Go.Pv Go.RowKit
set_option maxRecDepth 10000

def bor (a b q : Nat) : Nat := if a % q < b % q then 1 else 0
theorem take_dig (a b q : Nat) (hq : 0 < q) (hle : b ≤ a) : (65536 + a / q % 65536 - b / q % 65536 - bor a b q) % 65536 = (a - b) / q % 65536 ∧ 1 - (65536 + a / q % 65536 - b / q % 65536 - bor a b q) / 65536 = bor a b (q * 65536) := by
  have ha := Nat.div_add_mod a q
  have hb := Nat.div_add_mod b q
  have hr := Nat.mod_lt a hq
  have hs := Nat.mod_lt b hq
  have e2 : ∀ x : Nat, x % (q * 65536) = x % q + q * (x / q % 65536) := fun x => Nat.mod_mul
  have hsub : (a - b) / q = a / q - b / q - bor a b q := by
    unfold bor
    have hAB : b / q ≤ a / q := Nat.div_le_div_right hle
    have hm := Nat.mul_sub q (a / q) (b / q)
    have hm1 : q * (b / q) ≤ q * (a / q) := Nat.mul_le_mul_left q hAB
    split
    · rename_i h
      have hlt : b / q < a / q := by
        rcases Nat.lt_or_ge (b / q) (a / q) with h1 | h1
        · exact h1
        · have := Nat.mul_le_mul_left q h1; omega
      have h3 : q * (a / q - b / q - 1) + q = q * (a / q - b / q) := by
        rw [← Nat.mul_succ]; congr 1; omega
      have h2 : a - b = (q + a % q - b % q) + q * (a / q - b / q - 1) := by omega
      rw [h2, Nat.add_mul_div_left _ _ hq, Nat.div_eq_of_lt (by omega)]; omega
    · have h2 : a - b = (a % q - b % q) + q * (a / q - b / q) := by omega
      rw [h2, Nat.add_mul_div_left _ _ hq, Nat.div_eq_of_lt (by omega)]; omega
  have hb1 : bor a b q ≤ 1 := by unfold bor; split <;> omega
  have hAB : bor a b q = 1 → b / q < a / q := by
    intro h
    unfold bor at h
    split at h
    · rename_i h'
      rcases Nat.lt_or_ge (b / q) (a / q) with h1 | h1
      · exact h1
      · have := Nat.mul_le_mul_left q h1; omega
    · cases h
  have hAB' : b / q ≤ a / q := Nat.div_le_div_right hle
  constructor
  · rw [hsub]; omega
  · have hcmp : bor a b (q * 65536) = if a / q % 65536 < b / q % 65536 ∨ (a / q % 65536 = b / q % 65536 ∧ a % q < b % q) then 1 else 0 := by
      unfold bor
      rw [e2, e2]
      congr 1
      rw [eq_iff_iff]
      constructor
      · intro h
        rcases Nat.lt_trichotomy (a / q % 65536) (b / q % 65536) with h1 | h1 | h1
        · exact .inl h1
        · rw [h1] at h; exact .inr ⟨h1, by omega⟩
        · have := Nat.mul_le_mul_left q h1; rw [Nat.mul_succ] at this; omega
      · rintro (h | ⟨h, h'⟩)
        · have := Nat.mul_le_mul_left q h; rw [Nat.mul_succ] at this; omega
        · rw [h]; omega
    rw [hcmp]
    unfold bor
    split <;> split <;> omega

theorem take (a b : Nat) (hle : b ≤ a) : FnC Try.prog 57 [.list (digL a), .list (digL b)] (· = .list (digL (a - b))) := by
  refine FnC.mk Try.func57 rfl rfl (Nat.le_of_ble_eq_true rfl) ?_ (by rintro _ rfl; simpa using blw_digL (a - b)) ?_
  · intro d hd
    simp at hd
    rcases hd with rfl | rfl <;> simpa using blw_digL _
  refine callK.own zero ?_
  refine joinK.direct ?_
  refine loopK.use [0, 1, 5, 6, 7] (fun i : Nat => [.list (digL a), .list (digL b), .ref 0 0 24, .int .u32 (bor a b (65536 ^ i) : Nat), .int .i64 i]) (fun i => [some (objK (a - b) i)]) (fun i => i ≤ 24) (fun i => 24 - i) 0 (by decide)
    ⟨rfl, rfl, rfl, int_eq (by simp [bor, Nat.mod_one]), rfl, trivial⟩ (.inl ?_) ?_
  · show [some (objK 0 0)] = [some (objK (a - b) 0)]
    unfold objK; rw [digK_zero' (a - b)]
  intro i hi
  refine joinK.direct ⟨fun h => join_go ?_, fun h => join_go ?_⟩
  · have h : i < 24 := by have := of_decide_eq_true h; omega
    refine drawK.mk (by kernel_rfl) ?_
    refine ⟨by omega, by rw [digL_len]; omega, optK.mk (digL_get a i h) ?_⟩
    refine ⟨by omega, by rw [digL_len]; omega, optK.mk (digL_get b i h) ?_⟩
    refine ⟨rfl, by decide, by omega, by omega, optK.mk rfl ?_⟩
    refine optK.mk (digK_get' (a - b) i (i := i) (by omega) h) ?_
    refine ⟨rfl, by decide, ?_⟩
    have hm := take_dig a b (65536 ^ i) (Nat.pow_pos (by decide)) hle
    have h1 := digN_lt a i
    have h2 := digN_lt b i
    have h3 : bor a b (65536 ^ i) ≤ 1 := by unfold bor; split <;> omega
    have hs : IntKind.u32.wrap (IntKind.u32.wrap (IntKind.u32.wrap (65536 + (digN a i : Int)) - (digN b i : Int)) - (bor a b (65536 ^ i) : Int)) = ((65536 + digN a i - digN b i - bor a b (65536 ^ i) : Nat) : Int) := by
      rw [IntKind.wrap_u32, IntKind.wrap_u32, IntKind.wrap_u32]; omega
    refine loop_next (i + 1) (by omega) (by omega) ⟨rfl, rfl, rfl, int_eq ?_, int_eq ?_, trivial⟩ (.inl (sig1 (set_cell (by omega) ?_)))
    · have hc : 1 - (65536 + digN a i - digN b i - bor a b (65536 ^ i)) / 65536 = bor a b (65536 ^ (i + 1)) := by
        rw [Nat.pow_succ]; exact hm.2
      rw [hs, tdiv_n, ← hc, IntKind.wrap_u32, IntKind.wrap_u32]
      omega
    · rw [IntKind.wrap_i64]; omega
    · rw [hs, tmod_n]; exact congrArg Int.ofNat hm.1
  · have h : i = 24 := by have := of_decide_eq_false h; omega
    subst h
    exact .inr ⟨_, snap_whole (po := objK (a - b) 24) rfl (blw_digL (a - b)), rfl⟩

theorem isZero (n : Nat) (hn : n < 65536 ^ 24) : FnC Try.prog 58 [.list (digL n)] (· = .bool (decide (n = 0))) := by
  refine FnC.mk Try.func58 rfl rfl (Nat.le_of_ble_eq_true rfl) ?_ (by rintro _ rfl; simp) ?_
  · intro d hd
    simp at hd
    subst hd; simpa using blw_digL _
  refine joinK.direct ?_
  refine loopK.use [0, 3] (fun i : Nat => [.list (digL n), .int .i64 i]) (fun _ => []) (fun i => i ≤ 24 ∧ n % 65536 ^ i = 0) (fun i => 24 - i) 0 ⟨by decide, by simp [Nat.mod_one]⟩ ⟨rfl, rfl, trivial⟩ (.inl rfl) ?_
  rintro i ⟨hi, hz⟩
  refine joinK.direct ⟨fun h => join_go ?_, fun h => join_go ?_⟩
  · have h : i < 24 := by have := of_decide_eq_true h; rw [digL_len] at this; omega
    refine joinK.direct ?_
    refine ⟨by omega, by rw [digL_len]; omega, optK.mk (digL_get n i h) ?_⟩
    have hmod : n % 65536 ^ (i + 1) = n % 65536 ^ i + 65536 ^ i * digN n i := by rw [Nat.pow_succ]; exact Nat.mod_mul
    refine ⟨fun h2 => ?_, fun h2 => join_go ?_⟩
    · have h2 : ((digN n i : Int) != 0) = true := h2
      refine fin_eq (.bool _) rfl (bool_eq (Eq.symm (decide_eq_false ?_)))
      rintro rfl
      simp [digN] at h2
    · have h2 : ((digN n i : Int) != 0) = false := h2
      have h2 : digN n i = 0 := by simpa using h2
      refine loop_next (i + 1) ⟨by omega, by rw [hmod, h2, hz]; rfl⟩ (by omega) ⟨rfl, int_eq ?_, trivial⟩ (.inl rfl)
      rw [IntKind.wrap_i64]; omega
  · have h : i = 24 := by have := of_decide_eq_false h; rw [digL_len] at this; omega
    subst h
    refine fin_eq (.bool _) rfl (bool_eq (Eq.symm (decide_eq_true ?_)))
    rwa [Nat.mod_eq_of_lt hn] at hz

theorem below (a b : Nat) (ha : a < 65536 ^ 24) (hb : b < 65536 ^ 24) : FnC Try.prog 56 [.list (digL a), .list (digL b)] (· = .bool (decide (a < b))) := by
  refine FnC.mk Try.func56 rfl rfl (Nat.le_of_ble_eq_true rfl) ?_ (by rintro _ rfl; simp) ?_
  · intro d hd
    simp at hd
    rcases hd with rfl | rfl <;> simpa using blw_digL _
  refine joinK.direct ?_
  refine loopK.use [0, 1, 5] (fun s : Nat => [.list (digL a), .list (digL b), .int .i64 ((s : Int) - 1)]) (fun _ => []) (fun s => s ≤ 24 ∧ a / 65536 ^ s = b / 65536 ^ s) (fun s => s) 24 ⟨by decide, by rw [Nat.div_eq_of_lt ha, Nat.div_eq_of_lt hb]⟩ ⟨rfl, rfl, rfl, trivial⟩ (.inl rfl) ?_
  rintro s ⟨hs, he⟩
  refine joinK.direct ⟨fun h => join_go ?_, fun h => join_go ?_⟩
  · have h : 1 ≤ s := by have := of_decide_eq_true h; omega
    obtain ⟨i, rfl⟩ : ∃ i, s = i + 1 := ⟨s - 1, by omega⟩
    have hi : i < 24 := by omega
    have ei : (((i + 1 : Nat) : Int) - 1).toNat = i := by omega
    refine joinK.direct ?_
    refine drawK.mk (by kernel_rfl) ?_
    refine ⟨by omega, by rw [digL_len]; omega, optK.mk (by rw [ei]; exact digL_get a i hi) ?_⟩
    refine ⟨by omega, by rw [digL_len]; omega, optK.mk (by rw [ei]; exact digL_get b i hi) ?_⟩
    have hq : 0 < 65536 ^ i := Nat.pow_pos (by decide)
    have he : a / 65536 ^ i / 65536 = b / 65536 ^ i / 65536 := by rw [Nat.div_div_eq_div_mul, Nat.div_div_eq_div_mul, ← Nat.pow_succ]; exact he
    have h1 : digN a i = a / 65536 ^ i % 65536 := rfl
    have h2 : digN b i = b / 65536 ^ i % 65536 := rfl
    refine ⟨fun hne => ?_, fun heq => join_go ?_⟩
    · have hne : ((digN a i : Int) != (digN b i : Int)) = true := hne
      have hne : digN a i ≠ digN b i := fun e => by simp [e] at hne
      refine drawK.mk (by kernel_rfl) ?_
      refine ⟨by omega, by rw [digL_len]; omega, optK.mk (by rw [ei]; exact digL_get a i hi) ?_⟩
      refine ⟨by omega, by rw [digL_len]; omega, optK.mk (by rw [ei]; exact digL_get b i hi) ?_⟩
      refine fin_eq (.bool (decide ((digN a i : Int) < (digN b i : Int)))) rfl (bool_eq ?_)
      rw [decide_eq_decide]
      constructor
      · intro hlt
        have : a / 65536 ^ i < b / 65536 ^ i := by omega
        rcases Nat.lt_or_ge a b with h3 | h3
        · exact h3
        · have := Nat.div_le_div_right (c := 65536 ^ i) h3; omega
      · intro hlt
        have := Nat.div_le_div_right (c := 65536 ^ i) (Nat.le_of_lt hlt)
        omega
    · have heq : ((digN a i : Int) != (digN b i : Int)) = false := heq
      have heq : digN a i = digN b i := by have : (digN a i : Int) = digN b i := by simpa using heq
                                           omega
      refine loop_next i ⟨by omega, by omega⟩ (by omega) ⟨rfl, rfl, int_eq ?_, trivial⟩ (.inl rfl)
      rw [IntKind.wrap_i64]; omega
  · have h : s = 0 := by have := of_decide_eq_false h; omega
    subst h
    refine fin_eq (.bool _) rfl (bool_eq (Eq.symm (decide_eq_false ?_)))
    simp at he; omega
end Go.Proofs.Ytaddmokllmdngaa
end
section
namespace Go.Proofs.Ytaddmokllmdngaa
set_option linter.unusedSimpArgs false
set_option linter.unusedVariables false
open Go Go.Pv Go.RowKit
set_option maxRecDepth 10000

def numD (x : Int) : DV := .agg [.list (digL x.natAbs), .bool (decide (x < 0))]
theorem blw_numD (x : Int) {m : Nat} : Blw m (numD x) := by
  unfold numD
  rw [blw_agg]
  intro d hd
  simp only [List.mem_cons, List.not_mem_nil, or_false] at hd
  rcases hd with rfl | rfl
  · rw [blw_list]; exact blw_digL _
  · simp
theorem num_eq {a : Nat} {b : Bool} {x : Int} (ha : a = x.natAbs) (hb : b = decide (x < 0)) : DV.agg [.list (digL a), .bool b] = numD x := by rw [ha, hb]; rfl
theorem blw_nums {x y : Int} : ∀ d ∈ [numD x, numD y], Blw 0 d := by
  intro d hd
  simp only [List.mem_cons, List.not_mem_nil, or_false] at hd
  rcases hd with rfl | rfl <;> exact blw_numD _
theorem plusN (x y : Int) (hx : x.natAbs < 65536 ^ 24) (hy : y.natAbs < 65536 ^ 24) : FnC Try.prog 82 [numD x, numD y] (· = numD (x + y)) := by
  refine FnC.mk Try.func82 rfl rfl (Nat.le_of_ble_eq_true rfl) blw_nums (by rintro _ rfl; exact blw_numD _) ?_
  refine joinK.direct ⟨fun h => ?_, fun h => join_go ?_⟩
  · have h : (decide (x < 0) == decide (y < 0)) = true := h
    refine drawK.mk (by kernel_rfl) ?_
    refine callE.mk (add x.natAbs y.natAbs) ?_
    refine fin_eq (.agg [.list _, .bool _]) rfl (num_eq ?_ ?_)
    all_goals (by_cases h1 : x < 0 <;> by_cases h2 : y < 0 <;> simp [h1, h2] at h ⊢ <;> omega)
  have h : (decide (x < 0) == decide (y < 0)) = false := h
  refine joinK.direct ?_
  refine callK.eq (below x.natAbs y.natAbs hx hy) ?_
  refine ⟨fun h2 => ?_, fun h2 => join_go ?_⟩
  · have h2 : x.natAbs < y.natAbs := of_decide_eq_true h2
    refine drawK.mk (by kernel_rfl) ?_
    refine callE.mk (take y.natAbs x.natAbs (by omega)) ?_
    refine fin_eq (.agg [.list _, .bool _]) rfl (num_eq ?_ ?_)
    all_goals (by_cases h1 : x < 0 <;> by_cases h2 : y < 0 <;> simp [h1, h2] at h ⊢ <;> omega)
  · have h2 : ¬ x.natAbs < y.natAbs := of_decide_eq_false h2
    refine callK.eq (take x.natAbs y.natAbs (by omega)) ?_
    refine guardK.spec ?_
    refine callE.mk (isZero (x.natAbs - y.natAbs) (by omega)) ?_
    refine fin_eq (.agg [.list _, .bool _]) rfl (num_eq ?_ ?_)
    · by_cases h1 : x < 0 <;> by_cases h2 : y < 0 <;> simp [h1, h2] at h ⊢ <;> omega
    · by_cases h1 : x < 0 <;> by_cases h2 : y < 0 <;> simp only [h1, h2, decide_true, decide_false, cond_true, cond_false, BEq.rfl, Bool.true_eq_false] at h ⊢
      · rw [Bool.eq_iff_iff]; simp; omega
      · rw [Bool.eq_iff_iff]; simp; omega

end Go.Proofs.Ytaddmokllmdngaa
end
section
namespace Go.Proofs.Ytaddmokllmdngaa
set_option linter.unusedSimpArgs false
set_option linter.unusedVariables false
open Go Go.Pv Go.RowKit
set_option maxRecDepth 10000

theorem and16 (x : Nat) (hx : x < 18446744073709551616) : (BitVec.ofInt 64 (x : Int) &&& BitVec.ofInt 64 65535).toNat = x % 65536 := by
  rw [BitVec.toNat_and]
  have : (BitVec.ofInt 64 (x : Int)).toNat = x := by rw [BitVec.ofInt_natCast, BitVec.toNat_ofNat]; exact Nat.mod_eq_of_lt hx
  rw [this]
  show x &&& 65535 = _
  exact Nat.and_two_pow_sub_one_eq_mod x 16
theorem fdiv_pow (v n : Nat) : (v : Int).fdiv (2 ^ n) = ((v / 2 ^ n : Nat) : Int) := by
  rw [Int.fdiv_eq_ediv_of_nonneg _ (Int.le_of_lt (Int.pow_pos (by decide)))]
  simp
theorem pow16 (i : Nat) : 65536 ^ i = 2 ^ (16 * i) := by rw [Nat.pow_mul]

theorem sig2 {x : Option PO} {els els' : List (List DV)} (h : els = els') : [x, some (PO.mk false 1 95 els)] = [x, some (PO.mk false 1 95 els')] := by rw [h]

theorem small (v : Nat) (hv : v < 18446744073709551616) : FnC Try.prog 53 [.int .u64 v] (· = numD v) := by
  refine FnC.mk Try.func53 rfl rfl (Nat.le_of_ble_eq_true rfl) (by simp) (by rintro _ rfl; exact blw_numD _) ?_
  refine callK.own zero ?_
  refine joinK.direct ?_
  refine loopK.use [0, 2, 3, 4] (fun i : Nat => [.int .u64 v, .pobj 0 0 0, .ref 1 0 24, .int .i64 i]) (fun i => [some ⟨false, 2, 90, [[.nils, .bool false]]⟩, some (objK v i)]) (fun i => i ≤ 4) (fun i => 4 - i) 0 (by decide)
    ⟨rfl, rfl, rfl, rfl, trivial⟩ (.inl ?_) ?_
  · show [some (PO.mk false 2 90 [[.nils, .bool false]]), some (objK 0 0)] = [some ⟨false, 2, 90, [[.nils, .bool false]]⟩, some (objK v 0)]
    unfold objK; rw [digK_zero' v]
  intro i hi
  refine joinK.direct ⟨fun h => join_go ?_, fun h => join_go ?_⟩
  · have h : i < 4 := by have := of_decide_eq_true h; omega
    have e1 : IntKind.i64.wrap (16 * (i : Int)) = ((16 * i : Nat) : Int) := by rw [IntKind.wrap_i64]; omega
    have e2 : IntKind.u64.wrap ((16 * i : Nat) : Int) = ((16 * i : Nat) : Int) := by rw [IntKind.wrap_u64]; omega
    refine ⟨by rw [IntKind.wrap_u64]; omega, by omega, by omega, optK.mk rfl ?_⟩
    refine optK.mk (digK_get' v i (i := i) (by omega) (show i < 24 by omega)) ?_
    refine loop_next (i + 1) (by omega) (by omega) ⟨rfl, rfl, rfl, int_eq ?_, trivial⟩ (.inl (sig2 (set_cell (by omega) ?_)))
    · rw [IntKind.wrap_i64]; omega
    · rw [e1, e2, show min ((16 * i : Nat) : Int).toNat IntKind.u64.bits = 16 * i from by rw [Int.toNat_natCast]; exact Nat.min_eq_left (by show 16 * i ≤ 64; omega), fdiv_pow]
      rw [show (BitVec.ofInt IntKind.u64.bits ((v / 2 ^ (16 * i) : Nat) : Int) &&& BitVec.ofInt IntKind.u64.bits 65535).toNat = v / 2 ^ (16 * i) % 65536 from and16 _ (Nat.lt_of_le_of_lt (Nat.div_le_self _ _) hv)]
      have h1 := digN_lt v i
      have h2 : v / 2 ^ (16 * i) % 65536 = digN v i := by unfold digN; rw [pow16]
      rw [h2, IntKind.wrap_u64, IntKind.wrap_u32]; omega
  · have h : i = 4 := by have := of_decide_eq_false h; omega
    subst h
    have hk : digK v 4 = digL v := by
      unfold digL digK
      refine List.map_congr_left fun i hi => ?_
      have hi : i < 24 := by simpa using hi
      have h24 : Nat.blt i 24 = true := Nat.ble_eq_true_of_le hi
      rw [h24]
      cases hb : Nat.blt i 4 with
      | true => rfl
      | false =>
        have h4 : 4 ≤ i := by
          rcases Nat.lt_or_ge i 4 with h | h
          · exact absurd (Nat.ble_eq_true_of_le h) (by rw [show Nat.ble (i + 1) 4 = false from hb]; simp)
          · exact h
        have : v / 65536 ^ i = 0 := Nat.div_eq_of_lt (Nat.lt_of_lt_of_le hv (Nat.le_trans (by decide) (Nat.pow_le_pow_right (by decide) h4)))
        simp [digN, this]
    refine .inr ⟨.agg [.list (digK v 4), .bool false], snap_agg ⟨snap_whole (po := objK v 4) rfl (by rw [show (objK v 4).els = digL v from hk]; exact blw_digL v), .pure _ (.bool _), trivial⟩, ?_⟩
    · rw [hk]; exact num_eq (by omega) (by simp)
end Go.Proofs.Ytaddmokllmdngaa
end
section
namespace Go.Proofs.Ytaddmokllmdngaa
set_option linter.unusedSimpArgs false
set_option linter.unusedVariables false
open Go Go.Pv Go.RowKit
set_option maxRecDepth 10000

def i64R (i : Int) : Prop := -9223372036854775808 ≤ i ∧ i ≤ 9223372036854775807
theorem intN (i : Int) (hi : i64R i) : FnC Try.prog 80 [.int .i64 i] (· = numD i) := by
  obtain ⟨h1, h2⟩ := hi
  refine FnC.mk Try.func80 rfl rfl (Nat.le_of_ble_eq_true rfl) (by simp) (by rintro _ rfl; exact blw_numD _) ?_
  refine joinK.direct ⟨fun h => ?_, fun h => join_go ?_⟩
  · have h : 0 ≤ i := of_decide_eq_true h
    have c := small i.toNat (by omega)
    rw [show ((i.toNat : Nat) : Int) = IntKind.u64.wrap i from by rw [IntKind.wrap_u64]; omega] at c
    refine callK.eq c ?_
    refine fin_eq (.agg [.list _, .bool _]) rfl ?_
    show numD (IntKind.u64.wrap i) = numD i
    rw [IntKind.wrap_u64, Int.emod_eq_of_lt (by omega) (by omega)]
  · have h : ¬ 0 ≤ i := of_decide_eq_false h
    have c := small (-i).toNat (by omega)
    rw [show (((-i).toNat : Nat) : Int) = IntKind.u64.wrap (IntKind.u64.wrap (IntKind.i64.wrap (0 - (IntKind.i64.wrap (i + 1)))) + 1) from by rw [IntKind.wrap_u64, IntKind.wrap_u64, IntKind.wrap_i64, IntKind.wrap_i64]; omega] at c
    have e : IntKind.u64.wrap (IntKind.u64.wrap (IntKind.i64.wrap (0 - (IntKind.i64.wrap (i + 1)))) + 1) = -i := by rw [IntKind.wrap_u64, IntKind.wrap_u64, IntKind.wrap_i64, IntKind.wrap_i64]; omega
    refine callK.eq c ?_
    refine fin_eq (.agg [.list _, .bool _]) rfl (num_eq ?_ ?_)
    · rw [e]; omega
    · simp; omega
end Go.Proofs.Ytaddmokllmdngaa
end
section
namespace Go.Proofs.Ytaddmokllmdngaa
set_option linter.unusedSimpArgs false
set_option linter.unusedVariables false
open Go Go.Pv Go.RowKit
set_option maxRecDepth 10000
set_option exponentiation.threshold 1000

theorem pow_split (i : Nat) : (2 : Nat) ^ i = 65536 ^ (i / 16) * 2 ^ (i % 16) := by
  rw [pow16, ← Nat.pow_add]; congr 1; omega
theorem bit_step (x i : Nat) : x % 2 ^ (i + 1) = x % 2 ^ i + (if x / 2 ^ i % 2 = 1 then 2 ^ i else 0) := by
  rw [Nat.pow_succ, Nat.mod_mul]
  have := Nat.mod_two_eq_zero_or_one (x / 2 ^ i)
  rcases this with h | h <;> simp [h]
theorem dig_low (m i : Nat) (hm : m < 2 ^ i) : m / 65536 ^ (i / 16) < 2 ^ (i % 16) := by
  rw [Nat.div_lt_iff_lt_mul (Nat.pow_pos (by decide)), Nat.mul_comm, ← pow_split]; exact hm
theorem dig_bit (m i : Nat) (hm : m < 2 ^ i) : digN (m + 2 ^ i) (i / 16) = (digN m (i / 16) ||| 2 ^ (i % 16)) ∧ digN m (i / 16) < 2 ^ (i % 16) := by
  have hr : 2 ^ (i % 16) ≤ 2 ^ 15 := Nat.pow_le_pow_right (by decide) (by omega)
  have h1 := dig_low m i hm
  have hd : digN m (i / 16) = m / 65536 ^ (i / 16) := Nat.mod_eq_of_lt (by omega)
  refine ⟨?_, by rw [hd]; exact h1⟩
  rw [hd]
  unfold digN
  rw [pow_split i, Nat.add_mul_div_left _ _ (Nat.pow_pos (by decide))]
  have := Nat.two_pow_add_eq_or_of_lt h1 1
  rw [Nat.mul_one] at this
  rw [Nat.or_comm, ← this, Nat.mod_eq_of_lt (by omega)]; omega
theorem dig_other (m i j : Nat) (hm : m < 2 ^ i) (hj : j ≠ i / 16) : digN (m + 2 ^ i) j = digN m j := by
  unfold digN
  rcases Nat.lt_or_ge j (i / 16) with h | h
  · obtain ⟨c, hc⟩ : ∃ c, i / 16 = j + 1 + c := ⟨i / 16 - (j + 1), by omega⟩
    rw [pow_split i, hc, Nat.pow_add, Nat.pow_succ, Nat.mul_assoc, Nat.mul_assoc, Nat.add_mul_div_left _ _ (Nat.pow_pos (by decide)), Nat.add_mul_mod_self_left]
  · have h1 : 2 ^ (i + 1) ≤ 65536 ^ j := by rw [pow16]; exact Nat.pow_le_pow_right (by decide) (by omega)
    rw [Nat.pow_succ] at h1
    rw [Nat.div_eq_of_lt (by omega), Nat.div_eq_of_lt (by omega)]
theorem digL_set (m i : Nat) (hm : m < 2 ^ i) : (digL m).set (i / 16) (cell32 (digN m (i / 16) ||| 2 ^ (i % 16))) = digL (m + 2 ^ i) := by
  apply List.ext_getElem?
  intro j
  by_cases hj : j < 24
  · rw [List.getElem?_set]
    by_cases hjk : i / 16 = j
    · subst hjk
      rw [if_pos rfl, if_pos (by rw [digL_len]; omega), digL_get (m + 2 ^ i) _ hj, (dig_bit m i hm).1]
    · rw [if_neg hjk, digL_get m j hj, digL_get (m + 2 ^ i) j hj, dig_other m i j hm (by omega)]
  · rw [List.getElem?_eq_none (by simp [digL_len]; omega), List.getElem?_eq_none (by simp [digL_len]; omega)]

theorem and1 (x : Nat) (hx : x < 4294967296) : (BitVec.ofInt 32 (x : Int) &&& BitVec.ofInt 32 1).toNat = x % 2 := by
  rw [BitVec.toNat_and]
  have : (BitVec.ofInt 32 (x : Int)).toNat = x := by rw [BitVec.ofInt_natCast, BitVec.toNat_ofNat]; exact Nat.mod_eq_of_lt hx
  rw [this]
  show x &&& 1 = _
  exact Nat.and_two_pow_sub_one_eq_mod x 1
theorem or32 (x y : Nat) (hx : x < 4294967296) (hy : y < 4294967296) : (BitVec.ofInt 32 (x : Int) ||| BitVec.ofInt 32 (y : Int)).toNat = (x ||| y) := by
  rw [BitVec.toNat_or, BitVec.ofInt_natCast, BitVec.toNat_ofNat, BitVec.ofInt_natCast, BitVec.toNat_ofNat, Nat.mod_eq_of_lt hx, Nat.mod_eq_of_lt hy]

theorem bit_dig (a n : Nat) : digN a (n / 16) / 2 ^ (n % 16) % 2 = a / 2 ^ n % 2 := by
  have h : ∀ x i : Nat, x / 2 ^ i % 2 = (Nat.testBit x i).toNat := by
    intro x i
    rw [Nat.testBit_eq_decide_div_mod_eq]
    rcases Nat.mod_two_eq_zero_or_one (x / 2 ^ i) with h | h <;> simp [h]
  rw [h, h]
  unfold digN
  rw [show (65536 : Nat) = 2 ^ 16 from rfl, Nat.testBit_mod_two_pow, ← Nat.pow_mul, Nat.testBit_div_two_pow]
  have h1 : n % 16 < 16 := Nat.mod_lt _ (by decide)
  have h2 : n % 16 + 16 * (n / 16) = n := by omega
  simp [h1, h2, Nat.add_comm]
theorem bit_val (a n : Nat) : IntKind.u32.wrap ((BitVec.ofInt IntKind.u32.bits ((digN a (n / 16) : Int).fdiv (2 ^ min (IntKind.u64.wrap ((n : Int).tmod 16)).toNat IntKind.u32.bits)) &&& BitVec.ofInt IntKind.u32.bits 1).toNat : Int) = ((a / 2 ^ n % 2 : Nat) : Int) := by
  have h1 : n % 16 < 16 := Nat.mod_lt _ (by decide)
  rw [show (n : Int).tmod 16 = ((n % 16 : Nat) : Int) from rfl, show IntKind.u64.wrap ((n % 16 : Nat) : Int) = ((n % 16 : Nat) : Int) from by rw [IntKind.wrap_u64]; omega,
    Int.toNat_natCast, show min (n % 16) IntKind.u32.bits = n % 16 from Nat.min_eq_left (by show n % 16 ≤ 32; omega), fdiv_pow]
  have hd := digN_lt a (n / 16)
  have h2 : digN a (n / 16) / 2 ^ (n % 16) < 4294967296 := Nat.lt_of_le_of_lt (Nat.div_le_self _ _) (by omega)
  rw [show (BitVec.ofInt IntKind.u32.bits ((digN a (n / 16) / 2 ^ (n % 16) : Nat) : Int) &&& BitVec.ofInt IntKind.u32.bits 1).toNat = _ from and1 _ h2, bit_dig, IntKind.wrap_u32]
  omega
theorem or_val (x i : Nat) (hx : x < 65536) : IntKind.u32.wrap ((BitVec.ofInt IntKind.u32.bits (x : Int) ||| BitVec.ofInt IntKind.u32.bits (IntKind.u32.wrap (1 * 2 ^ min (IntKind.u64.wrap ((i : Int).tmod 16)).toNat IntKind.u32.bits))).toNat : Int) = ((x ||| 2 ^ (i % 16) : Nat) : Int) := by
  have h1 : i % 16 < 16 := Nat.mod_lt _ (by decide)
  have h2 : 2 ^ (i % 16) ≤ 2 ^ 15 := Nat.pow_le_pow_right (by decide) (by omega)
  have h3 : (x ||| 2 ^ (i % 16)) < 2 ^ 16 := Nat.or_lt_two_pow (by omega) (by omega)
  rw [show (i : Int).tmod 16 = ((i % 16 : Nat) : Int) from rfl, show IntKind.u64.wrap ((i % 16 : Nat) : Int) = ((i % 16 : Nat) : Int) from by rw [IntKind.wrap_u64]; omega,
    Int.toNat_natCast, show min (i % 16) IntKind.u32.bits = i % 16 from Nat.min_eq_left (by show i % 16 ≤ 32; omega),
    show (1 : Int) * 2 ^ (i % 16) = ((2 ^ (i % 16) : Nat) : Int) from by rw [Int.one_mul, Int.natCast_pow]; rfl, show IntKind.u32.wrap ((2 ^ (i % 16) : Nat) : Int) = ((2 ^ (i % 16) : Nat) : Int) from by generalize 2 ^ (i % 16) = y at *; rw [IntKind.wrap_u32]; omega,
    show (BitVec.ofInt IntKind.u32.bits (x : Int) ||| BitVec.ofInt IntKind.u32.bits ((2 ^ (i % 16) : Nat) : Int)).toNat = _ from or32 x (2 ^ (i % 16)) (by omega) (by omega), IntKind.wrap_u32]
  omega
theorem sh_div (a k i : Nat) (h : k ≤ i) : a * 2 ^ k / 2 ^ i = a / 2 ^ (i - k) := by
  have : 2 ^ i = 2 ^ (i - k) * 2 ^ k := by rw [← Nat.pow_add]; congr 1; omega
  rw [this, Nat.mul_div_mul_right _ _ (Nat.pow_pos (by decide))]
theorem sh_low (a k i : Nat) (h : i < k) : a * 2 ^ k / 2 ^ i % 2 = 0 := by
  have : 2 ^ k = 2 ^ i * (2 * 2 ^ (k - i - 1)) := by rw [← Nat.mul_assoc, ← Nat.pow_succ, ← Nat.pow_add]; congr 1; omega
  rw [this, Nat.mul_left_comm, Nat.mul_div_cancel_left _ (Nat.pow_pos (by decide)), Nat.mul_left_comm, Nat.mul_mod_right]

theorem set_digL {m m' i j : Nat} {v : Int} (hj : j = i / 16) (hm : m < 2 ^ i) (hm' : m' = m + 2 ^ i) (hv : v = (digN m (i / 16) ||| 2 ^ (i % 16) : Nat)) : (digL m).set j [.int .u32 v] = digL m' := by
  rw [hj, hv, hm']; exact digL_set m i hm
theorem shifted (a k : Nat) (hk : k < 1000000) : FnC Try.prog 81 [.list (digL a), .int .i64 k] (· = .list (digL (a * 2 ^ k % 2 ^ 384))) := by
  refine FnC.mk Try.func81 rfl rfl (Nat.le_of_ble_eq_true rfl) ?_ (by rintro _ rfl; simpa using blw_digL _) ?_
  · intro d hd
    simp at hd
    rcases hd with rfl | rfl
    · simpa using blw_digL _
    · simp
  refine callK.own zero ?_
  refine joinK.direct ?_
  refine loopK.use [0, 1, 5, 6] (fun i : Nat => [.list (digL a), .int .i64 k, .ref 0 0 24, .int .i64 i]) (fun i => [some ⟨false, 1, 95, digL (a * 2 ^ k % 2 ^ i)⟩]) (fun i => i ≤ 384) (fun i => 384 - i) 0 (by decide)
    ⟨rfl, rfl, rfl, rfl, trivial⟩ (.inl ?_) ?_
  · show [some (PO.mk false 1 95 (digK 0 0))] = _
    rw [show digK 0 0 = digL (a * 2 ^ k % 2 ^ 0) from by rw [show a * 2 ^ k % 2 ^ 0 = 0 from by rw [Nat.pow_zero]; exact Nat.mod_one _]; rfl]
  intro i hi
  refine joinK.direct ⟨fun h => join_go ?_, fun h => join_go ?_⟩
  · have h : i < 384 := by have := of_decide_eq_true h; omega
    refine joinK.direct ?_
    refine guardK.split ?_
    refine ⟨fun hge => ?_, fun hlt => ?_⟩
    · have hge : k ≤ i := by have := of_decide_eq_true hge; omega
      have e1 : IntKind.i64.wrap ((i : Int) - (k : Int)) = ((i - k : Nat) : Int) := by rw [IntKind.wrap_i64]; omega
      have e2 : IntKind.i64.wrap (((i - k : Nat) : Int).tdiv 16) = (((i - k) / 16 : Nat) : Int) := by
        rw [show ((i - k : Nat) : Int).tdiv 16 = (((i - k) / 16 : Nat) : Int) from rfl, IntKind.wrap_i64]; omega
      refine ⟨rfl, by decide, by rw [e1, e2]; omega, by rw [e1, e2, digL_len]; omega, optK.mk (by rw [e1, e2, Int.toNat_natCast]; exact digL_get a _ (by omega)) ?_⟩
      refine ⟨rfl, by decide, by rw [IntKind.wrap_u64]; omega, ?_⟩
      have hv := bit_val a (i - k)
      rw [← e1] at hv
      have hx : a * 2 ^ k / 2 ^ i = a / 2 ^ (i - k) := sh_div a k i hge
      have hstep := bit_step (a * 2 ^ k) i
      rw [hx] at hstep
      have hmlt : a * 2 ^ k % 2 ^ i < 2 ^ i := Nat.mod_lt _ (Nat.pow_pos (by decide))
      refine ⟨fun hbit => ?_, fun hbit => join_go ?_⟩
      · have hb : a / 2 ^ (i - k) % 2 = 1 := by
          have hbit : (IntKind.u32.wrap ((BitVec.ofInt IntKind.u32.bits ((digN a ((i - k) / 16) : Int).fdiv (2 ^ min (IntKind.u64.wrap ((IntKind.i64.wrap ((i : Int) - (k : Int))).tmod 16)).toNat IntKind.u32.bits)) &&& BitVec.ofInt IntKind.u32.bits 1).toNat : Int) == 1) = true := hbit
          rw [hv] at hbit
          have := beq_iff_eq.1 hbit; omega
        rw [if_pos hb] at hstep
        have e3 : IntKind.i64.wrap ((i : Int).tdiv 16) = ((i / 16 : Nat) : Int) := by
          rw [show (i : Int).tdiv 16 = ((i / 16 : Nat) : Int) from rfl, IntKind.wrap_i64]; omega
        refine ⟨rfl, by decide, rfl, by decide, by rw [e3]; omega, by rw [e3]; omega, optK.mk rfl ?_⟩
        refine optK.mk (by rw [e3, Int.toNat_natCast, Nat.zero_add]; exact digL_get _ (i / 16) (by omega)) ?_
        refine ⟨rfl, by decide, by rw [IntKind.wrap_u64]; omega, by rw [e3]; omega, by rw [e3]; omega, optK.mk rfl ?_⟩
        refine optK.mk (by rw [e3, Int.toNat_natCast, Nat.zero_add]; exact digL_get _ (i / 16) (by omega)) ?_
        refine join_go (loop_next (i + 1) (by omega) (by omega) ⟨rfl, rfl, rfl, int_eq ?_, trivial⟩ (.inl (sig1 (set_digL (i := i) ?_ hmlt hstep ?_))))
        · rw [IntKind.wrap_i64]; omega
        · rw [e3]; omega
        · exact or_val _ i (digN_lt _ _)
      · have hb : a / 2 ^ (i - k) % 2 ≠ 1 := by
          have hbit : (IntKind.u32.wrap ((BitVec.ofInt IntKind.u32.bits ((digN a ((i - k) / 16) : Int).fdiv (2 ^ min (IntKind.u64.wrap ((IntKind.i64.wrap ((i : Int) - (k : Int))).tmod 16)).toNat IntKind.u32.bits)) &&& BitVec.ofInt IntKind.u32.bits 1).toNat : Int) == 1) = false := hbit
          rw [hv] at hbit
          intro e; rw [e] at hbit; exact absurd hbit (by decide)
        rw [if_neg hb] at hstep
        refine loop_next (i + 1) (by omega) (by omega) ⟨rfl, rfl, rfl, int_eq ?_, trivial⟩ (.inl ?_)
        · rw [IntKind.wrap_i64]; omega
        · show [some (PO.mk false 1 95 (digL (a * 2 ^ k % 2 ^ i)))] = _
          rw [hstep, Nat.add_zero]
    · have hlt : i < k := by have : decide ((i : Int) ≥ (k : Int)) = false := hlt
                             have := of_decide_eq_false this; omega
      have hstep := bit_step (a * 2 ^ k) i
      rw [if_neg (by rw [sh_low a k i hlt]; decide)] at hstep
      refine ⟨fun hbit => (by cases hbit), fun hbit => join_go ?_⟩
      refine loop_next (i + 1) (by omega) (by omega) ⟨rfl, rfl, rfl, int_eq ?_, trivial⟩ (.inl ?_)
      · rw [IntKind.wrap_i64]; omega
      · show [some (PO.mk false 1 95 (digL (a * 2 ^ k % 2 ^ i)))] = _
        rw [hstep, Nat.add_zero]
  · have h : i = 384 := by have := of_decide_eq_false h; omega
    subst h
    exact .inr ⟨_, snap_whole (po := ⟨false, 1, 95, digL (a * 2 ^ k % 2 ^ 384)⟩) rfl (blw_digL _), rfl⟩
end Go.Proofs.Ytaddmokllmdngaa
end
section
namespace Go.Proofs.Ytaddmokllmdngaa
set_option linter.unusedSimpArgs false
set_option linter.unusedVariables false
open Go Go.Pv Go.RowKit
set_option maxRecDepth 10000
set_option exponentiation.threshold 1000

theorem ofN (a : Int) (b : Nat) (ha : i64R a) (hb : b < 18446744073709551616) : FnC Try.prog 52 [.int .i64 a, .int .u64 b] (· = numD (a * 18446744073709551616 + b)) := by
  refine FnC.mk Try.func52 rfl rfl (Nat.le_of_ble_eq_true rfl) (by simp) (by rintro _ rfl; exact blw_numD _) ?_
  obtain ⟨h1, h2⟩ := ha
  refine callK.eq (intN a ⟨h1, h2⟩) ?_
  refine callK.eq (shifted a.natAbs 64 (by decide)) ?_
  refine drawK.mk (by kernel_rfl) ?_
  refine callE.mk (small b hb) ?_
  have e : DV.agg [.list (digL (a.natAbs * 2 ^ 64 % 2 ^ 384)), .bool (decide (a < 0))] = numD (a * 18446744073709551616) := by
    refine num_eq ?_ ?_
    · rw [Nat.mod_eq_of_lt (by omega)]; omega
    · rw [decide_eq_decide]; omega
  have c := plusN (a * 18446744073709551616) b (by omega) (by omega)
  rw [← e] at c
  refine callE.mk c ?_
  exact fin_eq (.agg [.list _, .bool _]) rfl rfl
end Go.Proofs.Ytaddmokllmdngaa
end
section
namespace Go.Proofs.Ytaddmokllmdngaa
set_option linter.unusedSimpArgs false
set_option linter.unusedVariables false
open Go Go.Pv Go.RowKit
set_option maxRecDepth 10000
set_option exponentiation.threshold 1000

def numC (x : Int) : List DV := [.list (digL x.natAbs), .bool (decide (x < 0))]
def numPO (cs : List DV) : Option PO := some ⟨false, 2, 90, [cs]⟩
end Go.Proofs.Ytaddmokllmdngaa
end
section
namespace Go.Proofs.Ytaddmokllmdngaa
set_option linter.unusedSimpArgs false
set_option linter.unusedVariables false
open Go Go.Pv Go.RowKit
set_option maxRecDepth 10000
set_option exponentiation.threshold 1000

/-- A number modulo 2^128 as a wide has it. -/
def hiW (x : Int) : Int := IntKind.i64.wrap (x / 18446744073709551616)
def loW (x : Int) : Int := x % 18446744073709551616

theorem int2 {k k' : IntKind} {x x' y y' : Int} (h : x = x') (h' : y = y') : DV.tup [.int k x, .int k' y] = .tup [.int k x', .int k' y'] := by rw [h, h']

end Go.Proofs.Ytaddmokllmdngaa
end
section
namespace Go.Proofs.Ytaddmokllmdngaa
set_option linter.unusedSimpArgs false
set_option linter.unusedVariables false
open Go Go.Pv Go.RowKit
set_option maxRecDepth 10000
set_option exponentiation.threshold 1000

theorem three {h : Hp} {β : Nat → Bl} {vs : Array Value} {k : IntKind} {x y z : Int} (hs : vs.size = 3) (hr : ∀ (i : Nat) (v : Value) (d : DV), vs[i]? = some v → [DV.int k x, .int k y, .int k z][i]? = some d → Rep h β v d) :
    vs = #[.int k x, .int k y, .int k z] := by
  have e : ∀ (i : Nat) d v, [DV.int k x, .int k y, .int k z][i]? = some d → toV d = some v → vs[i]? = some v := by
    intro i d v e1 e2
    have hlt : i < vs.size := by have := (List.getElem?_eq_some_iff.1 e1).1; simp at this; omega
    have r := hr i _ d (Array.getElem?_eq_getElem hlt) e1
    rw [Array.getElem?_eq_getElem hlt, rep_toV e2 r]
  apply Array.ext_getElem?
  intro i
  match i with
  | 0 => exact e 0 _ _ rfl rfl
  | 1 => exact e 1 _ _ rfl rfl
  | 2 => exact e 2 _ _ rfl rfl
  | i + 3 => rw [Array.getElem?_eq_none (by omega)]; simp
theorem rep_pair {h : Hp} {β : Nat → Bl} {x y : Int} : Rep h β (.tuple #[.int .u64 x, .int .u64 y]) (.tup [.int .u64 x, .int .u64 y]) := by
  refine .tup _ _ rfl fun i v d e1 e2 => ?_
  match i with
  | 0 => simp at e1 e2; subst e1; subst e2; exact .int _ _
  | 1 => simp at e1 e2; subst e1; subst e2; exact .int _ _
  | i + 2 => simp at e2

theorem add64 (x y c : Int) (hx : 0 ≤ x) (hy : 0 ≤ y) (hc0 : 0 ≤ c) (hc : c ≤ 1) :
    FnC Try.prog 45 [.int .u64 x, .int .u64 y, .int .u64 c] (· = .tup [.int .u64 ((x + y + c) % 18446744073709551616), .int .u64 ((x + y + c) / 18446744073709551616)]) :=
  FnC.ext (by simp) (by rintro _ rfl; simp) fun vs h w hs hr => by
    obtain rfl := three hs hr
    refine ⟨.tuple #[.int .u64 ((x + y + c) % 18446744073709551616), .int .u64 ((x + y + c) / 18446744073709551616)], _, ?_, rep_pair, rfl⟩
    rw [run_callFunc_extern Try.func45 (by kernel_rfl) (by kernel_rfl) (by kernel_rfl) (e := add64Entry) (by kernel_rfl), run_add64 x y c hx hy hc0 hc]; rfl

def sub64Entry : Array Value → Sem Value := fun args => do
  let (x, y, b) ← Extern.MathBitsCarry.three "Sub64" args
  pure (Extern.MathBitsCarry.pair ((x + Extern.MathBitsCarry.m64 - y - b) % Extern.MathBitsCarry.m64) (if x < y + b then 1 else 0))
theorem run_sub64 {P : Program} (x y c : Nat) (hx : x < 18446744073709551616) (hy : y < 18446744073709551616) (hc : c ≤ 1) (w : World) :
    (sub64Entry #[.int .u64 x, .int .u64 y, .int .u64 c]).run P w =
      .ok (.tuple #[.int .u64 (((x : Int) - y - c) % 18446744073709551616), .int .u64 (if (x : Int) < y + c then 1 else 0)]) w := by
  have key : (sub64Entry #[.int .u64 x, .int .u64 y, .int .u64 c]).run P w = .ok (Extern.MathBitsCarry.pair ((x + Extern.MathBitsCarry.m64 - y - c) % Extern.MathBitsCarry.m64) (if x < y + c then 1 else 0)) w := by
    have : c = 0 ∨ c = 1 := by omega
    rcases this with rfl | rfl <;> rfl
  rw [key]
  simp only [Extern.MathBitsCarry.pair, Extern.MathBitsCarry.m64]
  have e1 : Int.ofNat ((x + 2 ^ 64 - y - c) % 2 ^ 64) = ((x : Int) - y - c) % 18446744073709551616 := by
    show (((x + 2 ^ 64 - y - c) % 2 ^ 64 : Nat) : Int) = _
    omega
  have e2 : Int.ofNat (if x < y + c then 1 else 0) = (if (x : Int) < y + c then 1 else 0) := by
    by_cases h : x < y + c
    · rw [if_pos h, if_pos (by omega)]; rfl
    · rw [if_neg h, if_neg (by omega)]; rfl
  rw [e1, e2]
theorem sub64 (x y c : Int) (hx : 0 ≤ x) (hx' : x < 18446744073709551616) (hy : 0 ≤ y) (hy' : y < 18446744073709551616) (hc0 : 0 ≤ c) (hc : c ≤ 1) :
    FnC Try.prog 94 [.int .u64 x, .int .u64 y, .int .u64 c] (· = .tup [.int .u64 ((x - y - c) % 18446744073709551616), .int .u64 (if x < y + c then 1 else 0)]) :=
  FnC.ext (by simp) (by rintro _ rfl; simp) fun vs h w hs hr => by
    obtain rfl := three hs hr
    obtain ⟨X, rfl⟩ := Int.eq_ofNat_of_zero_le hx
    obtain ⟨Y, rfl⟩ := Int.eq_ofNat_of_zero_le hy
    obtain ⟨c, rfl⟩ := Int.eq_ofNat_of_zero_le hc0
    refine ⟨_, _, ?_, rep_pair, rfl⟩
    rw [run_callFunc_extern Try.func94 (by kernel_rfl) (by kernel_rfl) (by kernel_rfl) (e := sub64Entry) (by kernel_rfl), run_sub64 X Y c (by omega) (by omega) (by omega)]; rfl

def wideD (x : Int) : DV := .agg [.int .i64 (hiW x), .int .u64 (loW x)]
theorem blw_wideD (x : Int) {m : Nat} : Blw m (wideD x) := by unfold wideD; simp
theorem agg2 {k k' : IntKind} {x x' y y' : Int} (h : x = x') (h' : y = y') : DV.agg [.int k x, .int k' y] = .agg [.int k x', .int k' y'] := by rw [h, h']
theorem wrap_u64_nn (x : Int) : 0 ≤ IntKind.u64.wrap x ∧ IntKind.u64.wrap x < 18446744073709551616 := by rw [IntKind.wrap_u64]; omega
theorem loW_nn (x : Int) : 0 ≤ loW x ∧ loW x < 18446744073709551616 := by unfold loW; omega
theorem blw_wide1 {x : Int} : ∀ d ∈ [wideD x], Blw 0 d := by
  intro d hd
  simp only [List.mem_cons, List.not_mem_nil, or_false] at hd
  subst hd; exact blw_wideD _
theorem blw_wide2 {x y : Int} : ∀ d ∈ [wideD x, wideD y], Blw 0 d := by
  intro d hd
  simp only [List.mem_cons, List.not_mem_nil, or_false] at hd
  rcases hd with rfl | rfl <;> exact blw_wideD _

theorem plusW (x y : Int) : FnC Try.prog 29 [wideD x, wideD y] (· = wideD (x + y)) := by
  refine FnC.mk Try.func29 rfl rfl (Nat.le_of_ble_eq_true rfl) blw_wide2 (by rintro _ rfl; exact blw_wideD _) ?_
  have hx := loW_nn x
  have hy := loW_nn y
  refine callK.eq (add64 (loW x) (loW y) 0 hx.1 hy.1 (by decide) (by decide)) ?_
  refine callK.eq (add64 _ _ _ (wrap_u64_nn _).1 (wrap_u64_nn _).1 (by omega) (by omega)) ?_
  refine fin_eq (.agg [.int _ _, .int _ _]) rfl (agg2 ?_ ?_)
  · unfold hiW loW
    rw [IntKind.wrap_i64, IntKind.wrap_i64, IntKind.wrap_i64, IntKind.wrap_i64, IntKind.wrap_u64, IntKind.wrap_u64]
    omega
  · unfold loW; omega

theorem minusW (x y : Int) : FnC Try.prog 83 [wideD x, wideD y] (· = wideD (x - y)) := by
  refine FnC.mk Try.func83 rfl rfl (Nat.le_of_ble_eq_true rfl) blw_wide2 (by rintro _ rfl; exact blw_wideD _) ?_
  have hx := loW_nn x
  have hy := loW_nn y
  refine callK.eq (sub64 (loW x) (loW y) 0 hx.1 hx.2 hy.1 hy.2 (by decide) (by decide)) ?_
  refine callK.eq (sub64 _ _ _ (wrap_u64_nn _).1 (wrap_u64_nn _).2 (wrap_u64_nn _).1 (wrap_u64_nn _).2 (by split <;> decide) (by split <;> decide)) ?_
  refine fin_eq (.agg [.int _ _, .int _ _]) rfl (agg2 ?_ ?_)
  · unfold hiW loW
    rw [IntKind.wrap_i64, IntKind.wrap_i64, IntKind.wrap_i64, IntKind.wrap_i64, IntKind.wrap_u64, IntKind.wrap_u64]
    split <;> omega
  · unfold loW; omega

theorem fdiv63 (i : Int) (hi : i64R i) : i.fdiv (2 ^ min (63 : Int).toNat IntKind.i64.bits) = if i < 0 then -1 else 0 := by
  obtain ⟨h1, h2⟩ := hi
  rw [show min (63 : Int).toNat IntKind.i64.bits = 63 from rfl, Int.fdiv_eq_ediv_of_nonneg _ (by decide)]
  split <;> omega
def in128 (x : Int) : Prop := -170141183460469231731687303715884105728 ≤ x ∧ x < 170141183460469231731687303715884105728
theorem hi_in {x : Int} (h : in128 x) : hiW x = x / 18446744073709551616 := by
  obtain ⟨h1, h2⟩ := h
  unfold hiW; rw [IntKind.wrap_i64]; omega
def isI64 (x : Int) : Bool := decide (-9223372036854775808 ≤ x) && decide (x ≤ 9223372036854775807)
theorem intW (x : Int) (hx : in128 x) : FnC Try.prog 37 [wideD x] (· = .tup [.int .i64 (if isI64 x then x else 0), .bool (isI64 x)]) := by
  refine FnC.mk Try.func37 rfl rfl (Nat.le_of_ble_eq_true rfl) blw_wide1 (by rintro _ rfl; simp) ?_
  refine joinK.direct ?_
  refine ⟨by decide, ?_⟩
  have hw : i64R (IntKind.i64.wrap (loW x)) := by unfold i64R; rw [IntKind.wrap_i64]; omega
  have hf := fdiv63 _ hw
  have hh := hi_in hx
  obtain ⟨h1, h2⟩ := hx
  refine ⟨fun h => ?_, fun h => join_go ?_⟩
  · have h : (hiW x != (IntKind.i64.wrap (loW x)).fdiv (2 ^ min (63 : Int).toNat IntKind.i64.bits)) = true := h
    have hn : isI64 x = false := by
      rw [hf, hh] at h
      rw [Bool.eq_false_iff]
      intro hi
      unfold isI64 at hi
      simp at hi
      simp at h
      apply h
      unfold loW
      rw [IntKind.wrap_i64]
      split <;> omega
    exact fin_eq (.tup [.int _ _, .bool _]) rfl (by rw [hn]; rfl)
  · have h : (hiW x != (IntKind.i64.wrap (loW x)).fdiv (2 ^ min (63 : Int).toNat IntKind.i64.bits)) = false := h
    rw [hf, hh] at h
    have h : x / 18446744073709551616 = (if IntKind.i64.wrap (loW x) < 0 then -1 else 0) := by simpa using h
    have hn : isI64 x = true := by
      unfold isI64
      unfold loW at h
      rw [IntKind.wrap_i64] at h
      simp
      split at h <;> omega
    refine fin_eq (.tup [.int _ _, .bool _]) rfl ?_
    rw [hn]
    have : IntKind.i64.wrap (loW x) = x := by
      unfold loW at h ⊢
      rw [IntKind.wrap_i64] at h ⊢
      split at h <;> omega
    show DV.tup [.int .i64 (IntKind.i64.wrap (loW x)), .bool true] = .tup [.int .i64 x, .bool true]
    rw [this]
end Go.Proofs.Ytaddmokllmdngaa
end
section
namespace Go.Proofs.Ytaddmokllmdngaa
set_option linter.unusedSimpArgs false
set_option linter.unusedVariables false
open Go Go.Pv Go.RowKit
set_option maxRecDepth 10000
set_option exponentiation.threshold 1000

theorem sizeW (x : Int) (hx : in128 x) : FnC Try.prog 60 [wideD x] (· = .tup [.int .u64 (x.natAbs / 18446744073709551616 : Nat), .int .u64 (x.natAbs % 18446744073709551616 : Nat)]) := by
  refine FnC.mk Try.func60 rfl rfl (Nat.le_of_ble_eq_true rfl) blw_wide1 (by rintro _ rfl; simp) ?_
  have ex := hi_in hx
  obtain ⟨h1, h2⟩ := hx
  refine joinK.direct ⟨fun h => ?_, fun h => join_go ?_⟩
  · have h : hiW x < 0 := of_decide_eq_true h
    have c := minusW 0 x
    rw [show wideD 0 = .agg [.int .i64 0, .int .u64 0] from by unfold wideD hiW loW; rw [IntKind.wrap_i64]; rfl] at c
    refine callK.eq c (join_go ?_)
    refine drawK.mk (by kernel_rfl) ?_
    refine fin_eq (.tup [.int _ _, .int _ _]) rfl (int2 ?_ ?_)
    · unfold hiW
      rw [IntKind.wrap_i64, IntKind.wrap_u64]
      omega
    · unfold loW; omega
  · have h : ¬ hiW x < 0 := of_decide_eq_false h
    refine drawK.mk (by kernel_rfl) ?_
    refine fin_eq (.tup [.int _ _, .int _ _]) rfl (int2 ?_ ?_)
    · rw [ex, IntKind.wrap_u64]
      omega
    · unfold loW; omega

def wideC (x : Int) : List DV := [.int .i64 (hiW x), .int .u64 (loW x)]
def widePO (cs : List DV) : Option PO := some ⟨false, 2, 33, [cs]⟩
end Go.Proofs.Ytaddmokllmdngaa
end
section
namespace Go.Proofs.Ytaddmokllmdngaa
set_option linter.unusedSimpArgs false
set_option linter.unusedVariables false
open Go Go.Pv Go.RowKit
set_option maxRecDepth 10000
set_option exponentiation.threshold 1000

def tab8 : ByteArray := ⟨((List.range 256).map fun n => (bitLen n).toUInt8).toArray⟩
theorem tab8_get {s : ByteArray} (h : s = tab8) (i : Nat) (hi : i < 256) : s[i]? = some (bitLen i).toUInt8 := by
  subst h
  have all : ∀ j : Fin 256, tab8[j.val]? = some (bitLen j.val).toUInt8 := by decide +kernel
  exact all ⟨i, hi⟩

theorem bitLen_part (x b : Nat) (h : 2 ^ b ≤ x) : bitLen x = b + bitLen (x / 2 ^ b) :=
  bitLen_shift x b (Nat.ne_of_gt (Nat.div_pos h (Nat.pow_pos (by decide))))

theorem fdiv_lit (x : Nat) (k : Nat) (hk : k ≤ 64) : (x : Int).fdiv (2 ^ min (k : Int).toNat IntKind.u64.bits) = ((x / 2 ^ k : Nat) : Int) := by
  rw [Int.toNat_natCast, show min k IntKind.u64.bits = k from Nat.min_eq_left hk, fdiv_pow]

theorem len64 (x : Nat) (hx : x < 18446744073709551616) : FnC Try.prog 62 [.int .u64 x] (· = .int .i64 (bitLen x)) := by
  refine FnC.mk Try.func62 rfl rfl (Nat.le_of_ble_eq_true rfl) (by simp) (by rintro _ rfl; simp) ?_
  refine joinK.use [0, 2] (fun s : Nat × Nat => [.int .u64 s.1, .int .i64 s.2]) (fun _ => []) (fun s => bitLen x = s.2 + bitLen s.1 ∧ s.1 < 4294967296 ∧ s.2 ≤ 32) ?_ ?_
  · refine ⟨fun h => ?_, fun h => ?_⟩
    · have h : 4294967296 ≤ x := by have := of_decide_eq_true h; omega
      refine ⟨by decide, ?_⟩
      exact join_at (x / 4294967296, 32) ⟨bitLen_part x 32 h, by simp; omega, by simp⟩ ⟨int_eq (fdiv_lit x 32 (by decide)), rfl, trivial⟩ (.inl rfl)
    · have h : x < 4294967296 := by have := of_decide_eq_false h; omega
      exact join_at (x, 0) ⟨by simp, h, by simp⟩ ⟨rfl, rfl, trivial⟩ (.inl rfl)
  rintro ⟨y, n⟩ ⟨h1, h2, h3⟩
  simp only at h1 h2 h3
  refine joinK.use [0, 2] (fun s : Nat × Nat => [.int .u64 s.1, .int .i64 s.2]) (fun _ => []) (fun s => bitLen x = s.2 + bitLen s.1 ∧ s.1 < 65536 ∧ s.2 ≤ 48) ?_ ?_
  · refine ⟨fun h => ?_, fun h => ?_⟩
    · have h : 65536 ≤ y := by have h : decide ((y : Int) ≥ 65536) = true := h
                               have := of_decide_eq_true h; omega
      refine ⟨by decide, ?_⟩
      refine join_at (y / 65536, n + 16) ⟨by rw [h1, bitLen_part y 16 h]; simp; omega, by simp; omega, by simp; omega⟩ ⟨int_eq (fdiv_lit y 16 (by decide)), int_eq ?_, trivial⟩ (.inl rfl)
      rw [IntKind.wrap_i64]; simp; omega
    · have h : y < 65536 := by have h : decide ((y : Int) ≥ 65536) = false := h
                               have := of_decide_eq_false h; omega
      exact join_at (y, n) ⟨h1, h, by simp; omega⟩ ⟨rfl, rfl, trivial⟩ (.inl rfl)
  clear h1 h2 h3 y n
  rintro ⟨y, n⟩ ⟨h1, h2, h3⟩
  simp only at h1 h2 h3
  refine joinK.use [0, 2] (fun s : Nat × Nat => [.int .u64 s.1, .int .i64 s.2]) (fun _ => []) (fun s => bitLen x = s.2 + bitLen s.1 ∧ s.1 < 256 ∧ s.2 ≤ 56) ?_ ?_
  · refine ⟨fun h => ?_, fun h => ?_⟩
    · have h : 256 ≤ y := by have h : decide ((y : Int) ≥ 256) = true := h
                             have := of_decide_eq_true h; omega
      refine ⟨by decide, ?_⟩
      refine join_at (y / 256, n + 8) ⟨by rw [h1, bitLen_part y 8 h]; simp; omega, by simp; omega, by simp; omega⟩ ⟨int_eq (fdiv_lit y 8 (by decide)), int_eq ?_, trivial⟩ (.inl rfl)
      rw [IntKind.wrap_i64]; simp; omega
    · have h : y < 256 := by have h : decide ((y : Int) ≥ 256) = false := h
                             have := of_decide_eq_false h; omega
      exact join_at (y, n) ⟨h1, h, by simp; omega⟩ ⟨rfl, rfl, trivial⟩ (.inl rfl)
  clear h1 h2 h3 y n
  rintro ⟨y, n⟩ ⟨h1, h2, h3⟩
  simp only at h1 h2 h3
  have hw : (IntKind.u8.wrap (y : Int)).toNat = y := by rw [IntKind.wrap_u8]; omega
  refine ⟨by rw [IntKind.wrap_u8]; omega, optK.mk (y := (bitLen y).toUInt8) ?_ ?_⟩
  · rw [hw]
    exact tab8_get (by kernel_rfl) y h2
  refine fin_eq (.int _ _) rfl (int_eq ?_)
  have hb := bitLen_le8 y h2
  have h8 : ((bitLen y).toUInt8.toNat : Int) = bitLen y := by
    show ((bitLen y % 256 : Nat) : Int) = _
    omega
  rw [h8, IntKind.wrap_i64, IntKind.wrap_i64, h1]; omega

theorem bitLen_le64 (x : Nat) (hx : x < 18446744073709551616) : bitLen x ≤ 64 := by
  unfold bitLen
  split
  · omega
  · rename_i h
    have := (Nat.log2_lt h).2 (show x < 2 ^ 64 from hx)
    omega
theorem lz64 (x : Nat) (hx : x < 18446744073709551616) : FnC Try.prog 84 [.int .u64 x] (· = .int .i64 (64 - bitLen x : Nat)) := by
  refine FnC.mk Try.func84 rfl rfl (Nat.le_of_ble_eq_true rfl) (by simp) (by rintro _ rfl; simp) ?_
  refine callK.eq (len64 x hx) ?_
  refine fin_eq (.int _ _) rfl (int_eq ?_)
  have := bitLen_le64 x hx
  rw [IntKind.wrap_i64]; omega
end Go.Proofs.Ytaddmokllmdngaa
end
section
namespace Go.Proofs.Ytaddmokllmdngaa
set_option linter.unusedSimpArgs false
set_option linter.unusedVariables false
open Go Go.Pv Go.RowKit
set_option maxRecDepth 10000
set_option exponentiation.threshold 1000

/-- One digit of a long division: the guess q, what is left r. -/
structure DigOk (Y n1 n0 u w : Nat) : Prop where
  hY : Y = n1 * 4294967296 + n0
  h0 : n0 < 4294967296
  h1 : 2147483648 ≤ n1
  h1' : n1 < 4294967296
  hu : u < Y
  hw : w < 4294967296
theorem dig_mul {Y n1 n0 u w : Nat} (h : DigOk Y n1 n0 u w) (q : Nat) : q * Y = q * n1 * 4294967296 + q * n0 := by
  rw [h.hY, Nat.mul_add, ← Nat.mul_assoc]
theorem dig_pos {Y n1 n0 u w : Nat} (h : DigOk Y n1 n0 u w) : 0 < Y := by have := h.h1; have := h.hY; omega
theorem dig_start {Y n1 n0 u w : Nat} (h : DigOk Y n1 n0 u w) : (u * 4294967296 + w) / Y ≤ u / n1 := by
  have hm := dig_mul h ((u * 4294967296 + w) / Y)
  have hle := Nat.div_mul_le_self (u * 4294967296 + w) Y
  have := h.hw
  rw [Nat.le_div_iff_mul_le (by have := h.h1; omega)]
  generalize (u * 4294967296 + w) / Y = t at *
  generalize t * Y = p at *
  generalize t * n1 = a at *
  generalize t * n0 = b at *
  omega
theorem dig_down {Y n1 n0 u w q r : Nat} (h : DigOk Y n1 n0 u w) (hr : r + q * n1 = u) (ht : 4294967296 ≤ q ∨ 4294967296 * r + w < q * n0) : (u * 4294967296 + w) / Y < q := by
  rw [Nat.div_lt_iff_lt_mul (dig_pos h)]
  have hm := dig_mul h q
  have := h.hw
  have := h.hu
  rcases ht with ht | ht
  · have h2 := Nat.mul_le_mul_right Y ht
    generalize q * Y = p at *
    omega
  · generalize q * Y = p at *
    generalize q * n1 = a at *
    generalize q * n0 = b at *
    omega
theorem dig_end {Y n1 n0 u w q r : Nat} (h : DigOk Y n1 n0 u w) (hr : r + q * n1 = u) (hq : (u * 4294967296 + w) / Y ≤ q) (ht : q * n0 ≤ 4294967296 * r + w) : q = (u * 4294967296 + w) / Y := by
  refine Nat.le_antisymm ?_ hq
  rw [Nat.le_div_iff_mul_le (dig_pos h)]
  have hm := dig_mul h q
  generalize q * Y = p at *
  generalize q * n1 = a at *
  generalize q * n0 = b at *
  omega
theorem dig_break {Y n1 n0 u w q r : Nat} (h : DigOk Y n1 n0 u w) (hr : r + q * n1 = u) (hq : (u * 4294967296 + w) / Y ≤ q) (ht : 4294967296 ≤ r) : q = (u * 4294967296 + w) / Y := by
  refine dig_end h hr hq ?_
  have h0 := h.h0
  have hu := h.hu
  have hY := h.hY
  have hqB : q < 4294967296 := by
    rcases Nat.lt_or_ge q 4294967296 with h1 | h1
    · exact h1
    · have := Nat.mul_le_mul_right n1 h1
      generalize q * n1 = a at *
      omega
  have h1 : q * n0 ≤ 4294967296 * n0 := Nat.mul_le_mul_right _ (by omega)
  generalize q * n0 = b at *
  omega
theorem dig_lt {Y n1 n0 u w : Nat} (h : DigOk Y n1 n0 u w) : (u * 4294967296 + w) / Y < 4294967296 := by
  rw [Nat.div_lt_iff_lt_mul (dig_pos h)]
  have := h.hu; have := h.hw
  omega
theorem two_digs' {B Y N w0 : Nat} (hY : 0 < Y) :
    N / Y * B + (N % Y * B + w0) / Y = (N * B + w0) / Y ∧ (N % Y * B + w0) % Y = (N * B + w0) % Y := by
  have e : N * B + w0 = (N % Y * B + w0) + Y * (N / Y * B) := by
    have h := Nat.div_add_mod N Y
    have h2 : N * B = (Y * (N / Y) + N % Y) * B := by rw [h]
    rw [h2, Nat.add_mul, ← Nat.mul_assoc]; omega
  constructor
  · rw [e, Nat.add_mul_div_left _ _ hY]; omega
  · rw [e, Nat.add_mul_mod_self_left]
theorem two_digs {Y u w1 w0 : Nat} (hY : 0 < Y) :
    (u * 4294967296 + w1) / Y * 4294967296 + ((u * 4294967296 + w1) % Y * 4294967296 + w0) / Y = ((u * 4294967296 + w1) * 4294967296 + w0) / Y ∧
    ((u * 4294967296 + w1) % Y * 4294967296 + w0) % Y = ((u * 4294967296 + w1) * 4294967296 + w0) % Y := two_digs' hY
theorem norm_num' (M hi lo s : Nat) (hM : M = 2 ^ 64) (hs : s ≤ 64) : (hi * 2 ^ s + lo / 2 ^ (64 - s)) * M + lo * 2 ^ s % M = (hi * M + lo) * 2 ^ s := by
  have h1 : lo / 2 ^ (64 - s) = lo * 2 ^ s / M := by
    have : M = 2 ^ (64 - s) * 2 ^ s := by rw [hM, ← Nat.pow_add]; congr 1; omega
    rw [this, Nat.mul_div_mul_right _ _ (Nat.pow_pos (by decide))]
  rw [h1, Nat.add_mul, Nat.add_mul, Nat.add_assoc, Nat.div_add_mod' (lo * 2 ^ s), Nat.mul_right_comm]
theorem norm_num (hi lo s : Nat) (hs : s ≤ 64) :
    (hi * 2 ^ s + lo / 2 ^ (64 - s)) * 18446744073709551616 + lo * 2 ^ s % 18446744073709551616 = (hi * 18446744073709551616 + lo) * 2 ^ s := norm_num' _ hi lo s (by decide) hs

theorem shl_v (x s : Nat) (hs : s ≤ 64) : IntKind.u64.wrap ((x : Int) * 2 ^ min (IntKind.u64.wrap (s : Int)).toNat IntKind.u64.bits) = ((x * 2 ^ s % 18446744073709551616 : Nat) : Int) := by
  rw [show IntKind.u64.wrap (s : Int) = ((s : Nat) : Int) from by rw [IntKind.wrap_u64]; omega, Int.toNat_natCast, show min s IntKind.u64.bits = s from Nat.min_eq_left hs,
    show (x : Int) * 2 ^ s = ((x * 2 ^ s : Nat) : Int) from by simp, IntKind.wrap_u64]
  generalize x * 2 ^ s = y
  omega
theorem shr_v (x s : Nat) (hs : s ≤ 64) : (x : Int).fdiv (2 ^ min (IntKind.u64.wrap (s : Int)).toNat IntKind.u64.bits) = ((x / 2 ^ s : Nat) : Int) := by
  rw [show IntKind.u64.wrap (s : Int) = ((s : Nat) : Int) from by rw [IntKind.wrap_u64]; omega]
  exact fdiv_lit x s hs
theorem or_add (a b s : Nat) (ha : a * 2 ^ s < 18446744073709551616) (hb : b < 2 ^ s) (hs : s ≤ 64) : IntKind.u64.wrap ((BitVec.ofInt IntKind.u64.bits ((a * 2 ^ s : Nat) : Int) ||| BitVec.ofInt IntKind.u64.bits ((b : Nat) : Int)).toNat : Int) = ((a * 2 ^ s + b : Nat) : Int) := by
  have hp : 2 ^ s ≤ 2 ^ 64 := Nat.pow_le_pow_right (by decide) hs
  have hb' : b < 2 ^ 64 := Nat.lt_of_lt_of_le hb hp
  have eo : (BitVec.ofInt IntKind.u64.bits ((a * 2 ^ s : Nat) : Int) ||| BitVec.ofInt IntKind.u64.bits ((b : Nat) : Int)).toNat = a * 2 ^ s + b := by
    rw [BitVec.toNat_or, BitVec.ofInt_natCast, BitVec.ofInt_natCast, BitVec.toNat_ofNat, BitVec.toNat_ofNat]
    show (a * 2 ^ s) % 2 ^ 64 ||| b % 2 ^ 64 = _
    rw [Nat.mod_eq_of_lt ha, Nat.mod_eq_of_lt hb']
    have hq := Nat.two_pow_add_eq_or_of_lt hb a
    rw [Nat.mul_comm] at hq
    exact hq.symm
  rw [eo]
  have : a * 2 ^ s + b < 18446744073709551616 := by
    rw [← eo]; exact (BitVec.ofInt IntKind.u64.bits ((a * 2 ^ s : Nat) : Int) ||| BitVec.ofInt IntKind.u64.bits ((b : Nat) : Int)).isLt
  generalize a * 2 ^ s + b = y at *
  rw [IntKind.wrap_u64]; omega
end Go.Proofs.Ytaddmokllmdngaa
end
section
namespace Go.Proofs.Ytaddmokllmdngaa
set_option linter.unusedSimpArgs false
set_option linter.unusedVariables false
open Go Go.Pv Go.RowKit
set_option maxRecDepth 10000
set_option exponentiation.threshold 1000

theorem div_at (u w Y : Nat) (h : Y < 18446744073709551616) (hY : 0 < Y) : IntKind.u64.wrap (IntKind.u64.wrap (IntKind.u64.wrap ((u : Int) * 4294967296) + (w : Int)) - IntKind.u64.wrap (((u * 4294967296 + w) / Y : Nat) * (Y : Int))) = (((u * 4294967296 + w) % Y : Nat) : Int) := by
  have h1 := Nat.div_add_mod (u * 4294967296 + w) Y
  have h2 := Nat.mod_lt (u * 4294967296 + w) hY
  generalize (u * 4294967296 + w) / Y = q at *
  generalize (u * 4294967296 + w) % Y = r at *
  rw [show (q : Int) * (Y : Int) = ((Y * q : Nat) : Int) from by rw [Nat.mul_comm]; simp]
  generalize Y * q = p at *
  simp only [IntKind.wrap_u64]
  omega
theorem quo_at (v n : Nat) (hv : v < 18446744073709551616) : IntKind.u64.wrap ((v : Int).tdiv (n : Int)) = ((v / n : Nat) : Int) := by
  have := Nat.div_le_self v n
  rw [show (v : Int).tdiv (n : Int) = ((v / n : Nat) : Int) from rfl, IntKind.wrap_u64]
  generalize v / n = q at *
  omega
theorem rem_at (v n : Nat) (hv : v < 18446744073709551616) : IntKind.u64.wrap ((v : Int) - IntKind.u64.wrap (IntKind.u64.wrap ((v : Int).tdiv (n : Int)) * (n : Int))) = ((v % n : Nat) : Int) := by
  rw [quo_at v n hv]
  have := Nat.div_add_mod v n
  generalize v / n = q at *
  rw [show (q : Int) * (n : Int) = ((n * q : Nat) : Int) from by rw [Nat.mul_comm]; simp]
  generalize n * q = p at *
  generalize v % n = r at *
  simp only [IntKind.wrap_u64]
  omega

theorem join_low (u w : Nat) : (u * 4294967296 + w / 4294967296) * 4294967296 + w % 4294967296 = u * 18446744073709551616 + w := by omega
theorem join_dig (q1 q0 : Nat) (h1 : q1 < 4294967296) (h0 : q0 < 4294967296) : IntKind.u64.wrap (IntKind.u64.wrap ((q1 : Int) * 4294967296) + (q0 : Int)) = ((q1 * 4294967296 + q0 : Nat) : Int) := by
  simp only [IntKind.wrap_u64]; omega
set_option maxHeartbeats 4000000 in
theorem div64 (hi lo y : Nat) (h1 : hi < y) (h2 : y < 18446744073709551616) (h3 : lo < 18446744073709551616) :
    FnC Try.prog 61 [.int .u64 hi, .int .u64 lo, .int .u64 y] (· = .tup [.int .u64 ((hi * 18446744073709551616 + lo) / y : Nat), .int .u64 ((hi * 18446744073709551616 + lo) % y : Nat)]) := by
  refine FnC.mk Try.func61 rfl rfl (Nat.le_of_ble_eq_true rfl) (by simp) (by rintro _ rfl; simp) ?_
  refine joinK.direct ⟨fun h => ?_, fun h => join_go ?_⟩
  · have h : ((y : Int) == 0) = true := h
    have := beq_iff_eq.1 h; omega
  clear h
  refine joinK.direct ⟨fun h => ?_, fun h => join_go ?_⟩
  · have h : decide ((y : Int) ≤ (hi : Int)) = true := h
    have := of_decide_eq_true h; omega
  clear h
  refine joinK.direct ⟨fun h => ?_, fun h => join_go ?_⟩
  · have h : ((hi : Int) == 0) = true := h
    have h := beq_iff_eq.1 h
    obtain rfl : hi = 0 := by omega
    refine drawK.mk (by kernel_rfl) ?_
    refine ⟨rfl, by omega, rfl, by omega, ?_⟩
    refine fin_eq (.tup [.int _ _, .int _ _]) rfl (int2 ?_ ?_)
    · have := Nat.div_le_self lo y
      rw [show (lo : Int).tdiv (y : Int) = ((lo / y : Nat) : Int) from rfl, Nat.zero_mul, Nat.zero_add, IntKind.wrap_u64]
      generalize lo / y = q at *
      omega
    · rw [Nat.zero_mul, Nat.zero_add]; rfl
  have h0 : 0 < hi := by
    have h : ((hi : Int) == 0) = false := h
    have := beq_eq_false_iff_ne.1 h; omega
  clear h
  have c := lz64 y h2
  have hb := bitLen_spec y
  have hb64 := bitLen_le64 y h2
  have hbp : 1 ≤ bitLen y := by
    rcases Nat.eq_zero_or_pos (bitLen y) with e | e
    · rw [e] at hb; have := hb.1; omega
    · exact e
  obtain ⟨s, hs⟩ : ∃ s, s = 64 - bitLen y := ⟨_, rfl⟩
  rw [← hs] at c
  have hs64 : s ≤ 64 := by omega
  have hsp : 0 < 2 ^ s := Nat.pow_pos (by decide)
  obtain ⟨Y, hY⟩ : ∃ Y, Y = y * 2 ^ s := ⟨_, rfl⟩
  have hY1 : Y < 18446744073709551616 := by
    rw [hY, show (18446744073709551616 : Nat) = 2 ^ (bitLen y) * 2 ^ s from by rw [← Nat.pow_add, show bitLen y + s = 64 from by omega]]
    exact Nat.mul_lt_mul_of_pos_right hb.1 hsp
  have hY2 : 9223372036854775808 ≤ Y := by
    rw [hY, show (9223372036854775808 : Nat) = 2 ^ (bitLen y - 1) * 2 ^ s from by rw [← Nat.pow_add, show bitLen y - 1 + s = 63 from by omega]]
    exact Nat.mul_le_mul_right _ (hb.2 (by omega))
  have hhi : hi * 2 ^ s < Y := by rw [hY]; exact Nat.mul_lt_mul_of_pos_right h1 hsp
  obtain ⟨u, hu⟩ : ∃ u, u = hi * 2 ^ s + lo / 2 ^ (64 - s) := ⟨_, rfl⟩
  obtain ⟨w, hw⟩ : ∃ w, w = lo * 2 ^ s % 18446744073709551616 := ⟨_, rfl⟩
  have hN := norm_num hi lo s hs64
  rw [← hu, ← hw] at hN
  have hlow : lo / 2 ^ (64 - s) < 2 ^ s := by
    rw [Nat.div_lt_iff_lt_mul (Nat.pow_pos (by decide)), ← Nat.pow_add, show s + (64 - s) = 64 from by omega]; exact h3
  have huY : u < Y := by
    have : (hi + 1) * 2 ^ s ≤ y * 2 ^ s := Nat.mul_le_mul_right _ h1
    rw [Nat.add_mul, Nat.one_mul] at this
    omega
  have hww : w < 18446744073709551616 := by rw [hw]; exact Nat.mod_lt _ (by decide)
  have hY0 : 0 < Y := by omega
  have dok : ∀ v x, v < Y → x < 4294967296 → DigOk Y (Y / 4294967296) (Y % 4294967296) v x := fun v x hv hx => ⟨by omega, by omega, by omega, by omega, hv, hx⟩
  have tst : ∀ v x q r, DigOk Y (Y / 4294967296) (Y % 4294967296) v x → r + q * (Y / 4294967296) = v → r < 4294967296 →
      (bif decide ((q : Int) ≥ 4294967296) then true else decide (IntKind.u64.wrap ((q : Int) * (Y % 4294967296 : Nat)) > IntKind.u64.wrap (IntKind.u64.wrap (4294967296 * (r : Int)) + (x : Int)))) = decide (4294967296 ≤ q ∨ 4294967296 * r + x < q * (Y % 4294967296)) := by
    intro v x q r hd hr hr2
    by_cases hq : 4294967296 ≤ q
    · rw [decide_eq_true (show (q : Int) ≥ 4294967296 from by omega), decide_eq_true (Or.inl hq)]; rfl
    · rw [decide_eq_false (show ¬ (q : Int) ≥ 4294967296 from by omega)]
      have hm : q * (Y % 4294967296) ≤ 4294967295 * 4294967295 := Nat.mul_le_mul (by omega) (by omega)
      rw [show (q : Int) * (Y % 4294967296 : Nat) = ((q * (Y % 4294967296) : Nat) : Int) from by simp]
      have := hd.hw
      generalize q * (Y % 4294967296) = p at *
      simp only [IntKind.wrap_u64, cond_false]
      rw [decide_eq_decide]
      omega
  have hd1 := dok u (w / 4294967296) huY (by omega)
  obtain ⟨q1, r1, eq1, hq1, hmod, htwo, hdat⟩ : ∃ q1 r1, q1 = (u * 4294967296 + w / 4294967296) / Y ∧ q1 < 4294967296 ∧ r1 < Y ∧
      (q1 * 4294967296 + (r1 * 4294967296 + w % 4294967296) / Y = ((u * 4294967296 + w / 4294967296) * 4294967296 + w % 4294967296) / Y ∧ (r1 * 4294967296 + w % 4294967296) % Y = ((u * 4294967296 + w / 4294967296) * 4294967296 + w % 4294967296) % Y) ∧
      IntKind.u64.wrap (IntKind.u64.wrap (IntKind.u64.wrap ((u : Int) * 4294967296) + ((w / 4294967296 : Nat) : Int)) - IntKind.u64.wrap ((q1 : Int) * (Y : Int))) = (r1 : Int) :=
    ⟨(u * 4294967296 + w / 4294967296) / Y, (u * 4294967296 + w / 4294967296) % Y, rfl, dig_lt hd1, Nat.mod_lt _ hY0, two_digs hY0, div_at u (w / 4294967296) Y hY1 hY0⟩
  have hd2 := dok r1 (w % 4294967296) hmod (Nat.mod_lt _ (by decide))
  have hNN := (join_low u w).trans hN
  have hQ : q1 * 4294967296 + (r1 * 4294967296 + w % 4294967296) / Y = (hi * 18446744073709551616 + lo) / y := htwo.1.trans (by rw [hNN, hY]; exact Nat.mul_div_mul_right _ _ hsp)
  have hR : (r1 * 4294967296 + w % 4294967296) % Y = (hi * 18446744073709551616 + lo) % y * 2 ^ s := htwo.2.trans (by rw [hNN, hY]; exact Nat.mul_mod_mul_right _ _ _)
  refine callK.eq c ?_
  have eY : IntKind.u64.wrap ((y : Int) * 2 ^ min (IntKind.u64.wrap (s : Int)).toNat IntKind.u64.bits) = (Y : Int) := by rw [shl_v y s hs64, ← hY, Nat.mod_eq_of_lt hY1]
  have eu : IntKind.u64.wrap ((BitVec.ofInt IntKind.u64.bits (IntKind.u64.wrap ((hi : Int) * 2 ^ min (IntKind.u64.wrap (s : Int)).toNat IntKind.u64.bits)) ||| BitVec.ofInt IntKind.u64.bits ((lo : Int).fdiv (2 ^ min (IntKind.u64.wrap (64 - IntKind.u64.wrap (s : Int))).toNat IntKind.u64.bits))).toNat : Int) = (u : Int) := by
    rw [shl_v hi s hs64, Nat.mod_eq_of_lt (by omega), show IntKind.u64.wrap (64 - IntKind.u64.wrap (s : Int)) = IntKind.u64.wrap ((64 - s : Nat) : Int) from by rw [IntKind.wrap_u64, IntKind.wrap_u64, IntKind.wrap_u64]; omega,
      shr_v lo (64 - s) (by omega), or_add hi _ s (by omega) hlow hs64, hu]
  have ew : IntKind.u64.wrap ((lo : Int) * 2 ^ min (IntKind.u64.wrap (s : Int)).toNat IntKind.u64.bits) = (w : Int) := by rw [shl_v lo s hs64, ← hw]
  have e1 : ∀ (x : Nat), (x : Int).fdiv (2 ^ min (Int.toNat 32) IntKind.u64.bits) = ((x / 4294967296 : Nat) : Int) := fun x => fdiv_lit x 32 (by decide)
  have e2 : ∀ (x : Nat), x < 18446744073709551616 → bits .and .u64 (x : Int) 4294967295 = ((x % 4294967296 : Nat) : Int) := fun x hx => and_low32 x (by omega) (by omega)
  have s0 : 0 ≤ IntKind.u64.wrap (s : Int) := (wrap_u64_nn _).1
  refine ⟨s0, by decide, s0, (wrap_u64_nn _).1, s0, by decide, rfl, by rw [eY, e1]; omega, ?_⟩
  refine joinK.use [2, 8, 9, 10, 11, 13, 14, 15] (fun _ : Unit => [.int .u64 Y, .int .u64 (IntKind.u64.wrap s), .int .u64 (Y / 4294967296 : Nat), .int .u64 (Y % 4294967296 : Nat), .int .u64 u, .int .u64 (w / 4294967296 : Nat), .int .u64 (w % 4294967296 : Nat), .int .u64 q1]) (fun _ => []) (fun _ => True) ?_ ?_
  · refine loopK.use [2, 8, 9, 10, 11, 13, 14, 15, 16] (fun p : Nat × Nat => [.int .u64 Y, .int .u64 (IntKind.u64.wrap s), .int .u64 (Y / 4294967296 : Nat), .int .u64 (Y % 4294967296 : Nat), .int .u64 u, .int .u64 (w / 4294967296 : Nat), .int .u64 (w % 4294967296 : Nat), .int .u64 p.1, .int .u64 p.2]) (fun _ => [])
      (fun p => p.2 + p.1 * (Y / 4294967296) = u ∧ (u * 4294967296 + w / 4294967296) / Y ≤ p.1 ∧ p.2 < 4294967296) (fun p => p.1) (u / (Y / 4294967296), u % (Y / 4294967296)) ?_ ⟨int_eq eY, rfl, int_eq (by rw [eY, e1]), int_eq ?_, int_eq eu, int_eq (by rw [ew, e1]), int_eq ?_, int_eq ?_, int_eq ?_, trivial⟩ (.inl rfl) ?_
    · refine ⟨by rw [Nat.add_comm, Nat.mul_comm]; exact Nat.div_add_mod _ _, dig_start hd1, ?_⟩
      have := Nat.mod_lt u (show 0 < Y / 4294967296 by omega)
      simp only; omega
    · rw [eY]; exact e2 Y hY1
    · rw [ew]; exact e2 w hww
    · rw [eY, e1, eu]; exact quo_at u _ (by omega)
    · rw [eY, e1, eu]; exact rem_at u _ (by omega)
    rintro ⟨q, r⟩ ⟨g1, g2, g3⟩
    simp only at g1 g2 g3
    have ht := tst u (w / 4294967296) q r hd1 g1 g3
    refine joinK.direct ?_
    refine guardK.spec ?_
    refine ⟨fun h => join_go ?_, fun h => ?_⟩
    · have h : (bif decide ((q : Int) ≥ 4294967296) then true else decide (IntKind.u64.wrap ((q : Int) * (Y % 4294967296 : Nat)) > IntKind.u64.wrap (IntKind.u64.wrap (4294967296 * (r : Int)) + (w / 4294967296 : Nat)))) = true := h
      rw [ht] at h
      have h := of_decide_eq_true h
      have hdn := dig_down hd1 g1 h
      have hq0 : 0 < q := Nat.lt_of_le_of_lt (Nat.zero_le _) hdn
      obtain ⟨p, rfl⟩ : ∃ p, q = p + 1 := ⟨q - 1, by omega⟩
      have hdn := Nat.le_of_lt_succ hdn
      have hqu := Nat.le_mul_of_pos_right (p + 1) (show 0 < Y / 4294967296 by omega)
      have g1' : r + Y / 4294967296 + p * (Y / 4294967296) = u := by rw [Nat.succ_mul] at g1; omega
      have ep : IntKind.u64.wrap (((p + 1 : Nat) : Int) - 1) = (p : Int) := by rw [IntKind.wrap_u64]; omega
      have er : IntKind.u64.wrap ((r : Int) + (Y / 4294967296 : Nat)) = ((r + Y / 4294967296 : Nat) : Int) := by rw [IntKind.wrap_u64]; omega
      refine ⟨fun h5 => ?_, fun h5 => ?_⟩
      · have h5 : decide (IntKind.u64.wrap ((r : Int) + (Y / 4294967296 : Nat)) ≥ 4294967296) = true := h5
        rw [er] at h5
        have h5 := of_decide_eq_true h5
        have e := (dig_break hd1 g1' hdn (by omega)).trans eq1.symm
        refine join_at () trivial ⟨rfl, rfl, rfl, rfl, rfl, rfl, rfl, int_eq ?_, trivial⟩ (.inl rfl)
        exact ep.trans (congrArg Int.ofNat e)
      · have h5 : decide (IntKind.u64.wrap ((r : Int) + (Y / 4294967296 : Nat)) ≥ 4294967296) = false := h5
        rw [er] at h5
        have h5 := of_decide_eq_false h5
        exact loop_next (p, r + Y / 4294967296) ⟨g1', hdn, by simp only; omega⟩ (Nat.lt_succ_self p) ⟨rfl, rfl, rfl, rfl, rfl, rfl, rfl, int_eq ep, int_eq er, trivial⟩ (.inl rfl)
    · have h : (bif decide ((q : Int) ≥ 4294967296) then true else decide (IntKind.u64.wrap ((q : Int) * (Y % 4294967296 : Nat)) > IntKind.u64.wrap (IntKind.u64.wrap (4294967296 * (r : Int)) + (w / 4294967296 : Nat)))) = false := h
      rw [ht] at h
      have h := of_decide_eq_false h
      refine join_at () trivial ⟨rfl, rfl, rfl, rfl, rfl, rfl, rfl, int_eq ?_, trivial⟩ (.inl rfl)
      have e := (dig_end hd1 g1 g2 (by omega)).trans eq1.symm
      exact congrArg Int.ofNat e
  rintro ⟨⟩ -
  refine ⟨rfl, by omega, ?_⟩
  refine joinK.use [2, 8, 14, 15, 17, 18] (fun _ : Unit => [.int .u64 Y, .int .u64 (IntKind.u64.wrap s), .int .u64 (w % 4294967296 : Nat), .int .u64 q1, .int .u64 r1, .int .u64 ((r1 * 4294967296 + w % 4294967296) / Y : Nat)]) (fun _ => []) (fun _ => True) ?_ ?_
  · refine loopK.use [2, 8, 9, 10, 14, 15, 17, 18, 16] (fun p : Nat × Nat => [.int .u64 Y, .int .u64 (IntKind.u64.wrap s), .int .u64 (Y / 4294967296 : Nat), .int .u64 (Y % 4294967296 : Nat), .int .u64 (w % 4294967296 : Nat), .int .u64 q1, .int .u64 r1, .int .u64 p.1, .int .u64 p.2]) (fun _ => [])
      (fun p => p.2 + p.1 * (Y / 4294967296) = r1 ∧ (r1 * 4294967296 + w % 4294967296) / Y ≤ p.1 ∧ p.2 < 4294967296) (fun p => p.1) (r1 / (Y / 4294967296), r1 % (Y / 4294967296)) ?_ ⟨rfl, rfl, rfl, rfl, rfl, rfl, int_eq hdat, int_eq ?_, int_eq ?_, trivial⟩ (.inl rfl) ?_
    · refine ⟨by rw [Nat.add_comm, Nat.mul_comm]; exact Nat.div_add_mod _ _, dig_start hd2, ?_⟩
      have := Nat.mod_lt r1 (show 0 < Y / 4294967296 by omega)
      simp only; omega
    · rw [hdat]; exact quo_at r1 _ (by omega)
    · rw [hdat]; exact rem_at r1 _ (by omega)
    rintro ⟨q, r⟩ ⟨g1, g2, g3⟩
    simp only at g1 g2 g3
    have ht := tst r1 (w % 4294967296) q r hd2 g1 g3
    refine joinK.direct ?_
    refine guardK.spec ?_
    refine ⟨fun h => join_go ?_, fun h => ?_⟩
    · have h : (bif decide ((q : Int) ≥ 4294967296) then true else decide (IntKind.u64.wrap ((q : Int) * (Y % 4294967296 : Nat)) > IntKind.u64.wrap (IntKind.u64.wrap (4294967296 * (r : Int)) + (w % 4294967296 : Nat)))) = true := h
      rw [ht] at h
      have h := of_decide_eq_true h
      have hdn := dig_down hd2 g1 h
      have hq0 : 0 < q := Nat.lt_of_le_of_lt (Nat.zero_le _) hdn
      obtain ⟨p, rfl⟩ : ∃ p, q = p + 1 := ⟨q - 1, by omega⟩
      have hdn := Nat.le_of_lt_succ hdn
      have hqu := Nat.le_mul_of_pos_right (p + 1) (show 0 < Y / 4294967296 by omega)
      have g1' : r + Y / 4294967296 + p * (Y / 4294967296) = r1 := by rw [Nat.succ_mul] at g1; omega
      have ep : IntKind.u64.wrap (((p + 1 : Nat) : Int) - 1) = (p : Int) := by rw [IntKind.wrap_u64]; omega
      have er : IntKind.u64.wrap ((r : Int) + (Y / 4294967296 : Nat)) = ((r + Y / 4294967296 : Nat) : Int) := by rw [IntKind.wrap_u64]; omega
      refine ⟨fun h5 => ?_, fun h5 => ?_⟩
      · have h5 : decide (IntKind.u64.wrap ((r : Int) + (Y / 4294967296 : Nat)) ≥ 4294967296) = true := h5
        rw [er] at h5
        have h5 := of_decide_eq_true h5
        have e := dig_break hd2 g1' hdn (by omega)
        refine join_at () trivial ⟨rfl, rfl, rfl, rfl, rfl, int_eq ?_, trivial⟩ (.inl rfl)
        exact ep.trans (congrArg Int.ofNat e)
      · have h5 : decide (IntKind.u64.wrap ((r : Int) + (Y / 4294967296 : Nat)) ≥ 4294967296) = false := h5
        rw [er] at h5
        have h5 := of_decide_eq_false h5
        exact loop_next (p, r + Y / 4294967296) ⟨g1', hdn, by simp only; omega⟩ (Nat.lt_succ_self p) ⟨rfl, rfl, rfl, rfl, rfl, rfl, rfl, int_eq ep, int_eq er, trivial⟩ (.inl rfl)
    · have h : (bif decide ((q : Int) ≥ 4294967296) then true else decide (IntKind.u64.wrap ((q : Int) * (Y % 4294967296 : Nat)) > IntKind.u64.wrap (IntKind.u64.wrap (4294967296 * (r : Int)) + (w % 4294967296 : Nat)))) = false := h
      rw [ht] at h
      have h := of_decide_eq_false h
      refine join_at () trivial ⟨rfl, rfl, rfl, rfl, rfl, int_eq ?_, trivial⟩ (.inl rfl)
      have e := dig_end hd2 g1 g2 (by omega)
      exact congrArg Int.ofNat e
  rintro ⟨⟩ -
  refine ⟨s0, ?_⟩
  have hq0 := dig_lt hd2
  have hdat2 := div_at r1 (w % 4294967296) Y hY1 hY0
  refine fin_eq (.tup [.int _ _, .int _ _]) rfl (int2 ?_ ?_)
  · refine Eq.trans ?_ (congrArg Int.ofNat hQ)
    generalize (r1 * 4294967296 + w % 4294967296) / Y = q0 at hq0
    exact join_dig q1 q0 hq1 hq0
  · rw [hdat2, shr_v _ s hs64, hR, Nat.mul_div_cancel _ hsp]
end Go.Proofs.Ytaddmokllmdngaa
end
section
namespace Go.Proofs.Ytaddmokllmdngaa
set_option linter.unusedSimpArgs false
set_option linter.unusedVariables false
open Go Go.Pv Go.RowKit
set_option maxRecDepth 10000
set_option exponentiation.threshold 1000

theorem one1 {h : Hp} {β : Nat → Bl} {vs : Array Value} {d : DV} {v : Value} (ht : toV d = some v) (hs : vs.size = 1) (hr : ∀ (i : Nat) (v : Value) (d' : DV), vs[i]? = some v → [d][i]? = some d' → Rep h β v d') :
    vs = #[v] := by
  apply Array.ext_getElem?
  intro i
  match i with
  | 0 =>
    have r := hr 0 _ d (Array.getElem?_eq_getElem (by omega)) rfl
    rw [Array.getElem?_eq_getElem (by omega), rep_toV ht r]; rfl
  | i + 1 => rw [Array.getElem?_eq_none (by omega)]; simp

theorem f64bits (b : Nat) : FnC Try.prog 71 [.flt .f64 b] (· = .int .u64 b) :=
  FnC.ext (by simp) (by rintro _ rfl; simp) fun vs h w hs hr => by
    obtain rfl := one1 (v := .float .f64 b) rfl hs hr
    refine ⟨.int .u64 b, _, ?_, .int _ _, rfl⟩
    rw [run_callFunc_extern Try.func71 (by kernel_rfl) (by kernel_rfl) (by kernel_rfl) (e := Extern.MathFloatBits.float64bits) (by kernel_rfl)]; rfl
theorem f64from (n : Int) : FnC Try.prog 79 [.int .u64 n] (· = .flt .f64 n.toNat) :=
  FnC.ext (by simp) (by rintro _ rfl; simp) fun vs h w hs hr => by
    obtain rfl := one1 (v := .int .u64 n) rfl hs hr
    refine ⟨.float .f64 n.toNat, _, ?_, .flt _ _, rfl⟩
    rw [run_callFunc_extern Try.func79 (by kernel_rfl) (by kernel_rfl) (by kernel_rfl) (e := Extern.MathFloatBits.float64frombits) (by kernel_rfl)]; rfl
theorem flt_eq {k : FloatKind} {a b : Nat} (h : a = b) : DV.flt k a = .flt k b := by rw [h]

theorem absF (b : Nat) (hb : b < 18446744073709551616) : FnC Try.prog 50 [.flt .f64 b] (· = .flt .f64 (b % 9223372036854775808)) := by
  refine FnC.mk Try.func50 rfl rfl (Nat.le_of_ble_eq_true rfl) (by simp) (by rintro _ rfl; simp) ?_
  refine callK.eq (f64bits b) ?_
  refine callK.eq (f64from _) ?_
  refine fin_eq (.flt _ _) rfl (flt_eq ?_)
  have := andNot_sign b (by omega) (by omega)
  rw [show IntKind.u64.wrap ((BitVec.ofInt IntKind.u64.bits (b : Int) &&& ~~~BitVec.ofInt IntKind.u64.bits 9223372036854775808).toNat : Int) = (b : Int) % 9223372036854775808 from this]
  omega

theorem fbits_abs {E M : Nat} (h : FOk E M) (s : Bool) : fbits s E M % 9223372036854775808 = fbits false E M ∧ fbits s E M < 18446744073709551616 := by
  obtain ⟨h1, h2, h3⟩ := h
  cases s
  · rw [fbits_pos]; omega
  · rw [fbits_neg, fbits_pos]; omega
theorem max_f : (9218868437227405311 : Nat) = fbits false 2045 9007199254740991 := by decide +kernel
theorem min_f : (4503599627370496 : Nat) = fbits false 0 4503599627370496 := by decide +kernel
theorem ok_max : FOk 2045 9007199254740991 := ⟨by decide, by decide, by decide⟩
theorem ok_min : FOk 0 4503599627370496 := ⟨by decide, by decide, by decide⟩
theorem cmp_eqs (x y : Int) : compare x y = if x < y then .lt else if x = y then .eq else .gt := rfl
theorem not_gt {a b : Nat} (h : a ≤ b) : (some (compare (rungI false a) (rungI false b)) == some Ordering.gt) = false := by
  rw [cmp_eqs]; unfold rungI; simp only [cond_false]
  by_cases h1 : a < b
  · rw [if_pos (by omega)]; rfl
  · rw [if_neg (by omega), if_pos (by omega)]; rfl
theorem not_lt' {a b : Nat} (h : b ≤ a) : (some (compare (rungI false a) (rungI false b)) == some Ordering.lt) = false := by
  rw [cmp_eqs]; unfold rungI; simp only [cond_false]
  by_cases h1 : a = b
  · rw [if_neg (by omega), if_pos (by omega)]; rfl
  · rw [if_neg (by omega), if_neg (by omega)]; rfl
theorem is_eq (x : Int) : (some (compare x x) != some Ordering.eq) = false := by
  rw [cmp_eqs, if_neg (by omega), if_pos rfl]; rfl

theorem isInf {E M : Nat} (h : FOk E M) (s : Bool) : FnC Try.prog 49 [.flt .f64 (fbits s E M), .int .i64 0] (· = .bool false) := by
  refine FnC.mk Try.func49 rfl rfl (Nat.le_of_ble_eq_true rfl) (by simp) (by rintro _ rfl; simp) ?_
  refine joinK.direct ⟨fun _ => ?_, fun h => (by cases h)⟩
  have c := absF (fbits s E M) (fbits_abs h s).2
  rw [(fbits_abs h s).1] at c
  refine callK.eq c ?_
  refine join_go ?_
  refine fin_eq (.bool _) rfl (bool_eq ?_)
  rw [show FloatKind.f64.format.order (fbits false E M) 9218868437227405311 = _ from (congrArg (Ieee.double.order (fbits false E M)) max_f).trans (order_fbits h ok_max false false rfl rfl)]
  exact not_gt (by obtain ⟨h1, h2, h3⟩ := h; omega)
theorem isNaN {E M : Nat} (h : FOk E M) (s : Bool) : FnC Try.prog 48 [.flt .f64 (fbits s E M)] (· = .bool false) := by
  refine FnC.mk Try.func48 rfl rfl (Nat.le_of_ble_eq_true rfl) (by simp) (by rintro _ rfl; simp) ?_
  refine fin_eq (.bool _) rfl (bool_eq ?_)
  rw [show FloatKind.f64.format.order (fbits s E M) (fbits s E M) = _ from order_fbits h h s s rfl rfl]
  exact is_eq _
theorem normalizeF {E M : Nat} (h : FOk E M) (s : Bool) : FnC Try.prog 95 [.flt .f64 (fbits s E M)] (· = .tup [.flt .f64 (fbits s E M), .int .i64 0]) := by
  refine FnC.mk Try.func95 rfl rfl (Nat.le_of_ble_eq_true rfl) (by simp) (by rintro _ rfl; simp) ?_
  have c := absF (fbits s E M) (fbits_abs h s).2
  rw [(fbits_abs h s).1] at c
  refine joinK.direct ?_
  refine callK.eq c ?_
  refine ⟨fun h2 => ?_, fun _ => join_go ?_⟩
  · exfalso
    have h2 : (FloatKind.f64.format.order (fbits false E M) 4503599627370496 == some Ordering.lt) = true := h2
    rw [show FloatKind.f64.format.order (fbits false E M) 4503599627370496 = _ from (congrArg (Ieee.double.order (fbits false E M)) min_f).trans (order_fbits h ok_min false false rfl rfl)] at h2
    rw [not_lt' (by obtain ⟨h1, h2, h3⟩ := h; omega)] at h2
    cases h2
  · exact fin_eq (.tup [.flt _ _, .int _ _]) rfl rfl
end Go.Proofs.Ytaddmokllmdngaa
end
section
namespace Go.Proofs.Ytaddmokllmdngaa
set_option linter.unusedSimpArgs false
set_option linter.unusedVariables false
open Go Go.Pv Go.RowKit
set_option maxRecDepth 10000
set_option exponentiation.threshold 1000

theorem one_f : (4607182418800017408 : Nat) = fbits false 1022 4503599627370496 := by decide +kernel
theorem exp_of {E M : Nat} (h : FOk E M) (x e : Int) (hx : x = (E * 4503599627370496 + M : Nat)) (E2 : Nat) (h2 : E2 ≤ 2045) (he : (E2 : Int) = E + e) :
    IntKind.i64.wrap (IntKind.i64.wrap (e + 0) + IntKind.i64.wrap (bits .and .i64 (IntKind.i64.wrap (x.fdiv (2 ^ min (52 : Int).toNat IntKind.u64.bits))) 2047 - 1023)) = (E2 : Int) - 1022 := by
  obtain ⟨h1, h3, h4⟩ := h
  subst hx
  rw [show ((E * 4503599627370496 + M : Nat) : Int).fdiv (2 ^ min (52 : Int).toNat IntKind.u64.bits) = (((E * 4503599627370496 + M) / 2 ^ 52 : Nat) : Int) from fdiv_lit _ 52 (by decide)]
  have e1 : (E * 4503599627370496 + M) / 2 ^ 52 = E + 1 := by omega
  rw [e1, show IntKind.i64.wrap ((E + 1 : Nat) : Int) = ((E + 1 : Nat) : Int) from by rw [IntKind.wrap_i64]; omega, and_2047 _ (by omega) (by omega)]
  simp only [IntKind.wrap_i64]
  omega
theorem word_of {E M : Nat} (h : FOk E M) (x y : Int) (hx : x = (E * 4503599627370496 + M : Nat)) (E2 : Nat) (h2 : E2 ≤ 2045) (hy : y = (E2 : Int) - 1022) :
    IntKind.u64.wrap ((BitVec.ofInt IntKind.u64.bits (bits .andNot .u64 x 9218868437227405312) ||| BitVec.ofInt IntKind.u64.bits (IntKind.u64.wrap (IntKind.u64.wrap (IntKind.i64.wrap (y + 1023)) * 2 ^ min (52 : Int).toNat IntKind.u64.bits))).toNat : Int) = ((E2 * 4503599627370496 + M : Nat) : Int) := by
  obtain ⟨h1, h3, h4⟩ := h
  subst hx; subst hy
  rw [andNot_exp _ (by omega) (by omega), show IntKind.u64.wrap (IntKind.i64.wrap ((E2 : Int) - 1022 + 1023)) = ((E2 + 1 : Nat) : Int) from by rw [IntKind.wrap_i64, IntKind.wrap_u64]; omega,
    show ((E * 4503599627370496 + M : Nat) : Int) % 4503599627370496 = ((M - 4503599627370496 : Nat) : Int) from by omega,
    show ((E2 + 1 : Nat) : Int) * 2 ^ min (52 : Int).toNat IntKind.u64.bits = (((E2 + 1) * 2 ^ 52 : Nat) : Int) from by
      rw [show min (52 : Int).toNat IntKind.u64.bits = 52 from rfl]; omega,
    show IntKind.u64.wrap (((E2 + 1) * 2 ^ 52 : Nat) : Int) = (((E2 + 1) * 2 ^ 52 : Nat) : Int) from by rw [IntKind.wrap_u64]; omega]
  have := or_add (E2 + 1) (M - 4503599627370496) 52 (by omega) (by omega) (by decide)
  rw [BitVec.or_comm] at this
  rw [this]
  omega

theorem ldexp0 {E M E2 : Nat} (h : FOk E M) (h2 : E2 ≤ 2045) (e : Int) (he : (E2 : Int) = E + e) : FnC Try.prog 86 [.flt .f64 (fbits false E M), .int .i64 e] (· = .flt .f64 (fbits false E2 M)) := by
  refine FnC.mk Try.func86 rfl rfl (Nat.le_of_ble_eq_true rfl) (by simp) (by rintro _ rfl; simp) ?_
  have hE := h.e
  refine joinK.direct ?_
  refine ⟨fun h3 => ?_, fun _ => ?_⟩
  · exfalso
    have h3 : (FloatKind.f64.format.order (fbits false E M) 0 == some Ordering.eq) = true := h3
    rw [show FloatKind.f64.format.order (fbits false E M) 0 = _ from order_f0 h false] at h3
    cases h3
  refine guardK.spec ?_
  refine callK.eq (isInf h false) ?_
  refine callE.mk (isNaN h false) ?_
  refine ⟨fun h3 => (by cases h3), fun _ => join_go ?_⟩
  refine callK.eq (normalizeF h false) ?_
  refine callK.eq (f64bits _) ?_
  have hx := exp_of h (fbits false E M : Nat) e rfl E2 h2 he
  refine ⟨by decide, ?_⟩
  refine joinK.direct ⟨fun h3 => ?_, fun _ => join_go ?_⟩
  · exfalso
    have h3 : decide (IntKind.i64.wrap (IntKind.i64.wrap (e + 0) + IntKind.i64.wrap (bits .and .i64 (IntKind.i64.wrap (((fbits false E M : Nat) : Int).fdiv (2 ^ min (52 : Int).toNat IntKind.u64.bits))) 2047 - 1023)) < -1075) = true := h3
    rw [hx] at h3
    have := of_decide_eq_true h3; omega
  refine joinK.direct ⟨fun h3 => ?_, fun _ => join_go ?_⟩
  · exfalso
    have h3 : decide (IntKind.i64.wrap (IntKind.i64.wrap (e + 0) + IntKind.i64.wrap (bits .and .i64 (IntKind.i64.wrap (((fbits false E M : Nat) : Int).fdiv (2 ^ min (52 : Int).toNat IntKind.u64.bits))) 2047 - 1023)) > 1023) = true := h3
    rw [hx] at h3
    have := of_decide_eq_true h3; omega
  refine joinK.direct ⟨fun h3 => ?_, fun _ => join_go ?_⟩
  · exfalso
    have h3 : decide (IntKind.i64.wrap (IntKind.i64.wrap (e + 0) + IntKind.i64.wrap (bits .and .i64 (IntKind.i64.wrap (((fbits false E M : Nat) : Int).fdiv (2 ^ min (52 : Int).toNat IntKind.u64.bits))) 2047 - 1023)) < -1022) = true := h3
    rw [hx] at h3
    have := of_decide_eq_true h3; omega
  refine ⟨by decide, ?_⟩
  refine callK.eq (f64from _) ?_
  refine ⟨rfl, optK.mk (y := fbits false E2 M) ?_ ?_⟩
  · have hw := word_of h (fbits false E M : Nat) _ rfl E2 h2 hx
    have hw2 := congrArg Int.toNat hw
    refine (congrArg (fun z => floatBits .mul .f64 4607182418800017408 z) hw2).trans ?_
    rw [Int.toNat_natCast, ← fbits_pos, one_f, mul_swap ⟨by decide, by decide, by decide⟩ ⟨h.lo, h.hi, h2⟩]
    exact mul_fbits ⟨h.lo, h.hi, h2⟩ false (by decide) h2 (by omega)
  · exact fin_eq (.flt _ _) rfl rfl

theorem ldexpF {E M E2 : Nat} (h : FOk E M) (h2 : E2 ≤ 2045) (e : Int) (he : (E2 : Int) = E + e) : FnC Try.prog 63 [.flt .f64 (fbits false E M), .int .i64 e] (· = .flt .f64 (fbits false E2 M)) := by
  refine FnC.mk Try.func63 rfl rfl (Nat.le_of_ble_eq_true rfl) (by simp) (by rintro _ rfl; simp) ?_
  refine joinK.direct ⟨fun h => (by cases h), fun _ => join_go ?_⟩
  refine callK.eq (ldexp0 h h2 e he) ?_
  exact fin_eq (.flt _ _) rfl rfl
end Go.Proofs.Ytaddmokllmdngaa
end
section
namespace Go.Proofs.Ytaddmokllmdngaa
set_option linter.unusedSimpArgs false
set_option linter.unusedVariables false
open Go Go.Pv Go.RowKit
set_option maxRecDepth 10000
set_option exponentiation.threshold 1000

def mT (N n : Nat) : Nat := bitLen (N * 2 ^ 200 / n) - 54
def mQ (N n : Nat) : Nat := N * 2 ^ 200 / (n * 2 ^ mT N n)
def mS (N n : Nat) : Bool := decide (N * 2 ^ 200 % (n * 2 ^ mT N n) ≠ 0)
def mW (q : Nat) (s : Bool) : Nat := q / 2 + bif (q % 2 == 1) && (s || q / 2 % 2 == 1) then 1 else 0
/-- The word of w times 2 ^ (T - 199). -/
def mB (neg : Bool) (T w : Nat) : Nat := bif w == 9007199254740992 then fbits neg (T + 876) 4503599627370496 else fbits neg (T + 875) w
def meanB (neg : Bool) (N n : Nat) : Nat := mB neg (mT N n) (mW (mQ N n) (mS N n))

theorem bitLen_54 {q : Nat} (h1 : 9007199254740992 ≤ q) (h2 : q < 18014398509481984) : bitLen q = 54 := by
  unfold bitLen
  rw [if_neg (by omega)]
  have : q.log2 = 53 := (Nat.log2_eq_iff (by omega)).2 ⟨by omega, by omega⟩
  omega
/-- q bits of the quotient, at the place T. -/
structure MeanOk (N n T q : Nat) (s : Bool) : Prop where
  hq : q = N * 2 ^ 200 / (n * 2 ^ T)
  hs : s = decide (N * 2 ^ 200 % (n * 2 ^ T) ≠ 0)
  h1 : 9007199254740992 ≤ q
  h2 : q < 18014398509481984
theorem MeanOk.uniq {N n T q : Nat} {s : Bool} (h : MeanOk N n T q s) : T = mT N n ∧ q = mQ N n ∧ s = mS N n := by
  have hT : T = mT N n := by
    have e := h.hq
    rw [← Nat.div_div_eq_div_mul] at e
    have h3 := bitLen_shift (N * 2 ^ 200 / n) T (by rw [← e]; have := h.h1; omega)
    rw [← e, bitLen_54 h.h1 h.h2] at h3
    unfold mT
    rw [h3]; omega
  subst hT
  exact ⟨rfl, h.hq, h.hs⟩
theorem MeanOk.range {N n T q : Nat} {s : Bool} (h : MeanOk N n T q s) (hN : N < 2 ^ 128) (hN0 : 0 < N) (hn : n < 2 ^ 64) (hn0 : 0 < n) : 80 ≤ T ∧ T ≤ 300 := by
  have hp : 0 < 2 ^ T := Nat.pow_pos (by decide)
  have hnT : 0 < n * 2 ^ T := Nat.mul_pos hn0 hp
  constructor
  · rcases Nat.lt_or_ge T 80 with hlt | hge
    · exfalso
      have h2 := h.h2
      rw [h.hq, Nat.div_lt_iff_lt_mul hnT] at h2
      have h3 : n * 2 ^ T ≤ 2 ^ 64 * 2 ^ 79 := Nat.mul_le_mul (Nat.le_of_lt hn) (Nat.pow_le_pow_right (by decide) (by omega))
      have h4 : 18014398509481984 * (n * 2 ^ T) ≤ 18014398509481984 * (2 ^ 64 * 2 ^ 79) := Nat.mul_le_mul_left _ h3
      have h5 : 1 * 2 ^ 200 ≤ N * 2 ^ 200 := Nat.mul_le_mul_right _ hN0
      have h6 : 18014398509481984 * (2 ^ 64 * 2 ^ 79) ≤ 1 * 2 ^ 200 := by decide
      omega
    · exact hge
  · rcases Nat.lt_or_ge 300 T with hlt | hge
    · exfalso
      have h1 := h.h1
      rw [h.hq, Nat.le_div_iff_mul_le hnT] at h1
      have h3 : 1 * 2 ^ 301 ≤ n * 2 ^ T := Nat.mul_le_mul hn0 (Nat.pow_le_pow_right (by decide) hlt)
      have h4 : 9007199254740992 * (1 * 2 ^ 301) ≤ 9007199254740992 * (n * 2 ^ T) := Nat.mul_le_mul_left _ h3
      have h5 : N * 2 ^ 200 < 2 ^ 128 * 2 ^ 200 := Nat.mul_lt_mul_of_pos_right hN (by decide)
      have h6 : 2 ^ 128 * 2 ^ 200 ≤ 9007199254740992 * (1 * 2 ^ 301) := by decide
      omega
    · exact hge
theorem mW_range {q : Nat} (s : Bool) (h1 : 9007199254740992 ≤ q) (h2 : q < 18014398509481984) : 4503599627370496 ≤ mW q s ∧ mW q s ≤ 9007199254740992 := by
  unfold mW
  cases (q % 2 == 1) && (s || q / 2 % 2 == 1) <;> simp only [cond_true, cond_false] <;> omega

/-- So many bits up (k), so many down (j): the same, told with 200. -/
theorem mean_of {N n k j q : Nat} {s : Bool} (hk : k ≤ 200) (hq : q = N * 2 ^ k / (n * 2 ^ j)) (hs : s = decide (N * 2 ^ k % (n * 2 ^ j) ≠ 0)) (h1 : 9007199254740992 ≤ q) (h2 : q < 18014398509481984) :
    MeanOk N n (200 - k + j) q s := by
  have hp : 0 < 2 ^ (200 - k) := Nat.pow_pos (by decide)
  have e1 : N * 2 ^ 200 = N * 2 ^ k * 2 ^ (200 - k) := by rw [Nat.mul_assoc, ← Nat.pow_add, show k + (200 - k) = 200 from by omega]
  have e2 : n * 2 ^ (200 - k + j) = n * 2 ^ j * 2 ^ (200 - k) := by rw [Nat.mul_assoc, ← Nat.pow_add, Nat.add_comm j]
  refine ⟨?_, ?_, h1, h2⟩
  · rw [e1, e2, Nat.mul_div_mul_right _ _ hp]; exact hq
  · rw [e1, e2, Nat.mul_mod_mul_right, hs, decide_eq_decide]
    have : N * 2 ^ k % (n * 2 ^ j) * 2 ^ (200 - k) = 0 ↔ N * 2 ^ k % (n * 2 ^ j) = 0 := by
      rw [Nat.mul_eq_zero]
      exact ⟨fun h => h.resolve_right (by omega), .inl⟩
    omega
/-- One bit more up. -/
theorem up_step (X n : Nat) (hn : 0 < n) : (X * 2) / n = X / n * 2 + (if n ≤ X % n * 2 then 1 else 0) ∧ (X * 2) % n = (if n ≤ X % n * 2 then X % n * 2 - n else X % n * 2) := by
  have h := Nat.div_add_mod X n
  have hlt := Nat.mod_lt X hn
  have e : X * 2 = X % n * 2 + n * (X / n * 2) := by
    rw [← Nat.mul_assoc]
    generalize n * (X / n) = p at *
    omega
  rw [e, Nat.add_mul_div_left _ _ hn, Nat.add_mul_mod_self_left]
  split
  · rename_i h1
    have e2 : X % n * 2 = (X % n * 2 - n) + n * 1 := by omega
    constructor
    · rw [e2, Nat.add_mul_div_left _ _ hn, Nat.div_eq_of_lt (by omega)]; omega
    · conv => lhs; rw [e2]
      rw [Nat.add_mul_mod_self_left, Nat.mod_eq_of_lt (by omega)]
  · rename_i h1
    constructor
    · rw [Nat.div_eq_of_lt (by omega)]; omega
    · rw [Nat.mod_eq_of_lt (by omega)]
/-- One bit more down. -/
theorem down_step (X m : Nat) (hm : 0 < m) : X / (m * 2) = X / m / 2 ∧ (X % (m * 2) ≠ 0 ↔ X % m ≠ 0 ∨ X / m % 2 = 1) := by
  refine ⟨(Nat.div_div_eq_div_mul _ _ _).symm, ?_⟩
  rw [Nat.mod_mul]
  have h2 := Nat.mod_two_eq_zero_or_one (X / m)
  rcases h2 with h2 | h2 <;> rw [h2] <;> omega
end Go.Proofs.Ytaddmokllmdngaa
end
section
namespace Go.Proofs.Ytaddmokllmdngaa
set_option linter.unusedSimpArgs false
set_option linter.unusedVariables false
open Go Go.Pv Go.RowKit
set_option maxRecDepth 10000
set_option exponentiation.threshold 1000

theorem xor_top (x : Nat) (h : x < 2 ^ 63) : x ^^^ 2 ^ 63 = 2 ^ 63 + x := by
  apply Nat.eq_of_testBit_eq
  intro i
  rw [Nat.testBit_xor, Nat.testBit_two_pow]
  rcases Nat.lt_trichotomy i 63 with h1 | h1 | h1
  · rw [Nat.testBit_two_pow_add_gt h1]
    simp [show ¬ 63 = i from by omega]
  · subst h1
    rw [Nat.testBit_two_pow_add_eq]
    simp
  · have h2 : 2 ^ 64 ≤ 2 ^ i := Nat.pow_le_pow_right (by decide) (by omega)
    rw [Nat.testBit_lt_two_pow (show x < 2 ^ i by omega), Nat.testBit_lt_two_pow (show 2 ^ 63 + x < 2 ^ i by omega)]
    simp [show ¬ 63 = i from by omega]
theorem neg_fbits {E M : Nat} (h : FOk E M) : Op.negFloat .f64 (fbits false E M) = fbits true E M := by
  obtain ⟨h1, h2, h3⟩ := h
  rw [fbits_pos, fbits_neg]
  have := xor_top (E * 4503599627370496 + M) (by omega)
  exact this
theorem mB_max (neg : Bool) (T : Nat) : mB neg T 9007199254740992 = fbits neg (T + 876) 4503599627370496 := rfl
theorem mB_lt (neg : Bool) (T : Nat) {w : Nat} (h : w ≠ 9007199254740992) : mB neg T w = fbits neg (T + 875) w := by
  unfold mB; rw [beq_eq_false_iff_ne.2 h, cond_false]
theorem neg_mB {T w : Nat} (hT : T ≤ 300) (h1 : 4503599627370496 ≤ w) (h2 : w ≤ 9007199254740992) : Op.negFloat .f64 (mB false T w) = mB true T w := by
  by_cases hb : w = 9007199254740992
  · rw [hb, mB_max, mB_max]; exact neg_fbits ⟨by decide, by decide, by omega⟩
  · rw [mB_lt _ _ hb, mB_lt _ _ hb]; exact neg_fbits ⟨by omega, by omega, by omega⟩
theorem f64_near (w : Nat) : FloatKind.f64.nearest (w : Int) = Ieee.double.nearest false w 0 := by
  show Ieee.double.nearest (decide ((w : Int) < 0)) (w : Int).natAbs 0 = _
  rw [decide_eq_false (by omega), Int.natAbs_natCast]
theorem f64_max : FloatKind.f64.nearest ((9007199254740992 : Nat) : Int) = fbits false 1075 4503599627370496 := by
  rw [f64_near]
  exact nearest_fbits (E := 1075) (M := 4503599627370496) ⟨by decide, by decide, by decide⟩ false 1 0 (by decide)
theorem f64_lt {w : Nat} (h1 : 4503599627370496 ≤ w) (h2 : w < 9007199254740992) : FloatKind.f64.nearest (w : Int) = fbits false 1074 w := by
  rw [f64_near]
  have := nearest_fbits (E := 1074) (M := w) ⟨h1, h2, by decide⟩ false 0 0 (by decide)
  rw [Nat.pow_zero, Nat.mul_one] at this
  exact this
theorem ldexpW {T w : Nat} (hT : T ≤ 300) (h1 : 4503599627370496 ≤ w) (h2 : w ≤ 9007199254740992) (e : Int) (he : e = (T : Int) - 199) :
    FnC Try.prog 63 [.flt .f64 (FloatKind.f64.nearest (w : Int)), .int .i64 e] (· = .flt .f64 (mB false T w)) := by
  by_cases hb : w = 9007199254740992
  · rw [hb, f64_max, mB_max]; exact ldexpF ⟨by decide, by decide, by decide⟩ (by omega) e (by omega)
  · rw [f64_lt h1 (by omega), mB_lt _ _ hb]; exact ldexpF ⟨h1, by omega, by decide⟩ (by omega) e (by omega)

def meanD (x n : Int) : DV :=
  if n < 1 then .tup [.flt .f64 0, .int .i64 2] else if x = 0 then .tup [.flt .f64 0, .int .i64 0] else .tup [.flt .f64 (meanB (decide (x < 0)) x.natAbs n.toNat), .int .i64 0]
theorem blw_meanD (x n : Int) : Blw 0 (meanD x n) := by unfold meanD; split <;> (try split) <;> simp

theorem len_54 (x : Nat) : (bitLen x : Int) < 54 ↔ x < 9007199254740992 := by
  have h := bitLen_spec x
  constructor
  · intro h1
    have h2 : 2 ^ bitLen x ≤ 2 ^ 53 := Nat.pow_le_pow_right (by decide) (by omega)
    omega
  · intro h1
    rcases Nat.eq_zero_or_pos x with e | e
    · subst e; decide
    · have h2 := h.2 (by omega)
      rcases Nat.lt_or_ge (bitLen x) 54 with h3 | h3
      · omega
      · have h4 : 2 ^ 53 ≤ 2 ^ (bitLen x - 1) := Nat.pow_le_pow_right (by decide) (by omega)
        omega
theorem len_gt54 (x : Nat) : (bitLen x : Int) > 54 ↔ 18014398509481984 ≤ x := by
  have h := bitLen_spec x
  constructor
  · intro h1
    have h2 := h.2 (by rintro rfl; revert h1; decide)
    have h4 : 2 ^ 54 ≤ 2 ^ (bitLen x - 1) := Nat.pow_le_pow_right (by decide) (by omega)
    omega
  · intro h1
    rcases Nat.lt_or_ge 54 (bitLen x) with h3 | h3
    · omega
    · have h4 : 2 ^ bitLen x ≤ 2 ^ 54 := Nat.pow_le_pow_right (by decide) h3
      omega
theorem k_bound {N n k : Nat} (hN : 0 < N) (hn : n < 2 ^ 63) (hn0 : 0 < n) (h : N * 2 ^ k / n < 9007199254740992) : k < 116 := by
  rcases Nat.lt_or_ge k 116 with h1 | h1
  · exact h1
  · exfalso
    rw [Nat.div_lt_iff_lt_mul hn0] at h
    have h2 : 1 * 2 ^ 116 ≤ N * 2 ^ k := Nat.mul_le_mul hN (Nat.pow_le_pow_right (by decide) h1)
    have h3 : 9007199254740992 * n ≤ 9007199254740992 * 2 ^ 63 := Nat.mul_le_mul_left _ (Nat.le_of_lt hn)
    have h4 : 9007199254740992 * 2 ^ 63 = 1 * 2 ^ 116 := by decide
    omega
end Go.Proofs.Ytaddmokllmdngaa
end
section
namespace Go.Proofs.Ytaddmokllmdngaa
set_option linter.unusedSimpArgs false
set_option linter.unusedVariables false
open Go Go.Pv Go.RowKit
set_option maxRecDepth 10000
set_option exponentiation.threshold 1000

theorem quo_128 (N m : Nat) (hm : 0 < m) (hN : N < 2 ^ 128) : ((0 * 18446744073709551616 + N / 18446744073709551616) / m = N / m / 18446744073709551616) ∧
    (((0 * 18446744073709551616 + N / 18446744073709551616) % m * 18446744073709551616 + N % 18446744073709551616) / m = N / m % 18446744073709551616) ∧
    (((0 * 18446744073709551616 + N / 18446744073709551616) % m * 18446744073709551616 + N % 18446744073709551616) % m = N % m) := by
  have h := two_digs' (B := 18446744073709551616) (Y := m) (N := N / 18446744073709551616) (w0 := N % 18446744073709551616) hm
  rw [Nat.zero_mul, Nat.zero_add]
  have e : N / 18446744073709551616 * 18446744073709551616 + N % 18446744073709551616 = N := by omega
  rw [e] at h
  have hlt := Nat.mod_lt (N / 18446744073709551616) hm
  have hq : (N / 18446744073709551616 % m * 18446744073709551616 + N % 18446744073709551616) / m < 18446744073709551616 := by
    rw [Nat.div_lt_iff_lt_mul hm]; omega
  obtain ⟨h1, h2⟩ := h
  generalize (N / 18446744073709551616 % m * 18446744073709551616 + N % 18446744073709551616) / m = b at *
  generalize N / 18446744073709551616 / m = a at *
  generalize N / m = c at *
  exact ⟨by omega, by omega, h2⟩

theorem tup_fe {k : FloatKind} {a b : Nat} {k' : IntKind} {z : Int} (h : a = b) : DV.tup [.flt k a, .int k' z] = .tup [.flt k b, .int k' z] := by rw [h]

theorem blw_wi (x n : Int) : ∀ d ∈ [wideD x, .int .i64 n], Blw 0 d := by
  intro d hd
  simp only [List.mem_cons, List.not_mem_nil, or_false] at hd
  rcases hd with rfl | rfl
  · exact blw_wideD _
  · simp
theorem ne_dec (r : Nat) : ((r : Int) != 0) = decide (r ≠ 0) := by
  rw [Bool.eq_iff_iff]; simp
theorem round_w (V : Nat) (st : Bool) (h1 : 9007199254740992 ≤ V) (h2 : V < 18014398509481984) :
    (bif (IntKind.u64.wrap ((BitVec.ofInt IntKind.u64.bits ((V % 18446744073709551616 : Nat) : Int) &&& BitVec.ofInt IntKind.u64.bits 1).toNat : Int) == 1) then
      (bif st then true else (IntKind.u64.wrap ((BitVec.ofInt IntKind.u64.bits (((V % 18446744073709551616 : Nat) : Int).fdiv (2 ^ min (1 : Int).toNat IntKind.u64.bits)) &&& BitVec.ofInt IntKind.u64.bits 1).toNat : Int) == 1)) else false) =
    ((V % 2 == 1) && (st || V / 2 % 2 == 1)) := by
  have h3 : ∀ x : Nat, x < 18446744073709551616 → (IntKind.u64.wrap ((BitVec.ofInt IntKind.u64.bits (x : Int) &&& BitVec.ofInt IntKind.u64.bits 1).toNat : Int) == 1) = (x % 2 == 1) := by
    intro x hx
    have h3 : (BitVec.ofInt 64 ((x : Nat) : Int) &&& BitVec.ofInt 64 1).toNat = x % 2 := by
      rw [BitVec.toNat_and, BitVec.ofInt_natCast, BitVec.toNat_ofNat, Nat.mod_eq_of_lt hx]
      show _ &&& 1 = _
      exact Nat.and_two_pow_sub_one_eq_mod _ 1
    rw [show (BitVec.ofInt IntKind.u64.bits ((x : Nat) : Int) &&& BitVec.ofInt IntKind.u64.bits 1).toNat = _ from h3, IntKind.wrap_u64, Bool.eq_iff_iff]
    simp only [beq_iff_eq]; omega
  have hv : V % 18446744073709551616 = V := Nat.mod_eq_of_lt (by omega)
  rw [hv, h3 V (by omega), show (V : Int).fdiv (2 ^ min (1 : Int).toNat IntKind.u64.bits) = ((V / 2 : Nat) : Int) from fdiv_lit V 1 (by decide), h3 (V / 2) (by omega), Bool.cond_false_right, Bool.cond_true_left]
/-- What the first loop holds. -/
structure UpJ (N m k : Nat) : Prop where
  h1 : k ≤ 116
  h2 : k = 0 ∨ (N / m < 18446744073709551616 ∧ N * 2 ^ k / m < 18014398509481984)
theorem UpJ.next {N m k : Nat} (hN : 0 < N) (hm : 0 < m) (hm2 : m < 2 ^ 63) (h : UpJ N m k) (ht : N / m < 18446744073709551616) (hl : N * 2 ^ k / m % 18446744073709551616 < 9007199254740992) :
    N * 2 ^ k / m < 9007199254740992 ∧ UpJ N m (k + 1) ∧ (IntKind.u64.wrap (((N * 2 ^ k % m : Nat) : Int) * 2) = ((N * 2 ^ k % m * 2 : Nat) : Int)) ∧
    (m ≤ N * 2 ^ k % m * 2 → IntKind.u64.wrap (((N * 2 ^ k % m * 2 : Nat) : Int) - (m : Int)) = ((N * 2 ^ (k + 1) % m : Nat) : Int) ∧ IntKind.u64.wrap (IntKind.u64.wrap (((N * 2 ^ k / m % 18446744073709551616 : Nat) : Int) * 2) + 1) = ((N * 2 ^ (k + 1) / m % 18446744073709551616 : Nat) : Int)) ∧
    (N * 2 ^ k % m * 2 < m → N * 2 ^ k % m * 2 = N * 2 ^ (k + 1) % m ∧ IntKind.u64.wrap (((N * 2 ^ k / m % 18446744073709551616 : Nat) : Int) * 2) = ((N * 2 ^ (k + 1) / m % 18446744073709551616 : Nat) : Int)) := by
  have hA : N * 2 ^ k / m < 9007199254740992 := by
    rcases h.h2 with e | ⟨_, e⟩
    · subst e; rw [Nat.pow_zero, Nat.mul_one] at hl ⊢; rwa [Nat.mod_eq_of_lt ht] at hl
    · rwa [Nat.mod_eq_of_lt (by omega)] at hl
  have hk := k_bound hN hm2 hm hA
  have hup := up_step (N * 2 ^ k) m hm
  have e2 : N * 2 ^ (k + 1) = N * 2 ^ k * 2 := by rw [Nat.pow_succ, Nat.mul_assoc]
  have hr := Nat.mod_lt (N * 2 ^ k) hm
  rw [← e2] at hup
  obtain ⟨u1, u2⟩ := hup
  have hA2 : N * 2 ^ (k + 1) / m < 18014398509481984 := by rw [u1]; split <;> omega
  refine ⟨hA, ⟨by omega, .inr ⟨ht, hA2⟩⟩, ?_, fun hge => ?_, fun hlt => ?_⟩
  · generalize N * 2 ^ k % m = r at *
    rw [IntKind.wrap_u64]; omega
  · rw [if_pos hge] at u1 u2
    rw [u1, u2]
    generalize N * 2 ^ k % m = r at *
    generalize N * 2 ^ k / m = a at *
    simp only [IntKind.wrap_u64]
    omega
  · rw [if_neg (by omega)] at u1 u2
    rw [u1, u2]
    generalize N * 2 ^ k % m = r at *
    generalize N * 2 ^ k / m = a at *
    simp only [IntKind.wrap_u64]
    exact ⟨trivial, by omega⟩
/-- What the second loop holds (k up, j down). -/
structure DownJ (N m k j : Nat) : Prop where
  h1 : j ≤ 128
  h2 : 9007199254740992 ≤ N * 2 ^ k / (m * 2 ^ j)
  h3 : N * 2 ^ k / m < 2 ^ 128
theorem UpJ.down {N m k : Nat} (hN : N < 2 ^ 128) (h : UpJ N m k) (hx : ¬ (N / m < 18446744073709551616 ∧ N * 2 ^ k / m % 18446744073709551616 < 9007199254740992)) :
    DownJ N m k 0 ∧ N / m / 18446744073709551616 = N * 2 ^ k / (m * 2 ^ 0) / 18446744073709551616 ∧ N * 2 ^ k / m % 18446744073709551616 = N * 2 ^ k / (m * 2 ^ 0) % 18446744073709551616 := by
  have hNm := Nat.div_le_self N m
  have key : 9007199254740992 ≤ N * 2 ^ k / m ∧ N * 2 ^ k / m < 2 ^ 128 ∧ N / m / 18446744073709551616 = N * 2 ^ k / m / 18446744073709551616 := by
    rcases h.h2 with e | ⟨g1, g2⟩
    · subst e
      rw [Nat.pow_zero, Nat.mul_one] at *
      generalize N / m = b at *
      omega
    · generalize N * 2 ^ k / m = a at *
      generalize N / m = b at *
      omega
  refine ⟨⟨by omega, ?_, key.2.1⟩, ?_, ?_⟩ <;> rw [Nat.pow_zero, Nat.mul_one]
  · exact key.1
  · exact key.2.2
theorem DownJ.lt {N m k j : Nat} (h : DownJ N m k j) : N * 2 ^ k / (m * 2 ^ j) < 2 ^ 128 := by
  rw [← Nat.div_div_eq_div_mul]
  exact Nat.lt_of_le_of_lt (Nat.div_le_self _ _) h.h3
theorem DownJ.next {N m k j : Nat} (hm : 0 < m) (h : DownJ N m k j) (hV : 18014398509481984 ≤ N * 2 ^ k / (m * 2 ^ j)) :
    DownJ N m k (j + 1) ∧ N * 2 ^ k / (m * 2 ^ (j + 1)) = N * 2 ^ k / (m * 2 ^ j) / 2 ∧ (N * 2 ^ k % (m * 2 ^ (j + 1)) ≠ 0 ↔ N * 2 ^ k % (m * 2 ^ j) ≠ 0 ∨ N * 2 ^ k / (m * 2 ^ j) % 2 = 1) := by
  have hp : 0 < m * 2 ^ j := Nat.mul_pos hm (Nat.pow_pos (by decide))
  have hd := down_step (N * 2 ^ k) (m * 2 ^ j) hp
  rw [Nat.mul_assoc m, ← Nat.pow_succ] at hd
  have hj : j < 128 := by
    rcases Nat.lt_or_ge j 128 with h1 | h1
    · exact h1
    · exfalso
      have h3 := h.h3
      rw [← Nat.div_div_eq_div_mul] at hV
      have h4 : N * 2 ^ k / m < 2 ^ j := Nat.lt_of_lt_of_le h3 (Nat.pow_le_pow_right (by decide) h1)
      rw [Nat.div_eq_of_lt h4] at hV
      omega
  exact ⟨⟨by omega, by rw [hd.1]; omega, h.h3⟩, hd⟩
theorem low_and (x : Nat) (hx : x < 18446744073709551616) : (IntKind.u64.wrap ((BitVec.ofInt IntKind.u64.bits (x : Int) &&& BitVec.ofInt IntKind.u64.bits 1).toNat : Int) == 1) = (x % 2 == 1) := by
  have h3 : (BitVec.ofInt 64 ((x : Nat) : Int) &&& BitVec.ofInt 64 1).toNat = x % 2 := by
    rw [BitVec.toNat_and, BitVec.ofInt_natCast, BitVec.toNat_ofNat, Nat.mod_eq_of_lt hx]
    show _ &&& 1 = _
    exact Nat.and_two_pow_sub_one_eq_mod _ 1
  rw [show (BitVec.ofInt IntKind.u64.bits ((x : Nat) : Int) &&& BitVec.ofInt IntKind.u64.bits 1).toNat = _ from h3, IntKind.wrap_u64, Bool.eq_iff_iff]
  simp; omega
theorem shr1 (x : Nat) : (x : Int).fdiv (2 ^ min (1 : Int).toNat IntKind.u64.bits) = ((x / 2 : Nat) : Int) := fdiv_lit x 1 (by decide)
theorem half_low (V : Nat) (hV : V < 2 ^ 128) : IntKind.u64.wrap ((BitVec.ofInt IntKind.u64.bits (((V % 18446744073709551616 : Nat) : Int).fdiv (2 ^ min (1 : Int).toNat IntKind.u64.bits)) ||| BitVec.ofInt IntKind.u64.bits (IntKind.u64.wrap (((V / 18446744073709551616 : Nat) : Int) * 2 ^ min (63 : Int).toNat IntKind.u64.bits))).toNat : Int) = ((V / 2 % 18446744073709551616 : Nat) : Int) := by
  rw [shr1, show IntKind.u64.wrap (((V / 18446744073709551616 : Nat) : Int) * 2 ^ min (63 : Int).toNat IntKind.u64.bits) = ((V / 18446744073709551616 % 2 * 2 ^ 63 : Nat) : Int) from by
    rw [show min (63 : Int).toNat IntKind.u64.bits = 63 from rfl, IntKind.wrap_u64]; omega]
  have := or_add (V / 18446744073709551616 % 2) (V % 18446744073709551616 / 2) 63 (by omega) (by omega) (by decide)
  rw [BitVec.or_comm] at this
  rw [this]
  omega
theorem top_test (V : Nat) : (bif (((V / 18446744073709551616 : Nat) : Int) != 0) then true else decide ((bitLen (V % 18446744073709551616) : Int) > 54)) = decide (18014398509481984 ≤ V) := by
  rw [Bool.cond_true_left, Bool.eq_iff_iff]
  have := len_gt54 (V % 18446744073709551616)
  simp only [Bool.or_eq_true, decide_eq_true_eq, bne_iff_ne]
  omega
theorem bit_test (V m : Nat) : (bif (((V / 18446744073709551616 : Nat) : Int) == 0) then decide ((bitLen (m % 18446744073709551616) : Int) < 54) else false) = (decide (V < 18446744073709551616) && decide (m % 18446744073709551616 < 9007199254740992)) := by
  rw [Bool.cond_false_right, Bool.eq_iff_iff]
  have := len_54 (m % 18446744073709551616)
  simp only [Bool.and_eq_true, decide_eq_true_eq, beq_iff_eq]
  omega

set_option maxHeartbeats 2000000 in
theorem meanW (x n : Int) (hx : in128 x) (hn : i64R n) : FnC Try.prog 35 [wideD x, .int .i64 n] (· = meanD x n) := by
  by_cases hn1 : n < 1
  · refine FnC.mk Try.func35 rfl rfl (Nat.le_of_ble_eq_true rfl) (blw_wi _ _) (by rintro _ rfl; exact blw_meanD _ _) ?_
    refine joinK.direct ⟨fun _ => ?_, fun h => absurd hn1 (of_decide_eq_false h)⟩
    refine fin_eq (.tup [.flt _ _, .int _ _]) rfl ?_
    unfold meanD; rw [if_pos hn1]
  obtain ⟨m, rfl⟩ : ∃ m : Nat, n = m := ⟨n.toNat, by omega⟩
  have hm : 0 < m := by omega
  have hm2 : m < 2 ^ 63 := by have := hn.2; omega
  have hhi := hi_in hx
  obtain ⟨N, hNe⟩ : ∃ N, N = x.natAbs := ⟨_, rfl⟩
  have hN : N < 2 ^ 128 := by have := hx.1; have := hx.2; omega
  have c0 := sizeW x hx
  rw [← hNe] at c0
  have hz : (bif (((N / 18446744073709551616 : Nat) : Int) == 0) then (((N % 18446744073709551616 : Nat) : Int) == 0) else false) = decide (N = 0) := by
    rw [Bool.cond_false_right, Bool.eq_iff_iff]
    simp only [Bool.and_eq_true, decide_eq_true_eq, beq_iff_eq]
    omega
  by_cases hN0 : N = 0
  · refine FnC.mk Try.func35 rfl rfl (Nat.le_of_ble_eq_true rfl) (blw_wi _ _) (by rintro _ rfl; exact blw_meanD _ _) ?_
    refine joinK.direct ⟨fun h => absurd (of_decide_eq_true h) hn1, fun _ => join_go ?_⟩
    refine callK.eq c0 ?_
    refine joinK.direct ?_
    refine guardK.spec ?_
    refine ⟨fun _ => ?_, fun h2 => absurd hN0 (of_decide_eq_false (hz.symm.trans h2))⟩
    refine fin_eq (.tup [.flt _ _, .int _ _]) rfl ?_
    unfold meanD; rw [if_neg hn1, if_pos (by omega)]
  have hN0 : 0 < N := by omega
  have hmD : meanD x m = .tup [.flt .f64 (meanB (decide (x < 0)) N m), .int .i64 0] := by unfold meanD; rw [if_neg hn1, if_neg (by omega), Int.toNat_natCast, hNe]
  have hneg : decide (hiW x < 0) = decide (x < 0) := by rw [decide_eq_decide]; omega
  obtain ⟨q1, q2, q3⟩ := quo_128 N m hm hN
  have ew : ((m : Nat) : Int) = IntKind.u64.wrap (m : Int) := by rw [IntKind.wrap_u64]; omega
  have c1 := div64 0 (N / 18446744073709551616) m hm (by omega) (by omega)
  have c2 := div64 ((0 * 18446744073709551616 + N / 18446744073709551616) % m) (N % 18446744073709551616) m (Nat.mod_lt _ hm) (by omega) (by omega)
  rw [q1, ew] at c1
  rw [q2, q3, ew] at c2
  refine FnC.mk Try.func35 rfl rfl (Nat.le_of_ble_eq_true rfl) (blw_wi _ _) (by rintro _ rfl; exact blw_meanD _ _) ?_
  refine joinK.direct ⟨fun h => absurd (of_decide_eq_true h) hn1, fun _ => join_go ?_⟩
  refine callK.eq c0 ?_
  refine joinK.direct ?_
  refine guardK.spec ?_
  refine ⟨fun h2 => absurd (of_decide_eq_true (hz.symm.trans h2)) (by omega), fun _ => join_go ?_⟩
  refine callK.eq c1 ?_
  refine callK.eq c2 ?_
  refine joinK.direct ?_
  refine loopK.use [2, 8, 9, 10, 11, 12] (fun k : Nat => [.pobj 0 0 0, .int .u64 (IntKind.u64.wrap (m : Int)), .int .u64 (N / m / 18446744073709551616 : Nat), .int .u64 (N * 2 ^ k % m : Nat), .int .u64 (N * 2 ^ k / m % 18446744073709551616 : Nat), .int .i64 (-(k : Int))]) (fun _ => [widePO (wideC x)])
    (fun k => UpJ N m k) (fun k => 117 - k) 0 ⟨by decide, .inl rfl⟩ ⟨rfl, rfl, rfl, int_eq (by rw [Nat.pow_zero, Nat.mul_one]), int_eq (by rw [Nat.pow_zero, Nat.mul_one]), rfl, trivial⟩ (.inl rfl) ?_
  intro k hk
  have hlow : N * 2 ^ k / m % 18446744073709551616 < 18446744073709551616 := Nat.mod_lt _ (by decide)
  have hbt := bit_test (N / m) (N * 2 ^ k / m)
  refine joinK.direct ?_
  refine guardK.spec ?_
  refine callE.mk (len64 _ hlow) ?_
  refine ⟨fun h => join_go ?_, fun h => join_go ?_⟩
  · have h : _ = true := hbt.symm.trans h
    have h : N / m < 18446744073709551616 ∧ N * 2 ^ k / m % 18446744073709551616 < 9007199254740992 := by simpa using h
    have hnx := UpJ.next hN0 hm hm2 hk h.1 h.2
    have g2 := hnx.2.1
    have g3 := hnx.2.2.1
    have g4 := hnx.2.2.2.1
    have g5 := hnx.2.2.2.2
    clear hnx
    have hk1 := hk.h1
    have hk2 := g2.h1
    refine joinK.direct ⟨fun h3 => ?_, fun h3 => ?_⟩
    · have h3 : decide (IntKind.u64.wrap (((N * 2 ^ k % m : Nat) : Int) * 2) ≥ IntKind.u64.wrap (m : Int)) = true := h3
      rw [g3, ← ew] at h3
      have h3 := of_decide_eq_true h3
      have g67 := g4 (by omega)
      have g6 := g67.1
      have g7 := g67.2
      refine join_go (loop_next (k + 1) g2 (by omega) ⟨rfl, rfl, rfl, int_eq ?_, int_eq g7, int_eq ?_, trivial⟩ (.inl rfl))
      · rw [g3, ← ew]; exact g6
      · rw [IntKind.wrap_i64]; omega
    · have h3 : decide (IntKind.u64.wrap (((N * 2 ^ k % m : Nat) : Int) * 2) ≥ IntKind.u64.wrap (m : Int)) = false := h3
      rw [g3, ← ew] at h3
      have h3 := of_decide_eq_false h3
      have g67 := g5 (by omega)
      have g6 := g67.1
      have g7 := g67.2
      refine join_go (loop_next (k + 1) g2 (by omega) ⟨rfl, rfl, rfl, int_eq ?_, int_eq g7, int_eq ?_, trivial⟩ (.inl rfl))
      · rw [g3, g6]
      · rw [IntKind.wrap_i64]; omega
  have h : _ = false := hbt.symm.trans h
  have h : ¬ (N / m < 18446744073709551616 ∧ N * 2 ^ k / m % 18446744073709551616 < 9007199254740992) := by simpa using h
  have hdn := UpJ.down hN hk h
  have d1 := hdn.1
  have d2 := hdn.2.1
  have d3 := hdn.2.2
  clear hdn
  have hk1 := hk.h1
  refine joinK.direct ?_
  refine loopK.use [2, 9, 11, 12, 13] (fun j : Nat => [.pobj 0 0 0, .int .u64 (N * 2 ^ k / (m * 2 ^ j) / 18446744073709551616 : Nat), .int .u64 (N * 2 ^ k / (m * 2 ^ j) % 18446744073709551616 : Nat), .int .i64 ((j : Int) - (k : Int)), .bool (decide (N * 2 ^ k % (m * 2 ^ j) ≠ 0))]) (fun _ => [widePO (wideC x)])
    (fun j => DownJ N m k j) (fun j => 129 - j) 0 d1 ⟨rfl, int_eq (by rw [d2]), int_eq (by rw [d3]), int_eq (by omega), bool_eq ?_, trivial⟩ (.inl rfl) ?_
  · rw [Nat.pow_zero, Nat.mul_one]
    exact ne_dec _
  intro j hj
  have hV := hj.lt
  have hj1 := hj.h1
  have hlo2 : N * 2 ^ k / (m * 2 ^ j) % 18446744073709551616 < 18446744073709551616 := Nat.mod_lt _ (by decide)
  have htt := top_test (N * 2 ^ k / (m * 2 ^ j))
  have hla := low_and (N * 2 ^ k / (m * 2 ^ j) % 18446744073709551616) hlo2
  refine joinK.direct ?_
  refine guardK.spec ?_
  refine callE.mk (len64 _ hlo2) ?_
  refine ⟨fun h => join_go ?_, fun h => join_go ?_⟩
  · have h : _ = true := htt.symm.trans h
    have h := of_decide_eq_true h
    have hnx := DownJ.next hm hj h
    have g1 := hnx.1
    have g2 := hnx.2.1
    have g3 := hnx.2.2
    have hj2 := g1.h1
    clear hnx
    have hhl := half_low _ hV
    refine guardK.spec ?_
    refine ⟨by decide, by decide, by decide, ?_⟩
    refine loop_next (j + 1) g1 (by omega) ⟨rfl, int_eq ?_, int_eq ?_, int_eq ?_, bool_eq ?_, trivial⟩ (.inl rfl)
    · rw [shr1, g2]
      generalize N * 2 ^ k / (m * 2 ^ j) = V at *
      omega
    · rw [g2]; exact hhl
    · rw [IntKind.wrap_i64]; omega
    · refine Eq.trans (congrArg (fun b => bif decide (N * 2 ^ k % (m * 2 ^ j) ≠ 0) then true else b) hla) ?_
      show (bif decide (N * 2 ^ k % (m * 2 ^ j) ≠ 0) then true else (N * 2 ^ k / (m * 2 ^ j) % 18446744073709551616 % 2 == 1)) = _
      rw [Bool.cond_true_left, Bool.eq_iff_iff]
      simp only [Bool.or_eq_true, decide_eq_true_eq, beq_iff_eq]
      rw [g3]
      generalize N * 2 ^ k / (m * 2 ^ j) = V at *
      omega
  have h : _ = false := htt.symm.trans h
  have h := of_decide_eq_false h
  have hok := mean_of (N := N) (n := m) (k := k) (j := j) (by omega) rfl rfl hj.h2 (by omega)
  have hun := hok.uniq
  have hrg := hok.range hN hN0 (by omega) hm
  have hVv := hok.h1
  have hVv2 := hok.h2
  have hwr := mW_range (decide (N * 2 ^ k % (m * 2 ^ j) ≠ 0)) hVv hVv2
  have hrw := round_w _ (decide (N * 2 ^ k % (m * 2 ^ j) ≠ 0)) hVv hVv2
  refine ⟨by decide, ?_⟩
  refine joinK.use [2, 12, 14] (fun _ : Unit => [.pobj 0 0 0, .int .i64 ((j : Int) - (k : Int)), .int .u64 (mW (N * 2 ^ k / (m * 2 ^ j)) (decide (N * 2 ^ k % (m * 2 ^ j) ≠ 0)) : Nat)]) (fun _ => [widePO (wideC x)]) (fun _ => True) ?_ ?_
  · refine guardK.spec ?_
    refine ⟨fun h2 => ?_, fun h2 => ?_⟩
    · have h2 : _ = true := hrw.symm.trans h2
      refine join_at () trivial ⟨rfl, rfl, int_eq ?_, trivial⟩ (.inl rfl)
      unfold mW
      rw [h2, shr1, cond_true]
      generalize N * 2 ^ k / (m * 2 ^ j) = V at *
      rw [IntKind.wrap_u64]; omega
    · have h2 : _ = false := hrw.symm.trans h2
      refine join_at () trivial ⟨rfl, rfl, int_eq ?_, trivial⟩ (.inl rfl)
      unfold mW
      rw [h2, shr1, cond_false]
      generalize N * 2 ^ k / (m * 2 ^ j) = V at *
      omega
  rintro ⟨⟩ -
  refine callK.eq (ldexpW (T := 200 - k + j) hrg.2 hwr.1 hwr.2 _ (by rw [IntKind.wrap_i64]; omega)) ?_
  have hres : meanB (decide (x < 0)) N m = mB (decide (x < 0)) (200 - k + j) (mW (N * 2 ^ k / (m * 2 ^ j)) (decide (N * 2 ^ k % (m * 2 ^ j) ≠ 0))) := by
    unfold meanB; rw [← hun.1, ← hun.2.1, ← hun.2.2]
  refine joinK.direct ⟨fun h2 => ?_, fun h2 => ?_⟩
  · have h2 : decide (x < 0) = true := hneg.symm.trans h2
    refine join_go (fin_eq (.tup [.flt _ _, .int _ _]) rfl ?_)
    rw [hmD, hres, h2]
    exact tup_fe (neg_mB hrg.2 hwr.1 hwr.2)
  · have h2 : decide (x < 0) = false := hneg.symm.trans h2
    refine join_go (fin_eq (.tup [.flt _ _, .int _ _]) rfl ?_)
    rw [hmD, hres, h2]
end Go.Proofs.Ytaddmokllmdngaa
end
section
namespace Go.Proofs.Ytaddmokllmdngaa
set_option linter.unusedSimpArgs false
set_option linter.unusedVariables false
open Go Go.Pv Go.RowKit Go.ChangeShapes Go.WideShapes Go.ChangeAt
set_option maxRecDepth 10000

theorem own : ownKnob Try.prog.godebug = none := by kernel_rfl
end Go.Proofs.Ytaddmokllmdngaa
end
section
namespace Go.Proofs.Ytaddmokllmdngaa
open Go Go.Pv Go.RowKit
set_option linter.unusedSimpArgs false
set_option linter.unusedVariables false
set_option maxRecDepth 10000
set_option exponentiation.threshold 1000

theorem numx_blw (x : Int) : ∀ ds ∈ [numC x], ∀ d ∈ ds, Blw 0 d := by
  intro ds h d hd
  simp only [List.mem_singleton] at h
  subst h
  simp only [numC, List.mem_cons, List.not_mem_nil, or_false] at hd
  rcases hd with rfl | rfl
  · rw [blw_list]; exact blw_digL _
  · simp
end Go.Proofs.Ytaddmokllmdngaa
end
section
namespace Go.Proofs.Ytaddmokllmdngaa
open Go Go.Pv Go.RowKit
set_option linter.unusedSimpArgs false
set_option linter.unusedVariables false
set_option maxRecDepth 10000
set_option exponentiation.threshold 1000

theorem addO (a b : Nat) : FnO Try.prog 55 [.list (digL a), .list (digL b)] false ⟨false, 1, 95, digL (a + b)⟩ := by
  refine FnO.mk Try.func55 rfl rfl (Nat.le_of_ble_eq_true rfl) ?_ (blw_digL (a + b)) ?_
  · intro d hd
    simp at hd
    rcases hd with rfl | rfl <;> simpa using blw_digL _
  refine callK.own zero ?_
  refine joinK.direct ?_
  refine loopK.use [0, 1, 5, 6, 7] (fun i : Nat => [.list (digL a), .list (digL b), .ref 0 0 24, .int .u32 (carry a b i : Nat), .int .i64 i]) (fun i => [some (objK (a + b) i)]) (fun i => i ≤ 24) (fun i => 24 - i) 0 (by decide)
    ⟨rfl, rfl, rfl, int_eq (by simp [carry, Nat.mod_one]), rfl, trivial⟩ (.inl ?_) ?_
  · show [some (objK 0 0)] = [some (objK (a + b) 0)]
    unfold objK; rw [digK_zero' (a + b)]
  intro i hi
  refine joinK.direct ⟨fun h => join_go ?_, fun h => join_go ?_⟩
  · have h : i < 24 := by have := of_decide_eq_true h; omega
    refine drawK.mk (by kernel_rfl) ?_
    refine ⟨by omega, by rw [digL_len]; omega, optK.mk (digL_get a i h) ?_⟩
    refine ⟨by omega, by rw [digL_len]; omega, optK.mk (digL_get b i h) ?_⟩
    refine ⟨rfl, by decide, by omega, by omega, optK.mk rfl ?_⟩
    refine optK.mk (digK_get' (a + b) i (i := i) (by omega) h) ?_
    refine ⟨rfl, by decide, ?_⟩
    have hm := add_dig a b (65536 ^ i) (Nat.pow_pos (by decide))
    have h1 := digN_lt a i
    have h2 := digN_lt b i
    have h3 := carry_lt a b i
    have hs : IntKind.u32.wrap (IntKind.u32.wrap ((digN a i : Int) + (digN b i : Int)) + (carry a b i : Int)) = ((digN a i + digN b i + carry a b i : Nat) : Int) := by
      rw [IntKind.wrap_u32, IntKind.wrap_u32]; omega
    refine loop_next (i + 1) (by omega) (by omega) ⟨rfl, rfl, rfl, int_eq ?_, int_eq ?_, trivial⟩ (.inl (sig1 (set_cell (by omega) ?_)))
    · have hc : (digN a i + digN b i + carry a b i) / 65536 = carry a b (i + 1) := by
        show _ = (a % 65536 ^ (i + 1) + b % 65536 ^ (i + 1)) / 65536 ^ (i + 1)
        rw [Nat.pow_succ]; exact hm.2
      rw [hs, tdiv_n, hc, IntKind.wrap_u32]
      have := carry_lt a b (i + 1); omega
    · rw [IntKind.wrap_i64]; omega
    · rw [hs, tmod_n]; exact congrArg Int.ofNat hm.1
  · have h : i = 24 := by have := of_decide_eq_false h; omega
    subst h
    exact ⟨0, rfl, rfl, rfl⟩
theorem takeO (a b : Nat) (hle : b ≤ a) : FnO Try.prog 57 [.list (digL a), .list (digL b)] false ⟨false, 1, 95, digL (a - b)⟩ := by
  refine FnO.mk Try.func57 rfl rfl (Nat.le_of_ble_eq_true rfl) ?_ (blw_digL (a - b)) ?_
  · intro d hd
    simp at hd
    rcases hd with rfl | rfl <;> simpa using blw_digL _
  refine callK.own zero ?_
  refine joinK.direct ?_
  refine loopK.use [0, 1, 5, 6, 7] (fun i : Nat => [.list (digL a), .list (digL b), .ref 0 0 24, .int .u32 (bor a b (65536 ^ i) : Nat), .int .i64 i]) (fun i => [some (objK (a - b) i)]) (fun i => i ≤ 24) (fun i => 24 - i) 0 (by decide)
    ⟨rfl, rfl, rfl, int_eq (by simp [bor, Nat.mod_one]), rfl, trivial⟩ (.inl ?_) ?_
  · show [some (objK 0 0)] = [some (objK (a - b) 0)]
    unfold objK; rw [digK_zero' (a - b)]
  intro i hi
  refine joinK.direct ⟨fun h => join_go ?_, fun h => join_go ?_⟩
  · have h : i < 24 := by have := of_decide_eq_true h; omega
    refine drawK.mk (by kernel_rfl) ?_
    refine ⟨by omega, by rw [digL_len]; omega, optK.mk (digL_get a i h) ?_⟩
    refine ⟨by omega, by rw [digL_len]; omega, optK.mk (digL_get b i h) ?_⟩
    refine ⟨rfl, by decide, by omega, by omega, optK.mk rfl ?_⟩
    refine optK.mk (digK_get' (a - b) i (i := i) (by omega) h) ?_
    refine ⟨rfl, by decide, ?_⟩
    have hm := take_dig a b (65536 ^ i) (Nat.pow_pos (by decide)) hle
    have h1 := digN_lt a i
    have h2 := digN_lt b i
    have h3 : bor a b (65536 ^ i) ≤ 1 := by unfold bor; split <;> omega
    have hs : IntKind.u32.wrap (IntKind.u32.wrap (IntKind.u32.wrap (65536 + (digN a i : Int)) - (digN b i : Int)) - (bor a b (65536 ^ i) : Int)) = ((65536 + digN a i - digN b i - bor a b (65536 ^ i) : Nat) : Int) := by
      rw [IntKind.wrap_u32, IntKind.wrap_u32, IntKind.wrap_u32]; omega
    refine loop_next (i + 1) (by omega) (by omega) ⟨rfl, rfl, rfl, int_eq ?_, int_eq ?_, trivial⟩ (.inl (sig1 (set_cell (by omega) ?_)))
    · have hc : 1 - (65536 + digN a i - digN b i - bor a b (65536 ^ i)) / 65536 = bor a b (65536 ^ (i + 1)) := by
        rw [Nat.pow_succ]; exact hm.2
      rw [hs, tdiv_n, ← hc, IntKind.wrap_u32, IntKind.wrap_u32]
      omega
    · rw [IntKind.wrap_i64]; omega
    · rw [hs, tmod_n]; exact congrArg Int.ofNat hm.1
  · have h : i = 24 := by have := of_decide_eq_false h; omega
    subst h
    exact ⟨0, rfl, rfl, rfl⟩


theorem mod_pow_succ (N i : Nat) : N % 2 ^ (i + 1) = N % 2 ^ i + 2 ^ i * (N / 2 ^ i % 2) := by rw [Nat.pow_succ, Nat.mod_mul]
theorem moreR (N : Nat) (hN : N < 2 ^ 384) (b : Int) (hb : b < 1000) : FnC Try.prog 59 [.list (digL N), .int .i64 b] (· = .bool (decide (N % 2 ^ b.toNat ≠ 0))) := by
  refine FnC.mk Try.func59 rfl rfl (Nat.le_of_ble_eq_true rfl) ?_ (by rintro _ rfl; simp) ?_
  · intro d hd
    simp at hd
    rcases hd with rfl | rfl
    · simpa using blw_digL _
    · simp
  refine joinK.direct ?_
  refine loopK.use [0, 1, 5] (fun i : Nat => [.list (digL N), .int .i64 b, .int .i64 i]) (fun _ => []) (fun i => i ≤ 384 ∧ (i : Int) ≤ max b 0 ∧ N % 2 ^ i = 0) (fun i => 384 - i) 0 ⟨by decide, by omega, by rw [Nat.pow_zero, Nat.mod_one]⟩ ⟨rfl, rfl, rfl, trivial⟩ (.inl rfl) ?_
  rintro i ⟨h1, h2, h3⟩
  refine joinK.direct ?_
  refine guardK.spec ?_
  have ht : (bif decide ((i : Int) < b) then decide ((i : Int) < 384) else false) = decide ((i : Int) < b ∧ i < 384) := by rw [Bool.cond_false_right, Bool.eq_iff_iff]; simp; omega
  refine ⟨fun h => join_go ?_, fun h => join_go ?_⟩
  · have h := of_decide_eq_true (ht.symm.trans h)
    have ei : IntKind.i64.wrap ((i : Int).tdiv 16) = ((i / 16 : Nat) : Int) := by rw [show (i : Int).tdiv 16 = ((i / 16 : Nat) : Int) from rfl, IntKind.wrap_i64]; omega
    have hv := bit_val N i
    have hms := mod_pow_succ N i
    refine joinK.direct ?_
    refine ⟨rfl, by decide, by rw [ei]; omega, by rw [ei, digL_len]; omega, optK.mk (by rw [ei, Int.toNat_natCast]; exact digL_get N _ (by omega)) ?_⟩
    refine ⟨rfl, by decide, by rw [IntKind.wrap_u64]; omega, ?_⟩
    have hb2 : (IntKind.u32.wrap ((BitVec.ofInt IntKind.u32.bits ((digN N (i / 16) : Int).fdiv (2 ^ min (IntKind.u64.wrap ((i : Int).tmod 16)).toNat IntKind.u32.bits)) &&& BitVec.ofInt IntKind.u32.bits 1).toNat : Int) == 1) = decide (N / 2 ^ i % 2 = 1) := by
      rw [hv]
      generalize N / 2 ^ i % 2 = z
      rw [Bool.eq_iff_iff]; simp only [beq_iff_eq, decide_eq_true_eq]; omega
    refine ⟨fun h4 => ?_, fun h4 => join_go ?_⟩
    · have h4 := of_decide_eq_true (hb2.symm.trans h4)
      refine fin_eq (.bool _) rfl (bool_eq (Eq.symm (decide_eq_true ?_)))
      intro e
      have hle : i + 1 ≤ b.toNat := by omega
      have := Nat.mod_mod_of_dvd N (Nat.pow_dvd_pow 2 hle)
      rw [e, Nat.zero_mod, hms, h3, h4] at this
      have hp : 0 < 2 ^ i := Nat.pow_pos (by decide)
      omega
    · have h4 := of_decide_eq_false (hb2.symm.trans h4)
      have h5 : N / 2 ^ i % 2 = 0 := by omega
      refine loop_next (i + 1) ⟨by omega, by omega, by rw [hms, h3, h5]; rfl⟩ (by omega) ⟨rfl, rfl, int_eq ?_, trivial⟩ (.inl rfl)
      rw [IntKind.wrap_i64]; omega
  · have h := of_decide_eq_false (ht.symm.trans h)
    refine fin_eq (.bool _) rfl (bool_eq (Eq.symm (decide_eq_false ?_)))
    rw [Decidable.not_not]
    by_cases hi : i = 384
    · have : N = 0 := by rw [hi, Nat.mod_eq_of_lt hN] at h3; exact h3
      rw [this, Nat.zero_mod]
    · have : b.toNat = i := by omega
      rw [this, h3]
end Go.Proofs.Ytaddmokllmdngaa
end
section
namespace Go.Proofs.Ytaddmokllmdngaa
open Go Go.Pv Go.RowKit
set_option linter.unusedSimpArgs false
set_option linter.unusedVariables false
set_option maxRecDepth 10000
set_option exponentiation.threshold 2000

def XK (K N s : Nat) : Nat := N * 2 ^ K / 2 ^ s
theorem XK_step (K N i : Nat) : XK K N i = XK K N (i + 1) * 2 + XK K N i % 2 := by
  have : XK K N (i + 1) = XK K N i / 2 := by unfold XK; rw [Nat.pow_succ, Nat.div_div_eq_div_mul]
  rw [this]; omega
theorem XK_bit (K N i : Nat) (h : K ≤ i) : XK K N i % 2 = N / 2 ^ (i - K) % 2 := by
  unfold XK
  have : 2 ^ i = 2 ^ (i - K) * 2 ^ K := by rw [← Nat.pow_add]; congr 1; omega
  rw [this, Nat.mul_div_mul_right _ _ (Nat.pow_pos (by decide))]
theorem XK_low (K N i : Nat) (h : i < K) : XK K N i % 2 = 0 := by
  unfold XK
  have : 2 ^ K = 2 ^ i * (2 * 2 ^ (K - 1 - i)) := by rw [← Nat.mul_assoc, ← Nat.pow_succ, ← Nat.pow_add]; congr 1; omega
  rw [this, Nat.mul_left_comm, Nat.mul_div_cancel_left _ (Nat.pow_pos (by decide)), Nat.mul_left_comm, Nat.mul_mod_right]
def Xs (N s : Nat) : Nat := XK 200 N s
theorem Xs_step (N i : Nat) : Xs N i = Xs N (i + 1) * 2 + Xs N i % 2 := XK_step 200 N i
theorem Xs_bit (N i : Nat) (h : 200 ≤ i) : Xs N i % 2 = N / 2 ^ (i - 200) % 2 := XK_bit 200 N i h
theorem Xs_low (N i : Nat) (h : i < 200) : Xs N i % 2 = 0 := XK_low 200 N i h
theorem XK_top (K N s : Nat) (h : N < 2 ^ 128) (hs : 128 + K ≤ s) : XK K N s = 0 := by
  unfold XK
  refine Nat.div_eq_of_lt ?_
  have h1 : N * 2 ^ K < 2 ^ 128 * 2 ^ K := Nat.mul_lt_mul_of_pos_right h (Nat.pow_pos (by decide))
  have h2 : 2 ^ 128 * 2 ^ K ≤ 2 ^ s := by rw [← Nat.pow_add]; exact Nat.pow_le_pow_right (by decide) hs
  exact Nat.lt_of_lt_of_le h1 h2
theorem Xs_top (N : Nat) (h : N < 2 ^ 128) : Xs N 584 = 0 := XK_top 200 N 584 h (by decide)
/-- One digit more of the quotient. -/
theorem quo_step (X m b : Nat) (hm : 0 < m) (hb : b < 2) :
    (X * 2 + b) / m = X / m * 2 + (if m ≤ X % m * 2 + b then 1 else 0) ∧ (X * 2 + b) % m = (if m ≤ X % m * 2 + b then X % m * 2 + b - m else X % m * 2 + b) := by
  have h := Nat.div_add_mod X m
  have hlt := Nat.mod_lt X hm
  have e : X * 2 + b = (X % m * 2 + b) + m * (X / m * 2) := by
    rw [← Nat.mul_assoc]
    generalize m * (X / m) = p at *
    omega
  rw [e, Nat.add_mul_div_left _ _ hm, Nat.add_mul_mod_self_left]
  split
  · rename_i h1
    have e2 : X % m * 2 + b = (X % m * 2 + b - m) + m * 1 := by omega
    constructor
    · rw [e2, Nat.add_mul_div_left _ _ hm, Nat.div_eq_of_lt (by omega)]; omega
    · conv => lhs; rw [e2]
      rw [Nat.add_mul_mod_self_left, Nat.mod_eq_of_lt (by omega)]
  · rename_i h1
    constructor
    · rw [Nat.div_eq_of_lt (by omega)]; omega
    · rw [Nat.mod_eq_of_lt (by omega)]
theorem bitLen_2 (Q c : Nat) (hQ : 0 < Q) (hc : c < 2) : bitLen (Q * 2 + c) = bitLen Q + 1 := by
  have := bitLen_shift (Q * 2 + c) 1 (by rw [Nat.pow_one]; omega)
  rw [this, Nat.pow_one, show (Q * 2 + c) / 2 = Q from by omega]; omega
theorem dig_or (r b : Nat) (hb : b < 2) : digN (r * 2) 0 ||| b = digN (r * 2 + b) 0 := by
  unfold digN
  rw [Nat.pow_zero, Nat.div_one, Nat.div_one]
  have h1 := Nat.two_pow_add_eq_or_of_lt (i := 1) (b := b) (by omega) (r * 2 % 65536 / 2)
  have h2 : 2 ^ 1 * (r * 2 % 65536 / 2) = r * 2 % 65536 := by rw [Nat.pow_one]; omega
  rw [h2] at h1
  rw [← h1]; omega
theorem digL_set0 (r b : Nat) (hb : b < 2) : (digL (r * 2)).set 0 (cell32 (digN (r * 2) 0 ||| b)) = digL (r * 2 + b) := by
  apply List.ext_getElem?
  intro p
  by_cases hp : p < 24
  · rw [List.getElem?_set, digL_get (r * 2 + b) p hp]
    by_cases e : 0 = p
    · subst e
      rw [if_pos rfl, if_pos (by rw [digL_len]; decide), dig_or r b hb]
    · rw [if_neg e, digL_get (r * 2) p hp]
      have : digN (r * 2 + b) p = digN (r * 2) p := by
        unfold digN
        obtain ⟨k, hk⟩ : ∃ k, p = k + 1 := ⟨p - 1, by omega⟩
        rw [hk, Nat.pow_succ, Nat.mul_comm (65536 ^ k) 65536, ← Nat.div_div_eq_div_mul, ← Nat.div_div_eq_div_mul, show (r * 2 + b) / 65536 = r * 2 / 65536 from by omega]
      rw [this]
  · rw [List.getElem?_eq_none (by simp [digL_len]; omega), List.getElem?_eq_none (by rw [digL_len]; omega)]
theorem sticky_K (K N m s : Nat) : (N * 2 ^ K % (m * 2 ^ s) ≠ 0) ↔ (XK K N s % m ≠ 0 ∨ N % 2 ^ (s - K) ≠ 0) := by
  have hA : N * 2 ^ K % 2 ^ s ≠ 0 ↔ N % 2 ^ (s - K) ≠ 0 := by
    rcases Nat.lt_or_ge K s with h | h
    · have : 2 ^ s = 2 ^ (s - K) * 2 ^ K := by rw [← Nat.pow_add]; congr 1; omega
      rw [this, Nat.mul_mod_mul_right]
      have hp : 0 < 2 ^ K := Nat.pow_pos (by decide)
      constructor
      · intro h2 e; rw [e] at h2; simp at h2
      · intro h2 e
        rcases Nat.mul_eq_zero.1 e with e | e
        · exact h2 e
        · omega
    · rw [show s - K = 0 from by omega, Nat.pow_zero, Nat.mod_one]
      have : 2 ^ K = 2 ^ s * 2 ^ (K - s) := by rw [← Nat.pow_add]; congr 1; omega
      rw [this, Nat.mul_left_comm, Nat.mul_mod_right]
  rw [← hA, Nat.mul_comm m, Nat.mod_mul]
  unfold XK
  have hp : 0 < 2 ^ s := Nat.pow_pos (by decide)
  generalize N * 2 ^ K % 2 ^ s = a
  generalize N * 2 ^ K / 2 ^ s % m = b
  constructor
  · intro h
    by_cases hb : b = 0
    · subst hb; rw [Nat.mul_zero] at h; exact .inr (by omega)
    · exact .inl hb
  · intro h e
    have h1 : a = 0 := by omega
    have h2 : 2 ^ s * b = 0 := by omega
    rcases Nat.mul_eq_zero.1 h2 with h3 | h3 <;> omega
theorem sticky_of (N m s : Nat) : (N * 2 ^ 200 % (m * 2 ^ s) ≠ 0) ↔ (Xs N s % m ≠ 0 ∨ N % 2 ^ (s - 200) ≠ 0) := sticky_K 200 N m s
theorem quo_of (N m s : Nat) : Xs N s / m = N * 2 ^ 200 / (m * 2 ^ s) := by
  show N * 2 ^ 200 / 2 ^ s / m = _
  rw [Nat.div_div_eq_div_mul, Nat.mul_comm m]
end Go.Proofs.Ytaddmokllmdngaa
end
section
namespace Go.Proofs.Ytaddmokllmdngaa
open Go Go.Pv Go.RowKit
set_option linter.unusedSimpArgs false
set_option linter.unusedVariables false
set_option maxRecDepth 10000
set_option exponentiation.threshold 2000

def refF (x : Int) (m : Nat) : Nat := if x = 0 then 0 else meanB (decide (x < 0)) x.natAbs m
def leftPO (r : Nat) : Option PO := some ⟨false, 1, 95, digL r⟩
def powI (N m s : Nat) : Int := if Xs N s / m = 0 then 0 else (s : Int) - 200
theorem left_snap (r : Nat) (id : Nat) : ∀ g : Nat → Option PO, g id = some ⟨true, 1, 95, digL r⟩ → Snap g (.ref id 0 24) (.list (digL r)) := by
  intro g hg
  have := snap_whole hg (blw_digL r)
  rw [show (PO.mk true 1 95 (digL r)).els.length = 24 from digL_len r] at this
  exact this
def stk (N m s : Nat) : Bool := decide (N * 2 ^ 200 % (m * 2 ^ s) ≠ 0)
theorem meanOk_of (N m s : Nat) (h1 : 9007199254740992 ≤ Xs N s / m) (h2 : Xs N s / m < 18014398509481984) : MeanOk N m s (Xs N s / m) (stk N m s) := ⟨quo_of N m s, rfl, h1, h2⟩
theorem stk_eq (N m s : Nat) : stk N m s = (!decide (Xs N s % m = 0) || decide (N % 2 ^ (s - 200) ≠ 0)) := by
  unfold stk
  rw [Bool.eq_iff_iff, decide_eq_true_iff, sticky_of]
  simp
structure DivJ (N m s : Nat) : Prop where
  h1 : Xs N s / m < 18014398509481984
  h2 : s ≤ 584
theorem mean_loop_test (s Q : Nat) : (bif decide ((s : Int) - 201 ≥ -200) then decide ((bitLen Q : Int) < 54) else false) = decide (1 ≤ s ∧ Q < 9007199254740992) := by
  rw [Bool.cond_false_right, Bool.eq_iff_iff]
  have := len_54 Q
  simp only [Bool.and_eq_true, decide_eq_true_eq]
  omega
theorem bitLen_pos (Q : Nat) : (0 : Int) < (bitLen Q : Int) ↔ 0 < Q := by
  unfold bitLen; split <;> omega
theorem bit_test2 (Q c : Nat) (hc : c < 2) : (bif decide ((bitLen Q : Int) > 0) then true else ((c : Int) == 1)) = decide (Q * 2 + c ≠ 0) := by
  have := bitLen_pos Q
  rw [Bool.cond_true_left, Bool.eq_iff_iff]
  simp only [Bool.or_eq_true, decide_eq_true_eq, beq_iff_eq]
  omega
theorem or_val2 (r b : Nat) (hb : b < 2) : IntKind.u32.wrap ((BitVec.ofInt IntKind.u32.bits (digN (r * 2) 0 : Int) ||| BitVec.ofInt IntKind.u32.bits (b : Int)).toNat : Int) = ((digN (r * 2) 0 ||| b : Nat) : Int) := by
  have h1 := digN_lt (r * 2) 0
  have h2 := digN_lt (r * 2 + b) 0
  rw [show (BitVec.ofInt IntKind.u32.bits (digN (r * 2) 0 : Int) ||| BitVec.ofInt IntKind.u32.bits (b : Int)).toNat = _ from or32 (digN (r * 2) 0) b (by omega) (by omega), dig_or r b hb, IntKind.wrap_u32]
  omega
theorem whole_v (Q c : Nat) (hQ : Q < 9007199254740992) (hc : c < 2) : IntKind.u64.wrap (IntKind.u64.wrap ((Q : Int) * 2) + (c : Int)) = ((Q * 2 + c : Nat) : Int) := by
  rw [IntKind.wrap_u64, IntKind.wrap_u64]; omega

theorem no_zero_K (K N m A B : Nat) (hm : 0 < m) (hm2 : m < B) (h : XK K N 0 / m < A) (hAB : A * B ≤ 2 ^ K) (hN : 0 < N) : False := by
  have e : XK K N 0 = N * 2 ^ K := by unfold XK; rw [Nat.pow_zero, Nat.div_one]
  rw [e, Nat.div_lt_iff_lt_mul hm] at h
  have h5 : 1 * 2 ^ K ≤ N * 2 ^ K := Nat.mul_le_mul_right _ hN
  have h6 : A * m ≤ A * B := Nat.mul_le_mul_left _ (Nat.le_of_lt hm2)
  rw [Nat.one_mul] at h5
  exact absurd (Nat.lt_of_lt_of_le h (Nat.le_trans h6 (Nat.le_trans hAB h5))) (Nat.lt_irrefl _)
theorem no_zero (N m : Nat) (hm : 0 < m) (hm2 : m < 9223372036854775808) (h : Xs N 0 / m < 18014398509481984) (hN : 0 < N) : False :=
  no_zero_K 200 N m 18014398509481984 9223372036854775808 hm hm2 h (by decide) hN
theorem Xs_N0 (s m : Nat) : Xs 0 s / m = 0 := by
  show XK 200 0 s / m = 0
  unfold XK; rw [Nat.zero_mul, Nat.zero_div, Nat.zero_div]
theorem refF_of (x : Int) (m s : Nat) (h : MeanOk x.natAbs m s (Xs x.natAbs s / m) (stk x.natAbs m s)) (hx : x ≠ 0) : refF x m = mB (decide (x < 0)) s (mW (Xs x.natAbs s / m) (stk x.natAbs m s)) := by
  have hun := h.uniq
  unfold refF; rw [if_neg hx]; unfold meanB; rw [← hun.1, ← hun.2.1, ← hun.2.2]
theorem refF_0 (m : Nat) : refF 0 m = 0 := rfl
theorem cnt_zero (Q : Nat) : (((bitLen Q : Nat) : Int) == 0) = decide (Q = 0) := by
  have := bitLen_pos Q
  rw [Bool.eq_iff_iff]; simp only [beq_iff_eq, decide_eq_true_eq]; omega
theorem half_u64 (Q : Nat) (h : Q < 18014398509481984) : IntKind.u64.wrap ((Q : Int).tdiv 2) = ((Q / 2 : Nat) : Int) := by
  rw [show (Q : Int).tdiv 2 = ((Q / 2 : Nat) : Int) from rfl, IntKind.wrap_u64]; omega
theorem odd_u64 (Q : Nat) : ((Q : Int).tmod 2 == 1) = (Q % 2 == 1) := by
  rw [show (Q : Int).tmod 2 = ((Q % 2 : Nat) : Int) from rfl, Bool.eq_iff_iff]; simp only [beq_iff_eq]; omega
theorem round_mean (Q : Nat) (h : Q < 18014398509481984) (a b : Bool) : (bif ((Q : Int).tmod 2 == 1) then (bif (bif a then true else b) then true else ((IntKind.u64.wrap ((Q : Int).tdiv 2)).tmod 2 == 1)) else false) = ((Q % 2 == 1) && ((a || b) || Q / 2 % 2 == 1)) := by
  rw [half_u64 Q h, odd_u64, odd_u64, Bool.cond_false_right, Bool.cond_true_left, Bool.cond_true_left]
theorem mW_up (Q : Nat) (h : Q < 18014398509481984) (st : Bool) (hb : ((Q % 2 == 1) && (st || Q / 2 % 2 == 1)) = true) : IntKind.u64.wrap (IntKind.u64.wrap ((Q : Int).tdiv 2) + 1) = ((mW Q st : Nat) : Int) := by
  rw [half_u64 Q h, IntKind.wrap_u64]; unfold mW; rw [hb, cond_true]; omega
theorem mW_dn (Q : Nat) (h : Q < 18014398509481984) (st : Bool) (hb : ((Q % 2 == 1) && (st || Q / 2 % 2 == 1)) = false) : IntKind.u64.wrap ((Q : Int).tdiv 2) = ((mW Q st : Nat) : Int) := by
  rw [half_u64 Q h]; unfold mW; rw [hb, cond_false, Nat.add_zero]
theorem near_mB {w : Nat} (h1 : 4503599627370496 ≤ w) (h2 : w ≤ 9007199254740992) : FloatKind.f64.nearest (w : Int) = mB false 199 w := by
  by_cases hb : w = 9007199254740992
  · rw [hb, f64_max, mB_max]
  · rw [f64_lt h1 (by omega), mB_lt _ _ hb]
theorem two_f : (4611686018427387904 : Nat) = fbits false 1023 4503599627370496 := by rw [fbits_pos]
theorem dbl_mB {T w : Nat} (hT : T ≤ 300) (h1 : 4503599627370496 ≤ w) (h2 : w ≤ 9007199254740992) : floatBits .mul .f64 (mB false T w) 4611686018427387904 = some (mB false (T + 1) w) := by
  rw [two_f]
  by_cases hb : w = 9007199254740992
  · rw [hb, mB_max, mB_max]; exact mul_fbits ⟨by decide, by decide, by omega⟩ false (by decide) (by omega) (by omega)
  · rw [mB_lt _ _ hb, mB_lt _ _ hb]; exact mul_fbits ⟨by omega, by omega, by omega⟩ false (by decide) (by omega) (by omega)
theorem hlf_mB {T w : Nat} (hT : T ≤ 300) (h0 : 0 < T) (h1 : 4503599627370496 ≤ w) (h2 : w ≤ 9007199254740992) : floatBits .quo .f64 (mB false T w) 4611686018427387904 = some (mB false (T - 1) w) := by
  rw [two_f]
  by_cases hb : w = 9007199254740992
  · rw [hb, mB_max, mB_max]; exact half_fbits ⟨by decide, by decide, by omega⟩ false (by omega)
  · rw [mB_lt _ _ hb, mB_lt _ _ hb]; exact half_fbits ⟨by omega, by omega, by omega⟩ false (by omega)
theorem ne_of_abs {x : Int} {N : Nat} (e : N = x.natAbs) (h : 0 < N) : x ≠ 0 := by omega
theorem eq_of_abs {x : Int} {N : Nat} (e : N = x.natAbs) (h : N = 0) : x = 0 := by omega
theorem pow_1 (p : Int) (s : Nat) (h : p = (s : Int) - 200) (hs : s ≤ 584) : IntKind.i64.wrap (p + 1) = (s : Int) - ((199 : Nat) : Int) := by
  rw [IntKind.wrap_i64]; omega
theorem pow_2 (p : Int) (s : Nat) (h : p = (s : Int) - 200) (hs : s ≤ 584) : IntKind.i64.wrap (IntKind.i64.wrap (p + 1) - 1) = (s : Int) - 200 := by
  rw [IntKind.wrap_i64, IntKind.wrap_i64]; omega
theorem pow_3 (p : Int) (s : Nat) (h : p = (s : Int) - 200) (hs : s ≤ 584) : (IntKind.i64.wrap (IntKind.i64.wrap (p + 1) - 1)).toNat = s - 200 := by
  rw [pow_2 p s h hs]; omega
theorem pow_4 (p : Int) (s : Nat) (h : p = (s : Int) - 200) (hs : s ≤ 584) : IntKind.i64.wrap (IntKind.i64.wrap (p + 1) - 1) < 1000 := by
  rw [pow_2 p s h hs]; omega
theorem up_0 {T s : Nat} (hs : s ≤ 300) (h : 199 ≤ T ∧ (T ≤ s ∨ T = 199)) : T ≤ 300 := by omega
theorem up_1 {T s : Nat} (hs : s ≤ 300) (h : 199 ≤ T ∧ (T ≤ s ∨ T = 199)) (h3 : (s : Int) - (T : Int) > 0) :
    (199 ≤ T + 1 ∧ (T + 1 ≤ s ∨ T + 1 = 199)) ∧ s - (T + 1) < s - T ∧ IntKind.i64.wrap ((s : Int) - (T : Int) - 1) = (s : Int) - ((T + 1 : Nat) : Int) := by
  rw [IntKind.wrap_i64]; omega
theorem up_2 {T s : Nat} (hs : s ≤ 300) (h : 199 ≤ T ∧ (T ≤ s ∨ T = 199)) (h3 : ¬ (s : Int) - (T : Int) > 0) : s ≤ T ∧ T ≤ 300 := by omega
theorem dn_0 {T s : Nat} (hs : 80 ≤ s) (h : s ≤ T ∧ T ≤ 300) : 0 < T := by omega
theorem dn_1 {T s : Nat} (hs : 80 ≤ s) (h : s ≤ T ∧ T ≤ 300) (h3 : (s : Int) - (T : Int) < 0) :
    (s ≤ T - 1 ∧ T - 1 ≤ 300) ∧ T - 1 - s < T - s ∧ IntKind.i64.wrap ((s : Int) - (T : Int) + 1) = (s : Int) - ((T - 1 : Nat) : Int) := by
  rw [IntKind.wrap_i64]; omega
theorem dn_2 {T s : Nat} (h : s ≤ T ∧ T ≤ 300) (h3 : ¬ (s : Int) - (T : Int) < 0) : T = s := by omega
structure MeanEnd (x : Int) (N m s : Nat) : Prop where
  hN0 : 0 < N
  hq1 : 9007199254740992 ≤ Xs N s / m
  hlo : 80 ≤ s
  hhi : s ≤ 300
  hp : powI N m s = (s : Int) - 200
  hres : refF x m = mB (decide (x < 0)) s (mW (Xs N s / m) (stk N m s))
  hw : 4503599627370496 ≤ mW (Xs N s / m) (stk N m s) ∧ mW (Xs N s / m) (stk N m s) ≤ 9007199254740992
theorem mean_end (x : Int) (N m s : Nat) (hNe : N = x.natAbs) (hN : N < 2 ^ 128) (hm : 0 < m) (hm2 : m < 9223372036854775808) (hj1 : Xs N s / m < 18014398509481984) (hor : s = 0 ∨ 9007199254740992 ≤ Xs N s / m) (h : Xs N s / m ≠ 0) : MeanEnd x N m s := by
  have hN0 : 0 < N := by
    rcases Nat.eq_zero_or_pos N with e | e
    · exact absurd (by rw [e]; exact Xs_N0 s m) h
    · exact e
  have hq1 : 9007199254740992 ≤ Xs N s / m := by
    rcases hor with e | e
    · rw [e] at hj1; exact (no_zero N m hm hm2 hj1 hN0).elim
    · exact e
  have hok := meanOk_of N m s hq1 hj1
  have hrg := hok.range hN hN0 (Nat.lt_trans hm2 (by decide)) hm
  exact ⟨hN0, hq1, hrg.1, hrg.2, if_neg h, (by subst hNe; exact refF_of x m s hok (ne_of_abs rfl hN0)), mW_range _ hq1 hj1⟩

theorem dig00 : digK 0 0 = digL 0 := rfl
attribute [local irreducible] digL Xs mW stk mB fbits
set_option maxHeartbeats 4000000 in
theorem meanR (x : Int) (hx : in128 x) (m : Nat) (hm : 0 < m) (hm2 : m < 9223372036854775808) : FnC Try.prog 33 [.int .i64 (hiW x), .int .u64 (loW x), .int .i64 m] (· = .flt .f64 (refF x m)) := by
  have hh := hi_in hx
  have hl := loW_nn x
  obtain ⟨l, el⟩ := Int.eq_ofNat_of_zero_le hl.1
  have c0 := ofN (hiW x) l (by unfold i64R; have := hx.1; have := hx.2; omega) (by omega)
  rw [← el, show hiW x * 18446744073709551616 + loW x = x from by rw [hh]; unfold loW; omega] at c0
  have c1 := small m (by omega)
  rw [show ((m : Nat) : Int) = IntKind.u64.wrap (m : Int) from by rw [IntKind.wrap_u64]; omega] at c1
  obtain ⟨N, hNe⟩ : ∃ N, N = x.natAbs := ⟨_, rfl⟩
  have hN : N < 2 ^ 128 := by have := hx.1; have := hx.2; omega
  have hm384 : m < 65536 ^ 24 := Nat.lt_trans hm2 (by decide)
  have hmw : (numD (IntKind.u64.wrap (m : Int))) = .agg [.list (digL m), .bool false] := by
    rw [show IntKind.u64.wrap (m : Int) = (m : Int) from by rw [IntKind.wrap_u64]; omega]
    exact (num_eq (by omega) (decide_eq_false (by omega)).symm).symm
  rw [hmw] at c1
  refine FnC.mk Try.func33 rfl rfl (Nat.le_of_ble_eq_true rfl) (by simp) (by rintro _ rfl; simp) ?_
  refine joinK.direct ⟨fun h => absurd (of_decide_eq_true h) (by omega), fun _ => join_go ?_⟩
  refine callK.eq c0 ?_
  refine callK.eq c1 ?_
  refine callK.own zero ?_
  refine joinK.use [7, 9, 10, 11, 12] (fun s : Nat => [.pobj 0 0 0, .int .u64 (Xs N s / m : Nat), .int .i64 (bitLen (Xs N s / m)), .ref 1 0 24, .int .i64 (powI N m s)]) (fun s => [numPO (numC x), leftPO (Xs N s % m)]) (fun s => DivJ N m s ∧ (s = 0 ∨ 9007199254740992 ≤ Xs N s / m)) ?_ ?_
  · have h584 := Xs_top N hN
    refine loopK.useG [7, 8, 9, 10, 11, 12, 13] (fun s : Nat => [.pobj 0 0 0, .list (digL m), .int .u64 (Xs N s / m : Nat), .int .i64 (bitLen (Xs N s / m)), .ref 1 0 24, .int .i64 (powI N m s), .int .i64 ((s : Int) - 201)]) (fun s => [numPO (numC x), leftPO (Xs N s % m)])
      (fun s => DivJ N m s) (fun s => s) 584 ⟨by rw [h584, Nat.zero_div]; decide, by decide⟩
      (weak_gc [] [some 0, some 1] rfl ⟨.pobj _ _ _ _ rfl, ren_eq rfl (by simpa using blw_digL m), ren_eq (int_eq (by rw [h584, Nat.zero_div]; rfl)) (by simp), ren_eq (int_eq (by rw [h584, Nat.zero_div]; rfl)) (by simp), ren_ref rfl (by decide), ren_eq (int_eq (by unfold powI; rw [h584, Nat.zero_div, if_pos rfl])) (by simp), ren_eq rfl (by simp), trivial⟩
        ⟨⟨rfl, rfl, rfl, els_same rfl (numx_blw _)⟩, ⟨rfl, rfl, rfl, els_same (by rw [h584, Nat.zero_mod]; exact dig00) (blw_digL _)⟩, trivial⟩) ?_
    intro s hj
    have hj1 := hj.h1
    have hj2 := hj.h2
    have htst := mean_loop_test s (Xs N s / m)
    refine joinK.direct ?_
    refine guardK.spec ?_
    refine ⟨fun h => join_go ?_, fun h => ?_⟩
    · have h := of_decide_eq_true (htst.symm.trans h)
      have hs1 := h.1
      have hQ := h.2
      have eS : s = (s - 1) + 1 := by omega
      have hstep := Xs_step N (s - 1)
      rw [← eS] at hstep
      have hb2 : Xs N (s - 1) % 2 < 2 := Nat.mod_lt _ (by decide)
      have hqs := quo_step (Xs N s) m (Xs N (s - 1) % 2) hm hb2
      rw [← hstep] at hqs
      have hr := Nat.mod_lt (Xs N s) hm
      have hrm : Xs N s % m + Xs N s % m = Xs N s % m * 2 := by omega
      have hat : decide ((s : Int) - 201 ≥ 0) = decide (201 ≤ s) := by rw [decide_eq_decide]; omega
      refine joinK.direct ?_
      refine callK.ownF [1] (addO (Xs N s % m) (Xs N s % m)) ⟨left_snap _ 1 _ rfl, left_snap _ 1 _ rfl, trivial⟩ ?_
      refine joinK.use [7, 8, 9, 10, 11, 12, 13] (fun _ : Unit => [.pobj 0 0 0, .list (digL m), .int .u64 (Xs N s / m : Nat), .int .i64 (bitLen (Xs N s / m)), .ref 1 0 24, .int .i64 (powI N m s), .int .i64 ((s : Int) - 201)]) (fun _ => [numPO (numC x), leftPO (Xs N s % m * 2 + Xs N (s - 1) % 2)]) (fun _ => True) ?_ ?_
      · refine ⟨fun h3 => ?_, fun h3 => ?_⟩
        · have h3 := of_decide_eq_true (hat.symm.trans h3)
          have eat : (s : Int) - 201 = ((s - 201 : Nat) : Int) := by omega
          have hbit := Xs_bit N (s - 1) (by omega)
          rw [show s - 1 - 200 = s - 201 from by omega] at hbit
          have hv := bit_val N (s - 201)
          rw [← eat, ← hbit] at hv
          have ei : IntKind.i64.wrap (((s : Int) - 201).tdiv 16) = (((s - 201) / 16 : Nat) : Int) := by
            rw [eat, show ((s - 201 : Nat) : Int).tdiv 16 = (((s - 201) / 16 : Nat) : Int) from rfl, IntKind.wrap_i64]; omega
          have hdig : (digL N)[(IntKind.i64.wrap (((s : Int) - 201).tdiv 16)).toNat]? = some (cell32 (digN N ((s - 201) / 16))) := by rw [ei, Int.toNat_natCast]; exact digL_get N _ (by omega)
          have hdig' : (digL x.natAbs)[(IntKind.i64.wrap (((s : Int) - 201).tdiv 16)).toNat]? = some (cell32 (digN N ((s - 201) / 16))) := by rw [← hNe]; exact hdig
          have hi0 : (0 : Int) ≤ IntKind.i64.wrap (((s : Int) - 201).tdiv 16) := by rw [ei]; omega
          have hi1 : IntKind.i64.wrap (((s : Int) - 201).tdiv 16) < ((digL x.natAbs).length : Int) := by rw [ei, digL_len]; omega
          have hl0 : (digL (Xs N s % m + Xs N s % m))[0 + (0 : Int).toNat]? = some (cell32 (digN (Xs N s % m + Xs N s % m) 0)) := digL_get _ 0 (by decide)
          have hset : (digL (Xs N s % m + Xs N s % m)).set (0 + (0 : Int).toNat) [.int .u32 (IntKind.u32.wrap ((BitVec.ofInt IntKind.u32.bits (digN (Xs N s % m + Xs N s % m) 0 : Int) ||| BitVec.ofInt IntKind.u32.bits (IntKind.u32.wrap ((BitVec.ofInt IntKind.u32.bits ((digN N ((s - 201) / 16) : Int).fdiv (2 ^ min (IntKind.u64.wrap (((s : Int) - 201).tmod 16)).toNat IntKind.u32.bits)) &&& BitVec.ofInt IntKind.u32.bits 1).toNat : Int))).toNat : Int))] = digL (Xs N s % m * 2 + Xs N (s - 1) % 2) := by
            rw [hv, hrm, or_val2 _ _ hb2]
            exact digL_set0 _ _ hb2
          refine drawK.mk (by kernel_rfl) ?_
          refine ⟨by decide, by rw [digL_len]; decide, optK.mk rfl ?_⟩
          refine optK.mk hl0 ?_
          refine ⟨rfl, by decide, hi0, hi1, optK.mk hdig' ?_⟩
          refine ⟨rfl, by decide, (wrap_u64_nn _).1, ?_⟩
          refine ⟨by decide, by rw [digL_len]; decide, optK.mk rfl ?_⟩
          refine optK.mk hl0 ?_
          exact join_gc () trivial (weak_gc [] [some 0, some 2] rfl ⟨.pobj _ _ _ _ rfl, ren_eq rfl (by simpa using blw_digL m), ren_eq rfl (by simp), ren_eq rfl (by simp), ren_ref rfl (digL_len _), ren_eq rfl (by simp), ren_eq rfl (by simp), trivial⟩ ⟨⟨rfl, rfl, rfl, els_same rfl (numx_blw _)⟩, ⟨rfl, rfl, rfl, els_same hset (blw_digL _)⟩, trivial⟩)
        · have h3 := of_decide_eq_false (hat.symm.trans h3)
          have hb0 := Xs_low N (s - 1) (by omega)
          exact join_gc () trivial (weak_gc [] [some 0, some 2] rfl ⟨.pobj _ _ _ _ rfl, ren_eq rfl (by simpa using blw_digL m), ren_eq rfl (by simp), ren_eq rfl (by simp), ren_ref rfl (digL_len _), ren_eq rfl (by simp), ren_eq rfl (by simp), trivial⟩ ⟨⟨rfl, rfl, rfl, els_same rfl (numx_blw _)⟩, ⟨rfl, rfl, rfl, els_same (by rw [hrm, hb0, Nat.add_zero]) (blw_digL _)⟩, trivial⟩)
      rintro ⟨⟩ -
      have hr2 : Xs N s % m * 2 + Xs N (s - 1) % 2 < 65536 ^ 24 := Nat.lt_trans (show Xs N s % m * 2 + Xs N (s - 1) % 2 < 36893488147419103232 by omega) (by decide)
      have hbl : (!decide (Xs N s % m * 2 + Xs N (s - 1) % 2 < m)) = decide (m ≤ Xs N s % m * 2 + Xs N (s - 1) % 2) := by rw [Bool.eq_iff_iff]; simp
      refine joinK.use [7, 8, 9, 10, 11, 12, 13, 14] (fun _ : Unit => [.pobj 0 0 0, .list (digL m), .int .u64 (Xs N s / m : Nat), .int .i64 (bitLen (Xs N s / m)), .ref 1 0 24, .int .i64 (powI N m s), .int .i64 ((s : Int) - 201), .int .u64 ((if m ≤ Xs N s % m * 2 + Xs N (s - 1) % 2 then 1 else 0 : Nat) : Int)]) (fun _ => [numPO (numC x), leftPO (Xs N (s - 1) % m)]) (fun _ => True) ?_ ?_
      · refine callK.lend [1] (below _ m hr2 hm384) ⟨left_snap _ 1 _ rfl, .pure (.list (digL m)) (by simpa using blw_digL m), trivial⟩ (by simp) ?_
        refine ⟨fun h3 => ?_, fun h3 => ?_⟩
        · have h3 := of_decide_eq_true (hbl.symm.trans h3)
          have hq2 := hqs.2
          rw [if_pos h3] at hq2
          refine callK.ownF [1] (takeO _ m h3) ⟨left_snap _ 1 _ rfl, .pure (.list (digL m)) (by simpa using blw_digL m), trivial⟩ ?_
          exact join_gc () trivial (weak_gc [] [some 0, some 2] rfl ⟨.pobj _ _ _ _ rfl, ren_eq rfl (by simpa using blw_digL m), ren_eq rfl (by simp), ren_eq rfl (by simp), ren_ref rfl (digL_len _), ren_eq rfl (by simp), ren_eq rfl (by simp), ren_eq (int_eq (by rw [if_pos h3]; rfl)) (by simp), trivial⟩ ⟨⟨rfl, rfl, rfl, els_same rfl (numx_blw _)⟩, ⟨rfl, rfl, rfl, els_same (by rw [hq2]) (blw_digL _)⟩, trivial⟩)
        · have h3 := of_decide_eq_false (hbl.symm.trans h3)
          have hq2 := hqs.2
          rw [if_neg h3] at hq2
          exact join_gc () trivial (weak_gc [] [some 0, some 1] rfl ⟨.pobj _ _ _ _ rfl, ren_eq rfl (by simpa using blw_digL m), ren_eq rfl (by simp), ren_eq rfl (by simp), ren_ref rfl rfl, ren_eq rfl (by simp), ren_eq rfl (by simp), ren_eq (int_eq (by rw [if_neg h3]; rfl)) (by simp), trivial⟩ ⟨⟨rfl, rfl, rfl, els_same rfl (numx_blw _)⟩, ⟨rfl, rfl, rfl, els_same (by rw [hq2]) (blw_digL _)⟩, trivial⟩)
      rintro ⟨⟩ -
      have hc2 : (if m ≤ Xs N s % m * 2 + Xs N (s - 1) % 2 then 1 else 0 : Nat) < 2 := by split <;> decide
      have hbt := bit_test2 (Xs N s / m) _ hc2
      rw [← hqs.1] at hbt
      have hQ2 : Xs N (s - 1) / m < 18014398509481984 := by rw [hqs.1]; omega
      refine guardK.spec ?_
      refine ⟨fun h3 => ?_, fun h3 => ?_⟩
      · have h3 := of_decide_eq_true (hbt.symm.trans h3)
        have hw := whole_v (Xs N s / m) _ hQ hc2
        rw [← hqs.1] at hw
        have hbl2 : bitLen (Xs N s / m) ≤ 54 := by have := (len_54 (Xs N s / m)).2 hQ; omega
        refine join_go (loop_next (s - 1) ⟨hQ2, by omega⟩ (by omega) ⟨rfl, rfl, int_eq hw, int_eq ?_, rfl, int_eq ?_, int_eq ?_, trivial⟩ (.inl rfl))
        · rw [IntKind.wrap_i64]
          rw [hqs.1] at h3 ⊢
          rcases Nat.eq_zero_or_pos (Xs N s / m) with e | e
          · rw [e] at h3 ⊢
            generalize (if m ≤ Xs N s % m * 2 + Xs N (s - 1) % 2 then 1 else 0 : Nat) = c at *
            obtain rfl : c = 1 := by omega
            decide
          · rw [bitLen_2 _ _ e hc2]; omega
        · unfold powI; rw [if_neg h3]; omega
        · rw [IntKind.wrap_i64]; omega
      · have h3 := of_decide_eq_false (hbt.symm.trans h3)
        have h3 : Xs N (s - 1) / m = 0 := Decidable.not_not.1 h3
        have hq0 : Xs N s / m = 0 := by have := hqs.1; omega
        refine join_go (loop_next (s - 1) ⟨hQ2, by omega⟩ (by omega) ⟨rfl, rfl, int_eq (by rw [h3, hq0]), int_eq (by rw [h3, hq0]), rfl, int_eq ?_, int_eq ?_, trivial⟩ (.inl rfl))
        · unfold powI; rw [if_pos h3, if_pos hq0]
        · rw [IntKind.wrap_i64]; omega
    · have h := of_decide_eq_false (htst.symm.trans h)
      exact join_at s ⟨hj, by omega⟩ ⟨rfl, rfl, rfl, rfl, rfl, trivial⟩ (.inl rfl)
  intro s hs
  have hj1 := hs.1.h1
  have hj2 := hs.1.h2
  have hcnt := cnt_zero (Xs N s / m)
  refine joinK.direct ⟨fun h => ?_, fun h => join_go ?_⟩
  · have h := of_decide_eq_true (hcnt.symm.trans h)
    have hs0 : s = 0 := hs.2.resolve_right (fun e => absurd (h ▸ e) (by decide))
    have hN0 : N = 0 := (Nat.eq_zero_or_pos N).resolve_right (fun e => no_zero N m hm hm2 (hs0 ▸ hj1) e)
    refine fin_eq (.flt _ _) rfl (flt_eq ?_)
    rw [eq_of_abs hNe hN0]; exact (refF_0 m).symm
  have h := of_decide_eq_false (hcnt.symm.trans h)
  have hE := mean_end x N m s hNe hN hm hm2 hj1 hs.2 h
  have hlo := hE.hlo
  have hhi := hE.hhi
  have hw1 := hE.hw.1
  have hw2 := hE.hw.2
  have hp1 := pow_1 _ s hE.hp hj2
  have hpe : (IntKind.i64.wrap (IntKind.i64.wrap (powI N m s + 1) - 1)).toNat = s - 200 := pow_3 _ s hE.hp hj2
  have hmore := moreR N (Nat.lt_trans hN (by decide)) (IntKind.i64.wrap (IntKind.i64.wrap (powI N m s + 1) - 1)) (pow_4 _ s hE.hp hj2)
  rw [hpe, show digL N = digL x.natAbs from congrArg digL hNe] at hmore
  have hrm384 : Xs N s % m < 65536 ^ 24 := Nat.lt_trans (Nat.mod_lt _ hm) hm384
  have hrd := round_mean (Xs N s / m) hj1 (!decide (Xs N s % m = 0)) (decide (N % 2 ^ (s - 200) ≠ 0))
  rw [← stk_eq N m s] at hrd
  refine ⟨rfl, by decide, ?_⟩
  refine ⟨rfl, by decide, ?_⟩
  refine joinK.use [7, 9, 12] (fun _ : Unit => [.pobj 0 0 0, .int .u64 (mW (Xs N s / m) (stk N m s) : Nat), .int .i64 ((s : Int) - ((199 : Nat) : Int))]) (fun _ => [numPO (numC x), leftPO (Xs N s % m)]) (fun _ => True) ?_ ?_
  · refine guardK.spec ?_
    refine callE.lend [1] (isZero _ hrm384) ⟨left_snap _ 1 _ rfl, trivial⟩ (by simp) ?_
    refine callE.mk hmore ?_
    refine ⟨rfl, by decide, ?_⟩
    refine ⟨fun h2 => ?_, fun h2 => ?_⟩
    · have h2 : _ = true := hrd.symm.trans h2
      exact join_at () trivial ⟨rfl, int_eq (mW_up _ hj1 _ h2), int_eq hp1, trivial⟩ (.inl rfl)
    · have h2 : _ = false := hrd.symm.trans h2
      exact join_at () trivial ⟨rfl, int_eq (mW_dn _ hj1 _ h2), int_eq hp1, trivial⟩ (.inl rfl)
  rintro ⟨⟩ -
  have hne := near_mB hw1 hw2
  refine joinK.direct ?_
  refine loopK.use [7, 12, 16] (fun T : Nat => [.pobj 0 0 0, .int .i64 ((s : Int) - (T : Int)), .flt .f64 (mB false T (mW (Xs N s / m) (stk N m s)))]) (fun _ => [numPO (numC x), leftPO (Xs N s % m)])
    (fun T => 199 ≤ T ∧ (T ≤ s ∨ T = 199)) (fun T => s - T) 199 ⟨Nat.le_refl _, .inr rfl⟩ ⟨rfl, rfl, flt_eq hne, trivial⟩ (.inl rfl) ?_
  intro T hT
  have hT3 := up_0 hhi hT
  have hd := dbl_mB hT3 hw1 hw2
  refine joinK.direct ⟨fun h3 => join_go ?_, fun h3 => join_go ?_⟩
  · have h3 := of_decide_eq_true h3
    refine ⟨rfl, optK.mk hd ?_⟩
    have hu := up_1 hhi hT h3
    exact loop_next (T + 1) hu.1 hu.2.1 ⟨rfl, int_eq hu.2.2, rfl, trivial⟩ (.inl rfl)
  have h3 := of_decide_eq_false h3
  refine joinK.direct ?_
  refine loopK.use [7, 12, 16] (fun T : Nat => [.pobj 0 0 0, .int .i64 ((s : Int) - (T : Int)), .flt .f64 (mB false T (mW (Xs N s / m) (stk N m s)))]) (fun _ => [numPO (numC x), leftPO (Xs N s % m)])
    (fun T => s ≤ T ∧ T ≤ 300) (fun T => T - s) T (up_2 hhi hT h3) ⟨rfl, rfl, rfl, trivial⟩ (.inl rfl) ?_
  intro V hV
  have hf := hlf_mB hV.2 (dn_0 hlo hV) hw1 hw2
  refine joinK.direct ⟨fun h4 => join_go ?_, fun h4 => join_go ?_⟩
  · have h4 := of_decide_eq_true h4
    refine ⟨rfl, optK.mk hf ?_⟩
    have hu := dn_1 hlo hV h4
    exact loop_next (V - 1) hu.1 hu.2.1 ⟨rfl, int_eq hu.2.2, rfl, trivial⟩ (.inl rfl)
  have h4 := of_decide_eq_false h4
  have eV : V = s := dn_2 hV h4
  have hng := neg_mB hV.2 hw1 hw2
  have hr := hE.hres
  refine joinK.direct ⟨fun h5 => ?_, fun h5 => join_go ?_⟩
  · have h5 : decide (x < 0) = true := h5
    refine fin_eq (.flt _ _) rfl (flt_eq ?_)
    rw [hr, h5]; exact hng.trans (congrArg (fun t => mB true t (mW (Xs N s / m) (stk N m s))) eV)
  · have h5 : decide (x < 0) = false := h5
    refine fin_eq (.flt _ _) rfl (flt_eq ?_)
    rw [hr, h5]; exact congrArg (fun t => mB false t (mW (Xs N s / m) (stk N m s))) eV
end Go.Proofs.Ytaddmokllmdngaa
end
section
namespace Go.Proofs.Ytaddmokllmdngaa
open Go Go.Pv Go.RowKit
set_option linter.unusedSimpArgs false
set_option linter.unusedVariables false
set_option maxRecDepth 10000
set_option exponentiation.threshold 2000

theorem cut_54 (V : Nat) (h : 18014398509481984 ≤ V) : ∃ T, T = bitLen V - 54 ∧ 9007199254740992 ≤ V / 2 ^ T ∧ V / 2 ^ T < 18014398509481984 := by
  have hL : 54 ≤ V.log2 := (Nat.le_log2 (by omega)).2 h
  have hb : bitLen V = V.log2 + 1 := by unfold bitLen; rw [if_neg (by omega)]
  refine ⟨_, rfl, ?_, ?_⟩
  · rw [hb, Nat.le_div_iff_mul_le (Nat.pow_pos (by decide))]
    have h1 : 2 ^ V.log2 ≤ V := Nat.log2_self_le (by omega)
    have h2 : 9007199254740992 * 2 ^ (V.log2 + 1 - 54) = 2 ^ V.log2 := by
      rw [show (9007199254740992 : Nat) = 2 ^ 53 from rfl, ← Nat.pow_add]; congr 1; omega
    rw [h2]; exact h1
  · rw [hb, Nat.div_lt_iff_lt_mul (Nat.pow_pos (by decide))]
    have h1 : V < 2 ^ (V.log2 + 1) := Nat.lt_log2_self
    have h2 : 18014398509481984 * 2 ^ (V.log2 + 1 - 54) = 2 ^ (V.log2 + 1) := by
      rw [show (18014398509481984 : Nat) = 2 ^ 54 from rfl, ← Nat.pow_add]; congr 1; omega
    rw [h2]; exact h1
theorem ref_fok (x : Int) (m : Nat) (hx : in128 x) (hm : 0 < m) (hm2 : m < 9223372036854775808) (hx0 : x ≠ 0) : ∃ E M, FOk E M ∧ refF x m = fbits (decide (x < 0)) E M := by
  obtain ⟨T, hT, h1, h2⟩ := cut_54 (Xs x.natAbs 0 / m) (by
    rcases Nat.lt_or_ge (Xs x.natAbs 0 / m) 18014398509481984 with h | h
    · exact (no_zero x.natAbs m hm hm2 h (by omega)).elim
    · exact h)
  have e : Xs x.natAbs 0 / m / 2 ^ T = Xs x.natAbs T / m := by
    rw [quo_of, quo_of, Nat.pow_zero, Nat.mul_one, Nat.div_div_eq_div_mul]
  rw [e] at h1 h2
  have hok := meanOk_of x.natAbs m T h1 h2
  have hrg := hok.range (by have := hx.1; have := hx.2; omega) (by omega) (Nat.lt_trans hm2 (by decide)) hm
  have hw := mW_range (stk x.natAbs m T) h1 h2
  rw [refF_of x m T hok hx0]
  generalize mW (Xs x.natAbs T / m) (stk x.natAbs m T) = w at hw
  have a := hrg.2
  by_cases hb : w = 9007199254740992
  · rw [hb, mB_max]; exact ⟨_, _, ⟨by decide, by decide, by clear e h1 h2 hok hw; omega⟩, rfl⟩
  · rw [mB_lt _ _ hb]; exact ⟨_, _, ⟨hw.1, Nat.lt_of_le_of_ne hw.2 hb, by clear e h1 h2 hok hw; omega⟩, rfl⟩
end Go.Proofs.Ytaddmokllmdngaa
end
