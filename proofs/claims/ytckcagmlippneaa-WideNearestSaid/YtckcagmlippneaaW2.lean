/- Wide's reference: take, below, isZero. -/
import Derived.Test.YtckcagmlippneaaW1
set_option linter.unusedSimpArgs false
set_option linter.unusedVariables false
namespace Go.Proofs.Ytckcagmlippneaa
open Go Go.Pv Go.RowKit
set_option maxRecDepth 10000

def bor (a b q : Nat) : Nat := if a % q < b % q then 1 else 0
theorem take_dig (a b q : Nat) (hq : 0 < q) (hle : b ≤ a) : (65536 + a / q % 65536 - b / q % 65536 - bor a b q) % 65536 = (a - b) / q % 65536 ∧ 1 - (65536 + a / q % 65536 - b / q % 65536 - bor a b q) / 65536 = bor a b (q * 65536) := by
  have ha := Nat.div_add_mod a q
  have hb := Nat.div_add_mod b q
  have hr := Nat.mod_lt a hq
  have hs := Nat.mod_lt b hq
  have e2 : ∀ x : Nat, x % (q * 65536) = x % q + q * (x / q % 65536) := fun x => Nat.mod_mul
  have hsub : (a - b) / q = a / q - b / q - bor a b q := by
    unfold bor
    have hAB : b / q ≤ a / q := Nat.div_le_div_right hle
    have hm := Nat.mul_sub q (a / q) (b / q)
    have hm1 : q * (b / q) ≤ q * (a / q) := Nat.mul_le_mul_left q hAB
    split
    · rename_i h
      have hlt : b / q < a / q := by
        rcases Nat.lt_or_ge (b / q) (a / q) with h1 | h1
        · exact h1
        · have := Nat.mul_le_mul_left q h1; omega
      have h3 : q * (a / q - b / q - 1) + q = q * (a / q - b / q) := by
        rw [← Nat.mul_succ]; congr 1; omega
      have h2 : a - b = (q + a % q - b % q) + q * (a / q - b / q - 1) := by omega
      rw [h2, Nat.add_mul_div_left _ _ hq, Nat.div_eq_of_lt (by omega)]; omega
    · have h2 : a - b = (a % q - b % q) + q * (a / q - b / q) := by omega
      rw [h2, Nat.add_mul_div_left _ _ hq, Nat.div_eq_of_lt (by omega)]; omega
  have hb1 : bor a b q ≤ 1 := by unfold bor; split <;> omega
  have hAB : bor a b q = 1 → b / q < a / q := by
    intro h
    unfold bor at h
    split at h
    · rename_i h'
      rcases Nat.lt_or_ge (b / q) (a / q) with h1 | h1
      · exact h1
      · have := Nat.mul_le_mul_left q h1; omega
    · cases h
  have hAB' : b / q ≤ a / q := Nat.div_le_div_right hle
  constructor
  · rw [hsub]; omega
  · have hcmp : bor a b (q * 65536) = if a / q % 65536 < b / q % 65536 ∨ (a / q % 65536 = b / q % 65536 ∧ a % q < b % q) then 1 else 0 := by
      unfold bor
      rw [e2, e2]
      congr 1
      rw [eq_iff_iff]
      constructor
      · intro h
        rcases Nat.lt_trichotomy (a / q % 65536) (b / q % 65536) with h1 | h1 | h1
        · exact .inl h1
        · rw [h1] at h; exact .inr ⟨h1, by omega⟩
        · have := Nat.mul_le_mul_left q h1; rw [Nat.mul_succ] at this; omega
      · rintro (h | ⟨h, h'⟩)
        · have := Nat.mul_le_mul_left q h; rw [Nat.mul_succ] at this; omega
        · rw [h]; omega
    rw [hcmp]
    unfold bor
    split <;> split <;> omega

theorem take (a b : Nat) (hle : b ≤ a) : FnC Try.prog 46 [.list (digL a), .list (digL b)] (· = .list (digL (a - b))) := by
  refine FnC.mk Try.func46 rfl rfl (Nat.le_of_ble_eq_true rfl) ?_ (by rintro _ rfl; simpa using blw_digL (a - b)) ?_
  · intro d hd
    simp at hd
    rcases hd with rfl | rfl <;> simpa using blw_digL _
  refine callK.own zero ?_
  refine joinK.direct ?_
  refine loopK.use [0, 1, 5, 6, 7] (fun i : Nat => [.list (digL a), .list (digL b), .ref 0 0 24, .int .u32 (bor a b (65536 ^ i) : Nat), .int .i64 i]) (fun i => [some (objK (a - b) i)]) (fun i => i ≤ 24) (fun i => 24 - i) 0 (by decide)
    ⟨rfl, rfl, rfl, int_eq (by simp [bor, Nat.mod_one]), rfl, trivial⟩ (.inl ?_) ?_
  · show [some (objK 0 0)] = [some (objK (a - b) 0)]
    unfold objK; rw [digK_zero' (a - b)]
  intro i hi
  refine joinK.direct ⟨fun h => join_go ?_, fun h => join_go ?_⟩
  · have h : i < 24 := by have := of_decide_eq_true h; omega
    refine drawK.mk (by kernel_rfl) ?_
    refine ⟨by omega, by rw [digL_len]; omega, optK.mk (digL_get a i h) ?_⟩
    refine ⟨by omega, by rw [digL_len]; omega, optK.mk (digL_get b i h) ?_⟩
    refine ⟨rfl, by decide, by omega, by omega, optK.mk rfl ?_⟩
    refine optK.mk (digK_get' (a - b) i (i := i) (by omega) h) ?_
    refine ⟨rfl, by decide, ?_⟩
    have hm := take_dig a b (65536 ^ i) (Nat.pow_pos (by decide)) hle
    have h1 := digN_lt a i
    have h2 := digN_lt b i
    have h3 : bor a b (65536 ^ i) ≤ 1 := by unfold bor; split <;> omega
    have hs : IntKind.u32.wrap (IntKind.u32.wrap (IntKind.u32.wrap (65536 + (digN a i : Int)) - (digN b i : Int)) - (bor a b (65536 ^ i) : Int)) = ((65536 + digN a i - digN b i - bor a b (65536 ^ i) : Nat) : Int) := by
      rw [IntKind.wrap_u32, IntKind.wrap_u32, IntKind.wrap_u32]; omega
    refine loop_next (i + 1) (by omega) (by omega) ⟨rfl, rfl, rfl, int_eq ?_, int_eq ?_, trivial⟩ (.inl (sig1 (set_cell (by omega) ?_)))
    · have hc : 1 - (65536 + digN a i - digN b i - bor a b (65536 ^ i)) / 65536 = bor a b (65536 ^ (i + 1)) := by
        rw [Nat.pow_succ]; exact hm.2
      rw [hs, tdiv_n, ← hc, IntKind.wrap_u32, IntKind.wrap_u32]
      omega
    · rw [IntKind.wrap_i64]; omega
    · rw [hs, tmod_n]; exact congrArg Int.ofNat hm.1
  · have h : i = 24 := by have := of_decide_eq_false h; omega
    subst h
    exact .inr ⟨_, snap_whole (po := objK (a - b) 24) rfl (blw_digL (a - b)), rfl⟩

theorem isZero (n : Nat) (hn : n < 65536 ^ 24) : FnC Try.prog 47 [.list (digL n)] (· = .bool (decide (n = 0))) := by
  refine FnC.mk Try.func47 rfl rfl (Nat.le_of_ble_eq_true rfl) ?_ (by rintro _ rfl; simp) ?_
  · intro d hd
    simp at hd
    subst hd; simpa using blw_digL _
  refine joinK.direct ?_
  refine loopK.use [0, 3] (fun i : Nat => [.list (digL n), .int .i64 i]) (fun _ => []) (fun i => i ≤ 24 ∧ n % 65536 ^ i = 0) (fun i => 24 - i) 0 ⟨by decide, by simp [Nat.mod_one]⟩ ⟨rfl, rfl, trivial⟩ (.inl rfl) ?_
  rintro i ⟨hi, hz⟩
  refine joinK.direct ⟨fun h => join_go ?_, fun h => join_go ?_⟩
  · have h : i < 24 := by have := of_decide_eq_true h; rw [digL_len] at this; omega
    refine joinK.direct ?_
    refine ⟨by omega, by rw [digL_len]; omega, optK.mk (digL_get n i h) ?_⟩
    have hmod : n % 65536 ^ (i + 1) = n % 65536 ^ i + 65536 ^ i * digN n i := by rw [Nat.pow_succ]; exact Nat.mod_mul
    refine ⟨fun h2 => ?_, fun h2 => join_go ?_⟩
    · have h2 : ((digN n i : Int) != 0) = true := h2
      refine fin_eq (.bool _) rfl (bool_eq (Eq.symm (decide_eq_false ?_)))
      rintro rfl
      simp [digN] at h2
    · have h2 : ((digN n i : Int) != 0) = false := h2
      have h2 : digN n i = 0 := by simpa using h2
      refine loop_next (i + 1) ⟨by omega, by rw [hmod, h2, hz]; rfl⟩ (by omega) ⟨rfl, int_eq ?_, trivial⟩ (.inl rfl)
      rw [IntKind.wrap_i64]; omega
  · have h : i = 24 := by have := of_decide_eq_false h; rw [digL_len] at this; omega
    subst h
    refine fin_eq (.bool _) rfl (bool_eq (Eq.symm (decide_eq_true ?_)))
    rwa [Nat.mod_eq_of_lt hn] at hz

theorem below (a b : Nat) (ha : a < 65536 ^ 24) (hb : b < 65536 ^ 24) : FnC Try.prog 45 [.list (digL a), .list (digL b)] (· = .bool (decide (a < b))) := by
  refine FnC.mk Try.func45 rfl rfl (Nat.le_of_ble_eq_true rfl) ?_ (by rintro _ rfl; simp) ?_
  · intro d hd
    simp at hd
    rcases hd with rfl | rfl <;> simpa using blw_digL _
  refine joinK.direct ?_
  refine loopK.use [0, 1, 5] (fun s : Nat => [.list (digL a), .list (digL b), .int .i64 ((s : Int) - 1)]) (fun _ => []) (fun s => s ≤ 24 ∧ a / 65536 ^ s = b / 65536 ^ s) (fun s => s) 24 ⟨by decide, by rw [Nat.div_eq_of_lt ha, Nat.div_eq_of_lt hb]⟩ ⟨rfl, rfl, rfl, trivial⟩ (.inl rfl) ?_
  rintro s ⟨hs, he⟩
  refine joinK.direct ⟨fun h => join_go ?_, fun h => join_go ?_⟩
  · have h : 1 ≤ s := by have := of_decide_eq_true h; omega
    obtain ⟨i, rfl⟩ : ∃ i, s = i + 1 := ⟨s - 1, by omega⟩
    have hi : i < 24 := by omega
    have ei : (((i + 1 : Nat) : Int) - 1).toNat = i := by omega
    refine joinK.direct ?_
    refine drawK.mk (by kernel_rfl) ?_
    refine ⟨by omega, by rw [digL_len]; omega, optK.mk (by rw [ei]; exact digL_get a i hi) ?_⟩
    refine ⟨by omega, by rw [digL_len]; omega, optK.mk (by rw [ei]; exact digL_get b i hi) ?_⟩
    have hq : 0 < 65536 ^ i := Nat.pow_pos (by decide)
    have he : a / 65536 ^ i / 65536 = b / 65536 ^ i / 65536 := by rw [Nat.div_div_eq_div_mul, Nat.div_div_eq_div_mul, ← Nat.pow_succ]; exact he
    have h1 : digN a i = a / 65536 ^ i % 65536 := rfl
    have h2 : digN b i = b / 65536 ^ i % 65536 := rfl
    refine ⟨fun hne => ?_, fun heq => join_go ?_⟩
    · have hne : ((digN a i : Int) != (digN b i : Int)) = true := hne
      have hne : digN a i ≠ digN b i := fun e => by simp [e] at hne
      refine drawK.mk (by kernel_rfl) ?_
      refine ⟨by omega, by rw [digL_len]; omega, optK.mk (by rw [ei]; exact digL_get a i hi) ?_⟩
      refine ⟨by omega, by rw [digL_len]; omega, optK.mk (by rw [ei]; exact digL_get b i hi) ?_⟩
      refine fin_eq (.bool (decide ((digN a i : Int) < (digN b i : Int)))) rfl (bool_eq ?_)
      rw [decide_eq_decide]
      constructor
      · intro hlt
        have : a / 65536 ^ i < b / 65536 ^ i := by omega
        rcases Nat.lt_or_ge a b with h3 | h3
        · exact h3
        · have := Nat.div_le_div_right (c := 65536 ^ i) h3; omega
      · intro hlt
        have := Nat.div_le_div_right (c := 65536 ^ i) (Nat.le_of_lt hlt)
        omega
    · have heq : ((digN a i : Int) != (digN b i : Int)) = false := heq
      have heq : digN a i = digN b i := by have : (digN a i : Int) = digN b i := by simpa using heq
                                           omega
      refine loop_next i ⟨by omega, by omega⟩ (by omega) ⟨rfl, rfl, int_eq ?_, trivial⟩ (.inl rfl)
      rw [IntKind.wrap_i64]; omega
  · have h : s = 0 := by have := of_decide_eq_false h; omega
    subst h
    refine fin_eq (.bool _) rfl (bool_eq (Eq.symm (decide_eq_false ?_)))
    simp at he; omega
end Go.Proofs.Ytckcagmlippneaa
