/- Wide's reference: Mean: sums that are owned; more. -/
import Derived.Test.YtckcagmlippneaaWY
namespace Go.Proofs.Ytckcagmlippneaa
open Go Go.Pv Go.RowKit
set_option linter.unusedSimpArgs false
set_option linter.unusedVariables false
set_option maxRecDepth 10000
set_option exponentiation.threshold 1000

theorem addO (a b : Nat) : FnO Try.prog 44 [.list (digL a), .list (digL b)] false ⟨false, 1, 85, digL (a + b)⟩ := by
  refine FnO.mk Try.func44 rfl rfl (Nat.le_of_ble_eq_true rfl) ?_ (blw_digL (a + b)) ?_
  · intro d hd
    simp at hd
    rcases hd with rfl | rfl <;> simpa using blw_digL _
  refine callK.own zero ?_
  refine joinK.direct ?_
  refine loopK.use [0, 1, 5, 6, 7] (fun i : Nat => [.list (digL a), .list (digL b), .ref 0 0 24, .int .u32 (carry a b i : Nat), .int .i64 i]) (fun i => [some (objK (a + b) i)]) (fun i => i ≤ 24) (fun i => 24 - i) 0 (by decide)
    ⟨rfl, rfl, rfl, int_eq (by simp [carry, Nat.mod_one]), rfl, trivial⟩ (.inl ?_) ?_
  · show [some (objK 0 0)] = [some (objK (a + b) 0)]
    unfold objK; rw [digK_zero' (a + b)]
  intro i hi
  refine joinK.direct ⟨fun h => join_go ?_, fun h => join_go ?_⟩
  · have h : i < 24 := by have := of_decide_eq_true h; omega
    refine drawK.mk (by kernel_rfl) ?_
    refine ⟨by omega, by rw [digL_len]; omega, optK.mk (digL_get a i h) ?_⟩
    refine ⟨by omega, by rw [digL_len]; omega, optK.mk (digL_get b i h) ?_⟩
    refine ⟨rfl, by decide, by omega, by omega, optK.mk rfl ?_⟩
    refine optK.mk (digK_get' (a + b) i (i := i) (by omega) h) ?_
    refine ⟨rfl, by decide, ?_⟩
    have hm := add_dig a b (65536 ^ i) (Nat.pow_pos (by decide))
    have h1 := digN_lt a i
    have h2 := digN_lt b i
    have h3 := carry_lt a b i
    have hs : IntKind.u32.wrap (IntKind.u32.wrap ((digN a i : Int) + (digN b i : Int)) + (carry a b i : Int)) = ((digN a i + digN b i + carry a b i : Nat) : Int) := by
      rw [IntKind.wrap_u32, IntKind.wrap_u32]; omega
    refine loop_next (i + 1) (by omega) (by omega) ⟨rfl, rfl, rfl, int_eq ?_, int_eq ?_, trivial⟩ (.inl (sig1 (set_cell (by omega) ?_)))
    · have hc : (digN a i + digN b i + carry a b i) / 65536 = carry a b (i + 1) := by
        show _ = (a % 65536 ^ (i + 1) + b % 65536 ^ (i + 1)) / 65536 ^ (i + 1)
        rw [Nat.pow_succ]; exact hm.2
      rw [hs, tdiv_n, hc, IntKind.wrap_u32]
      have := carry_lt a b (i + 1); omega
    · rw [IntKind.wrap_i64]; omega
    · rw [hs, tmod_n]; exact congrArg Int.ofNat hm.1
  · have h : i = 24 := by have := of_decide_eq_false h; omega
    subst h
    exact ⟨0, rfl, rfl, rfl⟩
theorem takeO (a b : Nat) (hle : b ≤ a) : FnO Try.prog 46 [.list (digL a), .list (digL b)] false ⟨false, 1, 85, digL (a - b)⟩ := by
  refine FnO.mk Try.func46 rfl rfl (Nat.le_of_ble_eq_true rfl) ?_ (blw_digL (a - b)) ?_
  · intro d hd
    simp at hd
    rcases hd with rfl | rfl <;> simpa using blw_digL _
  refine callK.own zero ?_
  refine joinK.direct ?_
  refine loopK.use [0, 1, 5, 6, 7] (fun i : Nat => [.list (digL a), .list (digL b), .ref 0 0 24, .int .u32 (bor a b (65536 ^ i) : Nat), .int .i64 i]) (fun i => [some (objK (a - b) i)]) (fun i => i ≤ 24) (fun i => 24 - i) 0 (by decide)
    ⟨rfl, rfl, rfl, int_eq (by simp [bor, Nat.mod_one]), rfl, trivial⟩ (.inl ?_) ?_
  · show [some (objK 0 0)] = [some (objK (a - b) 0)]
    unfold objK; rw [digK_zero' (a - b)]
  intro i hi
  refine joinK.direct ⟨fun h => join_go ?_, fun h => join_go ?_⟩
  · have h : i < 24 := by have := of_decide_eq_true h; omega
    refine drawK.mk (by kernel_rfl) ?_
    refine ⟨by omega, by rw [digL_len]; omega, optK.mk (digL_get a i h) ?_⟩
    refine ⟨by omega, by rw [digL_len]; omega, optK.mk (digL_get b i h) ?_⟩
    refine ⟨rfl, by decide, by omega, by omega, optK.mk rfl ?_⟩
    refine optK.mk (digK_get' (a - b) i (i := i) (by omega) h) ?_
    refine ⟨rfl, by decide, ?_⟩
    have hm := take_dig a b (65536 ^ i) (Nat.pow_pos (by decide)) hle
    have h1 := digN_lt a i
    have h2 := digN_lt b i
    have h3 : bor a b (65536 ^ i) ≤ 1 := by unfold bor; split <;> omega
    have hs : IntKind.u32.wrap (IntKind.u32.wrap (IntKind.u32.wrap (65536 + (digN a i : Int)) - (digN b i : Int)) - (bor a b (65536 ^ i) : Int)) = ((65536 + digN a i - digN b i - bor a b (65536 ^ i) : Nat) : Int) := by
      rw [IntKind.wrap_u32, IntKind.wrap_u32, IntKind.wrap_u32]; omega
    refine loop_next (i + 1) (by omega) (by omega) ⟨rfl, rfl, rfl, int_eq ?_, int_eq ?_, trivial⟩ (.inl (sig1 (set_cell (by omega) ?_)))
    · have hc : 1 - (65536 + digN a i - digN b i - bor a b (65536 ^ i)) / 65536 = bor a b (65536 ^ (i + 1)) := by
        rw [Nat.pow_succ]; exact hm.2
      rw [hs, tdiv_n, ← hc, IntKind.wrap_u32, IntKind.wrap_u32]
      omega
    · rw [IntKind.wrap_i64]; omega
    · rw [hs, tmod_n]; exact congrArg Int.ofNat hm.1
  · have h : i = 24 := by have := of_decide_eq_false h; omega
    subst h
    exact ⟨0, rfl, rfl, rfl⟩


theorem mod_pow_succ (N i : Nat) : N % 2 ^ (i + 1) = N % 2 ^ i + 2 ^ i * (N / 2 ^ i % 2) := by rw [Nat.pow_succ, Nat.mod_mul]
theorem moreR (N : Nat) (hN : N < 2 ^ 384) (b : Int) (hb : b < 1000) : FnC Try.prog 59 [.list (digL N), .int .i64 b] (· = .bool (decide (N % 2 ^ b.toNat ≠ 0))) := by
  refine FnC.mk Try.func59 rfl rfl (Nat.le_of_ble_eq_true rfl) ?_ (by rintro _ rfl; simp) ?_
  · intro d hd
    simp at hd
    rcases hd with rfl | rfl
    · simpa using blw_digL _
    · simp
  refine joinK.direct ?_
  refine loopK.use [0, 1, 5] (fun i : Nat => [.list (digL N), .int .i64 b, .int .i64 i]) (fun _ => []) (fun i => i ≤ 384 ∧ (i : Int) ≤ max b 0 ∧ N % 2 ^ i = 0) (fun i => 384 - i) 0 ⟨by decide, by omega, by rw [Nat.pow_zero, Nat.mod_one]⟩ ⟨rfl, rfl, rfl, trivial⟩ (.inl rfl) ?_
  rintro i ⟨h1, h2, h3⟩
  refine joinK.direct ?_
  refine guardK.spec ?_
  have ht : (bif decide ((i : Int) < b) then decide ((i : Int) < 384) else false) = decide ((i : Int) < b ∧ i < 384) := by rw [Bool.cond_false_right, Bool.eq_iff_iff]; simp; omega
  refine ⟨fun h => join_go ?_, fun h => join_go ?_⟩
  · have h := of_decide_eq_true (ht.symm.trans h)
    have ei : IntKind.i64.wrap ((i : Int).tdiv 16) = ((i / 16 : Nat) : Int) := by rw [show (i : Int).tdiv 16 = ((i / 16 : Nat) : Int) from rfl, IntKind.wrap_i64]; omega
    have hv := bit_val N i
    have hms := mod_pow_succ N i
    refine joinK.direct ?_
    refine ⟨rfl, by decide, by rw [ei]; omega, by rw [ei, digL_len]; omega, optK.mk (by rw [ei, Int.toNat_natCast]; exact digL_get N _ (by omega)) ?_⟩
    refine ⟨rfl, by decide, by rw [IntKind.wrap_u64]; omega, ?_⟩
    have hb2 : (IntKind.u32.wrap ((BitVec.ofInt IntKind.u32.bits ((digN N (i / 16) : Int).fdiv (2 ^ min (IntKind.u64.wrap ((i : Int).tmod 16)).toNat IntKind.u32.bits)) &&& BitVec.ofInt IntKind.u32.bits 1).toNat : Int) == 1) = decide (N / 2 ^ i % 2 = 1) := by
      rw [hv]
      generalize N / 2 ^ i % 2 = z
      rw [Bool.eq_iff_iff]; simp only [beq_iff_eq, decide_eq_true_eq]; omega
    refine ⟨fun h4 => ?_, fun h4 => join_go ?_⟩
    · have h4 := of_decide_eq_true (hb2.symm.trans h4)
      refine fin_eq (.bool _) rfl (bool_eq (Eq.symm (decide_eq_true ?_)))
      intro e
      have hle : i + 1 ≤ b.toNat := by omega
      have := Nat.mod_mod_of_dvd N (Nat.pow_dvd_pow 2 hle)
      rw [e, Nat.zero_mod, hms, h3, h4] at this
      have hp : 0 < 2 ^ i := Nat.pow_pos (by decide)
      omega
    · have h4 := of_decide_eq_false (hb2.symm.trans h4)
      have h5 : N / 2 ^ i % 2 = 0 := by omega
      refine loop_next (i + 1) ⟨by omega, by omega, by rw [hms, h3, h5]; rfl⟩ (by omega) ⟨rfl, rfl, int_eq ?_, trivial⟩ (.inl rfl)
      rw [IntKind.wrap_i64]; omega
  · have h := of_decide_eq_false (ht.symm.trans h)
    refine fin_eq (.bool _) rfl (bool_eq (Eq.symm (decide_eq_false ?_)))
    rw [Decidable.not_not]
    by_cases hi : i = 384
    · have : N = 0 := by rw [hi, Nat.mod_eq_of_lt hN] at h3; exact h3
      rw [this, Nat.zero_mod]
    · have : b.toNat = i := by omega
      rw [this, h3]
end Go.Proofs.Ytckcagmlippneaa
