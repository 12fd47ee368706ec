/- math/bits: Len64, LeadingZeros64, Div64 (the plain law of a long division's digit first). -/
import Derived.Test.YtckcagmlippneaaWB
set_option linter.unusedSimpArgs false
set_option linter.unusedVariables false
namespace Go.Proofs.Ytckcagmlippneaa
open Go Go.Pv Go.RowKit
set_option maxRecDepth 10000
set_option exponentiation.threshold 1000

def tab8 : ByteArray := ⟨((List.range 256).map fun n => (bitLen n).toUInt8).toArray⟩
theorem tab8_get {s : ByteArray} (h : s = tab8) (i : Nat) (hi : i < 256) : s[i]? = some (bitLen i).toUInt8 := by
  subst h
  have all : ∀ j : Fin 256, tab8[j.val]? = some (bitLen j.val).toUInt8 := by decide +kernel
  exact all ⟨i, hi⟩

theorem bitLen_part (x b : Nat) (h : 2 ^ b ≤ x) : bitLen x = b + bitLen (x / 2 ^ b) :=
  bitLen_shift x b (Nat.ne_of_gt (Nat.div_pos h (Nat.pow_pos (by decide))))

theorem fdiv_lit (x : Nat) (k : Nat) (hk : k ≤ 64) : (x : Int).fdiv (2 ^ min (k : Int).toNat IntKind.u64.bits) = ((x / 2 ^ k : Nat) : Int) := by
  rw [Int.toNat_natCast, show min k IntKind.u64.bits = k from Nat.min_eq_left hk, fdiv_pow]

theorem len64 (x : Nat) (hx : x < 18446744073709551616) : FnC Try.prog 57 [.int .u64 x] (· = .int .i64 (bitLen x)) := by
  refine FnC.mk Try.func57 rfl rfl (Nat.le_of_ble_eq_true rfl) (by simp) (by rintro _ rfl; simp) ?_
  refine joinK.use [0, 2] (fun s : Nat × Nat => [.int .u64 s.1, .int .i64 s.2]) (fun _ => []) (fun s => bitLen x = s.2 + bitLen s.1 ∧ s.1 < 4294967296 ∧ s.2 ≤ 32) ?_ ?_
  · refine ⟨fun h => ?_, fun h => ?_⟩
    · have h : 4294967296 ≤ x := by have := of_decide_eq_true h; omega
      refine ⟨by decide, ?_⟩
      exact join_at (x / 4294967296, 32) ⟨bitLen_part x 32 h, by simp; omega, by simp⟩ ⟨int_eq (fdiv_lit x 32 (by decide)), rfl, trivial⟩ (.inl rfl)
    · have h : x < 4294967296 := by have := of_decide_eq_false h; omega
      exact join_at (x, 0) ⟨by simp, h, by simp⟩ ⟨rfl, rfl, trivial⟩ (.inl rfl)
  rintro ⟨y, n⟩ ⟨h1, h2, h3⟩
  simp only at h1 h2 h3
  refine joinK.use [0, 2] (fun s : Nat × Nat => [.int .u64 s.1, .int .i64 s.2]) (fun _ => []) (fun s => bitLen x = s.2 + bitLen s.1 ∧ s.1 < 65536 ∧ s.2 ≤ 48) ?_ ?_
  · refine ⟨fun h => ?_, fun h => ?_⟩
    · have h : 65536 ≤ y := by have h : decide ((y : Int) ≥ 65536) = true := h
                               have := of_decide_eq_true h; omega
      refine ⟨by decide, ?_⟩
      refine join_at (y / 65536, n + 16) ⟨by rw [h1, bitLen_part y 16 h]; simp; omega, by simp; omega, by simp; omega⟩ ⟨int_eq (fdiv_lit y 16 (by decide)), int_eq ?_, trivial⟩ (.inl rfl)
      rw [IntKind.wrap_i64]; simp; omega
    · have h : y < 65536 := by have h : decide ((y : Int) ≥ 65536) = false := h
                               have := of_decide_eq_false h; omega
      exact join_at (y, n) ⟨h1, h, by simp; omega⟩ ⟨rfl, rfl, trivial⟩ (.inl rfl)
  clear h1 h2 h3 y n
  rintro ⟨y, n⟩ ⟨h1, h2, h3⟩
  simp only at h1 h2 h3
  refine joinK.use [0, 2] (fun s : Nat × Nat => [.int .u64 s.1, .int .i64 s.2]) (fun _ => []) (fun s => bitLen x = s.2 + bitLen s.1 ∧ s.1 < 256 ∧ s.2 ≤ 56) ?_ ?_
  · refine ⟨fun h => ?_, fun h => ?_⟩
    · have h : 256 ≤ y := by have h : decide ((y : Int) ≥ 256) = true := h
                             have := of_decide_eq_true h; omega
      refine ⟨by decide, ?_⟩
      refine join_at (y / 256, n + 8) ⟨by rw [h1, bitLen_part y 8 h]; simp; omega, by simp; omega, by simp; omega⟩ ⟨int_eq (fdiv_lit y 8 (by decide)), int_eq ?_, trivial⟩ (.inl rfl)
      rw [IntKind.wrap_i64]; simp; omega
    · have h : y < 256 := by have h : decide ((y : Int) ≥ 256) = false := h
                             have := of_decide_eq_false h; omega
      exact join_at (y, n) ⟨h1, h, by simp; omega⟩ ⟨rfl, rfl, trivial⟩ (.inl rfl)
  clear h1 h2 h3 y n
  rintro ⟨y, n⟩ ⟨h1, h2, h3⟩
  simp only at h1 h2 h3
  have hw : (IntKind.u8.wrap (y : Int)).toNat = y := by rw [IntKind.wrap_u8]; omega
  refine ⟨by rw [IntKind.wrap_u8]; omega, optK.mk (y := (bitLen y).toUInt8) ?_ ?_⟩
  · rw [hw]
    exact tab8_get (by kernel_rfl) y h2
  refine fin_eq (.int _ _) rfl (int_eq ?_)
  have hb := bitLen_le8 y h2
  have h8 : ((bitLen y).toUInt8.toNat : Int) = bitLen y := by
    show ((bitLen y % 256 : Nat) : Int) = _
    omega
  rw [h8, IntKind.wrap_i64, IntKind.wrap_i64, h1]; omega

theorem bitLen_le64 (x : Nat) (hx : x < 18446744073709551616) : bitLen x ≤ 64 := by
  unfold bitLen
  split
  · omega
  · rename_i h
    have := (Nat.log2_lt h).2 (show x < 2 ^ 64 from hx)
    omega
theorem lz64 (x : Nat) (hx : x < 18446744073709551616) : FnC Try.prog 61 [.int .u64 x] (· = .int .i64 (64 - bitLen x : Nat)) := by
  refine FnC.mk Try.func61 rfl rfl (Nat.le_of_ble_eq_true rfl) (by simp) (by rintro _ rfl; simp) ?_
  refine callK.eq (len64 x hx) ?_
  refine fin_eq (.int _ _) rfl (int_eq ?_)
  have := bitLen_le64 x hx
  rw [IntKind.wrap_i64]; omega
end Go.Proofs.Ytckcagmlippneaa
