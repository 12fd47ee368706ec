/- Wide's reference: Times. -/
import Derived.Test.YtckcagmlippneaaW7
set_option linter.unusedSimpArgs false
set_option linter.unusedVariables false
namespace Go.Proofs.Ytckcagmlippneaa
open Go Go.Pv Go.RowKit
set_option maxRecDepth 10000
set_option exponentiation.threshold 1000

theorem zeroC : FnC Try.prog 51 [] (· = .list (digL 0)) := by
  refine FnC.mk Try.func51 rfl rfl (Nat.le_of_ble_eq_true rfl) (by simp) (by rintro _ rfl; simpa using blw_digL _) ?_
  refine ⟨by decide, by decide, by decide, by decide, by decide, rfl, rfl, ?_⟩
  exact .inr ⟨_, snap_whole (po := ⟨false, 1, 85, digL 0⟩) rfl (blw_digL _), rfl⟩

def numC (x : Int) : List DV := [.list (digL x.natAbs), .bool (decide (x < 0))]
def numPO (cs : List DV) : Option PO := some ⟨false, 2, 27, [cs]⟩
def num0 : List DV := [.nils, .bool false]

theorem bit64 (n i : Nat) (hn : n < 18446744073709551616) (hi : i < 64) : IntKind.u64.wrap ((BitVec.ofInt IntKind.u64.bits ((n : Int).fdiv (2 ^ min (IntKind.u64.wrap (i : Int)).toNat IntKind.u64.bits)) &&& BitVec.ofInt IntKind.u64.bits 1).toNat : Int) = ((n / 2 ^ i % 2 : Nat) : Int) := by
  rw [show IntKind.u64.wrap (i : Int) = ((i : Nat) : Int) from by rw [IntKind.wrap_u64]; omega,
    Int.toNat_natCast, show min i IntKind.u64.bits = i from Nat.min_eq_left (by show i ≤ 64; omega), fdiv_pow]
  have h2 : n / 2 ^ i < 18446744073709551616 := Nat.lt_of_le_of_lt (Nat.div_le_self _ _) (by omega)
  have h3 : (BitVec.ofInt 64 ((n / 2 ^ i : Nat) : Int) &&& BitVec.ofInt 64 1).toNat = n / 2 ^ i % 2 := by
    rw [BitVec.toNat_and, BitVec.ofInt_natCast, BitVec.toNat_ofNat, Nat.mod_eq_of_lt h2]
    show _ &&& 1 = _
    exact Nat.and_two_pow_sub_one_eq_mod _ 1
  rw [show (BitVec.ofInt IntKind.u64.bits ((n / 2 ^ i : Nat) : Int) &&& BitVec.ofInt IntKind.u64.bits 1).toNat = _ from h3, IntKind.wrap_u64]
  omega

theorem mod_step (n i : Nat) (h : n / 2 ^ i % 2 = 1) : n % 2 ^ (i + 1) = n % 2 ^ i + 2 ^ i := by rw [bit_step, if_pos h]
theorem mod_step0 (n i : Nat) (h : n / 2 ^ i % 2 ≠ 1) : n % 2 ^ (i + 1) = n % 2 ^ i := by rw [bit_step, if_neg h, Nat.add_zero]
theorem natAbs_mul_pow_lt {a : Int} {k b c : Nat} (h : a.natAbs < 2 ^ b) (hk : k ≤ 2 ^ c) : (a * (k : Int)).natAbs < 2 ^ (b + c) := by
  rw [Int.natAbs_mul, Int.natAbs_natCast, Nat.pow_add]
  exact Nat.lt_of_le_of_lt (Nat.mul_le_mul_left _ hk) (Nat.mul_lt_mul_of_pos_right h (Nat.pow_pos (by decide)))

theorem timesN (a : Int) (n : Nat) (ha : a.natAbs < 2 ^ 300) (hn : n < 18446744073709551616) : FnC Try.prog 25 [numD a, .int .u64 n] (· = numD (a * n)) := by
  refine FnC.mk Try.func25 rfl rfl (Nat.le_of_ble_eq_true rfl) ?_ (by rintro _ rfl; exact blw_numD _) ?_
  · intro d hd
    simp at hd
    rcases hd with rfl | rfl
    · exact blw_numD _
    · simp
  refine callK.eq zeroC ?_
  refine joinK.direct ?_
  refine loopK.use [1, 2, 4, 5, 6] (fun i : Nat => [.int .u64 n, .pobj 0 0 0, .pobj 1 0 0, .pobj 2 0 0, .int .i64 i]) (fun i => [numPO (numC a), numPO num0, numPO (numC (a * (n % 2 ^ i : Nat)))])
    (fun i => i ≤ 64) (fun i => 64 - i) 0 (by decide) ⟨rfl, rfl, rfl, rfl, rfl, trivial⟩ (.inl ?_) ?_
  · rw [Nat.pow_zero, Nat.mod_one, show a * ((0 : Nat) : Int) = 0 from Int.mul_zero a]; rfl
  intro i hi
  refine joinK.direct ⟨fun h => join_go ?_, fun h => join_go ?_⟩
  · have h : i < 64 := by have := of_decide_eq_true h; omega
    refine joinK.direct ?_
    refine ⟨by rw [IntKind.wrap_u64]; omega, ?_⟩
    have hv := bit64 n i hn h
    have hb1 : a * (n % 2 ^ i : Nat) + a * (2 ^ i : Nat) = a * ((n % 2 ^ i + 2 ^ i : Nat) : Int) := by rw [← Int.mul_add, Int.natCast_add]
    have hle : 2 ^ i ≤ 2 ^ 63 := Nat.pow_le_pow_right (by decide) (by omega)
    have hml : n % 2 ^ i < 2 ^ i := Nat.mod_lt _ (Nat.pow_pos (by decide))
    have hA := natAbs_mul_pow_lt (k := 2 ^ i) (c := 63) ha hle
    have hB := natAbs_mul_pow_lt (k := n % 2 ^ i) (c := 63) ha (by omega)
    refine ⟨fun hbit => ?_, fun hbit => join_go ?_⟩
    · have hb : n / 2 ^ i % 2 = 1 := by
        have hbit : (IntKind.u64.wrap ((BitVec.ofInt IntKind.u64.bits ((n : Int).fdiv (2 ^ min (IntKind.u64.wrap (i : Int)).toNat IntKind.u64.bits)) &&& BitVec.ofInt IntKind.u64.bits 1).toNat : Int) == 1) = true := hbit
        rw [hv] at hbit
        have := beq_iff_eq.1 hbit; omega
      refine drawK.mk (by kernel_rfl) ?_
      refine callE.mk (shifted a.natAbs i (by omega)) ?_
      have c := plusN (a * (n % 2 ^ i : Nat)) (a * (2 ^ i : Nat)) (Nat.lt_trans hB (by decide)) (Nat.lt_trans hA (by decide))
      have e : numD (a * (2 ^ i : Nat)) = .agg [.list (digL (a.natAbs * 2 ^ i % 2 ^ 384)), .bool (decide (a < 0))] := by
        refine (num_eq ?_ ?_).symm
        · rw [Int.natAbs_mul, Int.natAbs_natCast, Nat.mod_eq_of_lt]
          rw [Int.natAbs_mul, Int.natAbs_natCast] at hA
          exact Nat.lt_trans hA (by decide)
        · rw [decide_eq_decide]
          have hp : (0 : Int) < ((2 ^ i : Nat) : Int) := Int.natCast_pos.2 (Nat.pow_pos (by decide))
          constructor
          · intro h; exact Int.mul_neg_of_neg_of_pos h hp
          · intro h
            rcases Int.lt_or_le a 0 with h1 | h1
            · exact h1
            · exact absurd h (Int.not_lt.2 (Int.mul_nonneg h1 (Int.le_of_lt hp)))
      rw [e] at c
      refine callE.mk c ?_
      refine join_go (loop_next (i + 1) (by omega) (by omega) ⟨rfl, rfl, rfl, rfl, int_eq ?_, trivial⟩ (.inl ?_))
      · rw [IntKind.wrap_i64]; omega
      · show [numPO (numC a), numPO num0, numPO (numC (a * (n % 2 ^ i : Nat) + a * (2 ^ i : Nat)))] = _
        rw [hb1, ← mod_step n i hb]
    · have hb : n / 2 ^ i % 2 ≠ 1 := by
        have hbit : (IntKind.u64.wrap ((BitVec.ofInt IntKind.u64.bits ((n : Int).fdiv (2 ^ min (IntKind.u64.wrap (i : Int)).toNat IntKind.u64.bits)) &&& BitVec.ofInt IntKind.u64.bits 1).toNat : Int) == 1) = false := hbit
        rw [hv] at hbit
        intro e; rw [e] at hbit; exact absurd hbit (by decide)
      refine loop_next (i + 1) (by omega) (by omega) ⟨rfl, rfl, rfl, rfl, int_eq ?_, trivial⟩ (.inl ?_)
      · rw [IntKind.wrap_i64]; omega
      · show [numPO (numC a), numPO num0, numPO (numC (a * (n % 2 ^ i : Nat)))] = [numPO (numC a), numPO num0, numPO (numC (a * (n % 2 ^ (i + 1) : Nat)))]
        rw [mod_step0 n i hb]
  · have h : i = 64 := by have := of_decide_eq_false h; omega
    subst h
    have hz : a * (n % 2 ^ 64 : Nat) = a * (n : Int) := by rw [Nat.mod_eq_of_lt hn]
    have hB := natAbs_mul_pow_lt (k := n) (c := 64) ha (by omega)
    refine drawK.mk (by kernel_rfl) ?_
    have c := isZero (a * (n % 2 ^ 64 : Nat)).natAbs (by rw [hz]; exact Nat.lt_trans hB (by decide))
    refine ⟨fun h => ?_, fun h => ?_⟩
    · have h : decide (a * (n % 2 ^ 64 : Nat) < 0) = true := h
      refine callE.mk c ?_
      refine fin_eq (.agg [.list _, .bool _]) rfl (num_eq (by rw [hz]) ?_)
      rw [hz] at h ⊢
      generalize a * (n : Int) = z at h ⊢
      have h1 : z < 0 := of_decide_eq_true h
      rw [Bool.eq_iff_iff]; simp; omega
    · have h : decide (a * (n % 2 ^ 64 : Nat) < 0) = !true := h
      refine fin_eq (.agg [.list _, .bool _]) rfl (num_eq (by rw [hz]) ?_)
      rw [hz] at h
      rw [h]; rfl
end Go.Proofs.Ytckcagmlippneaa
