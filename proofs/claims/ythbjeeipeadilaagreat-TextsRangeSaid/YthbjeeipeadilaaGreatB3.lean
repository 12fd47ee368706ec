/- The package bits: what its functions come to, as contracts. -/
import Derived.Test.YthbjeeipeadilaaGreatB2
import Derived.Test.YthbjeeipeadilaaGreatIC
import Derived.Test.YthbjeeipeadilaaGreatPvZ
import Derived.Laws.Bits64b
set_option linter.unusedSimpArgs false
set_option linter.unusedVariables false
set_option maxRecDepth 10000
namespace Go.Proofs.YthbjeeipeadilaaGreat
open Go Go.Pv Go.RowKit

def F1 (x : Int) : Int := IntKind.u64.wrap (Go.bits .and .u64 (x.fdiv (2 ^ min (1 : Int).toNat IntKind.u64.bits)) 6148914691236517205 + Go.bits .and .u64 x 6148914691236517205)
def F2 (x : Int) : Int := IntKind.u64.wrap (Go.bits .and .u64 (x.fdiv (2 ^ min (2 : Int).toNat IntKind.u64.bits)) 3689348814741910323 + Go.bits .and .u64 x 3689348814741910323)
def F3 (x : Int) : Int := Go.bits .and .u64 (IntKind.u64.wrap (x.fdiv (2 ^ min (4 : Int).toNat IntKind.u64.bits) + x)) 1085102592571150095
def F4 (x : Int) : Int := IntKind.u64.wrap (x + x.fdiv (2 ^ min (8 : Int).toNat IntKind.u64.bits))
def F5 (x : Int) : Int := IntKind.u64.wrap (x + x.fdiv (2 ^ min (16 : Int).toNat IntKind.u64.bits))
def F6 (x : Int) : Int := IntKind.u64.wrap (x + x.fdiv (2 ^ min (32 : Int).toNat IntKind.u64.bits))
def F7 (x : Int) : Int := Go.bits .and .i64 (IntKind.i64.wrap x) 127
theorem fd_nat (x k m : Nat) (h : m = 2 ^ k) : (x : Int).fdiv (2 ^ k) = ((x / m : Nat) : Int) := by
  have h2 : (0 : Int) ≤ 2 ^ k := Int.le_of_lt (Int.pow_pos (by decide))
  rw [Int.fdiv_eq_ediv_of_nonneg _ h2, h, Int.natCast_ediv, Int.natCast_pow]; rfl
theorem and_127 (n : Nat) (h1 : n < 2 ^ 63) : Go.bits .and .i64 (n : Int) 127 = ((n % 128 : Nat) : Int) := by
  have key : (BitVec.ofInt 64 (n : Int) &&& BitVec.ofInt 64 127).toNat = n % 2 ^ 7 := by
    have h127 : (BitVec.ofInt 64 127).toNat = 2 ^ 7 - 1 := by decide
    rw [BitVec.toNat_and, h127, Nat.and_two_pow_sub_one_eq_mod, BitVec.ofInt_natCast, BitVec.toNat_ofNat]
    omega
  show IntKind.i64.wrap ((BitVec.ofInt 64 (n : Int) &&& BitVec.ofInt 64 127).toNat : Nat) = _
  rw [key, IntKind.wrap_i64]
  omega
theorem F1_eq (x : Nat) (hx : x < 2 ^ 64) (hs : sw1 x ≤ 12297829382473034410) : F1 x = (sw1 x : Nat) := by
  have e1 := fd_nat x 1 (2 ^ 1) rfl
  have e2 := bits_and_u64_nat (x / 2 ^ 1) 6148914691236517205 (by omega) (by decide)
  have e3 := bits_and_u64_nat x 6148914691236517205 (by omega) (by decide)
  have e0 : x / 2 ^ 0 = x := Nat.div_one x
  unfold sw1 at hs ⊢
  rw [e0] at hs ⊢
  unfold F1
  rw [show (2 : Int) ^ min (1 : Int).toNat IntKind.u64.bits = 2 ^ 1 from rfl, e1]
  show IntKind.u64.wrap (Go.bits .and .u64 ((x / 2 ^ 1 : Nat) : Int) ((6148914691236517205 : Nat) : Int) + Go.bits .and .u64 (x : Int) ((6148914691236517205 : Nat) : Int)) = _
  rw [e2, e3, IntKind.wrap_u64]
  generalize (x / 2 ^ 1 &&& 6148914691236517205) = A at *
  generalize (x &&& 6148914691236517205) = B at *
  omega
theorem F2_eq (x : Nat) (hx : x < 2 ^ 64) (hs : sw2 x ≤ 12297829382473034410) : F2 x = (sw2 x : Nat) := by
  have e1 := fd_nat x 2 (2 ^ 2) rfl
  have e2 := bits_and_u64_nat (x / 2 ^ 2) 3689348814741910323 (by omega) (by decide)
  have e3 := bits_and_u64_nat x 3689348814741910323 (by omega) (by decide)
  have e0 : x / 2 ^ 0 = x := Nat.div_one x
  unfold sw2 at hs ⊢
  rw [e0] at hs ⊢
  unfold F2
  rw [show (2 : Int) ^ min (2 : Int).toNat IntKind.u64.bits = 2 ^ 2 from rfl, e1]
  show IntKind.u64.wrap (Go.bits .and .u64 ((x / 2 ^ 2 : Nat) : Int) ((3689348814741910323 : Nat) : Int) + Go.bits .and .u64 (x : Int) ((3689348814741910323 : Nat) : Int)) = _
  rw [e2, e3, IntKind.wrap_u64]
  generalize (x / 2 ^ 2 &&& 3689348814741910323) = A at *
  generalize (x &&& 3689348814741910323) = B at *
  omega
theorem F3_eq (x : Nat) (hx : x ≤ 12297829382473034410) : F3 x = (sw3 x : Nat) := by
  have e1 := fd_nat x 4 16 rfl
  have hw : IntKind.u64.wrap (((x / 16 : Nat) : Int) + x) = ((x / 16 + x : Nat) : Int) := by rw [IntKind.wrap_u64]; omega
  have e2 := bits_and_u64_nat (x / 16 + x) 1085102592571150095 (by omega) (by decide)
  unfold sw3 F3
  rw [show (2 : Int) ^ min (4 : Int).toNat IntKind.u64.bits = 2 ^ 4 from rfl, e1, hw]
  exact e2
theorem F4_eq (x : Nat) (hx : x + x / 256 < 2 ^ 63) : F4 x = ((x + x / 256 : Nat) : Int) := by
  unfold F4
  rw [show (2 : Int) ^ min (8 : Int).toNat IntKind.u64.bits = 2 ^ 8 from rfl, fd_nat x 8 256 rfl, IntKind.wrap_u64]; omega
theorem F5_eq (x : Nat) (hx : x + x / 65536 < 2 ^ 63) : F5 x = ((x + x / 65536 : Nat) : Int) := by
  unfold F5
  rw [show (2 : Int) ^ min (16 : Int).toNat IntKind.u64.bits = 2 ^ 16 from rfl, fd_nat x 16 65536 rfl, IntKind.wrap_u64]; omega
theorem F6_eq (x : Nat) (hx : x + x / 4294967296 < 2 ^ 63) : F6 x = ((x + x / 4294967296 : Nat) : Int) := by
  unfold F6
  rw [show (2 : Int) ^ min (32 : Int).toNat IntKind.u64.bits = 2 ^ 32 from rfl, fd_nat x 32 4294967296 rfl, IntKind.wrap_u64]; omega
theorem F7_eq (x : Nat) (hx : x < 2 ^ 63) : F7 x = ((x % 128 : Nat) : Int) := by
  unfold F7
  rw [show IntKind.i64.wrap (x : Int) = x from by rw [IntKind.wrap_i64]; omega]
  exact and_127 x hx
theorem F_all (x : Nat) (hx : x < 2 ^ 64) : F7 (F6 (F5 (F4 (F3 (F2 (F1 x)))))) = (ones 64 x : Nat) := by
  obtain ⟨d0, d1, d2, d3, d4, d5, d6, d7, h1, h2, h3, b0, b1, b2, b3, b4, b5, b6, b7, hs⟩ := count_steps x hx
  obtain ⟨z, u, v, hz, hu, hv, ⟨l1, l2, l3⟩, he⟩ := count_end _ d0 d1 d2 d3 d4 d5 d6 d7 h3 b0 b1 b2 b3 b4 b5 b6 b7
  rw [F1_eq x hx h1, F2_eq _ (Nat.lt_of_le_of_lt h1 (by decide)) (Nat.le_trans h2 (by decide)), F3_eq _ (Nat.le_trans h2 (by decide)), F4_eq _ (hz ▸ l1), ← hz, F5_eq _ (hu ▸ l2), ← hu, F6_eq _ (hv ▸ l3), ← hv, F7_eq _ l3, he, hs]
theorem onesC (x : Nat) (hx : x < 2 ^ 64) : FnC Tryz.prog 100 [.int .u64 x] (· = .int .i64 (ones 64 x : Nat)) := by
  have h := F_all x hx
  refine FnC.mk Tryz.func100 rfl rfl (Nat.le_of_ble_eq_true rfl) (by simp) (by rintro _ rfl; simp) ?_
  refine ⟨by decide, ?_⟩
  refine ⟨by decide, ?_⟩
  refine ⟨by decide, ?_⟩
  refine ⟨by decide, ?_⟩
  refine ⟨by decide, ?_⟩
  refine ⟨by decide, ?_⟩
  exact fin_eq (.int _ (F7 (F6 (F5 (F4 (F3 (F2 (F1 x)))))))) rfl (int_eq h)
end Go.Proofs.YthbjeeipeadilaaGreat
