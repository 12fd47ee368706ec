/- Wide's reference: Wide. -/
import Derived.Test.YtckcagmlippneaaW8
set_option linter.unusedSimpArgs false
set_option linter.unusedVariables false
namespace Go.Proofs.Ytckcagmlippneaa
open Go Go.Pv Go.RowKit
set_option maxRecDepth 10000
set_option exponentiation.threshold 1000

/-- A number modulo 2^128 as a wide has it. -/
def hiW (x : Int) : Int := IntKind.i64.wrap (x / 18446744073709551616)
def loW (x : Int) : Int := x % 18446744073709551616

theorem shl_or (z i : Nat) (hi : i < 4) :
    IntKind.u64.wrap ((BitVec.ofInt IntKind.u64.bits ((z % 65536 ^ i : Nat) : Int) ||| BitVec.ofInt IntKind.u64.bits (IntKind.u64.wrap (IntKind.u64.wrap (digN z i : Int) * 2 ^ min (IntKind.u64.wrap (IntKind.i64.wrap (16 * (i : Int)))).toNat IntKind.u64.bits))).toNat : Int) = ((z % 65536 ^ (i + 1) : Nat) : Int) := by
  rw [show IntKind.u64.wrap (IntKind.i64.wrap (16 * (i : Int))) = ((16 * i : Nat) : Int) from by rw [IntKind.wrap_u64, IntKind.wrap_i64]; omega, Int.toNat_natCast,
    show min (16 * i) IntKind.u64.bits = 16 * i from Nat.min_eq_left (by show 16 * i ≤ 64; omega)]
  have hd := digN_lt z i
  have hm : z % 65536 ^ i < 65536 ^ i := Nat.mod_lt _ (Nat.pow_pos (by decide))
  have hp : 65536 ^ i ≤ 65536 ^ 3 := Nat.pow_le_pow_right (by decide) (by omega)
  have hprod : digN z i * 65536 ^ i ≤ 65535 * 65536 ^ 3 := Nat.mul_le_mul (by omega) hp
  rw [show IntKind.u64.wrap (digN z i : Int) = (digN z i : Int) from by rw [IntKind.wrap_u64]; omega,
    show (digN z i : Int) * 2 ^ (16 * i) = ((digN z i * 65536 ^ i : Nat) : Int) from by rw [pow16]; simp,
    show IntKind.u64.wrap ((digN z i * 65536 ^ i : Nat) : Int) = ((digN z i * 65536 ^ i : Nat) : Int) from by generalize digN z i * 65536 ^ i = y at *; rw [IntKind.wrap_u64]; omega]
  have e : z % 65536 ^ (i + 1) = digN z i * 65536 ^ i + z % 65536 ^ i := by
    rw [Nat.pow_succ, Nat.mod_mul]; unfold digN; rw [Nat.mul_comm, Nat.add_comm]
  have eo : (BitVec.ofInt IntKind.u64.bits ((z % 65536 ^ i : Nat) : Int) ||| BitVec.ofInt IntKind.u64.bits ((digN z i * 65536 ^ i : Nat) : Int)).toNat = z % 65536 ^ (i + 1) := by
    have ha : z % 65536 ^ i < 2 ^ 64 := Nat.lt_of_lt_of_le hm (by omega)
    have hb : digN z i * 65536 ^ i < 2 ^ 64 := by omega
    rw [BitVec.toNat_or, BitVec.ofInt_natCast, BitVec.ofInt_natCast, BitVec.toNat_ofNat, BitVec.toNat_ofNat]
    show z % 65536 ^ i % 2 ^ 64 ||| digN z i * 65536 ^ i % 2 ^ 64 = _
    rw [Nat.mod_eq_of_lt ha, Nat.mod_eq_of_lt hb, e]
    have hq := Nat.two_pow_add_eq_or_of_lt (i := 16 * i) (b := z % 65536 ^ i) (by rw [← pow16]; exact hm) (digN z i)
    rw [← pow16, Nat.mul_comm] at hq
    rw [Nat.or_comm]; exact hq.symm
  rw [eo]
  have : z % 65536 ^ (i + 1) < 18446744073709551616 := by rw [e]; omega
  generalize z % 65536 ^ (i + 1) = y at *
  rw [IntKind.wrap_u64]; omega
theorem dig_hi (z i : Nat) : digN (z / 18446744073709551616) i = digN z (4 + i) := by
  unfold digN
  rw [Nat.pow_add, Nat.div_div_eq_div_mul]
theorem int2 {k k' : IntKind} {x x' y y' : Int} (h : x = x') (h' : y = y') : DV.tup [.int k x, .int k' y] = .tup [.int k x', .int k' y'] := by rw [h, h']

theorem wideN (x : Int) (hx : x.natAbs < 2 ^ 300) : FnC Try.prog 43 [numD x] (· = .tup [.int .i64 (hiW x), .int .u64 (loW x)]) := by
  refine FnC.mk Try.func43 rfl rfl (Nat.le_of_ble_eq_true rfl) blw_num1 (by rintro _ rfl; simp) ?_
  refine callK.eq (power 127 (by decide)) ?_
  refine joinK.direct ?_
  refine loopK.use [1, 4] (fun _ : Int => [.pobj 0 0 0, .pobj 1 0 0]) (fun y => [numPO (numC y), numPO (numC (2 ^ 127))])
    (fun y => (y - x) % 340282366920938463463374607431768211456 = 0 ∧ y.natAbs < 2 ^ 300) (fun y => (-y).toNat) x ⟨by simp, hx⟩ ⟨rfl, rfl, trivial⟩ (.inl rfl) ?_
  rintro y ⟨hm, hy⟩
  refine joinK.direct ?_
  refine drawK.mk (by kernel_rfl) ?_
  refine callE.mk (turnedN (2 ^ 127) (by decide)) ?_
  refine callE.mk (belowN y (-(2 ^ 127)) (by omega) (by decide)) ?_
  refine ⟨fun h => join_go ?_, fun h => join_go ?_⟩
  · have h : y < -(2 ^ 127) := of_decide_eq_true h
    refine drawK.mk (by kernel_rfl) ?_
    refine callE.mk (power 128 (by decide)) ?_
    refine callE.mk (plusN y (2 ^ 128) (by omega) (by decide)) ?_
    exact loop_next (y + 2 ^ 128) ⟨by omega, by omega⟩ (by omega) ⟨rfl, rfl, trivial⟩ (.inl rfl)
  have h0 : -(2 ^ 127) ≤ y := by have := of_decide_eq_false h; omega
  clear h
  refine joinK.direct ?_
  refine loopK.use [1, 4] (fun _ : Int => [.pobj 0 0 0, .pobj 1 0 0]) (fun y => [numPO (numC y), numPO (numC (2 ^ 127))])
    (fun y => (y - x) % 340282366920938463463374607431768211456 = 0 ∧ y.natAbs < 2 ^ 300 ∧ -(2 ^ 127) ≤ y) (fun y => y.toNat) y ⟨hm, hy, h0⟩ ⟨rfl, rfl, trivial⟩ (.inl rfl) ?_
  clear hm hy h0 y
  rintro y ⟨hm, hy, h0⟩
  refine joinK.direct ?_
  refine callK.eq (belowN y (2 ^ 127) (by omega) (by decide)) ?_
  refine ⟨fun h => join_go ?_, fun h => join_go ?_⟩
  · have h : (!decide (y < 2 ^ 127)) = true := h
    have h : ¬ y < 2 ^ 127 := by simpa using h
    refine drawK.mk (by kernel_rfl) ?_
    refine callE.mk (power 128 (by decide)) ?_
    refine callE.mk (turnedN (2 ^ 128) (by decide)) ?_
    refine callE.mk (plusN y (-(2 ^ 128)) (by omega) (by decide)) ?_
    exact loop_next (y + -(2 ^ 128)) ⟨by omega, by omega, by omega⟩ (by omega) ⟨rfl, rfl, trivial⟩ (.inl rfl)
  have h1 : y < 2 ^ 127 := by
    have h : (!decide (y < 2 ^ 127)) = false := h
    simpa using h
  clear h
  obtain ⟨z, hz⟩ : ∃ z : Nat, (z : Int) = x % 340282366920938463463374607431768211456 := ⟨(x % 340282366920938463463374607431768211456).toNat, by omega⟩
  refine joinK.use [1] (fun _ : Unit => [.pobj 0 0 0]) (fun _ => [numPO (numC z), numPO (numC (2 ^ 127))]) (fun _ => True) ?_ ?_
  · refine ⟨fun h => ?_, fun h => ?_⟩
    · have h : y < 0 := of_decide_eq_true h
      refine drawK.mk (by kernel_rfl) ?_
      refine callE.mk (power 128 (by decide)) ?_
      refine callE.mk (plusN y (2 ^ 128) (by omega) (by decide)) ?_
      refine join_at () trivial ⟨rfl, trivial⟩ (.inl ?_)
      show [numPO (numC (y + 2 ^ 128)), numPO (numC (2 ^ 127))] = [numPO (numC z), numPO (numC (2 ^ 127))]
      rw [show y + 2 ^ 128 = z from by omega]
    · have h : ¬ y < 0 := of_decide_eq_false h
      refine join_at () trivial ⟨rfl, trivial⟩ (.inl ?_)
      show [numPO (numC y), numPO (numC (2 ^ 127))] = [numPO (numC z), numPO (numC (2 ^ 127))]
      rw [show y = z from by omega]
  rintro ⟨⟩ -
  refine joinK.direct ?_
  refine loopK.use [1, 5, 6, 7] (fun i : Nat => [.pobj 0 0 0, .int .u64 (z / 18446744073709551616 % 65536 ^ i : Nat), .int .u64 (z % 65536 ^ i : Nat), .int .i64 i]) (fun _ => [numPO (numC z), numPO (numC (2 ^ 127))])
    (fun i => i ≤ 4) (fun i => 4 - i) 0 (by decide) ⟨rfl, int_eq (by rw [Nat.pow_zero, Nat.mod_one]; rfl), int_eq (by rw [Nat.pow_zero, Nat.mod_one]; rfl), rfl, trivial⟩ (.inl rfl) ?_
  intro i hi
  refine joinK.direct ⟨fun h => join_go ?_, fun h => join_go ?_⟩
  · have h : i < 4 := by have := of_decide_eq_true h; omega
    refine ⟨by omega, by rw [digL_len]; omega, optK.mk (digL_get z i (by omega)) ?_⟩
    refine ⟨by rw [IntKind.wrap_u64]; omega, ?_⟩
    refine ⟨by rw [IntKind.wrap_i64]; omega, by rw [digL_len, IntKind.wrap_i64]; omega, optK.mk (by rw [show (IntKind.i64.wrap (4 + (i : Int))).toNat = 4 + i from by rw [IntKind.wrap_i64]; omega]; exact digL_get z (4 + i) (by omega)) ?_⟩
    refine ⟨by rw [IntKind.wrap_u64]; omega, ?_⟩
    refine loop_next (i + 1) (by omega) (by omega) ⟨rfl, int_eq ?_, int_eq ?_, int_eq ?_, trivial⟩ (.inl rfl)
    · have := shl_or (z / 18446744073709551616) i h
      rw [dig_hi] at this
      exact this
    · exact shl_or z i h
    · rw [IntKind.wrap_i64]; omega
  · have h : i = 4 := by have := of_decide_eq_false h; omega
    subst h
    refine fin_eq (.tup [.int _ _, .int _ _]) rfl (int2 ?_ ?_)
    · unfold hiW
      rw [IntKind.wrap_i64, IntKind.wrap_i64]
      omega
    · unfold loW
      omega
end Go.Proofs.Ytckcagmlippneaa
