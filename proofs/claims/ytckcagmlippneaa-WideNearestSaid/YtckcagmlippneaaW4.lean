/- Wide's reference: Small, Int. -/
import Derived.Test.YtckcagmlippneaaW3
import Derived.Laws.Bits64
set_option linter.unusedSimpArgs false
set_option linter.unusedVariables false
namespace Go.Proofs.Ytckcagmlippneaa
open Go Go.Pv Go.RowKit
set_option maxRecDepth 10000

theorem and16 (x : Nat) (hx : x < 18446744073709551616) : (BitVec.ofInt 64 (x : Int) &&& BitVec.ofInt 64 65535).toNat = x % 65536 := by
  rw [BitVec.toNat_and]
  have : (BitVec.ofInt 64 (x : Int)).toNat = x := by rw [BitVec.ofInt_natCast, BitVec.toNat_ofNat]; exact Nat.mod_eq_of_lt hx
  rw [this]
  show x &&& 65535 = _
  exact Nat.and_two_pow_sub_one_eq_mod x 16
theorem fdiv_pow (v n : Nat) : (v : Int).fdiv (2 ^ n) = ((v / 2 ^ n : Nat) : Int) := by
  rw [Int.fdiv_eq_ediv_of_nonneg _ (Int.le_of_lt (Int.pow_pos (by decide)))]
  simp
theorem pow16 (i : Nat) : 65536 ^ i = 2 ^ (16 * i) := by rw [Nat.pow_mul]

theorem sig2 {x : Option PO} {els els' : List (List DV)} (h : els = els') : [x, some (PO.mk false 1 85 els)] = [x, some (PO.mk false 1 85 els')] := by rw [h]

theorem small (v : Nat) (hv : v < 18446744073709551616) : FnC Try.prog 50 [.int .u64 v] (· = numD v) := by
  refine FnC.mk Try.func50 rfl rfl (Nat.le_of_ble_eq_true rfl) (by simp) (by rintro _ rfl; exact blw_numD _) ?_
  refine callK.own zero ?_
  refine joinK.direct ?_
  refine loopK.use [0, 2, 3, 4] (fun i : Nat => [.int .u64 v, .pobj 0 0 0, .ref 1 0 24, .int .i64 i]) (fun i => [some ⟨false, 2, 27, [[.nils, .bool false]]⟩, some (objK v i)]) (fun i => i ≤ 4) (fun i => 4 - i) 0 (by decide)
    ⟨rfl, rfl, rfl, rfl, trivial⟩ (.inl ?_) ?_
  · show [some (PO.mk false 2 27 [[.nils, .bool false]]), some (objK 0 0)] = [some ⟨false, 2, 27, [[.nils, .bool false]]⟩, some (objK v 0)]
    unfold objK; rw [digK_zero' v]
  intro i hi
  refine joinK.direct ⟨fun h => join_go ?_, fun h => join_go ?_⟩
  · have h : i < 4 := by have := of_decide_eq_true h; omega
    have e1 : IntKind.i64.wrap (16 * (i : Int)) = ((16 * i : Nat) : Int) := by rw [IntKind.wrap_i64]; omega
    have e2 : IntKind.u64.wrap ((16 * i : Nat) : Int) = ((16 * i : Nat) : Int) := by rw [IntKind.wrap_u64]; omega
    refine ⟨by rw [IntKind.wrap_u64]; omega, by omega, by omega, optK.mk rfl ?_⟩
    refine optK.mk (digK_get' v i (i := i) (by omega) (show i < 24 by omega)) ?_
    refine loop_next (i + 1) (by omega) (by omega) ⟨rfl, rfl, rfl, int_eq ?_, trivial⟩ (.inl (sig2 (set_cell (by omega) ?_)))
    · rw [IntKind.wrap_i64]; omega
    · rw [e1, e2, show min ((16 * i : Nat) : Int).toNat IntKind.u64.bits = 16 * i from by rw [Int.toNat_natCast]; exact Nat.min_eq_left (by show 16 * i ≤ 64; omega), fdiv_pow]
      rw [show (BitVec.ofInt IntKind.u64.bits ((v / 2 ^ (16 * i) : Nat) : Int) &&& BitVec.ofInt IntKind.u64.bits 65535).toNat = v / 2 ^ (16 * i) % 65536 from and16 _ (Nat.lt_of_le_of_lt (Nat.div_le_self _ _) hv)]
      have h1 := digN_lt v i
      have h2 : v / 2 ^ (16 * i) % 65536 = digN v i := by unfold digN; rw [pow16]
      rw [h2, IntKind.wrap_u64, IntKind.wrap_u32]; omega
  · have h : i = 4 := by have := of_decide_eq_false h; omega
    subst h
    have hk : digK v 4 = digL v := by
      unfold digL digK
      refine List.map_congr_left fun i hi => ?_
      have hi : i < 24 := by simpa using hi
      have h24 : Nat.blt i 24 = true := Nat.ble_eq_true_of_le hi
      rw [h24]
      cases hb : Nat.blt i 4 with
      | true => rfl
      | false =>
        have h4 : 4 ≤ i := by
          rcases Nat.lt_or_ge i 4 with h | h
          · exact absurd (Nat.ble_eq_true_of_le h) (by rw [show Nat.ble (i + 1) 4 = false from hb]; simp)
          · exact h
        have : v / 65536 ^ i = 0 := Nat.div_eq_of_lt (Nat.lt_of_lt_of_le hv (Nat.le_trans (by decide) (Nat.pow_le_pow_right (by decide) h4)))
        simp [digN, this]
    refine .inr ⟨.agg [.list (digK v 4), .bool false], snap_agg ⟨snap_whole (po := objK v 4) rfl (by rw [show (objK v 4).els = digL v from hk]; exact blw_digL v), .pure _ (.bool _), trivial⟩, ?_⟩
    · rw [hk]; exact num_eq (by omega) (by simp)
end Go.Proofs.Ytckcagmlippneaa
