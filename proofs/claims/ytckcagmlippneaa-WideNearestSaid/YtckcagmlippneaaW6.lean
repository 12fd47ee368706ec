/- Wide's reference: shifted. -/
import Derived.Test.YtckcagmlippneaaW5
set_option linter.unusedSimpArgs false
set_option linter.unusedVariables false
namespace Go.Proofs.Ytckcagmlippneaa
open Go Go.Pv Go.RowKit
set_option maxRecDepth 10000
set_option exponentiation.threshold 1000

theorem pow_split (i : Nat) : (2 : Nat) ^ i = 65536 ^ (i / 16) * 2 ^ (i % 16) := by
  rw [pow16, ← Nat.pow_add]; congr 1; omega
theorem bit_step (x i : Nat) : x % 2 ^ (i + 1) = x % 2 ^ i + (if x / 2 ^ i % 2 = 1 then 2 ^ i else 0) := by
  rw [Nat.pow_succ, Nat.mod_mul]
  have := Nat.mod_two_eq_zero_or_one (x / 2 ^ i)
  rcases this with h | h <;> simp [h]
theorem dig_low (m i : Nat) (hm : m < 2 ^ i) : m / 65536 ^ (i / 16) < 2 ^ (i % 16) := by
  rw [Nat.div_lt_iff_lt_mul (Nat.pow_pos (by decide)), Nat.mul_comm, ← pow_split]; exact hm
theorem dig_bit (m i : Nat) (hm : m < 2 ^ i) : digN (m + 2 ^ i) (i / 16) = (digN m (i / 16) ||| 2 ^ (i % 16)) ∧ digN m (i / 16) < 2 ^ (i % 16) := by
  have hr : 2 ^ (i % 16) ≤ 2 ^ 15 := Nat.pow_le_pow_right (by decide) (by omega)
  have h1 := dig_low m i hm
  have hd : digN m (i / 16) = m / 65536 ^ (i / 16) := Nat.mod_eq_of_lt (by omega)
  refine ⟨?_, by rw [hd]; exact h1⟩
  rw [hd]
  unfold digN
  rw [pow_split i, Nat.add_mul_div_left _ _ (Nat.pow_pos (by decide))]
  have := Nat.two_pow_add_eq_or_of_lt h1 1
  rw [Nat.mul_one] at this
  rw [Nat.or_comm, ← this, Nat.mod_eq_of_lt (by omega)]; omega
theorem dig_other (m i j : Nat) (hm : m < 2 ^ i) (hj : j ≠ i / 16) : digN (m + 2 ^ i) j = digN m j := by
  unfold digN
  rcases Nat.lt_or_ge j (i / 16) with h | h
  · obtain ⟨c, hc⟩ : ∃ c, i / 16 = j + 1 + c := ⟨i / 16 - (j + 1), by omega⟩
    rw [pow_split i, hc, Nat.pow_add, Nat.pow_succ, Nat.mul_assoc, Nat.mul_assoc, Nat.add_mul_div_left _ _ (Nat.pow_pos (by decide)), Nat.add_mul_mod_self_left]
  · have h1 : 2 ^ (i + 1) ≤ 65536 ^ j := by rw [pow16]; exact Nat.pow_le_pow_right (by decide) (by omega)
    rw [Nat.pow_succ] at h1
    rw [Nat.div_eq_of_lt (by omega), Nat.div_eq_of_lt (by omega)]
theorem digL_set (m i : Nat) (hm : m < 2 ^ i) : (digL m).set (i / 16) (cell32 (digN m (i / 16) ||| 2 ^ (i % 16))) = digL (m + 2 ^ i) := by
  apply List.ext_getElem?
  intro j
  by_cases hj : j < 24
  · rw [List.getElem?_set]
    by_cases hjk : i / 16 = j
    · subst hjk
      rw [if_pos rfl, if_pos (by rw [digL_len]; omega), digL_get (m + 2 ^ i) _ hj, (dig_bit m i hm).1]
    · rw [if_neg hjk, digL_get m j hj, digL_get (m + 2 ^ i) j hj, dig_other m i j hm (by omega)]
  · rw [List.getElem?_eq_none (by simp [digL_len]; omega), List.getElem?_eq_none (by simp [digL_len]; omega)]

theorem fdiv32 (v n : Nat) : (v : Int).fdiv (2 ^ n) = ((v / 2 ^ n : Nat) : Int) := fdiv_pow v n
theorem and1 (x : Nat) (hx : x < 4294967296) : (BitVec.ofInt 32 (x : Int) &&& BitVec.ofInt 32 1).toNat = x % 2 := by
  rw [BitVec.toNat_and]
  have : (BitVec.ofInt 32 (x : Int)).toNat = x := by rw [BitVec.ofInt_natCast, BitVec.toNat_ofNat]; exact Nat.mod_eq_of_lt hx
  rw [this]
  show x &&& 1 = _
  exact Nat.and_two_pow_sub_one_eq_mod x 1
theorem or32 (x y : Nat) (hx : x < 4294967296) (hy : y < 4294967296) : (BitVec.ofInt 32 (x : Int) ||| BitVec.ofInt 32 (y : Int)).toNat = (x ||| y) := by
  rw [BitVec.toNat_or, BitVec.ofInt_natCast, BitVec.toNat_ofNat, BitVec.ofInt_natCast, BitVec.toNat_ofNat, Nat.mod_eq_of_lt hx, Nat.mod_eq_of_lt hy]

theorem bit_dig (a n : Nat) : digN a (n / 16) / 2 ^ (n % 16) % 2 = a / 2 ^ n % 2 := by
  have h : ∀ x i : Nat, x / 2 ^ i % 2 = (Nat.testBit x i).toNat := by
    intro x i
    rw [Nat.testBit_eq_decide_div_mod_eq]
    rcases Nat.mod_two_eq_zero_or_one (x / 2 ^ i) with h | h <;> simp [h]
  rw [h, h]
  unfold digN
  rw [show (65536 : Nat) = 2 ^ 16 from rfl, Nat.testBit_mod_two_pow, ← Nat.pow_mul, Nat.testBit_div_two_pow]
  have h1 : n % 16 < 16 := Nat.mod_lt _ (by decide)
  have h2 : n % 16 + 16 * (n / 16) = n := by omega
  simp [h1, h2, Nat.add_comm]
theorem bit_val (a n : Nat) : IntKind.u32.wrap ((BitVec.ofInt IntKind.u32.bits ((digN a (n / 16) : Int).fdiv (2 ^ min (IntKind.u64.wrap ((n : Int).tmod 16)).toNat IntKind.u32.bits)) &&& BitVec.ofInt IntKind.u32.bits 1).toNat : Int) = ((a / 2 ^ n % 2 : Nat) : Int) := by
  have h1 : n % 16 < 16 := Nat.mod_lt _ (by decide)
  rw [show (n : Int).tmod 16 = ((n % 16 : Nat) : Int) from rfl, show IntKind.u64.wrap ((n % 16 : Nat) : Int) = ((n % 16 : Nat) : Int) from by rw [IntKind.wrap_u64]; omega,
    Int.toNat_natCast, show min (n % 16) IntKind.u32.bits = n % 16 from Nat.min_eq_left (by show n % 16 ≤ 32; omega), fdiv_pow]
  have hd := digN_lt a (n / 16)
  have h2 : digN a (n / 16) / 2 ^ (n % 16) < 4294967296 := Nat.lt_of_le_of_lt (Nat.div_le_self _ _) (by omega)
  rw [show (BitVec.ofInt IntKind.u32.bits ((digN a (n / 16) / 2 ^ (n % 16) : Nat) : Int) &&& BitVec.ofInt IntKind.u32.bits 1).toNat = _ from and1 _ h2, bit_dig, IntKind.wrap_u32]
  omega
theorem or_val (x i : Nat) (hx : x < 65536) : IntKind.u32.wrap ((BitVec.ofInt IntKind.u32.bits (x : Int) ||| BitVec.ofInt IntKind.u32.bits (IntKind.u32.wrap (1 * 2 ^ min (IntKind.u64.wrap ((i : Int).tmod 16)).toNat IntKind.u32.bits))).toNat : Int) = ((x ||| 2 ^ (i % 16) : Nat) : Int) := by
  have h1 : i % 16 < 16 := Nat.mod_lt _ (by decide)
  have h2 : 2 ^ (i % 16) ≤ 2 ^ 15 := Nat.pow_le_pow_right (by decide) (by omega)
  have h3 : (x ||| 2 ^ (i % 16)) < 2 ^ 16 := Nat.or_lt_two_pow (by omega) (by omega)
  rw [show (i : Int).tmod 16 = ((i % 16 : Nat) : Int) from rfl, show IntKind.u64.wrap ((i % 16 : Nat) : Int) = ((i % 16 : Nat) : Int) from by rw [IntKind.wrap_u64]; omega,
    Int.toNat_natCast, show min (i % 16) IntKind.u32.bits = i % 16 from Nat.min_eq_left (by show i % 16 ≤ 32; omega),
    show (1 : Int) * 2 ^ (i % 16) = ((2 ^ (i % 16) : Nat) : Int) from by rw [Int.one_mul, Int.natCast_pow]; rfl, show IntKind.u32.wrap ((2 ^ (i % 16) : Nat) : Int) = ((2 ^ (i % 16) : Nat) : Int) from by generalize 2 ^ (i % 16) = y at *; rw [IntKind.wrap_u32]; omega,
    show (BitVec.ofInt IntKind.u32.bits (x : Int) ||| BitVec.ofInt IntKind.u32.bits ((2 ^ (i % 16) : Nat) : Int)).toNat = _ from or32 x (2 ^ (i % 16)) (by omega) (by omega), IntKind.wrap_u32]
  omega
theorem sh_div (a k i : Nat) (h : k ≤ i) : a * 2 ^ k / 2 ^ i = a / 2 ^ (i - k) := by
  have : 2 ^ i = 2 ^ (i - k) * 2 ^ k := by rw [← Nat.pow_add]; congr 1; omega
  rw [this, Nat.mul_div_mul_right _ _ (Nat.pow_pos (by decide))]
theorem sh_low (a k i : Nat) (h : i < k) : a * 2 ^ k / 2 ^ i % 2 = 0 := by
  have : 2 ^ k = 2 ^ i * (2 * 2 ^ (k - i - 1)) := by rw [← Nat.mul_assoc, ← Nat.pow_succ, ← Nat.pow_add]; congr 1; omega
  rw [this, Nat.mul_left_comm, Nat.mul_div_cancel_left _ (Nat.pow_pos (by decide)), Nat.mul_left_comm, Nat.mul_mod_right]

theorem set_digL {m m' i j : Nat} {v : Int} (hj : j = i / 16) (hm : m < 2 ^ i) (hm' : m' = m + 2 ^ i) (hv : v = (digN m (i / 16) ||| 2 ^ (i % 16) : Nat)) : (digL m).set j [.int .u32 v] = digL m' := by
  rw [hj, hv, hm']; exact digL_set m i hm
theorem shifted (a k : Nat) (hk : k < 1000000) : FnC Try.prog 52 [.list (digL a), .int .i64 k] (· = .list (digL (a * 2 ^ k % 2 ^ 384))) := by
  refine FnC.mk Try.func52 rfl rfl (Nat.le_of_ble_eq_true rfl) ?_ (by rintro _ rfl; simpa using blw_digL _) ?_
  · intro d hd
    simp at hd
    rcases hd with rfl | rfl
    · simpa using blw_digL _
    · simp
  refine callK.own zero ?_
  refine joinK.direct ?_
  refine loopK.use [0, 1, 5, 6] (fun i : Nat => [.list (digL a), .int .i64 k, .ref 0 0 24, .int .i64 i]) (fun i => [some ⟨false, 1, 85, digL (a * 2 ^ k % 2 ^ i)⟩]) (fun i => i ≤ 384) (fun i => 384 - i) 0 (by decide)
    ⟨rfl, rfl, rfl, rfl, trivial⟩ (.inl ?_) ?_
  · show [some (PO.mk false 1 85 (digK 0 0))] = _
    rw [show digK 0 0 = digL (a * 2 ^ k % 2 ^ 0) from by rw [show a * 2 ^ k % 2 ^ 0 = 0 from by rw [Nat.pow_zero]; exact Nat.mod_one _]; rfl]
  intro i hi
  refine joinK.direct ⟨fun h => join_go ?_, fun h => join_go ?_⟩
  · have h : i < 384 := by have := of_decide_eq_true h; omega
    refine joinK.direct ?_
    refine guardK.split ?_
    refine ⟨fun hge => ?_, fun hlt => ?_⟩
    · have hge : k ≤ i := by have := of_decide_eq_true hge; omega
      have e1 : IntKind.i64.wrap ((i : Int) - (k : Int)) = ((i - k : Nat) : Int) := by rw [IntKind.wrap_i64]; omega
      have e2 : IntKind.i64.wrap (((i - k : Nat) : Int).tdiv 16) = (((i - k) / 16 : Nat) : Int) := by
        rw [show ((i - k : Nat) : Int).tdiv 16 = (((i - k) / 16 : Nat) : Int) from rfl, IntKind.wrap_i64]; omega
      refine ⟨rfl, by decide, by rw [e1, e2]; omega, by rw [e1, e2, digL_len]; omega, optK.mk (by rw [e1, e2, Int.toNat_natCast]; exact digL_get a _ (by omega)) ?_⟩
      refine ⟨rfl, by decide, by rw [IntKind.wrap_u64]; omega, ?_⟩
      have hv := bit_val a (i - k)
      rw [← e1] at hv
      have hx : a * 2 ^ k / 2 ^ i = a / 2 ^ (i - k) := sh_div a k i hge
      have hstep := bit_step (a * 2 ^ k) i
      rw [hx] at hstep
      have hmlt : a * 2 ^ k % 2 ^ i < 2 ^ i := Nat.mod_lt _ (Nat.pow_pos (by decide))
      refine ⟨fun hbit => ?_, fun hbit => join_go ?_⟩
      · have hb : a / 2 ^ (i - k) % 2 = 1 := by
          have hbit : (IntKind.u32.wrap ((BitVec.ofInt IntKind.u32.bits ((digN a ((i - k) / 16) : Int).fdiv (2 ^ min (IntKind.u64.wrap ((IntKind.i64.wrap ((i : Int) - (k : Int))).tmod 16)).toNat IntKind.u32.bits)) &&& BitVec.ofInt IntKind.u32.bits 1).toNat : Int) == 1) = true := hbit
          rw [hv] at hbit
          have := beq_iff_eq.1 hbit; omega
        rw [if_pos hb] at hstep
        have e3 : IntKind.i64.wrap ((i : Int).tdiv 16) = ((i / 16 : Nat) : Int) := by
          rw [show (i : Int).tdiv 16 = ((i / 16 : Nat) : Int) from rfl, IntKind.wrap_i64]; omega
        refine ⟨rfl, by decide, rfl, by decide, by rw [e3]; omega, by rw [e3]; omega, optK.mk rfl ?_⟩
        refine optK.mk (by rw [e3, Int.toNat_natCast, Nat.zero_add]; exact digL_get _ (i / 16) (by omega)) ?_
        refine ⟨rfl, by decide, by rw [IntKind.wrap_u64]; omega, by rw [e3]; omega, by rw [e3]; omega, optK.mk rfl ?_⟩
        refine optK.mk (by rw [e3, Int.toNat_natCast, Nat.zero_add]; exact digL_get _ (i / 16) (by omega)) ?_
        refine join_go (loop_next (i + 1) (by omega) (by omega) ⟨rfl, rfl, rfl, int_eq ?_, trivial⟩ (.inl (sig1 (set_digL (i := i) ?_ hmlt hstep ?_))))
        · rw [IntKind.wrap_i64]; omega
        · rw [e3]; omega
        · exact or_val _ i (digN_lt _ _)
      · have hb : a / 2 ^ (i - k) % 2 ≠ 1 := by
          have hbit : (IntKind.u32.wrap ((BitVec.ofInt IntKind.u32.bits ((digN a ((i - k) / 16) : Int).fdiv (2 ^ min (IntKind.u64.wrap ((IntKind.i64.wrap ((i : Int) - (k : Int))).tmod 16)).toNat IntKind.u32.bits)) &&& BitVec.ofInt IntKind.u32.bits 1).toNat : Int) == 1) = false := hbit
          rw [hv] at hbit
          intro e; rw [e] at hbit; exact absurd hbit (by decide)
        rw [if_neg hb] at hstep
        refine loop_next (i + 1) (by omega) (by omega) ⟨rfl, rfl, rfl, int_eq ?_, trivial⟩ (.inl ?_)
        · rw [IntKind.wrap_i64]; omega
        · show [some (PO.mk false 1 85 (digL (a * 2 ^ k % 2 ^ i)))] = _
          rw [hstep, Nat.add_zero]
    · have hlt : i < k := by have : decide ((i : Int) ≥ (k : Int)) = false := hlt
                             have := of_decide_eq_false this; omega
      have hstep := bit_step (a * 2 ^ k) i
      rw [if_neg (by rw [sh_low a k i hlt]; decide)] at hstep
      refine ⟨fun hbit => (by cases hbit), fun hbit => join_go ?_⟩
      refine loop_next (i + 1) (by omega) (by omega) ⟨rfl, rfl, rfl, int_eq ?_, trivial⟩ (.inl ?_)
      · rw [IntKind.wrap_i64]; omega
      · show [some (PO.mk false 1 85 (digL (a * 2 ^ k % 2 ^ i)))] = _
        rw [hstep, Nat.add_zero]
  · have h : i = 384 := by have := of_decide_eq_false h; omega
    subst h
    exact .inr ⟨_, snap_whole (po := ⟨false, 1, 85, digL (a * 2 ^ k % 2 ^ 384)⟩) rfl (blw_digL _), rfl⟩
end Go.Proofs.Ytckcagmlippneaa
