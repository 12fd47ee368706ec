/- wide's Mean: the walk. -/
import Derived.Test.YtckcagmlippneaaWM
set_option linter.unusedSimpArgs false
set_option linter.unusedVariables false
namespace Go.Proofs.Ytckcagmlippneaa
open Go Go.Pv Go.RowKit
set_option maxRecDepth 10000
set_option exponentiation.threshold 1000

theorem quo_128 (N m : Nat) (hm : 0 < m) (hN : N < 2 ^ 128) : ((0 * 18446744073709551616 + N / 18446744073709551616) / m = N / m / 18446744073709551616) ∧
    (((0 * 18446744073709551616 + N / 18446744073709551616) % m * 18446744073709551616 + N % 18446744073709551616) / m = N / m % 18446744073709551616) ∧
    (((0 * 18446744073709551616 + N / 18446744073709551616) % m * 18446744073709551616 + N % 18446744073709551616) % m = N % m) := by
  have h := two_digs' (B := 18446744073709551616) (Y := m) (N := N / 18446744073709551616) (w0 := N % 18446744073709551616) hm
  rw [Nat.zero_mul, Nat.zero_add]
  have e : N / 18446744073709551616 * 18446744073709551616 + N % 18446744073709551616 = N := by omega
  rw [e] at h
  have hlt := Nat.mod_lt (N / 18446744073709551616) hm
  have hq : (N / 18446744073709551616 % m * 18446744073709551616 + N % 18446744073709551616) / m < 18446744073709551616 := by
    rw [Nat.div_lt_iff_lt_mul hm]; omega
  obtain ⟨h1, h2⟩ := h
  generalize (N / 18446744073709551616 % m * 18446744073709551616 + N % 18446744073709551616) / m = b at *
  generalize N / 18446744073709551616 / m = a at *
  generalize N / m = c at *
  exact ⟨by omega, by omega, h2⟩

theorem tup_fe {k : FloatKind} {a b : Nat} {k' : IntKind} {z : Int} (h : a = b) : DV.tup [.flt k a, .int k' z] = .tup [.flt k b, .int k' z] := by rw [h]

theorem blw_wi (x n : Int) : ∀ d ∈ [wideD x, .int .i64 n], Blw 0 d := by
  intro d hd
  simp only [List.mem_cons, List.not_mem_nil, or_false] at hd
  rcases hd with rfl | rfl
  · exact blw_wideD _
  · simp
theorem ne_dec (r : Nat) : ((r : Int) != 0) = decide (r ≠ 0) := by
  rw [Bool.eq_iff_iff]; simp
theorem round_w (V : Nat) (st : Bool) (h1 : 9007199254740992 ≤ V) (h2 : V < 18014398509481984) :
    (bif (IntKind.u64.wrap ((BitVec.ofInt IntKind.u64.bits ((V % 18446744073709551616 : Nat) : Int) &&& BitVec.ofInt IntKind.u64.bits 1).toNat : Int) == 1) then
      (bif st then true else (IntKind.u64.wrap ((BitVec.ofInt IntKind.u64.bits (((V % 18446744073709551616 : Nat) : Int).fdiv (2 ^ min (1 : Int).toNat IntKind.u64.bits)) &&& BitVec.ofInt IntKind.u64.bits 1).toNat : Int) == 1)) else false) =
    ((V % 2 == 1) && (st || V / 2 % 2 == 1)) := by
  have h3 : ∀ x : Nat, x < 18446744073709551616 → (IntKind.u64.wrap ((BitVec.ofInt IntKind.u64.bits (x : Int) &&& BitVec.ofInt IntKind.u64.bits 1).toNat : Int) == 1) = (x % 2 == 1) := by
    intro x hx
    have h3 : (BitVec.ofInt 64 ((x : Nat) : Int) &&& BitVec.ofInt 64 1).toNat = x % 2 := by
      rw [BitVec.toNat_and, BitVec.ofInt_natCast, BitVec.toNat_ofNat, Nat.mod_eq_of_lt hx]
      show _ &&& 1 = _
      exact Nat.and_two_pow_sub_one_eq_mod _ 1
    rw [show (BitVec.ofInt IntKind.u64.bits ((x : Nat) : Int) &&& BitVec.ofInt IntKind.u64.bits 1).toNat = _ from h3, IntKind.wrap_u64, Bool.eq_iff_iff]
    simp only [beq_iff_eq]; omega
  have hv : V % 18446744073709551616 = V := Nat.mod_eq_of_lt (by omega)
  rw [hv, h3 V (by omega), show (V : Int).fdiv (2 ^ min (1 : Int).toNat IntKind.u64.bits) = ((V / 2 : Nat) : Int) from fdiv_lit V 1 (by decide), h3 (V / 2) (by omega), Bool.cond_false_right, Bool.cond_true_left]
/-- What the first loop holds. -/
structure UpJ (N m k : Nat) : Prop where
  h1 : k ≤ 116
  h2 : k = 0 ∨ (N / m < 18446744073709551616 ∧ N * 2 ^ k / m < 18014398509481984)
theorem UpJ.next {N m k : Nat} (hN : 0 < N) (hm : 0 < m) (hm2 : m < 2 ^ 63) (h : UpJ N m k) (ht : N / m < 18446744073709551616) (hl : N * 2 ^ k / m % 18446744073709551616 < 9007199254740992) :
    N * 2 ^ k / m < 9007199254740992 ∧ UpJ N m (k + 1) ∧ (IntKind.u64.wrap (((N * 2 ^ k % m : Nat) : Int) * 2) = ((N * 2 ^ k % m * 2 : Nat) : Int)) ∧
    (m ≤ N * 2 ^ k % m * 2 → IntKind.u64.wrap (((N * 2 ^ k % m * 2 : Nat) : Int) - (m : Int)) = ((N * 2 ^ (k + 1) % m : Nat) : Int) ∧ IntKind.u64.wrap (IntKind.u64.wrap (((N * 2 ^ k / m % 18446744073709551616 : Nat) : Int) * 2) + 1) = ((N * 2 ^ (k + 1) / m % 18446744073709551616 : Nat) : Int)) ∧
    (N * 2 ^ k % m * 2 < m → N * 2 ^ k % m * 2 = N * 2 ^ (k + 1) % m ∧ IntKind.u64.wrap (((N * 2 ^ k / m % 18446744073709551616 : Nat) : Int) * 2) = ((N * 2 ^ (k + 1) / m % 18446744073709551616 : Nat) : Int)) := by
  have hA : N * 2 ^ k / m < 9007199254740992 := by
    rcases h.h2 with e | ⟨_, e⟩
    · subst e; rw [Nat.pow_zero, Nat.mul_one] at hl ⊢; rwa [Nat.mod_eq_of_lt ht] at hl
    · rwa [Nat.mod_eq_of_lt (by omega)] at hl
  have hk := k_bound hN hm2 hm hA
  have hup := up_step (N * 2 ^ k) m hm
  have e2 : N * 2 ^ (k + 1) = N * 2 ^ k * 2 := by rw [Nat.pow_succ, Nat.mul_assoc]
  have hr := Nat.mod_lt (N * 2 ^ k) hm
  rw [← e2] at hup
  obtain ⟨u1, u2⟩ := hup
  have hA2 : N * 2 ^ (k + 1) / m < 18014398509481984 := by rw [u1]; split <;> omega
  refine ⟨hA, ⟨by omega, .inr ⟨ht, hA2⟩⟩, ?_, fun hge => ?_, fun hlt => ?_⟩
  · generalize N * 2 ^ k % m = r at *
    rw [IntKind.wrap_u64]; omega
  · rw [if_pos hge] at u1 u2
    rw [u1, u2]
    generalize N * 2 ^ k % m = r at *
    generalize N * 2 ^ k / m = a at *
    simp only [IntKind.wrap_u64]
    omega
  · rw [if_neg (by omega)] at u1 u2
    rw [u1, u2]
    generalize N * 2 ^ k % m = r at *
    generalize N * 2 ^ k / m = a at *
    simp only [IntKind.wrap_u64]
    exact ⟨trivial, by omega⟩
/-- What the second loop holds (k up, j down). -/
structure DownJ (N m k j : Nat) : Prop where
  h1 : j ≤ 128
  h2 : 9007199254740992 ≤ N * 2 ^ k / (m * 2 ^ j)
  h3 : N * 2 ^ k / m < 2 ^ 128
theorem UpJ.down {N m k : Nat} (hN : N < 2 ^ 128) (h : UpJ N m k) (hx : ¬ (N / m < 18446744073709551616 ∧ N * 2 ^ k / m % 18446744073709551616 < 9007199254740992)) :
    DownJ N m k 0 ∧ N / m / 18446744073709551616 = N * 2 ^ k / (m * 2 ^ 0) / 18446744073709551616 ∧ N * 2 ^ k / m % 18446744073709551616 = N * 2 ^ k / (m * 2 ^ 0) % 18446744073709551616 := by
  have hNm := Nat.div_le_self N m
  have key : 9007199254740992 ≤ N * 2 ^ k / m ∧ N * 2 ^ k / m < 2 ^ 128 ∧ N / m / 18446744073709551616 = N * 2 ^ k / m / 18446744073709551616 := by
    rcases h.h2 with e | ⟨g1, g2⟩
    · subst e
      rw [Nat.pow_zero, Nat.mul_one] at *
      generalize N / m = b at *
      omega
    · generalize N * 2 ^ k / m = a at *
      generalize N / m = b at *
      omega
  refine ⟨⟨by omega, ?_, key.2.1⟩, ?_, ?_⟩ <;> rw [Nat.pow_zero, Nat.mul_one]
  · exact key.1
  · exact key.2.2
theorem DownJ.lt {N m k j : Nat} (h : DownJ N m k j) : N * 2 ^ k / (m * 2 ^ j) < 2 ^ 128 := by
  rw [← Nat.div_div_eq_div_mul]
  exact Nat.lt_of_le_of_lt (Nat.div_le_self _ _) h.h3
theorem DownJ.next {N m k j : Nat} (hm : 0 < m) (h : DownJ N m k j) (hV : 18014398509481984 ≤ N * 2 ^ k / (m * 2 ^ j)) :
    DownJ N m k (j + 1) ∧ N * 2 ^ k / (m * 2 ^ (j + 1)) = N * 2 ^ k / (m * 2 ^ j) / 2 ∧ (N * 2 ^ k % (m * 2 ^ (j + 1)) ≠ 0 ↔ N * 2 ^ k % (m * 2 ^ j) ≠ 0 ∨ N * 2 ^ k / (m * 2 ^ j) % 2 = 1) := by
  have hp : 0 < m * 2 ^ j := Nat.mul_pos hm (Nat.pow_pos (by decide))
  have hd := down_step (N * 2 ^ k) (m * 2 ^ j) hp
  rw [Nat.mul_assoc m, ← Nat.pow_succ] at hd
  have hj : j < 128 := by
    rcases Nat.lt_or_ge j 128 with h1 | h1
    · exact h1
    · exfalso
      have h3 := h.h3
      rw [← Nat.div_div_eq_div_mul] at hV
      have h4 : N * 2 ^ k / m < 2 ^ j := Nat.lt_of_lt_of_le h3 (Nat.pow_le_pow_right (by decide) h1)
      rw [Nat.div_eq_of_lt h4] at hV
      omega
  exact ⟨⟨by omega, by rw [hd.1]; omega, h.h3⟩, hd⟩
theorem low_and (x : Nat) (hx : x < 18446744073709551616) : (IntKind.u64.wrap ((BitVec.ofInt IntKind.u64.bits (x : Int) &&& BitVec.ofInt IntKind.u64.bits 1).toNat : Int) == 1) = (x % 2 == 1) := by
  have h3 : (BitVec.ofInt 64 ((x : Nat) : Int) &&& BitVec.ofInt 64 1).toNat = x % 2 := by
    rw [BitVec.toNat_and, BitVec.ofInt_natCast, BitVec.toNat_ofNat, Nat.mod_eq_of_lt hx]
    show _ &&& 1 = _
    exact Nat.and_two_pow_sub_one_eq_mod _ 1
  rw [show (BitVec.ofInt IntKind.u64.bits ((x : Nat) : Int) &&& BitVec.ofInt IntKind.u64.bits 1).toNat = _ from h3, IntKind.wrap_u64, Bool.eq_iff_iff]
  simp; omega
theorem shr1 (x : Nat) : (x : Int).fdiv (2 ^ min (1 : Int).toNat IntKind.u64.bits) = ((x / 2 : Nat) : Int) := fdiv_lit x 1 (by decide)
theorem half_low (V : Nat) (hV : V < 2 ^ 128) : IntKind.u64.wrap ((BitVec.ofInt IntKind.u64.bits (((V % 18446744073709551616 : Nat) : Int).fdiv (2 ^ min (1 : Int).toNat IntKind.u64.bits)) ||| BitVec.ofInt IntKind.u64.bits (IntKind.u64.wrap (((V / 18446744073709551616 : Nat) : Int) * 2 ^ min (63 : Int).toNat IntKind.u64.bits))).toNat : Int) = ((V / 2 % 18446744073709551616 : Nat) : Int) := by
  rw [shr1, show IntKind.u64.wrap (((V / 18446744073709551616 : Nat) : Int) * 2 ^ min (63 : Int).toNat IntKind.u64.bits) = ((V / 18446744073709551616 % 2 * 2 ^ 63 : Nat) : Int) from by
    rw [show min (63 : Int).toNat IntKind.u64.bits = 63 from rfl, IntKind.wrap_u64]; omega]
  have := or_add (V / 18446744073709551616 % 2) (V % 18446744073709551616 / 2) 63 (by omega) (by omega) (by decide)
  rw [BitVec.or_comm] at this
  rw [this]
  omega
theorem top_test (V : Nat) : (bif (((V / 18446744073709551616 : Nat) : Int) != 0) then true else decide ((bitLen (V % 18446744073709551616) : Int) > 54)) = decide (18014398509481984 ≤ V) := by
  rw [Bool.cond_true_left, Bool.eq_iff_iff]
  have := len_gt54 (V % 18446744073709551616)
  simp only [Bool.or_eq_true, decide_eq_true_eq, bne_iff_ne]
  omega
theorem bit_test (V m : Nat) : (bif (((V / 18446744073709551616 : Nat) : Int) == 0) then decide ((bitLen (m % 18446744073709551616) : Int) < 54) else false) = (decide (V < 18446744073709551616) && decide (m % 18446744073709551616 < 9007199254740992)) := by
  rw [Bool.cond_false_right, Bool.eq_iff_iff]
  have := len_54 (m % 18446744073709551616)
  simp only [Bool.and_eq_true, decide_eq_true_eq, beq_iff_eq]
  omega

set_option maxHeartbeats 2000000 in
theorem meanW (x n : Int) (hx : in128 x) (hn : i64R n) : FnC Try.prog 35 [wideD x, .int .i64 n] (· = meanD x n) := by
  by_cases hn1 : n < 1
  · refine FnC.mk Try.func35 rfl rfl (Nat.le_of_ble_eq_true rfl) (blw_wi _ _) (by rintro _ rfl; exact blw_meanD _ _) ?_
    refine joinK.direct ⟨fun _ => ?_, fun h => absurd hn1 (of_decide_eq_false h)⟩
    refine fin_eq (.tup [.flt _ _, .int _ _]) rfl ?_
    unfold meanD; rw [if_pos hn1]
  obtain ⟨m, rfl⟩ : ∃ m : Nat, n = m := ⟨n.toNat, by omega⟩
  have hm : 0 < m := by omega
  have hm2 : m < 2 ^ 63 := by have := hn.2; omega
  have hhi := hi_in hx
  obtain ⟨N, hNe⟩ : ∃ N, N = x.natAbs := ⟨_, rfl⟩
  have hN : N < 2 ^ 128 := by have := hx.1; have := hx.2; omega
  have c0 := sizeW x hx
  rw [← hNe] at c0
  have hz : (bif (((N / 18446744073709551616 : Nat) : Int) == 0) then (((N % 18446744073709551616 : Nat) : Int) == 0) else false) = decide (N = 0) := by
    rw [Bool.cond_false_right, Bool.eq_iff_iff]
    simp only [Bool.and_eq_true, decide_eq_true_eq, beq_iff_eq]
    omega
  by_cases hN0 : N = 0
  · refine FnC.mk Try.func35 rfl rfl (Nat.le_of_ble_eq_true rfl) (blw_wi _ _) (by rintro _ rfl; exact blw_meanD _ _) ?_
    refine joinK.direct ⟨fun h => absurd (of_decide_eq_true h) hn1, fun _ => join_go ?_⟩
    refine callK.eq c0 ?_
    refine joinK.direct ?_
    refine guardK.spec ?_
    refine ⟨fun _ => ?_, fun h2 => absurd hN0 (of_decide_eq_false (hz.symm.trans h2))⟩
    refine fin_eq (.tup [.flt _ _, .int _ _]) rfl ?_
    unfold meanD; rw [if_neg hn1, if_pos (by omega)]
  have hN0 : 0 < N := by omega
  have hmD : meanD x m = .tup [.flt .f64 (meanB (decide (x < 0)) N m), .int .i64 0] := by unfold meanD; rw [if_neg hn1, if_neg (by omega), Int.toNat_natCast, hNe]
  have hneg : decide (hiW x < 0) = decide (x < 0) := by rw [decide_eq_decide]; omega
  obtain ⟨q1, q2, q3⟩ := quo_128 N m hm hN
  have ew : ((m : Nat) : Int) = IntKind.u64.wrap (m : Int) := by rw [IntKind.wrap_u64]; omega
  have c1 := div64 0 (N / 18446744073709551616) m hm (by omega) (by omega)
  have c2 := div64 ((0 * 18446744073709551616 + N / 18446744073709551616) % m) (N % 18446744073709551616) m (Nat.mod_lt _ hm) (by omega) (by omega)
  rw [q1, ew] at c1
  rw [q2, q3, ew] at c2
  refine FnC.mk Try.func35 rfl rfl (Nat.le_of_ble_eq_true rfl) (blw_wi _ _) (by rintro _ rfl; exact blw_meanD _ _) ?_
  refine joinK.direct ⟨fun h => absurd (of_decide_eq_true h) hn1, fun _ => join_go ?_⟩
  refine callK.eq c0 ?_
  refine joinK.direct ?_
  refine guardK.spec ?_
  refine ⟨fun h2 => absurd (of_decide_eq_true (hz.symm.trans h2)) (by omega), fun _ => join_go ?_⟩
  refine callK.eq c1 ?_
  refine callK.eq c2 ?_
  refine joinK.direct ?_
  refine loopK.use [2, 8, 9, 10, 11, 12] (fun k : Nat => [.pobj 0 0 0, .int .u64 (IntKind.u64.wrap (m : Int)), .int .u64 (N / m / 18446744073709551616 : Nat), .int .u64 (N * 2 ^ k % m : Nat), .int .u64 (N * 2 ^ k / m % 18446744073709551616 : Nat), .int .i64 (-(k : Int))]) (fun _ => [widePO (wideC x)])
    (fun k => UpJ N m k) (fun k => 117 - k) 0 ⟨by decide, .inl rfl⟩ ⟨rfl, rfl, rfl, int_eq (by rw [Nat.pow_zero, Nat.mul_one]), int_eq (by rw [Nat.pow_zero, Nat.mul_one]), rfl, trivial⟩ (.inl rfl) ?_
  intro k hk
  have hlow : N * 2 ^ k / m % 18446744073709551616 < 18446744073709551616 := Nat.mod_lt _ (by decide)
  have hbt := bit_test (N / m) (N * 2 ^ k / m)
  refine joinK.direct ?_
  refine guardK.spec ?_
  refine callE.mk (len64 _ hlow) ?_
  refine ⟨fun h => join_go ?_, fun h => join_go ?_⟩
  · have h : _ = true := hbt.symm.trans h
    have h : N / m < 18446744073709551616 ∧ N * 2 ^ k / m % 18446744073709551616 < 9007199254740992 := by simpa using h
    have hnx := UpJ.next hN0 hm hm2 hk h.1 h.2
    have g2 := hnx.2.1
    have g3 := hnx.2.2.1
    have g4 := hnx.2.2.2.1
    have g5 := hnx.2.2.2.2
    clear hnx
    have hk1 := hk.h1
    have hk2 := g2.h1
    refine joinK.direct ⟨fun h3 => ?_, fun h3 => ?_⟩
    · have h3 : decide (IntKind.u64.wrap (((N * 2 ^ k % m : Nat) : Int) * 2) ≥ IntKind.u64.wrap (m : Int)) = true := h3
      rw [g3, ← ew] at h3
      have h3 := of_decide_eq_true h3
      have g67 := g4 (by omega)
      have g6 := g67.1
      have g7 := g67.2
      refine join_go (loop_next (k + 1) g2 (by omega) ⟨rfl, rfl, rfl, int_eq ?_, int_eq g7, int_eq ?_, trivial⟩ (.inl rfl))
      · rw [g3, ← ew]; exact g6
      · rw [IntKind.wrap_i64]; omega
    · have h3 : decide (IntKind.u64.wrap (((N * 2 ^ k % m : Nat) : Int) * 2) ≥ IntKind.u64.wrap (m : Int)) = false := h3
      rw [g3, ← ew] at h3
      have h3 := of_decide_eq_false h3
      have g67 := g5 (by omega)
      have g6 := g67.1
      have g7 := g67.2
      refine join_go (loop_next (k + 1) g2 (by omega) ⟨rfl, rfl, rfl, int_eq ?_, int_eq g7, int_eq ?_, trivial⟩ (.inl rfl))
      · rw [g3, g6]
      · rw [IntKind.wrap_i64]; omega
  have h : _ = false := hbt.symm.trans h
  have h : ¬ (N / m < 18446744073709551616 ∧ N * 2 ^ k / m % 18446744073709551616 < 9007199254740992) := by simpa using h
  have hdn := UpJ.down hN hk h
  have d1 := hdn.1
  have d2 := hdn.2.1
  have d3 := hdn.2.2
  clear hdn
  have hk1 := hk.h1
  refine joinK.direct ?_
  refine loopK.use [2, 9, 11, 12, 13] (fun j : Nat => [.pobj 0 0 0, .int .u64 (N * 2 ^ k / (m * 2 ^ j) / 18446744073709551616 : Nat), .int .u64 (N * 2 ^ k / (m * 2 ^ j) % 18446744073709551616 : Nat), .int .i64 ((j : Int) - (k : Int)), .bool (decide (N * 2 ^ k % (m * 2 ^ j) ≠ 0))]) (fun _ => [widePO (wideC x)])
    (fun j => DownJ N m k j) (fun j => 129 - j) 0 d1 ⟨rfl, int_eq (by rw [d2]), int_eq (by rw [d3]), int_eq (by omega), bool_eq ?_, trivial⟩ (.inl rfl) ?_
  · rw [Nat.pow_zero, Nat.mul_one]
    exact ne_dec _
  intro j hj
  have hV := hj.lt
  have hj1 := hj.h1
  have hlo2 : N * 2 ^ k / (m * 2 ^ j) % 18446744073709551616 < 18446744073709551616 := Nat.mod_lt _ (by decide)
  have htt := top_test (N * 2 ^ k / (m * 2 ^ j))
  have hla := low_and (N * 2 ^ k / (m * 2 ^ j) % 18446744073709551616) hlo2
  refine joinK.direct ?_
  refine guardK.spec ?_
  refine callE.mk (len64 _ hlo2) ?_
  refine ⟨fun h => join_go ?_, fun h => join_go ?_⟩
  · have h : _ = true := htt.symm.trans h
    have h := of_decide_eq_true h
    have hnx := DownJ.next hm hj h
    have g1 := hnx.1
    have g2 := hnx.2.1
    have g3 := hnx.2.2
    have hj2 := g1.h1
    clear hnx
    have hhl := half_low _ hV
    refine guardK.spec ?_
    refine ⟨by decide, by decide, by decide, ?_⟩
    refine loop_next (j + 1) g1 (by omega) ⟨rfl, int_eq ?_, int_eq ?_, int_eq ?_, bool_eq ?_, trivial⟩ (.inl rfl)
    · rw [shr1, g2]
      generalize N * 2 ^ k / (m * 2 ^ j) = V at *
      omega
    · rw [g2]; exact hhl
    · rw [IntKind.wrap_i64]; omega
    · refine Eq.trans (congrArg (fun b => bif decide (N * 2 ^ k % (m * 2 ^ j) ≠ 0) then true else b) hla) ?_
      show (bif decide (N * 2 ^ k % (m * 2 ^ j) ≠ 0) then true else (N * 2 ^ k / (m * 2 ^ j) % 18446744073709551616 % 2 == 1)) = _
      rw [Bool.cond_true_left, Bool.eq_iff_iff]
      simp only [Bool.or_eq_true, decide_eq_true_eq, beq_iff_eq]
      rw [g3]
      generalize N * 2 ^ k / (m * 2 ^ j) = V at *
      omega
  have h : _ = false := htt.symm.trans h
  have h := of_decide_eq_false h
  have hok := mean_of (N := N) (n := m) (k := k) (j := j) (by omega) rfl rfl hj.h2 (by omega)
  have hun := hok.uniq
  have hrg := hok.range hN hN0 (by omega) hm
  have hVv := hok.h1
  have hVv2 := hok.h2
  have hwr := mW_range (decide (N * 2 ^ k % (m * 2 ^ j) ≠ 0)) hVv hVv2
  have hrw := round_w _ (decide (N * 2 ^ k % (m * 2 ^ j) ≠ 0)) hVv hVv2
  refine ⟨by decide, ?_⟩
  refine joinK.use [2, 12, 14] (fun _ : Unit => [.pobj 0 0 0, .int .i64 ((j : Int) - (k : Int)), .int .u64 (mW (N * 2 ^ k / (m * 2 ^ j)) (decide (N * 2 ^ k % (m * 2 ^ j) ≠ 0)) : Nat)]) (fun _ => [widePO (wideC x)]) (fun _ => True) ?_ ?_
  · refine guardK.spec ?_
    refine ⟨fun h2 => ?_, fun h2 => ?_⟩
    · have h2 : _ = true := hrw.symm.trans h2
      refine join_at () trivial ⟨rfl, rfl, int_eq ?_, trivial⟩ (.inl rfl)
      unfold mW
      rw [h2, shr1, cond_true]
      generalize N * 2 ^ k / (m * 2 ^ j) = V at *
      rw [IntKind.wrap_u64]; omega
    · have h2 : _ = false := hrw.symm.trans h2
      refine join_at () trivial ⟨rfl, rfl, int_eq ?_, trivial⟩ (.inl rfl)
      unfold mW
      rw [h2, shr1, cond_false]
      generalize N * 2 ^ k / (m * 2 ^ j) = V at *
      omega
  rintro ⟨⟩ -
  refine callK.eq (ldexpW (T := 200 - k + j) hrg.2 hwr.1 hwr.2 _ (by rw [IntKind.wrap_i64]; omega)) ?_
  have hres : meanB (decide (x < 0)) N m = mB (decide (x < 0)) (200 - k + j) (mW (N * 2 ^ k / (m * 2 ^ j)) (decide (N * 2 ^ k % (m * 2 ^ j) ≠ 0))) := by
    unfold meanB; rw [← hun.1, ← hun.2.1, ← hun.2.2]
  refine joinK.direct ⟨fun h2 => ?_, fun h2 => ?_⟩
  · have h2 : decide (x < 0) = true := hneg.symm.trans h2
    refine join_go (fin_eq (.tup [.flt _ _, .int _ _]) rfl ?_)
    rw [hmD, hres, h2]
    exact tup_fe (neg_mB hrg.2 hwr.1 hwr.2)
  · have h2 : decide (x < 0) = false := hneg.symm.trans h2
    refine join_go (fin_eq (.tup [.flt _ _, .int _ _]) rfl ?_)
    rw [hmD, hres, h2]
end Go.Proofs.Ytckcagmlippneaa
