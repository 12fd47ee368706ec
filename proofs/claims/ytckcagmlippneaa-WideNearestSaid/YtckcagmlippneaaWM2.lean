/- Wide's reference: Mean: the walk. -/
import Derived.Test.YtckcagmlippneaaWM1
namespace Go.Proofs.Ytckcagmlippneaa
open Go Go.Pv Go.RowKit
set_option linter.unusedSimpArgs false
set_option linter.unusedVariables false
set_option maxRecDepth 10000
set_option exponentiation.threshold 2000

def refF (x : Int) (m : Nat) : Nat := if x = 0 then 0 else meanB (decide (x < 0)) x.natAbs m
def leftPO (r : Nat) : Option PO := some ⟨false, 1, 85, digL r⟩
def powI (N m s : Nat) : Int := if Xs N s / m = 0 then 0 else (s : Int) - 200
theorem left_snap (r : Nat) (id : Nat) : ∀ g : Nat → Option PO, g id = some ⟨true, 1, 85, digL r⟩ → Snap g (.ref id 0 24) (.list (digL r)) := by
  intro g hg
  have := snap_whole hg (blw_digL r)
  rw [show (PO.mk true 1 85 (digL r)).els.length = 24 from digL_len r] at this
  exact this
def stk (N m s : Nat) : Bool := decide (N * 2 ^ 200 % (m * 2 ^ s) ≠ 0)
theorem meanOk_of (N m s : Nat) (h1 : 9007199254740992 ≤ Xs N s / m) (h2 : Xs N s / m < 18014398509481984) : MeanOk N m s (Xs N s / m) (stk N m s) := ⟨quo_of N m s, rfl, h1, h2⟩
theorem stk_eq (N m s : Nat) : stk N m s = (!decide (Xs N s % m = 0) || decide (N % 2 ^ (s - 200) ≠ 0)) := by
  unfold stk
  rw [Bool.eq_iff_iff, decide_eq_true_iff, sticky_of]
  simp
structure DivJ (N m s : Nat) : Prop where
  h1 : Xs N s / m < 18014398509481984
  h2 : s ≤ 584
theorem mean_loop_test (s Q : Nat) : (bif decide ((s : Int) - 201 ≥ -200) then decide ((bitLen Q : Int) < 54) else false) = decide (1 ≤ s ∧ Q < 9007199254740992) := by
  rw [Bool.cond_false_right, Bool.eq_iff_iff]
  have := len_54 Q
  simp only [Bool.and_eq_true, decide_eq_true_eq]
  omega
theorem bitLen_pos (Q : Nat) : (0 : Int) < (bitLen Q : Int) ↔ 0 < Q := by
  unfold bitLen; split <;> omega
theorem bit_test2 (Q c : Nat) (hc : c < 2) : (bif decide ((bitLen Q : Int) > 0) then true else ((c : Int) == 1)) = decide (Q * 2 + c ≠ 0) := by
  have := bitLen_pos Q
  rw [Bool.cond_true_left, Bool.eq_iff_iff]
  simp only [Bool.or_eq_true, decide_eq_true_eq, beq_iff_eq]
  omega
theorem or_val2 (r b : Nat) (hb : b < 2) : IntKind.u32.wrap ((BitVec.ofInt IntKind.u32.bits (digN (r * 2) 0 : Int) ||| BitVec.ofInt IntKind.u32.bits (b : Int)).toNat : Int) = ((digN (r * 2) 0 ||| b : Nat) : Int) := by
  have h1 := digN_lt (r * 2) 0
  have h2 := digN_lt (r * 2 + b) 0
  rw [show (BitVec.ofInt IntKind.u32.bits (digN (r * 2) 0 : Int) ||| BitVec.ofInt IntKind.u32.bits (b : Int)).toNat = _ from or32 (digN (r * 2) 0) b (by omega) (by omega), dig_or r b hb, IntKind.wrap_u32]
  omega
theorem whole_v (Q c : Nat) (hQ : Q < 9007199254740992) (hc : c < 2) : IntKind.u64.wrap (IntKind.u64.wrap ((Q : Int) * 2) + (c : Int)) = ((Q * 2 + c : Nat) : Int) := by
  rw [IntKind.wrap_u64, IntKind.wrap_u64]; omega

theorem no_zero_K (K N m A B : Nat) (hm : 0 < m) (hm2 : m < B) (h : XK K N 0 / m < A) (hAB : A * B ≤ 2 ^ K) (hN : 0 < N) : False := by
  have e : XK K N 0 = N * 2 ^ K := by unfold XK; rw [Nat.pow_zero, Nat.div_one]
  rw [e, Nat.div_lt_iff_lt_mul hm] at h
  have h5 : 1 * 2 ^ K ≤ N * 2 ^ K := Nat.mul_le_mul_right _ hN
  have h6 : A * m ≤ A * B := Nat.mul_le_mul_left _ (Nat.le_of_lt hm2)
  rw [Nat.one_mul] at h5
  exact absurd (Nat.lt_of_lt_of_le h (Nat.le_trans h6 (Nat.le_trans hAB h5))) (Nat.lt_irrefl _)
theorem no_zero (N m : Nat) (hm : 0 < m) (hm2 : m < 9223372036854775808) (h : Xs N 0 / m < 18014398509481984) (hN : 0 < N) : False :=
  no_zero_K 200 N m 18014398509481984 9223372036854775808 hm hm2 h (by decide) hN
theorem Xs_N0 (s m : Nat) : Xs 0 s / m = 0 := by
  show XK 200 0 s / m = 0
  unfold XK; rw [Nat.zero_mul, Nat.zero_div, Nat.zero_div]
theorem refF_of (x : Int) (m s : Nat) (h : MeanOk x.natAbs m s (Xs x.natAbs s / m) (stk x.natAbs m s)) (hx : x ≠ 0) : refF x m = mB (decide (x < 0)) s (mW (Xs x.natAbs s / m) (stk x.natAbs m s)) := by
  have hun := h.uniq
  unfold refF; rw [if_neg hx]; unfold meanB; rw [← hun.1, ← hun.2.1, ← hun.2.2]
theorem refF_0 (m : Nat) : refF 0 m = 0 := rfl
theorem cnt_zero (Q : Nat) : (((bitLen Q : Nat) : Int) == 0) = decide (Q = 0) := by
  have := bitLen_pos Q
  rw [Bool.eq_iff_iff]; simp only [beq_iff_eq, decide_eq_true_eq]; omega
theorem half_u64 (Q : Nat) (h : Q < 18014398509481984) : IntKind.u64.wrap ((Q : Int).tdiv 2) = ((Q / 2 : Nat) : Int) := by
  rw [show (Q : Int).tdiv 2 = ((Q / 2 : Nat) : Int) from rfl, IntKind.wrap_u64]; omega
theorem odd_u64 (Q : Nat) : ((Q : Int).tmod 2 == 1) = (Q % 2 == 1) := by
  rw [show (Q : Int).tmod 2 = ((Q % 2 : Nat) : Int) from rfl, Bool.eq_iff_iff]; simp only [beq_iff_eq]; omega
theorem round_mean (Q : Nat) (h : Q < 18014398509481984) (a b : Bool) : (bif ((Q : Int).tmod 2 == 1) then (bif (bif a then true else b) then true else ((IntKind.u64.wrap ((Q : Int).tdiv 2)).tmod 2 == 1)) else false) = ((Q % 2 == 1) && ((a || b) || Q / 2 % 2 == 1)) := by
  rw [half_u64 Q h, odd_u64, odd_u64, Bool.cond_false_right, Bool.cond_true_left, Bool.cond_true_left]
theorem mW_up (Q : Nat) (h : Q < 18014398509481984) (st : Bool) (hb : ((Q % 2 == 1) && (st || Q / 2 % 2 == 1)) = true) : IntKind.u64.wrap (IntKind.u64.wrap ((Q : Int).tdiv 2) + 1) = ((mW Q st : Nat) : Int) := by
  rw [half_u64 Q h, IntKind.wrap_u64]; unfold mW; rw [hb, cond_true]; omega
theorem mW_dn (Q : Nat) (h : Q < 18014398509481984) (st : Bool) (hb : ((Q % 2 == 1) && (st || Q / 2 % 2 == 1)) = false) : IntKind.u64.wrap ((Q : Int).tdiv 2) = ((mW Q st : Nat) : Int) := by
  rw [half_u64 Q h]; unfold mW; rw [hb, cond_false, Nat.add_zero]
theorem near_mB {w : Nat} (h1 : 4503599627370496 ≤ w) (h2 : w ≤ 9007199254740992) : FloatKind.f64.nearest (w : Int) = mB false 199 w := by
  by_cases hb : w = 9007199254740992
  · rw [hb, f64_max, mB_max]
  · rw [f64_lt h1 (by omega), mB_lt _ _ hb]
theorem two_f : (4611686018427387904 : Nat) = fbits false 1023 4503599627370496 := by rw [fbits_pos]
theorem dbl_mB {T w : Nat} (hT : T ≤ 300) (h1 : 4503599627370496 ≤ w) (h2 : w ≤ 9007199254740992) : floatBits .mul .f64 (mB false T w) 4611686018427387904 = some (mB false (T + 1) w) := by
  rw [two_f]
  by_cases hb : w = 9007199254740992
  · rw [hb, mB_max, mB_max]; exact mul_fbits ⟨by decide, by decide, by omega⟩ false (by decide) (by omega) (by omega)
  · rw [mB_lt _ _ hb, mB_lt _ _ hb]; exact mul_fbits ⟨by omega, by omega, by omega⟩ false (by decide) (by omega) (by omega)
theorem hlf_mB {T w : Nat} (hT : T ≤ 300) (h0 : 0 < T) (h1 : 4503599627370496 ≤ w) (h2 : w ≤ 9007199254740992) : floatBits .quo .f64 (mB false T w) 4611686018427387904 = some (mB false (T - 1) w) := by
  rw [two_f]
  by_cases hb : w = 9007199254740992
  · rw [hb, mB_max, mB_max]; exact half_fbits ⟨by decide, by decide, by omega⟩ false (by omega)
  · rw [mB_lt _ _ hb, mB_lt _ _ hb]; exact half_fbits ⟨by omega, by omega, by omega⟩ false (by omega)
theorem ne_of_abs {x : Int} {N : Nat} (e : N = x.natAbs) (h : 0 < N) : x ≠ 0 := by omega
theorem eq_of_abs {x : Int} {N : Nat} (e : N = x.natAbs) (h : N = 0) : x = 0 := by omega
theorem pow_1 (p : Int) (s : Nat) (h : p = (s : Int) - 200) (hs : s ≤ 584) : IntKind.i64.wrap (p + 1) = (s : Int) - ((199 : Nat) : Int) := by
  rw [IntKind.wrap_i64]; omega
theorem pow_2 (p : Int) (s : Nat) (h : p = (s : Int) - 200) (hs : s ≤ 584) : IntKind.i64.wrap (IntKind.i64.wrap (p + 1) - 1) = (s : Int) - 200 := by
  rw [IntKind.wrap_i64, IntKind.wrap_i64]; omega
theorem pow_3 (p : Int) (s : Nat) (h : p = (s : Int) - 200) (hs : s ≤ 584) : (IntKind.i64.wrap (IntKind.i64.wrap (p + 1) - 1)).toNat = s - 200 := by
  rw [pow_2 p s h hs]; omega
theorem pow_4 (p : Int) (s : Nat) (h : p = (s : Int) - 200) (hs : s ≤ 584) : IntKind.i64.wrap (IntKind.i64.wrap (p + 1) - 1) < 1000 := by
  rw [pow_2 p s h hs]; omega
theorem up_0 {T s : Nat} (hs : s ≤ 300) (h : 199 ≤ T ∧ (T ≤ s ∨ T = 199)) : T ≤ 300 := by omega
theorem up_1 {T s : Nat} (hs : s ≤ 300) (h : 199 ≤ T ∧ (T ≤ s ∨ T = 199)) (h3 : (s : Int) - (T : Int) > 0) :
    (199 ≤ T + 1 ∧ (T + 1 ≤ s ∨ T + 1 = 199)) ∧ s - (T + 1) < s - T ∧ IntKind.i64.wrap ((s : Int) - (T : Int) - 1) = (s : Int) - ((T + 1 : Nat) : Int) := by
  rw [IntKind.wrap_i64]; omega
theorem up_2 {T s : Nat} (hs : s ≤ 300) (h : 199 ≤ T ∧ (T ≤ s ∨ T = 199)) (h3 : ¬ (s : Int) - (T : Int) > 0) : s ≤ T ∧ T ≤ 300 := by omega
theorem dn_0 {T s : Nat} (hs : 80 ≤ s) (h : s ≤ T ∧ T ≤ 300) : 0 < T := by omega
theorem dn_1 {T s : Nat} (hs : 80 ≤ s) (h : s ≤ T ∧ T ≤ 300) (h3 : (s : Int) - (T : Int) < 0) :
    (s ≤ T - 1 ∧ T - 1 ≤ 300) ∧ T - 1 - s < T - s ∧ IntKind.i64.wrap ((s : Int) - (T : Int) + 1) = (s : Int) - ((T - 1 : Nat) : Int) := by
  rw [IntKind.wrap_i64]; omega
theorem dn_2 {T s : Nat} (h : s ≤ T ∧ T ≤ 300) (h3 : ¬ (s : Int) - (T : Int) < 0) : T = s := by omega
structure MeanEnd (x : Int) (N m s : Nat) : Prop where
  hN0 : 0 < N
  hq1 : 9007199254740992 ≤ Xs N s / m
  hlo : 80 ≤ s
  hhi : s ≤ 300
  hp : powI N m s = (s : Int) - 200
  hres : refF x m = mB (decide (x < 0)) s (mW (Xs N s / m) (stk N m s))
  hw : 4503599627370496 ≤ mW (Xs N s / m) (stk N m s) ∧ mW (Xs N s / m) (stk N m s) ≤ 9007199254740992
theorem mean_end (x : Int) (N m s : Nat) (hNe : N = x.natAbs) (hN : N < 2 ^ 128) (hm : 0 < m) (hm2 : m < 9223372036854775808) (hj1 : Xs N s / m < 18014398509481984) (hor : s = 0 ∨ 9007199254740992 ≤ Xs N s / m) (h : Xs N s / m ≠ 0) : MeanEnd x N m s := by
  have hN0 : 0 < N := by
    rcases Nat.eq_zero_or_pos N with e | e
    · exact absurd (by rw [e]; exact Xs_N0 s m) h
    · exact e
  have hq1 : 9007199254740992 ≤ Xs N s / m := by
    rcases hor with e | e
    · rw [e] at hj1; exact (no_zero N m hm hm2 hj1 hN0).elim
    · exact e
  have hok := meanOk_of N m s hq1 hj1
  have hrg := hok.range hN hN0 (Nat.lt_trans hm2 (by decide)) hm
  exact ⟨hN0, hq1, hrg.1, hrg.2, if_neg h, (by subst hNe; exact refF_of x m s hok (ne_of_abs rfl hN0)), mW_range _ hq1 hj1⟩

theorem dig00 : digK 0 0 = digL 0 := rfl
attribute [local irreducible] digL Xs mW stk mB fbits
set_option maxHeartbeats 4000000 in
theorem meanR (x : Int) (hx : in128 x) (m : Nat) (hm : 0 < m) (hm2 : m < 9223372036854775808) : FnC Try.prog 36 [.int .i64 (hiW x), .int .u64 (loW x), .int .i64 m] (· = .flt .f64 (refF x m)) := by
  have hh := hi_in hx
  have hl := loW_nn x
  obtain ⟨l, el⟩ := Int.eq_ofNat_of_zero_le hl.1
  have c0 := ofN (hiW x) l (by unfold i64R; have := hx.1; have := hx.2; omega) (by omega)
  rw [← el, show hiW x * 18446744073709551616 + loW x = x from by rw [hh]; unfold loW; omega] at c0
  have c1 := small m (by omega)
  rw [show ((m : Nat) : Int) = IntKind.u64.wrap (m : Int) from by rw [IntKind.wrap_u64]; omega] at c1
  obtain ⟨N, hNe⟩ : ∃ N, N = x.natAbs := ⟨_, rfl⟩
  have hN : N < 2 ^ 128 := by have := hx.1; have := hx.2; omega
  have hm384 : m < 65536 ^ 24 := Nat.lt_trans hm2 (by decide)
  have hmw : (numD (IntKind.u64.wrap (m : Int))) = .agg [.list (digL m), .bool false] := by
    rw [show IntKind.u64.wrap (m : Int) = (m : Int) from by rw [IntKind.wrap_u64]; omega]
    exact (num_eq (by omega) (decide_eq_false (by omega)).symm).symm
  rw [hmw] at c1
  refine FnC.mk Try.func36 rfl rfl (Nat.le_of_ble_eq_true rfl) (by simp) (by rintro _ rfl; simp) ?_
  refine joinK.direct ⟨fun h => absurd (of_decide_eq_true h) (by omega), fun _ => join_go ?_⟩
  refine callK.eq c0 ?_
  refine callK.eq c1 ?_
  refine callK.own zero ?_
  refine joinK.use [7, 9, 10, 11, 12] (fun s : Nat => [.pobj 0 0 0, .int .u64 (Xs N s / m : Nat), .int .i64 (bitLen (Xs N s / m)), .ref 1 0 24, .int .i64 (powI N m s)]) (fun s => [numPO (numC x), leftPO (Xs N s % m)]) (fun s => DivJ N m s ∧ (s = 0 ∨ 9007199254740992 ≤ Xs N s / m)) ?_ ?_
  · have h584 := Xs_top N hN
    refine loopK.useG [7, 8, 9, 10, 11, 12, 13] (fun s : Nat => [.pobj 0 0 0, .list (digL m), .int .u64 (Xs N s / m : Nat), .int .i64 (bitLen (Xs N s / m)), .ref 1 0 24, .int .i64 (powI N m s), .int .i64 ((s : Int) - 201)]) (fun s => [numPO (numC x), leftPO (Xs N s % m)])
      (fun s => DivJ N m s) (fun s => s) 584 ⟨by rw [h584, Nat.zero_div]; decide, by decide⟩
      (weak_gc [] [some 0, some 1] rfl ⟨.pobj _ _ _ _ rfl, ren_eq rfl (by simpa using blw_digL m), ren_eq (int_eq (by rw [h584, Nat.zero_div]; rfl)) (by simp), ren_eq (int_eq (by rw [h584, Nat.zero_div]; rfl)) (by simp), ren_ref rfl (by decide), ren_eq (int_eq (by unfold powI; rw [h584, Nat.zero_div, if_pos rfl])) (by simp), ren_eq rfl (by simp), trivial⟩
        ⟨⟨rfl, rfl, rfl, els_same rfl (numx_blw _)⟩, ⟨rfl, rfl, rfl, els_same (by rw [h584, Nat.zero_mod]; exact dig00) (blw_digL _)⟩, trivial⟩) ?_
    intro s hj
    have hj1 := hj.h1
    have hj2 := hj.h2
    have htst := mean_loop_test s (Xs N s / m)
    refine joinK.direct ?_
    refine guardK.spec ?_
    refine ⟨fun h => join_go ?_, fun h => ?_⟩
    · have h := of_decide_eq_true (htst.symm.trans h)
      have hs1 := h.1
      have hQ := h.2
      have eS : s = (s - 1) + 1 := by omega
      have hstep := Xs_step N (s - 1)
      rw [← eS] at hstep
      have hb2 : Xs N (s - 1) % 2 < 2 := Nat.mod_lt _ (by decide)
      have hqs := quo_step (Xs N s) m (Xs N (s - 1) % 2) hm hb2
      rw [← hstep] at hqs
      have hr := Nat.mod_lt (Xs N s) hm
      have hrm : Xs N s % m + Xs N s % m = Xs N s % m * 2 := by omega
      have hat : decide ((s : Int) - 201 ≥ 0) = decide (201 ≤ s) := by rw [decide_eq_decide]; omega
      refine joinK.direct ?_
      refine callK.ownF [1] (addO (Xs N s % m) (Xs N s % m)) ⟨left_snap _ 1 _ rfl, left_snap _ 1 _ rfl, trivial⟩ ?_
      refine joinK.use [7, 8, 9, 10, 11, 12, 13] (fun _ : Unit => [.pobj 0 0 0, .list (digL m), .int .u64 (Xs N s / m : Nat), .int .i64 (bitLen (Xs N s / m)), .ref 1 0 24, .int .i64 (powI N m s), .int .i64 ((s : Int) - 201)]) (fun _ => [numPO (numC x), leftPO (Xs N s % m * 2 + Xs N (s - 1) % 2)]) (fun _ => True) ?_ ?_
      · refine ⟨fun h3 => ?_, fun h3 => ?_⟩
        · have h3 := of_decide_eq_true (hat.symm.trans h3)
          have eat : (s : Int) - 201 = ((s - 201 : Nat) : Int) := by omega
          have hbit := Xs_bit N (s - 1) (by omega)
          rw [show s - 1 - 200 = s - 201 from by omega] at hbit
          have hv := bit_val N (s - 201)
          rw [← eat, ← hbit] at hv
          have ei : IntKind.i64.wrap (((s : Int) - 201).tdiv 16) = (((s - 201) / 16 : Nat) : Int) := by
            rw [eat, show ((s - 201 : Nat) : Int).tdiv 16 = (((s - 201) / 16 : Nat) : Int) from rfl, IntKind.wrap_i64]; omega
          have hdig : (digL N)[(IntKind.i64.wrap (((s : Int) - 201).tdiv 16)).toNat]? = some (cell32 (digN N ((s - 201) / 16))) := by rw [ei, Int.toNat_natCast]; exact digL_get N _ (by omega)
          have hdig' : (digL x.natAbs)[(IntKind.i64.wrap (((s : Int) - 201).tdiv 16)).toNat]? = some (cell32 (digN N ((s - 201) / 16))) := by rw [← hNe]; exact hdig
          have hi0 : (0 : Int) ≤ IntKind.i64.wrap (((s : Int) - 201).tdiv 16) := by rw [ei]; omega
          have hi1 : IntKind.i64.wrap (((s : Int) - 201).tdiv 16) < ((digL x.natAbs).length : Int) := by rw [ei, digL_len]; omega
          have hl0 : (digL (Xs N s % m + Xs N s % m))[0 + (0 : Int).toNat]? = some (cell32 (digN (Xs N s % m + Xs N s % m) 0)) := digL_get _ 0 (by decide)
          have hset : (digL (Xs N s % m + Xs N s % m)).set (0 + (0 : Int).toNat) [.int .u32 (IntKind.u32.wrap ((BitVec.ofInt IntKind.u32.bits (digN (Xs N s % m + Xs N s % m) 0 : Int) ||| BitVec.ofInt IntKind.u32.bits (IntKind.u32.wrap ((BitVec.ofInt IntKind.u32.bits ((digN N ((s - 201) / 16) : Int).fdiv (2 ^ min (IntKind.u64.wrap (((s : Int) - 201).tmod 16)).toNat IntKind.u32.bits)) &&& BitVec.ofInt IntKind.u32.bits 1).toNat : Int))).toNat : Int))] = digL (Xs N s % m * 2 + Xs N (s - 1) % 2) := by
            rw [hv, hrm, or_val2 _ _ hb2]
            exact digL_set0 _ _ hb2
          refine drawK.mk (by kernel_rfl) ?_
          refine ⟨by decide, by rw [digL_len]; decide, optK.mk rfl ?_⟩
          refine optK.mk hl0 ?_
          refine ⟨rfl, by decide, hi0, hi1, optK.mk hdig' ?_⟩
          refine ⟨rfl, by decide, (wrap_u64_nn _).1, ?_⟩
          refine ⟨by decide, by rw [digL_len]; decide, optK.mk rfl ?_⟩
          refine optK.mk hl0 ?_
          exact join_gc () trivial (weak_gc [] [some 0, some 2] rfl ⟨.pobj _ _ _ _ rfl, ren_eq rfl (by simpa using blw_digL m), ren_eq rfl (by simp), ren_eq rfl (by simp), ren_ref rfl (digL_len _), ren_eq rfl (by simp), ren_eq rfl (by simp), trivial⟩ ⟨⟨rfl, rfl, rfl, els_same rfl (numx_blw _)⟩, ⟨rfl, rfl, rfl, els_same hset (blw_digL _)⟩, trivial⟩)
        · have h3 := of_decide_eq_false (hat.symm.trans h3)
          have hb0 := Xs_low N (s - 1) (by omega)
          exact join_gc () trivial (weak_gc [] [some 0, some 2] rfl ⟨.pobj _ _ _ _ rfl, ren_eq rfl (by simpa using blw_digL m), ren_eq rfl (by simp), ren_eq rfl (by simp), ren_ref rfl (digL_len _), ren_eq rfl (by simp), ren_eq rfl (by simp), trivial⟩ ⟨⟨rfl, rfl, rfl, els_same rfl (numx_blw _)⟩, ⟨rfl, rfl, rfl, els_same (by rw [hrm, hb0, Nat.add_zero]) (blw_digL _)⟩, trivial⟩)
      rintro ⟨⟩ -
      have hr2 : Xs N s % m * 2 + Xs N (s - 1) % 2 < 65536 ^ 24 := Nat.lt_trans (show Xs N s % m * 2 + Xs N (s - 1) % 2 < 36893488147419103232 by omega) (by decide)
      have hbl : (!decide (Xs N s % m * 2 + Xs N (s - 1) % 2 < m)) = decide (m ≤ Xs N s % m * 2 + Xs N (s - 1) % 2) := by rw [Bool.eq_iff_iff]; simp
      refine joinK.use [7, 8, 9, 10, 11, 12, 13, 14] (fun _ : Unit => [.pobj 0 0 0, .list (digL m), .int .u64 (Xs N s / m : Nat), .int .i64 (bitLen (Xs N s / m)), .ref 1 0 24, .int .i64 (powI N m s), .int .i64 ((s : Int) - 201), .int .u64 ((if m ≤ Xs N s % m * 2 + Xs N (s - 1) % 2 then 1 else 0 : Nat) : Int)]) (fun _ => [numPO (numC x), leftPO (Xs N (s - 1) % m)]) (fun _ => True) ?_ ?_
      · refine callK.lend [1] (below _ m hr2 hm384) ⟨left_snap _ 1 _ rfl, .pure (.list (digL m)) (by simpa using blw_digL m), trivial⟩ (by simp) ?_
        refine ⟨fun h3 => ?_, fun h3 => ?_⟩
        · have h3 := of_decide_eq_true (hbl.symm.trans h3)
          have hq2 := hqs.2
          rw [if_pos h3] at hq2
          refine callK.ownF [1] (takeO _ m h3) ⟨left_snap _ 1 _ rfl, .pure (.list (digL m)) (by simpa using blw_digL m), trivial⟩ ?_
          exact join_gc () trivial (weak_gc [] [some 0, some 2] rfl ⟨.pobj _ _ _ _ rfl, ren_eq rfl (by simpa using blw_digL m), ren_eq rfl (by simp), ren_eq rfl (by simp), ren_ref rfl (digL_len _), ren_eq rfl (by simp), ren_eq rfl (by simp), ren_eq (int_eq (by rw [if_pos h3]; rfl)) (by simp), trivial⟩ ⟨⟨rfl, rfl, rfl, els_same rfl (numx_blw _)⟩, ⟨rfl, rfl, rfl, els_same (by rw [hq2]) (blw_digL _)⟩, trivial⟩)
        · have h3 := of_decide_eq_false (hbl.symm.trans h3)
          have hq2 := hqs.2
          rw [if_neg h3] at hq2
          exact join_gc () trivial (weak_gc [] [some 0, some 1] rfl ⟨.pobj _ _ _ _ rfl, ren_eq rfl (by simpa using blw_digL m), ren_eq rfl (by simp), ren_eq rfl (by simp), ren_ref rfl rfl, ren_eq rfl (by simp), ren_eq rfl (by simp), ren_eq (int_eq (by rw [if_neg h3]; rfl)) (by simp), trivial⟩ ⟨⟨rfl, rfl, rfl, els_same rfl (numx_blw _)⟩, ⟨rfl, rfl, rfl, els_same (by rw [hq2]) (blw_digL _)⟩, trivial⟩)
      rintro ⟨⟩ -
      have hc2 : (if m ≤ Xs N s % m * 2 + Xs N (s - 1) % 2 then 1 else 0 : Nat) < 2 := by split <;> decide
      have hbt := bit_test2 (Xs N s / m) _ hc2
      rw [← hqs.1] at hbt
      have hQ2 : Xs N (s - 1) / m < 18014398509481984 := by rw [hqs.1]; omega
      refine guardK.spec ?_
      refine ⟨fun h3 => ?_, fun h3 => ?_⟩
      · have h3 := of_decide_eq_true (hbt.symm.trans h3)
        have hw := whole_v (Xs N s / m) _ hQ hc2
        rw [← hqs.1] at hw
        have hbl2 : bitLen (Xs N s / m) ≤ 54 := by have := (len_54 (Xs N s / m)).2 hQ; omega
        refine join_go (loop_next (s - 1) ⟨hQ2, by omega⟩ (by omega) ⟨rfl, rfl, int_eq hw, int_eq ?_, rfl, int_eq ?_, int_eq ?_, trivial⟩ (.inl rfl))
        · rw [IntKind.wrap_i64]
          rw [hqs.1] at h3 ⊢
          rcases Nat.eq_zero_or_pos (Xs N s / m) with e | e
          · rw [e] at h3 ⊢
            generalize (if m ≤ Xs N s % m * 2 + Xs N (s - 1) % 2 then 1 else 0 : Nat) = c at *
            obtain rfl : c = 1 := by omega
            decide
          · rw [bitLen_2 _ _ e hc2]; omega
        · unfold powI; rw [if_neg h3]; omega
        · rw [IntKind.wrap_i64]; omega
      · have h3 := of_decide_eq_false (hbt.symm.trans h3)
        have h3 : Xs N (s - 1) / m = 0 := Decidable.not_not.1 h3
        have hq0 : Xs N s / m = 0 := by have := hqs.1; omega
        refine join_go (loop_next (s - 1) ⟨hQ2, by omega⟩ (by omega) ⟨rfl, rfl, int_eq (by rw [h3, hq0]), int_eq (by rw [h3, hq0]), rfl, int_eq ?_, int_eq ?_, trivial⟩ (.inl rfl))
        · unfold powI; rw [if_pos h3, if_pos hq0]
        · rw [IntKind.wrap_i64]; omega
    · have h := of_decide_eq_false (htst.symm.trans h)
      exact join_at s ⟨hj, by omega⟩ ⟨rfl, rfl, rfl, rfl, rfl, trivial⟩ (.inl rfl)
  intro s hs
  have hj1 := hs.1.h1
  have hj2 := hs.1.h2
  have hcnt := cnt_zero (Xs N s / m)
  refine joinK.direct ⟨fun h => ?_, fun h => join_go ?_⟩
  · have h := of_decide_eq_true (hcnt.symm.trans h)
    have hs0 : s = 0 := hs.2.resolve_right (fun e => absurd (h ▸ e) (by decide))
    have hN0 : N = 0 := (Nat.eq_zero_or_pos N).resolve_right (fun e => no_zero N m hm hm2 (hs0 ▸ hj1) e)
    refine fin_eq (.flt _ _) rfl (flt_eq ?_)
    rw [eq_of_abs hNe hN0]; exact (refF_0 m).symm
  have h := of_decide_eq_false (hcnt.symm.trans h)
  have hE := mean_end x N m s hNe hN hm hm2 hj1 hs.2 h
  have hlo := hE.hlo
  have hhi := hE.hhi
  have hw1 := hE.hw.1
  have hw2 := hE.hw.2
  have hp1 := pow_1 _ s hE.hp hj2
  have hpe : (IntKind.i64.wrap (IntKind.i64.wrap (powI N m s + 1) - 1)).toNat = s - 200 := pow_3 _ s hE.hp hj2
  have hmore := moreR N (Nat.lt_trans hN (by decide)) (IntKind.i64.wrap (IntKind.i64.wrap (powI N m s + 1) - 1)) (pow_4 _ s hE.hp hj2)
  rw [hpe, show digL N = digL x.natAbs from congrArg digL hNe] at hmore
  have hrm384 : Xs N s % m < 65536 ^ 24 := Nat.lt_trans (Nat.mod_lt _ hm) hm384
  have hrd := round_mean (Xs N s / m) hj1 (!decide (Xs N s % m = 0)) (decide (N % 2 ^ (s - 200) ≠ 0))
  rw [← stk_eq N m s] at hrd
  refine ⟨rfl, by decide, ?_⟩
  refine ⟨rfl, by decide, ?_⟩
  refine joinK.use [7, 9, 12] (fun _ : Unit => [.pobj 0 0 0, .int .u64 (mW (Xs N s / m) (stk N m s) : Nat), .int .i64 ((s : Int) - ((199 : Nat) : Int))]) (fun _ => [numPO (numC x), leftPO (Xs N s % m)]) (fun _ => True) ?_ ?_
  · refine guardK.spec ?_
    refine callE.lend [1] (isZero _ hrm384) ⟨left_snap _ 1 _ rfl, trivial⟩ (by simp) ?_
    refine callE.mk hmore ?_
    refine ⟨rfl, by decide, ?_⟩
    refine ⟨fun h2 => ?_, fun h2 => ?_⟩
    · have h2 : _ = true := hrd.symm.trans h2
      exact join_at () trivial ⟨rfl, int_eq (mW_up _ hj1 _ h2), int_eq hp1, trivial⟩ (.inl rfl)
    · have h2 : _ = false := hrd.symm.trans h2
      exact join_at () trivial ⟨rfl, int_eq (mW_dn _ hj1 _ h2), int_eq hp1, trivial⟩ (.inl rfl)
  rintro ⟨⟩ -
  have hne := near_mB hw1 hw2
  refine joinK.direct ?_
  refine loopK.use [7, 12, 16] (fun T : Nat => [.pobj 0 0 0, .int .i64 ((s : Int) - (T : Int)), .flt .f64 (mB false T (mW (Xs N s / m) (stk N m s)))]) (fun _ => [numPO (numC x), leftPO (Xs N s % m)])
    (fun T => 199 ≤ T ∧ (T ≤ s ∨ T = 199)) (fun T => s - T) 199 ⟨Nat.le_refl _, .inr rfl⟩ ⟨rfl, rfl, flt_eq hne, trivial⟩ (.inl rfl) ?_
  intro T hT
  have hT3 := up_0 hhi hT
  have hd := dbl_mB hT3 hw1 hw2
  refine joinK.direct ⟨fun h3 => join_go ?_, fun h3 => join_go ?_⟩
  · have h3 := of_decide_eq_true h3
    refine ⟨rfl, optK.mk hd ?_⟩
    have hu := up_1 hhi hT h3
    exact loop_next (T + 1) hu.1 hu.2.1 ⟨rfl, int_eq hu.2.2, rfl, trivial⟩ (.inl rfl)
  have h3 := of_decide_eq_false h3
  refine joinK.direct ?_
  refine loopK.use [7, 12, 16] (fun T : Nat => [.pobj 0 0 0, .int .i64 ((s : Int) - (T : Int)), .flt .f64 (mB false T (mW (Xs N s / m) (stk N m s)))]) (fun _ => [numPO (numC x), leftPO (Xs N s % m)])
    (fun T => s ≤ T ∧ T ≤ 300) (fun T => T - s) T (up_2 hhi hT h3) ⟨rfl, rfl, rfl, trivial⟩ (.inl rfl) ?_
  intro V hV
  have hf := hlf_mB hV.2 (dn_0 hlo hV) hw1 hw2
  refine joinK.direct ⟨fun h4 => join_go ?_, fun h4 => join_go ?_⟩
  · have h4 := of_decide_eq_true h4
    refine ⟨rfl, optK.mk hf ?_⟩
    have hu := dn_1 hlo hV h4
    exact loop_next (V - 1) hu.1 hu.2.1 ⟨rfl, int_eq hu.2.2, rfl, trivial⟩ (.inl rfl)
  have h4 := of_decide_eq_false h4
  have eV : V = s := dn_2 hV h4
  have hng := neg_mB hV.2 hw1 hw2
  have hr := hE.hres
  refine joinK.direct ⟨fun h5 => ?_, fun h5 => join_go ?_⟩
  · have h5 : decide (x < 0) = true := h5
    refine fin_eq (.flt _ _) rfl (flt_eq ?_)
    rw [hr, h5]; exact hng.trans (congrArg (fun t => mB true t (mW (Xs N s / m) (stk N m s))) eV)
  · have h5 : decide (x < 0) = false := h5
    refine fin_eq (.flt _ _) rfl (flt_eq ?_)
    rw [hr, h5]; exact congrArg (fun t => mB false t (mW (Xs N s / m) (stk N m s))) eV
end Go.Proofs.Ytckcagmlippneaa
