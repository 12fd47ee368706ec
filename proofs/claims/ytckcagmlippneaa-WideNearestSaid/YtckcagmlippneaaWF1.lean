/- WideNearest: a float64's parts; how far it lies; no neighbour lies nearer; the law's walk. -/
import Derived.Test.YtckcagmlippneaaWG2
namespace Go.Proofs.Ytckcagmlippneaa
open Go Go.Pv Go.RowKit
set_option linter.unusedSimpArgs false
set_option linter.unusedVariables false
set_option maxRecDepth 10000
set_option exponentiation.threshold 2000

theorem and_low (z k : Nat) (hz : z < 18446744073709551616) (hk : k ≤ 63) (c : Int) (hc : (BitVec.ofInt 64 c).toNat = 2 ^ k - 1) :
    IntKind.u64.wrap ((BitVec.ofInt IntKind.u64.bits (z : Int) &&& BitVec.ofInt IntKind.u64.bits c).toNat : Int) = ((z % 2 ^ k : Nat) : Int) := by
  have key : (BitVec.ofInt 64 (z : Int) &&& BitVec.ofInt 64 c).toNat = z % 2 ^ k := by
    rw [BitVec.toNat_and, hc, Nat.and_two_pow_sub_one_eq_mod, BitVec.ofInt_natCast, BitVec.toNat_ofNat, Nat.mod_eq_of_lt hz]
  show IntKind.u64.wrap ((BitVec.ofInt 64 (z : Int) &&& BitVec.ofInt 64 c).toNat : Int) = _
  rw [key, IntKind.wrap_u64]
  have : z % 2 ^ k ≤ z := Nat.mod_le _ _
  omega
theorem or_top (z : Nat) (hz : z < 4503599627370496) : IntKind.u64.wrap ((BitVec.ofInt IntKind.u64.bits (z : Int) ||| BitVec.ofInt IntKind.u64.bits 4503599627370496).toNat : Int) = ((z + 4503599627370496 : Nat) : Int) := by
  have key : (BitVec.ofInt 64 (z : Int) ||| BitVec.ofInt 64 4503599627370496).toNat = z + 4503599627370496 := by
    rw [BitVec.toNat_or, BitVec.ofInt_natCast, BitVec.toNat_ofNat, show (BitVec.ofInt 64 4503599627370496).toNat = 2 ^ 52 * 1 by decide, Nat.mod_eq_of_lt (by omega), Nat.or_comm, ← Nat.two_pow_add_eq_or_of_lt (by omega)]
    omega
  show IntKind.u64.wrap ((BitVec.ofInt 64 (z : Int) ||| BitVec.ofInt 64 4503599627370496).toNat : Int) = _
  rw [key, IntKind.wrap_u64]; omega
theorem fbits_split {E M : Nat} (h : FOk E M) (s : Bool) : fbits s E M < 18446744073709551616 ∧ fbits s E M % 2 ^ 52 = M - 4503599627370496 ∧ fbits s E M / 2 ^ 52 % 2 ^ 11 = E + 1 ∧ fbits s E M / 2 ^ 63 = (bif s then 1 else 0) := by
  obtain ⟨h1, h2, h3⟩ := h
  cases s
  · rw [fbits_pos]; refine ⟨by omega, by omega, by omega, ?_⟩; simp only [cond_false]; omega
  · rw [fbits_neg]; refine ⟨by omega, by omega, by omega, ?_⟩; simp only [cond_true]; omega
theorem tup3 {k k' : IntKind} {a a' b b' : Int} {c c' : Bool} (h1 : a = a') (h2 : b = b') (h3 : c = c') : DV.tup [.int k a, .int k' b, .bool c] = .tup [.int k a', .int k' b', .bool c'] := by rw [h1, h2, h3]
theorem partsF {E M : Nat} (h : FOk E M) (s : Bool) : FnC Try.prog 60 [.flt .f64 (fbits s E M)] (· = .tup [.int .u64 M, .int .i64 ((E : Int) - 1074), .bool s]) := by
  obtain ⟨f1, f2, f3, f4⟩ := fbits_split h s
  have g1 := h.lo
  have g3 := h.e
  have hf := f64bits (fbits s E M)
  generalize fbits s E M = b at *
  have e1 : IntKind.u64.wrap ((BitVec.ofInt IntKind.u64.bits (b : Int) &&& BitVec.ofInt IntKind.u64.bits 4503599627370495).toNat : Int) = ((M - 4503599627370496 : Nat) : Int) := by rw [and_low b 52 f1 (by decide) _ (by decide), f2]
  have e2 : (b : Int).fdiv (2 ^ min (52 : Int).toNat IntKind.u64.bits) = ((b / 2 ^ 52 : Nat) : Int) := fdiv_lit b 52 (by decide)
  have e3 : IntKind.u64.wrap ((BitVec.ofInt IntKind.u64.bits ((b : Int).fdiv (2 ^ min (52 : Int).toNat IntKind.u64.bits)) &&& BitVec.ofInt IntKind.u64.bits 2047).toNat : Int) = ((E + 1 : Nat) : Int) := by
    rw [e2, and_low (b / 2 ^ 52) 11 (by omega) (by decide) _ (by decide), f3]
  have e4 : IntKind.i64.wrap ((E + 1 : Nat) : Int) = ((E + 1 : Nat) : Int) := by rw [IntKind.wrap_i64]; omega
  have e5 : (b : Int).fdiv (2 ^ min (63 : Int).toNat IntKind.u64.bits) = ((b / 2 ^ 63 : Nat) : Int) := fdiv_lit b 63 (by decide)
  have hz : (IntKind.i64.wrap (IntKind.u64.wrap ((BitVec.ofInt IntKind.u64.bits ((b : Int).fdiv (2 ^ min (52 : Int).toNat IntKind.u64.bits)) &&& BitVec.ofInt IntKind.u64.bits 2047).toNat : Int)) == 0) = false := by
    rw [e3, e4]; simp; omega
  refine FnC.mk Try.func60 rfl rfl (Nat.le_of_ble_eq_true rfl) (by simp) (by rintro _ rfl; simp) ?_
  refine callK.eq hf ?_
  refine ⟨by decide, ?_⟩
  refine joinK.direct ?_
  refine ⟨fun h => absurd (hz.symm.trans h) (by decide), fun _ => join_go ?_⟩
  refine ⟨by decide, ?_⟩
  refine fin_eq (.tup [.int _ _, .int _ _, .bool _]) rfl (tup3 ?_ ?_ ?_)
  · rw [e1, or_top _ (by have := h.hi; omega)]; omega
  · rw [e3, e4, IntKind.wrap_i64]; omega
  · rw [e5, f4]; cases s <;> rfl

/-- A number of so many bits. -/
def sgnI (s : Bool) (v : Int) : Int := bif s then -v else v
theorem nums3 {x a b : Int} (h : a = b) : [widePO (wideC x), numPO num0, numPO (numC a)] = [widePO (wideC x), numPO num0, numPO (numC b)] := by rw [h]
theorem nums4 {x v a b : Int} (h : a = b) : [widePO (wideC x), numPO num0, numPO (numC v), numPO (numC a)] = [widePO (wideC x), numPO num0, numPO (numC v), numPO (numC b)] := by rw [h]
theorem dbl (v : Int) (i : Nat) : v * 2 ^ i + v * 2 ^ i = v * 2 ^ (i + 1) := by rw [Int.pow_succ, ← Int.mul_assoc]; omega
theorem pow_fit (v : Int) (A i k K : Nat) (hv : v.natAbs < 2 ^ A) (hi : i ≤ k) (hK : A + k ≤ K) : (v * 2 ^ i).natAbs < 2 ^ K := by
  rw [Int.natAbs_mul, Int.natAbs_pow]
  have h1 : v.natAbs * 2 ^ i < 2 ^ A * 2 ^ i := Nat.mul_lt_mul_of_pos_right hv (Nat.pow_pos (by decide))
  have h2 : 2 ^ A * 2 ^ i ≤ 2 ^ K := by rw [← Nat.pow_add]; exact Nat.pow_le_pow_right (by decide) (by omega)
  exact Nat.lt_of_lt_of_le h1 h2
theorem fit24 {a : Nat} (h : a < 2 ^ 380) : a < 65536 ^ 24 := Nat.lt_trans h (by decide)
theorem sgn_abs (s : Bool) (v : Int) : (sgnI s v).natAbs = v.natAbs := by unfold sgnI; cases s <;> simp
theorem abs_neg (d : Int) (h : d < 0) : ((d.natAbs : Nat) : Int) = -d := by omega
theorem abs_pos (d : Int) (h : ¬ d < 0) : ((d.natAbs : Nat) : Int) = d := by omega
theorem farF {E M : Nat} (h : FOk E M) (s : Bool) (x : Int) (hx : in128 x) (m : Nat) (hm : 0 < m) (hm2 : m < 9223372036854775808) (k : Nat) (hE : E = k + 934) (hk : k ≤ 220) :
    FnC Try.prog 40 [.flt .f64 (fbits s E M), wideD x, .int .i64 (m : Int)] (· = numD ((sgnI s ((M * m : Nat) * 2 ^ k) - x * 2 ^ 140).natAbs : Int)) := by
  have c1 := partsF h s
  have c2 := small M (by have := h.hi; omega)
  have hVm : M * m < 2 ^ 116 := by
    have := h.hi
    have h1 : M * m < 9007199254740992 * 9223372036854775808 := Nat.mul_lt_mul_of_lt_of_le (by omega) (by omega) (by decide)
    exact h1
  have hV : ((M * m : Nat) : Int).natAbs < 2 ^ 116 := by rw [Int.natAbs_natCast]; exact hVm
  have c3 : FnC Try.prog 25 [numD (M : Int), .int .u64 (IntKind.u64.wrap (m : Int))] (· = numD ((M * m : Nat) : Int)) := by
    have := timesN (M : Int) m (by rw [Int.natAbs_natCast]; exact Nat.lt_trans h.hi (by decide)) (by omega)
    rwa [show ((M : Int) * (m : Nat)) = ((M * m : Nat) : Int) by rw [Int.natCast_mul], show ((m : Nat) : Int) = IntKind.u64.wrap (m : Int) by rw [IntKind.wrap_u64]; omega] at this
  have c4 : FnC Try.prog 25 [numD ((M * m : Nat) : Int), .int .u64 1] (· = numD ((M * m : Nat) : Int)) := by
    have := timesN ((M * m : Nat) : Int) 1 (Nat.lt_trans hV (by decide)) (by decide)
    rwa [show (((M * m : Nat) : Int) * (1 : Nat)) = ((M * m : Nat) : Int) by omega, show ((1 : Nat) : Int) = 1 from rfl] at this
  have hxa : x.natAbs < 2 ^ 128 := by unfold in128 at hx; omega
  have c5 := numL x hx
  have fitV : ∀ i, i ≤ k → (((M * m : Nat) : Int) * 2 ^ i).natAbs < 2 ^ 340 := fun i hi => pow_fit _ 116 i k 340 hV hi (by omega)
  have fitX : ∀ i, i ≤ 140 → (x * 2 ^ i).natAbs < 2 ^ 340 := fun i hi => pow_fit _ 128 i 140 340 hxa hi (by decide)
  have p1 : ∀ i, i ≤ k → FnC Try.prog 17 [numD (((M * m : Nat) : Int) * 2 ^ i), numD (((M * m : Nat) : Int) * 2 ^ i)] (· = numD (((M * m : Nat) : Int) * 2 ^ (i + 1))) := fun i hi => by
    have f := fit24 (Nat.lt_trans (fitV i hi) (by decide))
    have := plusN _ _ f f
    rwa [dbl] at this
  have p2 : ∀ i, i ≤ 140 → FnC Try.prog 17 [numD (x * 2 ^ i), numD (x * 2 ^ i)] (· = numD (x * 2 ^ (i + 1))) := fun i hi => by
    have f := fit24 (Nat.lt_trans (fitX i hi) (by decide))
    have := plusN _ _ f f
    rwa [dbl] at this
  have t1 := turnedN (((M * m : Nat) : Int) * 2 ^ k) (fit24 (Nat.lt_trans (fitV k (Nat.le_refl _)) (by decide)))
  have t2 := turnedN (x * 2 ^ 140) (fit24 (Nat.lt_trans (fitX 140 (Nat.le_refl _)) (by decide)))
  have hd1 : (sgnI s (((M * m : Nat) : Int) * 2 ^ k)).natAbs < 2 ^ 340 := by rw [sgn_abs]; exact fitV k (Nat.le_refl _)
  have hd2 : (-(x * 2 ^ 140)).natAbs < 2 ^ 340 := by rw [Int.natAbs_neg]; exact fitX 140 (Nat.le_refl _)
  have p3 := plusN _ _ (fit24 (Nat.lt_trans hd1 (by decide))) (fit24 (Nat.lt_trans hd2 (by decide)))
  rw [← Int.sub_eq_add_neg] at p3
  have hd3 : (sgnI s (((M * m : Nat) : Int) * 2 ^ k) - x * 2 ^ 140).natAbs < 2 ^ 341 := by
    have h1 := fitX 140 (Nat.le_refl _)
    have e : (2 : Nat) ^ 341 = 2 ^ 340 + 2 ^ 340 := by decide
    rw [e]
    generalize (2 : Nat) ^ 340 = B at *
    generalize sgnI s (((M * m : Nat) : Int) * 2 ^ k) = u at *
    generalize x * 2 ^ 140 = w at *
    omega
  have t3 := turnedN _ (fit24 (Nat.lt_trans hd3 (by decide)))
  have hEi : ∀ i : Nat, decide ((i : Int) - 140 < (E : Int) - 1074) = decide (i < k) := fun i => decide_eq_decide.2 (by omega)
  have hst : ∀ i : Nat, i ≤ 400 → IntKind.i64.wrap ((i : Int) - 140 + 1) = ((i + 1 : Nat) : Int) - 140 := fun i hi => by rw [IntKind.wrap_i64]; omega
  have hst2 : ∀ i : Nat, i ≤ 400 → IntKind.i64.wrap ((i : Int) + 1) = ((i + 1 : Nat) : Int) := fun i hi => by rw [IntKind.wrap_i64]; omega
  have hblw : ∀ d ∈ [.flt .f64 (fbits s E M), wideD x, .int .i64 (m : Int)], Blw 0 d := by
    intro d hd
    simp only [List.mem_cons, List.not_mem_nil, or_false] at hd
    rcases hd with rfl | rfl | rfl
    · exact .flt _ _
    · exact blw_wideD _
    · exact .int _ _
  generalize ((M * m : Nat) : Int) = V at *
  refine FnC.mk Try.func40 rfl rfl (Nat.le_of_ble_eq_true rfl) hblw (by rintro _ rfl; exact blw_numD _) ?_
  refine callK.eq c1 ?_
  refine callK.eq c2 ?_
  show callK _ _ _ _ _
  refine callK.eq c3 ?_
  show callK _ _ _ _ _
  refine callK.eq c4 ?_
  refine joinK.use [4, 6, 9, 10] (fun _ : Unit => [.pobj 0 0 0, .pobj 1 0 0, .bool s, .pobj 2 0 0]) (fun _ => [widePO (wideC x), numPO num0, numPO (numC (V * 2 ^ k))]) (fun _ => True) ?_ ?_
  · refine loopK.use [4, 6, 8, 9, 10, 11] (fun i : Nat => [.pobj 0 0 0, .pobj 1 0 0, .int .i64 ((E : Int) - 1074), .bool s, .pobj 2 0 0, .int .i64 ((i : Int) - 140)]) (fun i => [widePO (wideC x), numPO num0, numPO (numC (V * 2 ^ i))])
      (fun i => i ≤ k) (fun i => k - i) 0 (Nat.zero_le _) ⟨rfl, rfl, rfl, rfl, rfl, rfl, trivial⟩ (.inl (nums3 (by rw [Int.pow_zero, Int.mul_one]))) ?_
    intro i hi
    refine joinK.direct ?_
    refine ⟨fun h => join_go ?_, fun h => ?_⟩
    · have h : i < k := of_decide_eq_true ((hEi i).symm.trans h)
      refine callK.eq (p1 i hi) ?_
      exact loop_next (i + 1) h (by omega) ⟨rfl, rfl, rfl, rfl, rfl, int_eq (hst i (by omega)), trivial⟩ (.inl rfl)
    · have h : ¬ i < k := of_decide_eq_false ((hEi i).symm.trans h)
      have h : i = k := by omega
      subst h
      exact join_at () trivial ⟨rfl, rfl, rfl, rfl, trivial⟩ (.inl rfl)
  rintro ⟨⟩ -
  refine joinK.use [4, 6, 10] (fun _ : Unit => [.pobj 0 0 0, .pobj 1 0 0, .pobj 2 0 0]) (fun _ => [widePO (wideC x), numPO num0, numPO (numC (sgnI s (V * 2 ^ k)))]) (fun _ => True) ?_ ?_
  · refine ⟨fun h => ?_, fun h => ?_⟩
    · have h : s = true := h
      subst h
      refine callK.eq t1 ?_
      exact join_at () trivial ⟨rfl, rfl, rfl, trivial⟩ (.inl rfl)
    · have h : s = false := h
      subst h
      exact join_at () trivial ⟨rfl, rfl, rfl, trivial⟩ (.inl rfl)
  rintro ⟨⟩ -
  generalize sgnI s (V * 2 ^ k) = W at *
  refine callK.eq c5 ?_
  refine joinK.use [6, 10, 12] (fun _ : Unit => [.pobj 1 0 0, .pobj 2 0 0, .pobj 3 0 0]) (fun _ => [widePO (wideC x), numPO num0, numPO (numC W), numPO (numC (x * 2 ^ 140))]) (fun _ => True) ?_ ?_
  · refine loopK.use [6, 10, 12, 13] (fun i : Nat => [.pobj 1 0 0, .pobj 2 0 0, .pobj 3 0 0, .int .i64 i]) (fun i => [widePO (wideC x), numPO num0, numPO (numC W), numPO (numC (x * 2 ^ i))])
      (fun i => i ≤ 140) (fun i => 140 - i) 0 (Nat.zero_le _) ⟨rfl, rfl, rfl, rfl, trivial⟩ (.inl (nums4 (by rw [Int.pow_zero, Int.mul_one]))) ?_
    intro i hi
    refine joinK.direct ?_
    refine ⟨fun h => join_go ?_, fun h => ?_⟩
    · have h : (i : Int) < 140 := of_decide_eq_true h
      refine callK.eq (p2 i hi) ?_
      exact loop_next (i + 1) (by omega) (by omega) ⟨rfl, rfl, rfl, int_eq (hst2 i (by omega)), trivial⟩ (.inl rfl)
    · have h : ¬ (i : Int) < 140 := of_decide_eq_false h
      have h : i = 140 := by omega
      subst h
      exact join_at () trivial ⟨rfl, rfl, rfl, trivial⟩ (.inl rfl)
  rintro ⟨⟩ -
  refine drawK.mk (by kernel_rfl) ?_
  refine callE.mk t2 ?_
  refine callE.mk p3 ?_
  refine joinK.direct ?_
  refine ⟨fun h => ?_, fun h => join_go ?_⟩
  · have h : W - x * 2 ^ 140 < 0 := of_decide_eq_true h
    refine callK.eq t3 ?_
    refine fin_eq (numD _) rfl ?_
    rw [abs_neg _ h]
  · have h : ¬ W - x * 2 ^ 140 < 0 := of_decide_eq_false h
    refine fin_eq (numD _) rfl ?_
    rw [abs_pos _ h]

theorem near_core {H Z q w : Nat} {s : Bool} (hH : 0 < H) (hq : q = Z / H) (hs : s = decide (Z % H ≠ 0)) (hw : w = mW q s) :
    2 * (w * H) ≤ Z + H ∧ Z ≤ 2 * (w * H) + H ∧ (Z = 2 * (w * H) + H ∨ Z + H = 2 * (w * H) → w % 2 = 0) := by
  have e1 := Nat.div_add_mod Z H
  have e2 := Nat.mod_lt Z hH
  rw [← hq] at e1
  have hs2 : s = true ↔ Z % H ≠ 0 := by rw [hs]; exact decide_eq_true_iff
  generalize Z % H = a at *
  obtain ⟨c, hc⟩ : ∃ c, c = q / 2 := ⟨_, rfl⟩
  unfold mW at hw
  rw [← hc] at hw
  by_cases ho : q % 2 = 1
  · have hqc : q = 2 * c + 1 := by omega
    have e3 : H * q = 2 * (c * H) + H := by rw [hqc, Nat.mul_add, Nat.mul_one, Nat.mul_comm c H, ← Nat.mul_assoc, Nat.mul_comm H 2, Nat.mul_assoc]
    rw [show (q % 2 == 1) = true by simpa using ho, Bool.true_and] at hw
    cases hup : (s || c % 2 == 1) with
    | true =>
      rw [hup, cond_true] at hw
      have e4 : w * H = c * H + H := by rw [hw, Nat.add_mul, Nat.one_mul]
      rw [e4]
      generalize c * H = C at *
      generalize H * q = X at *
      refine ⟨by omega, by omega, fun ht => ?_⟩
      have ha : a = 0 := by omega
      have hsf : s = false := by
        cases hsx : s with
        | false => rfl
        | true => exact absurd ha (hs2.1 hsx)
      rw [hsf, Bool.false_or] at hup
      have : c % 2 = 1 := by simpa using hup
      omega
    | false =>
      rw [hup, cond_false, Nat.add_zero] at hw
      rw [Bool.or_eq_false_iff] at hup
      have ha : a = 0 := by
        rcases Nat.eq_zero_or_pos a with h | h
        · exact h
        · have := hs2.2 (by omega); rw [hup.1] at this; cases this
      have hce : ¬ c % 2 = 1 := by simpa using hup.2
      rw [hw]
      generalize c * H = C at *
      generalize H * q = X at *
      exact ⟨by omega, by omega, fun _ => by omega⟩
  · rw [show (q % 2 == 1) = false by simpa using ho, Bool.false_and, cond_false, Nat.add_zero] at hw
    have hqc : q = 2 * c := by omega
    have e3 : H * q = 2 * (c * H) := by rw [hqc, Nat.mul_comm c H, ← Nat.mul_assoc, Nat.mul_comm H 2, Nat.mul_assoc]
    rw [hw]
    generalize c * H = C at *
    generalize H * q = X at *
    exact ⟨by omega, by omega, fun ht => by omega⟩

/-- What a rung stands for, times 2 to the power 140. -/
def valR (r : Nat) : Nat := (r % 4503599627370496 + 4503599627370496) * 2 ^ (r / 4503599627370496 - 935)
theorem val_w {T w : Nat} (h1 : 4503599627370496 ≤ w) (h2 : w ≤ 9007199254740992) (hT : 60 ≤ T) : valR ((T + 875) * 4503599627370496 + w) = w * 2 ^ (T - 59) := by
  unfold valR
  by_cases hw : w = 9007199254740992
  · subst hw
    rw [show ((T + 875) * 4503599627370496 + 9007199254740992) % 4503599627370496 = 0 by omega, show ((T + 875) * 4503599627370496 + 9007199254740992) / 4503599627370496 - 935 = (T - 59) + 1 by omega, Nat.pow_succ]
    generalize 2 ^ (T - 59) = P
    omega
  · rw [show ((T + 875) * 4503599627370496 + w) % 4503599627370496 = w - 4503599627370496 by omega, show ((T + 875) * 4503599627370496 + w) / 4503599627370496 - 935 = T - 59 by omega]
    rw [show w - 4503599627370496 + 4503599627370496 = w by omega]
theorem val_up {T w : Nat} (h1 : 4503599627370496 ≤ w) (h2 : w ≤ 9007199254740992) (hT : 60 ≤ T) : ∃ e, (e = 1 ∨ e = 2) ∧ valR ((T + 875) * 4503599627370496 + w + 1) = (w + e) * 2 ^ (T - 59) := by
  by_cases hw : w = 9007199254740992
  · subst hw
    refine ⟨2, .inr rfl, ?_⟩
    unfold valR
    rw [show ((T + 875) * 4503599627370496 + 9007199254740992 + 1) % 4503599627370496 = 1 by omega, show ((T + 875) * 4503599627370496 + 9007199254740992 + 1) / 4503599627370496 - 935 = (T - 59) + 1 by omega, Nat.pow_succ]
    generalize 2 ^ (T - 59) = P
    omega
  · exact ⟨1, .inl rfl, by rw [Nat.add_assoc, val_w (by omega) (by omega) hT]⟩
theorem val_dn {T w : Nat} (h1 : 4503599627370496 ≤ w) (h2 : w ≤ 9007199254740992) (hT : 61 ≤ T) :
    (valR ((T + 875) * 4503599627370496 + w - 1) = (w - 1) * 2 ^ (T - 59)) ∨ (w = 4503599627370496 ∧ 2 * valR ((T + 875) * 4503599627370496 + w - 1) = (2 * w - 1) * 2 ^ (T - 59)) := by
  by_cases hw : w = 4503599627370496
  · subst hw
    refine .inr ⟨rfl, ?_⟩
    have e := val_w (T := T - 1) (w := 9007199254740991) (by decide) (by decide) (by omega)
    rw [show (T + 875) * 4503599627370496 + 4503599627370496 - 1 = (T - 1 + 875) * 4503599627370496 + 9007199254740991 by omega, e, show T - 59 = (T - 1 - 59) + 1 by omega, Nat.pow_succ]
    generalize 2 ^ (T - 1 - 59) = P
    omega
  · refine .inl ?_
    rw [show (T + 875) * 4503599627370496 + w - 1 = (T + 875) * 4503599627370496 + (w - 1) by omega, val_w (by omega) (by omega) (by omega)]
/-- How far. -/
def dist (v m Z : Nat) : Nat := ((v * m : Nat) - (Z : Int)).natAbs
theorem near_law {N m T q w : Nat} {s : Bool} (hok : MeanOk N m T q s) (hw : w = mW q s) (hm : 0 < m) (hT : 61 ≤ T) (r : Nat) (hr : r = (T + 875) * 4503599627370496 + w) :
    ¬ dist (valR (r + 1)) m (N * 2 ^ 140) < dist (valR r) m (N * 2 ^ 140) ∧ ¬ dist (valR (r - 1)) m (N * 2 ^ 140) < dist (valR r) m (N * 2 ^ 140) ∧
    (¬ dist (valR r) m (N * 2 ^ 140) < dist (valR (r + 1)) m (N * 2 ^ 140) ∨ ¬ dist (valR r) m (N * 2 ^ 140) < dist (valR (r - 1)) m (N * 2 ^ 140) → r % 2 = 0) := by
  have hrg := mW_range s hok.h1 hok.h2
  rw [← hw] at hrg
  have hP : 0 < 2 ^ (T - 60) := Nat.pow_pos (by decide)
  have hH : 0 < m * 2 ^ (T - 60) := Nat.mul_pos hm hP
  have eY : N * 2 ^ 200 = (N * 2 ^ 140) * 2 ^ 60 := by rw [Nat.mul_assoc, ← Nat.pow_add]
  have eD : m * 2 ^ T = (m * 2 ^ (T - 60)) * 2 ^ 60 := by rw [Nat.mul_assoc, ← Nat.pow_add, show T - 60 + 60 = T by omega]
  have hq : q = (N * 2 ^ 140) / (m * 2 ^ (T - 60)) := by rw [hok.hq, eY, eD, Nat.mul_div_mul_right _ _ (by decide)]
  have hs : s = decide ((N * 2 ^ 140) % (m * 2 ^ (T - 60)) ≠ 0) := by
    rw [hok.hs, eY, eD, Nat.mul_mod_mul_right]
    refine decide_eq_decide.2 ⟨fun h h0 => h (by rw [h0, Nat.zero_mul]), fun h h0 => h ?_⟩
    rcases Nat.mul_eq_zero.1 h0 with h1 | h1
    · exact h1
    · exact absurd h1 (by decide)
  obtain ⟨n1, n2, n3⟩ := near_core hH hq hs hw
  have hge : w = 4503599627370496 → 2 * (w * (m * 2 ^ (T - 60))) ≤ N * 2 ^ 140 := by
    intro h
    have h1 := hok.h1
    rw [hq, Nat.le_div_iff_mul_le hH] at h1
    rw [h]
    generalize m * 2 ^ (T - 60) = H at *
    omega
  have e2 : 2 ^ (T - 59) = 2 * 2 ^ (T - 60) := by rw [show T - 59 = (T - 60) + 1 by omega, Nat.pow_succ, Nat.mul_comm]
  have cv : ∀ a : Nat, a * 2 ^ (T - 59) * m = 2 * (a * (m * 2 ^ (T - 60))) := by
    intro a; rw [e2]; ac_rfl
  have v0 := val_w (T := T) hrg.1 hrg.2 (by omega)
  obtain ⟨e, he, v1⟩ := val_up (T := T) hrg.1 hrg.2 (by omega)
  have v2 := val_dn (T := T) hrg.1 hrg.2 hT
  rw [← hr] at v0 v1 v2
  have d0 : valR r * m = 2 * (w * (m * 2 ^ (T - 60))) := by rw [v0, cv]
  have d1 : valR (r + 1) * m = 2 * (w * (m * 2 ^ (T - 60))) + 2 * (e * (m * 2 ^ (T - 60))) := by rw [v1, cv, Nat.add_mul, Nat.mul_add]
  have d2 : valR (r - 1) * m = 2 * (w * (m * 2 ^ (T - 60))) - 2 * (m * 2 ^ (T - 60)) ∨ (w = 4503599627370496 ∧ valR (r - 1) * m = 2 * (w * (m * 2 ^ (T - 60))) - (m * 2 ^ (T - 60))) := by
    rcases v2 with v2 | ⟨hw0, v2⟩
    · left
      rw [v2, cv, Nat.sub_mul, Nat.one_mul, Nat.mul_sub]
    · right
      refine ⟨hw0, ?_⟩
      have : 2 * (valR (r - 1) * m) = 2 * (2 * (w * (m * 2 ^ (T - 60))) - (m * 2 ^ (T - 60))) := by
        rw [← Nat.mul_assoc, v2, cv, Nat.sub_mul, Nat.one_mul, Nat.mul_assoc 2 w]
      exact Nat.eq_of_mul_eq_mul_left (by decide) this
  have hr2 : r % 2 = w % 2 := by omega
  have hwH : m * 2 ^ (T - 60) ≤ w * (m * 2 ^ (T - 60)) := Nat.le_mul_of_pos_left _ (by omega)
  have heH : e * (m * 2 ^ (T - 60)) = m * 2 ^ (T - 60) ∨ e * (m * 2 ^ (T - 60)) = 2 * (m * 2 ^ (T - 60)) := by
    rcases he with rfl | rfl
    · exact .inl (Nat.one_mul _)
    · exact .inr rfl
  unfold dist
  rw [hr2, d0, d1]
  clear v0 v1 v2 d0 d1 hr hr2 cv e2 hq hs eY eD hok hrg
  generalize w * (m * 2 ^ (T - 60)) = C at *
  generalize e * (m * 2 ^ (T - 60)) = G at *
  generalize m * 2 ^ (T - 60) = H at *
  generalize N * 2 ^ 140 = Z at *
  generalize valR (r - 1) * m = B at *
  rcases d2 with d2 | ⟨hw0, d2⟩
  · subst d2
    refine ⟨by omega, by omega, fun h => n3 ?_⟩
    omega
  · subst d2
    have h5 := hge hw0
    refine ⟨by omega, by omega, fun h => n3 ?_⟩
    omega

def wordR (s : Bool) (r : Nat) : Nat := bif s then 9223372036854775808 + r else r
theorem wordR_of {E M r : Nat} (s : Bool) (h : E * 4503599627370496 + M = r) : fbits s E M = wordR s r := by
  unfold wordR; rw [← h]; cases s
  · rw [fbits_pos, cond_false]
  · rw [fbits_neg, cond_true]
theorem rung_ok {r : Nat} (h1 : 935 ≤ r / 4503599627370496) (h2 : r / 4503599627370496 ≤ 1155) : ∃ E M k, FOk E M ∧ E * 4503599627370496 + M = r ∧ E = k + 934 ∧ k ≤ 220 ∧ valR r = M * 2 ^ k :=
  ⟨r / 4503599627370496 - 1, r % 4503599627370496 + 4503599627370496, r / 4503599627370496 - 935, ⟨by omega, by omega, by omega⟩, by omega, by omega, by omega, rfl⟩
theorem dist_eq (s : Bool) (x : Int) (v m : Nat) (hs : s = decide (x < 0)) : (sgnI s ((v * m : Nat) : Int) - x * 2 ^ 140).natAbs = dist v m (x.natAbs * 2 ^ 140) := by
  unfold dist
  have hz : ((x.natAbs * 2 ^ 140 : Nat) : Int) = sgnI s x * 2 ^ 140 := by
    rw [Int.natCast_mul, Int.natCast_pow, hs]
    congr 1
    unfold sgnI
    by_cases h : x < 0
    · rw [decide_eq_true h, cond_true]; omega
    · rw [decide_eq_false h, cond_false]; omega
  rw [hz]
  unfold sgnI
  cases s
  · rfl
  · simp only [cond_true]
    rw [Int.neg_mul]
    generalize x * 2 ^ 140 = X
    omega
theorem val_fit {r m : Nat} (h1 : 935 ≤ r / 4503599627370496) (h2 : r / 4503599627370496 ≤ 1155) (hm2 : m < 9223372036854775808) : valR r * m < 2 ^ 340 := by
  obtain ⟨E, M, k, h, _, _, hk, e⟩ := rung_ok h1 h2
  rw [e]
  have a1 : M * 2 ^ k ≤ 9007199254740992 * 2 ^ 220 := Nat.mul_le_mul (by have := h.hi; omega) (Nat.pow_le_pow_right (by decide) hk)
  have a2 : M * 2 ^ k * m ≤ 9007199254740992 * 2 ^ 220 * 9223372036854775808 := Nat.mul_le_mul a1 (by omega)
  exact Nat.lt_of_le_of_lt a2 (by decide)
theorem dist_fit {v m Z : Nat} (h1 : v * m < 2 ^ 340) (h2 : Z < 2 ^ 340) : ((dist v m Z : Nat) : Int).natAbs < 65536 ^ 24 := by
  refine Nat.lt_trans ?_ (show 2 ^ 340 < 65536 ^ 24 by decide)
  unfold dist
  generalize (2 : Nat) ^ 340 = B at *
  omega
theorem farR {r : Nat} (h1 : 935 ≤ r / 4503599627370496) (h2 : r / 4503599627370496 ≤ 1155) (s : Bool) (x : Int) (hs : s = decide (x < 0)) (hx : in128 x) (m : Nat) (hm : 0 < m) (hm2 : m < 9223372036854775808) :
    FnC Try.prog 40 [.flt .f64 (wordR s r), wideD x, .int .i64 (m : Int)] (· = numD (dist (valR r) m (x.natAbs * 2 ^ 140) : Int)) := by
  obtain ⟨E, M, k, h, hr, hE, hk, e⟩ := rung_ok h1 h2
  have c := farF h s x hx m hm hm2 k hE hk
  rw [wordR_of s hr] at c
  have e2 : ((M * m : Nat) : Int) * 2 ^ k = ((valR r * m : Nat) : Int) := by
    rw [e, Int.natCast_mul, Int.natCast_mul, Int.natCast_mul, Int.natCast_pow, Int.mul_assoc, Int.mul_comm (m : Int), ← Int.mul_assoc]
    rfl
  rw [e2, dist_eq s x (valR r) m hs] at c
  exact c
theorem sub_self {E M : Nat} (h : FOk E M) (s : Bool) : floatBits .sub .f64 (fbits s E M) (fbits s E M) = some 0 := by
  show Ieee.Format.sub Ieee.double (fbits s E M) (fbits s E M) = _
  unfold Ieee.Format.sub
  rw [read_fbits h]
  simp only [Ieee.Datum.opposite, Ieee.Datum.sum, signed_eq]
  have e0 : min ((E : Int) - 1074) ((E : Int) - 1074) = (E : Int) - 1074 := by omega
  rw [e0, Int.sub_self]
  have hz : rungI s (M * 2 ^ (0 : Int).toNat) + rungI (!s) (M * 2 ^ (0 : Int).toNat) = 0 := by
    generalize M * 2 ^ (0 : Int).toNat = V
    cases s <;> simp [rungI] <;> omega
  rw [hz, if_pos rfl, Bool.and_not_self]
  rfl
theorem rk_range {N m : Nat} (h0 : 0 < N) (hN : N ≤ 170141183460469231731687303715884105728) (hm : 0 < m) (hm2 : m < 9223372036854775808) :
    84 ≤ mT N m ∧ 960 * 4503599627370496 ≤ rkM N m ∧ rkM N m ≤ 1150 * 4503599627370496 := by
  have hok := mean_at N m h0 hm hm2
  have hrg := mW_range (mS N m) hok.h1 hok.h2
  have hT1 : 84 ≤ mT N m := by
    rcases Nat.lt_or_ge (mT N m) 84 with hlt | hge
    · exfalso
      have h2 := hok.h2
      rw [hok.hq, Nat.div_lt_iff_lt_mul (Nat.mul_pos hm (Nat.pow_pos (by decide)))] at h2
      have a1 : m * 2 ^ mT N m ≤ 9223372036854775808 * 2 ^ 83 := Nat.mul_le_mul (by omega) (Nat.pow_le_pow_right (by decide) (by omega))
      have a2 : 1 * 2 ^ 200 ≤ N * 2 ^ 200 := Nat.mul_le_mul_right _ h0
      have a3 : 18014398509481984 * (m * 2 ^ mT N m) ≤ 18014398509481984 * (9223372036854775808 * 2 ^ 83) := Nat.mul_le_mul_left _ a1
      have a4 : 18014398509481984 * (9223372036854775808 * 2 ^ 83) ≤ 1 * 2 ^ 200 := by decide
      exact absurd (Nat.lt_of_lt_of_le h2 (Nat.le_trans a3 (Nat.le_trans a4 a2))) (Nat.lt_irrefl _)
    · exact hge
  have hY : N * 2 ^ 200 ≤ 2 ^ 327 := by
    have : N * 2 ^ 200 ≤ 170141183460469231731687303715884105728 * 2 ^ 200 := Nat.mul_le_mul_right _ hN
    exact Nat.le_trans this (by decide)
  have hT2 : mT N m ≤ 274 ∧ (mT N m = 274 → mQ N m = 9007199254740992 ∧ mS N m = false) := by
    have h1 := hok.h1
    have hp : 0 < m * 2 ^ mT N m := Nat.mul_pos hm (Nat.pow_pos (by decide))
    rw [hok.hq, Nat.le_div_iff_mul_le hp] at h1
    have hle : mT N m ≤ 274 := by
      rcases Nat.lt_or_ge 274 (mT N m) with hlt | hge
      · exfalso
        have a1 : 1 * 2 ^ 275 ≤ m * 2 ^ mT N m := Nat.mul_le_mul hm (Nat.pow_le_pow_right (by decide) hlt)
        have a2 : 9007199254740992 * (1 * 2 ^ 275) ≤ 9007199254740992 * (m * 2 ^ mT N m) := Nat.mul_le_mul_left _ a1
        have a3 : 2 ^ 327 < 9007199254740992 * (1 * 2 ^ 275) := by decide
        exact absurd (Nat.lt_of_lt_of_le a3 (Nat.le_trans a2 (Nat.le_trans h1 hY))) (Nat.lt_irrefl _)
      · exact hge
    refine ⟨hle, fun hT => ?_⟩
    rw [hT] at h1 hp
    have a1 : 1 * 2 ^ 274 ≤ m * 2 ^ 274 := Nat.mul_le_mul_right _ hm
    have a2 : 9007199254740992 * (1 * 2 ^ 274) ≤ 9007199254740992 * (m * 2 ^ 274) := Nat.mul_le_mul_left _ a1
    have a3 : (2 : Nat) ^ 327 = 9007199254740992 * (1 * 2 ^ 274) := by decide
    have e : N * 2 ^ 200 = 9007199254740992 * (m * 2 ^ 274) := Nat.le_antisymm (Nat.le_trans hY (by rw [a3]; exact a2)) h1
    constructor
    · rw [hok.hq, hT, e, Nat.mul_div_cancel _ hp]
    · rw [hok.hs, hT, e, Nat.mul_mod_left]; rfl
  refine ⟨hT1, ?_, ?_⟩
  · unfold rkM
    clear hY hT2 hok
    generalize mW (mQ N m) (mS N m) = w at *
    generalize mT N m = T at *
    clear hN h0
    omega
  · by_cases hT : mT N m = 274
    · obtain ⟨e1, e2⟩ := hT2.2 hT
      unfold rkM
      rw [hT, e1, e2]
      decide
    · have h3 := hT2.1
      unfold rkM
      clear hY hT2 hok hN h0
      generalize mW (mQ N m) (mS N m) = w at *
      generalize mT N m = T at *
      omega

theorem ofw_lt {r : Nat} (s : Bool) (h : r < 9223372036854775807) (h0 : 0 < r) : wordR s r < 18446744073709551615 ∧ 0 < wordR s r ∧ wordR s r % 9223372036854775808 = r ∧ wordR s r + 1 = wordR s (r + 1) ∧ wordR s r - 1 = wordR s (r - 1) ∧ wordR s r % 2 = r % 2 := by
  unfold wordR; cases s
  · refine ⟨?_, ?_, ?_, ?_, ?_, ?_⟩ <;> simp only [cond_false] <;> omega
  · refine ⟨?_, ?_, ?_, ?_, ?_, ?_⟩ <;> simp only [cond_true] <;> omega
theorem isz {x : Int} (hx : in128 x) (h : x ≠ 0) : (hiW x == 0 && (loW x == 0 && true)) = false := by
  have e := hi_in hx
  rw [Bool.and_true, Bool.and_eq_false_iff]
  by_cases h1 : hiW x = 0
  · right
    rw [e] at h1
    unfold loW; simp; omega
  · left; simpa using h1
theorem his {x : Int} (hx : in128 x) : decide (hiW x < 0) = decide (x < 0) := by
  rw [hi_in hx]; exact decide_eq_decide.2 (by omega)
theorem lawNearest (x : Int) (hx : in128 x) (n : Int) (hn : i64R n) : FnC Try.prog 13 [wideD x, .int .i64 n] (· = .bool true) := by
  have c0 := meanW x n hx hn
  rcases Int.lt_or_le n 1 with hn1 | hn1
  · rw [show meanD x n = .tup [.flt .f64 0, .int .i64 2] from by unfold meanD; rw [if_pos hn1]] at c0
    have hlt : decide (n < 1) = true := decide_eq_true hn1
    refine FnC.mk Try.func13 rfl rfl (Nat.le_of_ble_eq_true rfl) (blw_wi _ _) (by rintro _ rfl; simp) ?_
    refine joinK.direct ?_
    refine callK.eq known ?_
    refine ⟨fun h => absurd h (by simp), fun _ => join_go ?_⟩
    refine callK.eq c0 ?_
    refine joinK.direct ?_
    refine ⟨fun h => ?_, fun h => absurd (hlt.symm.trans h) (by decide)⟩
    exact fin_eq (.bool _) rfl (bool_eq (by decide))
  have hlt : decide (n < 1) = false := decide_eq_false (by omega)
  obtain ⟨m, rfl⟩ : ∃ m : Nat, n = m := ⟨n.toNat, by omega⟩
  have hm : 0 < m := by omega
  have hm2 : m < 9223372036854775808 := by have := hn.2; omega
  have c1 := meanV x m hx hm hm2
  by_cases hx0 : x = 0
  · subst hx0
    rw [refF_0] at c1
    refine FnC.mk Try.func13 rfl rfl (Nat.le_of_ble_eq_true rfl) (blw_wi _ _) (by rintro _ rfl; simp) ?_
    refine joinK.direct ?_
    refine callK.eq known ?_
    refine ⟨fun h => absurd h (by simp), fun _ => join_go ?_⟩
    refine callK.eq c1 ?_
    refine joinK.direct ?_
    refine ⟨fun h => absurd (hlt.symm.trans h) (by decide), fun _ => join_go ?_⟩
    refine joinK.direct ?_
    refine guardK.spec ?_
    refine ⟨rfl, optK.mk sub_00 ?_⟩
    refine ⟨EqOk.mk (by kernel_rfl), ?_⟩
    refine ⟨fun h => absurd h (by decide +kernel), fun _ => join_go ?_⟩
    refine joinK.direct ?_
    refine ⟨fun _ => ?_, fun h => absurd h (by decide +kernel)⟩
    exact fin_eq (.bool _) rfl rfl
  obtain ⟨E, M, hf, he, hr⟩ := ref_at x m hx hm hm2 hx0
  have hN0 : 0 < x.natAbs := by omega
  have hNm : x.natAbs ≤ 170141183460469231731687303715884105728 := by unfold in128 at hx; omega
  obtain ⟨hT, hr1, hr2⟩ := rk_range hN0 hNm hm hm2
  have hok := mean_at x.natAbs m hN0 hm hm2
  have hnear := near_law hok rfl hm (by omega) (rkM x.natAbs m) rfl
  obtain ⟨s, hs⟩ : ∃ s, s = decide (x < 0) := ⟨_, rfl⟩
  rw [← hs] at he
  have hsub := sub_self hf s
  have ho0 := order_f0 hf s
  have habs := absF (fbits s E M) (fbits_abs hf s).2
  rw [(fbits_abs hf s).1, fbits_pos, hr] at habs
  have hoA := order_fbits hf (⟨by decide, by decide, by decide⟩ : FOk 958 4503599627370496) false false hr.symm rfl
  have hoB := order_fbits hf (⟨by decide, by decide, by decide⟩ : FOk 1149 4503599627370496) false false hr.symm rfl
  rw [fbits_pos, hr] at hoA hoB
  rw [wordR_of s hr] at he hsub ho0 habs
  have hZ : x.natAbs * 2 ^ 140 < 2 ^ 340 := by
    have : x.natAbs * 2 ^ 140 ≤ 170141183460469231731687303715884105728 * 2 ^ 140 := Nat.mul_le_mul_right _ hNm
    exact Nat.lt_of_le_of_lt this (by decide)
  clear hf hr E M hok hT
  generalize rkM x.natAbs m = r at *
  have q0 : 935 ≤ r / 4503599627370496 ∧ r / 4503599627370496 ≤ 1155 := by clear hnear; omega
  have q1 : 935 ≤ (r + 1) / 4503599627370496 ∧ (r + 1) / 4503599627370496 ≤ 1155 := by clear hnear; omega
  have q2 : 935 ≤ (r - 1) / 4503599627370496 ∧ (r - 1) / 4503599627370496 ≤ 1155 := by clear hnear; omega
  obtain ⟨w1, w2, w3, w4, w5, w6⟩ := ofw_lt (r := r) s (by clear hnear; omega) (by clear hnear; omega)
  have f0 := farR q0.1 q0.2 s x hs hx m hm hm2
  have f1 := farR q1.1 q1.2 s x hs hx m hm hm2
  have f2 := farR q2.1 q2.2 s x hs hx m hm hm2
  have b0 := dist_fit (val_fit q0.1 q0.2 hm2) hZ
  have b1 := dist_fit (val_fit q1.1 q1.2 hm2) hZ
  have b2 := dist_fit (val_fit q2.1 q2.2 hm2) hZ
  rw [← w4] at f1
  rw [← w5] at f2
  have hR0 : decide (hiW x < 0) = s := by rw [his hx, hs]
  have hiz := isz hx hx0
  generalize wordR s r = b at *
  have e1 : (IntKind.u64.wrap ((b : Int) + 1)).toNat = b + 1 := by rw [IntKind.wrap_u64]; clear hnear; omega
  have e2 : (IntKind.u64.wrap ((b : Int) - 1)).toNat = b - 1 := by rw [IntKind.wrap_u64]; clear hnear; omega
  rw [← e1] at f1
  rw [← e2] at f2
  have l1 := belowN _ _ b1 b0
  have l2 := belowN _ _ b2 b0
  have l3 := belowN _ _ b0 b1
  have l4 := belowN _ _ b0 b2
  have hb2 : ((b : Int).tmod 2 == 0) = decide (r % 2 = 0) := by
    rw [Int.tmod_eq_emod_of_nonneg (by omega), Bool.eq_iff_iff]
    simp
    clear hnear
    omega
  generalize dist (valR r) m (x.natAbs * 2 ^ 140) = d at *
  generalize dist (valR (r + 1)) m (x.natAbs * 2 ^ 140) = u at *
  generalize dist (valR (r - 1)) m (x.natAbs * 2 ^ 140) = v at *
  obtain ⟨k1, k2, k3⟩ := hnear
  have g1 : decide ((u : Int) < (d : Int)) = false := decide_eq_false (by omega)
  have g2 : decide ((v : Int) < (d : Int)) = false := decide_eq_false (by omega)
  have hA : (Ieee.double.order r (fbits false 958 4503599627370496) == some Ordering.lt) = false := by
    rw [hoA, cmp_is]
    unfold rungI; simp only [cond_false]
    rw [if_neg (by clear hoA hoB; omega)]
    split <;> rfl
  have hB : (Ieee.double.order r (fbits false 1149 4503599627370496) == some Ordering.gt) = false := by
    rw [hoB, cmp_is]
    unfold rungI; simp only [cond_false]
    by_cases h : (r : Int) < ((1149 * 4503599627370496 + 4503599627370496 : Nat) : Int)
    · rw [if_pos h]; rfl
    · rw [if_neg h, if_pos (by clear hoA hoB hA; omega)]; rfl
  have hA2 : (FloatKind.f64.format.order r 4318952042648305664 == some Ordering.lt) = false := hA
  have hB2 : (FloatKind.f64.format.order r 5179139571476070400 == some Ordering.gt) = false := hB
  have hz1 : (FloatKind.f64.format.order b 0 == some Ordering.eq) = false := by
    rw [show FloatKind.f64.format.order b 0 = some (bif s then .lt else .gt) from ho0]; cases s <;> rfl
  have hz2 : (FloatKind.f64.format.order b 0 == some Ordering.lt) = s := by
    rw [show FloatKind.f64.format.order b 0 = some (bif s then .lt else .gt) from ho0]; cases s <;> rfl
  rw [he] at c1
  refine FnC.mk Try.func13 rfl rfl (Nat.le_of_ble_eq_true rfl) (blw_wi _ _) (by rintro _ rfl; simp) ?_
  refine joinK.direct ?_
  refine callK.eq known ?_
  refine ⟨fun h => absurd h (by simp), fun _ => join_go ?_⟩
  refine callK.eq c1 ?_
  refine joinK.direct ?_
  refine ⟨fun h => absurd (hlt.symm.trans h) (by decide), fun _ => join_go ?_⟩
  refine joinK.direct ?_
  refine guardK.spec ?_
  refine ⟨rfl, optK.mk hsub ?_⟩
  refine ⟨EqOk.mk (by kernel_rfl), ?_⟩
  refine ⟨fun h => ?_, fun _ => join_go ?_⟩
  · have h : (bif (bif (bif ((0 : Int) != 0) then true else (FloatKind.f64.format.order 0 0 != some Ordering.eq)) then true else !((FloatKind.f64.format.order b 0 == some Ordering.eq) == (hiW x == 0 && (loW x == 0 && true)))) then true else !((FloatKind.f64.format.order b 0 == some Ordering.lt) == decide (hiW x < 0))) = true := h
    rw [hz1, hz2, hR0, hiz, show (FloatKind.f64.format.order 0 0 != some Ordering.eq) = false from by decide +kernel] at h
    cases s <;> cases h
  refine joinK.direct ?_
  refine ⟨fun h => absurd (hz1.symm.trans h) (by decide), fun _ => join_go ?_⟩
  refine callK.eq habs ?_
  refine joinK.direct ?_
  refine guardK.spec ?_
  refine ⟨fun h => ?_, fun _ => join_go ?_⟩
  · have h : (bif (FloatKind.f64.format.order r 4318952042648305664 == some Ordering.lt) then true else (FloatKind.f64.format.order r 5179139571476070400 == some Ordering.gt)) = true := h
    rw [hA2, hB2] at h
    cases h
  refine callK.eq (f64bits b) ?_
  refine callK.eq f0 ?_
  refine drawK.mk (by kernel_rfl) ?_
  refine callE.mk (f64from _) ?_
  refine callE.mk f1 ?_
  refine drawK.mk (by kernel_rfl) ?_
  refine callE.mk (f64from _) ?_
  refine callE.mk f2 ?_
  refine joinK.direct ?_
  refine guardK.spec ?_
  refine callK.eq l1 ?_
  refine callE.mk l2 ?_
  refine ⟨fun h => ?_, fun _ => join_go ?_⟩
  · have h : (bif decide ((u : Int) < (d : Int)) then true else decide ((v : Int) < (d : Int))) = true := h
    rw [g1, g2] at h
    cases h
  refine guardK.spec ?_
  refine callK.eq l3 ?_
  refine callE.mk l4 ?_
  refine guardK.spec ?_
  refine ⟨rfl, by decide, ?_⟩
  refine fin_eq (.bool _) rfl (bool_eq ?_)
  show (bif !(bif !(decide ((d : Int) < (u : Int))) then true else !(decide ((d : Int) < (v : Int)))) then true else ((b : Int).tmod 2 == 0)) = true
  rw [hb2]
  by_cases h1 : (d : Int) < (u : Int)
  · by_cases h2 : (d : Int) < (v : Int)
    · rw [decide_eq_true h1, decide_eq_true h2]; rfl
    · rw [decide_eq_true (k3 (.inr (by omega)))]; cases decide ((d : Int) < (u : Int)) <;> cases decide ((d : Int) < (v : Int)) <;> rfl
  · rw [decide_eq_true (k3 (.inl (by omega)))]; cases decide ((d : Int) < (u : Int)) <;> cases decide ((d : Int) < (v : Int)) <;> rfl
end Go.Proofs.Ytckcagmlippneaa
