/- math/bits: Div64: the walk. -/
import Derived.Test.YtckcagmlippneaaWD
set_option linter.unusedSimpArgs false
set_option linter.unusedVariables false
namespace Go.Proofs.Ytckcagmlippneaa
open Go Go.Pv Go.RowKit
set_option maxRecDepth 10000
set_option exponentiation.threshold 1000

theorem div_at (u w Y : Nat) (h : Y < 18446744073709551616) (hY : 0 < Y) : IntKind.u64.wrap (IntKind.u64.wrap (IntKind.u64.wrap ((u : Int) * 4294967296) + (w : Int)) - IntKind.u64.wrap (((u * 4294967296 + w) / Y : Nat) * (Y : Int))) = (((u * 4294967296 + w) % Y : Nat) : Int) := by
  have h1 := Nat.div_add_mod (u * 4294967296 + w) Y
  have h2 := Nat.mod_lt (u * 4294967296 + w) hY
  generalize (u * 4294967296 + w) / Y = q at *
  generalize (u * 4294967296 + w) % Y = r at *
  rw [show (q : Int) * (Y : Int) = ((Y * q : Nat) : Int) from by rw [Nat.mul_comm]; simp]
  generalize Y * q = p at *
  simp only [IntKind.wrap_u64]
  omega
theorem quo_at (v n : Nat) (hv : v < 18446744073709551616) : IntKind.u64.wrap ((v : Int).tdiv (n : Int)) = ((v / n : Nat) : Int) := by
  have := Nat.div_le_self v n
  rw [show (v : Int).tdiv (n : Int) = ((v / n : Nat) : Int) from rfl, IntKind.wrap_u64]
  generalize v / n = q at *
  omega
theorem rem_at (v n : Nat) (hv : v < 18446744073709551616) : IntKind.u64.wrap ((v : Int) - IntKind.u64.wrap (IntKind.u64.wrap ((v : Int).tdiv (n : Int)) * (n : Int))) = ((v % n : Nat) : Int) := by
  rw [quo_at v n hv]
  have := Nat.div_add_mod v n
  generalize v / n = q at *
  rw [show (q : Int) * (n : Int) = ((n * q : Nat) : Int) from by rw [Nat.mul_comm]; simp]
  generalize n * q = p at *
  generalize v % n = r at *
  simp only [IntKind.wrap_u64]
  omega

theorem join_low (u w : Nat) : (u * 4294967296 + w / 4294967296) * 4294967296 + w % 4294967296 = u * 18446744073709551616 + w := by omega
theorem join_dig (q1 q0 : Nat) (h1 : q1 < 4294967296) (h0 : q0 < 4294967296) : IntKind.u64.wrap (IntKind.u64.wrap ((q1 : Int) * 4294967296) + (q0 : Int)) = ((q1 * 4294967296 + q0 : Nat) : Int) := by
  simp only [IntKind.wrap_u64]; omega
set_option maxHeartbeats 4000000 in
theorem div64 (hi lo y : Nat) (h1 : hi < y) (h2 : y < 18446744073709551616) (h3 : lo < 18446744073709551616) :
    FnC Try.prog 55 [.int .u64 hi, .int .u64 lo, .int .u64 y] (· = .tup [.int .u64 ((hi * 18446744073709551616 + lo) / y : Nat), .int .u64 ((hi * 18446744073709551616 + lo) % y : Nat)]) := by
  refine FnC.mk Try.func55 rfl rfl (Nat.le_of_ble_eq_true rfl) (by simp) (by rintro _ rfl; simp) ?_
  refine joinK.direct ⟨fun h => ?_, fun h => join_go ?_⟩
  · have h : ((y : Int) == 0) = true := h
    have := beq_iff_eq.1 h; omega
  clear h
  refine joinK.direct ⟨fun h => ?_, fun h => join_go ?_⟩
  · have h : decide ((y : Int) ≤ (hi : Int)) = true := h
    have := of_decide_eq_true h; omega
  clear h
  refine joinK.direct ⟨fun h => ?_, fun h => join_go ?_⟩
  · have h : ((hi : Int) == 0) = true := h
    have h := beq_iff_eq.1 h
    obtain rfl : hi = 0 := by omega
    refine drawK.mk (by kernel_rfl) ?_
    refine ⟨rfl, by omega, rfl, by omega, ?_⟩
    refine fin_eq (.tup [.int _ _, .int _ _]) rfl (int2 ?_ ?_)
    · have := Nat.div_le_self lo y
      rw [show (lo : Int).tdiv (y : Int) = ((lo / y : Nat) : Int) from rfl, Nat.zero_mul, Nat.zero_add, IntKind.wrap_u64]
      generalize lo / y = q at *
      omega
    · rw [Nat.zero_mul, Nat.zero_add]; rfl
  have h0 : 0 < hi := by
    have h : ((hi : Int) == 0) = false := h
    have := beq_eq_false_iff_ne.1 h; omega
  clear h
  have c := lz64 y h2
  have hb := bitLen_spec y
  have hb64 := bitLen_le64 y h2
  have hbp : 1 ≤ bitLen y := by
    rcases Nat.eq_zero_or_pos (bitLen y) with e | e
    · rw [e] at hb; have := hb.1; omega
    · exact e
  obtain ⟨s, hs⟩ : ∃ s, s = 64 - bitLen y := ⟨_, rfl⟩
  rw [← hs] at c
  have hs64 : s ≤ 64 := by omega
  have hsp : 0 < 2 ^ s := Nat.pow_pos (by decide)
  obtain ⟨Y, hY⟩ : ∃ Y, Y = y * 2 ^ s := ⟨_, rfl⟩
  have hY1 : Y < 18446744073709551616 := by
    rw [hY, show (18446744073709551616 : Nat) = 2 ^ (bitLen y) * 2 ^ s from by rw [← Nat.pow_add, show bitLen y + s = 64 from by omega]]
    exact Nat.mul_lt_mul_of_pos_right hb.1 hsp
  have hY2 : 9223372036854775808 ≤ Y := by
    rw [hY, show (9223372036854775808 : Nat) = 2 ^ (bitLen y - 1) * 2 ^ s from by rw [← Nat.pow_add, show bitLen y - 1 + s = 63 from by omega]]
    exact Nat.mul_le_mul_right _ (hb.2 (by omega))
  have hhi : hi * 2 ^ s < Y := by rw [hY]; exact Nat.mul_lt_mul_of_pos_right h1 hsp
  obtain ⟨u, hu⟩ : ∃ u, u = hi * 2 ^ s + lo / 2 ^ (64 - s) := ⟨_, rfl⟩
  obtain ⟨w, hw⟩ : ∃ w, w = lo * 2 ^ s % 18446744073709551616 := ⟨_, rfl⟩
  have hN := norm_num hi lo s hs64
  rw [← hu, ← hw] at hN
  have hlow : lo / 2 ^ (64 - s) < 2 ^ s := by
    rw [Nat.div_lt_iff_lt_mul (Nat.pow_pos (by decide)), ← Nat.pow_add, show s + (64 - s) = 64 from by omega]; exact h3
  have huY : u < Y := by
    have : (hi + 1) * 2 ^ s ≤ y * 2 ^ s := Nat.mul_le_mul_right _ h1
    rw [Nat.add_mul, Nat.one_mul] at this
    omega
  have hww : w < 18446744073709551616 := by rw [hw]; exact Nat.mod_lt _ (by decide)
  have hY0 : 0 < Y := by omega
  have dok : ∀ v x, v < Y → x < 4294967296 → DigOk Y (Y / 4294967296) (Y % 4294967296) v x := fun v x hv hx => ⟨by omega, by omega, by omega, by omega, hv, hx⟩
  have tst : ∀ v x q r, DigOk Y (Y / 4294967296) (Y % 4294967296) v x → r + q * (Y / 4294967296) = v → r < 4294967296 →
      (bif decide ((q : Int) ≥ 4294967296) then true else decide (IntKind.u64.wrap ((q : Int) * (Y % 4294967296 : Nat)) > IntKind.u64.wrap (IntKind.u64.wrap (4294967296 * (r : Int)) + (x : Int)))) = decide (4294967296 ≤ q ∨ 4294967296 * r + x < q * (Y % 4294967296)) := by
    intro v x q r hd hr hr2
    by_cases hq : 4294967296 ≤ q
    · rw [decide_eq_true (show (q : Int) ≥ 4294967296 from by omega), decide_eq_true (Or.inl hq)]; rfl
    · rw [decide_eq_false (show ¬ (q : Int) ≥ 4294967296 from by omega)]
      have hm : q * (Y % 4294967296) ≤ 4294967295 * 4294967295 := Nat.mul_le_mul (by omega) (by omega)
      rw [show (q : Int) * (Y % 4294967296 : Nat) = ((q * (Y % 4294967296) : Nat) : Int) from by simp]
      have := hd.hw
      generalize q * (Y % 4294967296) = p at *
      simp only [IntKind.wrap_u64, cond_false]
      rw [decide_eq_decide]
      omega
  have hd1 := dok u (w / 4294967296) huY (by omega)
  obtain ⟨q1, r1, eq1, hq1, hmod, htwo, hdat⟩ : ∃ q1 r1, q1 = (u * 4294967296 + w / 4294967296) / Y ∧ q1 < 4294967296 ∧ r1 < Y ∧
      (q1 * 4294967296 + (r1 * 4294967296 + w % 4294967296) / Y = ((u * 4294967296 + w / 4294967296) * 4294967296 + w % 4294967296) / Y ∧ (r1 * 4294967296 + w % 4294967296) % Y = ((u * 4294967296 + w / 4294967296) * 4294967296 + w % 4294967296) % Y) ∧
      IntKind.u64.wrap (IntKind.u64.wrap (IntKind.u64.wrap ((u : Int) * 4294967296) + ((w / 4294967296 : Nat) : Int)) - IntKind.u64.wrap ((q1 : Int) * (Y : Int))) = (r1 : Int) :=
    ⟨(u * 4294967296 + w / 4294967296) / Y, (u * 4294967296 + w / 4294967296) % Y, rfl, dig_lt hd1, Nat.mod_lt _ hY0, two_digs hY0, div_at u (w / 4294967296) Y hY1 hY0⟩
  have hd2 := dok r1 (w % 4294967296) hmod (Nat.mod_lt _ (by decide))
  have hNN := (join_low u w).trans hN
  have hQ : q1 * 4294967296 + (r1 * 4294967296 + w % 4294967296) / Y = (hi * 18446744073709551616 + lo) / y := htwo.1.trans (by rw [hNN, hY]; exact Nat.mul_div_mul_right _ _ hsp)
  have hR : (r1 * 4294967296 + w % 4294967296) % Y = (hi * 18446744073709551616 + lo) % y * 2 ^ s := htwo.2.trans (by rw [hNN, hY]; exact Nat.mul_mod_mul_right _ _ _)
  refine callK.eq c ?_
  have eY : IntKind.u64.wrap ((y : Int) * 2 ^ min (IntKind.u64.wrap (s : Int)).toNat IntKind.u64.bits) = (Y : Int) := by rw [shl_v y s hs64, ← hY, Nat.mod_eq_of_lt hY1]
  have eu : IntKind.u64.wrap ((BitVec.ofInt IntKind.u64.bits (IntKind.u64.wrap ((hi : Int) * 2 ^ min (IntKind.u64.wrap (s : Int)).toNat IntKind.u64.bits)) ||| BitVec.ofInt IntKind.u64.bits ((lo : Int).fdiv (2 ^ min (IntKind.u64.wrap (64 - IntKind.u64.wrap (s : Int))).toNat IntKind.u64.bits))).toNat : Int) = (u : Int) := by
    rw [shl_v hi s hs64, Nat.mod_eq_of_lt (by omega), show IntKind.u64.wrap (64 - IntKind.u64.wrap (s : Int)) = IntKind.u64.wrap ((64 - s : Nat) : Int) from by rw [IntKind.wrap_u64, IntKind.wrap_u64, IntKind.wrap_u64]; omega,
      shr_v lo (64 - s) (by omega), or_add hi _ s (by omega) hlow hs64, hu]
  have ew : IntKind.u64.wrap ((lo : Int) * 2 ^ min (IntKind.u64.wrap (s : Int)).toNat IntKind.u64.bits) = (w : Int) := by rw [shl_v lo s hs64, ← hw]
  have e1 : ∀ (x : Nat), (x : Int).fdiv (2 ^ min (Int.toNat 32) IntKind.u64.bits) = ((x / 4294967296 : Nat) : Int) := fun x => fdiv_lit x 32 (by decide)
  have e2 : ∀ (x : Nat), x < 18446744073709551616 → bits .and .u64 (x : Int) 4294967295 = ((x % 4294967296 : Nat) : Int) := fun x hx => and_low32 x (by omega) (by omega)
  have s0 : 0 ≤ IntKind.u64.wrap (s : Int) := (wrap_u64_nn _).1
  refine ⟨s0, by decide, s0, (wrap_u64_nn _).1, s0, by decide, rfl, by rw [eY, e1]; omega, ?_⟩
  refine joinK.use [2, 8, 9, 10, 11, 13, 14, 15] (fun _ : Unit => [.int .u64 Y, .int .u64 (IntKind.u64.wrap s), .int .u64 (Y / 4294967296 : Nat), .int .u64 (Y % 4294967296 : Nat), .int .u64 u, .int .u64 (w / 4294967296 : Nat), .int .u64 (w % 4294967296 : Nat), .int .u64 q1]) (fun _ => []) (fun _ => True) ?_ ?_
  · refine loopK.use [2, 8, 9, 10, 11, 13, 14, 15, 16] (fun p : Nat × Nat => [.int .u64 Y, .int .u64 (IntKind.u64.wrap s), .int .u64 (Y / 4294967296 : Nat), .int .u64 (Y % 4294967296 : Nat), .int .u64 u, .int .u64 (w / 4294967296 : Nat), .int .u64 (w % 4294967296 : Nat), .int .u64 p.1, .int .u64 p.2]) (fun _ => [])
      (fun p => p.2 + p.1 * (Y / 4294967296) = u ∧ (u * 4294967296 + w / 4294967296) / Y ≤ p.1 ∧ p.2 < 4294967296) (fun p => p.1) (u / (Y / 4294967296), u % (Y / 4294967296)) ?_ ⟨int_eq eY, rfl, int_eq (by rw [eY, e1]), int_eq ?_, int_eq eu, int_eq (by rw [ew, e1]), int_eq ?_, int_eq ?_, int_eq ?_, trivial⟩ (.inl rfl) ?_
    · refine ⟨by rw [Nat.add_comm, Nat.mul_comm]; exact Nat.div_add_mod _ _, dig_start hd1, ?_⟩
      have := Nat.mod_lt u (show 0 < Y / 4294967296 by omega)
      simp only; omega
    · rw [eY]; exact e2 Y hY1
    · rw [ew]; exact e2 w hww
    · rw [eY, e1, eu]; exact quo_at u _ (by omega)
    · rw [eY, e1, eu]; exact rem_at u _ (by omega)
    rintro ⟨q, r⟩ ⟨g1, g2, g3⟩
    simp only at g1 g2 g3
    have ht := tst u (w / 4294967296) q r hd1 g1 g3
    refine joinK.direct ?_
    refine guardK.spec ?_
    refine ⟨fun h => join_go ?_, fun h => ?_⟩
    · have h : (bif decide ((q : Int) ≥ 4294967296) then true else decide (IntKind.u64.wrap ((q : Int) * (Y % 4294967296 : Nat)) > IntKind.u64.wrap (IntKind.u64.wrap (4294967296 * (r : Int)) + (w / 4294967296 : Nat)))) = true := h
      rw [ht] at h
      have h := of_decide_eq_true h
      have hdn := dig_down hd1 g1 h
      have hq0 : 0 < q := Nat.lt_of_le_of_lt (Nat.zero_le _) hdn
      obtain ⟨p, rfl⟩ : ∃ p, q = p + 1 := ⟨q - 1, by omega⟩
      have hdn := Nat.le_of_lt_succ hdn
      have hqu := Nat.le_mul_of_pos_right (p + 1) (show 0 < Y / 4294967296 by omega)
      have g1' : r + Y / 4294967296 + p * (Y / 4294967296) = u := by rw [Nat.succ_mul] at g1; omega
      have ep : IntKind.u64.wrap (((p + 1 : Nat) : Int) - 1) = (p : Int) := by rw [IntKind.wrap_u64]; omega
      have er : IntKind.u64.wrap ((r : Int) + (Y / 4294967296 : Nat)) = ((r + Y / 4294967296 : Nat) : Int) := by rw [IntKind.wrap_u64]; omega
      refine ⟨fun h5 => ?_, fun h5 => ?_⟩
      · have h5 : decide (IntKind.u64.wrap ((r : Int) + (Y / 4294967296 : Nat)) ≥ 4294967296) = true := h5
        rw [er] at h5
        have h5 := of_decide_eq_true h5
        have e := (dig_break hd1 g1' hdn (by omega)).trans eq1.symm
        refine join_at () trivial ⟨rfl, rfl, rfl, rfl, rfl, rfl, rfl, int_eq ?_, trivial⟩ (.inl rfl)
        exact ep.trans (congrArg Int.ofNat e)
      · have h5 : decide (IntKind.u64.wrap ((r : Int) + (Y / 4294967296 : Nat)) ≥ 4294967296) = false := h5
        rw [er] at h5
        have h5 := of_decide_eq_false h5
        exact loop_next (p, r + Y / 4294967296) ⟨g1', hdn, by simp only; omega⟩ (Nat.lt_succ_self p) ⟨rfl, rfl, rfl, rfl, rfl, rfl, rfl, int_eq ep, int_eq er, trivial⟩ (.inl rfl)
    · have h : (bif decide ((q : Int) ≥ 4294967296) then true else decide (IntKind.u64.wrap ((q : Int) * (Y % 4294967296 : Nat)) > IntKind.u64.wrap (IntKind.u64.wrap (4294967296 * (r : Int)) + (w / 4294967296 : Nat)))) = false := h
      rw [ht] at h
      have h := of_decide_eq_false h
      refine join_at () trivial ⟨rfl, rfl, rfl, rfl, rfl, rfl, rfl, int_eq ?_, trivial⟩ (.inl rfl)
      have e := (dig_end hd1 g1 g2 (by omega)).trans eq1.symm
      exact congrArg Int.ofNat e
  rintro ⟨⟩ -
  refine ⟨rfl, by omega, ?_⟩
  refine joinK.use [2, 8, 14, 15, 17, 18] (fun _ : Unit => [.int .u64 Y, .int .u64 (IntKind.u64.wrap s), .int .u64 (w % 4294967296 : Nat), .int .u64 q1, .int .u64 r1, .int .u64 ((r1 * 4294967296 + w % 4294967296) / Y : Nat)]) (fun _ => []) (fun _ => True) ?_ ?_
  · refine loopK.use [2, 8, 9, 10, 14, 15, 17, 18, 16] (fun p : Nat × Nat => [.int .u64 Y, .int .u64 (IntKind.u64.wrap s), .int .u64 (Y / 4294967296 : Nat), .int .u64 (Y % 4294967296 : Nat), .int .u64 (w % 4294967296 : Nat), .int .u64 q1, .int .u64 r1, .int .u64 p.1, .int .u64 p.2]) (fun _ => [])
      (fun p => p.2 + p.1 * (Y / 4294967296) = r1 ∧ (r1 * 4294967296 + w % 4294967296) / Y ≤ p.1 ∧ p.2 < 4294967296) (fun p => p.1) (r1 / (Y / 4294967296), r1 % (Y / 4294967296)) ?_ ⟨rfl, rfl, rfl, rfl, rfl, rfl, int_eq hdat, int_eq ?_, int_eq ?_, trivial⟩ (.inl rfl) ?_
    · refine ⟨by rw [Nat.add_comm, Nat.mul_comm]; exact Nat.div_add_mod _ _, dig_start hd2, ?_⟩
      have := Nat.mod_lt r1 (show 0 < Y / 4294967296 by omega)
      simp only; omega
    · rw [hdat]; exact quo_at r1 _ (by omega)
    · rw [hdat]; exact rem_at r1 _ (by omega)
    rintro ⟨q, r⟩ ⟨g1, g2, g3⟩
    simp only at g1 g2 g3
    have ht := tst r1 (w % 4294967296) q r hd2 g1 g3
    refine joinK.direct ?_
    refine guardK.spec ?_
    refine ⟨fun h => join_go ?_, fun h => ?_⟩
    · have h : (bif decide ((q : Int) ≥ 4294967296) then true else decide (IntKind.u64.wrap ((q : Int) * (Y % 4294967296 : Nat)) > IntKind.u64.wrap (IntKind.u64.wrap (4294967296 * (r : Int)) + (w % 4294967296 : Nat)))) = true := h
      rw [ht] at h
      have h := of_decide_eq_true h
      have hdn := dig_down hd2 g1 h
      have hq0 : 0 < q := Nat.lt_of_le_of_lt (Nat.zero_le _) hdn
      obtain ⟨p, rfl⟩ : ∃ p, q = p + 1 := ⟨q - 1, by omega⟩
      have hdn := Nat.le_of_lt_succ hdn
      have hqu := Nat.le_mul_of_pos_right (p + 1) (show 0 < Y / 4294967296 by omega)
      have g1' : r + Y / 4294967296 + p * (Y / 4294967296) = r1 := by rw [Nat.succ_mul] at g1; omega
      have ep : IntKind.u64.wrap (((p + 1 : Nat) : Int) - 1) = (p : Int) := by rw [IntKind.wrap_u64]; omega
      have er : IntKind.u64.wrap ((r : Int) + (Y / 4294967296 : Nat)) = ((r + Y / 4294967296 : Nat) : Int) := by rw [IntKind.wrap_u64]; omega
      refine ⟨fun h5 => ?_, fun h5 => ?_⟩
      · have h5 : decide (IntKind.u64.wrap ((r : Int) + (Y / 4294967296 : Nat)) ≥ 4294967296) = true := h5
        rw [er] at h5
        have h5 := of_decide_eq_true h5
        have e := dig_break hd2 g1' hdn (by omega)
        refine join_at () trivial ⟨rfl, rfl, rfl, rfl, rfl, int_eq ?_, trivial⟩ (.inl rfl)
        exact ep.trans (congrArg Int.ofNat e)
      · have h5 : decide (IntKind.u64.wrap ((r : Int) + (Y / 4294967296 : Nat)) ≥ 4294967296) = false := h5
        rw [er] at h5
        have h5 := of_decide_eq_false h5
        exact loop_next (p, r + Y / 4294967296) ⟨g1', hdn, by simp only; omega⟩ (Nat.lt_succ_self p) ⟨rfl, rfl, rfl, rfl, rfl, rfl, rfl, int_eq ep, int_eq er, trivial⟩ (.inl rfl)
    · have h : (bif decide ((q : Int) ≥ 4294967296) then true else decide (IntKind.u64.wrap ((q : Int) * (Y % 4294967296 : Nat)) > IntKind.u64.wrap (IntKind.u64.wrap (4294967296 * (r : Int)) + (w % 4294967296 : Nat)))) = false := h
      rw [ht] at h
      have h := of_decide_eq_false h
      refine join_at () trivial ⟨rfl, rfl, rfl, rfl, rfl, int_eq ?_, trivial⟩ (.inl rfl)
      have e := dig_end hd2 g1 g2 (by omega)
      exact congrArg Int.ofNat e
  rintro ⟨⟩ -
  refine ⟨s0, ?_⟩
  have hq0 := dig_lt hd2
  have hdat2 := div_at r1 (w % 4294967296) Y hY1 hY0
  refine fin_eq (.tup [.int _ _, .int _ _]) rfl (int2 ?_ ?_)
  · refine Eq.trans ?_ (congrArg Int.ofNat hQ)
    generalize (r1 * 4294967296 + w % 4294967296) / Y = q0 at hq0
    exact join_dig q1 q0 hq1 hq0
  · rw [hdat2, shr_v _ s hs64, hR, Nat.mul_div_cancel _ hsp]
end Go.Proofs.Ytckcagmlippneaa
