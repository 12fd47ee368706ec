/- WideMeanGoes: the law's walk. -/
import Derived.Test.YtckcagmlippneaaWG1
namespace Go.Proofs.Ytckcagmlippneaa
open Go Go.Pv Go.RowKit
set_option linter.unusedSimpArgs false
set_option linter.unusedVariables false
set_option maxRecDepth 10000
set_option exponentiation.threshold 2000

theorem meanV (x : Int) (m : Nat) (hx : in128 x) (hm : 0 < m) (hm2 : m < 9223372036854775808) : FnC Try.prog 35 [wideD x, .int .i64 (m : Int)] (· = .tup [.flt .f64 (refF x m), .int .i64 0]) := by
  have c := meanW x m hx (by unfold i64R; omega)
  have e : meanD x m = .tup [.flt .f64 (refF x m), .int .i64 0] := by
    unfold meanD refF; rw [if_neg (by omega)]; split
    · rfl
    · rw [Int.toNat_natCast]
  rwa [e] at c
theorem wrap_turn (a : Int) (ha : in128 a) : wideD (0 - a) = wideD (if a = -170141183460469231731687303715884105728 then a else -a) := by
  by_cases h : a = -170141183460469231731687303715884105728
  · rw [if_pos h]; subst h; unfold wideD hiW loW; rfl
  · rw [if_neg h, Int.zero_sub]
theorem lawMeanGoes (a b : Int) (ha : in128 a) (hb : in128 b) (n : Int) (hn : i64R n) (i : Int) (hi : i64R i) : FnC Try.prog 14 [wideD a, wideD b, .int .i64 n, .int .i64 i] (· = .bool true) := by
  have hblw : ∀ d ∈ [wideD a, wideD b, .int .i64 n, .int .i64 i], Blw 0 d := by
    intro d hd
    simp at hd
    rcases hd with rfl | rfl | rfl | rfl
    · exact blw_wideD _
    · exact blw_wideD _
    · simp
    · simp
  rcases Int.lt_or_le n 1 with hn1 | hn1
  · have hlt : decide (n < 1) = true := decide_eq_true hn1
    refine FnC.mk Try.func14 rfl rfl (Nat.le_of_ble_eq_true rfl) hblw (by rintro _ rfl; simp) ?_
    refine joinK.direct ?_
    refine callK.eq known ?_
    refine ⟨fun h => absurd h (by simp), fun _ => join_go ?_⟩
    refine joinK.direct ?_
    refine ⟨fun h => ?_, fun h => absurd (hlt.symm.trans h) (by decide)⟩
    exact fin_eq (.bool _) rfl rfl
  have hlt : decide (n < 1) = false := decide_eq_false (by omega)
  obtain ⟨m, rfl⟩ : ∃ m : Nat, n = m := ⟨n.toNat, by omega⟩
  have hm : 0 < m := by omega
  have hm2 : m < 9223372036854775808 := by have := hn.2; omega
  have c1 := meanV a m ha hm hm2
  have c2 := meanV b m hb hm hm2
  have hc1 : (bif decide (cmpI a b ≤ 0) then FloatKind.f64.format.order (refF a m) (refF b m) == some Ordering.gt else false) = false := by
    by_cases h : a ≤ b
    · rw [order_le ha hb hm hm2 h, Bool.cond_self]
    · rw [decide_eq_false (show ¬ cmpI a b ≤ 0 by unfold cmpI; rw [if_neg (by omega), if_neg (by omega)]; decide), cond_false]
  have hc2 : (bif decide (cmpI a b ≥ 0) then FloatKind.f64.format.order (refF a m) (refF b m) == some Ordering.lt else false) = false := by
    by_cases h : b ≤ a
    · rw [order_ge ha hb hm hm2 h, Bool.cond_self]
    · rw [decide_eq_false (show ¬ cmpI a b ≥ 0 by unfold cmpI; rw [if_pos (by omega)]; decide), cond_false]
  obtain ⟨y, hy⟩ : ∃ y, y = (if a = -170141183460469231731687303715884105728 then a else -a) := ⟨_, rfl⟩
  have hyR : in128 y := by rw [hy]; unfold in128 at *; split <;> omega
  have c3 := minusW 0 a
  rw [wrap_turn a ha, ← hy, show wideD 0 = .agg [.int .i64 0, .int .u64 0] from wl (by decide +kernel) (by decide +kernel)] at c3
  have c4 := meanV y m hyR hm hm2
  have hjR : (i.tmod 9007199254740992).natAbs < 9007199254740992 := by
    rw [Int.natAbs_tmod]; exact Nat.mod_lt _ (by decide)
  have ht : a ≠ -170141183460469231731687303715884105728 → floatBits .sub .f64 0 (refF a m) = some (refF y m) := fun h => by rw [turned a m ha hm hm2 h, hy, if_neg h]
  obtain ⟨z, hz⟩ : ∃ z, floatBits .sub .f64 0 (refF a m) = some z := by
    by_cases h : a = -170141183460469231731687303715884105728
    · have hx0 : a ≠ 0 := by omega
      obtain ⟨E, M, h1, e, _⟩ := ref_at a m ha hm hm2 hx0
      exact ⟨_, by rw [e]; exact sub_fbits h1 _⟩
    · exact ⟨_, ht h⟩
  have hd : (bif (!(hiW a == -9223372036854775808 && (loW a == 0 && true))) then !(FloatKind.f64.format.order (refF y m) z == some Ordering.eq) else false) = false := by
    by_cases h : a = -170141183460469231731687303715884105728
    · rw [h, show (hiW (-170141183460469231731687303715884105728) == -9223372036854775808 && (loW (-170141183460469231731687303715884105728) == 0 && true)) = true from by decide +kernel]; rfl
    · have hzy : z = refF y m := by have := ht h; rw [hz] at this; exact Option.some.inj this
      rw [hzy, order_self y m hyR hm hm2]
      simp
  have hw := mean_whole (i.tmod 9007199254740992) m hm hm2 hjR
  obtain ⟨j, hj⟩ : ∃ j, j = i.tmod 9007199254740992 := ⟨_, rfl⟩
  rw [← hj] at hjR hw
  have hjR64 : i64R j := by unfold i64R; omega
  have c5 := timesW j m hjR64 (by unfold i64R; omega)
  have hjm : in128 (j * m) := by
    have h1 : (j * (m : Int)).natAbs = j.natAbs * m := by rw [Int.natAbs_mul, Int.natAbs_natCast]
    have h2 : j.natAbs * m ≤ 9007199254740992 * 9223372036854775808 := Nat.mul_le_mul (by omega) (by omega)
    unfold in128
    generalize j * (m : Int) = v at h1 ⊢
    generalize j.natAbs * m = u at h1 h2
    omega
  have c6 := meanV (j * m) m hjm hm hm2
  rw [hw] at c6
  have ho := order_self (j * m) m hjm hm hm2
  rw [hw] at ho
  rw [hj] at c5 c6 ho
  refine FnC.mk Try.func14 rfl rfl (Nat.le_of_ble_eq_true rfl) hblw (by rintro _ rfl; simp) ?_
  refine joinK.direct ?_
  refine callK.eq known ?_
  refine ⟨fun h => absurd h (by simp), fun _ => join_go ?_⟩
  refine joinK.direct ?_
  refine ⟨fun h => absurd (hlt.symm.trans h) (by decide), fun _ => join_go ?_⟩
  refine callK.eq c1 ?_
  show callK _ _ _ _ _
  refine callK.eq c2 ?_
  refine joinK.direct ?_
  refine guardK.spec ?_
  refine callE.mk (cmpW a b ha hb) ?_
  refine callE.mk (cmpW a b ha hb) ?_
  refine ⟨fun h => ?_, fun _ => join_go ?_⟩
  · have h : (bif false then true else bif (bif decide (cmpI a b ≤ 0) then FloatKind.f64.format.order (refF a m) (refF b m) == some Ordering.gt else false) then true else (bif decide (cmpI a b ≥ 0) then FloatKind.f64.format.order (refF a m) (refF b m) == some Ordering.lt else false)) = true := h
    rw [hc1, hc2] at h
    cases h
  refine callK.eq c3 ?_
  show callK _ _ _ _ _
  refine callK.eq c4 ?_
  refine joinK.direct ?_
  refine guardK.spec ?_
  refine ⟨EqOk.mk (by kernel_rfl), ?_⟩
  refine ⟨rfl, optK.mk hz ?_⟩
  refine ⟨fun h => ?_, fun _ => join_go ?_⟩
  · have h : (bif false then true else bif (!(hiW a == -9223372036854775808 && (loW a == 0 && true))) then !(FloatKind.f64.format.order (refF y m) z == some Ordering.eq) else false) = true := h
    rw [hd] at h
    cases h
  refine ⟨rfl, by decide, ?_⟩
  refine callK.eq c5 ?_
  show callK _ _ _ _ _
  refine callK.eq c6 ?_
  refine guardK.spec ?_
  refine fin_eq (.bool _) rfl (bool_eq ?_)
  show (bif true then (FloatKind.f64.format.order (FloatKind.f64.nearest (i.tmod 9007199254740992)) (FloatKind.f64.nearest (i.tmod 9007199254740992)) == some Ordering.eq) else false) = true
  rw [ho]; rfl
end Go.Proofs.Ytckcagmlippneaa
