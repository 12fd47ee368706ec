/- The law's own functions: num, of, magnitude, known. -/
import Derived.Test.YtckcagmlippneaaWN
set_option linter.unusedSimpArgs false
set_option linter.unusedVariables false
namespace Go.Proofs.Ytckcagmlippneaa
open Go Go.Pv Go.RowKit
set_option maxRecDepth 10000
set_option exponentiation.threshold 1000

theorem numL (x : Int) (hx : in128 x) : FnC Try.prog 15 [wideD x] (· = numD x) := by
  refine FnC.mk Try.func15 rfl rfl (Nat.le_of_ble_eq_true rfl) blw_wide1 (by rintro _ rfl; exact blw_numD _) ?_
  have hh := hi_in hx
  have hl := loW_nn x
  obtain ⟨l, el⟩ := Int.eq_ofNat_of_zero_le hl.1
  have c := ofN (hiW x) l (by unfold i64R; have := hx.1; have := hx.2; omega) (by omega)
  rw [← el, show hiW x * 18446744073709551616 + loW x = x from by rw [hh]; unfold loW; omega] at c
  refine callK.eq c ?_
  exact fin_eq (.agg [.list _, .bool _]) rfl rfl
theorem ofL (x : Int) (hx : x.natAbs < 2 ^ 300) : FnC Try.prog 16 [numD x] (· = wideD x) := by
  refine FnC.mk Try.func16 rfl rfl (Nat.le_of_ble_eq_true rfl) blw_num1 (by rintro _ rfl; exact blw_wideD _) ?_
  refine callK.eq (wideN x hx) ?_
  exact fin_eq (.agg [.int _ _, .int _ _]) rfl rfl
theorem magL (n : Int) (hn : i64R n) : FnC Try.prog 26 [.int .i64 n] (· = .int .u64 (n.natAbs : Nat)) := by
  obtain ⟨h1, h2⟩ := hn
  refine FnC.mk Try.func26 rfl rfl (Nat.le_of_ble_eq_true rfl) (by simp) (by rintro _ rfl; simp) ?_
  refine joinK.direct ⟨fun h => ?_, fun h => join_go ?_⟩
  · have h : n < 0 := of_decide_eq_true h
    refine fin_eq (.int _ _) rfl (int_eq ?_)
    simp only [IntKind.wrap_u64, IntKind.wrap_i64]; omega
  · have h : ¬ n < 0 := of_decide_eq_false h
    refine fin_eq (.int _ _) rfl (int_eq ?_)
    simp only [IntKind.wrap_u64]; omega

theorem wl {x h l : Int} (hh : hiW x = h) (hl : loW x = l) : wideD x = .agg [.int .i64 h, .int .u64 l] := by unfold wideD; rw [hh, hl]
theorem text_64 : textL 18446744073709551616 = [49,56,52,52,54,55,52,52,48,55,51,55,48,57,53,53,49,54,49,54] := by
  unfold textL
  rw [if_neg (by decide)]
  show dec 18446744073709551616 = _
  repeat rw [dec_ge (by decide)]
  rw [dec_lt (by decide)]
  decide +kernel
theorem read_64 : readD [49,56,52,52,54,55,52,52,48,55,51,55,48,57,53,53,49,54,49,54] = .tup [.agg [.int .i64 1, .int .u64 0], .bool true] := by
  rw [readD_some (x := 18446744073709551616) (by rw [← text_64]; exact readX_text (by unfold in128; decide)), wl (h := 1) (l := 0) (by decide +kernel) (by decide +kernel)]
theorem mean_72 : meanD 7 2 = .tup [.flt .f64 4615063718147915776, .int .i64 0] := by
  unfold meanD
  rw [if_neg (by decide), if_neg (by decide)]
  have : meanB (decide ((7 : Int) < 0)) (7 : Int).natAbs (2 : Int).toNat = 4615063718147915776 := by decide +kernel
  rw [this]

theorem known : FnC Try.prog 23 [] (· = .bool true) := by
  refine FnC.mk Try.func23 rfl rfl (Nat.le_of_ble_eq_true rfl) (by simp) (by rintro _ rfl; simp) ?_
  have c1 := meanW 7 2 (by unfold in128; decide) (by unfold i64R; decide)
  rw [mean_72, wl (h := 0) (l := 7) (by decide +kernel) (by decide +kernel)] at c1
  refine callK.eq c1 ?_
  have c2 := readW [49,56,52,52,54,55,52,52,48,55,51,55,48,57,53,53,49,54,49,54]
  rw [read_64] at c2
  refine callK.eq c2 ?_
  have c3 := intW (-9223372036854775808) (by unfold in128; decide)
  rw [show isI64 (-9223372036854775808) = true from by decide, if_pos rfl, wl (h := -1) (l := 9223372036854775808) (by decide +kernel) (by decide +kernel)] at c3
  refine callK.eq c3 ?_
  have i2 : ∀ x, i64R x → in128 x := fun x h => ⟨by have := h.1; omega, by have := h.2; omega⟩
  refine guardK.join [1, 2, 3, 4, 5, 6, 7] (fun _ : Unit => [.flt .f64 4615063718147915776, .int .i64 0, .pobj 0 0 0, .bool true, .int .i64 (-9223372036854775808), .bool true, .bool true]) (fun _ => [widePO [.int .i64 1, .int .u64 0]]) (fun _ => True) ?_ ?_
  · skip
    show callK _ _ _ _ _
    refine callK.eq (ofW (-1) (by unfold i64R; decide)) ?_
    refine ⟨EqOk.mk (by kernel_rfl), ?_⟩
    refine ⟨fun _ => ?_, fun h => absurd h (by decide +kernel)⟩
    show callK _ _ _ _ _
    refine callK.eq (timesW 3 (-2) (by unfold i64R; decide) (by unfold i64R; decide)) ?_
    show callK _ _ _ _ _
    refine callK.eq (ofW (-6) (by unfold i64R; decide)) ?_
    refine ⟨EqOk.mk (by kernel_rfl), ?_⟩
    refine ⟨fun _ => ?_, fun h => absurd h (by decide +kernel)⟩
    show callK _ _ _ _ _
    refine callK.lend [1] (sumW [1, 2, 3] (by simp [i64R]) (by simp [maxLen])) ⟨snap_whole (po := ⟨true, 1, 2, [[.int .i64 1], [.int .i64 2], [.int .i64 3]]⟩) rfl (by simp), trivial⟩ (by unfold wideD; simp) ?_
    show callK _ _ _ _ _
    refine callK.eq (ofW (6) (by unfold i64R; decide)) ?_
    refine ⟨EqOk.mk (by kernel_rfl), ?_⟩
    refine ⟨fun _ => ?_, fun h => absurd h (by decide +kernel)⟩
    show callK _ _ _ _ _
    refine callK.eq (ofW (2) (by unfold i64R; decide)) ?_
    show callK _ _ _ _ _
    refine callK.eq (ofW (5) (by unfold i64R; decide)) ?_
    show callK _ _ _ _ _
    refine callK.eq (minusW 2 5) ?_
    show callK _ _ _ _ _
    refine callK.eq (ofW (-3) (by unfold i64R; decide)) ?_
    refine ⟨EqOk.mk (by kernel_rfl), ?_⟩
    refine ⟨fun _ => ?_, fun h => absurd h (by decide +kernel)⟩
    show callK _ _ _ _ _
    refine callK.eq (ofW (2) (by unfold i64R; decide)) ?_
    show callK _ _ _ _ _
    refine callK.eq (ofW (5) (by unfold i64R; decide)) ?_
    show callK _ _ _ _ _
    refine callK.eq (plusW 2 5) ?_
    show callK _ _ _ _ _
    refine callK.eq (ofW (7) (by unfold i64R; decide)) ?_
    refine ⟨EqOk.mk (by kernel_rfl), ?_⟩
    refine ⟨fun _ => ?_, fun h => absurd h (by decide +kernel)⟩
    show callK _ _ _ _ _
    refine callK.eq (ofW (2) (by unfold i64R; decide)) ?_
    show callK _ _ _ _ _
    refine callK.eq (ofW (5) (by unfold i64R; decide)) ?_
    show callK _ _ _ _ _
    refine callK.eq (cmpW 2 5 (by unfold in128; decide) (by unfold in128; decide)) ?_
    refine join_at () trivial ⟨rfl, rfl, rfl, rfl, rfl, rfl, rfl, trivial⟩ (.inr ⟨_, rfl, by simp, by simp [widePO]⟩)
  rintro ⟨⟩ -
  have c4 := textW 18446744073709551616 (by unfold in128; decide)
  rw [text_64, wl (h := 1) (l := 0) (by decide +kernel) (by decide +kernel)] at c4
  refine guardK.spec ?_
  refine ⟨EqOk.mk (by kernel_rfl), ?_⟩
  refine callE.mk c4 ?_
  refine fin_eq (.bool _) rfl (bool_eq ?_)
  rw [show ((bsA [49,56,52,52,54,55,52,52,48,55,51,55,48,57,53,53,49,54,49,54]).toList == (ByteArray.mk #[49,56,52,52,54,55,52,52,48,55,51,55,48,57,53,53,49,54,49,54]).toList) = true from (str_cmp _ _).trans (by decide)]
  decide +kernel
end Go.Proofs.Ytckcagmlippneaa
