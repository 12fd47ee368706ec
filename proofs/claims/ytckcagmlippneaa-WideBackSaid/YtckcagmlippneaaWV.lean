/- WideBack, WideGroup: the laws' walks. -/
import Derived.Test.YtckcagmlippneaaWT
namespace Go.Proofs.Ytckcagmlippneaa
open Go Go.Pv Go.RowKit
set_option linter.unusedSimpArgs false
set_option linter.unusedVariables false
set_option maxRecDepth 10000
set_option exponentiation.threshold 1000

theorem blw_ws (x : Int) (l : List UInt8) : ∀ d ∈ [wideD x, .str (bsA l)], Blw 0 d := by
  intro d hd
  simp only [List.mem_cons, List.not_mem_nil, or_false] at hd
  rcases hd with rfl | rfl
  · exact blw_wideD _
  · simp
theorem lawBack (x : Int) (hx : in128 x) (l : List UInt8) (hl : l.length ≤ reachBytes) : FnC Try.prog 12 [wideD x, .str (bsA l)] (· = .bool true) := by
  have c0 := readW (textL x)
  rw [readD_some (readX_text hx)] at c0
  have c1 := readW l
  cases hr : readX l with
  | some y =>
    have hy := readX_some hr
    rw [readD_some hr] at c1
    refine FnC.mk Try.func12 rfl rfl (Nat.le_of_ble_eq_true rfl) (blw_ws _ _) (by rintro _ rfl; simp) ?_
    refine callK.eq (textW x hx) ?_
    refine callK.eq c0 ?_
    refine callK.eq c1 ?_
    refine guardK.spec ?_
    refine callK.eq known ?_
    refine ⟨EqOk.mk (by kernel_rfl), ?_⟩
    refine callE.mk (textW y hy.1) ?_
    refine ⟨EqOk.mk (by kernel_rfl), ?_⟩
    refine fin_eq (.bool _) rfl (bool_eq ?_)
    rw [str_cmp, decide_eq_true hy.2]
    simp
  | none =>
    rw [readD_none hr] at c1
    have ct := textW 0 (by unfold in128; decide)
    refine FnC.mk Try.func12 rfl rfl (Nat.le_of_ble_eq_true rfl) (blw_ws _ _) (by rintro _ rfl; simp) ?_
    refine callK.eq (textW x hx) ?_
    refine callK.eq c0 ?_
    refine callK.eq c1 ?_
    refine guardK.spec ?_
    refine callK.eq known ?_
    refine ⟨EqOk.mk (by kernel_rfl), ?_⟩
    refine callE.mk ct ?_
    refine ⟨EqOk.mk (by kernel_rfl), ?_⟩
    refine fin_eq (.bool _) rfl (bool_eq ?_)
    have h0 : (hiW 0 == 0 && (loW 0 == 0 && true)) = true := by decide +kernel
    rw [h0]
    simp

theorem wide_ne {A B : Int} (e : A = B) (h : (hiW A == hiW B && (loW A == loW B && true)) = !true) : False := by subst e; simp at h
theorem wide_z {A : Int} (e : A = 0) (h : (hiW A == 0 && (loW A == 0 && true)) = !true) : False := by
  subst e
  rw [show (hiW 0 == 0 && (loW 0 == 0 && true)) = true from by decide +kernel] at h
  cases h
theorem cmp_anti (x y : Int) : cmpI x y = IntKind.i64.wrap (0 - cmpI y x) := by
  unfold cmpI
  rw [IntKind.wrap_i64]
  split <;> split <;> (try split) <;> omega
theorem cmp_self (x : Int) : cmpI x x = 0 := by unfold cmpI; rw [if_neg (by omega), if_pos rfl]
theorem cmp_eq {x y : Int} (hx : in128 x) (hy : in128 y) : ((cmpI x y == 0) == (hiW x == hiW y && (loW x == loW y && true))) = true := by
  have ex := hi_in hx
  have ey := hi_in hy
  have eq : (hiW x == hiW y && (loW x == loW y && true)) = decide (x = y) := by
    unfold loW
    rw [ex, ey, Bool.eq_iff_iff]
    simp only [Bool.and_eq_true, decide_eq_true_eq, beq_iff_eq, and_true]
    omega
  rw [eq]
  unfold cmpI
  by_cases h : x = y
  · subst h; rw [if_neg (by omega), if_pos rfl]; simp
  · rw [decide_eq_false h, if_neg h]; split <;> rfl
theorem cmp_trans (x y z : Int) : (bif !(bif decide (cmpI x y ≤ 0) then decide (cmpI y z ≤ 0) else false) then true else decide (cmpI x z ≤ 0)) = true := by
  have h : ∀ a b : Int, cmpI a b ≤ 0 ↔ a ≤ b := by
    intro a b; unfold cmpI; split <;> (try split) <;> omega
  rw [Bool.cond_true_left, Bool.cond_false_right]
  simp only [Bool.or_eq_true, Bool.not_eq_true', Bool.and_eq_false_iff, decide_eq_false_iff_not, decide_eq_true_eq, h]
  omega
theorem blw_wide3 {x y z : Int} : ∀ d ∈ [wideD x, wideD y, wideD z], Blw 0 d := by
  intro d hd
  simp only [List.mem_cons, List.not_mem_nil, or_false] at hd
  rcases hd with rfl | rfl | rfl <;> exact blw_wideD _
theorem lawGroup (x : Int) (hx : in128 x) (y : Int) (hy : in128 y) (z : Int) (hz : in128 z) : FnC Try.prog 11 [wideD x, wideD y, wideD z] (· = .bool true) := by
  have p0 := plusW x 0
  rw [wide0_eq] at p0
  have m0 := minusW 0 x
  rw [wide0_eq] at m0
  refine FnC.mk Try.func11 rfl rfl (Nat.le_of_ble_eq_true rfl) blw_wide3 (by rintro _ rfl; simp) ?_
  refine drawK.mk (by kernel_rfl) ?_
  refine callE.mk (plusW x y) (callE.mk (plusW y x) ?_)
  refine ⟨EqOk.mk (by kernel_rfl), ⟨fun _ => ?_, fun h => (wide_ne (by omega) h).elim⟩⟩
  refine callE.mk (plusW x y) (callE.mk (plusW (x + y) z) (callE.mk (plusW y z) (callE.mk (plusW x (y + z)) ?_)))
  refine ⟨EqOk.mk (by kernel_rfl), ⟨fun _ => ?_, fun h => (wide_ne (by omega) h).elim⟩⟩
  refine callE.mk p0 ?_
  refine ⟨EqOk.mk (by kernel_rfl), ⟨fun _ => ?_, fun h => (wide_ne (by omega) h).elim⟩⟩
  refine callE.mk (plusW x y) (callE.mk (minusW (x + y) y) ?_)
  refine ⟨EqOk.mk (by kernel_rfl), ⟨fun _ => ?_, fun h => (wide_ne (by omega) h).elim⟩⟩
  refine callE.mk (minusW x y) (callE.mk (plusW (x - y) y) ?_)
  refine ⟨EqOk.mk (by kernel_rfl), ⟨fun _ => ?_, fun h => (wide_ne (by omega) h).elim⟩⟩
  refine callE.mk (minusW x x) ?_
  refine ⟨EqOk.mk (by kernel_rfl), ⟨fun _ => ?_, fun h => (wide_z (by omega) h).elim⟩⟩
  refine callE.mk m0 (callE.mk (plusW (0 - x) x) ?_)
  refine ⟨EqOk.mk (by kernel_rfl), ?_⟩
  refine drawK.mk (by kernel_rfl) ?_
  refine callE.mk (cmpW x y hx hy) (callE.mk (cmpW y x hy hx) ?_)
  refine ⟨fun _ => ?_, fun h => absurd h (by rw [← cmp_anti]; simp)⟩
  refine callE.mk (cmpW x x hx hx) ?_
  refine ⟨fun _ => ?_, fun h => absurd h (by rw [cmp_self]; simp)⟩
  refine callE.mk (cmpW x y hx hy) ?_
  refine ⟨EqOk.mk (by kernel_rfl), ?_⟩
  refine guardK.spec ?_
  refine callK.eq (cmpW x y hx hy) ?_
  refine callE.mk (cmpW y z hy hz) ?_
  refine callE.mk (cmpW x z hx hz) ?_
  have ci := intW x hx
  refine callK.eq ci ?_
  have f1 : (hiW (0 - x + x) == 0 && (loW (0 - x + x) == 0 && true)) = true := by rw [show 0 - x + x = 0 from by omega]; decide +kernel
  have f2 := cmp_eq hx hy
  have f3 := cmp_trans x y z
  have last : ∀ a b c d : Bool, a = true → b = true → c = true → d = true → (bif (bif (bif (bif true then a else false) then b else false) then c else false) then d else false) = true := by
    rintro _ _ _ _ rfl rfl rfl rfl; rfl
  refine drawK.mk (by kernel_rfl) ?_
  refine ⟨fun h => ?_, fun h => ?_⟩
  · have h : (!isI64 x) = true := h
    have hI : isI64 x = false := by simpa using h
    have f4 : ((if isI64 x then x else 0) == 0) = true := by rw [hI]; rfl
    refine ⟨fun h2 => absurd (f4.symm.trans h2) (by decide), fun _ => ?_⟩
    refine guardK.spec ?_
    refine callK.eq known ?_
    exact fin_eq (.bool _) rfl (bool_eq (last _ _ _ _ f1 f2 f3 rfl))
  · have h : (!isI64 x) = !true := h
    have hI : isI64 x = true := by simpa using h
    have e : (if isI64 x then x else 0) = x := by rw [hI]; rfl
    have hR : i64R (if isI64 x then x else 0) := by
      rw [e]
      unfold isI64 at hI
      simp only [Bool.and_eq_true, decide_eq_true_eq] at hI
      exact hI
    refine ⟨fun _ => ?_, fun h2 => absurd h2 (by rw [hI]; decide)⟩
    refine callE.mk (ofW _ hR) ?_
    refine ⟨EqOk.mk (by kernel_rfl), ?_⟩
    have f4 : (hiW (if isI64 x then x else 0) == hiW x && (loW (if isI64 x then x else 0) == loW x && true)) = true := by rw [e]; simp
    refine guardK.spec ?_
    refine callK.eq known ?_
    exact fin_eq (.bool _) rfl (bool_eq (last _ _ _ _ f1 f2 f3 f4))
end Go.Proofs.Ytckcagmlippneaa
