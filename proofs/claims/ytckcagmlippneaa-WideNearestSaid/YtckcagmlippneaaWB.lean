/- wide: Cmp, size, Sum, Times. -/
import Derived.Test.YtckcagmlippneaaWA
set_option linter.unusedSimpArgs false
set_option linter.unusedVariables false
namespace Go.Proofs.Ytckcagmlippneaa
open Go Go.Pv Go.RowKit
set_option maxRecDepth 10000
set_option exponentiation.threshold 1000

def cmpI (x y : Int) : Int := if x < y then -1 else if x = y then 0 else 1
theorem cmpW (x y : Int) (hx : in128 x) (hy : in128 y) : FnC Try.prog 22 [wideD x, wideD y] (· = .int .i64 (cmpI x y)) := by
  refine FnC.mk Try.func22 rfl rfl (Nat.le_of_ble_eq_true rfl) blw_wide2 (by rintro _ rfl; simp) ?_
  have ex := hi_in hx
  have ey := hi_in hy
  have lx : loW x = x % 18446744073709551616 := rfl
  have ly : loW y = y % 18446744073709551616 := rfl
  have lt : (decide (hiW x < hiW y) || (hiW x == hiW y && decide (loW x < loW y))) = decide (x < y) := by
    rw [ex, ey, lx, ly, Bool.eq_iff_iff]
    simp
    omega
  have eq : (hiW x == hiW y && (loW x == loW y && true)) = decide (x = y) := by
    rw [ex, ey, lx, ly, Bool.eq_iff_iff]
    simp
    omega
  refine joinK.direct ?_
  refine joinK.direct ?_
  have rest : decide (x < y) = false → (decide (x = y) = true → cmpI x y = 0) ∧ (decide (x = y) = false → cmpI x y = 1) := by
    intro h
    have h := of_decide_eq_false h
    refine ⟨fun h2 => ?_, fun h2 => ?_⟩
    · have h2 := of_decide_eq_true h2
      unfold cmpI; rw [if_neg h, if_pos h2]
    · have h2 := of_decide_eq_false h2
      unfold cmpI; rw [if_neg h, if_neg h2]
  refine ⟨fun h => ?_, fun h => ?_⟩
  · refine join_go ⟨fun _ => ?_, fun h2 => (by have h2 : decide (hiW x < hiW y) = false := h2; rw [show decide (hiW x < hiW y) = true from h] at h2; cases h2)⟩
    refine fin_eq (.int _ _) rfl (int_eq ?_)
    rw [show decide (hiW x < hiW y) = true from h] at lt
    have := of_decide_eq_true lt.symm
    unfold cmpI; rw [if_pos this]
  · rw [show decide (hiW x < hiW y) = false from h, Bool.false_or] at lt
    refine guardK.spec ?_
    refine join_go ⟨fun h2 => ?_, fun h2 => ?_⟩
    · have h2 : (bif hiW x == hiW y then decide (loW x < loW y) else false) = true := h2
      rw [Bool.cond_false_right, lt] at h2
      refine fin_eq (.int _ _) rfl (int_eq ?_)
      have := of_decide_eq_true h2
      unfold cmpI; rw [if_pos this]
    · have h2 : (bif hiW x == hiW y then decide (loW x < loW y) else false) = false := h2
      rw [Bool.cond_false_right, lt] at h2
      refine ⟨EqOk.mk (by kernel_rfl), ?_⟩
      refine ⟨fun h3 => ?_, fun h3 => join_go ?_⟩
      · have h3 : (hiW x == hiW y && (loW x == loW y && true)) = true := h3
        rw [eq] at h3
        exact fin_eq (.int _ _) rfl (int_eq ((rest h2).1 h3).symm)
      · have h3 : (hiW x == hiW y && (loW x == loW y && true)) = false := h3
        rw [eq] at h3
        exact fin_eq (.int _ _) rfl (int_eq ((rest h2).2 h3).symm)

def absN (x : Int) : Nat := x.natAbs
theorem sizeW (x : Int) (hx : in128 x) : FnC Try.prog 54 [wideD x] (· = .tup [.int .u64 (x.natAbs / 18446744073709551616 : Nat), .int .u64 (x.natAbs % 18446744073709551616 : Nat)]) := by
  refine FnC.mk Try.func54 rfl rfl (Nat.le_of_ble_eq_true rfl) blw_wide1 (by rintro _ rfl; simp) ?_
  have ex := hi_in hx
  obtain ⟨h1, h2⟩ := hx
  refine joinK.direct ⟨fun h => ?_, fun h => join_go ?_⟩
  · have h : hiW x < 0 := of_decide_eq_true h
    have c := minusW 0 x
    rw [show wideD 0 = .agg [.int .i64 0, .int .u64 0] from by unfold wideD hiW loW; rw [IntKind.wrap_i64]; rfl] at c
    refine callK.eq c (join_go ?_)
    refine drawK.mk (by kernel_rfl) ?_
    refine fin_eq (.tup [.int _ _, .int _ _]) rfl (int2 ?_ ?_)
    · unfold hiW
      rw [IntKind.wrap_i64, IntKind.wrap_u64]
      omega
    · unfold loW; omega
  · have h : ¬ hiW x < 0 := of_decide_eq_false h
    refine drawK.mk (by kernel_rfl) ?_
    refine fin_eq (.tup [.int _ _, .int _ _]) rfl (int2 ?_ ?_)
    · rw [ex, IntKind.wrap_u64]
      omega
    · unfold loW; omega

def sumI (l : List Int) : Int := l.foldl (· + ·) 0
def wideC (x : Int) : List DV := [.int .i64 (hiW x), .int .u64 (loW x)]
def widePO (cs : List DV) : Option PO := some ⟨false, 2, 24, [cs]⟩
def wide0 : List DV := [.int .i64 0, .int .u64 0]
theorem sumI_snoc (l : List Int) (x : Int) : sumI (l ++ [x]) = sumI l + x := by simp [sumI]
def intsD (l : List Int) : DV := .list (l.map fun i => [.int .i64 i])
theorem sumW (l : List Int) (hl : ∀ i ∈ l, i64R i) (hlen : l.length ≤ maxLen) : FnC Try.prog 30 [intsD l] (· = wideD (sumI l)) := by
  refine FnC.mk Try.func30 rfl rfl (Nat.le_of_ble_eq_true rfl) ?_ (by rintro _ rfl; exact blw_wideD _) ?_
  · intro d hd
    simp at hd
    subst hd
    simp [intsD]
  refine optK.mk rfl ?_
  refine joinK.direct ?_
  refine loopK.use [6, 2, 3, 7, 8] (fun i : Nat => [intsD l, .pobj 0 0 0, .pobj 1 0 0, .int .i64 l.length, .int .i64 i]) (fun i => [widePO wide0, widePO (wideC (sumI (l.take i)))])
    (fun i => i ≤ l.length) (fun i => l.length - i) 0 (by omega) ⟨rfl, rfl, rfl, int_eq (by simp), rfl, trivial⟩ (.inl (by rfl)) ?_
  intro i hi
  refine joinK.direct ⟨fun h => join_go ?_, fun h => join_go ?_⟩
  · have h : i < l.length := by have := of_decide_eq_true h; omega
    have hg : (l.map fun i => [DV.int .i64 i])[(i : Int).toNat]? = some [.int .i64 l[i]] := by simp [h]
    refine ⟨by omega, by simp; omega, optK.mk hg ?_⟩
    refine drawK.mk (by kernel_rfl) ?_
    refine callE.mk (ofW l[i] (hl _ (List.getElem_mem h))) ?_
    refine callE.mk (plusW (sumI (l.take i)) l[i]) ?_
    have htake : l.take (i + 1) = l.take i ++ [l[i]] := by simp
    refine loop_next (i + 1) (by omega) (by omega) ⟨rfl, rfl, rfl, rfl, int_eq ?_, trivial⟩ (.inl ?_)
    · rw [IntKind.wrap_i64]; unfold maxLen at hlen; omega
    · show [widePO wide0, widePO (wideC (sumI (l.take i) + l[i]))] = [widePO wide0, widePO (wideC (sumI (l.take (i + 1))))]
      rw [htake, sumI_snoc]
  · have h : i = l.length := by have := of_decide_eq_false h; omega
    subst h
    refine fin_eq (.agg [.int _ _, .int _ _]) rfl ?_
    show wideD (sumI (l.take l.length)) = _
    rw [List.take_length]

theorem mul_hi (x y : Int) (hx0 : 0 ≤ x) (hx : x < 18446744073709551616) (hy0 : 0 ≤ y) (hy : y < 18446744073709551616) :
    IntKind.u64.wrap (IntKind.u64.wrap (IntKind.u64.wrap (x.fdiv (2 ^ min (Int.toNat 32) IntKind.u64.bits) * y.fdiv (2 ^ min (Int.toNat 32) IntKind.u64.bits)) + (IntKind.u64.wrap (IntKind.u64.wrap (x.fdiv (2 ^ min (Int.toNat 32) IntKind.u64.bits) * bits .and .u64 y 4294967295) +
      (IntKind.u64.wrap (bits .and .u64 x 4294967295 * bits .and .u64 y 4294967295)).fdiv (2 ^ min (Int.toNat 32) IntKind.u64.bits))).fdiv (2 ^ min (Int.toNat 32) IntKind.u64.bits)) +
      (IntKind.u64.wrap (bits .and .u64 (IntKind.u64.wrap (IntKind.u64.wrap (x.fdiv (2 ^ min (Int.toNat 32) IntKind.u64.bits) * bits .and .u64 y 4294967295) + (IntKind.u64.wrap (bits .and .u64 x 4294967295 * bits .and .u64 y 4294967295)).fdiv (2 ^ min (Int.toNat 32) IntKind.u64.bits))) 4294967295 +
        IntKind.u64.wrap (bits .and .u64 x 4294967295 * y.fdiv (2 ^ min (Int.toNat 32) IntKind.u64.bits)))).fdiv (2 ^ min (Int.toNat 32) IntKind.u64.bits)) = x * y / 18446744073709551616 := by
  have hs : ∀ z : Int, z.fdiv (2 ^ min (Int.toNat 32) IntKind.u64.bits) = z / 4294967296 := by
    intro z
    rw [show min (Int.toNat 32) IntKind.u64.bits = 32 from rfl, Int.fdiv_eq_ediv_of_nonneg _ (by decide)]; rfl
  rw [and_low32 x hx0 hx, and_low32 y hy0 hy, and_low32 _ (wrap_u64_nn _).1 (wrap_u64_nn _).2]
  simp only [hs, IntKind.wrap_u64]
  exact mul64_arith x y hx0 hx hy0 hy
theorem mul64 (x y : Int) (hx0 : 0 ≤ x) (hx : x < 18446744073709551616) (hy0 : 0 ≤ y) (hy : y < 18446744073709551616) :
    FnC Try.prog 53 [.int .u64 x, .int .u64 y] (· = .tup [.int .u64 (x * y / 18446744073709551616), .int .u64 (x * y % 18446744073709551616)]) := by
  refine FnC.mk Try.func53 rfl rfl (Nat.le_of_ble_eq_true rfl) (by simp) (by rintro _ rfl; simp) ?_
  refine ⟨by decide, ⟨by decide, ⟨by decide, ⟨by decide, ⟨by decide, ?_⟩⟩⟩⟩⟩
  refine fin_eq (.tup [.int _ _, .int _ _]) rfl (int2 ?_ ?_)
  · exact mul_hi x y hx0 hx hy0 hy
  · rw [IntKind.wrap_u64]

/-- A number times another, without the signs' part. -/
theorem timesW (i n : Int) (hi : i64R i) (hn : i64R n) : FnC Try.prog 29 [.int .i64 i, .int .i64 n] (· = wideD (i * n)) := by
  refine FnC.mk Try.func29 rfl rfl (Nat.le_of_ble_eq_true rfl) (by simp) (by rintro _ rfl; exact blw_wideD _) ?_
  refine callK.eq (mul64 (IntKind.u64.wrap i) (IntKind.u64.wrap n) (wrap_u64_nn _).1 (wrap_u64_nn _).2 (wrap_u64_nn _).1 (wrap_u64_nn _).2) ?_
  obtain ⟨i1, i2⟩ := hi
  obtain ⟨n1, n2⟩ := hn
  have X : IntKind.u64.wrap i = if i < 0 then i + 18446744073709551616 else i := by rw [IntKind.wrap_u64]; split <;> omega
  have N : IntKind.u64.wrap n = if n < 0 then n + 18446744073709551616 else n := by rw [IntKind.wrap_u64]; split <;> omega
  refine joinK.direct ⟨fun h => ?_, fun h => ?_⟩ <;> refine join_go ?_ <;> refine joinK.direct ⟨fun h2 => ?_, fun h2 => ?_⟩ <;> refine join_go ?_
  all_goals refine fin_eq (.agg [.int _ _, .int _ _]) rfl (agg2 ?_ ?_)
  all_goals first | have h := of_decide_eq_true h | have h := of_decide_eq_false h
  all_goals first | have h2 := of_decide_eq_true h2 | have h2 := of_decide_eq_false h2
  all_goals first | rw [if_pos h] at X | rw [if_neg h] at X
  all_goals first | rw [if_pos h2] at N | rw [if_neg h2] at N
  all_goals rw [X, N]
  all_goals first | rw [show (i + 18446744073709551616) * (n + 18446744073709551616) = i * n + 18446744073709551616 * (i + n + 18446744073709551616) from by grind] | rw [show (i + 18446744073709551616) * n = i * n + 18446744073709551616 * n from by grind] | rw [show i * (n + 18446744073709551616) = i * n + 18446744073709551616 * i from by grind] | skip
  all_goals generalize i * n = p
  all_goals simp only [hiW, loW, IntKind.wrap_i64, IntKind.wrap_u64]
  all_goals omega
end Go.Proofs.Ytckcagmlippneaa
