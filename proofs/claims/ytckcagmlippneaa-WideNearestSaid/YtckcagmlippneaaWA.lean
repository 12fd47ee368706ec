/- wide: the externs; Of, Plus, Minus, Int, Cmp, size, Sum, Times. -/
import Derived.Test.YtckcagmlippneaaW9
import Derived.Laws.Externs
import Derived.Laws.MathBits
set_option linter.unusedSimpArgs false
set_option linter.unusedVariables false
namespace Go.Proofs.Ytckcagmlippneaa
open Go Go.Pv Go.RowKit
set_option maxRecDepth 10000
set_option exponentiation.threshold 1000

theorem three {h : Hp} {β : Nat → Bl} {vs : Array Value} {k : IntKind} {x y z : Int} (hs : vs.size = 3) (hr : ∀ (i : Nat) (v : Value) (d : DV), vs[i]? = some v → [DV.int k x, .int k y, .int k z][i]? = some d → Rep h β v d) :
    vs = #[.int k x, .int k y, .int k z] := by
  have e : ∀ (i : Nat) d v, [DV.int k x, .int k y, .int k z][i]? = some d → toV d = some v → vs[i]? = some v := by
    intro i d v e1 e2
    have hlt : i < vs.size := by have := (List.getElem?_eq_some_iff.1 e1).1; simp at this; omega
    have r := hr i _ d (Array.getElem?_eq_getElem hlt) e1
    rw [Array.getElem?_eq_getElem hlt, rep_toV e2 r]
  apply Array.ext_getElem?
  intro i
  match i with
  | 0 => exact e 0 _ _ rfl rfl
  | 1 => exact e 1 _ _ rfl rfl
  | 2 => exact e 2 _ _ rfl rfl
  | i + 3 => rw [Array.getElem?_eq_none (by omega)]; simp
theorem rep_pair {h : Hp} {β : Nat → Bl} {x y : Int} : Rep h β (.tuple #[.int .u64 x, .int .u64 y]) (.tup [.int .u64 x, .int .u64 y]) := by
  refine .tup _ _ rfl fun i v d e1 e2 => ?_
  match i with
  | 0 => simp at e1 e2; subst e1; subst e2; exact .int _ _
  | 1 => simp at e1 e2; subst e1; subst e2; exact .int _ _
  | i + 2 => simp at e2

theorem add64 (x y c : Int) (hx : 0 ≤ x) (hy : 0 ≤ y) (hc0 : 0 ≤ c) (hc : c ≤ 1) :
    FnC Try.prog 48 [.int .u64 x, .int .u64 y, .int .u64 c] (· = .tup [.int .u64 ((x + y + c) % 18446744073709551616), .int .u64 ((x + y + c) / 18446744073709551616)]) :=
  FnC.ext (by simp) (by rintro _ rfl; simp) fun vs h w hs hr => by
    obtain rfl := three hs hr
    refine ⟨.tuple #[.int .u64 ((x + y + c) % 18446744073709551616), .int .u64 ((x + y + c) / 18446744073709551616)], _, ?_, rep_pair, rfl⟩
    rw [run_callFunc_extern Try.func48 (by kernel_rfl) (by kernel_rfl) (by kernel_rfl) (e := add64Entry) (by kernel_rfl), run_add64 x y c hx hy hc0 hc]; rfl

def sub64Entry : Array Value → Sem Value := fun args => do
  let (x, y, b) ← Extern.MathBitsCarry.three "Sub64" args
  pure (Extern.MathBitsCarry.pair ((x + Extern.MathBitsCarry.m64 - y - b) % Extern.MathBitsCarry.m64) (if x < y + b then 1 else 0))
theorem run_sub64 {P : Program} (x y c : Nat) (hx : x < 18446744073709551616) (hy : y < 18446744073709551616) (hc : c ≤ 1) (w : World) :
    (sub64Entry #[.int .u64 x, .int .u64 y, .int .u64 c]).run P w =
      .ok (.tuple #[.int .u64 (((x : Int) - y - c) % 18446744073709551616), .int .u64 (if (x : Int) < y + c then 1 else 0)]) w := by
  have key : (sub64Entry #[.int .u64 x, .int .u64 y, .int .u64 c]).run P w = .ok (Extern.MathBitsCarry.pair ((x + Extern.MathBitsCarry.m64 - y - c) % Extern.MathBitsCarry.m64) (if x < y + c then 1 else 0)) w := by
    have : c = 0 ∨ c = 1 := by omega
    rcases this with rfl | rfl <;> rfl
  rw [key]
  simp only [Extern.MathBitsCarry.pair, Extern.MathBitsCarry.m64]
  have e1 : Int.ofNat ((x + 2 ^ 64 - y - c) % 2 ^ 64) = ((x : Int) - y - c) % 18446744073709551616 := by
    show (((x + 2 ^ 64 - y - c) % 2 ^ 64 : Nat) : Int) = _
    omega
  have e2 : Int.ofNat (if x < y + c then 1 else 0) = (if (x : Int) < y + c then 1 else 0) := by
    by_cases h : x < y + c
    · rw [if_pos h, if_pos (by omega)]; rfl
    · rw [if_neg h, if_neg (by omega)]; rfl
  rw [e1, e2]
theorem sub64 (x y c : Int) (hx : 0 ≤ x) (hx' : x < 18446744073709551616) (hy : 0 ≤ y) (hy' : y < 18446744073709551616) (hc0 : 0 ≤ c) (hc : c ≤ 1) :
    FnC Try.prog 49 [.int .u64 x, .int .u64 y, .int .u64 c] (· = .tup [.int .u64 ((x - y - c) % 18446744073709551616), .int .u64 (if x < y + c then 1 else 0)]) :=
  FnC.ext (by simp) (by rintro _ rfl; simp) fun vs h w hs hr => by
    obtain rfl := three hs hr
    obtain ⟨X, rfl⟩ := Int.eq_ofNat_of_zero_le hx
    obtain ⟨Y, rfl⟩ := Int.eq_ofNat_of_zero_le hy
    obtain ⟨c, rfl⟩ := Int.eq_ofNat_of_zero_le hc0
    refine ⟨_, _, ?_, rep_pair, rfl⟩
    rw [run_callFunc_extern Try.func49 (by kernel_rfl) (by kernel_rfl) (by kernel_rfl) (e := sub64Entry) (by kernel_rfl), run_sub64 X Y c (by omega) (by omega) (by omega)]; rfl

def wideD (x : Int) : DV := .agg [.int .i64 (hiW x), .int .u64 (loW x)]
theorem blw_wideD (x : Int) {m : Nat} : Blw m (wideD x) := by unfold wideD; simp
theorem agg2 {k k' : IntKind} {x x' y y' : Int} (h : x = x') (h' : y = y') : DV.agg [.int k x, .int k' y] = .agg [.int k x', .int k' y'] := by rw [h, h']
theorem wrap_u64_nn (x : Int) : 0 ≤ IntKind.u64.wrap x ∧ IntKind.u64.wrap x < 18446744073709551616 := by rw [IntKind.wrap_u64]; omega
theorem loW_nn (x : Int) : 0 ≤ loW x ∧ loW x < 18446744073709551616 := by unfold loW; omega
theorem blw_wide1 {x : Int} : ∀ d ∈ [wideD x], Blw 0 d := by
  intro d hd
  simp only [List.mem_cons, List.not_mem_nil, or_false] at hd
  subst hd; exact blw_wideD _
theorem blw_wide2 {x y : Int} : ∀ d ∈ [wideD x, wideD y], Blw 0 d := by
  intro d hd
  simp only [List.mem_cons, List.not_mem_nil, or_false] at hd
  rcases hd with rfl | rfl <;> exact blw_wideD _

theorem plusW (x y : Int) : FnC Try.prog 20 [wideD x, wideD y] (· = wideD (x + y)) := by
  refine FnC.mk Try.func20 rfl rfl (Nat.le_of_ble_eq_true rfl) blw_wide2 (by rintro _ rfl; exact blw_wideD _) ?_
  have hx := loW_nn x
  have hy := loW_nn y
  refine callK.eq (add64 (loW x) (loW y) 0 hx.1 hy.1 (by decide) (by decide)) ?_
  refine callK.eq (add64 _ _ _ (wrap_u64_nn _).1 (wrap_u64_nn _).1 (by omega) (by omega)) ?_
  refine fin_eq (.agg [.int _ _, .int _ _]) rfl (agg2 ?_ ?_)
  · unfold hiW loW
    rw [IntKind.wrap_i64, IntKind.wrap_i64, IntKind.wrap_i64, IntKind.wrap_i64, IntKind.wrap_u64, IntKind.wrap_u64]
    omega
  · unfold loW; omega

theorem minusW (x y : Int) : FnC Try.prog 21 [wideD x, wideD y] (· = wideD (x - y)) := by
  refine FnC.mk Try.func21 rfl rfl (Nat.le_of_ble_eq_true rfl) blw_wide2 (by rintro _ rfl; exact blw_wideD _) ?_
  have hx := loW_nn x
  have hy := loW_nn y
  refine callK.eq (sub64 (loW x) (loW y) 0 hx.1 hx.2 hy.1 hy.2 (by decide) (by decide)) ?_
  refine callK.eq (sub64 _ _ _ (wrap_u64_nn _).1 (wrap_u64_nn _).2 (wrap_u64_nn _).1 (wrap_u64_nn _).2 (by split <;> decide) (by split <;> decide)) ?_
  refine fin_eq (.agg [.int _ _, .int _ _]) rfl (agg2 ?_ ?_)
  · unfold hiW loW
    rw [IntKind.wrap_i64, IntKind.wrap_i64, IntKind.wrap_i64, IntKind.wrap_i64, IntKind.wrap_u64, IntKind.wrap_u64]
    split <;> omega
  · unfold loW; omega

theorem fdiv63 (i : Int) (hi : i64R i) : i.fdiv (2 ^ min (63 : Int).toNat IntKind.i64.bits) = if i < 0 then -1 else 0 := by
  obtain ⟨h1, h2⟩ := hi
  rw [show min (63 : Int).toNat IntKind.i64.bits = 63 from rfl, Int.fdiv_eq_ediv_of_nonneg _ (by decide)]
  split <;> omega
theorem ofW (i : Int) (hi : i64R i) : FnC Try.prog 27 [.int .i64 i] (· = wideD i) := by
  refine FnC.mk Try.func27 rfl rfl (Nat.le_of_ble_eq_true rfl) (by simp) (by rintro _ rfl; exact blw_wideD _) ?_
  refine ⟨by decide, ?_⟩
  refine fin_eq (.agg [.int _ _, .int _ _]) rfl (agg2 ?_ ?_)
  · rw [fdiv63 i hi]
    obtain ⟨h1, h2⟩ := hi
    unfold hiW
    rw [IntKind.wrap_i64]
    split <;> omega
  · unfold loW; rw [IntKind.wrap_u64]

def in128 (x : Int) : Prop := -170141183460469231731687303715884105728 ≤ x ∧ x < 170141183460469231731687303715884105728
theorem hi_in {x : Int} (h : in128 x) : hiW x = x / 18446744073709551616 := by
  obtain ⟨h1, h2⟩ := h
  unfold hiW; rw [IntKind.wrap_i64]; omega
def isI64 (x : Int) : Bool := decide (-9223372036854775808 ≤ x) && decide (x ≤ 9223372036854775807)
theorem intW (x : Int) (hx : in128 x) : FnC Try.prog 28 [wideD x] (· = .tup [.int .i64 (if isI64 x then x else 0), .bool (isI64 x)]) := by
  refine FnC.mk Try.func28 rfl rfl (Nat.le_of_ble_eq_true rfl) blw_wide1 (by rintro _ rfl; simp) ?_
  refine joinK.direct ?_
  refine ⟨by decide, ?_⟩
  have hw : i64R (IntKind.i64.wrap (loW x)) := by unfold i64R; rw [IntKind.wrap_i64]; omega
  have hf := fdiv63 _ hw
  have hh := hi_in hx
  obtain ⟨h1, h2⟩ := hx
  refine ⟨fun h => ?_, fun h => join_go ?_⟩
  · have h : (hiW x != (IntKind.i64.wrap (loW x)).fdiv (2 ^ min (63 : Int).toNat IntKind.i64.bits)) = true := h
    have hn : isI64 x = false := by
      rw [hf, hh] at h
      rw [Bool.eq_false_iff]
      intro hi
      unfold isI64 at hi
      simp at hi
      simp at h
      apply h
      unfold loW
      rw [IntKind.wrap_i64]
      split <;> omega
    exact fin_eq (.tup [.int _ _, .bool _]) rfl (by rw [hn]; rfl)
  · have h : (hiW x != (IntKind.i64.wrap (loW x)).fdiv (2 ^ min (63 : Int).toNat IntKind.i64.bits)) = false := h
    rw [hf, hh] at h
    have h : x / 18446744073709551616 = (if IntKind.i64.wrap (loW x) < 0 then -1 else 0) := by simpa using h
    have hn : isI64 x = true := by
      unfold isI64
      unfold loW at h
      rw [IntKind.wrap_i64] at h
      simp
      split at h <;> omega
    refine fin_eq (.tup [.int _ _, .bool _]) rfl ?_
    rw [hn]
    have : IntKind.i64.wrap (loW x) = x := by
      unfold loW at h ⊢
      rw [IntKind.wrap_i64] at h ⊢
      split at h <;> omega
    show DV.tup [.int .i64 (IntKind.i64.wrap (loW x)), .bool true] = .tup [.int .i64 x, .bool true]
    rw [this]
end Go.Proofs.Ytckcagmlippneaa
