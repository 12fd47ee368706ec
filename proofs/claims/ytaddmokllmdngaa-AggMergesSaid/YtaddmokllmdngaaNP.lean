/- AggMerges: the law's walk: its parts. -/
import Derived.Test.YtaddmokllmdngaaNM
namespace Go.Proofs.Ytaddmokllmdngaa
open Go Go.Pv Go.RowKit
set_option linter.unusedSimpArgs false
set_option linter.unusedVariables false
set_option maxRecDepth 10000

def markC : List DV := [.int .i64 (-77), .int .i64 77, .int .i64 0, .int .u64 0, .int .i64 0, .int .i64 0, .flt .f64 0, .str .empty, .int .i64 0, .int .i64 0, .flt .f64 0, .str .empty]
def markPO : Option PO := some ⟨false, 12, 38, [markC]⟩
def xPO (xs : List SV) : Option PO := some ⟨false, 12, 38, xs.map stC ++ [markC, markC]⟩
def nowPO (xs : List SV) (n i : Nat) : Option PO := some ⟨false, 12, 42, (xs.take i).map stC ++ List.replicate (n - i) (stC zeroSV)⟩
theorem markC_blw : ∀ ds ∈ [markC, markC], ∀ d ∈ ds, Blw 0 d := by
  intro ds hds d hd
  have : ds = markC := by simp at hds; exact hds
  subst this
  unfold markC at hd; simp at hd
  rcases hd with rfl | rfl | rfl | rfl | rfl | rfl | rfl | rfl | rfl | rfl | rfl | rfl <;> simp
theorem xPO_blw (xs : List SV) : ∀ ds ∈ xs.map stC ++ [markC, markC], ∀ d ∈ ds, Blw 0 d := by
  intro ds hds
  rcases List.mem_append.1 hds with h | h
  · exact stC_blw xs ds h
  · exact markC_blw ds h
theorem now_blw (xs : List SV) (n i : Nat) : ∀ ds ∈ (xs.take i).map stC ++ List.replicate (n - i) (stC zeroSV), ∀ d ∈ ds, Blw 0 d := by
  intro ds hds
  rcases List.mem_append.1 hds with h | h
  · exact stC_blw _ ds h
  · rw [List.eq_of_mem_replicate h]; exact stC_blw [zeroSV] _ (by simp)
theorem x_at {xs : List SV} {i : Nat} {v : SV} (h : xs[i]? = some v) : (xs.map stC ++ [markC, markC])[0 + (i : Int).toNat]? = some (stC v) := by
  have hi := (List.getElem?_eq_some_iff.1 h).1
  rw [show 0 + (i : Int).toNat = i by omega, List.getElem?_append_left (by simpa using hi), List.getElem?_map, h]; rfl
theorem x_mark (xs : List SV) (j : Nat) (hj : j < 2) : (xs.map stC ++ [markC, markC])[0 + (((xs.length + j : Nat)) : Int).toNat]? = some markC := by
  rw [show 0 + (((xs.length + j : Nat)) : Int).toNat = xs.length + j by omega, List.getElem?_append_right (by simp)]
  have : xs.length + j - (xs.map stC).length = j := by simp
  rw [this]
  have : j = 0 ∨ j = 1 := by omega
  rcases this with rfl | rfl <;> rfl
theorem now_at {xs : List SV} {n i : Nat} (hx : xs.length = n) (hi : i < n) : ((xs.take i).map stC ++ List.replicate (n - i) (stC zeroSV))[0 + (i : Int).toNat]? = some (stC zeroSV) := by
  rw [show 0 + (i : Int).toNat = i by omega, List.getElem?_append_right (by simp; omega)]
  simp only [List.length_map, List.length_take]
  rw [show i - min i xs.length = 0 by omega, List.getElem?_replicate, if_pos (by omega)]
theorem now_set {xs : List SV} {n i : Nat} {v : SV} (hx : xs.length = n) (h : xs[i]? = some v) :
    ((xs.take i).map stC ++ List.replicate (n - i) (stC zeroSV)).set (0 + (i : Int).toNat) (stC v) = (xs.take (i + 1)).map stC ++ List.replicate (n - (i + 1)) (stC zeroSV) := by
  have hi := (List.getElem?_eq_some_iff.1 h).1
  have e1 : 0 + (i : Int).toNat = i := by omega
  have e2 : n - i = (n - (i + 1)) + 1 := by omega
  have e3 : ((xs.take i).map stC).length = i := by simp; omega
  rw [e1, List.set_append_right _ _ (by omega), e3, Nat.sub_self, e2, List.replicate_succ, List.set_cons_zero, List.take_add_one, h, List.map_append]
  simp
theorem x_set {xs : List SV} {i : Nat} {v : SV} (hi : i < xs.length) : (xs.map stC ++ [markC, markC]).set (0 + (i : Int).toNat) (stC v) = (xs.set i v).map stC ++ [markC, markC] := by
  rw [show 0 + (i : Int).toNat = i by omega, List.set_append_left _ _ (by simpa using hi), List.map_set]
theorem now_end {xs : List SV} {n : Nat} (hx : xs.length = n) : (xs.take n).map stC ++ List.replicate (n - n) (stC zeroSV) = xs.map stC := by
  rw [← hx, List.take_length, Nat.sub_self]; simp
theorem now_0 {xs : List SV} {n : Nat} : List.replicate n (stC zeroSV) = (xs.take 0).map stC ++ List.replicate (n - 0) (stC zeroSV) := by simp
/-- What a state is turned to. -/
def turnSV (t i : Nat) (v : SV) : SV :=
  { v with r := IntKind.i64.wrap (IntKind.i64.wrap (v.r + i) + 1), x := hiW v.x * 18446744073709551616 + IntKind.u64.wrap (loW v.x * 3), i := bif v.k == 1 then IntKind.i64.wrap (v.i - t) else v.i }
theorem mk_x (H W : Int) (h : -9223372036854775808 ≤ H ∧ H < 9223372036854775808) (w : 0 ≤ W ∧ W < 18446744073709551616) : hiW (H * 18446744073709551616 + W) = H ∧ loW (H * 18446744073709551616 + W) = W := by
  unfold hiW loW
  have e : (H * 18446744073709551616 + W) / 18446744073709551616 = H := by omega
  rw [e, IntKind.wrap_i64]; omega
theorem turn_x (x : Int) : hiW (hiW x * 18446744073709551616 + IntKind.u64.wrap (loW x * 3)) = hiW x ∧ loW (hiW x * 18446744073709551616 + IntKind.u64.wrap (loW x * 3)) = IntKind.u64.wrap (loW x * 3) := by
  refine mk_x _ _ ?_ ?_
  · unfold hiW; rw [IntKind.wrap_i64]; omega
  · rw [IntKind.wrap_u64]; omega
theorem turn_t {t i : Nat} {v : SV} (h : (v.k == 1) = true) : [DV.int .i64 (IntKind.i64.wrap (IntKind.i64.wrap (v.r + i) + 1)), .int .i64 v.c, .int .i64 (hiW v.x), .int .u64 (IntKind.u64.wrap (loW v.x * 3)), .int .i64 v.k, .int .i64 (IntKind.i64.wrap (v.i - t)), .flt .f64 v.f, .str v.s, .int .i64 v.k', .int .i64 v.i', .flt .f64 v.f', .str v.s'] = stC (turnSV t i v) := by
  unfold turnSV stC; rw [h, (turn_x v.x).1, (turn_x v.x).2]; rfl
theorem turn_f {t i : Nat} {v : SV} (h : (v.k == 1) = false) : [DV.int .i64 (IntKind.i64.wrap (IntKind.i64.wrap (v.r + i) + 1)), .int .i64 v.c, .int .i64 (hiW v.x), .int .u64 (IntKind.u64.wrap (loW v.x * 3)), .int .i64 v.k, .int .i64 v.i, .flt .f64 v.f, .str v.s, .int .i64 v.k', .int .i64 v.i', .flt .f64 v.f', .str v.s'] = stC (turnSV t i v) := by
  unfold turnSV stC; rw [h, (turn_x v.x).1, (turn_x v.x).2]; rfl
theorem turn_F {t i : Nat} {v : SV} (h : v.F) : (turnSV t i v).F := ⟨h.f, h.f'⟩
theorem set_F {xs : List SV} {i : Nat} {v : SV} (h : ∀ b ∈ xs, b.F) (hv : v.F) : ∀ b ∈ xs.set i v, b.F := fun b hb => by
  rcases List.mem_or_eq_of_mem_set hb with h1 | rfl
  · exact h b h1
  · exact hv
theorem snap_x (xs : List SV) (g : Nat → Option PO) (id : Nat) (h : g id = some ⟨true, 12, 38, xs.map stC ++ [markC, markC]⟩) : Snap g (.ref id 0 xs.length) (.list (xs.map stC)) := by
  have hs := snap_ref (po := ⟨true, 12, 38, xs.map stC ++ [markC, markC]⟩) (g := g) (id := id) (off := 0) (len := xs.length) h (xPO_blw xs) (by simp)
  have e : (((xs.map stC ++ [markC, markC])).drop 0).take xs.length = xs.map stC := by
    rw [List.drop_zero, show xs.length = (xs.map stC).length by simp, List.take_left]
  rwa [show (PO.mk true 12 38 (xs.map stC ++ [markC, markC])).els = xs.map stC ++ [markC, markC] from rfl, e] at hs
theorem snap_now (xs : List SV) (g : Nat → Option PO) (id : Nat) (h : g id = some ⟨true, 12, 42, xs.map stC⟩) : Snap g (.ref id 0 xs.length) (.list (xs.map stC)) := by
  have hs := snap_whole (po := ⟨true, 12, 42, xs.map stC⟩) (g := g) (id := id) h (stC_blw xs)
  rwa [show (PO.mk true 12 42 (xs.map stC)).els.length = xs.length from List.length_map ..] at hs
end Go.Proofs.Ytaddmokllmdngaa
