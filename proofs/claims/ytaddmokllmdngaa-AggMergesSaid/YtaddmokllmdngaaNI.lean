/- States put together: the plain parts; the program's ends; the reference's plus. -/
import Derived.Test.YtaddmokllmdngaaNH
namespace Go.Proofs.Ytaddmokllmdngaa
open Go Go.Pv Go.RowKit
set_option linter.unusedSimpArgs false
set_option linter.unusedVariables false
set_option maxRecDepth 10000

theorem plus22 (x y : Int) : FnC Try.prog 26 [.int .i64 (hiW x), .int .u64 (loW x), .int .i64 (hiW y), .int .u64 (loW y)] (· = .tup [.int .i64 (hiW (x + y)), .int .u64 (loW (x + y))]) := by
  have e1 : IntKind.u64.wrap (loW x + loW y) = loW (x + y) := by unfold loW; rw [IntKind.wrap_u64]; omega
  have e2 : decide (loW (x + y) < loW x) = true → IntKind.i64.wrap (IntKind.u64.wrap (IntKind.u64.wrap (IntKind.u64.wrap (hiW x) + IntKind.u64.wrap (hiW y)) + 1)) = hiW (x + y) := fun h => by
    have h := of_decide_eq_true h
    unfold loW at h; unfold hiW
    simp only [IntKind.wrap_i64, IntKind.wrap_u64]; omega
  have e3 : decide (loW (x + y) < loW x) = false → IntKind.i64.wrap (IntKind.u64.wrap (IntKind.u64.wrap (hiW x) + IntKind.u64.wrap (hiW y))) = hiW (x + y) := fun h => by
    have h := of_decide_eq_false h
    unfold loW at h; unfold hiW
    simp only [IntKind.wrap_i64, IntKind.wrap_u64]; omega
  refine FnC.mk Try.func26 rfl rfl (Nat.le_of_ble_eq_true rfl) (by simp) (by rintro _ rfl; simp) ?_
  refine joinK.direct ⟨fun h => join_go ?_, fun h => join_go ?_⟩
  · rw [show IntKind.u64.wrap (loW x + loW y) = loW (x + y) from e1] at h
    refine fin_eq (.tup [.int _ _, .int _ _]) rfl ?_
    rw [e1]; exact congrArg (fun q => DV.tup [.int .i64 q, .int .u64 (loW (x + y))]) (e2 h)
  · rw [show IntKind.u64.wrap (loW x + loW y) = loW (x + y) from e1] at h
    refine fin_eq (.tup [.int _ _, .int _ _]) rfl ?_
    rw [e1]; exact congrArg (fun q => DV.tup [.int .i64 q, .int .u64 (loW (x + y))]) (e3 h)

/-- Is a value taken as the least (the greatest)? -/
def takeL (k i : Int) (f : Nat) (s : ByteArray) (k' i' : Int) (f' : Nat) (s' : ByteArray) : Bool :=
  bif (bif k != 0 then mayB k i f s else false) then (bif k' == 0 then true else decide (cmpV k i f s k' i' f' s' < 0)) else false
def takeG (k i : Int) (f : Nat) (s : ByteArray) (k' i' : Int) (f' : Nat) (s' : ByteArray) : Bool :=
  bif (bif k != 0 then mayB k i f s else false) then (bif k' == 0 then true else decide (cmpV k i f s k' i' f' s' > 0)) else false
def SV.lo (v : SV) (k i : Int) (f : Nat) (s : ByteArray) : SV := bif takeL k i f s v.k v.i v.f v.s then { v with k := k, i := i, f := f, s := s } else v
def SV.hi (v : SV) (k i : Int) (f : Nat) (s : ByteArray) : SV := bif takeG k i f s v.k' v.i' v.f' v.s' then { v with k' := k, i' := i, f' := f, s' := s } else v
structure SV.F (v : SV) : Prop where
  f : v.f < 18446744073709551616
  f' : v.f' < 18446744073709551616
theorem lo_F {v : SV} (h : v.F) (k i : Int) {f : Nat} (s : ByteArray) (hf : f < 18446744073709551616) : (v.lo k i f s).F := by
  unfold SV.lo; cases takeL k i f s v.k v.i v.f v.s
  · exact h
  · exact ⟨hf, h.f'⟩
theorem hi_F {v : SV} (h : v.F) (k i : Int) {f : Nat} (s : ByteArray) (hf : f < 18446744073709551616) : (v.hi k i f s).F := by
  unfold SV.hi; cases takeG k i f s v.k' v.i' v.f' v.s'
  · exact h
  · exact ⟨h.f, hf⟩
def sumSV (a b : SV) : SV := { a with r := IntKind.i64.wrap (a.r + b.r), c := IntKind.i64.wrap (a.c + b.c), x := a.x + b.x }
/-- Two states put together. -/
def mrg (a b : SV) : SV := ((sumSV a b).lo b.k b.i b.f b.s).hi b.k' b.i' b.f' b.s'
def zeroSV : SV := ⟨0, 0, 0, 0, 0, 0, .empty, 0, 0, 0, .empty⟩
def mrgL (l : List SV) : SV := l.foldl mrg zeroSV
theorem mrg_F {a b : SV} (ha : a.F) (hb : b.F) : (mrg a b).F := hi_F (lo_F (⟨ha.f, ha.f'⟩ : (sumSV a b).F) _ _ _ hb.f) _ _ _ hb.f'
theorem mrgL_F : ∀ (l : List SV) (a : SV), a.F → (∀ b ∈ l, b.F) → (l.foldl mrg a).F
  | [], a, ha, _ => ha
  | b :: l, a, ha, h => mrgL_F l _ (mrg_F ha (h b (List.mem_cons_self ..))) fun c hc => h c (List.mem_cons_of_mem _ hc)
theorem mrgL_take {l : List SV} {i : Nat} {b : SV} (h : l[i]? = some b) : mrgL (l.take (i + 1)) = mrg (mrgL (l.take i)) b := by
  unfold mrgL
  rw [List.take_add_one, h, List.foldl_append]; rfl
theorem mrgL_takeF {l : List SV} (h : ∀ b ∈ l, b.F) (i : Nat) : (mrgL (l.take i)).F :=
  mrgL_F _ _ ⟨by decide, by decide⟩ fun b hb => h b (List.mem_of_mem_take hb)

section
variable {k i : Int} {f : Nat} {s : ByteArray} {k' i' : Int} {f' : Nat} {s' : ByteArray}
theorem tL0 (h : (k != 0) = false) : takeL k i f s k' i' f' s' = false := by unfold takeL; rw [h]; rfl
theorem tL1 (h : (k != 0) = true) (h1 : mayB k i f s = false) : takeL k i f s k' i' f' s' = false := by unfold takeL; rw [h, h1]; rfl
theorem tL2 (h : (k != 0) = true) (h1 : mayB k i f s = true) (h2 : (k' == 0) = true) : takeL k i f s k' i' f' s' = true := by unfold takeL; rw [h, h1, h2]; rfl
theorem tL3 (h : (k != 0) = true) (h1 : mayB k i f s = true) (h2 : (k' == 0) = false) {b : Bool} (h3 : decide (cmpV k i f s k' i' f' s' < 0) = b) : takeL k i f s k' i' f' s' = b := by unfold takeL; rw [h, h1, h2]; exact h3
theorem tG0 (h : (k != 0) = false) : takeG k i f s k' i' f' s' = false := by unfold takeG; rw [h]; rfl
theorem tG1 (h : (k != 0) = true) (h1 : mayB k i f s = false) : takeG k i f s k' i' f' s' = false := by unfold takeG; rw [h, h1]; rfl
theorem tG2 (h : (k != 0) = true) (h1 : mayB k i f s = true) (h2 : (k' == 0) = true) : takeG k i f s k' i' f' s' = true := by unfold takeG; rw [h, h1, h2]; rfl
theorem tG3 (h : (k != 0) = true) (h1 : mayB k i f s = true) (h2 : (k' == 0) = false) {b : Bool} (h3 : decide (cmpV k i f s k' i' f' s' > 0) = b) : takeG k i f s k' i' f' s' = b := by unfold takeG; rw [h, h1, h2]; exact h3
theorem uL0 (h : (bif k != 0 then mayB k i f s else false) = false) : takeL k i f s k' i' f' s' = false := by unfold takeL; rw [h]; rfl
theorem uL2 (h : (bif k != 0 then mayB k i f s else false) = true) (h2 : (k' == 0) = true) : takeL k i f s k' i' f' s' = true := by unfold takeL; rw [h, h2]; rfl
theorem uL3 (h : (bif k != 0 then mayB k i f s else false) = true) (h2 : (k' == 0) = false) {b : Bool} (h3 : decide (cmpV k i f s k' i' f' s' < 0) = b) : takeL k i f s k' i' f' s' = b := by unfold takeL; rw [h, h2]; exact h3
theorem uG0 (h : (bif k != 0 then mayB k i f s else false) = false) : takeG k i f s k' i' f' s' = false := by unfold takeG; rw [h]; rfl
theorem uG2 (h : (bif k != 0 then mayB k i f s else false) = true) (h2 : (k' == 0) = true) : takeG k i f s k' i' f' s' = true := by unfold takeG; rw [h, h2]; rfl
theorem uG3 (h : (bif k != 0 then mayB k i f s else false) = true) (h2 : (k' == 0) = false) {b : Bool} (h3 : decide (cmpV k i f s k' i' f' s' > 0) = b) : takeG k i f s k' i' f' s' = b := by unfold takeG; rw [h, h2]; exact h3
end
theorem lo_t {v : SV} {k i : Int} {f : Nat} {s : ByteArray} (h : takeL k i f s v.k v.i v.f v.s = true) : stC { v with k := k, i := i, f := f, s := s } = stC (v.lo k i f s) := by unfold SV.lo; rw [h]; rfl
theorem lo_f {v : SV} {k i : Int} {f : Nat} {s : ByteArray} (h : takeL k i f s v.k v.i v.f v.s = false) : stC v = stC (v.lo k i f s) := by unfold SV.lo; rw [h]; rfl
theorem hi_t {v : SV} {k i : Int} {f : Nat} {s : ByteArray} (h : takeG k i f s v.k' v.i' v.f' v.s' = true) : stC { v with k' := k, i' := i, f' := f, s' := s } = stC (v.hi k i f s) := by unfold SV.hi; rw [h]; rfl
theorem hi_f {v : SV} {k i : Int} {f : Nat} {s : ByteArray} (h : takeG k i f s v.k' v.i' v.f' v.s' = false) : stC v = stC (v.hi k i f s) := by unfold SV.hi; rw [h]; rfl
end Go.Proofs.Ytaddmokllmdngaa
