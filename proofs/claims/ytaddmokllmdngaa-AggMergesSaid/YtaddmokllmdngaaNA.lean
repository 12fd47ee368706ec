/- Values compared: texts, by the library. -/
import Derived.Test.YtaddmokllmdngaaN9
namespace Go.Proofs.Ytaddmokllmdngaa
open Go Go.Pv Go.RowKit
set_option linter.unusedSimpArgs false
set_option linter.unusedVariables false
set_option maxRecDepth 10000

theorem twoS {h : Hp} {β : Nat → Bl} {vs : Array Value} {a b : ByteArray} (hs : vs.size = 2) (hr : ∀ (i : Nat) (v : Value) (d : DV), vs[i]? = some v → [DV.str a, .str b][i]? = some d → Rep h β v d) : vs = #[.string a, .string b] := by
  have e : ∀ (i : Nat) d v, [DV.str a, .str b][i]? = some d → toV d = some v → vs[i]? = some v := by
    intro i d v e1 e2
    have hlt : i < vs.size := by have := (List.getElem?_eq_some_iff.1 e1).1; simp at this; omega
    have r := hr i _ d (Array.getElem?_eq_getElem hlt) e1
    rw [Array.getElem?_eq_getElem hlt, rep_toV e2 r]
  apply Array.ext_getElem?
  intro i
  match i with
  | 0 => exact e 0 _ _ rfl rfl
  | 1 => exact e 1 _ _ rfl rfl
  | i + 2 => rw [Array.getElem?_eq_none (by omega)]; simp
theorem cmpStr (a b : ByteArray) : FnC Try.prog 98 [.str a, .str b] (· = .int .i64 (Extern.BytealgCompare.cmp a b)) :=
  FnC.ext (by simp) (by rintro _ rfl; simp) fun vs h w hs hr => by
    obtain rfl := twoS hs hr
    refine ⟨.int .i64 (Extern.BytealgCompare.cmp a b), _, ?_, .int _ _, rfl⟩
    rw [run_callFunc_extern Try.func98 (by kernel_rfl) (by kernel_rfl) (by kernel_rfl) (e := Extern.BytealgCompare.compare) (by kernel_rfl)]; rfl
theorem cmpString (a b : ByteArray) : FnC Try.prog 74 [.str a, .str b] (· = .int .i64 (Extern.BytealgCompare.cmp a b)) := by
  have c : FnC Try.prog 91 [.str a, .str b] (· = .int .i64 (Extern.BytealgCompare.cmp a b)) := by
    refine FnC.mk Try.func91 rfl rfl (Nat.le_of_ble_eq_true rfl) (by simp) (by rintro _ rfl; simp) ?_
    refine callK.eq (cmpStr a b) ?_
    exact fin_eq (.int _ _) rfl rfl
  refine FnC.mk Try.func74 rfl rfl (Nat.le_of_ble_eq_true rfl) (by simp) (by rintro _ rfl; simp) ?_
  refine callK.eq c ?_
  exact fin_eq (.int _ _) rfl rfl
end Go.Proofs.Ytaddmokllmdngaa
