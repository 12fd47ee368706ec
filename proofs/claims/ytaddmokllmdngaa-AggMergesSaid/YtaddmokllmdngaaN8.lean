/- Values compared: classes; the reference's there. -/
import Derived.Test.YtaddmokllmdngaaN7
namespace Go.Proofs.Ytaddmokllmdngaa
open Go Go.Pv Go.RowKit
set_option linter.unusedSimpArgs false
set_option linter.unusedVariables false
set_option maxRecDepth 10000

def clsW (m : Bool) (k : Int) : Int := bif !m then 0 else bif k == 0 then 1 else bif k == 2 then 3 else 2
def clsR (k : Int) : Int := bif k == 0 then 0 else bif k == 2 then 2 else 1
theorem classW (k i : Int) (f : Nat) (s : ByteArray) (hf : f < 18446744073709551616) : FnC Try.prog 73 [.agg (valC k i f s)] (· = .int .i64 (clsW (mayB k i f s) k)) := by
  have c := mayW k i f s hf
  generalize mayB k i f s = m at *
  have v1 : (!m) = true → (0 : Int) = clsW m k := fun h => by unfold clsW; rw [h]; rfl
  have v2 : (!m) = false → (k == 0) = true → (1 : Int) = clsW m k := fun h h2 => by unfold clsW; rw [h, h2]; rfl
  have v3 : (!m) = false → (k == 0) = false → (k == 2) = true → (3 : Int) = clsW m k := fun h h2 h3 => by unfold clsW; rw [h, h2, h3]; rfl
  have v4 : (!m) = false → (k == 0) = false → (k == 2) = false → (2 : Int) = clsW m k := fun h h2 h3 => by unfold clsW; rw [h, h2, h3]; rfl
  refine FnC.mk Try.func73 rfl rfl (Nat.le_of_ble_eq_true rfl) (by simp [valC]) (by rintro _ rfl; simp) ?_
  refine joinK.direct ?_
  refine callK.eq c ?_
  refine ⟨fun h => ?_, fun h => ?_⟩
  · exact fin_eq (.int _ _) rfl (int_eq (v1 h))
  refine ⟨fun h2 => ?_, fun h2 => ?_⟩
  · exact fin_eq (.int _ _) rfl (int_eq (v2 h h2))
  refine ⟨fun h3 => ?_, fun h3 => join_go ?_⟩
  · exact fin_eq (.int _ _) rfl (int_eq (v3 h h2 h3))
  · exact fin_eq (.int _ _) rfl (int_eq (v4 h h2 h3))
theorem classR (k i : Int) (f : Nat) (s : ByteArray) : FnC Try.prog 41 [.agg (valC k i f s)] (· = .int .i64 (clsR k)) := by
  have v1 : (k == 0) = true → (0 : Int) = clsR k := fun h => by unfold clsR; rw [h]; rfl
  have v2 : (k == 0) = false → (k == 2) = true → (2 : Int) = clsR k := fun h h2 => by unfold clsR; rw [h, h2]; rfl
  have v3 : (k == 0) = false → (k == 2) = false → (1 : Int) = clsR k := fun h h2 => by unfold clsR; rw [h, h2]; rfl
  refine FnC.mk Try.func41 rfl rfl (Nat.le_of_ble_eq_true rfl) (by simp [valC]) (by rintro _ rfl; simp) ?_
  refine joinK.direct ⟨fun h => ?_, fun h => join_go ?_⟩
  · exact fin_eq (.int _ _) rfl (int_eq (v1 h))
  refine joinK.direct ⟨fun h2 => ?_, fun h2 => join_go ?_⟩
  · exact fin_eq (.int _ _) rfl (int_eq (v2 h h2))
  · exact fin_eq (.int _ _) rfl (int_eq (v3 h h2))
theorem thereR (k i : Int) (f : Nat) (s : ByteArray) (hf : f < 18446744073709551616) : FnC Try.prog 27 [.agg (valC k i f s)] (· = .bool (bif k != 0 then mayB k i f s else false)) := by
  have c := mayR k i f s hf
  refine FnC.mk Try.func27 rfl rfl (Nat.le_of_ble_eq_true rfl) (by simp [valC]) (by rintro _ rfl; simp) ?_
  refine guardK.spec ?_
  refine callE.mk c ?_
  exact fin_eq (.bool _) rfl rfl
end Go.Proofs.Ytaddmokllmdngaa
