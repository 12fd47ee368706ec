/- Values compared: the reference's numbers, the other cases. -/
import Derived.Test.YtaddmokllmdngaaN6
namespace Go.Proofs.Ytaddmokllmdngaa
open Go Go.Pv Go.RowKit
set_option linter.unusedSimpArgs false
set_option linter.unusedVariables false
set_option maxRecDepth 10000
set_option exponentiation.threshold 2000

theorem numRR (ia ib : Int) (f g : Nat) (sa sb : ByteArray) (hf : Fin64 f) (hg : Fin64 g) : FnC Try.prog 44 [.agg (valC 3 ia f sa), .agg (valC 3 ib g sb)] (· = .int .i64 (sg (worth f) (worth g))) := by
  have e1 := lss_fin hf hg
  have e2 := gtr_fin hf hg
  refine FnC.mk Try.func44 rfl rfl (Nat.le_of_ble_eq_true rfl) (by simp [valC]) (by rintro _ rfl; simp) ?_
  refine joinK.direct ?_
  refine guardK.spec ?_
  refine ⟨fun _ => ?_, fun h => absurd h (by decide)⟩
  refine joinK.direct ⟨fun h1 => ?_, fun h1 => join_go ?_⟩
  · exact fin_eq (.int _ _) rfl (int_eq (sg_lt (e1.symm.trans h1)))
  refine joinK.direct ⟨fun h2 => ?_, fun h2 => join_go ?_⟩
  · exact fin_eq (.int _ _) rfl (int_eq (sg_gt (e1.symm.trans h1) (e2.symm.trans h2)))
  · exact fin_eq (.int _ _) rfl (int_eq (sg_eq (e1.symm.trans h1) (e2.symm.trans h2)))
theorem numII (i j : Int) (f g : Nat) (sa sb : ByteArray) : FnC Try.prog 44 [.agg (valC 1 i f sa), .agg (valC 1 j g sb)] (· = .int .i64 (sg i j)) := by
  refine FnC.mk Try.func44 rfl rfl (Nat.le_of_ble_eq_true rfl) (by simp [valC]) (by rintro _ rfl; simp) ?_
  refine joinK.direct ?_
  refine guardK.spec ?_
  refine ⟨fun h => absurd h (by decide), fun _ => join_go ?_⟩
  refine joinK.direct ?_
  refine guardK.spec ?_
  refine ⟨fun _ => ?_, fun h => absurd h (by decide)⟩
  refine callK.eq (intsR i j) ?_
  exact fin_eq (.int _ _) rfl rfl
theorem numRI (ia j : Int) (f g : Nat) (sa sb : ByteArray) (hf : Fin64 f) : FnC Try.prog 44 [.agg (valC 3 ia f sa), .agg (valC 1 j g sb)] (· = .int .i64 (IntKind.i64.wrap (0 - agn j f))) := by
  have c := numIR j ia g f sb sa hf
  generalize agn j f = r at *
  refine FnC.mk Try.func44 rfl rfl (Nat.le_of_ble_eq_true rfl) (by simp [valC]) (by rintro _ rfl; simp) ?_
  refine joinK.direct ?_
  refine guardK.spec ?_
  refine ⟨fun h => absurd h (by decide), fun _ => join_go ?_⟩
  refine joinK.direct ?_
  refine guardK.spec ?_
  refine ⟨fun h => absurd h (by decide), fun _ => join_go ?_⟩
  refine joinK.direct ⟨fun _ => ?_, fun h => absurd h (by decide)⟩
  refine callK.eq c ?_
  exact fin_eq (.int _ _) rfl rfl
end Go.Proofs.Ytaddmokllmdngaa
