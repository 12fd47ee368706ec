/- AggAnswers: the law's walk; a state's type; what is handed in. -/
import Derived.Test.YtaddmokllmdngaaM3
import Derived.Test.YtaddmokllmdngaaPvL
namespace Go.Proofs.Ytaddmokllmdngaa
open Go Go.Pv Go.RowKit Go.ChangeShapes Go.WideShapes Go.ChangeAt
set_option linter.unusedSimpArgs false
set_option linter.unusedVariables false
set_option maxRecDepth 10000

theorem snap_r1 (v : SV) (g : Nat → Option PO) (id : Nat) (h : g id = some ⟨true, 12, 42, [stC v]⟩) : Snap g (.ref id 0 1) (.list ([v].map stC)) :=
  snap_whole (po := ⟨true, 12, 42, [stC v]⟩) h (stC_blw [v])
theorem lawAnswers (kind : Int) (hk : i64R kind) (v : SV) (hv : v.Ok) : FnC Try.prog 7 [.int .i64 kind, .agg (stC v)] (· = .bool true) := by
  have c1 := answerR kind v hv
  have c2 := statesL [v] (by show 1 * 112 ≤ _; decide) (by show 1 ≤ _; decide)
  have c3 := answerW kind v hv
  have c4 := alikeL (ans kind v).k (ans kind v).i (ans kind v).f (ans kind v).s
  unfold ansD at c1 c3
  generalize ans kind v = a at *
  obtain ⟨ak, ai, af, az, ae⟩ := a
  simp only at c1 c3 c4
  have he : (ae == ae) = true := by simp
  refine FnC.mk Try.func7 rfl rfl (Nat.le_of_ble_eq_true rfl) (by intro d hd; simp at hd; rcases hd with rfl | rfl; simp; rw [blw_agg]; exact st_blw1 v) (by rintro _ rfl; simp) ?_
  refine callK.eq c1 ?_
  refine callK.give [2] c2 ⟨snap_r1 v _ _ rfl, trivial⟩ ?_
  refine ⟨by decide, (by show (0 : Int) < 1; decide), optK.mk rfl ?_⟩
  refine callK.eq c3 ?_
  refine guardK.spec ?_
  refine callE.mk c4 ?_
  refine fin_eq (.bool _) rfl (bool_eq ?_)
  show (bif ae == ae then true else false) = true
  rw [he]; rfl
end Go.Proofs.Ytaddmokllmdngaa
