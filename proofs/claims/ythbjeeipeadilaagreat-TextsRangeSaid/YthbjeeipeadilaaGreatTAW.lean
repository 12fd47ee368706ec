/- The closed part of layer 20: what every right program says first. -/
import Derived.Test.YthbjeeipeadilaaGreatTA1
import Derived.Test.YthbjeeipeadilaaGreatTA2
import Derived.Test.YthbjeeipeadilaaGreatTA3
import Derived.Test.YthbjeeipeadilaaGreatB5
set_option linter.unusedSimpArgs false
set_option linter.unusedVariables false
set_option maxRecDepth 100000
namespace Go.Proofs.YthbjeeipeadilaaGreat
open Go Go.Pv Go.RowKit
theorem exC : FnC Tryz.prog 31 [] (· = exD) := runC_true (readOK extOK) 1000 100 (by kernel_rfl)
theorem codC : FnC Tryz.prog 32 [] (· = codD) := runC_true (readOK extOK) 1000 100 (by kernel_rfl)
theorem textC : FnC Tryz.prog 34 [.str (bsA [97, 98])] (· = .agg [.int .i64 2, .int .i64 0, .flt .f64 0, .str (bsA [97, 98])]) := runC_true (readOK extOK) 1000 100 (by kernel_rfl)
theorem numC0 : FnC Tryz.prog 35 [.int .i64 0] (· = .int .i64 0) := runC_true (readOK extOK) 1000 100 (by kernel_rfl)
theorem has1 : FnC Tryz.prog 36 [setD 5 25, .list (bools [true, false, false, true, true])] (· = .bool true) := runC_true (readOK extOK) 1000 100 (by kernel_rfl)
theorem has2 : FnC Tryz.prog 36 [setD 5 2, .list (bools [false, true, false, false, false])] (· = .bool true) := runC_true (readOK extOK) 1000 100 (by kernel_rfl)
theorem rangeL : FnC Tryz.prog 12 [.list [[.str (bsA [97])], [.str (bsA [97, 98])], [.str (bsA [97, 98, 99])], [.str (bsA [98])]], .str (bsA [97, 98])] (· = .tup [.int .i64 1, .int .i64 3]) := runC_true (readOK extOK) 1000 100 (by kernel_rfl)
def colPO : Option PO := some ⟨false, 3, 46, [[.str (bsA [116]), .int .i64 2, .bool true]]⟩
theorem snapB {g : Nat → Option PO} {id : Nat} {f : Bool} (l : List Bool) (h : g id = some ⟨f, 1, 4, bools l⟩) : Snap g (.ref id 0 l.length) (.list (bools l)) := by
  have hs := snap_whole (po := ⟨f, 1, 4, bools l⟩) (g := g) (id := id) h (bools_blw l)
  rwa [show (PO.mk f 1 4 (bools l)).els.length = l.length from bools_length l] at hs
theorem setD_snap (g : Nat → Option PO) (n w : Int) : Snap g (setD n w) (setD n w) := .pure _ (by simp [setD])
theorem str_snap (g : Nat → Option PO) (s : ByteArray) : Snap g (.str s) (.str s) := .pure _ (by simp)
theorem awake20 : FnC Tryz.prog 11 [] (· = .bool true) := by
  refine FnC.mk Tryz.func11 rfl rfl (Nat.le_of_ble_eq_true rfl) (by simp) (by rintro _ rfl; simp) ?_
  refine joinK.use [] (fun _ : Unit => []) (fun _ => []) (fun _ => True) ?_ ?_
  · refine loopK.use [1, 2] (fun i : Nat => [.pobj 0 0 0, .int .i64 i]) (fun _ => [colPO]) (fun i => i ≤ 3) (fun i => 3 - i) 0 (Nat.zero_le _) ⟨rfl, rfl, trivial⟩ (.inl rfl) ?_
    intro i hi
    by_cases h3 : i = 3
    · subst h3
      refine joinK.direct ?_
      refine ⟨fun h => absurd h (by decide), fun _ => ?_⟩
      exact join_gc () trivial (weak_gc [] [] rfl trivial trivial)
    · obtain ⟨cs, hm, ht, hg⟩ : ∃ cs, FnC Tryz.prog 30 [colD, exD, .agg [.int .i64 (i + 1 : Nat), .int .i64 0]] (· = .tup [.pim cs, .bool true]) ∧ FnC Tryz.prog 33 [.pim cs, predD] (· = .tup [setD 5 25, setD 5 2, .int .i64 0]) ∧
          ([[.int .i64 1, .int .i64 0], [.int .i64 2, .int .i64 0], [.int .i64 3, .int .i64 0]] : List (List DV))[(i : Int).toNat]? = some [.int .i64 (i + 1 : Nat), .int .i64 0] := by
        rcases (show i = 0 ∨ i = 1 ∨ i = 2 by omega) with rfl | rfl | rfl
        · exact ⟨_, made1, test1, rfl⟩
        · exact ⟨_, made2, test2, rfl⟩
        · exact ⟨_, made3, test3, rfl⟩
      have hd : decide ((i : Int) < 3) = true := decide_eq_true (by omega)
      have e0 : (0 : Int) ≤ (i : Int) := by omega
      have e1 : (i : Int) < 3 := by omega
      have hw1 : IntKind.i64.wrap ((i : Int) + 1) = ((i + 1 : Nat) : Int) := by rw [IntKind.wrap_i64]; omega
      have f1 : i + 1 ≤ 3 := by omega
      have f2 : 3 - (i + 1) < 3 - i := by omega
      refine joinK.direct ?_
      refine ⟨fun _ => join_go ?_, fun h => absurd (hd.symm.trans h) (by decide)⟩
      refine joinK.direct ?_
      refine drawK.mk (by kernel_rfl) ?_
      refine callE.mk exC ?_
      refine callE.mk codC ?_
      refine ⟨e0, e1, optK.mk hg ?_⟩
      refine callE.mk hm ?_
      refine joinK.direct ?_
      refine ⟨fun h => absurd h (by decide), fun _ => join_go ?_⟩
      refine callK.eq textC ?_
      refine callK.eq ht ?_
      refine guardK.split ?_
      refine callK.eq numC0 ?_
      refine ⟨fun _ => ?_, fun h => absurd h (by decide)⟩
      refine callK.lend [1] has1 ⟨setD_snap _ _ _, snapB (f := true) [true, false, false, true, true] rfl, trivial⟩ (by simp) ?_
      refine ⟨fun _ => ?_, fun h => absurd h (by decide)⟩
      refine callK.lend [2] has2 ⟨setD_snap _ _ _, snapB (f := true) [false, true, false, false, false] rfl, trivial⟩ (by simp) ?_
      refine ⟨fun h => absurd h (by decide), fun _ => join_go ?_⟩
      exact loop_next (i + 1) f1 f2 ⟨rfl, int_eq hw1, trivial⟩ (.inr ⟨_, rfl, (by intro v hv; simp at hv; rcases hv with rfl | rfl <;> simp), (by intro po hpo ds hds d hd; simp [colPO] at hpo; subst hpo; simp at hds; subst hds; simp at hd; rcases hd with rfl | rfl | rfl <;> simp)⟩)
  rintro ⟨⟩ -
  refine callK.lend [0] rangeL ⟨snap_whole (g := fobj _) (id := 0) (po := ⟨true, 1, 9, [[.str (bsA [97])], [.str (bsA [97, 98])], [.str (bsA [97, 98, 99])], [.str (bsA [98])]]⟩) rfl (by intro ds hds d hd; simp at hds; rcases hds with rfl | rfl | rfl | rfl <;> (simp at hd; subst hd; simp)), str_snap _ _, trivial⟩ (by simp) ?_
  refine guardK.spec ?_
  exact fin_eq (.bool _) rfl rfl
end Go.Proofs.YthbjeeipeadilaaGreat
