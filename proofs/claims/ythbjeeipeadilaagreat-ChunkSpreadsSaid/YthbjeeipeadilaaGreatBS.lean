/- ChunkSpreads: the law's walk; what is handed in. -/
import Derived.Test.YthbjeeipeadilaaGreatB7
import Derived.Test.YthbjeeipeadilaaGreatRD
import Derived.Test.YthbjeeipeadilaaGreatIF
import Derived.Test.YthbjeeipeadilaaGreatPvL
import Derived.Test.YthbjeeipeadilaaGreatChecked
set_option linter.unusedSimpArgs false
set_option linter.unusedVariables false
set_option maxRecDepth 100000
namespace Go.Proofs.YthbjeeipeadilaaGreat
open Go Go.Pv Go.RowKit Go.ChangeShapes Go.WideShapes Go.ChangeAt

theorem knownC : FnC Tryz.prog 6 [] (· = .bool true) := runX_true (readOK extOK) 1000 100 (by kernel_rfl)
theorem lawSpreads (d n : List Bool) (hd : d.length ≤ maxLen) (hn : n.length ≤ maxLen) : FnC Tryz.prog 3 [.list (bools d), .list (bools n)] (· = .bool true) := by
  have hbd := bools_length d
  have hbn := bools_length n
  refine FnC.mk Tryz.func3 rfl rfl (Nat.le_of_ble_eq_true rfl) (bool2_blw d n) (by rintro _ rfl; simp) ?_
  refine joinK.direct ?_
  refine callK.eq knownC ?_
  refine ⟨fun h => absurd h (by decide), fun _ => join_go ?_⟩
  by_cases h1 : d.length ≤ 16777216
  · have c1 : decide (((bools d).length : Int) > 16777216) = false := decide_eq_false (by omega)
    by_cases h2 : n.length ≤ 16777216
    · have c2 : decide (((bools n).length : Int) > 16777216) = false := decide_eq_false (by omega)
      have cr := refSpread d n h1 h2
      refine joinK.direct ?_
      refine guardK.split ?_
      refine ⟨fun _ => ?_, fun h => absurd (c1.symm.trans h) (by decide)⟩
      refine ⟨fun h => absurd (c2.symm.trans h) (by decide), fun _ => join_go ?_⟩
      by_cases hc : d.length = n.count false
      · rw [if_pos hc] at cr
        have cs := sameSet (spr d n) (by rw [spr_length]; exact h2)
        refine callK.eq cr ?_
        refine callK.eq (ofC d h1) ?_
        refine callK.eq (ofC n h2) ?_
        refine callK.eq (spreadOk d n h1 h2 hc) ?_
        refine callK.eq (ofC n h2) ?_
        refine callK.eq (spreadNilL (setP n) (setP_blw n)) ?_
        refine callK.eq (ofC d h1) ?_
        refine callK.eq (spreadNilR d) ?_
        refine joinK.direct ?_
        refine guardK.spec ?_
        refine ⟨fun h => absurd h (by decide), fun _ => join_go ?_⟩
        refine joinK.direct ?_
        refine ⟨fun h => absurd h (by decide), fun _ => join_go ?_⟩
        refine callK.eq cs ?_
        exact fin_eq (.bool _) rfl rfl
      · rw [if_neg hc] at cr
        refine callK.eq cr ?_
        refine callK.eq (ofC d h1) ?_
        refine callK.eq (ofC n h2) ?_
        refine callK.eq (spreadNo d n h1 h2 hc) ?_
        refine callK.eq (ofC n h2) ?_
        refine callK.eq (spreadNilL (setP n) (setP_blw n)) ?_
        refine callK.eq (ofC d h1) ?_
        refine callK.eq (spreadNilR d) ?_
        refine joinK.direct ?_
        refine guardK.spec ?_
        refine ⟨fun h => absurd h (by decide), fun _ => join_go ?_⟩
        refine joinK.direct ?_
        refine ⟨fun _ => ?_, fun h => absurd h (by decide)⟩
        exact fin_eq (.bool _) rfl rfl
    · have c2 : decide (((bools n).length : Int) > 16777216) = true := decide_eq_true (by omega)
      refine joinK.direct ?_
      refine guardK.split ?_
      refine ⟨fun _ => ?_, fun h => absurd (c1.symm.trans h) (by decide)⟩
      refine ⟨fun _ => ?_, fun h => absurd (c2.symm.trans h) (by decide)⟩
      exact fin_eq (.bool _) rfl rfl
  · have c1 : decide (((bools d).length : Int) > 16777216) = true := decide_eq_true (by omega)
    refine joinK.direct ?_
    refine guardK.split ?_
    refine ⟨fun h => absurd (c1.symm.trans h) (by decide), fun _ => ?_⟩
    refine ⟨fun _ => ?_, fun h => absurd h (by decide)⟩
    exact fin_eq (.bool _) rfl rfl
variable {H : Type} {enc : TypeId × Value → H} {W : World} {base : Nat} {v : Value} {d : DataW H} {ps : List MemPlace} {t e : TypeId}
theorem bools_of : ∀ (xs : List (List DV)), (∀ x ∈ xs, ∃ b, x = [.bool b]) → ∃ l : List Bool, xs = bools l
  | [], _ => ⟨[], rfl⟩
  | x :: xs, h => by
    obtain ⟨z, e1⟩ := h x (List.mem_cons_self ..)
    obtain ⟨l, e2⟩ := bools_of xs fun y hy => h y (List.mem_cons_of_mem _ hy)
    exact ⟨z :: l, by rw [e1, e2]; rfl⟩
theorem open_bs (ht : Tryz.prog.underlying t = some (.slice e)) (he : Tryz.prog.underlying e = some .bool) (hc : Tryz.prog.cellsOf e = 1) (hval : Value.okWide Tryz.prog W .any base t v) (h : DataW.Trod enc Tryz.prog W 0 (fun _ => true) true t v d ps)
    (hw : (d.weights Tryz.prog t).all (· ≤ reachBytes) = true) : ∃ l : List Bool, l.length ≤ maxLen ∧ Rep (memH W) (fun _ => .no) v (.list (bools l)) := by
  obtain ⟨a, len, cap, rfl⟩ := okWide_slice ht hval
  obtain ⟨x, ⟨xs, e1, w1, w2, _⟩, hr⟩ := (Typ.slice ht (Typ.bool he) hc).one h hw rfl
  injection e1 with e1
  subst e1
  obtain ⟨l, rfl⟩ := bools_of xs w1
  rw [bools_length] at w2
  exact ⟨l, w2, hr⟩
theorem lawSpreads' (d : List Bool) (hd : d.length ≤ maxLen) (n : List Bool) (hn : n.length ≤ maxLen) : FnC Tryz.prog 3 [.list (bools d), .list (bools n)] (· = .bool true) := lawSpreads d n hd hn
end Go.Proofs.YthbjeeipeadilaaGreat
