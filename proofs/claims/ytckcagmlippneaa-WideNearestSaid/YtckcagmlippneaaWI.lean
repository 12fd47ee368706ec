/- wide's Read: the walk. -/
import Derived.Test.YtckcagmlippneaaWH
set_option linter.unusedSimpArgs false
set_option linter.unusedVariables false
namespace Go.Proofs.Ytckcagmlippneaa
open Go Go.Pv Go.RowKit
set_option maxRecDepth 10000
set_option exponentiation.threshold 1000

theorem readD_none {l : List UInt8} (h : readX l = none) : readD l = .tup [wideD 0, .bool false] := by unfold readD; rw [h]
theorem readD_some {l : List UInt8} {x : Int} (h : readX l = some x) : readD l = .tup [wideD x, .bool true] := by unfold readD; rw [h]
theorem wide0_eq : wideD 0 = .agg [.int .i64 0, .int .u64 0] := by unfold wideD hiW loW; rw [IntKind.wrap_i64]; rfl
theorem wideC_0 : wideC 0 = wide0 := by unfold wideC hiW loW wide0; rw [IntKind.wrap_i64]; rfl
theorem widePO_eq {x y : Int} {a : Option PO} (h : x = y) : [a, widePO (wideC x)] = [a, widePO (wideC y)] := by rw [h]
theorem wide_blw (x : Int) : ∀ ds ∈ [wideC x], ∀ d ∈ ds, Blw 0 d := by simp [wideC]
theorem take_snoc' {α : Type} (l : List α) (i : Nat) (b : α) (h : l[i]? = some b) : l.take (i + 1) = l.take i ++ [b] := by
  rw [List.take_add_one, h]; rfl
theorem wides {x y : Int} (h : x = y) : [wideC x] = [wideC y] := by rw [h]

theorem readW (l : List UInt8) : FnC Try.prog 34 [.str (bsA l)] (· = readD l) := by
  refine FnC.mk Try.func34 rfl rfl (Nat.le_of_ble_eq_true rfl) (by simp) (by rintro _ rfl; exact blw_readD _) ?_
  have hneg : ∀ b l', l = b :: l' → isNeg l = (b == 45) := fun b l' e => by rw [e]; rfl
  refine guardK.join [0, 2, 4] (fun _ : Unit => [.str (bsA l), .pobj 0 0 0, .bool (isNeg l)]) (fun _ => [widePO wide0]) (fun _ => True) ?_ ?_
  · refine ⟨fun h => ?_, fun h => ?_⟩
    · have h : decide (((bsA l).size : Int) > 0) = true := h
      have h := of_decide_eq_true h
      rw [bsA_size] at h
      obtain ⟨b, l', rfl⟩ : ∃ b l', l = b :: l' := by
        cases l with
        | nil => simp at h
        | cons b l' => exact ⟨b, l', rfl⟩
      refine ⟨by decide, optK.mk (bsA_get _ _) ?_⟩
      refine join_at () trivial ⟨rfl, rfl, bool_eq ?_, trivial⟩ (.inl rfl)
      show ((b.toNat : Int) == 45) = (b == 45)
      rw [Bool.eq_iff_iff]; simp
      constructor
      · intro h; exact UInt8.toNat_inj.1 (by show b.toNat = 45; omega)
      · rintro rfl; rfl
    · have h : decide (((bsA l).size : Int) > 0) = false := h
      have h := of_decide_eq_false h
      rw [bsA_size] at h
      obtain rfl : l = [] := List.length_eq_zero_iff.1 (by omega)
      exact join_at () trivial ⟨rfl, rfl, rfl, trivial⟩ (.inl rfl)
  rintro ⟨⟩ -
  refine joinK.use [0, 2, 4, 5] (fun _ : Unit => [.str (bsA l), .pobj 0 0 0, .bool (isNeg l), .str (bsA (digsOf l))]) (fun _ => [widePO wide0]) (fun _ => True) ?_ ?_
  · refine ⟨fun h => ?_, fun h => ?_⟩
    · have h : isNeg l = true := h
      have hl : 0 < l.length := by
        cases l with
        | nil => simp [isNeg] at h
        | cons => simp
      refine ⟨by decide, by rw [bsA_size]; omega, ?_⟩
      refine join_at () trivial ⟨rfl, rfl, rfl, ?_, trivial⟩ (.inl rfl)
      show DV.str ((bsA l).extract 1 (bsA l).size) = _
      rw [bsA_extract, bsA_size, List.take_length]
      unfold digsOf; rw [h]; rfl
    · have h : isNeg l = false := h
      refine join_at () trivial ⟨rfl, rfl, rfl, ?_, trivial⟩ (.inl rfl)
      show DV.str (bsA l) = _
      unfold digsOf; rw [h]; rfl
  rintro ⟨⟩ -
  have hv : valS l = bif isNeg l then 0 - (valL (digsOf l) : Int) else (valL (digsOf l) : Int) := rfl
  have hbad := fun i b => readX_bad (l := l) (i := i) (b := b)
  generalize digsOf l = ds at hv hbad ⊢
  refine joinK.use [0, 2, 4, 6] (fun _ : Unit => [.str (bsA l), .pobj 0 0 0, .bool (isNeg l), .pobj 1 0 0]) (fun _ => [widePO wide0, widePO (wideC (valL ds))]) (fun _ => True) ?_ ?_
  · refine loopK.use [0, 2, 4, 5, 6, 23, 24] (fun i : Nat => [.str (bsA l), .pobj 0 0 0, .bool (isNeg l), .str (bsA ds), .pobj 1 0 0, .int .i64 ds.length, .int .i64 i]) (fun i => [widePO wide0, widePO (wideC (valL (ds.take i)))])
      (fun i => i ≤ ds.length ∧ i ≤ 41) (fun i => ds.length - i) 0 (by simp) ⟨rfl, rfl, rfl, rfl, rfl, int_eq (by rw [bsA_size]), rfl, trivial⟩ (.inl ?_) ?_
    · show [widePO wide0, widePO wide0] = [widePO wide0, widePO (wideC (0 : Int))]
      rw [wideC_0]
    rintro i ⟨hi, hi2⟩
    refine joinK.direct ⟨fun h => join_go ?_, fun h => ?_⟩
    · have h : i < ds.length := by have := of_decide_eq_true h; omega
      obtain ⟨b, hb⟩ : ∃ b, ds[i]? = some b := ⟨_, List.getElem?_eq_getElem h⟩
      have hg : (bsA ds)[(i : Int).toNat]? = some b := by rw [bsA_get]; exact hb
      refine joinK.direct ?_
      refine joinK.direct ?_
      refine guardK.spec ?_
      refine ⟨by omega, optK.mk hg ⟨by omega, optK.mk hg ?_⟩⟩
      have ht : (bif (bif decide ((b.toNat : Int) < 48) then true else decide ((b.toNat : Int) > 57)) then true else decide ((i : Int) > 40)) = (!isDig b || decide (40 < i)) := by
        unfold isDig
        rw [Bool.eq_iff_iff, Bool.cond_true_left, Bool.cond_true_left]; simp; omega
      refine ⟨fun h2 => ?_, fun h2 => join_go ?_⟩
      · have h2 : _ = true := ht.symm.trans h2
        refine fin_eq (.tup [.agg [.int _ _, .int _ _], .bool _]) rfl ?_
        rw [readD_none (hbad i b hb (by simpa using h2)), wide0_eq]
      · have h2 : _ = false := ht.symm.trans h2
        have h2 : isDig b = true ∧ ¬ 40 < i := by simpa using h2
        obtain ⟨hd, h40⟩ := h2
        unfold isDig at hd
        simp at hd
        have c2 := plusW (valL (ds.take i) : Int) (valL (ds.take i) : Int)
        refine callK.eq c2 ?_
        refine callK.eq (plusW _ _) ?_
        refine drawK.mk (by kernel_rfl) ?_
        refine callE.mk (plusW _ _) ?_
        refine callE.mk (plusW _ _) ?_
        refine ⟨by omega, optK.mk hg ?_⟩
        refine callE.mk (ofW _ ?_) ?_
        · unfold i64R; rw [IntKind.wrap_u8, IntKind.wrap_i64]; omega
        refine callE.mk (plusW _ _) ?_
        refine join_go ?_
        refine loop_gc (i + 1) ⟨by omega, by omega⟩ (by omega) (weak_gc [] [some 0, some 1] rfl ⟨ren_eq rfl (by simp), .pobj _ _ _ _ rfl, ren_eq rfl (by simp), ren_eq rfl (by simp), .pobj _ _ _ _ rfl, ren_eq rfl (by simp), ren_eq (int_eq ?_) (by simp), trivial⟩
          ⟨⟨rfl, rfl, rfl, els_same rfl (by simp [wide0])⟩, ⟨rfl, rfl, rfl, els_same (wides ?_) (wide_blw _)⟩, trivial⟩)
        · rw [IntKind.wrap_i64]; omega
        · rw [take_snoc' ds i b hb, valL_snoc, IntKind.wrap_u8, IntKind.wrap_i64]; omega
    · have h : i = ds.length := by have := of_decide_eq_false h; omega
      subst h
      refine join_at () trivial ⟨rfl, rfl, rfl, rfl, trivial⟩ (.inl ?_)
      show [widePO wide0, widePO (wideC (valL (ds.take ds.length)))] = _
      rw [List.take_length]
  rintro ⟨⟩ -
  refine joinK.use [0, 2, 6] (fun _ : Unit => [.str (bsA l), .pobj 0 0 0, .pobj 1 0 0]) (fun _ => [widePO wide0, widePO (wideC (mod128 (valS l)))]) (fun _ => True) ?_ ?_
  · refine ⟨fun h => ?_, fun h => ?_⟩
    · have h : isNeg l = true := h
      have c := minusW 0 (valL ds)
      rw [wide0_eq] at c
      refine callK.eq c ?_
      refine join_at () trivial ⟨rfl, rfl, rfl, trivial⟩ (.inl ?_)
      show [widePO wide0, widePO (wideC (0 - (valL ds : Int)))] = _
      rw [wideC_mod, hv, h]; rfl
    · have h : isNeg l = false := h
      refine join_at () trivial ⟨rfl, rfl, rfl, trivial⟩ (.inl ?_)
      show [widePO wide0, widePO (wideC (valL ds : Int))] = _
      rw [wideC_mod, hv, h]; rfl
  rintro ⟨⟩ -
  refine joinK.direct ?_
  refine callK.eq (textW (mod128 (valS l)) (mod128_in _)) ?_
  refine ⟨fun h => ?_, fun h => join_go ?_⟩
  · have h : (!((bsA (textL (mod128 (valS l)))).toList == (bsA l).toList)) = true := h
    have h : textL (mod128 (valS l)) ≠ l := by
      rw [str_cmp] at h
      simpa using h
    refine fin_eq (.tup [.agg [.int _ _, .int _ _], .bool _]) rfl ?_
    rw [readD_none (readX_ne h), wide0_eq]
  · have h : (!((bsA (textL (mod128 (valS l)))).toList == (bsA l).toList)) = false := h
    have h : textL (mod128 (valS l)) = l := by
      rw [str_cmp] at h
      simpa using h
    refine fin_eq (.tup [.agg [.int _ _, .int _ _], .bool _]) rfl ?_
    rw [readD_some (readX_eq h)]; rfl
end Go.Proofs.Ytckcagmlippneaa
