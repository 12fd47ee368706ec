/- wide's Text: the walk. -/
import Derived.Test.YtckcagmlippneaaWF
set_option linter.unusedSimpArgs false
set_option linter.unusedVariables false
namespace Go.Proofs.Ytckcagmlippneaa
open Go Go.Pv Go.RowKit
set_option maxRecDepth 10000
set_option exponentiation.threshold 1000

theorem dec_round (n m : Nat) (ds : List UInt8) (h : dec n = dec m ++ ds.reverse) : (m < 10 → dec n = (ds ++ [digB m]).reverse) ∧ (10 ≤ m → dec n = dec (m / 10) ++ (ds ++ [digB m]).reverse) := by
  constructor
  · intro h1; rw [h, dec_lt h1]; simp
  · intro h1; rw [h, dec_ge h1]; simp
theorem len_bound (n m k : Nat) (hn : n < 2 ^ 128) (hm : 0 < m) (h : 10 ^ k * m ≤ n) : k ≤ 40 := by
  rcases Nat.lt_or_ge k 41 with h1 | h1
  · omega
  · exfalso
    have h2 : 10 ^ 41 ≤ 10 ^ k := Nat.pow_le_pow_right (by decide) h1
    have h3 : 10 ^ k * 1 ≤ 10 ^ k * m := Nat.mul_le_mul_left _ hm
    have h4 : 2 ^ 128 ≤ 10 ^ 41 := by decide
    omega
theorem str_eq {a b : List UInt8} (h : a = b) : DV.str ⟨a.toArray⟩ = .str (bsA b) := by rw [h]; rfl
theorem bytes1 {x : Option PO} {a b : List UInt8} (h : a = b) : [x, bytesPO a] = [x, bytesPO b] := by rw [h]
theorem u8s_get {l : List UInt8} {p : Nat} {b : UInt8} (h : l[p]? = some b) : (u8s l)[p]? = some [.int .u8 b.toNat] := by unfold u8s; rw [List.getElem?_map, h]; rfl
theorem u8s_set (l : List UInt8) (p : Nat) (b : UInt8) : (u8s l).set p [.int .u8 b.toNat] = u8s (l.set p b) := by unfold u8s; rw [List.map_set]
theorem els_bytes {l : List UInt8} : ([DV.int .u8 (digB 0).toNat] : List DV) = [.int .u8 (digB 0).toNat] := rfl

theorem textW (x : Int) (hx : in128 x) : FnC Try.prog 32 [wideD x] (· = .str (bsA (textL x))) := by
  refine FnC.mk Try.func32 rfl rfl (Nat.le_of_ble_eq_true rfl) blw_wide1 (by rintro _ rfl; simp) ?_
  have hhi := hi_in hx
  have hn : x.natAbs < 2 ^ 128 := by have := hx.1; have := hx.2; omega
  refine callK.eq (sizeW x hx) ?_
  refine joinK.use [1, 5] (fun ds : List UInt8 => [.pobj 0 0 0, .ref 1 0 ds.length]) (fun ds => [widePO (wideC x), bytesPO ds]) (fun ds => dec x.natAbs = ds.reverse ∧ ds.length ≤ 41) ?_ ?_
  · refine loopK.useG [1, 3, 4, 5] (fun s : Nat × List UInt8 => [.pobj 0 0 0, .int .u64 (s.1 / 18446744073709551616 : Nat), .int .u64 (s.1 % 18446744073709551616 : Nat), .ref 1 0 s.2.length]) (fun s => [widePO (wideC x), bytesPO s.2])
      (fun s => dec x.natAbs = dec s.1 ++ s.2.reverse ∧ 10 ^ s.2.length * s.1 ≤ x.natAbs ∧ (s.1 = 0 → s.2 = [])) (fun s => s.1) (x.natAbs, []) ⟨by simp, by simp, by simp⟩
      (weak_gc [] [some 0, none] rfl ⟨.pobj _ _ _ _ rfl, ren_eq rfl (by simp), ren_eq rfl (by simp), .nil _ rfl, trivial⟩ ⟨⟨rfl, rfl, rfl, els_same rfl (by simp [wideC])⟩, rfl, trivial⟩) ?_
    rintro ⟨m, ds⟩ ⟨h1, h2, h3⟩
    simp only at h1 h2 h3
    have hl : ds.length ≤ 40 := by
      rcases Nat.eq_zero_or_pos m with e | e
      · rw [h3 e]; simp
      · exact len_bound _ m _ hn e h2
    have hm : m < 2 ^ 128 := Nat.lt_of_le_of_lt (Nat.le_trans (Nat.le_mul_of_pos_left m (Nat.pow_pos (by decide))) h2) hn
    refine ⟨rfl, by decide, rfl, by decide, ?_⟩
    have c := div64 (m / 18446744073709551616 % 10) (m % 18446744073709551616) 10 (by omega) (by omega) (by omega)
    rw [show ((m / 18446744073709551616 % 10 : Nat) : Int) = ((m / 18446744073709551616 : Nat) : Int).tmod 10 from rfl] at c
    refine callK.eq c ?_
    refine appK.go ⟨.cons rfl .nil, (u8s_len _).symm, .of 1 rfl (by simp; omega) (by decide), ?_⟩
    have ed : u8s ds ++ [[.int .u8 (IntKind.u8.wrap (IntKind.u64.wrap (48 + (((m / 18446744073709551616 % 10) * 18446744073709551616 + m % 18446744073709551616) % 10 : Nat))))]] = u8s (ds ++ [digB m]) := by
      rw [← u8s_app, digB_val, show IntKind.u8.wrap (IntKind.u64.wrap (48 + (((m / 18446744073709551616 % 10) * 18446744073709551616 + m % 18446744073709551616) % 10 : Nat))) = ((48 + m % 10 : Nat) : Int) from by rw [IntKind.wrap_u8, IntKind.wrap_u64]; omega]
    have eh : ((m / 18446744073709551616 : Nat) : Int).tdiv 10 = ((m / 10 / 18446744073709551616 : Nat) : Int) := by
      rw [show ((m / 18446744073709551616 : Nat) : Int).tdiv 10 = ((m / 18446744073709551616 / 10 : Nat) : Int) from rfl]; omega
    have el : (((m / 18446744073709551616 % 10) * 18446744073709551616 + m % 18446744073709551616) / 10 : Nat) = m / 10 % 18446744073709551616 := by omega
    have hr := dec_round _ _ _ h1
    have hz : (bif (IntKind.u64.wrap (((m / 18446744073709551616 : Nat) : Int).tdiv 10)) == 0 then ((((m / 18446744073709551616 % 10) * 18446744073709551616 + m % 18446744073709551616) / 10 : Nat) : Int) == 0 else false) = decide (m < 10) := by
      rw [eh, el, Bool.cond_false_right, Bool.eq_iff_iff, IntKind.wrap_u64]
      simp
      omega
    have hmul : 10 ≤ m → 10 ^ (ds.length + 1) * (m / 10) ≤ x.natAbs := by
      intro _
      have h4 : 10 ^ (ds.length + 1) * (m / 10) ≤ 10 ^ ds.length * m := by
        rw [Nat.pow_succ, Nat.mul_assoc]
        exact Nat.mul_le_mul_left _ (by omega)
      omega
    refine guardK.spec ?_
    refine ⟨fun h => ?_, fun h => ?_⟩
    · have h : _ = true := hz.symm.trans h
      have h := of_decide_eq_true h
      exact join_gc (ds ++ [digB m]) ⟨hr.1 h, by simp; omega⟩ (weak_gc [] [some 0, some 3] rfl ⟨.pobj _ _ _ _ rfl, ren_ref rfl (by simp), trivial⟩ ⟨⟨rfl, rfl, rfl, els_same rfl (by simp [wideC])⟩, ⟨rfl, rfl, rfl, els_same ed (u8s_blw _)⟩, trivial⟩)
    · have h : _ = false := hz.symm.trans h
      have h := of_decide_eq_false h
      refine loop_gc (m / 10, ds ++ [digB m]) ⟨hr.2 (by omega), by simpa using hmul (by omega), fun e => absurd e (by simp only; omega)⟩ (by simp only; omega) (weak_gc [] [some 0, some 3] rfl ⟨.pobj _ _ _ _ rfl, ren_eq (int_eq ?_) (by simp), ren_eq (int_eq ?_) (by simp), ren_ref rfl (by simp), trivial⟩ ⟨⟨rfl, rfl, rfl, els_same rfl (by simp [wideC])⟩, ⟨rfl, rfl, rfl, els_same ed (u8s_blw _)⟩, trivial⟩)
      · rw [eh, IntKind.wrap_u64]; simp only; omega
      · simp only; omega
  rintro ds ⟨h1, h2⟩
  refine joinK.use [5] (fun es : List UInt8 => [.ref 1 0 es.length]) (fun es => [widePO (wideC x), bytesPO es]) (fun es => textL x = es.reverse ∧ es.length ≤ 42) ?_ ?_
  · refine ⟨fun h => ?_, fun h => ?_⟩
    · have h : hiW x < 0 := of_decide_eq_true h
      refine appK.go ⟨.cons rfl .nil, (u8s_len _).symm, .of 1 rfl (by simp; omega) (by decide), ?_⟩
      refine join_gc (ds ++ [45]) ⟨?_, by simp; omega⟩ (weak_gc [] [some 0, some 3] rfl ⟨ren_ref rfl (by simp), trivial⟩ ⟨⟨rfl, rfl, rfl, els_same rfl (by simp [wideC])⟩, ⟨rfl, rfl, rfl, els_same (u8s_app ds 45) (u8s_blw _)⟩, trivial⟩)
      unfold textL; rw [if_pos (by omega), h1]; simp
    · have h : ¬ hiW x < 0 := of_decide_eq_false h
      refine join_at ds ⟨?_, by omega⟩ ⟨rfl, trivial⟩ (.inl rfl)
      unfold textL; rw [if_neg (by omega), h1]; simp
  rintro es ⟨h1, h2⟩
  have hes : es ≠ [] := by
    rintro rfl
    have : (textL x).length = 0 := by rw [h1]; rfl
    unfold textL at this
    rw [dec] at this
    split at this <;> split at this <;> simp at this
  have hpos : 0 < es.length := List.length_pos_iff.2 hes
  refine joinK.direct ?_
  refine loopK.use [5, 7, 8] (fun k : Nat => [.ref 1 0 es.length, .int .i64 k, .int .i64 (es.length - 1 - k : Int)]) (fun k => [widePO (wideC x), bytesPO (swapK es k)]) (fun k => 2 * k ≤ es.length) (fun k => es.length - k) 0 (by omega) ⟨rfl, rfl, int_eq ?_, trivial⟩ (.inl ?_) ?_
  · show IntKind.i64.wrap ((es.length : Int) - 1) = _
    rw [IntKind.wrap_i64]; omega
  · show [widePO (wideC x), bytesPO es] = [widePO (wideC x), bytesPO (swapK es 0)]
    rw [swapK_zero]
  intro k hk
  refine joinK.direct ⟨fun h => join_go ?_, fun h => join_go ?_⟩
  · have h : 2 * k + 1 < es.length := by have := of_decide_eq_true h; omega
    have ej : ((es.length : Int) - 1 - (k : Int)).toNat = es.length - 1 - k := by omega
    have ek : (k : Int).toNat = k := by omega
    have v1 : (swapK es k)[es.length - 1 - k]? = some (es.getD (es.length - 1 - k) 0) := by rw [swapK_get es k _ (by omega), if_neg (by omega)]
    have v2 : (swapK es k)[k]? = some (es.getD k 0) := by rw [swapK_get es k _ (by omega), if_neg (by omega)]
    have v3 : ((swapK es k).set k (es.getD (es.length - 1 - k) 0))[es.length - 1 - k]? = some (es.getD (es.length - 1 - k) 0) := by rw [List.getElem?_set_ne (by omega)]; exact v1
    have g4 : ((u8s (swapK es k)).set (0 + (k : Int).toNat) [.int .u8 (es.getD (es.length - 1 - k) 0).toNat])[0 + ((es.length : Int) - 1 - (k : Int)).toNat]? = some [.int .u8 (es.getD (es.length - 1 - k) 0).toNat] := by
      rw [ej, ek, Nat.zero_add, Nat.zero_add, u8s_set]; exact u8s_get v3
    have g5 : ((u8s (swapK es k)).set (0 + (k : Int).toNat) [.int .u8 (es.getD (es.length - 1 - k) 0).toNat]).set (0 + ((es.length : Int) - 1 - (k : Int)).toNat) [.int .u8 (es.getD k 0).toNat] = u8s (swapK es (k + 1)) := by
      rw [ej, ek, Nat.zero_add, Nat.zero_add, u8s_set, u8s_set, swapK_step es k h]
    refine drawK.mk (by kernel_rfl) ?_
    refine ⟨by omega, by omega, optK.mk rfl ?_⟩
    refine optK.mk (by rw [ej, Nat.zero_add]; exact u8s_get v1) ?_
    refine ⟨by omega, by omega, optK.mk rfl ?_⟩
    refine optK.mk (by rw [ek, Nat.zero_add]; exact u8s_get v2) ?_
    refine ⟨by omega, by omega, optK.mk rfl ?_⟩
    refine optK.mk (by rw [ek, Nat.zero_add]; exact u8s_get v2) ?_
    refine ⟨by omega, by omega, optK.mk rfl ?_⟩
    refine optK.mk g4 ?_
    refine loop_next (k + 1) (by omega) (by omega) ⟨rfl, int_eq ?_, int_eq ?_, trivial⟩ (.inl ?_)
    · rw [IntKind.wrap_i64]; omega
    · rw [IntKind.wrap_i64]; omega
    · exact congrArg (fun e => [widePO (wideC x), some (PO.mk false 1 5 e)]) g5
  · have h : es.length ≤ 2 * k + 1 := by have := of_decide_eq_false h; omega
    refine optK.mk (y := es.reverse) ?_ ?_
    · have e : ((u8s (swapK es k)).drop 0).take es.length = u8s es.reverse := by
        rw [swapK_end es k h, List.drop_zero, List.take_of_length_le (by simp [u8s])]
      exact (congrArg bytesD e).trans (u8s_bytes _)
    · exact fin_eq (.str _) rfl (str_eq h1.symm)
end Go.Proofs.Ytckcagmlippneaa
