/- Values that may be: the program's May and the reference's. -/
import Derived.Test.YtaddmokllmdngaaM2
import Derived.Test.YtaddmokllmdngaaPvG
namespace Go.Proofs.Ytaddmokllmdngaa
open Go Go.Pv Go.RowKit
set_option linter.unusedSimpArgs false
set_option linter.unusedVariables false
set_option maxRecDepth 10000

def absLe (f : Nat) : Bool := FloatKind.f64.format.order (f % 9223372036854775808) 9218868437227405311 == some .lt || FloatKind.f64.format.order (f % 9223372036854775808) 9218868437227405311 == some .eq
def isEmp (s : ByteArray) : Bool := s.toList == (ByteArray.mk #[]).toList
def isShort (s : ByteArray) : Bool := decide ((s.size : Int) ≤ 65535)
def bareB (k i : Int) (s : ByteArray) : Bool := bif (bif i == 0 then true else k == 1) then (bif isEmp s then true else bif k == 2 then isShort s else false) else false
def may3 (k i : Int) (f : Nat) (s : ByteArray) : Bool := bif (bif bareB k i s then absLe f else false) then ((f : Int) != 9223372036854775808) else false
def mayN (k i : Int) (f : Nat) (s : ByteArray) : Bool := bif (bif (bif bareB k i s then ((f : Int) == 0) else false) then decide (k ≥ 0) else false) then decide (k < 3) else false
/-- May a value be? -/
def mayB (k i : Int) (f : Nat) (s : ByteArray) : Bool := bif k == 3 then may3 k i f s else mayN k i f s
theorem mayB_3 {k i : Int} {f : Nat} {s : ByteArray} (h : (k == 3) = true) : may3 k i f s = mayB k i f s := by unfold mayB; rw [h]; rfl
theorem mayB_n {k i : Int} {f : Nat} {s : ByteArray} (h : (k == 3) = false) : mayN k i f s = mayB k i f s := by unfold mayB; rw [h]; rfl
theorem mayW (k i : Int) (f : Nat) (s : ByteArray) (hf : f < 18446744073709551616) : FnC Try.prog 46 [.agg (valC k i f s)] (· = .bool (mayB k i f s)) := by
  have ca := absF f hf
  have cb := f64bits f
  refine FnC.mk Try.func46 rfl rfl (Nat.le_of_ble_eq_true rfl) (by simp [valC]) (by rintro _ rfl; simp) ?_
  refine guardK.spec ?_
  refine guardK.spec ?_
  refine joinK.direct ⟨fun h3 => ?_, fun h3 => join_go ?_⟩
  · refine guardK.spec ?_
    refine callE.mk ca ?_
    refine callE.mk cb ?_
    exact fin_eq (.bool _) rfl (bool_eq (mayB_3 h3))
  · refine guardK.spec ?_
    refine callE.mk cb ?_
    exact fin_eq (.bool _) rfl (bool_eq (mayB_n h3))

theorem signW (f : Nat) (hf : f < 18446744073709551616) : FnC Try.prog 68 [.flt .f64 f] (· = .bool (signF f)) := by
  have e : decide (IntKind.i64.wrap (f : Int) < 0) = signF f := by
    unfold signF; rw [decide_eq_decide, IntKind.wrap_i64]; omega
  refine FnC.mk Try.func68 rfl rfl (Nat.le_of_ble_eq_true rfl) (by simp) (by rintro _ rfl; simp) ?_
  refine callK.eq (f64bits f) ?_
  exact fin_eq (.bool _) rfl (bool_eq e)
theorem plusF (f : Nat) (hf : f < 18446744073709551616) : FnC Try.prog 67 [.flt .f64 f] (· = .bool ((f : Int) == 0)) := by
  have e : (bif FloatKind.f64.format.order f 0 == some Ordering.eq then !signF f else false) = ((f : Int) == 0) := by
    rw [show (FloatKind.f64.format.order f 0 == some Ordering.eq) = _ from eq_zero hf]
    unfold signF
    rw [Bool.eq_iff_iff, beq_iff_eq]
    by_cases h : f % 9223372036854775808 = 0
    · rw [decide_eq_true h]; simp; omega
    · rw [decide_eq_false h]; simp; omega
  refine FnC.mk Try.func67 rfl rfl (Nat.le_of_ble_eq_true rfl) (by simp) (by rintro _ rfl; simp) ?_
  refine guardK.spec ?_
  refine callE.mk (signW f hf) ?_
  exact fin_eq (.bool _) rfl (bool_eq e)
theorem isNaN_g (f : Nat) (hf : f < 18446744073709551616) : FnC Try.prog 48 [.flt .f64 f] (· = .bool (!decide (f % 9223372036854775808 ≤ 9218868437227405312))) := by
  have e : (FloatKind.f64.format.order f f != some Ordering.eq) = !decide (f % 9223372036854775808 ≤ 9218868437227405312) := by
    rw [← flt_self hf]; rfl
  refine FnC.mk Try.func48 rfl rfl (Nat.le_of_ble_eq_true rfl) (by simp) (by rintro _ rfl; simp) ?_
  exact fin_eq (.bool _) rfl (bool_eq e)
theorem isInf_g (f : Nat) (hf : f < 18446744073709551616) : FnC Try.prog 49 [.flt .f64 f, .int .i64 0] (· = .bool (decide (f % 9223372036854775808 = 9218868437227405312))) := by
  have e : (FloatKind.f64.format.order (f % 9223372036854775808) 9218868437227405311 == some Ordering.gt) = decide (f % 9223372036854775808 = 9218868437227405312) := gt_max (by omega)
  refine FnC.mk Try.func49 rfl rfl (Nat.le_of_ble_eq_true rfl) (by simp) (by rintro _ rfl; simp) ?_
  refine joinK.direct ⟨fun _ => ?_, fun h => (by cases h)⟩
  refine callK.eq (absF f hf) ?_
  refine join_go ?_
  exact fin_eq (.bool _) rfl (bool_eq e)
theorem absLe_eq (f : Nat) : absLe f = decide (f % 9223372036854775808 < 9218868437227405312) := by
  have hx : f % 9223372036854775808 < 9223372036854775808 := Nat.mod_lt _ (by decide)
  unfold absLe
  generalize f % 9223372036854775808 = x at *
  have hg := gt_max hx
  rw [show FloatKind.f64.format.order x 9218868437227405311 = Ieee.double.order x 9218868437227405311 from rfl]
  rcases Nat.lt_trichotomy x 9218868437227405312 with h | h | h
  · rw [decide_eq_true h]
    rw [decide_eq_false (by omega)] at hg
    rw [order_fin ⟨by omega, by omega⟩ ⟨by decide, by decide⟩] at hg ⊢
    revert hg
    cases compare (worth x) (worth 9218868437227405311) <;> intro hg <;> first | rfl | cases hg
  · rw [decide_eq_false (by omega)]
    rw [decide_eq_true h] at hg
    rw [eq_of_beq hg]; rfl
  · obtain ⟨n, e⟩ := read_nan (f := x) (by omega) (by omega)
    unfold Ieee.Format.order
    rw [e, decide_eq_false (by omega)]
    rfl
theorem emp_short {s : ByteArray} (h : isEmp s = true) : isShort s = true := by
  unfold isEmp isShort at *
  rw [bsA_self s, bsA_toList] at h
  rw [bsA_self s, bsA_size]
  have h : s.data.toList = [] := by
    have := eq_of_beq h
    exact this.trans (bsA_toList [])
  rw [h]; rfl
theorem r0 {k i : Int} {f : Nat} {s : ByteArray} (h : (k == 0) = true) : (bif (bif i == 0 then ((f : Int) == 0) else false) then isEmp s else false) = mayB k i f s := by
  rw [eq_of_beq h]; unfold mayB mayN bareB
  generalize (i == 0) = a; generalize ((f : Int) == 0) = z; generalize isEmp s = e
  cases a <;> cases z <;> cases e <;> rfl
theorem r1 {k i : Int} {f : Nat} {s : ByteArray} (h : (k == 1) = true) : (bif ((f : Int) == 0) then isEmp s else false) = mayB k i f s := by
  rw [eq_of_beq h]; unfold mayB mayN bareB
  generalize (i == 0) = a; generalize ((f : Int) == 0) = z; generalize isEmp s = e
  cases a <;> cases z <;> cases e <;> rfl
theorem r2 {k i : Int} {f : Nat} {s : ByteArray} (h : (k == 2) = true) : (bif (bif i == 0 then ((f : Int) == 0) else false) then isShort s else false) = mayB k i f s := by
  rw [eq_of_beq h]; unfold mayB mayN bareB
  have he := @emp_short s
  generalize (i == 0) = a; generalize ((f : Int) == 0) = z; generalize isEmp s = e at *; generalize isShort s = q at *
  cases a <;> cases z <;> cases e <;> cases q <;> first | rfl | exact absurd (he rfl) (by decide)
theorem r3a {k i : Int} {f : Nat} {s : ByteArray} (h : (k == 3) = true) (hf : f < 18446744073709551616) (hz : (bif decide (f % 9223372036854775808 = 0) then signF f else false) = true) : false = mayB k i f s := by
  have e : f = 9223372036854775808 := by
    unfold signF at hz
    by_cases h1 : f % 9223372036854775808 = 0
    · rw [decide_eq_true h1] at hz
      have := of_decide_eq_true hz
      omega
    · rw [decide_eq_false h1] at hz; cases hz
  rw [← mayB_3 h, e]; unfold may3
  generalize (bif bareB k i s then absLe 9223372036854775808 else false) = q
  cases q <;> rfl
theorem r3b {k i : Int} {f : Nat} {s : ByteArray} (h : (k == 3) = true) (hf : f < 18446744073709551616) (hz : (bif decide (f % 9223372036854775808 = 0) then signF f else false) = false) :
    (bif (bif (bif i == 0 then isEmp s else false) then !(!decide (f % 9223372036854775808 ≤ 9218868437227405312)) else false) then !decide (f % 9223372036854775808 = 9218868437227405312) else false) = mayB k i f s := by
  have e : ((f : Int) != 9223372036854775808) = true := by
    rw [bne_iff_ne]; intro e
    have e : f = 9223372036854775808 := by omega
    rw [e] at hz; exact absurd hz (by decide)
  have ha : absLe f = (bif decide (f % 9223372036854775808 ≤ 9218868437227405312) then !decide (f % 9223372036854775808 = 9218868437227405312) else false) := by
    rw [absLe_eq, Bool.eq_iff_iff]
    by_cases h1 : f % 9223372036854775808 ≤ 9218868437227405312
    · rw [decide_eq_true h1]; simp; omega
    · rw [decide_eq_false h1]; simp; omega
  rw [← mayB_3 h]; unfold may3
  rw [e, ha, eq_of_beq h]; unfold bareB
  generalize decide (f % 9223372036854775808 ≤ 9218868437227405312) = u; generalize decide (f % 9223372036854775808 = 9218868437227405312) = w
  generalize (i == 0) = a; generalize isEmp s = e
  cases a <;> cases u <;> cases w <;> cases e <;> rfl
theorem r4 {k i : Int} {f : Nat} {s : ByteArray} (h0 : (k == 0) = false) (h1 : (k == 1) = false) (h2 : (k == 2) = false) (h3 : (k == 3) = false) : false = mayB k i f s := by
  have n0 : k ≠ 0 := by simpa using h0
  have n1 : k ≠ 1 := by simpa using h1
  have n2 : k ≠ 2 := by simpa using h2
  rw [← mayB_n h3]; unfold mayN
  by_cases hk : k ≥ 0
  · have n3 : k ≠ 3 := by simpa using h3
    have hk3 : ¬ k < 3 := by omega
    rw [decide_eq_true hk, decide_eq_false hk3]
    generalize (bif (bif bareB k i s then ((f : Int) == 0) else false) then true else false) = q
    cases q <;> rfl
  · rw [decide_eq_false hk]
    generalize (bif bareB k i s then ((f : Int) == 0) else false) = q
    cases q <;> rfl
theorem mayR (k i : Int) (f : Nat) (s : ByteArray) (hf : f < 18446744073709551616) : FnC Try.prog 40 [.agg (valC k i f s)] (· = .bool (mayB k i f s)) := by
  have cp := plusF f hf
  have cs := signW f hf
  have cn := isNaN_g f hf
  have ci := isInf_g f hf
  have ez : (FloatKind.f64.format.order f 0 == some Ordering.eq) = _ := eq_zero hf
  have ha := absLe_eq f
  refine FnC.mk Try.func40 rfl rfl (Nat.le_of_ble_eq_true rfl) (by simp [valC]) (by rintro _ rfl; simp) ?_
  refine joinK.direct ?_
  refine ⟨fun k0 => ?_, fun k0 => ?_⟩
  · refine guardK.spec ?_
    refine callE.mk cp ?_
    exact fin_eq (.bool _) rfl (bool_eq (r0 k0))
  refine ⟨fun k1 => ?_, fun k1 => ?_⟩
  · refine guardK.spec ?_
    refine callK.eq cp ?_
    exact fin_eq (.bool _) rfl (bool_eq (r1 k1))
  refine ⟨fun k2 => ?_, fun k2 => ?_⟩
  · refine guardK.spec ?_
    refine callE.mk cp ?_
    exact fin_eq (.bool _) rfl (bool_eq (r2 k2))
  refine ⟨fun k3 => ?_, fun k3 => join_go ?_⟩
  · refine joinK.direct ?_
    refine guardK.spec ?_
    refine callE.mk cs ?_
    refine ⟨fun hz => ?_, fun hz => join_go ?_⟩
    · have hz' : (bif decide (f % 9223372036854775808 = 0) then signF f else false) = true := by rw [← ez]; exact hz
      exact fin_eq (.bool _) rfl (bool_eq (r3a k3 hf hz'))
    · refine guardK.spec ?_
      refine callE.mk cn ?_
      refine callE.mk ci ?_
      have hz' : (bif decide (f % 9223372036854775808 = 0) then signF f else false) = false := by rw [← ez]; exact hz
      exact fin_eq (.bool _) rfl (bool_eq (r3b k3 hf hz'))
  · exact fin_eq (.bool _) rfl (bool_eq (r4 k0 k1 k2 k3))
end Go.Proofs.Ytaddmokllmdngaa
