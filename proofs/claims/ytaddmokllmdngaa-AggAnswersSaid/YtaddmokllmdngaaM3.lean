/- The seat s1: the answers of the program and of the reference. -/
import Derived.Test.YtaddmokllmdngaaM1
import Derived.Test.YtaddmokllmdngaaM2
namespace Go.Proofs.Ytaddmokllmdngaa
open Go Go.Pv Go.RowKit
set_option linter.unusedSimpArgs false
set_option linter.unusedVariables false
set_option maxRecDepth 10000
set_option exponentiation.threshold 2000

/-- The answer, told as parts of a value, and an error's number. -/
structure AV where
  k : Int
  i : Int
  f : Nat
  s : ByteArray
  e : Int
def meanF (v : SV) : Nat := refF v.x v.c.toNat
def ans (kind : Int) (v : SV) : AV :=
  if kind = 2 then ⟨1, v.r, 0, .empty, 0⟩ else if kind = 3 then ⟨1, v.c, 0, .empty, 0⟩ else if kind = 5 then ⟨v.k, v.i, v.f, v.s, 0⟩ else if kind = 6 then ⟨v.k', v.i', v.f', v.s', 0⟩
  else if kind = 4 then (if v.c < 1 then ⟨0, 0, 0, .empty, 0⟩ else if isI64 v.x then ⟨1, v.x, 0, .empty, 0⟩ else ⟨0, 0, 0, .empty, 210⟩)
  else if kind = 7 then (if v.c < 1 then ⟨0, 0, 0, .empty, 0⟩ else ⟨3, 0, meanF v, .empty, 0⟩)
  else ⟨0, 0, 0, .empty, 2⟩
def ansD (kind : Int) (v : SV) : DV := .tup [.agg (valC (ans kind v).k (ans kind v).i (ans kind v).f (ans kind v).s), .int .i64 (ans kind v).e]
theorem ansD_eq {kind : Int} {v : SV} {k i : Int} {f : Nat} {s : ByteArray} {e : Int} (h : ans kind v = ⟨k, i, f, s, e⟩) : DV.tup [.agg [.int .i64 k, .int .i64 i, .flt .f64 f, .str s], .int .i64 e] = ansD kind v := by
  unfold ansD; rw [h]; rfl
theorem ans_2 (v : SV) : ans 2 v = ⟨1, v.r, 0, .empty, 0⟩ := rfl
theorem ans_3 (v : SV) : ans 3 v = ⟨1, v.c, 0, .empty, 0⟩ := rfl
theorem ans_5 (v : SV) : ans 5 v = ⟨v.k, v.i, v.f, v.s, 0⟩ := rfl
theorem ans_6 (v : SV) : ans 6 v = ⟨v.k', v.i', v.f', v.s', 0⟩ := rfl
theorem ans_4 (v : SV) : ans 4 v = if v.c < 1 then ⟨0, 0, 0, .empty, 0⟩ else if isI64 v.x then ⟨1, v.x, 0, .empty, 0⟩ else ⟨0, 0, 0, .empty, 210⟩ := rfl
theorem ans_7 (v : SV) : ans 7 v = if v.c < 1 then ⟨0, 0, 0, .empty, 0⟩ else ⟨3, 0, meanF v, .empty, 0⟩ := rfl
theorem ans_o {kind : Int} (v : SV) (h2 : kind ≠ 2) (h3 : kind ≠ 3) (h5 : kind ≠ 5) (h6 : kind ≠ 6) (h4 : kind ≠ 4) (h7 : kind ≠ 7) : ans kind v = ⟨0, 0, 0, .empty, 2⟩ := by
  unfold ans; rw [if_neg h2, if_neg h3, if_neg h5, if_neg h6, if_neg h4, if_neg h7]
/-- Both Reals of a mean. -/
theorem real_both (v : SV) (hv : v.Ok) (hc : 1 ≤ v.c) :
    FnC Try.prog 32 [.flt .f64 (meanF v)] (· = .agg (valC 3 0 (meanF v) .empty)) ∧ FnC Try.prog 36 [.flt .f64 (meanF v)] (· = .agg (valC 3 0 (meanF v) .empty)) := by
  by_cases hx : v.x = 0
  · have e : meanF v = 0 := by unfold meanF refF; rw [if_pos hx]
    rw [e]
    exact ⟨realR0, realV 0 sub_00 add_00⟩
  · have hr := hv.c
    unfold i64R at hr
    obtain ⟨E, M, hok, e⟩ := ref_fok v.x v.c.toNat hv.x (by omega) (by omega) hx
    have e : meanF v = fbits (decide (v.x < 0)) E M := e
    rw [e]
    exact ⟨realR hok _, realV _ (sub_self hok _) (add_zero' hok _)⟩
theorem mean_v (v : SV) (hv : v.Ok) (hc : 1 ≤ v.c) : FnC Try.prog 35 [wideD v.x, .int .i64 v.c] (· = .tup [.flt .f64 (meanF v), .int .i64 0]) := by
  have h := meanW v.x v.c hv.x hv.c
  have e : meanD v.x v.c = .tup [.flt .f64 (meanF v), .int .i64 0] := by
    unfold meanD meanF refF; rw [if_neg (by omega)]; split <;> rfl
  rwa [e] at h
theorem mean_r (v : SV) (hv : v.Ok) (hc : 1 ≤ v.c) : FnC Try.prog 33 [.int .i64 (hiW v.x), .int .u64 (loW v.x), .int .i64 v.c] (· = .flt .f64 (meanF v)) := by
  have hr := hv.c
  unfold i64R at hr
  have h := meanR v.x hv.x v.c.toNat (by omega) (by omega)
  rwa [show ((v.c.toNat : Nat) : Int) = v.c from by omega] at h
theorem keq {a b : Int} (h : (a == b) = true) : a = b := eq_of_beq h
theorem kne {a b : Int} (h : (a == b) = false) : a ≠ b := by intro e; rw [e] at h; simp at h
theorem ans_2' {kind : Int} (v : SV) (h : (kind == 2) = true) : ans kind v = ⟨1, v.r, 0, .empty, 0⟩ := by rw [keq h, ans_2]
theorem ans_3' {kind : Int} (v : SV) (h : (kind == 3) = true) : ans kind v = ⟨1, v.c, 0, .empty, 0⟩ := by rw [keq h, ans_3]
theorem ans_5' {kind : Int} (v : SV) (h : (kind == 5) = true) : ans kind v = ⟨v.k, v.i, v.f, v.s, 0⟩ := by rw [keq h, ans_5]
theorem ans_6' {kind : Int} (v : SV) (h : (kind == 6) = true) : ans kind v = ⟨v.k', v.i', v.f', v.s', 0⟩ := by rw [keq h, ans_6]
theorem ans_4a {kind : Int} (v : SV) (h : (kind == 4) = true) (hc : decide (v.c < 1) = true) : ans kind v = ⟨0, 0, 0, .empty, 0⟩ := by rw [keq h, ans_4, if_pos (of_decide_eq_true hc)]
theorem ans_4b {kind : Int} (v : SV) (h : (kind == 4) = true) (hc : decide (v.c < 1) = false) (hi : isI64 v.x = true) : ans kind v = ⟨1, v.x, 0, .empty, 0⟩ := by rw [keq h, ans_4, if_neg (of_decide_eq_false hc), if_pos hi]
theorem ans_4c {kind : Int} (v : SV) (h : (kind == 4) = true) (hc : decide (v.c < 1) = false) (hi : isI64 v.x = false) : ans kind v = ⟨0, 0, 0, .empty, 210⟩ := by rw [keq h, ans_4, if_neg (of_decide_eq_false hc), if_neg (by rw [hi]; decide)]
theorem ans_7a {kind : Int} (v : SV) (h : (kind == 7) = true) (hc : decide (v.c < 1) = true) : ans kind v = ⟨0, 0, 0, .empty, 0⟩ := by rw [keq h, ans_7, if_pos (of_decide_eq_true hc)]
theorem ans_7b {kind : Int} (v : SV) (h : (kind == 7) = true) (hc : decide (v.c < 1) = false) : ans kind v = ⟨3, 0, meanF v, .empty, 0⟩ := by rw [keq h, ans_7, if_neg (of_decide_eq_false hc)]
theorem ans_o' {kind : Int} (v : SV) (h2 : (kind == 2) = false) (h3 : (kind == 3) = false) (h5 : (kind == 5) = false) (h6 : (kind == 6) = false) (h4 : (kind == 4) = false) (h7 : (kind == 7) = false) : ans kind v = ⟨0, 0, 0, .empty, 2⟩ :=
  ans_o v (kne h2) (kne h3) (kne h5) (kne h6) (kne h4) (kne h7)
theorem sum_word (x : Int) (hx : in128 x) (n : Int) (hn : n = IntKind.i64.wrap (loW x)) :
    i64R n ∧ (bif ((if n < 0 then -1 else 0) != hiW x) then true else (IntKind.u64.wrap n != loW x)) = !isI64 x ∧ (isI64 x = true → n = x) := by
  have hw : i64R n := by rw [hn]; unfold i64R; rw [IntKind.wrap_i64]; omega
  have e1 : IntKind.u64.wrap n = loW x := by
    rw [hn, IntKind.wrap_i64, IntKind.wrap_u64]; unfold loW; omega
  have e2 : (isI64 x = true → n = x) := by
    intro h; unfold isI64 at h; simp at h
    rw [hn, IntKind.wrap_i64]; unfold loW; omega
  refine ⟨hw, ?_, e2⟩
  rw [e1]
  have hh := hi_in hx
  have e3 : (loW x != loW x) = false := by simp
  rw [e3]
  have hnv : n = (loW x + 9223372036854775808) % 18446744073709551616 - 9223372036854775808 := by rw [hn, IntKind.wrap_i64]
  by_cases hi : isI64 x = true
  · have hx2 := e2 hi
    rw [hi]
    unfold isI64 at hi; simp at hi
    rw [hh]
    have : (if n < 0 then (-1 : Int) else 0) = x / 18446744073709551616 := by split <;> omega
    rw [this]; simp
  · have hi2 : isI64 x = false := by simpa using hi
    rw [hi2]
    unfold isI64 at hi2; simp at hi2
    rw [hh]
    have hne : ¬ ((if n < 0 then (-1 : Int) else 0) = x / 18446744073709551616) := by
      intro e
      unfold loW at hnv
      split at e <;> omega
    have : ((if n < 0 then (-1 : Int) else 0) != x / 18446744073709551616) = true := by simpa using hne
    rw [this]; rfl
theorem not_of {b : Bool} (h : (!b) = true) : b = false := by cases b; rfl; cases h
theorem not_of' {b : Bool} (h : (!b) = false) : b = true := by cases b; cases h; rfl
theorem st_blw1 (v : SV) : ∀ d ∈ stC v, Blw 0 d := stC_blw [v] (stC v) (by simp)
theorem ans_blw (kind : Int) (v : SV) : Blw 0 (ansD kind v) := by unfold ansD valC; simp

theorem answerR (kind : Int) (v : SV) (hv : v.Ok) : FnC Try.prog 16 [.int .i64 kind, .agg (stC v)] (· = ansD kind v) := by
  obtain ⟨n, hn⟩ : ∃ n, n = IntKind.i64.wrap (loW v.x) := ⟨_, rfl⟩
  obtain ⟨hw, hcond, hnx⟩ := sum_word v.x hv.x n hn
  have cw' := wideR n hw
  have hb : ∀ {kind : Int}, (kind == 4) = true → decide (v.c < 1) = false → isI64 v.x = true → ans kind v = ⟨1, n, 0, .empty, 0⟩ := fun k4 hc hi => by rw [hnx hi]; exact ans_4b v k4 hc hi
  subst hn
  refine FnC.mk Try.func16 rfl rfl (Nat.le_of_ble_eq_true rfl) (by intro d hd; simp at hd; rcases hd with rfl | rfl; simp; rw [blw_agg]; exact st_blw1 v) (by rintro _ rfl; exact ans_blw kind v) ?_
  refine joinK.direct ?_
  refine ⟨fun k2 => ?_, fun k2 => ?_⟩
  · exact fin_eq (.tup [.agg _, .int _ _]) rfl (ansD_eq (ans_2' v k2))
  refine ⟨fun k3 => ?_, fun k3 => ?_⟩
  · exact fin_eq (.tup [.agg _, .int _ _]) rfl (ansD_eq (ans_3' v k3))
  refine ⟨fun k5 => ?_, fun k5 => ?_⟩
  · exact fin_eq (.tup [.agg _, .int _ _]) rfl (ansD_eq (ans_5' v k5))
  refine ⟨fun k6 => ?_, fun k6 => ?_⟩
  · exact fin_eq (.tup [.agg _, .int _ _]) rfl (ansD_eq (ans_6' v k6))
  refine ⟨fun k4 => ?_, fun k4 => ?_⟩
  · refine joinK.direct ⟨fun hc => ?_, fun hc => join_go ?_⟩
    · exact fin_eq (.tup [.agg _, .int _ _]) rfl (ansD_eq (ans_4a v k4 hc))
    show callK _ _ _ _ _
    refine callK.eq cw' ?_
    refine joinK.direct ?_
    refine guardK.spec ?_
    refine ⟨fun h => ?_, fun h => join_go ?_⟩
    · have h : (bif ((if IntKind.i64.wrap (loW v.x) < 0 then (-1 : Int) else 0) != hiW v.x) then true else (IntKind.u64.wrap (IntKind.i64.wrap (loW v.x)) != loW v.x)) = true := h
      exact fin_eq (.tup [.agg _, .int _ _]) rfl (ansD_eq (ans_4c v k4 hc (not_of (hcond.symm.trans h))))
    · have h : (bif ((if IntKind.i64.wrap (loW v.x) < 0 then (-1 : Int) else 0) != hiW v.x) then true else (IntKind.u64.wrap (IntKind.i64.wrap (loW v.x)) != loW v.x)) = false := h
      exact fin_eq (.tup [.agg _, .int _ _]) rfl (ansD_eq (hb k4 hc (not_of' (hcond.symm.trans h))))
  refine ⟨fun k7 => ?_, fun k7 => join_go ?_⟩
  · refine joinK.direct ⟨fun hc => ?_, fun hc => join_go ?_⟩
    · exact fin_eq (.tup [.agg _, .int _ _]) rfl (ansD_eq (ans_7a v k7 hc))
    have hc1 : 1 ≤ v.c := by have := of_decide_eq_false hc; omega
    refine callK.eq (mean_r v hv hc1) ?_
    refine callK.eq (real_both v hv hc1).1 ?_
    exact fin_eq (.tup [.agg _, .int _ _]) rfl (ansD_eq (ans_7b v k7 hc))
  exact fin_eq (.tup [.agg _, .int _ _]) rfl (ansD_eq (ans_o' v k2 k3 k5 k6 k4 k7))

theorem answerW (kind : Int) (v : SV) (hv : v.Ok) : FnC Try.prog 17 [.int .i64 kind, .agg (stC v)] (· = ansD kind v) := by
  have c1 := intW v.x hv.x
  refine FnC.mk Try.func17 rfl rfl (Nat.le_of_ble_eq_true rfl) (by intro d hd; simp at hd; rcases hd with rfl | rfl; simp; rw [blw_agg]; exact st_blw1 v) (by rintro _ rfl; exact ans_blw kind v) ?_
  refine joinK.direct ?_
  refine ⟨fun k2 => ?_, fun k2 => ?_⟩
  · refine callK.eq (intV v.r) ?_
    exact fin_eq (.tup [.agg _, .int _ _]) rfl (ansD_eq (ans_2' v k2))
  refine ⟨fun k3 => ?_, fun k3 => ?_⟩
  · refine callK.eq (intV v.c) ?_
    exact fin_eq (.tup [.agg _, .int _ _]) rfl (ansD_eq (ans_3' v k3))
  refine ⟨fun k5 => ?_, fun k5 => ?_⟩
  · exact fin_eq (.tup [.agg _, .int _ _]) rfl (ansD_eq (ans_5' v k5))
  refine ⟨fun k6 => ?_, fun k6 => ?_⟩
  · exact fin_eq (.tup [.agg _, .int _ _]) rfl (ansD_eq (ans_6' v k6))
  have e4 : ∀ {b : Bool}, (kind == 4) = true → (kind == 7) = true → b = true := fun h4 h7 => by
    have := keq h4; have := keq h7; omega
  refine joinK.direct ⟨fun k4 => join_go ?_, fun k4 => join_go ?_⟩
  · refine ⟨fun _ => join_go ?_, fun h => absurd (k4.symm.trans h) (by decide)⟩
    refine joinK.direct ⟨fun hc => ?_, fun hc => join_go ?_⟩
    · exact fin_eq (.tup [.agg _, .int _ _]) rfl (ansD_eq (ans_4a v k4 hc))
    refine joinK.direct ⟨fun k7 => ?_, fun _ => join_go ?_⟩
    · exact absurd (e4 (b := false) k4 k7) (by decide)
    refine callK.eq c1 ?_
    refine joinK.direct ⟨fun hi => ?_, fun hi => join_go ?_⟩
    · exact fin_eq (.tup [.agg _, .int _ _]) rfl (ansD_eq (ans_4c v k4 hc (not_of hi)))
    · refine callK.eq (intV _) ?_
      exact fin_eq (.tup [.agg _, .int _ _]) rfl (ansD_eq ((ans_4b v k4 hc (not_of' hi)).trans (by rw [if_pos (not_of' hi)])))
  · refine ⟨fun k7 => join_go ?_, fun k7 => ?_⟩
    · refine joinK.direct ⟨fun hc => ?_, fun hc => join_go ?_⟩
      · exact fin_eq (.tup [.agg _, .int _ _]) rfl (ansD_eq (ans_7a v k7 hc))
      have hc1 : 1 ≤ v.c := by have := of_decide_eq_false hc; omega
      refine joinK.direct ⟨fun _ => ?_, fun h => absurd (k7.symm.trans h) (by decide)⟩
      refine callK.eq (mean_v v hv hc1) ?_
      refine callK.eq (real_both v hv hc1).2 ?_
      exact fin_eq (.tup [.agg _, .int _ _]) rfl (ansD_eq (ans_7b v k7 hc))
    · exact fin_eq (.tup [.agg _, .int _ _]) rfl (ansD_eq (ans_o' v k2 k3 k5 k6 k4 k7))
end Go.Proofs.Ytaddmokllmdngaa
