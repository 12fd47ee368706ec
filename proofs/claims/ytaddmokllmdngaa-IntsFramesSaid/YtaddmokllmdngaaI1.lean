import Derived.Test.YtaddmokllmdngaaPv5
import Derived.Test.YtaddmokllmdngaaRows
import Derived.IntWalk
namespace Go.Proofs.Ytaddmokllmdngaa
open Go Go.Pv Go.RowKit
set_option maxRecDepth 10000

def dropF (b c : Int) : Int := bif decide (c < b) then 0 else IntKind.u64.wrap (IntKind.u64.wrap c - IntKind.u64.wrap b)
theorem drop (b c : Int) : FnC Try.prog 20 [.int .i64 b, .int .i64 c] (· = .tup [.int .u64 (dropF b c), .bool (!decide (c < b))]) := by
  refine FnC.mk Try.func20 rfl rfl (Nat.le_of_ble_eq_true rfl) (by simp) (by rintro _ rfl; simp) ?_
  refine joinK.direct ⟨fun h => ?_, fun h => join_go ?_⟩
  · exact fin_eq (.tup [.int _ _, .bool _]) rfl (by unfold dropF; rw [show decide (c < b) = true from h]; rfl)
  · exact fin_eq (.tup [.int _ _, .bool _]) rfl (by unfold dropF; rw [show decide (c < b) = false from h]; rfl)

def standsF (op a b : Int) : Bool :=
  (op == 1 && a == b) || (op == 2 && a != b) || (op == 3 && decide (a < b)) || (op == 4 && decide (a ≤ b)) || (op == 5 && decide (a > b)) || (op == 6 && decide (a ≥ b))

theorem stands (op a b : Int) : FnC Try.prog 19 [.int .i64 op, .int .i64 a, .int .i64 b] (· = .bool (standsF op a b)) := by
  refine FnC.mk Try.func19 rfl rfl (Nat.le_of_ble_eq_true rfl) (by simp) (by rintro _ rfl; simp) ?_
  refine guardK.spec ?_
  refine fin_eq (.bool _) rfl ?_
  unfold standsF
  simp only [Bool.cond_false_right, Bool.cond_true_left]

def isAt (op c base x : Int) : Bool := standsF op (IntKind.i64.wrap (IntKind.u64.wrap (IntKind.u64.wrap base + x))) c
def refTailF (op c base at_ : Int) (codes : List Int) : DV :=
  bif codes.all (isAt op c base) || codes.all (fun x => !isAt op c base x) then .tup [.int .i64 0, .int .u64 0, .bool (codes.all (isAt op c base)), .bool (codes.all fun x => !isAt op c base x)]
  else .tup [.int .i64 op, .int .u64 at_, .bool false, .bool false]

def lim (width : Int) : Int := IntKind.u64.wrap (IntKind.u64.wrap (1 * 2 ^ (min (IntKind.u64.wrap width).toNat 64)) - 1)
def last0 (base : Int) : Int := IntKind.u64.wrap (9223372036854775807 - IntKind.u64.wrap base)
def cutF (base width : Int) : Bool := bif decide (width < 64) then decide (last0 base > lim width) else false
def lastF (base width : Int) : Int := bif cutF base width then lim width else last0 base
def atF (c base : Int) : Int := IntKind.u64.wrap (IntKind.u64.wrap c - IntKind.u64.wrap base)
def badF (op width : Int) : Bool := bif bif bif decide (op < 1) then true else decide (op > 6) then true else decide (width < 0) then true else decide (width > 64)
def codesF (c base width : Int) : List Int :=
  [0, lastF base width] ++ (bif decide (c ≥ base) && decide (atF c base ≤ lastF base width) then [atF c base] ++ (bif decide (atF c base > 0) then [IntKind.u64.wrap (atF c base - 1)] else []) ++ (bif decide (atF c base < lastF base width) then [IntKind.u64.wrap (atF c base + 1)] else []) else [])
def refF (op c base width : Int) : DV :=
  bif badF op width then .tup [.int .i64 0, .int .u64 0, .bool false, .bool false] else refTailF op c base (atF c base) (codesF c base width)

theorem blw_refF (op c base width : Int) : Blw 0 (refF op c base width) := by
  unfold refF refTailF
  cases badF op width <;> simp
  cases h : ((codesF c base width).all (isAt op c base) || (codesF c base width).all fun x => !isAt op c base x) <;> simp

theorem shl_nn (x : Int) : 0 ≤ IntKind.u64.wrap x := by rw [IntKind.wrap_u64]; omega

theorem no_ff {b : Bool} {p : Prop} (h : b = true) (h' : b = false) : p := by rw [h] at h'; cases h'

def ob (x : Int) : Option PO := some ⟨false, 1, 23, [[.int .u64 x]]⟩
def obs (xs : List Int) : Option PO := some ⟨false, 1, 23, xs.map fun x => [.int .u64 x]⟩

theorem refToFrame (op c base width : Int) : FnC Try.prog 8 [.int .i64 op, .int .i64 c, .int .i64 base, .int .i64 width] (· = refF op c base width) := by
  refine FnC.mk Try.func8 rfl rfl (Nat.le_of_ble_eq_true rfl) (by simp) (by rintro _ rfl; exact blw_refF ..) ?_
  refine joinK.direct ?_
  refine guardK.spec ?_
  refine ⟨fun h => ?_, fun h => join_go ?_⟩
  · refine fin_eq (.tup [.int _ _, .int _ _, .bool _, .bool _]) rfl ?_
    have hb : badF op width = true := h
    unfold refF; rw [hb]; rfl
  have hb : badF op width = false := h
  refine joinK.use [0, 1, 2, 12] (fun _ : Unit => [.int .i64 op, .int .i64 c, .int .i64 base, .int .u64 (lastF base width)]) (fun _ => []) (fun _ => True) ?_ ?_
  · refine guardK.spec ⟨shl_nn _, fun h2 => ⟨shl_nn _, ?_⟩, fun h2 => ?_⟩
    · have h2 : cutF base width = true := h2
      refine join_at () trivial ⟨rfl, rfl, rfl, int_eq ?_, trivial⟩ (.inl rfl)
      unfold lastF; rw [h2]; rfl
    · have h2 : cutF base width = false := h2
      refine join_at () trivial ⟨rfl, rfl, rfl, int_eq ?_, trivial⟩ (.inl rfl)
      unfold lastF; rw [h2]; rfl
  rintro ⟨⟩ -
  refine joinK.use [0, 1, 2, 13, 14] (fun s : Nat × Objs => [.int .i64 op, .int .i64 c, .int .i64 base, .ref s.1 0 (codesF c base width).length, .int .u64 (atF c base)]) (fun s => s.2)
    (fun s => obj s.2 s.1 = some ⟨false, 1, 23, (codesF c base width).map fun x => [.int .u64 x]⟩) ?_ ?_
  · refine guardK.spec ⟨fun h3 => ?_, fun h3 => ?_⟩
    · have h3 : (bif decide (c ≥ base) then decide (atF c base ≤ lastF base width) else false) = true := h3
      have hc : codesF c base width = [0, lastF base width] ++ ([atF c base] ++ (bif decide (atF c base > 0) then [IntKind.u64.wrap (atF c base - 1)] else []) ++ (bif decide (atF c base < lastF base width) then [IntKind.u64.wrap (atF c base + 1)] else [])) := by unfold codesF; rw [← Bool.cond_false_right, h3]; rfl
      refine appK.go ⟨.cons rfl .nil, rfl, .lit 3 8 rfl rfl (by decide) (by decide), ?_⟩
      refine joinK.direct ⟨fun h4 => ?_, fun h4 => join_go ?_⟩
      · refine appK.go ⟨.cons rfl .nil, rfl, .lit 4 8 rfl rfl (by decide) (by decide), ?_⟩
        refine join_go ⟨fun h5 => ?_, fun h5 => ?_⟩
        · have hc' : codesF c base width = [0, (lastF base width), (atF c base), (IntKind.u64.wrap (atF c base - 1)), (IntKind.u64.wrap (atF c base + 1))] := by rw [hc, show decide (atF c base > 0) = true from h4, show decide (atF c base < lastF base width) = true from h5]; rfl
          refine appK.go ⟨.cons rfl .nil, rfl, .lit 5 8 rfl rfl (by decide) (by decide), ?_⟩
          exact join_at (6, [none, ob (atF c base), none, ob (IntKind.u64.wrap (atF c base - 1)), none, ob (IntKind.u64.wrap (atF c base + 1)), obs [0, (lastF base width), (atF c base), (IntKind.u64.wrap (atF c base - 1)), (IntKind.u64.wrap (atF c base + 1))]]) (by rw [hc']; rfl) ⟨rfl, rfl, rfl, ref_len 5 rfl (by rw [hc']; rfl), rfl, trivial⟩ (.inl rfl)
        · have hc' : codesF c base width = [0, (lastF base width), (atF c base), (IntKind.u64.wrap (atF c base - 1))] := by rw [hc, show decide (atF c base > 0) = true from h4, show decide (atF c base < lastF base width) = false from h5]; rfl
          exact join_at (4, [none, ob (atF c base), none, ob (IntKind.u64.wrap (atF c base - 1)), obs [0, (lastF base width), (atF c base), (IntKind.u64.wrap (atF c base - 1))]]) (by rw [hc']; rfl) ⟨rfl, rfl, rfl, ref_len 4 rfl (by rw [hc']; rfl), rfl, trivial⟩ (.inl rfl)
      · refine ⟨fun h5 => ?_, fun h5 => ?_⟩
        · have hc' : codesF c base width = [0, (lastF base width), (atF c base), (IntKind.u64.wrap (atF c base + 1))] := by rw [hc, show decide (atF c base > 0) = false from h4, show decide (atF c base < lastF base width) = true from h5]; rfl
          refine appK.go ⟨.cons rfl .nil, rfl, .lit 4 8 rfl rfl (by decide) (by decide), ?_⟩
          exact join_at (4, [none, ob (atF c base), none, ob (IntKind.u64.wrap (atF c base + 1)), obs [0, (lastF base width), (atF c base), (IntKind.u64.wrap (atF c base + 1))]]) (by rw [hc']; rfl) ⟨rfl, rfl, rfl, ref_len 4 rfl (by rw [hc']; rfl), rfl, trivial⟩ (.inl rfl)
        · have hc' : codesF c base width = [0, (lastF base width), (atF c base)] := by rw [hc, show decide (atF c base > 0) = false from h4, show decide (atF c base < lastF base width) = false from h5]; rfl
          exact join_at (2, [none, ob (atF c base), obs [0, (lastF base width), (atF c base)]]) (by rw [hc']; rfl) ⟨rfl, rfl, rfl, ref_len 3 rfl (by rw [hc']; rfl), rfl, trivial⟩ (.inl rfl)
    · have h3 : (bif decide (c ≥ base) then decide (atF c base ≤ lastF base width) else false) = false := h3
      have hc : codesF c base width = [0, lastF base width] := by unfold codesF; rw [← Bool.cond_false_right, h3]; rfl
      exact join_at (0, [some ⟨false, 1, 23, [[.int .u64 0], [.int .u64 (lastF base width)]]⟩]) (by rw [hc]; rfl) ⟨rfl, rfl, rfl, ref_eq (by rw [hc]; rfl), rfl, trivial⟩ (.inl rfl)
  rintro ⟨id, σ⟩ ho
  simp only at ho
  generalize hcodes : codesF c base width = codes at *
  have hl5 : codes.length ≤ 5 := by
    subst hcodes
    unfold codesF
    cases (decide (c ≥ base) && decide (atF c base ≤ lastF base width)) <;> cases decide (atF c base > 0) <;> cases decide (atF c base < lastF base width) <;> simp
  have hr : refF op c base width = refTailF op c base (atF c base) codes := by unfold refF; rw [hb, hcodes]; rfl
  refine joinK.direct ?_
  refine loopK.use [0, 1, 2, 13, 14, 10, 11, 15] (fun i : Nat => [.int .i64 op, .int .i64 c, .int .i64 base, .ref id 0 codes.length, .int .u64 (atF c base), .bool ((codes.take i).all (isAt op c base)), .bool ((codes.take i).all fun x => !isAt op c base x), .int .i64 i])
    (fun _ => σ) (fun i => i ≤ codes.length) (fun i => codes.length - i) 0 (Nat.zero_le _) ⟨rfl, rfl, rfl, rfl, rfl, rfl, rfl, rfl, trivial⟩ (.inl rfl) ?_
  intro i hi
  refine joinK.direct ?_
  refine optK.mk (lenS_ref ho) ?_
  refine ⟨fun hlt => join_go ?_, fun hge => join_go ?_⟩
  · have hlt : i < codes.length := by have := of_decide_eq_true hlt; omega
    refine ⟨by omega, by omega, optK.mk ho ?_⟩
    refine optK.mk ho (optK.mk (y := [.int .u64 codes[i]]) (by simp [hlt]) ?_)
    refine callK.eq (stands op _ c) ?_
    refine guardK.spec ?_
    refine guardK.spec ?_
    have htake : codes.take (i + 1) = codes.take i ++ [codes[i]] := by simp
    refine loop_next (i + 1) (by omega) (by omega) ⟨rfl, rfl, rfl, rfl, rfl, bool_eq ?_, bool_eq ?_, int_eq ?_, trivial⟩ (.inl rfl)
    · rw [htake, List.all_append, Bool.cond_false_right]; simp [isAt]
    · rw [htake, List.all_append, Bool.cond_false_right]; simp [isAt]
    · rw [IntKind.wrap_i64]; omega
  · have hge : i = codes.length := by have := of_decide_eq_false hge; omega
    subst hge
    refine joinK.direct ?_
    refine guardK.spec ?_
    refine ⟨fun h => ?_, fun h => join_go ?_⟩
    · refine fin_eq (.tup [.int _ _, .int _ _, .bool _, .bool _]) rfl ?_
      rw [hr]
      unfold refTailF
      rw [List.take_length] at h ⊢
      rw [Bool.cond_true_left] at h
      rw [h]; rfl
    · refine fin_eq (.tup [.int _ _, .int _ _, .bool _, .bool _]) rfl ?_
      rw [hr]
      unfold refTailF
      rw [List.take_length] at h
      rw [Bool.cond_true_left] at h
      rw [h]; rfl

end Go.Proofs.Ytaddmokllmdngaa
