/- IntsTranslates: what becomes of a comparison with a frame's base. -/
import Derived.Test.YthbjeeipeadilaaGreatPv5
import Derived.Test.YthbjeeipeadilaaGreatProg
import Derived.IntWalk
set_option linter.unusedSimpArgs false
set_option linter.unusedVariables false
set_option maxRecDepth 10000
namespace Go.Proofs.YthbjeeipeadilaaGreat
open Go Go.Pv Go.RowKit

def dropF (b c : Int) : Int := bif decide (c < b) then 0 else IntKind.u64.wrap (IntKind.u64.wrap c - IntKind.u64.wrap b)
theorem drop (b c : Int) : FnC Tryz.prog 46 [.int .i64 b, .int .i64 c] (· = .tup [.int .u64 (dropF b c), .bool (!decide (c < b))]) := by
  refine FnC.mk Tryz.func46 rfl rfl (Nat.le_of_ble_eq_true rfl) (by simp) (by rintro _ rfl; simp) ?_
  refine joinK.direct ⟨fun h => ?_, fun h => join_go ?_⟩
  · exact fin_eq (.tup [.int _ _, .bool _]) rfl (by unfold dropF; rw [show decide (c < b) = true from h]; rfl)
  · exact fin_eq (.tup [.int _ _, .bool _]) rfl (by unfold dropF; rw [show decide (c < b) = false from h]; rfl)

def standsF (op a b : Int) : Bool :=
  (op == 1 && a == b) || (op == 2 && a != b) || (op == 3 && decide (a < b)) || (op == 4 && decide (a ≤ b)) || (op == 5 && decide (a > b)) || (op == 6 && decide (a ≥ b))

def badF (op width : Int) : Bool := bif bif bif decide (op < 1) then true else decide (op > 6) then true else decide (width < 0) then true else decide (width > 64)
def limI (width : Int) : Int := IntKind.u64.wrap (IntKind.u64.wrap (1 * 2 ^ (min width.toNat 64)) - 1)
def lastI (base width : Int) : Int := bif decide (width < 64) then (if limI width < dropF base 9223372036854775807 then limI width else dropF base 9223372036854775807) else dropF base 9223372036854775807
def lowI (c base : Int) : Bool := !(!decide (c < base))
def highI (c base width : Int) : Bool := bif !decide (c < base) then decide (dropF base c > lastI base width) else false
def allI (op : Int) (low high : Bool) (last v : Int) : Bool :=
  bif op == 1 then (bif bif !low then !high else false then last == 0 else false) else
  bif op == 2 then (bif low then true else high) else
  bif op == 3 then high else
  bif op == 4 then (bif high then true else bif !low then v == last else false) else
  bif op == 5 then low else
  bif op == 6 then (bif low then true else bif v == 0 then !high else false) else false
def noneI (op : Int) (low high : Bool) (last v : Int) : Bool :=
  bif op == 1 then (bif low then true else high) else
  bif op == 2 then (bif bif !low then !high else false then last == 0 else false) else
  bif op == 3 then (bif low then true else bif v == 0 then !high else false) else
  bif op == 4 then low else
  bif op == 5 then (bif high then true else bif !low then v == last else false) else
  bif op == 6 then high else false
def intsR (op v : Int) (a n : Bool) : DV :=
  bif (bif a then true else n) then .tup [.int .i64 0, .int .u64 0, .bool a, .bool n] else .tup [.int .i64 op, .int .u64 v, .bool false, .bool false]
def intsF (op c base width : Int) : DV :=
  bif badF op width then .tup [.int .i64 0, .int .u64 0, .bool false, .bool false] else
    intsR op (dropF base c) (allI op (lowI c base) (highI c base width) (lastI base width) (dropF base c)) (noneI op (lowI c base) (highI c base width) (lastI base width) (dropF base c))
theorem blw_intsF (op c base width : Int) : Blw 0 (intsF op c base width) := by
  unfold intsF intsR
  cases badF op width <;> simp
  generalize allI op _ _ _ _ = a
  generalize noneI op _ _ _ _ = n
  cases a <;> cases n <;> simp

theorem intsToFrame (op c base width : Int) : FnC Tryz.prog 16 [.int .i64 op, .int .i64 c, .int .i64 base, .int .i64 width] (· = intsF op c base width) := by
  refine FnC.mk Tryz.func16 rfl rfl (Nat.le_of_ble_eq_true rfl) (by simp) (by rintro _ rfl; exact blw_intsF ..) ?_
  refine joinK.direct ?_
  refine guardK.spec ?_
  refine ⟨fun h => ?_, fun h => join_go ?_⟩
  · refine fin_eq (.tup [.int _ _, .int _ _, .bool _, .bool _]) rfl ?_
    have hb : badF op width = true := h
    unfold intsF; rw [hb]; rfl
  have hb : badF op width = false := h
  have hw : 0 ≤ width := by
    revert hb; unfold badF; cases decide (op < 1) <;> cases decide (op > 6) <;> simp; omega
  refine callK.eq (drop base 9223372036854775807) ?_
  refine joinK.use [0, 1, 2, 12] (fun _ : Unit => [.int .i64 op, .int .i64 c, .int .i64 base, .int .u64 (lastI base width)]) (fun _ => []) (fun _ => True) ?_ ?_
  · refine ⟨fun h2 => ⟨hw, ?_⟩, fun h2 => ?_⟩
    · have h2 : decide (width < 64) = true := h2
      refine join_at () trivial ⟨rfl, rfl, rfl, int_eq ?_, trivial⟩ (.inl rfl)
      unfold lastI; rw [h2]; rfl
    · have h2 : decide (width < 64) = false := h2
      refine join_at () trivial ⟨rfl, rfl, rfl, int_eq ?_, trivial⟩ (.inl rfl)
      unfold lastI; rw [h2]; rfl
  rintro ⟨⟩ -
  refine callK.eq (drop base c) ?_
  refine guardK.spec ?_
  refine joinK.use [0, 9, 10, 11] (fun _ : Unit => [.int .i64 op, .int .u64 (dropF base c), .bool (allI op (lowI c base) (highI c base width) (lastI base width) (dropF base c)), .bool (noneI op (lowI c base) (highI c base width) (lastI base width) (dropF base c))]) (fun _ => []) (fun _ => True) ?_ ?_
  · refine ⟨fun q1 => ?_, fun q1 => ⟨fun q2 => ?_, fun q2 => ⟨fun q3 => ?_, fun q3 => ⟨fun q4 => ?_, fun q4 => ⟨fun q5 => ?_, fun q5 => ⟨fun q6 => ?_, fun q6 => ?_⟩⟩⟩⟩⟩⟩
    · refine guardK.spec (join_at () trivial ⟨rfl, rfl, bool_eq ?_, bool_eq ?_, trivial⟩ (.inl rfl))
      all_goals first | (unfold allI; rw [show (op == 1) = true from q1]; rfl) | (unfold noneI; rw [show (op == 1) = true from q1]; rfl)
    · refine guardK.spec (join_at () trivial ⟨rfl, rfl, bool_eq ?_, bool_eq ?_, trivial⟩ (.inl rfl))
      all_goals first | (unfold allI; rw [show (op == 1) = false from q1, show (op == 2) = true from q2]; rfl) | (unfold noneI; rw [show (op == 1) = false from q1, show (op == 2) = true from q2]; rfl)
    · refine guardK.spec (join_at () trivial ⟨rfl, rfl, bool_eq ?_, bool_eq ?_, trivial⟩ (.inl rfl))
      all_goals first | (unfold allI; rw [show (op == 1) = false from q1, show (op == 2) = false from q2, show (op == 3) = true from q3]; rfl) | (unfold noneI; rw [show (op == 1) = false from q1, show (op == 2) = false from q2, show (op == 3) = true from q3]; rfl)
    · refine guardK.spec (join_at () trivial ⟨rfl, rfl, bool_eq ?_, bool_eq ?_, trivial⟩ (.inl rfl))
      all_goals first | (unfold allI; rw [show (op == 1) = false from q1, show (op == 2) = false from q2, show (op == 3) = false from q3, show (op == 4) = true from q4]; rfl) | (unfold noneI; rw [show (op == 1) = false from q1, show (op == 2) = false from q2, show (op == 3) = false from q3, show (op == 4) = true from q4]; rfl)
    · refine guardK.spec (join_at () trivial ⟨rfl, rfl, bool_eq ?_, bool_eq ?_, trivial⟩ (.inl rfl))
      all_goals first | (unfold allI; rw [show (op == 1) = false from q1, show (op == 2) = false from q2, show (op == 3) = false from q3, show (op == 4) = false from q4, show (op == 5) = true from q5]; rfl) | (unfold noneI; rw [show (op == 1) = false from q1, show (op == 2) = false from q2, show (op == 3) = false from q3, show (op == 4) = false from q4, show (op == 5) = true from q5]; rfl)
    · refine guardK.spec (join_at () trivial ⟨rfl, rfl, bool_eq ?_, bool_eq ?_, trivial⟩ (.inl rfl))
      all_goals first | (unfold allI; rw [show (op == 1) = false from q1, show (op == 2) = false from q2, show (op == 3) = false from q3, show (op == 4) = false from q4, show (op == 5) = false from q5, show (op == 6) = true from q6]; rfl) | (unfold noneI; rw [show (op == 1) = false from q1, show (op == 2) = false from q2, show (op == 3) = false from q3, show (op == 4) = false from q4, show (op == 5) = false from q5, show (op == 6) = true from q6]; rfl)
    · exfalso
      have q1 : (op == 1) = false := q1
      have q2 : (op == 2) = false := q2
      have q3 : (op == 3) = false := q3
      have q4 : (op == 4) = false := q4
      have q5 : (op == 5) = false := q5
      have q6 : (op == 6) = false := q6
      simp at q1 q2 q3 q4 q5 q6
      revert hb; unfold badF
      cases h1 : decide (op < 1) <;> cases h2 : decide (op > 6) <;> simp
      simp at h1 h2; omega
  rintro ⟨⟩ -
  refine joinK.direct ?_
  refine guardK.spec ?_
  refine ⟨fun h => ?_, fun h => join_go ?_⟩
  · refine fin_eq (.tup [.int _ _, .int _ _, .bool _, .bool _]) rfl ?_
    unfold intsF intsR
    rw [hb, h]; rfl
  · refine fin_eq (.tup [.int _ _, .int _ _, .bool _, .bool _]) rfl ?_
    unfold intsF intsR
    rw [hb, h]; rfl
end Go.Proofs.YthbjeeipeadilaaGreat
