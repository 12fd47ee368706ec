/- IntsTranslates: the law's walk; what is handed in. -/
import Derived.Test.YthbjeeipeadilaaGreatJ2
import Derived.Test.YthbjeeipeadilaaGreatPvL
set_option linter.unusedSimpArgs false
set_option linter.unusedVariables false
set_option maxRecDepth 10000
namespace Go.Proofs.YthbjeeipeadilaaGreat
open Go Go.Pv Go.RowKit Go.ChangeShapes Go.WideShapes Go.ChangeAt

theorem lim_nat (w : Nat) (hw : w < 64) : IntKind.u64.wrap (IntKind.u64.wrap (1 * 2 ^ (min w 64)) - 1) = ((2 ^ w - 1 : Nat) : Int) := by
  have : (2 : Nat) ^ w < 2 ^ 64 := Nat.pow_lt_pow_right (by omega) hw
  have h1 : 1 ≤ (2 : Nat) ^ w := Nat.one_le_two_pow
  rw [Nat.min_eq_left (by omega), Int.one_mul, show (2 : Int) ^ w = ((2 ^ w : Nat) : Int) from by rw [Int.natCast_pow]; rfl, IntKind.wrap_u64, IntKind.wrap_u64]
  generalize (2 : Nat) ^ w = m at *
  omega
theorem and_lim (code width : Int) (h0 : 0 ≤ code) (h1 : code < 18446744073709551616) (hw0 : 0 ≤ width) (hw : width < 64) :
    0 ≤ Go.bits .and .u64 code (IntKind.u64.wrap (IntKind.u64.wrap (1 * 2 ^ min (IntKind.u64.wrap width).toNat IntKind.u64.bits) - 1)) ∧
      Go.bits .and .u64 code (IntKind.u64.wrap (IntKind.u64.wrap (1 * 2 ^ min (IntKind.u64.wrap width).toNat IntKind.u64.bits) - 1)) ≤ limI width := by
  obtain ⟨n, rfl⟩ := Int.eq_ofNat_of_zero_le h0
  obtain ⟨w, rfl⟩ := Int.eq_ofNat_of_zero_le hw0
  have e : IntKind.u64.wrap (w : Int) = (w : Int) := by rw [IntKind.wrap_u64]; omega
  have hl := lim_nat w (by omega)
  have hlt : (2 : Nat) ^ w < 2 ^ 64 := Nat.pow_lt_pow_right (by omega) (by omega)
  have e2 := bits_and_u64_nat n (2 ^ w - 1) (by omega) (Nat.lt_of_le_of_lt (Nat.sub_le _ _) hlt)
  have hle : n &&& (2 ^ w - 1) ≤ 2 ^ w - 1 := Nat.and_le_right
  unfold limI
  rw [e, Int.toNat_natCast]
  show 0 ≤ Go.bits .and .u64 _ (IntKind.u64.wrap (IntKind.u64.wrap (1 * 2 ^ min w 64) - 1)) ∧ Go.bits .and .u64 _ (IntKind.u64.wrap (IntKind.u64.wrap (1 * 2 ^ min w 64) - 1)) ≤ _
  rw [hl, e2]
  generalize 2 ^ w - 1 = m at *
  omega
theorem lawTranslates (op c base width code : Int) (hc : -9223372036854775808 ≤ c ∧ c ≤ 9223372036854775807) (hb : -9223372036854775808 ≤ base ∧ base ≤ 9223372036854775807) (hk : 0 ≤ code ∧ code ≤ 18446744073709551615) :
    FnC Tryz.prog 5 [.int .i64 op, .int .i64 c, .int .i64 base, .int .i64 width, .int .u64 code] (· = .bool true) := by
  have po := pickC op 6 (by decide) (by decide)
  have pw := pickC width 65 (by decide) (by decide)
  have o0 := Int.emod_nonneg op (show (6 : Int) ≠ 0 by decide)
  have o1 := Int.emod_lt_of_pos op (show (0 : Int) < 6 by decide)
  have w0 := Int.emod_nonneg width (show (65 : Int) ≠ 0 by decide)
  have w1 := Int.emod_lt_of_pos width (show (0 : Int) < 65 by decide)
  generalize op % 6 = o' at *
  generalize width % 65 = w at *
  have ho : IntKind.i64.wrap (1 + o') = 1 + o' := by rw [IntKind.wrap_i64]; omega
  have hop : 1 ≤ 1 + o' ∧ 1 + o' ≤ 6 := by omega
  obtain ⟨o, hoo⟩ : ∃ o, o = 1 + o' := ⟨_, rfl⟩
  rw [← hoo] at hop
  have ho : IntKind.i64.wrap (1 + o') = o := ho.trans hoo.symm
  have hwn : 0 ≤ IntKind.u64.wrap w := by rw [IntKind.wrap_u64]; omega
  have hL : IntKind.u64.wrap (9223372036854775807 - IntKind.u64.wrap base) = 9223372036854775807 - base := by rw [IntKind.wrap_u64, IntKind.wrap_u64]; omega
  refine FnC.mk Tryz.func5 rfl rfl (Nat.le_of_ble_eq_true rfl) (by simp) (by rintro _ rfl; simp) ?_
  refine joinK.direct ?_
  refine callK.eq awake19 ?_
  refine ⟨fun h => absurd h (by decide), fun _ => join_go ?_⟩
  refine callK.eq po ?_
  refine callK.eq pw ?_
  refine joinK.use [0, 1, 2, 3, 4] (fun x : Int => [.int .i64 o, .int .i64 c, .int .i64 base, .int .i64 w, .int .u64 x]) (fun _ => []) (fun x => 0 ≤ x ∧ (w < 64 → x ≤ limI w)) ?_ ?_
  · refine ⟨fun h => ?_, fun h => ?_⟩
    · have h : decide (w < 64) = true := h
      have h := of_decide_eq_true h
      have hal := and_lim code w hk.1 (by omega) w0 h
      refine ⟨hwn, ?_⟩
      exact join_at _ ⟨hal.1, fun _ => hal.2⟩ ⟨int_eq ho, rfl, rfl, rfl, rfl, trivial⟩ (.inl rfl)
    · have h : decide (w < 64) = false := h
      have h := of_decide_eq_false h
      exact join_at code ⟨hk.1, fun q => absurd q h⟩ ⟨int_eq ho, rfl, rfl, rfl, rfl, trivial⟩ (.inl rfl)
  rintro x ⟨hx0, hx1⟩
  by_cases hx : x ≤ 9223372036854775807 - base
  · have hg : decide (x > IntKind.u64.wrap (9223372036854775807 - IntKind.u64.wrap base)) = false := by rw [hL]; exact decide_eq_false (by omega)
    have hbx : IntKind.i64.wrap (IntKind.u64.wrap (IntKind.u64.wrap base + x)) = base + x := by rw [IntKind.wrap_u64, IntKind.wrap_u64, IntKind.wrap_i64]; omega
    have ch := holdsC o (base + x) c
    have ct := intsToFrame o c base w
    obtain ⟨to, v, a, n, e, p1, p2⟩ := plainT o c base w x hc hb hop ⟨w0, by omega⟩ hx0 hx hx1
    rw [e] at ct
    rw [← hbx] at ch
    rw [hbx] at ch
    have ch' : FnC Tryz.prog 15 [.int .i64 o, .int .i64 (IntKind.i64.wrap (IntKind.u64.wrap (IntKind.u64.wrap base + x))), .int .i64 c] (· = .bool (standsF o (base + x) c)) := by rw [hbx]; exact ch
    generalize hS : standsF o (base + x) c = S at *
    refine joinK.direct ?_
    refine ⟨fun h => absurd (hg.symm.trans h) (by decide), fun _ => join_go ?_⟩
    refine callK.eq ch' ?_
    refine callK.eq ct ?_
    refine joinK.direct ?_
    refine guardK.spec ?_
    refine ⟨fun h => ?_, fun h => join_go ?_⟩
    · have h : (bif a then true else n) = true := h
      obtain ⟨q1, q2, q3, q4⟩ := p1 (by rw [← h]; cases a <;> rfl)
      refine guardK.spec ?_
      refine fin_eq (.bool _) rfl (bool_eq ?_)
      show (bif (bif (bif (a != n) then (S == a) else false) then (to == 0) else false) then (v == 0) else false) = true
      rw [q1, q2, q3, q4]; simp
    · have h : (bif a then true else n) = false := h
      obtain ⟨q1, q2, q3⟩ := p2 (by rw [← h]; cases a <;> rfl)
      have cs := standsC to x v
      refine guardK.spec ?_
      refine callE.mk cs ?_
      refine fin_eq (.bool _) rfl (bool_eq ?_)
      show (bif (bif (to == o) then (v == IntKind.u64.wrap (IntKind.u64.wrap c - IntKind.u64.wrap base)) else false) then (S == standsF to x v) else false) = true
      rw [q1, ← q3, ← q2]; simp
  · have hg : decide (x > IntKind.u64.wrap (9223372036854775807 - IntKind.u64.wrap base)) = true := by rw [hL]; exact decide_eq_true (by omega)
    refine joinK.direct ?_
    refine ⟨fun _ => ?_, fun h => absurd (hg.symm.trans h) (by decide)⟩
    exact fin_eq (.bool _) rfl rfl
variable {H : Type} {enc : TypeId × Value → H} {W : World} {base : Nat} {v : Value} {d : DataW H} {ps : List MemPlace} {t e : TypeId}
theorem open_k {k : IntKind} (ht : Tryz.prog.underlying t = some (.int k)) (hval : Value.okWide Tryz.prog W .any base t v) (h : DataW.Trod enc Tryz.prog W 0 (fun _ => true) true t v d ps)
    (hw : (d.weights Tryz.prog t).all (· ≤ reachBytes) = true) : ∃ z : Int, (k.min ≤ z ∧ z ≤ k.max) ∧ Rep (memH W) (fun _ => .no) v (.int k z) := by
  obtain ⟨z, rfl, -, -, -⟩ := open_int ht hval h
  obtain ⟨x, ⟨l, e1, w1⟩, hr⟩ := (Typ.int ht).one h hw rfl
  injection e1 with e1
  subst e1
  exact ⟨l, (Lit.wf_int_iff _ _).1 w1, hr⟩
theorem lawTranslates' (op : Int) (_ : IntKind.i64.min ≤ op ∧ op ≤ IntKind.i64.max) (c : Int) (hc : IntKind.i64.min ≤ c ∧ c ≤ IntKind.i64.max) (base : Int) (hb : IntKind.i64.min ≤ base ∧ base ≤ IntKind.i64.max) (width : Int) (_ : IntKind.i64.min ≤ width ∧ width ≤ IntKind.i64.max)
    (code : Int) (hk : IntKind.u64.min ≤ code ∧ code ≤ IntKind.u64.max) : FnC Tryz.prog 5 [.int .i64 op, .int .i64 c, .int .i64 base, .int .i64 width, .int .u64 code] (· = .bool true) :=
  lawTranslates op c base width code hc hb hk
end Go.Proofs.YthbjeeipeadilaaGreat
