/- The seat s1's parameters: a state (and whole numbers), as pure values. -/
import Derived.Test.YtaddmokllmdngaaM4
namespace Go.Proofs.Ytaddmokllmdngaa
open Go Go.Pv Go.RowKit Go.ChangeShapes Go.WideShapes Go.ChangeAt
set_option linter.unusedSimpArgs false
set_option linter.unusedVariables false
set_option maxRecDepth 10000

theorem laidOut : laidOutB Try.prog = true := by kernel_rfl
theorem read_float {H : Type} {enc : TypeId × Value → H} {P : Program} {w : World} {base : Nat} {spare : Nat → Bool} {held : Bool} {fuel : Nat} {t : TypeId} {cs : List Value} {x : DataW H × List MemPlace} {k : FloatKind}
    (ht : P.underlying t = some (.float k)) (h : DataW.trod enc P w base spare held fuel t cs = some x) : ∃ b, cs = [.float k b] := by
  cases fuel with
  | zero => simp [DataW.trod] at h
  | succ n =>
    unfold DataW.trod at h
    rw [ht] at h
    split at h <;> simp_all
theorem typFlt {P : Program} {t : TypeId} (ht : P.underlying t = some (.float .f64)) : Typ P t 1 (fun ds => ∃ b, ds = [.flt .f64 b]) :=
  ⟨fun enc W sp fuel cs x h _ => by
    obtain ⟨b, rfl⟩ := read_float ht h
    exact ⟨_, ⟨b, rfl⟩, rfl, repC_one (.flt _ _) rfl⟩⟩
theorem four {p : Nat → List DV → Prop} {a b c d : Nat} {parts : List (List DV)} (h : PartsOk [(a, p 0), (b, p 1), (c, p 2), (d, p 3)] parts) : ∃ w x y z, parts = [w, x, y, z] ∧ p 0 w ∧ p 1 x ∧ p 2 y ∧ p 3 z := by
  rcases parts with _ | ⟨w, _ | ⟨x, _ | ⟨y, _ | ⟨z, _ | ⟨u, r⟩⟩⟩⟩⟩
  · exact h.elim
  · exact h.2.elim
  · exact h.2.2.elim
  · exact h.2.2.2.elim
  · exact ⟨w, x, y, z, rfl, h.1, h.2.1, h.2.2.1, h.2.2.2.1⟩
  · exact h.2.2.2.2.elim
theorem six {p : Nat → List DV → Prop} {a b c d e f : Nat} {parts : List (List DV)} (h : PartsOk [(a, p 0), (b, p 1), (c, p 2), (d, p 3), (e, p 4), (f, p 5)] parts) : ∃ w x y z u v, parts = [w, x, y, z, u, v] ∧ p 0 w ∧ p 1 x ∧ p 2 y ∧ p 3 z ∧ p 4 u ∧ p 5 v := by
  rcases parts with _ | ⟨w, _ | ⟨x, _ | ⟨y, _ | ⟨z, _ | ⟨u, _ | ⟨v, _ | ⟨o, r⟩⟩⟩⟩⟩⟩⟩
  · exact h.elim
  · exact h.2.elim
  · exact h.2.2.elim
  · exact h.2.2.2.elim
  · exact h.2.2.2.2.elim
  · exact h.2.2.2.2.2.elim
  · exact ⟨w, x, y, z, u, v, rfl, h.1, h.2.1, h.2.2.1, h.2.2.2.1, h.2.2.2.2.1, h.2.2.2.2.2.1⟩
  · exact h.2.2.2.2.2.2.elim
def isI (k : IntKind) (ds : List DV) : Prop := ∃ z, ds = [.int k z] ∧ (Lit.int k z).wf = true
def valP : Nat → List DV → Prop
  | 0 => isI .i64
  | 1 => isI .i64
  | 2 => fun ds => ∃ b, ds = [.flt .f64 b]
  | _ => fun ds => ∃ l : List UInt8, ds = [.str (bsA l)] ∧ l.length ≤ reachBytes
def IsVal (ds : List DV) : Prop := ∃ k i f, ∃ s : List UInt8, i64R k ∧ i64R i ∧ s.length ≤ reachBytes ∧ ds = valC k i f (bsA s)
theorem typVal : Typ Try.prog 36 4 IsVal := by
  have h := Typ.struct (P := Try.prog) Try.underlying36 [(1, valP 0), (1, valP 1), (1, valP 2), (1, valP 3)] (by kernel_rfl) rfl ?_
  · refine h.mono ?_
    rintro ds ⟨parts, rfl, hp⟩
    obtain ⟨w, x, y, z, rfl, ⟨k, rfl, w1⟩, ⟨i, rfl, w2⟩, ⟨f, rfl⟩, ⟨s, rfl, w3⟩⟩ := four hp
    exact ⟨k, i, f, s, bounds_i64 w1, bounds_i64 w2, w3, rfl⟩
  · intro i f p hf hp
    match i with
    | 0 => simp at hf hp; subst hf; subst hp; exact ⟨Typ.int Try.underlying3, by kernel_rfl, rfl⟩
    | 1 => simp at hf hp; subst hf; subst hp; exact ⟨Typ.int Try.underlying2, by kernel_rfl, rfl⟩
    | 2 => simp at hf hp; subst hf; subst hp; exact ⟨typFlt Try.underlying34, by kernel_rfl, rfl⟩
    | 3 => simp at hf hp; subst hf; subst hp; exact ⟨Typ.str Try.underlying9, by kernel_rfl, rfl⟩
    | i + 4 => simp at hp
def staP : Nat → List DV → Prop
  | 0 => isI .i64
  | 1 => isI .i64
  | 2 => isI .i64
  | 3 => isI .u64
  | _ => IsVal
structure SV.All (v : SV) : Prop extends v.Ok where
  k : i64R v.k
  i : i64R v.i
  k' : i64R v.k'
  i' : i64R v.i'
  s : ∃ l : List UInt8, l.length ≤ reachBytes ∧ v.s = bsA l
  s' : ∃ l : List UInt8, l.length ≤ reachBytes ∧ v.s' = bsA l
def IsSt (ds : List DV) : Prop := ∃ v : SV, v.All ∧ ds = stC v
theorem wideC_of (z u : Int) (b1 : -9223372036854775808 ≤ z ∧ z ≤ 9223372036854775807) (b2 : 0 ≤ u ∧ u ≤ 18446744073709551615) : hiW (z * 18446744073709551616 + u) = z ∧ loW (z * 18446744073709551616 + u) = u := by
  unfold hiW loW
  rw [IntKind.wrap_i64]; omega
theorem typSt : Typ Try.prog 42 12 IsSt := by
  have h := Typ.struct (P := Try.prog) Try.underlying42 [(1, staP 0), (1, staP 1), (1, staP 2), (1, staP 3), (4, staP 4), (4, staP 5)] (by kernel_rfl) rfl ?_
  · refine h.mono ?_
    rintro ds ⟨parts, rfl, hp⟩
    obtain ⟨_, _, _, _, _, _, rfl, ⟨r, rfl, w1⟩, ⟨c, rfl, w2⟩, ⟨z, rfl, w3⟩, ⟨u, rfl, w4⟩, ⟨k, i, f, s, w5, w6, w7, rfl⟩, ⟨k', i', f', s', w8, w9, w10, rfl⟩⟩ := six hp
    have b1 := bounds_i64 w3
    have b2 := bounds_u64 w4
    obtain ⟨e1, e2⟩ := wideC_of z u b1 b2
    refine ⟨⟨r, c, z * 18446744073709551616 + u, k, i, f, bsA s, k', i', f', bsA s'⟩, ⟨⟨bounds_i64 w1, bounds_i64 w2, ?_⟩, w5, w6, w8, w9, ⟨s, w7, rfl⟩, ⟨s', w10, rfl⟩⟩, ?_⟩
    · show in128 (z * 18446744073709551616 + u)
      unfold in128; omega
    · show _ = [DV.int .i64 r, .int .i64 c, .int .i64 (hiW (z * 18446744073709551616 + u)), .int .u64 (loW (z * 18446744073709551616 + u)), .int .i64 k, .int .i64 i, .flt .f64 f, .str (bsA s), .int .i64 k', .int .i64 i', .flt .f64 f', .str (bsA s')]
      rw [e1, e2]; rfl
  · intro i f p hf hp
    match i with
    | 0 => simp at hf hp; subst hf; subst hp; exact ⟨Typ.int Try.underlying3, by kernel_rfl, rfl⟩
    | 1 => simp at hf hp; subst hf; subst hp; exact ⟨Typ.int Try.underlying3, by kernel_rfl, rfl⟩
    | 2 => simp at hf hp; subst hf; subst hp; exact ⟨Typ.int Try.underlying2, by kernel_rfl, rfl⟩
    | 3 => simp at hf hp; subst hf; subst hp; exact ⟨Typ.int Try.underlying23, by kernel_rfl, rfl⟩
    | 4 => simp at hf hp; subst hf; subst hp; exact ⟨typVal, by kernel_rfl, rfl⟩
    | 5 => simp at hf hp; subst hf; subst hp; exact ⟨typVal, by kernel_rfl, rfl⟩
    | i + 6 => simp at hp
theorem open_st {H : Type} {enc : TypeId × Value → H} {W : World} {base : Nat} {v : Value} {d : DataW H} {ps : List MemPlace} (hval : Value.okWide Try.prog W .any base 42 v) (h : DataW.Trod enc Try.prog W 0 (fun _ => true) true 42 v d ps)
    (hw : (d.weights Try.prog 42).all (· ≤ reachBytes) = true) : ∃ x : SV, x.All ∧ Rep (memH W) (fun _ => .no) v (.agg (stC x)) := by
  obtain ⟨cs, rfl, _⟩ := okWide_struct Try.underlying42 hval
  obtain ⟨ds, ⟨x, hx, rfl⟩, hr⟩ := typSt.agg h hw
  exact ⟨x, hx, hr⟩
theorem open_i {H : Type} {enc : TypeId × Value → H} {W : World} {base : Nat} {v : Value} {d : DataW H} {ps : List MemPlace} {t : TypeId} (ht : Try.prog.underlying t = some (.int .i64)) (hval : Value.okWide Try.prog W .any base t v) (h : DataW.Trod enc Try.prog W 0 (fun _ => true) true t v d ps)
    (hw : (d.weights Try.prog t).all (· ≤ reachBytes) = true) : ∃ z, i64R z ∧ Rep (memH W) (fun _ => .no) v (.int .i64 z) := by
  obtain ⟨n, rfl⟩ := okWide_int ht hval
  obtain ⟨x, ⟨z, e1, w1⟩, hr⟩ := (Typ.int ht).one h hw rfl
  injection e1 with e1
  subst e1
  exact ⟨z, bounds_i64 w1, hr⟩
theorem lawAnswers' (kind : Int) (hk : i64R kind) (v : SV) (hv : v.All) : FnC Try.prog 7 [.int .i64 kind, .agg (stC v)] (· = .bool true) := lawAnswers kind hk v hv.toOk
end Go.Proofs.Ytaddmokllmdngaa
