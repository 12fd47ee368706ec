/- AggMerges: what is handed in: a list of states. -/
import Derived.Test.YtaddmokllmdngaaNQ
import Derived.Test.YtaddmokllmdngaaPvL
namespace Go.Proofs.Ytaddmokllmdngaa
open Go Go.Pv Go.RowKit Go.ChangeShapes Go.WideShapes Go.ChangeAt
set_option linter.unusedSimpArgs false
set_option linter.unusedVariables false
set_option maxRecDepth 10000

theorem laidOut : laidOutB Try.prog = true := by kernel_rfl
theorem read_float {H : Type} {enc : TypeId × Value → H} {P : Program} {w : World} {base : Nat} {spare : Nat → Bool} {held : Bool} {fuel : Nat} {t : TypeId} {cs : List Value} {x : DataW H × List MemPlace} {k : FloatKind}
    (ht : P.underlying t = some (.float k)) (h : DataW.trod enc P w base spare held fuel t cs = some x) : ∃ b, cs = [.float k b] ∧ (Lit.float k b).wf = true := by
  cases fuel with
  | zero => simp [DataW.trod] at h
  | succ n =>
    unfold DataW.trod at h
    rw [ht] at h
    split at h <;> simp_all
theorem typFlt {P : Program} {t : TypeId} (ht : P.underlying t = some (.float .f64)) : Typ P t 1 (fun ds => ∃ b, ds = [.flt .f64 b] ∧ b < 18446744073709551616) :=
  ⟨fun enc W sp fuel cs x h _ => by
    obtain ⟨b, rfl, hb⟩ := read_float ht h
    exact ⟨_, ⟨b, rfl, of_decide_eq_true hb⟩, rfl, repC_one (.flt _ _) rfl⟩⟩
theorem four {p : Nat → List DV → Prop} {a b c d : Nat} {parts : List (List DV)} (h : PartsOk [(a, p 0), (b, p 1), (c, p 2), (d, p 3)] parts) : ∃ w x y z, parts = [w, x, y, z] ∧ p 0 w ∧ p 1 x ∧ p 2 y ∧ p 3 z := by
  rcases parts with _ | ⟨w, _ | ⟨x, _ | ⟨y, _ | ⟨z, _ | ⟨u, r⟩⟩⟩⟩⟩
  · exact h.elim
  · exact h.2.elim
  · exact h.2.2.elim
  · exact h.2.2.2.elim
  · exact ⟨w, x, y, z, rfl, h.1, h.2.1, h.2.2.1, h.2.2.2.1⟩
  · exact h.2.2.2.2.elim
theorem six {p : Nat → List DV → Prop} {a b c d e f : Nat} {parts : List (List DV)} (h : PartsOk [(a, p 0), (b, p 1), (c, p 2), (d, p 3), (e, p 4), (f, p 5)] parts) : ∃ w x y z u v, parts = [w, x, y, z, u, v] ∧ p 0 w ∧ p 1 x ∧ p 2 y ∧ p 3 z ∧ p 4 u ∧ p 5 v := by
  rcases parts with _ | ⟨w, _ | ⟨x, _ | ⟨y, _ | ⟨z, _ | ⟨u, _ | ⟨v, _ | ⟨o, r⟩⟩⟩⟩⟩⟩⟩
  · exact h.elim
  · exact h.2.elim
  · exact h.2.2.elim
  · exact h.2.2.2.elim
  · exact h.2.2.2.2.elim
  · exact h.2.2.2.2.2.elim
  · exact ⟨w, x, y, z, u, v, rfl, h.1, h.2.1, h.2.2.1, h.2.2.2.1, h.2.2.2.2.1, h.2.2.2.2.2.1⟩
  · exact h.2.2.2.2.2.2.elim
def isI (k : IntKind) (ds : List DV) : Prop := ∃ z, ds = [.int k z] ∧ (Lit.int k z).wf = true
def valP : Nat → List DV → Prop
  | 0 => isI .i64
  | 1 => isI .i64
  | 2 => fun ds => ∃ b, ds = [.flt .f64 b] ∧ b < 18446744073709551616
  | _ => fun ds => ∃ l : List UInt8, ds = [.str (bsA l)] ∧ l.length ≤ reachBytes
def IsVal (ds : List DV) : Prop := ∃ k i f, ∃ s : List UInt8, i64R k ∧ i64R i ∧ f < 18446744073709551616 ∧ s.length ≤ reachBytes ∧ ds = valC k i f (bsA s)
theorem typVal : Typ Try.prog 36 4 IsVal := by
  have h := Typ.struct (P := Try.prog) Try.underlying36 [(1, valP 0), (1, valP 1), (1, valP 2), (1, valP 3)] (by kernel_rfl) rfl ?_
  · refine h.mono ?_
    rintro ds ⟨parts, rfl, hp⟩
    obtain ⟨w, x, y, z, rfl, ⟨k, rfl, w1⟩, ⟨i, rfl, w2⟩, ⟨f, rfl, hf⟩, ⟨s, rfl, w3⟩⟩ := four hp
    exact ⟨k, i, f, s, bounds_i64 w1, bounds_i64 w2, hf, w3, rfl⟩
  · intro i f p hf hp
    match i with
    | 0 => simp at hf hp; subst hf; subst hp; exact ⟨Typ.int Try.underlying3, by kernel_rfl, rfl⟩
    | 1 => simp at hf hp; subst hf; subst hp; exact ⟨Typ.int Try.underlying2, by kernel_rfl, rfl⟩
    | 2 => simp at hf hp; subst hf; subst hp; exact ⟨typFlt Try.underlying34, by kernel_rfl, rfl⟩
    | 3 => simp at hf hp; subst hf; subst hp; exact ⟨Typ.str Try.underlying9, by kernel_rfl, rfl⟩
    | i + 4 => simp at hp
def staP : Nat → List DV → Prop
  | 0 => isI .i64
  | 1 => isI .i64
  | 2 => isI .i64
  | 3 => isI .u64
  | _ => IsVal
def IsSt (ds : List DV) : Prop := ∃ v : SV, v.F ∧ ds = stC v
theorem wideC_of (z u : Int) (b1 : -9223372036854775808 ≤ z ∧ z ≤ 9223372036854775807) (b2 : 0 ≤ u ∧ u ≤ 18446744073709551615) : hiW (z * 18446744073709551616 + u) = z ∧ loW (z * 18446744073709551616 + u) = u := by
  unfold hiW loW
  rw [IntKind.wrap_i64]; omega
theorem typSt : Typ Try.prog 42 12 IsSt := by
  have h := Typ.struct (P := Try.prog) Try.underlying42 [(1, staP 0), (1, staP 1), (1, staP 2), (1, staP 3), (4, staP 4), (4, staP 5)] (by kernel_rfl) rfl ?_
  · refine h.mono ?_
    rintro ds ⟨parts, rfl, hp⟩
    obtain ⟨_, _, _, _, _, _, rfl, ⟨r, rfl, w1⟩, ⟨c, rfl, w2⟩, ⟨z, rfl, w3⟩, ⟨u, rfl, w4⟩, ⟨k, i, f, s, w5, w6, hf, w7, rfl⟩, ⟨k', i', f', s', w8, w9, hf', w10, rfl⟩⟩ := six hp
    have b1 := bounds_i64 w3
    have b2 := bounds_u64 w4
    obtain ⟨e1, e2⟩ := wideC_of z u b1 b2
    refine ⟨⟨r, c, z * 18446744073709551616 + u, k, i, f, bsA s, k', i', f', bsA s'⟩, ⟨hf, hf'⟩, ?_⟩
    show _ = [DV.int .i64 r, .int .i64 c, .int .i64 (hiW (z * 18446744073709551616 + u)), .int .u64 (loW (z * 18446744073709551616 + u)), .int .i64 k, .int .i64 i, .flt .f64 f, .str (bsA s), .int .i64 k', .int .i64 i', .flt .f64 f', .str (bsA s')]
    rw [e1, e2]; rfl
  · intro i f p hf hp
    match i with
    | 0 => simp at hf hp; subst hf; subst hp; exact ⟨Typ.int Try.underlying3, by kernel_rfl, rfl⟩
    | 1 => simp at hf hp; subst hf; subst hp; exact ⟨Typ.int Try.underlying3, by kernel_rfl, rfl⟩
    | 2 => simp at hf hp; subst hf; subst hp; exact ⟨Typ.int Try.underlying2, by kernel_rfl, rfl⟩
    | 3 => simp at hf hp; subst hf; subst hp; exact ⟨Typ.int Try.underlying23, by kernel_rfl, rfl⟩
    | 4 => simp at hf hp; subst hf; subst hp; exact ⟨typVal, by kernel_rfl, rfl⟩
    | 5 => simp at hf hp; subst hf; subst hp; exact ⟨typVal, by kernel_rfl, rfl⟩
    | i + 6 => simp at hp
theorem sts_of : ∀ (xs : List (List DV)), (∀ x ∈ xs, IsSt x) → ∃ l : List SV, xs = l.map stC ∧ ∀ b ∈ l, b.F
  | [], _ => ⟨[], rfl, fun i h => by cases h⟩
  | x :: xs, h => by
    obtain ⟨z, w1, e1⟩ := h x (List.mem_cons_self ..)
    obtain ⟨l, e2, w2⟩ := sts_of xs fun y hy => h y (List.mem_cons_of_mem _ hy)
    refine ⟨z :: l, by rw [e1, e2]; rfl, fun i hi => ?_⟩
    rcases List.mem_cons.1 hi with rfl | hi
    · exact w1
    · exact w2 i hi
theorem open_sts {H : Type} {enc : TypeId × Value → H} {W : World} {base : Nat} {v : Value} {d : DataW H} {ps : List MemPlace} {t : TypeId} (ht : Try.prog.underlying t = some (.slice 42)) (hc : Try.prog.cellsOf 42 = 12) (hb : Try.prog.bytesOf 42 = 112)
    (hval : Value.okWide Try.prog W .any base t v) (h : DataW.Trod enc Try.prog W 0 (fun _ => true) true t v d ps)
    (hw : (d.weights Try.prog t).all (· ≤ reachBytes) = true) : ∃ l : List SV, l.length * 112 ≤ reachBytes ∧ (∀ b ∈ l, b.F) ∧ Rep (memH W) (fun _ => .no) v (.list (l.map stC)) := by
  obtain ⟨a, len, cap, rfl⟩ := okWide_slice ht hval
  obtain ⟨x, ⟨xs, e1, w1, _, w2⟩, hr⟩ := (Typ.slice ht typSt hc).one h hw rfl
  injection e1 with e1
  subst e1
  obtain ⟨l, rfl, hl⟩ := sts_of xs w1
  rw [hb, List.length_map] at w2
  exact ⟨l, w2, hl, hr⟩
theorem lawMerges' (l : List SV) (hl : l.length * 112 ≤ reachBytes) (hF : ∀ b ∈ l, b.F) : FnC Try.prog 6 [.list (l.map stC)] (· = .bool true) := lawMerges l hl hF
end Go.Proofs.Ytaddmokllmdngaa
