/- From a contract to a row: what a parameter's data are, as pure values; that what is handed in reads as it did. -/
import Derived.Test.YthbjeeipeadilaaGreatPv9
import Derived.Test.YthbjeeipeadilaaGreatPvS
import Derived.ProofKit
import Derived.OpenShut
import Derived.ChangeOld
import Derived.SizedLaws
import Derived.DataShut
import Derived.Carry
import Derived.ChangeArms
import Derived.WideShapes
set_option linter.unusedSimpArgs false
set_option linter.unusedVariables false
namespace Go.Pv
open Go Go.RowKit
variable {P : Program}

def RepC (h : Hp) (cs : List Value) (ds : List DV) : Prop :=
  cs.length = ds.length ∧ ∀ (i : Nat) (v : Value) (d : DV), cs[i]? = some v → ds[i]? = some d → Rep h (fun _ => .no) v d ∧ v.oneCell' = true
def memH (W : World) : Hp := fun b => W.heap[b]?
theorem hcell_mem (W : World) (a : Addr) : hcell (memH W) a = W.cell? a := rfl

/-- A type's data, as pure values: so many cells; what holds of them. -/
structure Typ (P : Program) (t : TypeId) (n : Nat) (Q : List DV → Prop) : Prop where
  opens : ∀ {H : Type} (enc : TypeId × Value → H) (W : World) (sp : Nat → Bool) (fuel : Nat) (cs : List Value) (x : DataW H × List MemPlace), DataW.trod enc P W 0 sp true fuel t cs = some x →
    (x.1.weights P t).all (· ≤ reachBytes) = true → ∃ ds, Q ds ∧ ds.length = n ∧ RepC (memH W) cs ds

theorem repC_one {h : Hp} {v : Value} {d : DV} (r : Rep h (fun _ => .no) v d) (ho : v.oneCell' = true) : RepC h [v] [d] := by
  refine ⟨rfl, fun i u e h1 h2 => ?_⟩
  cases i with
  | zero => simp at h1 h2; subst h1; subst h2; exact ⟨r, ho⟩
  | succ i => simp at h1
theorem Typ.int {t : TypeId} {k : IntKind} (ht : P.underlying t = some (.int k)) : Typ P t 1 (fun ds => ∃ z, ds = [.int k z] ∧ (Lit.int k z).wf = true) :=
  ⟨fun enc W sp fuel cs x h _ => by
    obtain ⟨z, rfl, _, hw⟩ := DataW.trod_int ht h
    exact ⟨_, ⟨z, rfl, hw⟩, rfl, repC_one (.int _ _) rfl⟩⟩
theorem Typ.bool {t : TypeId} (ht : P.underlying t = some .bool) : Typ P t 1 (fun ds => ∃ b, ds = [.bool b]) :=
  ⟨fun enc W sp fuel cs x h _ => by
    obtain ⟨b, rfl, _⟩ := DataW.trod_bool ht h
    exact ⟨_, ⟨b, rfl⟩, rfl, repC_one (.bool _) rfl⟩⟩
theorem Typ.str {t : TypeId} (ht : P.underlying t = some .string) : Typ P t 1 (fun ds => ∃ l : List UInt8, ds = [.str (bsA l)] ∧ l.length ≤ reachBytes) :=
  ⟨fun enc W sp fuel cs x h hw => by
    obtain ⟨s, rfl, rfl, hs⟩ := DataW.trod_string ht h
    simp [DataW.weights] at hw
    exact ⟨_, ⟨s.data.toList, rfl, by simpa using hw⟩, rfl, repC_one (.str _) rfl⟩⟩

theorem cells_get {W : World} {base : Nat} {a : Addr} {n : Nat} {cs : List Value} (h : W.cells? base a n = some cs) : cs.length = n ∧ ∀ i, i < n → W.cell? (a.add i) = cs[i]? := by
  unfold World.cells? at h
  split at h
  · refine ⟨by simpa using mapM_some_length h, fun i hi => ?_⟩
    exact mapM_some_get h i i (by simp [hi])
  · cases h
theorem all_le {l : List Nat} {m : Nat} (h : l.all (· ≤ m) = true) : ∀ x ∈ l, x ≤ m := by simpa using h
theorem weightsAll_of {H : Type} {e : TypeId} : ∀ {l : List (DataW H)} {m : Nat}, (DataW.weightsAll P e l).all (· ≤ m) = true → ∀ d ∈ l, (d.weights P e).all (· ≤ m) = true
  | [], _, _, d, hd => by cases hd
  | x :: l, m, h, d, hd => by
    simp only [DataW.weightsAll, List.all_append, Bool.and_eq_true] at h
    rcases List.mem_cons.1 hd with rfl | hd
    · exact h.1
    · exact weightsAll_of h.2 d hd
/-- A slice: its elements, one by one. -/
theorem Typ.slice {t e : TypeId} {m : Nat} {Q : List DV → Prop} (ht : P.underlying t = some (.slice e)) (he : Typ P e m Q) (hm : P.cellsOf e = m) :
    Typ P t 1 (fun ds => ∃ xs, ds = [.list xs] ∧ (∀ x ∈ xs, Q x) ∧ xs.length ≤ maxLen ∧ xs.length * P.bytesOf e ≤ reachBytes) :=
  ⟨fun enc W sp fuel cs x h hw => by
    rcases DataW.trod_slice ht h with ⟨rfl, _⟩ | ⟨a, len, cap, elems, rest, n, rfl, rfl, rfl, _, hlc, hcap, hel, hget, _, _⟩
    · exact ⟨_, ⟨[], rfl, (fun x hx => by cases hx), Nat.zero_le _, by simp⟩, rfl, repC_one (.list none 0 0 [] 0 (fun _ _ => undef) rfl (Nat.le_refl _) (fun _ => rfl) (fun i ds e => by simp at e) (fun i ds j d e => by simp at e) (fun i ds j d e => by simp at e) (fun i ds j d e => by simp at e)) rfl⟩
    · simp only [DataW.weights, ht, List.all_cons, List.all_append, Bool.and_eq_true, decide_eq_true_eq, List.length_map] at hw
      obtain ⟨hw1, hw2, _⟩ := hw
      have hwe := weightsAll_of hw2
      have each : ∀ i, i < len → ∃ ds, Q ds ∧ ds.length = m ∧ ∃ csi, W.cells? 0 (a.add (i * m)) m = some csi ∧ RepC (memH W) csi ds := by
        intro i hi
        have hg := hget i hi
        rw [List.getElem?_eq_getElem (by omega), Option.bind_eq_some_iff] at hg
        obtain ⟨csi, h1, h2⟩ := hg
        obtain ⟨ds, q1, q2, q3⟩ := he.opens enc W sp n csi _ h2 (hwe _ (List.mem_map_of_mem (List.getElem_mem _)))
        exact ⟨ds, q1, q2, csi, by rw [← hm]; exact h1, q3⟩
      have ch : ∃ f : Nat → List DV, ∀ i, i < len → Q (f i) ∧ (f i).length = m ∧ ∃ csi, W.cells? 0 (a.add (i * m)) m = some csi ∧ RepC (memH W) csi (f i) :=
        ⟨fun i => if h : i < len then (each i h).choose else [], fun i hi => by simp only [dif_pos hi]; exact (each i hi).choose_spec⟩
      obtain ⟨f, hf⟩ := ch
      have hxs : ∀ (i : Nat) ds, ((List.range len).map f)[i]? = some ds → i < len ∧ f i = ds := by
        intro i ds e
        have hi : i < len := by have := (List.getElem?_eq_some_iff.1 e).1; simpa using this
        simp [hi] at e
        exact ⟨hi, e⟩
      have cell : ∀ (i : Nat) (ds : List DV) (j : Nat) (d : DV), ((List.range len).map f)[i]? = some ds → ds[j]? = some d → ∃ v, W.cell? (a.add (i * m + j)) = some v ∧ Rep (memH W) (fun _ => .no) v d ∧ v.oneCell' = true := by
        intro i ds j d e1 e2
        obtain ⟨hi, rfl⟩ := hxs i ds e1
        obtain ⟨_, q2, csi, q3, q4, q5⟩ := hf i hi
        obtain ⟨r1, r2⟩ := cells_get q3
        have hj : j < m := by have := (List.getElem?_eq_some_iff.1 e2).1; omega
        have := r2 j hj
        rw [add_add, List.getElem?_eq_getElem (by omega)] at this
        exact ⟨_, this, q5 j _ d (List.getElem?_eq_getElem (by omega)) e2⟩
      refine ⟨_, ⟨(List.range len).map f, rfl, ?_, by simp; omega, ?_⟩, rfl, repC_one (.list (some a) len cap ((List.range len).map f) m (fun i j => (W.cell? (a.add (i * m + j))).getD undef) (by simp) hlc (by simp) ?_ ?_ ?_ ?_) rfl⟩
      · intro x hx
        obtain ⟨i, hi, rfl⟩ := List.mem_map.1 hx
        exact (hf i (List.mem_range.1 hi)).1
      · simp only [List.length_map, List.length_range]
        refine Nat.le_trans (Nat.mul_le_mul_right _ ?_) hw1
        omega
      · intro i ds e
        obtain ⟨hi, rfl⟩ := hxs i ds e
        exact (hf i hi).2.1
      · intro i ds j d e1 e2
        obtain ⟨v, h1, _⟩ := cell i ds j d e1 e2
        exact ⟨a, rfl, by rw [hcell_mem, h1]; rfl⟩
      · intro i ds j d e1 e2
        obtain ⟨v, h1, _, h3⟩ := cell i ds j d e1 e2
        rw [h1]; exact h3
      · intro i ds j d e1 e2
        obtain ⟨v, h1, h2, _⟩ := cell i ds j d e1 e2
        rw [h1]; exact h2⟩

theorem RepC.app {h : Hp} {a b : List Value} {c d : List DV} (h1 : RepC h a c) (h2 : RepC h b d) : RepC h (a ++ b) (c ++ d) := by
  obtain ⟨l1, r1⟩ := h1
  obtain ⟨l2, r2⟩ := h2
  refine ⟨by simp [l1, l2], fun i v x e1 e2 => ?_⟩
  by_cases hi : i < a.length
  · rw [List.getElem?_append_left hi] at e1
    rw [List.getElem?_append_left (by omega)] at e2
    exact r1 i v x e1 e2
  · rw [List.getElem?_append_right (by omega)] at e1
    rw [List.getElem?_append_right (by omega), ← l1] at e2
    exact r2 _ v x e1 e2
/-- The parts of a struct. -/
def PartsOk : List (Nat × (List DV → Prop)) → List (List DV) → Prop
  | [], [] => True
  | p :: L, d :: ds => p.2 d ∧ PartsOk L ds
  | _, _ => False
theorem struct_parts {h : Hp} : ∀ (L : List (Nat × (List DV → Prop))) (cs : List Value), cs.length = (L.map (·.1)).sum →
    (∀ (i : Nat) p, L[i]? = some p → ∃ ds, p.2 ds ∧ ds.length = p.1 ∧ RepC h ((cs.drop ((L.take i).map (·.1)).sum).take p.1) ds) → ∃ parts, PartsOk L parts ∧ parts.flatten.length = (L.map (·.1)).sum ∧ RepC h cs parts.flatten
  | [], cs, hl, _ => by
    have : cs = [] := List.length_eq_zero_iff.1 (by simpa using hl)
    subst this
    exact ⟨[], trivial, rfl, rfl, fun i v d e => by simp at e⟩
  | p :: L, cs, hl, hp => by
    simp only [List.map_cons, List.sum_cons] at hl
    obtain ⟨d0, q1, q2, q3⟩ := hp 0 p rfl
    obtain ⟨parts, g1, g2, g3⟩ := struct_parts L (cs.drop p.1) (by simp; omega) (fun i x hx => by
      obtain ⟨d, e1, e2, e3⟩ := hp (i + 1) x (by simpa using hx)
      refine ⟨d, e1, e2, ?_⟩
      simpa [List.drop_drop] using e3)
    refine ⟨d0 :: parts, ⟨q1, g1⟩, by simp [q2]; simpa using g2, ?_⟩
    have := RepC.app (by simpa using q3) g3
    rwa [List.take_append_drop] at this
theorem weightsEach_get {H : Type} : ∀ {ts : List TypeId} {ds : List (DataW H)} {m : Nat}, (DataW.weightsEach P ts ds).all (· ≤ m) = true → ∀ (i : Nat) t d, ts[i]? = some t → ds[i]? = some d → (d.weights P t).all (· ≤ m) = true
  | [], _, m, _, i, t, d, e, _ => by simp at e
  | _ :: _, [], m, _, i, t, d, _, e => by simp at e
  | t :: ts, d :: ds, m, h, i, t', d', e1, e2 => by
    simp only [DataW.weightsEach, List.all_append, Bool.and_eq_true] at h
    cases i with
    | zero => simp at e1 e2; subst e1; subst e2; exact h.1
    | succ i => exact weightsEach_get h.2 i t' d' (by simpa using e1) (by simpa using e2)
theorem Typ.struct {t : TypeId} {fs : Array Field} (ht : P.underlying t = some (.struct fs)) (L : List (Nat × (List DV → Prop))) (hc : P.cellsOf t = (L.map (·.1)).sum) (hL : fs.size = L.length)
    (hf : ∀ (i : Nat) f p, fs[i]? = some f → L[i]? = some p → Typ P f.type p.1 p.2 ∧ P.cellsOf f.type = p.1 ∧ f.offset = ((L.take i).map (·.1)).sum) :
    Typ P t (L.map (·.1)).sum (fun ds => ∃ parts, ds = parts.flatten ∧ PartsOk L parts) :=
  ⟨fun enc W sp fuel cs x h hw => by
    obtain ⟨xs, n, rfl, rfl, hcs, hxs, hget⟩ := DataW.trod_struct ht h
    simp only [DataW.weights, ht] at hw
    have hwe := weightsEach_get hw
    obtain ⟨parts, g1, g2, g3⟩ := struct_parts (h := memH W) L cs (hcs.trans hc) (fun i p hp => by
      have hi : i < fs.size := by have := (List.getElem?_eq_some_iff.1 hp).1; omega
      have hfi := Array.getElem?_eq_getElem hi
      obtain ⟨e1, e2, e3⟩ := hf i _ p hfi hp
      have hg := hget i _ hfi
      rw [List.getElem?_eq_getElem (by omega), e3, e2] at hg
      obtain ⟨ds, r1, r2, r3⟩ := e1.opens enc W sp n _ _ hg (hwe i _ _ (by simp [hi]) (by simp [show i < xs.length by omega]))
      exact ⟨ds, r1, r2, r3⟩)
    exact ⟨_, ⟨parts, rfl, g1⟩, g2, g3⟩⟩

theorem Typ.mono {t : TypeId} {n : Nat} {Q Q' : List DV → Prop} (h : Typ P t n Q) (hq : ∀ ds, Q ds → Q' ds) : Typ P t n Q' :=
  ⟨fun enc W sp fuel cs x e hw => let ⟨ds, h1, h2, h3⟩ := h.opens enc W sp fuel cs x e hw; ⟨ds, hq ds h1, h2, h3⟩⟩
/-- What is handed in, one value: not a struct. -/
theorem Typ.one {H : Type} {enc : TypeId × Value → H} {W : World} {sp : Nat → Bool} {t : TypeId} {Q : List DV → Prop} (hT : Typ P t 1 Q) {v : Value} {d : DataW H} {ps : List MemPlace} (h : DataW.Trod enc P W 0 sp true t v d ps)
    (hw : (d.weights P t).all (· ≤ reachBytes) = true) (hv : v.cells = #[v]) : ∃ x, Q [x] ∧ Rep (memH W) (fun _ => .no) v x := by
  obtain ⟨fuel, hf⟩ := h
  obtain ⟨ds, h1, h2, h3⟩ := hT.opens enc W sp fuel _ _ hf hw
  obtain ⟨x, rfl⟩ := List.length_eq_one_iff.1 h2
  exact ⟨x, h1, (h3.2 0 v x (by rw [hv]; rfl) rfl).1⟩
/-- A struct. -/
theorem Typ.agg {H : Type} {enc : TypeId × Value → H} {W : World} {sp : Nat → Bool} {t : TypeId} {n : Nat} {Q : List DV → Prop} (hT : Typ P t n Q) {cs : Array Value} {d : DataW H} {ps : List MemPlace} (h : DataW.Trod enc P W 0 sp true t (.agg cs) d ps)
    (hw : (d.weights P t).all (· ≤ reachBytes) = true) : ∃ ds, Q ds ∧ Rep (memH W) (fun _ => .no) (.agg cs) (.agg ds) := by
  obtain ⟨fuel, hf⟩ := h
  obtain ⟨ds, h1, h2, h3⟩ := hT.opens enc W sp fuel _ _ hf hw
  exact ⟨ds, h1, .agg cs ds (by simpa [Value.cells] using h3.1) fun i v d e1 e2 => (h3.2 i v d (by simpa [Value.cells] using e1) e2).1⟩

/-- Below the heap's old size nothing has turned: what was handed in reads as it did. -/
theorem trodAll_stays {H : Type} {enc : TypeId × Value → H} (hl : laidOutB P = true) {W W' : World} (hb : Below W.heap.size W W') : ∀ {ts : List TypeId} {vs : List Value} {ds : List (DataW H)} {ps : List MemPlace},
    (∀ t ∈ ts, P.readableRec t = true ∧ t < P.types.size) → DataW.TrodAll enc P W 0 (fun _ => true) true ts vs ds ps → (∀ x ∈ ps, x.block < W.heap.size) →
    DataW.TrodAll enc P W' 0 (fun b => decide (b < W.heap.size)) true ts vs ds ps
  | [], [], [], ps, _, h, _ => h
  | t :: ts, v :: vs, d :: ds, ps, hts, h, hlt => by
    obtain ⟨p, q, h1, h2, rfl⟩ := h
    refine ⟨p, q, Below.trod hl (hts t (List.mem_cons_self ..)).1 (hts t (List.mem_cons_self ..)).2 h1 hb fun x hx => hlt x (List.mem_append_left _ hx), ?_, rfl⟩
    exact trodAll_stays hl hb (fun t ht => hts t (List.mem_cons_of_mem _ ht)) h2 fun x hx => hlt x (List.mem_append_right _ hx)
  | [], _ :: _, _, _, _, h, _ => h.elim
  | [], [], _ :: _, _, _, h, _ => h.elim
  | _ :: _, [], _, _, _, h, _ => h.elim
  | _ :: _, _ :: _, [], _, _, h, _ => h.elim

/-- The call of a law that answers true. -/
theorem law_post {H : Type} {enc : TypeId × Value → H} {f : FuncId} {fn : Func} {c : Code} {W : World} {args : Array Value} {dvs : List DV} {ds : List (DataW H)} {ps : List MemPlace} {ts : List TypeId}
    (hfn : FnC P f dvs (· = .bool true)) (hf : P.funcs[f]? = some fn) (hb : fn.body = some c) (hname : (fn.name == "runtime.NumGoroutine") = false) (hl : laidOutB P = true) (hts : ∀ t ∈ ts, P.readableRec t = true ∧ t < P.types.size)
    (hA : DataW.TrodAll enc P W 0 (fun _ => true) true ts args.toList ds ps) (hlt : ∀ x ∈ ps, x.block < W.heap.size) (hs : args.size = dvs.length)
    (hr : ∀ (i : Nat) (v : Value) (d : DV), args[i]? = some v → dvs[i]? = some d → Rep (memH W) (fun _ => .no) v d) :
    Calls P f args W fun e W' => e = .returned (.bool true) ∧ Below W.heap.size W W' ∧ DataW.TrodAll enc P W' 0 (fun b => decide (b < W.heap.size)) true ts args.toList ds ps :=
  (hfn.calls hf hb hname W args hs hr).mono fun _ _ ⟨he, bel⟩ => ⟨he, bel, trodAll_stays hl bel hts hA hlt⟩
end Go.Pv
