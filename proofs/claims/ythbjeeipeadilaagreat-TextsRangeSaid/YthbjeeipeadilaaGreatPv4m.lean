/- The walk over pure values is sound: maps. -/
import Derived.Test.YthbjeeipeadilaaGreatPv4a
import Derived.Maps.RangeRun
import Derived.RangeFuncRecord
set_option linter.unusedSimpArgs false
set_option linter.unusedVariables false
namespace Go.Pv
open Go Go.RowKit
variable {P : Program} {C : Ctx} {n : Nat} {h : Hp} {β : Nat → Bl} {w : World} {a : Act}

theorem bif_trueM {b : Bool} {p : Prop} (h : bif b then p else False) : b = true ∧ p := by
  cases b with
  | true => exact ⟨rfl, h⟩
  | false => exact h.elim
def noCells : Obj → Bool
  | .cells _ _ _ => false
  | _ => true
theorem getObj_run {b : Nat} {o : Obj} (hw : w.heap[b]? = some o) (hc : noCells o = true := by rfl) : (getObj b).run P w = .ok o w := by
  cases o <;> first | (cases hc; done) | (simp [getObj, Sem.run, hw]; done)
theorem setObj_run {b : Nat} {o o' : Obj} (hw : w.heap[b]? = some o) (hc : noCells o = true := by rfl) : (setObj b o').run P w = .ok () (w.putObj b o') := by
  cases o <;> first | (cases hc; done) | (simp [setObj, Sem.run, hw, World.putObj]; done)
theorem findKey_run {kt : TypeId} {d : TypeDesc} {k : Value} {l : List MapEntry} {r : Option (Nat × Value)} (hd : P.underlying kt = some d) (hf : Instr.findNow d k l 0 = some r) : (Instr.findKey kt k l).run P w = .ok r w := by
  unfold Instr.findKey
  simp only [Sem.run_bind, run_underlying hd, Result.andThen_ok, hf, Sem.run_pure]
theorem AsC.one {o : Obj} {cs : Array Value} {t : TypeId} (h : AsC o cs t) (ht : cellTy t = false) : cs.size = 1 := by
  cases h with
  | cells _ _ hc' => rw [hc'] at ht; cases ht
  | map => rfl
  | iter => rfl
  | sit => rfl
theorem AsC.map_of {o : Obj} {cs : Array Value} {t : TypeId} (h : AsC o cs t) (ht : t = mapTy) : ∃ es, o = .map es es.size ∧ (∀ (i : Nat) (e : MapEntry), es[i]? = some e → e.born = i) ∧ cs = #[.iface 0 (.tuple (flatM es))] := by
  cases h with
  | cells _ _ hc => subst ht; exact absurd hc (by decide)
  | map es clock hc hb => subst hc; exact ⟨es, rfl, hb, rfl⟩
  | iter => exact absurd ht (by decide)
  | sit => exact absurd ht (by decide)
theorem AsC.iter_of {o : Obj} {cs : Array Value} {t : TypeId} (h : AsC o cs t) (ht : t = iterTy) : ∃ m since seen last, o = .mapIter m since seen last ∧ cs = #[.iface 0 (.tuple (flatI m since last seen))] := by
  cases h with
  | cells _ _ hc => subst ht; exact absurd hc (by decide)
  | map => exact absurd ht (by decide)
  | iter m since seen last => exact ⟨m, since, seen, last, rfl, rfl⟩
  | sit => exact absurd ht (by decide)
theorem AsC.sit_of {o : Obj} {cs : Array Value} {t : TypeId} (h : AsC o cs t) (ht : t = siterTy) : ∃ s pos, o = .stringIter s pos ∧ cs = #[.iface 0 (.tuple #[.string s, .int .i64 pos])] := by
  cases h with
  | cells _ _ hc => subst ht; exact absurd hc (by decide)
  | map => exact absurd ht (by decide)
  | iter => exact absurd ht (by decide)
  | sit s pos => exact ⟨s, pos, rfl, rfl⟩

theorem tupOf_some {po : PO} {ds : List DV} (h : tupOf po = some ds) : ∃ t, po.els = [[.iface t (.tup ds)]] := by
  unfold tupOf at h
  split at h
  · rename_i t ds' e; injection h with h; subst h; exact ⟨t, e⟩
  · cases h

/-- An object that is told by one pure value. -/
theorem tup_at {σ : Objs} (hi : Inv C σ h β w) {id : Nat} {po : PO} {ds : List DV} (ho : obj σ id = some po) (hd : tupOf po = some ds) {b sz N K : Nat} {t : TypeId} (hb : β id = .at b sz N K t) :
    po.sz = 1 ∧ sz = 1 ∧ N = 1 ∧ t = po.ty ∧ ∃ o cs, w.heap[b]? = some o ∧ AsC o cs t ∧ K ≤ cs.size ∧ 1 ≤ K ∧ ∃ v, cs[0]? = some v ∧ ∃ t, Rep h β v (.iface t (.tup ds)) := by
  obtain ⟨tt, hels⟩ := tupOf_some hd
  obtain ⟨po', cs, g1, g2, g3, ⟨o, go, gA⟩, g5, g6, g7, g8⟩ := hi.objs id b _ _ _ _ hb
  rw [ho] at g1; injection g1 with g1; subst g1
  have h0 := g6 0 [.iface tt (.tup ds)] (by rw [hels]; rfl)
  have hsz : sz = 1 := by simpa using h0.1.symm
  subst hsz
  rcases hi.live id po ho with ⟨b2, K2, hb2⟩ | ⟨_, hn⟩
  · rw [hb] at hb2; injection hb2 with e1 e2 e3 e4 e5
    have hN : N = 1 := by rw [e3, hels]; rfl
    obtain ⟨v, k1, _, k3⟩ := h0.2 0 _ rfl
    exact ⟨e2.symm, rfl, hN, e5, o, cs, go, gA, by have := g5.le; omega, by omega, v, by simpa using k1, tt, k3⟩
  · rw [hels] at hn; cases hn

theorem rep_iface_tup {v : Value} {t t' : TypeId} {vs : Array Value} {ds : List DV} (r : Rep h β v (.iface t (.tup ds))) (hv : v = .iface t' (.tuple vs)) : RepVs h β vs ds := by
  subst hv
  cases r with
  | iface _ _ _ r =>
    cases r with
    | tup _ _ hl hr => exact ⟨hl, hr⟩

/-- A map's handle. -/
theorem map_handle {σ : Objs} (hi : Inv C σ h β w) {id : Nat} {po : PO} {ds : List DV} (ho : obj σ id = some po) (hd : tupOf po = some ds) {v : Value} (r : Rep h β v (.hnd false id)) :
    ∃ b es, v = .map (some b) ∧ β id = .at b 1 1 1 mapTy ∧ po.ty = mapTy ∧ po.sz = 1 ∧ w.heap[b]? = some (.map es es.size) ∧ (∀ (i : Nat) (e : MapEntry), es[i]? = some e → e.born = i) ∧ RepVs h β (flatM es) ds := by
  cases r with
  | mapAt _ b sz N K hb =>
    obtain ⟨q1, rfl, rfl, q4, o, cs, go, gA, g5, g6, v, k1, t, k2⟩ := tup_at hi ho hd hb
    obtain ⟨es, rfl, hbo, rfl⟩ := gA.map_of rfl
    have hK : K = 1 := by
      have g5 : K ≤ 1 := g5
      omega
    subst hK
    refine ⟨b, es, rfl, hb, q4.symm, q1, go, hbo, rep_iface_tup (t' := 0) k2 ?_⟩
    simpa using k1.symm
  | hndDead _ _ _ hb =>
    rcases hi.live id po ho with ⟨b2, K2, hb2⟩ | ⟨hb2, _⟩ <;> (rw [hb] at hb2; cases hb2)

/-- The entries of a map, told by ds. -/
def RepL (h : Hp) (β : Nat → Bl) (l : List MapEntry) (ds : List DV) : Prop :=
  ds.length = 2 * l.length ∧ ∀ i e, l[i]? = some e → (∀ d, ds[2 * i]? = some d → Rep h β e.key d) ∧ (∀ d, ds[2 * i + 1]? = some d → Rep h β e.val d)
theorem flatL_get : ∀ (l : List MapEntry), (l.flatMap fun e => [e.key, e.val]).length = 2 * l.length ∧ ∀ i, (l.flatMap fun e => [e.key, e.val])[2 * i]? = l[i]?.map (·.key) ∧ (l.flatMap fun e => [e.key, e.val])[2 * i + 1]? = l[i]?.map (·.val)
  | [] => ⟨rfl, fun i => by simp⟩
  | e :: l => by
    obtain ⟨h1, h2⟩ := flatL_get l
    refine ⟨by simp only [List.flatMap_cons, List.length_append, List.length_cons, List.length_nil, h1]; omega, fun i => ?_⟩
    cases i with
    | zero => simp
    | succ i =>
      have := h2 i
      simp only [List.flatMap_cons]
      rw [show 2 * (i + 1) = 2 * i + 2 by omega, show 2 * i + 2 + 1 = (2 * i + 1) + 2 by omega]
      simpa using this
theorem repL_of {es : Array MapEntry} {ds : List DV} (r : RepVs h β (flatM es) ds) : RepL h β es.toList ds := by
  obtain ⟨h1, h2⟩ := flatL_get es.toList
  obtain ⟨r1, r2⟩ := r
  refine ⟨by rw [← r1]; unfold flatM; simpa using h1, fun i e he => ⟨fun d hd => r2 (2 * i) _ _ ?_ hd, fun d hd => r2 (2 * i + 1) _ _ ?_ hd⟩⟩
  · unfold flatM; rw [List.getElem?_toArray, (h2 i).1, he]; rfl
  · unfold flatM; rw [List.getElem?_toArray, (h2 i).2, he]; rfl
theorem repL_to {es : Array MapEntry} {ds : List DV} (r : RepL h β es.toList ds) : RepVs h β (flatM es) ds := by
  obtain ⟨h1, h2⟩ := flatL_get es.toList
  obtain ⟨r1, r2⟩ := r
  refine ⟨by unfold flatM; rw [List.size_toArray, h1, r1], fun j v d e1 e2 => ?_⟩
  unfold flatM at e1
  rw [List.getElem?_toArray] at e1
  rcases Nat.mod_two_eq_zero_or_one j with hj | hj
  · obtain ⟨i, rfl⟩ : ∃ i, j = 2 * i := ⟨j / 2, by omega⟩
    rw [(h2 i).1] at e1
    cases he : es.toList[i]? with
    | none => rw [he] at e1; cases e1
    | some e => rw [he] at e1; injection e1 with e1; subst e1; exact (r2 i e he).1 d e2
  · obtain ⟨i, rfl⟩ : ∃ i, j = 2 * i + 1 := ⟨j / 2, by omega⟩
    rw [(h2 i).2] at e1
    cases he : es.toList[i]? with
    | none => rw [he] at e1; cases e1
    | some e => rw [he] at e1; injection e1 with e1; subst e1; exact (r2 i e he).2 d e2

theorem isKey_of {D : TypeDesc} {kt : TypeId} (hD : P.underlying kt = some D) {k : DV} (hk : keyTy P kt k = true) {kv : Value} (rk : Rep h β kv k) : (∃ K z k', D = .int K ∧ kv = .int k' z ∧ k = .int k' z) ∨ (∃ s, D = .string ∧ kv = .string s ∧ k = .str s) := by
  unfold keyTy at hk
  rw [hD] at hk
  split at hk
  · rename_i K k' z e; injection e with e; exact .inl ⟨K, z, k', e, rep_toV rfl rk, rfl⟩
  · rename_i s e; injection e with e; exact .inr ⟨s, e, rep_toV rfl rk, rfl⟩
  · cases hk
theorem keyEq_sound {D : TypeDesc} {kt : TypeId} (hD : P.underlying kt = some D) {k x : DV} (hk : keyTy P kt k = true) {b : Bool} (h1 : keyEq k x = some b) {kv xv : Value} (rk : Rep h β kv k) (rx : Rep h β xv x) : Instr.sameNow D kv xv = some b := by
  rcases isKey_of hD hk rk with ⟨K, z, k', rfl, rfl, rfl⟩ | ⟨s, rfl, rfl, rfl⟩
  · unfold keyEq at h1
    split at h1
    · rename_i k1 a k2 b' e1
      injection e1 with e1 e2; subst e1; subst e2
      have e2 : xv = .int k2 b' := rep_toV rfl rx
      subst e2
      simp only [Instr.sameNow]
      by_cases hkk : k' = k2
      · simp only [hkk, decide_true, cond_true] at h1
        rw [if_pos hkk]; exact h1
      · simp [hkk] at h1
    · rename_i e1; cases e1
    · cases h1
  · unfold keyEq at h1
    split at h1
    · rename_i e1; cases e1
    · rename_i s1 s2 e1
      injection e1 with e1; subst e1
      have e2 : xv = .string s2 := rep_toV rfl rx
      subst e2; exact h1
    · cases h1

theorem findM_sound {D : TypeDesc} {kt : TypeId} (hD : P.underlying kt = some D) {k : DV} (hk : keyTy P kt k = true) {kv : Value} (rk : Rep h β kv k) : ∀ (l : List MapEntry) (ds : List DV) (i : Nat) (r : Option (Nat × DV)), RepL h β l ds → findM k ds i = some r →
    (r = none ∧ Instr.findNow D kv l i = some none) ∨ ∃ m x v e, r = some (i + m, x) ∧ Instr.findNow D kv l i = some (some (i + m, v)) ∧ l[m]? = some e ∧ v = e.val ∧ Rep h β v x ∧ Instr.sameNow D kv e.key = some true
  | [], ds, i, r, hr, hf => by
    have : ds = [] := List.eq_nil_of_length_eq_zero (by simpa using hr.1)
    subst this
    simp only [findM] at hf; injection hf with hf
    exact .inl ⟨hf.symm, rfl⟩
  | e :: l, ds, i, r, hr, hf => by
    obtain ⟨h1, h2⟩ := hr
    match ds, h1 with
    | x :: y :: ds', h1 =>
      have hx := (h2 0 e rfl).1 x rfl
      have hy := (h2 0 e rfl).2 y rfl
      simp only [findM] at hf
      split at hf
      · rename_i hq
        have := keyEq_sound hD hk hq rk hx
        injection hf with hf; subst hf
        exact .inr ⟨0, y, e.val, e, rfl, by simp [Instr.findNow, this], rfl, rfl, hy, this⟩
      · rename_i hq
        have hs := keyEq_sound hD hk hq rk hx
        have hr' : RepL h β l ds' := ⟨by simp only [List.length_cons] at h1; omega, fun j e' he' => by
          have := h2 (j + 1) e' he'
          refine ⟨fun d hd => this.1 d ?_, fun d hd => this.2 d ?_⟩
          · rw [show 2 * (j + 1) = 2 * j + 2 by omega]; exact hd
          · rw [show 2 * (j + 1) + 1 = 2 * j + 1 + 2 by omega]; exact hd⟩
        rcases findM_sound hD hk rk l ds' (i + 1) r hr' hf with ⟨q1, q2⟩ | ⟨m, x', v, e', q1, q2, q3, q4, q5, q6⟩
        · exact .inl ⟨q1, by simp only [Instr.findNow, hs]; exact q2⟩
        · exact .inr ⟨m + 1, x', v, e', by rw [q1, show i + 1 + m = i + (m + 1) by omega], by simp only [Instr.findNow, hs]; rw [q2, show i + 1 + m = i + (m + 1) by omega], q3, q4, q5, q6⟩
      · cases hf
    | [], h1 => simp at h1
    | [_], h1 => simp only [List.length_cons, List.length_nil] at h1; omega

theorem checkKey_run {D : TypeDesc} {kt : TypeId} (hD : P.underlying kt = some D) {k : DV} (hk : keyTy P kt k = true) {kv : Value} (rk : Rep h β kv k) (e : Bool) (m : Nat) (w : World) : (Instr.checkKey e (m + 1) kt kv).run P w = .ok () w := by
  unfold Instr.checkKey
  simp only [Sem.run_bind, run_underlying hD, Result.andThen_ok]
  rcases isKey_of hD hk rk with ⟨K, z, k', rfl, rfl, _⟩ | ⟨s, rfl, rfl, _⟩ <;> rfl

theorem ents_of {σ : Objs} (hi : Inv C σ h β w) {d : DV} {ds : List DV} (he : entsOf σ d = some ds) {v : Value} (r : Rep h β v d) :
    (d = .nilm ∧ v = .map none ∧ ds = []) ∨ ∃ id po b es, d = .hnd false id ∧ obj σ id = some po ∧ tupOf po = some ds ∧ v = .map (some b) ∧ β id = .at b 1 1 1 mapTy ∧ po.ty = mapTy ∧ po.sz = 1 ∧ w.heap[b]? = some (.map es es.size) ∧ (∀ (i : Nat) (e : MapEntry), es[i]? = some e → e.born = i) ∧ RepVs h β (flatM es) ds := by
  unfold entsOf at he
  split at he
  · injection he with he; exact .inl ⟨rfl, rep_toV rfl r, he.symm⟩
  · rename_i id
    cases ho : obj σ id with
    | none => rw [ho] at he; cases he
    | some po =>
      rw [ho] at he
      have he : tupOf po = some ds := he
      obtain ⟨b, es, h1⟩ := map_handle hi ho he r
      exact .inr ⟨id, po, b, es, rfl, ho, he, h1⟩
  · cases he

theorem rep_tup2 {u v : Value} {d e : DV} (h1 : Rep h β u d) (h2 : Rep h β v e) : Rep h β (.tuple #[u, v]) (.tup [d, e]) := by
  refine .tup _ _ rfl fun i x y e1 e2 => ?_
  cases i with
  | zero => simp at e1 e2; subst e1; subst e2; exact h1
  | succ i =>
    cases i with
    | zero => simp at e1 e2; subst e1; subst e2; exact h2
    | succ i => simp at e1
theorem rep_tup3 {u v x : Value} {d e f : DV} (h1 : Rep h β u d) (h2 : Rep h β v e) (h3 : Rep h β x f) : Rep h β (.tuple #[u, v, x]) (.tup [d, e, f]) := by
  refine .tup _ _ rfl fun i x y e1 e2 => ?_
  cases i with
  | zero => simp at e1 e2; subst e1; subst e2; exact h1
  | succ i =>
    cases i with
    | zero => simp at e1 e2; subst e1; subst e2; exact h2
    | succ i =>
      cases i with
      | zero => simp at e1 e2; subst e1; subst e2; exact h3
      | succ i => simp at e1

theorem lookK_sound {xt : TypeId} {x i : DV} {ok : Bool} {σ : Objs} {K : DV → Prop} (hk : lookK P xt x i ok σ K) (hi : Inv C σ h β w) {xv iv : Value} (rx : Rep h β xv x) (ri : Rep h β iv i) :
    ∃ v d, (Instr.lookup xt xv iv ok).run P w = .ok v w ∧ Rep h β v d ∧ K d := by
  unfold lookK at hk
  split at hk
  case h_2 => exact hk.elim
  rename_i kt et hu
  obtain ⟨hkt, hk⟩ := bif_trueM hk
  obtain ⟨ds, hds, hk⟩ := optK_some hk
  obtain ⟨r, hr, hk⟩ := optK_some hk
  obtain ⟨D, hD⟩ : ∃ D, P.underlying kt = some D := by
    unfold keyTy at hkt
    cases hq : P.underlying kt with
    | none => rw [hq] at hkt; cases hkt
    | some D => exact ⟨D, rfl⟩
  obtain ⟨es, hre, hrun⟩ : ∃ es : Array MapEntry, RepVs h β (flatM es) ds ∧ (Instr.lookup xt xv iv ok).run P w = (do
      Instr.checkKey es.isEmpty 10000 kt iv
      let (v, ok') ← match ← Instr.findKey kt iv es.toList with
        | some (_, v) => pure (v, true)
        | none => pure (← zeroValue et, false)
      pure (if ok then .tuple #[v, .bool ok'] else v) : Sem Value).run P w := by
    rcases ents_of hi hds rx with ⟨rfl, rfl, rfl⟩ | ⟨id, po, b, es, rfl, ho, hd, rfl, hb, hty, hsz, hw, hbo, hre⟩
    · refine ⟨#[], ⟨rfl, fun i v d e => by simp [flatM] at e⟩, ?_⟩
      unfold Instr.lookup
      simp only [Sem.run_bind, run_underlying hu, Result.andThen_ok, Sem.run_pure]
      rfl
    · refine ⟨es, hre, ?_⟩
      unfold Instr.lookup
      simp only [Sem.run_bind, run_underlying hu, Result.andThen_ok, Sem.run_pure, getObj_run (P := P) hw]
      rfl
  have hL := repL_of hre
  have hck := checkKey_run (P := P) hD hkt ri es.isEmpty 9999 w
  rcases findM_sound hD hkt ri es.toList ds 0 r hL hr with ⟨rfl, hf⟩ | ⟨m, x', v, e', rfl, hf, _, _, hv, _⟩
  · obtain ⟨z, hz, hk⟩ := optK_some hk
    have hzr : (zeroValue et).run P w = .ok z w := by
      cases hit : P.info? et with
      | none => rw [hit] at hz; cases hz
      | some it =>
        rw [hit] at hz
        have hz : it.zero = some z := hz
        simp [zeroValue, Sem.run_bind, run_typeInfo w hit, hz]
    refine ⟨if ok then .tuple #[z, .bool false] else z, _, ?_, ?_, hk⟩
    · rw [hrun]
      simp only [Sem.run_bind, hck, findKey_run (P := P) hD hf, Result.andThen_ok, hzr, Sem.run_pure]
    · cases ok with
      | true => exact rep_tup2 (rep_ofV z) (.bool _)
      | false => exact rep_ofV z
  · refine ⟨if ok then .tuple #[v, .bool true] else v, _, ?_, ?_, hk⟩
    · rw [hrun]
      simp only [Sem.run_bind, hck, findKey_run (P := P) hD hf, Result.andThen_ok, Sem.run_pure]
    · cases ok with
      | true => exact rep_tup2 hv (.bool _)
      | false => exact hv

/-- An object is told anew. -/
theorem inv_putO {σ : Objs} (hi : Inv C σ h β w) {id b K : Nat} {po : PO} (hb : β id = .at b po.sz po.els.length K po.ty) (ho : obj σ id = some po) (hf : po.frz = false) (o' : Obj)
    (cs' : Array Value) (els' : List (List DV)) (hA : AsC o' cs' po.ty) (hlen : els'.length = po.els.length) (hsz : SzOk cs'.size K po.els.length po.sz)
    (hr : ∀ i ds, els'[i]? = some ds → ds.length = po.sz ∧ ∀ j d, ds[j]? = some d → ∃ v, cs'[i * po.sz + j]? = some v ∧ v.oneCell' = true ∧ Rep h β v d) :
    Inv C (σ.set id (some ⟨false, po.sz, po.ty, els'⟩)) h β (w.putObj b o') := by
  obtain ⟨po', cs, g1, g2, g3, g4, g5, g6, g7, g8⟩ := hi.objs id b _ _ _ _ hb
  rw [ho] at g1; injection g1 with g1; subst g1
  have hnone := g7 hf
  have hlt := obj_lt ho
  have hblk := hi.blk hb
  refine { os := hi.os, tape := hi.tape, output := hi.output, size := by rw [World.putObj_size]; exact hi.size, view := ?_, hle := hi.hle, hnew := hi.hnew, own := hi.own, unborn := fun k hk => hi.unborn k (by simpa using hk), inj := hi.inj, live := ?_, objs := ?_, frame := ?_, gho := hi.gho, born := fun k hk => hi.born k (by simpa using hk) }
  · intro b' o e
    rw [World.putObj_heap_other (by rintro rfl; rw [hnone] at e; cases e)]; exact hi.view _ _ e
  · intro k po' e
    by_cases hk : k = id
    · subst hk; rw [obj_set_eq hlt] at e; injection e with e; subst e
      exact .inl ⟨b, K, by simpa [hlen] using hb⟩
    · rw [obj_set_ne hk] at e; exact hi.live k po' e
  · intro k b' sz' N' K' t' e
    by_cases hk : k = id
    · subst hk
      rw [hb] at e; injection e with e1 e2 e3 e4 e5; subst e1; subst e2; subst e3; subst e4; subst e5
      exact ⟨_, cs', obj_set_eq hlt, g2, g3, ⟨_, World.putObj_heap_same hblk, hA⟩, hsz, hr, fun _ => hnone, by simp⟩
    · obtain ⟨q, cs2, k1, k2, k3, k4, k5, k6, k7, k8⟩ := hi.objs k b' _ _ _ _ e
      have hne : b' ≠ b := by rintro rfl; exact hk (hi.inj _ _ _ _ _ _ _ _ _ _ _ e hb)
      exact ⟨q, cs2, (obj_set_ne hk).trans k1, k2, k3, (by rw [World.putObj_heap_other hne]; exact k4), k5, k6, k7, fun e => (k8 e).trans (World.putObj_heap_other hne).symm⟩
  · intro b' hb' hL
    rw [World.putObj_heap_other]
    · exact hi.frame b' hb' hL
    · rintro rfl
      rcases hi.own _ _ _ _ _ _ hb with h1 | h1
      · omega
      · exact hL h1
theorem inv_putT {σ : Objs} (hi : Inv C σ h β w) {id b : Nat} {po : PO} {ds : List DV} (ho : obj σ id = some po) (hd : tupOf po = some ds) (hb : β id = .at b 1 1 1 po.ty) (hz : po.sz = 1) (hf : po.frz = false) (o' : Obj) (vs : Array Value) (ds' : List DV)
    (hA : AsC o' #[.iface 0 (.tuple vs)] po.ty) (hr : RepVs h β vs ds') : Inv C (σ.set id (some ⟨false, 1, po.ty, [[.iface 0 (.tup ds')]]⟩)) h β (w.putObj b o') := by
  obtain ⟨tt, hels⟩ := tupOf_some hd
  have hb' : β id = .at b po.sz po.els.length 1 po.ty := by rw [hz, hels]; exact hb
  have := inv_putO hi hb' ho hf o' #[.iface 0 (.tuple vs)] [[.iface 0 (.tup ds')]] hA (by rw [hels]; rfl) (by rw [hz]; exact .inl rfl) (by
    intro i d e
    cases i with
    | succ i => simp at e
    | zero =>
      simp at e; subst e
      refine ⟨hz.symm, fun j d e2 => ?_⟩
      cases j with
      | succ j => simp at e2
      | zero => simp at e2; subst e2; exact ⟨_, by simp, rfl, .iface _ _ _ (.tup _ _ hr.1 hr.2)⟩)
  rw [hz] at this; exact this
theorem inv_newT {σ : Objs} (hi : Inv C σ h β w) (t : TypeId) (o : Obj) (vs : Array Value) (ds : List DV) (hA : AsC o #[.iface 0 (.tuple vs)] t) (hr : RepVs h β vs ds) :
    ∃ β', BLe β β' ∧ β' σ.length = .at w.heap.size 1 1 1 t ∧ Inv C (σ ++ [some ⟨false, 1, t, [[.iface 0 (.tup ds)]]⟩]) h β' (w.alloc o) :=
  inv_newO hi t o #[.iface 0 (.tuple vs)] 1 1 [[.iface 0 (.tup ds)]] (Nat.le_refl _) (by decide) rfl hA (by
    intro i d e
    cases i with
    | succ i => simp at e
    | zero =>
      simp at e; subst e
      refine ⟨rfl, fun j d e2 => ?_⟩
      cases j with
      | succ j => simp at e2
      | zero => simp at e2; subst e2; exact ⟨_, by simp, rfl, .iface _ _ _ (.tup _ _ hr.1 hr.2)⟩)
theorem inv_drew {σ : Objs} (hi : Inv C σ h β w) : Inv C σ h β w.drew :=
  { os := hi.os, tape := hi.tape, output := hi.output, size := hi.size, view := hi.view, hle := hi.hle, hnew := hi.hnew, own := hi.own, unborn := hi.unborn, inj := hi.inj, live := hi.live, objs := hi.objs, frame := hi.frame, gho := hi.gho, born := hi.born }

theorem unfrz_get {σ : Objs} {id : Nat} (hu : unfrz σ id = true) {po : PO} (ho : obj σ id = some po) : po.frz = false := by
  unfold unfrz at hu
  rw [ho] at hu
  simpa using hu

theorem sameBits_key {D : TypeDesc} {k x : Value} (hk : (∃ K z k', D = .int K ∧ k = .int k' z) ∨ (∃ s, D = .string ∧ k = .string s)) (hs : Instr.sameNow D k x = some true) : Instr.sameBits 10000 x k = true := by
  rcases hk with ⟨K, z, k', rfl, rfl⟩ | ⟨s, rfl, rfl⟩
  · cases x with
    | int k2 z2 =>
      simp only [Instr.sameNow] at hs
      by_cases hkk : k' = k2
      · rw [if_pos hkk] at hs
        simp only [Option.some.injEq, beq_iff_eq] at hs
        subst hkk; subst hs
        simp [Instr.sameBits]
      · rw [if_neg hkk] at hs; cases hs
    | _ => simp [Instr.sameNow] at hs
  · cases x with
    | string s2 =>
      simp only [Instr.sameNow, Option.some.injEq] at hs
      have : s.data = s2.data := by
        have h2 : (s.data == s2.data) = true := hs
        simpa using h2
      show (s2.data == s.data) = true
      rw [this]; simp
    | _ => simp [Instr.sameNow] at hs

theorem keyTy_under {kt : TypeId} {d : DV} (hk : keyTy P kt d = true) : ∃ D, P.underlying kt = some D := by
  unfold keyTy at hk
  cases hq : P.underlying kt with
  | none => rw [hq] at hk; cases hk
  | some D => exact ⟨D, rfl⟩

theorem updK_sound {t : TypeId} {m k x : DV} {σ : Objs} {K : DV → Objs → Prop} (hk : updK P t m k x σ K) (hi : Inv C σ h β w) {mv kv xv : Value} (rm : Rep h β mv m) (rk : Rep h β kv k) (rx : Rep h β xv x) :
    ∃ w' σ', (Instr.mapUpdate t mv kv xv).run P w = .ok () w' ∧ Inv C σ' h β w' ∧ K .junk σ' := by
  unfold updK at hk
  split at hk
  case h_2 => exact hk.elim
  rename_i kt et id hu
  obtain ⟨hb, hk⟩ := bif_trueM hk
  rw [Bool.and_eq_true] at hb
  obtain ⟨hkt, huf⟩ := hb
  obtain ⟨ds, hds, hk⟩ := optK_some hk
  obtain ⟨r, hr, hk⟩ := optK_some hk
  obtain ⟨D, hD⟩ := keyTy_under hkt
  rcases ents_of hi hds rm with ⟨q, _⟩ | ⟨id', po, b, es, q, ho, hd, rfl, hb, hty, hsz, hw, hbo, hre⟩
  · cases q
  injection q with _ q; subst q
  have hL := repL_of hre
  have hck := checkKey_run (P := P) hD hkt rk false 9999 w
  have hfz := unfrz_get huf ho
  rw [← hty] at hb
  have hkd : (∃ K z k', D = .int K ∧ kv = .int k' z) ∨ (∃ s, D = .string ∧ kv = .string s) := by
    rcases isKey_of hD hkt rk with ⟨K, z, k', h1, h2, _⟩ | ⟨s, h1, h2, _⟩
    · exact .inl ⟨K, z, k', h1, h2⟩
    · exact .inr ⟨s, h1, h2⟩
  have hmap : ∀ (ds' : List DV), (some ⟨false, 1, po.ty, [[.iface 0 (.tup ds')]]⟩ : Option PO) = some (mapPO ds') := fun ds' => by rw [hty]; rfl
  rcases findM_sound hD hkt rk es.toList ds 0 r hL hr with ⟨rfl, hf⟩ | ⟨j, x', v, e', rfl, hf, hej, _, hv, hsame⟩
  · have hk : K .junk (mapWr σ id (ds ++ [k, x])) := hk
    refine ⟨w.putObj b (.map (es.push { key := kv, val := xv, born := es.size }) (es.size + 1)), mapWr σ id (ds ++ [k, x]), ?_, ?_, hk⟩
    · unfold Instr.mapUpdate
      simp only [Sem.run_bind, run_underlying hu, Result.andThen_ok, getObj_run (P := P) hw, hck, findKey_run (P := P) hD hf]
      exact setObj_run hw
    · have hr' : RepVs h β (flatM (es.push { key := kv, val := xv, born := es.size })) (ds ++ [k, x]) := by
        refine repL_to ⟨?_, fun i e he => ?_⟩
        · simp only [List.length_append, List.length_cons, List.length_nil, hL.1, Array.toList_push]; omega
        · rw [Array.toList_push, List.getElem?_append] at he
          have hl := hL.1
          have hsz' : es.toList.length = es.size := by simp
          by_cases hlt : i < es.toList.length
          · rw [if_pos hlt] at he
            refine ⟨fun d hd => (hL.2 i e he).1 d ?_, fun d hd => (hL.2 i e he).2 d ?_⟩
            · rwa [List.getElem?_append_left (by omega)] at hd
            · rwa [List.getElem?_append_left (by omega)] at hd
          · rw [if_neg hlt] at he
            have hi0 : i = es.toList.length := by
              rcases Nat.eq_or_lt_of_le (Nat.le_of_not_lt hlt) with h1 | h1
              · exact h1.symm
              · rw [List.getElem?_eq_none (by simp only [List.length_cons, List.length_nil]; omega)] at he; cases he
            subst hi0
            simp only [Nat.sub_self, List.getElem?_cons_zero, Option.some.injEq] at he
            subst he
            refine ⟨fun d hd => ?_, fun d hd => ?_⟩
            · rw [List.getElem?_append_right (by omega), hl] at hd
              simp at hd; subst hd; exact rk
            · rw [List.getElem?_append_right (by omega), hl] at hd
              rw [show 2 * es.toList.length + 1 - 2 * es.toList.length = 1 by omega] at hd
              simp at hd; subst hd; exact rx
      have hA : AsC (.map (es.push { key := kv, val := xv, born := es.size }) (es.size + 1)) #[.iface 0 (.tuple (flatM (es.push { key := kv, val := xv, born := es.size })))] po.ty := by
        rw [hty]
        refine .map _ _ (by simp) fun i e he => ?_
        rw [Array.getElem?_push] at he
        by_cases hlt : i = es.size
        · rw [if_pos hlt] at he; injection he with he; subst he; exact hlt.symm
        · rw [if_neg hlt] at he; exact hbo i e he
      have := inv_putT hi ho hd hb hsz hfz _ _ _ hA hr'
      rw [hmap] at this; exact this
  · rw [Nat.zero_add] at hf
    simp only [Nat.zero_add] at hk
    have hje : es[j]? = some e' := by rw [← Array.getElem?_toList]; exact hej
    have hjl : j < es.size := (Array.getElem?_eq_some_iff.1 hje).1
    refine ⟨w.putObj b (.map (es.modify j fun e => { e with key := kv, val := xv }) es.size), mapWr σ id ((ds.set (2 * j) k).set (2 * j + 1) x), ?_, ?_, hk⟩
    · have hst : (Instr.keyThatStays (((es[j]?).map (·.key)).getD kv) kv).run P w = .ok kv w := by
        unfold Instr.keyThatStays
        rw [hje]
        simp only [Option.map_some, Option.getD_some]
        rw [if_pos (sameBits_key hkd hsame)]; rfl
      unfold Instr.mapUpdate
      simp only [Sem.run_bind, run_underlying hu, Result.andThen_ok, getObj_run (P := P) hw, hck, findKey_run (P := P) hD hf, hst]
      exact setObj_run hw
    · have hr' : RepVs h β (flatM (es.modify j fun e => { e with key := kv, val := xv })) ((ds.set (2 * j) k).set (2 * j + 1) x) := by
        refine repL_to ⟨?_, fun i e he => ?_⟩
        · simp only [List.length_set, hL.1, Array.length_toList, Array.size_modify]
        · rw [Array.getElem?_toList, Array.getElem?_modify] at he
          by_cases hij : j = i
          · subst hij
            rw [if_pos rfl, hje] at he
            simp only [Option.map_some, Option.some.injEq] at he
            subst he
            have hl := hL.1
            have hsz' : es.toList.length = es.size := by simp
            refine ⟨fun d hd => ?_, fun d hd => ?_⟩
            · rw [List.getElem?_set, if_neg (by omega), List.getElem?_set, if_pos rfl, if_pos (by omega)] at hd
              injection hd with hd; subst hd; exact rk
            · rw [List.getElem?_set, if_pos rfl, if_pos (by rw [List.length_set]; omega)] at hd
              injection hd with hd; subst hd; exact rx
          · rw [if_neg hij] at he
            have he' : es.toList[i]? = some e := by rw [Array.getElem?_toList]; exact he
            refine ⟨fun d hd => (hL.2 i e he').1 d ?_, fun d hd => (hL.2 i e he').2 d ?_⟩
            · rwa [List.getElem?_set, if_neg (by omega), List.getElem?_set, if_neg (by omega)] at hd
            · rwa [List.getElem?_set, if_neg (by omega), List.getElem?_set, if_neg (by omega)] at hd
      have hA : AsC (.map (es.modify j fun e => { e with key := kv, val := xv }) es.size) #[.iface 0 (.tuple (flatM (es.modify j fun e => { e with key := kv, val := xv })))] po.ty := by
        rw [hty]
        refine .map _ _ (by simp) fun i e he => ?_
        rw [Array.getElem?_modify] at he
        by_cases hij : j = i
        · subst hij
          rw [if_pos rfl, hje] at he
          simp only [Option.map_some, Option.some.injEq] at he
          subst he
          show e'.born = j
          exact hbo _ _ hje
        · rw [if_neg hij] at he; exact hbo i e he
      have := inv_putT hi ho hd hb hsz hfz _ _ _ hA hr'
      rw [hmap] at this; exact this

theorem makeMK_sound {t : TypeId} {r : Option DV} {σ : Objs} {K : DV → Objs → Prop} (hk : makeMK P t r σ K) (hi : Inv C σ h β w) {rv : Option Value} (h1 : r = none → rv = none) (h2 : ∀ d, r = some d → ∃ v, rv = some v ∧ Rep h β v d) :
    ∃ v w' β' d σ', (Instr.makeMap t rv).run P w = .ok v w' ∧ BLe β β' ∧ Rep h β' v d ∧ Inv C σ' h β' w' ∧ K d σ' := by
  have fin : K (.hnd false σ.length) (σ ++ [some (mapPO [])]) → (Instr.makeMap t rv).run P w = .ok (.map (some w.heap.size)) (w.alloc (.map #[] 0)) → ∃ v w' β' d σ', (Instr.makeMap t rv).run P w = .ok v w' ∧ BLe β β' ∧ Rep h β' v d ∧ Inv C σ' h β' w' ∧ K d σ' := by
    intro hk hrun
    obtain ⟨β', b1, b2, b3⟩ := inv_newT (h := h) (β := β) hi mapTy (.map #[] 0) (flatM #[]) [] (.map _ _ rfl fun i e he => by simp at he) ⟨rfl, fun i v d e => by simp [flatM] at e⟩
    exact ⟨_, _, β', _, _, hrun, b1, .mapAt _ _ _ _ _ b2, b3, hk⟩
  unfold makeMK at hk
  split at hk
  · refine fin hk ?_
    rw [h1 rfl]
    unfold Instr.makeMap
    simp [run_newObj_alloc]
  · rename_i d
    split at hk
    · rename_i kt et kk z hu
      obtain ⟨v, rfl, hv⟩ := h2 _ rfl
      have hv : v = .int kk z := rep_toV rfl hv
      subst hv
      refine fin hk ?_
      unfold Instr.makeMap
      simp [Sem.run_bind, run_underlying hu, asInt, asIntOf, run_newObj_alloc]
    · exact hk.elim

theorem rangeMK_sound {xt : TypeId} {x : DV} {σ : Objs} {K : DV → Objs → Prop} (hk : rangeMK P xt x σ K) (hi : Inv C σ h β w) {xv : Value} (rx : Rep h β xv x) :
    ∃ v w' β' d σ', (Instr.range xt xv).run P w = .ok v w' ∧ BLe β β' ∧ Rep h β' v d ∧ Inv C σ' h β' w' ∧ K d σ' := by
  unfold rangeMK at hk
  split at hk
  · rename_i kt et hu
    have hx : xv = .map none := rep_toV rfl rx
    subst hx
    obtain ⟨β', b1, b2, b3⟩ := inv_newT (h := h) (β := β) hi iterTy (.mapIter none 0 #[] 0) (flatI none 0 0 #[]) [.nilm, .int .i64 0, .int .i64 0] (.iter _ _ _ _) (by
      refine ⟨by simp [flatI], fun i v d e1 e2 => ?_⟩
      match i with
      | 0 => simp [flatI] at e1 e2; subst e1; subst e2; exact .nilm
      | 1 => simp [flatI] at e1 e2; subst e1; subst e2; exact .int _ _
      | 2 => simp [flatI] at e1 e2; subst e1; subst e2; exact .int _ _
      | i + 3 => simp at e2)
    refine ⟨_, _, β', _, _, ?_, b1, .iterAt _ _ _ _ _ _ b2 rfl, b3, hk⟩
    unfold Instr.range
    simp only [Sem.run_bind, run_underlying hu, Result.andThen_ok, Sem.run_pure, run_newObj_alloc]
  · rename_i kt et id hu
    obtain ⟨ds, hds, hk⟩ := optK_some hk
    rcases ents_of hi hds rx with ⟨q, _⟩ | ⟨id', po, b, es, q, ho, hd, rfl, hb, hty, hsz, hw, hbo, hre⟩
    · cases q
    injection q with _ q; subst q
    have hl : ds.length / 2 = es.size := by
      have := (repL_of hre).1
      rw [this]; simp
    rw [hl] at hk
    have hold := hb
    obtain ⟨β', b1, b2, b3⟩ := inv_newT (h := h) (β := β) hi iterTy (.mapIter (some b) es.size #[] es.size) (flatI (some b) es.size es.size #[]) [.hnd false id, .int .i64 (es.size : Nat), .int .i64 (es.size : Nat)] (.iter _ _ _ _) (by
      refine ⟨by simp [flatI], fun i v d e1 e2 => ?_⟩
      match i with
      | 0 => simp [flatI] at e1 e2; subst e1; subst e2; exact .mapAt _ _ _ _ _ hb
      | 1 => simp [flatI] at e1 e2; subst e1; subst e2; exact .int _ _
      | 2 => simp [flatI] at e1 e2; subst e1; subst e2; exact .int _ _
      | i + 3 => simp at e2)
    refine ⟨_, _, β', _, _, ?_, b1, .iterAt _ _ _ _ _ _ b2 rfl, b3, hk⟩
    unfold Instr.range
    simp only [Sem.run_bind, run_underlying hu, Result.andThen_ok, getObj_run (P := P) hw, Sem.run_pure, run_newObj_alloc]
  · rename_i s hu
    have hx : xv = .string s := rep_toV rfl rx
    subst hx
    obtain ⟨β', b1, b2, b3⟩ := inv_newT (h := h) (β := β) hi siterTy (.stringIter s 0) #[.string s, .int .i64 ((0 : Nat) : Int)] [.str s, .int .i64 0] (.sit _ _) (by
      refine ⟨rfl, fun i v d e1 e2 => ?_⟩
      match i with
      | 0 => simp at e1 e2; subst e1; subst e2; exact .str _
      | 1 => simp at e1 e2; subst e1; subst e2; exact .int _ _
      | i + 2 => simp at e2)
    refine ⟨_, _, β', _, _, ?_, b1, .iterAt _ _ _ _ _ _ b2 rfl, b3, hk⟩
    unfold Instr.range
    simp only [Sem.run_bind, run_underlying hu, Result.andThen_ok, Sem.run_pure, run_newObj_alloc]
  · exact hk.elim

/-- What goes over a map or a string. -/
theorem item_of {σ : Objs} (hi : Inv C σ h β w) {d : DV} {id : Nat} {po : PO} {ds : List DV} (he : itemOf σ d = some (id, po, ds)) {v : Value} (r : Rep h β v d) :
    obj σ id = some po ∧ tupOf po = some ds ∧ ∃ b o cs, v = .pointer (some ⟨b, 0, none⟩) ∧ β id = .at b 1 1 1 po.ty ∧ po.sz = 1 ∧ w.heap[b]? = some o ∧ AsC o cs po.ty ∧ ∃ u t, cs[0]? = some u ∧ Rep h β u (.iface t (.tup ds)) := by
  unfold itemOf at he
  split at he
  case h_2 => cases he
  rename_i id'
  cases ho : obj σ id' with
  | none => rw [ho] at he; cases he
  | some po' =>
  rw [ho] at he
  simp only [Option.bind_some] at he
  cases ht : tupOf po' with
  | none => rw [ht] at he; cases he
  | some ds' =>
  rw [ht] at he
  simp only [Option.map_some, Option.some.injEq, Prod.mk.injEq] at he
  obtain ⟨rfl, rfl, rfl⟩ := he
  refine ⟨ho, ht, ?_⟩
  cases r with
  | iterAt _ b sz N K t hb hc =>
    obtain ⟨q1, rfl, rfl, rfl, o, cs, go, gA, g5, g6, u, k1, t', k2⟩ := tup_at hi ho ht hb
    have hK : K = 1 := by
      rw [gA.one hc] at g5; omega
    subst hK
    exact ⟨b, o, cs, rfl, hb, q1, go, gA, u, t', k1, k2⟩
  | hndDead _ _ _ hb => rcases hi.live _ po' ho with ⟨b2, K2, hb2⟩ | ⟨hb2, _⟩ <;> (rw [hb] at hb2; cases hb2)

theorem flatI_get (m : Option Nat) (since last : Nat) (seen : Array Nat) : (flatI m since last seen).size = seen.size + 3 ∧ (flatI m since last seen)[0]? = some (.map m) ∧ (flatI m since last seen)[1]? = some (.int .i64 since) ∧ (flatI m since last seen)[2]? = some (.int .i64 last) ∧
    ∀ i, (flatI m since last seen)[i + 3]? = seen[i]?.map fun (x : Nat) => .int .i64 (x : Int) := by
  unfold flatI
  refine ⟨by simp; omega, by simp [Array.getElem?_append], by simp [Array.getElem?_append], by simp [Array.getElem?_append], fun i => ?_⟩
  rw [Array.getElem?_append, if_neg (by simp)]
  simp
theorem seen_get {m : Option Nat} {since last : Nat} {seen : Array Nat} {a b c : DV} {sn : List DV} (r : RepVs h β (flatI m since last seen) (a :: b :: c :: sn)) (hall : sn.all isIntD = true) :
    Rep h β (.map m) a ∧ Rep h β (.int .i64 since) b ∧ Rep h β (.int .i64 last) c ∧ sn = seen.toList.map (fun (x : Nat) => .int .i64 (x : Int)) := by
  obtain ⟨r1, r2⟩ := r
  obtain ⟨f0, f1, f2, f3, f4⟩ := flatI_get m since last seen
  have hsz : seen.size = sn.length := by rw [f0] at r1; simp at r1; omega
  refine ⟨r2 0 _ _ f1 rfl, r2 1 _ _ f2 rfl, r2 2 _ _ f3 rfl, ?_⟩
  apply List.ext_getElem?
  intro i
  rw [List.getElem?_map, show seen.toList[i]? = seen[i]? from Array.getElem?_toList]
  by_cases hlt : i < seen.size
  · have hlt' : i < sn.length := by omega
    have e1 : sn[i]? = some sn[i] := List.getElem?_eq_getElem hlt'
    have h1 := r2 (i + 3) (.int .i64 (seen[i] : Nat)) sn[i] (by rw [f4, Array.getElem?_eq_getElem hlt]; rfl) e1
    have h2 : isIntD sn[i] = true := List.all_eq_true.1 hall _ (List.getElem_mem _)
    rw [e1, Array.getElem?_eq_getElem hlt]
    simp only [Option.map_some, Option.some.injEq]
    generalize sn[i] = y at *
    cases h1 with
    | int => rfl
    | junk => cases h2
    | hndDead => cases h2
    | refDead => cases h2
    | pobjDead => cases h2
  · rw [List.getElem?_eq_none (by omega), Array.getElem?_eq_none (by omega)]; rfl
theorem notSeen_iff {seen : Array Nat} {i : Nat} : notSeen (seen.toList.map (fun (x : Nat) => .int .i64 (x : Int))) i = !seen.contains i := by
  unfold notSeen
  rw [Bool.eq_iff_iff]
  simp only [List.all_map, List.all_eq_true, Function.comp, Bool.not_eq_true', beq_eq_false_iff_ne, ne_eq, ← Bool.not_eq_true, Array.mem_toList_iff]
  constructor
  · intro h1 h2
    exact h1 i (by simpa using h2) (by simp)
  · intro h1 x hx e
    have : (x : Int) = (i : Int) := by simpa using e
    have : x = i := by omega
    subst this; exact h1 (by simpa using hx)
theorem nextMK_sound {it : DV} {isS : Bool} {σ : Objs} {K : DV → Objs → Prop} (hk : nextMK it isS σ K) (hi : Inv C σ h β w) {iv : Value} (ri : Rep h β iv it) (ty : TypeId) :
    ∃ v w' d σ', (Instr.next iv isS ty).run P w = .ok v w' ∧ Rep h β v d ∧ Inv C σ' h β w' ∧ K d σ' := by
  unfold nextMK at hk
  obtain ⟨⟨id, po, ds⟩, hit, hk⟩ := optK_some hk
  obtain ⟨ho, hd, b, o, cs, rfl, hb, hsz, hw, hA, u, t', hu0, hru⟩ := item_of hi hit ri
  split at hk
  · -- a string
    rename_i s kk pos hds _
    have hds : ds = [.str s, .int kk pos] := hds
    subst hds
    obtain ⟨hc, hk⟩ := bif_trueM hk
    rw [Bool.and_eq_true, Bool.not_eq_true'] at hc
    obtain ⟨hfz, hty0⟩ := hc
    have hty : po.ty = siterTy := Nat.eq_of_beq_eq_true hty0
    clear hty0
    obtain ⟨s', p', rfl, rfl⟩ := hA.sit_of hty
    simp at hu0
    have hre := rep_iface_tup hru hu0.symm
    have e1 : Value.string s' = .string s := rep_toV rfl (hre.2 0 _ _ rfl rfl)
    have e2 : Value.int .i64 (p' : Int) = .int kk pos := rep_toV rfl (hre.2 1 _ _ rfl rfl)
    injection e1 with e1; subst e1
    injection e2 with e2 e3; subst e2; subst e3
    by_cases hlt : p' < s'.size
    · rw [show (decide (0 ≤ (p' : Int)) && decide ((p' : Int) < (s'.size : Int))) = true by simp; omega] at hk
      simp only [cond_true, Int.toNat_natCast] at hk
      have hA' : AsC (.stringIter s' (p' + (Utf8.decode s' p').2)) #[.iface 0 (.tuple #[.string s', .int .i64 ((p' + (Utf8.decode s' p').2 : Nat) : Int)])] po.ty := by rw [hty]; exact .sit _ _
      have hinv := inv_putT hi ho hd hb hsz hfz _ _ [.str s', .int .i64 ((p' + (Utf8.decode s' p').2 : Nat) : Int)] hA' (by
        refine ⟨rfl, fun i v d e1 e2 => ?_⟩
        match i with
        | 0 => simp at e1 e2; subst e1; subst e2; exact .str _
        | 1 => simp at e1 e2; subst e1; subst e2; exact .int _ _
        | i + 2 => simp at e2)
      rw [hty] at hinv
      refine ⟨.tuple #[.bool true, .int .i64 p', .int .i32 (Utf8.decode s' p').1], _, _, _, ?_, rep_tup3 (.bool _) (.int _ _) (.int _ _), hinv, hk⟩
      simp only [Instr.next, Sem.run_bind, getObj_run (P := P) hw, Result.andThen_ok]
      rw [if_pos hlt]
      simp only [Sem.run_bind, setObj_run (P := P) hw, Result.andThen_ok, Sem.run_pure]
      rfl
    · rw [show (decide (0 ≤ (p' : Int)) && decide ((p' : Int) < (s'.size : Int))) = false by simp; omega, show decide (0 ≤ (p' : Int)) = true by simp] at hk
      simp only [cond_false, cond_true] at hk
      refine ⟨.tuple #[.bool false], _, _, _, ?_, .tup _ _ rfl (fun i v d e1 e2 => by
        cases i with
        | zero => simp at e1 e2; subst e1; subst e2; exact .bool _
        | succ i => simp at e2), hi, hk⟩
      simp only [Instr.next, Sem.run_bind, getObj_run (P := P) hw, Result.andThen_ok]
      rw [if_neg hlt]; rfl
  · -- a nil map
    rename_i rest hds _
    have hds : ds = .nilm :: rest := hds
    subst hds
    obtain ⟨hty0, hk⟩ := bif_trueM hk
    have hty : po.ty = iterTy := Nat.eq_of_beq_eq_true hty0
    clear hty0
    obtain ⟨m, since, seen, last, rfl, rfl⟩ := hA.iter_of hty
    simp at hu0
    have hre := rep_iface_tup hru hu0.symm
    have e1 : Value.map m = .map none := rep_toV rfl (hre.2 0 _ _ (flatI_get _ _ _ _).2.1 rfl)
    injection e1 with e1; subst e1
    refine ⟨.tuple #[.bool false], _, _, _, ?_, .tup _ _ rfl (fun i v d e1 e2 => by
        cases i with
        | zero => simp at e1 e2; subst e1; subst e2; exact .bool _
        | succ i => simp at e2), hi, hk⟩
    simp only [Instr.next, Sem.run_bind, getObj_run (P := P) hw, Result.andThen_ok]; rfl
  · -- a map
    rename_i m k1 since k2 last sn hds _
    have hds : ds = .hnd false m :: .int k1 since :: .int k2 last :: sn := hds
    subst hds
    obtain ⟨hc, hk⟩ := bif_trueM hk
    rw [Bool.and_eq_true, Bool.and_eq_true, Bool.not_eq_true'] at hc
    obtain ⟨⟨hfz, hty0⟩, hall⟩ := hc
    have hty : po.ty = iterTy := Nat.eq_of_beq_eq_true hty0
    clear hty0
    obtain ⟨es, hes, hn1, hn2, hk1, hk2⟩ := optK_some hk
    obtain ⟨m', since', seen, last', rfl, rfl⟩ := hA.iter_of hty
    simp at hu0
    have hre := rep_iface_tup hru hu0.symm
    obtain ⟨s1, s2, s3, s4⟩ := seen_get hre hall
    have e2 : Value.int .i64 (since' : Int) = .int k1 since := rep_toV rfl s2
    have e3 : Value.int .i64 (last' : Int) = .int k2 last := rep_toV rfl s3
    injection e2 with e2 e4; subst e2; subst e4
    injection e3 with e3 e5; subst e3; subst e5
    rcases ents_of hi hes s1 with ⟨q, _⟩ | ⟨mid, mpo, bm, mes, q, mo, md, q2, mb, mty, msz, mw, mbo, mre⟩
    · cases q
    injection q with _ q; subst q
    injection q2 with q2; subst q2
    have hL := repL_of mre
    have hn : es.length / 2 = mes.size := by rw [hL.1]; simp
    rw [hn] at hn1 hn2
    have hs' : since' = mes.size := by omega
    have hl' : last' = mes.size := by omega
    subst hs'
    subst s4
    simp only [notSeen_iff] at hk1 hk2
    rcases run_next_at (P := P) w ty b bm mes.size last' seen mes mes.size hw mw (fun x hx => by
      obtain ⟨i, hi', he⟩ := List.getElem_of_mem hx
      have h1 : mes[i]? = some x := by rw [← Array.getElem?_toList, List.getElem?_eq_getElem hi', he]
      have := mbo i x h1
      simp at hi'; omega) (by omega) with ⟨h0, hrun⟩ | ⟨e, he, w1, hw1, hrun⟩
    · refine ⟨_, _, _, _, hrun, .tup _ _ rfl (fun i v d e1 e2 => by
        cases i with
        | zero => simp at e1 e2; subst e1; subst e2; exact .bool _
        | succ i => simp at e2), hi, hk2 fun i hlt => ?_⟩
      have hlt' : i < mes.size := by have := hL.1; simp at this; omega
      rw [Bool.not_eq_false']
      cases hcn : seen.contains i with
      | true => rfl
      | false =>
        exfalso
        have hmem : mes[i] ∈ leftOf mes seen := by
          unfold leftOf
          rw [Array.mem_filter]
          refine ⟨Array.getElem_mem hlt', ?_⟩
          rw [mbo i _ (Array.getElem?_eq_getElem hlt'), hcn]; rfl
        have := Array.size_pos_of_mem hmem
        omega
    · have hmem : e ∈ leftOf mes seen := by simpa using he
      unfold leftOf at hmem
      rw [Array.mem_filter] at hmem
      obtain ⟨hmem, hns⟩ := hmem
      obtain ⟨i, hi', hei⟩ := Array.getElem_of_mem hmem
      have hie : mes[i]? = some e := by rw [Array.getElem?_eq_getElem hi', hei]
      have hborn := mbo i e hie
      have hlen := hL.1
      simp only [Array.length_toList] at hlen
      have hel := hL.2 i e (by rw [Array.getElem?_toList]; exact hie)
      have g1 : es[2 * i]? = some (es[2 * i]'(by omega)) := List.getElem?_eq_getElem (by omega)
      have g2 : es[2 * i + 1]? = some (es[2 * i + 1]'(by omega)) := List.getElem?_eq_getElem (by omega)
      have hkk := hk1 i _ _ (by rw [← hborn]; exact hns) g1 g2
      have hi1 : Inv C σ h β w1 := by rcases hw1 with rfl | rfl; exact hi; exact inv_drew hi
      have hA' : AsC (.mapIter (some bm) mes.size (seen.push e.born) mes.size) #[.iface 0 (.tuple (flatI (some bm) mes.size mes.size (seen.push e.born)))] po.ty := by rw [hty]; exact .iter _ _ _ _
      have hinv := inv_putT hi1 ho hd hb hsz hfz _ _ (.hnd false m :: .int .i64 (mes.size : Nat) :: .int .i64 (last' : Nat) :: (seen.toList.map (fun (x : Nat) => DV.int .i64 (x : Int)) ++ [.int .i64 (i : Nat)])) hA' (by
        obtain ⟨f0, f1, f2, f3, f4⟩ := flatI_get (some bm) mes.size mes.size (seen.push e.born)
        refine ⟨by rw [f0]; simp, fun j v d e1 e2 => ?_⟩
        match j with
        | 0 => rw [f1] at e1; simp at e1 e2; subst e1; subst e2; exact s1
        | 1 => rw [f2] at e1; simp at e1 e2; subst e1; subst e2; exact .int _ _
        | 2 => rw [f3] at e1; simp at e1 e2; subst e1; subst e2; rw [hl']; exact .int _ _
        | j + 3 =>
          rw [← hborn] at e2
          rw [f4] at e1
          have e1' : (seen.push e.born).toList[j]?.map (fun (x : Nat) => Value.int .i64 (x : Int)) = some v := by
            rw [← e1, Array.getElem?_toList]
          have e2' : (seen.push e.born).toList[j]?.map (fun (x : Nat) => DV.int .i64 (x : Int)) = some d := by
            rw [← e2]
            simp only [Array.toList_push, List.getElem?_cons_succ, List.getElem?_append, List.getElem?_map, List.length_map]
            by_cases hj : j < seen.toList.length
            · rw [if_pos hj, if_pos hj]
            · rw [if_neg hj, if_neg hj]
              cases j - seen.toList.length <;> simp
          cases hx : (seen.push e.born).toList[j]? with
          | none => rw [hx] at e1'; cases e1'
          | some x =>
            rw [hx] at e1' e2'
            injection e1' with e1'; injection e2' with e2'
            subst e1'; subst e2'; exact .int _ _)
      rw [hty] at hinv
      refine ⟨_, _, _, _, hrun, rep_tup3 (.bool _) (hel.1 _ g1) (hel.2 _ g2), ?_, hkk⟩
      exact hinv
  · exact hk.elim

theorem entryMK_sound {it : DV} {σ : Objs} {K : DV → Prop} (hk : entryMK it σ K) (hi : Inv C σ h β w) {iv : Value} (ri : Rep h β iv it) :
    ∃ v d, (Instr.entry iv).run P w = .ok v w ∧ Rep h β v d ∧ K d := by
  unfold entryMK at hk
  obtain ⟨⟨id, po, ds⟩, hit, hk⟩ := optK_some hk
  obtain ⟨ho, hd, b, o, cs, rfl, hb, hsz, hw, hA, u, t', hu0, hru⟩ := item_of hi hit ri
  split at hk
  case h_2 => exact hk.elim
  rename_i m k1 since k2 last sn hds
  have hds : ds = .hnd false m :: .int k1 since :: .int k2 last :: sn := hds
  subst hds
  obtain ⟨hc, hk⟩ := bif_trueM hk
  rw [Bool.and_eq_true] at hc
  obtain ⟨hty0, hall⟩ := hc
  have hty : po.ty = iterTy := Nat.eq_of_beq_eq_true hty0
  clear hty0
  obtain ⟨es, hes, hn2, hk9⟩ := optK_some hk
  obtain ⟨m', since', seen, last', rfl, rfl⟩ := hA.iter_of hty
  simp at hu0
  have hre := rep_iface_tup hru hu0.symm
  obtain ⟨s1, s2, s3, s4⟩ := seen_get hre hall
  have e3 : Value.int .i64 (last' : Int) = .int k2 last := rep_toV rfl s3
  injection e3 with e3 e5; subst e3; subst e5
  rcases ents_of hi hes s1 with ⟨q, _⟩ | ⟨mid, mpo, bm, mes, q, mo, md, q2, mb, mty, msz, mw, mbo, mre⟩
  · cases q
  injection q with _ q; subst q
  injection q2 with q2; subst q2
  have hL := repL_of mre
  have hn : es.length / 2 = mes.size := by rw [hL.1]; simp
  rw [hn] at hn2
  have hl' : last' = mes.size := by omega
  subst s4
  split at hk9
  case h_2 => exact hk9.elim
  rename_i kz z hz
  obtain ⟨h0, hka⟩ := hk9
  obtain ⟨k, hkk, hkb⟩ := optK_some hka
  obtain ⟨v, hvv, hkf⟩ := optK_some hkb
  rw [List.getLast?_map] at hz
  cases hls : seen.toList.getLast? with
  | none => rw [hls] at hz; cases hz
  | some st =>
  rw [hls] at hz
  simp only [Option.map_some, Option.some.injEq, DV.int.injEq] at hz
  obtain ⟨_, hz⟩ := hz
  subst hz
  simp only [Int.toNat_natCast] at hkk hvv
  have hlen := hL.1
  simp only [Array.length_toList] at hlen
  have hst : st < mes.size := by have := (List.getElem?_eq_some_iff.1 hvv).1; omega
  have hie : mes[st]? = some mes[st] := Array.getElem?_eq_getElem hst
  have hborn := mbo st _ hie
  have hel := hL.2 st mes[st] (by rw [Array.getElem?_toList]; exact hie)
  have hpush : ∃ s0 : Array Nat, seen = s0.push mes[st].born := by
    obtain ⟨ys, hys⟩ := List.getLast?_eq_some_iff.1 hls
    refine ⟨ys.toArray, ?_⟩
    rw [hborn]
    apply Array.ext'
    simp [hys]
  obtain ⟨s0, hs0⟩ := hpush
  have hw' : w.heap[b]? = some (.mapIter (some bm) since' (s0.push mes[st].born) mes.size) := by rw [hw, hs0, hl']
  have hnd : (mes.toList.map (·.born)).Nodup := by
    have : mes.toList.map (·.born) = List.range mes.size := by
      apply List.ext_getElem?
      intro i
      rw [List.getElem?_map, Array.getElem?_toList]
      by_cases hlt : i < mes.size
      · rw [Array.getElem?_eq_getElem hlt, List.getElem?_range hlt]
        simp only [Option.map_some, Option.some.injEq]
        exact mbo i _ (Array.getElem?_eq_getElem hlt)
      · rw [Array.getElem?_eq_none (by omega), List.getElem?_eq_none (by simp; omega)]; rfl
    rw [this]; exact List.nodup_range
  exact ⟨_, _, run_entry_at (P := P) w b bm since' s0 mes mes.size mes[st] hw' mw (by simp) hnd, rep_tup2 (hel.1 _ hkk) (hel.2 _ hvv), hkf⟩
end Go.Pv
