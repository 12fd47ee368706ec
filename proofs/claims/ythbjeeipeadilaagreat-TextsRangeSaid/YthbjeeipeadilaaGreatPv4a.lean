/- The walk over pure values is sound: slices. -/
import Derived.Test.YthbjeeipeadilaaGreatPv4
import Derived.Maps.AppendAt
import Derived.Laws.OwnMore
set_option linter.unusedSimpArgs false
set_option linter.unusedVariables false
namespace Go.Pv
open Go Go.RowKit
variable {P : Program} {C : Ctx} {n : Nat} {h : Hp} {β : Nat → Bl} {w : World} {a : Act}

theorem isInt_some {d : DV} {K : Int → Prop} (h : isInt d K) : ∃ k z, d = .int k z ∧ K z := by
  cases d <;> first | exact ⟨_, _, rfl, h⟩ | exact h.elim

theorem szOf_some {e : TypeId} {s : Nat} (h : szOf P e = some s) : ∃ i, P.info? e = some i ∧ i.size = s := by
  unfold szOf at h
  cases hi : P.info? e with
  | none => rw [hi] at h; cases h
  | some i => rw [hi] at h; injection h with h; exact ⟨i, rfl, h⟩

theorem int_of {v : Value} {k : IntKind} {z : Int} (r : Rep h β v (.int k z)) : v = .int k z := rep_toV rfl r

/-- What a slice shows, in memory. -/
theorem els_sound {σ : Objs} (hi : Inv C σ h β w) {v : Value} {d : DV} (r : Rep h β v d) {news : List (List DV)} (he : elsOf σ d = some news) :
    ∃ ad m c, v = .slice ad m c ∧ m = news.length ∧ m ≤ c ∧ (ad = none → c = 0) ∧ ∃ sz, (∀ (i : Nat) (ds : List DV), news[i]? = some ds → ds.length = sz) ∧
      ∀ (i : Nat) (ds : List DV) (j : Nat) (x : DV), news[i]? = some ds → ds[j]? = some x → ∃ b u, ad = some b ∧ w.cell? (b.add (i * sz + j)) = some u ∧ u.oneCell' = true ∧ Rep h β u x := by
  cases r with
  | nils => simp [elsOf] at he; subst he; exact ⟨none, 0, 0, rfl, rfl, Nat.le_refl _, fun _ => rfl, 0, fun i ds e => by simp at e, fun i ds j x e => by simp at e⟩
  | junk => cases he
  | bool => cases he
  | int => cases he
  | flt => cases he
  | str => cases he
  | agg => cases he
  | tup => cases he
  | nilp => cases he
  | pim => cases he
  | pobjAt => cases he
  | pobjDead => cases he
  | nili => cases he
  | iface => cases he
  | nilf => cases he
  | func => cases he
  | nilm => cases he
  | mapAt => cases he
  | iterAt => cases he
  | hndDead => cases he
  | list ad m c xs sz vs hn hnc hz hsz hc ho hr =>
    simp only [elsOf, Option.some.injEq] at he; subst he
    refine ⟨ad, m, c, rfl, hn.symm, hnc, hz, sz, hsz, fun i ds j x e1 e2 => ?_⟩
    obtain ⟨b, hb, hcell⟩ := hc i ds j x e1 e2
    exact ⟨b, _, hb, cell_of_hcell hi.view hcell, ho i ds j x e1 e2, hr i ds j x e1 e2⟩
  | refNil id hb =>
    simp only [elsOf, Option.map_eq_some_iff, List.take_zero] at he
    obtain ⟨po, _, rfl⟩ := he
    exact ⟨none, 0, 0, rfl, rfl, Nat.le_refl _, fun _ => rfl, 0, fun i ds e => by simp at e, fun i ds j x e => by simp at e⟩
  | refDead v id off len hb =>
    simp only [elsOf, Option.map_eq_some_iff] at he
    obtain ⟨po, ho, _⟩ := he
    exact absurd hb (boxOk_alive hi ho)
  | refAt id off len cap o b sz N K t hb h1 h2 h3 ht =>
    simp only [elsOf, Option.map_eq_some_iff] at he
    obtain ⟨po, ho, rfl⟩ := he
    rcases hi.live id po ho with ⟨b', K', hb'⟩ | ⟨hb', _⟩
    case inr => rw [hb] at hb'; cases hb'
    rw [hb] at hb'; injection hb' with e1 e2 e3 e4 e5; subst e1; subst e2; subst e3; subst e4; subst e5
    obtain ⟨po', cs, g1, g2, g3, g4, g5, g6, _⟩ := hi.objs id b _ _ _ _ hb
    rw [ho] at g1; injection g1 with g1; subst g1
    have hget : ∀ i ds, ((po.els.drop off).take len)[i]? = some ds → i < len ∧ po.els[off + i]? = some ds := by
      intro i ds e
      rw [List.getElem?_take] at e
      by_cases hlt : i < len
      · rw [if_pos hlt, List.getElem?_drop] at e; exact ⟨hlt, e⟩
      · rw [if_neg hlt] at e; cases e
    refine ⟨_, len, cap, rfl, by simp; omega, by omega, (fun e => by cases e), po.sz, fun i ds e => (g6 _ _ (hget i ds e).2).1, fun i ds j x e1 e2 => ?_⟩
    obtain ⟨hlt, e1⟩ := hget i ds e1
    obtain ⟨u, q1, q2, q3⟩ := (g6 _ _ e1).2 j x e2
    refine ⟨_, u, rfl, ?_, q2, q3⟩
    rw [h3 (.inl (by omega)), add_at]
    simp only [World.cell?, g4.cells ht]
    rw [← q1, Nat.add_mul, Nat.add_assoc]; rfl

theorem builtin_run {o : Oper} {c : Call} (ho : o.op = .call c) {b : Builtin} (hc : c.callee = .builtin b) {xs : List Operand} {ts : List TypeId} (ha : c.args.toList = xs) (ht : c.argTypes.toList = ts) :
    ∃ consts, (execOp a.eval o).run P w = (builtin b ts.toArray o.type consts (xs.map a.eval).toArray).run P w := by
  have hargs : c.args = xs.toArray := by rw [← Array.toArray_toList (xs := c.args), ha]
  have htys : c.argTypes = ts.toArray := by rw [← Array.toArray_toList (xs := c.argTypes), ht]
  have hex : execOp a.eval o = (do let d ← resolve a.eval c o.type; invoke d.target d.args) := by unfold execOp; rw [ho]
  rw [hex]
  exact ⟨_, by simp [resolve, hc, hargs, htys, invoke]; rfl⟩

theorem lenS_sound {σ : Objs} (hi : Inv C σ h β w) {v : Value} {d : DV} (r : Rep h β v d) {m : Nat} (hm : lenS σ d = some m) : ∃ ad c, v = .slice ad m c := by
  cases r <;> simp only [lenS, Option.some.injEq, Option.map_eq_some_iff, reduceCtorEq] at hm
  case nils => subst hm; exact ⟨_, _, rfl⟩
  case list hn _ _ _ _ _ _ => subst hm; subst hn; exact ⟨_, _, rfl⟩
  case refAt => obtain ⟨_, _, rfl⟩ := hm; exact ⟨_, _, rfl⟩
  case refNil => obtain ⟨_, _, rfl⟩ := hm; exact ⟨_, _, rfl⟩
  case refDead id off len hb => obtain ⟨po, ho, _⟩ := hm; exact absurd hb (boxOk_alive hi ho)

/-- The bounds of a slice expression. -/
theorem bnd_sound {env : Env} (he : ∀ t, Rep h β (a.tmps.getD t undef) (env t)) {lo hi : Option Operand} {n' m : Nat} {K : Nat → Nat → Prop}
    (hk : bndK (lo.map (ev env)) (hi.map (ev env)) n' m K) (isS : Bool) (cap : Nat) (hm : m ≤ cap) (hn : n' ≤ m) :
    ∃ l u, (Instr.sliceBounds isS n' cap (lo.map a.eval) (hi.map a.eval) none).run P w = .ok (l, u, cap) w ∧ l ≤ u ∧ u ≤ m ∧ K l u := by
  unfold bndK at hk
  have bound : ∀ (x : Operand) (k : IntKind) (z : Int) (y : Nat) (code : BoundsCode), ev env x = .int k z → 0 ≤ z → z ≤ (y : Int) → (Instr.sliceBound (a.eval x) y code).run P w = .ok z.toNat w := by
    intro x k z y code e h0 h1
    have hx := rep_ev he x
    rw [e] at hx
    rw [int_of hx]
    simp [Instr.sliceBound, asIntOf, h0, h1]
  cases hi with
  | none =>
    cases lo with
    | none => exact ⟨0, n', by simp [Instr.sliceBounds], by omega, hn, hk⟩
    | some l =>
      obtain ⟨k, z, e, h0, h1, hk⟩ := isInt_some hk
      refine ⟨z.toNat, n', ?_, by omega, hn, hk⟩
      simp [Instr.sliceBounds, bound l k z n' _ e h0 h1]
  | some u =>
    cases lo with
    | none =>
      obtain ⟨k, z, e, h0, h1, hk⟩ := isInt_some hk
      refine ⟨0, z.toNat, ?_, by omega, by omega, hk⟩
      simp [Instr.sliceBounds, bound u k z cap _ e h0 (by omega)]
    | some l =>
      obtain ⟨k, z, e, hk⟩ := isInt_some hk
      obtain ⟨k', z', e', h0, h1, h2, hk⟩ := isInt_some hk
      refine ⟨z'.toNat, z.toNat, ?_, by omega, by omega, hk⟩
      simp [Instr.sliceBounds, Sem.run_bind, bound u k z cap _ e (by omega) (by omega), bound l k' z' z.toNat _ e' h0 (by omega)]

theorem ix_run {t e : TypeId} (hu : P.underlying t = some (.slice e)) {inf : TypeInfo} (hinf : P.info? e = some inf) {ad : Addr} {len cap : Nat} {k : IntKind} {z : Int} (h0 : 0 ≤ z) (h1 : z < (len : Int)) :
    (Instr.indexAt t (.slice (some ad) len cap) (.int k z)).run P w = .ok (.pointer (some (ad.add (z.toNat * inf.size)))) w := by
  have : P.cellsOf e = inf.size := by simp [Program.cellsOf, hinf]
  simp [Instr.indexAt, asIntOf, run_underlying hu, h0, h1, run_sizeOf w hinf, this]

theorem ixK_sound {o : Oper} {t e : TypeId} {x i : Operand} (ho : o.op = .indexAddr t x i) (hu : P.underlying t = some (.slice e)) {env : Env} {σ : Objs} {K : DV → Objs → Prop}
    (hk : ixK P e (ev env x) (ev env i) σ (K · σ)) (hi : Inv C σ h β w) (he : ∀ t, Rep h β (a.tmps.getD t undef) (env t)) {next : Act → World → Prop} {Q : Exit → Act → World → Prop}
    (hnext : VNext C h β a o K next) : o.wp P a w next Q := by
  unfold ixK at hk
  obtain ⟨k, z, ei, hk⟩ := isInt_some hk
  obtain ⟨s, hsz, hk⟩ := optK_some hk
  obtain ⟨inf, hinf, rfl⟩ := szOf_some hsz
  have hix := rep_ev he i
  rw [ei] at hix
  have hiv := int_of hix
  have hx := rep_ev he x
  have hex : execOp a.eval o = (do pure (.value (← Instr.indexAt t (a.eval x) (a.eval i)))) := by unfold execOp; rw [ho]
  split at hk
  · rename_i id off len hev
    obtain ⟨h0, h1, hk⟩ := hk
    obtain ⟨po, hpo, hk⟩ := optK_some hk
    cases hb : Nat.beq po.sz inf.size with
    | false => rw [hb] at hk; exact hk.elim
    | true =>
      rw [hb] at hk
      have hsz' := Nat.eq_of_beq_eq_true hb
      rw [hev] at hx
      generalize hvx : a.eval x = vx at *
      cases hx with
      | refDead _ _ _ _ hbd => exact absurd hbd (boxOk_alive hi hpo)
      | refNil => simp at h1; omega
      | refAt _ _ _ cap oo b sz N K' t' hb' g1 g2 g3 ht' =>
        obtain ⟨_, _, _, gN, _⟩ := hi.objs id b _ _ _ _ hb'
        have hsz2 : sz = po.sz := by
          rcases hi.live id po hpo with ⟨b2, K2, hb2⟩ | ⟨hb2, _⟩
          · rw [hb'] at hb2; injection hb2
          · rw [hb'] at hb2; cases hb2
        refine wp_value (v := .pointer (some ⟨b, (off + z.toNat) * sz + 0, none⟩)) (w' := w) ?_ (hnext _ _ _ _ _ _ hi (HLe.refl _) (BLe.refl _) (.pobjAt _ _ _ _ _ _ _ _ hb' ht') hk)
        rw [hex, hiv, Sem.run_bind, ix_run hu hinf h0 h1, g3 (.inl (by omega)), add_at, hsz2, hsz', Nat.add_mul]
        rfl
  · rename_i xs hev
    obtain ⟨h0, h1, hk⟩ := hk
    obtain ⟨ds, hds, hk⟩ := optK_some hk
    cases hb : Nat.beq ds.length inf.size with
    | false => rw [hb] at hk; exact hk.elim
    | true =>
      rw [hb] at hk
      have hsz' := Nat.eq_of_beq_eq_true hb
      rw [hev] at hx
      generalize hvx : a.eval x = vx at *
      cases hx with
      | list ad m c _ sz vs hn' hnc hz hsz2 hc hoc hr =>
        have hl := hsz2 _ _ hds
        have hnone : ∃ b, ad = some b := by
          cases ad with
          | some b => exact ⟨b, rfl⟩
          | none => have := hz rfl; omega
        obtain ⟨b, rfl⟩ := hnone
        refine wp_value (v := .pointer (some (b.add (z.toNat * inf.size)))) (w' := w) ?_ (hnext _ _ _ _ _ _ hi (HLe.refl _) (BLe.refl _) (.pim _ _ (fun j => vs z.toNat j) ?_ ?_) hk)
        · rw [hex, hiv, Sem.run_bind, ix_run hu hinf h0 (by omega)]; rfl
        · intro j d e
          obtain ⟨b', e1, e2⟩ := hc _ _ j d hds e
          injection e1 with e1; subst e1
          rw [add_add, ← hsz', hl]; exact e2
        · intro j d e; exact hr _ _ j d hds e
  · exact hk.elim

theorem ixaK_sound {o : Oper} {t e : TypeId} {m : Nat} {x i : Operand} (ho : o.op = .indexAddr t x i) (hu : P.underlying t = some (.array m e)) {env : Env} {σ : Objs} {K : DV → Objs → Prop}
    (hk : ixaK P m e (ev env x) (ev env i) σ (K · σ)) (hi : Inv C σ h β w) (he : ∀ t, Rep h β (a.tmps.getD t undef) (env t)) {next : Act → World → Prop} {Q : Exit → Act → World → Prop}
    (hnext : VNext C h β a o K next) : o.wp P a w next Q := by
  unfold ixaK at hk
  obtain ⟨k, z, ei, hk⟩ := isInt_some hk
  obtain ⟨s, hsz, hk⟩ := optK_some hk
  obtain ⟨h0, h1, hk⟩ := hk
  obtain ⟨inf, hinf, rfl⟩ := szOf_some hsz
  have hix := rep_ev he i
  rw [ei] at hix
  have hiv := int_of hix
  have hx := rep_ev he x
  have hrun : ∀ ad, a.eval x = .pointer (some ad) → (execOp a.eval o).run P w = .ok (.value (.pointer (some (ad.add (z.toNat * inf.size))))) w := by
    intro ad hv
    unfold execOp; rw [ho]
    have : P.cellsOf e = inf.size := by simp [Program.cellsOf, hinf]
    simp [Instr.indexAt, asIntOf, run_underlying hu, hv, hiv, h0, h1, run_sizeOf w hinf, this, Instr.sureAddr]
  split at hk
  · rename_i id b j hev
    obtain ⟨po, hpo, hk⟩ := optK_some hk
    rw [hev] at hx
    obtain ⟨bb, K', hb, hv⟩ := pointer_of hi hpo hx
    refine wp_value (hrun _ hv) (hnext _ _ _ _ _ _ hi (HLe.refl _) (BLe.refl _) ?_ hk)
    rw [add_at, Nat.add_assoc]
    exact .pobjAt _ _ _ _ _ _ _ _ hb (pobj_ty hi hpo hx)
  · rename_i cs hev
    rw [hev] at hx
    obtain ⟨ad, hv, vs, hc, hr⟩ := pim_of hx
    refine wp_value (hrun _ hv) (hnext _ _ _ _ _ _ hi (HLe.refl _) (BLe.refl _) (.pim _ _ (fun j => vs (z.toNat * inf.size + j)) (fun j d e => ?_) (fun j d e => ?_)) hk)
    · rw [List.getElem?_drop] at e; rw [add_add]; exact hc _ _ e
    · rw [List.getElem?_drop] at e; exact hr _ _ e
  · exact hk.elim

theorem slice_list {v : Value} {xs : List (List DV)} (r : Rep h β v (.list xs)) {s l u : Nat} (hs : ∀ ds ∈ xs, ds.length = s) (hlu : l ≤ u) (hu : u ≤ xs.length) :
    ∃ ad n c, v = .slice ad n c ∧ n = xs.length ∧ n ≤ c ∧ Rep h β (.slice (if c = l then ad else ad.map (·.add (l * s))) (u - l) (c - l)) (.list ((xs.drop l).take (u - l))) := by
  cases r with
  | list ad n c _ sz vs hn hnc hz hsz hc ho hr =>
    refine ⟨ad, n, c, rfl, hn.symm, hnc, ?_⟩
    have hget : ∀ i ds, ((xs.drop l).take (u - l))[i]? = some ds → i < u - l ∧ xs[l + i]? = some ds := by
      intro i ds e
      rw [List.getElem?_take] at e
      by_cases hlt : i < u - l
      · rw [if_pos hlt, List.getElem?_drop] at e; exact ⟨hlt, e⟩
      · rw [if_neg hlt] at e; cases e
    refine .list _ _ _ _ s (fun i j => vs (l + i) j) (by simp; omega) (by omega) ?_ (fun i ds e => hs _ (List.mem_of_getElem? (hget i ds e).2)) ?_ (fun i ds j d e1 e2 => ho _ _ _ _ (hget i ds e1).2 e2) (fun i ds j d e1 e2 => hr _ _ _ _ (hget i ds e1).2 e2)
    · intro e
      by_cases hcl : c = l
      · omega
      · rw [if_neg hcl] at e
        cases ad with
        | none => have := hz rfl; omega
        | some b => cases e
    · intro i ds j d e1 e2
      obtain ⟨hlt, e1⟩ := hget i ds e1
      obtain ⟨b, rfl, hcell⟩ := hc _ _ _ _ e1 e2
      rw [if_neg (by omega)]
      refine ⟨_, rfl, ?_⟩
      have h1 := hsz _ _ e1
      have h2 := hs _ (List.mem_of_getElem? e1)
      rw [add_add, ← Nat.add_assoc, ← Nat.add_mul, ← h2, h1]
      exact hcell

/-- ... with a bound. -/
theorem slice_list3 {v : Value} {xs : List (List DV)} (r : Rep h β v (.list xs)) {s l u m : Nat} (hs : ∀ ds ∈ xs, ds.length = s) (hlu : l ≤ u) (hum : u ≤ m) (hm : m ≤ xs.length) :
    ∃ ad n c, v = .slice ad n c ∧ n = xs.length ∧ n ≤ c ∧ Rep h β (.slice (if m = l then ad else ad.map (·.add (l * s))) (u - l) (m - l)) (.list ((xs.drop l).take (u - l))) := by
  cases r with
  | list ad n c _ sz vs hn hnc hz hsz hc ho hr =>
    refine ⟨ad, n, c, rfl, hn.symm, hnc, ?_⟩
    have hget : ∀ i ds, ((xs.drop l).take (u - l))[i]? = some ds → i < u - l ∧ xs[l + i]? = some ds := by
      intro i ds e
      rw [List.getElem?_take] at e
      by_cases hlt : i < u - l
      · rw [if_pos hlt, List.getElem?_drop] at e; exact ⟨hlt, e⟩
      · rw [if_neg hlt] at e; cases e
    refine .list _ _ _ _ s (fun i j => vs (l + i) j) (by simp; omega) (by omega) ?_ (fun i ds e => hs _ (List.mem_of_getElem? (hget i ds e).2)) ?_ (fun i ds j d e1 e2 => ho _ _ _ _ (hget i ds e1).2 e2) (fun i ds j d e1 e2 => hr _ _ _ _ (hget i ds e1).2 e2)
    · intro e
      by_cases hcl : m = l
      · omega
      · rw [if_neg hcl] at e
        cases ad with
        | none => have := hz rfl; omega
        | some b => cases e
    · intro i ds j d e1 e2
      obtain ⟨hlt, e1⟩ := hget i ds e1
      obtain ⟨b, rfl, hcell⟩ := hc _ _ _ _ e1 e2
      rw [if_neg (by omega)]
      refine ⟨_, rfl, ?_⟩
      have h1 := hsz _ _ e1
      have h2 := hs _ (List.mem_of_getElem? e1)
      rw [add_add, ← Nat.add_assoc, ← Nat.add_mul, ← h2, h1]
      exact hcell
theorem bnd3_run {lo : Option Value} {hi mx : Value} {l u m : Nat} {k1 k2 : IntKind} (hh : hi = .int k1 u) (hm : mx = .int k2 m) (hl : (lo = none ∧ l = 0) ∨ ∃ k, lo = some (.int k l)) (hlu : l ≤ u) (hum : u ≤ m) {len cap : Nat} (hc : m ≤ cap) (w : World) :
    (Instr.sliceBounds true len cap lo (some hi) (some mx)).run P w = .ok (l, u, m) w := by
  subst hh; subst hm
  have e1 : (Instr.sliceBound (.int k2 m) cap .slice3Acap).run P w = .ok m w := by simp [Instr.sliceBound, asIntOf]; omega
  have e2 : (Instr.sliceBound (.int k1 u) m .slice3B).run P w = .ok u w := by simp [Instr.sliceBound, asIntOf]; omega
  rcases hl with ⟨rfl, rfl⟩ | ⟨k, rfl⟩
  · simp [Instr.sliceBounds, Sem.run_bind, e1, e2]
  · have e3 : (Instr.sliceBound (.int k l) u .slice3C).run P w = .ok l w := by simp [Instr.sliceBound, asIntOf]; omega
    simp [Instr.sliceBounds, Sem.run_bind, e1, e2, e3]

theorem slice_ref {σ : Objs} (hi : Inv C σ h β w) {v : Value} {id off len : Nat} {po : PO} (r : Rep h β v (.ref id off len)) (hpo : obj σ id = some po) {l u : Nat} (hlu : l ≤ u) (hu : u ≤ po.els.length - off) (hlen : len ≤ po.els.length - off) :
    ∃ ad c, v = .slice ad len c ∧ po.els.length - off ≤ c ∧ Rep h β (.slice (if c = l then ad else ad.map (·.add (l * po.sz))) (u - l) (c - l)) (.ref id (off + l) (u - l)) := by
  cases r with
  | refDead _ _ _ _ hb => exact absurd hb (boxOk_alive hi hpo)
  | refNil _ hb =>
    rcases hi.live id po hpo with ⟨b2, K2, hb2⟩ | ⟨_, hn⟩
    · rw [hb] at hb2; cases hb2
    · rw [hn] at hu
      simp only [List.length_nil] at hu
      have hl : l = 0 := by omega
      have hu0 : u = 0 := by omega
      subst hl; subst hu0
      exact ⟨none, 0, rfl, by rw [hn]; simp, by simpa using Rep.refNil id hb⟩
  | refAt _ _ _ cap o b sz N K t hb h1 h2 h3 ht =>
    rcases hi.live id po hpo with ⟨b2, K2, hb2⟩ | ⟨hb2, _⟩
    case inr => rw [hb] at hb2; cases hb2
    rw [hb] at hb2; injection hb2 with e1 e2 e3 e4 e5
    obtain ⟨_, _, g1, g2, _⟩ := hi.objs id b _ _ _ _ hb
    refine ⟨_, cap, rfl, by omega, ?_⟩
    by_cases hc : cap = l
    · rw [if_pos hc]
      refine .refAt _ _ _ _ _ _ _ _ _ _ hb (by omega) (by omega) (fun hh => ?_) ht
      have hl : l = 0 := by omega
      subst hl
      rw [Nat.add_zero]
      exact h3 (.inr (by omega))
    · rw [if_neg hc]
      simp only [Option.map_some, add_at]
      refine .refAt _ _ _ _ _ _ _ _ _ _ hb (by omega) (by omega) (fun _ => ?_) ht
      rw [h3 (.inl (by omega)), Nat.add_mul, e2]

theorem make_sound {σ : Objs} (hi : Inv C σ h β w) {t e : TypeId} (hce : cellTy e = true) (hu : P.underlying t = some (.slice e)) {inf : TypeInfo} (hinf : P.info? e = some inf) {z : List DV} (hz : zeroD P e = some z)
    {kl kc : IntKind} {l c : Int} (h0 : 0 ≤ l) (hlc : l ≤ c) (hb : (inf.bytes : Int) * c ≤ 281474976710656) (h63 : c ≤ 9223372036854775807) (hzl : z.length = inf.size) (hok : z.all (cellOk σ) = true) :
    ∃ v w' β', (Instr.makeSlice t (.int kl l) (.int kc c)).run P w = .ok v w' ∧ BLe β β' ∧ Rep h β' v (.ref σ.length 0 l.toNat) ∧ Inv C (σ ++ [some ⟨false, inf.size, e, List.replicate l.toNat z⟩]) h β' w' := by
  unfold zeroD at hz
  simp only [hinf, Option.map_eq_some_iff] at hz
  obtain ⟨zv, hzv, rfl⟩ := hz
  obtain ⟨z1, z2⟩ := rep_zero (h := h) (β := β) zv
  have hrun := run_make (P := P) w t e inf zv hu hinf hzv kl kc l c h0 hlc hb h63
  have hzs : zv.cells.size = inf.size := by omega
  obtain ⟨β', hle, hid, hi'⟩ := inv_new hi e hce (madeCells zv.cells (c.toNat * inf.size)) inf.size c.toNat (List.replicate l.toNat (cellsD (ofV zv))) (by simp; omega) (by unfold maxLen; omega) (size_madeCells _ _) (by
    intro i ds e1
    rw [List.getElem?_replicate] at e1
    by_cases hlt : i < l.toNat
    · rw [if_pos hlt] at e1; injection e1 with e1; subst e1
      refine ⟨hzl, fun j d e2 => ?_⟩
      have hj : j < inf.size := by have := (List.getElem?_eq_some_iff.1 e2).1; omega
      have hjz : j < zv.cells.size := by omega
      have r2 := z2 j _ _ (Array.getElem?_eq_getElem hjz) e2
      refine ⟨zv.cells[j], ?_, one_cell hi r2 (List.all_eq_true.1 hok _ (List.mem_of_getElem? e2)), r2⟩
      unfold madeCells
      have hq : i * inf.size + j < c.toNat * inf.size := by
        have h1 : (i + 1) * inf.size ≤ c.toNat * inf.size := Nat.mul_le_mul_right _ (by omega)
        rw [Nat.add_mul, Nat.one_mul] at h1
        omega
      rw [Array.getElem?_map, Array.getElem?_range, if_pos hq]
      have hmod : (i * inf.size + j) % zv.cells.size = j := by rw [hzs, Nat.mul_comm, Nat.mul_add_mod, Nat.mod_eq_of_lt hj]
      simp only [Option.map_some, hmod]
      rw [getElem!_pos zv.cells j hjz]
    · rw [if_neg hlt] at e1; cases e1)
  refine ⟨_, _, β', hrun, hle, ?_, hi'⟩
  have := Rep.refAt (h := h) (β := β') σ.length 0 l.toNat c.toNat 0 _ _ _ _ _ hid (by simp) (by simp) (fun _ => by simp) hce
  exact this

theorem obj_kill {σ : Objs} {id k : Nat} {po : PO} (h : obj (σ.set id none) k = some po) : k ≠ id ∧ obj σ k = some po := by
  by_cases hk : k = id
  · subst hk
    unfold obj at h
    rcases Nat.lt_or_ge k σ.length with hlt | hge
    · simp [hlt] at h
    · rw [List.getElem?_eq_none (by simpa using hge)] at h; cases h
  · rw [obj_set_ne hk] at h; exact ⟨hk, h⟩

/-- A row that has grown: what was lies dead, a new object is told. -/
theorem inv_grow {σ σ1 : Objs} (hi : Inv C σ h β w) {dead : Nat → Prop} [DecidablePred dead] {w' : World} {v' : Value} {row : Option Nat} (e : TypeId) (hce : cellTy e = true) (size : Nat) (els : List (List DV))
    (hlen : σ1.length = σ.length) (hσ1 : ∀ k po, obj σ1 k = some po → ¬ dead k ∧ obj σ k = some po) (hσ2 : ∀ k po, obj σ k = some po → ¬ dead k → obj σ1 k = some po)
    (hdead : ∀ k, dead k → k < σ.length)
    (hg : w.grownBy w' row) (hrow : ∀ b, row = some b → ∃ id sz N K t po, dead id ∧ β id = .at b sz N K t ∧ obj σ id = some po ∧ po.frz = false)
    (hown : (v' = .slice none 0 0 ∧ els = []) ∨ ∃ g cap cur, v' = .slice (some ⟨g, 0, none⟩) els.length cap ∧ w'.heap[g]? = some (.cells cur e (0, 0)) ∧ els.length ≤ cap ∧ cap ≤ maxLen ∧ SzOk cur.size cap els.length size ∧
      (row = some g ∨ w.heap.size ≤ g) ∧ ∀ i ds, els[i]? = some ds → ds.length = size ∧ ∀ (j : Nat) (d : DV), ds[j]? = some d → ∃ u, cur[i * size + j]? = some u ∧ u.oneCell' = true ∧ Rep h β u d) :
    ∃ β', BLe β β' ∧ Rep h β' v' (.ref σ.length 0 els.length) ∧ Inv C (σ1 ++ [some ⟨false, size, e, els⟩]) h β' w' := by
  -- the new one's place
  have hnb : ∃ nb : Bl, (nb = .nil ∧ v' = .slice none 0 0 ∧ els = []) ∨ ∃ g cap cur, nb = .at g size els.length cap e ∧ v' = .slice (some ⟨g, 0, none⟩) els.length cap ∧ w'.heap[g]? = some (.cells cur e (0, 0)) ∧ els.length ≤ cap ∧ cap ≤ maxLen ∧ SzOk cur.size cap els.length size ∧
      (row = some g ∨ w.heap.size ≤ g) ∧ ∀ i ds, els[i]? = some ds → ds.length = size ∧ ∀ (j : Nat) (d : DV), ds[j]? = some d → ∃ u, cur[i * size + j]? = some u ∧ u.oneCell' = true ∧ Rep h β u d := by
    rcases hown with ⟨h1, h2⟩ | ⟨g, cap, cur, h1, hrest⟩
    · exact ⟨.nil, .inl ⟨rfl, h1, h2⟩⟩
    · exact ⟨.at g size els.length cap e, .inr ⟨g, cap, cur, rfl, h1, hrest⟩⟩
  obtain ⟨nb, hnb⟩ := hnb
  have hble : BLe β (fun k => if k = σ.length then nb else if dead k then .dead else β k) := by
    intro k
    by_cases h1 : k = σ.length
    · right; left; exact hi.unborn k (by omega)
    · by_cases h2 : dead k
      · right; right; simp [h1, h2]
      · left; simp [h1, h2]
  have hkeep : ∀ {b}, b < w.heap.size → row ≠ some b → w'.heap[b]? = w.heap[b]? := fun hb hne => hg.block _ hb (fun e => hne e.symm)
  have hcase : ∀ {id b sz' N' K' t'}, (if id = σ.length then nb else if dead id then Bl.dead else β id) = .at b sz' N' K' t' →
      (id = σ.length ∧ nb = .at b sz' N' K' t') ∨ (id ≠ σ.length ∧ ¬ dead id ∧ β id = .at b sz' N' K' t') := by
    intro id b sz' N' K' t' q
    by_cases h1 : id = σ.length
    · rw [if_pos h1] at q; exact .inl ⟨h1, q⟩
    · rw [if_neg h1] at q
      by_cases h2 : dead id
      · rw [if_pos h2] at q; cases q
      · rw [if_neg h2] at q; exact .inr ⟨h1, h2, q⟩
  have hne : ∀ {id b sz' N' K' t'}, ¬ dead id → β id = .at b sz' N' K' t' → row ≠ some b := by
    intro id b sz' N' K' t' hnd hb hr
    obtain ⟨id2, sz2, N2, K2, t2, po, hd, hb2, _, _⟩ := hrow b hr
    have := hi.inj _ _ _ _ _ _ _ _ _ _ _ hb hb2
    subst this; exact hnd hd
  have hhne : ∀ {b o}, h b = some o → row ≠ some b := by
    intro b o hb hr
    obtain ⟨id2, sz2, N2, K2, t2, po, hd, hb2, ho2, hf⟩ := hrow b hr
    obtain ⟨po', cs, g1, _, _, _, _, _, g7, _⟩ := hi.objs _ _ _ _ _ _ hb2
    rw [ho2] at g1; injection g1 with g1; subst g1
    rw [g7 hf] at hb; cases hb
  have hs := hi.size
  refine ⟨_, hble, ?_, ?_⟩
  · rcases hnb with ⟨rfl, rfl, rfl⟩ | ⟨g, cap, cur, rfl, rfl, g2, g3, g4, g5, g6, g7⟩
    · exact .refNil _ (by simp)
    · exact .refAt _ _ _ _ _ _ _ _ _ _ (if_pos rfl) (by omega) (by omega) (fun _ => by simp) hce
  · refine { os := hg.os.trans hi.os, tape := hg.tape.trans hi.tape, output := hg.output.trans hi.output, size := Nat.le_trans hs hg.size, view := ?_, hle := hi.hle, hnew := hi.hnew, own := ?_, unborn := ?_, inj := ?_, live := ?_, objs := ?_, frame := ?_, gho := gho_ble hi.gho hble, born := ?_ }
    case refine_8 =>
      intro id hid
      simp only [List.length_append, List.length_cons, List.length_nil, hlen] at hid
      show (if id = σ.length then nb else if dead id then Bl.dead else β id) ≠ Bl.no
      by_cases h1 : id = σ.length
      · rw [if_pos h1]
        rcases hnb with ⟨rfl, _⟩ | ⟨g, cap, cur, rfl, _⟩ <;> (intro e; cases e)
      · rw [if_neg h1]
        by_cases h2 : dead id
        · rw [if_pos h2]; intro e; cases e
        · rw [if_neg h2]; exact hi.born id (by omega)
    · intro b o e1
      rw [hkeep (lt_of_some (hi.view b o e1)) (hhne e1)]; exact hi.view b o e1
    · intro id b sz' N' K' t' q
      rcases hcase q with ⟨_, q⟩ | ⟨_, _, q⟩
      · rcases hnb with ⟨rfl, _⟩ | ⟨g, cap, cur, rfl, _, _, _, _, _, hr, _⟩
        · cases q
        · injection q with q; subst q
          rcases hr with hr | hge
          · obtain ⟨id2, sz2, N2, K2, t2, po, _, hb2, _⟩ := hrow _ hr
            exact hi.own _ _ _ _ _ _ hb2
          · exact .inl (Nat.le_trans hs hge)
      · exact hi.own _ _ _ _ _ _ q
    · intro id hge
      simp only [List.length_append, List.length_cons, List.length_nil, hlen] at hge
      show (if id = σ.length then nb else if dead id then Bl.dead else β id) = Bl.no
      rw [if_neg (by omega), if_neg (fun hd => by have := hdead id hd; omega)]
      exact hi.unborn id (by omega)
    · intro id id' b s1 N1 K1 t1 s2 N2 K2 t2 q1 q2
      have mix : ∀ {id b s2 N2 K2 t2 s1 N1 K1 t1}, nb = .at b s1 N1 K1 t1 → ¬ dead id → β id = .at b s2 N2 K2 t2 → False := by
        intro id b s2 N2 K2 t2 s1 N1 K1 t1 q1 hnd q2
        rcases hnb with ⟨rfl, _⟩ | ⟨g, cap, cur, rfl, _, _, _, _, _, hr, _⟩
        · cases q1
        · injection q1 with q1; subst q1
          rcases hr with hr | hge
          · exact hne hnd q2 hr
          · have := hi.blk q2; omega
      rcases hcase q1 with ⟨r1, q1⟩ | ⟨r1, n1, q1⟩ <;> rcases hcase q2 with ⟨r2, q2⟩ | ⟨r2, n2, q2⟩
      · rw [r1, r2]
      · exact (mix q1 n2 q2).elim
      · exact (mix q2 n1 q1).elim
      · exact hi.inj _ _ _ _ _ _ _ _ _ _ _ q1 q2
    · intro id po q
      by_cases h1 : id = σ.length
      · subst h1
        rw [← hlen, obj_new] at q; injection q with q; subst q
        rcases hnb with ⟨rfl, _, hn⟩ | ⟨g, cap, cur, rfl, _⟩
        · right; exact ⟨if_pos rfl, hn⟩
        · left; exact ⟨g, cap, if_pos rfl⟩
      · have hlt := obj_lt q
        simp only [List.length_append, List.length_cons, List.length_nil, hlen] at hlt
        rw [obj_append (by omega)] at q
        obtain ⟨hnd, q⟩ := hσ1 id po q
        have e0 : (if id = σ.length then nb else if dead id then Bl.dead else β id) = β id := by rw [if_neg h1, if_neg hnd]
        rcases hi.live id po q with ⟨b, K', hb⟩ | ⟨hb, hn⟩
        · exact .inl ⟨b, K', e0.trans hb⟩
        · exact .inr ⟨e0.trans hb, hn⟩
    · intro id b sz' N' K' t' q
      rcases hcase q with ⟨rfl, qq⟩ | ⟨r, hnd, qq⟩
      · rcases hnb with ⟨rfl, _⟩ | ⟨g, cap, cur, rfl, _, g2, g3, g4, g5, hr, g7⟩
        · cases qq
        · injection qq with q1 q2 q3 q4 q5; subst q1; subst q2; subst q3; subst q4; subst q5
          refine ⟨_, cur, by rw [← hlen]; exact obj_new, g3, g4, ⟨_, g2, .cells _ _ hce⟩, g5, ?_, ?_, by simp⟩
          · intro i ds e1
            obtain ⟨k1, k2⟩ := g7 i ds e1
            refine ⟨k1, fun j d e2 => ?_⟩
            obtain ⟨u, k3, k4, k5⟩ := k2 j d e2
            exact ⟨u, k3, k4, k5.mono (HLe.refl h) hble⟩
          · intro _
            cases hx : h g with
            | none => rfl
            | some o =>
              rcases hr with hr | hge
              · exact absurd hr (hhne hx)
              · have := lt_of_some (hi.view _ _ hx); omega
      · obtain ⟨po, cs', g1, g2, g3, g4, g5, g6, g7, g8⟩ := hi.objs id b sz' N' K' t' qq
        refine ⟨po, cs', (obj_append (by rw [hlen]; exact obj_lt g1)).trans (hσ2 id po g1 hnd), g2, g3, (by rw [hkeep (hi.blk qq) (hne hnd qq)]; exact g4), g5, ?_, g7, fun e => (g8 e).trans (hkeep (hi.blk qq) (hne hnd qq)).symm⟩
        intro i ds e1
        obtain ⟨k1, k2⟩ := g6 i ds e1
        refine ⟨k1, fun j d e2 => ?_⟩
        obtain ⟨u, k3, k4, k5⟩ := k2 j d e2
        exact ⟨u, k3, k4, k5.mono (HLe.refl h) hble⟩
    · intro b hb hL
      rw [hkeep (by omega)]
      · exact hi.frame b hb hL
      · intro hr
        obtain ⟨id2, sz2, N2, K2, t2, po, _, hb2, _⟩ := hrow b hr
        rcases hi.own _ _ _ _ _ _ hb2 with h1 | h1
        · omega
        · exact hL h1

/-- An own slice, whole, told as one with no room behind it. -/
theorem inv_clip {σ : Objs} (hi : Inv C σ h β w) {id len : Nat} {po : PO} (hpo : obj σ id = some po) (hf : po.frz = false) (hct : cellTy po.ty = true) (hlen : len ≤ po.els.length) {v : Value} (r : Rep h β v (.ref id 0 len)) :
    ∃ ad c β', v = .slice ad len c ∧ len ≤ c ∧ BLe β β' ∧ Rep h β' (.slice ad len len) (.ref σ.length 0 len) ∧ Inv C (σ.set id none ++ [some ⟨false, po.sz, po.ty, po.els.take len⟩]) h β' w := by
  have htl : (po.els.take len).length = len := by simp; omega
  have hg0 : ∀ row, w.grownBy w row := fun row => ⟨rfl, rfl, rfl, Nat.le_refl _, fun b _ _ => rfl⟩
  have h1 : ∀ k p, obj (σ.set id none) k = some p → ¬ (k = id) ∧ obj σ k = some p := fun k p e => obj_kill e
  have h2 : ∀ k p, obj σ k = some p → ¬ (k = id) → obj (σ.set id none) k = some p := fun k p e hne => (obj_set_ne hne).trans e
  have h3 : ∀ k, k = id → k < σ.length := fun k e => e ▸ obj_lt hpo
  cases r with
  | refDead _ _ _ _ hb => rcases hi.live id po hpo with ⟨b2, K2, hb2⟩ | ⟨hb2, _⟩ <;> (rw [hb] at hb2; cases hb2)
  | refNil _ hb =>
    obtain ⟨β', q1, q2, q3⟩ := inv_grow (dead := (· = id)) hi po.ty hct po.sz (po.els.take 0) (by simp) h1 h2 h3 (hg0 none) (fun b e => by cases e) (v' := .slice none 0 0) (.inl ⟨rfl, rfl⟩)
    exact ⟨none, 0, β', rfl, Nat.le_refl _, q1, q2, q3⟩
  | refAt _ _ _ cap o b sz N K t hb g1 g2 g3 ht =>
    obtain ⟨po', cs, k1, k2, k3, k4, k5, k6, k7, k8⟩ := hi.objs id b _ _ _ _ hb
    rw [hpo] at k1; injection k1 with k1; subst k1
    have hbK : sz = po.sz ∧ N = po.els.length ∧ t = po.ty := by
      rcases hi.live id po hpo with ⟨b', K', hb'⟩ | ⟨hb', _⟩
      · rw [hb] at hb'; injection hb' with e1 e2 e3 e4 e5; exact ⟨e2, e3, e5⟩
      · rw [hb] at hb'; cases hb'
    obtain ⟨rfl, rfl, rfl⟩ := hbK
    have ho : o = 0 := by rw [g3 (.inr rfl), Nat.zero_mul]
    subst ho
    have hml : len * po.sz ≤ K * po.sz := Nat.mul_le_mul_right _ (by omega)
    obtain ⟨β', q1, q2, q3⟩ := inv_grow (dead := (· = id)) (row := some b) hi po.ty ht po.sz (po.els.take len) (by simp) h1 h2 h3 (hg0 _) (fun b' e => ⟨id, po.sz, _, K, _, po, rfl, by injection e with e; subst e; exact hb, hpo, hf⟩) (v' := .slice (some ⟨b, 0, none⟩) len len)
      (.inr ⟨b, len, cs, by rw [htl], k4.cells ht, by rw [htl]; exact Nat.le_refl _, by omega, .inr ⟨htl, Nat.le_trans hml k5.le⟩, .inl rfl, fun i ds e => by
        rw [List.getElem?_take] at e
        split at e
        · exact k6 i ds e
        · cases e⟩)
    rw [htl] at q2
    exact ⟨_, cap, β', rfl, by omega, q1, q2, q3⟩

/-- The flat list of the values that elements stand for. -/
theorem flat_of {els : List (List DV)} {size : Nat} (hsz0 : 0 < size) (hsz : ∀ (i : Nat) (ds : List DV), els[i]? = some ds → ds.length = size) (f : Nat → Value)
    (hf : ∀ (i : Nat) (ds : List DV) (j : Nat) (d : DV), els[i]? = some ds → ds[j]? = some d → (f (i * size + j)).oneCell' = true ∧ Rep h β (f (i * size + j)) d) :
    ((List.range (els.length * size)).map f).length = els.length * size ∧ (∀ u ∈ (List.range (els.length * size)).map f, u.oneCell' = true) := by
  refine ⟨by simp, fun u hu => ?_⟩
  obtain ⟨q, hq, rfl⟩ := List.mem_map.1 hu
  rw [List.mem_range] at hq
  have hi : q / size < els.length := (Nat.div_lt_iff_lt_mul hsz0).2 hq
  have hm := Nat.mod_lt q hsz0
  have hl := hsz _ _ (List.getElem?_eq_getElem hi)
  have := (hf _ _ (q % size) _ (List.getElem?_eq_getElem hi) (List.getElem?_eq_getElem (by omega))).1
  rwa [show q / size * size + q % size = q by rw [Nat.mul_comm]; exact Nat.div_add_mod q size] at this

theorem idx_lt {i j m size : Nat} (hi : i < m) (hj : j < size) : i * size + j < m * size := by
  have h1 : (i + 1) * size ≤ m * size := Nat.mul_le_mul_right _ hi
  rw [Nat.add_mul, Nat.one_mul] at h1; omega

theorem app_core {σ σ1 : Objs} (hi : Inv C σ h β w) {dead : Nat → Prop} [DecidablePred dead] {t ty e : TypeId} (hce : cellTy e = true) (hu : P.underlying t = some (.slice e)) {inf : TypeInfo} (hinf : P.info? e = some inf) {zv : Value} (hzv : inf.zero = some zv) (hzs : zv.cells.size = inf.size) (hsz0 : 0 < inf.size)
    (hlen : σ1.length = σ.length) (hσ1 : ∀ k po, obj σ1 k = some po → ¬ dead k ∧ obj σ k = some po) (hσ2 : ∀ k po, obj σ k = some po → ¬ dead k → obj σ1 k = some po)
    (hdead : ∀ k, dead k → k < σ.length) {v x : Value} {els news : List (List DV)} {xsV : List Value}
    (hown : w.ownsRow 0 e inf.size v els.length xsV) (hxs : ∀ (i : Nat) (ds : List DV), els[i]? = some ds → ds.length = inf.size ∧ ∀ (j : Nat) (d : DV), ds[j]? = some d → ∃ u, xsV[i * inf.size + j]? = some u ∧ u.oneCell' = true ∧ Rep h β u d)
    (hrow : ∀ b, v.ownBlock = some b → ∃ id sz N K t po, dead id ∧ β id = .at b sz N K t ∧ obj σ id = some po ∧ po.frz = false)
    {dx : DV} (hx : Rep h β x dx) (hels : elsOf σ dx = some news) (hns : ∀ ds ∈ news, ds.length = inf.size) (h63 : els.length + news.length ≤ maxLen) (hby : (els.length + news.length) * inf.bytes ≤ 140737488355328) :
    ∃ v' w' β', (Builtin.append_ #[t, t] ty #[v, x]).run P w = .ok v' w' ∧ BLe β β' ∧ Rep h β' v' (.ref σ.length 0 (els.length + news.length)) ∧ Inv C (σ1 ++ [some ⟨false, inf.size, e, els ++ news⟩]) h β' w' := by
  obtain ⟨ad, m, c, rfl, hm, hmc, hz, sz, hsz, hcells⟩ := els_sound hi hx hels
  -- the appended values
  have hnl : ∀ (i : Nat) (ds : List DV), news[i]? = some ds → ds.length = inf.size := fun i ds e => hns _ (List.mem_of_getElem? e)
  have happ : ∀ (newsV : List Value) (v' : Value) (w' : World), newsV.length = news.length * inf.size → (∀ (i : Nat) (ds : List DV) (j : Nat) (d : DV), news[i]? = some ds → ds[j]? = some d → ∃ u, newsV[i * inf.size + j]? = some u ∧ u.oneCell' = true ∧ Rep h β u d) →
      (Builtin.append_ #[t, t] ty #[v, .slice ad m c]).run P w = .ok v' w' → w'.ownsRow 0 e inf.size v' (els.length + news.length) (xsV ++ newsV) → w.grownBy w' v.ownBlock → (v'.ownBlock = v.ownBlock ∨ v'.ownBlock = some w.heap.size) →
      ∃ v' w' β', (Builtin.append_ #[t, t] ty #[v, .slice ad m c]).run P w = .ok v' w' ∧ BLe β β' ∧ Rep h β' v' (.ref σ.length 0 (els.length + news.length)) ∧ Inv C (σ1 ++ [some ⟨false, inf.size, e, els ++ news⟩]) h β' w' := by
    intro newsV v' w' hnv hnr hrun hown' hg hob
    have hll : (els ++ news).length = els.length + news.length := by simp
    obtain ⟨β', b1, b2, b3⟩ := inv_grow (σ1 := σ1) (dead := dead) (v' := v') hi e hce inf.size (els ++ news) hlen hσ1 hσ2 hdead hg hrow (by
      rcases hown'.2 with ⟨rfl, h0⟩ | ⟨g, cap, cur, rfl, _, g1, g2, g3, g4, g5⟩
      · left; exact ⟨rfl, List.eq_nil_of_length_eq_zero (by rw [hll]; exact h0)⟩
      · right
        refine ⟨g, cap, cur, by rw [hll], g1, by rw [hll]; exact g2, g3, .inl g4, ?_, ?_⟩
        · rcases hob with hob | hob
          · left; rw [← hob]; rfl
          · right
            have : g = w.heap.size := by simpa [Value.ownBlock] using hob
            omega
        · intro i ds e1
          have hcur : ∀ (q : Nat) (u : Value), (xsV ++ newsV)[q]? = some u → cur[q]? = some u := by
            intro q u hq
            rw [← g5, List.getElem?_take] at hq
            split at hq
            · rw [Array.getElem?_toList] at hq; exact hq
            · cases hq
          have hxl : xsV.length = els.length * inf.size := hown.1
          by_cases hlt : i < els.length
          · rw [List.getElem?_append_left hlt] at e1
            obtain ⟨k1, k2⟩ := hxs i ds e1
            refine ⟨k1, fun j d e2 => ?_⟩
            obtain ⟨u, k3, k4, k5⟩ := k2 j d e2
            have hj : j < inf.size := by have := (List.getElem?_eq_some_iff.1 e2).1; omega
            exact ⟨u, hcur _ _ (by rw [List.getElem?_append_left (by rw [hxl]; exact idx_lt hlt hj)]; exact k3), k4, k5⟩
          · rw [List.getElem?_append_right (by omega)] at e1
            refine ⟨hnl _ _ e1, fun j d e2 => ?_⟩
            obtain ⟨u, k3, k4, k5⟩ := hnr _ _ j d e1 e2
            refine ⟨u, hcur _ _ ?_, k4, k5⟩
            have hmul : i * inf.size = els.length * inf.size + (i - els.length) * inf.size := by rw [← Nat.add_mul]; congr 1; omega
            rw [List.getElem?_append_right (by rw [hxl]; omega), hxl, show i * inf.size + j - els.length * inf.size = (i - els.length) * inf.size + j by omega]
            exact k3)
    exact ⟨v', w', β', hrun, b1, by rw [← hll]; exact b2, b3⟩
  cases ad with
  | none =>
    have hc := hz rfl
    have hm0 : m = 0 := by omega
    subst hc; subst hm0
    have hn0 : news = [] := List.eq_nil_of_length_eq_zero hm.symm
    subst hn0
    exact happ [] v w (by simp) (fun i ds j d e1 => by simp at e1) (run_append_owned_none (P := P) w 0 t ty e inf inf.size hu hinf v els.length xsV hown) (by simpa using hown) ⟨rfl, rfl, rfl, Nat.le_refl _, fun _ _ _ => rfl⟩ (.inl rfl)
  | some b =>
    subst hm
    let f : Nat → Value := fun q => (w.cell? (b.add q)).getD undef
    have hf : ∀ (i : Nat) (ds : List DV) (j : Nat) (d : DV), news[i]? = some ds → ds[j]? = some d → w.cell? (b.add (i * inf.size + j)) = some (f (i * inf.size + j)) ∧ (f (i * inf.size + j)).oneCell' = true ∧ Rep h β (f (i * inf.size + j)) d := by
      intro i ds j d e1 e2
      obtain ⟨b', u, hb, q1, q2, q3⟩ := hcells i ds j d e1 e2
      injection hb with hb; subst hb
      have hs1 := hsz _ _ e1
      have hs2 := hnl _ _ e1
      rw [show sz = inf.size by omega] at q1
      have : f (i * inf.size + j) = u := by simp only [f, q1, Option.getD_some]
      rw [this]; exact ⟨q1, q2, q3⟩
    obtain ⟨f1, f2⟩ := flat_of (h := h) (β := β) hsz0 hnl f (fun i ds j d e1 e2 => (hf i ds j d e1 e2).2)
    have hget : ∀ q, q < news.length * inf.size → w.cell? (b.add q) = some (f q) := by
      intro q hq
      have hi' : q / inf.size < news.length := (Nat.div_lt_iff_lt_mul hsz0).2 hq
      have hm := Nat.mod_lt q hsz0
      have hl := hnl _ _ (List.getElem?_eq_getElem hi')
      have := (hf _ _ (q % inf.size) _ (List.getElem?_eq_getElem hi') (List.getElem?_eq_getElem (by omega))).1
      rwa [show q / inf.size * inf.size + q % inf.size = q by rw [Nat.mul_comm]; exact Nat.div_add_mod q inf.size] at this
    obtain ⟨v', w', hrun, hown', hg, _, hob⟩ := run_append_own_at (P := P) w 0 t ty e inf zv inf.size inf.bytes hu hinf hzv rfl rfl hzs hsz0 v els.length xsV hown b news.length c ((List.range (news.length * inf.size)).map f) f1 (by
      intro j u e1
      rw [List.getElem?_map] at e1
      by_cases hj : j < news.length * inf.size
      · rw [List.getElem?_range hj] at e1
        simp only [Option.map_some, Option.some.injEq] at e1
        rw [← e1]; exact hget j hj
      · rw [List.getElem?_eq_none (by simpa using hj)] at e1; cases e1) f2 h63 hby (Nat.zero_le _)
    refine happ _ v' w' f1 ?_ hrun hown' hg hob
    intro i ds j d e1 e2
    have hj : j < inf.size := by have := (List.getElem?_eq_some_iff.1 e2).1; have := hnl _ _ e1; omega
    have hil : i < news.length := (List.getElem?_eq_some_iff.1 e1).1
    refine ⟨_, ?_, (hf i ds j d e1 e2).2⟩
    rw [List.getElem?_map, List.getElem?_range (idx_lt hil hj)]; rfl

/-- append to a slice that has no room behind it. -/
theorem app_full {σ σ1 : Objs} (hi : Inv C σ h β w) {dead : Nat → Prop} [DecidablePred dead] {t ty e : TypeId} (hce : cellTy e = true) (hu : P.underlying t = some (.slice e)) {inf : TypeInfo} (hinf : P.info? e = some inf) {zv : Value} (hzv : inf.zero = some zv) (hzs : zv.cells.size = inf.size) (hsz0 : 0 < inf.size)
    (hlen : σ1.length = σ.length) (hσ1 : ∀ k po, obj σ1 k = some po → ¬ dead k ∧ obj σ k = some po) (hσ2 : ∀ k po, obj σ k = some po → ¬ dead k → obj σ1 k = some po)
    (hdead : ∀ k, dead k → k < σ.length) {x : Value} {els news : List (List DV)} {b : Nat} {cs : Array Value} (hb : w.heap[b]? = some (.cells cs e (0, 0))) (hsz : els.length * inf.size ≤ cs.size)
    (hxs : ∀ (i : Nat) (ds : List DV), els[i]? = some ds → ds.length = inf.size ∧ ∀ (j : Nat) (d : DV), ds[j]? = some d → ∃ u, cs[i * inf.size + j]? = some u ∧ u.oneCell' = true ∧ Rep h β u d)
    (hrow : ∃ id sz N K t po, dead id ∧ β id = .at b sz N K t ∧ obj σ id = some po ∧ po.frz = false)
    {dx : DV} (hx : Rep h β x dx) (hels : elsOf σ dx = some news) (hns : ∀ ds ∈ news, ds.length = inf.size) (h63 : els.length + news.length ≤ maxLen) (hby : (els.length + news.length) * inf.bytes ≤ 140737488355328) :
    ∃ v' w' β', (Builtin.append_ #[t, t] ty #[.slice (some ⟨b, 0, none⟩) els.length els.length, x]).run P w = .ok v' w' ∧ BLe β β' ∧ Rep h β' v' (.ref σ.length 0 (els.length + news.length)) ∧ Inv C (σ1 ++ [some ⟨false, inf.size, e, els ++ news⟩]) h β' w' := by
  obtain ⟨ad, m, c, rfl, hm, hmc, hz, sz, hsz2, hcells⟩ := els_sound hi hx hels
  have hnl : ∀ (i : Nat) (ds : List DV), news[i]? = some ds → ds.length = inf.size := fun i ds e => hns _ (List.mem_of_getElem? e)
  have hll : (els ++ news).length = els.length + news.length := by simp
  by_cases hn0 : news = []
  · subst hn0
    have hm0 : m = 0 := hm
    subst hm0
    obtain ⟨β', b1, b2, b3⟩ := inv_grow (σ1 := σ1) (dead := dead) (row := some b) (w' := w) (v' := .slice (some ⟨b, 0, none⟩) els.length els.length) hi e hce inf.size els hlen hσ1 hσ2 hdead ⟨rfl, rfl, rfl, Nat.le_refl _, fun _ _ _ => rfl⟩
      (fun b' e => by injection e with e; subst e; exact hrow) (.inr ⟨b, els.length, cs, rfl, hb, Nat.le_refl _, by simpa using h63, .inr ⟨rfl, hsz⟩, .inl rfl, hxs⟩)
    refine ⟨_, w, β', ?_, b1, by simpa using b2, by simpa using b3⟩
    cases ad with
    | none => simp [Builtin.append_, run_underlying hu, sizeOf, typeInfo, hinf, Builtin.lenOf, Builtin.firstCells, storeCells]
    | some a =>
      have hf := run_firstCells_some (P := P) w inf.size 0 a 0 c [] (by simp) (fun j v e => by simp at e)
      simp [Builtin.append_, run_underlying hu, sizeOf, typeInfo, hinf, Builtin.lenOf, hf, storeCells]
  · have hnp : 0 < news.length := List.length_pos_iff.2 hn0
    have h0 := List.getElem?_eq_getElem hnp
    have hs0 := hnl 0 _ h0
    obtain ⟨b', u0, hb', _⟩ := hcells 0 _ 0 _ h0 (List.getElem?_eq_getElem (l := news[0]) (i := 0) (by omega))
    subst hb'
    subst hm
    let f : Nat → Value := fun q => (w.cell? (b'.add q)).getD undef
    have hf : ∀ (i : Nat) (ds : List DV) (j : Nat) (d : DV), news[i]? = some ds → ds[j]? = some d → w.cell? (b'.add (i * inf.size + j)) = some (f (i * inf.size + j)) ∧ (f (i * inf.size + j)).oneCell' = true ∧ Rep h β (f (i * inf.size + j)) d := by
      intro i ds j d e1 e2
      obtain ⟨b2, u, hb, q1, q2, q3⟩ := hcells i ds j d e1 e2
      injection hb with hb; subst hb
      have hs1 := hsz2 _ _ e1
      have hs2 := hnl _ _ e1
      rw [show sz = inf.size by omega] at q1
      have : f (i * inf.size + j) = u := by simp only [f, q1, Option.getD_some]
      rw [this]; exact ⟨q1, q2, q3⟩
    obtain ⟨f1, f2⟩ := flat_of (h := h) (β := β) hsz0 hnl f (fun i ds j d e1 e2 => (hf i ds j d e1 e2).2)
    have hget : ∀ q, q < news.length * inf.size → w.cell? (b'.add q) = some (f q) := by
      intro q hq
      have hi' : q / inf.size < news.length := (Nat.div_lt_iff_lt_mul hsz0).2 hq
      have hm := Nat.mod_lt q hsz0
      have hl := hnl _ _ (List.getElem?_eq_getElem hi')
      have := (hf _ _ (q % inf.size) _ (List.getElem?_eq_getElem hi') (List.getElem?_eq_getElem (by omega))).1
      rwa [show q / inf.size * inf.size + q % inf.size = q by rw [Nat.mul_comm]; exact Nat.div_add_mod q inf.size] at this
    have hol : (cs.toList.take (els.length * inf.size)).length = els.length * inf.size := by rw [List.length_take, Array.length_toList]; exact Nat.min_eq_left hsz
    obtain ⟨v', w', hrun, hown', hg⟩ := run_append_arg_grows (P := P) w t ty e inf zv inf.size inf.bytes hu hinf hzv rfl rfl hzs hsz0 ⟨b, 0, none⟩ els.length els.length (cs.toList.take (els.length * inf.size)) hol
      (fun j u e1 => by
        rw [List.getElem?_take] at e1
        split at e1
        · rw [Array.getElem?_toList] at e1
          rw [add_at]
          simp [World.cell?, hb, e1]
        · cases e1) b' news.length c ((List.range (news.length * inf.size)).map f) f1 (by
      intro j u e1
      rw [List.getElem?_map] at e1
      by_cases hj : j < news.length * inf.size
      · rw [List.getElem?_range hj] at e1
        simp only [Option.map_some, Option.some.injEq] at e1
        rw [← e1]; exact hget j hj
      · rw [List.getElem?_eq_none (by simpa using hj)] at e1; cases e1) (by omega) h63 hby
    obtain ⟨β', b1, b2, b3⟩ := inv_grow (σ1 := σ1) (dead := dead) (v' := v') hi e hce inf.size (els ++ news) hlen hσ1 hσ2 hdead hg (fun _ e => by cases e) (by
      rcases hown'.2 with ⟨rfl, h0⟩ | ⟨g, cap, cur, rfl, hgb, g1, g2, g3, g4, g5⟩
      · omega
      · right
        refine ⟨g, cap, cur, by rw [hll], g1, by rw [hll]; exact g2, g3, .inl g4, .inr hgb, ?_⟩
        intro i ds e1
        have hcur : ∀ (q : Nat) (u : Value), (cs.toList.take (els.length * inf.size) ++ (List.range (news.length * inf.size)).map f)[q]? = some u → cur[q]? = some u := by
          intro q u hq
          rw [← g5, List.getElem?_take] at hq
          split at hq
          · rw [Array.getElem?_toList] at hq; exact hq
          · cases hq
        by_cases hlt : i < els.length
        · rw [List.getElem?_append_left hlt] at e1
          obtain ⟨k1, k2⟩ := hxs i ds e1
          refine ⟨k1, fun j d e2 => ?_⟩
          obtain ⟨u, k3, k4, k5⟩ := k2 j d e2
          have hj : j < inf.size := by have := (List.getElem?_eq_some_iff.1 e2).1; omega
          exact ⟨u, hcur _ _ (by rw [List.getElem?_append_left (by rw [hol]; exact idx_lt hlt hj), List.getElem?_take, if_pos (idx_lt hlt hj), Array.getElem?_toList]; exact k3), k4, k5⟩
        · rw [List.getElem?_append_right (by omega)] at e1
          refine ⟨hnl _ _ e1, fun j d e2 => ?_⟩
          have hj : j < inf.size := by have := (List.getElem?_eq_some_iff.1 e2).1; have := hnl _ _ e1; omega
          have hil : i - els.length < news.length := (List.getElem?_eq_some_iff.1 e1).1
          refine ⟨_, hcur _ _ ?_, (hf _ ds j d e1 e2).2⟩
          have hmul : i * inf.size = els.length * inf.size + (i - els.length) * inf.size := by rw [← Nat.add_mul]; congr 1; omega
          rw [List.getElem?_append_right (by rw [hol]; omega), hol, show i * inf.size + j - els.length * inf.size = (i - els.length) * inf.size + j by omega, List.getElem?_map, List.getElem?_range (idx_lt hil hj)]; rfl)
    exact ⟨v', w', β', hrun, b1, by rw [← hll]; exact b2, b3⟩

theorem bif_tt {b : Bool} {p : Prop} (h : bif b then p else False) : b = true ∧ p := by
  cases b with
  | false => exact h.elim
  | true => exact ⟨rfl, h⟩
theorem seg_get {α : Type} (A B : List α) (p i : Nat) (hp : p ≤ A.length) : (A.take p ++ B ++ A.drop (p + B.length))[i]? = if i < p then A[i]? else if i < p + B.length then B[i - p]? else A[i]? := by
  have hl : (A.take p).length = p := by simp; omega
  by_cases q1 : i < p
  · rw [if_pos q1, List.append_assoc, List.getElem?_append_left (by omega), List.getElem?_take, if_pos q1]
  · rw [if_neg q1]
    by_cases q2 : i < p + B.length
    · rw [if_pos q2, List.getElem?_append_left (by simp only [List.length_append, hl]; omega), List.getElem?_append_right (by omega), hl]
    · rw [if_neg q2, List.getElem?_append_right (by simp only [List.length_append, hl]; omega), List.getElem?_drop]
      simp only [List.length_append, hl]
      congr 1; omega
theorem copyK_sound {o : Oper} {c : Call} (ho : o.op = .call c) (hc : c.callee = .builtin .copy) {t u e : TypeId} {x y : Operand} (ha : c.args.toList = [x, y]) (hty : c.argTypes.toList = [t, u]) (hu : P.underlying t = some (.slice e)) {env : Env} {σ : Objs} {K : DV → Objs → Prop}
    (hk : copyK P e (ev env x) (ev env y) σ K) (hi : Inv C σ h β w) (he : ∀ t, Rep h β (a.tmps.getD t undef) (env t)) {next : Act → World → Prop} {Q : Exit → Act → World → Prop}
    (hnext : VNext C h β a o K next) : o.wp P a w next Q := by
  unfold copyK at hk
  obtain ⟨consts, hrun⟩ := builtin_run (P := P) (a := a) (w := w) ho hc ha hty
  have rx := rep_ev he x
  have ry := rep_ev he y
  split at hk
  case h_2 => exact hk.elim
  rename_i id off len s hx hy
  rw [hx] at rx; rw [hy] at ry
  have hyv : a.eval y = .string s := rep_toV rfl ry
  obtain ⟨po, hpo, hk⟩ := optK_some hk
  obtain ⟨h1c, hk⟩ := bif_tt hk
  obtain ⟨inf, hinf, hsz⟩ : ∃ inf, P.info? e = some inf ∧ inf.size = 1 := by
    unfold oneCell at h1c
    split at h1c
    · rename_i i hi'; exact ⟨i, hi', Nat.eq_of_beq_eq_true h1c⟩
    · cases h1c
  obtain ⟨base, cap, hxv, hbase⟩ : ∃ base cap, a.eval x = .slice base len cap ∧ ((base = none ∧ len = 0) ∨ ∃ b o' N C' t', β id = .at b po.sz N C' t' ∧ base = some ⟨b, o', none⟩ ∧ off + len ≤ N ∧ off + cap = C' ∧ (cap ≠ 0 ∨ off = 0 → o' = off * po.sz)) := by
    generalize a.eval x = v at rx
    have hl := hi.live id po hpo
    cases rx with
    | refAt _ _ _ cap o' b sz N C' t' hb q1 q2 q3 q4 =>
      rcases hl with ⟨b', K', hb'⟩ | ⟨hb', _⟩
      · have := hb.symm.trans hb'
        injection this with e1 e2 e3 e4 e5
        subst e2
        exact ⟨_, _, rfl, .inr ⟨b, o', N, C', t', hb, rfl, q1, q2, q3⟩⟩
      · rw [hb] at hb'; cases hb'
    | refNil _ hb => exact ⟨_, _, rfl, .inl ⟨rfl, rfl⟩⟩
    | refDead _ _ _ _ hb =>
      rcases hl with ⟨b', K', hb'⟩ | ⟨hb', _⟩ <;> (rw [hb] at hb'; cases hb')
  have hcells : ((s.extract 0 (Nat.min s.size len)).data.map fun b => Value.int .u8 b.toNat).toList = (s.data.toList.take (Nat.min s.size len)).map fun b => Value.int .u8 b.toNat := by
    simp [ByteArray.data_extract]
  generalize hn : Nat.min s.size len = m at hk hcells
  have hms : m ≤ s.data.toList.length := by rw [← hn]; exact Nat.min_le_left _ _
  have hml : m ≤ len := by rw [← hn]; exact Nat.min_le_right _ _
  by_cases hm : m = 0
  · rw [hm] at hk
    simp only [Nat.beq_refl, cond_true] at hk
    refine wp_value (v := .int .i64 0) (w' := w) ?_ (hnext _ _ _ _ _ _ hi (HLe.refl _) (BLe.refl _) (.int _ _) hk)
    rw [hrun]
    have hcn : ((s.extract 0 m).data.map fun b => Value.int .u8 b.toNat).toList = [] := by rw [hcells, hm]; rfl
    simp only [builtin, Builtin.copy_, List.map, hxv, hyv]
    rcases hbase with ⟨rfl, _⟩ | ⟨b, o', N, C', t', _, rfl, _⟩ <;>
      simp [run_underlying hu, Builtin.lenOf, Builtin.firstCells, sizeOf, typeInfo, hinf, hn, goInt, hm, storeCells]
  · rw [show Nat.beq m 0 = false by cases m with | zero => exact absurd rfl hm | succ k => rfl] at hk
    simp only [cond_false] at hk
    obtain ⟨hb0, hk⟩ := bif_tt hk
    simp only [Bool.and_eq_true, Bool.not_eq_true'] at hb0
    obtain ⟨⟨⟨hf, hct⟩, hps⟩, hfit⟩ := hb0
    have hps := Nat.eq_of_beq_eq_true hps
    have hfit := Nat.le_of_ble_eq_true hfit
    rcases hbase with ⟨_, hl0⟩ | ⟨b, o', N, C', t', hb, rfl, q1, q2, q3⟩
    · omega
    obtain ⟨po', cs, g1, g2, g3, g4, g5, g6, g7, g8⟩ := hi.objs id b _ _ _ _ hb
    rw [hpo] at g1; injection g1 with g1; subst g1
    have hbK : β id = .at b po.sz po.els.length C' po.ty := by
      rcases hi.live id po hpo with ⟨b', K', hb'⟩ | ⟨hb', _⟩
      · have := hb.symm.trans hb'
        injection this with e1 e2 e3 e4 e5
        subst e1; subst e4; exact hb'
      · rw [hb] at hb'; cases hb'
    have hN : N = po.els.length := by rw [hb] at hbK; injection hbK
    have hT : t' = po.ty := by rw [hb] at hbK; injection hbK
    subst hT
    have ho' : o' = off := by rw [q3 (.inl (by omega)), hps, Nat.mul_one]
    subst ho'
    have hcl : ((s.data.toList.take m).map fun b => Value.int .u8 b.toNat).length = m := by rw [List.length_map, List.length_take, Nat.min_eq_left hms]
    have hdl : (byteDs s m).length = m := by unfold byteDs; rw [List.length_map, List.length_take, Nat.min_eq_left hms]
    have hcz : C' ≤ cs.size := by have g5 := g5.le; rw [hps, Nat.mul_one] at g5; exact g5
    have hst := run_storeCells_at (P := P) b o' po.ty ((s.data.toList.take m).map fun b => Value.int .u8 b.toNat) 0 cs w (g4.cells hct) (by rw [hcl]; omega) (fun v hv => by
      obtain ⟨q, _, rfl⟩ := List.mem_map.1 hv; rfl)
    simp only [Nat.add_zero] at hst
    refine wp_value (v := .int .i64 m) ?_ (hnext _ _ _ _ _ _ (inv_put hi hbK hpo hf hct (cs.toList.take o' ++ ((s.data.toList.take m).map fun b => Value.int .u8 b.toNat) ++ cs.toList.drop (o' + ((s.data.toList.take m).map fun b => Value.int .u8 b.toNat).length)).toArray (setEls po.els o' (byteDs s m)) ?_ ?_ ?_) (HLe.refl _) (BLe.refl _) (.int _ _) hk)
    · rw [hrun]
      generalize World.setRow _ _ _ = W' at hst ⊢
      rw [List.map_take] at hst
      simp only [builtin, Builtin.copy_, List.map, hxv, hyv]
      simp [run_underlying hu, Builtin.lenOf, Builtin.firstCells, sizeOf, typeInfo, hinf, hsz, hn, goInt, hcells, hst]
    · unfold setEls; simp only [List.length_append, List.length_take, List.length_drop, List.length_map, hdl]; omega
    · have hcs : (cs.toList.take o' ++ ((s.data.toList.take m).map fun b => Value.int .u8 b.toNat) ++ cs.toList.drop (o' + ((s.data.toList.take m).map fun b => Value.int .u8 b.toNat).length)).toArray.size = cs.size := by
        simp only [List.size_toArray, List.length_append, List.length_take, List.length_drop, hcl, Array.length_toList]; omega
      rw [hcs]; rw [hN] at g5; exact g5
    · intro i ds hds
      have hbd : (byteDs s m).map (fun c => [c]) = (byteDs s m).map fun c => [c] := rfl
      unfold setEls at hds
      have e1 := seg_get po.els ((byteDs s m).map fun c => [c]) o' i (by omega)
      simp only [List.length_map] at e1
      rw [e1] at hds
      have hget : ∀ q, (cs.toList.take o' ++ ((s.data.toList.take m).map fun b => Value.int .u8 b.toNat) ++ cs.toList.drop (o' + ((s.data.toList.take m).map fun b => Value.int .u8 b.toNat).length)).toArray[q]? =
          if q < o' then cs[q]? else if q < o' + m then ((s.data.toList.take m).map fun b => Value.int .u8 b.toNat)[q - o']? else cs[q]? := by
        intro q
        rw [List.getElem?_toArray, seg_get cs.toList _ o' q (by simp only [Array.length_toList, hcz]; omega), hcl]
        simp only [Array.getElem?_toList]
      rw [hdl] at hds
      rw [hps]
      simp only [Nat.mul_one]
      by_cases r1 : i < o'
      · rw [if_pos r1] at hds
        obtain ⟨l1, l2⟩ := g6 i ds hds
        refine ⟨l1.trans hps, fun j d hj => ?_⟩
        have : j = 0 := by have := (List.getElem?_eq_some_iff.1 hj).1; omega
        subst this
        obtain ⟨v, k1, k2, k3⟩ := l2 0 d hj
        rw [hps, Nat.mul_one] at k1
        exact ⟨v, by rw [hget, Nat.add_zero, if_pos r1]; exact k1, k2, k3⟩
      · rw [if_neg r1] at hds
        by_cases r2 : i < o' + m
        · rw [if_pos r2, List.getElem?_map] at hds
          obtain ⟨c0, hc0, rfl⟩ := Option.map_eq_some_iff.1 hds
          refine ⟨rfl, fun j d hj => ?_⟩
          have : j = 0 := by have := (List.getElem?_eq_some_iff.1 hj).1; simp at this; exact this
          subst this
          simp only [List.getElem?_cons_zero, Option.some.injEq] at hj
          subst hj
          unfold byteDs at hc0
          rw [List.getElem?_map] at hc0
          obtain ⟨bb, hbb, rfl⟩ := Option.map_eq_some_iff.1 hc0
          refine ⟨.int .u8 bb.toNat, ?_, rfl, .int _ _⟩
          rw [hget, Nat.add_zero, if_neg r1, if_pos r2, List.getElem?_map, hbb]; rfl
        · rw [if_neg r2] at hds
          obtain ⟨l1, l2⟩ := g6 i ds hds
          refine ⟨l1.trans hps, fun j d hj => ?_⟩
          have : j = 0 := by have := (List.getElem?_eq_some_iff.1 hj).1; omega
          subst this
          obtain ⟨v, k1, k2, k3⟩ := l2 0 d hj
          rw [hps, Nat.mul_one] at k1
          exact ⟨v, by rw [hget, Nat.add_zero, if_neg r1, if_neg r2]; exact k1, k2, k3⟩

theorem appK_sound {o : Oper} {c : Call} (ho : o.op = .call c) (hc : c.callee = .builtin .append) {t e : TypeId} {s x : Operand} (ha : c.args.toList = [s, x]) (hty : c.argTypes.toList = [t, t]) (hu : P.underlying t = some (.slice e)) {env : Env} {σ : Objs} {K : DV → Objs → Prop}
    (hk : appK P e (ev env s) (ev env x) σ K) (hi : Inv C σ h β w) (he : ∀ t, Rep h β (a.tmps.getD t undef) (env t)) {next : Act → World → Prop} {Q : Exit → Act → World → Prop}
    (hnext : VNext C h β a o K next) : o.wp P a w next Q := by
  unfold appK at hk
  obtain ⟨inf, hinf, hk⟩ := optK_some hk
  obtain ⟨hce, hinf⟩ := infoC_some hinf
  obtain ⟨news, hnews, hk⟩ := optK_some hk
  obtain ⟨hsz0, hns, hz, hk⟩ := hk
  simp only [Option.map_eq_some_iff] at hz
  obtain ⟨zv, hzv, hzs⟩ := hz
  obtain ⟨consts, hrun0⟩ := builtin_run (P := P) (a := a) (w := w) ho hc ha hty
  have hsv := rep_ev he s
  have hxv := rep_ev he x
  have fin : ∀ (v : Value) (w' : World) (β' : Nat → Bl) (σ' : Objs) (d : DV), (Builtin.append_ #[t, t] o.type #[a.eval s, a.eval x]).run P w = .ok v w' → BLe β β' → Rep h β' v d → Inv C σ' h β' w' → K d σ' → o.wp P a w next Q := by
    intro v w' β' σ' d hrun hle hr hi' hk
    refine wp_value (v := v) (w' := w') ?_ (hnext _ _ _ _ _ _ hi' (HLe.refl _) hle hr hk)
    rw [hrun0]
    simp [builtin, hrun]
  split at hk
  · rename_i hev
    obtain ⟨h1, h2, hk⟩ := hk
    rw [hev] at hsv
    have hv : a.eval s = .slice none 0 0 := by
      generalize a.eval s = vs at *
      cases hsv; rfl
    obtain ⟨v', w', β', hrun, hle, hr, hi'⟩ := app_core (P := P) (ty := o.type) (dead := fun _ => False) (σ1 := σ) (v := .slice none 0 0) (els := []) (xsV := []) hi hce hu hinf hzv hzs (by omega) rfl (fun k po e => ⟨id, e⟩) (fun k po e _ => e) (fun k hk => hk.elim)
      (World.ownsRow_nil w 0 e inf.size) (fun i ds e => by simp at e) (fun b e => by simp [Value.ownBlock] at e) hxv hnews hns (by simpa using h1) (by simpa using h2)
    simp only [List.length_nil, Nat.zero_add, List.nil_append] at hr hi'
    exact fin v' w' β' _ _ (by rw [hv]; exact hrun) hle hr hi' hk
  · rename_i id off len hev
    obtain ⟨rfl, hk⟩ := hk
    obtain ⟨po, hpo, hk⟩ := optK_some hk
    obtain ⟨hfz, hposz, hpoty, hlen, h1, h2, hk⟩ := hk
    rw [hev] at hsv
    subst hlen
    -- the row that grows
    have hrowd : (∃ xsV, w.ownsRow 0 e inf.size (a.eval s) po.els.length xsV ∧ (∀ (i : Nat) (ds : List DV), po.els[i]? = some ds → ds.length = inf.size ∧ ∀ (j : Nat) (d : DV), ds[j]? = some d → ∃ u, xsV[i * inf.size + j]? = some u ∧ u.oneCell' = true ∧ Rep h β u d) ∧
        (∀ b, (a.eval s).ownBlock = some b → ∃ id' sz N K t po, id' = id ∧ β id' = .at b sz N K t ∧ obj σ id' = some po ∧ po.frz = false)) ∨
        (∃ b cs, a.eval s = .slice (some ⟨b, 0, none⟩) po.els.length po.els.length ∧ w.heap[b]? = some (.cells cs e (0, 0)) ∧ po.els.length * inf.size ≤ cs.size ∧ (∀ (i : Nat) (ds : List DV), po.els[i]? = some ds → ds.length = inf.size ∧ ∀ (j : Nat) (d : DV), ds[j]? = some d → ∃ u, cs[i * inf.size + j]? = some u ∧ u.oneCell' = true ∧ Rep h β u d) ∧
          ∃ id' sz N K t po, id' = id ∧ β id' = .at b sz N K t ∧ obj σ id' = some po ∧ po.frz = false) := by
      generalize hvs : a.eval s = vs at *
      generalize hL : po.els.length = L at *
      cases hsv with
      | refDead _ _ _ _ hb => exact absurd hb (boxOk_alive hi hpo)
      | refNil _ hb =>
        have hn0 : po.els = [] := List.eq_nil_of_length_eq_zero hL
        exact .inl ⟨[], World.ownsRow_nil w 0 e inf.size, fun i ds e => by rw [hn0] at e; simp at e, fun b e => by simp [Value.ownBlock] at e⟩
      | refAt _ _ _ cap oo b sz N K' t' hb g1 g2 g3 ht =>
        rcases hi.live id po hpo with ⟨b2, K2, hb2⟩ | ⟨hb2, _⟩
        case inr => rw [hb] at hb2; cases hb2
        have hbe := hb.symm.trans hb2
        injection hbe with e1 e2 e3 e4 e5
        obtain ⟨po', cs, q1, q2, q3, q4, q5, q6, _⟩ := hi.objs id b _ _ _ _ hb
        rw [hpo] at q1; injection q1 with q1; subst q1
        have hoo := g3 (.inr rfl)
        rw [Nat.zero_mul] at hoo
        subst hoo
        have hcap : cap = K' := by omega
        subst hcap
        have q4 := q4.cells ht
        rw [e5, hpoty] at q4
        have hsz : sz = inf.size := by omega
        rw [hsz] at q5 q6
        rcases q5 with q5 | ⟨hNK, q5⟩
        case inr =>
          have hLc : L = cap := by omega
          subst hLc
          exact .inr ⟨b, cs, rfl, q4, q5, q6, id, _, _, _, _, po, rfl, hb, hpo, hfz⟩
        refine .inl ⟨cs.toList.take (L * inf.size), ⟨?_, .inr ⟨b, cap, cs, rfl, Nat.zero_le _, q4, by omega, q3, q5, rfl⟩⟩, ?_, ?_⟩
        · have : L * inf.size ≤ cap * inf.size := Nat.mul_le_mul_right _ (by omega)
          rw [List.length_take, Array.length_toList, q5]; exact Nat.min_eq_left this
        · intro i ds e1
          obtain ⟨k1, k2⟩ := q6 i ds e1
          refine ⟨k1, fun j d e2 => ?_⟩
          obtain ⟨u, k3, k4, k5⟩ := k2 j d e2
          have hil : i < L := by rw [← hL]; exact (List.getElem?_eq_some_iff.1 e1).1
          have hj : j < inf.size := by have := (List.getElem?_eq_some_iff.1 e2).1; omega
          exact ⟨u, by rw [List.getElem?_take, if_pos (idx_lt hil hj), Array.getElem?_toList]; exact k3, k4, k5⟩
        · intro b' eb
          simp only [Value.ownBlock, Option.some.injEq] at eb
          subst eb
          exact ⟨id, _, _, _, _, po, rfl, hb, hpo, hfz⟩
    have hlt := obj_lt hpo
    rcases hrowd with ⟨xsV, hown, hxs, hrow⟩ | ⟨b, cs, hvb, hcb, hszb, hxs, hrow⟩
    case inr =>
      obtain ⟨v', w', β', hrun, hle, hr, hi'⟩ := app_full (P := P) (ty := o.type) (dead := fun k => k = id) (σ1 := σ.set id none) hi hce hu hinf hzv hzs (by omega) (by simp) (fun k po e => obj_kill e)
        (fun k po e hk => by rw [obj_set_ne hk]; exact e) (fun k hk => by rw [hk]; exact hlt) hcb hszb hxs hrow hxv hnews hns h1 h2
      exact fin v' w' β' _ _ (by rw [hvb]; exact hrun) hle hr hi' hk
    obtain ⟨v', w', β', hrun, hle, hr, hi'⟩ := app_core (P := P) (ty := o.type) (dead := fun k => k = id) (σ1 := σ.set id none) hi hce hu hinf hzv hzs (by omega) (by simp) (fun k po e => obj_kill e)
      (fun k po e hk => by rw [obj_set_ne hk]; exact e) (fun k hk => by rw [hk]; exact hlt) hown hxs hrow hxv hnews hns h1 h2
    exact fin v' w' β' _ _ hrun hle hr hi' hk
  · exact hk.elim

theorem buildSlice_run {t e : TypeId} {len : Nat} (hu : P.underlying t = some (.slice e)) {inf : TypeInfo} (hinf : P.info? e = some inf) {z : List DV} (hz : zeroD P e = some z) {σ : Objs} (hi : Inv C σ h β w)
    (hsz : 1 ≤ inf.size) (hzl : z.length = inf.size) (hbig : len * inf.size ≤ 16777216) (vals : Array (Nat × Value)) (dvs : List (Nat × DV)) (hl : vals.toList.length = dvs.length)
    (hp : ∀ (i : Nat) (p : Nat × Value) (q : Nat × DV), vals.toList[i]? = some p → dvs[i]? = some q → p.1 = q.1 ∧ Rep h β p.2 q.2 ∧ boxOk σ q.2 = true) {flat : List DV}
    (hf : fillD (fun k => some (k * inf.size, inf.size)) ((List.range (len * inf.size)).map fun q => (z[q % z.length]?).getD .junk) dvs = some flat) (hok : flat.all (cellOk σ) = true) :
    ∃ cells : Array Value, (Instr.buildSlice t len vals).run P w = .ok (.slice (some ⟨w.heap.size, 0, none⟩) len len) (w.alloc (.cells cells e)) ∧ len ≤ maxLen ∧ cells.size = len * inf.size ∧
      ∀ (i : Nat) (ds : List DV), ((List.range len).map fun k => (flat.drop (k * inf.size)).take inf.size)[i]? = some ds → ds.length = inf.size ∧ ∀ (j : Nat) (d : DV), ds[j]? = some d → ∃ v, cells[i * inf.size + j]? = some v ∧ v.oneCell' = true ∧ Rep h β v d := by
  have hz0 := hz
  unfold zeroD at hz
  simp only [hinf, Option.map_eq_some_iff] at hz
  obtain ⟨zv, hzv, rfl⟩ := hz
  obtain ⟨z1, z2⟩ := rep_zero (h := h) (β := β) zv
  have hzs : zv.cells.size = inf.size := by omega
  obtain ⟨cells, g1, g2, g3⟩ := fill_sound hi (fun k => some (k * inf.size, inf.size)) vals.toList dvs ((Array.range (len * inf.size)).map (zv.cells[· % zv.cells.size]!)) _ flat hl hp (by simp) (by
    intro i v d e1 e2
    rw [Array.getElem?_map] at e1
    rw [List.getElem?_map] at e2
    by_cases hlt : i < len * inf.size
    · rw [Array.getElem?_range, if_pos hlt] at e1
      rw [List.getElem?_range hlt] at e2
      simp only [Option.map_some, Option.some.injEq] at e1 e2
      have hm : i % zv.cells.size < zv.cells.size := Nat.mod_lt _ (by omega)
      have hm' : i % (cellsD (ofV zv)).length < (cellsD (ofV zv)).length := Nat.mod_lt _ (by omega)
      rw [getElem!_pos zv.cells _ hm] at e1
      rw [List.getElem?_eq_getElem hm', Option.getD_some] at e2
      rw [← e1, ← e2]
      have he : i % zv.cells.size = i % (cellsD (ofV zv)).length := by rw [z1]
      exact z2 (i % zv.cells.size) _ _ (Array.getElem?_eq_getElem hm) (by rw [he]; exact List.getElem?_eq_getElem hm')
    · rw [Array.getElem?_range, if_neg hlt] at e1; cases e1) hf
  have hfl : flat.length = len * inf.size := by
    have hfd : ∀ (dvs : List (Nat × DV)) (ds flat : List DV), fillD (fun k => some (k * inf.size, inf.size)) ds dvs = some flat → flat.length = ds.length := by
      intro dvs
      induction dvs with
      | nil => intro ds flat e; simp [fillD] at e; rw [e]
      | cons p dvs ih =>
        intro ds flat e
        simp only [fillD] at e
        cases hb : (Nat.beq (cellsD p.2).length inf.size && Nat.ble (p.1 * inf.size + inf.size) ds.length) with
        | false => rw [hb] at e; cases e
        | true => rw [hb] at e; rw [ih _ _ e, setCells_length]
    rw [hfd _ _ _ hf]; simp
  have hcs : cells.size = len * inf.size := by omega
  refine ⟨cells, ?_, (by
      have : len ≤ len * inf.size := Nat.le_mul_of_pos_right _ hsz
      unfold maxLen; omega), hcs, ?_⟩
  · have hc : P.cellsOf e = inf.size := by simp [Program.cellsOf, hinf]
    unfold Instr.buildSlice
    by_cases hl0 : len * inf.size = 0
    · have g1' : Instr.fill (fun k => some (k * inf.size, inf.size)) #[] vals.toList = some cells := by
        have e0 : ((Array.range (len * inf.size)).map (zv.cells[· % zv.cells.size]!)) = #[] := by rw [hl0]; simp
        rw [e0] at g1; exact g1
      simp only [Sem.run_bind, run_underlying hu, Result.andThen_ok, run_sizeOf w hinf, hc]
      rw [if_neg (by omega)]
      have hr0 : Array.range 0 = #[] := rfl
      simp [hl0, hr0, g1', newRow]
    · simp only [Sem.run_bind, run_underlying hu, Result.andThen_ok, run_sizeOf w hinf, hc]
      rw [if_neg (by omega)]
      simp only [hl0, if_false, Sem.run_bind, zeroValue, run_typeInfo w hinf, hzv, Result.andThen_ok, Sem.run_pure]
      simp only [g1]
      simp [newRow]
  · intro i ds e1
    rw [List.getElem?_map] at e1
    by_cases hlt : i < len
    · rw [List.getElem?_range hlt] at e1
      simp only [Option.map_some, Option.some.injEq] at e1
      subst e1
      have hmul : (i + 1) * inf.size ≤ len * inf.size := Nat.mul_le_mul_right _ hlt
      rw [Nat.add_mul, Nat.one_mul] at hmul
      refine ⟨by simp; omega, fun j d e2 => ?_⟩
      rw [List.getElem?_take] at e2
      by_cases hj : j < inf.size
      · rw [if_pos hj, List.getElem?_drop] at e2
        have hq : i * inf.size + j < cells.size := by omega
        have r := g3 _ _ d (Array.getElem?_eq_getElem hq) e2
        exact ⟨_, Array.getElem?_eq_getElem hq, one_cell hi r (List.all_eq_true.1 hok _ (List.mem_of_getElem? e2)), r⟩
      · rw [if_neg hj] at e2; cases e2
    · rw [List.getElem?_eq_none (by simpa using hlt)] at e1; cases e1
theorem buildSlice_sound {t e : TypeId} {len : Nat} (hce : cellTy e = true) (hu : P.underlying t = some (.slice e)) {inf : TypeInfo} (hinf : P.info? e = some inf) {z : List DV} (hz : zeroD P e = some z) {σ : Objs} (hi : Inv C σ h β w)
    (hsz : 1 ≤ inf.size) (hzl : z.length = inf.size) (hbig : len * inf.size ≤ 16777216) (vals : Array (Nat × Value)) (dvs : List (Nat × DV)) (hl : vals.toList.length = dvs.length)
    (hp : ∀ (i : Nat) (p : Nat × Value) (q : Nat × DV), vals.toList[i]? = some p → dvs[i]? = some q → p.1 = q.1 ∧ Rep h β p.2 q.2 ∧ boxOk σ q.2 = true) {flat : List DV}
    (hf : fillD (fun k => some (k * inf.size, inf.size)) ((List.range (len * inf.size)).map fun q => (z[q % z.length]?).getD .junk) dvs = some flat) (hok : flat.all (cellOk σ) = true) :
    ∃ v w' β', (Instr.buildSlice t len vals).run P w = .ok v w' ∧ BLe β β' ∧ Rep h β' v (.ref σ.length 0 len) ∧ Inv C (σ ++ [some ⟨false, inf.size, e, (List.range len).map fun k => (flat.drop (k * inf.size)).take inf.size⟩]) h β' w' := by
  obtain ⟨cells, hrun, hm, hcs, hrow⟩ := buildSlice_run (P := P) (w := w) hu hinf hz hi hsz hzl hbig vals dvs hl hp hf hok
  obtain ⟨β', hle, hid, hi'⟩ := inv_new hi e hce cells inf.size len ((List.range len).map fun k => (flat.drop (k * inf.size)).take inf.size) (by simp) hm hcs hrow
  refine ⟨.slice (some ⟨w.heap.size, 0, none⟩) len len, w.alloc (.cells cells e), β', hrun, hle, ?_, hi'⟩
  have := Rep.refAt (h := h) (β := β') σ.length 0 len len 0 _ _ _ _ _ hid (by simp) (by simp) (fun _ => by simp) hce
  exact this
theorem plain_rep {h' : Hp} {β' : Nat → Bl} {v : Value} {d : DV} (hd : plainD d = true) (r : Rep h β v d) : Rep h' β' v d := by
  unfold plainD at hd
  cases r <;> simp [toV] at hd
  · exact .bool _
  · exact .int _ _
  · exact .flt _ _
  · exact .str _
  · exact .nils
  · exact .nilp
  · exact .nili
  · exact .nilf
  · exact .nilm
theorem mem_piece {flat ds : List DV} {len sz i : Nat} (e : ((List.range len).map fun k => (flat.drop (k * sz)).take sz)[i]? = some ds) : ∀ d ∈ ds, d ∈ flat := by
  rw [List.getElem?_map] at e
  cases hr : (List.range len)[i]? with
  | none => rw [hr] at e; cases e
  | some k =>
    rw [hr] at e; simp at e; subst e
    exact fun d hd => List.mem_of_mem_drop (List.mem_of_mem_take hd)
/-- A slice's literal, told as what is read. -/
theorem buildSlice_list {t e : TypeId} {len : Nat} (hu : P.underlying t = some (.slice e)) {inf : TypeInfo} (hinf : P.info? e = some inf) {z : List DV} (hz : zeroD P e = some z) {σ : Objs} (hi : Inv C σ h β w)
    (hsz : 1 ≤ inf.size) (hzl : z.length = inf.size) (hbig : len * inf.size ≤ 16777216) (vals : Array (Nat × Value)) (dvs : List (Nat × DV)) (hl : vals.toList.length = dvs.length)
    (hp : ∀ (i : Nat) (p : Nat × Value) (q : Nat × DV), vals.toList[i]? = some p → dvs[i]? = some q → p.1 = q.1 ∧ Rep h β p.2 q.2 ∧ boxOk σ q.2 = true) {flat : List DV}
    (hf : fillD (fun k => some (k * inf.size, inf.size)) ((List.range (len * inf.size)).map fun q => (z[q % z.length]?).getD .junk) dvs = some flat) (hok : flat.all (cellOk σ) = true) (hpl : flat.all plainD = true) :
    ∃ v w' h', (Instr.buildSlice t len vals).run P w = .ok v w' ∧ HLe h h' ∧ Rep h' β v (.list ((List.range len).map fun k => (flat.drop (k * inf.size)).take inf.size)) ∧ Inv C σ h' β w' := by
  obtain ⟨cells, hrun, hm, hcs, hrow⟩ := buildSlice_run (P := P) (w := w) hu hinf hz hi hsz hzl hbig vals dvs hl hp hf hok
  have hno : h w.heap.size = none := by
    cases hx : h w.heap.size with
    | none => rfl
    | some o => have := lt_of_some (hi.view _ _ hx); omega
  have hle : HLe h (fun b => if b = w.heap.size then some (.cells cells e) else h b) := by
    intro b o eb
    have hne : b ≠ w.heap.size := by rintro rfl; rw [hno] at eb; cases eb
    show (if b = w.heap.size then _ else h b) = some o
    rw [if_neg hne]; exact eb
  have hnew : (w.alloc (.cells cells e)).heap[w.heap.size]? = some (.cells cells e) := heap_alloc_new w _
  refine ⟨_, _, fun b => if b = w.heap.size then some (.cells cells e) else h b, hrun, hle, ?_, ?_⟩
  · refine .list _ len len _ inf.size (fun i j => (cells[i * inf.size + j]?).getD undef) (by simp) (Nat.le_refl _) (fun e => by cases e) (fun i ds e1 => (hrow i ds e1).1) ?_ ?_ ?_
    · intro i ds j d e1 e2
      obtain ⟨v, k1, k2, k3⟩ := (hrow i ds e1).2 j d e2
      refine ⟨_, rfl, ?_⟩
      rw [add_at]
      unfold hcell
      simp only [if_true, Nat.zero_add, k1, Option.getD_some]
      rfl
    · intro i ds j d e1 e2
      obtain ⟨v, k1, k2, k3⟩ := (hrow i ds e1).2 j d e2
      show ((cells[i * inf.size + j]?).getD undef).oneCell' = true
      rw [k1]; exact k2
    · intro i ds j d e1 e2
      obtain ⟨v, k1, k2, k3⟩ := (hrow i ds e1).2 j d e2
      show Rep _ β ((cells[i * inf.size + j]?).getD undef) d
      rw [k1]; exact plain_rep (List.all_eq_true.1 hpl _ (mem_piece e1 d (List.mem_of_getElem? e2))) k3
  · refine inv_call hi ((Below.refl _ _).alloc (Nat.le_refl _) _) ?_ hle ?_
    · intro b o eb
      by_cases hb : b = w.heap.size
      · subst hb
        rw [if_pos rfl] at eb; rw [← eb]; exact hnew
      · rw [if_neg hb] at eb
        have hv := hi.view _ _ eb
        rw [Below.heap_alloc w _ b (lt_of_some hv)]; exact hv
    · intro b o eb
      by_cases hb : b = w.heap.size
      · right; omega
      · rw [if_neg hb] at eb
        exact .inl ⟨eb, lt_of_some (hi.view _ _ eb)⟩

end Go.Pv
