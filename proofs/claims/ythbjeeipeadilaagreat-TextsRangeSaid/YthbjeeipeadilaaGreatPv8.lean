/- The walk over pure values: a region with guards, told at once, is sound. -/
import Derived.Test.YthbjeeipeadilaaGreatPv6
set_option linter.unusedSimpArgs false
set_option linter.unusedVariables false
namespace Go.Pv
open Go Go.RowKit
variable {P : Program} {C : Ctx} {n : Nat} {h : Hp} {β : Nat → Bl} {w : World} {a : Act}

def onP (e : Env) (p : List (Nat × Bool)) : Prop := ∀ x ∈ p, e x.1 = .bool x.2

structure SInv (C : Ctx) (n : Nat) (h : Hp) (β : Nat → Bl) (G : Paths) (st : PSt) (a : Act) (w : World) : Prop where
  defers : a.defers = C.ds
  size : a.tmps.size = n
  inv : Inv C st.σ h β w
  on : ∀ t, onP st.env (pth G t) → Rep h β (a.tmps.getD t undef) (st.env t)
  off : ∀ t, ¬ onP st.env (pth G t) → a.tmps.getD t undef = undef

theorem subP_on {e : Env} {q p : List (Nat × Bool)} (h : subP q p = true) (hp : onP e p) : onP e q := by
  intro x hx
  have := List.all_eq_true.1 h x hx
  obtain ⟨y, hy, h2⟩ := List.any_eq_true.1 this
  rw [Bool.and_eq_true] at h2
  have h1 := Nat.eq_of_beq_eq_true h2.1
  have h3 : y.2 = x.2 := by simpa using h2.2
  have := hp y hy
  rwa [h1, h3] at this

theorem pth_mem : ∀ {G : Paths} {t : Nat} {x : Nat × Bool}, x ∈ pth G t → ∃ q ∈ G, q.1 = t ∧ x ∈ q.2
  | (s, p) :: G, t, x, hx => by
    simp only [pth] at hx
    cases hb : Nat.beq t s with
    | true => rw [hb] at hx; exact ⟨(s, p), List.mem_cons_self .., (Nat.eq_of_beq_eq_true hb).symm, hx⟩
    | false => rw [hb] at hx; obtain ⟨q, h1, h2⟩ := pth_mem hx; exact ⟨q, List.mem_cons_of_mem _ h1, h2⟩

theorem beq_self (t : Nat) : Nat.beq t t = true := Nat.beq_refl t

theorem fresh_key : ∀ {G : Paths} {d : Nat}, freshP G d = true → pth G d = []
  | [], _, _ => rfl
  | (s, p) :: G, d, hf => by
    simp only [freshP, List.all_cons, Bool.and_eq_true] at hf
    simp only [pth]
    cases hb : Nat.beq d s with
    | true => rw [hb] at hf; exact absurd hf.1.1 (by simp)
    | false => exact fresh_key (G := G) hf.2
theorem fresh_path {G : Paths} {d : Nat} (hf : freshP G d = true) {t : Nat} {x : Nat × Bool} (hx : x ∈ pth G t) : x.1 ≠ d := by
  obtain ⟨q, hq, _, h2⟩ := pth_mem hx
  have := List.all_eq_true.1 hf q hq
  rw [Bool.and_eq_true] at this
  have := List.all_eq_true.1 this.2 x h2
  rintro rfl
  rw [beq_self] at this; cases this

theorem onP_upd {e : Env} {d : Nat} {v : DV} {p : List (Nat × Bool)} (hd : ∀ x ∈ p, x.1 ≠ d) : onP (upd e d v) p ↔ onP e p := by
  have key : ∀ x ∈ p, upd e d v x.1 = e x.1 := by
    intro x hx
    simp only [upd]
    cases hb : Nat.beq x.1 d with
    | true => exact absurd (Nat.eq_of_beq_eq_true hb) (hd x hx)
    | false => rfl
  exact ⟨fun h x hx => by rw [← key x hx]; exact h x hx, fun h x hx => by rw [key x hx]; exact h x hx⟩

theorem SInv.put {G G' : Paths} {st : PSt} (hs : SInv C n h β G st a w) {h' : Hp} {β' : Nat → Bl} {w' : World} {σ' : Objs} (hi : Inv C σ' h' β' w') (hh : HLe h h') (hb : BLe β β') {s : Nat} {p : List (Nat × Bool)}
    (hf : freshP G s = true) (hsn : s < n) (hp : ∀ x ∈ p, x.1 ≠ s) (hG : pth G' s = p) (hG' : ∀ t, t ≠ s → pth G' t = pth G t) {v : Value} {d : DV}
    (hon : onP st.env p → Rep h' β' v d) (hoff : ¬ onP st.env p → v = undef) : SInv C n h' β' G' ⟨upd st.env s d, σ'⟩ (a.put (some s) v) w' := by
  refine ⟨by simpa [Act.put] using hs.defers, by simpa [Act.put] using hs.size, hi, ?_, ?_⟩
  · intro t ht
    have hsz := hs.size
    rw [getD_put _ _ _ _ (by omega)]
    by_cases hts : t = s
    · subst hts
      rw [if_pos rfl]
      rw [hG] at ht
      have := hon ((onP_upd hp).1 ht)
      simpa [upd, beq_self] using this
    · rw [if_neg hts]
      rw [hG' t hts] at ht
      have hb' : Nat.beq t s = false := by
        cases hq : Nat.beq t s with
        | true => exact absurd (Nat.eq_of_beq_eq_true hq) hts
        | false => rfl
      have := (hs.on t ((onP_upd fun x hx => fresh_path hf hx).1 ht)).mono hh hb
      simpa [upd, hb'] using this
  · intro t ht
    have hsz := hs.size
    rw [getD_put _ _ _ _ (by omega)]
    by_cases hts : t = s
    · subst hts
      rw [if_pos rfl]
      rw [hG] at ht
      exact hoff fun hq => ht ((onP_upd hp).2 hq)
    · rw [if_neg hts]
      rw [hG' t hts] at ht
      exact hs.off t fun hq => ht ((onP_upd fun x hx => fresh_path hf hx).2 hq)

open Classical in
noncomputable def onE (G : Paths) (e : Env) : Env := fun t => if onP e (pth G t) then e t else .junk

theorem SInv.rep {G : Paths} {st : PSt} (hs : SInv C n h β G st a w) (t : Nat) : Rep h β (a.tmps.getD t undef) (onE G st.env t) := by
  unfold onE
  split
  · rename_i hq; exact hs.on t hq
  · exact .junk _

theorem opd_on {G : Paths} {e : Env} {p : List (Nat × Bool)} {x : Operand} (hx : opdP G p x = true) (hp : onP e p) : ev e x = ev (onE G e) x := by
  cases x with
  | tmp t => simp only [ev, onE]; rw [if_pos (subP_on hx hp)]
  | _ => rfl

theorem onP_nil {e : Env} : onP e [] := fun x hx => by cases hx
theorem onP_cons {e : Env} {x : Nat × Bool} {p : List (Nat × Bool)} : onP e (x :: p) ↔ e x.1 = .bool x.2 ∧ onP e p :=
  ⟨fun h => ⟨h x (List.mem_cons_self ..), fun y hy => h y (List.mem_cons_of_mem _ hy)⟩, fun h y hy => by
    rcases List.mem_cons.1 hy with rfl | hy
    · exact h.1
    · exact h.2 y hy⟩

theorem pick_run {G : Paths} {st : PSt} (hs : SInv C n h β G st a w) {o : Oper} {c : Nat} {x y : Operand} (ho : o.op = .pick (.tmp c) x y) {p : List (Nat × Bool)} (hp : onP st.env p)
    (hc : subP (pth G c) p = true) (hx : opdP G ((c, true) :: p) x = true) (hy : opdP G ((c, false) :: p) y = true) {g u v : Bool} (eg : st.env c = .bool g) (eu : ev st.env x = .bool u) (ew : ev st.env y = .bool v) :
    (execOp a.eval o).run P w = .ok (.value (.bool (bif g then u else v))) w := by
  have hcv : a.tmps.getD c undef = .bool g := by
    have := hs.on c (subP_on hc hp)
    rw [eg] at this
    exact rep_toV rfl this
  have hval : ∀ (z : Operand) (b : Bool), opdP G ((c, g) :: p) z = true → ev st.env z = .bool b → a.eval z = .bool b := by
    intro z b hz ez
    have := rep_ev (a := a) (fun t => hs.rep t) z
    rw [← opd_on hz (onP_cons.2 ⟨eg, hp⟩), ez] at this
    exact rep_toV rfl this
  unfold execOp; rw [ho]
  simp only [Act.eval, hcv]
  cases g with
  | true =>
    have := hval x u hx eu
    simp only [Act.eval] at this
    simp only [cond_true]
    rw [← this]; rfl
  | false =>
    have := hval y v hy ew
    simp only [Act.eval] at this
    simp only [cond_false]
    rw [← this]; rfl

theorem specs_sound {ops : Array Oper} {Q : Exit → Act → World → Prop} : ∀ (l : List Oper) (G : Paths) (st : PSt) (K : Paths → PSt → Prop) (h : Hp) (β : Nat → Bl) (a : Act) (w : World), specs P n ops l G st K → SInv C n h β G st a w →
    (∀ G' st' h' β' a' w', SInv C n h' β' G' st' a' w' → K G' st' → Q .normal a' w') → wpList P ops Q l a w
  | [], G, st, K, h, β, a, w, hk, hs, hq => hq _ _ _ _ _ _ hs hk
  | o :: rest, G, st, K, h, β, a, w, hk, hs, hq => by
    rw [specs_eq] at hk
    unfold wpList
    cases hdst : o.dst with
    | none =>
      rw [hdst] at hk
      simp only at hk
      cases hgd : o.guard with
      | some jw => rw [hgd] at hk; exact hk.elim
      | none =>
        rw [hgd] at hk
        simp only at hk
        obtain ⟨hb, hk⟩ := bif_true hk
        rw [Bool.and_eq_true, List.all_eq_true] at hb
        rw [if_pos (by simp [Region.wanted, hgd])]
        refine .inl ?_
        have hk := vop_congr (e' := onE G st.env) (fun x hx => opd_on (hb.2 x (by simpa using hx)) onP_nil) hk
        refine vop_sound hk hs.inv hs.rep fun v d' σ' h' β' w' hi' hh hbb hr hk' => ?_
        rw [hdst]
        refine specs_sound rest G ⟨st.env, σ'⟩ K h' β' _ w' hk' ?_ hq
        exact ⟨hs.defers, hs.size, hi', fun t ht => (hs.on t ht).mono hh hbb, hs.off⟩
    | some d =>
    rw [hdst] at hk
    simp only at hk
    obtain ⟨hfb, hk⟩ := bif_true hk
    rw [Bool.and_eq_true] at hfb
    obtain ⟨hf, hdn⟩ := hfb
    have hdn := blt_true hdn
    have hG0 := fresh_key hf
    cases hgd : o.guard with
    | none =>
      rw [hgd] at hk
      simp only at hk
      rw [if_pos (by simp [Region.wanted, hgd])]
      refine .inl ?_
      split at hk
      · rename_i c x y ho
        obtain ⟨hb, hk⟩ := bif_true hk
        rw [Bool.and_eq_true, Bool.and_eq_true] at hb
        split at hk
        · rename_i g u v eg eu ew
          refine wp_value (w' := w) (pick_run hs ho onP_nil hb.1.1 hb.1.2 hb.2 eg eu ew) ?_
          rw [hdst]
          exact specs_sound rest G _ K h β _ w hk (hs.put hs.inv (HLe.refl _) (BLe.refl _) hf hdn (p := []) (fun x hx => by cases hx) hG0 (fun _ _ => rfl) (fun _ => .bool _) fun hq => absurd onP_nil hq) hq
        · exact hk.elim
      · obtain ⟨hb, hk⟩ := bif_true hk
        rw [Bool.and_eq_true, List.all_eq_true] at hb
        have hk := vop_congr (e' := onE G st.env) (fun x hx => opd_on (hb.2 x (by simpa using hx)) onP_nil) hk
        refine vop_sound hk hs.inv hs.rep fun v d' σ' h' β' w' hi' hh hbb hr hk' => ?_
        rw [hdst]
        exact specs_sound rest G _ K h' β' _ w' hk' (hs.put hi' hh hbb hf hdn (p := []) (fun x hx => by cases hx) hG0 (fun _ _ => rfl) (fun _ => hr) fun hq => absurd onP_nil hq) hq
    | some jw =>
      obtain ⟨j, want⟩ := jw
      rw [hgd] at hk
      simp only at hk
      split at hk
      · exact hk.elim
      rename_i t ht
      split at hk
      case h_2 => exact hk.elim
      rename_i b hb
      have hw : Region.wanted o (yielded ops a.tmps) = true ↔ onP st.env ((t, want) :: pth G t) := by
        rw [onP_cons]
        by_cases hon : onP st.env (pth G t)
        · have hr := hs.on t hon
          rw [hb] at hr
          have hv' : a.tmps.getD t undef = .bool b := rep_toV rfl hr
          have hlt : t < a.tmps.size := by
            rcases Nat.lt_or_ge t a.tmps.size with hlt | hge
            · exact hlt
            · rw [Array.getD_eq_getD_getElem?, Array.getElem?_eq_none hge] at hv'; cases hv'
          simp only [Region.wanted, hgd, yielded, ht, Option.bind_some]
          rw [Array.getElem?_eq_getElem hlt]
          have : a.tmps[t] = .bool b := by simpa [Array.getD_eq_getD_getElem?, Array.getElem?_eq_getElem hlt] using hv'
          rw [this]; simp [hb, hon]
        · have hu := hs.off t hon
          simp only [Region.wanted, hgd, yielded, ht, Option.bind_some]
          constructor
          · intro e
            exfalso
            cases hx : a.tmps[t]? with
            | none => rw [hx] at e; cases e
            | some v =>
              rw [Array.getD_eq_getD_getElem?, hx] at hu
              simp only [Option.getD_some] at hu
              subst hu
              rw [hx] at e
              cases e
          · exact fun e => absurd e.2 hon
      have hpne : ∀ (hne : Nat.beq d t = false), ∀ x ∈ (t, want) :: pth G t, x.1 ≠ d := by
        intro hne x hx
        rcases List.mem_cons.1 hx with rfl | hx
        · rintro rfl; simp at hne
        · exact fresh_path hf hx
      have hG1 : pth ((d, (t, want) :: pth G t) :: G) d = (t, want) :: pth G t := by simp [pth]
      have hG2 : ∀ s, s ≠ d → pth ((d, (t, want) :: pth G t) :: G) s = pth G s := by
        intro s hsd
        have : Nat.beq s d = false := by
          cases hq : Nat.beq s d with
          | true => exact absurd (Nat.eq_of_beq_eq_true hq) hsd
          | false => rfl
        simp [pth, this]
      split at hk
      · rename_i c x y ho
        obtain ⟨hbb, hk⟩ := bif_true hk
        rw [Bool.and_eq_true, Bool.and_eq_true, Bool.and_eq_true] at hbb
        have hne : Nat.beq d t = false := by simpa using hbb.1.1.1
        split at hk
        · rename_i g u v eg eu ew
          by_cases hon : onP st.env ((t, want) :: pth G t)
          · rw [if_pos (hw.2 hon)]
            refine .inl (wp_value (w' := w) (pick_run hs ho hon hbb.1.1.2 hbb.1.2 hbb.2 eg eu ew) ?_)
            rw [hdst]
            exact specs_sound rest _ _ K h β _ w hk (hs.put hs.inv (HLe.refl _) (BLe.refl _) hf hdn (hpne hne) hG1 hG2 (fun _ => .bool _) fun hq => absurd hon hq) hq
          · rw [if_neg fun e => hon (hw.1 e)]
            exact specs_sound rest _ _ K h β _ w hk (hs.put hs.inv (HLe.refl _) (BLe.refl _) hf hdn (hpne hne) hG1 hG2 (fun hq => absurd hq hon) fun _ => rfl) hq
        · exact hk.elim
      · obtain ⟨hbb, hk⟩ := bif_true hk
        rw [Bool.and_eq_true, Bool.and_eq_true, Bool.and_eq_true, List.all_eq_true] at hbb
        have hne : Nat.beq d t = false := by simpa using hbb.1.1.1
        by_cases hon : onP st.env ((t, want) :: pth G t)
        · rw [if_pos (hw.2 hon)]
          refine .inl ?_
          have hk := vop_congr (e' := onE G st.env) (fun x hx => opd_on (hbb.2 x (by simpa using hx)) hon) hk
          refine vop_sound hk hs.inv hs.rep fun v d' σ' h' β' w' hi' hh hb' hr hk' => ?_
          rw [hdst]
          exact specs_sound rest _ _ K h' β' _ w' hk' (hs.put hi' hh hb' hf hdn (hpne hne) hG1 hG2 (fun _ => hr) fun hq => absurd hon hq) hq
        · rw [if_neg fun e => hon (hw.1 e)]
          obtain ⟨d', σ', hk', hpt⟩ := vop_pt hk
          have := hpt.ro hbb.1.2
          subst this
          exact specs_sound rest _ _ K h β _ w hk' (hs.put hs.inv (HLe.refl _) (BLe.refl _) hf hdn (hpne hne) hG1 hG2 (fun hq => absurd hq hon) fun _ => rfl) hq

theorem guard_sound {id : Nat} {ops : Array Oper} {st : PSt} {K : PSt → Prop} {Q : Exit → Act → World → Prop} (hk : guard0 P n ops st K) (hs : Sim C n st a w)
    (hq : ∀ st' a' w', Sim C n st' a' w' → K st' → Q .normal a' w') : (Code.region id ops false).wp P Q a w := by
  refine wp_region_list ?_
  unfold guard0 at hk
  rcases hk with hk | hk
  · exact pops_start hk hs hq
  · obtain ⟨hd, hn, h, β, hi, he⟩ := hs
    refine specs_sound _ [] st _ h β a w hk ⟨hd, hn, hi, fun t _ => he t, fun t hq => absurd onP_nil hq⟩ ?_
    intro G st' h' β' a' w' hs' hk'
    refine hq ⟨clr G st'.env, st'.σ⟩ _ _ ⟨hs'.defers, hs'.size, h', β', hs'.inv, fun t => ?_⟩ hk'
    simp only [clr]
    split
    · rename_i e; exact hs'.on t (by rw [e]; exact onP_nil)
    · exact .junk _

end Go.Pv
