/- cursor's reading: what is done in it is done, or (if it gives up) nothing: here where it does not give up. -/
import Derived.Test.YthbjeeipeadilaaGreatPvY
import Derived.Test.YthbjeeipeadilaaGreatProg
import Derived.Recover
set_option linter.unusedSimpArgs false
set_option linter.unusedVariables false
namespace Go.Pv
open Go Go.RowKit
variable {P : Program} {n : Nat}
theorem putK_some {t : Nat} {d : DV} {st : PSt} {K : PSt → Prop} (hn : Nat.blt t n = true) (h : K ⟨upd st.env t d, st.σ⟩) : putK n (some t) d st K := by rw [putK_eq]; exact bif_of hn h
theorem pops_step {ops : Array Oper} {o : Oper} {rest : List Oper} {G : Kn} {st : PSt} {K : PSt → Prop} {t : Nat} (d : DV) (σ' : Objs) (hg : o.guard = none) (hk : knownPick G o.op = none) (hb : nilB P none o st.env st.σ = false) (hd : o.dst = some t) (hn : Nat.blt t n = true)
    (hv : ∀ K : DV → Objs → Prop, K d σ' → vop P none o st.env st.σ K) (h : pops P n none ops rest ((t, none) :: G) ⟨upd st.env t d, σ'⟩ K) : pops P n none ops (o :: rest) G st K := by
  rw [pops_eq]; simp only [hg, hk]; rw [pop_eq hb]; refine hv _ ?_; rw [hd]; exact putK_some hn h
theorem pops_step0 {ops : Array Oper} {o : Oper} {rest : List Oper} {G : Kn} {st : PSt} {K : PSt → Prop} (d : DV) (σ' : Objs) (hg : o.guard = none) (hk : knownPick G o.op = none) (hb : nilB P none o st.env st.σ = false) (hd : o.dst = none)
    (hv : ∀ K : DV → Objs → Prop, K d σ' → vop P none o st.env st.σ K) (h : pops P n none ops rest G ⟨st.env, σ'⟩ K) : pops P n none ops (o :: rest) G st K := by
  rw [pops_eq]; simp only [hg, hk]; rw [pop_eq hb]; refine hv _ ?_; rw [hd, putK_eq]; exact h
theorem pops_stepG {ops : Array Oper} {o : Oper} {rest : List Oper} {G : Kn} {st : PSt} {K : PSt → Prop} {j t s : Nat} {want : Bool} (d : DV) (σ' : Objs) (hg : o.guard = some (j, want)) (ht : (ops[j]?).bind (·.dst) = some t) (hgl : gl G t = none) (he : st.env t = .bool want)
    (hk : knownPick ((t, some (some want)) :: G) o.op = none) (hb : nilB P none o st.env st.σ = false) (hd : o.dst = some s) (hn : Nat.blt s n = true)
    (hv : ∀ K : DV → Objs → Prop, K d σ' → vop P none o st.env st.σ K) (h : pops P n none ops rest ((s, none) :: (t, some (some want)) :: G) ⟨upd st.env s d, σ'⟩ K) : pops P n none ops (o :: rest) G st K := by
  rw [pops_eq]; simp only [hg, ht, hgl, he, hk]
  refine ⟨fun _ => by rw [pop_eq hb]; refine hv _ ?_; rw [hd]; exact putK_some hn h, fun e => by cases want <;> cases e⟩
theorem pops_stepH {ops : Array Oper} {o : Oper} {rest : List Oper} {G : Kn} {st : PSt} {K : PSt → Prop} {j t s : Nat} {want : Bool} (d : DV) (σ' : Objs) (hg : o.guard = some (j, want)) (ht : (ops[j]?).bind (·.dst) = some t) (hgl : gl G t = some (some want))
    (hk : knownPick G o.op = none) (hb : nilB P none o st.env st.σ = false) (hd : o.dst = some s) (hn : Nat.blt s n = true)
    (hv : ∀ K : DV → Objs → Prop, K d σ' → vop P none o st.env st.σ K) (h : pops P n none ops rest ((s, none) :: G) ⟨upd st.env s d, σ'⟩ K) : pops P n none ops (o :: rest) G st K := by
  rw [pops_eq]; simp only [hg, ht, hgl, beq_self_eq_true, cond_true, hk]; rw [pop_eq hb]; refine hv _ ?_; rw [hd]; exact putK_some hn h
theorem pops_move {ops : Array Oper} {o : Oper} {rest : List Oper} {G : Kn} {st : PSt} {K : PSt → Prop} {x : Operand} {t : Nat} {g : Option (Option Bool)} (hg : o.guard = none) (hk : knownPick G o.op = some x) (hd : o.dst = some t) (hn : Nat.blt t n = true) (hx : knownOf G x = g)
    (h : pops P n none ops rest ((t, g) :: G) ⟨upd st.env t (ev st.env x), st.σ⟩ K) : pops P n none ops (o :: rest) G st K := by
  rw [pops_eq]; simp only [hg, hk]; rw [hd, hx]; exact putK_some hn h
theorem wl_step {ops : Array Oper} {Q : Exit → Act → World → Prop} {o : Oper} {rest : List Oper} {a : Act} {w w' : World} {v : Value} (hg : o.guard = none) (hr : (execOp a.eval o).run P w = .ok (.value v) w') (h : wpList P ops Q rest (a.put o.dst v) w') : wpList P ops Q (o :: rest) a w := by
  unfold wpList
  rw [if_pos (by simp [Region.wanted, hg])]
  exact .inl (wp_value hr h)
theorem wl_defer {ops : Array Oper} {Q : Exit → Act → World → Prop} {o : Oper} {rest : List Oper} {a : Act} {w w' : World} {d : Deferred} (hg : o.guard = none) (hr : (execOp a.eval o).run P w = .ok (.defer d) w')
    (h : wpList P ops Q rest ({ a with defers := d :: a.defers }.put o.dst undef) w') : wpList P ops Q (o :: rest) a w := by
  unfold wpList
  rw [if_pos (by simp [Region.wanted, hg])]
  refine .inl ?_
  unfold Oper.wp; rw [hr]; exact h
theorem set_last {σ : Objs} {x y : Option PO} : (σ ++ [x]).set σ.length y = σ ++ [y] := by
  apply List.ext_getElem?
  intro i
  rw [List.getElem?_set]
  by_cases hi : σ.length = i
  · subst hi; simp
  · rw [if_neg hi, List.getElem?_append, List.getElem?_append]
    by_cases hl : i < σ.length
    · rw [if_pos hl, if_pos hl]
    · rw [if_neg hl, if_neg hl, List.getElem?_eq_none (by simp; omega), List.getElem?_eq_none (by simp; omega)]
theorem res_none {fn : Func} (h : fn.results = #[]) (tmps : Array Value) (w : World) : (results fn tmps).run P w = .ok (.tuple #[]) w := by
  unfold results; rw [h]; simp
theorem opsS_step {ops : Array Oper} {Q : Exit → Act → List Frame → World → Prop} {i : Nat} {rest : List Nat} {a : Act} {cs : List Frame} {w : World} {o : Oper} {v : Value} {a' : Act} (ho : ops.toList[i]? = some o) (hg : o.guard = none) (hr : (execOp a.eval o).run P w = .ok (.value v) w)
    (ha : a.put o.dst v = a') (h : wpOpsS P ops Q rest a' cs w) : wpOpsS P ops Q (i :: rest) a cs w := by
  rw [Array.getElem?_toList] at ho
  have hw : Region.wanted o (yielded ops a.tmps) = true := by simp [Region.wanted, hg]
  simp only [wpOpsS, ho, hw, if_true, hr]; rw [← ha] at h; exact h
theorem opsS_rec {ops : Array Oper} {Q : Exit → Act → List Frame → World → Prop} {i : Nat} {rest : List Nat} {a : Act} {cs : List Frame} {w : World} {o : Oper} {a' : Act} (ho : ops.toList[i]? = some o) (hg : o.guard = none) (hr : (execOp a.eval o).run P w = .ok .recover w)
    (hrec : recoverD cs = none) (ha : a.put o.dst .nilIface = a') (h : wpOpsS P ops Q rest a' cs w) : wpOpsS P ops Q (i :: rest) a cs w := by
  rw [Array.getElem?_toList] at ho
  have hw : Region.wanted o (yielded ops a.tmps) = true := by simp [Region.wanted, hg]
  simp only [wpOpsS, ho, hw, if_true, hr, hrec]; rw [← ha] at h; exact h
end Go.Pv
namespace Go.Proofs.YthbjeeipeadilaaGreat
open Go Go.Pv Go.RowKit
set_option maxRecDepth 10000
abbrev rdF : Nat := 145
abbrev rdT : Nat := 192
abbrev rdP : Nat := 131
/-- A reader that is well. -/
def rdO (b : DV) (at_ : Int) : PO := ⟨false, 3, rdT, [[b, .int .i64 at_, .int .i64 0]]⟩
def rdBox (rid : Nat) : PO := ⟨false, 1, rdP, [[.pobj rid 0 0]]⟩
def frBox (at_ : Int) : PO := ⟨false, 1, 3, [[.int .i64 at_]]⟩


theorem obj_snoc {σ : Objs} {x : Option PO} {id : Nat} {po : PO} (h : obj σ id = some po) : obj (σ ++ [x]) id = some po := (obj_append (obj_lt h)).trans h
def codeOf (fn : Func) : Code := fn.body.getD .skip
def rdE0 (rid g : Nat) (cs : List DV) : Env := env0 [.pobj rid 0 0, .func (.func g) [] cs]
/-- The deferred call, where nothing panics: it leaves all as it is. -/
theorem rd_end (v4 v2 : Value) (w : World) : CallsD Tryz.prog 206 #[v4, v2] .returning w fun e u' w' => u' = .returning ∧ w' = w ∧ ∃ v, e = .returned v := by
  refine callsD_of_wpS Tryz.func206 rfl fun c₀ cs hu => ?_
  have hrec : recoverD (c₀ :: cs) = none := by simp [recoverD, hu]
  refine wpS_seq (wpS_region ?_)
  show wpOpsS _ _ _ [0, 1, 2, 3, 4, 5, 6] { tmps := #[v4, v2, undef, undef, undef, undef, undef, undef, undef, undef, undef, undef, undef, undef, undef, undef, undef, undef], defers := [] } _ _
  refine opsS_rec (a' := { tmps := #[v4, v2, undef, undef, undef, .nilIface, undef, undef, undef, undef, undef, undef, undef, undef, undef, undef, undef, undef], defers := [] }) rfl rfl rfl hrec rfl ?_
  refine opsS_step (a' := { tmps := #[v4, v2, undef, undef, undef, .nilIface, .tuple #[.int .i64 0, .bool false], undef, undef, undef, undef, undef, undef, undef, undef, undef, undef, undef], defers := [] }) (v := .tuple #[.int .i64 0, .bool false]) rfl rfl rfl rfl ?_
  refine opsS_step (a' := { tmps := #[v4, v2, undef, undef, .tuple #[.int .i64 0, .bool false], .nilIface, .tuple #[.int .i64 0, .bool false], undef, undef, undef, undef, undef, undef, undef, undef, undef, undef, undef], defers := [] }) (v := .tuple #[.int .i64 0, .bool false]) rfl rfl rfl rfl ?_
  refine opsS_step (a' := { tmps := #[v4, v2, undef, undef, .tuple #[.int .i64 0, .bool false], .nilIface, .tuple #[.int .i64 0, .bool false], .int .i64 0, undef, undef, undef, undef, undef, undef, undef, undef, undef, undef], defers := [] }) (v := .int .i64 0) rfl rfl rfl rfl ?_
  refine opsS_step (a' := { tmps := #[v4, v2, undef, undef, .tuple #[.int .i64 0, .bool false], .nilIface, .tuple #[.int .i64 0, .bool false], .int .i64 0, .bool false, undef, undef, undef, undef, undef, undef, undef, undef, undef], defers := [] }) (v := .bool false) rfl rfl rfl rfl ?_
  refine opsS_step (a' := { tmps := #[v4, v2, .int .i64 0, undef, .tuple #[.int .i64 0, .bool false], .nilIface, .tuple #[.int .i64 0, .bool false], .int .i64 0, .bool false, undef, undef, undef, undef, undef, undef, undef, undef, undef], defers := [] }) (v := .int .i64 0) rfl rfl rfl rfl ?_
  refine opsS_step (a' := { tmps := #[v4, v2, .int .i64 0, .bool false, .tuple #[.int .i64 0, .bool false], .nilIface, .tuple #[.int .i64 0, .bool false], .int .i64 0, .bool false, undef, undef, undef, undef, undef, undef, undef, undef, undef], defers := [] }) (v := .bool false) rfl rfl rfl rfl ?_
  refine wpS_seq (wpS_region ?_)
  show wpOpsS _ _ _ [0] _ _ _
  refine opsS_step (a' := { tmps := #[v4, v2, .int .i64 0, .bool false, .tuple #[.int .i64 0, .bool false], .nilIface, .tuple #[.int .i64 0, .bool false], .int .i64 0, .bool false, .bool false, undef, undef, undef, undef, undef, undef, undef, undef], defers := [] }) (v := .bool false) rfl rfl rfl rfl ?_
  refine wpS_cond (t := false) rfl ?_
  refine wpS_of_wp (wp_skip ?_)
  exact ⟨rfl, .returning, by rw [← hu], .tuple #[], res_none rfl _ _, rfl, rfl, _, rfl⟩

theorem rd_S {σ : Objs} {rid : Nat} {b : DV} {at_ : Int} {g : Nat} {cs : List DV} {σ2 : Objs} {dr : DV} (ho : obj σ rid = some (rdO b at_))
    (hc : FnS Tryz.prog g cs (σ ++ [some (rdBox rid)] ++ [some (frBox at_)]) (fun d s => d = dr ∧ s = σ2)) : FnS Tryz.prog rdF [.pobj rid 0 0, .func (.func g) [] cs] σ (fun d s => d = .tup [] ∧ s = σ2) := by
  intro w0 h0 β0 vs hi hsz hrep
  refine .inl ⟨Tryz.f145, _, Tryz.func145, rfl, rfl, calls_of_wp_defers Tryz.func145 rfl ?_⟩
  have hs : Sim ⟨w0, h0, σ.length, β0, []⟩ 21 _ _ w0 := sim_startS (m := 21) hi hsz (Nat.le_of_ble_eq_true rfl) hrep
  have ho1 : obj (σ ++ [some (rdBox rid)]) rid = some (rdO b at_) := obj_snoc ho
  have ho2 : obj (σ ++ [some (rdBox rid)] ++ [some (frBox at_)]) rid = some (rdO b at_) := obj_snoc ho1
  have hb1 : obj (σ ++ [some (rdBox rid)]) σ.length = some (rdBox rid) := obj_new
  show Code.wp _ (Code.seq (.region _ _ false) (Code.seq (Code.seq (.region _ _ false) (.cond _ .ret .skip)) (Code.seq (.region _ _ false) (Code.seq (.region _ _ false) (.region _ _ false))))) _ _ _
  refine wp_seq (wp_region_list (pops_start (det := none) (K := fun st' => st' = ⟨upd (env0 [.pobj rid 0 0, .func (.func g) [] cs]) 2 (.pobj σ.length 0 0), σ ++ [some (rdBox rid)]⟩) ?_ hs ?_))
  · refine pops_step (.pobj σ.length 0 0) (σ ++ [some (rdBox rid)]) rfl rfl rfl rfl rfl (fun K h => ?_) rfl
    refine bif_of (by simp [boxOk, cellOk, cellsD, env0, ev, ho, cellTy]) h
  rintro _ a1 w1 hs1 rfl
  refine wp_seq (wp_seq (wp_region_list (pops_start (det := none) (K := fun st' => ∃ e, st' = ⟨e, σ ++ [some (rdBox rid)]⟩ ∧ e 1 = .func (.func g) [] cs ∧ e 2 = .pobj σ.length 0 0 ∧ e 13 = .bool false) ?_ hs1 ?_)))
  · refine pops_step (.pobj rid 0 0) (σ ++ [some (rdBox rid)]) rfl rfl rfl rfl rfl (fun K h => optK_of hb1 (optK_of rfl h)) ?_
    refine pops_step (.bool false) (σ ++ [some (rdBox rid)]) rfl rfl rfl rfl rfl (fun K h => bif_of (by simp [eqNeed, isObj, ho1, ev, upd, ofV, ofV1]) h) ?_
    refine pops_move rfl rfl rfl rfl rfl ?_
    refine pops_stepG (.pobj rid 0 0) (σ ++ [some (rdBox rid)]) rfl rfl rfl rfl rfl rfl rfl rfl (fun K h => optK_of hb1 (optK_of rfl h)) ?_
    refine pops_stepH (.pobj rid 0 0) (σ ++ [some (rdBox rid)]) rfl rfl rfl rfl rfl rfl rfl (fun K h => optK_of ho1 h) ?_
    refine pops_stepH (.pobj rid 0 2) (σ ++ [some (rdBox rid)]) rfl rfl rfl rfl rfl rfl rfl (fun K h => optK_of ho1 h) ?_
    refine pops_stepH (.int .i64 0) (σ ++ [some (rdBox rid)]) rfl rfl rfl rfl rfl rfl rfl (fun K h => optK_of ho1 (optK_of rfl h)) ?_
    refine pops_stepH (.bool false) (σ ++ [some (rdBox rid)]) rfl rfl rfl rfl rfl rfl rfl (fun K h => h) ?_
    refine pops_move rfl rfl rfl rfl rfl ?_
    exact ⟨_, rfl, rfl, rfl, rfl⟩
  rintro _ a2 w2 hs2 ⟨e, rfl, he1, he2, he13⟩
  have hc13 : a2.eval (.tmp 13) = .bool false := by
    obtain ⟨_, _, h, β, _, hr⟩ := hs2
    have := hr 13
    simp only at this
    rw [he13] at this
    exact rep_toV rfl this
  refine wp_cond_false hc13 (wp_skip ?_)
  have hz : zeroC Tryz.prog 3 = some [.int .i64 0] := by kernel_rfl
  refine wp_seq (wp_region_list (pops_start (det := none) (K := fun st' => ∃ e', st' = ⟨e', σ ++ [some (rdBox rid)] ++ [some (frBox at_)]⟩ ∧ e' 1 = .func (.func g) [] cs) ?_ hs2 ?_))
  · refine pops_step (.pobj rid 0 0) (σ ++ [some (rdBox rid)]) rfl rfl rfl rfl rfl (fun K h => ?_) ?_
    · show vop _ none _ e _ K
      unfold vop
      simp only [ev, he2]
      exact optK_of hb1 (optK_of rfl h)
    refine pops_step (.pobj rid 0 0) (σ ++ [some (rdBox rid)]) rfl rfl rfl rfl rfl (fun K h => optK_of ho1 h) ?_
    refine pops_step (.pobj rid 0 1) (σ ++ [some (rdBox rid)]) rfl rfl rfl rfl rfl (fun K h => optK_of ho1 h) ?_
    refine pops_step (.int .i64 at_) (σ ++ [some (rdBox rid)]) rfl rfl rfl rfl rfl (fun K h => optK_of ho1 (optK_of rfl h)) ?_
    refine pops_step (.pobj (σ ++ [some (rdBox rid)]).length 0 0) (σ ++ [some (rdBox rid)] ++ [some ⟨false, 1, 3, [[.int .i64 0]]⟩]) rfl rfl rfl rfl rfl (fun K h => by unfold vop; simp only [hz, optK]; exact h) ?_
    refine pops_step0 .junk (σ ++ [some (rdBox rid)] ++ [some (frBox at_)]) rfl rfl rfl rfl (fun K h => optK_of (obj_new (x := ⟨false, 1, 3, [[.int .i64 0]]⟩)) (optK_of (y := [.int .i64 0]) rfl (bif_of rfl ?_))) ?_
    · show K .junk (List.set _ _ _)
      rw [set_last]; exact h
    exact ⟨_, rfl, he1⟩
  rintro _ a3 w3 hs3 ⟨e3, rfl, he3⟩
  obtain ⟨hd3, hn3, h3, β3, hi3, hr3⟩ := hs3
  simp only at hd3 hi3 hr3
  -- the call that is deferred
  obtain ⟨fv, hfv⟩ : ∃ fv, fv = Value.func (.func 206) #[] #[a3.eval (.tmp 4), a3.eval (.tmp 2)] := ⟨_, rfl⟩
  obtain ⟨df, hdf⟩ : ∃ df : Deferred, df = { target := .fn (.func 206) #[a3.eval (.tmp 4), a3.eval (.tmp 2)], args := #[] } := ⟨_, rfl⟩
  have hm2 : (#[Operand.tmp 4, Operand.tmp 2].map a3.eval) = #[a3.eval (.tmp 4), a3.eval (.tmp 2)] := by simp
  have hm0 : (#[].map a3.eval) = (#[] : Array Value) := by simp
  have hev : (a3.put (some 18) fv).eval (.tmp 18) = fv := by
    show (a3.put (some 18) fv).tmps.getD 18 undef = fv
    rw [getD_put _ _ _ _ (by omega), if_pos rfl]
  refine wp_seq (wp_region_list (wl_step (v := fv) (w' := w3) rfl (by rw [hfv, ← hm0, ← hm2]; rfl) (wl_defer (d := df) (w' := w3) rfl ?_ ?_)))
  · show (do pure (Next.defer (← resolve (a3.put (some 18) fv).eval _ _)) : Sem Next).run _ _ = _
    generalize (a3.put (some 18) fv).eval = ρ at hev ⊢
    simp only [resolve, hev]
    rw [hfv, hdf]
    simp [Deferred.ofValue]
  show Code.wp _ _ _ _ _
  let C' : Ctx := { w0 := w0, h0 := h0, k := σ.length, β0 := β0, ds := [df] }
  have hs4 : Sim C' 21 ⟨upd e3 18 .junk, σ ++ [some (rdBox rid)] ++ [some (frBox at_)]⟩ ({ a3.put (some 18) fv with defers := df :: (a3.put (some 18) fv).defers }.put none undef) w3 := by
    refine ⟨?_, ?_, h3, β3, inv_ctx (C := ⟨w0, h0, σ.length, β0, []⟩) rfl rfl rfl hi3.hle (fun b o e _ => e) hi3, env_put hr3 (by omega) (.junk _)⟩
    · show df :: (a3.put (some 18) fv).defers = [df]
      rw [show (a3.put (some 18) fv).defers = a3.defers from rfl, hd3]
    · simpa [Act.put] using hn3
  refine wp_region_list (pops_start (det := none) (K := fun st' => st'.σ = σ2) ?_ hs4 ?_)
  · refine pops_move rfl rfl rfl rfl rfl ?_
    refine pops_step dr σ2 rfl rfl rfl rfl rfl (fun K h => ?_) rfl
    refine optK_of (y := (g, cs)) ?_ (callK.id hc h)
    show calleeD _ _ _ = _
    unfold calleeD
    simp only [ev, upd, Nat.beq_eq, cond_true, he3]
    rfl
  rintro ⟨e5, s5⟩ a5 w5 hs5 hσ
  simp only at hσ
  subst hσ
  obtain ⟨hd5, hn5, h5, β5, hi5, hr5⟩ := hs5
  show Leaves _ _ _ _ a5.defers .returning w5
  rw [hd5]
  show Leaves _ _ _ _ [df] .returning w5
  rw [hdf]
  refine leaves_cons (by simp) (f := 206) (args := #[a3.eval (.tmp 4), a3.eval (.tmp 2)]) ?_ ((rd_end _ _ w5).mono ?_)
  · simp [invoke, callFunc, Sem.run_bind, Tryz.func206]
    rfl
  · rintro e' u' w' ⟨rfl, rfl, v, rfl⟩
    exact ⟨.tuple #[], res_none rfl _ _, .tuple #[], rfl, .tup [], s5, h5, β5, ⟨rfl, rfl⟩, inv_ctx (C := C') rfl rfl rfl hi5.hle (fun b o e _ => e) hi5, .tup #[] [] rfl fun i v d e1 e2 => by simp at e2⟩

/-- What is known of it in a run. -/
def readX (ext : CallX) (call : CallX) : CallX := fun f ds σ =>
  bif Nat.beq f rdF then
    (match ds with
     | [.pobj rid 0 0, .func (.func g) [] cs] =>
       (match obj σ rid with
        | some ⟨false, 3, ty, [[b, .int .i64 at_, .int .i64 0]]⟩ => guardX (Nat.beq ty rdT) ((call g cs (σ ++ [some (rdBox rid)] ++ [some (frBox at_)])).bind fun r => some (.tup [], r.2))
        | _ => none)
     | _ => none)
  else ext f ds σ
theorem readOK {ext : CallX} (he : CallOK Tryz.prog ext) : HookOK Tryz.prog (readX ext) := by
  intro call hc f ds σ d σ' h
  unfold readX at h
  cases hf : Nat.beq f rdF with
  | false => rw [hf] at h; exact he f ds σ d σ' h
  | true =>
    rw [hf] at h
    have hf := Nat.eq_of_beq_eq_true hf
    subst hf
    simp only [cond_true] at h
    split at h
    case h_2 => cases h
    rename_i rid g cs
    split at h
    case h_2 => cases h
    rename_i ty b at_ ho
    obtain ⟨hty, h⟩ := guardX_some h
    have hty := Nat.eq_of_beq_eq_true hty
    subst hty
    obtain ⟨⟨dr, σ2⟩, hr, h⟩ := bindX h
    obtain ⟨e1, e2⟩ := inj2 h
    subst e1; subst e2
    exact rd_S ho (hc _ _ _ _ _ hr)
end Go.Proofs.YthbjeeipeadilaaGreat
