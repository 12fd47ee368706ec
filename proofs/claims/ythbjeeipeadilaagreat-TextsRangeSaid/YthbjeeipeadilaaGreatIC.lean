/- slices.Clone of a slice that shows nothing. -/
import Derived.Test.YthbjeeipeadilaaGreatPvY
import Derived.Test.YthbjeeipeadilaaGreatProg
namespace Go.Pv
open Go Go.RowKit
variable {P : Program}
/-- A new object that is a nil slice, behind one that is no more. -/
theorem inv_nilobj {C : Ctx} {σ : Objs} {h : Hp} {β : Nat → Bl} {w : World} (sz : Nat) (t : TypeId) (hi : Inv C σ h β w) :
    Inv C (σ ++ [none, some ⟨false, sz, t, []⟩]) h (fun id => if id = σ.length then .dead else if id = σ.length + 1 then .nil else β id) w := by
  have hcase : ∀ {id b sz N K t}, (if id = σ.length then Bl.dead else if id = σ.length + 1 then .nil else β id) = .at b sz N K t → id ≠ σ.length ∧ id ≠ σ.length + 1 ∧ β id = .at b sz N K t := by
    intro id b sz N K t q
    by_cases h1 : id = σ.length
    · rw [if_pos h1] at q; cases q
    · rw [if_neg h1] at q
      by_cases h2 : id = σ.length + 1
      · rw [if_pos h2] at q; cases q
      · rw [if_neg h2] at q; exact ⟨h1, h2, q⟩
  have hlt : ∀ {id b sz N K t}, β id = .at b sz N K t → id < σ.length := by
    intro id b sz N K t q
    rcases Nat.lt_or_ge id σ.length with hl | hg
    · exact hl
    · rw [hi.unborn id hg] at q; cases q
  have hble : BLe β (fun id => if id = σ.length then .dead else if id = σ.length + 1 then .nil else β id) := by
    intro id
    by_cases h1 : id = σ.length
    · exact .inr (.inr (if_pos h1))
    · by_cases h2 : id = σ.length + 1
      · exact .inr (.inl (hi.unborn id (by omega)))
      · exact .inl (by show (if _ then _ else _) = _; rw [if_neg h1, if_neg h2])
  refine { os := hi.os, tape := hi.tape, output := hi.output, size := hi.size, view := hi.view, hle := hi.hle, hnew := hi.hnew, own := fun id b sz N K t q => hi.own _ _ _ _ _ _ (hcase q).2.2, unborn := ?_,
           inj := fun id id' b _ _ _ _ _ _ _ _ q1 q2 => hi.inj _ _ _ _ _ _ _ _ _ _ _ (hcase q1).2.2 (hcase q2).2.2, live := ?_, objs := ?_, frame := hi.frame, gho := ?_, born := ?_ }
  · intro id hg
    simp at hg
    show (if _ then _ else _) = _
    rw [if_neg (by omega), if_neg (by omega)]; exact hi.unborn id (by omega)
  · intro id po e
    by_cases h1 : id < σ.length
    · have e' : obj σ id = some po := by
        unfold obj at e ⊢; rwa [List.getElem?_append_left h1] at e
      rcases hi.live id po e' with ⟨b, K, q⟩ | ⟨q, q2⟩
      · exact .inl ⟨b, K, by show (if _ then _ else _) = _; rw [if_neg (by omega), if_neg (by omega)]; exact q⟩
      · exact .inr ⟨by show (if _ then _ else _) = _; rw [if_neg (by omega), if_neg (by omega)]; exact q, q2⟩
    · unfold obj at e
      rw [List.getElem?_append_right (by omega)] at e
      by_cases h2 : id = σ.length
      · rw [h2, Nat.sub_self] at e; simp at e
      · by_cases h3 : id = σ.length + 1
        · rw [h3, show σ.length + 1 - σ.length = 1 by omega] at e
          simp at e; subst e
          exact .inr ⟨by show (if _ then _ else _) = _; rw [if_neg h2, if_pos h3], rfl⟩
        · rw [List.getElem?_eq_none (by simp; omega)] at e; cases e
  · intro id b sz' N K t' q
    have q' := (hcase q).2.2
    obtain ⟨po, cs, g1, g2, g3, g4, g5, g6, g7, g8⟩ := hi.objs id _ _ _ _ _ q'
    refine ⟨po, cs, ?_, g2, g3, g4, g5, fun i ds e1 => ?_, g7, g8⟩
    · unfold obj at g1 ⊢; rw [List.getElem?_append_left (hlt q')]; exact g1
    · obtain ⟨k1, k2⟩ := g6 i ds e1
      refine ⟨k1, fun j d e2 => ?_⟩
      obtain ⟨u, k3, k4, k5⟩ := k2 j d e2
      exact ⟨u, k3, k4, k5.mono (HLe.refl h) hble⟩
  · intro id hid
    have hk := hi.lent_len
    rcases hi.gho id hid with ⟨q1, q2⟩ | q
    · left
      show (if _ then _ else _) = _ ∧ (if _ then _ else _) ≠ _
      rw [if_neg (by omega), if_neg (by omega)]; exact ⟨q1, q2⟩
    · right
      show (if _ then _ else _) = _
      rw [if_neg (by omega), if_neg (by omega)]; exact q
  · intro id hid
    show (if _ then _ else _) ≠ _
    by_cases h1 : id = σ.length
    · rw [if_pos h1]; intro q; cases q
    · rw [if_neg h1]
      by_cases h2 : id = σ.length + 1
      · rw [if_pos h2]; intro q; cases q
      · rw [if_neg h2]; exact hi.born id (by simp at hid; omega)
theorem FnS.nilobj {f : FuncId} {ds : List DV} {σ : Objs} {sz : Nat} {t : TypeId} (h : FnS P f ds σ (fun d s => (d = .nils ∧ s = σ) ∨ (d = .ref (σ.length + 1) 0 0 ∧ s = σ ++ [none, some ⟨false, sz, t, []⟩]))) :
    FnS P f ds σ (fun d s => d = .ref (σ.length + 1) 0 0 ∧ s = σ ++ [none, some ⟨false, sz, t, []⟩]) := by
  intro w0 h0 β0 vs hi hsz hrep
  have go : ∀ v w, (∃ d σ' h' β', ((d = .nils ∧ σ' = σ) ∨ (d = .ref (σ.length + 1) 0 0 ∧ σ' = σ ++ [none, some ⟨false, sz, t, []⟩])) ∧ Inv ⟨w0, h0, σ.length, β0, []⟩ σ' h' β' w ∧ Rep h' β' v d) →
      ∃ d σ' h' β', (d = .ref (σ.length + 1) 0 0 ∧ σ' = σ ++ [none, some ⟨false, sz, t, []⟩]) ∧ Inv ⟨w0, h0, σ.length, β0, []⟩ σ' h' β' w ∧ Rep h' β' v d := by
    rintro v w ⟨d, σ', h', β', ⟨rfl, rfl⟩ | ⟨rfl, rfl⟩, hj, hr⟩
    · refine ⟨_, _, h', _, ⟨rfl, rfl⟩, inv_nilobj sz t hj, ?_⟩
      cases hr
      exact .refNil _ (by rw [if_neg (by omega), if_pos rfl])
    · exact ⟨_, _, h', β', ⟨rfl, rfl⟩, hj, hr⟩
  rcases h w0 h0 β0 vs hi hsz hrep with ⟨fn, c, h1, h2, h3, h4⟩ | ⟨v, w', h1, h2⟩
  · exact .inl ⟨fn, c, h1, h2, h3, h4.mono fun e w' ⟨v, e1, h5⟩ => ⟨v, e1, go v w' h5⟩⟩
  · exact .inr ⟨v, w', h1, go v w' h2⟩
end Go.Pv
namespace Go.Proofs.YthbjeeipeadilaaGreat
open Go Go.Pv Go.RowKit
set_option linter.unusedSimpArgs false
set_option linter.unusedVariables false
set_option maxRecDepth 10000

theorem pops_nil {P : Program} {n : Nat} {ops : Array Oper} {o1 o2 : Oper} {st : PSt} {K : PSt → Prop} {x : Operand} {d1 d2 : Nat} (h1 : o1.guard = none) (hp : o1.op = .move x) (hd1 : o1.dst = some d1) (hn1 : Nat.blt d1 n = true)
    (h2 : o2.guard = none) (hp2 : ∀ G, knownPick G o2.op = none) (hd2 : o2.dst = some d2) (hn2 : Nat.blt d2 n = true) (hb : nilB P none o2 (upd st.env d1 (ev st.env x)) st.σ = true)
    (hK : ∀ b : Bool, K ⟨upd (upd st.env d1 (ev st.env x)) d2 (.bool b), st.σ⟩) : pops P n none ops [o1, o2] [] st K := by
  rw [pops_eq, h1]
  simp only [show knownPick [] o1.op = some x from by rw [hp]; rfl]
  rw [putK_eq, hd1]
  simp only [hn1, cond_true]
  rw [pops_eq, h2]
  simp only [hp2]
  rw [pop_both hb]
  refine ⟨?_, ?_⟩
  · rw [putK_eq, hd2]; simp only [hn2, cond_true, pops]; exact hK true
  · rw [putK_eq, hd2]; simp only [hn2, cond_true, pops]; exact hK false
theorem pwp_nil {P : Program} {n k id : Nat} {o1 o2 : Oper} {st : PSt} {A B : Code} {K : Exit → PSt → Prop} {x : Operand} {d1 d2 : Nat} (h1 : o1.guard = none) (hp : o1.op = .move x) (hd1 : o1.dst = some d1) (hn1 : Nat.blt d1 n = true)
    (h2 : o2.guard = none) (hp2 : ∀ G, knownPick G o2.op = none) (hd2 : o2.dst = some d2) (hn2 : Nat.blt d2 n = true) (hb : nilB P none o2 (upd st.env d1 (ev st.env x)) st.σ = true)
    (hA : pwp P n k A ⟨upd (upd st.env d1 (ev st.env x)) d2 (.bool true), st.σ⟩ K) (hB : pwp P n k B ⟨upd (upd st.env d1 (ev st.env x)) d2 (.bool false), st.σ⟩ K) :
    pwp P n k (.seq (.region id #[o1, o2] false) (.cond (.tmp d2) A B)) st K := by
  unfold pwp
  simp only [hasCond, cond_false]
  unfold pwp
  have hg : (#[o1, o2] : Array Oper).toList.any (·.guard.isSome) = false := by simp [h1, h2]
  rw [hg]
  simp only [cond_false]
  refine pops_nil h1 hp hd1 hn1 h2 hp2 hd2 hn2 hb fun b => ?_
  unfold pwp
  have e0 : ev (PSt.mk (upd (upd st.env d1 (ev st.env x)) d2 (.bool b)) st.σ).env (.tmp d2) = .bool b := by
    show upd (upd st.env d1 (ev st.env x)) d2 (.bool b) d2 = .bool b
    simp [upd]
  rw [e0]
  cases b with
  | true => exact ⟨fun _ => hA, fun h => by cases h⟩
  | false => exact ⟨(fun h => by cases h), fun _ => hB⟩
theorem cloneE (σ : Objs) (id : Nat) (po : PO) (ho : obj σ id = some po) (he : po.els = []) : FnS Tryz.prog 63 [.ref id 0 0] σ (fun d s => d = .ref (σ.length + 1) 0 0 ∧ s = σ ++ [none, some ⟨false, 1, 37, []⟩]) := by
  refine FnS.nilobj ?_
  have hb : (isObj σ id && !hasEls σ id) = true := by
    unfold isObj hasEls; rw [ho]; simp only [he]; rfl
  have hn : ∀ x : Option PO, obj (σ ++ [x]) σ.length = x := fun x => by
    unfold obj; rw [List.getElem?_append_right (Nat.le_refl _), Nat.sub_self]; cases x <;> rfl
  have hel : ∀ x : Option PO, elsOf (σ ++ [x]) (.ref id 0 0) = some [] := fun x => by
    show Option.map (fun po => (po.els.drop 0).take 0) (obj (σ ++ [x]) id) = some []
    rw [obj_ext ho]; rfl
  have hset : ∀ x p : Option PO, (σ ++ [x]).set σ.length none ++ [p] = σ ++ [none, p] := fun x p => by
    rw [List.set_append_right _ _ (Nat.le_refl _), Nat.sub_self]; simp
  have hlen : ∀ x : Option PO, (σ ++ [x]).length = σ.length + 1 := fun x => by simp
  refine FnS.mk Tryz.func63 rfl rfl (Nat.le_of_ble_eq_true rfl) ?_
  refine joinK.direct ?_
  refine pwp_nil (x := .tmp 0) rfl rfl rfl rfl rfl (fun G => rfl) rfl rfl hb ?_ ?_
  · exact .inl (.inl ⟨rfl, rfl⟩)
  · refine join_go ?_
    refine appK.ref (news := []) rfl rfl (hel _) (hn _) (by kernel_rfl) (by kernel_rfl) rfl .nil (.at 8 rfl (by decide) (by decide)) ?_
    exact .inl (.inr ⟨by rw [hlen]; rfl, hset _ _⟩)
theorem cloneL (σ : Objs) : FnS Tryz.prog 63 [.list []] σ (fun d s => d = .ref (σ.length + 1) 0 0 ∧ s = σ ++ [none, some ⟨false, 1, 37, []⟩]) := by
  refine FnS.nilobj ?_
  have hn : ∀ x : Option PO, obj (σ ++ [x]) σ.length = x := fun x => by
    unfold obj; rw [List.getElem?_append_right (Nat.le_refl _), Nat.sub_self]; cases x <;> rfl
  have hset : ∀ x p : Option PO, (σ ++ [x]).set σ.length none ++ [p] = σ ++ [none, p] := fun x p => by
    rw [List.set_append_right _ _ (Nat.le_refl _), Nat.sub_self]; simp
  have hlen : ∀ x : Option PO, (σ ++ [x]).length = σ.length + 1 := fun x => by simp
  refine FnS.mk Tryz.func63 rfl rfl (Nat.le_of_ble_eq_true rfl) ?_
  refine joinK.direct ?_
  refine pwp_nil (x := .tmp 0) rfl rfl rfl rfl rfl (fun G => rfl) rfl rfl rfl ?_ ?_
  · exact .inl (.inl ⟨rfl, rfl⟩)
  · refine join_go ?_
    refine appK.ref (news := []) rfl rfl rfl (hn _) (by kernel_rfl) (by kernel_rfl) rfl .nil (.at 8 rfl (by decide) (by decide)) ?_
    exact .inl (.inr ⟨by rw [hlen]; rfl, hset _ _⟩)
/-- What is known of slices.Clone at words of which there are none. -/
def cloneX : CallX := fun f ds σ =>
  bif Nat.beq f 63 then
    (match ds with
     | [.ref id 0 0] =>
       match obj σ id with
       | some po => (match po.els with
         | [] => some (.ref (σ.length + 1) 0 0, σ ++ [none, some ⟨false, 1, 37, []⟩])
         | _ => none)
       | none => none
     | [.list []] => some (.ref (σ.length + 1) 0 0, σ ++ [none, some ⟨false, 1, 37, []⟩])
     | _ => none)
  else none
theorem cloneOK : CallOK Tryz.prog cloneX := by
  intro f ds σ d σ' h
  unfold cloneX at h
  cases hf : Nat.beq f 63 with
  | false => rw [hf] at h; cases h
  | true =>
    rw [hf] at h
    have hf := Nat.eq_of_beq_eq_true hf
    subst hf
    simp only [cond_true] at h
    split at h
    · rename_i id
      split at h
      · rename_i po ho
        split at h
        · rename_i he
          injection h with h
          injection h with h1 h2
          subst h1; subst h2
          exact cloneE σ id po ho he
        · cases h
      · cases h
    · injection h with h
      injection h with h1 h2
      subst h1; subst h2
      exact cloneL σ
    · cases h
end Go.Proofs.YthbjeeipeadilaaGreat
