/- Pure values, and what it means that a value of the model reads as one: memory that nobody writes any more is told by lists; memory that a call owns by numbered objects. -/
import Derived.WalkKit
import Derived.Below
import Derived.Deep.LoopGhost
import Derived.Laws.Cells
import Derived.Laws.CopyRow
import Derived.Laws.FloatArith
set_option linter.unusedSimpArgs false
set_option linter.unusedVariables false
namespace Go.Pv
open Go Go.RowKit

inductive DV where
  | junk
  | bool (b : Bool)
  | int (k : IntKind) (n : Int)
  | flt (k : FloatKind) (n : Nat)
  | str (s : ByteArray)
  | agg (cs : List DV)
  | tup (vs : List DV)
  | nils
  | list (xs : List (List DV))
  | ref (id off len : Nat)
  | nilp
  | pim (cs : List DV)
  | pobj (id i j : Nat)
  | nili
  | iface (t : TypeId) (v : DV)
  | nilf
  | func (fn : Fn) (first captured : List DV)
  | nilm
  | hnd (it : Bool) (id : Nat)
  deriving Inhabited

/-- What a map, or what goes over one, is told as among the objects: one element of one cell; types that no program has. -/
def mapTy : TypeId := 1000000001
def iterTy : TypeId := 1000000002
def siterTy : TypeId := 1000000003
def cellTy (t : TypeId) : Bool := Nat.blt t 1000000000
def flatM (es : Array MapEntry) : Array Value := (es.toList.flatMap fun e => [e.key, e.val]).toArray
def flatI (m : Option Nat) (since last : Nat) (seen : Array Nat) : Array Value := #[.map m, .int .i64 since, .int .i64 last] ++ seen.map fun x => .int .i64 x
/-- An object, as cells of a type. -/
inductive AsC : Obj → Array Value → TypeId → Prop
  | cells (cs : Array Value) (t : TypeId) (ht : cellTy t = true) : AsC (.cells cs t (0, 0)) cs t
  | map (es : Array MapEntry) (clock : Nat) (hc : clock = es.size) (hb : ∀ (i : Nat) (e : MapEntry), es[i]? = some e → e.born = i) : AsC (.map es clock) #[.iface 0 (.tuple (flatM es))] mapTy
  | iter (m : Option Nat) (since : Nat) (seen : Array Nat) (last : Nat) : AsC (.mapIter m since seen last) #[.iface 0 (.tuple (flatI m since last seen))] iterTy
  | sit (s : ByteArray) (pos : Nat) : AsC (.stringIter s pos) #[.iface 0 (.tuple #[.string s, .int .i64 pos])] siterTy
def HasC (o : Option Obj) (cs : Array Value) (t : TypeId) : Prop := ∃ ob, o = some ob ∧ AsC ob cs t
theorem HasC.cells {o : Option Obj} {cs : Array Value} {t : TypeId} (h : HasC o cs t) (ht : cellTy t = true) : o = some (.cells cs t (0, 0)) := by
  obtain ⟨ob, e, h⟩ := h
  cases h with
  | cells => exact e
  | map => exact absurd ht (by decide)
  | iter => exact absurd ht (by decide)
  | sit => exact absurd ht (by decide)

abbrev Hp := Nat → Option Obj

def hcell (h : Hp) (a : Addr) : Option Value :=
  match h a.block with
  | some (.cells c _ _) => if a.spot.isSome then none else c[a.off]?
  | _ => none

/-- Where an object lies: not yet, no more, or at block b: size of an element, how many are known, how many there is room for, the element's type. -/
inductive Bl where
  | no
  | dead
  | nil
  | at (b sz N C : Nat) (t : TypeId)

structure PO where
  frz : Bool
  sz : Nat
  ty : TypeId
  els : List (List DV)

inductive Rep (h : Hp) (β : Nat → Bl) : Value → DV → Prop
  | junk (v : Value) : Rep h β v .junk
  | bool (b : Bool) : Rep h β (.bool b) (.bool b)
  | int (k : IntKind) (n : Int) : Rep h β (.int k n) (.int k n)
  | flt (k : FloatKind) (n : Nat) : Rep h β (.float k n) (.flt k n)
  | str (s : ByteArray) : Rep h β (.string s) (.str s)
  | agg (cs : Array Value) (ds : List DV) (hl : cs.size = ds.length) (hr : ∀ (i : Nat) (v : Value) (d : DV), cs[i]? = some v → ds[i]? = some d → Rep h β v d) : Rep h β (.agg cs) (.agg ds)
  | tup (cs : Array Value) (ds : List DV) (hl : cs.size = ds.length) (hr : ∀ (i : Nat) (v : Value) (d : DV), cs[i]? = some v → ds[i]? = some d → Rep h β v d) : Rep h β (.tuple cs) (.tup ds)
  | nils : Rep h β (.slice none 0 0) .nils
  | list (a : Option Addr) (n c : Nat) (xs : List (List DV)) (sz : Nat) (vs : Nat → Nat → Value) (hn : xs.length = n) (hnc : n ≤ c) (hz : a = none → c = 0)
      (hsz : ∀ (i : Nat) (ds : List DV), xs[i]? = some ds → ds.length = sz)
      (hc : ∀ (i : Nat) (ds : List DV) (j : Nat) (d : DV), xs[i]? = some ds → ds[j]? = some d → ∃ ad, a = some ad ∧ hcell h (ad.add (i * sz + j)) = some (vs i j))
      (ho : ∀ (i : Nat) (ds : List DV) (j : Nat) (d : DV), xs[i]? = some ds → ds[j]? = some d → (vs i j).oneCell' = true)
      (hr : ∀ (i : Nat) (ds : List DV) (j : Nat) (d : DV), xs[i]? = some ds → ds[j]? = some d → Rep h β (vs i j) d) : Rep h β (.slice a n c) (.list xs)
  | refAt (id off len cap o b sz N C : Nat) (t : TypeId) (hb : β id = .at b sz N C t) (h1 : off + len ≤ N) (h2 : off + cap = C) (h3 : cap ≠ 0 ∨ off = 0 → o = off * sz) (ht : cellTy t = true) : Rep h β (.slice (some ⟨b, o, none⟩) len cap) (.ref id off len)
  | refNil (id : Nat) (hb : β id = .nil) : Rep h β (.slice none 0 0) (.ref id 0 0)
  | refDead (v : Value) (id off len : Nat) (hb : β id = .dead) : Rep h β v (.ref id off len)
  | nilp : Rep h β (.pointer none) .nilp
  | pim (a : Addr) (cs : List DV) (vs : Nat → Value) (hc : ∀ (j : Nat) (d : DV), cs[j]? = some d → hcell h (a.add j) = some (vs j)) (hr : ∀ (j : Nat) (d : DV), cs[j]? = some d → Rep h β (vs j) d) : Rep h β (.pointer (some a)) (.pim cs)
  | pobjAt (id i j b sz N C : Nat) (t : TypeId) (hb : β id = .at b sz N C t) (ht : cellTy t = true) : Rep h β (.pointer (some ⟨b, i * sz + j, none⟩)) (.pobj id i j)
  | pobjDead (v : Value) (id i j : Nat) (hb : β id = .dead) : Rep h β v (.pobj id i j)
  | nili : Rep h β .nilIface .nili
  | iface (t : TypeId) (v : Value) (d : DV) (hr : Rep h β v d) : Rep h β (.iface t v) (.iface t d)
  | nilf : Rep h β .nilFunc .nilf
  | func (fn : Fn) (fs cs : Array Value) (ds es : List DV) (hl : fs.size = ds.length) (hm : cs.size = es.length)
      (hr : ∀ (i : Nat) (v : Value) (d : DV), fs[i]? = some v → ds[i]? = some d → Rep h β v d)
      (hq : ∀ (i : Nat) (v : Value) (d : DV), cs[i]? = some v → es[i]? = some d → Rep h β v d) : Rep h β (.func fn fs cs) (.func fn ds es)
  | nilm : Rep h β (.map none) .nilm
  | mapAt (id b sz N C : Nat) (hb : β id = .at b sz N C mapTy) : Rep h β (.map (some b)) (.hnd false id)
  | iterAt (id b sz N C : Nat) (t : TypeId) (hb : β id = .at b sz N C t) (ht : cellTy t = false) : Rep h β (.pointer (some ⟨b, 0, none⟩)) (.hnd true id)
  | hndDead (v : Value) (it : Bool) (id : Nat) (hb : β id = .dead) : Rep h β v (.hnd it id)

def HLe (h h' : Hp) : Prop := ∀ b o, h b = some o → h' b = some o
def BLe (β β' : Nat → Bl) : Prop := ∀ id, β' id = β id ∨ β id = .no ∨ β' id = .dead

theorem HLe.refl (h : Hp) : HLe h h := fun _ _ e => e
theorem HLe.trans {a b c : Hp} (x : HLe a b) (y : HLe b c) : HLe a c := fun _ _ e => y _ _ (x _ _ e)
theorem BLe.refl (β : Nat → Bl) : BLe β β := fun _ => .inl rfl

theorem hcell_mono {h h' : Hp} (hh : HLe h h') {a : Addr} {v : Value} (e : hcell h a = some v) : hcell h' a = some v := by
  unfold hcell at *
  cases hb : h a.block with
  | none => simp [hb] at e
  | some o => rw [hh _ _ hb]; rw [hb] at e; exact e

theorem Rep.mono {h h' : Hp} {β β' : Nat → Bl} (hh : HLe h h') (hβ : BLe β β') {v : Value} {d : DV} (r : Rep h β v d) : Rep h' β' v d := by
  induction r with
  | junk v => exact .junk v
  | bool b => exact .bool b
  | int k n => exact .int k n
  | flt k n => exact .flt k n
  | str s => exact .str s
  | agg cs ds hl _ ih => exact .agg cs ds hl ih
  | tup cs ds hl _ ih => exact .tup cs ds hl ih
  | nils => exact .nils
  | list a n c xs sz vs hn hnc hz hsz hc ho _ ih =>
    exact .list a n c xs sz vs hn hnc hz hsz (fun i ds j d e1 e2 => let ⟨ad, ea, hx⟩ := hc i ds j d e1 e2; ⟨ad, ea, hcell_mono hh hx⟩) ho ih
  | refNil id hb =>
    rcases hβ id with e | e | e
    · exact .refNil _ (e.trans hb)
    · rw [hb] at e; cases e
    · exact .refDead _ _ _ _ e
  | refAt id off len cap o b sz N C t hb h1 h2 h3 ht =>
    rcases hβ id with e | e | e
    · exact .refAt id off len cap o b sz N C t (e.trans hb) h1 h2 h3 ht
    · rw [hb] at e; cases e
    · exact .refDead _ _ _ _ e
  | refDead v id off len hb =>
    rcases hβ id with e | e | e
    · exact .refDead _ _ _ _ (e.trans hb)
    · rw [hb] at e; cases e
    · exact .refDead _ _ _ _ e
  | nilp => exact .nilp
  | pim a cs vs hc _ ih => exact .pim a cs vs (fun j d e => hcell_mono hh (hc j d e)) ih
  | nilm => exact .nilm
  | mapAt id b sz N C hb =>
    rcases hβ id with e | e | e
    · exact .mapAt id b sz N C (e.trans hb)
    · rw [hb] at e; cases e
    · exact .hndDead _ _ _ e
  | iterAt id b sz N C t hb ht =>
    rcases hβ id with e | e | e
    · exact .iterAt id b sz N C t (e.trans hb) ht
    · rw [hb] at e; cases e
    · exact .hndDead _ _ _ e
  | hndDead v it id hb =>
    rcases hβ id with e | e | e
    · exact .hndDead _ _ _ (e.trans hb)
    · rw [hb] at e; cases e
    · exact .hndDead _ _ _ e
  | pobjAt id i j b sz N C t hb ht =>
    rcases hβ id with e | e | e
    · exact .pobjAt id i j b sz N C t (e.trans hb) ht
    · rw [hb] at e; cases e
    · exact .pobjDead _ _ _ _ e
  | pobjDead v id i j hb =>
    rcases hβ id with e | e | e
    · exact .pobjDead _ _ _ _ (e.trans hb)
    · rw [hb] at e; cases e
    · exact .pobjDead _ _ _ _ e
  | nili => exact .nili
  | iface t v d _ ih => exact .iface t v d ih
  | nilf => exact .nilf
  | func fn fs cs ds es hl hm _ _ ih1 ih2 => exact .func fn fs cs ds es hl hm ih1 ih2

/-- What a call began with. -/
structure Ctx where
  w0 : World
  h0 : Hp
  k : Nat
  β0 : Nat → Bl
  ds : List Deferred := []
/-- What is lent: it may be written. -/
def Ctx.L (C : Ctx) (b : Nat) : Prop := ∃ id sz N K t, id < C.k ∧ C.β0 id = .at b sz N K t
/-- Nothing is lent. -/
def Ctx.plain (w0 : World) (h0 : Hp) : Ctx := ⟨w0, h0, 0, fun _ => .no, []⟩
theorem Ctx.plain_L {w0 : World} {h0 : Hp} {b : Nat} : ¬ (Ctx.plain w0 h0).L b := fun ⟨id, _, _, _, _, h, _⟩ => Nat.not_lt_zero id h

abbrev Objs := List (Option PO)

def obj (σ : Objs) (id : Nat) : Option PO :=
  match σ[id]? with
  | some (some po) => some po
  | _ => none

/-- A block's cells: as many as there is room for; or more, where all that there is room for is told. -/
def SzOk (n K N sz : Nat) : Prop := n = K * sz ∨ (N = K ∧ K * sz ≤ n)
theorem SzOk.le {n K N sz : Nat} (h : SzOk n K N sz) : K * sz ≤ n := h.elim (fun e => Nat.le_of_eq e.symm) fun e => e.2

/-- The world of a call on its way: what is read (h), what is owned (σ, by β), what has not been touched. -/
structure Inv (C : Ctx) (σ : Objs) (h : Hp) (β : Nat → Bl) (w : World) : Prop where
  os : w.os = C.w0.os
  tape : w.tape = C.w0.tape
  output : w.output = C.w0.output
  size : C.w0.heap.size ≤ w.heap.size
  view : ∀ b o, h b = some o → w.heap[b]? = some o
  hle : HLe C.h0 h
  hnew : ∀ b o, h b = some o → (C.h0 b = some o ∧ b < C.w0.heap.size) ∨ C.w0.heap.size ≤ b ∨ C.L b
  own : ∀ id b sz N K t, β id = .at b sz N K t → C.w0.heap.size ≤ b ∨ C.L b
  unborn : ∀ id, σ.length ≤ id → β id = .no
  inj : ∀ id id' b sz N K t sz' N' K' t', β id = .at b sz N K t → β id' = .at b sz' N' K' t' → id = id'
  live : ∀ id po, obj σ id = some po → (∃ b K, β id = .at b po.sz po.els.length K po.ty) ∨ (β id = .nil ∧ po.els = [])
  objs : ∀ id b sz N K t, β id = .at b sz N K t → ∃ po cs, obj σ id = some po ∧ N ≤ K ∧ K ≤ maxLen ∧ 
    HasC w.heap[b]? cs t ∧ SzOk cs.size K N sz ∧ (∀ i ds, po.els[i]? = some ds → ds.length = sz ∧ ∀ j d, ds[j]? = some d → ∃ v, cs[i * sz + j]? = some v ∧ v.oneCell' = true ∧ Rep h β v d) ∧
    (po.frz = false → h b = none) ∧ (po.frz = true → h b = w.heap[b]?)
  frame : ∀ b, b < C.w0.heap.size → ¬ C.L b → w.heap[b]? = C.w0.heap[b]?
  gho : ∀ id, id < C.k → (β id = C.β0 id ∧ β id ≠ .no) ∨ β id = .dead
  born : ∀ id, id < σ.length → β id ≠ .no

theorem gho_ble {k : Nat} {β0 β β' : Nat → Bl} (h : ∀ id, id < k → (β id = β0 id ∧ β id ≠ .no) ∨ β id = .dead) (hb : BLe β β') : ∀ id, id < k → (β' id = β0 id ∧ β' id ≠ .no) ∨ β' id = .dead := by
  intro id hid
  rcases h id hid with ⟨h1, h2⟩ | h1 <;> rcases hb id with e | e | e
  · exact .inl ⟨e.trans h1, e ▸ h2⟩
  · exact absurd e h2
  · exact .inr e
  · exact .inr (e.trans h1)
  · rw [h1] at e; cases e
  · exact .inr e
theorem BLe.trans {a b c : Nat → Bl} (x : BLe a b) (y : BLe b c) : BLe a c := by
  intro id
  rcases x id with h1 | h1 | h1 <;> rcases y id with h2 | h2 | h2
  · exact .inl (h2.trans h1)
  · exact .inr (.inl (h1 ▸ h2))
  · exact .inr (.inr h2)
  · exact .inr (.inl h1)
  · exact .inr (.inl h1)
  · exact .inr (.inr h2)
  · exact .inr (.inr (h2.trans h1))
  · rw [h1] at h2; cases h2
  · exact .inr (.inr h2)
theorem Inv.lent_len {C : Ctx} {σ : Objs} {h : Hp} {β : Nat → Bl} {w : World} (hi : Inv C σ h β w) : C.k ≤ σ.length := by
  rcases Nat.lt_or_ge σ.length C.k with hlt | hge
  · rcases hi.gho _ hlt with ⟨_, h2⟩ | h1
    · exact absurd (hi.unborn _ (Nat.le_refl _)) h2
    · rw [hi.unborn _ (Nat.le_refl _)] at h1; cases h1
  · exact hge

theorem lt_of_some {w : World} {b : Nat} {o : Obj} (h : w.heap[b]? = some o) : b < w.heap.size := by
  rcases Nat.lt_or_ge b w.heap.size with hlt | hge
  · exact hlt
  · rw [Array.getElem?_eq_none hge] at h; cases h

theorem cell_of_hcell {h : Hp} {w : World} (hv : ∀ b o, h b = some o → w.heap[b]? = some o) {a : Addr} {v : Value} (e : hcell h a = some v) : w.cell? a = some v := by
  unfold hcell at e
  unfold World.cell?
  cases hb : h a.block with
  | none => simp [hb] at e
  | some o => rw [hv _ _ hb]; rw [hb] at e; exact e

end Go.Pv
