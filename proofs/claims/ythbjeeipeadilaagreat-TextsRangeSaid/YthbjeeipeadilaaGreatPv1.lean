/- The walk over pure values: what an operation, a region, a body comes to; as a statement. -/
import Derived.Test.YthbjeeipeadilaaGreatPv0
set_option linter.unusedSimpArgs false
set_option linter.unusedVariables false
namespace Go.Pv
open Go Go.RowKit

abbrev Env := Nat → DV
structure PSt where
  env : Env
  σ : Objs

def upd (e : Env) (d : Nat) (v : DV) : Env := fun t => bif Nat.beq t d then v else e t

def ofV1 : Value → DV
  | .bool b => .bool b
  | .int k n => .int k n
  | .float k n => .flt k n
  | .string s => .str s
  | .pointer none => .nilp
  | .slice none 0 0 => .nils
  | .nilIface => .nili
  | .nilFunc => .nilf
  | .map none => .nilm
  | _ => .junk
def ofV : Value → DV
  | .agg cs => .agg (cs.toList.map ofV1)
  | .tuple cs => .tup (cs.toList.map ofV1)
  | .iface t v => .iface t (ofV1 v)
  | v => ofV1 v
def ev (e : Env) : Operand → DV
  | .tmp t => e t
  | .const v => ofV v
  | .global _ => .junk
  | .func f => .func (.func f) [] []
def toV : DV → Option Value
  | .bool b => some (.bool b)
  | .int k n => some (.int k n)
  | .flt k n => some (.float k n)
  | .str s => some (.string s)
  | .nilp => some (.pointer none)
  | .nils => some (.slice none 0 0)
  | .nili => some .nilIface
  | .nilf => some .nilFunc
  | .nilm => some (.map none)
  | _ => none
def cellsD : DV → List DV
  | .agg cs => cs
  | d => [d]

def pureRun {α : Type} (P : Program) : Sem α → Option α
  | .pure a => some a
  | .program k => pureRun P (k P)
  | _ => none

/-- A type: is it told by several cells; how many. -/
def shp (P : Program) (t : TypeId) : Option (Bool × Nat) :=
  match P.underlying t, P.info? t with
  | some (.struct _), some i => some (true, i.size)
  | some (.array _ _), some i => some (true, i.size)
  | some _, some i => some (false, i.size)
  | _, _ => none
def zeroD (P : Program) (t : TypeId) : Option (List DV) :=
  match P.info? t with
  | some i => i.zero.map fun z => cellsD (ofV z)
  | none => none
/-- ... of a type whose cells may lie in an object of their own. -/
def infoC (P : Program) (t : TypeId) : Option TypeInfo := bif cellTy t then P.info? t else none
def zeroC (P : Program) (t : TypeId) : Option (List DV) := bif cellTy t then zeroD P t else none
theorem infoC_some {P : Program} {t : TypeId} {i : TypeInfo} (h : infoC P t = some i) : cellTy t = true ∧ P.info? t = some i := by
  unfold infoC at h
  cases hc : cellTy t with
  | true => rw [hc] at h; exact ⟨rfl, h⟩
  | false => rw [hc] at h; cases h
theorem zeroC_some {P : Program} {t : TypeId} {i : List DV} (h : zeroC P t = some i) : cellTy t = true ∧ zeroD P t = some i := by
  unfold zeroC at h
  cases hc : cellTy t with
  | true => rw [hc] at h; exact ⟨rfl, h⟩
  | false => rw [hc] at h; cases h
def fldOff (P : Program) (t : TypeId) (f : Nat) : Option (Nat × TypeId) :=
  match P.underlying t with
  | some (.struct fs) =>
    match fs[f]? with
    | some x =>
      match P.info? x.type with
      | some i => bif Nat.beq i.size 0 then none else some (x.offset, x.type)
      | none => none
    | none => none
  | _ => none

/-- A call, entered or answered by the model itself. -/
def CallsV (P : Program) (f : FuncId) (vs : Array Value) (w : World) (R : Value → World → Prop) : Prop :=
  (∃ fn c, P.funcs[f]? = some fn ∧ fn.body = some c ∧ (fn.name == "runtime.NumGoroutine") = false ∧ Calls P f vs w fun e w' => ∃ v, e = .returned v ∧ R v w') ∨
  (∃ v w', (callFunc f vs).run P w = .ok (.value v) w' ∧ R v w')

inductive Blw (n : Nat) : DV → Prop
  | junk : Blw n .junk
  | bool (b) : Blw n (.bool b)
  | int (k i) : Blw n (.int k i)
  | flt (k i) : Blw n (.flt k i)
  | str (s) : Blw n (.str s)
  | agg (cs) (h : ∀ d ∈ cs, Blw n d) : Blw n (.agg cs)
  | tup (cs) (h : ∀ d ∈ cs, Blw n d) : Blw n (.tup cs)
  | nils : Blw n .nils
  | list (xs) (h : ∀ ds ∈ xs, ∀ d ∈ ds, Blw n d) : Blw n (.list xs)
  | ref (id off len) (h : id < n) : Blw n (.ref id off len)
  | nilp : Blw n .nilp
  | pim (cs) (h : ∀ d ∈ cs, Blw n d) : Blw n (.pim cs)
  | pobj (id i j) (h : id < n) : Blw n (.pobj id i j)
  | nili : Blw n .nili
  | iface (t v) (h : Blw n v) : Blw n (.iface t v)
  | nilf : Blw n .nilf
  | func (fn fs cs) (h : ∀ d ∈ fs, Blw n d) (h' : ∀ d ∈ cs, Blw n d) : Blw n (.func fn fs cs)
  | nilm : Blw n .nilm
  | hnd (it id) (h : id < n) : Blw n (.hnd it id)

/-- A contract that reads and makes, and owns nothing at its end. -/
def FnC (P : Program) (f : FuncId) (ds : List DV) (R : DV → Prop) : Prop :=
  (∀ d ∈ ds, Blw 0 d) ∧ (∀ d, R d → Blw 0 d) ∧ ∀ (w0 : World) (h0 : Hp) (vs : Array Value), (∀ b o, h0 b = some o → w0.heap[b]? = some o) → vs.size = ds.length →
    (∀ (i : Nat) (v : Value) (d : DV), vs[i]? = some v → ds[i]? = some d → Rep h0 (fun _ => .no) v d) →
    CallsV P f vs w0 fun v w => ∃ d h, R d ∧ Rep h (fun _ => .no) v d ∧ Below w0.heap.size w0 w ∧
      (∀ b o, h b = some o → w.heap[b]? = some o) ∧ HLe h0 h ∧ (∀ b o, h b = some o → (h0 b = some o ∧ b < w0.heap.size) ∨ w0.heap.size ≤ b)

/-- What is owned, told as what is read from now on. -/
inductive Snap (g : Nat → Option PO) : DV → DV → Prop
  | pure (d : DV) (hb : Blw 0 d) : Snap g d d
  | ref (id off len : Nat) (po : PO) (xs : List (List DV)) (ho : g id = some po) (hx : xs.length = len)
      (hel : ∀ i ds, xs[i]? = some ds → ∃ es, po.els[off + i]? = some es ∧ ds.length = es.length)
      (hs : ∀ (i : Nat) (ds es : List DV) (j : Nat) (d e : DV), xs[i]? = some ds → po.els[off + i]? = some es → ds[j]? = some d → es[j]? = some e → Snap g e d) : Snap g (.ref id off len) (.list xs)
  | agg (cs ds : List DV) (hl : cs.length = ds.length) (hs : ∀ (j : Nat) (e d : DV), cs[j]? = some e → ds[j]? = some d → Snap g e d) : Snap g (.agg cs) (.agg ds)
  | tup (cs ds : List DV) (hl : cs.length = ds.length) (hs : ∀ (j : Nat) (e d : DV), cs[j]? = some e → ds[j]? = some d → Snap g e d) : Snap g (.tup cs) (.tup ds)
  | iface (t : TypeId) (v d : DV) (hs : Snap g v d) : Snap g (.iface t v) (.iface t d)
  | pobj (id i j : Nat) (po : PO) (es ds : List DV) (ho : g id = some po) (he : po.els[i]? = some es) (hl : j + ds.length ≤ es.length)
      (hs : ∀ (k : Nat) (d e : DV), ds[k]? = some d → es[j + k]? = some e → Snap g e d) : Snap g (.pobj id i j) (.pim ds)

/-- No memory is told. -/
inductive Sca : DV → Prop
  | junk : Sca .junk
  | bool (b) : Sca (.bool b)
  | int (k i) : Sca (.int k i)
  | flt (k i) : Sca (.flt k i)
  | str (s) : Sca (.str s)
  | agg (cs) (h : ∀ d ∈ cs, Sca d) : Sca (.agg cs)
  | tup (cs) (h : ∀ d ∈ cs, Sca d) : Sca (.tup cs)
  | nils : Sca .nils
  | nilp : Sca .nilp
  | nili : Sca .nili
  | iface (t v) (h : Sca v) : Sca (.iface t v)
  | nilf : Sca .nilf
  | nilm : Sca .nilm

/-- These objects are written no more. -/
def frz : List Nat → Objs → Objs
  | [], σ => σ
  | id :: F, σ =>
    frz F (match obj σ id with
      | some po => σ.set id (some ⟨true, po.sz, po.ty, po.els⟩)
      | none => σ)
/-- An object, if it is written no more. -/
def fobj (σ : Objs) (id : Nat) : Option PO :=
  match obj σ id with
  | some po => bif po.frz then some po else none
  | none => none
def Snaps (g : Nat → Option PO) : List DV → List DV → Prop
  | [], [] => True
  | a :: as, b :: bs => Snap g a b ∧ Snaps g as bs
  | _, _ => False

/-- A contract whose answer is one new object: a slice of it, whole, or its address. -/
def FnO (P : Program) (f : FuncId) (ds : List DV) (isPtr : Bool) (po : PO) : Prop :=
  (∀ d ∈ ds, Blw 0 d) ∧ (∀ ds ∈ po.els, ∀ d ∈ ds, Blw 0 d) ∧ ∀ (w0 : World) (h0 : Hp) (vs : Array Value), (∀ b o, h0 b = some o → w0.heap[b]? = some o) → vs.size = ds.length →
    (∀ (i : Nat) (v : Value) (d : DV), vs[i]? = some v → ds[i]? = some d → Rep h0 (fun _ => .no) v d) →
    CallsV P f vs w0 fun v w => ∃ h β, Inv (Ctx.plain w0 h0) [some po] h β w ∧ Rep h β v (bif isPtr then .pobj 0 0 0 else .ref 0 0 po.els.length)

/-- A contract that may write what it is lent: the objects σ0, under the numbers 0, 1, ..; R: its answer, and the objects at its end: those that were lent first, under the same numbers. -/
def FnS (P : Program) (f : FuncId) (ds : List DV) (σ0 : Objs) (R : DV → Objs → Prop) : Prop :=
  ∀ (w0 : World) (h0 : Hp) (β0 : Nat → Bl) (vs : Array Value), Inv ⟨w0, h0, σ0.length, β0, []⟩ σ0 h0 β0 w0 → vs.size = ds.length →
    (∀ (i : Nat) (v : Value) (d : DV), vs[i]? = some v → ds[i]? = some d → Rep h0 β0 v d) →
    CallsV P f vs w0 fun v w => ∃ d σ h β, R d σ ∧ Inv ⟨w0, h0, σ0.length, β0, []⟩ σ h β w ∧ Rep h β v d

/-- A value, told anew: objects under new numbers (ids: which old one each new one is; none: a slice that holds nothing yet); what is written no more as what is read. -/
inductive Ren (g : Nat → Option PO) (ids : List (Option Nat)) : DV → DV → Prop
  | junk (d : DV) : Ren g ids d .junk
  | same (d : DV) (h : Blw 0 d) : Ren g ids d d
  | snap (d d' : DV) (h : Snap g d d') : Ren g ids d d'
  | ref (i j off len : Nat) (h : ids[j]? = some (some i)) : Ren g ids (.ref i off len) (.ref j off len)
  | nil (j : Nat) (h : ids[j]? = some none) : Ren g ids .nils (.ref j 0 0)
  | pobj (i j a b : Nat) (h : ids[j]? = some (some i)) : Ren g ids (.pobj i a b) (.pobj j a b)
  | hnd (it : Bool) (i j : Nat) (h : ids[j]? = some (some i)) : Ren g ids (.hnd it i) (.hnd it j)
  | agg (cs ds : List DV) (hl : cs.length = ds.length) (hs : ∀ (k : Nat) (c d : DV), cs[k]? = some c → ds[k]? = some d → Ren g ids c d) : Ren g ids (.agg cs) (.agg ds)
  | tup (cs ds : List DV) (hl : cs.length = ds.length) (hs : ∀ (k : Nat) (c d : DV), cs[k]? = some c → ds[k]? = some d → Ren g ids c d) : Ren g ids (.tup cs) (.tup ds)
  | iface (t : TypeId) (v d : DV) (h : Ren g ids v d) : Ren g ids (.iface t v) (.iface t d)
  | func (fn : Fn) (fs cs fs' cs' : List DV) (hl : fs.length = fs'.length) (hm : cs.length = cs'.length) (hs : ∀ (k : Nat) (c d : DV), fs[k]? = some c → fs'[k]? = some d → Ren g ids c d)
      (ht : ∀ (k : Nat) (c d : DV), cs[k]? = some c → cs'[k]? = some d → Ren g ids c d) : Ren g ids (.func fn fs cs) (.func fn fs' cs')
def RenPO (g : Nat → Option PO) (ids : List (Option Nat)) (po po' : PO) : Prop :=
  po'.frz = po.frz ∧ po'.sz = po.sz ∧ po'.ty = po.ty ∧ po'.els.length = po.els.length ∧
    ∀ (k : Nat) es ds, po.els[k]? = some es → po'.els[k]? = some ds → ds.length = es.length ∧ ∀ (j : Nat) e d, es[j]? = some e → ds[j]? = some d → Ren g ids e d
def RenOs (g : Nat → Option PO) (ids : List (Option Nat)) (σ σ' : Objs) : Prop :=
  σ'.length = ids.length ∧ (∀ (j j' i : Nat), ids[j]? = some (some i) → ids[j']? = some (some i) → j = j') ∧
    ∀ j po', obj σ' j = some po' → (∃ i po, ids[j]? = some (some i) ∧ obj σ i = some po ∧ RenPO g ids po po') ∨ (ids[j]? = some none ∧ po'.els = [])
def Rens (g : Nat → Option PO) (ids : List (Option Nat)) : List DV → List DV → Prop
  | [], [] => True
  | a :: as, b :: bs => Ren g ids a b ∧ Rens g ids as bs
  | _, _ => False
/-- Behind a call: the caller's object m is the callee's number idsB[m] (a number beyond its objects: none of them); those behind the caller's n objects are new. -/
def backIds (ids : List (Option Nat)) (n n1 : Nat) (idsB : List Nat) : Prop :=
  ∀ (m j : Nat), idsB[m]? = some j → (m < n ∧ ids[j]? = some (some m)) ∨ (n ≤ m ∧ j = ids.length + (m - n)) ∨ n1 ≤ j
def BackOs (ids : List (Option Nat)) (idsB : List Nat) (σ σ1 σ2 : Objs) : Prop :=
  σ2.length = idsB.length ∧ σ.length ≤ σ2.length ∧ ∀ m po2, obj σ2 m = some po2 →
    (m < σ.length ∧ (∀ j : Nat, ids[j]? ≠ some (some m)) ∧ obj σ m = some po2) ∨ (∃ j po1, idsB[m]? = some j ∧ obj σ1 j = some po1 ∧ RenPO (fun _ => none) (idsB.map some) po1 po2)

/-- What is asked at a call: its answer is read (what is lent is told by ds'; it stays one's own where the answer tells no memory), or is one new object. -/
def callK (P : Program) (f : FuncId) (ds : List DV) (σ : Objs) (K : DV → Objs → Prop) : Prop :=
  (∃ F ds', Snaps (fobj (frz F σ)) ds ds' ∧
    ((∃ R, FnC P f ds' R ∧ ∀ d, R d → (Sca d ∧ K d σ) ∨ K d (frz F σ)) ∨
     (∃ isPtr po, FnO P f ds' isPtr po ∧ K (bif isPtr then .pobj (frz F σ).length 0 0 else .ref (frz F σ).length 0 po.els.length) (frz F σ ++ [some po])))) ∨
  (∃ F ids ds' σ0 R, RenOs (fobj (frz F σ)) ids (frz F σ) σ0 ∧ Rens (fobj (frz F σ)) ids ds ds' ∧ FnS P f ds' σ0 R ∧
    ∀ d1 σ1, R d1 σ1 → ∃ idsB d2 σ2, backIds ids σ.length σ1.length idsB ∧ Ren (fun _ => none) (idsB.map some) d1 d2 ∧ BackOs ids idsB (frz F σ) σ1 σ2 ∧ K d2 σ2) ∨
  (∃ R, FnS P f ds σ R ∧ ∀ d1 σ1, R d1 σ1 → K d1 σ1)
/-- The same, where the answer is one value. -/
def callE (P : Program) (f : FuncId) (ds : List DV) (σ : Objs) (K : DV → Prop) : Prop :=
  ∃ F ds' r, Snaps (fobj (frz F σ)) ds ds' ∧ FnC P f ds' (· = r) ∧ (F = [] ∨ Sca r) ∧ K r

/-- The same, where the answer is a new object that tells no memory; what was lent is one's own again. -/
def callM (P : Program) (f : FuncId) (ds : List DV) (σ : Objs) (K : DV → Objs → Prop) : Prop :=
  ∃ F ds' isPtr po, Snaps (fobj (frz F σ)) ds ds' ∧ FnO P f ds' isPtr po ∧ po.frz = false ∧ (∀ es ∈ po.els, ∀ d ∈ es, Sca d) ∧ K (bif isPtr then .pobj σ.length 0 0 else .ref σ.length 0 po.els.length) (σ ++ [some po])

/-- A call that writes, where the order is open: one answer. -/
def callW (P : Program) (f : FuncId) (ds : List DV) (σ : Objs) (K : DV → Objs → Prop) : Prop := ∃ d2 σ2, (∀ K' : DV → Objs → Prop, K' d2 σ2 → callK P f ds σ K') ∧ K d2 σ2

/-- A call that makes objects and changes none. -/
def callG (P : Program) (f : FuncId) (ds : List DV) (σ : Objs) (K : DV → Objs → Prop) : Prop := ∃ d2 xs, (∀ K' : DV → Objs → Prop, K' d2 (σ ++ xs) → callK P f ds σ K') ∧ K d2 (σ ++ xs)

attribute [irreducible] callK callE callM callW callG

/-- A region in the text's order (none), or one whose order is open: which of its calls (by what they write) make an object (1), or write (2). -/
abbrev Det := Option (Nat → Nat)
def clsOf (M : Nat → Nat) (dst : Option Tmp) : Nat :=
  match dst with
  | some t => M t
  | none => 0
abbrev M0 : Nat → Nat := fun _ => 0
/-- A slice's literal that is told as what is read (3). -/
def asList (det : Det) (dst : Option Tmp) : Bool :=
  match det with
  | none => false
  | some M => Nat.beq (clsOf M dst) 3
def plainD (d : DV) : Bool := (toV d).isSome
def callD (P : Program) (det : Det) (dst : Option Tmp) (f : FuncId) (ds : List DV) (σ : Objs) (K : DV → Objs → Prop) : Prop :=
  match det with
  | none => callK P f ds σ K
  | some M =>
    match clsOf M dst with
    | 0 => callE P f ds σ fun d => K d σ
    | 1 => callM P f ds σ K
    | 4 => callG P f ds σ K
    | _ => callW P f ds σ K

/-- A value, by its head. -/
def force (v : DV) (k : DV → Prop) : Prop :=
  match v with
  | .junk => k .junk
  | .bool b => k (.bool b)
  | .int i n => k (.int i n)
  | .flt i n => k (.flt i n)
  | .str s => k (.str s)
  | .agg cs => k (.agg cs)
  | .tup vs => k (.tup vs)
  | .nils => k .nils
  | .list xs => k (.list xs)
  | .ref id off len => k (.ref id off len)
  | .nilp => k .nilp
  | .pim cs => k (.pim cs)
  | .pobj id i j => k (.pobj id i j)
  | .nili => k .nili
  | .iface t v => k (.iface t v)
  | .nilf => k .nilf
  | .func fn first captured => k (.func fn first captured)
  | .nilm => k .nilm
  | .hnd it id => k (.hnd it id)
theorem force_eq {v : DV} {k : DV → Prop} : force v k = k v := by cases v <;> rfl
def putK (n : Nat) (dst : Option Tmp) (v : DV) (st : PSt) (K : PSt → Prop) : Prop :=
  match st with
  | ⟨e, s⟩ =>
    match dst with
    | none => K ⟨e, s⟩
    | some d => bif Nat.blt d n then force v fun v => K ⟨upd e d v, s⟩ else False
theorem putK_eq {n : Nat} {dst : Option Tmp} {v : DV} {st : PSt} {K : PSt → Prop} : putK n dst v st K = (match dst with
  | none => K st
  | some d => bif Nat.blt d n then K ⟨upd st.env d v, st.σ⟩ else False) := by
  cases st; cases dst
  · rfl
  · simp only [putK, force_eq]

def optK {α : Type} (x : Option α) (K : α → Prop) : Prop :=
  match x with
  | some a => K a
  | none => False

def ldK (P : Program) (t : TypeId) (cs : List DV) (j : Nat) (K : DV → Prop) : Prop :=
  match shp P t with
  | some (true, n) => bif Nat.ble (j + n) cs.length then K (.agg ((cs.drop j).take n)) else False
  | some (false, 1) => optK cs[j]? K
  | _ => False

def setCells (ds : List DV) : Nat → List DV → List DV
  | _, [] => ds
  | j, v :: vs => setCells (ds.set j v) (j + 1) vs

def notSel : Op → Bool
  | .select _ _ => false
  | _ => true

def purK (P : Program) (o : Oper) (env : Env) (K : DV → Prop) : Prop :=
  bif notSel o.op && o.op.operands.toList.all (fun x => (toV (ev env x)).isSome) then
    match pureRun P (execOp (fun x => (toV (ev env x)).getD undef) o) with
    | some (.value v) => K (ofV1 v)
    | _ => False
  else False

/-- May this be laid into cells? -/
def boxOk (σ : Objs) : DV → Bool
  | .junk => false
  | .ref id _ _ | .pobj id _ _ | .hnd _ id => (obj σ id).isSome
  | _ => true

def cellOk (σ : Objs) : DV → Bool
  | .junk | .agg _ | .tup _ => false
  | .ref id _ _ | .pobj id _ _ | .hnd _ id => (obj σ id).isSome
  | _ => true

def fillD (place : Nat → Option (Nat × Nat)) (cells : List DV) : List (Nat × DV) → Option (List DV)
  | [] => some cells
  | (i, d) :: rest =>
    match place i with
    | none => none
    | some (off, sz) => bif Nat.beq (cellsD d).length sz && Nat.ble (off + sz) cells.length then fillD place (setCells cells off (cellsD d)) rest else none

def placesD (P : Program) (t : TypeId) : Option (Nat → Option (Nat × Nat)) :=
  match P.info? t, P.underlying t with
  | some _, some (.array _ e) => (P.info? e).map fun ie i => some (i * ie.size, ie.size)
  | some _, some (.struct fields) => (fields.toList.mapM (fun f => (P.info? f.type).map fun i => (f.offset, i.size))).map fun places => (places.toArray[·]?)
  | _, _ => none
def builtD (P : Program) (t : TypeId) (parts : List (Nat × DV)) : Option (List DV) :=
  match placesD P t, zeroD P t with
  | some pl, some z => fillD pl z parts
  | _, _ => none

def szOf (P : Program) (t : TypeId) : Option Nat := (P.info? t).map (·.size)

/-- The elements that a slice shows. -/
def elsOf (σ : Objs) : DV → Option (List (List DV))
  | .nils => some []
  | .list xs => some xs
  | .ref id off len => (obj σ id).map fun po => (po.els.drop off).take len
  | _ => none

def lenS (σ : Objs) : DV → Option Nat
  | .nils => some 0
  | .list xs => some xs.length
  | .ref id _ len => (obj σ id).map fun _ => len
  | _ => none

def isInt : DV → (Int → Prop) → Prop
  | .int _ z, K => K z
  | _, _ => False

/-- The bounds of a slice expression: of n things (up to m may be shown). -/
def bndK (lo hi : Option DV) (n m : Nat) (K : Nat → Nat → Prop) : Prop :=
  match hi, lo with
  | none, none => K 0 n
  | none, some l => isInt l fun l => 0 ≤ l ∧ l ≤ (n : Int) ∧ K l.toNat n
  | some h, none => isInt h fun h => 0 ≤ h ∧ h ≤ (m : Int) ∧ K 0 h.toNat
  | some h, some l => isInt h fun h => isInt l fun l => 0 ≤ l ∧ l ≤ h ∧ h ≤ (m : Int) ∧ K l.toNat h.toNat

def ixK (P : Program) (e : TypeId) (x i : DV) (σ : Objs) (K : DV → Prop) : Prop :=
  isInt i fun z => optK (szOf P e) fun s =>
    match x with
    | .ref id off len => 0 ≤ z ∧ z < (len : Int) ∧ optK (obj σ id) fun po => bif Nat.beq po.sz s then K (.pobj id (off + z.toNat) 0) else False
    | .list xs => 0 ≤ z ∧ z < (xs.length : Int) ∧ optK xs[z.toNat]? fun ds => bif Nat.beq ds.length s then K (.pim ds) else False
    | _ => False
def ixaK (P : Program) (m : Nat) (e : TypeId) (x i : DV) (σ : Objs) (K : DV → Prop) : Prop :=
  isInt i fun z => optK (szOf P e) fun s => 0 ≤ z ∧ z < (m : Int) ∧
    match x with
    | .pobj id a b => optK (obj σ id) fun _ => K (.pobj id a (b + z.toNat * s))
    | .pim cs => K (.pim (cs.drop (z.toNat * s)))
    | _ => False

def appK (P : Program) (e : TypeId) (s x : DV) (σ : Objs) (K : DV → Objs → Prop) : Prop :=
  optK (infoC P e) fun i => optK (elsOf σ x) fun news => i.size ≠ 0 ∧ (∀ ds ∈ news, ds.length = i.size) ∧ ((i.zero.map fun z => z.cells.size) = some i.size) ∧
    match s with
    | .nils => news.length ≤ maxLen ∧ news.length * i.bytes ≤ 140737488355328 ∧
      K (.ref σ.length 0 news.length) (σ ++ [some ⟨false, i.size, e, news⟩])
    | .ref id off len => off = 0 ∧ optK (obj σ id) fun po => po.frz = false ∧ po.sz = i.size ∧ po.ty = e ∧ len = po.els.length ∧
      len + news.length ≤ maxLen ∧ (len + news.length) * i.bytes ≤ 140737488355328 ∧
      K (.ref σ.length 0 (len + news.length)) (σ.set id none ++ [some ⟨false, i.size, e, po.els ++ news⟩])
    | _ => False

attribute [irreducible] appK
def setEls (els : List (List DV)) (off : Nat) (cs : List DV) : List (List DV) := els.take off ++ (cs.map fun c => [c]) ++ els.drop (off + cs.length)
def oneCell (P : Program) (e : TypeId) : Bool :=
  match P.info? e with
  | some i => Nat.beq i.size 1
  | none => false
def byteDs (s : ByteArray) (n : Nat) : List DV := (s.data.toList.take n).map fun b => .int .u8 b.toNat
/-- A text's bytes copied into an own slice. -/
def copyK (P : Program) (e : TypeId) (x y : DV) (σ : Objs) (K : DV → Objs → Prop) : Prop :=
  match x, y with
  | .ref id off len, .str s =>
    optK (obj σ id) fun po =>
    bif oneCell P e then
      (bif Nat.beq (Nat.min s.size len) 0 then K (.int .i64 0) σ else
        bif !po.frz && cellTy po.ty && Nat.beq po.sz 1 && Nat.ble (off + Nat.min s.size len) po.els.length then
          K (.int .i64 (Nat.min s.size len : Nat)) (σ.set id (some ⟨false, po.sz, po.ty, setEls po.els off (byteDs s (Nat.min s.size len))⟩)) else False) else False
  | _, _ => False
attribute [irreducible] copyK
def binK (op : BinOp) (x y : DV) (K : DV → Prop) (dflt : Prop) : Prop :=
  match op, x, y with
  | .quo, .int k a, .int k' b => k = k' ∧ b ≠ 0 ∧ K (.int k (k.wrap (a.tdiv b)))
  | .rem, .int k a, .int k' b => k = k' ∧ b ≠ 0 ∧ K (.int k (a.tmod b))
  | .shl, .int k a, .int _ b => 0 ≤ b ∧ K (.int k (k.wrap (a * 2 ^ (min b.toNat k.bits))))
  | .shr, .int k a, .int _ b => 0 ≤ b ∧ K (.int k (a.fdiv (2 ^ (min b.toNat k.bits))))
  | .add, .str a, .str b => ((a.size + b.size : Nat) : Int) ≤ IntKind.i64.max ∧ K (.str (a ++ b))
  | .add, .flt k a, .flt k' b => k = k' ∧ optK (floatBits .add k a b) fun r => K (.flt k r)
  | .sub, .flt k a, .flt k' b => k = k' ∧ optK (floatBits .sub k a b) fun r => K (.flt k r)
  | .mul, .flt k a, .flt k' b => k = k' ∧ optK (floatBits .mul k a b) fun r => K (.flt k r)
  | .quo, .flt k a, .flt k' b => k = k' ∧ optK (floatBits .quo k a b) fun r => K (.flt k r)
  | _, _, _ => dflt

def partD (P : Program) (t : TypeId) (cs : List DV) (j : Nat) : Option DV :=
  match shp P t with
  | some (true, n) => bif Nat.ble (j + n) cs.length then some (.agg ((cs.drop j).take n)) else none
  | some (false, 1) => cs[j]?
  | _ => none
def eqFs (P : Program) (eq : TypeId → DV → DV → Option Bool) (xs ys : List DV) : List Field → Option Bool
  | [] => some true
  | f :: fs =>
    match partD P f.type xs f.offset, partD P f.type ys f.offset with
    | some a, some b =>
      match eq f.type a b, eqFs P eq xs ys fs with
      | some r, some rs => some (r && rs)
      | _, _ => none
    | _, _ => none
def eqD (P : Program) : Nat → TypeId → DV → DV → Option Bool
  | 0, _, _, _ => none
  | m + 1, t, x, y =>
    match P.underlying t, x, y with
    | some .bool, .bool a, .bool b => some (a == b)
    | some (.int _), .int k a, .int k' b => bif decide (k = k') then some (a == b) else none
    | some (.float _), .flt k a, .flt k' b => bif decide (k = k') then some (Op.floatEq k a b) else none
    | some .string, .str a, .str b => some (a == b)
    | some (.struct fs), .agg xs, .agg ys => eqFs P (eqD P m) xs ys fs.toList
    | _, _, _ => none
def eqOkB (P : Program) : Nat → TypeId → Bool
  | 0, _ => false
  | m + 1, t =>
    match P.underlying t with
    | some (.struct fs) => !P.stoodInHeld t && fs.toList.all fun f => f.name != "_" && eqOkB P m f.type
    | some _ => true
    | none => false
/-- Structs of this type may be compared. -/
def EqOk (P : Program) (t : TypeId) : Prop := (eqOkB P 6 t && !P.eqGuardType P.depth t) = true
attribute [irreducible] EqOk
def isObj (σ : Objs) (id : Nat) : Bool :=
  match obj σ id with
  | some _ => true
  | none => false
def hasEls (σ : Objs) (id : Nat) : Bool :=
  match obj σ id with
  | some po => match po.els with | [] => false | _ :: _ => true
  | none => false
/-- ... and what has to be there for it. -/
def eqNeed (σ : Objs) (x y : DV) : Bool :=
  match x, y with
  | .ref id _ _, .nils => hasEls σ id
  | .hnd _ id, .nilm => isObj σ id
  | .nilm, .hnd _ id => isObj σ id
  | .pobj id _ _, .nilp => isObj σ id
  | .nilp, .pobj id _ _ => isObj σ id
  | _, _ => true
def eqR (P : Program) (t : TypeId) (x y : DV) : Option Bool :=
  match P.underlying t, x, y with
  | some (.slice _), .nils, .nils => some true
  | some (.slice _), .list ((_ :: _) :: _), .nils => some false
  | some (.slice _), .nils, .list ((_ :: _) :: _) => some false
  | some (.slice _), .ref _ _ _, .nils => some false
  | some (.map _ _), .nilm, .nilm => some true
  | some (.map _ _), .hnd false _, .nilm => some false
  | some (.map _ _), .nilm, .hnd false _ => some false
  | some (.pointer _), .pim _, .nilp => some false
  | some (.pointer _), .nilp, .pim _ => some false
  | some (.pointer _), .pobj _ _ _, .nilp => some false
  | some (.pointer _), .nilp, .pobj _ _ _ => some false
  | some (.interface _), .nili, .iface _ _ => some false
  | some (.interface _), .iface _ _, .nili => some false
  | _, _, _ => none
def eqTop (P : Program) (σ : Objs) (t : TypeId) (x y : DV) (K : Bool → Prop) (dflt : Prop) : Prop :=
  match x, y with
  | .agg xs, .agg ys => EqOk P t ∧ optK (eqD P 6 t (.agg xs) (.agg ys)) K
  | x, y =>
    match eqR P t x y with
    | some r => bif eqNeed σ x y then K r else False
    | none => dflt
def cmpK (P : Program) (σ : Objs) (op : BinOp) (t : TypeId) (x y : DV) (K : DV → Prop) (dflt : Prop) : Prop :=
  match op with
  | .eql => eqTop P σ t x y (fun r => K (.bool r)) dflt
  | .neq => eqTop P σ t x y (fun r => K (.bool (!r))) dflt
  | op => binK op x y K dflt

def byteD : List DV → Option UInt8
  | [.int .u8 n] => some (UInt8.ofNat n.toNat)
  | _ => none
/-- The bytes that elements tell. -/
def bytesD : List (List DV) → Option (List UInt8)
  | [] => some []
  | x :: xs =>
    match byteD x, bytesD xs with
    | some b, some bs => some (b :: bs)
    | _, _ => none
def isSl : DV → Bool
  | .nils | .list _ | .ref _ _ _ => true
  | _ => false
/-- A text as bytes: told as what is read. -/
def s2b (P : Program) (s t : TypeId) (d : DV) : Option DV :=
  match d, P.underlying s, P.underlying t with
  | .str b, some .string, some (.slice e) =>
    match P.underlying e with
    | some (.int .u8) => some (.list (b.data.toList.map fun x => [.int .u8 x.toNat]))
    | _ => none
  | _, _, _ => none
/-- A conversion: bytes to a string, a text to bytes; else one of plain values. -/
def cvtK (P : Program) (s t : TypeId) (d : DV) (σ : Objs) (K : DV → Prop) (dflt : Prop) : Prop :=
  bif isSl d then
    match P.underlying s, P.underlying t with
    | some (.slice e), some .string =>
      match P.underlying e with
      | some (.int .u8) => optK (elsOf σ d) fun els => optK (bytesD els) fun bs => K (.str ⟨bs.toArray⟩)
      | _ => False
    | _, _ => False
  else match s2b P s t d with
  | some r => K r
  | none => dflt

/-- The method of a type, by name: one that takes the value as it stands. -/
def methodD (P : Program) (t : TypeId) (name : String) : Option FuncId :=
  match P.info? t with
  | some i =>
    match i.methods.find? (fun m => m.name == name) with
    | some m =>
      match m.path.toList, m.func, P.underlying t with
      | [], some (f, true), some (.pointer _) => some f
      | [], some (_, false), some (.pointer _) => none
      | [], some (f, false), some _ => some f
      | _, _, _ => none
    | none => none
  | none => none
/-- A call by a function's value, or by an interface's. -/
def calleeD (P : Program) (env : Env) (c : Call) : Option (FuncId × List DV) :=
  match c.callee with
  | .value x =>
    match ev env x with
    | .func (.func f) fs cs => some (f, fs ++ c.args.toList.map (ev env) ++ cs)
    | _ => none
  | .invoke x name =>
    match ev env x with
    | .iface t v => (methodD P t name).map fun f => (f, v :: c.args.toList.map (ev env))
    | _ => none
  | .builtin _ => none
def assertK (P : Program) (t : TypeId) (ok : Bool) (d : DV) (K : DV → Prop) : Prop :=
  match P.underlying t, d with
  | some (.interface _), _ => False
  | some _, .iface t' v => bif Nat.beq t' t then K (bif ok then .tup [v, .bool true] else v) else (bif ok then optK ((P.info? t).bind (·.zero)) fun z => K (.tup [ofV z, .bool false]) else False)
  | some _, .nili => bif ok then optK ((P.info? t).bind (·.zero)) fun z => K (.tup [ofV z, .bool false]) else False
  | _, _ => False

/-- Maps: what one holds: k1, v1, k2, v2, .. -/
def mapPO (ds : List DV) : PO := ⟨false, 1, mapTy, [[.iface 0 (.tup ds)]]⟩
def iterPO (ds : List DV) : PO := ⟨false, 1, iterTy, [[.iface 0 (.tup ds)]]⟩
def siterPO (ds : List DV) : PO := ⟨false, 1, siterTy, [[.iface 0 (.tup ds)]]⟩
def tupOf (po : PO) : Option (List DV) :=
  match po.els with
  | [[.iface _ (.tup ds)]] => some ds
  | _ => none
def entsOf (σ : Objs) : DV → Option (List DV)
  | .nilm => some []
  | .hnd false id => (obj σ id).bind tupOf
  | _ => none
def keyEq : DV → DV → Option Bool
  | .int k a, .int k' b => bif decide (k = k') then some (a == b) else none
  | .str a, .str b => some (a == b)
  | _, _ => none
def keyTy (P : Program) (t : TypeId) (d : DV) : Bool :=
  match P.underlying t, d with
  | some (.int _), .int _ _ => true
  | some .string, .str _ => true
  | _, _ => false
/-- Where a key stands, and its value. -/
def findM (k : DV) : List DV → Nat → Option (Option (Nat × DV))
  | [], _ => some none
  | a :: v :: r, i =>
    match keyEq k a with
    | some true => some (some (i, v))
    | some false => findM k r (i + 1)
    | none => none
  | _, _ => none
def isIntD : DV → Bool
  | .int _ _ => true
  | _ => false
def notSeen (seen : List DV) (i : Nat) : Bool := seen.all fun d => match d with | .int _ z => !(z == (i : Int)) | _ => false
def mapWr (σ : Objs) (id : Nat) (ds : List DV) : Objs := σ.set id (some (mapPO ds))
def unfrz (σ : Objs) (id : Nat) : Bool :=
  match obj σ id with
  | some po => !po.frz
  | none => false
def lookK (P : Program) (xt : TypeId) (x i : DV) (ok : Bool) (σ : Objs) (K : DV → Prop) : Prop :=
  match P.underlying xt with
  | some (.map kt et) =>
    bif keyTy P kt i then optK (entsOf σ x) fun es => optK (findM i es 0) fun r =>
      match r with
      | some (_, v) => K (bif ok then .tup [v, .bool true] else v)
      | none => optK ((P.info? et).bind (·.zero)) fun z => K (bif ok then .tup [ofV z, .bool false] else ofV z)
    else False
  | _ => False
def updK (P : Program) (t : TypeId) (m k x : DV) (σ : Objs) (K : DV → Objs → Prop) : Prop :=
  match P.underlying t, m with
  | some (.map kt _), .hnd false id =>
    bif keyTy P kt k && unfrz σ id then optK (entsOf σ (.hnd false id)) fun es => optK (findM k es 0) fun r =>
      match r with
      | some (i, _) => K .junk (mapWr σ id ((es.set (2 * i) k).set (2 * i + 1) x))
      | none => K .junk (mapWr σ id (es ++ [k, x]))
    else False
  | _, _ => False
def makeMK (P : Program) (t : TypeId) (r : Option DV) (σ : Objs) (K : DV → Objs → Prop) : Prop :=
  match r with
  | none => K (.hnd false σ.length) (σ ++ [some (mapPO [])])
  | some d =>
    match P.underlying t, d with
    | some (.map _ _), .int _ _ => K (.hnd false σ.length) (σ ++ [some (mapPO [])])
    | _, _ => False
def rangeMK (P : Program) (xt : TypeId) (x : DV) (σ : Objs) (K : DV → Objs → Prop) : Prop :=
  match P.underlying xt, x with
  | some (.map _ _), .nilm => K (.hnd true σ.length) (σ ++ [some (iterPO [.nilm, .int .i64 0, .int .i64 0])])
  | some (.map _ _), .hnd false id => optK (entsOf σ (.hnd false id)) fun es => K (.hnd true σ.length) (σ ++ [some (iterPO [.hnd false id, .int .i64 (es.length / 2 : Nat), .int .i64 (es.length / 2 : Nat)])])
  | some .string, .str s => K (.hnd true σ.length) (σ ++ [some (siterPO [.str s, .int .i64 0])])
  | _, _ => False
def itemOf (σ : Objs) : DV → Option (Nat × PO × List DV)
  | .hnd true id => (obj σ id).bind fun po => (tupOf po).map fun ds => (id, po, ds)
  | _ => none
def nextMK (it : DV) (isS : Bool) (σ : Objs) (K : DV → Objs → Prop) : Prop :=
  optK (itemOf σ it) fun x =>
    match isS, x.2.2 with
    | true, [.str s, .int _ pos] => bif !x.2.1.frz && Nat.beq x.2.1.ty siterTy then
        (bif decide (0 ≤ pos) && decide (pos < (s.size : Int)) then K (.tup [.bool true, .int .i64 pos, .int .i32 (Utf8.decode s pos.toNat).1]) (σ.set x.1 (some (siterPO [.str s, .int .i64 (pos.toNat + (Utf8.decode s pos.toNat).2 : Nat)])))
        else bif decide (0 ≤ pos) then K (.tup [.bool false]) σ else False) else False
    | false, .nilm :: _ => bif Nat.beq x.2.1.ty iterTy then K (.tup [.bool false]) σ else False
    | false, .hnd false m :: .int k1 since :: .int k2 last :: seen => bif !x.2.1.frz && Nat.beq x.2.1.ty iterTy && seen.all isIntD then
        optK (entsOf σ (.hnd false m)) fun es => since = (es.length / 2 : Nat) ∧ last = (es.length / 2 : Nat) ∧
          (∀ i k v, notSeen seen i = true → es[2 * i]? = some k → es[2 * i + 1]? = some v →
            K (.tup [.bool true, k, v]) (σ.set x.1 (some (iterPO (.hnd false m :: .int k1 since :: .int k2 last :: (seen ++ [.int .i64 i])))))) ∧
          ((∀ i, 2 * i + 1 < es.length → notSeen seen i = false) → K (.tup [.bool false]) σ) else False
    | _, _ => False
def entryMK (it : DV) (σ : Objs) (K : DV → Prop) : Prop :=
  optK (itemOf σ it) fun x =>
    match x.2.2 with
    | .hnd false m :: .int _ _ :: .int _ last :: seen => bif Nat.beq x.2.1.ty iterTy && seen.all isIntD then
        optK (entsOf σ (.hnd false m)) fun es => last = (es.length / 2 : Nat) ∧
          match seen.getLast? with
          | some (.int _ z) => 0 ≤ z ∧ optK (es[2 * z.toNat]?) fun k => optK (es[2 * z.toNat + 1]?) fun v => K (.tup [k, v])
          | _ => False
      else False
    | _ => False
def plainDet (det : Det) (p : Prop) : Prop :=
  match det with
  | none => p
  | some _ => False

/-- A slice with a bound for what may lie behind it: it is told as what is read from now on. -/
def allBlw (xs : List (List DV)) : Prop := ∀ ds ∈ xs, ∀ d ∈ ds, Blw 0 d
def lowK (lo : Option DV) (K : Int → Prop) : Prop :=
  match lo with
  | none => K 0
  | some d => isInt d K
/-- An own slice, whole, without room behind it. -/
def clipB (po : PO) (off len : Nat) (l h m : Int) : Bool := !po.frz && cellTy po.ty && Nat.beq off 0 && decide (l = 0) && decide (h = (len : Int)) && decide (m = (len : Int))
def sl3M (P : Program) (det : Det) (e : TypeId) (x : DV) (l h m : Int) (σ : Objs) (K : DV → Objs → Prop) : Prop :=
  match x with
  | .nils => m = 0 ∧ optK (szOf P e) fun _ => K .nils σ
  | .list xs => optK (szOf P e) fun s => (∀ ds ∈ xs, ds.length = s) ∧ m ≤ (xs.length : Int) ∧ K (.list ((xs.drop l.toNat).take (h.toNat - l.toNat))) σ
  | .ref id off len => plainDet det (optK (szOf P e) fun s => optK (obj σ id) fun po => bif Nat.beq po.sz s && Nat.ble (off + len) po.els.length then
      bif clipB po off len l h m then K (.ref σ.length 0 len) (σ.set id none ++ [some ⟨false, po.sz, po.ty, po.els.take len⟩]) else
      m ≤ (len : Int) ∧ allBlw ((po.els.drop off).take len) ∧ (∀ ds ∈ (po.els.drop off).take len, ds.length = s) ∧ K (.list ((((po.els.drop off).take len).drop l.toNat).take (h.toNat - l.toNat))) (frz [id] σ) else False)
  | _ => False
def sl3K (P : Program) (det : Det) (e : TypeId) (x : DV) (lo : Option DV) (hi mx : DV) (σ : Objs) (K : DV → Objs → Prop) : Prop :=
  isInt hi fun h => isInt mx fun m => lowK lo fun l => 0 ≤ l ∧ l ≤ h ∧ h ≤ m ∧ sl3M P det e x l h m σ K

def vop (P : Program) (det : Det) (o : Oper) (env : Env) (σ : Objs) (K : DV → Objs → Prop) : Prop :=
  match o.op with
  | .move x | .assign x => K (ev env x) σ
  | .pick c a b =>
    match ev env c with
    | .bool v => (v = true → K (ev env a) σ) ∧ (v = false → K (ev env b) σ)
    | _ => False
  | .alloc t => optK (zeroC P t) fun cs => bif cs.all (cellOk σ) then K (.pobj σ.length 0 0) (σ ++ [some ⟨false, cs.length, t, [cs]⟩]) else False
  | .box t x => bif (boxOk σ (ev env x) && (cellsD (ev env x)).all (cellOk σ)) && cellTy t then K (.pobj σ.length 0 0) (σ ++ [some ⟨false, (cellsD (ev env x)).length, t, [cellsD (ev env x)]⟩]) else False
  | .build t parts => bif parts.toList.all (fun p => boxOk σ (ev env p.2)) then optK (builtD P t (parts.toList.map fun p => (p.1, ev env p.2))) fun cs => K (.agg cs) σ else False
  | .buildSlice t len parts =>
    match P.underlying t with
    | some (.slice e) => optK (infoC P e) fun i => optK (zeroD P e) fun z =>
      bif parts.toList.all (fun p => boxOk σ (ev env p.2)) && Nat.ble 1 i.size && Nat.beq z.length i.size && Nat.ble (len * i.size) 16777216 then
        optK (fillD (fun k => some (k * i.size, i.size)) ((List.range (len * i.size)).map fun q => (z[q % z.length]?).getD .junk) (parts.toList.map fun p => (p.1, ev env p.2))) fun flat =>
          bif flat.all (cellOk σ) then
            bif asList det o.dst then
              (bif flat.all plainD then K (.list ((List.range len).map fun k => (flat.drop (k * i.size)).take i.size)) σ else False)
            else K (.ref σ.length 0 len) (σ ++ [some ⟨false, i.size, e, (List.range len).map fun k => (flat.drop (k * i.size)).take i.size⟩])
          else False
      else False
    | _ => False
  | .load t x =>
    match ev env x with
    | .pobj id i j => optK (obj σ id) fun po => optK po.els[i]? fun ds => ldK P t ds j fun d => K d σ
    | .pim cs => ldK P t cs 0 fun d => K d σ
    | _ => False
  | .store t x y =>
    match ev env x, shp P t with
    | .pobj id i j, some (_, m) => optK (obj σ id) fun po => optK po.els[i]? fun ds =>
      bif !po.frz && boxOk σ (ev env y) && (cellsD (ev env y)).all (cellOk σ) && Nat.beq (cellsD (ev env y)).length m && Nat.ble (j + m) ds.length then K .junk (σ.set id (some ⟨false, po.sz, po.ty, po.els.set i (setCells ds j (cellsD (ev env y)))⟩)) else False
    | _, _ => False
  | .fieldAddr t x f =>
    match ev env x, fldOff P t f with
    | .pobj id i j, some (off, _) => optK (obj σ id) fun _ => K (.pobj id i (j + off)) σ
    | .pim cs, some (off, _) => K (.pim (cs.drop off)) σ
    | _, _ => False
  | .field t x f =>
    match ev env x, fldOff P t f with
    | .agg cs, some (off, u) => ldK P u cs off fun d => K d σ
    | _, _ => False
  | .indexAddr t x i =>
    match P.underlying t with
    | some (.slice e) => ixK P e (ev env x) (ev env i) σ (K · σ)
    | some (.array m e) => ixaK P m e (ev env x) (ev env i) σ (K · σ)
    | _ => False
  | .index t x i =>
    match P.underlying t, ev env x with
    | some .string, .str s => isInt (ev env i) fun z => 0 ≤ z ∧ optK s[z.toNat]? fun b => K (.int .u8 b.toNat) σ
    | some (.array m e), .agg cs => isInt (ev env i) fun z => optK (szOf P e) fun s => 0 ≤ z ∧ z < (m : Int) ∧ ldK P e cs (z.toNat * s) fun d => K d σ
    | _, _ => False
  | .slice t x lo hi mx =>
    match P.underlying t, ev env x, mx with
    | some .string, .str s, none => bndK (lo.map (ev env)) (hi.map (ev env)) s.size s.size fun l h => K (.str (s.extract l h)) σ
    | some (.slice e), .nils, none => optK (szOf P e) fun _ => bndK (lo.map (ev env)) (hi.map (ev env)) 0 0 fun _ _ => K .nils σ
    | some (.slice e), .list xs, none => optK (szOf P e) fun s => (∀ ds ∈ xs, ds.length = s) ∧ bndK (lo.map (ev env)) (hi.map (ev env)) xs.length xs.length fun l h => K (.list ((xs.drop l).take (h - l))) σ
    | some (.slice e), .ref id off len, none => optK (szOf P e) fun s => optK (obj σ id) fun po => bif Nat.beq po.sz s then
        bndK (lo.map (ev env)) (hi.map (ev env)) len (po.els.length - off) fun l h => K (.ref id (off + l) (h - l)) σ else False
    | some (.slice e), d, some m =>
      match hi with
      | some u => sl3K P det e d (lo.map (ev env)) (ev env u) (ev env m) σ K
      | none => False
    | _, _, _ => False
  | .makeSlice t l c =>
    match P.underlying t with
    | some (.slice e) => optK (infoC P e) fun i => optK (zeroD P e) fun z => isInt (ev env l) fun l => isInt (ev env c) fun c =>
      0 ≤ l ∧ l ≤ c ∧ (i.bytes : Int) * c ≤ 281474976710656 ∧ c ≤ 9223372036854775807 ∧ i.size ≠ 0 ∧ z.length = i.size ∧ z.all (cellOk σ) = true ∧
      K (.ref σ.length 0 l.toNat) (σ ++ [some ⟨false, i.size, e, List.replicate l.toNat z⟩])
    | _ => False
  | .binOp op t x y _ => cmpK P σ op t (ev env x) (ev env y) (K · σ) (purK P o env (K · σ))
  | .convert s t x => cvtK P s t (ev env x) σ (K · σ) (purK P o env (K · σ))
  | .makeInterface t x =>
    match P.underlying t with
    | some (.interface _) => False
    | some _ => K (.iface t (ev env x)) σ
    | none => False
  | .nilCheck x =>
    match ev env x with
    | .pobj id i j => optK (obj σ id) fun _ => K (.pobj id i j) σ
    | .pim cs => K (.pim cs) σ
    | .func (.func f) fs cs => K (.func (.func f) fs cs) σ
    | .iface t v => K (.iface t v) σ
    | _ => False
  | .typeAssert x _ t ok => assertK P t ok (ev env x) (K · σ)
  | .makeFunc fn fs cs => K (.func fn (fs.toList.map (ev env)) (cs.toList.map (ev env))) σ
  | .extract x i =>
    match ev env x with
    | .tup ds => optK ds[i]? fun d => K d σ
    | _ => False
  | .lookup xt x i ok => lookK P xt (ev env x) (ev env i) ok σ (K · σ)
  | .mapUpdate t m k x => plainDet det (updK P t (ev env m) (ev env k) (ev env x) σ K)
  | .insert t m k x => plainDet det (updK P t (ev env m) (ev env k) (ev env x) σ K)
  | .makeMap t r => plainDet det (makeMK P t (r.map (ev env)) σ K)
  | .range xt x => plainDet det (rangeMK P xt (ev env x) σ K)
  | .next it isS => plainDet det (nextMK (ev env it) isS σ K)
  | .entry it => plainDet det (entryMK (ev env it) σ (K · σ))
  | .call c =>
    match c.callee with
    | .value (.func f) => callD P det o.dst f (c.args.toList.map (ev env)) σ K
    | .builtin .len =>
      match c.args.toList, c.argTypes.toList with
      | [x], [t] =>
        match P.underlying t, ev env x with
        | some .string, .str s => K (.int .i64 s.size) σ
        | some (.slice _), d => optK (lenS σ d) fun m => K (.int .i64 m) σ
        | some (.map _ _), d => optK (entsOf σ d) fun es => K (.int .i64 (es.length / 2 : Nat)) σ
        | _, _ => False
      | _, _ => False
    | .builtin .append =>
      match c.args.toList, c.argTypes.toList with
      | [s, x], [t, u] =>
        match P.underlying t with
        | some (.slice e) => bif Nat.beq t u then appK P e (ev env s) (ev env x) σ K else False
        | _ => False
      | _, _ => False
    | .builtin .copy =>
      match c.args.toList, c.argTypes.toList with
      | [x, y], [t, _] =>
        match P.underlying t with
        | some (.slice e) => plainDet det (copyK P e (ev env x) (ev env y) σ K)
        | _ => False
      | _, _ => False
    | .builtin .min =>
      match c.args.toList.map (ev env) with
      | [.int k x, .int _ y] => K (.int k (if y < x then y else x)) σ
      | _ => False
    | .builtin .max =>
      match c.args.toList.map (ev env) with
      | [.int k x, .int _ y] => K (.int k (if y > x then y else x)) σ
      | _ => False
    | .builtin _ => False
    | _ => optK (calleeD P env c) fun x => callD P det o.dst x.1 x.2 σ K
  | _ => purK P o env (K · σ)

def forceL : List DV → (List DV → Prop) → Prop
  | [], k => k []
  | d :: ds, k => force d fun d => forceL ds fun ds => k (d :: ds)
theorem forceL_eq : ∀ {ds : List DV} {k : List DV → Prop}, forceL ds k = k ds
  | [], _ => rfl
  | d :: ds, k => by rw [forceL, force_eq, forceL_eq]
def forceO : Objs → (Objs → Prop) → Prop
  | [], k => k []
  | x :: xs, k => forceO xs fun xs => k (x :: xs)
theorem forceO_eq : ∀ {σ : Objs} {k : Objs → Prop}, forceO σ k = k σ
  | [], _ => rfl
  | x :: xs, k => by rw [forceO, forceO_eq]
def forceN : Nat → (Nat → Prop) → Prop
  | 0, k => k 0
  | n + 1, k => forceN n fun m => k (m + 1)
theorem forceN_eq : ∀ {n : Nat} {k : Nat → Prop}, forceN n k = k n
  | 0, _ => rfl
  | n + 1, k => by rw [forceN, forceN_eq]
def ldKF (P : Program) (t : TypeId) (cs : List DV) (j : Nat) (K : DV → Prop) : Prop :=
  match shp P t with
  | some (true, n) => bif Nat.ble (j + n) cs.length then forceL ((cs.drop j).take n) fun cs => K (.agg cs) else False
  | some (false, 1) => optK cs[j]? K
  | _ => False
theorem ldKF_eq {P : Program} {t : TypeId} {cs : List DV} {j : Nat} {K : DV → Prop} : ldKF P t cs j K = ldK P t cs j K := by
  unfold ldKF ldK; simp only [forceL_eq]
/-- The same, with what is made told in full. -/
def vopF (P : Program) (det : Det) (o : Oper) (env : Env) (σ : Objs) (K : DV → Objs → Prop) : Prop :=
  match o.op with
  | .alloc t => optK (zeroC P t) fun cs => bif cs.all (cellOk σ) then forceL cs fun cs => forceN σ.length fun m => forceO (σ ++ [some ⟨false, cs.length, t, [cs]⟩]) fun σ' => K (.pobj m 0 0) σ' else False
  | .box t x => bif (boxOk σ (ev env x) && (cellsD (ev env x)).all (cellOk σ)) && cellTy t then forceL (cellsD (ev env x)) fun cs => forceN σ.length fun m => forceO (σ ++ [some ⟨false, cs.length, t, [cs]⟩]) fun σ' => K (.pobj m 0 0) σ' else False
  | .build t parts => bif parts.toList.all (fun p => boxOk σ (ev env p.2)) then optK (builtD P t (parts.toList.map fun p => (p.1, ev env p.2))) fun cs => forceL cs fun cs => K (.agg cs) σ else False
  | .load t x =>
    match ev env x with
    | .pobj id i j => optK (obj σ id) fun po => match po with | ⟨_, _, _, els⟩ => optK els[i]? fun ds => ldKF P t ds j fun d => K d σ
    | .pim cs => ldKF P t cs 0 fun d => K d σ
    | _ => False
  | .store t x y =>
    match ev env x, shp P t with
    | .pobj id i j, some (_, m) => optK (obj σ id) fun po =>
      match po with
      | ⟨frz, sz, ty, els⟩ => optK els[i]? fun ds =>
        bif !frz && boxOk σ (ev env y) && (cellsD (ev env y)).all (cellOk σ) && Nat.beq (cellsD (ev env y)).length m && Nat.ble (j + m) ds.length then
          forceL (setCells ds j (cellsD (ev env y))) fun cs => forceO (σ.set id (some ⟨false, sz, ty, els.set i cs⟩)) fun σ' => K .junk σ' else False
    | _, _ => False
  | _ => vop P det o env σ K
theorem vopF_eq {P : Program} {det : Det} {o : Oper} {env : Env} {σ : Objs} {K : DV → Objs → Prop} : vopF P det o env σ K = vop P det o env σ K := by
  unfold vopF
  split
  · rename_i h; unfold vop; rw [h]; simp only [forceL_eq, forceN_eq, forceO_eq]
  · rename_i h; unfold vop; rw [h]; simp only [forceL_eq, forceN_eq, forceO_eq]
  · rename_i h; unfold vop; rw [h]; simp only [forceL_eq]
  · rename_i h; unfold vop; rw [h]; simp only [ldKF_eq]
  · rename_i h; unfold vop; rw [h]; simp only [forceL_eq, forceO_eq]
  · rfl
/-- A slice that shows nothing is held against nil: it may be nil or not. -/
def nilB (P : Program) (det : Det) (o : Oper) (e : Env) (s : Objs) : Bool :=
  match det, o.op with
  | none, .binOp .eql t x y _ =>
    match ev e y with
    | .nils => match P.underlying t, ev e x with | some (.slice _), .ref id _ _ => isObj s id && !hasEls s id | some (.slice _), .list [] => true | _, _ => false
    | _ => false
  | none, .binOp .neq t x y _ =>
    match ev e y with
    | .nils => match P.underlying t, ev e x with | some (.slice _), .ref id _ _ => isObj s id && !hasEls s id | some (.slice _), .list [] => true | _, _ => false
    | _ => false
  | _, _ => false
def nilIf (b : Bool) (p q : Prop) : Prop := bif b then p else q
theorem nilIf.mk {b : Bool} {p q : Prop} (h : b = true) (hp : p) : nilIf b p q := by unfold nilIf; rw [h]; exact hp
def pop (P : Program) (n : Nat) (det : Det) (o : Oper) (st : PSt) (K : PSt → Prop) : Prop :=
  match st with
  | ⟨e, s⟩ => nilIf (nilB P det o e s) (putK n o.dst (.bool true) ⟨e, s⟩ K ∧ putK n o.dst (.bool false) ⟨e, s⟩ K) (vopF P det o e s fun d σ' => putK n o.dst d ⟨e, σ'⟩ K)
theorem pop_eq {P : Program} {n : Nat} {det : Det} {o : Oper} {st : PSt} {K : PSt → Prop} (hb : nilB P det o st.env st.σ = false) : pop P n det o st K = vop P det o st.env st.σ fun d σ' => putK n o.dst d ⟨st.env, σ'⟩ K := by
  cases st; unfold pop nilIf; simp only at hb ⊢; rw [hb, cond_false]; exact vopF_eq
theorem pop_both {P : Program} {n : Nat} {det : Det} {o : Oper} {st : PSt} {K : PSt → Prop} (hb : nilB P det o st.env st.σ = true) : pop P n det o st K = (putK n o.dst (.bool true) st K ∧ putK n o.dst (.bool false) st K) := by
  cases st; unfold pop nilIf; simp only at hb ⊢; rw [hb]; rfl
theorem nilB_draw {P : Program} {M : Nat → Nat} {o : Oper} {e : Env} {s : Objs} : nilB P (some M) o e s = false := by
  unfold nilB; split <;> first | rfl | (rename_i h _; cases h)

def roOp (M : Nat → Nat) (o : Oper) : Bool :=
  match o.op with
  | .alloc _ | .box _ _ | .makeSlice _ _ _ | .store _ _ _ => false
  | .mapUpdate _ _ _ _ | .insert _ _ _ _ | .makeMap _ _ | .range _ _ | .next _ _ => false
  | .buildSlice _ _ _ => Nat.beq (clsOf M o.dst) 3
  | .call c => match c.callee with | .builtin .append => false | .builtin .copy => false | .builtin _ => true | _ => Nat.beq (clsOf M o.dst) 0
  | _ => true
def mkOp (M : Nat → Nat) (o : Oper) : Bool :=
  match o.op with
  | .alloc _ | .box _ _ | .makeSlice _ _ _ => true
  | .buildSlice _ _ _ => !Nat.beq (clsOf M o.dst) 3
  | .call c => match c.callee with | .builtin _ => false | _ => Nat.beq (clsOf M o.dst) 1 || Nat.beq (clsOf M o.dst) 4
  | _ => false

/-- What is known of a temporary: nothing; that it holds nothing (its operation was not wanted); a Bool. -/
abbrev Kn := List (Nat × Option (Option Bool))
def gl : Kn → Nat → Option (Option Bool)
  | [], _ => none
  | (s, x) :: G, t => bif Nat.beq t s then x else gl G t
def noteK (G : Kn) (dst : Option Tmp) (x : Option (Option Bool)) : Kn :=
  match dst with
  | none => G
  | some d => (d, x) :: G
/-- A pick whose choice is known. -/
def knownPick (G : Kn) (o : Op) : Option Operand :=
  match o with
  | .pick (.tmp c) a b =>
    match gl G c with
    | some (some true) => some a
    | some (some false) => some b
    | _ => none
  | .move x => some x
  | .assign x => some x
  | _ => none
def knownOf (G : Kn) : Operand → Option (Option Bool)
  | .const (.bool b) => some (some b)
  | .tmp t => match gl G t with | some (some b) => some (some b) | _ => none
  | _ => none

/-- What an operation that is not wanted leaves: nothing (in a region whose order is open that is remembered). -/
def skipD (det : Det) : DV :=
  match det with
  | some _ => .tup []
  | none => .junk
def pops (P : Program) (n : Nat) (det : Det) (ops : Array Oper) : List Oper → Kn → PSt → (PSt → Prop) → Prop
  | [], _, st, K => K st
  | o :: rest, G, st0, K =>
    match st0 with
    | ⟨e0, s0⟩ =>
    match o.guard with
    | none =>
      match knownPick G o.op with
      | some x => putK n o.dst (ev e0 x) ⟨e0, s0⟩ fun st' => pops P n det ops rest (noteK G o.dst (knownOf G x)) st' K
      | none => pop P n det o ⟨e0, s0⟩ fun st' => pops P n det ops rest (noteK G o.dst none) st' K
    | some (j, want) =>
      match (ops[j]?).bind (·.dst) with
      | some t =>
        match gl G t with
        | some (some b) =>
          bif b == want then
            match knownPick G o.op with
            | some x => putK n o.dst (ev e0 x) ⟨e0, s0⟩ fun st' => pops P n det ops rest (noteK G o.dst (knownOf G x)) st' K
            | none => pop P n det o ⟨e0, s0⟩ fun st' => pops P n det ops rest (noteK G o.dst none) st' K
          else putK n o.dst (skipD det) ⟨e0, s0⟩ fun st' => pops P n det ops rest (noteK G o.dst (some none)) st' K
        | some none => putK n o.dst (skipD det) ⟨e0, s0⟩ fun st' => pops P n det ops rest (noteK G o.dst (some none)) st' K
        | none =>
          match e0 t with
          | .bool b =>
            (b = want →
              match knownPick ((t, some (some want)) :: G) o.op with
              | some x => putK n o.dst (ev e0 x) ⟨e0, s0⟩ fun st' => pops P n det ops rest (noteK ((t, some (some want)) :: G) o.dst (knownOf ((t, some (some want)) :: G) x)) st' K
              | none => pop P n det o ⟨e0, s0⟩ fun st' => pops P n det ops rest (noteK ((t, some (some want)) :: G) o.dst none) st' K) ∧
            (b = !want → putK n o.dst (skipD det) ⟨e0, s0⟩ fun st' => pops P n det ops rest (noteK ((t, some (some !want)) :: G) o.dst (some none)) st' K)
          | _ => False
      | none => False
theorem pops_eq {P : Program} {n : Nat} {det : Det} {ops : Array Oper} {o : Oper} {rest : List Oper} {G : Kn} {st : PSt} {K : PSt → Prop} : pops P n det ops (o :: rest) G st K = (
    match o.guard with
    | none =>
      match knownPick G o.op with
      | some x => putK n o.dst (ev st.env x) st fun st' => pops P n det ops rest (noteK G o.dst (knownOf G x)) st' K
      | none => pop P n det o st fun st' => pops P n det ops rest (noteK G o.dst none) st' K
    | some (j, want) =>
      match (ops[j]?).bind (·.dst) with
      | some t =>
        match gl G t with
        | some (some b) =>
          bif b == want then
            match knownPick G o.op with
            | some x => putK n o.dst (ev st.env x) st fun st' => pops P n det ops rest (noteK G o.dst (knownOf G x)) st' K
            | none => pop P n det o st fun st' => pops P n det ops rest (noteK G o.dst none) st' K
          else putK n o.dst (skipD det) st fun st' => pops P n det ops rest (noteK G o.dst (some none)) st' K
        | some none => putK n o.dst (skipD det) st fun st' => pops P n det ops rest (noteK G o.dst (some none)) st' K
        | none =>
          match st.env t with
          | .bool b =>
            (b = want →
              match knownPick ((t, some (some want)) :: G) o.op with
              | some x => putK n o.dst (ev st.env x) st fun st' => pops P n det ops rest (noteK ((t, some (some want)) :: G) o.dst (knownOf ((t, some (some want)) :: G) x)) st' K
              | none => pop P n det o st fun st' => pops P n det ops rest (noteK ((t, some (some want)) :: G) o.dst none) st' K) ∧
            (b = !want → putK n o.dst (skipD det) st fun st' => pops P n det ops rest (noteK ((t, some (some !want)) :: G) o.dst (some none)) st' K)
          | _ => False
      | none => False) := by cases st; rfl

/-- Operations told at once, whatever is wanted: a guarded one is told as if it were. G: what each guarded one hangs on. -/
abbrev Paths := List (Nat × List (Nat × Bool))
def pth : Paths → Nat → List (Nat × Bool)
  | [], _ => []
  | (s, p) :: G, t => bif Nat.beq t s then p else pth G t
def inP (p : List (Nat × Bool)) (t : Nat) (w : Bool) : Bool := p.any fun x => Nat.beq x.1 t && x.2 == w
def subP (q p : List (Nat × Bool)) : Bool := q.all fun x => inP p x.1 x.2
def freshP (G : Paths) (d : Nat) : Bool := G.all fun x => !Nat.beq d x.1 && x.2.all fun y => !Nat.beq d y.1
def opdP (G : Paths) (p : List (Nat × Bool)) : Operand → Bool
  | .tmp t => subP (pth G t) p
  | _ => true
def notPick : Op → Bool
  | .pick _ _ _ => false
  | _ => true
def specs (P : Program) (n : Nat) (ops : Array Oper) : List Oper → Paths → PSt → (Paths → PSt → Prop) → Prop
  | [], G, st, K => K G st
  | o :: rest, G, st0, K =>
    match st0 with
    | ⟨e0, s0⟩ =>
    match o.dst with
    | none =>
      match o.guard with
      | none => bif notPick o.op && o.op.operands.toList.all (opdP G []) then vopF P none o e0 s0 fun _ σ' => specs P n ops rest G ⟨e0, σ'⟩ K else False
      | some _ => False
    | some d =>
      bif freshP G d && Nat.blt d n then
        match o.guard with
        | none =>
          match o.op with
          | .pick (.tmp c) x y =>
            bif subP (pth G c) [] && opdP G [(c, true)] x && opdP G [(c, false)] y then
              match e0 c, ev e0 x, ev e0 y with
              | .bool g, .bool u, .bool v => specs P n ops rest G ⟨upd e0 d (.bool (bif g then u else v)), s0⟩ K
              | _, _, _ => False
            else False
          | op => bif notPick op && op.operands.toList.all (opdP G []) then vopF P none o e0 s0 fun v σ' => force v fun v => specs P n ops rest G ⟨upd e0 d v, σ'⟩ K else False
        | some (j, want) =>
          match (ops[j]?).bind (·.dst) with
          | none => False
          | some t =>
            match e0 t with
            | .bool _ =>
              match o.op with
              | .pick (.tmp c) x y =>
                bif !Nat.beq d t && subP (pth G c) ((t, want) :: pth G t) && opdP G ((c, true) :: (t, want) :: pth G t) x && opdP G ((c, false) :: (t, want) :: pth G t) y then
                  match e0 c, ev e0 x, ev e0 y with
                  | .bool g, .bool u, .bool v => specs P n ops rest ((d, (t, want) :: pth G t) :: G) ⟨upd e0 d (.bool (bif g then u else v)), s0⟩ K
                  | _, _, _ => False
                else False
              | op => bif !Nat.beq d t && notPick op && roOp M0 o && op.operands.toList.all (opdP G ((t, want) :: pth G t)) then
                  vopF P (some M0) o e0 s0 fun v σ' => force v fun v => specs P n ops rest ((d, (t, want) :: pth G t) :: G) ⟨upd e0 d v, σ'⟩ K else False
            | _ => False
      else False
theorem specs_eq {P : Program} {n : Nat} {ops : Array Oper} {o : Oper} {rest : List Oper} {G : Paths} {st : PSt} {K : Paths → PSt → Prop} : specs P n ops (o :: rest) G st K = (
    match o.dst with
    | none =>
      match o.guard with
      | none => bif notPick o.op && o.op.operands.toList.all (opdP G []) then vop P none o st.env st.σ fun _ σ' => specs P n ops rest G ⟨st.env, σ'⟩ K else False
      | some _ => False
    | some d =>
      bif freshP G d && Nat.blt d n then
        match o.guard with
        | none =>
          match o.op with
          | .pick (.tmp c) x y =>
            bif subP (pth G c) [] && opdP G [(c, true)] x && opdP G [(c, false)] y then
              match st.env c, ev st.env x, ev st.env y with
              | .bool g, .bool u, .bool v => specs P n ops rest G ⟨upd st.env d (.bool (bif g then u else v)), st.σ⟩ K
              | _, _, _ => False
            else False
          | op => bif notPick op && op.operands.toList.all (opdP G []) then vop P none o st.env st.σ fun v σ' => specs P n ops rest G ⟨upd st.env d v, σ'⟩ K else False
        | some (j, want) =>
          match (ops[j]?).bind (·.dst) with
          | none => False
          | some t =>
            match st.env t with
            | .bool _ =>
              match o.op with
              | .pick (.tmp c) x y =>
                bif !Nat.beq d t && subP (pth G c) ((t, want) :: pth G t) && opdP G ((c, true) :: (t, want) :: pth G t) x && opdP G ((c, false) :: (t, want) :: pth G t) y then
                  match st.env c, ev st.env x, ev st.env y with
                  | .bool g, .bool u, .bool v => specs P n ops rest ((d, (t, want) :: pth G t) :: G) ⟨upd st.env d (.bool (bif g then u else v)), st.σ⟩ K
                  | _, _, _ => False
                else False
              | op => bif !Nat.beq d t && notPick op && roOp M0 o && op.operands.toList.all (opdP G ((t, want) :: pth G t)) then
                  vop P (some M0) o st.env st.σ fun v σ' => specs P n ops rest ((d, (t, want) :: pth G t) :: G) ⟨upd st.env d v, σ'⟩ K else False
            | _ => False
      else False) := by
  cases st
  simp only [specs, force_eq, vopF_eq]

/-- What guarded operations came to is looked at no more. -/
def clr (G : Paths) (e : Env) : Env := fun t => match pth G t with | [] => e t | _ => .junk

/-- A region with guards: told branch by branch, or at once. -/
def guard0 (P : Program) (n : Nat) (ops : Array Oper) (st : PSt) (K : PSt → Prop) : Prop :=
  pops P n none ops ops.toList [] st K ∨ specs P n ops ops.toList [] st fun G st' => K ⟨clr G st'.env, st'.σ⟩
attribute [irreducible] guard0

def condK (d : DV) (A B : Prop) : Prop :=
  match d with
  | .bool b => (b = true → A) ∧ (b = false → B)
  | _ => False

/-- ... with the objects F written no more from now on. -/
def WeakG (k : Nat) (st st' : PSt) : Prop :=
  ∃ F ids, (∀ j, j < k → ids[j]? = some (some j)) ∧ RenOs (fobj (frz F st.σ)) ids (frz F st.σ) st'.σ ∧ ∀ t, st'.env t = .junk ∨ Ren (fobj (frz F st.σ)) ids (st.env t) (st'.env t)
/-- Less is known: some temporaries are forgotten, the last objects are dropped. -/
def WeakD (k : Nat) (st st' : PSt) : Prop :=
  ∃ tail, st.σ = st'.σ ++ tail ∧ (∀ t, st'.env t = .junk ∨ (st'.env t = st.env t ∧ (tail = [] ∨ Blw st'.σ.length (st.env t)))) ∧
    (tail = [] ∨ (k ≤ st'.σ.length ∧ ∀ po, some po ∈ st'.σ → ∀ ds ∈ po.els, ∀ d ∈ ds, Blw st'.σ.length d))

def Weak (k : Nat) (st st' : PSt) : Prop := WeakD k st st' ∨ WeakG k st st'

/-- ... or branch by branch, up to where the branches meet: M holds there. -/
def guardK (P : Program) (n k : Nat) (ops : Array Oper) (st : PSt) (K : PSt → Prop) : Prop :=
  guard0 P n ops st K ∨ ∃ M : PSt → Prop, pops P n none ops ops.toList [] st (fun st' => ∃ st'', Weak k st' st'' ∧ M st'') ∧ ∀ st', M st' → K st'
attribute [irreducible] guardK
def loopK (k : Nat) (F : PSt → (Exit → PSt → Prop) → Prop) (st : PSt) (K : Exit → PSt → Prop) : Prop :=
  ∃ (I : Nat → PSt → Prop) (m : Nat) (st0 : PSt), Weak k st st0 ∧ I m st0 ∧ ∀ m st, I m st → F st fun e st' =>
    match e with
    | .normal => ∃ m' st'', m' < m ∧ Weak k st' st'' ∧ I m' st''
    | e => K e st'
attribute [irreducible] loopK

def tailEdges (masks : List Nat) : List Edge → Nat → Nat
  | [], m => m
  | e :: es, m => tailEdges masks es (bif Region.binds .any e then m ||| (1 <<< e.on) ||| (masks[e.on]?).getD 0 else m)
/-- Which operations bind one, at once or through others: as bits. -/
def masksOf : List Oper → List Nat → List Nat
  | [], masks => masks
  | o :: rest, masks => masksOf rest (masks ++ [tailEdges masks o.after.toList 0])
def edge (ops : Array Oper) (i j : Nat) : Bool := (((masksOf ops.toList [])[i]?).getD 0).testBit j
def mutOp (M : Nat → Nat) (o : Oper) : Bool := !roOp M o && !mkOp M o

def isStore (o : Oper) : Bool :=
  match o.op with
  | .store _ _ _ => true
  | _ => false
def arOp : BinOp → Bool
  | .eql | .neq => false
  | _ => true
/-- What a store does not change. -/
def insOp (o : Oper) : Bool :=
  match o.op with
  | .binOp op _ _ _ _ => arOp op
  | .move _ | .assign _ | .pick _ _ _ | .fieldAddr _ _ _ | .indexAddr _ _ _ | .extract _ _ | .nilCheck _ => true
  | _ => false
/-- What looks at no object. -/
def mvOp (o : Oper) : Bool :=
  match o.op with
  | .move _ | .assign _ => true
  | _ => false
/-- What is the same before an object is made. -/
def dnOp (M : Nat → Nat) (o : Oper) : Bool :=
  match o.op with
  | .move _ | .assign _ | .load _ _ | .fieldAddr _ _ _ => true
  | .buildSlice _ _ _ => Nat.beq (clsOf M o.dst) 3
  | _ => false
/-- Two operations of a region: where it matters, the text's order binds them. -/
def edgeM (masks : List Nat) (i j : Nat) : Bool := ((masks[i]?).getD 0).testBit j
/-- A load and a store that never meet. -/
def lsB (al : Tmp → Tmp → Bool) (o p : Oper) : Bool :=
  match o.op, p.op with
  | .load _ (.tmp a), .store _ (.tmp b) _ => al a b
  | _, _ => false
def noDst (ops : Array Oper) (a b : Tmp) : Bool := ops.toList.all fun o => match o.dst with | some t => !Nat.beq t a && !Nat.beq t b | none => true
/-- Both hold pointers, to different objects, from before the region. -/
def aliasB (ops : Array Oper) (env : Env) (a b : Tmp) : Bool :=
  match env a, env b with
  | .pobj id _ _, .pobj id' _ _ => !Nat.beq id id' && noDst ops a b
  | _, _ => false
def AliasP (ops : Array Oper) (env : Env) (a b : Tmp) : Prop :=
  (∀ (j : Nat) (o : Oper), ops[j]? = some o → o.dst ≠ some a ∧ o.dst ≠ some b) ∧ ∃ id i j id' i' j', env a = .pobj id i j ∧ env b = .pobj id' i' j' ∧ id' ≠ id
def swB (sw : Option Nat) (i j : Nat) : Bool :=
  match sw with
  | none => false
  | some a => Nat.beq i a && Nat.beq j (a + 1)
def pairOk (al : Tmp → Tmp → Bool) (M : Nat → Nat) (sw : Option Nat) (masks : List Nat) (ops : Array Oper) (i j : Nat) (o p : Oper) : Bool :=
  (Nat.beq i j || (match o.dst, p.dst with | some a, some b => !Nat.beq a b | _, _ => true)) &&
  (match p.dst with
   | some t => !(o.looksAt ops).contains t || (bif Nat.blt j i then edgeM masks i j else Nat.blt i j && edgeM masks j i)
   | none => true) &&
  (!Nat.blt i j || ((roOp M o || edgeM masks j i || (mkOp M o && dnOp M p) || mvOp p || swB sw i j) && (!mutOp M p || edgeM masks j i || (isStore p && insOp o) || lsB al o p)))
def drawOkM (al : Tmp → Tmp → Bool) (M : Nat → Nat) (sw : Option Nat) (masks : List Nat) (ops : Array Oper) : Bool :=
  (List.range ops.size).all fun i =>
    match ops[i]? with
    | none => true
    | some o => notSel o.op && (o.after.all fun e => !Region.binds .any e || Nat.blt e.on i) &&
      (List.range ops.size).all fun j =>
        match ops[j]? with
        | none => true
        | some p => pairOk al M sw masks ops i j o p
def drawOkA (al : Tmp → Tmp → Bool) (M : Nat → Nat) (ops : Array Oper) : Bool := drawOkM al M none (masksOf ops.toList []) ops
def noAl : Tmp → Tmp → Bool := fun _ _ => false
def drawOk (M : Nat → Nat) (ops : Array Oper) : Bool := drawOkA noAl M ops

/-- Two objects that are made one behind the other, in either order: a and a + 1; what stands ahead makes none; what stands behind is behind both. -/
def isAlloc (P : Program) (o : Oper) : Bool :=
  match o.op, o.guard, o.dst with
  | .alloc t, none, some _ => (match zeroC P t with | some cs => cs.all plainD | none => false)
  | _, _, _ => false
def optAllB {α : Type} (x : Option α) (f : α → Bool) : Bool :=
  match x with
  | some a => f a
  | none => false
def swapOkM (P : Program) (a : Nat) (masks : List Nat) (ops : Array Oper) : Bool :=
  drawOkM noAl M0 (some a) masks ops && optAllB ops[a]? (isAlloc P) && optAllB ops[a + 1]? (isAlloc P) &&
  (List.range ops.size).all fun i => optAllB ops[i]? fun o => o.guard.isNone && (bif Nat.blt i a then roOp M0 o else Nat.ble i (a + 1) || (edgeM masks i a && edgeM masks i (a + 1)))
def swapOk (P : Program) (a : Nat) (ops : Array Oper) : Bool := swapOkM P a (masksOf ops.toList []) ops
/-- What stands ahead of them tells no memory. -/
def ScaAt (a : Nat) (ops : Array Oper) (st : PSt) : Prop := ∀ (j : Nat) (o : Oper) (t : Tmp), j < a → ops[j]? = some o → o.dst = some t → Sca (st.env t)
def drawK (P : Program) (n : Nat) (ops : Array Oper) (st : PSt) (p : Det → Prop) (K : PSt → Prop) : Prop :=
  (∃ M al, (∀ a b, al a b = true → AliasP ops st.env a b) ∧ (drawOkA al M ops && P.follows .mixedOrders) = true ∧ p (some M)) ∨
  (∃ a, (swapOk P a ops && P.follows .mixedOrders) = true ∧ pops P n (some M0) ops ops.toList [] st fun st' => ScaAt a ops st' ∧ K st')
attribute [irreducible] drawK

def hasBodyB (P : Program) (f : FuncId) : Bool :=
  match P.funcs[f]? with
  | some fn => fn.body.isSome && !(fn.name == "runtime.NumGoroutine")
  | none => false
/-- A range over a function that asks for no round. -/
def rangeK (P : Program) (g : Operand) (st : PSt) (K : Objs → Prop) : Prop :=
  match ev st.env g with
  | .func (.func f) [] cs => hasBodyB P f = true ∧ callK P f (.junk :: cs) st.σ fun _ σ' => K σ'
  | _ => False
attribute [irreducible] rangeK
def hasCond : Code → Bool
  | .cond _ _ _ => true
  | .seq a b => hasCond a || hasCond b
  | .block _ b => hasCond b
  | .loop b => hasCond b
  | .scope b => hasCond b
  | _ => false
/-- Two statements, the first of which takes several ways: M holds where they meet. -/
def joinK (k : Nat) (F G : PSt → (Exit → PSt → Prop) → Prop) (st : PSt) (K : Exit → PSt → Prop) : Prop :=
  ∃ M : PSt → Prop, (F st fun e st' =>
    match e with
    | .normal => ∃ st'', Weak k st' st'' ∧ M st''
    | e => K e st') ∧ ∀ st', M st' → G st' K
attribute [irreducible] joinK

def pwp (P : Program) (n k : Nat) : Code → PSt → (Exit → PSt → Prop) → Prop
  | .skip, st, K => K .normal st
  | .region _ ops draw, st, K => bif draw then drawK P n ops st (fun det => pops P n det ops ops.toList [] st (K .normal)) (K .normal) else bif ops.toList.any (·.guard.isSome) then guardK P n k ops st (K .normal) else pops P n none ops ops.toList [] st (K .normal)
  | .seq a b, st, K => bif hasCond a then joinK k (pwp P n k a) (pwp P n k b) st K else pwp P n k a st fun e st' =>
    match e with
    | .normal => pwp P n k b st' K
    | e => K e st'
  | .cond c a b, st, K => condK (ev st.env c) (pwp P n k a st K) (pwp P n k b st K)
  | .block id b, st, K => pwp P n k b st fun e st' =>
    match e with
    | .exit id' => bif Nat.beq id' id then K .normal st' else K (.exit id') st'
    | e => K e st'
  | .loop b, st, K => loopK k (pwp P n k b) st K
  | .exit id, st, K => K (.exit id) st
  | .scope b, st, K => pwp P n k b st fun e st' =>
    match e with
    | .goto _ => False
    | e => K e st'
  | .label _, st, K => K .normal st
  | .ret, st, K => K .ret st
  | .rangeFunc g _ _ _, st, K => rangeK P g st fun σ' => K .normal ⟨st.env, σ'⟩
  | _, _, _ => False

end Go.Pv
