/- A run over pure values: what a closed call comes to, reckoned. -/
import Derived.Test.YthbjeeipeadilaaGreatPv9
set_option linter.unusedSimpArgs false
set_option linter.unusedVariables false
namespace Go.Pv
open Go Go.RowKit

abbrev CallX := FuncId → List DV → Objs → Option (DV × Objs)

def intX : DV → Option Int
  | .int _ z => some z
  | _ => none
def guardX {α : Type} (b : Bool) (x : Option α) : Option α := bif b then x else none
def purX (P : Program) (o : Oper) (env : Env) : Option DV :=
  guardX (notSel o.op && o.op.operands.toList.all (fun x => (toV (ev env x)).isSome))
    (match pureRun P (execOp (fun x => (toV (ev env x)).getD undef) o) with
     | some (.value v) => some (ofV1 v)
     | _ => none)
def capB (n b : Nat) : Bool := Nat.ble n maxLen && Nat.ble (n * b) 140737488355328
def copyX (P : Program) (e : TypeId) (x y : DV) (σ : Objs) : Option (DV × Objs) :=
  match x, y with
  | .ref id off len, .str s =>
    (obj σ id).bind fun po => guardX (oneCell P e)
      (bif Nat.beq (Nat.min s.size len) 0 then some (.int .i64 0, σ) else
        guardX (!po.frz && cellTy po.ty && Nat.beq po.sz 1 && Nat.ble (off + Nat.min s.size len) po.els.length) (some (.int .i64 (Nat.min s.size len : Nat), σ.set id (some ⟨false, po.sz, po.ty, setEls po.els off (byteDs s (Nat.min s.size len))⟩))))
  | _, _ => none
def appX (P : Program) (e : TypeId) (s x : DV) (σ : Objs) : Option (DV × Objs) :=
  (infoC P e).bind fun i => guardX (infOk i) ((elsOf σ x).bind fun news => guardX (news.all (fun ds => Nat.beq ds.length i.size))
    (match s with
     | .nils => guardX (capB news.length i.bytes) (some (.ref σ.length 0 news.length, σ ++ [some ⟨false, i.size, e, news⟩]))
     | .ref id off len => (obj σ id).bind fun po => guardX (poOk po i e && Nat.beq off 0 && Nat.beq len po.els.length && capB (len + news.length) i.bytes)
         (some (.ref σ.length 0 (len + news.length), σ.set id none ++ [some ⟨false, i.size, e, po.els ++ news⟩]))
     | _ => none))
def bndX (lo hi : Option DV) (n m : Nat) : Option (Nat × Nat) :=
  match hi, lo with
  | none, none => some (0, n)
  | none, some l => (intX l).bind fun l => guardX (decide (0 ≤ l) && decide (l ≤ (n : Int))) (some (l.toNat, n))
  | some h, none => (intX h).bind fun h => guardX (decide (0 ≤ h) && decide (h ≤ (m : Int))) (some (0, h.toNat))
  | some h, some l => (intX h).bind fun h => (intX l).bind fun l => guardX (decide (0 ≤ l) && decide (l ≤ h) && decide (h ≤ (m : Int))) (some (l.toNat, h.toNat))
def ixX (P : Program) (e : TypeId) (x i : DV) (σ : Objs) : Option DV :=
  (intX i).bind fun z => (szOf P e).bind fun s =>
    match x with
    | .ref id off len => guardX (decide (0 ≤ z) && decide (z < (len : Int))) ((obj σ id).bind fun po => guardX (Nat.beq po.sz s) (some (.pobj id (off + z.toNat) 0)))
    | .list xs => guardX (decide (0 ≤ z) && decide (z < (xs.length : Int))) ((xs[z.toNat]?).bind fun ds => guardX (Nat.beq ds.length s) (some (.pim ds)))
    | _ => none
def ixaX (P : Program) (m : Nat) (e : TypeId) (x i : DV) (σ : Objs) : Option DV :=
  (intX i).bind fun z => (szOf P e).bind fun s => guardX (decide (0 ≤ z) && decide (z < (m : Int)))
    (match x with
     | .pobj id a b => (obj σ id).bind fun _ => some (.pobj id a (b + z.toNat * s))
     | .pim cs => some (.pim (cs.drop (z.toNat * s)))
     | _ => none)
def binX (op : BinOp) (x y : DV) (dflt : Option DV) : Option DV :=
  match op, x, y with
  | .quo, .int k a, .int k' b => guardX (decide (k = k') && !decide (b = 0)) (some (.int k (k.wrap (a.tdiv b))))
  | .rem, .int k a, .int k' b => guardX (decide (k = k') && !decide (b = 0)) (some (.int k (a.tmod b)))
  | .shl, .int k a, .int _ b => guardX (decide (0 ≤ b)) (some (.int k (k.wrap (a * 2 ^ (min b.toNat k.bits)))))
  | .shr, .int k a, .int _ b => guardX (decide (0 ≤ b)) (some (.int k (a.fdiv (2 ^ (min b.toNat k.bits)))))
  | .add, .str a, .str b => guardX (decide (((a.size + b.size : Nat) : Int) ≤ IntKind.i64.max)) (some (.str (a ++ b)))
  | .add, .flt k a, .flt k' b => guardX (decide (k = k')) ((floatBits .add k a b).bind fun r => some (.flt k r))
  | .sub, .flt k a, .flt k' b => guardX (decide (k = k')) ((floatBits .sub k a b).bind fun r => some (.flt k r))
  | .mul, .flt k a, .flt k' b => guardX (decide (k = k')) ((floatBits .mul k a b).bind fun r => some (.flt k r))
  | .quo, .flt k a, .flt k' b => guardX (decide (k = k')) ((floatBits .quo k a b).bind fun r => some (.flt k r))
  | _, _, _ => dflt
def eqTopX (P : Program) (σ : Objs) (t : TypeId) (x y : DV) (f : Bool → DV) (dflt : Option DV) : Option DV :=
  match x, y with
  | .agg xs, .agg ys => guardX (eqOkB P 6 t && !P.eqGuardType P.depth t) ((eqD P 6 t (.agg xs) (.agg ys)).bind fun r => some (f r))
  | x, y =>
    match eqR P t x y with
    | some r => guardX (eqNeed σ x y) (some (f r))
    | none => dflt
def cmpX (P : Program) (σ : Objs) (op : BinOp) (t : TypeId) (x y : DV) (dflt : Option DV) : Option DV :=
  match op with
  | .eql => eqTopX P σ t x y (fun r => .bool r) dflt
  | .neq => eqTopX P σ t x y (fun r => .bool (!r)) dflt
  | op => binX op x y dflt
def cvtX (P : Program) (s t : TypeId) (d : DV) (σ : Objs) (dflt : Option DV) : Option DV :=
  bif isSl d then
    match P.underlying s, P.underlying t with
    | some (.slice e), some .string =>
      match P.underlying e with
      | some (.int .u8) => (elsOf σ d).bind fun els => (bytesD els).bind fun bs => some (.str ⟨bs.toArray⟩)
      | _ => none
    | _, _ => none
  else match s2b P s t d with
  | some r => some r
  | none => dflt
def assertX (P : Program) (t : TypeId) (ok : Bool) (d : DV) : Option DV :=
  match P.underlying t, d with
  | some (.interface _), _ => none
  | some _, .iface t' v => bif Nat.beq t' t then some (bif ok then .tup [v, .bool true] else v) else (bif ok then ((P.info? t).bind (·.zero)).bind fun z => some (.tup [ofV z, .bool false]) else none)
  | some _, .nili => bif ok then ((P.info? t).bind (·.zero)).bind fun z => some (.tup [ofV z, .bool false]) else none
  | _, _ => none

/-- What is owned, as it is read from now on (to a depth). -/
def blw0 : Nat → DV → Bool
  | 0, _ => false
  | m + 1, d =>
    match d with
    | .junk | .bool _ | .int _ _ | .flt _ _ | .str _ | .nils | .nilp | .nili | .nilf | .nilm => true
    | .agg cs => cs.all (blw0 m)
    | .tup cs => cs.all (blw0 m)
    | .list xs => xs.all fun ds => ds.all (blw0 m)
    | .pim cs => cs.all (blw0 m)
    | .iface _ v => blw0 m v
    | .func _ fs cs => fs.all (blw0 m) && cs.all (blw0 m)
    | _ => false
def scaB : Nat → DV → Bool
  | 0, _ => false
  | m + 1, d =>
    match d with
    | .junk | .bool _ | .int _ _ | .flt _ _ | .str _ | .nils | .nilp | .nili | .nilf | .nilm => true
    | .agg cs => cs.all (scaB m)
    | .tup cs => cs.all (scaB m)
    | .iface _ v => scaB m v
    | _ => false
def mapX {α β : Type} (f : α → Option β) : List α → Option (List β)
  | [] => some []
  | a :: as => (f a).bind fun b => (mapX f as).bind fun bs => some (b :: bs)
def snapX (σ : Objs) : Nat → DV → Option DV
  | 0, _ => none
  | m + 1, d =>
    bif blw0 (m + 1) d then some d else
    match d with
    | .ref id off len => (obj σ id).bind fun po => guardX (Nat.ble (off + len) po.els.length) ((mapX (mapX (snapX σ m)) ((po.els.drop off).take len)).bind fun xs => some (.list xs))
    | .pobj id i j => (obj σ id).bind fun po => (po.els[i]?).bind fun es => guardX (Nat.ble j es.length) ((mapX (snapX σ m) (es.drop j)).bind fun ds => some (.pim ds))
    | .agg cs => (mapX (snapX σ m) cs).bind fun ds => some (.agg ds)
    | .tup cs => (mapX (snapX σ m) cs).bind fun ds => some (.tup ds)
    | .iface t v => (snapX σ m v).bind fun d => some (.iface t d)
    | _ => none
/-- A call where the order is open: what is owned is told as what is read; the answer tells no memory. -/
def drawX (call : CallX) (f : FuncId) (ds : List DV) (σ : Objs) : Option DV :=
  (mapX (snapX σ 20) ds).bind fun ds' => (call f ds' []).bind fun r => guardX (ds'.all (blw0 40) && scaB 40 r.1) (some r.1)

/-- ... the answer is a new object that tells no memory. -/
def makeX (call : CallX) (f : FuncId) (ds : List DV) (σ : Objs) : Option (DV × Objs) :=
  (mapX (snapX σ 20) ds).bind fun ds' => (call f ds' []).bind fun r => guardX (ds'.all (blw0 40))
    (match r.1 with
     | .ref id 0 n => (obj r.2 id).bind fun po => guardX (!po.frz && Nat.beq n po.els.length && po.els.all (fun es => es.all (scaB 40))) (some (.ref σ.length 0 po.els.length, σ ++ [some po]))
     | .pobj id 0 0 => (obj r.2 id).bind fun po => guardX (!po.frz && po.els.all (fun es => es.all (scaB 40))) (some (.pobj σ.length 0 0, σ ++ [some po]))
     | _ => none)
def listB {α : Type} (f : α → α → Bool) : List α → List α → Bool
  | [], [] => true
  | a :: as, b :: bs => f a b && listB f as bs
  | _, _ => false
/-- The same value (to a depth). -/
def dvB : Nat → DV → DV → Bool
  | 0, _, _ => false
  | m + 1, a, b =>
    match a, b with
    | .junk, .junk => true
    | .bool x, .bool y => decide (x = y)
    | .int k x, .int l y => decide (k = l) && decide (x = y)
    | .flt k x, .flt l y => decide (k = l) && decide (x = y)
    | .str x, .str y => decide (x.data = y.data)
    | .agg xs, .agg ys => listB (dvB m) xs ys
    | .tup xs, .tup ys => listB (dvB m) xs ys
    | .pim xs, .pim ys => listB (dvB m) xs ys
    | .func f xs ys, .func g us vs => decide (f = g) && listB (dvB m) xs us && listB (dvB m) ys vs
    | .nils, .nils => true
    | .list xs, .list ys => listB (listB (dvB m)) xs ys
    | .ref i o l, .ref i' o' l' => decide (i = i') && decide (o = o') && decide (l = l')
    | .nilp, .nilp => true
    | .pobj i o l, .pobj i' o' l' => decide (i = i') && decide (o = o') && decide (l = l')
    | .nili, .nili => true
    | .iface t x, .iface u y => decide (t = u) && dvB m x y
    | .nilf, .nilf => true
    | .nilm, .nilm => true
    | .hnd a i, .hnd b j => decide (a = b) && decide (i = j)
    | _, _ => false
def optB : Option PO → Option PO → Bool
  | none, none => true
  | some a, some b => decide (a.frz = b.frz) && decide (a.sz = b.sz) && decide (a.ty = b.ty) && listB (listB (dvB 20)) a.els b.els
  | _, _ => false
/-- The objects that were there, and more. -/
def preB : Objs → Objs → Bool
  | [], _ => true
  | x :: xs, y :: ys => optB x y && preB xs ys
  | _, _ => false
def callDX (call : CallX) (det : Det) (dst : Option Tmp) (f : FuncId) (ds : List DV) (σ : Objs) : Option (DV × Objs) :=
  match det with
  | none => call f ds σ
  | some M =>
    match clsOf M dst with
    | 0 => (drawX call f ds σ).bind fun d => some (d, σ)
    | 1 => makeX call f ds σ
    | 4 => (call f ds σ).bind fun r => guardX (preB σ r.2) (some r)
    | _ => call f ds σ

def plainX {α : Type} (det : Det) (x : Option α) : Option α :=
  match det with
  | none => x
  | some _ => none
def lookX (P : Program) (xt : TypeId) (x i : DV) (ok : Bool) (σ : Objs) : Option DV :=
  match P.underlying xt with
  | some (.map kt et) => guardX (keyTy P kt i) ((entsOf σ x).bind fun es => (findM i es 0).bind fun r =>
      match r with
      | some (_, v) => some (bif ok then .tup [v, .bool true] else v)
      | none => ((P.info? et).bind (·.zero)).bind fun z => some (bif ok then .tup [ofV z, .bool false] else ofV z))
  | _ => none
def updX (P : Program) (t : TypeId) (m k x : DV) (σ : Objs) : Option Objs :=
  match P.underlying t, m with
  | some (.map kt _), .hnd false id => guardX (keyTy P kt k && unfrz σ id) ((entsOf σ (.hnd false id)).bind fun es => (findM k es 0).bind fun r =>
      match r with
      | some (i, _) => some (mapWr σ id ((es.set (2 * i) k).set (2 * i + 1) x))
      | none => some (mapWr σ id (es ++ [k, x])))
  | _, _ => none
def makeMX (P : Program) (t : TypeId) (r : Option DV) (σ : Objs) : Option (DV × Objs) :=
  match r with
  | none => some (.hnd false σ.length, σ ++ [some (mapPO [])])
  | some d =>
    match P.underlying t, d with
    | some (.map _ _), .int _ _ => some (.hnd false σ.length, σ ++ [some (mapPO [])])
    | _, _ => none
def rangeMX (P : Program) (xt : TypeId) (x : DV) (σ : Objs) : Option (DV × Objs) :=
  match P.underlying xt, x with
  | some (.map _ _), .nilm => some (.hnd true σ.length, σ ++ [some (iterPO [.nilm, .int .i64 0, .int .i64 0])])
  | some (.map _ _), .hnd false id => (entsOf σ (.hnd false id)).bind fun es => some (.hnd true σ.length, σ ++ [some (iterPO [.hnd false id, .int .i64 (es.length / 2 : Nat), .int .i64 (es.length / 2 : Nat)])])
  | some .string, .str s => some (.hnd true σ.length, σ ++ [some (siterPO [.str s, .int .i64 0])])
  | _, _ => none
def entryMX (it : DV) (σ : Objs) : Option DV :=
  (itemOf σ it).bind fun x =>
    match x.2.2 with
    | .hnd false m :: .int _ _ :: .int _ last :: seen => guardX (Nat.beq x.2.1.ty iterTy && seen.all isIntD) ((entsOf σ (.hnd false m)).bind fun es => guardX (decide (last = (es.length / 2 : Nat)))
        (match seen.getLast? with
         | some (.int _ z) => guardX (decide (0 ≤ z)) ((es[2 * z.toNat]?).bind fun k => (es[2 * z.toNat + 1]?).bind fun v => some (.tup [k, v]))
         | _ => none))
    | _ => none
/-- What may come next. -/
def nextMX (it : DV) (isS : Bool) (σ : Objs) : Option (List (DV × Objs)) :=
  (itemOf σ it).bind fun x =>
    match isS, x.2.2 with
    | true, [.str s, .int _ pos] => guardX (!x.2.1.frz && Nat.beq x.2.1.ty siterTy)
        (bif decide (0 ≤ pos) && decide (pos < (s.size : Int)) then some [(.tup [.bool true, .int .i64 pos, .int .i32 (Utf8.decode s pos.toNat).1], σ.set x.1 (some (siterPO [.str s, .int .i64 (pos.toNat + (Utf8.decode s pos.toNat).2 : Nat)])))]
        else bif decide (0 ≤ pos) then some [(.tup [.bool false], σ)] else none)
    | false, .nilm :: _ => guardX (Nat.beq x.2.1.ty iterTy) (some [(.tup [.bool false], σ)])
    | false, .hnd false m :: .int k1 since :: .int k2 last :: seen => guardX (!x.2.1.frz && Nat.beq x.2.1.ty iterTy && seen.all isIntD)
        ((entsOf σ (.hnd false m)).bind fun es => guardX (decide (since = (es.length / 2 : Nat)) && decide (last = (es.length / 2 : Nat)))
          (match (List.range (es.length / 2)).filter (notSeen seen) with
           | [] => some [(.tup [.bool false], σ)]
           | j :: js => mapX (fun i => (es[2 * i]?).bind fun k => (es[2 * i + 1]?).bind fun v => some (.tup [.bool true, k, v], σ.set x.1 (some (iterPO (.hnd false m :: .int k1 since :: .int k2 last :: (seen ++ [.int .i64 i])))))) (j :: js)))
    | _, _ => none

def lowX (lo : Option DV) : Option Int :=
  match lo with
  | none => some 0
  | some d => intX d
def sl3X (P : Program) (det : Det) (e : TypeId) (x : DV) (lo : Option DV) (hi mx : DV) (σ : Objs) : Option (DV × Objs) :=
  (intX hi).bind fun h => (intX mx).bind fun m => (lowX lo).bind fun l => guardX (decide (0 ≤ l) && decide (l ≤ h) && decide (h ≤ m))
    (match x with
     | .nils => guardX (decide (m = 0)) ((szOf P e).bind fun _ => some (.nils, σ))
     | .list xs => (szOf P e).bind fun s => guardX (xs.all (fun ds => Nat.beq ds.length s) && decide (m ≤ (xs.length : Int))) (some (.list ((xs.drop l.toNat).take (h.toNat - l.toNat)), σ))
     | .ref id off len => plainX det ((szOf P e).bind fun s => (obj σ id).bind fun po => guardX (Nat.beq po.sz s && Nat.ble (off + len) po.els.length)
         (bif clipB po off len l h m then some (.ref σ.length 0 len, σ.set id none ++ [some ⟨false, po.sz, po.ty, po.els.take len⟩]) else guardX (decide (m ≤ (len : Int)) && (((po.els.drop off).take len).all (fun ds => ds.all (blw0 20)) && ((po.els.drop off).take len).all (fun ds => Nat.beq ds.length s)))
           (some (.list ((((po.els.drop off).take len).drop l.toNat).take (h.toNat - l.toNat)), frz [id] σ))))
     | _ => none)
def vopX (P : Program) (call : CallX) (det : Det) (o : Oper) (env : Env) (σ : Objs) : Option (DV × Objs) :=
  match o.op with
  | .move x => some (ev env x, σ)
  | .assign x => some (ev env x, σ)
  | .pick c a b =>
    match ev env c with
    | .bool v => some (bif v then ev env a else ev env b, σ)
    | _ => none
  | .alloc t => (zeroC P t).bind fun cs => guardX (cs.all (cellOk σ)) (some (.pobj σ.length 0 0, σ ++ [some ⟨false, cs.length, t, [cs]⟩]))
  | .box t x => guardX ((boxOk σ (ev env x) && (cellsD (ev env x)).all (cellOk σ)) && cellTy t) (some (.pobj σ.length 0 0, σ ++ [some ⟨false, (cellsD (ev env x)).length, t, [cellsD (ev env x)]⟩]))
  | .build t parts => guardX (parts.toList.all (fun p => boxOk σ (ev env p.2))) ((builtD P t (parts.toList.map fun p => (p.1, ev env p.2))).bind fun cs => some (.agg cs, σ))
  | .buildSlice t len parts =>
    match P.underlying t with
    | some (.slice e) => (infoC P e).bind fun i => (zeroD P e).bind fun z =>
      guardX (parts.toList.all (fun p => boxOk σ (ev env p.2)) && Nat.ble 1 i.size && Nat.beq z.length i.size && Nat.ble (len * i.size) 16777216)
        ((fillD (fun k => some (k * i.size, i.size)) ((List.range (len * i.size)).map fun q => (z[q % z.length]?).getD .junk) (parts.toList.map fun p => (p.1, ev env p.2))).bind fun flat =>
          guardX (flat.all (cellOk σ)) (bif asList det o.dst then guardX (flat.all plainD) (some (.list ((List.range len).map fun k => (flat.drop (k * i.size)).take i.size), σ))
            else some (.ref σ.length 0 len, σ ++ [some ⟨false, i.size, e, (List.range len).map fun k => (flat.drop (k * i.size)).take i.size⟩])))
    | _ => none
  | .load t x =>
    match ev env x with
    | .pobj id i j => (obj σ id).bind fun po => (po.els[i]?).bind fun ds => (partD P t ds j).bind fun d => some (d, σ)
    | .pim cs => (partD P t cs 0).bind fun d => some (d, σ)
    | _ => none
  | .store t x y =>
    match ev env x, shp P t with
    | .pobj id i j, some (_, m) => (obj σ id).bind fun po => (po.els[i]?).bind fun ds =>
      guardX (!po.frz && boxOk σ (ev env y) && (cellsD (ev env y)).all (cellOk σ) && Nat.beq (cellsD (ev env y)).length m && Nat.ble (j + m) ds.length)
        (some (.junk, σ.set id (some ⟨false, po.sz, po.ty, po.els.set i (setCells ds j (cellsD (ev env y)))⟩)))
    | _, _ => none
  | .fieldAddr t x f =>
    match ev env x, fldOff P t f with
    | .pobj id i j, some (off, _) => (obj σ id).bind fun _ => some (.pobj id i (j + off), σ)
    | .pim cs, some (off, _) => some (.pim (cs.drop off), σ)
    | _, _ => none
  | .field t x f =>
    match ev env x, fldOff P t f with
    | .agg cs, some (off, u) => (partD P u cs off).bind fun d => some (d, σ)
    | _, _ => none
  | .indexAddr t x i =>
    match P.underlying t with
    | some (.slice e) => (ixX P e (ev env x) (ev env i) σ).bind fun d => some (d, σ)
    | some (.array m e) => (ixaX P m e (ev env x) (ev env i) σ).bind fun d => some (d, σ)
    | _ => none
  | .index t x i =>
    match P.underlying t, ev env x with
    | some .string, .str s => (intX (ev env i)).bind fun z => guardX (decide (0 ≤ z)) ((s[z.toNat]?).bind fun b => some (.int .u8 b.toNat, σ))
    | some (.array m e), .agg cs => (intX (ev env i)).bind fun z => (szOf P e).bind fun s => guardX (decide (0 ≤ z) && decide (z < (m : Int))) ((partD P e cs (z.toNat * s)).bind fun d => some (d, σ))
    | _, _ => none
  | .slice t x lo hi mx =>
    match P.underlying t, ev env x, mx with
    | some .string, .str s, none => (bndX (lo.map (ev env)) (hi.map (ev env)) s.size s.size).bind fun b => some (.str (s.extract b.1 b.2), σ)
    | some (.slice e), .nils, none => (szOf P e).bind fun _ => (bndX (lo.map (ev env)) (hi.map (ev env)) 0 0).bind fun _ => some (.nils, σ)
    | some (.slice e), .list xs, none => (szOf P e).bind fun s => guardX (xs.all fun ds => Nat.beq ds.length s) ((bndX (lo.map (ev env)) (hi.map (ev env)) xs.length xs.length).bind fun b => some (.list ((xs.drop b.1).take (b.2 - b.1)), σ))
    | some (.slice e), .ref id off len, none => (szOf P e).bind fun s => (obj σ id).bind fun po => guardX (Nat.beq po.sz s)
        ((bndX (lo.map (ev env)) (hi.map (ev env)) len (po.els.length - off)).bind fun b => some (.ref id (off + b.1) (b.2 - b.1), σ))
    | some (.slice e), d, some m => (match hi with | some u => sl3X P det e d (lo.map (ev env)) (ev env u) (ev env m) σ | none => none)
    | _, _, _ => none
  | .makeSlice t l c =>
    match P.underlying t with
    | some (.slice e) => (infoC P e).bind fun i => (zeroD P e).bind fun z => (intX (ev env l)).bind fun l => (intX (ev env c)).bind fun c =>
      guardX (decide (0 ≤ l) && decide (l ≤ c) && decide ((i.bytes : Int) * c ≤ 281474976710656) && decide (c ≤ 9223372036854775807) && !decide (i.size = 0) && decide (z.length = i.size) && z.all (cellOk σ))
        (some (.ref σ.length 0 l.toNat, σ ++ [some ⟨false, i.size, e, List.replicate l.toNat z⟩]))
    | _ => none
  | .binOp op t x y _ => (cmpX P σ op t (ev env x) (ev env y) (purX P o env)).bind fun d => some (d, σ)
  | .convert s t x => (cvtX P s t (ev env x) σ (purX P o env)).bind fun d => some (d, σ)
  | .makeInterface t x =>
    match P.underlying t with
    | some (.interface _) => none
    | some _ => some (.iface t (ev env x), σ)
    | none => none
  | .nilCheck x =>
    match ev env x with
    | .pobj id i j => (obj σ id).bind fun _ => some (.pobj id i j, σ)
    | .pim cs => some (.pim cs, σ)
    | .func (.func f) fs cs => some (.func (.func f) fs cs, σ)
    | .iface t v => some (.iface t v, σ)
    | _ => none
  | .typeAssert x _ t ok => (assertX P t ok (ev env x)).bind fun d => some (d, σ)
  | .makeFunc fn fs cs => some (.func fn (fs.toList.map (ev env)) (cs.toList.map (ev env)), σ)
  | .extract x i =>
    match ev env x with
    | .tup ds => (ds[i]?).bind fun d => some (d, σ)
    | _ => none
  | .lookup xt x i ok => (lookX P xt (ev env x) (ev env i) ok σ).bind fun d => some (d, σ)
  | .mapUpdate t m k x => plainX det ((updX P t (ev env m) (ev env k) (ev env x) σ).bind fun s => some (.junk, s))
  | .insert t m k x => plainX det ((updX P t (ev env m) (ev env k) (ev env x) σ).bind fun s => some (.junk, s))
  | .makeMap t r => plainX det (makeMX P t (r.map (ev env)) σ)
  | .range xt x => plainX det (rangeMX P xt (ev env x) σ)
  | .next _ _ => none
  | .entry it => plainX det ((entryMX (ev env it) σ).bind fun d => some (d, σ))
  | .call c =>
    match c.callee with
    | .value (.func f) => callDX call det o.dst f (c.args.toList.map (ev env)) σ
    | .builtin .len =>
      match c.args.toList, c.argTypes.toList with
      | [x], [t] =>
        match P.underlying t, ev env x with
        | some .string, .str s => some (.int .i64 s.size, σ)
        | some (.slice _), d => (lenS σ d).bind fun m => some (.int .i64 m, σ)
        | some (.map _ _), d => (entsOf σ d).bind fun es => some (.int .i64 (es.length / 2 : Nat), σ)
        | _, _ => none
      | _, _ => none
    | .builtin .append =>
      match c.args.toList, c.argTypes.toList with
      | [s, x], [t, u] =>
        match P.underlying t with
        | some (.slice e) => guardX (Nat.beq t u) (appX P e (ev env s) (ev env x) σ)
        | _ => none
      | _, _ => none
    | .builtin .copy =>
      match c.args.toList, c.argTypes.toList with
      | [x, y], [t, _] =>
        match P.underlying t with
        | some (.slice e) => plainX det (copyX P e (ev env x) (ev env y) σ)
        | _ => none
      | _, _ => none
    | .builtin .min =>
      match c.args.toList.map (ev env) with
      | [.int k x, .int _ y] => some (.int k (if y < x then y else x), σ)
      | _ => none
    | .builtin .max =>
      match c.args.toList.map (ev env) with
      | [.int k x, .int _ y] => some (.int k (if y > x then y else x), σ)
      | _ => none
    | .builtin _ => none
    | _ => (calleeD P env c).bind fun x => callDX call det o.dst x.1 x.2 σ
  | _ => (purX P o env).bind fun d => some (d, σ)

def putX (n : Nat) (dst : Option Tmp) (v : DV) (st : PSt) : Option PSt :=
  match dst with
  | none => some st
  | some d => guardX (Nat.blt d n) (some ⟨upd st.env d v, st.σ⟩)
/-- All that may come of it. -/
def allX {α β : Type} (f : α → Option (List β)) : List α → Option (List β)
  | [] => some []
  | [a] => f a
  | a :: as => (f a).bind fun bs => (allX f as).bind fun cs => some (bs ++ cs)
def bindL {α β : Type} (x : Option (List α)) (f : α → Option (List β)) : Option (List β) := x.bind (allX f)
def popX (P : Program) (call : CallX) (n : Nat) (det : Det) (o : Oper) (st : PSt) : Option (List PSt) :=
  bif nilB P det o st.env st.σ then (putX n o.dst (.bool true) st).bind fun a => (putX n o.dst (.bool false) st).bind fun b => some [a, b] else
  match o.op with
  | .next it isS => plainX det ((nextMX (ev st.env it) isS st.σ).bind (mapX fun r => putX n o.dst r.1 ⟨st.env, r.2⟩))
  | _ => (vopX P call det o st.env st.σ).bind fun r => (putX n o.dst r.1 ⟨st.env, r.2⟩).bind fun s => some [s]
def popsX (P : Program) (call : CallX) (n : Nat) (det : Det) (ops : Array Oper) : List Oper → Kn → PSt → Option (List PSt)
  | [], _, st => some [st]
  | o :: rest, G, st =>
    match o.guard with
    | none =>
      match knownPick G o.op with
      | some x => (putX n o.dst (ev st.env x) st).bind fun st' => popsX P call n det ops rest (noteK G o.dst (knownOf G x)) st'
      | none => bindL (popX P call n det o st) fun st' => popsX P call n det ops rest (noteK G o.dst none) st'
    | some (j, want) =>
      match (ops[j]?).bind (·.dst) with
      | some t =>
        match gl G t with
        | some (some b) =>
          bif b == want then
            match knownPick G o.op with
            | some x => (putX n o.dst (ev st.env x) st).bind fun st' => popsX P call n det ops rest (noteK G o.dst (knownOf G x)) st'
            | none => bindL (popX P call n det o st) fun st' => popsX P call n det ops rest (noteK G o.dst none) st'
          else (putX n o.dst (skipD det) st).bind fun st' => popsX P call n det ops rest (noteK G o.dst (some none)) st'
        | some none => (putX n o.dst (skipD det) st).bind fun st' => popsX P call n det ops rest (noteK G o.dst (some none)) st'
        | none =>
          match st.env t with
          | .bool b =>
            bif b == want then
              match knownPick ((t, some (some want)) :: G) o.op with
              | some x => (putX n o.dst (ev st.env x) st).bind fun st' => popsX P call n det ops rest (noteK ((t, some (some want)) :: G) o.dst (knownOf ((t, some (some want)) :: G) x)) st'
              | none => bindL (popX P call n det o st) fun st' => popsX P call n det ops rest (noteK ((t, some (some want)) :: G) o.dst none) st'
            else (putX n o.dst (skipD det) st).bind fun st' => popsX P call n det ops rest (noteK ((t, some (some !want)) :: G) o.dst (some none)) st'
          | _ => none
      | none => none
def loopX (F : PSt → Option (List (Exit × PSt))) : Nat → PSt → Option (List (Exit × PSt))
  | 0, _ => none
  | m + 1, st => bindL (F st) fun r => match r.1 with | .normal => loopX F m r.2 | e => some [(e, r.2)]
/-- Which calls make an object: those whose answer is a slice or a pointer. -/
def makers (P : Program) (m z : Nat) : List Oper → Nat → Nat
  | [], _ => 0
  | o :: rest, t =>
    match o.dst with
    | some d => bif Nat.beq d t then (match P.underlying o.type with | some (.slice _) => m | some (.pointer _) => m | _ => z) else makers P m z rest t
    | none => makers P m z rest t
def tryX {α β : Type} (f : α → Option β) : List α → Option β
  | [] => none
  | a :: as =>
    match f a with
    | some b => some b
    | none => tryX f as
def normX (l : Option (List PSt)) : Option (List (Exit × PSt)) := l.bind fun l => some (l.map fun s => (.normal, s))
def orX {α : Type} (x y : Option α) : Option α :=
  match x with
  | some a => some a
  | none => y
def scaAtX (a : Nat) (ops : Array Oper) (st : PSt) : Bool := (List.range a).all fun j =>
  match ops[j]? with
  | some o => (match o.dst with | some t => scaB 40 (st.env t) | none => true)
  | none => true
def codeX (P : Program) (call : CallX) (n lf : Nat) : Code → PSt → Option (List (Exit × PSt))
  | .skip, st => some [(.normal, st)]
  | .region _ ops draw, st => bif draw then orX (tryX (fun x => guardX ((bif x.1 then drawOkA (aliasB ops st.env) x.2 ops else drawOk x.2 ops) && P.follows .mixedOrders) (normX (popsX P call n (some x.2) ops ops.toList [] st))) [(false, M0), (false, makers P 1 0 ops.toList), (false, makers P 1 2 ops.toList), (false, makers P 2 0 ops.toList), (false, makers P 4 0 ops.toList), (false, makers P 4 2 ops.toList), (false, fun _ => 4), (true, M0), (true, makers P 1 0 ops.toList), (true, makers P 4 0 ops.toList), (true, fun _ => 4)]) (tryX (fun a => guardX (swapOk P a ops && P.follows .mixedOrders) ((popsX P call n (some M0) ops ops.toList [] st).bind fun l => guardX (l.all (scaAtX a ops)) (normX (some l)))) (List.range ops.size)) else normX (popsX P call n none ops ops.toList [] st)
  | .seq a b, st => bindL (codeX P call n lf a st) fun r => match r.1 with | .normal => codeX P call n lf b r.2 | e => some [(e, r.2)]
  | .cond c a b, st =>
    match ev st.env c with
    | .bool v => bif v then codeX P call n lf a st else codeX P call n lf b st
    | _ => none
  | .block id b, st => bindL (codeX P call n lf b st) fun r => match r.1 with | .exit id' => bif Nat.beq id' id then some [(.normal, r.2)] else some [(.exit id', r.2)] | e => some [(e, r.2)]
  | .loop b, st => loopX (codeX P call n lf b) lf st
  | .exit id, st => some [(.exit id, st)]
  | .scope b, st => bindL (codeX P call n lf b st) fun r => match r.1 with | .goto _ => none | e => some [(e, r.2)]
  | .label _, st => some [(.normal, st)]
  | .ret, st => some [(.ret, st)]
  | .rangeFunc g _ _ _, st =>
    match ev st.env g with
    | .func (.func f) [] cs => guardX (hasBodyB P f) ((call f (.junk :: cs) st.σ).bind fun r => some [(.normal, ⟨st.env, r.2⟩)])
    | _ => none
  | _, _ => none
def res1X (P : Program) (st : PSt) : ResultVar → Option DV
  | .tmp t => some (st.env t)
  | .cell a t =>
    match st.env a with
    | .pobj id i j => (obj st.σ id).bind fun po => (po.els[i]?).bind fun ds => partD P t ds j
    | _ => none
def resX (P : Program) (fn : Func) (st : PSt) : Option DV :=
  match fn.results.toList with
  | [r] => res1X P st r
  | rs => (mapX (res1X P st) rs).bind fun ds => some (.tup ds)
/-- What is reached; the rest is forgotten. -/
def idsIn : Nat → DV → List Nat
  | 0, _ => []
  | m + 1, d =>
    match d with
    | .ref id _ _ => [id]
    | .pobj id _ _ => [id]
    | .hnd _ id => [id]
    | .agg cs => cs.flatMap (idsIn m)
    | .tup cs => cs.flatMap (idsIn m)
    | .iface _ v => idsIn m v
    | .func _ fs cs => fs.flatMap (idsIn m) ++ cs.flatMap (idsIn m)
    | _ => []
def reachX (σ : Objs) : Nat → List Nat → List Nat → List Nat
  | 0, _, seen => seen
  | _, [], seen => seen
  | m + 1, i :: todo, seen =>
    bif seen.any (Nat.beq i) then reachX σ m todo seen else
    match obj σ i with
    | some po => reachX σ m ((po.els.flatMap fun es => es.flatMap (idsIn 8)) ++ todo) (i :: seen)
    | none => reachX σ m todo (i :: seen)
def keepX (S : List Nat) : Nat → Objs → Objs
  | _, [] => []
  | i, x :: xs => (bif S.any (Nat.beq i) then x else none) :: keepX S (i + 1) xs
def renB0 (n : Nat) : Nat → DV → Bool
  | 0, _ => false
  | m + 1, d =>
    bif blw0 (m + 1) d then true else
    match d with
    | .ref id _ _ => Nat.blt id n
    | .pobj id _ _ => Nat.blt id n
    | .hnd _ id => Nat.blt id n
    | .agg cs => cs.all (renB0 n m)
    | .tup cs => cs.all (renB0 n m)
    | .iface _ v => renB0 n m v
    | .func _ fs cs => fs.all (renB0 n m) && cs.all (renB0 n m)
    | _ => false
def okO (n : Nat) : Option PO → Bool
  | none => true
  | some po => po.els.all fun es => es.all (renB0 n 20)
def gcX (k : Nat) (r : DV × Objs) : Option (DV × Objs) :=
  let s := keepX (reachX r.2 1000 (idsIn 20 r.1 ++ List.range k) []) 0 r.2
  guardX (Nat.ble k r.2.length && (renB0 r.2.length 20 r.1 && s.all (okO r.2.length))) (some (r.1, s))
def meetX (k : Nat) : List (DV × Objs) → Option (DV × Objs)
  | [] => none
  | [x] => some x
  | x :: xs => (gcX k x).bind fun y => guardX (xs.all fun z => match gcX k z with | some z => dvB 40 z.1 y.1 && listB optB z.2 y.2 | none => false) (some y)
def endX (P : Program) (fn : Func) (r : Exit × PSt) : Option (DV × Objs) :=
  match r.1 with
  | .normal => (resX P fn r.2).bind fun d => some (d, r.2.σ)
  | .ret => (resX P fn r.2).bind fun d => some (d, r.2.σ)
  | _ => none
/-- A call, reckoned: ext: what is known of calls otherwise. -/
def runX (P : Program) (ext : CallX → CallX) (lf : Nat) : Nat → CallX
  | 0, _, _, _ => none
  | m + 1, f, ds, σ =>
    match ext (runX P ext lf m) f ds σ with
    | some r => some r
    | none =>
      match P.funcs[f]? with
      | some fn =>
        match fn.body with
        | some c => guardX (!(fn.name == "runtime.NumGoroutine") && Nat.ble ds.length fn.ntmps)
            ((codeX P (runX P ext lf m) fn.ntmps lf c ⟨env0 ds, σ⟩).bind fun l => (mapX (endX P fn) l).bind (meetX σ.length))
        | none => none
      | none => none

end Go.Pv
