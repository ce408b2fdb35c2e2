/- The pure values and the pure steps of the model's code: what one operation makes of a state of abstract values. No statement is proved in this text; it is the ground of the seat's proofs. -/
import Derived.Maps.AppendAt
import Derived.Orders
import Derived.WalkKit
set_option linter.all false
set_option autoImplicit true
namespace Go.Vi
open Go

/-- Data as trees. 'sl 0': a slice that is only read; 'sl k', k above 0: its row, of elements of k cells, is owned by the place where it stands. -/
inductive DV where
  | int (k : IntKind) (n : Int)
  | bool (b : Bool)
  | str (l : List UInt8)
  | sl (k : Nat) (xs : List DV)
  | agg (xs : List DV)
  deriving Inhabited

/-- What is known of a slot. -/
inductive AV where
  | undef
  | gone
  | sh (d : DV)
  | ow (d : DV)
  | ptr (id i j : Nat)
  | rp (d : DV) (j : Nat)
  | os (id n k : Nat)
  | tup (l : List AV)
  | fn (f : FuncId) (caps : List AV)
  deriving Inhabited

def DV.cells : DV → List DV
  | .agg xs => xs
  | d => [d]

def DV.isCell : DV → Bool
  | .agg _ => false
  | _ => true
def DV.lockC : DV → DV
  | .sl _ xs => .sl 0 xs
  | d => d
def DV.lock : DV → DV
  | .agg xs => .agg (xs.map DV.lockC)
  | d => d.lockC

/-- Data as it is read: no row is owned. -/
def DV.strip : DV → DV
  | .sl _ xs => .sl 0 (go xs)
  | .agg xs => .agg (go xs)
  | .int k n => .int k n
  | .bool b => .bool b
  | .str l => .str l
where go : List DV → List DV
  | [] => []
  | x :: r => x.strip :: go r

/-- No part of it is only read. -/
inductive Full : DV → Prop
  | int (k n) : Full (.int k n)
  | bool (b) : Full (.bool b)
  | str (l) : Full (.str l)
  | sl {k xs} (hk : k ≠ 0) (h : ∀ x ∈ xs, Full x) : Full (.sl k xs)
  | agg {xs} (h : ∀ x ∈ xs, Full x) : Full (.agg xs)

/-- The kinds of types, as far as the steps ask. -/
inductive TD where
  | int (k : IntKind)
  | bool
  | str
  | slice (e : TypeId)
  | array (n : Nat) (e : TypeId)
  | struct (offs : List (Nat × Nat))
  | other
structure TI where
  td : TD
  size : Nat
  bytes : Nat
  zero : List DV
  eq : List TD
abbrev Cx := TypeId → Option TI
def TD.isAgg : TD → Bool
  | .array .. | .struct _ => true
  | _ => false

/-- The table of a program's types. -/
def tdOf (P : Program) (t : TypeId) : Option TD :=
  match P.underlying t with
  | some (.int k) => some (.int k)
  | some .bool => some .bool
  | some .string => some .str
  | some (.slice e) => some (.slice e)
  | some (.array n e) => some (.array n e)
  | some (.struct fs) => (fs.toList.mapM fun f => (P.info? f.type).map fun i => (f.offset, i.size)).map .struct
  | some _ => some .other
  | none => none
def isScalarTy (P : Program) (t : TypeId) : Bool :=
  match P.underlying t with
  | some (.int _) | some .bool | some .string => P.cellsOf t == 1
  | _ => false
/-- Structs of numbers, texts and Bools, which '==' compares cell by cell: the kinds of their fields. -/
def eqOk (P : Program) (t : TypeId) : List TD :=
  match P.underlying t with
  | some (.struct fs) => if !P.stoodInHeld t && (fs.toList.all fun f => f.name != "_" && isScalarTy P f.type) && fs.toList.map (·.offset) == List.range fs.size then fs.toList.map fun f => (tdOf P f.type).getD .other else []
  | _ => []
def isAggV : Value → Bool
  | .agg _ => true
  | _ => false

structure St where
  fr : List AV
  ob : List (Nat × List DV)

/-- What a step writes. -/
inductive Wr where
  | slot (d : Nat) (x : AV)
  | set (id : Nat) (xs : List DV)
  | new (id : Nat) (xs : List DV)

def getOb (ob : List (Nat × List DV)) (id : Nat) : Option (List DV) :=
  match ob with
  | [] => none
  | (k, xs) :: r => if k = id then some xs else getOb r id
def setOb (ob : List (Nat × List DV)) (id : Nat) (xs : List DV) : List (Nat × List DV) :=
  match ob with
  | [] => []
  | (k, ys) :: r => if k = id then (k, xs) :: r else (k, ys) :: setOb r id xs

def St.wr (s : St) : Wr → St
  | .slot d x => { s with fr := s.fr.set d x }
  | .set id xs => { s with ob := setOb s.ob id xs }
  | .new id xs => { s with ob := (id, xs) :: s.ob }
def St.wrs (s : St) (l : List Wr) : St := l.foldl St.wr s
def wrDst (d : Option Nat) (x : AV) : List Wr :=
  match d with
  | some d => [.slot d x]
  | none => []

def AV.plain : AV → AV
  | .ow d => .sh d.strip
  | .tup _ => .undef
  | x => x
def AV.isTup : AV → Bool
  | .tup _ => true
  | _ => false
/-- It owns nothing. -/
def AV.flat : AV → Bool
  | .ow _ | .tup _ | .fn .. => false
  | _ => true
def AV.dv : AV → Option DV
  | .sh d => some d.lock
  | .ow d => some d
  | _ => none

def scalar (k : Nat) : Value → Option DV
  | .int k n => some (.int k n)
  | .bool b => some (.bool b)
  | .string s => some (.str s.data.toList)
  | .slice none 0 0 => some (.sl k [])
  | _ => none
/-- Cells of constants; ks: of how many cells the elements are, where a cell is a slice. -/
def scalars : List Nat → List Value → Option (List DV)
  | _, [] => some []
  | ks, v :: vs => match scalar (ks.headD 0) v, scalars ks.tail vs with
    | some d, some ds => some (d :: ds)
    | _, _ => none
def constAV (k : Nat) : Value → AV
  | .agg cs => match scalars [] cs.toList with
    | some ds => .ow (.agg ds)
    | none => .undef
  | .slice none 0 0 => .ow (.sl k [])
  | v => match scalar k v with
    | some d => .sh d
    | none => .undef
/-- Of how many cells the elements are of the slices in a value's cells. -/
def cellKs (P : Program) (t : TypeId) : List Nat :=
  match P.underlying t with
  | some (.slice e) => [P.cellsOf e]
  | some (.array n e) => match P.underlying e with
    | some (.slice e') => List.replicate n (P.cellsOf e')
    | _ => []
  | some (.struct fs) => fs.toList.flatMap fun f => match P.underlying f.type with
    | some (.slice e) => [P.cellsOf e]
    | some (.array n e) => match P.underlying e with
      | some (.slice e') => List.replicate n (P.cellsOf e')
      | _ => List.replicate (P.cellsOf f.type) 0
    | _ => List.replicate (P.cellsOf f.type) 0
  | _ => []

def mkC (P : Program) : Cx := fun t =>
  match P.info? t, tdOf P t with
  | some i, some td => match i.zero with
    | some z => match scalars (cellKs P t) z.cells.toList with
      | some ds => if z.cells.size = i.size ∧ isAggV z = td.isAgg then some ⟨td, i.size, i.bytes, ds, eqOk P t⟩ else none
      | none => none
    | none => none
  | _, _ => none

def St.raw (s : St) : Operand → AV
  | .tmp t => s.fr.getD t .undef
  | .const v => constAV 0 v
  | .func f => .fn f []
  | .global _ => .undef
/-- An operand of a type: of nil the elements' cells are known. -/
def St.rawT (C : Cx) (t : TypeId) (s : St) : Operand → AV
  | .const v => match C t with
    | some { td := .slice e, .. } => match C e with
      | some te => constAV te.size v
      | none => constAV 0 v
    | _ => constAV 0 v
  | x => s.raw x
def isConst : Operand → Bool
  | .const _ => true
  | _ => false
/-- An operand that is read. -/
def St.rd (s : St) (x : Operand) : AV := (s.raw x).plain
/-- What taking an operand leaves where it stood. -/
def St.left (s : St) : Operand → List Wr
  | .tmp t => match s.fr.getD t .undef with
    | .ow d => [.slot t (.sh d.strip)]
    | _ => []
  | _ => []

/-! ### values alone -/
def lenAV (C : Cx) (t : TypeId) (x : AV) : Option AV :=
  match C t, x with
  | some { td := .slice _, .. }, .sh (.sl _ xs) => some (.sh (.int .i64 xs.length))
  | some { td := .str, .. }, .sh (.str l) => some (.sh (.int .i64 l.length))
  | some { td := .slice _, .. }, .os _ n _ => some (.sh (.int .i64 n))
  | some { td := .array n _, .. }, .ptr _ _ _ => some (.sh (.int .i64 n))
  | _, _ => none

def bytesLess : List UInt8 → List UInt8 → Bool := Op.bytesLess

def binInt (op : BinOp) (k : IntKind) (a b : Int) : Option DV :=
  match op with
  | .add => some (.int k (k.wrap (a + b)))
  | .sub => some (.int k (k.wrap (a - b)))
  | .mul => some (.int k (k.wrap (a * b)))
  | .quo => if b = 0 then none else some (.int k (k.wrap (a.tdiv b)))
  | .rem => if b = 0 then none else some (.int k (a.tmod b))
  | .eql => some (.bool (a == b))
  | .neq => some (.bool (a != b))
  | .lss => some (.bool (decide (a < b)))
  | .leq => some (.bool (decide (a ≤ b)))
  | .gtr => some (.bool (decide (b < a)))
  | .geq => some (.bool (decide (b ≤ a)))
  | _ => none
def binStr (op : BinOp) (a b : List UInt8) : Option DV :=
  match op with
  | .add => if a.length + b.length ≤ 140737488355328 then some (.str (a ++ b)) else none
  | .eql => some (.bool (a == b))
  | .neq => some (.bool (!(a == b)))
  | .lss => some (.bool (bytesLess a b))
  | .leq => some (.bool (bytesLess a b || a == b))
  | .gtr => some (.bool (!(bytesLess a b || a == b)))
  | .geq => some (.bool (!bytesLess a b))
  | _ => none
/-- Cells that are numbers, texts or Bools, compared. -/
def eqCells : List TD → List DV → List DV → Option Bool
  | [], [], [] => some true
  | .int _ :: ts, .int k a :: xs, .int k' b :: ys => if k = k' then (eqCells ts xs ys).map fun r => (a == b) && r else none
  | .str :: ts, .str a :: xs, .str b :: ys => (eqCells ts xs ys).map fun r => (a == b) && r
  | .bool :: ts, .bool a :: xs, .bool b :: ys => (eqCells ts xs ys).map fun r => (a == b) && r
  | _, _, _ => none
def shiftInt (op : BinOp) (k : IntKind) (a b : Int) : Option DV :=
  if b < 0 then none else
  match op with
  | .shl => some (.int k (k.wrap (a * 2 ^ (min b.toNat k.bits))))
  | .shr => some (.int k (a.fdiv (2 ^ (min b.toNat k.bits))))
  | _ => none
def binAV (C : Cx) (op : BinOp) (t : TypeId) (x y : AV) : Option AV :=
  match x, y with
  | .sh (.int k a), .sh (.int k' b) =>
    (match op with
      | .shl | .shr => shiftInt op k a b
      | _ => if k = k' then binInt op k a b else none).map .sh
  | .sh (.str a), .sh (.str b) => (binStr op a b).map .sh
  | .sh (.bool a), .sh (.bool b) =>
    match C t, op with
    | some { td := .bool, .. }, .eql => some (.sh (.bool (a == b)))
    | some { td := .bool, .. }, .neq => some (.sh (.bool (!(a == b))))
    | _, _ => none
  | .sh (.agg a), .sh (.agg b) =>
    match C t, op with
    | some ti, .eql => if ti.eq.isEmpty then none else (eqCells ti.eq a b).map fun r => .sh (.bool r)
    | some ti, .neq => if ti.eq.isEmpty then none else (eqCells ti.eq a b).map fun r => .sh (.bool (!r))
    | _, _ => none
  | _, _ => none

def unAV (op : UnOp) : AV → Option AV
  | .sh (.bool b) => match op with
    | .not => some (.sh (.bool (!b)))
    | _ => none
  | .sh (.int k n) => match op with
    | .neg => some (.sh (.int k (k.wrap (0 - n))))
    | _ => none
  | _ => none

def sliceAV (C : Cx) (t : TypeId) (x lo hi : AV) : Option AV :=
  match C t, x, lo, hi with
  | some { td := .slice e, .. }, .sh (.sl ex xs), .sh (.int _ l), .sh (.int _ h) =>
    match C e with
    | some ti => if 0 ≤ l ∧ l ≤ h ∧ h ≤ xs.length ∧ (xs.all fun d => d.cells.length == ti.size) = true then some (.sh (.sl ex ((xs.take h.toNat).drop l.toNat))) else none
    | none => none
  | some { td := .str, .. }, .sh (.str xs), .sh (.int _ l), .sh (.int _ h) =>
    if 0 ≤ l ∧ l ≤ h ∧ h ≤ xs.length then some (.sh (.str ((xs.take h.toNat).drop l.toNat))) else none
  | _, _, _, _ => none
def lenInt : AV → AV
  | .sh (.sl _ xs) => .sh (.int .i64 xs.length)
  | .sh (.str l) => .sh (.int .i64 l.length)
  | _ => .undef

def fieldAV (C : Cx) (t : TypeId) (f : Nat) : AV → Option AV
  | .ptr id i j => match C t with
    | some { td := .struct offs, .. } => match offs[f]? with
      | some (o, n) => if n = 0 then none else some (.ptr id i (j + o))
      | none => none
    | _ => none
  | .rp d j => match C t with
    | some { td := .struct offs, .. } => match offs[f]? with
      | some (o, n) => if n = 0 then none else some (.rp d (j + o))
      | none => none
    | _ => none
  | _ => none
def indexAV (C : Cx) (t : TypeId) (ob : List (Nat × List DV)) (x i : AV) : Option AV :=
  match C t, x, i with
  | some { td := .slice e, .. }, .sh (.sl _ xs), .sh (.int _ n) =>
    if 0 ≤ n then
      match xs[n.toNat]?, C e with
      | some d, some ti => if d.cells.length = ti.size then some (.rp d 0) else none
      | _, _ => none
    else none
  | some { td := .slice e, .. }, .os id m _, .sh (.int _ n) =>
    if 0 ≤ n ∧ n < m then
      match getOb ob id, C e with
      | some ys, some ti => match ys[n.toNat]? with
        | some d => if d.cells.length = ti.size then some (.ptr id n.toNat 0) else none
        | none => none
      | _, _ => none
    else none
  | some { td := .array m e, .. }, .ptr id a j, .sh (.int _ n) =>
    if 0 ≤ n ∧ n < m then
      match C e with
      | some ti => some (.ptr id a (j + n.toNat * ti.size))
      | none => none
    else none
  | _, _, _ => none
def byteAV (C : Cx) (t : TypeId) (x i : AV) : Option AV :=
  match C t, x, i with
  | some { td := .str, .. }, .sh (.str l), .sh (.int _ n) =>
    if 0 ≤ n then (l[n.toNat]?).map fun b => .sh (.int .u8 b.toNat) else none
  | _, _, _ => none

/-- Cells j and further of an element, as a value of a type. -/
def partOf (C : Cx) (t : TypeId) (d : DV) (j : Nat) : Option DV :=
  match C t with
  | some ti => if ti.td.isAgg then (if j + ti.size ≤ d.cells.length then some (.agg ((d.cells.drop j).take ti.size)) else none) else if ti.size = 1 then d.cells[j]? else none
  | none => none
def loadAV (C : Cx) (t : TypeId) (s : St) : AV → Option AV
  | .rp d j => (partOf C t d j).map .sh
  | .ptr id i j => match getOb s.ob id with
    | some xs => match xs[i]? with
      | some d => (partOf C t d j).map fun e => .sh e.strip
      | none => none
    | none => none
  | _ => none

def byteOf : DV → Option UInt8
  | .int .u8 n => some (UInt8.ofNat n.toNat)
  | _ => none
def bytesIn : List DV → Option (List UInt8)
  | [] => some []
  | d :: r => match byteOf d, bytesIn r with
    | some b, some l => some (b :: l)
    | _, _ => none
def convAV (C : Cx) (src dst : TypeId) (x : AV) : Option AV :=
  match C src, C dst, x with
  | some _, some { td := .int k, .. }, .sh (.int _ n) => some (.sh (.int k (k.wrap n)))
  | some { td := .slice e, .. }, some { td := .str, .. }, .sh (.sl _ xs) =>
    match C e with
    | some { td := .int .u8, .. } => (bytesIn xs).map fun l => .sh (.str l)
    | _ => none
  | _, _, _ => none

def minmax (mx : Bool) : List AV → Option AV
  | [.sh (.int .i64 a), .sh (.int .i64 b)] => some (.sh (.int .i64 (if mx then (if b > a then b else a) else (if b < a then b else a))))
  | _ => none

/-! ### steps -/
def elemOf (ti : TI) (cs : List DV) : DV := if ti.td.isAgg then .agg cs else cs.headD default
/-- Cells of an element, written. -/
def putPart (d : DV) (j : Nat) (e : DV) : Option DV :=
  match d, e with
  | .agg cs, .agg es => if j + es.length ≤ cs.length then some (.agg (cs.take j ++ es ++ cs.drop (j + es.length))) else none
  | .agg cs, e => if j < cs.length then some (.agg (cs.set j e)) else none
  | _, .agg _ => none
  | _, e => if j = 0 then some e else none

/-- Parts, each put as element of a row at its place. -/
def fillRow (sz : Nat) (at_ : Nat → Option Nat) (es : List DV) : List (Nat × AV) → Option (List DV)
  | [] => some es
  | (f, x) :: r => match at_ f, x.dv with
    | some i, some e => if i < es.length ∧ e.cells.length = sz then fillRow sz at_ (es.set i e) r else none
    | _, _ => none
/-- Operands taken one behind the other. -/
def leftSeq (s : St) : List Operand → List Wr
  | [] => []
  | x :: r => s.left x ++ leftSeq (s.wrs (s.left x)) r
def rawSeq (s : St) : List Operand → List AV
  | [] => []
  | x :: r => s.raw x :: rawSeq (s.wrs (s.left x)) r
def offAt (offs : List (Nat × Nat)) (f : Nat) : Option Nat :=
  match offs[f]? with
  | some (o, n) => if n = 1 then some o else none
  | none => none

/-- A tuple goes from slot to slot. -/
def tupW (d : Option Nat) : Operand → AV → Option (List Wr)
  | .tmp t, .tup l => some (.slot t .undef :: wrDst d (.tup l))
  | _, _ => none
/-- Where the parts of a struct go, or of an array whose elements are cells. -/
def buildAt (C : Cx) : TD → Option (Nat → Option Nat)
  | .struct offs => some (offAt offs)
  | .array _ e => match C e with
    | some te => if te.size = 1 then some some else none
    | none => none
  | _ => none

/-- The elements that an append takes. -/
def rowOf (s : St) : AV → Option (List DV)
  | .ow (.sl k ys) => if k = 0 ∨ k = 1000000 then some (ys.map DV.lock) else some ys
  | .sh (.sl _ ys) => some (ys.map DV.lock)
  | .os id n _ => match getOb s.ob id with
    | some ys => if ys.length = n then some (ys.map DV.lock) else none
    | none => none
  | _ => none
def appendAV (C : Cx) (t : TypeId) (s : St) (x y : AV) : Option DV :=
  match C t, x with
  | some { td := .slice e, .. }, .ow (.sl k xs) =>
    match C e, rowOf s y with
    | some ti, some ys =>
      if k = ti.size ∧ (0 < ti.size ∧ ti.size < 1000000) ∧ 0 < ti.bytes ∧ (ys.all fun d => d.cells.length == ti.size) = true ∧ (xs.length + ys.length) * ti.bytes ≤ 140737488355328 then some (.sl k (xs ++ ys)) else none
    | _, _ => none
  | _, _ => none

def builtinEff (C : Cx) (s : St) (dst : Option Nat) (b : Builtin) (args : List Operand) (tys : List TypeId) : Option (List Wr) :=
  match b, args, tys with
  | .len, [x], [t] => (lenAV C t (s.rd x)).map (wrDst dst)
  | .append, [x, y], [t, t'] => if t = t' then
      (appendAV C t s (s.raw x) ((s.wrs (s.left x)).raw y)).map fun d => s.left x ++ ((s.wrs (s.left x)).left y ++ wrDst dst (.ow d)) else none
  | .max, l, _ => (minmax true (l.map s.rd)).map (wrDst dst)
  | .min, l, _ => (minmax false (l.map s.rd)).map (wrDst dst)
  | _, _, _ => none

def eff (C : Cx) (tk : Bool) (o : Oper) (s : St) : Option (List Wr) :=
  match o.op with
  | .move x => if tk || isConst x then (if (s.raw x).isTup then tupW o.dst x (s.raw x) else some (s.left x ++ wrDst o.dst (s.rawT C o.type x))) else some (wrDst o.dst (s.rd x))
  | .assign x => if (s.raw x).isTup then none else some (s.left x ++ wrDst o.dst (s.rawT C o.type x))
  | .pick c a b => match s.rd c with
    | .sh (.bool t) => some (wrDst o.dst (s.rd (if t then a else b)))
    | _ => none
  | .alloc t => match o.dst, C t with
    | some d, some ti => if (getOb s.ob d).isNone ∧ 0 < ti.size ∧ d < 1000 then some [.new d [elemOf ti ti.zero], .slot d (.ptr d 0 0)] else none
    | _, _ => none
  | .box t x => match o.dst, C t, (s.raw x).dv with
    | some d, some ti, some e => if (getOb s.ob d).isNone ∧ e.cells.length = ti.size ∧ 0 < ti.size ∧ d < 1000 then some (s.left x ++ [.new d [e], .slot d (.ptr d 0 0)]) else none
    | _, _, _ => none
  | .build t parts => match C t with
    | some ti => match buildAt C ti.td with
      | some at_ => (fillRow 1 at_ ti.zero ((parts.toList.map (·.1)).zip (rawSeq s (parts.toList.map (·.2))))).bind fun cs => if cs.all DV.isCell = true then some (leftSeq s (parts.toList.map (·.2)) ++ wrDst o.dst (.ow (.agg cs))) else none
      | none => none
    | none => none
  | .buildSlice t n parts => match C t with
    | some { td := .slice e, .. } => match C e with
      | some ti =>
        if n * ti.size ≤ 16777216 ∧ 0 < ti.size then
          (fillRow ti.size some (List.replicate n (elemOf ti ti.zero)) ((parts.toList.map (·.1)).zip (rawSeq s (parts.toList.map (·.2))))).map fun es => leftSeq s (parts.toList.map (·.2)) ++ wrDst o.dst (.ow (.sl ti.size es))
        else none
      | none => none
    | _ => none
  | .load t a =>
    if tk then
      match s.rd a with
      | .ptr id i j => match getOb s.ob id with
        | some xs => match xs[i]? with
          | some d => match partOf C t d j with
            | some e => (putPart d j e.lock).map fun d' => .set id (xs.set i d') :: wrDst o.dst (.ow e)
            | none => none
          | none => none
        | none => none
      | _ => none
    else (loadAV C t s (s.rd a)).map (wrDst o.dst)
  | .store t a x => match s.rd a, (s.raw x).dv, C t with
    | .ptr id i j, some e, some ti => if e.cells.length = ti.size ∧ o.dst.isNone = true then match getOb s.ob id with
      | some xs => match xs[i]? with
        | some d => (putPart d j e).map fun d' => s.left x ++ [.set id (xs.set i d')]
        | none => none
      | none => none
      else none
    | _, _, _ => none
  | .nilCheck x => match s.rd x with
    | .ptr id i j => some (wrDst o.dst (.ptr id i j))
    | .rp d j => some (wrDst o.dst (.rp d j))
    | _ => none
  | .binOp op t x y _ => (binAV C op t (s.rd x) (s.rd y)).map (wrDst o.dst)
  | .unOp op _ x => (unAV op (s.rd x)).map (wrDst o.dst)
  | .convert src dst x => (convAV C src dst (s.rd x)).map (wrDst o.dst)
  | .makeFunc (.func f) first captured => if first.size = 0 ∧ ((captured.toList.map s.rd).all AV.flat) = true then some (wrDst o.dst (.fn f (captured.toList.map s.rd))) else none
  | .makeSlice t l c => match o.dst, C t, s.rd l, s.rd c with
    | some d, some { td := .slice e, .. }, .sh (.int .i64 n), .sh (.int .i64 m) => match C e with
      | some ti => if (getOb s.ob d).isNone ∧ n = m ∧ 0 ≤ n ∧ 0 < ti.size ∧ ti.bytes * n ≤ 281474976710656 ∧ n ≤ 9223372036854775807 ∧ d < 1000 then
          some [.new d (List.replicate n.toNat (elemOf ti ti.zero)), .slot d (.os d n.toNat ti.size)] else none
      | none => none
    | _, _, _, _ => none
  | .slice t x lo hi none =>
    let v := s.rd x
    (sliceAV C t v (match lo with | some l => s.rd l | none => .sh (.int .i64 0)) (match hi with | some h => s.rd h | none => lenInt v)).map (wrDst o.dst)
  | .fieldAddr t x f => (fieldAV C t f (s.rd x)).map (wrDst o.dst)
  | .indexAddr t x i => (indexAV C t s.ob (s.rd x) (s.rd i)).map (wrDst o.dst)
  | .index t x i => (byteAV C t (s.rd x) (s.rd i)).map (wrDst o.dst)
  | .extract x i => match x with
    | .tmp t => match s.fr.getD t .undef with
      | .tup l => match l[i]? with
        | some v => some (.slot t (.tup (l.set i v.plain)) :: wrDst o.dst v)
        | none => none
      | _ => none
    | _ => none
  | .call { callee := .builtin b, args, argTypes } => builtinEff C s o.dst b args.toList argTypes.toList
  | _ => none

end Go.Vi
