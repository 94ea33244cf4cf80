/- An abstract evaluator for the program's code: strings, numbers, structs, closures as values; memory as numbered blocks of typed columns. The condition: none; definitions alone. -/
import Derived.CallsIn
import Derived.ControlIn
import Derived.LoopNIn
import Derived.Lib.Bytealg
import Derived.Test.YtpdkcpbhihaakaaDoorAmGv
namespace Go.Am

inductive AV where
  | any
  | undef
  | bool (b : Bool)
  | int (k : IntKind) (n : Int)
  | str (s : List UInt8)
  | nilptr
  | ptr (b i j : Nat)
  /-- A place within a package's table. -/
  | gp (g j : Nat)
  | nilsl
  | slc (b off len : Nat)
  | fn (f : Fn) (first cap : List AV)
  | nilfn
  | ifc (t : TypeId) (v : AV)
  | nilifc
  | agg (l : List AV)
  | tup (l : List AV)
  /-- A loop's yield: the number of its record. -/
  | yld (b : Nat)

inductive Col where
  | avs (l : List AV)
  | ints (k : IntKind) (l : List Int)
  | bools (l : List Bool)
  | strs (l : List (List UInt8))
  | slcs (l : List (Option (Nat × Nat × Nat)))

/-- Memory: n elements, each of as many cells as there are columns; may it be written? -/
inductive Blk where
  | mem (ty : TypeId) (n : Nat) (cols : List Col) (rw : Bool)
  | dead
  /-- The record of a range over a function. -/
  | loop (st : LoopState) (pend : Option Code) (keep : List Nat) (τ : List AV) (ps : List Tmp) (asg body : Code)

inductive Out where
  | ret (v : AV)
  | pan (v : AV)

abbrev Heap := List Blk
abbrev Fin := Option (Out × Heap)

def ofVal1 : Value → AV
  | .bool b => .bool b
  | .int k n => .int k n
  | .string s => .str s.data.toList
  | .pointer none => .nilptr
  | .slice none 0 0 => .nilsl
  | .func (.func f) ⟨[]⟩ ⟨[]⟩ => .fn (.func f) [] []
  | .nilFunc => .nilfn
  | .nilIface => .nilifc
  | _ => .any

def ofVal : Value → AV
  | .agg vs => .agg (vs.toList.map ofVal1)
  | .tuple vs => .tup (vs.toList.map ofVal1)
  | .iface t v => .ifc t (ofVal1 v)
  | v => ofVal1 v

def rd (τ : List AV) : Operand → AV
  | .tmp t => τ.getD t .any
  | .const v => ofVal v
  | .func f => .fn (.func f) [] []
  | .global g => .gp g 0

def put (τ : List AV) : Option Tmp → AV → List AV
  | none, _ => τ
  | some d, v => τ.set d v

/-- A value of one cell, of which it is known that it is one. -/
def AV.one : AV → Bool
  | .any | .undef | .agg _ | .tup _ => false
  | _ => true

/-- The cells of a value that can be laid into memory. -/
def AV.cells : AV → Option (List AV)
  | .agg l => if l.all AV.one then some l else none
  | v => if v.one then some [v] else none

def slAV : Option (Nat × Nat × Nat) → AV
  | none => .nilsl
  | some (b, o, n) => .slc b o n

/-- A column's i-th cell; i is within. -/
def Col.at (i : Nat) : Col → AV
  | .avs l => l.getD i .any
  | .ints k l => .int k (l.getD i 0)
  | .bools l => .bool (l.getD i false)
  | .strs l => .str (l.getD i [])
  | .slcs l => slAV (l.getD i none)

/-- One cell written. -/
def Col.put (i : Nat) : Col → AV → Option Col
  | .avs l, v => some (.avs (l.set i v))
  | .ints k l, .int k' n => if k = k' then some (.ints k (l.set i n)) else none
  | .bools l, .bool b => some (.bools (l.set i b))
  | .strs l, .str s => some (.strs (l.set i s))
  | .slcs l, .nilsl => some (.slcs (l.set i none))
  | .slcs l, .slc b o n => some (.slcs (l.set i (some (b, o, n))))
  | _, _ => none

def isAggD : TypeDesc → Bool
  | .struct _ | .array _ _ => true
  | _ => false

/-- Is it a struct or an array; how many cells it has. -/
def shapeT (P : Program) (t : TypeId) : Option (Bool × Nat) :=
  match P.underlying t, P.info? t with
  | some d, some i => some (isAggD d, i.size)
  | _, _ => none

def sizeT (P : Program) (t : TypeId) : Option Nat := (P.info? t).map (·.size)

/-- What a struct's or an array's part at a place is, of a row of cells. -/
def partAV (P : Program) (t : TypeId) (l : List AV) (off : Nat) : Option AV :=
  match shapeT P t with
  | some (true, n) => some (.agg ((l.drop off).take n))
  | some (false, _) => l[off]?
  | none => none

def isSlD : TypeDesc → Bool | .slice _ => true | _ => false
def isPtD : TypeDesc → Bool | .pointer _ => true | _ => false
def isFnD : TypeDesc → Bool | .func _ _ _ => true | _ => false
def isIfD : TypeDesc → Bool | .interface _ => true | _ => false

/-- '==' or '!=', where it is known whether they are equal. -/
def eqAV : BinOp → Bool → Option AV
  | .eql, b => some (.bool b)
  | .neq, b => some (.bool (!b))
  | _, _ => none

/-- A comparison with nil. -/
def nilEq (kd : TypeDesc → Bool) (P : Program) (t : TypeId) (op : BinOp) (b : Bool) : Option AV :=
  match P.underlying t with
  | some d =>
    if kd d = true then eqAV op b else none
  | _ => none

def bin (P : Program) (t : TypeId) (op : BinOp) : AV → AV → Option AV
  | .int k a, .int k' b =>
    match op with
    | .add => if k = k' then some (.int k (k.wrap (a + b))) else none
    | .sub => if k = k' then some (.int k (k.wrap (a - b))) else none
    | .mul => if k = k' then some (.int k (k.wrap (a * b))) else none
    | .quo => if k = k' then (if b = 0 then none else some (.int k (k.wrap (a.tdiv b)))) else none
    | .rem => if k = k' then (if b = 0 then none else some (.int k (a.tmod b))) else none
    | .and => if k = k' then some (.int k (k.wrap (BitVec.ofInt k.bits a &&& BitVec.ofInt k.bits b).toNat)) else none
    | .or => if k = k' then some (.int k (k.wrap (BitVec.ofInt k.bits a ||| BitVec.ofInt k.bits b).toNat)) else none
    | .xor => if k = k' then some (.int k (k.wrap (BitVec.ofInt k.bits a ^^^ BitVec.ofInt k.bits b).toNat)) else none
    | .andNot => if k = k' then some (.int k (k.wrap (BitVec.ofInt k.bits a &&& ~~~ BitVec.ofInt k.bits b).toNat)) else none
    | .eql => if k = k' then some (.bool (a == b)) else none
    | .neq => if k = k' then some (.bool (a != b)) else none
    | .lss => if k = k' then some (.bool (a < b)) else none
    | .leq => if k = k' then some (.bool (a ≤ b)) else none
    | .gtr => if k = k' then some (.bool (a > b)) else none
    | .geq => if k = k' then some (.bool (a ≥ b)) else none
    | .shl => if b < 0 then none else some (.int k (k.wrap (a * 2 ^ (min b.toNat k.bits))))
    | .shr => if b < 0 then none else some (.int k (a.fdiv (2 ^ (min b.toNat k.bits))))
  | .str a, .str b =>
    match op with
    | .eql => some (.bool (a == b))
    | .neq => some (.bool (!(a == b)))
    | .lss => some (.bool (Op.bytesLess a b))
    | .leq => some (.bool (Op.bytesLess a b || a == b))
    | .gtr => some (.bool (!(Op.bytesLess a b || a == b)))
    | .geq => some (.bool (!(Op.bytesLess a b)))
    | _ => none
  | .bool a, .bool b =>
    match P.underlying t with
    | some .bool => eqAV op (a == b)
    | _ => none
  | .nilsl, .nilsl => nilEq isSlD P t op true
  | .nilptr, .nilptr => nilEq isPtD P t op true
  | .nilfn, .nilfn => nilEq isFnD P t op true
  | .slc .., .nilsl => nilEq isSlD P t op false
  | .nilsl, .slc .. => nilEq isSlD P t op false
  | .ptr .., .nilptr => nilEq isPtD P t op false
  | .nilptr, .ptr .. => nilEq isPtD P t op false
  | .fn .., .nilfn => nilEq isFnD P t op false
  | .nilfn, .fn .. => nilEq isFnD P t op false
  | .ifc .., .nilifc => nilEq isIfD P t op false
  | .nilifc, .ifc .. => nilEq isIfD P t op false
  | _, _ => none

/-- The sum of two strings: it must be no longer than an int tells. -/
def cat (a b : List UInt8) (k : AV → Fin) : Fin := bif decide (a.length + b.length ≤ 9223372036854775807) then k (.str (a ++ b)) else none

def un (op : UnOp) : AV → Option AV
  | .bool b => match op with | .not => some (.bool (!b)) | _ => none
  | .int k n => match op with
    | .neg => some (.int k (k.wrap (0 - n)))
    | .xor => some (.int k (k.wrap (BitVec.ofInt k.bits (if k.signed then -1 else k.max) ^^^ BitVec.ofInt k.bits n).toNat))
    | _ => none
  | _ => none

/-- Bounds of a slice expression. -/
def bound : Option AV → Int → Option Int
  | none, d => some d
  | some (.int _ n), _ => some n
  | _, _ => none

def kbind (o : Option AV) (k : AV → Fin) : Fin := match o with | some v => k v | none => none

def AV.flat : AV → Option (List AV)
  | .agg l => some l
  | .any | .tup _ => none
  | v => some [v]

def fillC (place : Nat → Option (Nat × Nat)) (cells : List AV) : List (Nat × AV) → Option (List AV)
  | [] => some cells
  | (i, v) :: rest =>
    match place i, v.flat with
    | some (off, size), some l =>
      if l.length ≠ size ∨ off + l.length > cells.length then none
      else fillC place (cells.take off ++ l ++ cells.drop (off + l.length)) rest
    | _, _ => none

def placesOf (P : Program) : List Field → Option (List (Nat × Nat))
  | [] => some []
  | f :: fs => match sizeT P f.type, placesOf P fs with | some s, some ps => some ((f.offset, s) :: ps) | _, _ => none

/-- A new block of one element, its cells given. -/
def newMem (t : TypeId) (cells : List AV) : Blk := .mem t 1 (cells.map fun v => .avs [v]) true

def zeroAV (P : Program) (t : TypeId) : AV := match P.info? t with | some i => (match i.zero with | some v => ofVal v | none => .any) | none => .any

def Heap.load (P : Program) (h : Heap) (t : TypeId) (b i j : Nat) : Option AV :=
  match h[b]? with
  | some (.mem _ n cols _) =>
    if i < n then
      match shapeT P t with
      | some (true, s) => if j + s ≤ cols.length then some (.agg (((cols.drop j).take s).map (Col.at i))) else none
      | some (false, _) => match cols[j]? with | some c => some (c.at i) | none => none
      | none => none
    else none
  | _ => none

def putCols (i : Nat) : List Col → List AV → Option (List Col)
  | cs, [] => some cs
  | c :: cs, v :: vs => match c.put i v, putCols i cs vs with | some c', some cs' => some (c' :: cs') | _, _ => none
  | [], _ :: _ => none

/-- A table's cells. -/
def gvAt : List (Nat × List Value) → Nat → Option (List Value)
  | [], _ => none
  | (g, l) :: r, x => bif Nat.beq x g then some l else gvAt r x

/-- What lies at a place of a table. -/
def loadG (P : Program) (t : TypeId) (g j : Nat) : Option AV :=
  match gvAt gvT g with
  | some l =>
    match shapeT P t with
    | some (true, s) => if j + s ≤ l.length then some (.agg (((l.drop j).take s).map ofVal1)) else none
    | some (false, _) => match l[j]? with | some v => some (ofVal1 v) | none => none
    | none => none
  | none => none

def Heap.store (P : Program) (h : Heap) (t : TypeId) (b i j : Nat) (v : AV) : Option Heap :=
  match h[b]?, v.cells with
  | some (.mem ty n cols true), some l =>
    if i < n ∧ sizeT P t = some l.length ∧ j ≤ cols.length then
      match putCols i (cols.drop j) l with
      | some cs => some (h.set b (.mem ty n (cols.take j ++ cs) true))
      | none => none
    else none
  | _, _ => none

/-- Columns by kind, where all cells are of one. -/
def intsOf (k : IntKind) : List AV → Option (List Int)
  | [] => some []
  | .int k' n :: l => if k = k' then (intsOf k l).map (n :: ·) else none
  | _ => none
def boolsOf : List AV → Option (List Bool)
  | [] => some []
  | .bool b :: l => (boolsOf l).map (b :: ·)
  | _ => none
def strsOf : List AV → Option (List (List UInt8))
  | [] => some []
  | .str s :: l => (strsOf l).map (s :: ·)
  | _ => none
def slcsOf : List AV → Option (List (Option (Nat × Nat × Nat)))
  | [] => some []
  | .nilsl :: l => (slcsOf l).map (none :: ·)
  | .slc b o n :: l => (slcsOf l).map (some (b, o, n) :: ·)
  | _ => none

def colOf (l : List AV) : Col :=
  match l with
  | .int k n :: r => match intsOf k (.int k n :: r) with | some x => .ints k x | none => .avs l
  | .bool b :: r => match boolsOf (.bool b :: r) with | some x => .bools x | none => .avs l
  | .str s :: r => match strsOf (.str s :: r) with | some x => .strs x | none => .avs l
  | .nilsl :: r => match slcsOf (.nilsl :: r) with | some x => .slcs x | none => .avs l
  | .slc b o n :: r => match slcsOf (.slc b o n :: r) with | some x => .slcs x | none => .avs l
  | l => .avs l

def Col.sub (off n : Nat) : Col → Col
  | .avs l => .avs ((l.drop off).take n)
  | .ints k l => .ints k ((l.drop off).take n)
  | .bools l => .bools ((l.drop off).take n)
  | .strs l => .strs ((l.drop off).take n)
  | .slcs l => .slcs ((l.drop off).take n)

def Col.cat : Col → Col → Option Col
  | .avs l, .avs m => some (.avs (l ++ m))
  | .ints k l, .ints k' m => if k = k' then some (.ints k (l ++ m)) else none
  | .bools l, .bools m => some (.bools (l ++ m))
  | .strs l, .strs m => some (.strs (l ++ m))
  | .slcs l, .slcs m => some (.slcs (l ++ m))
  | _, _ => none

def catCols : List Col → List Col → Option (List Col)
  | [], [] => some []
  | c :: cs, d :: ds => match c.cat d, catCols cs ds with | some x, some xs => some (x :: xs) | _, _ => none
  | _, _ => none

/-- The j-th cells of rows. -/
def colsOf (w : Nat) (rows : List (List AV)) : List Col := (List.range w).map fun j => colOf (rows.map fun r => r.getD j .any)

/-- Rows of a slice literal: parts by their places, all of them given in turn. -/
def rowsOf : Nat → List (Nat × AV) → Option (List (List AV))
  | _, [] => some []
  | i, (j, v) :: rest => match v.cells, rowsOf (i + 1) rest with | some l, some ls => if i = j then some (l :: ls) else none | _, _ => none

def maxBytes : Nat := 1099511627776

/-- A type whose zero value has the type's size. -/
def zeroOK (P : Program) (e : TypeId) : Bool :=
  match P.info? e with
  | some i => match i.zero with | some z => z.cells.size == i.size | none => false
  | none => false

/-- What is laid behind a slice's elements, as a new block; the old one is not to be used any more. -/
def evAppend (P : Program) (t : TypeId) (s x : AV) (h : Heap) (k : AV → Heap → Fin) : Fin :=
  match P.underlying t with
  | some (.slice e) =>
    if zeroOK P e = true then
      match s, x with
      | .nilsl, .nilsl => k .nilsl h
      | .nilsl, .slc b o n =>
        match h[b]? with
        | some (.mem _ m cols _) =>
          if sizeT P e = some cols.length ∧ 0 < cols.length then
            bif decide (0 < n ∧ o + n ≤ m ∧ n * P.bytesOf e ≤ maxBytes ∧ n ≤ maxBytes) then
              k (.slc h.length 0 n) (h ++ [.mem e n (cols.map (Col.sub o n)) true]) else none
          else none
        | _ => none
      | .slc b0 0 n0, .slc b o n =>
        match h[b0]?, h[b]? with
        | some (.mem e0 m0 cols0 true), some (.mem _ m cols _) =>
          if e0 = e ∧ b0 ≠ b ∧ sizeT P e = some cols0.length ∧ sizeT P e = some cols.length ∧ 0 < cols.length then
            match catCols (cols0.map (Col.sub 0 n0)) (cols.map (Col.sub o n)) with
            | some cs =>
              bif decide (n0 ≤ m0 ∧ 0 < n ∧ o + n ≤ m ∧ (n0 + n) * P.bytesOf e ≤ maxBytes ∧ n0 + n ≤ maxBytes) then
                k (.slc h.length 0 (n0 + n)) ((h.set b0 .dead) ++ [.mem e (n0 + n) cs true]) else none
            | none => none
          else none
        | _, _ => none
      | _, _ => none
    else none
  | _ => none

def isConst : Operand → Bool
  | .const _ => true
  | _ => false

/-- Two cells of a struct compared. -/
def cellEq (P : Program) (t : TypeId) : AV → AV → Option Bool
  | .int k a, .int k' b => match P.underlying t with | some (.int _) => if k = k' then some (a == b) else none | _ => none
  | .str a, .str b => match P.underlying t with | some .string => some (a == b) | _ => none
  | .bool a, .bool b => match P.underlying t with | some .bool => some (a == b) | _ => none
  | _, _ => none

def fieldsEq (P : Program) : List Field → List AV → List AV → Option Bool
  | [], _, _ => some true
  | f :: fs, a, b =>
    if f.name = "_" then none else
    match partAV P f.type a f.offset, partAV P f.type b f.offset with
    | some x, some y => match cellEq P f.type x y, fieldsEq P fs a b with | some c, some d => some (c && d) | _, _ => none
    | _, _ => none

/-- '==' or '!=' of structs of plain cells. -/
def structEq (P : Program) (t : TypeId) (op : BinOp) (a b : List AV) : Option AV :=
  match P.underlying t with
  | some (.struct fs) => if P.stoodInHeld t = false ∧ P.eqGuardType P.depth t = false then (match fieldsEq P fs.toList a b with | some r => eqAV op r | none => none) else none
  | _ => none

/-- What a function without a body hands back. -/
def externAV (name : String) (args : List AV) : Option AV :=
  match args with
  | [.str s, .int .u8 c] => if name = "internal/bytealg.IndexByteString" then some (.int .i64 (Lib.indexByte s c.toNat.toUInt8)) else none
  | _ => none

def externOf (P : Program) (g : FuncId) (args : List AV) : Option AV :=
  match P.funcs[g]? with
  | some fn => if fn.body.isNone = true ∧ fn.origin = "" then externAV fn.name args else none
  | none => none

/-- One operation that is no call of a function. -/
def evOp (P : Program) (o : Oper) (τ : List AV) (h : Heap) (k : AV → Heap → Fin) : Fin :=
  match o.op with
  | .move x => k (rd τ x) h
  | .assign x => k (rd τ x) h
  | .pick c a b => match rd τ c with | .bool t => bif t then k (rd τ a) h else k (rd τ b) h | _ => none
  | .binOp op t x y _ =>
    match op, rd τ x, rd τ y with
    | .add, .str a, .str b => cat a b (k · h)
    | op, .agg a, .agg b => kbind (structEq P t op a b) (k · h)
    | op, .nilifc, .nilifc => if (isConst x || isConst y) = true then kbind (nilEq isIfD P t op true) (k · h) else none
    | op, a, b => kbind (bin P t op a b) (k · h)
  | .unOp op _ x => kbind (un op (rd τ x)) (k · h)
  | .extract x i => match rd τ x with | .tup l => kbind l[i]? (k · h) | _ => none
  | .field t x f =>
    match P.underlying t, rd τ x with
    | some (.struct fs), .agg l => match fs[f]? with | some fd => kbind (partAV P fd.type l fd.offset) (k · h) | none => none
    | _, _ => none
  | .index t x i =>
    match P.underlying t, rd τ x, rd τ i with
    | some .string, .str s, .int _ n => bif decide (0 ≤ n ∧ n < s.length) then k (.int .u8 ((s.getD n.toNat 0).toNat : Int)) h else none
    | _, _, _ => none
  | .convert s d x =>
    match P.underlying s, P.underlying d, rd τ x with
    | some (.int _), some (.int kd), .int _ n => k (.int kd (kd.wrap n)) h
    | some .string, some .string, .str l => k (.str l) h
    | _, _, _ => none
  | .typeAssert x _ t ok =>
    match P.underlying t, rd τ x with
    | some (.interface _), _ => none
    | some _, .ifc t' v => if t' = t then k (if ok then .tup [v, .bool true] else v) h else none
    | _, _ => none
  | .makeInterface t x => match P.underlying t with | some (.interface _) => none | some _ => k (.ifc t (rd τ x)) h | none => none
  | .makeFunc f first cap => k (.fn f (first.toList.map (rd τ)) (cap.toList.map (rd τ))) h
  | .build t parts =>
    match P.underlying t, zeroAV P t with
    | some (.struct fs), .agg z =>
      match placesOf P fs.toList with
      | some pl =>
        match fillC (fun i => pl[i]?) z (parts.toList.map fun p => (p.1, rd τ p.2)) with
        | some l => k (.agg l) h
        | none => none
      | none => none
    | _, _ => none
  | .buildSlice t len parts =>
    match P.underlying t with
    | some (.slice e) =>
      match rowsOf 0 (parts.toList.map fun p => (p.1, rd τ p.2)) with
      | some rows =>
        match sizeT P e with
        | some s =>
          if rows.length = len ∧ (rows.all fun r => r.length == s) = true ∧ 0 < s ∧ 0 < len ∧ len * s ≤ 1000000 ∧ zeroOK P e = true then
            k (.slc h.length 0 len) (h ++ [.mem e len (colsOf s rows) true]) else none
        | none => none
      | none => none
    | _ => none
  | .slice t x lo hi none =>
    match P.underlying t, rd τ x with
    | some .string, .str s =>
      match bound (lo.map (rd τ)) 0, bound (hi.map (rd τ)) s.length with
      | some a, some b => bif decide (0 ≤ a ∧ a ≤ b ∧ b ≤ s.length) then k (.str ((s.drop a.toNat).take (b.toNat - a.toNat))) h else none
      | _, _ => none
    | some (.slice e), .slc b o n =>
      match bound (lo.map (rd τ)) 0, bound (hi.map (rd τ)) n, h[b]? with
      | some x, some y, some (.mem _ _ cols _) =>
        if sizeT P e = some cols.length then
          bif decide (0 ≤ x ∧ x ≤ y ∧ y ≤ n) then k (.slc b (o + x.toNat) (y.toNat - x.toNat)) h else none
        else none
      | _, _, _ => none
    | _, _ => none
  | .makeSlice t n c =>
    match P.underlying t, rd τ n, rd τ c with
    | some (.slice e), .int _ n, .int _ c =>
      match (zeroAV P e).cells with
      | some l =>
        if sizeT P e = some l.length ∧ 0 < l.length then
          bif decide (0 ≤ n ∧ n = c ∧ n.toNat * P.bytesOf e ≤ maxBytes ∧ n.toNat ≤ maxBytes) then
            k (.slc h.length 0 n.toNat) (h ++ [.mem e n.toNat (l.map fun v => colOf (List.replicate n.toNat v)) true]) else none
        else none
      | none => none
    | _, _, _ => none
  | .alloc t => match (zeroAV P t).cells with | some l => k (.ptr h.length 0 0) (h ++ [newMem t l]) | none => none
  | .box t x => match (rd τ x).cells with | some l => k (.ptr h.length 0 0) (h ++ [newMem t l]) | none => none
  | .nilCheck x => match rd τ x with | .ptr b i j => k (.ptr b i j) h | .gp g j => k (.gp g j) h | .ifc t v => k (.ifc t v) h | .fn (.func f) a c => k (.fn (.func f) a c) h | _ => none
  | .load t x => match rd τ x with | .ptr b i j => kbind (h.load P t b i j) (k · h) | .gp g j => kbind (loadG P t g j) (k · h) | _ => none
  | .store t x v => match rd τ x with
    | .ptr b i j => match h.store P t b i j (rd τ v) with | some h' => k .undef h' | none => none
    | _ => none
  | .fieldAddr t x f =>
    match P.underlying t, rd τ x with
    | some (.struct fs), .ptr b i j => match fs[f]? with | some fd => (match sizeT P fd.type with | some (_ + 1) => k (.ptr b i (j + fd.offset)) h | _ => none) | none => none
    | _, _ => none
  | .indexAddr t x ix =>
    match P.underlying t, rd τ x, rd τ ix with
    | some (.slice e), .slc b o n, .int _ i =>
      match h[b]? with
      | some (.mem _ _ cols _) => if sizeT P e = some cols.length then bif decide (0 ≤ i ∧ i < n) then k (.ptr b (o + i.toNat) 0) h else none else none
      | _ => none
    | some (.array len e), .gp g j, .int _ i =>
      match sizeT P e with
      | some s => bif decide (0 ≤ i ∧ i < len) then k (.gp g (j + i.toNat * s)) h else none
      | none => none
    | some (.array len e), .ptr b i0 j, .int _ i =>
      match sizeT P e with
      | some s => bif decide (0 ≤ i ∧ i < len) then k (.ptr b i0 (j + i.toNat * s)) h else none
      | none => none
    | _, _, _ => none
  | .call c =>
    match c.callee, c.args.toList.map (rd τ), c.argTypes.toList with
    | .builtin .len, [x], [t] =>
      match P.underlying t, x with
      | some .string, .str s => k (.int .i64 s.length) h
      | some (.slice _), .slc _ _ n => k (.int .i64 n) h
      | some (.slice _), .nilsl => k (.int .i64 0) h
      | _, _ => none
    | .builtin .min, [.int ka a, .int _ b], _ => k (.int ka (if b < a then b else a)) h
    | .builtin .max, [.int ka a, .int _ b], _ => k (.int ka (if b > a then b else a)) h
    | .builtin .append, [s, x], [t, t'] => if t = t' then evAppend P t s x h k else none
    | .value f, args, _ =>
      match rd τ f with
      | .fn (.func g) [] [] => kbind (externOf P g args) (k · h)
      | _ => none
    | _, _, _ => none
  | _ => none

/-- What a call comes to: a function with a body, or a round of a loop. -/
inductive Tgt where
  | fn (f : FuncId)
  | yld (b : Nat)

abbrev Caller := Tgt → List AV → Heap → (Out → Heap → Fin) → Fin

/-- Which function with a body a call comes to, and its arguments. -/
def target (P : Program) (τ : List AV) (c : Call) : Option (Tgt × List AV) :=
  match c.callee with
  | .value f => match rd τ f with
    | .fn (.func g) first cap => if ((P.funcs[g]?).map fun fn => fn.body.isSome) = some true then some (.fn g, first ++ c.args.toList.map (rd τ) ++ cap) else none
    | .yld b => some (.yld b, c.args.toList.map (rd τ))
    | _ => none
  | _ => none

def evOp1 (P : Program) (cl : Caller) (o : Oper) (τ : List AV) (h : Heap) (k : AV → Heap → Fin) (kp : AV → Heap → Fin) : Fin :=
  match o.op with
  | .call c =>
    match target P τ c with
    | some (f, args) => cl f args h fun out h' => match out with
      | .ret v => k v h'
      | .pan v => kp v h'
    | none => evOp P o τ h k
  | .panic x => match rd τ x with | .ifc t v => kp (.ifc t v) h | _ => none
  | _ => evOp P o τ h k

def evOps (P : Program) (cl : Caller) (all : Array Oper) : List Oper → List AV → Heap → (List AV → Heap → Fin) → (AV → List AV → Heap → Fin) → Fin
  | [], τ, h, k, _ => k τ h
  | o :: rest, τ, h, k, kp =>
    match o.guard with
    | none => evOp1 P cl o τ h (fun v h' => evOps P cl all rest (put τ o.dst v) h' k kp) (fun v h' => kp v τ h')
    | some (j, want) =>
      match (all[j]?).bind (·.dst) with
      | none => none
      | some g =>
        match τ[g]? with
        | some (.bool c) =>
          bif c then
            (bif want then evOp1 P cl o (τ.set g (.bool true)) h (fun v h' => evOps P cl all rest (put (τ.set g (.bool true)) o.dst v) h' k kp) (fun v h' => kp v (τ.set g (.bool true)) h')
             else evOps P cl all rest (put (τ.set g (.bool true)) o.dst .undef) h k kp)
          else
            (bif want then evOps P cl all rest (put (τ.set g (.bool false)) o.dst .undef) h k kp
             else evOp1 P cl o (τ.set g (.bool false)) h (fun v h' => evOps P cl all rest (put (τ.set g (.bool false)) o.dst v) h' k kp) (fun v h' => kp v (τ.set g (.bool false)) h'))
        | some .undef => evOps P cl all rest (put τ o.dst .undef) h k kp
        | _ => none

/-- What an operation does to memory: 0: nothing, it does not look at it; 1: it looks at it; 2: it may change it. -/
def kindOf (P : Program) (pure : FuncId → Bool) (o : Oper) : Nat :=
  match o.op with
  | .move _ | .assign _ | .pick _ _ _ | .binOp _ _ _ _ _ | .unOp _ _ _ | .extract _ _ | .field _ _ _ | .index _ _ _ | .convert _ _ _ | .typeAssert _ _ _ _ | .makeInterface _ _ | .makeFunc _ _ _ | .build _ _ | .nilCheck _ | .fieldAddr _ _ _ => 0
  | .slice t _ _ _ none => match P.underlying t with | some .string => 0 | _ => 1
  | .slice _ _ _ _ _ | .indexAddr _ _ _ | .load _ _ => 1
  | .call c => match c.callee with
    | .builtin .len | .builtin .min | .builtin .max => 0
    | .value (.func f) => if pure f then 1 else 2
    | _ => 2
  | _ => 2

/-! ### The check of a region -/

/-- What must have been done before, by the edges that bind in every order. -/
def predsOf (o : Oper) : List Nat := (o.after.toList.filter fun e => Region.binds .any e).map (·.on)

/-- The slots that an operation looks at. -/
def looks (ops : List Oper) (o : Oper) : List Tmp :=
  (o.op.operands.toList.filterMap fun | .tmp t => some t | _ => none) ++
  (match o.guard with | some (j, _) => (match ops[j]? with | some g => g.dst.toList | none => []) | none => [])

/-- All that must have been done before each of the first operations: a set of places, as a number's bits. -/
def ancOf (acc : List Nat) (o : Oper) : Nat := (predsOf o).foldl (fun m j => m ||| 2 ^ j ||| acc.getD j 0) 0

def ancs : List Oper → List Nat
  | l => l.foldl (fun acc o => acc ++ [ancOf acc o]) []

/-! ### A region whose order is open -/

/-- A variable that is made without a condition: its type. -/
def floatOf (o : Oper) : Option TypeId :=
  match o.op, o.guard, o.dst with
  | .alloc t, none, some _ => some t
  | _, _, _ => none

def isF (o : Oper) : Nat := match floatOf o with | some _ => 1 | none => 0

def floatsIn : List Oper → Nat
  | [] => 0
  | o :: l => isF o + floatsIn l

/-- The block through which an operation reads or writes. -/
def touchOf (o : Oper) (τ : List AV) : Option Nat :=
  match o.op with
  | .load _ x | .store _ x _ | .indexAddr _ x _ | .slice _ x _ _ _ => match rd τ x with | .ptr b _ _ => some b | .slc b _ _ => some b | _ => none
  | _ => none

def isStoreOp (o : Oper) : Bool := match o.op with | .store _ _ _ => true | _ => false
def isRdOp (o : Oper) : Bool := match o.op with | .load _ _ | .indexAddr _ _ _ | .slice _ _ _ _ _ => true | _ => false

def evOpsD (P : Program) (cl : Caller) (all : Array Oper) (base : Nat) : List Oper → Nat → List (Option Nat) → List AV → Heap → (List (Option Nat) → List AV → Heap → Fin) → Fin
  | [], _, fp, τ, h, k => k fp τ h
  | o :: rest, q, fp, τ, h, k =>
    match floatOf o with
    | some t =>
      match (zeroAV P t).cells, h[base + q]? with
      | some l, some .dead => evOpsD P cl all base rest (q + 1) (fp ++ [none]) (put τ o.dst (.ptr (base + q) 0 0)) (h.set (base + q) (newMem t l)) k
      | _, _ => none
    | none =>
      match o.guard with
      | none => evOp1 P cl o τ h (fun v h' => evOpsD P cl all base rest q (fp ++ [touchOf o τ]) (put τ o.dst v) h' k) (fun _ _ => none)
      | some (j, want) =>
        match (all[j]?).bind (·.dst) with
        | none => none
        | some g =>
          match τ[g]? with
          | some (.bool c) =>
            bif c then
              (bif want then evOp1 P cl o (τ.set g (.bool true)) h (fun v h' => evOpsD P cl all base rest q (fp ++ [touchOf o (τ.set g (.bool true))]) (put (τ.set g (.bool true)) o.dst v) h' k) (fun _ _ => none)
               else evOpsD P cl all base rest q (fp ++ [touchOf o (τ.set g (.bool true))]) (put (τ.set g (.bool true)) o.dst .undef) h k)
            else
              (bif want then evOpsD P cl all base rest q (fp ++ [touchOf o (τ.set g (.bool false))]) (put (τ.set g (.bool false)) o.dst .undef) h k
               else evOp1 P cl o (τ.set g (.bool false)) h (fun v h' => evOpsD P cl all base rest q (fp ++ [touchOf o (τ.set g (.bool false))]) (put (τ.set g (.bool false)) o.dst v) h' k) (fun _ _ => none))
          | some .undef => evOpsD P cl all base rest q (fp ++ [touchOf o τ]) (put τ o.dst .undef) h k
          | _ => none

/-- One reads, the other writes, elsewhere. -/
def apartD (base : Nat) (fp : List (Option Nat)) (i : Nat) (a : Oper) (j : Nat) (b : Oper) : Bool :=
  match fp.getD i none, fp.getD j none with
  | some x, some y => !Nat.beq x y && ((isStoreOp a && isRdOp b && Nat.blt y base) || (isRdOp a && isStoreOp b && Nat.blt x base))
  | _, _ => false

def lowD (base : Nat) (fp : List (Option Nat)) (i : Nat) : Bool := match fp.getD i none with | some x => Nat.blt x base | none => false

/-- Two operations (the first stands ahead) whose order matters to memory. -/
def kindClash (P : Program) (pure : FuncId → Bool) (base : Nat) (fp : List (Option Nat)) (i : Nat) (a : Oper) (j : Nat) (b : Oper) : Bool :=
  if (floatOf b).isSome = true then kindOf P pure a == 1 && !(isRdOp a && lowD base fp i)
  else if (floatOf a).isSome = true then decide (1 ≤ kindOf P pure b)
  else ((kindOf P pure a == 2 && 1 ≤ kindOf P pure b) || (1 ≤ kindOf P pure a && kindOf P pure b == 2)) && !apartD base fp i a j b

def slotClash (ops : List Oper) (a b : Oper) : Bool :=
  (match a.dst with | some t => (looks ops b).contains t || b.dst == some t | none => false) ||
  (match b.dst with | some t => (looks ops a).contains t | none => false)

def clashD (P : Program) (pure : FuncId → Bool) (ops : List Oper) (base : Nat) (fp : List (Option Nat)) (i : Nat) (a : Oper) (j : Nat) (b : Oper) : Bool :=
  slotClash ops a b || kindClash P pure base fp i a j b

/-- Every two operations whose order matters are ordered by edges, as they stand. -/
def orderD (P : Program) (pure : FuncId → Bool) (ops : List Oper) (base : Nat) (fp : List (Option Nat)) : Bool :=
  let A := ancs ops
  (List.range ops.length).all fun j =>
    match ops[j]? with
    | none => true
    | some b => (predsOf b).all (· < j) && (List.range j).all fun i => match ops[i]? with | none => true | some a => !clashD P pure ops base fp i a j b || (A.getD j 0).testBit i

/-- Room for the variables that a region makes. -/
def roomFor (n : Nat) (h : Heap) : Heap := match n with | 0 => h | n + 1 => h ++ List.replicate (n + 1) .dead

inductive AEx where
  | normal
  | exit (id : Nat)
  | ret
  | pan (v : AV)

def keepSome (keep : List Nat) : Nat → List AV → List AV
  | _, [] => []
  | i, v :: τ => (if keep.contains i then v else .any) :: keepSome keep (i + 1) τ

/-- Slots that are kept at a loop's head and behind it; the others are forgotten. No list: all are kept. -/
def keepIn (keep : List Nat) (i : Nat) (τ : List AV) : List AV :=
  match keep with
  | [] => τ
  | x :: l => keepSome (x :: l) i τ

abbrev Ctl := List AV → Heap → (AEx → List AV → Heap → Fin) → Fin

/-! ### Blocks that nothing leads to are left out; the others are numbered anew -/

mutual
/-- A value's blocks numbered anew; where one is left out nothing is known. -/
def AV.rn (ρ : Nat → Option Nat) : AV → AV
  | .ptr b i j => match ρ b with | some b' => .ptr b' i j | none => .any
  | .gp g j => .gp g j
  | .slc b o n => match ρ b with | some b' => .slc b' o n | none => .any
  | .yld b => match ρ b with | some b' => .yld b' | none => .any
  | .fn f l1 l2 => .fn f (AV.rnL ρ l1) (AV.rnL ρ l2)
  | .ifc t v => .ifc t (AV.rn ρ v)
  | .agg l => .agg (AV.rnL ρ l)
  | .tup l => .tup (AV.rnL ρ l)
  | .any => .any
  | .undef => .undef
  | .bool b => .bool b
  | .int k n => .int k n
  | .str s => .str s
  | .nilptr => .nilptr
  | .nilsl => .nilsl
  | .nilfn => .nilfn
  | .nilifc => .nilifc
def AV.rnL (ρ : Nat → Option Nat) : List AV → List AV
  | [] => []
  | v :: l => AV.rn ρ v :: AV.rnL ρ l
end

mutual
/-- The blocks that a value names. -/
def AV.refs : AV → List Nat
  | .ptr b _ _ => [b]
  | .gp _ _ => []
  | .slc b _ _ => [b]
  | .yld b => [b]
  | .fn _ l1 l2 => AV.refsL l1 ++ AV.refsL l2
  | .ifc _ v => AV.refs v
  | .agg l => AV.refsL l
  | .tup l => AV.refsL l
  | .any => []
  | .undef => []
  | .bool _ => []
  | .int _ _ => []
  | .str _ => []
  | .nilptr => []
  | .nilsl => []
  | .nilfn => []
  | .nilifc => []
def AV.refsL : List AV → List Nat
  | [] => []
  | v :: l => AV.refs v ++ AV.refsL l
end

def slRefs : List (Option (Nat × Nat × Nat)) → List Nat
  | [] => []
  | none :: l => slRefs l
  | some (b, _, _) :: l => b :: slRefs l

def slRn (ρ : Nat → Option Nat) : List (Option (Nat × Nat × Nat)) → Option (List (Option (Nat × Nat × Nat)))
  | [] => some []
  | none :: l => match slRn ρ l with | some l' => some (none :: l') | none => none
  | some (b, o, n) :: l => match ρ b, slRn ρ l with | some b', some l' => some (some (b', o, n) :: l') | _, _ => none

def Col.rn (ρ : Nat → Option Nat) : Col → Option Col
  | .avs l => some (.avs (AV.rnL ρ l))
  | .slcs l => match slRn ρ l with | some l' => some (.slcs l') | none => none
  | .ints k l => some (.ints k l)
  | .bools l => some (.bools l)
  | .strs l => some (.strs l)

def Col.refs : Col → List Nat
  | .avs l => AV.refsL l
  | .slcs l => slRefs l
  | .ints _ _ => []
  | .bools _ => []
  | .strs _ => []

def colsRn (ρ : Nat → Option Nat) : List Col → Option (List Col)
  | [] => some []
  | c :: cs => match c.rn ρ, colsRn ρ cs with | some c', some cs' => some (c' :: cs') | _, _ => none

def colsRefs : List Col → List Nat
  | [] => []
  | c :: cs => c.refs ++ colsRefs cs

def Blk.rn (ρ : Nat → Option Nat) : Blk → Option Blk
  | .mem t n cols rw => match colsRn ρ cols with | some cs => some (.mem t n cs rw) | none => none
  | .dead => some .dead
  | .loop st pe kp τ ps asg body => some (.loop st pe kp (AV.rnL ρ τ) ps asg body)

def Blk.refs : Blk → List Nat
  | .mem _ _ cols _ => colsRefs cols
  | .dead => []
  | .loop _ _ _ τ _ _ _ => AV.refsL τ

def blksRn (ρ : Nat → Option Nat) : List Blk → Option (List Blk)
  | [] => some []
  | b :: bs => match b.rn ρ, blksRn ρ bs with | some b', some bs' => some (b' :: bs') | _, _ => none

def blksRefs : List Blk → List Nat
  | [] => []
  | b :: bs => b.refs ++ blksRefs bs

/-- The new blocks that these lead to, in the order in which they are met. -/
def reachN (base : Nat) (h : Heap) : Nat → List Nat → List Nat → List Nat
  | 0, seen, _ => seen
  | _ + 1, seen, [] => seen
  | m + 1, seen, b :: todo =>
    bif Nat.ble base b && Nat.blt b h.length && !seen.contains b then reachN base h m (seen ++ [b]) (todo ++ (h.getD b .dead).refs) else reachN base h m seen todo

def idxIn (b : Nat) : Nat → List Nat → Option Nat
  | _, [] => none
  | i, x :: l => bif Nat.beq b x then some i else idxIn b (i + 1) l

def numAnew (base : Nat) (live : List Nat) (b : Nat) : Option Nat := bif Nat.blt b base then some b else idxIn b base live

def nodupB : List Nat → Bool
  | [] => true
  | x :: l => !l.contains x && nodupB l

def liveOK (base n : Nat) (live : List Nat) : Bool := nodupB live && live.all fun b => Nat.ble base b && Nat.blt b n

def packed (base : Nat) (τ : List AV) (h : Heap) (live : List Nat) (k : (AV → AV) → List AV → Heap → Fin) : Fin :=
  if liveOK base h.length live = true then
    match blksRn (numAnew base live) (h.take base ++ live.map fun b => h.getD b .dead) with
    | some h' => k (AV.rn (numAnew base live)) (AV.rnL (numAnew base live) τ) h'
    | none => none
  else none

/-- Blocks from base on to which nothing leads are left out. -/
def pack (base : Nat) (τ : List AV) (v : List AV) (h : Heap) (k : (AV → AV) → List AV → Heap → Fin) : Fin :=
  bif Nat.ble h.length base then k id τ h else
  packed base τ h (reachN base h 1000 [] (AV.refsL v ++ AV.refsL τ ++ blksRefs (h.take base))) k

def AEx.vals : AEx → List AV
  | .pan v => [v]
  | _ => []

def AEx.map (f : AV → AV) : AEx → AEx
  | .pan v => .pan (f v)
  | ex => ex

def loopN (keep : List Nat) (base : Nat) (g : Ctl) : Nat → Ctl
  | 0, _, _, _ => none
  | m + 1, τ, h, k => pack base (keepIn keep 0 τ) [] h fun _ τ h => g τ h fun ex τ' h' =>
    match ex with
    | .normal => loopN keep base g m τ' h' k
    | ex => pack base (keepIn keep 0 τ') ex.vals h' fun f τ' h' => k (ex.map f) τ' h'

/-- What a loop comes to, by cases. -/
inductive LT where
  | none
  | done (ex : AEx) (τ : List AV) (h : Heap)
  | ite (c : Bool) (a b : LT)

def LT.run : LT → (AEx → List AV → Heap → Fin) → Fin
  | .none, _ => Option.none
  | .done ex τ h, k => k ex τ h
  | .ite c a b, k => bif c then a.run k else b.run k

/-- What a loop comes to, where it can be told. -/
abbrev LSpec := List AV → Heap → LT

/-- What is told of a loop: nothing; what it comes to; the slots that it keeps. -/
inductive LI where
  | no
  | spec (s : LSpec)
  | keep (l : List Nat)

/-- What a call comes to, by cases. -/
inductive RT where
  | none
  | done (o : Out) (h : Heap)
  | ite (c : Bool) (a b : RT)

def RT.run : RT → (Out → Heap → Fin) → Fin
  | .none, _ => Option.none
  | .done o h, k => k o h
  | .ite c a b, k => bif c then a.run k else b.run k

def RT.get : RT → Option (Out × Heap)
  | .none => Option.none
  | .done o h => some (o, h)
  | .ite c a b => bif c then a.get else b.get

def nloops : Code → Nat
  | .seq a b | .cond _ a b => nloops a + nloops b
  | .block _ c | .scope c => nloops c
  | .loop c => 1 + nloops c
  | _ => 0

/-- The loops' bodies, as they come. -/
def loopsL : Code → List Code
  | .seq a b | .cond _ a b => loopsL a ++ loopsL b
  | .block _ c | .scope c => loopsL c
  | .loop c => c :: loopsL c
  | _ => []

/-- A loop's record that stands as it should. -/
def loopAt (h : Heap) (b : Nat) : Option (LoopState × Option Code × List Nat × List AV × List Tmp × Code × Code) :=
  match h[b]? with
  | some (.loop st pe kp τ ps asg body) => some (st, pe, kp, τ, ps, asg, body)
  | _ => none

/-- A range over a function: its record is laid; the function is called with its yield; the jump that is pending behind it. -/
def evRange (P : Program) (cl : Caller) (keep : List Nat) (g : AV) (ps : Array Tmp) (asg body : Code) : Ctl := fun τ h k =>
  match g with
  | .fn (.func f) first cap =>
    if ((P.funcs[f]?).map fun fn => fn.body.isSome) = some true then
      cl (.fn f) (first ++ [.yld h.length] ++ cap) (h ++ [.loop .ready none keep τ ps.toList asg body]) fun out h' =>
        match out, loopAt h' h.length with
        | .ret _, some (.ready, none, _) => k .normal τ (h'.set h.length .dead)
        | .ret _, some (.done, some .ret, _) => k .ret τ (h'.set h.length .dead)
        | .ret _, some (.done, some (.exit id), _) => k (.exit id) τ (h'.set h.length .dead)
        | .pan v, _ => k (.pan v) τ h'
        | _, _ => none
    else none
  | _ => none

def evC (P : Program) (cl : Caller) (pu : FuncId → Bool) (m : Nat) (keep : List Nat) (top : Bool) : Code → List LI → Ctl
  | .skip, _, τ, h, k => k .normal τ h
  | .label _, _, τ, h, k => k .normal τ h
  | .region _ ops false, _, τ, h, k => evOps P cl ops ops.toList τ h (k .normal) (fun v => k (.pan v))
  | .region _ ops true, _, τ, h, k => if P.follows .mixedOrders = true then evOpsD P cl ops h.length ops.toList 0 [] τ (roomFor (floatsIn ops.toList) h) (fun fp τ h' => if orderD P pu ops.toList h.length fp = true then k .normal τ h' else none) else none
  | .seq a b, ls, τ, h, k => evC P cl pu m keep top a ls τ h fun ex τ' h' => match ex with | .normal => evC P cl pu m keep top b (ls.drop (nloops a)) τ' h' k | ex => k ex τ' h'
  | .cond c a b, ls, τ, h, k => match rd τ c with
    | .bool t => bif t then evC P cl pu m keep top a ls τ h k else evC P cl pu m keep top b (ls.drop (nloops a)) τ h k
    | _ => none
  | .block id c, ls, τ, h, k => evC P cl pu m keep top c ls τ h fun ex τ' h' => match ex with | .exit i => (if i = id then k .normal τ' h' else k (.exit i) τ' h') | ex => k ex τ' h'
  | .loop c, ls, τ, h, k => match ls with
    | .spec s :: _ => (s τ h).run k
    | .keep l :: _ => loopN l h.length (fun τ h k => evC P cl pu m keep top c (ls.drop 1) τ h k) m τ h k
    | _ => loopN keep h.length (fun τ h k => evC P cl pu m keep top c (ls.drop 1) τ h k) m τ h k
  | .exit id, _, τ, h, k => k (.exit id) τ h
  | .scope c, ls, τ, h, k => evC P cl pu m keep top c ls τ h k
  | .ret, _, τ, h, k => k .ret τ h
  | .rangeFunc g ps asg body, _, τ, h, k => if top = true then evRange P cl keep (rd τ g) ps asg body τ h k else none
  | _, _, _, _, _ => none

def resOne (P : Program) (τ : List AV) (h : Heap) : ResultVar → Option AV
  | .tmp t => τ[t]?
  | .cell a t => match rd τ (.tmp a) with | .ptr b i j => h.load P t b i j | _ => none

def resAll (P : Program) (τ : List AV) (h : Heap) : List ResultVar → Option (List AV)
  | [] => some []
  | r :: rs => match resOne P τ h r, resAll P τ h rs with | some v, some vs => some (v :: vs) | _, _ => none

def tupOf : List AV → AV
  | [v] => v
  | l => .tup l

/-- What is known of a function without going into it: its answer, where its arguments allow it. -/
abbrev Spec := List AV → Heap → RT
abbrev Specs := FuncId → Option Spec

/-- A function's body from its beginning. -/
def evB (P : Program) (cl : Caller) (pu : FuncId → Bool) (m : Nat) (keep : List Nat) (ls : List LI) (fn : Func) (c : Code) (args : List AV) (h : Heap) (k : Out → Heap → Fin) : Fin :=
  evC P cl pu m keep true c ls (args ++ List.replicate (fn.ntmps - args.length) .undef) h fun ex τ h' =>
    match ex with
    | .normal | .ret => match resAll P τ h' fn.results.toList with | some l => k (.ret (tupOf l)) h' | none => none
    | .pan v => k (.pan v) h'
    | .exit _ => none

/-! ### A function that defers one closure -/

/-- A region's operations ahead of the defer statement with which it ends. -/
def splitDefer (ops : Array Oper) : Option (List Oper × Call) :=
  match ops.toList.reverse with
  | o :: rest => match o.op, o.guard, o.dst with | .defer c, none, none => some (rest.reverse, c) | _, _, _ => none
  | [] => none

def deferIn : Code → Option (Array Oper × List Oper × Call)
  | .region _ ops false => match splitDefer ops with | some (init, c) => some (ops, init, c) | none => none
  | _ => none

def hasDefer : Code → Bool
  | .seq a b => (deferIn a).isSome || hasDefer b
  | _ => false

def evOut (P : Program) (fn : Func) (ex : AEx) (τ : List AV) (h : Heap) (k : Out → Heap → Fin) : Fin :=
  match ex with
  | .normal | .ret => match resAll P τ h fn.results.toList with | some l => k (.ret (tupOf l)) h | none => none
  | .pan v => k (.pan v) h
  | .exit _ => none

/-- What a deferred closure's first region does: it recovers, and keeps what was thrown. -/
def recovers (ops : Array Oper) : Option (Option Tmp × Option Tmp × Operand) :=
  match ops.toList with
  | [o1, o2] =>
    match o1.op, o2.op, o1.guard, o2.guard with
    | .call c, .assign x, none, none => match c.callee, c.args.toList with | .builtin .recover, [] => some (o1.dst, o2.dst, x) | _, _ => none
    | _, _, _, _ => none
  | _ => none

/-- A deferred closure that begins with recover, and ends. -/
def evG (P : Program) (cl : Caller) (pu : FuncId → Bool) (m : Nat) (g : FuncId) (cap : List AV) (thrown : Option AV) (h : Heap) (k : Heap → Fin) : Fin :=
  match P.funcs[g]? with
  | some fn =>
    match fn.body with
    | some (.seq (.region _ ops false) rest) =>
      match recovers ops with
      | some (d1, d2, x) =>
        let τ1 := put (cap ++ List.replicate (fn.ntmps - cap.length) .undef) d1 (thrown.getD .nilifc)
        evC P cl pu m [] false rest [] (put τ1 d2 (rd τ1 x)) h fun ex _ h2 => match ex with
          | .normal | .ret => if fn.results.toList.length = 0 then k h2 else none
          | _ => none
      | none => none
    | _ => none
  | none => none

def evAfter (P : Program) (cl : Caller) (pu : FuncId → Bool) (m : Nat) (fn : Func) (g : FuncId) (cap : List AV) (ex : AEx) (τ : List AV) (h : Heap) (k : Out → Heap → Fin) : Fin :=
  match ex with
  | .normal | .ret => evG P cl pu m g cap none h fun h' => evOut P fn .ret τ h' k
  | .pan v => evG P cl pu m g cap (some v) h fun h' => evOut P fn .ret τ h' k
  | .exit _ => none

def evD (P : Program) (cl : Caller) (pu : FuncId → Bool) (m : Nat) (keep : List Nat) (fn : Func) : Code → List LI → List AV → Heap → (Out → Heap → Fin) → Fin
  | .seq a b, ls, τ, h, k =>
    match deferIn a with
    | some (ops, init, c) => evOps P cl ops init τ h (fun τ1 h1 =>
        match c.callee, c.args.toList with
        | .value f, [] =>
          match rd τ1 f with
          | .fn (.func g) [] cap => if ((P.funcs[g]?).map fun fn => fn.body.isSome) = some true then evC P cl pu m keep true b ls τ1 h1 fun ex τ2 h2 => evAfter P cl pu m fn g cap ex τ2 h2 k else none
          | _ => none
        | _, _ => none) (fun _ _ _ => none)
    | none => evC P cl pu m keep false a ls τ h fun ex τ' h' => match ex with | .normal => evD P cl pu m keep fn b (ls.drop (nloops a)) τ' h' k | ex => evOut P fn ex τ' h' k
  | c, ls, τ, h, k => evC P cl pu m keep false c ls τ h fun ex τ' h' => evOut P fn ex τ' h' k

/-- What a round's body leaves behind. -/
def evEnd (b : Nat) (ex : AEx) (h : Heap) (k : Out → Heap → Fin) : Fin :=
  match loopAt h b with
  | some (_, _, kp, τ, ps, asg, body) =>
    match ex with
    | .normal => k (.ret (.bool true)) (h.set b (.loop .ready none kp τ ps asg body))
    | .ret => k (.ret (.bool false)) (h.set b (.loop .done (some .ret) kp τ ps asg body))
    | .exit id => k (.ret (.bool false)) (h.set b (.loop .done (some (.exit id)) kp τ ps asg body))
    | .pan _ => none
  | none => none

/-- The loop's variables as yield's arguments. -/
def putAll : List AV → List Tmp → List AV → List AV
  | τ, t :: ts, v :: vs => putAll (τ.set t v) ts vs
  | τ, _, _ => τ

/-- A round of a loop. -/
def evRound (P : Program) (cl : Caller) (pu : FuncId → Bool) (m : Nat) (b : Nat) (args : List AV) (h : Heap) (k : Out → Heap → Fin) : Fin :=
  match loopAt h b with
  | some (_, _, kp, τ, ps, asg, body) =>
    if args.length = ps.length then
      evC P cl pu m kp false asg [] (putAll τ ps args) h fun ex τ1 h1 =>
        match ex, loopAt h1 b with
        | .normal, some (.ready, pe2, kp2, τ2, ps2, asg2, body2) =>
          evC P cl pu m kp false body [] τ1 (h1.set b (.loop .busy pe2 kp2 τ2 ps2 asg2 body2)) fun ex _ h2 => evEnd b ex h2 k
        | _, _ => none
    else none
  | none => none

/-- What is told of loops counts where there is depth enough. -/
def lsAt (d : Nat) (l : List LI) : List LI := bif Nat.ble 8 d then l else []

def evF (P : Program) (S : Specs) (pu : FuncId → Bool) (m : Nat) (keep : FuncId → List Nat) (LS : FuncId → List LI) : Nat → Caller
  | 0, _, _, _, _ => none
  | d + 1, .fn f, args, h, k =>
    match S f with
    | some s => (s args h).run k
    | none =>
      match P.funcs[f]? with
      | some fn =>
        match fn.body with
        | some c =>
          bif hasDefer c then evD P (evF P S pu m keep LS d) pu m (keep f) fn c [] (args ++ List.replicate (fn.ntmps - args.length) .undef) h k
          else evB P (evF P S pu m keep LS d) pu m (keep f) (lsAt d (LS f)) fn c args h k
        | none => none
      | none => none
  | d + 1, .yld b, args, h, k => evRound P (evF P S pu m keep LS d) pu m b args h k

end Go.Am
