/- Parts of the proof, joined: Ab1, Ab2, Ab3, Ab4, Ab4b, Ab4c, Ab4s, Ab4d, Ab5. -/
import Derived.Orders
import Derived.Still
import Derived.Laws.Sem
import Derived.Laws.Entries
import Derived.Below
import Derived.Laws.Cells
import Derived.Laws.CopyRow
import Derived.Lib.Builder
import Derived.Lib.UnsafeStr
import Derived.Laws.BytesString
import Derived.Laws.Externs
import Derived.Laws.IdiomCopy
import Derived.Lib.MakeNoZero
import Derived.KernelRfl

set_option linter.unusedVariables false
set_option linter.unusedSimpArgs false
set_option maxRecDepth 10000
namespace Go.Ab

/-- Abstract values. 'sl': a slice that is only read, by its elements (of 'e' cells each); 'own': a slice of an own block ('off' in cells, 'e' cells an element); 'pp': a pointer into memory that is only read, by the cells from there on; 'opq': any one cell; 'tptr': a pointer to the start of an own row of 'k' cells of type 't'; 'bsl', 'bptr': a slice of, a pointer to the start of an own row of bytes of type 't'. -/
inductive AV where
  | undef
  | int (k : IntKind) (n : Int)
  | bool (b : Bool)
  | str (s : ByteArray)
  | agg (cs : List AV)
  | tup (vs : List AV)
  | nilsl
  | sl (e : Nat) (l : List AV)
  | own (b off len e : Nat)
  | ptr (b off : Nat)
  | pp (cs : List AV)
  | nilp
  | func (f : FuncId) (cap : List AV)
  | ifc (t : TypeId) (x : AV)
  | opq
  | tptr (b k : Nat) (t : TypeId)
  | bsl (b len : Nat) (t : TypeId)
  | bptr (b : Nat) (t : TypeId)
  deriving Inhabited

abbrev Blk := List AV
abbrev Heap := Nat → Option Blk

/-- A value's cells, where its kind tells how many. -/
def AV.cells? : AV → Option (List AV)
  | .undef | .tup _ => none
  | .agg cs => some cs
  | x => some [x]

def AV.single : AV → Bool
  | .undef | .tup _ | .agg _ => false
  | _ => true

/-- A cell that is no own block's. -/
def AV.flat1 : AV → Bool
  | .own .. | .ptr .. | .tptr .. | .bsl .. | .bptr .. | .func .. | .ifc .. | .undef | .agg _ | .tup _ => false
  | _ => true

/-- The abstract value of a constant. -/
def absV : Value → AV
  | .int k n => .int k n
  | .bool b => .bool b
  | .string s => .str s
  | .slice none 0 0 => .nilsl
  | .pointer none => .nilp
  | .agg cs => .agg (cs.toList.map abs1)
  | _ => .undef
where
  abs1 : Value → AV
    | .int k n => .int k n
    | .bool b => .bool b
    | .string s => .str s
    | .slice none 0 0 => .nilsl
    | .pointer none => .nilp
    | .nilFunc => .opq
    | .nilIface => .opq
    | _ => .undef

def putT (τ : Nat → AV) (d : Option Tmp) (v : AV) : Nat → AV :=
  match d with
  | some d => fun t => if t = d then v else τ t
  | none => τ

def aev (τ : Nat → AV) : Operand → AV
  | .tmp t => τ t
  | .const v => absV v
  | .func f => .func f []
  | .global _ => .undef

def updH (h : Heap) : List (Nat × Option Blk) → Heap
  | [] => h
  | (i, b) :: r => updH (fun j => if j = i then b else h j) r

/-- What an operation comes to: its value, the blocks that it changes, the blocks that it reads. -/
structure Out where
  v : AV
  up : List (Nat × Option Blk) := []
  rd : List Nat := []

inductive Did where
  | out (o : Out)
  | call (f : FuncId) (args : List AV)

def tsize (P : Program) (t : TypeId) : Option Nat := (P.info? t).map (·.size)
def tbytes (P : Program) (t : TypeId) : Option Nat := (P.info? t).map (·.bytes)
def tzero (P : Program) (t : TypeId) : Option Value := (P.info? t).bind (·.zero)
def tagg (P : Program) (t : TypeId) : Option Bool := (P.underlying t).map fun | .struct _ | .array _ _ => true | _ => false
def telem (P : Program) (t : TypeId) : Option TypeId := match P.underlying t with | some (.slice e) => some e | _ => none

def pureOut (v : AV) : Option Did := some (.out { v })

/-- Cells taken out of cells. -/
def cut (cs : List AV) (off n : Nat) : List AV := (cs.drop off).take n
/-- Cells laid into cells. -/
def lay (cs : List AV) (off : Nat) (new : List AV) : List AV := cs.take off ++ new ++ cs.drop (off + new.length)

def chunk (e : Nat) : Nat → List AV → List AV
  | 0, _ => []
  | n + 1, cs => (if e = 1 then cs.headD .undef else .agg (cs.take e)) :: chunk e n (cs.drop e)

def getAs (agg : Bool) (n : Nat) (cs : List AV) : Option AV :=
  if agg then (if n ≤ cs.length then some (.agg (cs.take n)) else none) else cs.head?

def aload (P : Program) (h : Heap) (t : TypeId) (a : AV) : Option Did :=
  match tagg P t, tsize P t with
  | some g, some n =>
    match a with
    | .pp cs => (getAs g n cs).bind pureOut
    | .ptr b off => match h b with
      | some blk => if off ≤ blk.length then (getAs g n (blk.drop off)).bind fun v => some (.out { v, rd := [b] }) else none
      | none => none
    | _ => none
  | _, _ => none

def astore (P : Program) (h : Heap) (t : TypeId) (a x : AV) : Option Did :=
  match tsize P t, a, x.cells? with
  | some n, .ptr b off, some cs =>
    match h b with
    | some blk => if cs.length = n ∧ off + n ≤ blk.length ∧ cs.all (·.single) then some (.out { v := .undef, up := [(b, some (lay blk off cs))] }) else none
    | none => none
  | _, _, _ => none

/-- A text's bytes as cells; cells as a text. -/
def strCells (s : ByteArray) : List AV := s.data.toList.map fun b => .int .u8 (b.toNat : Int)
def bytesOf : List AV → Option (List UInt8)
  | [] => some []
  | .int .u8 n :: r => if ((UInt8.ofNat n.toNat).toNat : Int) = n then (bytesOf r).map (UInt8.ofNat n.toNat :: ·) else none
  | _ :: _ => none
def textOf (l : List UInt8) : ByteArray := ⟨l.toArray⟩

def isBld (P : Program) (t : TypeId) : Bool := match P.info? t with | some i => i.str == "strings.Builder" | none => false
/-- Has a row of 'k' cells of type 't' a variable of type 'u' at its start? Is an element of type 't' one cell? -/
def liesB (P : Program) (t : TypeId) (k : Nat) (u : TypeId) : Bool := liesAt P P.depth t (k / P.cellsOf t) 0 u 1
def rowOk (P : Program) (t : TypeId) : Bool := P.cellsOf t == 1
def isU8 (P : Program) (t : TypeId) : Bool := match P.underlying t with | some (.int .u8) => true | _ => false
def pelem (P : Program) (t : TypeId) : Option TypeId := match P.underlying t with | some (.pointer e) => some e | _ => none
/-- A function without a body that hands its argument back. -/
def isSame (P : Program) (f : FuncId) : Bool := match P.funcs[f]? with
  | some fn => fn.body.isNone && (fn.name == "internal/abi.NoEscape" && fn.origin == "")
  | none => false

/-- A function without a body that makes a row of bytes. -/
def mkzT (P : Program) (f : FuncId) : Option TypeId := match P.funcs[f]? with
  | some fn => if fn.body.isNone && (fn.name == "internal/bytealg.MakeNoZero" && fn.origin == "") then (match fn.resultTypes.toList with | [t] => telem P t | _ => none) else none
  | none => none

def aint : AV → Option Int
  | .int _ n => some n
  | _ => none

def abinInt (op : BinOp) (k : IntKind) (x y : Int) : Option AV :=
  match op with
  | .add => some (.int k (k.wrap (x + y)))
  | .sub => some (.int k (k.wrap (x - y)))
  | .mul => some (.int k (k.wrap (x * y)))
  | .quo => if y = 0 then none else some (.int k (k.wrap (x.tdiv y)))
  | .rem => if y = 0 then none else some (.int k (x.tmod y))
  | .and => some (.int k (k.wrap (BitVec.ofInt k.bits x &&& BitVec.ofInt k.bits y).toNat))
  | .or => some (.int k (k.wrap (BitVec.ofInt k.bits x ||| BitVec.ofInt k.bits y).toNat))
  | .xor => some (.int k (k.wrap (BitVec.ofInt k.bits x ^^^ BitVec.ofInt k.bits y).toNat))
  | .andNot => some (.int k (k.wrap (BitVec.ofInt k.bits x &&& ~~~ (BitVec.ofInt k.bits y)).toNat))
  | .eql => some (.bool (x == y))
  | .neq => some (.bool (x != y))
  | .lss => some (.bool (x < y))
  | .leq => some (.bool (x ≤ y))
  | .gtr => some (.bool (x > y))
  | .geq => some (.bool (x ≥ y))
  | _ => none

def ashift (op : BinOp) (k : IntKind) (x y : Int) : Option AV :=
  if y < 0 then none else
  match op with
  | .shl => some (.int k (k.wrap (x * 2 ^ (min y.toNat k.bits))))
  | .shr => some (.int k (x.fdiv (2 ^ (min y.toNat k.bits))))
  | _ => none

def astrop (op : BinOp) (x y : ByteArray) : Option AV :=
  match op with
  | .add => if ((x.size + y.size : Nat) : Int) > IntKind.i64.max then none else some (.str (x ++ y))
  | .eql => some (.bool (x.toList == y.toList))
  | .neq => some (.bool !(x.toList == y.toList))
  | _ => none

/-- Two values of one type of whole numbers, bools or texts: are they the same? -/
def scEq (P : Program) (t : TypeId) (x y : AV) : Option Bool :=
  match P.underlying t, x, y with
  | some (.int _), .int k a, .int k' b => if k = k' then some (a == b) else none
  | some .bool, .bool a, .bool b => some (a == b)
  | some .string, .str a, .str b => some (a == b)
  | _, _, _ => none

/-- Flat structs, each field a cell: are all the same? -/
def flatEq (P : Program) : List Field → List AV → List AV → Option Bool
  | [], [], [] => some true
  | f :: fs, x :: xs, y :: ys => match scEq P f.type x y, flatEq P fs xs ys with
    | some a, some b => some (a && b)
    | _, _ => none
  | _, _, _ => none

/-- Is a type a struct each of whose fields has a name and is one cell, that may be held against another one? -/
def flatType (P : Program) (t : TypeId) (fs : Array Field) : Bool :=
  !P.stoodInHeld t && !P.eqGuardType P.depth t && fs.toList.zipIdx.all fun (f, i) => f.name != "_" && f.offset == i

def aeq (P : Program) (t : TypeId) (x y : AV) : Option Bool :=
  match x, y with
  | .agg xs, .agg ys => match P.underlying t with
    | some (.struct fs) => if flatType P t fs then flatEq P fs.toList xs ys else none
    | _ => none
  | .bool a, .bool b => match P.underlying t with | some .bool => some (a == b) | _ => none
  | x, .nilsl => match P.underlying t with
    | some (.slice _) => match x with | .nilsl => some true | .own .. => some false | .sl _ (_ :: _) => some false | .bsl .. => some false | _ => none
    | _ => none
  | x, .nilp => match P.underlying t with
    | some (.pointer _) => match x with | .nilp => some true | .ptr .. => some false | .pp _ => some false | .tptr .. => some false | _ => none
    | _ => none
  | _, _ => none

def abin (P : Program) (op : BinOp) (t : TypeId) (x y : AV) : Option AV :=
  match x, y with
  | .int k a, .int k' b =>
    match op with
    | .shl | .shr => ashift op k a b
    | _ => if k = k' then abinInt op k a b else none
  | .str a, .str b => astrop op a b
  | x, y => match op with
    | .eql => (aeq P t x y).map .bool
    | .neq => (aeq P t x y).map fun r => .bool !r
    | _ => none

/-- .. and of two pointers to one own row. -/
def abinH (P : Program) (h : Heap) (op : BinOp) (t : TypeId) (x y : AV) : Option Did :=
  match x, y with
  | .tptr b _ _, .tptr b' _ _ => match op, P.underlying t, h b with
    | .eql, some (.pointer e), some _ => match tsize P e with
      | some (_ + 1) => if b = b' then some (.out { v := .bool true, rd := [b] }) else none
      | _ => none
    | .neq, some (.pointer e), some _ => match tsize P e with
      | some (_ + 1) => if b = b' then some (.out { v := .bool false, rd := [b] }) else none
      | _ => none
    | _, _, _ => none
  | x, y => (abin P op t x y).bind pureOut

def aun (op : UnOp) (x : AV) : Option AV :=
  match op, x with
  | .neg, .int k n => some (.int k (k.wrap (0 - n)))
  | .not, .bool b => some (.bool !b)
  | _, _ => none

def aslice (P : Program) (t : TypeId) (x : AV) (lo hi : Option AV) : Option AV :=
  let bounds (len : Nat) : Option (Nat × Nat) :=
    match (match hi with | some v => aint v | none => some (len : Int)), (match lo with | some v => aint v | none => some 0) with
    | some h, some l => if 0 ≤ l ∧ l ≤ h ∧ h ≤ len then some (l.toNat, h.toNat) else none
    | _, _ => none
  match P.underlying t, x with
  | some .string, .str s => (bounds s.size).map fun (l, h) => .str (s.extract l h)
  | some (.slice e), .sl s xs => if tsize P e = some s then (bounds xs.length).map fun (l, h) => .sl s ((xs.take h).drop l) else none
  | some (.slice e), .nilsl => match tsize P e with
    | some _ => (bounds 0).map fun _ => .nilsl
    | none => none
  | some (.slice e), .own b off len s => match tsize P e with
    | some z => if z = s then (bounds len).map fun (l, h) => .own b (off + l * s) (h - l) s else none
    | none => none
  | some (.slice e), .bsl b len t => match tsize P e with
    | some _ => (bounds len).bind fun (l, h) => if l = 0 then some (.bsl b h t) else none
    | none => none
  | _, _ => none

/-- A slice of an array of the call's own. -/
def asliceH (P : Program) (h : Heap) (t : TypeId) (x : AV) (lo hi : Option AV) : Option Did :=
  match x with
  | .ptr b off => match P.underlying t, lo, hi, h b with
    | some (.array n e), none, none, some blk => match tsize P e with
      | some s => if off + n * s ≤ blk.length then some (.out { v := .own b off n s, rd := [b] }) else none
      | none => none
    | _, _, _, _ => none
  | x => (aslice P t x lo hi).bind pureOut

def afieldAddr (P : Program) (t : TypeId) (x : AV) (i : Nat) : Option AV :=
  match P.underlying t with
  | some (.struct fs) => match fs[i]? with
    | some f => match tsize P f.type with
      | some (_ + 1) => match x with
        | .ptr b off => some (.ptr b (off + f.offset))
        | .tptr b _ _ => some (.ptr b f.offset)
        | .pp cs => if f.offset ≤ cs.length then some (.pp (cs.drop f.offset)) else none
        | _ => none
      | _ => none
    | none => none
  | _ => none

def apart (P : Program) (t : TypeId) (cs : List AV) (off : Nat) : Option AV :=
  match tagg P t, tsize P t with
  | some g, some n => getAs g n (cs.drop off)
  | _, _ => none

def afield (P : Program) (t : TypeId) (x : AV) (i : Nat) : Option AV :=
  match P.underlying t, x with
  | some (.struct fs), .agg cs => match fs[i]? with
    | some f => apart P f.type cs f.offset
    | none => none
  | _, _ => none

def aindexAddr (P : Program) (t : TypeId) (x ix : AV) : Option AV :=
  match aint ix with
  | some i => match P.underlying t, x with
    | some (.slice e), .sl s xs => if tsize P e = some s ∧ 0 ≤ i ∧ i < (xs.length : Int) then (xs.getD i.toNat .undef).cells?.map .pp else none
    | some (.slice e), .own b off len s => match tsize P e with
      | some z => if z = s ∧ 0 ≤ i ∧ i < (len : Int) then some (.ptr b (off + i.toNat * s)) else none
      | none => none
    | some (.array n e), .ptr b off => match tsize P e with
      | some z => if 0 ≤ i ∧ i < (n : Int) then some (.ptr b (off + i.toNat * z)) else none
      | none => none
    | _, _ => none
  | none => none

def aindex (P : Program) (t : TypeId) (x ix : AV) : Option AV :=
  match aint ix with
  | some i => match P.underlying t, x with
    | some .string, .str s => if 0 ≤ i then (s[i.toNat]?).map fun b => .int .u8 b.toNat else none
    | some (.array n e), .agg cs => match tsize P e with
      | some z => if 0 ≤ i ∧ i < (n : Int) then apart P e cs (i.toNat * z) else none
      | none => none
    | _, _ => none
  | none => none

/-- Parts laid into zero cells. -/
def afill (place : Nat → Option (Nat × Nat)) (cells : List AV) : List (Nat × AV) → Option (List AV)
  | [] => some cells
  | (i, v) :: rest =>
    match place i, v.cells? with
    | some (off, size), some cs => if cs.length = size ∧ off + size ≤ cells.length ∧ cs.all (·.single) then afill place (lay cells off cs) rest else none
    | _, _ => none

def zcells (P : Program) (t : TypeId) : Option (List AV) := (tzero P t).bind fun z => (absV z).cells?.bind fun cs => if cs.all (·.single) then some cs else none

/-- A struct's fields: where each begins, and how many cells it has. -/
def places (P : Program) (fs : Array Field) : Option (List (Nat × Nat)) := fs.toList.mapM fun f => (tsize P f.type).map fun n => (f.offset, n)

def abuild (P : Program) (t : TypeId) (parts : List (Nat × AV)) : Option AV :=
  match P.underlying t, zcells P t with
  | some (.struct fs), some z => match places P fs with
    | some pl => (afill (fun i => pl[i]?) z parts).map .agg
    | none => none
  | some (.array _ e), some z =>
    match tsize P e with
    | some s => (afill (fun i => some (i * s, s)) z parts).map .agg
    | none => none
  | _, _ => none

def repCells : Nat → List AV → List AV
  | 0, _ => []
  | n + 1, z => z ++ repCells n z

/-- 'pu': the slice that is made is only read from here on. -/
def abuildSlice (P : Program) (pu : Bool) (slot : Nat) (t : TypeId) (len : Nat) (parts : List (Nat × AV)) : Option Did :=
  match telem P t with
  | some e => match tsize P e, zcells P e with
    | some (s + 1), some z => if z.length = s + 1 ∧ len * (s + 1) ≤ 2 ^ 24 then
        (afill (fun i => some (i * (s + 1), s + 1)) (repCells len z) parts).bind fun cs => if pu then (if cs.all (·.flat1) then pureOut (.sl (s + 1) (chunk (s + 1) len cs)) else none) else some (.out { v := .own slot 0 len (s + 1), up := [(slot, some cs)] })
      else none
    | _, _ => none
  | none => none

def amake (P : Program) (slot : Nat) (t : TypeId) (l c : AV) : Option Did :=
  match telem P t, aint l, aint c with
  | some e, some l, some c => match tsize P e, tbytes P e, zcells P e with
    | some (s + 1), some by_, some z => if z.length = s + 1 ∧ l = c ∧ 0 ≤ l ∧ l ≤ 2 ^ 40 ∧ by_ ≤ 128 then
        some (.out { v := .own slot 0 l.toNat (s + 1), up := [(slot, some (repCells l.toNat z))] })
      else none
    | _, _, _ => none
  | _, _, _ => none

/-- The cells of what is appended or copied, and what is read for that. -/
def srcCells (h : Heap) (e : Nat) : AV → Option (List AV × Nat × List Nat)
  | .nilsl => some ([], 0, [])
  | .sl s xs => if s = e then some (xs.flatMap (fun x => (x.cells?).getD []), xs.length, []) else none
  | .own b off len s => match h b with
    | some blk => if s = e ∧ off + len * e ≤ blk.length then some (cut blk off (len * e), len, [b]) else none
    | none => none
  | _ => none

/-- 'pu': the slice that is made is only read from here on. -/
def aappend (P : Program) (pu : Bool) (slot : Nat) (h : Heap) (argTypes : Array TypeId) (x y : AV) : Option Did :=
  match (argTypes[0]?).bind (telem P), (argTypes[1]?).bind (telem P) with
  | some e, some e' => match tsize P e, tbytes P e, zcells P e with
    | some (s + 1), some by_, some z => if tsize P e' = some (s + 1) ∧ by_ ≤ 128 ∧ 0 < by_ ∧ z.length = s + 1 then
      match srcCells h (s + 1) y with
      | some (new, n, rd) =>
        if n ≤ 2 ^ 38 then
        match x with
        | .nilsl => if pu then (match y with | .sl _ xs => pureOut (.sl (s + 1) xs) | _ => none) else if n = 0 then some (.out { v := .nilsl, rd }) else some (.out { v := .own slot 0 n (s + 1), up := [(slot, some new)], rd })
        | .own b off len s' => match h b with
          | some blk => if s' = s + 1 ∧ len ≤ 2 ^ 38 ∧ off + len * (s + 1) ≤ blk.length then
              some (.out { v := .own slot 0 (len + n) (s + 1), up := [(b, none), (slot, some (cut blk off (len * (s + 1)) ++ new))], rd })
            else none
          | none => none
        | _ => none
        else none
      | none => none
      else none
    | _, _, _ => none
  | _, _ => none

def acopy (P : Program) (h : Heap) (argTypes : Array TypeId) (x y : AV) : Option Did :=
  match (argTypes[0]?).bind (telem P) with
  | some e => match tsize P e with
    | some (s + 1) => match x, srcCells h (s + 1) y with
      | .own b off len s', some (new, n, rd) => match h b with
        | some blk => if s' = s + 1 ∧ off + len * (s + 1) ≤ blk.length then
            some (.out { v := .int .i64 (min n len : Nat), up := [(b, some (lay blk off (new.take ((min n len) * (s + 1)))))], rd })
          else none
        | none => none
      | _, _ => none
    | _ => none
  | none => none

def alen (P : Program) (t : TypeId) (x : AV) : Option AV :=
  match P.underlying t, x with
  | some .string, .str s => some (.int .i64 s.size)
  | some (.array n _), _ => some (.int .i64 n)
  | some (.slice _), .sl _ xs => some (.int .i64 xs.length)
  | some (.slice _), .nilsl => some (.int .i64 0)
  | some (.slice _), .own _ _ len _ => some (.int .i64 len)
  | some (.slice _), .bsl _ len _ => some (.int .i64 len)
  | _, _ => none

def amax2 : AV → AV → Option AV
  | .int k x, .int k' y => if k = k' then some (.int k (if y > x then y else x)) else none
  | _, _ => none
def amin2 : AV → AV → Option AV
  | .int k x, .int k' y => if k = k' then some (.int k (if y < x then y else x)) else none
  | _, _ => none

/-- A text's bytes, appended. -/
def aappendS (P : Program) (slot : Nat) (h : Heap) (argTypes : Array TypeId) (x : AV) (s : ByteArray) : Option Did :=
  match (argTypes[0]?).bind (telem P), argTypes[1]? with
  | some e, some t1 => match tsize P e, tbytes P e, zcells P e, P.underlying t1 with
    | some 1, some 1, some [_], some .string =>
      if s.size ≤ 2 ^ 38 then
      match x with
      | .nilsl => if s.size = 0 then some (.out { v := .nilsl }) else some (.out { v := .bsl slot s.size e, up := [(slot, some (strCells s))] })
      | .bsl b len t => match h b with
        | some blk => if t = e ∧ len ≤ 2 ^ 38 ∧ len ≤ blk.length then
            some (.out { v := .bsl slot (len + s.size) e, up := [(b, none), (slot, some (blk.take len ++ strCells s))] })
          else none
        | none => none
      | _ => none
      else none
    | _, _, _, _ => none
  | _, _ => none

def aunsafeString (P : Program) (h : Heap) (argTypes : Array TypeId) (x n : AV) : Option Did :=
  match argTypes.toList, n with
  | [t0, _], .int .i64 n => match x with
    | .nilp => if n = 0 then pureOut (.str ⟨#[]⟩) else none
    | .bptr b t => if n = 0 then pureOut (.str ⟨#[]⟩) else match h b with
      | some blk => if pelem P t0 = some t ∧ rowOk P t = true ∧ 0 < n ∧ n.toNat ≤ blk.length ∧ n ≤ 2 ^ 40 then
          (bytesOf (blk.take n.toNat)).bind fun l => some (.out { v := .str (textOf l), up := [(b, none)] })
        else none
      | none => none
    | _ => none
  | _, _ => none

def abuiltin (P : Program) (pu : Bool) (slot : Nat) (h : Heap) (b : Builtin) (argTypes : Array TypeId) (args : List AV) : Option Did :=
  match b, args with
  | .append, [x, .str s] => aappendS P slot h argTypes x s
  | .append, [x, y] => aappend P pu slot h argTypes x y
  | .unsafeSliceData, [.nilsl] => pureOut .nilp
  | .unsafeSliceData, [.bsl b _ t] => pureOut (.bptr b t)
  | .unsafeString, [x, n] => aunsafeString P h argTypes x n
  | .copy, [.bsl _ _ _, .nilsl] => match (argTypes[0]?).bind (telem P) with
    | some e => (match tsize P e with | some _ => pureOut (.int .i64 0) | none => none)
    | none => none
  | .copy, [x, y] => acopy P h argTypes x y
  | .cap, [.nilsl] => match (argTypes[0]?).bind (telem P) with
    | some _ => pureOut (.int .i64 0)
    | none => none
  | .len, [x] => ((argTypes[0]?).bind fun t => alen P t x).bind pureOut
  | .max, x :: rest => (rest.foldlM amax2 x).bind pureOut
  | .min, x :: rest => (rest.foldlM amin2 x).bind pureOut
  | _, _ => none

def aconvert (P : Program) (h : Heap) (src dst : TypeId) (x : AV) : Option Did :=
  match P.underlying src, P.underlying dst, x with
  | some (.int _), some (.int k), .int _ n => pureOut (.int k (k.wrap n))
  | some .string, some .string, .str s => pureOut (.str s)
  | some (.slice e), some .string, .own b off len 1 => match isU8 P e, h b with
    | true, some blk => if off + len ≤ blk.length then (bytesOf (cut blk off len)).bind fun l => some (.out { v := .str (textOf l), rd := [b] }) else none
    | _, _ => none
  | some (.pointer e), some .unsafePointer, .tptr b k t => match tsize P e, h b with
    | some (_ + 1), some (_ :: _) => some (.out { v := .tptr b k t, rd := [b] })
    | _, _ => none
  | some .unsafePointer, some (.pointer u), .tptr b k t => match tsize P u, liesB P t k u, h b with
    | some (_ + 1), true, some _ => some (.out { v := .tptr b k t, rd := [b] })
    | _, _, _ => none
  | _, _, _ => none

/-- A method by an interface value of dynamic type 't': the function, where it is the type's own and takes the value itself. -/
def dispatch (P : Program) (t : TypeId) (name : String) : Option FuncId :=
  match P.underlying t, P.info? t with
  | some (.struct _), some i => match i.methods.find? (·.name == name) with
    | some m => match m.func with
      | some (f, false) => if m.path.toList = [] then some f else none
      | _ => none
    | none => none
  | _, _ => none

/-- What an operation does, if the machine here tells. -/
def aop (P : Program) (pu : Bool) (op : Op) (slot : Nat) (ev : Operand → AV) (h : Heap) : Option Did :=
  match op with
  | .move x | .assign x => pureOut (ev x)
  | .pick c a b => match ev c with
    | .bool t => pureOut (if t then ev a else ev b)
    | _ => none
  | .alloc t => match zcells P t, tsize P t with
    | some z, some n => if z.length = n then some (.out { v := if isBld P t then .tptr slot n t else .ptr slot 0, up := [(slot, some z)] }) else none
    | _, _ => none
  | .box _ x => match (ev x).cells? with
    | some cs => if cs.all (·.single) then some (.out { v := .ptr slot 0, up := [(slot, some cs)] }) else none
    | none => none
  | .build t parts => (abuild P t (parts.toList.map fun (i, x) => (i, ev x))).bind pureOut
  | .buildSlice t len parts => abuildSlice P pu slot t len (parts.toList.map fun (i, x) => (i, ev x))
  | .load t a => aload P h t (ev a)
  | .store t a x => astore P h t (ev a) (ev x)
  | .nilCheck x => match ev x with
    | .ptr b off => pureOut (.ptr b off)
    | .pp cs => pureOut (.pp cs)
    | .tptr b k t => pureOut (.tptr b k t)
    | .func f cap => pureOut (.func f cap)
    | _ => none
  | .binOp op t x y _ => abinH P h op t (ev x) (ev y)
  | .unOp op _ x => (aun op (ev x)).bind pureOut
  | .convert src dst x => aconvert P h src dst (ev x)
  | .makeFunc (.func f) first captured => if first.isEmpty then pureOut (.func f (captured.toList.map ev)) else none
  | .makeSlice t l c => amake P slot t (ev l) (ev c)
  | .slice t x lo hi none => asliceH P h t (ev x) (lo.map ev) (hi.map ev)
  | .fieldAddr t x i => (afieldAddr P t (ev x) i).bind pureOut
  | .field t x i => (afield P t (ev x) i).bind pureOut
  | .indexAddr t x ix => (aindexAddr P t (ev x) (ev ix)).bind pureOut
  | .index t x ix => (aindex P t (ev x) (ev ix)).bind pureOut
  | .extract x i => match ev x with
    | .tup vs => (vs[i]?).bind pureOut
    | _ => none
  | .call { callee := .builtin b, args, argTypes } => abuiltin P pu slot h b argTypes (args.toList.map ev)
  | .call { callee := .value f, args, .. } => match ev f with
    | .func f cap => if isSame P f then (match args.toList.map ev ++ cap with | [x] => pureOut x | _ => none) else match mkzT P f with
      | some e => (match args.toList.map ev ++ cap with | [.int .i64 n] => (if 0 < n ∧ n ≤ 2 ^ 40 then some (.out { v := .bsl slot n.toNat e, up := [(slot, some [])] }) else none) | _ => none)
      | none => some (.call f (args.toList.map ev ++ cap))
    | _ => none
  | .makeInterface t x => match tagg P t with
    | some true => pureOut (.ifc t (ev x))
    | _ => none
  | .call { callee := .invoke r name, args, .. } => match ev r with
    | .ifc t x => match dispatch P t name with
      | some f => some (.call f (x :: args.toList.map ev))
      | none => none
    | _ => none
  | _ => none

end Go.Ab

set_option linter.unusedVariables false
set_option linter.unusedSimpArgs false
set_option maxRecDepth 10000
namespace Go.Ab
open Go.RowKit

/-- Where an own block lies: not there yet; gone; at 'A', in a row of so many cells, of elements of a type. -/
inductive MS where
  | fresh
  | gone
  | live (A : Addr) (sz : Nat × TypeId)

abbrev Imm := Nat → Option Obj
abbrev Mp := Nat → MS

inductive PRel (I : Imm) : AV → Value → Prop
  | undef (v) : PRel I .undef v
  | int (k n) : PRel I (.int k n) (.int k n)
  | bool (b) : PRel I (.bool b) (.bool b)
  | str (s) : PRel I (.str s) (.string s)
  | agg (cs : List AV) (vs : Array Value) : vs.size = cs.length → (∀ (i : Nat) (x : AV) (v : Value), cs[i]? = some x → vs[i]? = some v → PRel I x v) → PRel I (.agg cs) (.agg vs)
  | tup (cs : List AV) (vs : Array Value) : vs.size = cs.length → (∀ (i : Nat) (x : AV) (v : Value), cs[i]? = some x → vs[i]? = some v → PRel I x v) → PRel I (.tup cs) (.tuple vs)
  | nilsl : PRel I .nilsl (.slice none 0 0)
  | sl0 (e a cap) : PRel I (.sl e []) (.slice a 0 cap)
  | sl (e : Nat) (l : List AV) (A : Addr) (n cap : Nat) (c : Array Value) (el : TypeId) (fr : Nat × Nat) : l ≠ [] → n = l.length → n ≤ cap → A.spot = none → I A.block = some (.cells c el fr) → A.off + n * e ≤ c.size →
      (∀ (i : Nat) (x : AV), l[i]? = some x → ∃ cs, x.cells? = some cs ∧ cs.length = e ∧ cs.all (·.single) = true) →
      (∀ (i : Nat) (x : AV) (cs : List AV) (j : Nat) (y : AV) (v : Value), l[i]? = some x → x.cells? = some cs → cs[j]? = some y → c[A.off + (i * e + j)]? = some v → PRel I y v) → PRel I (.sl e l) (.slice (some A) n cap)
  | pp (cs : List AV) (A : Addr) (c : Array Value) (el : TypeId) (fr : Nat × Nat) : A.spot = none → I A.block = some (.cells c el fr) → A.off + cs.length ≤ c.size → cs.all (·.single) = true →
      (∀ (j : Nat) (y : AV) (v : Value), cs[j]? = some y → c[A.off + j]? = some v → PRel I y v) → PRel I (.pp cs) (.pointer (some A))
  | nilp : PRel I .nilp (.pointer none)
  | func (f : FuncId) (cap : List AV) (vs : Array Value) : vs.size = cap.length → (∀ (i : Nat) (x : AV) (v : Value), cap[i]? = some x → vs[i]? = some v → PRel I x v) → PRel I (.func f cap) (.func (.func f) #[] vs)
  | ifc (t : TypeId) (x : AV) (v : Value) : PRel I x v → PRel I (.ifc t x) (.iface t v)
  | opq (v : Value) : v.oneCell' = true → PRel I .opq v

inductive VRel (I : Imm) (M : Mp) : AV → Value → Prop
  | pure (x v) : PRel I x v → VRel I M x v
  | own (b off len e B sz A cap) : M b = .live B sz → A.spot = none → len ≤ cap → (cap = 0 ∨ (A = ⟨B.block, B.off + off, none⟩ ∧ B.off + off + cap * e ≤ sz.1)) → VRel I M (.own b off len e) (.slice (some A) len cap)
  | ownG (b off len e A cap) : M b = .gone → A.spot = none → len ≤ cap → VRel I M (.own b off len e) (.slice (some A) len cap)
  | ptr (b off A sz) : M b = .live A sz → VRel I M (.ptr b off) (.pointer (some ⟨A.block, A.off + off, none⟩))
  | ptrG (b off A) : M b = .gone → A.spot = none → VRel I M (.ptr b off) (.pointer (some A))
  | agg (cs : List AV) (vs : Array Value) : vs.size = cs.length → (∀ (i : Nat) (x : AV) (v : Value), cs[i]? = some x → vs[i]? = some v → VRel I M x v) → VRel I M (.agg cs) (.agg vs)
  | tup (cs : List AV) (vs : Array Value) : vs.size = cs.length → (∀ (i : Nat) (x : AV) (v : Value), cs[i]? = some x → vs[i]? = some v → VRel I M x v) → VRel I M (.tup cs) (.tuple vs)
  | func (f : FuncId) (cap : List AV) (vs : Array Value) : vs.size = cap.length → (∀ (i : Nat) (x : AV) (v : Value), cap[i]? = some x → vs[i]? = some v → VRel I M x v) → VRel I M (.func f cap) (.func (.func f) #[] vs)
  | tptr (b k t B) : M b = .live ⟨B, 0, none⟩ (k, t) → VRel I M (.tptr b k t) (.pointer (some ⟨B, 0, none⟩))
  | tptrG (b k t A) : M b = .gone → A.spot = none → VRel I M (.tptr b k t) (.pointer (some A))
  | bsl (b len t B k cap) : M b = .live ⟨B, 0, none⟩ (k, t) → len ≤ cap → 0 < cap → cap ≤ k → VRel I M (.bsl b len t) (.slice (some ⟨B, 0, none⟩) len cap)
  | bslG (b len t A cap) : M b = .gone → A.spot = none → len ≤ cap → 0 < cap → VRel I M (.bsl b len t) (.slice (some A) len cap)
  | bptr (b t B k) : M b = .live ⟨B, 0, none⟩ (k, t) → VRel I M (.bptr b t) (.pointer (some ⟨B, 0, none⟩))
  | bptrG (b t A) : M b = .gone → A.spot = none → VRel I M (.bptr b t) (.pointer (some A))
  | ifc (t : TypeId) (x : AV) (v : Value) : VRel I M x v → VRel I M (.ifc t x) (.iface t v)

def ILe (I I' : Imm) : Prop := ∀ b o, I b = some o → I' b = some o
def MLe (M M' : Mp) : Prop := ∀ i, match M i with
  | .fresh => True
  | .gone => M' i = .gone
  | .live A sz => M' i = .live A sz ∨ M' i = .gone

theorem ILe.refl (I : Imm) : ILe I I := fun _ _ h => h
theorem ILe.trans {I I' I'' : Imm} (h : ILe I I') (k : ILe I' I'') : ILe I I'' := fun b o e => k b o (h b o e)
theorem MLe.refl (M : Mp) : MLe M M := fun i => by cases h : M i <;> simp
theorem MLe.trans {M M' M'' : Mp} (h : MLe M M') (k : MLe M' M'') : MLe M M'' := fun i => by
  have h1 := h i
  have k1 := k i
  cases e : M i with
  | fresh => trivial
  | gone => rw [e] at h1; simp only at h1; rw [h1] at k1; exact k1
  | live A sz =>
    rw [e] at h1
    rcases h1 with h1 | h1
    · rw [h1] at k1; exact k1
    · rw [h1] at k1; exact .inr k1

theorem PRel.mono {I I' : Imm} (hI : ILe I I') {x : AV} {v : Value} (h : PRel I x v) : PRel I' x v := by
  induction h with
  | undef v => exact .undef v
  | int k n => exact .int k n
  | bool b => exact .bool b
  | str s => exact .str s
  | agg cs vs hs _ ih => exact .agg cs vs hs ih
  | tup cs vs hs _ ih => exact .tup cs vs hs ih
  | nilsl => exact .nilsl
  | sl0 e a cap => exact .sl0 e a cap
  | sl e l A n cap c el fr h1 h2 h3 h4 h5 h6 h7 _ ih => exact .sl e l A n cap c el fr h1 h2 h3 h4 (hI _ _ h5) h6 h7 ih
  | pp cs A c el fr h1 h2 h3 h4 _ ih => exact .pp cs A c el fr h1 (hI _ _ h2) h3 h4 ih
  | nilp => exact .nilp
  | func f cap vs hs _ ih => exact .func f cap vs hs ih
  | ifc t x v _ ih => exact .ifc t x v ih
  | opq v hv => exact .opq v hv

theorem VRel.mono {I I' : Imm} {M M' : Mp} (hI : ILe I I') (hM : MLe M M') {x : AV} {v : Value} (h : VRel I M x v) : VRel I' M' x v := by
  induction h with
  | pure x v h => exact .pure x v (h.mono hI)
  | own b off len e B sz A cap h1 h2 h3 h4 =>
    have := hM b
    rw [h1] at this
    rcases this with h | h
    · exact .own b off len e B sz A cap h h2 h3 h4
    · exact .ownG b off len e _ _ h h2 h3
  | ownG b off len e A cap h1 h2 h3 => have := hM b; rw [h1] at this; exact .ownG _ _ _ _ _ _ this h2 h3
  | ptr b off A sz h1 =>
    have := hM b
    rw [h1] at this
    rcases this with h | h
    · exact .ptr b off A sz h
    · exact .ptrG b off _ h rfl
  | ptrG b off A h1 h2 => have := hM b; rw [h1] at this; exact .ptrG _ _ _ this h2
  | agg cs vs hs _ ih => exact .agg cs vs hs ih
  | tup cs vs hs _ ih => exact .tup cs vs hs ih
  | func f cap vs hs _ ih => exact .func f cap vs hs ih
  | ifc t x v _ ih => exact .ifc t x v ih
  | tptr b k t B h1 =>
    have := hM b
    rw [h1] at this
    rcases this with h | h
    · exact .tptr b k t B h
    · exact .tptrG b k t _ h rfl
  | tptrG b k t A h1 h2 => have := hM b; rw [h1] at this; exact .tptrG _ _ _ _ this h2
  | bsl b len t B k cap h1 h3 h4 h5 =>
    have := hM b
    rw [h1] at this
    rcases this with h | h
    · exact .bsl b len t B k cap h h3 h4 h5
    · exact .bslG b len t _ cap h rfl h3 h4
  | bslG b len t A cap h1 h2 h3 h4 => have := hM b; rw [h1] at this; exact .bslG _ _ _ _ _ this h2 h3 h4
  | bptr b t B k h1 =>
    have := hM b
    rw [h1] at this
    rcases this with h | h
    · exact .bptr b t B k h
    · exact .bptrG b t _ h rfl
  | bptrG b t A h1 h2 => have := hM b; rw [h1] at this; exact .bptrG _ _ _ this h2

def M0 : Mp := fun _ => .fresh
theorem MLe.zero (M : Mp) : MLe M0 M := fun _ => trivial
theorem VRel.ofP {I : Imm} {M : Mp} {x : AV} {v : Value} (h : PRel I x v) : VRel I M x v := .pure _ _ h

/-! ### Inversions -/
section
variable {I : Imm} {M : Mp} {v : Value}
theorem VRel.int_inv {k n} (h : VRel I M (.int k n) v) : v = .int k n := by cases h with | pure _ _ h => cases h; rfl
theorem VRel.bool_inv {b} (h : VRel I M (.bool b) v) : v = .bool b := by cases h with | pure _ _ h => cases h; rfl
theorem VRel.str_inv {s} (h : VRel I M (.str s) v) : v = .string s := by cases h with | pure _ _ h => cases h; rfl
theorem VRel.nilsl_inv (h : VRel I M .nilsl v) : v = .slice none 0 0 := by cases h with | pure _ _ h => cases h; rfl
theorem VRel.nilp_inv (h : VRel I M .nilp v) : v = .pointer none := by cases h with | pure _ _ h => cases h; rfl
theorem VRel.sl_inv {e l} (h : VRel I M (.sl e l) v) : PRel I (.sl e l) v := by cases h with | pure _ _ h => exact h
theorem VRel.pp_inv {cs} (h : VRel I M (.pp cs) v) : PRel I (.pp cs) v := by cases h with | pure _ _ h => exact h
theorem VRel.agg_inv {cs} (h : VRel I M (.agg cs) v) : ∃ vs, v = .agg vs ∧ vs.size = cs.length ∧ ∀ (i : Nat) x u, cs[i]? = some x → vs[i]? = some u → VRel I M x u := by
  cases h with
  | pure _ _ h => cases h with | agg _ vs hs h => exact ⟨vs, rfl, hs, fun i x u hx hu => .pure _ _ (h i x u hx hu)⟩
  | agg _ vs hs h => exact ⟨vs, rfl, hs, h⟩
theorem VRel.tup_inv {cs} (h : VRel I M (.tup cs) v) : ∃ vs, v = .tuple vs ∧ vs.size = cs.length ∧ ∀ (i : Nat) x u, cs[i]? = some x → vs[i]? = some u → VRel I M x u := by
  cases h with
  | pure _ _ h => cases h with | tup _ vs hs h => exact ⟨vs, rfl, hs, fun i x u hx hu => .pure _ _ (h i x u hx hu)⟩
  | tup _ vs hs h => exact ⟨vs, rfl, hs, h⟩
theorem VRel.func_inv {f cap} (h : VRel I M (.func f cap) v) : ∃ vs, v = .func (.func f) #[] vs ∧ vs.size = cap.length ∧ ∀ (i : Nat) x u, cap[i]? = some x → vs[i]? = some u → VRel I M x u := by
  cases h with
  | pure _ _ h => cases h with | func _ _ vs hs h => exact ⟨vs, rfl, hs, fun i x u hx hu => .pure _ _ (h i x u hx hu)⟩
  | func _ _ vs hs h => exact ⟨vs, rfl, hs, h⟩
theorem VRel.ifc_inv {t x} (h : VRel I M (.ifc t x) v) : ∃ u, v = .iface t u ∧ VRel I M x u := by
  cases h with
  | pure _ _ h => cases h with | ifc _ _ u h => exact ⟨u, rfl, .pure _ _ h⟩
  | ifc _ _ u h => exact ⟨u, rfl, h⟩
theorem VRel.tptr_inv {b k t} (h : VRel I M (.tptr b k t) v) : ∃ A, v = .pointer (some A) ∧ A.spot = none ∧ (M b = .gone ∨ ∃ B, M b = .live ⟨B, 0, none⟩ (k, t) ∧ A = ⟨B, 0, none⟩) := by
  cases h with
  | pure _ _ h => cases h
  | tptr _ _ _ B h1 => exact ⟨_, rfl, rfl, .inr ⟨B, h1, rfl⟩⟩
  | tptrG _ _ _ A h1 h2 => exact ⟨A, rfl, h2, .inl h1⟩
theorem VRel.bsl_inv {b len t} (h : VRel I M (.bsl b len t) v) : ∃ A cap, v = .slice (some A) len cap ∧ A.spot = none ∧ len ≤ cap ∧ 0 < cap ∧ (M b = .gone ∨ ∃ B k, M b = .live ⟨B, 0, none⟩ (k, t) ∧ A = ⟨B, 0, none⟩ ∧ cap ≤ k) := by
  cases h with
  | pure _ _ h => cases h
  | bsl _ _ _ B k cap h1 h3 h4 h5 => exact ⟨_, cap, rfl, rfl, h3, h4, .inr ⟨B, k, h1, rfl, h5⟩⟩
  | bslG _ _ _ A cap h1 h2 h3 h4 => exact ⟨A, cap, rfl, h2, h3, h4, .inl h1⟩
theorem VRel.bptr_inv {b t} (h : VRel I M (.bptr b t) v) : ∃ A, v = .pointer (some A) ∧ A.spot = none ∧ (M b = .gone ∨ ∃ B k, M b = .live ⟨B, 0, none⟩ (k, t) ∧ A = ⟨B, 0, none⟩) := by
  cases h with
  | pure _ _ h => cases h
  | bptr _ _ B k h1 => exact ⟨_, rfl, rfl, .inr ⟨B, k, h1, rfl⟩⟩
  | bptrG _ _ A h1 h2 => exact ⟨A, rfl, h2, .inl h1⟩
theorem VRel.own_inv {b off len e} (h : VRel I M (.own b off len e) v) : ∃ A cap, v = .slice (some A) len cap ∧ A.spot = none ∧ len ≤ cap ∧ (M b = .gone ∨ ∃ B sz, M b = .live B sz ∧ (cap = 0 ∨ (A = ⟨B.block, B.off + off, none⟩ ∧ B.off + off + cap * e ≤ sz.1))) := by
  cases h with
  | pure _ _ h => cases h
  | own _ _ _ _ B sz A cap h1 h2 h3 h4 => exact ⟨A, cap, rfl, h2, h3, .inr ⟨B, sz, h1, h4⟩⟩
  | ownG _ _ _ _ A cap h1 h2 h3 => exact ⟨A, cap, rfl, h2, h3, .inl h1⟩
theorem VRel.own_mk {b off len e A cap} (hs : A.spot = none) (hl : len ≤ cap) (h : M b = .gone ∨ ∃ B sz, M b = .live B sz ∧ (cap = 0 ∨ (A = ⟨B.block, B.off + off, none⟩ ∧ B.off + off + cap * e ≤ sz.1))) : VRel I M (.own b off len e) (.slice (some A) len cap) := by
  rcases h with h | ⟨B, sz, h1, h3⟩
  · exact .ownG _ _ _ _ _ _ h hs hl
  · exact .own _ _ _ _ _ _ _ _ h1 hs hl h3
theorem VRel.ptr_inv {b off} (h : VRel I M (.ptr b off) v) : ∃ A, v = .pointer (some A) ∧ A.spot = none ∧ (M b = .gone ∨ ∃ B sz, M b = .live B sz ∧ A = ⟨B.block, B.off + off, none⟩) := by
  cases h with
  | pure _ _ h => cases h
  | ptr _ _ A sz h1 => exact ⟨_, rfl, rfl, .inr ⟨A, sz, h1, rfl⟩⟩
  | ptrG _ _ A h1 h2 => exact ⟨A, rfl, h2, .inl h1⟩
theorem VRel.ptr_mk {b off A} (hs : A.spot = none) (h : M b = .gone ∨ ∃ B sz, M b = .live B sz ∧ A = ⟨B.block, B.off + off, none⟩) : VRel I M (.ptr b off) (.pointer (some A)) := by
  rcases h with h | ⟨B, sz, h1, rfl⟩
  · exact .ptrG _ _ _ h hs
  · exact .ptr _ _ _ _ h1
end

theorem VRel.one {I : Imm} {M : Mp} {x : AV} {v : Value} (h : VRel I M x v) (hs : x.single = true) : v.oneCell' = true := by
  cases h with
  | pure _ _ h => cases h <;> first | rfl | assumption | simp [AV.single] at hs
  | _ => first | rfl | simp [AV.single] at hs

/-- A value's cells are its value's cells. -/
theorem VRel.cells {I : Imm} {M : Mp} {x : AV} {v : Value} (h : VRel I M x v) {cs : List AV} (hc : x.cells? = some cs) :
    v.cells.size = cs.length ∧ ∀ (j : Nat) y u, cs[j]? = some y → v.cells[j]? = some u → VRel I M y u := by
  by_cases hs : x.single = true
  · have h1 : x.cells? = some [x] := by cases x <;> first | rfl | simp [AV.single] at hs
    have h2 : v.cells = #[v] := by have := h.one hs; cases v <;> first | rfl | simp [Value.oneCell'] at this
    rw [h1] at hc
    cases hc
    rw [h2]
    refine ⟨rfl, fun j y u hy hu => ?_⟩
    cases j with
    | zero => simp at hy hu; subst hy; subst hu; exact h
    | succ j => simp at hy
  · cases x with
    | agg cs' =>
      cases hc
      obtain ⟨vs, rfl, hsz, hv⟩ := h.agg_inv
      exact ⟨hsz, hv⟩
    | undef => cases hc
    | tup => cases hc
    | _ => simp [AV.single] at hs

/-! ### The heap -/
structure HRel (I : Imm) (M : Mp) (h : Heap) (n : Nat) (w : World) : Prop where
  imm : ∀ b o, I b = some o → w.heap[b]? = some o
  fr : ∀ i, n ≤ i → M i = .fresh
  no : ∀ i, (∀ A sz, M i ≠ .live A sz) → h i = none
  live : ∀ i A sz, M i = .live A sz → A.spot = none ∧ I A.block = none ∧ ∃ blk c el, h i = some blk ∧ w.heap[A.block]? = some (.cells c el (0, 0)) ∧ (c.size, el) = sz ∧
    A.off + blk.length ≤ sz.1 ∧ blk.all (·.single) = true ∧ ∀ (j : Nat) x v, blk[j]? = some x → c[A.off + j]? = some v → VRel I M x v
  inj : ∀ i j A sz B sz', M i = .live A sz → M j = .live B sz' → A.block = B.block → i = j

def Live (M : Mp) (b : Nat) : Prop := ∃ i A sz, M i = .live A sz ∧ A.block = b

/-- From one state to a later one: nothing else has turned. -/
structure Ext (I : Imm) (M : Mp) (w : World) (I' : Imm) (M' : Mp) (w' : World) : Prop where
  os : w'.os = w.os
  tape : w'.tape = w.tape
  output : w'.output = w.output
  size : w.heap.size ≤ w'.heap.size
  keep : ∀ b, b < w.heap.size → ¬ Live M b → w'.heap[b]? = w.heap[b]?
  imm : ILe I I'
  mp : MLe M M'
  newI : ∀ b, b < w.heap.size → I b = none → ¬ Live M b → I' b = none
  newL : ∀ b, Live M' b → Live M b ∨ w.heap.size ≤ b

theorem Ext.refl (I : Imm) (M : Mp) (w : World) : Ext I M w I M w := ⟨rfl, rfl, rfl, Nat.le_refl _, fun _ _ _ => rfl, .refl _, .refl _, fun _ _ h _ => h, fun _ h => .inl h⟩

theorem Ext.trans {I I' I'' : Imm} {M M' M'' : Mp} {w w' w'' : World} (h : Ext I M w I' M' w') (k : Ext I' M' w' I'' M'' w'') : Ext I M w I'' M'' w'' := by
  have nl : ∀ b, b < w.heap.size → ¬ Live M b → ¬ Live M' b := fun b hb hn hl => (h.newL b hl).elim hn (fun h1 => by omega)
  refine ⟨k.os.trans h.os, k.tape.trans h.tape, k.output.trans h.output, Nat.le_trans h.size k.size, ?_, h.imm.trans k.imm, h.mp.trans k.mp, ?_, ?_⟩
  · intro b hb hn
    rw [k.keep b (Nat.lt_of_lt_of_le hb h.size) (nl b hb hn), h.keep b hb hn]
  · intro b hb hi hn
    exact k.newI b (Nat.lt_of_lt_of_le hb h.size) (h.newI b hb hi hn) (nl b hb hn)
  · intro b hl
    rcases k.newL b hl with h1 | h1
    · exact h.newL b h1
    · exact .inr (Nat.le_trans h.size h1)

/-- A draw. -/
theorem HRel.drew {I : Imm} {M : Mp} {h : Heap} {n : Nat} {w : World} (H : HRel I M h n w) : HRel I M h n w.drew := ⟨H.imm, H.fr, H.no, H.live, H.inj⟩
theorem Ext.drew (I : Imm) (M : Mp) (w : World) : Ext I M w I M w.drew := ⟨rfl, rfl, rfl, Nat.le_refl _, fun _ _ _ => rfl, .refl _, .refl _, fun _ _ h _ => h, fun _ h => .inl h⟩

def updM (M : Mp) (i : Nat) (s : MS) : Mp := fun j => if j = i then s else M j
def upd1 (h : Heap) (i : Nat) (b : Option Blk) : Heap := fun j => if j = i then b else h j

theorem updM_le {M : Mp} {i : Nat} {s : MS} (h : M i = .fresh ∨ s = .gone) (hs : s = .gone ∨ ∃ A sz, s = .live A sz) : MLe M (updM M i s) := by
  intro j
  unfold updM
  by_cases hj : j = i
  · subst hj
    rw [if_pos rfl]
    rcases h with h | h
    · rw [h]; trivial
    · subst h; cases M j <;> simp
  · rw [if_neg hj]; cases M j <;> simp

theorem Live.lt {I : Imm} {M : Mp} {h : Heap} {n : Nat} {w : World} (H : HRel I M h n w) {b : Nat} (hl : Live M b) : b < w.heap.size := by
  obtain ⟨i, A, sz, hm, rfl⟩ := hl
  obtain ⟨_, _, blk, c, el, _, hw, _⟩ := H.live i A sz hm
  rcases Nat.lt_or_ge A.block w.heap.size with h | h
  · exact h
  · simp [Array.getElem?_eq_none h] at hw

/-- A NEW BLOCK at a slot that was not there yet. -/
theorem HRel.alloc {I : Imm} {M : Mp} {h : Heap} {n : Nat} {w : World} (H : HRel I M h n w) {i : Nat} (hi : M i = .fresh) (hn : i < n) {blk : Blk} {c : Array Value} {el : TypeId}
    (hl : blk.length ≤ c.size) (h1 : blk.all (·.single) = true) (hc : ∀ (j : Nat) x v, blk[j]? = some x → c[j]? = some v → VRel I M x v) :
    HRel I (updM M i (.live ⟨w.heap.size, 0, none⟩ (c.size, el))) (upd1 h i (some blk)) n (w.alloc (.cells c el)) ∧
    Ext I M w I (updM M i (.live ⟨w.heap.size, 0, none⟩ (c.size, el))) (w.alloc (.cells c el)) := by
  have hle : MLe M (updM M i (.live ⟨w.heap.size, 0, none⟩ (c.size, el))) := updM_le (.inl hi) (.inr ⟨_, _, rfl⟩)
  have hold : ∀ b, b < w.heap.size → (w.alloc (.cells c el)).heap[b]? = w.heap[b]? := fun b hb => Below.heap_alloc w _ b hb
  have hnew : (w.alloc (.cells c el)).heap[w.heap.size]? = some (.cells c el (0, 0)) := by
    show (w.heap.push _)[w.heap.size]? = _
    simp
  have hImm : ∀ b o, I b = some o → b < w.heap.size := fun b o hb => by
    have := H.imm b o hb
    rcases Nat.lt_or_ge b w.heap.size with h | h
    · exact h
    · simp [Array.getElem?_eq_none h] at this
  refine ⟨⟨?_, ?_, ?_, ?_, ?_⟩, ⟨rfl, rfl, rfl, by simp, fun b hb _ => hold b hb, .refl _, hle, fun _ _ h _ => h, ?_⟩⟩
  · intro b o hb
    rw [hold b (hImm b o hb)]; exact H.imm b o hb
  · intro j hj
    have : j ≠ i := by omega
    simp only [updM, if_neg this]; exact H.fr j hj
  · intro j hj
    by_cases e : j = i
    · subst e; exact absurd (by simp [updM]) (hj ⟨w.heap.size, 0, none⟩ (c.size, el))
    · simp only [upd1, if_neg e]; exact H.no j (fun A sz hm => hj A sz (by simp only [updM, if_neg e]; exact hm))
  · intro j A sz hm
    by_cases e : j = i
    · subst e
      simp only [updM, if_pos] at hm
      cases hm
      refine ⟨rfl, ?_, blk, c, el, by simp [upd1], hnew, rfl, by simpa using hl, h1, fun k x v hx hv => (hc k x v hx (by simpa using hv)).mono (.refl _) hle⟩
      cases hI : I w.heap.size with
      | none => rfl
      | some o => exact absurd (hImm _ _ hI) (by omega)
    · simp only [updM, if_neg e] at hm
      obtain ⟨g1, g2, b', c', el', g3, g4, g5, g6, g7, g8⟩ := H.live j A sz hm
      refine ⟨g1, g2, b', c', el', by simp only [upd1, if_neg e]; exact g3, ?_, g5, g6, g7, fun k x v hx hv => (g8 k x v hx hv).mono (.refl _) hle⟩
      rw [hold _ (Live.lt H ⟨j, A, sz, hm, rfl⟩)]; exact g4
  · intro j k A sz B sz' hj hk hb
    by_cases ej : j = i <;> by_cases ek : k = i
    · omega
    · simp only [updM, ej, if_pos, if_neg ek] at hj hk
      cases hj
      have := Live.lt H ⟨k, B, sz', hk, rfl⟩
      simp only at hb
      omega
    · simp only [updM, ek, if_pos, if_neg ej] at hj hk
      cases hk
      have := Live.lt H ⟨j, A, sz, hj, rfl⟩
      simp only at hb
      omega
    · simp only [updM, if_neg ej, if_neg ek] at hj hk
      exact H.inj j k A sz B sz' hj hk hb
  · rintro b ⟨j, A, sz, hm, rfl⟩
    by_cases e : j = i
    · simp only [updM, e, if_pos] at hm; cases hm; exact .inr (Nat.le_refl _)
    · simp only [updM, if_neg e] at hm; exact .inl ⟨j, A, sz, hm, rfl⟩

/-- A BLOCK'S CELLS WRITTEN. -/
theorem HRel.write {I : Imm} {M : Mp} {h : Heap} {n : Nat} {w w' : World} (H : HRel I M h n w) {i : Nat} {A : Addr} {sz : Nat × TypeId} (hm : M i = .live A sz) {blk : Blk} {c : Array Value} {el : TypeId}
    (hos : w'.os = w.os) (htape : w'.tape = w.tape) (hout : w'.output = w.output) (hsize : w'.heap.size = w.heap.size)
    (hother : ∀ b, b ≠ A.block → w'.heap[b]? = w.heap[b]?) (hthis : w'.heap[A.block]? = some (.cells c el (0, 0))) (hc : (c.size, el) = sz)
    (hl : A.off + blk.length ≤ sz.1) (h1 : blk.all (·.single) = true) (hr : ∀ (j : Nat) x v, blk[j]? = some x → c[A.off + j]? = some v → VRel I M x v) :
    HRel I M (upd1 h i (some blk)) n w' ∧ Ext I M w I M w' := by
  obtain ⟨g1, g2, _⟩ := H.live i A sz hm
  refine ⟨⟨?_, H.fr, ?_, ?_, H.inj⟩, ⟨hos, htape, hout, Nat.le_of_eq hsize.symm, ?_, .refl _, .refl _, fun _ _ h _ => h, fun _ h => .inl h⟩⟩
  · intro b o hb
    have : b ≠ A.block := fun e => by rw [e, g2] at hb; cases hb
    rw [hother b this]; exact H.imm b o hb
  · intro j hj
    have : j ≠ i := fun e => hj A sz (e ▸ hm)
    simp only [upd1, if_neg this]; exact H.no j hj
  · intro j B sz' hj
    by_cases e : j = i
    · subst e
      rw [hm] at hj
      cases hj
      exact ⟨g1, g2, blk, c, el, by simp [upd1], hthis, hc, hl, h1, hr⟩
    · obtain ⟨k1, k2, b', c', el', k3, k4, k5⟩ := H.live j B sz' hj
      have hne : B.block ≠ A.block := fun hb => e (H.inj j i B sz' A sz hj hm hb)
      exact ⟨k1, k2, b', c', el', by simp only [upd1, if_neg e]; exact k3, by rw [hother _ hne]; exact k4, k5⟩
  · intro b _ hn
    exact hother b (fun e => hn ⟨i, A, sz, hm, e.symm⟩)

/-- A BLOCK IS GONE. -/
theorem HRel.drop {I : Imm} {M : Mp} {h : Heap} {n : Nat} {w : World} (H : HRel I M h n w) {i : Nat} (hi : i < n) :
    HRel I (updM M i .gone) (upd1 h i none) n w ∧ Ext I M w I (updM M i .gone) w := by
  have hle : MLe M (updM M i .gone) := updM_le (.inr rfl) (.inl rfl)
  refine ⟨⟨H.imm, ?_, ?_, ?_, ?_⟩, ⟨rfl, rfl, rfl, Nat.le_refl _, fun _ _ _ => rfl, .refl _, hle, fun _ _ h _ => h, ?_⟩⟩
  · intro j hj
    have : j ≠ i := by omega
    simp only [updM, if_neg this]; exact H.fr j hj
  · intro j hj
    by_cases e : j = i
    · simp [upd1, e]
    · simp only [upd1, if_neg e]; exact H.no j (fun A sz hm => hj A sz (by simp only [updM, if_neg e]; exact hm))
  · intro j A sz hm
    by_cases e : j = i
    · simp only [updM, e, if_pos] at hm; cases hm
    · simp only [updM, if_neg e] at hm
      obtain ⟨g1, g2, b', c', el', g3, g4, g5, g6, g7, g8⟩ := H.live j A sz hm
      exact ⟨g1, g2, b', c', el', by simp only [upd1, if_neg e]; exact g3, g4, g5, g6, g7, fun k x v hx hv => (g8 k x v hx hv).mono (.refl _) hle⟩
  · intro j k A sz B sz' hj hk hb
    by_cases ej : j = i
    · simp only [updM, ej, if_pos] at hj; cases hj
    · by_cases ek : k = i
      · simp only [updM, ek, if_pos] at hk; cases hk
      · simp only [updM, if_neg ej, if_neg ek] at hj hk
        exact H.inj j k A sz B sz' hj hk hb
  · rintro b ⟨j, A, sz, hm, rfl⟩
    by_cases e : j = i
    · simp only [updM, e, if_pos] at hm; cases hm
    · simp only [updM, if_neg e] at hm; exact .inl ⟨j, A, sz, hm, rfl⟩

/-- A BLOCK THAT IS GONE LENDS ITS PLACE TO A NEW ONE (an append in place): 'i' was live and becomes gone, 'k' was not there yet. -/
theorem HRel.move {I : Imm} {M : Mp} {h : Heap} {n : Nat} {w : World} (H : HRel I M h n w) {i k : Nat} {A : Addr} {sz : Nat × TypeId} (hm : M i = .live A sz) (hk : M k = .fresh) (hkn : k < n) {d m : Nat} {blk : Blk}
    (hi : h i = some blk) (hd : d + m ≤ blk.length) :
    HRel I (updM (updM M i .gone) k (.live ⟨A.block, A.off + d, none⟩ sz)) (upd1 (upd1 h i none) k (some (cut blk d m))) n w ∧
    Ext I M w I (updM (updM M i .gone) k (.live ⟨A.block, A.off + d, none⟩ sz)) w := by
  have hin : i < n := by
    rcases Nat.lt_or_ge i n with h | h
    · exact h
    · rw [H.fr i h] at hm; cases hm
  have hne : k ≠ i := fun e => by rw [e, hm] at hk; cases hk
  have hle1 : MLe M (updM M i .gone) := updM_le (.inr rfl) (.inl rfl)
  have hk' : (updM M i .gone) k = .fresh := by simp only [updM, if_neg hne]; exact hk
  have hle2 : MLe (updM M i .gone) (updM (updM M i .gone) k (.live ⟨A.block, A.off + d, none⟩ sz)) := updM_le (.inl hk') (.inr ⟨_, _, rfl⟩)
  have hle := hle1.trans hle2
  obtain ⟨g1, g2, b0, c0, el0, g3, g4, g5, g6, g7, g8⟩ := H.live i A sz hm
  rw [hi] at g3
  cases g3
  have hcut : (cut blk d m).length = m := by simp [cut]; omega
  have hcutget : ∀ j x, (cut blk d m)[j]? = some x → blk[d + j]? = some x := fun j x hx => by
    unfold cut at hx
    rw [List.getElem?_take] at hx
    split at hx
    · rw [List.getElem?_drop] at hx; exact hx
    · cases hx
  refine ⟨⟨H.imm, ?_, ?_, ?_, ?_⟩, ⟨rfl, rfl, rfl, Nat.le_refl _, fun _ _ _ => rfl, .refl _, hle, fun _ _ h _ => h, ?_⟩⟩
  · intro j hj
    simp only [updM, if_neg (show j ≠ k by omega), if_neg (show j ≠ i by omega)]; exact H.fr j hj
  · intro j hj
    by_cases e : j = k
    · subst e; exact absurd (by simp [updM]) (hj ⟨A.block, A.off + d, none⟩ sz)
    · by_cases e2 : j = i
      · simp only [upd1, if_neg e, if_pos e2]
      · simp only [upd1, if_neg e, if_neg e2]; exact H.no j (fun B s hB => hj B s (by simp only [updM, if_neg e, if_neg e2]; exact hB))
  · intro j B s hB
    by_cases e : j = k
    · subst e
      simp only [updM, if_pos] at hB
      cases hB
      refine ⟨rfl, g2, cut blk d m, c0, el0, by simp [upd1], g4, g5, by simp only [hcut]; omega, ?_, fun t x v hx hv => (g8 (d + t) x v (hcutget t x hx) (by simpa [Nat.add_assoc] using hv)).mono (.refl _) hle⟩
      rw [List.all_eq_true] at g7 ⊢
      intro x hx
      exact g7 x (List.mem_of_mem_drop (List.mem_of_mem_take hx))
    · by_cases e2 : j = i
      · simp only [updM, if_neg e, if_pos e2] at hB; cases hB
      · simp only [updM, if_neg e, if_neg e2] at hB
        obtain ⟨k1, k2, b', c', el', k3, k4, k5, k6, k7, k8⟩ := H.live j B s hB
        exact ⟨k1, k2, b', c', el', by simp only [upd1, if_neg e, if_neg e2]; exact k3, k4, k5, k6, k7, fun t x v hx hv => (k8 t x v hx hv).mono (.refl _) hle⟩
  · intro j l B s C s' hj hl hb
    have key : ∀ j B s, updM (updM M i .gone) k (.live ⟨A.block, A.off + d, none⟩ sz) j = .live B s → (j = k ∧ B.block = A.block) ∨ (j ≠ k ∧ j ≠ i ∧ M j = .live B s) := fun j B s hj => by
      by_cases e : j = k
      · subst e; simp only [updM, if_pos] at hj; cases hj; exact .inl ⟨rfl, rfl⟩
      · by_cases e2 : j = i
        · simp only [updM, if_neg e, if_pos e2] at hj; cases hj
        · simp only [updM, if_neg e, if_neg e2] at hj; exact .inr ⟨e, e2, hj⟩
    rcases key j B s hj with ⟨rfl, h1⟩ | ⟨a1, a2, a3⟩ <;> rcases key l C s' hl with ⟨rfl, h2⟩ | ⟨b1, b2, b3⟩
    · rfl
    · exact absurd (H.inj l i C s' A sz b3 hm (by rw [← hb, h1])) b2
    · exact absurd (H.inj j i B s A sz a3 hm (by rw [hb, h2])) a2
    · exact H.inj j l B s C s' a3 b3 hb
  · rintro b ⟨j, B, s, hB, rfl⟩
    by_cases e : j = k
    · subst e; simp only [updM, if_pos] at hB; cases hB; exact .inl ⟨i, A, sz, hm, rfl⟩
    · by_cases e2 : j = i
      · simp only [updM, if_neg e, if_pos e2] at hB; cases hB
      · simp only [updM, if_neg e, if_neg e2] at hB; exact .inl ⟨j, B, s, hB, rfl⟩

end Go.Ab

set_option linter.unusedVariables false
set_option linter.unusedSimpArgs false
set_option maxRecDepth 10000
namespace Go.Ab
open Go.RowKit

/-- Cells that are a value's cells. -/
def CRel (I : Imm) (M : Mp) (cs : List AV) (vs : Array Value) : Prop := vs.size = cs.length ∧ ∀ (j : Nat) y u, cs[j]? = some y → vs[j]? = some u → VRel I M y u

/-- What an operation has done, said of the world. -/
def Yields1 (P : Program) (o : Oper) (ρ : Operand → Value) (I : Imm) (M : Mp) (h : Heap) (n : Nat) (w : World) (slot : Nat) (out : Out) : Prop :=
  ∃ v w' I' M', ((execOp ρ o).run P w = .ok (.value v) w' ∨ ((execOp ρ o).run P w = .ok .skip w' ∧ v = undef)) ∧ VRel I' M' out.v v ∧ HRel I' M' (updH h out.up) n w' ∧ Ext I M w I' M' w' ∧
    (∀ i, i ≠ slot → M i = .fresh → M' i = .fresh)

section
variable {P : Program} {ρ : Operand → Value} {I : Imm} {M : Mp} {h : Heap} {n : Nat} {w : World} {slot : Nat} {ev : Operand → AV}

theorem Yields1.ofRun {o : Oper} {x : AV} {rd : List Nat} {v : Value} (H : HRel I M h n w) (hr : (execOp ρ o).run P w = .ok (.value v) w) (hv : VRel I M x v) : Yields1 P o ρ I M h n w slot { v := x, rd } :=
  ⟨v, w, I, M, .inl hr, hv, H, .refl _ _ _, fun _ _ h => h⟩

/-! ### Constants -/
theorem abs1_rel (v : Value) : PRel I (absV.abs1 v) v := by
  unfold absV.abs1
  split <;> first | exact .int _ _ | exact .bool _ | exact .str _ | exact .nilsl | exact .nilp | exact .opq _ rfl | exact .undef _

theorem absV_rel (v : Value) : PRel I (absV v) v := by
  unfold absV
  split
  · exact .int _ _
  · exact .bool _
  · exact .str _
  · exact .nilsl
  · exact .nilp
  · rename_i cs
    refine .agg _ _ (by simp) fun i x v hx hv => ?_
    simp only [List.getElem?_map, Array.getElem?_toList] at hx
    rw [hv] at hx
    simp only [Option.map_some, Option.some.injEq] at hx
    subst hx
    exact abs1_rel v
  · exact .undef _

theorem aev_rel {τ : Nat → AV} {a : Act} (h : ∀ t, VRel I M (τ t) (a.tmps.getD t undef)) (x : Operand) : VRel I M (aev τ x) (a.eval x) := by
  cases x with
  | tmp t => exact h t
  | const v => exact .pure _ _ (absV_rel v)
  | global g => exact .pure _ _ (.undef _)
  | func f => exact .pure _ _ (.func _ _ _ rfl (fun i x v hx => by simp at hx))

/-! ### Types -/
theorem run_sizeOf {t k : Nat} (ht : tsize P t = some k) (w : World) : (sizeOf t).run P w = .ok k w := by
  unfold tsize at ht
  cases hi : P.info? t with
  | none => rw [hi] at ht; cases ht
  | some i => rw [hi] at ht; cases ht; simp [sizeOf, typeInfo, hi]
theorem run_zeroValue {t : TypeId} {z : Value} (ht : tzero P t = some z) (w : World) : (zeroValue t).run P w = .ok z w := by
  unfold tzero at ht
  cases hi : P.info? t with
  | none => rw [hi] at ht; cases ht
  | some i =>
    rw [hi] at ht
    simp only [Option.bind_some] at ht
    simp [zeroValue, typeInfo, hi, ht]
theorem run_isAgg {t : TypeId} {g : Bool} (ht : tagg P t = some g) (w : World) : (isAgg t).run P w = .ok g w := by
  unfold tagg at ht
  cases hu : P.underlying t with
  | none => rw [hu] at ht; cases ht
  | some d =>
    rw [hu] at ht
    simp only [Option.map_some, Option.some.injEq] at ht
    unfold isAgg
    rw [Sem.run_bind, run_underlying hu]
    subst ht
    cases d <;> rfl
theorem telem_spec {t e : TypeId} (h : telem P t = some e) : P.underlying t = some (.slice e) := by
  unfold telem at h
  cases hu : P.underlying t with
  | none => rw [hu] at h; cases h
  | some d => rw [hu] at h; cases d <;> simp at h; rw [h]

/-- Some cells, as a value of a type. -/
theorem getAs_rel {g : Bool} {k : Nat} {cs : List AV} {x : AV} (hx : getAs g k cs = some x) {vs : Nat → Value} (hv : ∀ j y, cs[j]? = some y → VRel I M y (vs j)) :
    if g then VRel I M x (.agg ((List.range k).map vs).toArray) else VRel I M x (vs 0) := by
  unfold getAs at hx
  cases g with
  | true =>
    simp only [if_true] at hx
    split at hx
    · rename_i hk
      cases hx
      simp only [if_true]
      refine .agg _ _ (by simp; omega) fun i x v hx hv' => ?_
      rw [List.getElem?_take] at hx
      split at hx
      · rename_i hi
        simp only [List.getElem?_toArray, List.getElem?_map, List.getElem?_range hi, Option.map_some, Option.some.injEq] at hv'
        subst hv'
        exact hv i x hx
      · cases hx
    · cases hx
  | false =>
    simp only [Bool.false_eq_true, if_false] at hx ⊢
    cases cs with
    | nil => cases hx
    | cons y r => cases hx; exact hv 0 _ rfl

theorem add_off (A : Addr) (h : A.spot = none) (j : Nat) : A.add j = ⟨A.block, A.off + j, none⟩ := by
  obtain ⟨b, o, s⟩ := A
  simp only at h
  subst h
  exact Addr.add_lit b o j

/-- A variable is loaded whose cells are known. -/
theorem run_loadVar {t : TypeId} {g : Bool} {k : Nat} (hg : tagg P t = some g) (hk : tsize P t = some k) {cs : List AV} {x : AV} (hx : getAs g k cs = some x) {A : Addr} (hA : A.spot = none)
    {c : Array Value} {el : TypeId} {fr : Nat × Nat} (hc : w.heap[A.block]? = some (.cells c el fr)) (hlen : A.off + cs.length ≤ c.size)
    (hv : ∀ (j : Nat) y v, cs[j]? = some y → c[A.off + j]? = some v → VRel I M y v) :
    ∃ v, (loadVar t A).run P w = .ok v w ∧ VRel I M x v := by
  have hcell : ∀ j, j < cs.length → w.cell? (A.add j) = some (c.getD (A.off + j) undef) := fun j hj => by
    rw [add_off A hA]
    have : A.off + j < c.size := by omega
    simp [World.cell?, hc, Array.getD, this]
  have hrel : ∀ j y, cs[j]? = some y → VRel I M y ((fun j => c.getD (A.off + j) undef) j) := fun j y hy => by
    have hj : j < cs.length := (List.getElem?_eq_some_iff.1 hy).1
    have : A.off + j < c.size := by omega
    exact hv j y _ hy (by simp [Array.getD, this])
  have hr := getAs_rel hx (vs := fun j => c.getD (A.off + j) undef) hrel
  unfold getAs at hx
  unfold loadVar
  rw [Sem.run_bind, run_isAgg hg]
  cases g with
  | true =>
    simp only [if_true] at hx hr
    have hkl : k ≤ cs.length := by
      by_cases hle : k ≤ cs.length
      · exact hle
      · rw [if_neg hle] at hx; cases hx
    simp only [Result.andThen_ok, if_true, Sem.run_bind, run_sizeOf hk, run_loadCells w A k _ (fun j hj => hcell j (by omega)), Sem.run_pure]
    exact ⟨_, rfl, hr⟩
  | false =>
    simp only [Bool.false_eq_true, if_false] at hx hr
    have h0 : 0 < cs.length := by cases cs with | nil => cases hx | cons => simp
    have := hcell 0 h0
    rw [Addr.add_zero'] at this
    simp only [Result.andThen_ok, Bool.false_eq_true, if_false, run_load, this]
    exact ⟨_, rfl, hr⟩

theorem load_sound {o : Oper} {t : TypeId} {x : Operand} (ho : o.op = .load t x) (H : HRel I M h n w) (hev : ∀ x, VRel I M (ev x) (ρ x)) {out : Out} (ha : aload P h t (ev x) = some (.out out)) :
    Yields1 P o ρ I M h n w slot out := by
  have hx := hev x
  unfold aload at ha
  cases hg : tagg P t with
  | none => simp [hg] at ha
  | some g =>
  cases hk : tsize P t with
  | none => simp [hg, hk] at ha
  | some k =>
  simp only [hg, hk] at ha
  have fin : ∀ (A : Addr) (cs : List AV) (v : AV) (rd : List Nat), ρ x = .pointer (some A) → getAs g k cs = some v → A.spot = none → (∀ c el fr, w.heap[A.block]? = some (.cells c el fr) → A.off + cs.length ≤ c.size) → (∃ c el fr, w.heap[A.block]? = some (.cells c el fr) ∧ ∀ (j : Nat) y v, cs[j]? = some y → c[A.off + j]? = some v → VRel I M y v) →
      Yields1 P o ρ I M h n w slot { v, rd } := by
    intro A cs v rd hρ hgv hsp hle hex
    obtain ⟨c, el, fr, hc, hv⟩ := hex
    obtain ⟨u, hu, hr⟩ := run_loadVar hg hk hgv hsp hc (hle c el fr hc) hv
    refine .ofRun H (v := u) ?_ hr
    simp [execOp, ho, Instr.loadAt, hρ, Instr.sureAddr, hu]
  cases hav : ev x with
  | pp cs =>
    rw [hav] at ha hx
    simp only at ha
    cases hgv : getAs g k cs with
    | none => simp [hgv] at ha
    | some v =>
      simp only [hgv, Option.bind_some, pureOut, Option.some.injEq, Did.out.injEq] at ha
      subst ha
      generalize hρ : ρ x = r at hx
      cases hx.pp_inv with
      | pp _ A c el fr h1 h2 h3 h4 h5 =>
        refine fin A cs v [] hρ hgv h1 (fun c' el' fr' hc' => ?_) ⟨c, el, fr, H.imm _ _ h2, fun j y v hy hv => .pure _ _ (h5 j y v hy hv)⟩
        rw [H.imm _ _ h2] at hc'
        cases hc'
        exact h3
  | ptr b off =>
    rw [hav] at ha hx
    simp only at ha
    cases hb : h b with
    | none => simp [hb] at ha
    | some blk =>
      simp only [hb] at ha
      split at ha
      case isFalse => cases ha
      rename_i hoff
      cases hgv : getAs g k (blk.drop off) with
      | none => simp [hgv] at ha
      | some v =>
        simp only [hgv, Option.bind_some, Option.some.injEq, Did.out.injEq] at ha
        subst ha
        obtain ⟨A0, hρ, hsp, hm | ⟨A, sz, hm, rfl⟩⟩ := hx.ptr_inv
        · have := H.no b (fun A sz h => by rw [hm] at h; cases h)
          rw [hb] at this; cases this
        · obtain ⟨g1, g2, blk', c, el, g3, g4, g5, g6, g7, g8⟩ := H.live b A sz hm
          have g5' : c.size = sz.1 := congrArg Prod.fst g5
          rw [hb] at g3
          cases g3
          refine fin ⟨A.block, A.off + off, none⟩ (blk.drop off) v [b] hρ hgv rfl (fun c' el' fr' hc' => ?_) ⟨c, el, (0, 0), g4, fun j y v hy hv => ?_⟩
          · rw [g4] at hc'
            cases hc'
            simp only [List.length_drop]
            omega
          · rw [List.getElem?_drop] at hy
            exact g8 (off + j) y v hy (by simpa [Nat.add_assoc] using hv)
  | _ => simp [hav] at ha

/-! ### Stores -/
theorem lay_length {cs new : List AV} {off : Nat} (h : off + new.length ≤ cs.length) : (lay cs off new).length = cs.length := by
  simp [lay]; omega
theorem lay_get {cs new : List AV} {off j : Nat} (h : off + new.length ≤ cs.length) : (lay cs off new)[j]? = if off ≤ j ∧ j < off + new.length then new[j - off]? else cs[j]? := by
  unfold lay
  have h1 : (cs.take off).length = off := by simp; omega
  by_cases h2 : off ≤ j ∧ j < off + new.length
  · rw [if_pos h2, List.append_assoc, List.getElem?_append_right (by omega), h1, List.getElem?_append_left (by omega)]
  · rw [if_neg h2]
    by_cases h3 : j < off
    · rw [List.append_assoc, List.getElem?_append_left (by omega), List.getElem?_take, if_pos h3]
    · rw [List.getElem?_append_right (by simp; omega), List.getElem?_drop]
      congr 1
      simp
      omega
theorem lay_single {cs new : List AV} {off : Nat} (h1 : cs.all (·.single) = true) (h2 : new.all (·.single) = true) : (lay cs off new).all (·.single) = true := by
  unfold lay
  rw [List.all_eq_true] at *
  intro x hx
  simp only [List.mem_append] at hx
  rcases hx with (hx | hx) | hx
  · exact h1 x (List.mem_of_mem_take hx)
  · exact h2 x hx
  · exact h1 x (List.mem_of_mem_drop hx)

theorem setRow_ext (w : World) (g : Nat) (c c' : Array Value) (el : TypeId) (hg : w.heap[g]? = some (.cells c' el (0, 0))) :
    (w.setRow g c).os = w.os ∧ (w.setRow g c).tape = w.tape ∧ (w.setRow g c).output = w.output ∧ (w.setRow g c).heap.size = w.heap.size ∧
    (∀ b, b ≠ g → (w.setRow g c).heap[b]? = w.heap[b]?) ∧ (w.setRow g c).heap[g]? = some (.cells c el (0, 0)) := by
  refine ⟨rfl, rfl, rfl, by simp [World.setRow], fun b hb => ?_, setRow_heap w g c' c el (0, 0) hg⟩
  simp only [World.setRow, Array.getElem?_modify]
  rw [if_neg (fun h => hb h.symm)]

/-- Cells stored into a block of the call's own. -/
theorem store_cells {b off : Nat} {A : Addr} {sz : Nat × TypeId} {blk : Blk} {new : List AV} {vs : List Value} (H : HRel I M h n w) (hm : M b = .live A sz) (hb : h b = some blk) (hl : off + new.length ≤ blk.length)
    (hn : new.all (·.single) = true) (hv : vs.length = new.length) (hr : ∀ (j : Nat) y u, new[j]? = some y → vs[j]? = some u → VRel I M y u) :
    ∃ w', (storeCells ⟨A.block, A.off + off, none⟩ vs).run P w = .ok () w' ∧ HRel I M (upd1 h b (some (lay blk off new))) n w' ∧ Ext I M w I M w' := by
  obtain ⟨g1, g2, blk', c, el, g3, g4, g5, g6, g7, g8⟩ := H.live b A sz hm
  have g5' : c.size = sz.1 := congrArg Prod.fst g5
  rw [hb] at g3
  cases g3
  have hone : ∀ v ∈ vs, v.oneCell' = true := fun v hvm => by
    obtain ⟨j, hj, rfl⟩ := List.getElem_of_mem hvm
    have hj' : j < new.length := by omega
    exact (hr j new[j] vs[j] (List.getElem?_eq_getElem hj') (List.getElem?_eq_getElem hj)).one ((List.all_eq_true.1 hn) _ (List.getElem_mem hj'))
  have hrun := run_storeCells_at (P := P) A.block (A.off + off) el vs 0 c w g4 (by omega) hone
  obtain ⟨e1, e2, e3, e4, e5, e6⟩ := setRow_ext w A.block (c.toList.take (A.off + off + 0) ++ vs ++ c.toList.drop (A.off + off + 0 + vs.length)).toArray c el g4
  have hget : ∀ k : Nat, ((c.toList.take (A.off + off + 0) ++ vs ++ c.toList.drop (A.off + off + 0 + vs.length)).toArray)[k]? = if A.off + off ≤ k ∧ k < A.off + off + vs.length then vs[k - (A.off + off)]? else c[k]? := fun k => by
    simp only [Nat.add_zero, List.getElem?_toArray]
    have h1 : (c.toList.take (A.off + off)).length = A.off + off := by simp; omega
    by_cases h2 : A.off + off ≤ k ∧ k < A.off + off + vs.length
    · rw [if_pos h2, List.append_assoc, List.getElem?_append_right (by omega), h1, List.getElem?_append_left (by omega)]
    · rw [if_neg h2]
      by_cases h3 : k < A.off + off
      · rw [List.append_assoc, List.getElem?_append_left (by omega), List.getElem?_take, if_pos h3]; simp
      · rw [List.getElem?_append_right (by simp; omega), List.getElem?_drop]
        simp only [List.length_append, h1, Array.getElem?_toList]
        congr 1
        omega
  obtain ⟨r1, r2⟩ := H.write hm e1 e2 e3 e4 e5 e6 (blk := lay blk off new) (by rw [← g5]; congr 1; simp; omega) (by rw [lay_length hl]; exact g6) (lay_single g7 hn) (fun j x v hx hv' => by
    rw [lay_get hl] at hx
    rw [hget] at hv'
    by_cases h2 : off ≤ j ∧ j < off + new.length
    · rw [if_pos h2] at hx
      rw [if_pos (by omega)] at hv'
      exact hr (j - off) x v hx (by rw [← hv']; congr 1; omega)
    · rw [if_neg h2] at hx
      rw [if_neg (by omega)] at hv'
      exact g8 j x v hx hv')
  exact ⟨_, hrun, r1, r2⟩

theorem store_sound {o : Oper} {t : TypeId} {x y : Operand} (ho : o.op = .store t x y) (H : HRel I M h n w) (hev : ∀ x, VRel I M (ev x) (ρ x)) {out : Out} (ha : astore P h t (ev x) (ev y) = some (.out out)) :
    Yields1 P o ρ I M h n w slot out := by
  have hx := hev x
  have hy := hev y
  unfold astore at ha
  split at ha
  case h_2 => cases ha
  rename_i k b off cs hk hex hcs
  split at ha
  case h_2 => cases ha
  rename_i blk hb
  split at ha
  case isFalse => cases ha
  rename_i hcond
  obtain ⟨c1, c2, c3⟩ := hcond
  simp only [Option.some.injEq, Did.out.injEq] at ha
  subst ha
  rw [hex] at hx
  obtain ⟨A0, hρ, hsp, hm | ⟨A, sz, hm, rfl⟩⟩ := hx.ptr_inv
  · have := H.no b (fun A sz h => by rw [hm] at h; cases h)
    rw [hb] at this; cases this
  · obtain ⟨d1, d2⟩ := hy.cells hcs
    obtain ⟨w', r1, r2, r3⟩ := store_cells (P := P) (off := off) (new := cs) (vs := (ρ y).cells.toList) H hm hb (by omega) c3 (by simpa using d1) (fun j y' u hy' hu => d2 j y' u hy' (by simpa using hu))
    refine ⟨undef, w', I, M, .inr ⟨?_, rfl⟩, .pure _ _ (.undef _), r2, r3, fun _ _ h => h⟩
    have hsz : (ρ y).cells.size = k := by omega
    simp only [execOp, ho, Instr.storeAt, hρ, Instr.sureAddr, storeVar, Sem.run_bind, Sem.run_pure, Result.andThen_ok, run_sizeOf hk, hsz, ne_eq, not_true_eq_false, if_false, r1]

end
end Go.Ab

set_option linter.unusedVariables false
set_option linter.unusedSimpArgs false
set_option maxRecDepth 10000
namespace Go.Ab
open Go.RowKit

section
variable {P : Program} {ρ : Operand → Value} {I : Imm} {M : Mp} {h : Heap} {n : Nat} {w : World} {slot : Nat} {ev : Operand → AV}

/-! ### New blocks -/
theorem zcells_spec {t : TypeId} {z : List AV} (hz : zcells P t = some z) : ∃ v, tzero P t = some v ∧ z.all (·.single) = true ∧ v.cells.size = z.length ∧ ∀ (I : Imm) (M : Mp) (j : Nat) y u, z[j]? = some y → v.cells[j]? = some u → VRel I M y u := by
  unfold zcells at hz
  cases hv : tzero P t with
  | none => simp [hv] at hz
  | some v =>
    simp only [hv, Option.bind_some] at hz
    cases hc : (absV v).cells? with
    | none => simp [hc] at hz
    | some cs =>
      simp only [hc, Option.bind_some] at hz
      split at hz
      · rename_i h1
        cases hz
        exact ⟨v, rfl, h1, (VRel.cells (I := fun _ => none) (M := M0) (.pure _ _ (absV_rel v)) hc).1, fun I M => (VRel.cells (.pure _ _ (absV_rel v)) hc).2⟩
      · cases hz

theorem updM_other {M : Mp} {slot : Nat} {s : MS} : ∀ i, i ≠ slot → M i = .fresh → updM M slot s i = .fresh := fun i hi h => by simp only [updM, if_neg hi]; exact h

/-- A new variable. -/
theorem Yields1.ofNew {o : Oper} {cs : List AV} {vs : Array Value} {el : TypeId} {x : AV} {rd : List Nat} {v : Value} (H : HRel I M h n w) (hs : M slot = .fresh) (hn : slot < n) (hl : cs.length ≤ vs.size)
    (h1 : cs.all (·.single) = true) (hc : ∀ (j : Nat) y u, cs[j]? = some y → vs[j]? = some u → VRel I M y u)
    (hr : (execOp ρ o).run P w = .ok (.value v) (w.alloc (.cells vs el))) (hv : VRel I (updM M slot (.live ⟨w.heap.size, 0, none⟩ (vs.size, el))) x v) :
    Yields1 P o ρ I M h n w slot { v := x, up := [(slot, some cs)], rd } := by
  obtain ⟨r1, r2⟩ := H.alloc (el := el) hs hn hl h1 hc
  exact ⟨v, _, I, _, .inl hr, hv, r1, r2, updM_other⟩

theorem alloc_sound {o : Oper} {t : TypeId} (ho : o.op = .alloc t) (H : HRel I M h n w) (hs : M slot = .fresh) (hn : slot < n) {out : Out}
    (ha : (match zcells P t, tsize P t with | some z, some k => if z.length = k then some (Did.out { v := if isBld P t then .tptr slot k t else .ptr slot 0, up := [(slot, some z)] }) else none | _, _ => none) = some (.out out)) :
    Yields1 P o ρ I M h n w slot out := by
  split at ha
  case h_2 => cases ha
  rename_i z k hz hk
  split at ha
  case isFalse => cases ha
  rename_i hzk
  simp only [Option.some.injEq, Did.out.injEq] at ha
  subst ha
  obtain ⟨v, hv, h1, h2, h3⟩ := zcells_spec hz
  refine .ofNew (vs := v.cells) (el := t) H hs hn (by omega) h1 (h3 I M) (v := .pointer (some ⟨w.heap.size, 0, none⟩)) ?_ ?_
  · simp [execOp, ho, Instr.alloc, run_zeroValue hv, newVar, newRow]
  · split
    · exact .tptr slot k t w.heap.size (by simp only [updM, if_pos]; rw [h2, hzk])
    · exact .ptr slot 0 ⟨w.heap.size, 0, none⟩ (v.cells.size, t) (by simp [updM])

theorem box_sound {o : Oper} {t : TypeId} {x : Operand} (ho : o.op = .box t x) (H : HRel I M h n w) (hev : ∀ x, VRel I M (ev x) (ρ x)) (hs : M slot = .fresh) (hn : slot < n) {out : Out}
    (ha : (match (ev x).cells? with | some cs => if cs.all (·.single) then some (Did.out { v := .ptr slot 0, up := [(slot, some cs)] }) else none | none => none) = some (.out out)) :
    Yields1 P o ρ I M h n w slot out := by
  split at ha
  case h_2 => cases ha
  rename_i cs hcs
  split at ha
  case isFalse => cases ha
  rename_i h1
  simp only [Option.some.injEq, Did.out.injEq] at ha
  subst ha
  obtain ⟨d1, d2⟩ := (hev x).cells hcs
  refine .ofNew (vs := (ρ x).cells) (el := t) H hs hn (by omega) h1 d2 (v := .pointer (some ⟨w.heap.size, 0, none⟩)) ?_ (.ptr slot 0 ⟨w.heap.size, 0, none⟩ ((ρ x).cells.size, t) (by simp [updM]))
  simp [execOp, ho, Instr.box, newVar, newRow]

/-! ### Aggregates -/
theorem foldl_set_get (off : Nat) : ∀ (l : List Value) (s : Nat) (vs : Array Value) (k : Nat),
    ((l.zipIdx s).foldl (fun cs (p : Value × Nat) => cs.setIfInBounds (off + p.2) p.1) vs).size = vs.size ∧
    ((l.zipIdx s).foldl (fun cs (p : Value × Nat) => cs.setIfInBounds (off + p.2) p.1) vs)[k]? = if off + s ≤ k ∧ k < off + s + l.length ∧ k < vs.size then l[k - (off + s)]? else vs[k]?
  | [], s, vs, k => by simp; intros; omega
  | v :: l, s, vs, k => by
    simp only [List.zipIdx_cons, List.foldl_cons]
    obtain ⟨h1, h2⟩ := foldl_set_get off l (s + 1) (vs.setIfInBounds (off + s) v) k
    refine ⟨by rw [h1]; simp, ?_⟩
    rw [h2]
    simp only [Array.size_setIfInBounds, List.length_cons]
    by_cases h3 : k = off + s
    · subst h3
      rw [if_neg (by omega)]
      by_cases h4 : off + s < vs.size
      · rw [if_pos ⟨by omega, by omega, h4⟩]; simp [h4]
      · rw [if_neg (by omega)]; simp [h4]
    · rw [Array.getElem?_setIfInBounds_ne (by omega)]
      by_cases h4 : off + (s + 1) ≤ k ∧ k < off + (s + 1) + l.length ∧ k < vs.size
      · rw [if_pos h4, if_pos (by omega)]
        have : k - (off + s) = (k - (off + (s + 1))) + 1 := by omega
        rw [this, List.getElem?_cons_succ]
      · rw [if_neg h4, if_neg (by omega)]

theorem fill_sound (place : Nat → Option (Nat × Nat)) : ∀ (parts : List (Nat × AV)) (vparts : List (Nat × Value)) (cells : List AV) (vs : Array Value) (out : List AV),
    CRel I M cells vs → cells.all (·.single) = true → vparts.length = parts.length → (∀ (i : Nat) p q, parts[i]? = some p → vparts[i]? = some q → p.1 = q.1 ∧ VRel I M p.2 q.2) → afill place cells parts = some out →
    ∃ vs', Instr.fill place vs vparts = some vs' ∧ CRel I M out vs' ∧ out.all (·.single) = true
  | [], vp, cells, vs, out, hc, h1, hl, _, ha => by
    cases vp with
    | nil => simp only [afill, Option.some.injEq] at ha; subst ha; exact ⟨vs, rfl, hc, h1⟩
    | cons => simp at hl
  | (i, x) :: parts, vp, cells, vs, out, hc, h1, hl, hp, ha => by
    cases vp with
    | nil => simp at hl
    | cons q vp =>
      obtain ⟨i', v⟩ := q
      obtain ⟨e1, e2⟩ := hp 0 (i, x) (i', v) rfl rfl
      simp only at e1 e2
      subst e1
      simp only [afill] at ha
      split at ha
      case h_2 => cases ha
      rename_i off size cs hpl hcs
      split at ha
      case isFalse => cases ha
      rename_i hcond
      obtain ⟨c1, c2, c3⟩ := hcond
      obtain ⟨d1, d2⟩ := e2.cells hcs
      simp only [Instr.fill, hpl]
      rw [if_neg (by have := hc.1; simp; omega)]
      have hlen : off + cs.length ≤ cells.length := by omega
      have hfold : ∀ k, (v.cells.zipIdx.foldl (fun cs (p : Value × Nat) => cs.setIfInBounds (off + p.2) p.1) vs).size = vs.size ∧ (v.cells.zipIdx.foldl (fun cs (p : Value × Nat) => cs.setIfInBounds (off + p.2) p.1) vs)[k]? = if off ≤ k ∧ k < off + v.cells.size ∧ k < vs.size then v.cells[k - off]? else vs[k]? := fun k => by
        have := foldl_set_get off v.cells.toList 0 vs k
        rw [← Array.foldl_toList, Array.toList_zipIdx]
        simpa using this
      refine fill_sound place parts vp (lay cells off cs) _ out ⟨?_, fun j y u hy hu => ?_⟩ (lay_single h1 c3) (by simpa using hl) (fun k p q hp' hq' => hp (k + 1) p q hp' hq') ha
      · rw [(hfold 0).1, lay_length hlen]; exact hc.1
      · rw [lay_get hlen] at hy
        rw [(hfold j).2] at hu
        by_cases h2 : off ≤ j ∧ j < off + cs.length
        · rw [if_pos h2] at hy
          rw [if_pos ⟨by omega, by omega, by rw [hc.1]; omega⟩] at hu
          exact d2 _ _ _ hy hu
        · rw [if_neg h2] at hy
          rw [if_neg (by omega)] at hu
          exact hc.2 _ _ _ hy hu

theorem parts_rel (hev : ∀ x, VRel I M (ev x) (ρ x)) (ps : Array (Nat × Operand)) :
    ((ps.map fun (i, x) => (i, ρ x)).toList).length = (ps.toList.map fun (i, x) => (i, ev x)).length ∧
    ∀ (i : Nat) p q, (ps.toList.map fun (i, x) => (i, ev x))[i]? = some p → ((ps.map fun (i, x) => (i, ρ x)).toList)[i]? = some q → p.1 = q.1 ∧ VRel I M p.2 q.2 := by
  refine ⟨by simp, fun i p q hp hq => ?_⟩
  simp only [List.getElem?_map, Array.getElem?_toList] at hp
  simp only [Array.toList_map, List.getElem?_map, Array.getElem?_toList] at hq
  cases hx : ps[i]? with
  | none => simp [hx] at hp
  | some x =>
    simp only [hx, Option.map_some, Option.some.injEq] at hp hq
    subst hp; subst hq
    exact ⟨rfl, hev _⟩

theorem run_places {fs : Array Field} {pl : List (Nat × Nat)} (hp : places P fs = some pl) (w : World) :
    (fs.mapM fun (f : Field) => (do pure (f.offset, ← sizeOf f.type) : Sem (Nat × Nat))).run P w = .ok pl.toArray w := by
  have key : ∀ (l : List Field) (pl : List (Nat × Nat)), (l.mapM fun (f : Field) => (tsize P f.type).map fun n => (f.offset, n)) = some pl →
      (l.mapM fun (f : Field) => (do pure (f.offset, ← sizeOf f.type) : Sem (Nat × Nat))).run P w = .ok pl w := by
    intro l
    induction l with
    | nil => intro pl h; simp at h; subst h; rfl
    | cons f l ih =>
      intro pl h
      simp only [List.mapM_cons] at h
      cases hk : tsize P f.type with
      | none => simp [hk] at h
      | some k =>
        cases hr : (l.mapM fun (f : Field) => (tsize P f.type).map fun n => (f.offset, n)) with
        | none => simp [hk, hr] at h
        | some r =>
          simp [hk, hr] at h
          subst h
          simp only [List.mapM_cons, Sem.run_bind, run_sizeOf hk, Result.andThen_ok, Sem.run_pure, ih r hr]
  unfold places at hp
  rw [Array.mapM_eq_mapM_toList, Sem.run_map, key _ _ hp]
  rfl

theorem build_sound {o : Oper} {t : TypeId} {ps : Array (Nat × Operand)} (ho : o.op = .build t ps) (H : HRel I M h n w) (hev : ∀ x, VRel I M (ev x) (ρ x)) {x : AV}
    (ha : abuild P t (ps.toList.map fun (i, x) => (i, ev x)) = some x) : Yields1 P o ρ I M h n w slot { v := x } := by
  obtain ⟨p1, p2⟩ := parts_rel hev ps
  unfold abuild at ha
  split at ha
  · rename_i fs z hu hz
    split at ha
    case h_2 => cases ha
    rename_i pl hpl
    obtain ⟨v, hv, h1, h2, h3⟩ := zcells_spec hz
    cases hf : afill (fun i => pl[i]?) z (ps.toList.map fun (i, x) => (i, ev x)) with
    | none => simp [hf] at ha
    | some out =>
      simp only [hf, Option.map_some, Option.some.injEq] at ha
      subst ha
      obtain ⟨vs', e1, e2, e3⟩ := fill_sound (fun i => pl[i]?) _ _ z v.cells out ⟨h2, h3 I M⟩ h1 p1 p2 hf
      refine .ofRun H (v := .agg vs') ?_ (.agg _ _ e2.1 e2.2)
      have e1' : Instr.fill (fun x => pl.toArray[x]?) v.cells (ps.map fun (i, x) => (i, ρ x)).toList = some vs' := by simpa using e1
      simp only [execOp, ho, Instr.build, Sem.run_bind, run_zeroValue hv, Result.andThen_ok, run_underlying hu, run_places hpl, e1', Sem.run_pure]
  · rename_i k e z hu hz
    split at ha
    case h_2 => cases ha
    rename_i s hs
    obtain ⟨v, hv, h1, h2, h3⟩ := zcells_spec hz
    cases hf : afill (fun i => some (i * s, s)) z (ps.toList.map fun (i, x) => (i, ev x)) with
    | none => simp [hf] at ha
    | some out =>
      simp only [hf, Option.map_some, Option.some.injEq] at ha
      subst ha
      obtain ⟨vs', e1, e2, e3⟩ := fill_sound (fun i => some (i * s, s)) _ _ z v.cells out ⟨h2, h3 I M⟩ h1 p1 p2 hf
      refine .ofRun H (v := .agg vs') ?_ (.agg _ _ e2.1 e2.2)
      simp only [execOp, ho, Instr.build, Sem.run_bind, run_zeroValue hv, Result.andThen_ok, run_underlying hu, run_sizeOf hs, e1, Sem.run_pure]
  · cases ha

theorem afill_length (place : Nat → Option (Nat × Nat)) : ∀ (parts : List (Nat × AV)) (cells out : List AV), afill place cells parts = some out → out.length = cells.length
  | [], cells, out, h => by simp only [afill, Option.some.injEq] at h; rw [h]
  | (i, x) :: parts, cells, out, h => by
    simp only [afill] at h
    split at h
    case h_2 => cases h
    split at h
    case isFalse => cases h
    rename_i hcond
    rw [afill_length place parts _ _ h, lay_length (by omega)]

theorem repCells_length (z : List AV) : ∀ k, (repCells k z).length = k * z.length
  | 0 => by simp [repCells]
  | k + 1 => by simp [repCells, repCells_length z k, Nat.succ_mul, Nat.add_comm]
theorem repCells_get (z : List AV) : ∀ k j, j < k * z.length → (repCells k z)[j]? = z[j % z.length]?
  | 0, j, h => by simp at h
  | k + 1, j, h => by
    have hz : 0 < z.length := by
      rcases Nat.eq_zero_or_pos z.length with h0 | h0
      · rw [h0] at h; simp at h
      · exact h0
    simp only [repCells]
    by_cases hj : j < z.length
    · rw [List.getElem?_append_left hj, Nat.mod_eq_of_lt hj]
    · rw [List.getElem?_append_right (by omega), repCells_get z k (j - z.length) (by rw [Nat.succ_mul] at h; omega)]
      congr 1
      rw [← Nat.mod_eq_sub_mod (by omega)]
theorem repCells_single {z : List AV} (hz : z.all (·.single) = true) : ∀ k, (repCells k z).all (·.single) = true
  | 0 => rfl
  | k + 1 => by simp only [repCells, List.all_append, hz, repCells_single hz k, Bool.and_self]

/-- So many zero values, one behind the other. -/
theorem rep_rel {z : List AV} {zv : Array Value} (hz : zv.size = z.length) (hpos : 0 < z.length) (hr : ∀ (j : Nat) y u, z[j]? = some y → zv[j]? = some u → VRel I M y u) (k : Nat) :
    CRel I M (repCells k z) ((Array.range (k * z.length)).map (zv[· % zv.size]!)) := by
  refine ⟨by simp [repCells_length], fun j y u hy hu => ?_⟩
  have hj : j < k * z.length := by have := (List.getElem?_eq_some_iff.1 hy).1; rw [repCells_length] at this; exact this
  rw [repCells_get z k j hj] at hy
  simp only [Array.getElem?_map, Array.getElem?_range, hj, if_true, Option.map_some, Option.some.injEq] at hu
  have hm : j % z.length < zv.size := by rw [hz]; exact Nat.mod_lt _ hpos
  refine hr _ y u hy ?_
  rw [hz] at hu
  rw [← hu]
  simp [hm]

/-! ### Operations without memory -/
theorem Yields1.pure' {o : Oper} {x : AV} {v : Value} (H : HRel I M h n w) (hr : (execOp ρ o).run P w = .ok (.value v) w) (hv : VRel I M x v) : Yields1 P o ρ I M h n w slot { v := x } := .ofRun H hr hv

theorem wrap_and (k : IntKind) (a b : Int) : Op.intBits .and k a b = pure (.int k (k.wrap (BitVec.ofInt k.bits a &&& BitVec.ofInt k.bits b).toNat)) := rfl

theorem binInt_sound {op : BinOp} {k : IntKind} {a b : Int} {x : AV} (hx : abinInt op k a b = some x) (t : TypeId) : ∃ v, (binOp op t (.int k a) (.int k b)).run P w = .ok v w ∧ VRel I M x v := by
  unfold abinInt at hx
  split at hx
  all_goals first
    | (cases hx; exact ⟨_, by rw [binOp_add]; rfl, .pure _ _ (.int _ _)⟩)
    | (cases hx; exact ⟨_, by rw [binOp_sub]; rfl, .pure _ _ (.int _ _)⟩)
    | (cases hx; exact ⟨_, by rw [binOp_mul]; rfl, .pure _ _ (.int _ _)⟩)
    | (cases hx; exact ⟨_, by rw [binOp_and]; rfl, .pure _ _ (.int _ _)⟩)
    | (cases hx; exact ⟨_, by rw [binOp_or]; rfl, .pure _ _ (.int _ _)⟩)
    | (cases hx; exact ⟨_, by rw [binOp_xor]; rfl, .pure _ _ (.int _ _)⟩)
    | (cases hx; exact ⟨_, by rw [binOp_andNot]; rfl, .pure _ _ (.int _ _)⟩)
    | (cases hx; exact ⟨_, by rw [binOp_eql]; rfl, .pure _ _ (.bool _)⟩)
    | (cases hx; exact ⟨_, by rw [binOp_neq]; rfl, .pure _ _ (.bool _)⟩)
    | (cases hx; exact ⟨_, by rw [binOp_lss]; rfl, .pure _ _ (.bool _)⟩)
    | (cases hx; exact ⟨_, by rw [binOp_leq]; rfl, .pure _ _ (.bool _)⟩)
    | (cases hx; exact ⟨_, by rw [binOp_gtr]; rfl, .pure _ _ (.bool _)⟩)
    | (cases hx; exact ⟨_, by rw [binOp_geq]; rfl, .pure _ _ (.bool _)⟩)
    | (split at hx <;> first
        | (cases hx; done)
        | (rename_i h0; cases hx; exact ⟨_, by rw [binOp_quo, Op.intDiv, if_neg h0]; rfl, .pure _ _ (.int _ _)⟩)
        | (rename_i h0; cases hx; exact ⟨_, by rw [binOp_rem, Op.intDiv, if_neg h0]; rfl, .pure _ _ (.int _ _)⟩))
    | (cases hx; done)

theorem shift_sound {op : BinOp} {k k' : IntKind} {a b : Int} {x : AV} (hop : op = .shl ∨ op = .shr) (hx : ashift op k a b = some x) (t : TypeId) : ∃ v, (binOp op t (.int k a) (.int k' b)).run P w = .ok v w ∧ VRel I M x v := by
  unfold ashift at hx
  split at hx
  case isTrue => cases hx
  rename_i hb
  rcases hop with rfl | rfl
  · cases hx; exact ⟨_, by rw [binOp_shl, Op.shift, if_neg hb]; rfl, .pure _ _ (.int _ _)⟩
  · cases hx; exact ⟨_, by rw [binOp_shr, Op.shift, if_neg hb]; rfl, .pure _ _ (.int _ _)⟩

theorem strop_sound {op : BinOp} {a b : ByteArray} {x : AV} (hx : astrop op a b = some x) (t : TypeId) : ∃ v, (binOp op t (.string a) (.string b)).run P w = .ok v w ∧ VRel I M x v := by
  unfold astrop at hx
  split at hx
  · split at hx
    case isTrue => cases hx
    rename_i hb
    cases hx
    refine ⟨.string (a ++ b), ?_, .pure _ _ (.str _)⟩
    simp only [binOp, Op.stringOp]
    rw [if_neg hb]; rfl
  · cases hx; exact ⟨_, rfl, .pure _ _ (.bool _)⟩
  · cases hx; exact ⟨_, rfl, .pure _ _ (.bool _)⟩
  · cases hx

theorem un_sound {op : UnOp} {a x : AV} {v : Value} (hv : VRel I M a v) (hx : aun op a = some x) : ∃ u, (Op.unary op v).run P w = .ok u w ∧ VRel I M x u := by
  unfold aun at hx
  split at hx
  · cases hx; rw [hv.int_inv]; exact ⟨_, rfl, .pure _ _ (.int _ _)⟩
  · cases hx; rw [hv.bool_inv]; exact ⟨_, rfl, .pure _ _ (.bool _)⟩
  · cases hx

theorem aint_rel {a : AV} {v : Value} {i : Int} (hv : VRel I M a v) (hi : aint a = some i) : ∃ k, v = .int k i := by
  unfold aint at hi
  split at hi
  · cases hi; exact ⟨_, hv.int_inv⟩
  · cases hi

/-- A slice's bounds. -/
theorem bounds_sound {s : Bool} {len cap : Nat} {lo hi : Option AV} {vlo vhi : Option Value} (hlo : ∀ a, lo = some a → ∃ v, vlo = some v ∧ VRel I M a v) (hlo0 : lo = none → vlo = none)
    (hhi : ∀ a, hi = some a → ∃ v, vhi = some v ∧ VRel I M a v) (hhi0 : hi = none → vhi = none) (hcap : len ≤ cap) {l r : Nat}
    (hb : (match (match hi with | some v => aint v | none => some (len : Int)), (match lo with | some v => aint v | none => some 0) with
      | some h, some l => if 0 ≤ l ∧ l ≤ h ∧ h ≤ len then some (l.toNat, h.toNat) else none
      | _, _ => none) = some (l, r)) :
    (Instr.sliceBounds s len cap vlo vhi none).run P w = .ok (l, r, cap) w ∧ l ≤ r ∧ r ≤ len := by
  split at hb
  case h_2 => cases hb
  rename_i hh ll e1 e2
  split at hb
  case isFalse => cases hb
  rename_i hcond
  obtain ⟨c1, c2, c3⟩ := hcond
  simp only [Option.some.injEq, Prod.mk.injEq] at hb
  obtain ⟨rfl, rfl⟩ := hb
  refine ⟨?_, by omega, by omega⟩
  have bd : ∀ (v : Value) (a : AV) (i : Int) (y : Nat) (code : BoundsCode), VRel I M a v → aint a = some i → 0 ≤ i → i ≤ y → (Instr.sliceBound v y code).run P w = .ok i.toNat w := fun v a i y code hv ha h0 h1 => by
    obtain ⟨k, rfl⟩ := aint_rel hv ha
    simp [Instr.sliceBound, asIntOf, h0, h1]
  cases hi with
  | none =>
    rw [hhi0 rfl]
    simp only at e1
    cases e1
    cases lo with
    | none => rw [hlo0 rfl]; simp only at e2; cases e2; simp [Instr.sliceBounds]
    | some a =>
      obtain ⟨v, rfl, hv⟩ := hlo a rfl
      simp [Instr.sliceBounds, bd v a ll len _ hv e2 c1 c2]
  | some b =>
    obtain ⟨u, rfl, hu⟩ := hhi b rfl
    simp only at e1
    have hb' := fun code => bd u b hh cap code hu e1 (by omega) (by omega)
    cases lo with
    | none => rw [hlo0 rfl]; simp only at e2; cases e2; cases s <;> simp [Instr.sliceBounds, hb']
    | some a =>
      obtain ⟨v, rfl, hv⟩ := hlo a rfl
      have hl' := fun code => bd v a ll hh.toNat code hv e2 c1 (by omega)
      cases s <;> simp [Instr.sliceBounds, hb', hl']

theorem slice_sound {o : Oper} {t : TypeId} {x : Operand} {lo hi : Option Operand} (ho : o.op = .slice t x lo hi none) (H : HRel I M h n w) (hev : ∀ x, VRel I M (ev x) (ρ x)) {y : AV}
    (ha : aslice P t (ev x) (lo.map ev) (hi.map ev) = some y) : Yields1 P o ρ I M h n w slot { v := y } := by
  have hx := hev x
  have hlo : ∀ a, lo.map ev = some a → ∃ v, lo.map ρ = some v ∧ VRel I M a v := fun a e => by cases lo <;> simp at e; subst e; exact ⟨_, rfl, hev _⟩
  have hlo0 : lo.map ev = none → lo.map ρ = none := fun e => by cases lo <;> simp at e; rfl
  have hhi : ∀ a, hi.map ev = some a → ∃ v, hi.map ρ = some v ∧ VRel I M a v := fun a e => by cases hi <;> simp at e; subst e; exact ⟨_, rfl, hev _⟩
  have hhi0 : hi.map ev = none → hi.map ρ = none := fun e => by cases hi <;> simp at e; rfl
  unfold aslice at ha
  simp only at ha
  split at ha
  · -- a string
    rename_i s hu hes
    simp only [Option.map_eq_some_iff] at ha
    obtain ⟨⟨l, r⟩, hb, rfl⟩ := ha
    rw [hes] at hx
    obtain ⟨b1, b2, b3⟩ := bounds_sound (P := P) (w := w) (s := false) hlo hlo0 hhi hhi0 (Nat.le_refl _) hb
    refine .pure' H (v := .string (s.extract l r)) ?_ (.pure _ _ (.str _))
    simp [execOp, ho, Instr.sliceAt, run_underlying hu, Instr.slice, hx.str_inv, b1]
  · -- a slice that is only read
    rename_i e s xs hu hes
    split at ha
    case isFalse => cases ha
    rename_i hsz
    simp only [Option.map_eq_some_iff] at ha
    obtain ⟨⟨l, r⟩, hb, rfl⟩ := ha
    rw [hes] at hx
    generalize hρ : ρ x = q at hx
    cases hx.sl_inv with
    | sl0 _ a cap =>
      obtain ⟨b1, b2, b3⟩ := bounds_sound (P := P) (w := w) (s := true) (cap := cap) hlo hlo0 hhi hhi0 (by simp) hb
      simp only [List.length_nil] at b3
      have hl0 : l = 0 := by omega
      have hr0 : r = 0 := by omega
      subst hl0; subst hr0
      refine .pure' H (v := .slice (if cap = 0 then a else a.map (·.add (0 * s))) (0 - 0) (cap - 0)) ?_ ?_
      · simp only [execOp, ho, Instr.sliceAt, Sem.run_bind, run_underlying hu, Result.andThen_ok, Instr.slice, hρ]
        simp only [List.length_nil] at b1
        simp [run_underlying hu, b1, run_sizeOf hsz]
      · simp only [List.take_nil, List.drop_nil]
        exact .pure _ _ (.sl0 _ _ _)
    | sl _ _ A n' cap c el fr h1 h2 h3 h4 h5 h6 h7 h8 =>
      obtain ⟨b1, b2, b3⟩ := bounds_sound (P := P) (w := w) (s := true) (cap := cap) hlo hlo0 hhi hhi0 (by omega) hb
      refine .pure' H (v := .slice (if cap = l then some A else some (A.add (l * s))) (r - l) (cap - l)) ?_ ?_
      · simp only [execOp, ho, Instr.sliceAt, Sem.run_bind, run_underlying hu, Result.andThen_ok, Instr.slice, hρ]
        rw [← h2] at b1
        simp [run_underlying hu, b1, run_sizeOf hsz]
      · by_cases hlr : l = r
        · subst hlr
          have : (xs.take l).drop l = [] := by simp
          rw [this, Nat.sub_self]
          split <;> exact .pure _ _ (.sl0 _ _ _)
        · rw [if_neg (by omega)]
          refine .pure _ _ (.sl s _ (A.add (l * s)) (r - l) (cap - l) c el fr ?_ (by simp; omega) (by omega) (by rw [add_off A h4]) (by rw [add_off A h4]; exact h5) ?_ ?_ ?_)
          · intro e
            have := congrArg List.length e
            simp at this
            omega
          · rw [add_off A h4]
            simp only
            have : l * s + (r - l) * s = r * s := by rw [← Nat.add_mul]; congr 1; omega
            have : r * s ≤ xs.length * s := Nat.mul_le_mul_right _ b3
            rw [h2] at h6
            omega
          · intro i x hx'
            rw [List.getElem?_drop, List.getElem?_take] at hx'
            split at hx'
            · exact h7 _ _ hx'
            · cases hx'
          · intro i x cs j y v hx' hcs hy hv
            rw [List.getElem?_drop, List.getElem?_take] at hx'
            split at hx'
            · refine h8 (l + i) x cs j y v hx' hcs hy ?_
              rw [← hv, add_off A h4]
              simp only
              congr 1
              rw [Nat.add_mul]
              omega
            · cases hx'
  · -- nil
    rename_i e hu hes
    split at ha
    case h_2 => cases ha
    rename_i z hz
    simp only [Option.map_eq_some_iff] at ha
    obtain ⟨⟨l, r⟩, hb, rfl⟩ := ha
    rw [hes] at hx
    have hρ := hx.nilsl_inv
    obtain ⟨b1, b2, b3⟩ := bounds_sound (P := P) (w := w) (s := true) (cap := 0) hlo hlo0 hhi hhi0 (Nat.le_refl _) hb
    have hl0 : l = 0 := by omega
    have hr0 : r = 0 := by omega
    subst hl0; subst hr0
    refine .pure' H (v := .slice none 0 0) ?_ (.pure _ _ .nilsl)
    simp [execOp, ho, Instr.sliceAt, run_underlying hu, Instr.slice, hρ, b1, run_sizeOf hz]
  · -- an own slice
    rename_i e b off len s hu hes
    split at ha
    case h_2 => cases ha
    rename_i z hz
    split at ha
    case isFalse => cases ha
    rename_i hzs
    subst hzs
    simp only [Option.map_eq_some_iff] at ha
    obtain ⟨⟨l, r⟩, hb, rfl⟩ := ha
    rw [hes] at hx
    obtain ⟨A, cap, hρ, hA, hcap, hm⟩ := hx.own_inv
    obtain ⟨b1, b2, b3⟩ := bounds_sound (P := P) (w := w) (s := true) hlo hlo0 hhi hhi0 hcap hb
    refine .pure' H (v := .slice (some (if cap = l then A else A.add (l * z))) (r - l) (cap - l)) ?_ (.own_mk ?_ (by omega) ?_)
    · simp only [execOp, ho, Instr.sliceAt, Sem.run_bind, run_underlying hu, Result.andThen_ok, Instr.slice, hρ]
      simp only [run_underlying hu, Option.map_none, b1, run_sizeOf hz, Sem.run_bind, Result.andThen_ok, Sem.run_pure]
      by_cases hc : cap = l
      · simp only [if_pos hc]
      · simp only [if_neg hc, Option.map_some]
    · split
      · exact hA
      · rw [add_off A hA]
    · refine hm.imp id fun ⟨B, sz, h1, h2⟩ => ⟨B, sz, h1, ?_⟩
      by_cases hc : cap = l
      · exact .inl (by omega)
      · rw [if_neg hc, add_off A hA]
        rcases h2 with h2 | ⟨rfl, h3⟩
        · exact .inl (by omega)
        · refine .inr ⟨by simp only [Nat.add_assoc], ?_⟩
          have : l * z + (cap - l) * z = cap * z := by rw [← Nat.add_mul]; congr 1; omega
          dsimp only
          omega
  · -- a slice of an own row of bytes
    rename_i e b len t' hu hes
    split at ha
    case h_2 => cases ha
    rename_i z hsz
    simp only [Option.bind_eq_some_iff] at ha
    obtain ⟨⟨l, r⟩, hbb, ha⟩ := ha
    simp only at ha
    split at ha
    case isFalse => cases ha
    rename_i hl0
    subst hl0
    cases ha
    rw [hes] at hx
    obtain ⟨A, cap, hρ, hA, hcap, hcap0, hm⟩ := hx.bsl_inv
    obtain ⟨b1, b2, b3⟩ := bounds_sound (P := P) (w := w) (s := true) (cap := cap) hlo hlo0 hhi hhi0 hcap hbb
    refine .pure' H (v := .slice (some A) r cap) ?_ ?_
    · simp only [execOp, ho, Instr.sliceAt, Sem.run_bind, run_underlying hu, Result.andThen_ok, Instr.slice, hρ]
      have h0 : A.add 0 = A := by
        rw [add_off A hA]
        obtain ⟨ab, ao, asp⟩ := A
        simp only at hA
        subst hA
        rfl
      simp [run_underlying hu, b1, run_sizeOf hsz, h0]
    · rcases hm with hm | ⟨B, k, hm, rfl, hck⟩
      · exact .bslG _ _ _ _ _ hm hA (by omega) hcap0
      · exact .bsl _ _ _ _ _ _ hm (by omega) hcap0 hck
  · cases ha

theorem part_sound {t : TypeId} {cs : List AV} {vs : Array Value} {off : Nat} {x : AV} (hc : CRel I M cs vs) (ha : apart P t cs off = some x) : ∃ v, (part t vs off).run P w = .ok v w ∧ VRel I M x v := by
  unfold apart at ha
  split at ha
  case h_2 => cases ha
  rename_i g k hg hk
  have hr := getAs_rel (I := I) (M := M) ha (vs := fun j => vs.getD (off + j) undef) fun j y hy => by
    rw [List.getElem?_drop] at hy
    have hj : off + j < cs.length := (List.getElem?_eq_some_iff.1 hy).1
    refine hc.2 _ y _ hy ?_
    have : off + j < vs.size := by rw [hc.1]; exact hj
    simp [Array.getD, this]
  unfold getAs at ha
  unfold part
  cases g with
  | true =>
    simp only [if_true] at ha hr
    have hk' : k ≤ (cs.drop off).length := by
      by_cases hle : k ≤ (cs.drop off).length
      · exact hle
      · rw [if_neg hle] at ha; cases ha
    refine ⟨.agg (vs.extract off (off + k)), by simp [run_isAgg hg, run_sizeOf hk], ?_⟩
    have : vs.extract off (off + k) = ((List.range k).map fun j => vs.getD (off + j) undef).toArray := by
      apply Array.ext_getElem?
      intro j
      simp only [List.length_drop] at hk'
      have := hc.1
      by_cases hj : j < k
      · rw [Array.getElem?_extract]
        have hlt : off + j < vs.size := by omega
        simp [hj, Array.getD, hlt]
        omega
      · rw [Array.getElem?_eq_none (by simp; omega), Array.getElem?_eq_none (by simp; omega)]
    rw [this]; exact hr
  | false =>
    simp only [Bool.false_eq_true, if_false] at ha hr
    have h0 : off < cs.length := by
      cases hd : cs.drop off with
      | nil => rw [hd] at ha; cases ha
      | cons y r => have := congrArg List.length hd; simp at this; omega
    have : off < vs.size := by rw [hc.1]; exact h0
    refine ⟨vs[off], by simp [run_isAgg hg, this], ?_⟩
    simpa [Array.getD, this] using hr

theorem field_sound {o : Oper} {t : TypeId} {x : Operand} {i : Nat} (ho : o.op = .field t x i) (H : HRel I M h n w) (hev : ∀ x, VRel I M (ev x) (ρ x)) {y : AV} (ha : afield P t (ev x) i = some y) : Yields1 P o ρ I M h n w slot { v := y } := by
  have hx := hev x
  unfold afield at ha
  split at ha
  case h_2 => cases ha
  rename_i fs cs hu hes
  split at ha
  case h_2 => cases ha
  rename_i f hf
  rw [hes] at hx
  obtain ⟨vs, hρ, hc⟩ := hx.agg_inv
  obtain ⟨v, h1, h2⟩ := part_sound (P := P) (w := w) hc ha
  refine .pure' H (v := v) ?_ h2
  simp [execOp, ho, Instr.field, run_underlying hu, hf, hρ, asAgg, h1]

theorem extract_sound {o : Oper} {x : Operand} {i : Nat} (ho : o.op = .extract x i) (H : HRel I M h n w) (hev : ∀ x, VRel I M (ev x) (ρ x)) {y : AV} {vs : List AV} (he : ev x = .tup vs) (ha : vs[i]? = some y) : Yields1 P o ρ I M h n w slot { v := y } := by
  have hx := hev x
  rw [he] at hx
  obtain ⟨us, hρ, h1, h2⟩ := hx.tup_inv
  have hi : i < us.size := by rw [h1]; exact (List.getElem?_eq_some_iff.1 ha).1
  refine .pure' H (v := us[i]) ?_ (h2 i y _ ha (by simp))
  simp [execOp, ho, Instr.extract, hρ, hi]

theorem fieldAddr_sound {o : Oper} {t : TypeId} {x : Operand} {i : Nat} (ho : o.op = .fieldAddr t x i) (H : HRel I M h n w) (hev : ∀ x, VRel I M (ev x) (ρ x)) {y : AV} (ha : afieldAddr P t (ev x) i = some y) : Yields1 P o ρ I M h n w slot { v := y } := by
  have hx := hev x
  unfold afieldAddr at ha
  split at ha
  case h_2 => cases ha
  rename_i fs hu
  split at ha
  case h_2 => cases ha
  rename_i f hf
  split at ha
  case h_2 => cases ha
  rename_i k hk
  have run : ∀ A, ρ x = .pointer (some A) → (execOp ρ o).run P w = .ok (.value (.pointer (some (A.add f.offset)))) w := fun A hA => by
    simp [execOp, ho, Instr.fieldAt, run_underlying hu, hf, hA, Instr.sureAddr, fieldPlace, run_sizeOf hk]
  split at ha
  · rename_i b off hes
    cases ha
    rw [hes] at hx
    obtain ⟨A, hρ, hA, hm⟩ := hx.ptr_inv
    refine .pure' H (run A hρ) ?_
    rw [add_off A hA]
    exact .ptr_mk rfl (hm.imp id fun ⟨B, sz, h1, h2⟩ => ⟨B, sz, h1, by rw [h2]; simp only [Nat.add_assoc]⟩)
  · rename_i b k' t' hes
    cases ha
    rw [hes] at hx
    obtain ⟨A, hρ, hA, hm⟩ := hx.tptr_inv
    refine .pure' H (run A hρ) ?_
    rw [add_off A hA]
    exact .ptr_mk rfl (hm.imp id fun ⟨B, h1, h2⟩ => ⟨⟨B, 0, none⟩, (k', t'), h1, by rw [h2]⟩)
  · rename_i cs hes
    split at ha
    case isFalse => cases ha
    rename_i hd
    cases ha
    rw [hes] at hx
    generalize hρ : ρ x = q at hx
    cases hx.pp_inv with
    | pp _ A c el fr h1 h2 h3 h4 h5 =>
      refine .pure' H (run A hρ) (.pure _ _ ?_)
      refine .pp _ (A.add f.offset) c el fr (by rw [add_off A h1]) (by rw [add_off A h1]; exact h2) (by rw [add_off A h1]; simp; omega) ?_ fun j y v hy hv => ?_
      · rw [List.all_eq_true] at h4 ⊢
        exact fun y hy => h4 y (List.mem_of_mem_drop hy)
      · rw [List.getElem?_drop] at hy
        rw [add_off A h1] at hv
        exact h5 _ y v hy (by simpa [Nat.add_assoc] using hv)
  · cases ha

theorem indexAddr_sound {o : Oper} {t : TypeId} {x ix : Operand} (ho : o.op = .indexAddr t x ix) (H : HRel I M h n w) (hev : ∀ x, VRel I M (ev x) (ρ x)) {y : AV} (ha : aindexAddr P t (ev x) (ev ix) = some y) : Yields1 P o ρ I M h n w slot { v := y } := by
  have hx := hev x
  unfold aindexAddr at ha
  split at ha
  case h_2 => cases ha
  rename_i i hi
  obtain ⟨k, hk⟩ := aint_rel (hev ix) hi
  split at ha
  · rename_i e s xs hu hes
    split at ha
    case isFalse => cases ha
    rename_i hcond
    obtain ⟨c1, c2, c3⟩ := hcond
    rw [hes] at hx
    generalize hρ : ρ x = q at hx
    simp only [Option.map_eq_some_iff] at ha
    obtain ⟨cs, hcs, rfl⟩ := ha
    have hlt : i.toNat < xs.length := by omega
    have hget : xs[i.toNat]? = some (xs.getD i.toNat .undef) := by simp [List.getD, hlt]
    cases hx.sl_inv with
    | sl0 => simp at hlt
    | sl _ _ A n' cap c el fr h1 h2 h3 h4 h5 h6 h7 h8 =>
      obtain ⟨cs', d1, d2, d3⟩ := h7 _ _ hget
      rw [hcs] at d1
      cases d1
      refine .pure' H (v := .pointer (some (A.add (i.toNat * s)))) ?_ (.pure _ _ (.pp _ _ c el fr (by rw [add_off A h4]) (by rw [add_off A h4]; exact h5) ?_ d3 fun j y v hy hv => ?_))
      · have : i < n' := by omega
        simp [execOp, ho, Instr.indexAt, hk, asIntOf, run_underlying hu, hρ, c2, this, run_sizeOf c1]
      · rw [add_off A h4]
        simp only [d2]
        have : (i.toNat + 1) * s ≤ xs.length * s := Nat.mul_le_mul_right _ hlt
        rw [Nat.succ_mul] at this
        rw [h2] at h6
        omega
      · rw [add_off A h4] at hv
        exact h8 _ _ _ j y v hget hcs hy (by rw [← hv]; simp only [Nat.add_assoc])
  · rename_i e b off len s hu hes
    split at ha
    case h_2 => cases ha
    rename_i z hz
    split at ha
    case isFalse => cases ha
    rename_i hcond
    obtain ⟨rfl, c2, c3⟩ := hcond
    cases ha
    rw [hes] at hx
    obtain ⟨A, cap, hρ, hA, hcap, hm⟩ := hx.own_inv
    refine .pure' H (v := .pointer (some (A.add (i.toNat * z)))) ?_ ?_
    · simp [execOp, ho, Instr.indexAt, hk, asIntOf, run_underlying hu, hρ, c2, c3, run_sizeOf hz]
    · rw [add_off A hA]
      refine .ptr_mk rfl (hm.imp id fun ⟨B, sz, h1, h2⟩ => ⟨B, sz, h1, ?_⟩)
      rcases h2 with h2 | ⟨h2, _⟩
      · omega
      · rw [h2]; simp only [Nat.add_assoc]
  · rename_i k' e b off hu hes
    split at ha
    case h_2 => cases ha
    rename_i z hz
    split at ha
    case isFalse => cases ha
    rename_i hcond
    obtain ⟨c2, c3⟩ := hcond
    cases ha
    rw [hes] at hx
    obtain ⟨A, hρ, hA, hm⟩ := hx.ptr_inv
    refine .pure' H (v := .pointer (some (A.add (i.toNat * z)))) ?_ ?_
    · simp [execOp, ho, Instr.indexAt, hk, asIntOf, run_underlying hu, hρ, c2, c3, run_sizeOf hz, Instr.sureAddr]
    · rw [add_off A hA]
      exact .ptr_mk rfl (hm.imp id fun ⟨B, sz, h1, h2⟩ => ⟨B, sz, h1, by rw [h2]; simp only [Nat.add_assoc]⟩)
  · cases ha

theorem index_sound {o : Oper} {t : TypeId} {x ix : Operand} (ho : o.op = .index t x ix) (H : HRel I M h n w) (hev : ∀ x, VRel I M (ev x) (ρ x)) {y : AV} (ha : aindex P t (ev x) (ev ix) = some y) : Yields1 P o ρ I M h n w slot { v := y } := by
  have hx := hev x
  unfold aindex at ha
  split at ha
  case h_2 => cases ha
  rename_i i hi
  obtain ⟨k, hk⟩ := aint_rel (hev ix) hi
  split at ha
  · rename_i s hu hes
    split at ha
    case isFalse => cases ha
    rename_i h0
    simp only [Option.map_eq_some_iff] at ha
    obtain ⟨b, hb, rfl⟩ := ha
    rw [hes] at hx
    refine .pure' H (v := .int .u8 b.toNat) ?_ (.pure _ _ (.int _ _))
    simp [execOp, ho, Instr.index, hk, asIntOf, run_underlying hu, hx.str_inv, h0, hb]
  · rename_i k' e cs hu hes
    split at ha
    case h_2 => cases ha
    rename_i z hz
    split at ha
    case isFalse => cases ha
    rename_i hcond
    rw [hes] at hx
    obtain ⟨vs, hρ, hc⟩ := hx.agg_inv
    obtain ⟨v, h1, h2⟩ := part_sound (P := P) (w := w) hc ha
    refine .pure' H (v := v) ?_ h2
    simp [execOp, ho, Instr.index, hk, asIntOf, run_underlying hu, hρ, hcond.1, hcond.2, run_sizeOf hz, h1]
  · cases ha

end
end Go.Ab

set_option linter.unusedVariables false
set_option linter.unusedSimpArgs false
set_option maxRecDepth 10000
namespace Go.Ab
open Go.RowKit

section
variable {P : Program} {ρ : Operand → Value} {I : Imm} {M : Mp} {h : Heap} {n : Nat} {w : World} {slot : Nat} {ev : Operand → AV}

theorem run_typeInfo_bytes {t k : Nat} (ht : tbytes P t = some k) (w : World) : ∃ i, (typeInfo t).run P w = .ok i w ∧ i.bytes = k := by
  unfold tbytes at ht
  cases hi : P.info? t with
  | none => rw [hi] at ht; cases ht
  | some i => rw [hi] at ht; cases ht; exact ⟨i, by simp [typeInfo, hi], rfl⟩

theorem wrap_small {l : Int} (h0 : 0 ≤ l) (h1 : l ≤ 2 ^ 40) : IntKind.i64.wrap l = l := by
  unfold IntKind.wrap
  simp only [show IntKind.i64.bits = 64 from rfl, show IntKind.i64.signed = true from rfl, Bool.true_and, decide_eq_true_eq]
  split <;> omega

theorem make_sound {o : Oper} {t : TypeId} {l c : Operand} (ho : o.op = .makeSlice t l c) (H : HRel I M h n w) (hev : ∀ x, VRel I M (ev x) (ρ x)) (hs : M slot = .fresh) (hn : slot < n) {out : Out}
    (ha : amake P slot t (ev l) (ev c) = some (.out out)) : Yields1 P o ρ I M h n w slot out := by
  unfold amake at ha
  split at ha
  case h_2 => cases ha
  rename_i e li ci he hl hc
  split at ha
  case h_2 => cases ha
  rename_i s by_ z hsz hby hz
  split at ha
  case isFalse => cases ha
  rename_i hcond
  obtain ⟨c1, c2, c3, c4, c5⟩ := hcond
  subst c2
  simp only [Option.some.injEq, Did.out.injEq] at ha
  subst ha
  obtain ⟨kl, hkl⟩ := aint_rel (hev l) hl
  obtain ⟨kc, hkc⟩ := aint_rel (hev c) hc
  obtain ⟨v, hv, h1, h2, h3⟩ := zcells_spec hz
  obtain ⟨i, hi, hib⟩ := run_typeInfo_bytes hby w
  have hrep := rep_rel (I := I) (M := M) h2 (by omega) (h3 I M) li.toNat
  have hlen : (repCells li.toNat z).length = li.toNat * (s + 1) := by rw [repCells_length, c1]
  rw [c1] at hrep
  refine .ofNew (vs := (Array.range (li.toNat * (s + 1))).map (v.cells[· % v.cells.size]!)) (el := e) H hs hn (by rw [hrep.1]; exact Nat.le_refl _) (repCells_single h1 _) hrep.2
    (v := .slice (some ⟨w.heap.size, 0, none⟩) li.toNat li.toNat) ?_
    (.own_mk rfl (Nat.le_refl _) (.inr ⟨⟨w.heap.size, 0, none⟩, (((Array.range (li.toNat * (s + 1))).map (v.cells[· % v.cells.size]!)).size, e), by simp [updM], .inr ⟨rfl, by simp only; rw [hrep.1, hlen]; simp⟩⟩))
  have hw := wrap_small c3 c4
  have hb1 : ¬ ((i.bytes : Int) * li > 2 ^ 48) := by
    rw [hib]
    have : (by_ : Int) * li ≤ 128 * 2 ^ 40 := Int.mul_le_mul (by omega) c4 c3 (by omega)
    omega
  simp only [execOp, ho, Instr.makeSlice, Sem.run_bind, run_underlying (telem_spec he), Result.andThen_ok, hkl, hkc, asInt, asIntOf, Sem.run_pure, hi, hw]
  have hneg : ¬ li < 0 := by omega
  simp only [hneg, hb1, decide_false, Bool.or_self, Bool.false_eq_true, Int.lt_irrefl, gt_iff_lt, if_false, run_askRoom, Result.andThen_ok, run_sizeOf hsz, Sem.run_bind]
  by_cases h0 : li.toNat * (s + 1) = 0
  · simp [h0, newRow]
    rw [Array.range_zero', Array.map_empty, Array.map_empty]
  · simp [h0, run_zeroValue hv, newRow]

/-! ### What is appended, copied -/
theorem srcCells_sound {e : Nat} {x : AV} {v : Value} {new : List AV} {k : Nat} {rd : List Nat} (H : HRel I M h n w) (hv : VRel I M x v) (hx : srcCells h e x = some (new, k, rd)) :
    new.length = k * e ∧ new.all (·.single) = true ∧ (Builtin.lenOf v).run P w = .ok k w ∧
    ∀ m, m ≤ k → ∃ vs : List Value, (Builtin.firstCells e m v).run P w = .ok vs.toArray w ∧ vs.length = m * e ∧ ∀ (j : Nat) y u, new[j]? = some y → vs[j]? = some u → VRel I M y u := by
  unfold srcCells at hx
  split at hx
  · cases hx
    rw [hv.nilsl_inv]
    refine ⟨by simp, rfl, rfl, fun m hm => ⟨[], rfl, ?_, fun j y u hy => by simp at hy⟩⟩
    have h0 : m = 0 := by omega
    subst h0
    simp
  · rename_i s xs
    split at hx
    case isFalse => cases hx
    rename_i hs
    subst hs
    simp only [Option.some.injEq, Prod.mk.injEq] at hx
    obtain ⟨rfl, rfl, rfl⟩ := hx
    cases hv.sl_inv with
    | sl0 _ a cap =>
      refine ⟨by simp, rfl, rfl, fun m hm => ⟨[], ?_, by simp at hm; simp [hm], fun j y u hy => by simp at hy⟩⟩
      simp only [List.length_nil, Nat.le_zero] at hm
      subst hm
      cases a <;> simp [Builtin.firstCells, loadCells, loadCellsFrom]
    | sl _ _ A n' cap c el fr h1 h2 h3 h4 h5 h6 h7 h8 =>
      have hlen : ∀ (ys : List AV), (∀ (i : Nat) x, ys[i]? = some x → ∃ cs, x.cells? = some cs ∧ cs.length = s ∧ cs.all (·.single) = true) → (ys.flatMap (fun x => (x.cells?).getD [])).length = ys.length * s ∧ (ys.flatMap (fun x => (x.cells?).getD [])).all (·.single) = true := by
        intro ys
        induction ys with
        | nil => intro _; simp
        | cons y ys ih =>
          intro hy
          obtain ⟨cs, d1, d2, d3⟩ := hy 0 y rfl
          obtain ⟨e1, e2⟩ := ih fun i x hx => hy (i + 1) x hx
          simp only [List.flatMap_cons, d1, Option.getD_some, List.length_append, d2, e1, List.length_cons, Nat.succ_mul, List.all_append, d3, e2, Bool.and_self, and_true]
          omega
      have hget : ∀ (ys : List AV), (∀ (i : Nat) x, ys[i]? = some x → ∃ cs, x.cells? = some cs ∧ cs.length = s ∧ cs.all (·.single) = true) → ∀ (q : Nat) z, (ys.flatMap (fun x => (x.cells?).getD []))[q]? = some z → ∃ i j x cs, ys[i]? = some x ∧ x.cells? = some cs ∧ cs[j]? = some z ∧ q = i * s + j := by
        intro ys
        induction ys with
        | nil => intro _ q z hz; simp at hz
        | cons y ys ih =>
          intro hy q z hz
          obtain ⟨cs, d1, d2, d3⟩ := hy 0 y rfl
          simp only [List.flatMap_cons, d1, Option.getD_some] at hz
          by_cases hq : q < cs.length
          · rw [List.getElem?_append_left hq] at hz
            exact ⟨0, q, y, cs, rfl, d1, hz, by simp⟩
          · rw [List.getElem?_append_right (by omega)] at hz
            obtain ⟨i, j, x, cs', f1, f2, f3, f4⟩ := ih (fun i x hx => hy (i + 1) x hx) _ _ hz
            exact ⟨i + 1, j, x, cs', f1, f2, f3, by rw [Nat.succ_mul]; omega⟩
      obtain ⟨l1, l2⟩ := hlen xs h7
      refine ⟨l1, l2, by rw [h2]; rfl, fun m hm => ?_⟩
      have hcell : ∀ j, j < m * s → w.cell? (A.add j) = some (c.getD (A.off + j) undef) := fun j hj => by
        have : m * s ≤ n' * s := Nat.mul_le_mul_right _ (by omega)
        have hlt : A.off + j < c.size := by omega
        rw [add_off A h4]
        simp [World.cell?, H.imm _ _ h5, Array.getD, hlt]
      refine ⟨(List.range (m * s)).map fun j => c.getD (A.off + j) undef, ?_, by simp, fun q y u hy hu => ?_⟩
      · simp only [Builtin.firstCells]
        exact run_loadCells w A (m * s) _ hcell
      · obtain ⟨i, j, x, cs, f1, f2, f3, rfl⟩ := hget xs h7 q y hy
        have hq : i * s + j < m * s := by
          have := (List.getElem?_eq_some_iff.1 hu).1
          simpa using this
        simp only [List.getElem?_map, List.getElem?_range hq, Option.map_some, Option.some.injEq] at hu
        have hlt : A.off + (i * s + j) < c.size := by
          have : m * s ≤ n' * s := Nat.mul_le_mul_right _ (by omega)
          omega
        refine .pure _ _ (h8 i x cs j y u f1 f2 f3 ?_)
        rw [← hu]
        simp [Array.getD, hlt]
  · rename_i b off len s
    split at hx
    case h_2 => cases hx
    rename_i blk hb
    split at hx
    case isFalse => cases hx
    rename_i hcond
    obtain ⟨rfl, hle⟩ := hcond
    simp only [Option.some.injEq, Prod.mk.injEq] at hx
    obtain ⟨rfl, rfl, rfl⟩ := hx
    obtain ⟨A, cap, rfl, hA, hcap, hm⟩ := hv.own_inv
    rcases hm with hm | ⟨B, sz, hm, hB⟩
    · have := H.no b (fun A sz h => by rw [hm] at h; cases h)
      rw [hb] at this; cases this
    obtain ⟨g1, g2, blk', c, el, g3, g4, g5, g6, g7, g8⟩ := H.live b B sz hm
    have g5' : c.size = sz.1 := congrArg Prod.fst g5
    rw [hb] at g3
    cases g3
    have hcl : (cut blk off (len * s)).length = len * s := by simp [cut]; omega
    have hcg : ∀ j y, (cut blk off (len * s))[j]? = some y → blk[off + j]? = some y := fun j y hy => by
      unfold cut at hy
      rw [List.getElem?_take] at hy
      split at hy
      · rw [List.getElem?_drop] at hy; exact hy
      · cases hy
    refine ⟨hcl, ?_, rfl, fun m hm' => ?_⟩
    · rw [List.all_eq_true] at g7 ⊢
      exact fun x hx => g7 x (List.mem_of_mem_drop (List.mem_of_mem_take hx))
    · rcases hB with hB | ⟨rfl, hB⟩
      · have : m = 0 := by omega
        subst this
        exact ⟨[], by simp [Builtin.firstCells, loadCells, loadCellsFrom], by simp, fun j y u _ hu => by simp at hu⟩
      · have hms : m * s ≤ len * s := Nat.mul_le_mul_right _ hm'
        have hcell : ∀ j, j < m * s → w.cell? ((⟨B.block, B.off + off, none⟩ : Addr).add j) = some (c.getD (B.off + off + j) undef) := fun j hj => by
          have hlt : B.off + off + j < c.size := by omega
          rw [add_off _ rfl]
          simp [World.cell?, g4, Array.getD, hlt]
        refine ⟨(List.range (m * s)).map fun j => c.getD (B.off + off + j) undef, ?_, by simp, fun q y u hy hu => ?_⟩
        · simp only [Builtin.firstCells]
          exact run_loadCells w _ (m * s) _ hcell
        · have hq : q < m * s := by
            have := (List.getElem?_eq_some_iff.1 hu).1
            simpa using this
          simp only [List.getElem?_map, List.getElem?_range hq, Option.map_some, Option.some.injEq] at hu
          have hlt : B.off + (off + q) < c.size := by omega
          refine g8 (off + q) y u (hcg q y hy) ?_
          rw [← hu]
          simp [Array.getD, hlt, Nat.add_assoc]
  · cases hx

/-- The cells of a slice that is only read, all of them. -/
theorem slCells_sound {e : Nat} {xs : List AV} {v : Value} (H : HRel I M h n w) (hv : PRel I (.sl e xs) v) :
    ∃ vs : List Value, (Builtin.firstCells e xs.length v).run P w = .ok vs.toArray w ∧ vs.length = xs.length * e ∧
      (∀ (i : Nat) (x : AV), xs[i]? = some x → ∃ cs, x.cells? = some cs ∧ cs.length = e ∧ cs.all (·.single) = true) ∧
      (∀ (i : Nat) (x : AV) (cs : List AV) (j : Nat) (y : AV) (u : Value), xs[i]? = some x → x.cells? = some cs → cs[j]? = some y → vs[i * e + j]? = some u → PRel I y u) := by
  cases hv with
  | sl0 _ a cap => exact ⟨[], by cases a <;> simp [Builtin.firstCells, loadCells, loadCellsFrom], by simp, fun i x hx => by simp at hx, fun i x cs j y u hx => by simp at hx⟩
  | sl _ _ A n' cap c el fr h1 h2 h3 h4 h5 h6 h7 h8 =>
    have hcell : ∀ j, j < xs.length * e → w.cell? (A.add j) = some (c.getD (A.off + j) undef) := fun j hj => by
      have hlt : A.off + j < c.size := by rw [h2] at h6; omega
      rw [add_off A h4]
      simp [World.cell?, H.imm _ _ h5, Array.getD, hlt]
    refine ⟨(List.range (xs.length * e)).map fun j => c.getD (A.off + j) undef, by simp only [Builtin.firstCells]; exact run_loadCells w A _ _ hcell, by simp, h7, fun i x cs j y u hx hcs hy hu => ?_⟩
    have hq : i * e + j < xs.length * e := by
      have := (List.getElem?_eq_some_iff.1 hu).1
      simpa using this
    simp only [List.getElem?_map, List.getElem?_range hq, Option.map_some, Option.some.injEq] at hu
    have hlt : A.off + (i * e + j) < c.size := by rw [h2] at h6; omega
    refine h8 i x cs j y u hx hcs hy ?_
    rw [← hu]
    simp [Array.getD, hlt]

/-- A new block that is only read from the beginning. -/
theorem HRel.allocImm (H : HRel I M h n w) (c : Array Value) (el : TypeId) :
    HRel (fun b => if b = w.heap.size then some (.cells c el (0, 0)) else I b) M h n (w.alloc (.cells c el)) ∧
    Ext I M w (fun b => if b = w.heap.size then some (.cells c el (0, 0)) else I b) M (w.alloc (.cells c el)) := by
  have hold : ∀ b, b < w.heap.size → (w.alloc (.cells c el)).heap[b]? = w.heap[b]? := fun b hb => Below.heap_alloc w _ b hb
  have hImm : ∀ b o, I b = some o → b < w.heap.size := fun b o hb => by
    have := H.imm b o hb
    rcases Nat.lt_or_ge b w.heap.size with h | h
    · exact h
    · simp [Array.getElem?_eq_none h] at this
  have hI : ILe I (fun b => if b = w.heap.size then some (.cells c el (0, 0)) else I b) := fun b o hb => by
    have := hImm b o hb
    simp only [if_neg (show b ≠ w.heap.size by omega), hb]
  refine ⟨⟨?_, H.fr, H.no, ?_, H.inj⟩, ⟨rfl, rfl, rfl, by simp, fun b hb _ => hold b hb, hI, .refl _, fun b hb hn _ => by simp only [if_neg (show b ≠ w.heap.size by omega), hn], fun _ h => .inl h⟩⟩
  · intro b o hb
    by_cases e : b = w.heap.size
    · subst e
      simp only [if_true] at hb
      cases hb
      show (w.heap.push _)[w.heap.size]? = _
      simp
    · simp only [if_neg e] at hb
      rw [hold b (hImm b o hb)]; exact H.imm b o hb
  · intro i A sz hm
    obtain ⟨g1, g2, b', c', el', g3, g4, g5, g6, g7, g8⟩ := H.live i A sz hm
    have hlt := Live.lt H ⟨i, A, sz, hm, rfl⟩
    refine ⟨g1, by simp only [if_neg (show A.block ≠ w.heap.size by omega), g2], b', c', el', g3, by rw [hold _ hlt]; exact g4, g5, g6, g7, fun j x v hx hv => (g8 j x v hx hv).mono hI (.refl _)⟩

theorem zeros_false {t : TypeId} {e : TypeId} (h : telem P t = some e) (w : World) : (underlying t).run P w = .ok (.slice e) w := run_underlying (telem_spec h) w

theorem nextslicecap_le (need cap : Nat) (hn : need ≤ 2 ^ 39) (hc : cap < need) : Builtin.nextslicecap need cap ≤ 2 ^ 41 := by
  unfold Builtin.nextslicecap
  split
  · omega
  · split
    · omega
    · have hg : ∀ rounds c, c ≤ need → Builtin.growBy need rounds c ≤ 2 * need + 192 := by
        intro rounds
        induction rounds with
        | zero => intro c hc; simp only [Builtin.growBy]; omega
        | succ r ih =>
          intro c hc'
          simp only [Builtin.growBy]
          split
          · omega
          · by_cases h1 : c + (c + 768) / 4 ≤ need
            · exact ih _ h1
            · cases r with
              | zero => simp only [Builtin.growBy]; omega
              | succ r => simp only [Builtin.growBy]; rw [if_pos (by omega)]; omega
      have := hg 4 cap (by omega)
      omega

theorem append_sound {o : Oper} {args : Array Operand} {argTypes : Array TypeId} (ho : o.op = .call { callee := .builtin .append, args, argTypes }) (H : HRel I M h n w) (hev : ∀ x, VRel I M (ev x) (ρ x)) (hs : M slot = .fresh) (hn : slot < n)
    {x y : Operand} {pu : Bool} (hargs : args.toList = [x, y]) {out : Out} (ha : aappend P pu slot h argTypes (ev x) (ev y) = some (.out out)) : Yields1 P o ρ I M h n w slot out := by
  have hargs' : args = #[x, y] := by rw [← Array.toArray_toList (xs := args), hargs]
  subst hargs'
  unfold aappend at ha
  split at ha
  case h_2 => cases ha
  rename_i e e' he he'
  split at ha
  case h_2 => cases ha
  rename_i s by_ z hsz hby hz
  split at ha
  case isFalse => cases ha
  rename_i hc1
  obtain ⟨_, hby', hby0, hzl⟩ := hc1
  obtain ⟨zv, hzv, hz1, hz2, hz3⟩ := zcells_spec hz
  replace hsz : tsize P e = some (s + 1) := hsz
  split at ha
  case h_2 => cases ha
  rename_i new k rd hsrc
  split at ha
  case isFalse => cases ha
  rename_i hk
  obtain ⟨s1, s2, s3, s4⟩ := srcCells_sound (P := P) H (hev y) hsrc
  obtain ⟨vs, v1, v2, v3⟩ := s4 k (Nat.le_refl _)
  obtain ⟨t0, ht0, ht0'⟩ : ∃ t0, argTypes[0]? = some t0 ∧ telem P t0 = some e := by
    cases h0 : argTypes[0]? with
    | none => simp [h0] at he
    | some t0 => exact ⟨t0, rfl, by simpa [h0] using he⟩
  obtain ⟨t1, ht1, ht1'⟩ : ∃ t1, argTypes[1]? = some t1 ∧ telem P t1 = some e' := by
    cases h0 : argTypes[1]? with
    | none => simp [h0] at he'
    | some t1 => exact ⟨t1, rfl, by simpa [h0] using he'⟩
  obtain ⟨ti, hti, hib⟩ := run_typeInfo_bytes hby w
  have hz0 : (s + 1 = 0) = False := by simp
  -- what the machine does, up to the room that there is
  have place : ∀ (base : Option Addr) (sLen sCap : Nat), ρ x = .slice base sLen sCap → sLen + k ≤ sCap → (execOp ρ o).run P w =
      (((match base with | some a => storeCells (a.add (sLen * (s + 1))) vs | none => pure ()) : Sem Unit).run P w).andThen fun _ w' => .ok (.value (.slice base (sLen + k) sCap)) w' := by
    intro base sLen sCap hx hle
    simp only [execOp, ho, resolve, invoke, builtin, Builtin.append_, List.map_toArray, List.map_cons, List.map_nil, List.getElem?_toArray, List.getElem?_cons_zero, List.getElem?_cons_succ, ht0, ht1, hx, Sem.run_bind, Sem.run_pure, Result.andThen_ok,
      run_underlying (telem_spec ht0'), run_underlying (telem_spec ht1'), run_sizeOf hsz, s3, v1, Bool.false_eq_true, if_false, Bool.not_false, if_true, if_pos hle, pure_bind]
    cases base with
    | none => simp
    | some a => simp only [Sem.run_bind, Sem.run_pure]; cases (storeCells (a.add (sLen * (s + 1))) vs).run P w <;> rfl
  have grow : ∀ (base : Option Addr) (sLen sCap : Nat) (os : List Value), ρ x = .slice base sLen sCap → ¬ sLen + k ≤ sCap → sLen + k ≤ 2 ^ 39 → (Builtin.firstCells (s + 1) sLen (ρ x)).run P w.drew = .ok os.toArray w.drew →
      ∃ (newCap : Nat) (rest : Array Value) (vs' : List Value), vs'.length = k * (s + 1) ∧ (∀ (j : Nat) y u, new[j]? = some y → vs'[j]? = some u → VRel I M y u) ∧ sLen + k ≤ newCap ∧ rest.size = (newCap - (sLen + k)) * (s + 1) ∧ (Builtin.firstCells (s + 1) k (ρ y)).run P w.drew = .ok vs'.toArray w.drew ∧
        (execOp ρ o).run P w = .ok (.value (.slice (some ⟨w.drew.heap.size, 0, none⟩) (sLen + k) newCap)) (w.drew.alloc (.cells (os.toArray ++ vs'.toArray ++ rest) e)) := by
    intro base sLen sCap os hx hle hneed hos
    obtain ⟨_, _, s3', s4'⟩ := srcCells_sound (P := P) H.drew (hev y) hsrc
    obtain ⟨vs', v1', v2', v3'⟩ := s4' k (Nat.le_refl _)
    have hn := nextslicecap_le (sLen + k) sCap hneed (by omega)
    have hroom : ¬ Builtin.nextslicecap (sLen + k) sCap * ti.bytes > 2 ^ 48 := by
      have : Builtin.nextslicecap (sLen + k) sCap * ti.bytes ≤ 2 ^ 41 * 128 := Nat.mul_le_mul hn (by omega)
      omega
    have hmax : ¬ (((sLen + k : Nat) : Int) > IntKind.i64.max ∧ (False ∨ ti.bytes = 0)) := by
      intro hh
      rcases hh.2 with h' | h'
      · cases h'
      · omega
    have hti' : (typeInfo e).run P w.drew = .ok ti w.drew := by
      obtain ⟨ti', h1, h2⟩ := run_typeInfo_bytes hby w.drew
      have : ti' = ti := by
        simp only [typeInfo, Sem.run_bind, run_program, Result.andThen_ok] at h1 hti
        split at h1 <;> split at hti <;> simp_all
      rw [this] at h1; exact h1
    refine ⟨(Question.appendCap (sLen + k) sCap e).cut (w.tape w.drawn (.appendCap (sLen + k) sCap e)), Builtin.zeroCells zv.cells ((Question.appendCap (sLen + k) sCap e).cut (w.tape w.drawn (.appendCap (sLen + k) sCap e)) - (sLen + k)), vs', v2', v3', ?_, ?_, v1', ?_⟩
    · simp only [Question.cut]; omega
    · simp only [Builtin.zeroCells, Array.size_map, Array.size_range, hz2, hzl]
    · rw [hx] at hos
      simp only [execOp, ho, resolve, invoke, builtin, Builtin.append_, List.map_toArray, List.map_cons, List.map_nil, List.getElem?_toArray, List.getElem?_cons_zero, List.getElem?_cons_succ, ht0, ht1, hx, Sem.run_bind, Sem.run_pure, Result.andThen_ok,
        run_underlying (telem_spec ht0'), run_underlying (telem_spec ht1'), run_sizeOf hsz, s3, v1, Bool.false_eq_true, if_false, Bool.not_false, if_true, if_neg hle, pure_bind, hti, if_neg hmax, if_neg hroom, run_choose, Question.forced, World.drew_eq, hti',
        run_askRoom, hos, v1', run_zeroValue hzv, newRow, run_newObj, World.alloc_eq]
  split at ha
  · -- onto nil
    rename_i hex
    have hx := hev x
    rw [hex] at hx
    have hρ := hx.nilsl_inv
    by_cases hk0 : k = 0
    · subst hk0
      have hrun := place none 0 0 hρ (by omega)
      simp only [Sem.run_pure, Result.andThen_ok] at hrun
      split at ha
      · -- only read
        split at ha
        case h_2 => cases ha
        rename_i hpu se xs hey
        cases ha
        rw [hey] at hsrc
        simp only [srcCells] at hsrc
        split at hsrc
        case isFalse => cases hsrc
        simp only [Option.some.injEq, Prod.mk.injEq] at hsrc
        have hxs : xs = [] := List.eq_nil_of_length_eq_zero hsrc.2.1
        subst hxs
        exact .ofRun H hrun (.pure _ _ (.sl0 _ _ _))
      · simp only [if_true, Option.some.injEq, Did.out.injEq] at ha
        subst ha
        exact .ofRun H hrun (.pure _ _ .nilsl)
    · obtain ⟨newCap, rest, vs', w1, w2, w3, w4, w6, w5⟩ := grow none 0 0 [] hρ (by omega) (by omega) (by rw [hρ]; rfl)
      simp only [Nat.zero_add] at w3 w4 w5
      split at ha
      · -- only read
        split at ha
        case h_2 => cases ha
        rename_i hpu se xs hey
        cases ha
        rw [hey] at hsrc
        have hy := hev y
        rw [hey] at hy
        have hsrc' := hsrc
        simp only [srcCells] at hsrc'
        split at hsrc'
        case isFalse => cases hsrc'
        rename_i hse
        subst hse
        simp only [Option.some.injEq, Prod.mk.injEq] at hsrc'
        obtain ⟨hnew, hxk, _⟩ := hsrc'
        subst hxk
        obtain ⟨vs2, q1, q2, q3, q4⟩ := slCells_sound (P := P) H.drew hy.sl_inv
        rw [w6] at q1
        simp only [Result.ok.injEq, and_true] at q1
        have hvv : vs' = vs2 := by simpa using q1
        subst hvv
        obtain ⟨r1, r2⟩ := H.drew.allocImm (([] : List Value).toArray ++ vs'.toArray ++ rest) e
        refine ⟨_, _, _, M, .inl w5, .pure _ _ ?_, r1, (Ext.drew I M w).trans r2, fun _ _ h => h⟩
        refine .sl (s + 1) xs ⟨w.drew.heap.size, 0, none⟩ xs.length newCap (([] : List Value).toArray ++ vs'.toArray ++ rest) e (0, 0) (fun h0 => hk0 (by rw [h0]; rfl)) rfl w3 rfl (by simp) ?_ q3 fun i x cs j y' u hx' hcs hy' hu => ?_
        · simp only [Array.size_append, List.size_toArray, List.length_nil, w1, w4]
          omega
        · obtain ⟨cs', d1, d2, _⟩ := q3 i x hx'
          rw [hcs] at d1
          cases d1
          have hj : j < s + 1 := by have := (List.getElem?_eq_some_iff.1 hy').1; omega
          have hi : i < xs.length := (List.getElem?_eq_some_iff.1 hx').1
          have hlt : i * (s + 1) + j < vs'.length := by
            rw [w1]
            have : (i + 1) * (s + 1) ≤ xs.length * (s + 1) := Nat.mul_le_mul_right _ hi
            rw [Nat.succ_mul] at this
            omega
          rw [Array.getElem?_append_left (by simp; omega)] at hu
          refine (q4 i x cs j y' u hx' hcs hy' (by simpa using hu)).mono fun b o hb => ?_
          exact r2.imm b o hb
      · simp only [if_neg hk0, Option.some.injEq, Did.out.injEq] at ha
        subst ha
        have hsz : (([] : List Value).toArray ++ vs'.toArray ++ rest).size = newCap * (s + 1) := by
          simp only [Array.size_append, List.size_toArray, List.length_nil, w1, w4]
          rw [Nat.zero_add, ← Nat.add_mul]; congr 1; omega
        have hlen : new.length ≤ (([] : List Value).toArray ++ vs'.toArray ++ rest).size := by
          rw [hsz, s1]; exact Nat.mul_le_mul_right _ w3
        obtain ⟨r1, r2⟩ := H.drew.alloc (el := e) hs hn hlen s2 (fun j y u hy hu => by
          have hj : j < vs'.length := by have := (List.getElem?_eq_some_iff.1 hy).1; omega
          rw [Array.getElem?_append_left (by simp; omega)] at hu
          exact w2 j y u hy (by simpa using hu))
        exact ⟨_, _, I, _, .inl w5, .own_mk rfl w3 (.inr ⟨⟨w.drew.heap.size, 0, none⟩, ((([] : List Value).toArray ++ vs'.toArray ++ rest).size, e), by simp only [updM, if_pos], .inr ⟨rfl, by simp only; rw [hsz]; simp⟩⟩), r1, (Ext.drew I M w).trans r2, updM_other⟩
  · -- onto an own slice
    rename_i b off len s' hex
    have hx := hev x
    rw [hex] at hx
    split at ha
    case h_2 => cases ha
    rename_i blk hb
    split at ha
    case isFalse => cases ha
    rename_i hc2
    obtain ⟨rfl, hlen38, hoff⟩ := hc2
    simp only [Option.some.injEq, Did.out.injEq] at ha
    subst ha
    obtain ⟨A, cap, hρ, hA, hcap, hm⟩ := hx.own_inv
    rcases hm with hm | ⟨B, sz, hm, hB⟩
    · have := H.no b (fun A sz h => by rw [hm] at h; cases h)
      rw [hb] at this; cases this
    have hbs : slot ≠ b := fun e => by rw [e, hm] at hs; cases hs
    have hcl : (cut blk off (len * (s + 1))).length = len * (s + 1) := by simp [cut]; omega
    have hcs : (cut blk off (len * (s + 1))).all (·.single) = true := by
      obtain ⟨g1, g2, blk', c, el, g3, g4, g5, g6, g7, g8⟩ := H.live b B sz hm
      have g5' : c.size = sz.1 := congrArg Prod.fst g5
      rw [hb] at g3
      cases g3
      rw [List.all_eq_true] at g7 ⊢
      exact fun x hx => g7 x (List.mem_of_mem_drop (List.mem_of_mem_take hx))
    by_cases hroom : len + k ≤ cap
    · -- there is room
      have hrun := place (some A) len cap hρ hroom
      obtain ⟨m1, m2⟩ := H.move hm hs hn hb hoff
      have hms : (updM (updM M b .gone) slot (.live ⟨B.block, B.off + off, none⟩ sz)) slot = .live ⟨B.block, B.off + off, none⟩ sz := by simp [updM]
      have hother : ∀ i, i ≠ slot → M i = .fresh → (updM (updM M b .gone) slot (.live ⟨B.block, B.off + off, none⟩ sz)) i = .fresh := fun i hi hf => by
        have : i ≠ b := fun e => by rw [e, hm] at hf; cases hf
        simp only [updM, if_neg hi, if_neg this]; exact hf
      rcases hB with hB | ⟨rfl, hB⟩
      · have hk0 : k = 0 := by omega
        have hl0 : len = 0 := by omega
        subst hk0; subst hl0
        have hvs : vs = [] := List.eq_nil_of_length_eq_zero (by rw [v2]; simp)
        have hnew : new = [] := List.eq_nil_of_length_eq_zero (by rw [s1]; simp)
        subst hvs; subst hnew
        simp only [storeCells, Sem.run_pure, Result.andThen_ok] at hrun
        simp only [List.append_nil]
        exact ⟨_, w, I, _, .inl hrun, .own_mk hA (by omega) (.inr ⟨_, sz, hms, .inl hB⟩), m1, m2, hother⟩
      · obtain ⟨g1, g2, blk', c, el, g3, g4, g5, g6, g7, g8⟩ := m1.live slot _ sz hms
        have g5' : c.size = sz.1 := congrArg Prod.fst g5
        simp only [upd1, if_pos, Option.some.injEq] at g3
        subst g3
        have hsum : len * (s + 1) + k * (s + 1) ≤ cap * (s + 1) := by rw [← Nat.add_mul]; exact Nat.mul_le_mul_right _ hroom
        have hone : ∀ v ∈ vs, v.oneCell' = true := fun v hvm => by
          obtain ⟨j, hj, rfl⟩ := List.getElem_of_mem hvm
          have hj' : j < new.length := by omega
          exact (v3 j new[j] vs[j] (List.getElem?_eq_getElem hj') (List.getElem?_eq_getElem hj)).one ((List.all_eq_true.1 s2) _ (List.getElem_mem hj'))
        have hst := run_storeCells_at (P := P) B.block (B.off + off + len * (s + 1)) el vs 0 c w g4 (by omega) hone
        dsimp only at hrun
        rw [add_off ⟨B.block, B.off + off, none⟩ rfl] at hrun
        simp only [hst, Result.andThen_ok] at hrun
        obtain ⟨e1, e2, e3, e4, e5, e6⟩ := setRow_ext w B.block (c.toList.take (B.off + off + len * (s + 1) + 0) ++ vs ++ c.toList.drop (B.off + off + len * (s + 1) + 0 + vs.length)).toArray c el g4
        have hget : ∀ q : Nat, ((c.toList.take (B.off + off + len * (s + 1) + 0) ++ vs ++ c.toList.drop (B.off + off + len * (s + 1) + 0 + vs.length)).toArray)[q]? = if B.off + off + len * (s + 1) ≤ q ∧ q < B.off + off + len * (s + 1) + vs.length then vs[q - (B.off + off + len * (s + 1))]? else c[q]? := fun q => by
          simp only [Nat.add_zero, List.getElem?_toArray]
          have h1 : (c.toList.take (B.off + off + len * (s + 1))).length = B.off + off + len * (s + 1) := by simp; omega
          by_cases h2 : B.off + off + len * (s + 1) ≤ q ∧ q < B.off + off + len * (s + 1) + vs.length
          · rw [if_pos h2, List.append_assoc, List.getElem?_append_right (by omega), h1, List.getElem?_append_left (by omega)]
          · rw [if_neg h2]
            by_cases h3 : q < B.off + off + len * (s + 1)
            · rw [List.append_assoc, List.getElem?_append_left (by omega), List.getElem?_take, if_pos h3]; simp
            · rw [List.getElem?_append_right (by simp; omega), List.getElem?_drop]
              simp only [List.length_append, h1, Array.getElem?_toList]
              congr 1
              omega
        obtain ⟨r1, r2⟩ := m1.write hms e1 e2 e3 e4 e5 e6 (blk := cut blk off (len * (s + 1)) ++ new) (by rw [← g5]; congr 1; simp; omega) (by rw [List.length_append, hcl, s1]; dsimp only; omega) (by rw [List.all_append, hcs, s2]; rfl) (fun j x' v' hx' hv' => by
          rw [hget] at hv'
          by_cases h2 : j < len * (s + 1)
          · rw [List.getElem?_append_left (by omega)] at hx'
            rw [if_neg (by dsimp only; omega)] at hv'
            exact g8 j x' v' hx' hv'
          · rw [List.getElem?_append_right (by omega), hcl] at hx'
            have hj : j - len * (s + 1) < new.length := (List.getElem?_eq_some_iff.1 hx').1
            rw [if_pos (by dsimp only; omega)] at hv'
            refine (v3 (j - len * (s + 1)) x' v' hx' ?_).mono m2.imm m2.mp
            rw [← hv']
            congr 1
            dsimp only
            omega)
        refine ⟨_, _, I, _, .inl hrun, .own_mk rfl hroom (.inr ⟨_, sz, hms, .inr ⟨by simp, by simpa using hB⟩⟩), ?_, m2.trans r2, hother⟩
        have hh : upd1 (upd1 (upd1 h b none) slot (some (cut blk off (len * (s + 1))))) slot (some (cut blk off (len * (s + 1)) ++ new)) = updH h [(b, none), (slot, some (cut blk off (len * (s + 1)) ++ new))] := by
          funext i
          simp only [upd1, updH]
          by_cases hi : i = slot <;> simp [hi]
        rw [← hh]
        exact r1
    · -- it moves
      obtain ⟨_, _, _, os4⟩ := srcCells_sound (P := P) (e := s + 1) (new := cut blk off (len * (s + 1))) (k := len) (rd := [b]) H.drew (x := .own b off len (s + 1)) (v := ρ x) hx (by simp [srcCells, hb, hoff])
      obtain ⟨os, o1, o2, o3⟩ := os4 len (Nat.le_refl _)
      obtain ⟨newCap, rest, vs', w1, w2, w3, w4, w6, w5⟩ := grow (some A) len cap os hρ hroom (by omega) o1
      have hin : b < n := by
        rcases Nat.lt_or_ge b n with h' | h'
        · exact h'
        · rw [H.fr b h'] at hm; cases hm
      obtain ⟨d1, d2⟩ := H.drew.drop (i := b) hin
      have hs' : (updM M b .gone) slot = .fresh := by simp only [updM, if_neg hbs]; exact hs
      have hsz : (os.toArray ++ vs'.toArray ++ rest).size = newCap * (s + 1) := by
        simp only [Array.size_append, List.size_toArray, o2, w1, w4]
        rw [← Nat.add_mul, ← Nat.add_mul]; congr 1; omega
      have hnl : (cut blk off (len * (s + 1)) ++ new).length = (len + k) * (s + 1) := by rw [List.length_append, hcl, s1, Nat.add_mul]
      obtain ⟨r1, r2⟩ := d1.alloc (el := e) (c := os.toArray ++ vs'.toArray ++ rest) (blk := cut blk off (len * (s + 1)) ++ new) hs' hn (by rw [hsz, hnl]; exact Nat.mul_le_mul_right _ w3) (by rw [List.all_append, hcs, s2]; rfl) (fun j x' u hx' hu => by
        by_cases h2 : j < len * (s + 1)
        · rw [List.getElem?_append_left (by omega)] at hx'
          rw [Array.append_assoc, Array.getElem?_append_left (by simp; omega)] at hu
          exact (o3 j x' u hx' (by simpa using hu)).mono d2.imm d2.mp
        · rw [List.getElem?_append_right (by omega), hcl] at hx'
          have hj : j - len * (s + 1) < new.length := (List.getElem?_eq_some_iff.1 hx').1
          rw [Array.append_assoc, Array.getElem?_append_right (by simp; omega), Array.getElem?_append_left (by simp; omega)] at hu
          refine (w2 (j - len * (s + 1)) x' u hx' ?_).mono d2.imm d2.mp
          rw [← hu]
          simp [o2])
      refine ⟨_, _, I, _, .inl w5, .own_mk rfl w3 (.inr ⟨⟨w.drew.heap.size, 0, none⟩, ((os.toArray ++ vs'.toArray ++ rest).size, e), by simp only [updM, if_pos], .inr ⟨rfl, by simp only; rw [hsz]; simp⟩⟩), r1, ((Ext.drew I M w).trans d2).trans r2, fun i hi hf => ?_⟩
      have : i ≠ b := fun e => by rw [e, hm] at hf; cases hf
      simp only [updM, if_neg hi, if_neg this]; exact hf
  · cases ha

end
end Go.Ab

set_option linter.unusedVariables false
set_option linter.unusedSimpArgs false
set_option maxRecDepth 10000
namespace Go.Ab
open Go.RowKit

section
variable {P : Program} {ρ : Operand → Value} {I : Imm} {M : Mp} {h : Heap} {n : Nat} {w : World} {slot : Nat} {ev : Operand → AV}

theorem copy_sound {o : Oper} {args : Array Operand} {argTypes : Array TypeId} (ho : o.op = .call { callee := .builtin .copy, args, argTypes }) (H : HRel I M h n w) (hev : ∀ x, VRel I M (ev x) (ρ x))
    {x y : Operand} (hargs : args.toList = [x, y]) {out : Out} (ha : acopy P h argTypes (ev x) (ev y) = some (.out out)) : Yields1 P o ρ I M h n w slot out := by
  have hargs' : args = #[x, y] := by rw [← Array.toArray_toList (xs := args), hargs]
  subst hargs'
  unfold acopy at ha
  split at ha
  case h_2 => cases ha
  rename_i e he
  obtain ⟨t0, ht0, ht0'⟩ : ∃ t0, argTypes[0]? = some t0 ∧ telem P t0 = some e := by
    cases h0 : argTypes[0]? with
    | none => simp [h0] at he
    | some t0 => exact ⟨t0, rfl, by simpa [h0] using he⟩
  split at ha
  case h_2 => cases ha
  rename_i s hsz
  replace hsz : tsize P e = some (s + 1) := hsz
  split at ha
  case h_2 => cases ha
  rename_i b off len s' new k rd hex hsrc
  split at ha
  case h_2 => cases ha
  rename_i blk hb
  split at ha
  case isFalse => cases ha
  rename_i hc
  obtain ⟨rfl, hoff⟩ := hc
  cases ha
  have hx := hev x
  rw [hex] at hx
  obtain ⟨s1, s2, s3, s4⟩ := srcCells_sound (P := P) H (hev y) hsrc
  obtain ⟨vs, v1, v2, v3⟩ := s4 (min k len) (Nat.min_le_left _ _)
  obtain ⟨A, cap, hρ, hA, hcap, hm⟩ := hx.own_inv
  rcases hm with hm | ⟨B, sz, hm, hB⟩
  · have := H.no b (fun A sz h => by rw [hm] at h; cases h)
    rw [hb] at this; cases this
  have hmk : min k len * (s + 1) ≤ k * (s + 1) := Nat.mul_le_mul_right _ (Nat.min_le_left _ _)
  have hml : min k len * (s + 1) ≤ len * (s + 1) := Nat.mul_le_mul_right _ (Nat.min_le_right _ _)
  have hnl : (new.take (min k len * (s + 1))).length = min k len * (s + 1) := by simp; omega
  have hrun : (execOp ρ o).run P w = ((storeCells A vs).run P w).andThen fun _ w' => .ok (.value (.int .i64 (min k len : Nat))) w' := by
    simp only [execOp, ho, resolve, invoke, builtin, Builtin.copy_, List.map_toArray, List.map_cons, List.map_nil, List.getElem?_toArray, List.getElem?_cons_zero, List.getElem?_cons_succ, ht0, hρ, Sem.run_bind, Sem.run_pure, Result.andThen_ok,
      run_underlying (telem_spec ht0'), run_sizeOf hsz, s3, pure_bind]
    rw [show k.min len = min k len from rfl, v1]
    simp only [Result.andThen_ok, Sem.run_bind, Sem.run_pure, goInt]
    cases (storeCells A vs).run P w <;> rfl
  by_cases h0 : min k len = 0
  · have hvs : vs = [] := List.eq_nil_of_length_eq_zero (by rw [v2, h0]; simp)
    subst hvs
    simp only [storeCells, Sem.run_pure, Result.andThen_ok] at hrun
    have hlay : lay blk off (new.take (min k len * (s + 1))) = blk := by
      rw [h0]; simp [lay]
    refine ⟨_, w, I, M, .inl hrun, .pure _ _ (.int _ _), ?_, .refl _ _ _, fun _ _ h => h⟩
    have hh : updH h [(b, some (lay blk off (new.take (min k len * (s + 1)))))] = h := by
      funext i
      simp only [updH, hlay]
      by_cases hi : i = b
      · rw [if_pos hi, hi, hb]
      · rw [if_neg hi]
    rw [hh]
    exact H
  · rcases hB with hB | ⟨rfl, hB⟩
    · omega
    · obtain ⟨w', r1, r2, r3⟩ := store_cells (P := P) (off := off) (new := new.take (min k len * (s + 1))) (vs := vs) H hm hb (by rw [hnl]; omega)
        (by rw [List.all_eq_true] at s2 ⊢; exact fun x hx => s2 x (List.mem_of_mem_take hx)) (by rw [hnl, v2]) (fun j y' u hy' hu => by
          rw [List.getElem?_take] at hy'
          split at hy'
          · exact v3 j y' u hy' hu
          · cases hy')
      rw [r1] at hrun
      exact ⟨_, w', I, M, .inl hrun, .pure _ _ (.int _ _), r2, r3, fun _ _ h => h⟩

theorem len_sound {o : Oper} {args : Array Operand} {argTypes : Array TypeId} (ho : o.op = .call { callee := .builtin .len, args, argTypes }) (H : HRel I M h n w) (hev : ∀ x, VRel I M (ev x) (ρ x))
    {x : Operand} (hargs : args.toList = [x]) {t : TypeId} (ht : argTypes[0]? = some t) {y : AV} (ha : alen P t (ev x) = some y) : Yields1 P o ρ I M h n w slot { v := y } := by
  have hargs' : args = #[x] := by rw [← Array.toArray_toList (xs := args), hargs]
  subst hargs'
  have hx := hev x
  have hrun : (execOp ρ o).run P w = ((Builtin.len_ argTypes o.type #[ρ x]).run P w).andThen fun v w' => .ok (.value v) w' := by
    simp only [execOp, ho, resolve, invoke, builtin, List.map_toArray, List.map_cons, List.map_nil, Sem.run_bind, Sem.run_pure, pure_bind]
  unfold alen at ha
  split at ha
  · rename_i s hu hes
    cases ha
    rw [hes] at hx
    refine .pure' H (v := .int .i64 s.size) ?_ (.pure _ _ (.int _ _))
    rw [hrun]
    simp [Builtin.len_, ht, run_underlying hu, hx.str_inv, goInt]
  · rename_i k e hu
    cases ha
    refine .pure' H (v := .int .i64 k) ?_ (.pure _ _ (.int _ _))
    rw [hrun]
    simp [Builtin.len_, ht, run_underlying hu, goInt]
  · rename_i e s xs hu hes
    cases ha
    rw [hes] at hx
    refine .pure' H (v := .int .i64 xs.length) ?_ (.pure _ _ (.int _ _))
    rw [hrun]
    generalize hρ : ρ x = q at hx
    cases hx.sl_inv with
    | sl0 => simp [Builtin.len_, ht, run_underlying hu, goInt]
    | sl _ _ A n' cap c el fr h1 h2 => simp [Builtin.len_, ht, run_underlying hu, goInt, h2]
  · rename_i e hu hes
    cases ha
    rw [hes] at hx
    refine .pure' H (v := .int .i64 0) ?_ (.pure _ _ (.int _ _))
    rw [hrun]
    simp [Builtin.len_, ht, run_underlying hu, goInt, hx.nilsl_inv]
  · rename_i e b off len s hu hes
    cases ha
    rw [hes] at hx
    obtain ⟨A, cap, hρ, _⟩ := hx.own_inv
    refine .pure' H (v := .int .i64 len) ?_ (.pure _ _ (.int _ _))
    rw [hrun]
    simp [Builtin.len_, ht, run_underlying hu, goInt, hρ]
  · rename_i e b len t' hu hes
    cases ha
    rw [hes] at hx
    obtain ⟨A, cap, hρ, _⟩ := hx.bsl_inv
    refine .pure' H (v := .int .i64 len) ?_ (.pure _ _ (.int _ _))
    rw [hrun]
    simp [Builtin.len_, ht, run_underlying hu, goInt, hρ]
  · cases ha

theorem fold2_sound (f : AV → AV → Option AV) (g : Value → Value → Sem Value) (hfg : ∀ a b c u v, VRel I M a u → VRel I M b v → f a b = some c → ∃ r, (g u v).run P w = .ok r w ∧ VRel I M c r) :
    ∀ (l : List Operand) (a c : AV) (u : Value), VRel I M a u → (hev : ∀ x, VRel I M (ev x) (ρ x)) → (l.map ev).foldlM f a = some c → ∃ r, ((l.map ρ).foldlM g u).run P w = .ok r w ∧ VRel I M c r
  | [], a, c, u, hu, _, h => by simp at h; subst h; exact ⟨u, rfl, hu⟩
  | x :: l, a, c, u, hu, hev, h => by
    simp only [List.map_cons, List.foldlM_cons] at h ⊢
    cases hf : f a (ev x) with
    | none => simp [hf] at h
    | some b =>
      simp only [hf, Option.bind_eq_bind, Option.bind_some] at h
      obtain ⟨r, h1, h2⟩ := hfg _ _ _ _ _ hu (hev x) hf
      obtain ⟨r', h3, h4⟩ := fold2_sound f g hfg l b c r h2 hev h
      exact ⟨r', by rw [Sem.run_bind, h1]; exact h3, h4⟩

theorem max2_rel {a b c : AV} {u v : Value} (hu : VRel I M a u) (hv : VRel I M b v) (h : amax2 a b = some c) : ∃ r, (Builtin.max2 u v).run P w = .ok r w ∧ VRel I M c r := by
  unfold amax2 at h
  split at h
  · split at h
    · rename_i hk; subst hk; cases h
      rw [hu.int_inv, hv.int_inv]
      exact ⟨_, rfl, .pure _ _ (.int _ _)⟩
    · cases h
  · cases h
theorem min2_rel {a b c : AV} {u v : Value} (hu : VRel I M a u) (hv : VRel I M b v) (h : amin2 a b = some c) : ∃ r, (Builtin.min2 u v).run P w = .ok r w ∧ VRel I M c r := by
  unfold amin2 at h
  split at h
  · split at h
    · rename_i hk; subst hk; cases h
      rw [hu.int_inv, hv.int_inv]
      exact ⟨_, rfl, .pure _ _ (.int _ _)⟩
    · cases h
  · cases h

theorem func_sound {o : Oper} {f : FuncId} {cap : Array Operand} (ho : o.op = .makeFunc (.func f) #[] cap) (H : HRel I M h n w) (hev : ∀ x, VRel I M (ev x) (ρ x)) : Yields1 P o ρ I M h n w slot { v := .func f (cap.toList.map ev) } := by
  refine .pure' H (v := .func (.func f) #[] (cap.map ρ)) (by simp [execOp, ho, Instr.makeFunc]) (.func _ _ _ (by simp) fun i x v hx hv => ?_)
  simp only [List.getElem?_map, Array.getElem?_toList] at hx
  simp only [Array.getElem?_map] at hv
  cases hc : cap[i]? with
  | none => simp [hc] at hx
  | some q =>
    simp only [hc, Option.map_some, Option.some.injEq] at hx hv
    subst hx; subst hv
    exact hev q

/-! ### Equality -/
theorem scEq_sound {t : TypeId} {x y : AV} {u v : Value} {b : Bool} (d : Nat) (hu : VRel I M x u) (hv : VRel I M y v) (h : scEq P t x y = some b) :
    (∃ g, tagg P t = some g ∧ g = false) ∧ (Op.equalIn (d + 1) t u v).run P w = .ok b w := by
  unfold scEq at h
  split at h
  · rename_i k0 k a k' b' ht
    split at h
    · rename_i hk; subst hk; cases h
      rw [hu.int_inv, hv.int_inv]
      refine ⟨⟨false, by simp [tagg, ht], rfl⟩, ?_⟩
      simp [Op.equalIn, run_underlying ht]
    · cases h
  · rename_i a b' ht
    cases h
    rw [hu.bool_inv, hv.bool_inv]
    exact ⟨⟨false, by simp [tagg, ht], rfl⟩, by simp [Op.equalIn, run_underlying ht]⟩
  · rename_i a b' ht
    cases h
    rw [hu.str_inv, hv.str_inv]
    exact ⟨⟨false, by simp [tagg, ht], rfl⟩, by simp [Op.equalIn, run_underlying ht]⟩
  · cases h

theorem flatEq_sound (d : Nat) {xs ys : List AV} {us vs : Array Value} (hx : CRel I M xs us) (hy : CRel I M ys vs) : ∀ (l : List Field) (i : Nat) (r : Bool),
    (∀ (j : Nat) f, l[j]? = some f → (f.name != "_") = true ∧ f.offset = i + j) → flatEq P l (xs.drop i) (ys.drop i) = some r →
    (forIn l ((none, PUnit.unit) : Option Bool × PUnit) fun f __s =>
            if f.name ≠ "_" then (do
              let __do_lift ← part f.type us f.offset
              let __do_lift_1 ← part f.type vs f.offset
              let __do_lift ← Op.equalIn (d + 1) f.type __do_lift __do_lift_1
              if (!__do_lift) = true then pure (ForInStep.done (some false, PUnit.unit)) else pure (ForInStep.yield (none, PUnit.unit)) : Sem (ForInStep (Option Bool × PUnit)))
            else pure (ForInStep.yield (none, PUnit.unit))).run P w = .ok (if r then (none, PUnit.unit) else (some false, PUnit.unit)) w
  | [], i, r, _, h => by
    unfold flatEq at h
    split at h
    · cases h; rfl
    · simp_all
    · cases h
  | f :: l, i, r, hl, h => by
    unfold flatEq at h
    split at h
    · simp_all
    · rename_i f' fs' x xs' y ys' e1 e2 e3
      simp only [List.cons.injEq] at e1
      obtain ⟨rfl, rfl⟩ := e1
      split at h
      · rename_i a b h1 h2
        cases h
        obtain ⟨n1, n2⟩ := hl 0 f rfl
        have hxi : xs[i]? = some x := by have := congrArg List.head? e2; simpa [List.head?_drop] using this
        have hyi : ys[i]? = some y := by have := congrArg List.head? e3; simpa [List.head?_drop] using this
        have hxd : xs.drop (i + 1) = xs' := by have := congrArg List.tail e2; simpa using this
        have hyd : ys.drop (i + 1) = ys' := by have := congrArg List.tail e3; simpa using this
        have hui : i < us.size := by rw [hx.1]; exact (List.getElem?_eq_some_iff.1 hxi).1
        have hvi : i < vs.size := by rw [hy.1]; exact (List.getElem?_eq_some_iff.1 hyi).1
        obtain ⟨⟨g, hg, rfl⟩, heq⟩ := scEq_sound (P := P) (w := w) d (hx.2 i x _ hxi (Array.getElem?_eq_getElem hui)) (hy.2 i y _ hyi (Array.getElem?_eq_getElem hvi)) h1
        have p1 : (part f.type us f.offset).run P w = .ok us[i] w := by simp [part, run_isAgg hg, n2, hui]
        have p2 : (part f.type vs f.offset).run P w = .ok vs[i] w := by simp [part, run_isAgg hg, n2, hvi]
        have n1' : f.name ≠ "_" := by simpa using n1
        have ih := flatEq_sound d hx hy l (i + 1) b (fun j f hf => by have := hl (j + 1) f hf; exact ⟨this.1, by omega⟩) (by rw [hxd, hyd]; exact h2)
        rw [List.forIn_cons]
        simp only [Sem.run_bind, if_pos n1', p1, p2, heq, Result.andThen_ok]
        cases a with
        | false => simp
        | true =>
          simp only [Bool.not_true, Bool.false_eq_true, if_false, Sem.run_pure, Result.andThen_ok, Bool.true_and]
          exact ih
      · cases h
    · cases h

theorem equal_of {t : TypeId} {u v : Value} {r : Bool} (h : ∀ d, (Op.equalIn (d + 1) t u v).run P w = .ok r w) : (Op.equal t u v).run P w = .ok r w := h 9999

theorem eq_fin {op : BinOp} {t : TypeId} {x y : Operand} {u v : Value} {r : Bool} (hop : op = .eql ∨ op = .neq) (hg : (eqGuard op t x y u v).run P w = .ok () w) (he : (Op.equal t u v).run P w = .ok r w)
    (h1 : binOp .eql t u v = (do pure (.bool (← Op.equal t u v)))) (h2 : binOp .neq t u v = (do pure (.bool (!(← Op.equal t u v))))) :
    ((do eqGuard op t x y u v; binOp op t u v) : Sem Value).run P w = .ok (.bool (if op = .eql then r else !r)) w := by
  rw [Sem.run_bind, hg]
  simp only [Result.andThen_ok]
  rcases hop with rfl | rfl
  · rw [h1, Sem.run_bind, he]; rfl
  · rw [h2, Sem.run_bind, he]; rfl

theorem eq_sound {op : BinOp} {t : TypeId} {x y : Operand} {a b : AV} {u v : Value} {r : Bool} (hop : op = .eql ∨ op = .neq) (hu : VRel I M a u) (hv : VRel I M b v) (h : aeq P t a b = some r) :
    ((do eqGuard op t x y u v; binOp op t u v) : Sem Value).run P w = .ok (.bool (if op = .eql then r else !r)) w := by
  unfold aeq at h
  split at h
  · rename_i xs ys
    split at h
    · rename_i fs ht
      split at h
      · rename_i hft
        obtain ⟨us, rfl, hus⟩ := hu.agg_inv
        obtain ⟨vs, rfl, hvs⟩ := hv.agg_inv
        simp only [flatType, Bool.and_eq_true, Bool.not_eq_true'] at hft
        obtain ⟨⟨f1, f2⟩, f3⟩ := hft
        have hloop := flatEq_sound (P := P) (w := w) 9998 hus hvs fs.toList 0 r (fun j f hf => by
          have := (List.all_eq_true.1 f3) (f, j) (by
            rw [List.mem_iff_getElem?]
            exact ⟨j, by simp [List.getElem?_zipIdx, hf]⟩)
          simp only [Bool.and_eq_true, beq_iff_eq] at this
          exact ⟨this.1, by omega⟩) (by simpa using h)
        have heq : (Op.equal t (.agg us) (.agg vs)).run P w = .ok r w := by
          show (Op.equalIn (9998 + 1 + 1) t (.agg us) (.agg vs)).run P w = _
          rw [Op.equalIn]
          rw [Sem.run_bind, run_underlying ht]
          simp only [Result.andThen_ok, Sem.run_bind, run_program, f1, Bool.false_eq_true, if_false]
          rw [← Array.forIn_toList, hloop]
          cases r <;> rfl
        have hg : (eqGuard op t x y (.agg us) (.agg vs)).run P w = .ok () w := by
          rcases hop with rfl | rfl <;> simp [eqGuard, f2]
        exact eq_fin hop hg heq rfl rfl
      · cases h
    · cases h
  · rename_i a' b'
    split at h
    · rename_i ht
      cases h
      rw [hu.bool_inv, hv.bool_inv]
      exact eq_fin hop (by rcases hop with rfl | rfl <;> simp [eqGuard]) (equal_of fun d => by simp [Op.equalIn, run_underlying ht]) rfl rfl
    · cases h
  · split at h
    · rename_i e ht
      rw [hv.nilsl_inv]
      split at h
      · cases h
        rw [hu.nilsl_inv]
        exact eq_fin hop (by rcases hop with rfl | rfl <;> simp [eqGuard]) (equal_of fun d => by simp [Op.equalIn, run_underlying ht]) rfl rfl
      · cases h
        obtain ⟨A, cap, rfl, _⟩ := hu.own_inv
        exact eq_fin hop (by rcases hop with rfl | rfl <;> simp [eqGuard]) (equal_of fun d => by simp [Op.equalIn, run_underlying ht]) rfl rfl
      · cases h
        cases hu.sl_inv with
        | sl => exact eq_fin hop (by rcases hop with rfl | rfl <;> simp [eqGuard]) (equal_of fun d => by simp [Op.equalIn, run_underlying ht]) rfl rfl
      · cases h
        obtain ⟨A, cap, rfl, _⟩ := hu.bsl_inv
        exact eq_fin hop (by rcases hop with rfl | rfl <;> simp [eqGuard]) (equal_of fun d => by simp [Op.equalIn, run_underlying ht]) rfl rfl
      · cases h
    · cases h
  · split at h
    · rename_i e ht
      rw [hv.nilp_inv]
      split at h
      · cases h
        rw [hu.nilp_inv]
        exact eq_fin hop (by rcases hop with rfl | rfl <;> simp [eqGuard]) (equal_of fun d => by simp [Op.equalIn, run_underlying ht]) rfl rfl
      · cases h
        obtain ⟨A, rfl, _⟩ := hu.ptr_inv
        exact eq_fin hop (by rcases hop with rfl | rfl <;> simp [eqGuard]) (equal_of fun d => by simp [Op.equalIn, run_underlying ht]) rfl rfl
      · cases h
        cases hu.pp_inv with
        | pp => exact eq_fin hop (by rcases hop with rfl | rfl <;> simp [eqGuard]) (equal_of fun d => by simp [Op.equalIn, run_underlying ht]) rfl rfl
      · cases h
        obtain ⟨A, rfl, _⟩ := hu.tptr_inv
        exact eq_fin hop (by rcases hop with rfl | rfl <;> simp [eqGuard]) (equal_of fun d => by simp [Op.equalIn, run_underlying ht]) rfl rfl
      · cases h
    · cases h
  · cases h

theorem bin_sound {o : Oper} {op : BinOp} {t ty : TypeId} {x y : Operand} (ho : o.op = .binOp op t x y ty) (H : HRel I M h n w) (hev : ∀ x, VRel I M (ev x) (ρ x)) {z : AV} (ha : abin P op t (ev x) (ev y) = some z) : Yields1 P o ρ I M h n w slot { v := z } := by
  have hx := hev x
  have hy := hev y
  have hrun : (execOp ρ o).run P w = (((do eqGuard op t x y (ρ x) (ρ y); binOp op t (ρ x) (ρ y)) : Sem Value).run P w).andThen fun v w' => .ok (.value v) w' := by
    simp only [execOp, ho]
    rw [Sem.run_bind]; rfl
  unfold abin at ha
  split at ha
  · rename_i k a k' b e1 e2
    rw [e1] at hx
    rw [e2] at hy
    rw [hx.int_inv, hy.int_inv] at hrun
    simp only [eqGuard_at_int, pure_bind] at hrun
    split at ha
    · obtain ⟨v, h1, h2⟩ := shift_sound (P := P) (w := w) (I := I) (M := M) (k' := k') (.inl rfl) ha t
      exact .pure' H (by rw [hrun, h1]; rfl) h2
    · obtain ⟨v, h1, h2⟩ := shift_sound (P := P) (w := w) (I := I) (M := M) (k' := k') (.inr rfl) ha t
      exact .pure' H (by rw [hrun, h1]; rfl) h2
    · split at ha
      · rename_i hk
        subst hk
        obtain ⟨v, h1, h2⟩ := binInt_sound (P := P) (w := w) (I := I) (M := M) ha t
        exact .pure' H (by rw [hrun, h1]; rfl) h2
      · cases ha
  · rename_i a b e1 e2
    rw [e1] at hx
    rw [e2] at hy
    rw [hx.str_inv, hy.str_inv] at hrun
    simp only [eqGuard_at_string, pure_bind] at hrun
    obtain ⟨v, h1, h2⟩ := strop_sound (P := P) (w := w) (I := I) (M := M) ha t
    exact .pure' H (by rw [hrun, h1]; rfl) h2
  · split at ha
    · cases hq : aeq P t (ev x) (ev y) with
      | none => simp [hq] at ha
      | some r =>
        simp only [hq, Option.map_some, Option.some.injEq] at ha
        subst ha
        have := eq_sound (P := P) (w := w) (x := x) (y := y) (.inl rfl) hx hy hq
        exact .pure' H (by rw [hrun, this]; rfl) (.pure _ _ (.bool _))
    · cases hq : aeq P t (ev x) (ev y) with
      | none => simp [hq] at ha
      | some r =>
        simp only [hq, Option.map_some, Option.some.injEq] at ha
        subst ha
        have := eq_sound (P := P) (w := w) (x := x) (y := y) (.inr rfl) hx hy hq
        exact .pure' H (by rw [hrun, this]; rfl) (.pure _ _ (.bool _))
    · cases ha

end
end Go.Ab

set_option linter.unusedVariables false
set_option linter.unusedSimpArgs false
set_option maxRecDepth 10000
namespace Go.Ab
open Go.RowKit

section
variable {P : Program} {ρ : Operand → Value} {I : Imm} {M : Mp} {h : Heap} {n : Nat} {w : World} {slot : Nat} {ev : Operand → AV}

theorem flat1_rel {I : Imm} {M : Mp} {y : AV} {v : Value} (hf : y.flat1 = true) (h : VRel I M y v) : PRel I y v := by
  cases h with
  | pure _ _ h => exact h
  | _ => simp [AV.flat1] at hf
theorem flat1_single {y : AV} (hf : y.flat1 = true) : y.single = true := by
  cases y <;> first | rfl | simp [AV.flat1] at hf

theorem chunk_length (e : Nat) : ∀ (n : Nat) (cs : List AV), (chunk e n cs).length = n
  | 0, _ => rfl
  | n + 1, cs => by simp [chunk, chunk_length e n]
theorem chunk_get {e : Nat} (he : 0 < e) : ∀ (n : Nat) (cs : List AV), n * e ≤ cs.length → cs.all (·.flat1) = true → ∀ (i : Nat) (x : AV), (chunk e n cs)[i]? = some x →
    ∃ cs', x.cells? = some cs' ∧ cs'.length = e ∧ cs'.all (·.single) = true ∧ ∀ (j : Nat) (y : AV), cs'[j]? = some y → cs[i * e + j]? = some y
  | 0, cs, _, _, i, x, h => by simp [chunk] at h
  | n + 1, cs, hl, hf, i, x, h => by
    rw [Nat.succ_mul] at hl
    simp only [chunk] at h
    cases i with
    | zero =>
      simp only [List.getElem?_cons_zero, Option.some.injEq] at h
      by_cases he1 : e = 1
      · rw [if_pos he1] at h
        subst he1
        cases cs with
        | nil => simp at hl
        | cons c cs =>
          simp only [List.headD_cons] at h
          subst h
          have hc : c.flat1 = true := (List.all_eq_true.1 hf) c (by simp)
          have hcs := flat1_single hc
          refine ⟨[c], by cases c <;> first | rfl | simp [AV.single] at hcs, rfl, by simp [hcs], fun j y hy => ?_⟩
          cases j with
          | zero => simpa using hy
          | succ j => simp at hy
      · rw [if_neg he1] at h
        subst h
        refine ⟨cs.take e, rfl, by simp; omega, ?_, fun j y hy => ?_⟩
        · rw [List.all_eq_true] at hf ⊢
          exact fun y hy => flat1_single (hf y (List.mem_of_mem_take hy))
        · rw [List.getElem?_take] at hy
          split at hy
          · simpa using hy
          · cases hy
    | succ i =>
      simp only [List.getElem?_cons_succ] at h
      obtain ⟨cs', h1, h2, h3, h4⟩ := chunk_get he n (cs.drop e) (by simp; omega) (by rw [List.all_eq_true] at hf ⊢; exact fun y hy => hf y (List.mem_of_mem_drop hy)) i x h
      refine ⟨cs', h1, h2, h3, fun j y hy => ?_⟩
      have := h4 j y hy
      rw [List.getElem?_drop] at this
      rw [← this, Nat.succ_mul]
      congr 1
      omega

theorem buildSlice_sound {o : Oper} {t : TypeId} {len : Nat} {ps : Array (Nat × Operand)} (ho : o.op = .buildSlice t len ps) (H : HRel I M h n w) (hev : ∀ x, VRel I M (ev x) (ρ x)) (hs : M slot = .fresh) (hn : slot < n) {out : Out} {pu : Bool}
    (ha : abuildSlice P pu slot t len (ps.toList.map fun (i, x) => (i, ev x)) = some (.out out)) : Yields1 P o ρ I M h n w slot out := by
  obtain ⟨p1, p2⟩ := parts_rel hev ps
  unfold abuildSlice at ha
  split at ha
  case h_2 => cases ha
  rename_i e he
  split at ha
  case h_2 => cases ha
  rename_i s z hsz hz
  split at ha
  case isFalse => cases ha
  rename_i hcond
  obtain ⟨c1, c2⟩ := hcond
  obtain ⟨v, hv, h1, h2, h3⟩ := zcells_spec hz
  cases hf : afill (fun i => some (i * (s + 1), s + 1)) (repCells len z) (ps.toList.map fun (i, x) => (i, ev x)) with
  | none => simp [hf] at ha
  | some cs =>
    rw [hf, Option.bind_some] at ha
    have hrep := rep_rel (I := I) (M := M) h2 (by omega) (h3 I M) len
    rw [c1] at hrep
    obtain ⟨vs', e1, e2, e3⟩ := fill_sound (fun i => some (i * (s + 1), s + 1)) _ _ _ _ cs hrep (repCells_single h1 len) p1 p2 hf
    have hlen : cs.length = len * (s + 1) := by rw [afill_length _ _ _ _ hf, repCells_length, c1]
    have hrun : (execOp ρ o).run P w = .ok (.value (.slice (some ⟨w.heap.size, 0, none⟩) len len)) (w.alloc (.cells vs' e)) := by
      by_cases h0 : len * (s + 1) = 0
      · have hr0 : ∀ g : Nat → Value, (Array.range 0).map g = #[] := fun g => by rw [Array.range_zero', Array.map_empty]
        rw [h0, hr0] at e1
        simp only [execOp, ho, Instr.buildSlice, Sem.run_bind, run_underlying (telem_spec he), Result.andThen_ok, run_sizeOf hsz, h0, if_neg (show ¬ 0 > 2 ^ 24 by omega), if_true, Sem.run_pure, hr0, e1, newRow, run_newObj, World.alloc_eq]
      · simp only [execOp, ho, Instr.buildSlice, Sem.run_bind, run_underlying (telem_spec he), Result.andThen_ok, run_sizeOf hsz, if_neg (show ¬ len * (s + 1) > 2 ^ 24 by omega), if_neg h0, run_zeroValue hv, Sem.run_pure, e1]
        simp [newRow]
    split at ha
    · split at ha
      case isFalse => cases ha
      rename_i hfl
      simp only [pureOut, Option.some.injEq, Did.out.injEq] at ha
      subst ha
      obtain ⟨r1, r2⟩ := H.allocImm vs' e
      refine ⟨_, _, _, M, .inl hrun, .pure _ _ ?_, r1, r2, fun _ _ h => h⟩
      by_cases hl0 : len = 0
      · subst hl0; exact .sl0 _ _ _
      have hsz' : vs'.size = len * (s + 1) := by rw [e2.1, hlen]
      refine .sl (s + 1) _ ⟨w.heap.size, 0, none⟩ len len vs' e (0, 0) (fun h0 => hl0 (by have := congrArg List.length h0; rw [chunk_length] at this; exact this)) (chunk_length _ _ _).symm (Nat.le_refl _) rfl (by simp) (by dsimp only; omega) (fun i x hx' => ?_) (fun i x cs' j y u hx' hcs hy hu => ?_)
      · obtain ⟨cs', k1, k2, k3, _⟩ := chunk_get (Nat.succ_pos s) len _ (by rw [hlen]; exact Nat.le_refl _) hfl i x hx'
        exact ⟨cs', k1, k2, k3⟩
      · obtain ⟨cs2, k1, k2, k3, k4⟩ := chunk_get (Nat.succ_pos s) len _ (by rw [hlen]; exact Nat.le_refl _) hfl i x hx'
        rw [hcs] at k1
        cases k1
        have h5 := k4 j y hy
        have hfy : y.flat1 = true := (List.all_eq_true.1 hfl) y (List.mem_of_getElem? h5)
        refine (flat1_rel hfy (e2.2 _ y u h5 (by rw [← hu]; simp only [Nat.succ_eq_add_one, Nat.zero_add]))).mono fun b o hb => ?_
        exact r2.imm b o hb
    · simp only [Option.some.injEq, Did.out.injEq] at ha
      subst ha
      refine .ofNew (vs := vs') (el := e) H hs hn (by rw [e2.1]; exact Nat.le_refl _) e3 e2.2 (v := .slice (some ⟨w.heap.size, 0, none⟩) len len) hrun
        (VRel.own_mk rfl (Nat.le_refl _) (.inr ⟨⟨w.heap.size, 0, none⟩, (vs'.size, e), by simp [updM], .inr ⟨rfl, by simp only; rw [e2.1, hlen]; simp⟩⟩))

theorem bytesOf_get : ∀ {cs : List AV} {l : List UInt8}, bytesOf cs = some l → l.length = cs.length ∧ ∀ (j : Nat) x, l[j]? = some x → cs[j]? = some (.int .u8 (x.toNat : Int))
  | [], l, h => by cases h; exact ⟨rfl, fun j x hx => by simp at hx⟩
  | c :: cs, l, h => by
    unfold bytesOf at h
    split at h
    · rename_i heq; cases heq
    · rename_i n r heq
      injection heq with h1 h2
      subst h1; subst h2
      split at h
      case isFalse => cases h
      rename_i hn
      cases hb : bytesOf cs with
      | none => rw [hb] at h; cases h
      | some l' =>
        rw [hb] at h
        cases h
        obtain ⟨e1, e2⟩ := bytesOf_get hb
        refine ⟨by simp [e1], fun j x hx => ?_⟩
        cases j with
        | zero => simp at hx; subst hx; rw [List.getElem?_cons_zero, hn]
        | succ j => simp at hx; simpa using e2 j x hx
    · cases h

theorem foldl_push : ∀ (l : List UInt8) (acc : ByteArray), (l.map fun x => (x.toNat : Int)).foldl (fun r n => r.push (UInt8.ofNat n.toNat)) acc = ⟨acc.data ++ l.toArray⟩
  | [], acc => by simp
  | x :: l, acc => by
    simp only [List.map_cons, List.foldl_cons]
    rw [foldl_push l]
    apply ByteArray.ext
    simp [ByteArray.push]

/-- A live block's cells as they lie in memory. -/
theorem live_cells {b : Nat} {B : Nat} {k : Nat} {t : TypeId} {blk : Blk} (H : HRel I M h n w) (hm : M b = .live ⟨B, 0, none⟩ (k, t)) (hb : h b = some blk) :
    ∃ c, w.heap[B]? = some (.cells c t (0, 0)) ∧ c.size = k ∧ blk.length ≤ k ∧ blk.all (·.single) = true ∧ I B = none ∧ ∀ (j : Nat) x v, blk[j]? = some x → c[j]? = some v → VRel I M x v := by
  obtain ⟨g1, g2, blk', c, el, g3, g4, g5, g6, g7, g8⟩ := H.live b _ _ hm
  rw [hb] at g3
  cases g3
  have e1 : c.size = k := congrArg Prod.fst g5
  have e2 : el = t := congrArg Prod.snd g5
  subst e2
  exact ⟨c, g4, e1, by simpa using g6, g7, g2, fun j x v hx hv => g8 j x v hx (by simpa using hv)⟩

theorem not_gone {b : Nat} {blk : Blk} (H : HRel I M h n w) (hb : h b = some blk) (hm : M b = .gone) : False := by
  have := H.no b (fun A sz h => by rw [hm] at h; cases h)
  rw [hb] at this; cases this

theorem tsize_info {t k : Nat} (ht : tsize P t = some k) : ∃ i, P.info? t = some i ∧ i.size = k := by
  unfold tsize at ht
  cases hi : P.info? t with
  | none => rw [hi] at ht; cases ht
  | some i => rw [hi] at ht; cases ht; exact ⟨i, rfl, rfl⟩

theorem conv_sound {o : Oper} {src dst : TypeId} {x : Operand} (ho : o.op = .convert src dst x) (H : HRel I M h n w) (hev : ∀ x, VRel I M (ev x) (ρ x)) {out : Out} (ha : aconvert P h src dst (ev x) = some (.out out)) : Yields1 P o ρ I M h n w slot out := by
  have hx := hev x
  unfold aconvert at ha
  split at ha
  · rename_i k0 k kk m hu1 hu2 hes
    simp only [pureOut, Option.some.injEq, Did.out.injEq] at ha
    subst ha
    rw [hes] at hx
    refine .pure' H (v := .int k (k.wrap m)) ?_ (.pure _ _ (.int _ _))
    simp [execOp, ho, convert, run_underlying hu1, run_underlying hu2, hx.int_inv, Conv.intToInt]
  · rename_i s hu1 hu2 hes
    simp only [pureOut, Option.some.injEq, Did.out.injEq] at ha
    subst ha
    rw [hes] at hx
    refine .pure' H (v := .string s) ?_ (.pure _ _ (.str _))
    simp [execOp, ho, convert, run_underlying hu1, run_underlying hu2, hx.str_inv]
  · rename_i e b off len hu1 hu2 hes
    rw [hes] at hx
    split at ha
    case h_2 => cases ha
    rename_i blk hu8 hb
    split at ha
    case isFalse => cases ha
    rename_i hlen
    cases hbo : bytesOf (cut blk off len) with
    | none => rw [hbo] at ha; cases ha
    | some l =>
    rw [hbo] at ha
    simp only [Option.bind_some, Option.some.injEq, Did.out.injEq] at ha
    subst ha
    obtain ⟨b1, b2⟩ := bytesOf_get hbo
    have hcl : (cut blk off len).length = len := by simp [cut]; omega
    obtain ⟨s1, s2, s3, s4⟩ := srcCells_sound (P := P) (e := 1) (new := cut blk off (len * 1)) (k := len) (rd := [b]) H hx (by simp [srcCells, hb, hlen])
    obtain ⟨vs, v1, v2, v3⟩ := s4 len (Nat.le_refl _)
    obtain ⟨A, cap, hρ, hA, hcap, _⟩ := hx.own_inv
    have hvs : vs = (l.map fun x => (x.toNat : Int)).map (Value.int .u8) := by
      apply List.ext_getElem (by simp [v2, b1, hcl])
      intro j h1 h2
      have hj : j < l.length := by simpa using h2
      have := v3 j _ _ (by rw [Nat.mul_one]; exact b2 j l[j] (List.getElem?_eq_getElem hj)) (List.getElem?_eq_getElem h1)
      rw [this.int_inv]; simp
    have hi8 : P.underlying e = some (.int .u8) := by
      unfold isU8 at hu8
      split at hu8
      · assumption
      · cases hu8
    refine .ofRun H (v := .string (textOf l)) ?_ (.pure _ _ (.str _))
    rw [hρ] at v1
    simp only [Builtin.firstCells, Nat.mul_one] at v1
    rw [hvs] at v1
    have hr := run_bytesToString (P := P) w A len cap _ v1
    rw [foldl_push] at hr
    simp only [execOp, ho, hρ]
    simp [convert, run_underlying hu1, run_underlying hu2, run_underlying hi8, hr, textOf]
  · rename_i e b k t hu1 hu2 hes
    rw [hes] at hx
    split at ha
    case h_2 => cases ha
    rename_i s c0 r hsz hb
    simp only [Option.some.injEq, Did.out.injEq] at ha
    subst ha
    obtain ⟨A, hρ, hA, hm⟩ := hx.tptr_inv
    rcases hm with hm | ⟨B, hm, rfl⟩
    · exact (not_gone H hb hm).elim
    obtain ⟨c, c1, c2, c3, _⟩ := live_cells H hm hb
    obtain ⟨i, hi, his⟩ := tsize_info hsz
    have hr := Lib.run_to_unsafe (P := P) w ⟨B, 0, none⟩ hu1 hu2 hi (by rw [his]; exact Nat.succ_ne_zero _) (e := t) (cells := k) (by simp [World.shape?, c1, c2]) (by simp only [List.length_cons] at c3; dsimp only; omega)
    exact .ofRun H (v := .pointer (some ⟨B, 0, none⟩)) (by simp only [execOp, ho, hρ, Sem.run_bind, hr, Result.andThen_ok, Sem.run_pure]) (.tptr _ _ _ _ hm)
  · rename_i u b k t hu1 hu2 hes
    rw [hes] at hx
    split at ha
    case h_2 => cases ha
    rename_i s blk hsz hli hb
    simp only [Option.some.injEq, Did.out.injEq] at ha
    subst ha
    obtain ⟨A, hρ, hA, hm⟩ := hx.tptr_inv
    rcases hm with hm | ⟨B, hm, rfl⟩
    · exact (not_gone H hb hm).elim
    obtain ⟨c, c1, c2, c3, _⟩ := live_cells H hm hb
    obtain ⟨i, hi, his⟩ := tsize_info hsz
    have hr := Lib.run_from_unsafe (P := P) w ⟨B, 0, none⟩ hu1 hu2 hi (e := t) (cells := k) (by simp [World.shape?, c1, c2]) hli
    exact .ofRun H (v := .pointer (some ⟨B, 0, none⟩)) (by simp only [execOp, ho, hρ, Sem.run_bind, hr, Result.andThen_ok, Sem.run_pure]) (.tptr _ _ _ _ hm)
  · cases ha

theorem binH_sound {o : Oper} {op : BinOp} {t ty : TypeId} {x y : Operand} (ho : o.op = .binOp op t x y ty) (H : HRel I M h n w) (hev : ∀ x, VRel I M (ev x) (ρ x)) {out : Out} (ha : abinH P h op t (ev x) (ev y) = some (.out out)) : Yields1 P o ρ I M h n w slot out := by
  have hx := hev x
  have hy := hev y
  unfold abinH at ha
  split at ha
  · rename_i b k u b' k' u' e1 e2
    rw [e1] at hx
    rw [e2] at hy
    obtain ⟨A, hρ, hA, hm⟩ := hx.tptr_inv
    obtain ⟨A', hρ', hA', hm'⟩ := hy.tptr_inv
    split at ha
    · rename_i e blk hu hb
      split at ha
      case h_2 => cases ha
      rename_i s hsz
      split at ha
      case isFalse => cases ha
      rename_i hbb
      subst hbb
      simp only [Option.some.injEq, Did.out.injEq] at ha
      subst ha
      rcases hm with hm | ⟨B, hm, rfl⟩
      · exact (not_gone H hb hm).elim
      rcases hm' with hm' | ⟨B', hm', rfl⟩
      · exact (not_gone H hb hm').elim
      rw [hm] at hm'
      cases hm'
      refine .ofRun H (v := .bool true) ?_ (.pure _ _ (.bool _))
      have h1 : ∀ d : Nat, (Op.equalIn (d + 1) t (.pointer (some ⟨B, 0, none⟩)) (.pointer (some ⟨B, 0, none⟩))).run P w = .ok true w := fun d => by
        simp [Op.equalIn, run_underlying hu, run_sizeOf hsz, run_sameAddr_same]
      simp [execOp, ho, hρ, hρ', eqGuard, binOp, Op.equal, Op.maxDepth, h1 9999]
    · rename_i e blk hu hb
      split at ha
      case h_2 => cases ha
      rename_i s hsz
      split at ha
      case isFalse => cases ha
      rename_i hbb
      subst hbb
      simp only [Option.some.injEq, Did.out.injEq] at ha
      subst ha
      rcases hm with hm | ⟨B, hm, rfl⟩
      · exact (not_gone H hb hm).elim
      rcases hm' with hm' | ⟨B', hm', rfl⟩
      · exact (not_gone H hb hm').elim
      rw [hm] at hm'
      cases hm'
      refine .ofRun H (v := .bool false) ?_ (.pure _ _ (.bool _))
      have h1 : ∀ d : Nat, (Op.equalIn (d + 1) t (.pointer (some ⟨B, 0, none⟩)) (.pointer (some ⟨B, 0, none⟩))).run P w = .ok true w := fun d => by
        simp [Op.equalIn, run_underlying hu, run_sizeOf hsz, run_sameAddr_same]
      simp [execOp, ho, hρ, hρ', eqGuard, binOp, Op.equal, Op.maxDepth, h1 9999]
    · cases ha
  · cases hz : abin P op t (ev x) (ev y) with
    | none => rw [hz] at ha; cases ha
    | some z =>
      rw [hz] at ha
      simp only [Option.bind_some, pureOut, Option.some.injEq, Did.out.injEq] at ha
      subst ha
      exact bin_sound ho H hev hz

theorem sliceH_sound {o : Oper} {t : TypeId} {x : Operand} {lo hi : Option Operand} (ho : o.op = .slice t x lo hi none) (H : HRel I M h n w) (hev : ∀ x, VRel I M (ev x) (ρ x)) {out : Out}
    (ha : asliceH P h t (ev x) (lo.map ev) (hi.map ev) = some (.out out)) : Yields1 P o ρ I M h n w slot out := by
  unfold asliceH at ha
  split at ha
  · rename_i b off hes
    have hx := hev x
    rw [hes] at hx
    split at ha
    case h_2 => cases ha
    rename_i m e blk hu hlo hhi hb
    split at ha
    case h_2 => cases ha
    rename_i s hsz
    split at ha
    case isFalse => cases ha
    rename_i hle
    simp only [Option.some.injEq, Did.out.injEq] at ha
    subst ha
    have hlo' : lo = none := by cases lo <;> simp at hlo; rfl
    have hhi' : hi = none := by cases hi <;> simp at hhi; rfl
    subst hlo'; subst hhi'
    obtain ⟨A, hρ, hA, hm⟩ := hx.ptr_inv
    rcases hm with hm | ⟨B, sz, hm, rfl⟩
    · exact (not_gone H hb hm).elim
    obtain ⟨g1, g2, blk', c, el, g3, g4, g5, g6, g7, g8⟩ := H.live b B sz hm
    rw [hb] at g3
    cases g3
    refine .ofRun H (v := .slice (some ⟨B.block, B.off + off, none⟩) m m) ?_ (.own_mk rfl (Nat.le_refl _) (.inr ⟨B, sz, hm, .inr ⟨rfl, by omega⟩⟩))
    simp only [execOp, ho, hρ, Option.map_none]
    have hz : (Addr.add ⟨B.block, B.off + off, none⟩ (0 * s)) = ⟨B.block, B.off + off, none⟩ := by rw [add_off _ rfl]; simp
    simp [Instr.sliceAt, run_underlying hu, Instr.sureAddr, Instr.sliceBounds, run_sizeOf hsz]
    intro h0
    simpa using hz
  · cases hz : aslice P t (ev x) (lo.map ev) (hi.map ev) with
    | none => rw [hz] at ha; cases ha
    | some z =>
      rw [hz] at ha
      simp only [Option.bind_some, pureOut, Option.some.injEq, Did.out.injEq] at ha
      subst ha
      exact slice_sound ho H hev hz

theorem strCells_length (s : ByteArray) : (strCells s).length = s.size := by simp [strCells]
theorem strCells_single (s : ByteArray) : (strCells s).all (·.single) = true := List.all_eq_true.2 fun x hx => by
  simp only [strCells, List.mem_map] at hx
  obtain ⟨b, _, rfl⟩ := hx
  rfl
theorem strCells_rel {s : ByteArray} (j : Nat) (y : AV) (u : Value) (hy : (strCells s)[j]? = some y) (hu : (Lib.strCells s)[j]? = some u) : VRel I M y u := by
  simp only [strCells, Lib.strCells, List.getElem?_map, Option.map_eq_some_iff] at hy hu
  obtain ⟨x, hx, rfl⟩ := hy
  obtain ⟨x', hx', rfl⟩ := hu
  rw [hx] at hx'
  cases hx'
  exact .pure _ _ (.int _ _)

theorem appendS_sound {o : Oper} {args : Array Operand} {argTypes : Array TypeId} (ho : o.op = .call { callee := .builtin .append, args, argTypes }) (H : HRel I M h n w) (hev : ∀ x, VRel I M (ev x) (ρ x)) (hs : M slot = .fresh) (hn : slot < n)
    {x y : Operand} (hargs : args.toList = [x, y]) {s : ByteArray} (hey : ev y = .str s) {out : Out} (ha : aappendS P slot h argTypes (ev x) s = some (.out out)) : Yields1 P o ρ I M h n w slot out := by
  have hargs' : args = #[x, y] := by rw [← Array.toArray_toList (xs := args), hargs]
  subst hargs'
  have hx := hev x
  have hy := hev y
  rw [hey] at hy
  have hρy := hy.str_inv
  unfold aappendS at ha
  split at ha
  case h_2 => cases ha
  rename_i e t1 he ht1
  split at ha
  case h_2 => cases ha
  rename_i z0 hsz hby hz hu1
  split at ha
  case isFalse => cases ha
  rename_i hs38
  obtain ⟨t0, ht0, ht0'⟩ : ∃ t0, argTypes[0]? = some t0 ∧ telem P t0 = some e := by
    cases h0 : argTypes[0]? with
    | none => simp [h0] at he
    | some t0 => exact ⟨t0, rfl, by simpa [h0] using he⟩
  have hu0 := telem_spec ht0'
  obtain ⟨zv, hzv, hz1, hz2, hz3⟩ := zcells_spec hz
  obtain ⟨i, hi, hi1, hi2, hi3⟩ : ∃ i, P.info? e = some i ∧ i.size = 1 ∧ i.bytes = 1 ∧ i.zero = some zv := by
    unfold tsize at hsz
    unfold tbytes at hby
    unfold tzero at hzv
    cases hi : P.info? e with
    | none => rw [hi] at hsz; cases hsz
    | some i =>
      rw [hi] at hsz hby hzv
      exact ⟨i, rfl, by simpa using hsz, by simpa using hby, by simpa using hzv⟩
  have hat : ∀ (a b : Value), (Builtin.append_ argTypes o.type #[a, b]) = Builtin.append_ #[t0, t1] o.type #[a, b] := fun a b => by
    simp only [Builtin.append_, ht0, ht1, List.getElem?_toArray, List.getElem?_cons_zero, List.getElem?_cons_succ]
  have hrun : ∀ u w', (Builtin.append_ #[t0, t1] o.type #[ρ x, .string s]).run P w = .ok u w' → (execOp ρ o).run P w = .ok (.value u) w' := fun u w' hr => by
    simp only [execOp, ho, resolve, invoke, builtin, List.map_toArray, List.map_cons, List.map_nil, pure_bind, hρy, hat, Sem.run_bind, hr, Result.andThen_ok, Sem.run_pure]
  have cells0 : Builtin.zeroCells zv.cells 0 = #[] := by simp [Builtin.zeroCells]
  have hzsz : zv.cells.size = 1 := by rw [hz2]; rfl
  have hns : ∀ need old, need ≤ 2 ^ 39 → old < need → Builtin.nextslicecap need old * i.bytes ≤ 281474976710656 := fun need old h1 h2 => by
    have := nextslicecap_le need old h1 h2
    rw [hi2]; omega
  split at ha
  · rename_i hex
    rw [hex] at hx
    have hρ := hx.nilsl_inv
    by_cases h0 : s.size = 0
    · rw [if_pos h0] at ha
      simp only [Option.some.injEq, Did.out.injEq] at ha
      subst ha
      refine .ofRun H (hrun (.slice none 0 0) w ?_) (.pure _ _ .nilsl)
      rw [hρ]
      simp [Builtin.append_, run_underlying hu0, run_underlying hu1, sizeOf, typeInfo, hi, hi1, Builtin.lenOf, h0, Builtin.firstCells]
    · rw [if_neg h0] at ha
      simp only [Option.some.injEq, Did.out.injEq] at ha
      subst ha
      have hcap := grownCap_ge w s.size 0 e
      have hf := Lib.run_firstCells_string (P := P) w.drew 1 s
      have hk := hns s.size 0 (by omega) (by omega)
      have hk' : ¬ 281474976710656 < Builtin.nextslicecap s.size 0 * i.bytes := by omega
      have h63 : ¬ (9223372036854775807 : Int) < (s.size : Nat) := by omega
      have hr : (Builtin.append_ #[t0, t1] o.type #[ρ x, .string s]).run P w = .ok (.slice (some ⟨w.heap.size, 0, none⟩) s.size (grownCap w s.size 0 e)) (w.drew.alloc (.cells ((Lib.strCells s).toArray ++ Builtin.zeroCells zv.cells (grownCap w s.size 0 e - s.size)) e)) := by
        rw [hρ]
        simp [Builtin.append_, run_underlying hu0, run_underlying hu1, sizeOf, typeInfo, zeroValue, hi, hi1, hi3, Builtin.lenOf, h0, hk', h63, Question.forced, hf, Builtin.firstCells, newRow, grownCap]
        rw [show (Array.map (fun b : UInt8 => Value.int IntKind.u8 (b.toNat : Int)) s.data).extract 0 s.size = (Lib.strCells s).toArray from by
          apply Array.ext'
          simp [Lib.strCells]
          exact List.take_of_length_le (by simp)]
      have hsize : ((Lib.strCells s).toArray ++ Builtin.zeroCells zv.cells (grownCap w s.size 0 e - s.size)).size = grownCap w s.size 0 e := by
        simp only [Array.size_append, List.size_toArray, Lib.strCells_length, Builtin.zeroCells, Array.size_map, Array.size_range, hzsz]; omega
      obtain ⟨r1, r2⟩ := H.drew.alloc (el := e) hs hn (blk := strCells s) (c := (Lib.strCells s).toArray ++ Builtin.zeroCells zv.cells (grownCap w s.size 0 e - s.size)) (by rw [hsize, strCells_length]; exact hcap) (strCells_single s) (fun j y' u hy' hu' => by
        have hj : j < (Lib.strCells s).length := by have := (List.getElem?_eq_some_iff.1 hy').1; rw [strCells_length] at this; rw [Lib.strCells_length]; exact this
        rw [Array.getElem?_append_left (by simpa using hj)] at hu'
        exact strCells_rel j y' u hy' (by simpa using hu'))
      refine ⟨_, _, I, _, .inl (hrun _ _ hr), .bsl _ _ _ w.heap.size _ _ (by simp only [updM, if_pos]; rfl) hcap (by omega) (by rw [hsize]; exact Nat.le_refl _), r1, (Ext.drew I M w).trans r2, updM_other⟩
  · rename_i b len t hex
    rw [hex] at hx
    split at ha
    case h_2 => cases ha
    rename_i blk hb
    split at ha
    case isFalse => cases ha
    rename_i hc
    obtain ⟨rfl, hl38, hll⟩ := hc
    simp only [Option.some.injEq, Did.out.injEq] at ha
    subst ha
    obtain ⟨A, cap, hρ, hA, hcap, hcap0, hm⟩ := hx.bsl_inv
    rcases hm with hm | ⟨B, k, hm, rfl, hck⟩
    · exact (not_gone H hb hm).elim
    have hbs : slot ≠ b := fun e => by rw [e, hm] at hs; cases hs
    obtain ⟨c, c1, c2, c3, c4, c5, c6⟩ := live_cells H hm hb
    have htl : (blk.take len).length = len := by simp; omega
    have hts : (blk.take len ++ strCells s).all (·.single) = true := by
      rw [List.all_append, strCells_single, Bool.and_true]
      rw [List.all_eq_true] at c4 ⊢
      exact fun x hx => c4 x (List.mem_of_mem_take hx)
    by_cases hroom : len + s.size ≤ cap
    · have hr := Lib.run_append_room_string (P := P) w t0 t1 o.type t i hu0 hu1 hi hi1 B len cap c c1 s hroom (by omega)
      rw [← hρ] at hr
      obtain ⟨m1, m2⟩ := H.move (d := 0) (m := len) hm hs hn hb (by omega)
      have hms : (updM (updM M b .gone) slot (.live ⟨B, 0 + 0, none⟩ (k, t))) slot = .live ⟨B, 0, none⟩ (k, t) := by simp [updM]
      have hother : ∀ i, i ≠ slot → M i = .fresh → (updM (updM M b .gone) slot (.live ⟨B, 0 + 0, none⟩ (k, t))) i = .fresh := fun i hi hf => by
        have : i ≠ b := fun e => by rw [e, hm] at hf; cases hf
        simp only [updM, if_neg hi, if_neg this]; exact hf
      obtain ⟨e1, e2, e3, e4, e5, e6⟩ := setRow_ext w B (c.toList.take len ++ Lib.strCells s ++ c.toList.drop (len + s.size)).toArray c t c1
      have hlc : (Lib.strCells s).length = s.size := Lib.strCells_length s
      have hsz' : (c.toList.take len ++ Lib.strCells s ++ c.toList.drop (len + s.size)).toArray.size = c.size := by simp [hlc]; omega
      obtain ⟨r1, r2⟩ := m1.write hms e1 e2 e3 e4 e5 e6 (blk := blk.take len ++ strCells s) (by rw [hsz', c2]) (by rw [List.length_append, htl, strCells_length]; dsimp only; omega) hts (fun j x' v' hx' hv' => by
        have ht : (c.toList.take len).length = len := by simp; omega
        simp only [Nat.zero_add, List.getElem?_toArray] at hv'
        by_cases h2 : j < len
        · rw [List.getElem?_append_left (by omega)] at hx'
          rw [List.append_assoc, List.getElem?_append_left (by omega), List.getElem?_take, if_pos h2] at hv'
          rw [List.getElem?_take, if_pos h2] at hx'
          exact (c6 j x' v' hx' (by simpa using hv')).mono m2.imm m2.mp
        · rw [List.getElem?_append_right (by omega), htl] at hx'
          have hj : j - len < s.size := by have := (List.getElem?_eq_some_iff.1 hx').1; rw [strCells_length] at this; exact this
          rw [List.append_assoc, List.getElem?_append_right (by omega), ht, List.getElem?_append_left (by omega)] at hv'
          exact strCells_rel _ x' v' hx' hv')
      refine ⟨_, _, I, _, .inl (hrun _ _ hr), .bsl _ _ _ B k cap hms hroom hcap0 hck, ?_, m2.trans r2, hother⟩
      have hh : upd1 (upd1 (upd1 h b none) slot (some (cut blk 0 len))) slot (some (blk.take len ++ strCells s)) = updH h [(b, none), (slot, some (blk.take len ++ strCells s))] := by
        funext i
        simp only [upd1, updH]
        by_cases hi : i = slot <;> simp [hi]
      rw [← hh]
      exact r1
    · have hg : cap < len + s.size := by omega
      have hctl : (c.toList.take len).length = len := by simp; omega
      have hr := Lib.run_append_grow_string (P := P) w t0 t1 o.type t i zv hu0 hu1 hi hi3 ⟨B, 0, none⟩ len cap (c.toList.take len) (by rw [hctl, hi1, Nat.mul_one]) (fun j v hv => by
        have hj : j < len := by have := (List.getElem?_eq_some_iff.1 hv).1; omega
        rw [List.getElem?_take, if_pos hj] at hv
        rw [add_off _ rfl]
        simp only [Nat.zero_add, World.cell?, c1, Option.isSome_none, Bool.false_eq_true, if_false]
        simpa using hv) s hg (by omega) (hns _ _ (by omega) (by omega))
      rw [← hρ] at hr
      have hcapg := grownCap_ge w (len + s.size) cap t
      have hin : b < n := by
        rcases Nat.lt_or_ge b n with h' | h'
        · exact h'
        · rw [H.fr b h'] at hm; cases hm
      obtain ⟨d1, d2⟩ := H.drew.drop (i := b) hin
      have hs' : (updM M b .gone) slot = .fresh := by simp only [updM, if_neg hbs]; exact hs
      have hlc : (Lib.strCells s).length = s.size := Lib.strCells_length s
      have hsize : ((c.toList.take len).toArray ++ (Lib.strCells s).toArray ++ Builtin.zeroCells zv.cells (grownCap w (len + s.size) cap t - (len + s.size))).size = grownCap w (len + s.size) cap t := by
        simp only [Array.size_append, List.size_toArray, hctl, hlc, Builtin.zeroCells, Array.size_map, Array.size_range, hzsz]; omega
      obtain ⟨r1, r2⟩ := d1.alloc (el := t) (c := (c.toList.take len).toArray ++ (Lib.strCells s).toArray ++ Builtin.zeroCells zv.cells (grownCap w (len + s.size) cap t - (len + s.size))) (blk := blk.take len ++ strCells s) hs' hn (by rw [hsize, List.length_append, htl, strCells_length]; exact hcapg) hts (fun j x' u hx' hu => by
        by_cases h2 : j < len
        · rw [List.getElem?_append_left (by omega)] at hx'
          rw [Array.append_assoc, Array.getElem?_append_left (by simp; omega)] at hu
          rw [List.getElem?_take, if_pos h2] at hx'
          simp only [List.getElem?_toArray, List.getElem?_take, if_pos h2] at hu
          exact (c6 j x' u hx' (by simpa using hu)).mono d2.imm d2.mp
        · rw [List.getElem?_append_right (by omega), htl] at hx'
          have hj : j - len < s.size := by have := (List.getElem?_eq_some_iff.1 hx').1; rw [strCells_length] at this; exact this
          rw [Array.append_assoc, Array.getElem?_append_right (by simp; omega), Array.getElem?_append_left (by simp; omega)] at hu
          refine strCells_rel _ x' u hx' ?_
          simpa [hctl] using hu)
      refine ⟨_, _, I, _, .inl (hrun _ _ hr), .bsl _ _ _ w.heap.size _ _ (by simp only [updM, if_pos]; rfl) hcapg (by omega) (by rw [hsize]; exact Nat.le_refl _), r1, ((Ext.drew I M w).trans d2).trans r2, fun i hi hf => ?_⟩
      have : i ≠ b := fun e => by rw [e, hm] at hf; cases hf
      simp only [updM, if_neg hi, if_neg this]; exact hf
  · cases ha

theorem sliceData_sound {o : Oper} {args : Array Operand} {argTypes : Array TypeId} (ho : o.op = .call { callee := .builtin .unsafeSliceData, args, argTypes }) (H : HRel I M h n w) (hev : ∀ x, VRel I M (ev x) (ρ x))
    {x : Operand} (hargs : args.toList = [x]) : (ev x = .nilsl → Yields1 P o ρ I M h n w slot { v := .nilp }) ∧ ∀ b len t, ev x = .bsl b len t → Yields1 P o ρ I M h n w slot { v := .bptr b t } := by
  have hargs' : args = #[x] := by rw [← Array.toArray_toList (xs := args), hargs]
  subst hargs'
  have hx := hev x
  have hrun : ∀ u, (Builtin.unsafeSliceData_ argTypes o.type #[ρ x]).run P w = .ok u w → (execOp ρ o).run P w = .ok (.value u) w := fun u hr => by
    simp only [execOp, ho, resolve, invoke, builtin, List.map_toArray, List.map_cons, List.map_nil, pure_bind, Sem.run_bind, hr, Result.andThen_ok, Sem.run_pure]
  constructor
  · intro hex
    rw [hex] at hx
    refine .ofRun H (hrun (.pointer none) ?_) (.pure _ _ .nilp)
    rw [hx.nilsl_inv]; rfl
  · intro b len t hex
    rw [hex] at hx
    obtain ⟨A, cap, hρ, hA, hcap, hcap0, hm⟩ := hx.bsl_inv
    refine .ofRun H (hrun (.pointer (some A)) ?_) ?_
    · rw [hρ]; exact Lib.run_unsafeSliceData_row (P := P) w argTypes o.type A len cap (by omega)
    · rcases hm with hm | ⟨B, k, hm, rfl, _⟩
      · exact .bptrG _ _ _ hm hA
      · exact .bptr _ _ _ _ hm

theorem freeze_other (w : World) (a : Addr) (k b : Nat) (hb : b ≠ a.block) : (w.freeze a k).heap[b]? = w.heap[b]? := by
  unfold World.freeze
  split
  · rfl
  · simp only [Array.getElem?_modify]
    rw [if_neg (fun h => hb h.symm)]
theorem freeze_size (w : World) (a : Addr) (k : Nat) : (w.freeze a k).heap.size = w.heap.size := by
  unfold World.freeze; split <;> simp
theorem freeze_same (w : World) (a : Addr) (k : Nat) : (w.freeze a k).os = w.os ∧ (w.freeze a k).tape = w.tape ∧ (w.freeze a k).output = w.output := by
  unfold World.freeze; split <;> exact ⟨rfl, rfl, rfl⟩

theorem unsafeString_sound {o : Oper} {args : Array Operand} {argTypes : Array TypeId} (ho : o.op = .call { callee := .builtin .unsafeString, args, argTypes }) (H : HRel I M h n w) (hev : ∀ x, VRel I M (ev x) (ρ x))
    {x y : Operand} (hargs : args.toList = [x, y]) {out : Out} (ha : aunsafeString P h argTypes (ev x) (ev y) = some (.out out)) : Yields1 P o ρ I M h n w slot out := by
  have hargs' : args = #[x, y] := by rw [← Array.toArray_toList (xs := args), hargs]
  subst hargs'
  have hx := hev x
  have hy := hev y
  unfold aunsafeString at ha
  split at ha
  case h_2 => cases ha
  rename_i t0 t1 k hts hek
  rw [hek] at hy
  have hρy := hy.int_inv
  have hts' : argTypes = #[t0, t1] := by rw [← Array.toArray_toList (xs := argTypes), hts]
  subst hts'
  have hrun : ∀ r w', (Builtin.unsafeString_ #[t0, t1] o.type #[ρ x, .int .i64 k]).run P w = .ok r w' → (execOp ρ o).run P w = .ok (.value r) w' := fun r w' hr => by
    simp only [execOp, ho, resolve, invoke, builtin, List.map_toArray, List.map_cons, List.map_nil, pure_bind, hρy, Sem.run_bind, hr, Result.andThen_ok, Sem.run_pure]
  split at ha
  · rename_i hex
    rw [hex] at hx
    split at ha
    case isFalse => cases ha
    rename_i hk0
    simp only [pureOut, Option.some.injEq, Did.out.injEq] at ha
    subst ha
    subst hk0
    refine .ofRun H (hrun (.string .empty) w ?_) (.pure _ _ (.str _))
    rw [hx.nilp_inv]
    exact Lib.run_unsafeString_none (P := P) w t0 t1 o.type none
  · rename_i b t hex
    rw [hex] at hx
    split at ha
    · rename_i hk0
      simp only [pureOut, Option.some.injEq, Did.out.injEq] at ha
      subst ha
      subst hk0
      obtain ⟨A, hρ, _⟩ := hx.bptr_inv
      refine .ofRun H (hrun (.string .empty) w ?_) (.pure _ _ (.str _))
      rw [hρ]
      exact Lib.run_unsafeString_none (P := P) w t0 t1 o.type (some A)
    split at ha
    case h_2 => cases ha
    rename_i blk hb
    split at ha
    case isFalse => cases ha
    rename_i hc
    obtain ⟨hpe, hrow, hk0, hkl, hk40⟩ := hc
    have hpu : P.underlying t0 = some (.pointer t) := by
      unfold pelem at hpe
      split at hpe
      · rename_i e he; cases hpe; exact he
      · cases hpe
    cases hbo : bytesOf (blk.take k.toNat) with
    | none => rw [hbo] at ha; cases ha
    | some l =>
    rw [hbo] at ha
    simp only [Option.bind_some, Option.some.injEq, Did.out.injEq] at ha
    subst ha
    obtain ⟨A, hρ, hA, hm⟩ := hx.bptr_inv
    rcases hm with hm | ⟨B, kk, hm, rfl⟩
    · exact (not_gone H hb hm).elim
    obtain ⟨c, c1, c2, c3, c4, c5, c6⟩ := live_cells H hm hb
    obtain ⟨b1, b2⟩ := bytesOf_get hbo
    have hll : l.length = k.toNat := by rw [b1]; simp; omega
    have hkk : k = (l.length : Nat) := by omega
    have hr := Lib.run_unsafeString_row (P := P) w t0 t1 o.type t hpu (by simpa [rowOk] using hrow) B kk (by simp [World.shape?, c1, c2]) l (fun h0 => by rw [h0] at hll; simp at hll; omega) (by omega) (by omega) (fun j x hx => by
      have hj : j < l.length := (List.getElem?_eq_some_iff.1 hx).1
      have h1 := b2 j x hx
      rw [List.getElem?_take, if_pos (by omega)] at h1
      have hcj : j < c.size := by omega
      have h2 := c6 j _ c[j] h1 (Array.getElem?_eq_getElem hcj)
      rw [add_off _ rfl]
      simp only [Nat.zero_add, World.cell?, c1, Option.isSome_none, Bool.false_eq_true, if_false, Array.getElem?_eq_getElem hcj]
      rw [h2.int_inv])
    rw [← hkk, ← hρ] at hr
    have hin : b < n := by
      rcases Nat.lt_or_ge b n with h' | h'
      · exact h'
      · rw [H.fr b h'] at hm; cases hm
    obtain ⟨d1, d2⟩ := H.drop (i := b) hin
    have hg : ∀ i A sz, updM M b .gone i = .live A sz → i ≠ b ∧ M i = .live A sz := fun i A sz hi => by
      by_cases e : i = b
      · subst e; simp only [updM, if_pos] at hi; cases hi
      · simp only [updM, if_neg e] at hi; exact ⟨e, hi⟩
    have hother : ∀ b', b' ≠ B → (w.freeze ⟨B, 0, none⟩ l.length).heap[b']? = w.heap[b']? := fun b' hb' => freeze_other w _ _ b' hb'
    refine ⟨_, _, I, updM M b .gone, .inl (hrun _ _ hr), .pure _ _ (.str _), ⟨?_, d1.fr, d1.no, ?_, d1.inj⟩, ⟨?_, ?_, ?_, ?_, ?_, .refl _, d2.mp, fun _ _ h _ => h, ?_⟩, fun i hi hf => ?_⟩
    · intro b' o' hb'
      rw [hother b' (fun e => by rw [e, c5] at hb'; cases hb')]
      exact H.imm b' o' hb'
    · intro i A sz hi
      obtain ⟨e1, e2⟩ := hg i A sz hi
      obtain ⟨g1, g2, blk', c', el', g3, g4, g5⟩ := d1.live i A sz hi
      exact ⟨g1, g2, blk', c', el', g3, by rw [hother _ (fun h => e1 (H.inj i b A sz ⟨B, 0, none⟩ _ e2 hm h))]; exact g4, g5⟩
    · exact (freeze_same w _ _).1
    · exact (freeze_same w _ _).2.1
    · exact (freeze_same w _ _).2.2
    · rw [freeze_size]; exact Nat.le_refl _
    · intro b' hb' hnl
      exact hother b' (fun e => hnl ⟨b, ⟨B, 0, none⟩, _, hm, e.symm⟩)
    · rintro b' ⟨i, A, sz, hi, rfl⟩
      obtain ⟨e1, e2⟩ := hg i A sz hi
      exact .inl ⟨i, A, sz, e2, rfl⟩
    · have : i ≠ b := fun e => by rw [e, hm] at hf; cases hf
      simp only [updM, if_neg this]; exact hf
  · cases ha

theorem lk_a : Extern.allNextRows.lookup "internal/abi.NoEscape" = none := by kernel_rfl
theorem lk_b : Extern.allNextRows.lookup "" = none := by kernel_rfl
theorem lk_c : Extern.allGenericRows.lookup "internal/abi.NoEscape" = none := by kernel_rfl
theorem lk_d : Extern.allTypedRows.lookup "internal/abi.NoEscape" = none := by kernel_rfl
theorem lk_e : Extern.allRows.lookup "internal/abi.NoEscape" = some Extern.AbiNoEscape.same := by kernel_rfl
theorem lk_next (a b : Array TypeId) : ((Extern.allNextRows.lookup "internal/abi.NoEscape").map (· a b) <|> (Extern.allNextRows.lookup "").map (· a b)) = none := by rw [lk_a, lk_b]; rfl
theorem lk_find (a b c : Array TypeId) : (((Extern.allGenericRows.lookup "internal/abi.NoEscape").map (· a b c) <|> (Extern.allTypedRows.lookup "internal/abi.NoEscape").map (· b c) <|> Extern.allRows.lookup "internal/abi.NoEscape") <|> ((Extern.allGenericRows.lookup "").map (· a b c) <|> (Extern.allTypedRows.lookup "").map (· b c) <|> Extern.allRows.lookup "")) = some Extern.AbiNoEscape.same := by rw [lk_c, lk_d, lk_e]; rfl

/-- A function without a body that hands its argument back. -/
theorem same_sound {o : Oper} {g : Operand} {xs : Array Operand} {ts : Array TypeId} {f : FuncId} {cap : List AV} {x : AV} (ho : o.op = .call { callee := .value g, args := xs, argTypes := ts }) (H : HRel I M h n w) (hev : ∀ x, VRel I M (ev x) (ρ x))
    (hg : ev g = .func f cap) (hf : isSame P f = true) (hx : xs.toList.map ev ++ cap = [x]) : Yields1 P o ρ I M h n w slot { v := x } := by
  unfold isSame at hf
  split at hf
  case h_2 => cases hf
  rename_i fn hfn
  simp only [Bool.and_eq_true, beq_iff_eq] at hf
  obtain ⟨hb, hnm, hor⟩ := hf
  have hgv := hev g
  rw [hg] at hgv
  obtain ⟨vs, hρ, s1, s2⟩ := hgv.func_inv
  have hargs : ∃ v, xs.map ρ ++ vs = #[v] ∧ VRel I M x v := by
    have hl : xs.size + cap.length = 1 := by have := congrArg List.length hx; simpa using this
    match hxs : xs.toList, cap, hx with
    | [], [y], hx =>
      simp at hx
      subst hx
      have e1 : xs = #[] := by rw [← Array.toArray_toList (xs := xs), hxs]
      have e2 : vs.size = 1 := by simpa using s1
      refine ⟨vs[0], ?_, s2 0 y vs[0] rfl (Array.getElem?_eq_getElem (by omega))⟩
      subst e1
      apply Array.ext
      · simp [e2]
      · intro i h1 h2
        have : i = 0 := by simp at h2; omega
        subst this; simp
    | [y], [], hx =>
      simp at hx
      subst hx
      have e1 : xs = #[y] := by rw [← Array.toArray_toList (xs := xs), hxs]
      have e2 : vs = #[] := Array.eq_empty_of_size_eq_zero (by simpa using s1)
      subst e1; subst e2
      exact ⟨ρ y, by simp, hev y⟩
    | y :: z :: r, cap, hx => simp at hx
    | [y], z :: r, hx => simp at hx
    | [], y :: z :: r, hx => simp at hx
    | [], [], hx => simp at hx
  obtain ⟨v, hv, hr⟩ := hargs
  refine .ofRun H (v := v) ?_ hr
  have e1 : (callFunc f #[v]).run P w = .ok (.value v) w := by
    rw [run_callFunc_extern (e := Extern.AbiNoEscape.same) hfn (by rw [hnm]; decide) hb (by unfold Extern.findNext; rw [hnm, hor]; exact lk_next _ _) (by unfold Extern.find; rw [hnm, hor]; exact lk_find _ _ _)]
    rfl
  simp only [execOp, ho, resolve, hρ, Deferred.ofValue, invoke, Sem.run_bind, Sem.run_pure, Result.andThen_ok, pure_bind, Array.empty_append, hv, e1]

theorem copy0_sound {o : Oper} {args : Array Operand} {argTypes : Array TypeId} (ho : o.op = .call { callee := .builtin .copy, args, argTypes }) (H : HRel I M h n w) (hev : ∀ x, VRel I M (ev x) (ρ x))
    {x y : Operand} (hargs : args.toList = [x, y]) {b len : Nat} {t : TypeId} (hex : ev x = .bsl b len t) (hey : ev y = .nilsl) {e : TypeId} {k : Nat} (he : (argTypes[0]?).bind (telem P) = some e) (hk : tsize P e = some k) : Yields1 P o ρ I M h n w slot { v := .int .i64 0 } := by
  have hargs' : args = #[x, y] := by rw [← Array.toArray_toList (xs := args), hargs]
  subst hargs'
  have hx := hev x
  have hy := hev y
  rw [hex] at hx
  rw [hey] at hy
  obtain ⟨A, cap, hρ, hA, _⟩ := hx.bsl_inv
  have hρy := hy.nilsl_inv
  obtain ⟨t0, ht0, ht0'⟩ : ∃ t0, argTypes[0]? = some t0 ∧ telem P t0 = some e := by
    cases h0 : argTypes[0]? with
    | none => simp [h0] at he
    | some t0 => exact ⟨t0, rfl, by simpa [h0] using he⟩
  refine .ofRun H (v := .int .i64 0) ?_ (.pure _ _ (.int _ _))
  simp [execOp, ho, resolve, invoke, builtin, Builtin.copy_, ht0, hρ, hρy, run_underlying (telem_spec ht0'), run_sizeOf hk, Builtin.lenOf, Builtin.firstCells, storeCells, goInt]

theorem cap0_sound {o : Oper} {args : Array Operand} {argTypes : Array TypeId} (ho : o.op = .call { callee := .builtin .cap, args, argTypes }) (H : HRel I M h n w) (hev : ∀ x, VRel I M (ev x) (ρ x))
    {x : Operand} (hargs : args.toList = [x]) (hex : ev x = .nilsl) {e : TypeId} (he : (argTypes[0]?).bind (telem P) = some e) : Yields1 P o ρ I M h n w slot { v := .int .i64 0 } := by
  have hargs' : args = #[x] := by rw [← Array.toArray_toList (xs := args), hargs]
  subst hargs'
  have hx := hev x
  rw [hex] at hx
  have hρ := hx.nilsl_inv
  obtain ⟨t0, ht0, ht0'⟩ : ∃ t0, argTypes[0]? = some t0 ∧ telem P t0 = some e := by
    cases h0 : argTypes[0]? with
    | none => simp [h0] at he
    | some t0 => exact ⟨t0, rfl, by simpa [h0] using he⟩
  refine .ofRun H (v := .int .i64 0) ?_ (.pure _ _ (.int _ _))
  simp [execOp, ho, resolve, invoke, builtin, Builtin.cap_, ht0, hρ, run_underlying (telem_spec ht0'), goInt]

theorem lk_f : Extern.allNextRows.lookup "internal/bytealg.MakeNoZero" = none := by kernel_rfl
theorem lk_g : Extern.allGenericRows.lookup "internal/bytealg.MakeNoZero" = none := by kernel_rfl
theorem lk_h : Extern.allTypedRows.lookup "internal/bytealg.MakeNoZero" = some Extern.BytealgMakeNoZero.makeNoZero := by kernel_rfl
theorem lk_next2 (a b : Array TypeId) : ((Extern.allNextRows.lookup "internal/bytealg.MakeNoZero").map (· a b) <|> (Extern.allNextRows.lookup "").map (· a b)) = none := by rw [lk_f, lk_b]; rfl
theorem lk_find2 (a b c : Array TypeId) : (((Extern.allGenericRows.lookup "internal/bytealg.MakeNoZero").map (· a b c) <|> (Extern.allTypedRows.lookup "internal/bytealg.MakeNoZero").map (· b c) <|> Extern.allRows.lookup "internal/bytealg.MakeNoZero") <|> ((Extern.allGenericRows.lookup "").map (· a b c) <|> (Extern.allTypedRows.lookup "").map (· b c) <|> Extern.allRows.lookup "")) = some (Extern.BytealgMakeNoZero.makeNoZero b c) := by rw [lk_g, lk_h]; rfl

/-- A row of bytes, of whatever bytes. -/
theorem mkz_sound {o : Oper} {g : Operand} {xs : Array Operand} {ts : Array TypeId} {f : FuncId} {cap : List AV} {e : TypeId} {k : Int} (ho : o.op = .call { callee := .value g, args := xs, argTypes := ts }) (H : HRel I M h n w) (hev : ∀ x, VRel I M (ev x) (ρ x)) (hs : M slot = .fresh) (hn : slot < n)
    (hg : ev g = .func f cap) (hf : mkzT P f = some e) (hx : xs.toList.map ev ++ cap = [.int .i64 k]) (hk0 : 0 < k) (hk : k ≤ 2 ^ 40) : Yields1 P o ρ I M h n w slot { v := .bsl slot k.toNat e, up := [(slot, some [])] } := by
  unfold mkzT at hf
  split at hf
  case h_2 => cases hf
  rename_i fn hfn
  split at hf
  case isFalse => cases hf
  rename_i hc
  simp only [Bool.and_eq_true, beq_iff_eq] at hc
  obtain ⟨hb, hnm, hor⟩ := hc
  split at hf
  case h_2 => cases hf
  rename_i rt hrt
  have hrt' : fn.resultTypes = #[rt] := by rw [← Array.toArray_toList (xs := fn.resultTypes), hrt]
  have hgv := hev g
  rw [hg] at hgv
  obtain ⟨vs, hρ, s1, s2⟩ := hgv.func_inv
  have hargs : xs.map ρ ++ vs = #[.int .i64 k] := by
    match hxs : xs.toList, cap, hx with
    | [], [y], hx =>
      simp at hx
      subst hx
      have e1 : xs = #[] := by rw [← Array.toArray_toList (xs := xs), hxs]
      have e2 : vs.size = 1 := by simpa using s1
      have h0 := s2 0 _ vs[0] rfl (Array.getElem?_eq_getElem (by omega))
      subst e1
      apply Array.ext
      · simp [e2]
      · intro i h1 h2
        have : i = 0 := by simp at h2; omega
        subst this; simp [h0.int_inv]
    | [y], [], hx =>
      simp at hx
      have e1 : xs = #[y] := by rw [← Array.toArray_toList (xs := xs), hxs]
      have e2 : vs = #[] := Array.eq_empty_of_size_eq_zero (by simpa using s1)
      have h0 := hev y
      rw [hx] at h0
      subst e1; subst e2
      simp [h0.int_inv]
    | y :: z :: r, cap, hx => simp at hx
    | [y], z :: r, hx => simp at hx
    | [], y :: z :: r, hx => simp at hx
    | [], [], hx => simp at hx
  obtain ⟨m, rfl⟩ : ∃ m : Nat, k = (m : Int) := ⟨k.toNat, by omega⟩
  obtain ⟨cs, hr, hle, _⟩ := Lib.run_makeNoZero (P := P) w fn.params rt e (telem_spec hf) m (by omega)
  have e1 : (callFunc f #[.int .i64 (m : Int)]).run P w = .ok (.value (.slice (some ⟨w.heap.size, 0, none⟩) m cs.size)) (w.drew.drew.alloc (.cells cs e)) := by
    rw [run_callFunc_extern (e := Extern.BytealgMakeNoZero.makeNoZero fn.params fn.resultTypes) hfn (by rw [hnm]; decide) hb (by unfold Extern.findNext; rw [hnm, hor]; exact lk_next2 _ _) (by unfold Extern.find; rw [hnm, hor]; exact lk_find2 _ _ _), hrt', hr]
    rfl
  have hrun : (execOp ρ o).run P w = .ok (.value (.slice (some ⟨w.heap.size, 0, none⟩) m cs.size)) (w.drew.drew.alloc (.cells cs e)) := by
    simp only [execOp, ho, resolve, hρ, Deferred.ofValue, invoke, Sem.run_bind, Sem.run_pure, Result.andThen_ok, pure_bind, Array.empty_append, hargs, e1]
  obtain ⟨r1, r2⟩ := H.drew.drew.alloc (el := e) (c := cs) hs hn (blk := []) (Nat.zero_le _) rfl (fun j y u hy => by simp at hy)
  exact ⟨_, _, I, _, .inl hrun, .bsl _ _ _ w.heap.size cs.size _ (by simp only [updM, if_pos]; rfl) (by simpa using hle) (by omega) (Nat.le_refl _), r1, ((Ext.drew I M w).trans (Ext.drew I M w.drew)).trans r2, updM_other⟩
end
end Go.Ab

set_option linter.unusedVariables false
set_option linter.unusedSimpArgs false
set_option maxRecDepth 10000
namespace Go.Ab
open Go.RowKit

section
variable {P : Program} {ρ : Operand → Value} {I : Imm} {M : Mp} {h : Heap} {n : Nat} {w : World} {slot : Nat} {ev : Operand → AV} {pu : Bool}

theorem bind_pureOut {a : Option AV} {out : Out} (h : a.bind pureOut = some (.out out)) : ∃ x, a = some x ∧ out = { v := x } := by
  cases a with
  | none => cases h
  | some x => simp only [Option.bind_some, pureOut, Option.some.injEq, Did.out.injEq] at h; exact ⟨x, rfl, h.symm⟩

theorem aop_sound {o : Oper} (H : HRel I M h n w) (hev : ∀ x, VRel I M (ev x) (ρ x)) (hs : M slot = .fresh) (hn : slot < n) {out : Out} (ha : aop P pu o.op slot ev h = some (.out out)) : Yields1 P o ρ I M h n w slot out := by
  unfold aop at ha
  split at ha
  · rename_i x ho
    simp only [pureOut, Option.some.injEq, Did.out.injEq] at ha
    subst ha
    exact .pure' H (by simp [execOp, ho]) (hev x)
  · rename_i x ho
    simp only [pureOut, Option.some.injEq, Did.out.injEq] at ha
    subst ha
    exact .pure' H (by simp [execOp, ho]) (hev x)
  · rename_i c a b ho
    have hc := hev c
    split at ha
    · rename_i t hes
      simp only [pureOut, Option.some.injEq, Did.out.injEq] at ha
      subst ha
      rw [hes] at hc
      refine .pure' H (v := if t then ρ a else ρ b) ?_ (by cases t <;> exact hev _)
      simp [execOp, ho, hc.bool_inv, asBool]
    · cases ha
  · rename_i t ho
    exact alloc_sound ho H hs hn ha
  · rename_i t x ho
    exact box_sound ho H hev hs hn ha
  · rename_i t parts ho
    obtain ⟨x, hx, rfl⟩ := bind_pureOut ha
    exact build_sound ho H hev hx
  · rename_i t len parts ho
    exact buildSlice_sound ho H hev hs hn ha
  · rename_i t a ho
    exact load_sound ho H hev ha
  · rename_i t a x ho
    exact store_sound ho H hev ha
  · rename_i x ho
    have hx := hev x
    split at ha
    · rename_i b off hes
      simp only [pureOut, Option.some.injEq, Did.out.injEq] at ha
      subst ha
      rw [hes] at hx
      obtain ⟨A, hρ, _⟩ := hx.ptr_inv
      exact .pure' H (by simp [execOp, ho, hρ]) (hρ ▸ hx)
    · rename_i cs hes
      simp only [pureOut, Option.some.injEq, Did.out.injEq] at ha
      subst ha
      rw [hes] at hx
      generalize hρ : ρ x = q at hx
      have hq := hx.pp_inv
      cases hq with
      | pp => exact .pure' H (by simp [execOp, ho, hρ]) hx
    · rename_i b k t hes
      simp only [pureOut, Option.some.injEq, Did.out.injEq] at ha
      subst ha
      rw [hes] at hx
      obtain ⟨A, hρ, _⟩ := hx.tptr_inv
      exact .pure' H (by simp [execOp, ho, hρ]) (hρ ▸ hx)
    · rename_i f cap hes
      simp only [pureOut, Option.some.injEq, Did.out.injEq] at ha
      subst ha
      rw [hes] at hx
      obtain ⟨vs, hρ, _⟩ := hx.func_inv
      exact .pure' H (by simp [execOp, ho, hρ]) (hρ ▸ hx)
    · cases ha
  · rename_i op t x y ty ho
    exact binH_sound ho H hev ha
  · rename_i op t x ho
    obtain ⟨z, hz, rfl⟩ := bind_pureOut ha
    obtain ⟨u, h1, h2⟩ := un_sound (P := P) (w := w) (hev x) hz
    exact .pure' H (by simp [execOp, ho, h1]) h2
  · rename_i src dst x ho
    exact conv_sound ho H hev ha
  · rename_i f first cap ho
    split at ha
    · rename_i hf
      simp only [pureOut, Option.some.injEq, Did.out.injEq] at ha
      subst ha
      have hf' : first = #[] := by simpa using hf
      subst hf'
      exact func_sound ho H hev
    · cases ha
  · rename_i t l c ho
    exact make_sound ho H hev hs hn ha
  · rename_i t x lo hi ho
    exact sliceH_sound ho H hev ha
  · rename_i t x i ho
    obtain ⟨z, hz, rfl⟩ := bind_pureOut ha
    exact fieldAddr_sound ho H hev hz
  · rename_i t x i ho
    obtain ⟨z, hz, rfl⟩ := bind_pureOut ha
    exact field_sound ho H hev hz
  · rename_i t x ix ho
    obtain ⟨z, hz, rfl⟩ := bind_pureOut ha
    exact indexAddr_sound ho H hev hz
  · rename_i t x ix ho
    obtain ⟨z, hz, rfl⟩ := bind_pureOut ha
    exact index_sound ho H hev hz
  · rename_i x i ho
    split at ha
    · rename_i vs hes
      obtain ⟨z, hz, rfl⟩ := bind_pureOut ha
      exact extract_sound ho H hev hes hz
    · cases ha
  · rename_i b args argTypes ho
    unfold abuiltin at ha
    generalize hal : args.toList = al at ha
    split at ha
    · rename_i x s he
      match al, he with
      | [x', y'], he =>
        simp only [List.map_cons, List.map_nil, List.cons.injEq, and_true] at he
        obtain ⟨rfl, hey⟩ := he
        exact appendS_sound ho H hev hs hn hal hey ha
      | [], he => simp at he
      | [_], he => simp at he
      | _ :: _ :: _ :: _, he => simp at he
    · rename_i x y _ he
      match al, he with
      | [x', y'], he =>
        simp only [List.map_cons, List.map_nil, List.cons.injEq, and_true] at he
        obtain ⟨rfl, rfl⟩ := he
        exact append_sound ho H hev hs hn hal ha
    · rename_i he
      match al, he with
      | [x'], he =>
        simp only [List.map_cons, List.map_nil, List.cons.injEq, and_true] at he
        simp only [pureOut, Option.some.injEq, Did.out.injEq] at ha
        subst ha
        exact (sliceData_sound ho H hev hal).1 he
      | [], he => simp at he
      | _ :: _ :: _, he => simp at he
    · rename_i b len t he
      match al, he with
      | [x'], he =>
        simp only [List.map_cons, List.map_nil, List.cons.injEq, and_true] at he
        simp only [pureOut, Option.some.injEq, Did.out.injEq] at ha
        subst ha
        exact (sliceData_sound ho H hev hal).2 _ _ _ he
      | [], he => simp at he
      | _ :: _ :: _, he => simp at he
    · rename_i x y he
      match al, he with
      | [x', y'], he =>
        simp only [List.map_cons, List.map_nil, List.cons.injEq, and_true] at he
        obtain ⟨rfl, rfl⟩ := he
        exact unsafeString_sound ho H hev hal ha
    · rename_i b len t he
      match al, he with
      | [x', y'], he =>
        simp only [List.map_cons, List.map_nil, List.cons.injEq, and_true] at he
        obtain ⟨hex, hey⟩ := he
        split at ha
        · rename_i e hte
          split at ha
          · rename_i k hk
            simp only [pureOut, Option.some.injEq, Did.out.injEq] at ha
            subst ha
            exact copy0_sound ho H hev hal hex hey hte hk
          · cases ha
        · cases ha
      | [], he => simp at he
      | [_], he => simp at he
      | _ :: _ :: _ :: _, he => simp at he
    · rename_i x y _ he
      match al, he with
      | [x', y'], he =>
        simp only [List.map_cons, List.map_nil, List.cons.injEq, and_true] at he
        obtain ⟨rfl, rfl⟩ := he
        exact copy_sound ho H hev hal ha
    · rename_i he
      match al, he with
      | [x'], he =>
        simp only [List.map_cons, List.map_nil, List.cons.injEq, and_true] at he
        split at ha
        · rename_i e hte
          simp only [pureOut, Option.some.injEq, Did.out.injEq] at ha
          subst ha
          exact cap0_sound ho H hev hal he hte
        · cases ha
      | [], he => simp at he
      | _ :: _ :: _, he => simp at he
    · rename_i x he
      match al, he with
      | [x'], he =>
        simp only [List.map_cons, List.map_nil, List.cons.injEq, and_true] at he
        subst he
        obtain ⟨z, hz, rfl⟩ := bind_pureOut ha
        cases ht : argTypes[0]? with
        | none => simp [ht] at hz
        | some t => exact len_sound ho H hev hal ht (by simpa [ht] using hz)
    · rename_i x rest he
      match al, he with
      | x' :: rest', he =>
        simp only [List.map_cons, List.cons.injEq] at he
        obtain ⟨rfl, rfl⟩ := he
        obtain ⟨z, hz, rfl⟩ := bind_pureOut ha
        obtain ⟨r, h1, h2⟩ := fold2_sound (P := P) (w := w) amax2 Builtin.max2 (fun a b c u v hu hv hc => max2_rel hu hv hc) rest' _ _ _ (hev x') hev hz
        refine .pure' H (v := r) ?_ h2
        have hm : (args.map ρ).toList = ρ x' :: rest'.map ρ := by simp [hal]
        simp only [execOp, ho, resolve, invoke, builtin, pure_bind, Builtin.max_, hm, Sem.run_bind, h1, Result.andThen_ok, Sem.run_pure]
    · rename_i x rest he
      match al, he with
      | x' :: rest', he =>
        simp only [List.map_cons, List.cons.injEq] at he
        obtain ⟨rfl, rfl⟩ := he
        obtain ⟨z, hz, rfl⟩ := bind_pureOut ha
        obtain ⟨r, h1, h2⟩ := fold2_sound (P := P) (w := w) amin2 Builtin.min2 (fun a b c u v hu hv hc => min2_rel hu hv hc) rest' _ _ _ (hev x') hev hz
        refine .pure' H (v := r) ?_ h2
        have hm : (args.map ρ).toList = ρ x' :: rest'.map ρ := by simp [hal]
        simp only [execOp, ho, resolve, invoke, builtin, pure_bind, Builtin.min_, hm, Sem.run_bind, h1, Result.andThen_ok, Sem.run_pure]
    · cases ha
  · rename_i g xs ts ho
    split at ha
    · rename_i f cap hg
      split at ha
      · rename_i hf
        split at ha
        · rename_i x hx
          simp only [pureOut, Option.some.injEq, Did.out.injEq] at ha
          subst ha
          exact same_sound ho H hev hg hf hx
        · cases ha
      · split at ha
        · rename_i e he
          split at ha
          · rename_i k hx
            split at ha
            · rename_i hk
              simp only [Option.some.injEq, Did.out.injEq] at ha
              subst ha
              exact mkz_sound ho H hev hs hn hg he hx hk.1 hk.2
            · cases ha
          · cases ha
        · cases ha
    · cases ha
  · rename_i t x ho
    split at ha
    · rename_i ht
      simp only [pureOut, Option.some.injEq, Did.out.injEq] at ha
      subst ha
      have hu : ∃ u, P.underlying t = some u ∧ ∀ ms, u ≠ .interface ms := by
        unfold tagg at ht
        cases hu : P.underlying t with
        | none => simp [hu] at ht
        | some u => exact ⟨u, rfl, fun ms e => by subst e; simp [hu] at ht⟩
      obtain ⟨u, hu, hni⟩ := hu
      refine .pure' H (v := .iface t (ρ x)) ?_ (.ifc _ _ _ (hev x))
      have : (underlying t).run P w = .ok u w := by simp [underlying, hu, Sem.run_bind, run_program]
      simp only [execOp, ho, Instr.makeInterface, Sem.run_bind, this, Result.andThen_ok]
      cases u <;> first | rfl | exact absurd rfl (hni _)
    · cases ha
  · split at ha
    · split at ha <;> cases ha
    · cases ha
  · cases ha

theorem bind_pureOut_call {a : Option AV} {f : FuncId} {args : List AV} (h : a.bind pureOut = some (.call f args)) : False := by
  cases a <;> cases h

theorem abuildSlice_call {pu : Bool} {t : TypeId} {len : Nat} {parts : List (Nat × AV)} {f : FuncId} {args : List AV} (ha : abuildSlice P pu slot t len parts = some (.call f args)) : False := by
  unfold abuildSlice at ha
  split at ha
  · split at ha
    · split at ha
      · rw [Option.bind_eq_some_iff] at ha
        obtain ⟨cs, _, ha⟩ := ha
        cases pu with
        | false => simp at ha
        | true =>
          simp only [if_true] at ha
          split at ha
          · simp [pureOut] at ha
          · cases ha
      · cases ha
    · cases ha
  · cases ha

theorem aop_call {op : Op} {f : FuncId} {args : List AV} (ha : aop P pu op slot ev h = some (.call f args)) :
    (∃ (g : Operand) (xs : Array Operand) (ts : Array TypeId) (cap : List AV), op = .call { callee := .value g, args := xs, argTypes := ts } ∧ ev g = .func f cap ∧ args = xs.toList.map ev ++ cap ∧ isSame P f = false ∧ mkzT P f = none) ∨
    (∃ (r : Operand) (name : String) (xs : Array Operand) (ts : Array TypeId) (t : TypeId) (x : AV), op = .call { callee := .invoke r name, args := xs, argTypes := ts } ∧ ev r = .ifc t x ∧ dispatch P t name = some f ∧ args = x :: xs.toList.map ev) := by
  unfold aop at ha
  split at ha
  case h_23 =>
    rename_i g xs ts
    split at ha
    · rename_i f' cap hg
      split at ha
      · split at ha <;> cases ha
      rename_i hs
      split at ha
      · split at ha
        · split at ha <;> cases ha
        · cases ha
      rename_i hm
      simp only [Option.some.injEq, Did.call.injEq] at ha
      obtain ⟨rfl, rfl⟩ := ha
      exact .inl ⟨g, xs, ts, cap, rfl, hg, rfl, by simpa using hs, hm⟩
    · cases ha
  case h_25 =>
    rename_i r name xs ts
    split at ha
    · rename_i t x hr
      split at ha
      · rename_i f' hd
        simp only [Option.some.injEq, Did.call.injEq] at ha
        obtain ⟨rfl, rfl⟩ := ha
        exact .inr ⟨r, name, xs, ts, t, x, rfl, hr, hd, rfl⟩
      · cases ha
    · cases ha
  all_goals first
    | (cases ha; done)
    | exact (bind_pureOut_call ha).elim
    | (exfalso; repeat' split at ha
       all_goals first | (cases ha; done) | exact bind_pureOut_call ha)
    | (exfalso; unfold aload at ha; repeat' split at ha
       all_goals first | (cases ha; done) | exact bind_pureOut_call ha | (rename_i hq; revert ha; cases getAs _ _ _ <;> simp [pureOut]))
    | (exfalso; unfold astore at ha; repeat' split at ha
       all_goals cases ha)
    | exact (abuildSlice_call ha).elim
    | (exfalso; unfold amake at ha; repeat' split at ha
       all_goals cases ha)
    | (exfalso; unfold aconvert at ha; repeat' split at ha
       all_goals first | (cases ha; done) | (revert ha; cases bytesOf _ <;> simp))
    | (exfalso; unfold abinH at ha; repeat' split at ha
       all_goals first | (cases ha; done) | exact bind_pureOut_call ha)
    | (exfalso; unfold asliceH at ha; repeat' split at ha
       all_goals first | (cases ha; done) | exact bind_pureOut_call ha)
    | (exfalso; unfold abuiltin at ha; split at ha
       · unfold aappendS at ha; repeat' split at ha
         all_goals cases ha
       · unfold aappend at ha; repeat' split at ha
         all_goals cases ha
       · cases ha
       · cases ha
       · unfold aunsafeString at ha; repeat' split at ha
         all_goals first | (cases ha; done) | (revert ha; cases bytesOf _ <;> simp)
       · repeat' split at ha
         all_goals cases ha
       · unfold acopy at ha; repeat' split at ha
         all_goals cases ha
       · split at ha <;> cases ha
       all_goals first | (cases ha; done) | exact bind_pureOut_call ha)

/-- A call: the function is entered with arguments that are what the abstract machine says. -/
theorem call_sound {o : Oper} (hev : ∀ x, VRel I M (ev x) (ρ x)) {f : FuncId} {args : List AV} (ha : aop P pu o.op slot ev h = some (.call f args))
    (hf : ∃ fn c, P.funcs[f]? = some fn ∧ fn.body = some c ∧ (fn.name == "runtime.NumGoroutine") = false) :
    ∃ cargs : Array Value, (execOp ρ o).run P w = .ok (.enter f cargs) w ∧ cargs.size = args.length ∧ ∀ (i : Nat) x v, args[i]? = some x → cargs[i]? = some v → VRel I M x v := by
  rcases aop_call ha with ⟨g, xs, ts, cap, ho, hg, rfl, _, _⟩ | ⟨r, name, xs, ts, t, x, ho, hr, hd, rfl⟩
  case inr =>
    obtain ⟨fn, c, h1, h2, h3⟩ := hf
    have hname : fn.name ≠ "runtime.NumGoroutine" := by simpa using h3
    have hx := hev r
    rw [hr] at hx
    obtain ⟨u, hρ, hu⟩ := hx.ifc_inv
    refine ⟨#[u] ++ xs.map ρ, ?_, by simp; omega, fun i x' v hx' hv => ?_⟩
    · unfold dispatch at hd
      split at hd
      case h_2 => cases hd
      rename_i fs i hund hinfo
      split at hd
      case h_2 => cases hd
      rename_i m hm
      split at hd
      case h_2 => cases hd
      rename_i f' hmf
      split at hd
      case isFalse => cases hd
      rename_i hp
      cases hd
      have e1 : (typeInfo t).run P w = .ok i w := by simp [typeInfo, hinfo, Sem.run_bind, run_program]
      have e2 : (underlying t).run P w = .ok (.struct fs) w := by simp [underlying, hund, Sem.run_bind, run_program]
      have e3 : (method (P.types.size + Made.depth) t u name).run P w = .ok (f, u) w := by
        have hk : ∃ k, P.types.size + Made.depth = k + 1 := ⟨P.types.size + 99, rfl⟩
        obtain ⟨k, hk⟩ := hk
        rw [hk]
        simp only [method, Sem.run_bind, e1, Result.andThen_ok, hm, hp, follow, Sem.run_pure, hmf, receiverAt, e2, Place.get]
      have e4 : (xs.map ρ).size = xs.size := by simp
      simp only [execOp, ho, resolve, hρ, invoke, Sem.run_bind, Sem.run_pure, Result.andThen_ok, Array.size_append, List.size_toArray, List.length_cons, List.length_nil]
      have e5 : (#[Value.iface t u] ++ xs.map ρ)[0]? = some (.iface t u) := by rw [Array.getElem?_append_left (by simp)]; rfl
      have e6 : (#[Value.iface t u] ++ xs.map ρ).extract 1 (0 + 1 + (xs.map ρ).size) = xs.map ρ := by
        apply Array.ext'; simp [List.take_of_length_le]
      simp only [e5, e6, callMethod, Sem.run_bind, run_program, Result.andThen_ok, e3, callFunc, h1, h2, Option.isNone_some, beq_eq_false_iff_ne.2 hname, Bool.false_eq_true, if_false, Sem.run_pure]
    · cases i with
      | zero =>
        rw [Array.getElem?_append_left (by simp)] at hv
        simp at hx' hv; subst hx'; subst hv; exact hu
      | succ i =>
        simp only [List.getElem?_cons_succ] at hx'
        rw [Array.getElem?_append_right (by simp)] at hv
        simp only [List.size_toArray, List.length_cons, List.length_nil, Nat.zero_add, Nat.add_sub_cancel] at hv
        by_cases hi : i < xs.size
        · simp only [List.getElem?_map, Array.getElem?_toList, Array.getElem?_eq_getElem hi, Option.map_some, Option.some.injEq] at hx'
          simp only [Array.getElem?_map, Array.getElem?_eq_getElem hi, Option.map_some, Option.some.injEq] at hv
          subst hx'; subst hv
          exact hev _
        · simp [Array.getElem?_eq_none (by omega : xs.size ≤ i)] at hx'
  obtain ⟨fn, c, h1, h2, h3⟩ := hf
  have hx := hev g
  rw [hg] at hx
  obtain ⟨vs, hρ, s1, s2⟩ := hx.func_inv
  refine ⟨xs.map ρ ++ vs, ?_, by simp [s1], fun i x v hx' hv => ?_⟩
  · have hname : fn.name ≠ "runtime.NumGoroutine" := by simpa using h3
    simp [execOp, ho, resolve, hρ, Deferred.ofValue, invoke, callFunc, h1, h2, hname]
  · by_cases hi : i < xs.size
    · rw [List.getElem?_append_left (by simpa using hi)] at hx'
      rw [Array.getElem?_append_left (by simpa using hi)] at hv
      simp only [List.getElem?_map, Array.getElem?_toList, Array.getElem?_eq_getElem hi, Option.map_some, Option.some.injEq] at hx'
      simp only [Array.getElem?_map, Array.getElem?_eq_getElem hi, Option.map_some, Option.some.injEq] at hv
      subst hx'; subst hv
      exact hev _
    · rw [List.getElem?_append_right (by simp; omega)] at hx'
      rw [Array.getElem?_append_right (by simp; omega)] at hv
      simp only [List.length_map, Array.length_toList] at hx'
      simp only [Array.size_map] at hv
      exact s2 _ x v hx' hv

end
end Go.Ab

set_option linter.unusedVariables false
set_option linter.unusedSimpArgs false
set_option maxRecDepth 10000
namespace Go.Ab
open Go.RowKit

/-! ### Contracts -/
def Callable (P : Program) (f : FuncId) : Prop := ∃ fn c, P.funcs[f]? = some fn ∧ fn.body = some c ∧ (fn.name == "runtime.NumGoroutine") = false

/-- Two lists of values, one beside the other. -/
def AllRel (I : Imm) (M : Mp) (args : List AV) (vs : Array Value) : Prop := vs.size = args.length ∧ ∀ (i : Nat) x v, args[i]? = some x → vs[i]? = some v → VRel I M x v

/-- A call whose arguments and answer are values without memory of the call's own: it leaves all that was there as it was. -/
def PCalls (P : Program) (f : FuncId) (args : List AV) (v : AV) : Prop :=
  Callable P f ∧ ∀ (I : Imm) (w : World) (cargs : Array Value), (∀ b o, I b = some o → w.heap[b]? = some o) → AllRel I M0 args cargs →
    Calls P f cargs w fun e w' => ∃ cv I', e = .returned cv ∧ ILe I I' ∧ (∀ b o, I' b = some o → w'.heap[b]? = some o) ∧ PRel I' v cv ∧ Below w.heap.size w w' ∧
      (∀ b, b < w.heap.size → I b = none → I' b = none)

/-- A call that may come to own blocks, read and change them: 'post' tells of the answer, and of the heap. -/
def HCalls (P : Program) (f : FuncId) (args : List AV) (h : Heap) (n : Nat) (post : AV → Heap → Nat → Prop) : Prop :=
  Callable P f ∧ ∀ (I : Imm) (M : Mp) (w : World) (cargs : Array Value), HRel I M h n w → AllRel I M args cargs →
    Calls P f cargs w fun e w' => ∃ cv v I' M' h' n', e = .returned cv ∧ post v h' n' ∧ VRel I' M' v cv ∧ HRel I' M' h' n' w' ∧ Ext I M w I' M' w' ∧ n ≤ n' ∧
      (∀ i, i < n → M i = .fresh → M' i = .fresh)

/-! ### Own slices turned to values -/
def frz1 (h : Heap) : AV → AV
  | .own b off len e => match h b with
    | some blk => if off + len * e ≤ blk.length ∧ 0 < e ∧ (cut blk off (len * e)).all (·.flat1) then .sl e (chunk e len (cut blk off (len * e))) else .undef
    | none => .undef
  | .ptr _ _ => .opq
  | .tptr .. => .opq
  | .bsl .. => .opq
  | .bptr .. => .opq
  | .func _ _ => .opq
  | .ifc _ _ => .opq
  | .agg _ => .undef
  | .tup _ => .undef
  | x => x

def frz2 (h : Heap) : AV → AV
  | .agg cs => .agg (cs.map (frz1 h))
  | x => frz1 h x

/-- A value without own blocks, as it stands. -/
def frz (h : Heap) : AV → AV
  | .tup vs => .tup (vs.map (frz2 h))
  | x => frz2 h x

def ids1 : AV → List Nat
  | .own b .. => [b]
  | _ => []
def ids2 : AV → List Nat
  | .agg cs => cs.flatMap ids1
  | x => ids1 x

def AV.scal1 : AV → Bool
  | .int .. | .bool _ | .str _ => true
  | _ => false
def AV.scal2 : AV → Bool
  | .agg cs => cs.all (·.scal1)
  | x => x.scal1
/-- Numbers, bools and texts alone. -/
def AV.scalar : AV → Bool
  | .tup vs => vs.all (·.scal2)
  | x => x.scal2

structure ASt where
  τ : Nat → AV
  h : Heap
  n : Nat

def app (st : ASt) (o : Oper) (out : Out) : ASt := { st with τ := putT st.τ o.dst out.v, h := updH st.h out.up }

def awant (ops : Array Oper) (o : Oper) (τ : Nat → AV) : Option Bool :=
  match o.guard with
  | none => some true
  | some (g, want) => match (ops[g]?).bind (·.dst) with
    | some d => match τ d with
      | .bool b => some (b == want)
      | .tup _ => some false
      | _ => none
    | none => some false

/-- Is the slice that is made here only read? ('pa': the slots of such ones) -/
def isPure (pa : List Tmp) (o : Oper) : Bool := match o.dst with | some d => pa.contains d | none => false

def skipOut : Out := { v := .tup [] }

/-- What a call of this kind comes to, as an outcome. -/
def callOut (v : AV) (ids : List Nat) : Out := { v, rd := ids, up := if v.scalar then [] else ids.map (·, none) }

/-- Operation 'o' (its slot 'slot') comes to 'out'. -/
def Res (P : Program) (pa : List Tmp) (ops : Array Oper) (slot : Nat) (o : Oper) (st : ASt) (out : Out) : Prop :=
  (awant ops o st.τ = some true ∧ (aop P (isPure pa o) o.op slot (aev st.τ) st.h = some (.out out) ∨
    ∃ f args v, aop P (isPure pa o) o.op slot (aev st.τ) st.h = some (.call f args) ∧ PCalls P f (args.map (frz2 st.h)) v ∧ out = callOut v (args.flatMap ids2))) ∨
  (awant ops o st.τ = some false ∧ out = skipOut)

/-! ### Statements in the text's order -/
def callK (P : Program) (f : FuncId) (args : List AV) (st : ASt) (K : AV → Heap → Nat → Prop) : Prop :=
  (∃ v, PCalls P f (args.map (frz2 st.h)) v ∧ K v (updH st.h (callOut v (args.flatMap ids2)).up) st.n) ∨
  (∃ post, HCalls P f args st.h st.n post ∧ ∀ v h' n', st.n ≤ n' → post v h' n' → K v h' n')

/-- Own slices of some blocks, taken as only read from here on. -/
def frzT1 (ids : List Nat) (h : Heap) : AV → AV
  | .own b off len e => if b ∈ ids then frz1 h (.own b off len e) else .own b off len e
  | x => x
def frzT (ids : List Nat) (h : Heap) : AV → AV
  | .agg cs => .agg (cs.map (frzT1 ids h))
  | x => frzT1 ids h x

def frzτ (ids : List Nat) (h : Heap) (τ : Nat → AV) : Nat → AV := fun t => frzT ids h (τ t)
def frzSt (ids : List Nat) (st : ASt) (d : Option Tmp) (v : AV) : ASt := { τ := putT (frzτ ids st.h st.τ) d v, h := updH st.h (ids.map (·, none)), n := st.n }

def SWalk (P : Program) (pa : List Tmp) (ops : Array Oper) : List Oper → Nat → ASt → (ASt → Prop) → Prop
  | [], _, st, K => K st
  | o :: rest, slot, st, K =>
    match awant ops o st.τ with
    | some true => match aop P (isPure pa o) o.op slot (aev st.τ) st.h with
      | some (.out out) => SWalk P pa ops rest (slot + 1) (app st o out) K
      | some (.call f args) => (callK P f args st fun v h' n' => SWalk P pa ops rest (slot + 1) { τ := putT st.τ o.dst v, h := h', n := n' } K) ∨
          ∃ v, PCalls P f (args.map (frz2 st.h)) v ∧ SWalk P pa ops rest (slot + 1) (frzSt (args.flatMap ids2) st o.dst v) K
      | none => False
    | some false => SWalk P pa ops rest (slot + 1) (app st o skipOut) K
    | none => False

/-! ### Statements that draw their order -/
def disj (a b : List Nat) : Prop := ∀ x ∈ a, x ∉ b
def outOk (a b : Out) : Prop := disj (a.up.map (·.1)) (b.rd ++ b.up.map (·.1)) ∧ disj (b.up.map (·.1)) a.rd

/-- Does operation 'o' wait for number 'i'? -/
def waitsB (i : Nat) (o : Oper) : Bool := o.after.any fun e => Region.binds .any e && e.on == i

/-- An operation's outcome against those ahead of it: they touch other blocks, or it waits for them. -/
def logOk : List (Nat × Out) → Oper → Out → Prop
  | [], _, _ => True
  | (i, a) :: r, o, b => (outOk a b ∨ waitsB i o = true) ∧ logOk r o b

def hotB (out : Out) : Bool := !(out.up.isEmpty && out.rd.isEmpty)

/-- A call that may change own blocks, and make new ones, wherever the other blocks stand: it comes to 'out'. -/
def OLoc (P : Program) (f : FuncId) (args : List AV) (h : Heap) (out : Out) : Prop :=
  Callable P f ∧ ∀ h' : Heap, (∀ b, b ∈ out.rd ++ out.up.map (·.1) → h' b = h b) → ∀ (I : Imm) (M : Mp) (n : Nat) (w : World) (cargs : Array Value), HRel I M h' n w → AllRel I M args cargs →
    (∀ e, e ∈ out.up.map (·.1) → h' e = none → M e = .fresh ∧ e < n) →
    Calls P f cargs w fun e w' => ∃ cv I' M', e = .returned cv ∧ VRel I' M' out.v cv ∧ HRel I' M' (updH h' out.up) n w' ∧ Ext I M w I' M' w' ∧ (∀ j, j ∉ out.up.map (·.1) → M j = .fresh → M' j = .fresh)

/-- How many more numbers does each statement that draws its order get? (marks among the slots) -/
def growP : List Tmp → Nat
  | [] => 0
  | t :: r => if 1000000 ≤ t then growP r + 1 else growP r

/-- New blocks get numbers behind the statement's own, that nothing ahead has touched. -/
def newOk (lo hi : Nat) (h : Heap) (log : List (Nat × Out)) (out : Out) : Prop := ∀ e ∈ out.up.map (·.1), h e = none → lo ≤ e ∧ e < hi ∧ ∀ p ∈ log, e ∉ p.2.up.map (·.1)

def DWalk (P : Program) (pa : List Tmp) (ops : Array Oper) : List Oper → Nat → Nat → ASt → List (Nat × Out) → (ASt → Prop) → Prop
  | [], _, _, st, _, K => K st
  | o :: rest, i, slot, st, log, K =>
    match awant ops o st.τ with
    | some true => match aop P (isPure pa o) o.op slot (aev st.τ) st.h with
      | some (.out out) => (if hotB out then logOk log o out else True) ∧ DWalk P pa ops rest (i + 1) (slot + 1) (app st o out) (if hotB out then (i, out) :: log else log) K
      | some (.call f args) => (∃ v, PCalls P f (args.map (frz2 st.h)) v ∧
          (if hotB (callOut v (args.flatMap ids2)) then logOk log o (callOut v (args.flatMap ids2)) else True) ∧
          DWalk P pa ops rest (i + 1) (slot + 1) (app st o (callOut v (args.flatMap ids2))) (if hotB (callOut v (args.flatMap ids2)) then (i, callOut v (args.flatMap ids2)) :: log else log) K) ∨
          ∃ out, OLoc P f args st.h out ∧ hotB out = true ∧ logOk log o out ∧ newOk (slot - i + ops.size) (slot - i + ops.size + growP pa) st.h log out ∧ DWalk P pa ops rest (i + 1) (slot + 1) (app st o out) ((i, out) :: log) K
      | none => False
    | some false => DWalk P pa ops rest (i + 1) (slot + 1) (app st o skipOut) log K
    | none => False

def ARegion (P : Program) (pa : List Tmp) (ops : Array Oper) (draw : Bool) (st : ASt) (K : ASt → Prop) : Prop :=
  if draw then DWalk P pa ops ops.toList 0 st.n { st with n := st.n + ops.size + growP pa } [] K
  else SWalk P pa ops ops.toList st.n { st with n := st.n + ops.size } K

/-! ### The whole -/
def stepF (P : Program) (pa : List Tmp) (Q : ASt → Prop) (X : List Item → ASt → Prop) : List Item → ASt → Prop
  | [], st => Q st
  | .code .skip :: k, st => X k st
  | .code (.seq a b) :: k, st => X (.code a :: .code b :: k) st
  | .code (.cond c a b) :: k, st => match aev st.τ c with
    | .bool t => (t = true → X (.code a :: k) st) ∧ (t = false → X (.code b :: k) st)
    | _ => False
  | .code (.block id c) :: k, st => X (.code c :: .inBlock id :: k) st
  | .code (.loop c) :: k, st => X (.code c :: .inLoop c :: k) st
  | .code (.exit id) :: k, st => match exitTo id k with
    | some k' => X k' st
    | none => False
  | .code .ret :: _, st => Q st
  | .code (.region _ ops draw) :: k, st => ARegion P pa ops draw st (X k)
  | .inBlock _ :: k, st => X k st
  | .inLoop c :: k, st => X (.code c :: .inLoop c :: k) st
  | .code (.scope c) :: k, st => X (.code c :: .inScope c :: k) st
  | .code (.label _) :: k, st => X k st
  | .inScope _ :: k, st => X k st
  | _, _ => False

def AW (P : Program) (pa : List Tmp) (Q : ASt → Prop) (k : List Item) (st : ASt) : Prop :=
  ∀ S : List Item → ASt → Prop, (∀ k st, stepF P pa Q S k st → S k st) → S k st

theorem SWalk_mono {P : Program} {pa : List Tmp} {ops : Array Oper} {K K' : ASt → Prop} (hK : ∀ st, K st → K' st) : ∀ (l : List Oper) (slot : Nat) (st : ASt), SWalk P pa ops l slot st K → SWalk P pa ops l slot st K'
  | [], _, st, h => hK st h
  | o :: rest, slot, st, h => by
    simp only [SWalk] at h ⊢
    split at h
    · split at h
      · exact SWalk_mono hK rest _ _ h
      · refine h.imp (fun h => h.imp (fun ⟨v, h1, h3⟩ => ⟨v, h1, SWalk_mono hK rest _ _ h3⟩) (fun ⟨post, h1, h2⟩ => ⟨post, h1, fun v h' n' hn hp => SWalk_mono hK rest _ _ (h2 v h' n' hn hp)⟩)) (fun ⟨v, h1, h3⟩ => ⟨v, h1, SWalk_mono hK rest _ _ h3⟩)
      · exact h
    · exact SWalk_mono hK rest _ _ h
    · exact h

theorem DWalk_mono {P : Program} {pa : List Tmp} {ops : Array Oper} {K K' : ASt → Prop} (hK : ∀ st, K st → K' st) : ∀ (l : List Oper) (i slot : Nat) (st : ASt) (log : List (Nat × Out)), DWalk P pa ops l i slot st log K → DWalk P pa ops l i slot st log K'
  | [], _, _, st, _, h => hK st h
  | o :: rest, i, slot, st, log, h => by
    simp only [DWalk] at h ⊢
    split at h
    · split at h
      · exact ⟨h.1, DWalk_mono hK rest _ _ _ _ h.2⟩
      · rcases h with ⟨v, h1, h3, h4⟩ | ⟨out, h1, h2, h3, h4, h5⟩
        · exact .inl ⟨v, h1, h3, DWalk_mono hK rest _ _ _ _ h4⟩
        · exact .inr ⟨out, h1, h2, h3, h4, DWalk_mono hK rest _ _ _ _ h5⟩
      · exact h
    · exact DWalk_mono hK rest _ _ _ _ h
    · exact h

theorem ARegion_mono {P : Program} {pa : List Tmp} {ops : Array Oper} {draw : Bool} {K K' : ASt → Prop} (hK : ∀ st, K st → K' st) {st : ASt} (h : ARegion P pa ops draw st K) : ARegion P pa ops draw st K' := by
  unfold ARegion at *
  cases draw with
  | true => exact DWalk_mono hK _ _ _ _ _ h
  | false => exact SWalk_mono hK _ _ _ h

theorem stepF_mono {P : Program} {pa : List Tmp} {Q : ASt → Prop} {X Y : List Item → ASt → Prop} (hX : ∀ k st, X k st → Y k st) : ∀ (k : List Item) (st : ASt), stepF P pa Q X k st → stepF P pa Q Y k st := by
  intro k st h
  unfold stepF at *
  split at h <;> first
    | exact h
    | exact hX _ _ h
    | exact ARegion_mono (hX _) h
    | (split at h <;> first | exact hX _ _ h | exact ⟨fun e => hX _ _ (h.1 e), fun e => hX _ _ (h.2 e)⟩ | exact h)

theorem AW_unfold {P : Program} {pa : List Tmp} {Q : ASt → Prop} (k : List Item) (st : ASt) : AW P pa Q k st = stepF P pa Q (AW P pa Q) k st := by
  have fold : ∀ k st, stepF P pa Q (AW P pa Q) k st → AW P pa Q k st := fun k st h S hS =>
    hS k st (stepF_mono (fun k st h => h S hS) k st h)
  refine propext ⟨fun h => h _ fun k st h => stepF_mono fold k st h, fold k st⟩

section
variable {P : Program} {pa : List Tmp} {Q : ASt → Prop} {k : List Item} {st : ASt}
theorem AW_nil : AW P pa Q [] st = Q st := AW_unfold _ _
theorem AW_skip : AW P pa Q (.code .skip :: k) st = AW P pa Q k st := AW_unfold _ _
theorem AW_seq {a b : Code} : AW P pa Q (.code (.seq a b) :: k) st = AW P pa Q (.code a :: .code b :: k) st := AW_unfold _ _
theorem AW_cond {c : Operand} {a b : Code} : AW P pa Q (.code (.cond c a b) :: k) st = (match aev st.τ c with
    | .bool t => (t = true → AW P pa Q (.code a :: k) st) ∧ (t = false → AW P pa Q (.code b :: k) st)
    | _ => False) := AW_unfold _ _
theorem AW_block {id : Nat} {c : Code} : AW P pa Q (.code (.block id c) :: k) st = AW P pa Q (.code c :: .inBlock id :: k) st := AW_unfold _ _
theorem AW_loop {c : Code} : AW P pa Q (.code (.loop c) :: k) st = AW P pa Q (.code c :: .inLoop c :: k) st := AW_unfold _ _
theorem AW_exit {id : Nat} : AW P pa Q (.code (.exit id) :: k) st = (match exitTo id k with | some k' => AW P pa Q k' st | none => False) := AW_unfold _ _
theorem AW_ret : AW P pa Q (.code .ret :: k) st = Q st := AW_unfold _ _
theorem AW_region {id : Nat} {ops : Array Oper} {draw : Bool} : AW P pa Q (.code (.region id ops draw) :: k) st = ARegion P pa ops draw st (AW P pa Q k) := AW_unfold _ _
theorem AW_inBlock {id : Nat} : AW P pa Q (.inBlock id :: k) st = AW P pa Q k st := AW_unfold _ _
theorem AW_scope {c : Code} : AW P pa Q (.code (.scope c) :: k) st = AW P pa Q (.code c :: .inScope c :: k) st := AW_unfold _ _
theorem AW_label {l : Nat} : AW P pa Q (.code (.label l) :: k) st = AW P pa Q k st := AW_unfold _ _
theorem AW_inScope {c : Code} : AW P pa Q (.inScope c :: k) st = AW P pa Q k st := AW_unfold _ _
theorem AW_inLoop {c : Code} : AW P pa Q (.inLoop c :: k) st = AW P pa Q (.code c :: .inLoop c :: k) st := AW_unfold _ _

/-- A loop: what holds at each round's head, and how many rounds are left at most. -/
theorem AW_while (J : Nat → ASt → Prop) {c : Code} (m : Nat) (h0 : J m st) (round : ∀ m st, J m st → (∀ m' st', m' < m → J m' st' → AW P pa Q (.inLoop c :: k) st') → AW P pa Q (.code c :: .inLoop c :: k) st) : AW P pa Q (.code (.loop c) :: k) st := by
  rw [AW_loop]
  have key : ∀ m st, J m st → AW P pa Q (.code c :: .inLoop c :: k) st := by
    intro m
    induction m using Nat.strongRecOn with
    | _ m ih => exact fun st hJ => round m st hJ fun m' st' hm hJ' => by rw [AW_inLoop]; exact ih m' hm st' hJ'
  exact key m st h0
end
end Go.Ab
