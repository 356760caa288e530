/- The abstract machine: values without memory, own blocks by number; what an operation does there. -/
import Derived.Orders
import Derived.Still
import Derived.Laws.Sem
import Derived.Laws.Entries
set_option linter.unusedVariables false
set_option linter.unusedSimpArgs false
namespace Go.Ab

/-- Abstract values. 'sl': a slice that is only read, by its elements (of 'e' cells each); 'own': a slice of an own block ('off' in cells, 'e' cells an element); 'pp': a pointer into memory that is only read, by the cells from there on. -/
inductive AV where
  | undef
  | int (k : IntKind) (n : Int)
  | bool (b : Bool)
  | str (s : ByteArray)
  | agg (cs : List AV)
  | tup (vs : List AV)
  | nilsl
  | sl (e : Nat) (l : List AV)
  | own (b off len e : Nat)
  | ptr (b off : Nat)
  | pp (cs : List AV)
  | nilp
  | func (f : FuncId) (cap : List AV)
  deriving Inhabited

abbrev Blk := List AV
abbrev Heap := Nat → Option Blk

/-- A value's cells, where its kind tells how many. -/
def AV.cells? : AV → Option (List AV)
  | .undef | .tup _ => none
  | .agg cs => some cs
  | x => some [x]

def AV.single : AV → Bool
  | .undef | .tup _ | .agg _ => false
  | _ => true

/-- The abstract value of a constant. -/
def absV : Value → AV
  | .int k n => .int k n
  | .bool b => .bool b
  | .string s => .str s
  | .slice none 0 0 => .nilsl
  | .pointer none => .nilp
  | .agg cs => .agg (cs.toList.map abs1)
  | _ => .undef
where
  abs1 : Value → AV
    | .int k n => .int k n
    | .bool b => .bool b
    | .string s => .str s
    | .slice none 0 0 => .nilsl
    | .pointer none => .nilp
    | _ => .undef

def putT (τ : Nat → AV) (d : Option Tmp) (v : AV) : Nat → AV :=
  match d with
  | some d => fun t => if t = d then v else τ t
  | none => τ

def aev (τ : Nat → AV) : Operand → AV
  | .tmp t => τ t
  | .const v => absV v
  | .func f => .func f []
  | .global _ => .undef

def updH (h : Heap) : List (Nat × Option Blk) → Heap
  | [] => h
  | (i, b) :: r => updH (fun j => if j = i then b else h j) r

/-- What an operation comes to: its value, the blocks that it changes, the blocks that it reads. -/
structure Out where
  v : AV
  up : List (Nat × Option Blk) := []
  rd : List Nat := []

inductive Did where
  | out (o : Out)
  | call (f : FuncId) (args : List AV)

def tsize (P : Program) (t : TypeId) : Option Nat := (P.info? t).map (·.size)
def tbytes (P : Program) (t : TypeId) : Option Nat := (P.info? t).map (·.bytes)
def tzero (P : Program) (t : TypeId) : Option Value := (P.info? t).bind (·.zero)
def tagg (P : Program) (t : TypeId) : Option Bool := (P.underlying t).map fun | .struct _ | .array _ _ => true | _ => false
def telem (P : Program) (t : TypeId) : Option TypeId := match P.underlying t with | some (.slice e) => some e | _ => none

def pureOut (v : AV) : Option Did := some (.out { v })

/-- Cells taken out of cells. -/
def cut (cs : List AV) (off n : Nat) : List AV := (cs.drop off).take n
/-- Cells laid into cells. -/
def lay (cs : List AV) (off : Nat) (new : List AV) : List AV := cs.take off ++ new ++ cs.drop (off + new.length)

def chunk (e : Nat) : Nat → List AV → List AV
  | 0, _ => []
  | n + 1, cs => (if e = 1 then cs.headD .undef else .agg (cs.take e)) :: chunk e n (cs.drop e)

def getAs (agg : Bool) (n : Nat) (cs : List AV) : Option AV :=
  if agg then (if n ≤ cs.length then some (.agg (cs.take n)) else none) else cs.head?

def aload (P : Program) (h : Heap) (t : TypeId) (a : AV) : Option Did :=
  match tagg P t, tsize P t with
  | some g, some n =>
    match a with
    | .pp cs => (getAs g n cs).bind pureOut
    | .ptr b off => match h b with
      | some blk => if off ≤ blk.length then (getAs g n (blk.drop off)).bind fun v => some (.out { v, rd := [b] }) else none
      | none => none
    | _ => none
  | _, _ => none

def astore (P : Program) (h : Heap) (t : TypeId) (a x : AV) : Option Did :=
  match tsize P t, a, x.cells? with
  | some n, .ptr b off, some cs =>
    match h b with
    | some blk => if cs.length = n ∧ off + n ≤ blk.length ∧ cs.all (·.single) then some (.out { v := .undef, up := [(b, some (lay blk off cs))] }) else none
    | none => none
  | _, _, _ => none

def aint : AV → Option Int
  | .int _ n => some n
  | _ => none

def abinInt (op : BinOp) (k : IntKind) (x y : Int) : Option AV :=
  match op with
  | .add => some (.int k (k.wrap (x + y)))
  | .sub => some (.int k (k.wrap (x - y)))
  | .mul => some (.int k (k.wrap (x * y)))
  | .quo => if y = 0 then none else some (.int k (k.wrap (x.tdiv y)))
  | .rem => if y = 0 then none else some (.int k (x.tmod y))
  | .and => some (.int k (k.wrap (BitVec.ofInt k.bits x &&& BitVec.ofInt k.bits y).toNat))
  | .or => some (.int k (k.wrap (BitVec.ofInt k.bits x ||| BitVec.ofInt k.bits y).toNat))
  | .xor => some (.int k (k.wrap (BitVec.ofInt k.bits x ^^^ BitVec.ofInt k.bits y).toNat))
  | .andNot => some (.int k (k.wrap (BitVec.ofInt k.bits x &&& ~~~ (BitVec.ofInt k.bits y)).toNat))
  | .eql => some (.bool (x == y))
  | .neq => some (.bool (x != y))
  | .lss => some (.bool (x < y))
  | .leq => some (.bool (x ≤ y))
  | .gtr => some (.bool (x > y))
  | .geq => some (.bool (x ≥ y))
  | _ => none

def ashift (op : BinOp) (k : IntKind) (x y : Int) : Option AV :=
  if y < 0 then none else
  match op with
  | .shl => some (.int k (k.wrap (x * 2 ^ (min y.toNat k.bits))))
  | .shr => some (.int k (x.fdiv (2 ^ (min y.toNat k.bits))))
  | _ => none

def astrop (op : BinOp) (x y : ByteArray) : Option AV :=
  match op with
  | .add => if ((x.size + y.size : Nat) : Int) > IntKind.i64.max then none else some (.str (x ++ y))
  | .eql => some (.bool (x.toList == y.toList))
  | .neq => some (.bool !(x.toList == y.toList))
  | _ => none

/-- Two values of one type of whole numbers, bools or texts: are they the same? -/
def scEq (P : Program) (t : TypeId) (x y : AV) : Option Bool :=
  match P.underlying t, x, y with
  | some (.int _), .int k a, .int k' b => if k = k' then some (a == b) else none
  | some .bool, .bool a, .bool b => some (a == b)
  | some .string, .str a, .str b => some (a == b)
  | _, _, _ => none

/-- Flat structs, each field a cell: are all the same? -/
def flatEq (P : Program) : List Field → List AV → List AV → Option Bool
  | [], [], [] => some true
  | f :: fs, x :: xs, y :: ys => match scEq P f.type x y, flatEq P fs xs ys with
    | some a, some b => some (a && b)
    | _, _ => none
  | _, _, _ => none

/-- Is a type a struct each of whose fields has a name and is one cell, that may be held against another one? -/
def flatType (P : Program) (t : TypeId) (fs : Array Field) : Bool :=
  !P.stoodInHeld t && !P.eqGuardType P.depth t && fs.toList.zipIdx.all fun (f, i) => f.name != "_" && f.offset == i

def aeq (P : Program) (t : TypeId) (x y : AV) : Option Bool :=
  match x, y with
  | .agg xs, .agg ys => match P.underlying t with
    | some (.struct fs) => if flatType P t fs then flatEq P fs.toList xs ys else none
    | _ => none
  | .bool a, .bool b => match P.underlying t with | some .bool => some (a == b) | _ => none
  | x, .nilsl => match P.underlying t with
    | some (.slice _) => match x with | .nilsl => some true | .own .. => some false | .sl _ (_ :: _) => some false | _ => none
    | _ => none
  | x, .nilp => match P.underlying t with
    | some (.pointer _) => match x with | .nilp => some true | .ptr .. => some false | .pp _ => some false | _ => none
    | _ => none
  | _, _ => none

def abin (P : Program) (op : BinOp) (t : TypeId) (x y : AV) : Option AV :=
  match x, y with
  | .int k a, .int k' b =>
    match op with
    | .shl | .shr => ashift op k a b
    | _ => if k = k' then abinInt op k a b else none
  | .str a, .str b => astrop op a b
  | x, y => match op with
    | .eql => (aeq P t x y).map .bool
    | .neq => (aeq P t x y).map fun r => .bool !r
    | _ => none

def aun (op : UnOp) (x : AV) : Option AV :=
  match op, x with
  | .neg, .int k n => some (.int k (k.wrap (0 - n)))
  | .not, .bool b => some (.bool !b)
  | _, _ => none

def aslice (P : Program) (t : TypeId) (x : AV) (lo hi : Option AV) : Option AV :=
  let bounds (len : Nat) : Option (Nat × Nat) :=
    match (match hi with | some v => aint v | none => some (len : Int)), (match lo with | some v => aint v | none => some 0) with
    | some h, some l => if 0 ≤ l ∧ l ≤ h ∧ h ≤ len then some (l.toNat, h.toNat) else none
    | _, _ => none
  match P.underlying t, x with
  | some .string, .str s => (bounds s.size).map fun (l, h) => .str (s.extract l h)
  | some (.slice e), .sl s xs => if tsize P e = some s then (bounds xs.length).map fun (l, h) => .sl s ((xs.take h).drop l) else none
  | some (.slice e), .nilsl => match tsize P e with
    | some _ => (bounds 0).map fun _ => .nilsl
    | none => none
  | some (.slice e), .own b off len s => match tsize P e with
    | some z => if z = s then (bounds len).map fun (l, h) => .own b (off + l * s) (h - l) s else none
    | none => none
  | _, _ => none

def afieldAddr (P : Program) (t : TypeId) (x : AV) (i : Nat) : Option AV :=
  match P.underlying t with
  | some (.struct fs) => match fs[i]? with
    | some f => match tsize P f.type with
      | some (_ + 1) => match x with
        | .ptr b off => some (.ptr b (off + f.offset))
        | .pp cs => if f.offset ≤ cs.length then some (.pp (cs.drop f.offset)) else none
        | _ => none
      | _ => none
    | none => none
  | _ => none

def apart (P : Program) (t : TypeId) (cs : List AV) (off : Nat) : Option AV :=
  match tagg P t, tsize P t with
  | some g, some n => getAs g n (cs.drop off)
  | _, _ => none

def afield (P : Program) (t : TypeId) (x : AV) (i : Nat) : Option AV :=
  match P.underlying t, x with
  | some (.struct fs), .agg cs => match fs[i]? with
    | some f => apart P f.type cs f.offset
    | none => none
  | _, _ => none

def aindexAddr (P : Program) (t : TypeId) (x ix : AV) : Option AV :=
  match aint ix with
  | some i => match P.underlying t, x with
    | some (.slice e), .sl s xs => if tsize P e = some s ∧ 0 ≤ i ∧ i < (xs.length : Int) then (xs.getD i.toNat .undef).cells?.map .pp else none
    | some (.slice e), .own b off len s => match tsize P e with
      | some z => if z = s ∧ 0 ≤ i ∧ i < (len : Int) then some (.ptr b (off + i.toNat * s)) else none
      | none => none
    | some (.array n e), .ptr b off => match tsize P e with
      | some z => if 0 ≤ i ∧ i < (n : Int) then some (.ptr b (off + i.toNat * z)) else none
      | none => none
    | _, _ => none
  | none => none

def aindex (P : Program) (t : TypeId) (x ix : AV) : Option AV :=
  match aint ix with
  | some i => match P.underlying t, x with
    | some .string, .str s => if 0 ≤ i then (s[i.toNat]?).map fun b => .int .u8 b.toNat else none
    | some (.array n e), .agg cs => match tsize P e with
      | some z => if 0 ≤ i ∧ i < (n : Int) then apart P e cs (i.toNat * z) else none
      | none => none
    | _, _ => none
  | none => none

/-- Parts laid into zero cells. -/
def afill (place : Nat → Option (Nat × Nat)) (cells : List AV) : List (Nat × AV) → Option (List AV)
  | [] => some cells
  | (i, v) :: rest =>
    match place i, v.cells? with
    | some (off, size), some cs => if cs.length = size ∧ off + size ≤ cells.length ∧ cs.all (·.single) then afill place (lay cells off cs) rest else none
    | _, _ => none

def zcells (P : Program) (t : TypeId) : Option (List AV) := (tzero P t).bind fun z => (absV z).cells?.bind fun cs => if cs.all (·.single) then some cs else none

/-- A struct's fields: where each begins, and how many cells it has. -/
def places (P : Program) (fs : Array Field) : Option (List (Nat × Nat)) := fs.toList.mapM fun f => (tsize P f.type).map fun n => (f.offset, n)

def abuild (P : Program) (t : TypeId) (parts : List (Nat × AV)) : Option AV :=
  match P.underlying t, zcells P t with
  | some (.struct fs), some z => match places P fs with
    | some pl => (afill (fun i => pl[i]?) z parts).map .agg
    | none => none
  | some (.array _ e), some z =>
    match tsize P e with
    | some s => (afill (fun i => some (i * s, s)) z parts).map .agg
    | none => none
  | _, _ => none

def repCells : Nat → List AV → List AV
  | 0, _ => []
  | n + 1, z => z ++ repCells n z

def abuildSlice (P : Program) (slot : Nat) (t : TypeId) (len : Nat) (parts : List (Nat × AV)) : Option Did :=
  match telem P t with
  | some e => match tsize P e, zcells P e with
    | some (s + 1), some z => if z.length = s + 1 ∧ len * (s + 1) ≤ 2 ^ 24 then
        (afill (fun i => some (i * (s + 1), s + 1)) (repCells len z) parts).bind fun cs => some (.out { v := .own slot 0 len (s + 1), up := [(slot, some cs)] })
      else none
    | _, _ => none
  | none => none

def amake (P : Program) (slot : Nat) (t : TypeId) (l c : AV) : Option Did :=
  match telem P t, aint l, aint c with
  | some e, some l, some c => match tsize P e, tbytes P e, zcells P e with
    | some (s + 1), some by_, some z => if z.length = s + 1 ∧ l = c ∧ 0 ≤ l ∧ l ≤ 2 ^ 40 ∧ by_ ≤ 128 then
        some (.out { v := .own slot 0 l.toNat (s + 1), up := [(slot, some (repCells l.toNat z))] })
      else none
    | _, _, _ => none
  | _, _, _ => none

/-- The cells of what is appended or copied, and what is read for that. -/
def srcCells (h : Heap) (e : Nat) : AV → Option (List AV × Nat × List Nat)
  | .nilsl => some ([], 0, [])
  | .sl s xs => if s = e then some (xs.flatMap (fun x => (x.cells?).getD []), xs.length, []) else none
  | .own b off len s => match h b with
    | some blk => if s = e ∧ off + len * e ≤ blk.length then some (cut blk off (len * e), len, [b]) else none
    | none => none
  | _ => none

/-- 'pu': the slice that is made is only read from here on. -/
def aappend (P : Program) (pu : Bool) (slot : Nat) (h : Heap) (argTypes : Array TypeId) (x y : AV) : Option Did :=
  match (argTypes[0]?).bind (telem P), (argTypes[1]?).bind (telem P) with
  | some e, some e' => match tsize P e, tbytes P e, zcells P e with
    | some (s + 1), some by_, some z => if tsize P e' = some (s + 1) ∧ by_ ≤ 128 ∧ 0 < by_ ∧ z.length = s + 1 then
      match srcCells h (s + 1) y with
      | some (new, n, rd) =>
        if n ≤ 2 ^ 38 then
        match x with
        | .nilsl => if pu then (match y with | .sl _ xs => pureOut (.sl (s + 1) xs) | _ => none) else if n = 0 then some (.out { v := .nilsl, rd }) else some (.out { v := .own slot 0 n (s + 1), up := [(slot, some new)], rd })
        | .own b off len s' => match h b with
          | some blk => if s' = s + 1 ∧ len ≤ 2 ^ 38 ∧ off + len * (s + 1) ≤ blk.length then
              some (.out { v := .own slot 0 (len + n) (s + 1), up := [(b, none), (slot, some (cut blk off (len * (s + 1)) ++ new))], rd })
            else none
          | none => none
        | _ => none
        else none
      | none => none
      else none
    | _, _, _ => none
  | _, _ => none

def acopy (P : Program) (h : Heap) (argTypes : Array TypeId) (x y : AV) : Option Did :=
  match (argTypes[0]?).bind (telem P) with
  | some e => match tsize P e with
    | some (s + 1) => match x, srcCells h (s + 1) y with
      | .own b off len s', some (new, n, rd) => match h b with
        | some blk => if s' = s + 1 ∧ off + len * (s + 1) ≤ blk.length then
            some (.out { v := .int .i64 (min n len : Nat), up := [(b, some (lay blk off (new.take ((min n len) * (s + 1)))))], rd })
          else none
        | none => none
      | _, _ => none
    | _ => none
  | none => none

def alen (P : Program) (t : TypeId) (x : AV) : Option AV :=
  match P.underlying t, x with
  | some .string, .str s => some (.int .i64 s.size)
  | some (.array n _), _ => some (.int .i64 n)
  | some (.slice _), .sl _ xs => some (.int .i64 xs.length)
  | some (.slice _), .nilsl => some (.int .i64 0)
  | some (.slice _), .own _ _ len _ => some (.int .i64 len)
  | _, _ => none

def amax2 : AV → AV → Option AV
  | .int k x, .int k' y => if k = k' then some (.int k (if y > x then y else x)) else none
  | _, _ => none
def amin2 : AV → AV → Option AV
  | .int k x, .int k' y => if k = k' then some (.int k (if y < x then y else x)) else none
  | _, _ => none

def abuiltin (P : Program) (pu : Bool) (slot : Nat) (h : Heap) (b : Builtin) (argTypes : Array TypeId) (args : List AV) : Option Did :=
  match b, args with
  | .append, [x, y] => aappend P pu slot h argTypes x y
  | .copy, [x, y] => acopy P h argTypes x y
  | .len, [x] => ((argTypes[0]?).bind fun t => alen P t x).bind pureOut
  | .max, x :: rest => (rest.foldlM amax2 x).bind pureOut
  | .min, x :: rest => (rest.foldlM amin2 x).bind pureOut
  | _, _ => none

def aconvert (P : Program) (src dst : TypeId) (x : AV) : Option Did :=
  match P.underlying src, P.underlying dst, x with
  | some (.int _), some (.int k), .int _ n => pureOut (.int k (k.wrap n))
  | some .string, some .string, .str s => pureOut (.str s)
  | _, _, _ => none

/-- What an operation does, if the machine here tells. -/
def aop (P : Program) (pu : Bool) (op : Op) (slot : Nat) (ev : Operand → AV) (h : Heap) : Option Did :=
  match op with
  | .move x | .assign x => pureOut (ev x)
  | .pick c a b => match ev c with
    | .bool t => pureOut (if t then ev a else ev b)
    | _ => none
  | .alloc t => match zcells P t, tsize P t with
    | some z, some n => if z.length = n then some (.out { v := .ptr slot 0, up := [(slot, some z)] }) else none
    | _, _ => none
  | .box _ x => match (ev x).cells? with
    | some cs => if cs.all (·.single) then some (.out { v := .ptr slot 0, up := [(slot, some cs)] }) else none
    | none => none
  | .build t parts => (abuild P t (parts.toList.map fun (i, x) => (i, ev x))).bind pureOut
  | .buildSlice t len parts => abuildSlice P slot t len (parts.toList.map fun (i, x) => (i, ev x))
  | .load t a => aload P h t (ev a)
  | .store t a x => astore P h t (ev a) (ev x)
  | .nilCheck x => match ev x with
    | .ptr b off => pureOut (.ptr b off)
    | .pp cs => pureOut (.pp cs)
    | .func f cap => pureOut (.func f cap)
    | _ => none
  | .binOp op t x y _ => (abin P op t (ev x) (ev y)).bind pureOut
  | .unOp op _ x => (aun op (ev x)).bind pureOut
  | .convert src dst x => aconvert P src dst (ev x)
  | .makeFunc (.func f) first captured => if first.isEmpty then pureOut (.func f (captured.toList.map ev)) else none
  | .makeSlice t l c => amake P slot t (ev l) (ev c)
  | .slice t x lo hi none => (aslice P t (ev x) (lo.map ev) (hi.map ev)).bind pureOut
  | .fieldAddr t x i => (afieldAddr P t (ev x) i).bind pureOut
  | .field t x i => (afield P t (ev x) i).bind pureOut
  | .indexAddr t x ix => (aindexAddr P t (ev x) (ev ix)).bind pureOut
  | .index t x ix => (aindex P t (ev x) (ev ix)).bind pureOut
  | .extract x i => match ev x with
    | .tup vs => (vs[i]?).bind pureOut
    | _ => none
  | .call { callee := .builtin b, args, argTypes } => abuiltin P pu slot h b argTypes (args.toList.map ev)
  | .call { callee := .value f, args, .. } => match ev f with
    | .func f cap => some (.call f (args.toList.map ev ++ cap))
    | _ => none
  | _ => none

end Go.Ab
