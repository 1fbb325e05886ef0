/- D: operations in continuation style, with what the types say looked up. -/
import Derived.Test.YtfdfickokkokmaaDoorLD21
set_option linter.unusedSimpArgs false
set_option linter.unusedVariables false
namespace Go.D
open Go

/-- A pointer to a cell of a block. -/
abbrev ptr (b off : Nat) : Value := .pointer (some ⟨b, off, none⟩)

def ld (m : Mem) (v : Value) : Option Value :=
  match v with
  | .pointer (some a) => match loadN m a 1 with
    | some [x] => some x
    | _ => none
  | _ => none

def ldn (m : Mem) (n : Nat) (v : Value) : Option Value :=
  match v with
  | .pointer (some a) => match loadN m a n with
    | some l => some (.agg l.toArray)
    | none => none
  | _ => none

def stn (m : Mem) (n : Nat) (v x : Value) : Option Mem :=
  match v with
  | .pointer (some a) => if x.cells.size = n then storeN m a x.cells.toList else none
  | _ => none

def pickL (c a b : Value) : Option Value :=
  match c with
  | .bool true => some a
  | .bool false => some b
  | _ => none

def isPtr (v : Value) : Option Value :=
  match v with
  | .pointer (some a) => some (.pointer (some a))
  | _ => none

def bldS (z : List Value) (pl : List (Nat × Nat)) (parts : List (Nat × Value)) : Option Value :=
  match fillL (fun i => pl[i]?) z parts with
  | some cs => some (.agg cs.toArray)
  | none => none

def bldA (z : List Value) (s : Nat) (parts : List (Nat × Value)) : Option Value :=
  match fillL (fun i => some (i * s, s)) z parts with
  | some cs => some (.agg cs.toArray)
  | none => none

def cellsA (z : List Value) (s : Nat) (parts : List (Nat × Value)) : Option (List Value) := fillL (fun i => some (i * s, s)) z parts

def fld (v : Value) (off : Nat) : Option Value :=
  match v with
  | .pointer (some a) => some (.pointer (some (a.add off)))
  | _ => none

/-- A part of an aggregate: one cell, or some. -/
def prt (v : Value) (off : Nat) : Option Value :=
  match v with
  | .agg cs => cs[off]?
  | _ => none

def prtn (v : Value) (off n : Nat) : Option Value :=
  match v with
  | .agg cs => some (.agg (cs.extract off (off + n)))
  | _ => none

def ixS (s : Nat) (x ix : Value) : Option Value :=
  match ix, x with
  | .int _ i, .slice (some a) len _ => if 0 ≤ i ∧ i < len then some (.pointer (some (a.add (i.toNat * s)))) else none
  | _, _ => none

def ixA (s len : Nat) (x ix : Value) : Option Value :=
  match ix, x with
  | .int _ i, .pointer (some a) => if 0 ≤ i ∧ i < len then some (.pointer (some (a.add (i.toNat * s)))) else none
  | _, _ => none

def ixStr (x ix : Value) : Option Value :=
  match ix, x with
  | .int _ i, .string s => if 0 ≤ i then (match s.data[i.toNat]? with | some b => some (.int .u8 b.toNat) | none => none) else none
  | _, _ => none

def ixV (s len : Nat) (x ix : Value) : Option Value :=
  match ix, x with
  | .int _ i, .agg cs => if 0 ≤ i ∧ i < len then cs[i.toNat * s]? else none
  | _, _ => none

def ixVn (s len n : Nat) (x ix : Value) : Option Value :=
  match ix, x with
  | .int _ i, .agg cs => if 0 ≤ i ∧ i < len then some (.agg (cs.extract (i.toNat * s) (i.toNat * s + n))) else none
  | _, _ => none

def extL (v : Value) (ix : Nat) : Option Value :=
  match v with
  | .tuple vs => vs[ix]?
  | _ => none

def arith (f : IntKind → Int → Int → Option Value) (x y : Value) : Option Value :=
  match x, y with
  | .int k a, .int k' b => if k = k' then f k a b else none
  | _, _ => none

def addL := arith fun k a b => some (.int k (k.wrap (a + b)))
def subL := arith fun k a b => some (.int k (k.wrap (a - b)))
def mulL := arith fun k a b => some (.int k (k.wrap (a * b)))
def quoL := arith fun k a b => if b = 0 then none else some (.int k (k.wrap (a.tdiv b)))
def remL := arith fun k a b => if b = 0 then none else some (.int k (a.tmod b))
def bitsL (f : (w : Nat) → BitVec w → BitVec w → BitVec w) := arith fun k a b => some (.int k (k.wrap (f k.bits (BitVec.ofInt k.bits a) (BitVec.ofInt k.bits b)).toNat))
def cmpL (f : Int → Int → Bool) := arith fun _ a b => some (.bool (f a b))
def shlL (x y : Value) : Option Value :=
  match x, y with
  | .int k a, .int _ b => if b < 0 then none else some (.int k (k.wrap (a * 2 ^ min b.toNat k.bits)))
  | _, _ => none
def shrL (x y : Value) : Option Value :=
  match x, y with
  | .int k a, .int _ b => if b < 0 then none else some (.int k (a.fdiv (2 ^ min b.toNat k.bits)))
  | _, _ => none

def intL : BinOp → Value → Value → Option Value
  | .add => addL
  | .sub => subL
  | .mul => mulL
  | .quo => quoL
  | .rem => remL
  | .and => bitsL fun _ a b => a &&& b
  | .or => bitsL fun _ a b => a ||| b
  | .xor => bitsL fun _ a b => a ^^^ b
  | .andNot => bitsL fun _ a b => a &&& ~~~b
  | .shl => shlL
  | .shr => shrL
  | .eql => cmpL fun a b => a == b
  | .neq => cmpL fun a b => a != b
  | .lss => cmpL fun a b => a < b
  | .leq => cmpL fun a b => a ≤ b
  | .gtr => cmpL fun a b => a > b
  | .geq => cmpL fun a b => a ≥ b

def strs (f : ByteArray → ByteArray → Option Value) (x y : Value) : Option Value :=
  match x, y with
  | .string a, .string b => f a b
  | _, _ => none

def strL : BinOp → Value → Value → Option Value
  | .add => strs fun x y => if ((x.size + y.size : Nat) : Int) > IntKind.i64.max then none else some (.string (x ++ y))
  | .eql => strs fun x y => some (.bool (x.toList == y.toList))
  | .neq => strs fun x y => some (.bool !(x.toList == y.toList))
  | .lss => strs fun x y => some (.bool (Op.bytesLess x.toList y.toList))
  | .leq => strs fun x y => some (.bool (Op.bytesLess x.toList y.toList || x.toList == y.toList))
  | .gtr => strs fun x y => some (.bool !(Op.bytesLess x.toList y.toList || x.toList == y.toList))
  | .geq => strs fun x y => some (.bool !(Op.bytesLess x.toList y.toList))
  | _ => fun _ _ => none

def notL (v : Value) : Option Value :=
  match v with
  | .bool b => some (.bool !b)
  | _ => none

def negL (v : Value) : Option Value :=
  match v with
  | .int k n => some (.int k (k.wrap (0 - n)))
  | _ => none

def cplL (v : Value) : Option Value :=
  match v with
  | .int k n => some (.int k (k.wrap (BitVec.ofInt k.bits (if k.signed then -1 else k.max) ^^^ BitVec.ofInt k.bits n).toNat))
  | _ => none

def boolEq (x y : Value) : Option Bool :=
  match x, y with
  | .bool a, .bool b => some (a == b)
  | _, _ => none

def ptrEq (x y : Value) : Option Bool :=
  match x, y with
  | .pointer none, .pointer b => some b.isNone
  | .pointer (some _), .pointer none => some false
  | .pointer (some a), .pointer (some b) => if a.block = b.block then some (a == b) else none
  | _, _ => none

def slEq (x y : Value) : Option Bool :=
  match x, y with
  | .slice none _ _, .slice b _ _ => some b.isNone
  | .slice (some _) _ _, .slice none _ _ => some false
  | _, _ => none

def fnEq (x y : Value) : Option Bool :=
  match x, y with
  | .nilFunc, .nilFunc => some true
  | .nilFunc, .func _ _ _ => some false
  | .func _ _ _, .nilFunc => some false
  | _, _ => none

def ifEq (c : Bool) (x y : Value) : Option Bool :=
  match x, y with
  | .nilIface, .nilIface => if c then some true else none
  | .nilIface, .iface _ _ => some false
  | .iface _ _, .nilIface => some false
  | _, _ => none

def mpEq (x y : Value) : Option Bool :=
  match x, y with
  | .map none, .map b => some b.isNone
  | .map (some _), .map none => some false
  | _, _ => none

def cvI (k : IntKind) (v : Value) : Option Value :=
  match v with
  | .int _ n => some (.int k (k.wrap n))
  | _ => none

def isStr (v : Value) : Option Value :=
  match v with
  | .string s => some (.string s)
  | _ => none

def bytesOf (m : Mem) (v : Value) : Option Value :=
  match v with
  | .slice none _ _ => some (.string .empty)
  | .slice (some a) n _ => match loadN m a n with
    | some l => match u8cells l with
      | some bs => some (.string ⟨bs.toArray⟩)
      | none => none
    | none => none
  | _ => none

def strBytes (m : Mem) (e : TypeId) (v : Value) : Option (Value × Mem) :=
  match v with
  | .string s => some (.slice (some ⟨m.next, 0, none⟩) s.size loose, m.push (.cells (s.data.toList.map fun b => .int .u8 b.toNat) e true))
  | _ => none

def mkS (m : Mem) (e : TypeId) (eb : Nat) (z : List Value) (l c : Value) : Option (Value × Mem) :=
  match l, c with
  | .int _ l, .int _ c =>
    if 0 ≤ l ∧ l ≤ c ∧ c * eb ≤ 140737488355328 ∧ c ≤ 9223372036854775807 then
      some (.slice (some ⟨m.next, 0, none⟩) l.toNat c.toNat, m.push (.cells (repl c.toNat z) e false))
    else none
  | _, _ => none

def slStr (x : Value) (lo hi mx : Option Value) : Option Value :=
  match x, mx with
  | .string s, none => match bnds s.size s.size lo hi none with
    | some (l, h, _) => some (.string (s.extract l h))
    | none => none
  | _, _ => none

def slSl (s : Nat) (x : Value) (lo hi mx : Option Value) : Option Value :=
  match x with
  | .slice a len cap =>
    match a with
    | none => if len = 0 ∧ cap = 0 then (match bnds 0 0 lo hi mx with | some _ => some (.slice none 0 0) | none => none) else none
    | some ad =>
      if isLoose cap then
        match bnds len len lo hi mx with
        | none => none
        | some (l, h, mm) =>
          match mx with
          | none => if l = 0 ∨ (l < len ∧ 0 < s) then some (.slice (some (ad.add (l * s))) (h - l) cap) else none
          | some _ => if isLoose mm then none else some (.slice (some (if mm = l then ad else ad.add (l * s))) (h - l) (mm - l))
      else
        match bnds cap len lo hi mx with
        | none => none
        | some (l, h, mm) => some (.slice (some (if mm = l then ad else ad.add (l * s))) (h - l) (mm - l))
  | _ => none

def slArr (s n : Nat) (x : Value) (lo hi mx : Option Value) : Option Value :=
  match x with
  | .pointer (some a) =>
    if isLoose n then none else match bnds n n lo hi mx with
      | some (l, h, mm) => some (.slice (some (if mm = l then a else a.add (l * s))) (h - l) (mm - l))
      | none => none
  | _ => none

def lenStr (v : Value) : Option Value :=
  match v with
  | .string s => some (.int .i64 s.size)
  | _ => none

def lenSl (v : Value) : Option Value :=
  match v with
  | .slice _ n _ => some (.int .i64 n)
  | _ => none

def lenMp (m : Mem) (v : Value) : Option Value :=
  match v with
  | .map none => some (.int .i64 0)
  | .map (some r) => match m.get r with
    | some (.mp es _) => some (.int .i64 es.length)
    | _ => none
  | _ => none

def appS (m : Mem) (elem : TypeId) (es eb : Nat) (s x : Value) : Option (Value × Mem) :=
  match s, lenV x with
  | .slice base sl sc, some n =>
    if (sl + n) * eb ≤ 140737488355328 ∧ sl + n ≤ 1152921504606846976 then
      match srcCells m es n x with
      | none => none
      | some new => if new.length ≠ n * es then none else appendCore m elem es base sl sc n new
    else none
  | _, _ => none

def cpyS (m : Mem) (es : Nat) (d x : Value) : Option (Value × Mem) :=
  match d, lenV x with
  | .slice base dl _, some xl =>
    match srcCells m es (min xl dl) x with
    | none => none
    | some cs => match base with
      | none => some (.int .i64 (min xl dl : Nat), m)
      | some a => match storeN m a cs with
        | some m' => some (.int .i64 (min xl dl : Nat), m')
        | none => none
  | _, _ => none

def clrS (m : Mem) (z : List Value) (x : Value) : Option Mem :=
  match x with
  | .slice none _ _ => some m
  | .slice (some a) n _ => if n = 0 then some m else storeN m a (repl n z)
  | _ => none

def andV {α : Type} (o : Option (Value × Mem)) (K : Value → Mem → Option α) : Option α :=
  match o with
  | some (v, m) => K v m
  | none => none

def endC {α : Type} (o : Option (DEnd × Mem)) (K KP : Value → Mem → Option α) : Option α :=
  match o with
  | some (.ret v, m) => K v m
  | some (.pan v, m) => KP v m
  | none => none

def oneC {α : Type} (l : List Value) (K : Value → Option α) : Option α :=
  match l with
  | [x] => K x
  | _ => none

def callC {α : Type} (env : Env) (runf : CallF) (m : Mem) (f : Value) (args : List Value) (K KP : Value → Mem → Option α) : Option α :=
  match f with
  | .func (.func g) first captured =>
    bif env.idf g then oneC (first.toList ++ args ++ captured.toList) fun x => K x m else
    match env.ext g (first.toList ++ args ++ captured.toList) with
    | some v => if plain v then K v m else none
    | none => endC (runf g (first.toList ++ args ++ captured.toList) m) K KP
  | _ => none

def ptrIn (P : Program) (t : TypeId) (m : Mem) (x : Value) : Option Value :=
  match x with
  | .pointer none => some (.pointer none)
  | .pointer (some a) => match a.spot, sizeT P t, m.get a.block with
    | none, some (_ + 1), some (.cells c _ _) => if a.off < c.length then some (.pointer (some a)) else none
    | _, _, _ => none
  | _ => none

def ptrOut (P : Program) (u : TypeId) (m : Mem) (x : Value) : Option Value :=
  match x with
  | .pointer none => some (.pointer none)
  | .pointer (some a) => match a.spot, P.info? u, m.get a.block with
    | none, some _, some (.cells c e false) => if liesAt P P.depth e (c.length / P.cellsOf e) a.off u 1 then some (.pointer (some a)) else none
    | _, _, _ => none
  | _ => none

def bytesStr (m : Mem) (e : TypeId) (ce : Nat) (p n : Value) : Option (Value × Mem) :=
  match p, n with
  | .pointer p, .int .i64 n =>
    if n = 0 then some (.string .empty, m) else
    match p with
    | none => none
    | some a => match a.spot, m.get a.block with
      | none, some (.cells c e' _) =>
        if e' = e ∧ a.off = 0 ∧ m.base ≤ a.block ∧ 0 < n ∧ n ≤ c.length ∧ n ≤ 140737488355328 ∧ ce = 1 then
          match u8strict (c.take n.toNat) with
          | some bs => some (.string ⟨bs.toArray⟩, m.put a.block none)
          | none => none
        else none
      | _, _ => none
  | _, _ => none

section
variable {α : Type}

def bldC (P : Program) (t : TypeId) (m : Mem) (parts : List (Nat × Value)) (K : Value → Mem → Option α) : Option α :=
  match zeroCells P t with
  | none => none
  | some z => match P.underlying t with
    | some (.struct fields) => match places P fields.toList with
      | none => none
      | some pl => (bldS z pl parts).bind fun v => K v m
    | some (.array _ elem) => match sizeT P elem with
      | none => none
      | some s => (bldA z s parts).bind fun v => K v m
    | _ => none

def bldSlC (P : Program) (t : TypeId) (m : Mem) (len : Nat) (parts : List (Nat × Value)) (K : Value → Mem → Option α) : Option α :=
  match P.underlying t with
  | some (.slice elem) => match sizeT P elem, zeroCells P elem with
    | some s, some z => bif Nat.ble (len * s) 16777216 then
        (cellsA (repl len z) s parts).bind fun cs => K (.slice (some ⟨m.next, 0, none⟩) len len) (m.push (.cells cs elem false))
      else none
    | _, _ => none
  | _ => none

def loadC (P : Program) (t : TypeId) (m : Mem) (v : Value) (K : Value → Mem → Option α) : Option α :=
  match P.underlying t with
  | none => none
  | some d => bif isAggD d then
      match P.info? t with
      | none => none
      | some i => (ldn m i.size v).bind fun v => K v m
    else (ld m v).bind fun v => K v m

def storeC (P : Program) (t : TypeId) (m : Mem) (v x : Value) (K : Value → Mem → Option α) : Option α :=
  match P.info? t with
  | none => none
  | some i => (stn m i.size v x).bind fun m' => K undef m'

def eqC (o : Option Bool) (neg : Bool) (m : Mem) (K : Value → Mem → Option α) : Option α := bif neg then o.bind fun b => K (.bool !b) m else o.bind fun b => K (.bool b) m

def isEq : BinOp → Option Bool
  | .eql => some false
  | .neq => some true
  | _ => none

def binC (P : Program) (op : BinOp) (t : TypeId) (c : Bool) (m : Mem) (x y : Value) (K : Value → Mem → Option α) : Option α :=
  match P.underlying t with
  | some (.int _) => (intL op x y).bind fun v => K v m
  | some .string => (strL op x y).bind fun v => K v m
  | some .bool => match isEq op with | some n => eqC (boolEq x y) n m K | none => none
  | some (.pointer e) => match isEq op with
    | some n => match sizeT P e with
      | some (_ + 1) => eqC (ptrEq x y) n m K
      | _ => none
    | none => none
  | some (.slice _) => match isEq op with | some n => eqC (slEq x y) n m K | none => none
  | some (.map _ _) => match isEq op with | some n => eqC (mpEq x y) n m K | none => none
  | some (.func _ _ _) => match isEq op with | some n => eqC (fnEq x y) n m K | none => none
  | some (.interface _) => match isEq op with | some n => eqC (ifEq c x y) n m K | none => none
  | _ => none

def unC (op : UnOp) (m : Mem) (x : Value) (K : Value → Mem → Option α) : Option α :=
  match op with
  | .not => (notL x).bind fun v => K v m
  | .neg => (negL x).bind fun v => K v m
  | .xor => (cplL x).bind fun v => K v m
  | _ => none

def cvC (P : Program) (s d : TypeId) (m : Mem) (x : Value) (K : Value → Mem → Option α) : Option α :=
  match P.underlying s, P.underlying d with
  | some (.int _), some (.int k) => (cvI k x).bind fun v => K v m
  | some .string, some .string => (isStr x).bind fun v => K v m
  | some (.slice e), some .string => match P.underlying e with
    | some (.int .u8) => (bytesOf m x).bind fun v => K v m
    | _ => none
  | some .string, some (.slice e) => match P.underlying e, sizeT P e with
    | some (.int .u8), some 1 => andV (strBytes m e x) K
    | _, _ => none
  | some (.pointer t), some .unsafePointer => (ptrIn P t m x).bind fun v => K v m
  | some .unsafePointer, some (.pointer u) => (ptrOut P u m x).bind fun v => K v m
  | _, _ => none

def mkSC (P : Program) (t : TypeId) (m : Mem) (l c : Value) (K : Value → Mem → Option α) : Option α :=
  match P.underlying t with
  | some (.slice elem) => match P.info? elem, zeroCells P elem with
    | some i, some z => andV (mkS m elem i.bytes z l c) K
    | _, _ => none
  | _ => none

def slC (P : Program) (t : TypeId) (m : Mem) (x : Value) (lo hi mx : Option Value) (K : Value → Mem → Option α) : Option α :=
  match P.underlying t with
  | some .string => (slStr x lo hi mx).bind fun v => K v m
  | some (.slice elem) => match sizeT P elem with
    | none => none
    | some s => (slSl s x lo hi mx).bind fun v => K v m
  | some (.array n elem) => match sizeT P elem with
    | none => none
    | some s => (slArr s n x lo hi mx).bind fun v => K v m
  | _ => none

def fldC (P : Program) (s : TypeId) (f : Nat) (m : Mem) (v : Value) (K : Value → Mem → Option α) : Option α :=
  match P.underlying s with
  | some (.struct fields) => match fields[f]? with
    | some fd => match sizeT P fd.type with
      | some (_ + 1) => (fld v fd.offset).bind fun v => K v m
      | _ => none
    | none => none
  | _ => none

def prtC (P : Program) (s : TypeId) (f : Nat) (m : Mem) (v : Value) (K : Value → Mem → Option α) : Option α :=
  match P.underlying s with
  | some (.struct fields) => match fields[f]? with
    | some fd => match P.underlying fd.type, P.info? fd.type with
      | some d, some i => bif isAggD d then (prtn v fd.offset i.size).bind fun v => K v m else (prt v fd.offset).bind fun v => K v m
      | _, _ => none
    | none => none
  | _ => none

def ixC (P : Program) (t : TypeId) (m : Mem) (x ix : Value) (K : Value → Mem → Option α) : Option α :=
  match P.underlying t with
  | some (.slice elem) => match sizeT P elem with
    | some s => (ixS s x ix).bind fun v => K v m
    | none => none
  | some (.array len elem) => match sizeT P elem with
    | some s => (ixA s len x ix).bind fun v => K v m
    | none => none
  | _ => none

def ixVC (P : Program) (t : TypeId) (m : Mem) (x ix : Value) (K : Value → Mem → Option α) : Option α :=
  match P.underlying t with
  | some (.array len elem) => match P.underlying elem, P.info? elem with
    | some d, some i => bif isAggD d then (ixVn i.size len i.size x ix).bind fun v => K v m else (ixV i.size len x ix).bind fun v => K v m
    | _, _ => none
  | some .string => (ixStr x ix).bind fun v => K v m
  | _ => none

def notInt : TypeDesc → Bool
  | .int _ => false
  | _ => true

def builtinC (P : Program) (b : Builtin) (ats : Array TypeId) (m : Mem) (args : List Value) (K : Value → Mem → Option α) : Option α :=
  match b, args with
  | .len, [x] => match ats[0]? with
    | some t => match P.underlying t with
      | some .string => (lenStr x).bind fun v => K v m
      | some (.slice _) => (lenSl x).bind fun v => K v m
      | some (.array n _) => K (.int .i64 n) m
      | some (.map _ _) => (lenMp m x).bind fun v => K v m
      | _ => none
    | none => none
  | .append, [s, x] => match ats[0]?, ats[1]? with
    | some st, some xt => match P.underlying st, P.underlying xt with
      | some (.slice elem), some xd => bif notInt xd then
          match P.info? elem, zeroCells P elem with
          | some i, some _ => bif Nat.blt 0 i.size then andV (appS m elem i.size i.bytes s x) K else none
          | _, _ => none
        else none
      | _, _ => none
    | _, _ => none
  | .copy, [d, x] => match ats[0]? with
    | some t => match P.underlying t with
      | some (.slice elem) => match sizeT P elem with
        | some s => andV (cpyS m s d x) K
        | none => none
      | _ => none
    | none => none
  | .clear, [x] => match ats[0]? with
    | some t => match P.underlying t with
      | some (.slice e) => match zeroCells P e with
        | some z => (clrS m z x).bind fun m' => K undef m'
        | none => none
      | _ => none
    | none => none
  | .min, x :: r => (minMax false x r).bind fun v => K v m
  | .max, x :: r => (minMax true x r).bind fun v => K v m
  | .unsafeSliceData, [x] => (sliceData x).bind fun v => K v m
  | .unsafeString, [p, n] => match ats[0]? with
    | some t => match P.underlying t with
      | some (.pointer e) => andV (bytesStr m e (P.cellsOf e) p n) K
      | _ => none
    | none => none
  | _, _ => none

def mkIC (P : Program) (t : TypeId) (m : Mem) (x : Value) (K : Value → Mem → Option α) : Option α :=
  match P.underlying t with
  | some (.interface _) => none
  | some _ => K (.iface t x) m
  | none => none

def panC (m : Mem) (x : Value) (KP : Value → Mem → Option α) : Option α :=
  match x with
  | .iface t v => KP (.iface t v) m
  | _ => none

def allC (P : Program) (e : TypeId) (m : Mem) (K : Value → Mem → Option α) : Option α :=
  match zeroCells P e with
  | some z => K (.pointer (some ⟨m.next, 0, none⟩)) (m.push (.cells z e false))
  | none => none

def boxC (P : Program) (e : TypeId) (m : Mem) (x : Value) (K : Value → Mem → Option α) : Option α :=
  match sizeT P e with
  | some _ => K (.pointer (some ⟨m.next, 0, none⟩)) (m.push (.cells x.cells.toList e false))
  | none => none

/-- An operation, and what comes behind it. -/
def opC (env : Env) (runf : CallF) (P : Program) (ρ : Operand → Value) (op : Op) (m : Mem) (K KP : Value → Mem → Option α) : Option α :=
  match op with
  | .move x | .assign x => K (ρ x) m
  | .pick c a b => (pickL (ρ c) (ρ a) (ρ b)).bind fun v => K v m
  | .alloc e => allC P e m K
  | .box e x => boxC P e m (ρ x) K
  | .build t parts => bldC P t m (parts.toList.map fun (i, x) => (i, ρ x)) K
  | .buildSlice t len parts => bldSlC P t m len (parts.toList.map fun (i, x) => (i, ρ x)) K
  | .load t a => loadC P t m (ρ a) K
  | .store t a x => storeC P t m (ρ a) (ρ x) K
  | .nilCheck x => (isPtr (ρ x)).bind fun v => K v m
  | .binOp op t x y _ => binC P op t (isConstO x || isConstO y) m (ρ x) (ρ y) K
  | .unOp op _ x => unC op m (ρ x) K
  | .convert s d x => cvC P s d m (ρ x) K
  | .makeInterface t x => mkIC P t m (ρ x) K
  | .makeFunc fn first captured => K (.func fn (first.map ρ) (captured.map ρ)) m
  | .makeSlice t l c => mkSC P t m (ρ l) (ρ c) K
  | .slice t x lo hi mx => slC P t m (ρ x) (lo.map ρ) (hi.map ρ) (mx.map ρ) K
  | .fieldAddr s x f => fldC P s f m (ρ x) K
  | .field t x f => prtC P t f m (ρ x) K
  | .indexAddr t x ix => ixC P t m (ρ x) (ρ ix) K
  | .index t x ix => ixVC P t m (ρ x) (ρ ix) K
  | .extract t ix => (extL (ρ t) ix).bind fun v => K v m
  | .call c => match c.callee with
    | .value f => callC env runf m (ρ f) (c.args.toList.map ρ) K KP
    | .builtin b => builtinC P b c.argTypes m (c.args.toList.map ρ) K
    | .invoke _ _ => none
  | .panic x => panC m (ρ x) KP
  | _ => none

end

end Go.D
