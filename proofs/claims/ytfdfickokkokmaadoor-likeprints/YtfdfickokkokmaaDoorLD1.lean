/- D: a deterministic big-step run of Go code over an abstract memory. -/
import Derived.Orders
import Derived.Below
set_option linter.unusedSimpArgs false
set_option linter.unusedVariables false
namespace Go.D
open Go

/-- What a block holds (g: the real block may have more cells behind these). -/
inductive Blk where
  | cells (c : List Value) (e : TypeId) (g : Bool)
  | mp (es : List MapEntry) (clock : Nat)
  deriving Inhabited

/-- The abstract memory: what came in (read only, below `base`), and what was made (newest first; none: gone). `low`: the blocks that were written. -/
structure Mem where
  old : Nat → Option Blk
  base : Nat
  new : List (Option Blk)
  next : Nat
  low : List Nat

def no {α : Type} (_ : String) : Option α := none

def Mem.get (m : Mem) (b : Nat) : Option Blk :=
  if b < m.base then m.old b else if b < m.next then m.new.getD (m.next - 1 - b) none else none

def Mem.push (m : Mem) (x : Blk) : Mem := { m with new := some x :: m.new, next := m.next + 1 }
def Mem.put (m : Mem) (b : Nat) (x : Option Blk) : Mem := { m with new := m.new.set (m.next - 1 - b) x, low := b :: m.low }

/-- A slice whose capacity is not known bears this capacity. -/
def loose : Nat := 4611686018427387904

def isLoose (c : Nat) : Bool := Nat.ble loose c

def flat : Value → Bool
  | .agg _ | .tuple _ => false
  | _ => true

def isAggD (d : TypeDesc) : Bool :=
  match d with
  | .struct _ | .array _ _ => true
  | _ => false

def loadN (m : Mem) (a : Addr) (n : Nat) : Option (List Value) :=
  match a.spot with
  | some _ => none
  | none => match m.get a.block with
    | some (.cells c _ _) => let l := (c.drop a.off).take n; if l.length = n ∧ l.all flat = true then some l else none
    | _ => none

def loadVar (P : Program) (m : Mem) (t : TypeId) (v : Value) : Option Value :=
  match v with
  | .pointer (some a) =>
    match P.underlying t with
    | none => none
    | some d =>
      if isAggD d then
        match P.info? t with
        | none => none
        | some i => match loadN m a i.size with
          | some l => some (.agg l.toArray)
          | none => none
      else match loadN m a 1 with
        | some [x] => some x
        | _ => none
  | _ => none

def splice (c : List Value) (off : Nat) (vs : List Value) : List Value := c.take off ++ (vs ++ c.drop (off + vs.length))

def storeN (m : Mem) (a : Addr) (vs : List Value) : Option Mem :=
  match vs with
  | [] => some m
  | _ =>
  match a.spot with
  | some _ => none
  | none =>
    if a.block < m.base then none else
    match m.get a.block with
    | some (.cells c e g) => if a.off + vs.length ≤ c.length && vs.all flat then some (m.put a.block (some (.cells (splice c a.off vs) e g))) else none
    | _ => none

def storeVar (P : Program) (m : Mem) (t : TypeId) (v x : Value) : Option Mem :=
  match v with
  | .pointer (some a) =>
    match P.info? t with
    | none => none
    | some i => if x.cells.size = i.size then storeN m a x.cells.toList else none
  | _ => none

def newRow (m : Mem) (e : TypeId) (c : List Value) : Addr × Mem := (⟨m.next, 0, none⟩, m.push (.cells c e false))
def newLoose (m : Mem) (e : TypeId) (c : List Value) : Addr × Mem := (⟨m.next, 0, none⟩, m.push (.cells c e true))

def scalar : Value → Bool
  | .bool _ | .int _ _ | .string _ | .nilIface | .nilFunc | .pointer none | .slice none _ _ | .map none | .float _ _ => true
  | _ => false

def zeroCells (P : Program) (t : TypeId) : Option (List Value) :=
  match P.info? t with
  | some i => match i.zero with
    | some z => if z.cells.toList.all scalar && z.cells.size = i.size then some z.cells.toList else none
    | none => none
  | none => none

def sizeT (P : Program) (t : TypeId) : Option Nat := (P.info? t).map (·.size)

def fillL (place : Nat → Option (Nat × Nat)) : List Value → List (Nat × Value) → Option (List Value)
  | cells, [] => some cells
  | cells, (i, v) :: rest =>
    match place i with
    | none => none
    | some (off, size) =>
      if v.cells.size = size && off + size ≤ cells.length then fillL place (splice cells off v.cells.toList) rest else none

def places (P : Program) : List Field → Option (List (Nat × Nat))
  | [] => some []
  | f :: fs => match sizeT P f.type, places P fs with
    | some s, some l => some ((f.offset, s) :: l)
    | _, _ => none

def repl (n : Nat) (z : List Value) : List Value :=
  match n with
  | 0 => []
  | n + 1 => z ++ repl n z

def build (P : Program) (t : TypeId) (parts : List (Nat × Value)) : Option Value :=
  match zeroCells P t with
  | none => none
  | some zero =>
    match P.underlying t with
    | some (.struct fields) => match places P fields.toList with
      | none => none
      | some pl => match fillL (fun i => pl[i]?) zero parts with
        | some cs => some (.agg cs.toArray)
        | none => none
    | some (.array _ elem) => match sizeT P elem with
      | none => none
      | some s => match fillL (fun i => some (i * s, s)) zero parts with
        | some cs => some (.agg cs.toArray)
        | none => none
    | _ => none

def buildSlice (P : Program) (m : Mem) (t : TypeId) (len : Nat) (parts : List (Nat × Value)) : Option (Value × Mem) :=
  match P.underlying t with
  | some (.slice elem) => match sizeT P elem, zeroCells P elem with
    | some s, some z =>
      if len * s ≤ 16777216 then
        match fillL (fun i => some (i * s, s)) (repl len z) parts with
        | some cs => let (a, m') := newRow m elem cs; some (.slice (some a) len len, m')
        | none => none
      else none
    | _, _ => none
  | _ => none

def partV (P : Program) (t : TypeId) (cs : Array Value) (off : Nat) : Option Value :=
  match P.underlying t, P.info? t with
  | some d, some i => if isAggD d then some (.agg (cs.extract off (off + i.size))) else cs[off]?
  | _, _ => none

def fieldAt (P : Program) (s : TypeId) (v : Value) (f : Nat) : Option Value :=
  match P.underlying s, v with
  | some (.struct fields), .pointer (some a) => match fields[f]? with
    | some fd => match sizeT P fd.type with
      | some (_ + 1) => some (.pointer (some (a.add fd.offset)))
      | _ => none
    | none => none
  | _, _ => none

def fieldV (P : Program) (t : TypeId) (x : Value) (f : Nat) : Option Value :=
  match P.underlying t, x with
  | some (.struct fields), .agg cs => match fields[f]? with
    | some fd => partV P fd.type cs fd.offset
    | none => none
  | _, _ => none

def indexAt (P : Program) (t : TypeId) (x ix : Value) : Option Value :=
  match ix with
  | .int _ i =>
    match P.underlying t, x with
    | some (.slice elem), .slice (some a) len _ => match sizeT P elem with
      | some s => if 0 ≤ i ∧ i < len then some (.pointer (some (a.add (i.toNat * s)))) else none
      | none => none
    | some (.array len elem), .pointer (some a) => match sizeT P elem with
      | some s => if 0 ≤ i ∧ i < len then some (.pointer (some (a.add (i.toNat * s)))) else none
      | none => none
    | _, _ => none
  | _ => none

def indexV (P : Program) (t : TypeId) (x ix : Value) : Option Value :=
  match ix with
  | .int _ i =>
    match P.underlying t, x with
    | some (.array len elem), .agg cs => match sizeT P elem with
      | some s => if 0 ≤ i ∧ i < len then partV P elem cs (i.toNat * s) else none
      | none => none
    | some .string, .string s => if 0 ≤ i then (match s.data[i.toNat]? with | some b => some (.int .u8 b.toNat) | none => none) else none
    | _, _ => none
  | _ => none

def bound (y : Nat) : Value → Option Nat
  | .int _ i => if 0 ≤ i ∧ i ≤ y then some i.toNat else none
  | _ => none

def boundO (y d : Nat) : Option Value → Option Nat
  | some v => bound y v
  | none => some d

/-- The bounds of a slicing: low, high, max (`D` where there is none). -/
def bnds (D len : Nat) (lo hi mx : Option Value) : Option (Nat × Nat × Nat) :=
  match boundO D D mx with
  | none => none
  | some mm =>
    match hi, mx with
    | none, some _ => none
    | hi, _ => match boundO mm len hi with
      | none => none
      | some h => match boundO h 0 lo with
        | none => none
        | some l => if l ≤ h ∧ h ≤ mm ∧ mm ≤ D then some (l, h, mm) else none

def sliceV (P : Program) (t : TypeId) (x : Value) (lo hi mx : Option Value) : Option Value :=
  match P.underlying t, x with
  | some .string, .string s => match mx with
    | some _ => none
    | none => match bnds s.size s.size lo hi none with
      | some (l, h, _) => some (.string (s.extract l h))
      | none => none
  | some (.slice elem), .slice a len cap =>
    match sizeT P elem with
    | none => none
    | some s =>
      match a with
      | none => if len = 0 ∧ cap = 0 then (match bnds 0 0 lo hi mx with | some _ => some (.slice none 0 0) | none => none) else none
      | some ad =>
        if isLoose cap then
          -- of an unknown capacity only what is there already may be asked
          match bnds len len lo hi mx with
          | none => none
          | some (l, h, mm) =>
            match mx with
            | none => if l = 0 ∨ (l < len ∧ 0 < s) then some (.slice (some (ad.add (l * s))) (h - l) cap) else none
            | some _ => if isLoose mm then none else some (.slice (some (if mm = l then ad else ad.add (l * s))) (h - l) (mm - l))
        else
          match bnds cap len lo hi mx with
          | none => none
          | some (l, h, mm) => some (.slice (some (if mm = l then ad else ad.add (l * s))) (h - l) (mm - l))
  | some (.array n elem), .pointer (some a) =>
    match sizeT P elem with
    | none => none
    | some s => if isLoose n then none else match bnds n n lo hi mx with
      | some (l, h, mm) => some (.slice (some (if mm = l then a else a.add (l * s))) (h - l) (mm - l))
      | none => none
  | _, _ => none

def makeSlice (P : Program) (m : Mem) (t : TypeId) (len cap : Value) : Option (Value × Mem) :=
  match P.underlying t, len, cap with
  | some (.slice elem), .int _ l, .int _ c =>
    match P.info? elem, zeroCells P elem with
    | some i, some z =>
      if 0 ≤ l ∧ l ≤ c ∧ c * i.bytes ≤ 140737488355328 ∧ c ≤ 9223372036854775807 then
        let (a, m') := newRow m elem (repl c.toNat z)
        some (.slice (some a) l.toNat c.toNat, m')
      else none
    | _, _ => none
  | _, _, _ => none

/-- The cells of what is appended or copied. -/
def srcCells (m : Mem) (s n : Nat) : Value → Option (List Value)
  | .slice none _ _ => if n = 0 then some [] else none
  | .slice (some a) _ _ => loadN m a (n * s)
  | .string b => some ((b.data.toList.take n).map fun x => .int .u8 x.toNat)
  | _ => none

def lenV : Value → Option Nat
  | .slice _ n _ => some n
  | .string s => some s.size
  | _ => none

/-- An append of cells that are known. -/
def appendCore (m : Mem) (elem : TypeId) (es : Nat) (base : Option Addr) (sl sc n : Nat) (new : List Value) : Option (Value × Mem) :=
  if isLoose sc then
    -- the block goes on elsewhere, or grows where it is
    match base with
    | none => none
    | some a =>
      match a.spot, m.get a.block with
      | none, some (.cells c e true) =>
        -- in place from sl * size on: so nothing that is known may stand there
        if e = elem ∧ m.base ≤ a.block ∧ a.off = 0 ∧ sl * es = c.length ∧ (c.all flat && new.all flat) then
          some (.slice (some ⟨m.next, 0, none⟩) (sl + n) loose, (m.put a.block none).push (.cells (c ++ new) elem true))
        else none
      | _, _ => none
  else if sl + n ≤ sc then
    match base with
    | none => if n = 0 then some (.slice none (sl + n) sc, m) else none
    | some a => match storeN m (a.add (sl * es)) new with
      | some m' => some (.slice base (sl + n) sc, m')
      | none => none
  else
    match (match base with | none => (if sl = 0 then some [] else none) | some a => loadN m a (sl * es)) with
    | none => none
    | some oldc =>
      let (a', m') := newLoose m elem (oldc ++ new)
      some (.slice (some a') (sl + n) loose, m')

def append (P : Program) (m : Mem) (st : TypeId) (xt : TypeId) (s x : Value) : Option (Value × Mem) :=
  match P.underlying st, P.underlying xt with
  | some (.slice elem), some xd =>
    match xd with
    | .int _ => none
    | _ =>
    match P.info? elem, zeroCells P elem, s, lenV x with
    | some i, some _, .slice base sl sc, some n =>
      if 0 < i.size ∧ (sl + n) * i.bytes ≤ 140737488355328 ∧ sl + n ≤ 1152921504606846976 then
        match srcCells m i.size n x with
        | none => none
        | some new => if new.length ≠ n * i.size then none else appendCore m elem i.size base sl sc n new
      else none
    | _, _, _, _ => none
  | _, _ => none

def copyV (P : Program) (m : Mem) (dt : TypeId) (d x : Value) : Option (Value × Mem) :=
  match P.underlying dt with
  | some (.slice elem) =>
    match sizeT P elem, d, lenV x with
    | some s, .slice base dl _, some xl =>
      let n := min xl dl
      match srcCells m s n x with
      | none => none
      | some cs => match base with
        | none => some (.int .i64 n, m)
        | some a => match storeN m a cs with
          | some m' => some (.int .i64 n, m')
          | none => none
    | _, _, _ => none
  | _ => none

def lenOfV (P : Program) (m : Mem) (t : TypeId) (x : Value) : Option Value :=
  match P.underlying t, x with
  | some .string, .string s => some (.int .i64 s.size)
  | some (.slice _), .slice _ n _ => some (.int .i64 n)
  | some (.array n _), _ => some (.int .i64 n)
  | some (.map _ _), .map none => some (.int .i64 0)
  | some (.map _ _), .map (some r) => match m.get r with
    | some (.mp es _) => some (.int .i64 es.length)
    | _ => none
  | _, _ => none

def semScal : Sem Value → Option Value
  | .pure v => if scalar v then some v else none
  | _ => none

/-- Values without an address. -/
def plain : Value → Bool
  | .tuple vs => vs.toList.all scalar
  | .agg vs => vs.toList.all scalar
  | v => scalar v

/-- `==` where it can be told at once. -/
def eqV (P : Program) (t : TypeId) (x y : Value) : Option Bool :=
  match x, y with
  | .bool a, .bool b => match P.underlying t with | some .bool => some (a == b) | _ => none
  | .pointer none, .pointer b => match P.underlying t with | some (.pointer _) => some b.isNone | _ => none
  | .pointer (some _), .pointer none => match P.underlying t with | some (.pointer _) => some false | _ => none
  | .pointer (some a), .pointer (some b) => match P.underlying t with
    | some (.pointer e) => match sizeT P e with
      | some (_ + 1) => if a.block = b.block then some (a == b) else none
      | _ => none
    | _ => none
  | .slice none _ _, .slice b _ _ => match P.underlying t with | some (.slice _) => some b.isNone | _ => none
  | .slice (some _) _ _, .slice none _ _ => match P.underlying t with | some (.slice _) => some false | _ => none
  | .map none, .map b => match P.underlying t with | some (.map _ _) => some b.isNone | _ => none
  | .map (some _), .map none => match P.underlying t with | some (.map _ _) => some false | _ => none
  | .nilFunc, .nilFunc => match P.underlying t with | some (.func _ _ _) => some true | _ => none
  | .nilFunc, .func _ _ _ => match P.underlying t with | some (.func _ _ _) => some false | _ => none
  | .func _ _ _, .nilFunc => match P.underlying t with | some (.func _ _ _) => some false | _ => none
  | .nilIface, .iface _ _ => match P.underlying t with | some (.interface _) => some false | _ => none
  | .iface _ _, .nilIface => match P.underlying t with | some (.interface _) => some false | _ => none
  | _, _ => none

def isConstO : Operand → Bool
  | .const _ => true
  | _ => false

def binOpV (P : Program) (op : BinOp) (t : TypeId) (xo yo : Operand) (x y : Value) : Option Value :=
  match x, y with
  | .int _ _, .int _ _ => semScal (Go.binOp op t x y)
  | .string _, .string _ => semScal (Go.binOp op t x y)
  | .nilIface, .nilIface =>
    if isConstO xo || isConstO yo then
      match op, P.underlying t with
      | .eql, some (.interface _) => some (.bool true)
      | .neq, some (.interface _) => some (.bool false)
      | _, _ => none
    else none
  | _, _ =>
    match op with
    | .eql => (eqV P t x y).map .bool
    | .neq => (eqV P t x y).map fun b => .bool (!b)
    | _ => none

def u8cell : Value → Option UInt8
  | .int .u8 n => some (UInt8.ofNat n.toNat)
  | _ => none

def u8cells : List Value → Option (List UInt8)
  | [] => some []
  | v :: r => match u8cell v, u8cells r with
    | some b, some l => some (b :: l)
    | _, _ => none

def convertV (P : Program) (m : Mem) (src dst : TypeId) (x : Value) : Option (Value × Mem) :=
  match P.underlying src, P.underlying dst, x with
  | some sd, some dd, x =>
    match sd, dd, x with
    | .slice e, .string, .slice none _ _ => match P.underlying e with
      | some (.int .u8) => some (.string .empty, m)
      | _ => none
    | .slice e, .string, .slice (some a) n _ => match P.underlying e with
      | some (.int .u8) => match loadN m a n with
        | some l => match u8cells l with
          | some bs => some (.string ⟨bs.toArray⟩, m)
          | none => none
        | none => none
      | _ => none
    | .string, .slice e, .string s => match P.underlying e, sizeT P e with
      | some (.int .u8), some 1 =>
        let (a, m') := newLoose m e (s.data.toList.map fun b => .int .u8 b.toNat)
        some (.slice (some a) s.size loose, m')
      | _, _ => none
    | .string, .string, .string s => some (.string s, m)
    | .int _, .int k, .int _ n => some (.int k (k.wrap n), m)
    | .pointer _, .unsafePointer, .pointer none => some (.pointer none, m)
    | .unsafePointer, .pointer _, .pointer none => some (.pointer none, m)
    | .pointer t, .unsafePointer, .pointer (some a) => match a.spot, sizeT P t, m.get a.block with
      | none, some (_ + 1), some (.cells c _ _) => if a.off < c.length then some (.pointer (some a), m) else none
      | _, _, _ => none
    | .unsafePointer, .pointer u, .pointer (some a) => match a.spot, P.info? u, m.get a.block with
      | none, some _, some (.cells c e false) => if liesAt P P.depth e (c.length / P.cellsOf e) a.off u 1 then some (.pointer (some a), m) else none
      | _, _, _ => none
    | _, _, _ => none
  | _, _, _ => none

inductive DEnd where
  | ret (v : Value)
  | pan (v : Value)

abbrev CallF := FuncId → List Value → Mem → Option (DEnd × Mem)

/-- What is known of some functions: `orc`: such a call returns this, and leaves old memory alone; `ext`: a function without a body; `idf`: one that hands its argument back. -/
structure Env where
  orc : FuncId → List Value → Option Value
  ext : FuncId → List Value → Option Value
  idf : FuncId → Bool
  /-- Calls whose pairs with loads are looked at. -/
  loud : FuncId → Bool := fun _ => false

inductive R where
  | val (v : Value)
  | pan (v : Value)

def vals (r : Option (Value × Mem)) : Option (R × Mem) := match r with | some (v, m) => some (.val v, m) | none => none
def val (m : Mem) (r : Option Value) : Option (R × Mem) := match r with | some v => some (.val v, m) | none => none
def unit (r : Option Mem) : Option (R × Mem) := match r with | some m => some (.val undef, m) | none => none

def minMax (mx : Bool) : Value → List Value → Option Value
  | v, [] => some v
  | .int k x, .int _ y :: r => minMax mx (.int k (if mx then (if x < y then y else x) else (if y < x then y else x))) r
  | .string x, .string y :: r =>
    let le := Op.bytesLess x.toList y.toList || x.toList == y.toList
    let ge := !(Op.bytesLess x.toList y.toList)
    minMax mx (.string (if mx then (if ge then x else y) else (if le then x else y))) r
  | _, _ => none

def clearV (P : Program) (m : Mem) (t : TypeId) (x : Value) : Option Mem :=
  match P.underlying t, x with
  | some (.slice _), .slice none _ _ => some m
  | some (.slice e), .slice (some a) n _ => match zeroCells P e with
    | some z => if n = 0 then some m else storeN m a (repl n z)
    | none => none
  | _, _ => none

/-- The address of a slice's first element. -/
def sliceData : Value → Option Value
  | .slice none _ _ => some (.pointer none)
  | .slice (some a) n c => bif (bif isLoose c then Nat.blt 0 n else Nat.blt 0 c) then some (.pointer (some a)) else none
  | _ => none

def u8strict : List Value → Option (List UInt8)
  | [] => some []
  | v :: r => match v, u8strict r with
    | .int .u8 n, some l => if ((UInt8.ofNat n.toNat).toNat : Int) = n then some (UInt8.ofNat n.toNat :: l) else none
    | _, _ => none

/-- The string of some bytes that lie there; they are given up (they are frozen then). -/
def bytesString (P : Program) (m : Mem) (t : TypeId) (p n : Value) : Option (Value × Mem) :=
  match P.underlying t, p, n with
  | some (.pointer e), .pointer p, .int .i64 n =>
    if n = 0 then some (.string .empty, m) else
    match p with
    | none => none
    | some a => match a.spot, m.get a.block with
      | none, some (.cells c e' _) =>
        if e' = e ∧ a.off = 0 ∧ m.base ≤ a.block ∧ 0 < n ∧ n ≤ c.length ∧ n ≤ 140737488355328 ∧ P.cellsOf e = 1 then
          match u8strict (c.take n.toNat) with
          | some bs => some (.string ⟨bs.toArray⟩, m.put a.block none)
          | none => none
        else none
      | _, _ => none
  | _, _, _ => none

def builtinV (P : Program) (m : Mem) (b : Builtin) (ats : Array TypeId) (args : List Value) : Option (R × Mem) :=
  match b, args with
  | .len, [x] => match ats[0]? with | some t => val m (lenOfV P m t x) | none => none
  | .append, [s, x] => match ats[0]?, ats[1]? with | some st, some xt => vals (append P m st xt s x) | _, _ => none
  | .copy, [d, x] => match ats[0]? with | some t => vals (copyV P m t d x) | none => none
  | .clear, [x] => match ats[0]? with | some t => unit (clearV P m t x) | none => none
  | .min, x :: r => val m (minMax false x r)
  | .max, x :: r => val m (minMax true x r)
  | .unsafeSliceData, [x] => val m (sliceData x)
  | .unsafeString, [p, n] => match ats[0]? with | some t => vals (bytesString P m t p n) | none => none
  | _, _ => no "builtin"

def callV (env : Env) (callf : CallF) (m : Mem) (f : Value) (args : List Value) : Option (R × Mem) :=
  match f with
  | .func (.func g) first captured =>
    bif env.idf g then (match first.toList ++ args ++ captured.toList with | [x] => some (.val x, m) | _ => none) else
    match env.ext g (first.toList ++ args ++ captured.toList) with
    | some v => if plain v then some (.val v, m) else none
    | none =>
    match callf g (first.toList ++ args ++ captured.toList) m with
    | some (.ret v, m') => some (.val v, m')
    | some (.pan v, m') => some (.pan v, m')
    | none => none
  | _ => no "call of what"

def opV (env : Env) (callf : CallF) (P : Program) (ρ : Operand → Value) (o : Oper) (m : Mem) : Option (R × Mem) :=
  match o.op with
  | .move x | .assign x => some (.val (ρ x), m)
  | .pick c a b => match ρ c with | .bool true => some (.val (ρ a), m) | .bool false => some (.val (ρ b), m) | _ => no "pick"
  | .alloc e => match zeroCells P e with | some z => let (a, m') := newRow m e z; some (.val (.pointer (some a)), m') | none => no "alloc"
  | .box e x => match sizeT P e with | some _ => let (a, m') := newRow m e (ρ x).cells.toList; some (.val (.pointer (some a)), m') | none => no "box"
  | .build t parts => val m (build P t (parts.toList.map fun (i, x) => (i, ρ x)))
  | .buildSlice t len parts => vals (buildSlice P m t len (parts.toList.map fun (i, x) => (i, ρ x)))
  | .load t a => val m (loadVar P m t (ρ a))
  | .store t a x => unit (storeVar P m t (ρ a) (ρ x))
  | .nilCheck x => match ρ x with | .pointer (some a) => some (.val (.pointer (some a)), m) | _ => no "nilCheck"
  | .binOp op t x y _ => val m (binOpV P op t x y (ρ x) (ρ y))
  | .unOp op _ x => if scalar (ρ x) then val m (semScal (Op.unary op (ρ x))) else none
  | .convert s d x => vals (convertV P m s d (ρ x))
  | .makeInterface t x => match P.underlying t with | some (.interface _) => none | some _ => some (.val (.iface t (ρ x)), m) | none => none
  | .makeFunc fn first captured => some (.val (.func fn (first.map ρ) (captured.map ρ)), m)
  | .makeSlice t l c => vals (makeSlice P m t (ρ l) (ρ c))
  | .slice t x lo hi mx => val m (sliceV P t (ρ x) (lo.map ρ) (hi.map ρ) (mx.map ρ))
  | .fieldAddr s x f => val m (fieldAt P s (ρ x) f)
  | .field t x f => val m (fieldV P t (ρ x) f)
  | .indexAddr t x ix => val m (indexAt P t (ρ x) (ρ ix))
  | .index t x ix => val m (indexV P t (ρ x) (ρ ix))
  | .extract t ix => match ρ t with | .tuple vs => val m vs[ix]? | _ => none
  | .call c => match c.callee with
    | .value f => callV env callf m (ρ f) (c.args.toList.map ρ)
    | .builtin b => builtinV P m b c.argTypes (c.args.toList.map ρ)
    | .invoke _ _ => no "invoke"
  | .panic x => match ρ x with | .iface t v => some (.pan (.iface t v), m) | _ => none
  | _ => no "op"

inductive DX where
  | normal
  | exit (id : Nat)
  | ret
  | pan (v : Value)

def ops (env : Env) (callf : CallF) (P : Program) (os : Array Oper) : List Nat → Act → Mem → Option (DX × Act × Mem)
  | [], a, m => some (.normal, a, m)
  | i :: rest, a, m =>
    match os[i]? with
    | none => none
    | some o =>
      if Region.wanted o (yielded os a.tmps) then
        match opV env callf P a.eval o m with
        | some (.val v, m') => ops env callf P os rest (a.put o.dst v) m'
        | some (.pan v, m') => some (.pan v, a, m')
        | none => no "OPER"
      else ops env callf P os rest (a.put o.dst undef) m

/-- Blocks that an operation reads, or writes. -/
inductive FP where
  | nil
  | one (b : Nat)
  | two (b c : Nat)
  | some (l : List Nat)
  | all

def FP.has : FP → Nat → Bool
  | .nil, _ => false
  | .one b, c => b == c
  | .two b d, c => b == c || d == c
  | .some l, c => l.any fun b => b == c
  | .all, _ => true

def FP.list : FP → Option (List Nat)
  | .nil => Option.some []
  | .one b => Option.some [b]
  | .two b c => Option.some [b, c]
  | .some l => Option.some l
  | .all => none

def FP.meets (f g : FP) : Bool :=
  match f.list, g.list with
  | none, none => true
  | none, Option.some l | Option.some l, none => !l.isEmpty
  | Option.some l, Option.some k => l.any fun b => k.any fun c => b == c

def FP.meetsIn (lo hi : Nat) : FP → Bool
  | .nil => false
  | .all => Nat.blt lo hi
  | .one b => Nat.ble lo b && Nat.blt b hi
  | .two b c => (Nat.ble lo b && Nat.blt b hi) || (Nat.ble lo c && Nat.blt c hi)
  | .some l => l.any fun b => Nat.ble lo b && Nat.blt b hi

def blockOf : Value → FP
  | .pointer (some a) => .one a.block
  | .slice (some a) _ _ => .one a.block
  | .map (some r) => .one r
  | _ => .nil

def FP.join : FP → FP → FP
  | .nil, x => x
  | x, .nil => x
  | .one b, .one c => .two b c
  | _, _ => .all

/-- What an operation looks at, and what it may write (of a call: all). -/
def looks (ρ : Operand → Value) (o : Oper) : FP :=
  match o.op with
  | .load _ a => blockOf (ρ a)
  | .convert _ _ x => blockOf (ρ x)
  | .call c => match c.callee, c.args.toList with
    | .builtin .append, [s, x] => (blockOf (ρ s)).join (blockOf (ρ x))
    | .builtin .copy, [_, x] => blockOf (ρ x)
    | .builtin .len, [x] => match ρ x with | .map (some r) => .one r | _ => .nil
    | .builtin .min, _ | .builtin .max, _ | .builtin .clear, _ | .builtin .unsafeSliceData, _ => .nil
    | .builtin .unsafeString, [p, _] => blockOf (ρ p)
    | _, _ => .all
  | _ => .nil

def writes (ρ : Operand → Value) (o : Oper) : FP :=
  match o.op with
  | .store _ a _ => blockOf (ρ a)
  | .call c => match c.callee, c.args.toList with
    | .builtin .append, [s, _] => blockOf (ρ s)
    | .builtin .copy, [d, _] => blockOf (ρ d)
    | .builtin .clear, [x] => blockOf (ρ x)
    | .builtin .len, _ | .builtin .min, _ | .builtin .max, _ | .builtin .unsafeSliceData, _ => .nil
    | .builtin .unsafeString, [p, _] => blockOf (ρ p)
    | _, _ => .all
  | _ => .nil

structure Rec where
  rd : FP
  wr : FP
  lo : Nat
  hi : Nat

def Rec.clash (a b : Rec) : Bool := a.wr.meets b.rd || a.wr.meets b.wr || b.wr.meets a.rd || b.rd.meetsIn a.lo a.hi || b.wr.meetsIn a.lo a.hi

def Rec.still (a : Rec) : Bool := (match a.wr with | .nil => true | _ => false) && a.lo == a.hi

/-- What was written of the blocks below n. -/
def wrOf (n : Nat) (l : List Nat) : FP := match l.filter fun b => Nat.blt b n with
  | [] => .nil
  | b :: r => .some (b :: r)

/-- Memory behind a step that began with no block written. -/
def Mem.relow (m' m : Mem) : Mem := { m' with low := (m'.low.filter fun b => Nat.blt b m.next) ++ m.low }

def Mem.mark (m : Mem) : Mem := { m with low := [] }

/-- Whether no block below n was written. -/
def Mem.clean (m' : Mem) (n : Nat) : Bool := m'.low.all fun b => Nat.ble n b

def trace (env : Env) (callf : CallF) (P : Program) (os : Array Oper) : List Nat → Act → Mem → Option (List Rec × Act × Mem)
  | [], a, m => some ([], a, m)
  | i :: rest, a, m =>
    match os[i]? with
    | none => none
    | some o =>
      if Region.wanted o (yielded os a.tmps) then
        match opV env callf P a.eval o m.mark with
        | some (.val v, m') =>
          match trace env callf P os rest (a.put o.dst v) (m'.relow m) with
          | some (rs, a', m'') => some (⟨looks a.eval o, wrOf m.next m'.low, m.next, m'.next⟩ :: rs, a', m'')
          | none => none
        | _ => no "TRACE"
      else
        match trace env callf P os rest (a.put o.dst undef) m with
        | some (rs, a', m'') => some (⟨.nil, .nil, m.next, m.next⟩ :: rs, a', m'')
        | none => none

/-- Two operations of which one need not wait for the other (mode `any`) may change places. -/
def pairOk (bf : Array Nat) (i j : Nat) (a b : Rec) : Bool := (bf.getD j 0).testBit i || !a.clash b

def rowOk (bf : Array Nat) (i : Nat) (a : Rec) : Nat → List Rec → Bool
  | _, [] => true
  | j, b :: rest => pairOk bf i j a b && rowOk bf i a (j + 1) rest

def pairsOk (bf : Array Nat) : Nat → List Rec → Bool
  | _, [] => true
  | i, a :: rest => rowOk bf i a (i + 1) rest && pairsOk bf (i + 1) rest

def drawn (env : Env) (callf : CallF) (P : Program) (os : Array Oper) (a : Act) (m : Mem) : Option (DX × Act × Mem) :=
  match trace env callf P os (List.range os.size) a m with
  | some (rs, a', m') =>
    if rs.all Rec.still || pairsOk (Region.before os) 0 rs then some (.normal, a', m') else no "DRAWN"
  | none => none

def iter (f : Act → Mem → Option (DX × Act × Mem)) : Nat → Act → Mem → Option (DX × Act × Mem)
  | 0, _, _ => none
  | k + 1, a, m => match f a m with
    | some (.normal, a', m') => iter f k a' m'
    | r => r

def code (env : Env) (callf : CallF) (P : Program) (k : Nat) : Code → Act → Mem → Option (DX × Act × Mem)
  | .skip, a, m => some (.normal, a, m)
  | .region _ os d, a, m => if d then drawn env callf P os a m else ops env callf P os (List.range os.size) a m
  | .seq x y, a, m => match code env callf P k x a m with
    | some (.normal, a', m') => code env callf P k y a' m'
    | r => r
  | .cond c x y, a, m => match a.eval c with
    | .bool true => code env callf P k x a m
    | .bool false => code env callf P k y a m
    | _ => none
  | .block id c, a, m => match code env callf P k c a m with
    | some (.exit j, a', m') => if j = id then some (.normal, a', m') else some (.exit j, a', m')
    | r => r
  | .loop c, a, m => iter (code env callf P k c) k a m
  | .exit id, a, m => some (.exit id, a, m)
  | .ret, a, m => some (.ret, a, m)
  | _, _, _ => no "code"

def resOf (P : Program) (m : Mem) (tmps : Array Value) : List ResultVar → Option (List Value)
  | [] => some []
  | .tmp t :: r => match resOf P m tmps r with
    | some l => some (tmps.getD t undef :: l)
    | none => none
  | .cell a t :: r => match loadVar P m t (tmps.getD a undef), resOf P m tmps r with
    | some v, some l => some (v :: l)
    | _, _ => none

def tupled : List Value → Value
  | [v] => v
  | l => .tuple l.toArray

def call (P : Program) (env : Env) : Nat → FuncId → List Value → Mem → Option (DEnd × Mem)
  | 0, _, _, _ => no "fuel"
  | k + 1, f, args, m =>
    match env.orc f args with
    | some v => if plain v then some (.ret v, m) else none
    | none =>
      match P.funcs[f]? with
      | none => none
      | some fn =>
        match fn.body with
        | none => no fn.name
        | some c =>
          match code env (call P env k) P k c { tmps := (args ++ List.replicate (fn.ntmps - args.length) undef).toArray, defers := [] } m.mark with
          | some (.normal, a, m') | some (.ret, a, m') =>
            match resOf P m' a.tmps fn.results.toList with
            | none => none
            | some l =>
              let v := tupled l
              if plain v && m'.clean m.next then some (.ret v, m) else some (.ret v, m'.relow m)
          | some (.pan v, _, m') => some (.pan v, m'.relow m)
          | _ => no fn.name

end Go.D
