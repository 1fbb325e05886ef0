/- D: regions in continuation style. -/
import Derived.Test.YtfdfickokkokmaaDoorLD23
set_option linter.unusedSimpArgs false
set_option linter.unusedVariables false
namespace Go.D
open Go

def saidL (v : Value) (want : Bool) : Bool :=
  match v with
  | .bool b => b == want
  | _ => false

def saidB (ρ : Rho) (os : Array Oper) (j : Nat) (want : Bool) : Bool :=
  match (os[j]?).bind (·.dst) with
  | some d => saidL (ρ d) want
  | none => false

theorem saidB_eq (ρ : Rho) (os : Array Oper) (j : Nat) (want : Bool) : saidB ρ os j want = (ρ.said os j == some want) := by
  unfold saidB Rho.said saidL
  cases (os[j]?).bind (·.dst) with
  | none => rfl
  | some d => simp only; cases ρ d <;> rfl

def bindR {α : Type} (o : Option (R × Mem)) (K KP : Value → Mem → Option α) : Option α :=
  match o with
  | some (.val v, m) => K v m
  | some (.pan v, m) => KP v m
  | none => none

def opsC {α : Type} (env : Env) (runf : CallF) (P : Program) (os : Array Oper) : List Nat → Rho → Mem → (DX → Rho → Mem → Option α) → Option α
  | [], ρ, m, K => K .normal ρ m
  | i :: rest, ρ, m, K =>
    match os[i]? with
    | none => none
    | some o => match o.guard with
      | none => opC env runf P ρ.eval o.op m (fun v m' => opsC env runf P os rest (ρ.put o.dst v) m' K) fun v m' => K (.pan v) ρ m'
      | some (j, want) => bindR (bif saidB ρ os j want then opC env runf P ρ.eval o.op m (fun v m' => some (R.val v, m')) (fun v m' => some (R.pan v, m')) else some (R.val undef, m))
          (fun v m' => opsC env runf P os rest (ρ.put o.dst v) m' K) fun v m' => K (.pan v) ρ m'

theorem opsC_sound {α : Type} {env : Env} {runf : CallF} {P : Program} {os : Array Oper} {r : α} {K : DX → Rho → Mem → Option α} : ∀ {l : List Nat} {ρ : Rho} {m : Mem}, opsC env runf P os l ρ m K = some r →
    ∃ d ρ' m', opsW env runf P os l ρ m = some (d, ρ', m') ∧ K d ρ' m' = some r
  | [], ρ, m, h => ⟨_, _, _, rfl, h⟩
  | i :: rest, ρ, m, h => by
    unfold opsC at h
    unfold opsW
    split at h
    · cases h
    · rename_i o ho
      simp only [ho]
      split at h
      · rename_i hg
        obtain ⟨q, m', hq, hk⟩ := opC_sound h
        have hw : Region.wanted o (ρ.said os) = true := by unfold Region.wanted; rw [hg]
        simp only [hw, if_true, hq]
        cases q with
        | val v => exact opsC_sound hk
        | pan v => exact ⟨_, _, _, rfl, hk⟩
      · rename_i j want hg
        have hw : Region.wanted o (ρ.said os) = saidB ρ os j want := by unfold Region.wanted; rw [hg, saidB_eq]
        rw [hw]
        cases hs : saidB ρ os j want with
        | true =>
          simp only [hs, cond_true] at h
          simp only [if_true]
          unfold bindR at h
          split at h
          · rename_i v m1 h1
            obtain ⟨q, m', hq, hk⟩ := opC_sound h1
            simp only [hq]
            cases q with
            | val v => simp only [sel, Option.some.injEq, Prod.mk.injEq, R.val.injEq] at hk; obtain ⟨rfl, rfl⟩ := hk; exact opsC_sound h
            | pan v => simp [sel] at hk
          · rename_i v m1 h1
            obtain ⟨q, m', hq, hk⟩ := opC_sound h1
            simp only [hq]
            cases q with
            | val v => simp [sel] at hk
            | pan v => simp only [sel, Option.some.injEq, Prod.mk.injEq, R.pan.injEq] at hk; obtain ⟨rfl, rfl⟩ := hk; exact ⟨_, _, _, rfl, h⟩
          · cases h
        | false =>
          simp only [hs, cond_false, bindR] at h
          simp only [Bool.false_eq_true, if_false]
          exact opsC_sound h

inductive Cls where
  | A | B | C | W | F

def clsOf (P : Program) : Op → Cls
  | .move _ | .assign _ | .pick _ _ _ | .build _ _ | .nilCheck _ | .binOp _ _ _ _ _ | .unOp _ _ _ | .makeInterface _ _ | .makeFunc _ _ _ | .slice _ _ _ _ _ | .fieldAddr _ _ _ | .field _ _ _ | .indexAddr _ _ _ | .index _ _ _ | .extract _ _ => .A
  | .load _ _ => .B
  | .alloc _ | .box _ _ | .buildSlice _ _ _ | .makeSlice _ _ _ => .C
  | .convert s d _ => match P.underlying s, P.underlying d with
    | some (.int _), some (.int _) => .A
    | some .string, some .string => .A
    | _, _ => .W
  | .call c => match c.callee with
    | .builtin b => match b with
      | .min | .max | .unsafeSliceData => .A
      | .len => match c.argTypes[0]? with
        | some t => match P.underlying t with
          | some .string | some (.slice _) => .A
          | _ => .W
        | none => .W
      | _ => .W
    | _ => .F
  | _ => .W

open Classical in
noncomputable def quiet {α : Type} (o : Option (DEnd × Mem)) (m : Mem) (K : Value → Option α) : Option α :=
  match o with
  | some (.ret v, m') => if m' = m.mark then K v else none
  | _ => none

def endD {α : Type} (o : Option (DEnd × Mem)) (m : Mem) (K : Value → Mem → FP → Option α) : Option α :=
  match o with
  | some (.ret v, m') => K v (m'.relow m) (wrOf m.next m'.low)
  | _ => none

noncomputable def callQ {α : Type} (env : Env) (runf : CallF) (q : Bool) (m : Mem) (f : Value) (args : List Value) (K : Value → Mem → FP → Option α) : Option α :=
  match f with
  | .func (.func g) first captured =>
    bif env.idf g then oneC (first.toList ++ args ++ captured.toList) fun x => K x m .nil else
    match env.ext g (first.toList ++ args ++ captured.toList) with
    | some v => if plain v then K v m .nil else none
    | none => bif q then quiet (runf g (first.toList ++ args ++ captured.toList) m.mark) m fun v => K v m .nil else endD (runf g (first.toList ++ args ++ captured.toList) m.mark) m K
  | _ => none

/-- What an operation other than a call writes, at most. -/
def wOf (P : Program) (ρ : Operand → Value) (o : Oper) : FP :=
  match clsOf P o.op with
  | .A | .B | .C => .nil
  | _ => writes ρ o

noncomputable def opD {α : Type} (env : Env) (runf : CallF) (P : Program) (q : Bool) (ρ : Operand → Value) (o : Oper) (m : Mem) (K : Value → Mem → FP → Option α) : Option α :=
  match o.op with
  | .call c => match c.callee with
    | .value f => callQ env runf q m (ρ f) (c.args.toList.map ρ) K
    | .builtin b => builtinC P b c.argTypes m (c.args.toList.map ρ) fun v m' => K v m' (wOf P ρ o)
    | _ => none
  | op => opC env runf P ρ op m (fun v m' => K v m' (wOf P ρ o)) fun _ _ => none

def nilRec (m : Mem) : Rec := ⟨.nil, .nil, m.next, m.next⟩

/-- What an operation in a drawn region looks at and writes, at most. -/
def recOf (P : Program) (ρ : Operand → Value) (o : Oper) (w : FP) (m m' : Mem) : Rec :=
  match clsOf P o.op with
  | .A => nilRec m
  | .C => ⟨.nil, .nil, m.next, m'.next⟩
  | .F => ⟨.all, w, m.next, m'.next⟩
  | _ => ⟨looks ρ o, w, m.next, m'.next⟩

def r0 : Rec := ⟨.nil, .nil, 0, 0⟩

def then3 {α : Type} (o : Option (Value × Mem × Rec)) (K : Value → Mem → Rec → Option α) : Option α :=
  match o with
  | some (v, m, r) => K v m r
  | none => none

noncomputable def opsD {α : Type} (env : Env) (runf : CallF) (P : Program) (dy : Bool) (q : Nat → Bool) (os : Array Oper) : List Nat → Rho → Mem → List Rec → (List Rec → Rho → Mem → Option α) → Option α
  | [], ρ, m, rs, K => K rs.reverse ρ m
  | i :: rest, ρ, m, rs, K =>
    match os[i]? with
    | none => none
    | some o => match o.guard with
      | none => opD env runf P (q i) ρ.eval o m fun v m' w => opsD env runf P dy q os rest (ρ.put o.dst v) m' ((bif dy then recOf P ρ.eval o w m m' else r0) :: rs) K
      | some (j, want) => then3 (bif saidB ρ os j want then opD env runf P (q i) ρ.eval o m (fun v m' w => some (v, m', bif dy then recOf P ρ.eval o w m m' else r0)) else some (undef, m, bif dy then nilRec m else r0))
          fun v m' r => opsD env runf P dy q os rest (ρ.put o.dst v) m' (r :: rs) K

def isF : Cls → Bool | .F => true | _ => false
def isBF : Cls → Bool | .F | .B => true | _ => false

/-- Two operations of which none waits for the other. -/
def loosed (bf : Array Nat) (i j : Nat) : Bool := !(bf.getD j 0).testBit i && !(bf.getD i 0).testBit j

def clsAt (P : Program) (os : Array Oper) (i : Nat) : Cls := match os[i]? with
  | some o => clsOf P o.op
  | none => .W

/-- A call of a function that is known to make new blocks. -/
def loudAt (env : Env) (os : Array Oper) (i : Nat) : Bool := match os[i]? with
  | some o => match o.op with
    | .call c => match c.callee with
      | .value (.func g) => env.loud g
      | _ => false
    | _ => false
  | none => false

/-- Calls that are unordered with a load or a call must be quiet, but for the loud ones. -/
def quietAt (env : Env) (P : Program) (os : Array Oper) (i : Nat) : Bool :=
  isF (clsAt P os i) && ((List.range os.size).any fun j => !(j == i) && (loosed (Region.before os) i j && isBF (clsAt P os j))) && !loudAt env os i

def fine (c : Cls) (q : Bool) (c' : Cls) (q' : Bool) : Bool :=
  match c, c' with
  | .A, _ | _, .A | _, .C | .B, .B => true
  | .B, .F => q'
  | .F, .B => q
  | .F, .F => q && q'
  | _, _ => false

def dynPairs (env : Env) (P : Program) (os : Array Oper) : List (Nat × Nat) :=
  (List.range os.size).flatMap fun j => ((List.range j).filter fun i => !((Region.before os).getD j 0).testBit i && !fine (clsAt P os i) (quietAt env P os i) (clsAt P os j) (quietAt env P os j)).map fun i => (i, j)

def chk (ps : List (Nat × Nat)) (rs : List Rec) : Bool := ps.all fun (i, j) => !(rs.getD i r0).clash (rs.getD j r0)

noncomputable def drawnC {α : Type} (env : Env) (runf : CallF) (P : Program) (os : Array Oper) (ρ : Rho) (m : Mem) (K : DX → Rho → Mem → Option α) : Option α :=
  match dynPairs env P os with
  | [] => opsD env runf P false (quietAt env P os) os (List.range os.size) ρ m [] fun _ ρ' m' => K .normal ρ' m'
  | p :: ps => opsD env runf P true (quietAt env P os) os (List.range os.size) ρ m [] fun rs ρ' m' => bif chk (p :: ps) rs then K .normal ρ' m' else none

end Go.D
