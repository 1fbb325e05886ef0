/- D: the code of a function as texts between cutting points. -/
import Derived.Test.YtfdfickokkokmaaDoorLD26
set_option linter.unusedSimpArgs false
set_option linter.unusedVariables false
namespace Go.D
open Go

/-- What comes behind a piece of code. -/
inductive Fr where
  | s (cut : Bool) (c : Code)
  | b (id : Nat)
  | l (c : Code)

abbrev Fin := DX → Rho → Mem → Option (DEnd × Mem)

def thenW (o : Out) (K : Fin) : Option (DEnd × Mem) :=
  match o with
  | some (d, ρ, m) => K d ρ m
  | none => none

def condL {α : Type} (c : Value) (x y : Option α) : Option α :=
  match c with
  | .bool true => x
  | .bool false => y
  | _ => none

section
variable (env : Env) (runf : CallF) (P : Program) (F : Fin)

noncomputable def kW : List Fr → Fin
  | [], d, ρ, m => F d ρ m
  | .s _ c :: st, .normal, ρ, m => thenW (codeW env runf P c ρ m) (kW st)
  | .s _ _ :: st, d, ρ, m => kW st d ρ m
  | .b id :: st, .exit j, ρ, m => bif Nat.beq j id then kW st .normal ρ m else kW st (.exit j) ρ m
  | .b _ :: st, d, ρ, m => kW st d ρ m
  | .l c :: st, .normal, ρ, m => thenW (codeW env runf P (.loop c) ρ m) (kW st)
  | .l _ :: st, d, ρ, m => kW st d ρ m

noncomputable def goW (c : Code) (st : List Fr) (ρ : Rho) (m : Mem) : Option (DEnd × Mem) := thenW (codeW env runf P c ρ m) (kW env runf P F st)

/-- How often a piece of code falls through; whether it loops; whether it is worth a cutting point. -/
def exits (id : Nat) : Code → Nat
  | .seq x y => exits id x + exits id y
  | .cond _ x y => exits id x + exits id y
  | .block _ c => exits id c
  | .loop c => exits id c
  | .exit j => bif Nat.beq j id then 1 else 0
  | _ => 0

def ends : Code → Nat
  | .skip | .region _ _ _ => 1
  | .seq x y => Nat.mul (ends x) (ends y)
  | .cond _ x y => Nat.add (ends x) (ends y)
  | .block id c => Nat.add (ends c) (exits id c)
  | _ => 0

def loops : Code → Bool
  | .seq x y => loops x || loops y
  | .cond _ x y => loops x || loops y
  | .block _ c => loops c
  | .loop _ => true
  | _ => false

def big : Code → Bool
  | .skip | .ret | .exit _ => false
  | .region _ os _ => Nat.blt 2 os.size
  | .seq x y => big x || big y
  | _ => true

def cutAt (x y : Code) : Bool := (Nat.blt 1 (ends x) || loops x) && big y

mutual
noncomputable def cC : Nat → Code → List Fr → Rho → Mem → Option (DEnd × Mem)
  | 0, c, st, ρ, m => goW env runf P F c st ρ m
  | n + 1, c, st, ρ, m => match c with
    | .skip => rC n st .normal ρ m
    | .region _ os d => bif d then drawnC env runf P os ρ m (rC n st) else opsC env runf P os (List.range os.size) ρ m (rC n st)
    | .seq x y => cC n x (.s (cutAt x y) y :: st) ρ m
    | .cond c x y => condL (ρ.eval c) (cC n x st ρ m) (cC n y st ρ m)
    | .block id c => cC n c (.b id :: st) ρ m
    | .loop c => goW env runf P F (.loop c) st ρ m
    | .exit id => rC n st (.exit id) ρ m
    | .ret => rC n st .ret ρ m
    | c => goW env runf P F c st ρ m
noncomputable def rC : Nat → List Fr → DX → Rho → Mem → Option (DEnd × Mem)
  | 0, st, d, ρ, m => kW env runf P F st d ρ m
  | n + 1, st, d, ρ, m => match st with
    | [] => F d ρ m
    | .s k c :: st => match d with
      | .normal => bif k then goW env runf P F c st ρ m else cC n c st ρ m
      | d => rC n st d ρ m
    | .b id :: st => match d with
      | .exit j => bif Nat.beq j id then rC n st .normal ρ m else rC n st (.exit j) ρ m
      | d => rC n st d ρ m
    | .l c :: st => match d with
      | .normal => goW env runf P F (.loop c) st ρ m
      | d => rC n st d ρ m
end

variable {env runf P F}

theorem thenW_some {o : Out} {K : Fin} {r : DEnd × Mem} (h : thenW o K = some r) : ∃ d ρ m, o = some (d, ρ, m) ∧ K d ρ m = some r := by
  unfold thenW at h
  split at h
  · exact ⟨_, _, _, rfl, h⟩
  · cases h

mutual
theorem cC_sound : ∀ (n : Nat) {c : Code} {st : List Fr} {ρ : Rho} {m : Mem} {r : DEnd × Mem}, cC env runf P F n c st ρ m = some r → goW env runf P F c st ρ m = some r
  | 0, c, st, ρ, m, r, h => by unfold cC at h; exact h
  | n + 1, c, st, ρ, m, r, h => by
    unfold cC at h
    split at h
    · exact rC_sound n h
    · rename_i id os d
      unfold goW
      simp only [codeW]
      cases d with
      | true =>
        simp only [cond_true] at h
        obtain ⟨ρ', m', h1, h2⟩ := drawnC_sound h
        simp only [if_true, h1, thenW]
        exact rC_sound n h2
      | false =>
        simp only [cond_false] at h
        obtain ⟨d', ρ', m', h1, h2⟩ := opsC_sound h
        simp only [Bool.false_eq_true, if_false, h1, thenW]
        exact rC_sound n h2
    · rename_i x y
      have := cC_sound n h
      unfold goW at this ⊢
      obtain ⟨d, ρ', m', h1, h2⟩ := thenW_some this
      simp only [codeW, h1]
      cases d with
      | normal => simp only [kW] at h2; exact h2
      | _ => simp only [kW] at h2; exact h2
    · rename_i c x y
      unfold goW
      simp only [codeW]
      unfold condL at h
      split at h
      · rename_i hc; simp only [hc]; exact cC_sound n h
      · rename_i hc; simp only [hc]; exact cC_sound n h
      · cases h
    · rename_i id c
      have := cC_sound n h
      unfold goW at this ⊢
      obtain ⟨d, ρ', m', h1, h2⟩ := thenW_some this
      simp only [codeW, h1]
      cases d with
      | exit j =>
        simp only [kW] at h2
        by_cases e : j = id
        · subst e
          simp only [Nat.beq_refl, cond_true] at h2
          simp only [if_true, thenW]; exact h2
        · have : Nat.beq j id = false := by rw [Bool.eq_false_iff]; intro h; exact e (Nat.eq_of_beq_eq_true h)
          simp only [this, cond_false] at h2
          simp only [e, if_false, thenW]; exact h2
      | _ => simp only [kW] at h2; exact h2
    · exact h
    · exact rC_sound n h
    · exact rC_sound n h
    · exact h
theorem rC_sound : ∀ (n : Nat) {st : List Fr} {d : DX} {ρ : Rho} {m : Mem} {r : DEnd × Mem}, rC env runf P F n st d ρ m = some r → kW env runf P F st d ρ m = some r
  | 0, st, d, ρ, m, r, h => by unfold rC at h; exact h
  | n + 1, st, d, ρ, m, r, h => by
    unfold rC at h
    split at h
    · simp only [kW]; exact h
    · rename_i k c st
      split at h
      · simp only [kW]
        cases k with
        | true => simp only [cond_true] at h; exact h
        | false => simp only [cond_false] at h; exact cC_sound n h
      · rename_i hd
        have := rC_sound n h
        cases d <;> first | exact absurd rfl hd | (simp only [kW]; exact this)
    · rename_i id st
      split at h
      · rename_i j
        simp only [kW]
        cases hb : Nat.beq j id with
        | true => rw [hb] at h; simp only [cond_true] at h ⊢; exact rC_sound n h
        | false => rw [hb] at h; simp only [cond_false] at h ⊢; exact rC_sound n h
      · rename_i hd
        have := rC_sound n h
        cases d <;> first | exact absurd rfl (hd _) | (simp only [kW]; exact this)
    · rename_i c st
      split at h
      · simp only [kW]; exact h
      · rename_i hd
        have := rC_sound n h
        cases d <;> first | exact absurd rfl hd | (simp only [kW]; exact this)
end

/-- A loop is its body and the loop again. -/
theorem goW_loop {c : Code} {st : List Fr} {ρ : Rho} {m : Mem} {r : DEnd × Mem} (h : goW env runf P F c (.l c :: st) ρ m = some r) : goW env runf P F (.loop c) st ρ m = some r := by
  unfold goW at h ⊢
  obtain ⟨d, ρ1, m1, h1, h2⟩ := thenW_some h
  simp only [codeW]
  cases d with
  | normal =>
    simp only [kW] at h2
    obtain ⟨d2, ρ2, m2, h3, h4⟩ := thenW_some h2
    simp only [codeW] at h3
    obtain ⟨k, hk⟩ := loopG_some.1 h3
    have : loopG (codeW env runf P c) ρ m = some (d2, ρ2, m2) := loopG_some.2 ⟨k + 1, by unfold iterG; simp only [h1]; exact hk⟩
    rw [this]; exact h4
  | _ =>
    simp only [kW] at h2
    have : loopG (codeW env runf P c) ρ m = some (_, ρ1, m1) := loopG_some.2 ⟨1, by unfold iterG; simp only [h1]; rfl⟩
    rw [this]; exact h2

end

/-- The piece of code at a path, and what comes behind it. -/
def focus : Code → List Fr → List Nat → Code × List Fr
  | c, st, [] => (c, st)
  | .seq x y, st, 0 :: p => focus x (.s (cutAt x y) y :: st) p
  | .seq _ y, st, _ :: p => focus y st p
  | .cond _ x _, st, 0 :: p => focus x st p
  | .cond _ _ y, st, _ :: p => focus y st p
  | .block id c, st, _ :: p => focus c (.b id :: st) p
  | .loop c, st, _ :: p => focus c (.l c :: st) p
  | c, st, _ :: _ => (c, st)


/-- From a point of a function on, to its end. -/
noncomputable def G (P : Program) (env : Env) (f : FuncId) (p : List Nat) (m0 : Mem) (ρ : Rho) (m : Mem) : Option (DEnd × Mem) :=
  match P.funcs[f]? with
  | none => none
  | some fn => match fn.body with
    | none => none
    | some c => goW env (run P env) P (finW P m0 fn.results.toList) (focus c [] p).1 (focus c [] p).2 ρ m

def retL (m0 : Mem) (v : Value) (m' : Mem) : Option (DEnd × Mem) := if plain v && m'.clean m0.next then some (.ret v, m0) else some (.ret v, m'.relow m0)
def panL (m0 : Mem) (v : Value) (m' : Mem) : Option (DEnd × Mem) := some (.pan v, m'.relow m0)

theorem G_run {P : Program} {env : Env} {f : FuncId} {args : List Value} {m : Mem} {fn : Func} {c : Code} {r : DEnd × Mem} (ho : env.orc f args = none) (hf : P.funcs[f]? = some fn) (hb : fn.body = some c)
    (hd : dstsOk fn.ntmps c = true) (h : G P env f [] m (rho0 args) m.mark = some r) : run P env f args m = some r := by
  unfold G at h
  simp only [hf, hb, focus] at h
  unfold goW at h
  obtain ⟨d, ρ, m', h1, h2⟩ := thenW_some h
  simp only [kW] at h2
  exact run_of ho hf hb hd h1 h2

theorem G_of {P : Program} {env : Env} {f : FuncId} {p : List Nat} {m0 : Mem} {ρ : Rho} {m : Mem} {fn : Func} {c : Code} {t : Option (DEnd × Mem)} {r : DEnd × Mem} (n : Nat) (hf : P.funcs[f]? = some fn) (hb : fn.body = some c)
    (h : cC env (run P env) P (finW P m0 fn.results.toList) n (focus c [] p).1 (focus c [] p).2 ρ m = t) : t = some r → G P env f p m0 ρ m = some r := by
  intro ht
  unfold G
  simp only [hf, hb]
  exact cC_sound n (h.trans ht)

theorem G_loop {P : Program} {env : Env} {f : FuncId} {p q : List Nat} {m0 : Mem} {ρ : Rho} {m : Mem} {fn : Func} {c b : Code} {st : List Fr} {r : DEnd × Mem} (hf : P.funcs[f]? = some fn) (hb : fn.body = some c)
    (h1 : focus c [] p = (.loop b, st)) (h2 : focus c [] q = (b, .l b :: st)) (h : G P env f q m0 ρ m = some r) : G P env f p m0 ρ m = some r := by
  unfold G at h ⊢
  simp only [hf, hb, h1, h2] at h ⊢
  exact goW_loop h

end Go.D
