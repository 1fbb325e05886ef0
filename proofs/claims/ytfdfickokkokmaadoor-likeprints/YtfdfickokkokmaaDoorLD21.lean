/- D: calls without fuel, over an environment that is a function. -/
import Derived.Test.YtfdfickokkokmaaDoorLD20
set_option linter.unusedSimpArgs false
set_option linter.unusedVariables false
namespace Go.D
open Go

/-- From some fuel on it is this. -/
def Ev {α : Type} (F : Nat → Option α) (r : α) : Prop := ∃ k, ∀ k', k ≤ k' → F k' = some r

theorem Ev.uniq {α : Type} {F : Nat → Option α} {r s : α} (h : Ev F r) (h' : Ev F s) : r = s := by
  obtain ⟨k, h⟩ := h
  obtain ⟨k', h'⟩ := h'
  have h1 := h (max k k') (Nat.le_max_left _ _)
  rw [h' (max k k') (Nat.le_max_right _ _)] at h1
  exact (Option.some.inj h1).symm

theorem Ev.const {α : Type} {o : Option α} {r : α} (h : o = some r) : Ev (fun _ => o) r := ⟨0, fun _ _ => h⟩

theorem Ev.congr {α β : Type} {F : Nat → Option α} {G : Nat → Option β} {r : α} {s : β} (h : Ev F r) (hg : ∀ k, F k = some r → G k = some s) : Ev G s :=
  let ⟨k, h⟩ := h; ⟨k, fun k' hk => hg k' (h k' hk)⟩

theorem Ev.bind {α β γ : Type} {F : Nat → Option α} {G : Nat → Option β} {H : Nat → Option γ} {r : α} {s : β} {t : γ} (h : Ev F r) (h' : Ev G s) (hg : ∀ k, F k = some r → G k = some s → H k = some t) : Ev H t :=
  let ⟨k, h⟩ := h; let ⟨l, h'⟩ := h'; ⟨max k l, fun k' hk => hg k' (h k' (Nat.le_trans (Nat.le_max_left _ _) hk)) (h' k' (Nat.le_trans (Nat.le_max_right _ _) hk))⟩

theorem Ev.shift {α : Type} {F : Nat → Option α} {r : α} (h : Ev (fun k => F (k + 1)) r) : Ev F r :=
  let ⟨k, h⟩ := h; ⟨k + 1, fun k' hk => by
    obtain ⟨j, rfl⟩ : ∃ j, k' = j + 1 := ⟨k' - 1, by omega⟩
    exact h j (by omega)⟩

open Classical in
noncomputable def lim {α : Type} (F : Nat → Option α) : Option α := if h : ∃ r, Ev F r then some h.choose else none

theorem lim_some {α : Type} {F : Nat → Option α} {r : α} : lim F = some r ↔ Ev F r := by
  unfold lim
  constructor
  · intro h
    split at h
    · rename_i hx; rw [← Option.some.inj h]; exact hx.choose_spec
    · cases h
  · intro h
    rw [dif_pos ⟨r, h⟩]
    rw [Ev.uniq (Exists.choose_spec (⟨r, h⟩ : ∃ r, Ev F r)) h]

noncomputable def run (P : Program) (env : Env) (f : FuncId) (args : List Value) (m : Mem) : Option (DEnd × Mem) := lim fun k => call P env k f args m

/-- Temporaries as a function. -/
abbrev Rho := Nat → Value

def Rho.put (ρ : Rho) (d : Option Tmp) (v : Value) : Rho := match d with
  | some d => fun t => bif Nat.beq t d then v else ρ t
  | none => ρ

def Rho.eval (ρ : Rho) : Operand → Value
  | .tmp t => ρ t
  | .const v => v
  | .global g => .pointer (some ⟨g, 0, none⟩)
  | .func f => .func (.func f) #[] #[]

def Rho.said (ρ : Rho) (os : Array Oper) (j : Nat) : Option Bool :=
  match (os[j]?).bind (·.dst) with
  | some d => match ρ d with
    | .bool b => some b
    | _ => none
  | none => none

abbrev Out := Option (DX × Rho × Mem)

def opsW (env : Env) (callf : CallF) (P : Program) (os : Array Oper) : List Nat → Rho → Mem → Out
  | [], ρ, m => some (.normal, ρ, m)
  | i :: rest, ρ, m =>
    match os[i]? with
    | none => none
    | some o =>
      if Region.wanted o (ρ.said os) then
        match opV env callf P ρ.eval o m with
        | some (.val v, m') => opsW env callf P os rest (ρ.put o.dst v) m'
        | some (.pan v, m') => some (.pan v, ρ, m')
        | none => none
      else opsW env callf P os rest (ρ.put o.dst undef) m

def traceW (env : Env) (callf : CallF) (P : Program) (os : Array Oper) : List Nat → Rho → Mem → Option (List Rec × Rho × Mem)
  | [], ρ, m => some ([], ρ, m)
  | i :: rest, ρ, m =>
    match os[i]? with
    | none => none
    | some o =>
      if Region.wanted o (ρ.said os) then
        match opV env callf P ρ.eval o m.mark with
        | some (.val v, m') =>
          match traceW env callf P os rest (ρ.put o.dst v) (m'.relow m) with
          | some (rs, ρ', m'') => some (⟨looks ρ.eval o, wrOf m.next m'.low, m.next, m'.next⟩ :: rs, ρ', m'')
          | none => none
        | _ => none
      else
        match traceW env callf P os rest (ρ.put o.dst undef) m with
        | some (rs, ρ', m'') => some (⟨.nil, .nil, m.next, m.next⟩ :: rs, ρ', m'')
        | none => none

def drawnW (env : Env) (callf : CallF) (P : Program) (os : Array Oper) (ρ : Rho) (m : Mem) : Out :=
  match traceW env callf P os (List.range os.size) ρ m with
  | some (rs, ρ', m') => if rs.all Rec.still || pairsOk (Region.before os) 0 rs then some (.normal, ρ', m') else none
  | none => none

def iterG {σ : Type} (B : σ → Mem → Option (DX × σ × Mem)) : Nat → σ → Mem → Option (DX × σ × Mem)
  | 0, _, _ => none
  | k + 1, s, m => match B s m with
    | some (.normal, s', m') => iterG B k s' m'
    | r => r

theorem iterG_mono {σ : Type} {B : σ → Mem → Option (DX × σ × Mem)} {r : DX × σ × Mem} : ∀ {k : Nat} {s : σ} {m : Mem}, iterG B k s m = some r → ∀ k', k ≤ k' → iterG B k' s m = some r
  | 0, _, _, h, _, _ => by cases h
  | k + 1, s, m, h, k', hk => by
    obtain ⟨j, rfl⟩ : ∃ j, k' = j + 1 := ⟨k' - 1, by omega⟩
    unfold iterG at h ⊢
    split at h
    · exact iterG_mono h j (by omega)
    · exact h

noncomputable def loopG {σ : Type} (B : σ → Mem → Option (DX × σ × Mem)) (s : σ) (m : Mem) : Option (DX × σ × Mem) := lim fun k => iterG B k s m

theorem loopG_some {σ : Type} {B : σ → Mem → Option (DX × σ × Mem)} {s : σ} {m : Mem} {r : DX × σ × Mem} : loopG B s m = some r ↔ ∃ k, iterG B k s m = some r := by
  unfold loopG
  rw [lim_some]
  exact ⟨fun ⟨k, h⟩ => ⟨k, h k (Nat.le_refl k)⟩, fun ⟨k, h⟩ => ⟨k, iterG_mono h⟩⟩

noncomputable def codeW (env : Env) (callf : CallF) (P : Program) : Code → Rho → Mem → Out
  | .skip, ρ, m => some (.normal, ρ, m)
  | .region _ os d, ρ, m => if d then drawnW env callf P os ρ m else opsW env callf P os (List.range os.size) ρ m
  | .seq x y, ρ, m => match codeW env callf P x ρ m with
    | some (.normal, ρ', m') => codeW env callf P y ρ' m'
    | r => r
  | .cond c x y, ρ, m => match ρ.eval c with
    | .bool true => codeW env callf P x ρ m
    | .bool false => codeW env callf P y ρ m
    | _ => none
  | .block id c, ρ, m => match codeW env callf P c ρ m with
    | some (.exit j, ρ', m') => if j = id then some (.normal, ρ', m') else some (.exit j, ρ', m')
    | r => r
  | .loop c, ρ, m => loopG (codeW env callf P c) ρ m
  | .exit id, ρ, m => some (.exit id, ρ, m)
  | .ret, ρ, m => some (.ret, ρ, m)
  | _, _, _ => none

/-- Every operation writes to a temporary that there is. -/
def dstIn (n : Nat) (o : Oper) : Bool := match o.dst with
  | some d => Nat.blt d n
  | none => true

def dstsOk (n : Nat) : Code → Bool
  | .region _ os _ => os.toList.all (dstIn n)
  | .seq x y => dstsOk n x && dstsOk n y
  | .cond _ x y => dstsOk n x && dstsOk n y
  | .block _ c => dstsOk n c
  | .loop c => dstsOk n c
  | _ => true

structure RhoR (n : Nat) (a : Act) (ρ : Rho) : Prop where
  size : n ≤ a.tmps.size
  tmp : ∀ t, a.tmps.getD t undef = ρ t

theorem RhoR.eval {n : Nat} {a : Act} {ρ : Rho} (h : RhoR n a ρ) : a.eval = ρ.eval := by
  funext x
  cases x with
  | tmp t => exact h.tmp t
  | _ => rfl

theorem RhoR.put {n : Nat} {a : Act} {ρ : Rho} (h : RhoR n a ρ) {o : Oper} (ho : dstIn n o = true) (v : Value) : RhoR n (a.put o.dst v) (ρ.put o.dst v) := by
  refine ⟨by rw [size_put]; exact h.size, fun t => ?_⟩
  rw [getD_put]
  unfold dstIn at ho
  cases hd : o.dst with
  | none => simp [Rho.put, h.tmp]
  | some d =>
    rw [hd] at ho
    simp only [Nat.blt_eq] at ho
    have := h.size
    simp only [Rho.put, Option.some.injEq]
    by_cases e : d = t
    · subst e
      rw [if_pos ⟨rfl, Nat.lt_of_lt_of_le ho this⟩]; simp
    · rw [if_neg (by rintro ⟨h, _⟩; exact e h), h.tmp]
      have : Nat.beq t d = false := by
        rw [Bool.eq_false_iff]
        intro h
        exact e (Nat.eq_of_beq_eq_true h).symm
      rw [this]; rfl

theorem RhoR.said {n : Nat} {a : Act} {ρ : Rho} (h : RhoR n a ρ) (os : Array Oper) : yielded os a.tmps = ρ.said os := by
  funext j
  unfold yielded Rho.said
  cases hd : (os[j]?).bind (·.dst) with
  | none => rfl
  | some d =>
    simp only [Option.bind_some]
    rw [← h.tmp d]
    by_cases hlt : d < a.tmps.size
    · simp [hlt]
      cases a.tmps[d] <;> rfl
    · simp [hlt]
      rfl

section
variable {env : Env} {callf : CallF} {callk : Nat → CallF} {P : Program} (hC : ∀ f args m r, callf f args m = some r → Ev (fun k => callk k f args m) r)

include hC in
theorem callV_ev {m : Mem} {f : Value} {args : List Value} {r : R × Mem} (h : callV env callf m f args = some r) : Ev (fun k => callV env (callk k) m f args) r := by
  cases f with
  | func fn first captured =>
    cases fn with
    | func g =>
      simp only [callV] at h ⊢
      cases hi : env.idf g with
      | true => rw [hi] at h; simp only [cond_true] at h ⊢; exact Ev.const h
      | false =>
      rw [hi] at h
      simp only [cond_false] at h ⊢
      cases he : env.ext g (first.toList ++ args ++ captured.toList) with
      | some v => rw [he] at h; simp only at h ⊢; exact Ev.const h
      | none =>
        rw [he] at h; simp only at h ⊢
        cases hr : callf g (first.toList ++ args ++ captured.toList) m with
        | none => rw [hr] at h; cases h
        | some x =>
          rw [hr] at h
          refine (hC _ _ _ _ hr).congr fun k hk => ?_
          simp only [hk]; exact h
    | _ => cases h
  | _ => cases h

include hC in
theorem opV_ev {ρ : Operand → Value} {o : Oper} {m : Mem} {r : R × Mem} (h : opV env callf P ρ o m = some r) : Ev (fun k => opV env (callk k) P ρ o m) r := by
  have key : (∀ c : Call, o.op = .call c → ∀ f, c.callee ≠ .value f) → Ev (fun k => opV env (callk k) P ρ o m) r := by
    intro hne
    have : (fun k => opV env (callk k) P ρ o m) = fun _ => opV env callf P ρ o m := by
      funext k
      unfold opV
      cases ho : o.op with
      | call c =>
        cases hc : c.callee with
        | value f => exact absurd hc (hne c ho f)
        | _ => simp only [hc]
      | _ => rfl
    rw [this]
    exact Ev.const h
  cases ho : o.op with
  | call c =>
    cases hc : c.callee with
    | value f =>
      unfold opV at h ⊢
      rw [ho] at h ⊢
      simp only [hc] at h ⊢
      exact callV_ev hC h
    | _ => exact key (by intro c' hc' f; rw [ho] at hc'; injection hc' with hc'; subst hc'; rw [hc]; intro h; cases h)
  | _ => exact key (by intro c' hc'; rw [ho] at hc'; cases hc')

include hC in
theorem ops_ev {n : Nat} {os : Array Oper} (hd : os.toList.all (dstIn n) = true) : ∀ (l : List Nat) (ρ : Rho) (a : Act) (m : Mem) (d : DX) (ρ' : Rho) (m' : Mem), RhoR n a ρ → opsW env callf P os l ρ m = some (d, ρ', m') →
    ∃ a', RhoR n a' ρ' ∧ Ev (fun k => ops env (callk k) P os l a m) (d, a', m')
  | [], ρ, a, m, d, ρ', m', hr, h => by
    simp only [opsW, Option.some.injEq, Prod.mk.injEq] at h
    obtain ⟨rfl, rfl, rfl⟩ := h
    exact ⟨a, hr, Ev.const rfl⟩
  | i :: rest, ρ, a, m, d, ρ', m', hr, h => by
    unfold opsW at h
    split at h
    · cases h
    · rename_i o ho
      have hdo : dstIn n o = true := List.all_eq_true.1 hd o (Array.mem_toList_iff.2 (Array.mem_of_getElem? ho))
      split at h
      · rename_i hw
        split at h
        · rename_i v m1 hv
          obtain ⟨a', h1, h2⟩ := ops_ev hd rest _ _ _ _ _ _ (hr.put hdo v) h
          refine ⟨a', h1, (opV_ev hC hv).bind h2 fun k hk hk2 => ?_⟩
          unfold ops
          simp only [ho, hr.said, hw, if_true, hr.eval, hk]
          exact hk2
        · rename_i v m1 hv
          simp only [Option.some.injEq, Prod.mk.injEq] at h
          obtain ⟨rfl, rfl, rfl⟩ := h
          refine ⟨a, hr, (opV_ev hC hv).congr fun k hk => ?_⟩
          unfold ops
          simp only [ho, hr.said, hw, if_true, hr.eval, hk]
        · cases h
      · rename_i hw
        obtain ⟨a', h1, h2⟩ := ops_ev hd rest _ _ _ _ _ _ (hr.put hdo undef) h
        refine ⟨a', h1, h2.congr fun k hk => ?_⟩
        unfold ops
        simp only [ho, hr.said, hw, Bool.false_eq_true, if_false]
        exact hk

include hC in
theorem trace_ev {n : Nat} {os : Array Oper} (hd : os.toList.all (dstIn n) = true) : ∀ (l : List Nat) (ρ : Rho) (a : Act) (m : Mem) (rs : List Rec) (ρ' : Rho) (m' : Mem), RhoR n a ρ → traceW env callf P os l ρ m = some (rs, ρ', m') →
    ∃ a', RhoR n a' ρ' ∧ Ev (fun k => trace env (callk k) P os l a m) (rs, a', m')
  | [], ρ, a, m, d, ρ', m', hr, h => by
    simp only [traceW, Option.some.injEq, Prod.mk.injEq] at h
    obtain ⟨rfl, rfl, rfl⟩ := h
    exact ⟨a, hr, Ev.const rfl⟩
  | i :: rest, ρ, a, m, d, ρ', m', hr, h => by
    unfold traceW at h
    split at h
    · cases h
    · rename_i o ho
      have hdo : dstIn n o = true := List.all_eq_true.1 hd o (Array.mem_toList_iff.2 (Array.mem_of_getElem? ho))
      split at h
      · rename_i hw
        split at h
        · rename_i v m1 hv
          split at h
          · rename_i rs1 ρ1 m2 ht
            obtain ⟨a', h1, h2⟩ := trace_ev hd rest _ _ _ _ _ _ (hr.put hdo v) ht
            simp only [Option.some.injEq, Prod.mk.injEq] at h
            obtain ⟨rfl, rfl, rfl⟩ := h
            refine ⟨a', h1, (opV_ev hC hv).bind h2 fun k hk hk2 => ?_⟩
            unfold trace
            simp only [ho, hr.said, hw, if_true, hr.eval, hk, hk2]
          · cases h
        · cases h
      · rename_i hw
        split at h
        · rename_i rs1 ρ1 m2 ht
          obtain ⟨a', h1, h2⟩ := trace_ev hd rest _ _ _ _ _ _ (hr.put hdo undef) ht
          simp only [Option.some.injEq, Prod.mk.injEq] at h
          obtain ⟨rfl, rfl, rfl⟩ := h
          refine ⟨a', h1, h2.congr fun k hk => ?_⟩
          unfold trace
          simp only [ho, hr.said, hw, Bool.false_eq_true, if_false, hk]
        · cases h

include hC in
theorem drawn_ev {n : Nat} {os : Array Oper} (hd : os.toList.all (dstIn n) = true) {ρ : Rho} {a : Act} {m : Mem} {d : DX} {ρ' : Rho} {m' : Mem} (hr : RhoR n a ρ) (h : drawnW env callf P os ρ m = some (d, ρ', m')) :
    ∃ a', RhoR n a' ρ' ∧ Ev (fun k => drawn env (callk k) P os a m) (d, a', m') := by
  unfold drawnW at h
  split at h
  · rename_i rs ρ1 m1 ht
    split at h
    · rename_i hc
      simp only [Option.some.injEq, Prod.mk.injEq] at h
      obtain ⟨rfl, rfl, rfl⟩ := h
      obtain ⟨a', h1, h2⟩ := trace_ev hC hd _ _ _ _ _ _ _ hr ht
      refine ⟨a', h1, h2.congr fun k hk => ?_⟩
      unfold drawn
      simp only [hk, hc, if_true]
    · cases h
  · cases h

include hC in
theorem code_ev {n : Nat} : ∀ (c : Code) (ρ : Rho) (a : Act) (m : Mem) (d : DX) (ρ' : Rho) (m' : Mem), dstsOk n c = true → RhoR n a ρ → codeW env callf P c ρ m = some (d, ρ', m') →
    ∃ a', RhoR n a' ρ' ∧ Ev (fun k => code env (callk k) P k c a m) (d, a', m')
  | .skip, ρ, a, m, d, ρ', m', hd, hr, h => by
    simp only [codeW, Option.some.injEq, Prod.mk.injEq] at h
    obtain ⟨rfl, rfl, rfl⟩ := h
    exact ⟨a, hr, Ev.const rfl⟩
  | .region id os dr, ρ, a, m, d, ρ', m', hd, hr, h => by
    simp only [codeW] at h
    simp only [dstsOk] at hd
    cases dr with
    | true =>
      simp only [if_true] at h
      obtain ⟨a', h1, h2⟩ := drawn_ev hC hd hr h
      exact ⟨a', h1, h2.congr fun k hk => by simp only [code, if_true]; exact hk⟩
    | false =>
      simp only [Bool.false_eq_true, if_false] at h
      obtain ⟨a', h1, h2⟩ := ops_ev hC hd _ _ _ _ _ _ _ hr h
      exact ⟨a', h1, h2.congr fun k hk => by simp only [code, Bool.false_eq_true, if_false]; exact hk⟩
  | .seq x y, ρ, a, m, d, ρ', m', hd, hr, h => by
    simp only [dstsOk, Bool.and_eq_true] at hd
    simp only [codeW] at h
    split at h
    · rename_i ρ1 m1 hx
      obtain ⟨a1, h1, h2⟩ := code_ev x _ _ _ _ _ _ hd.1 hr hx
      obtain ⟨a2, h3, h4⟩ := code_ev y _ _ _ _ _ _ hd.2 h1 h
      exact ⟨a2, h3, h2.bind h4 fun k hk hk2 => by simp only [code, hk]; exact hk2⟩
    · rename_i hx
      obtain ⟨a1, h1, h2⟩ := code_ev x _ _ _ _ _ _ hd.1 hr h
      refine ⟨a1, h1, h2.congr fun k hk => ?_⟩
      simp only [code, hk]
      cases d with
      | normal => exact absurd h (hx _ _)
      | _ => rfl
  | .cond c x y, ρ, a, m, d, ρ', m', hd, hr, h => by
    simp only [dstsOk, Bool.and_eq_true] at hd
    simp only [codeW] at h
    split at h
    · rename_i hc
      obtain ⟨a1, h1, h2⟩ := code_ev x _ _ _ _ _ _ hd.1 hr h
      exact ⟨a1, h1, h2.congr fun k hk => by simp only [code, hr.eval, hc]; exact hk⟩
    · rename_i hc
      obtain ⟨a1, h1, h2⟩ := code_ev y _ _ _ _ _ _ hd.2 hr h
      exact ⟨a1, h1, h2.congr fun k hk => by simp only [code, hr.eval, hc]; exact hk⟩
    · cases h
  | .block id c, ρ, a, m, d, ρ', m', hd, hr, h => by
    simp only [dstsOk] at hd
    simp only [codeW] at h
    split at h
    · rename_i j ρ1 m1 hc
      obtain ⟨a1, h1, h2⟩ := code_ev c _ _ _ _ _ _ hd hr hc
      split at h
      · rename_i hj
        simp only [Option.some.injEq, Prod.mk.injEq] at h
        obtain ⟨rfl, rfl, rfl⟩ := h
        exact ⟨a1, h1, h2.congr fun k hk => by simp only [code, hk, hj, if_true]⟩
      · rename_i hj
        simp only [Option.some.injEq, Prod.mk.injEq] at h
        obtain ⟨rfl, rfl, rfl⟩ := h
        exact ⟨a1, h1, h2.congr fun k hk => by simp only [code, hk, hj, if_false]⟩
    · rename_i hx
      obtain ⟨a1, h1, h2⟩ := code_ev c _ _ _ _ _ _ hd hr h
      refine ⟨a1, h1, h2.congr fun k hk => ?_⟩
      simp only [code, hk]
      cases d with
      | exit j => exact absurd h (hx _ _ _)
      | _ => rfl
  | .loop c, ρ, a, m, d, ρ', m', hd, hr, h => by
    simp only [dstsOk] at hd
    simp only [codeW] at h
    obtain ⟨j, hj⟩ := loopG_some.1 h
    suffices hs : ∀ (j : Nat) (ρ : Rho) (a : Act) (m : Mem), RhoR n a ρ → iterG (codeW env callf P c) j ρ m = some (d, ρ', m') →
        ∃ a', RhoR n a' ρ' ∧ ∃ K, ∀ k, K ≤ k → ∀ q, j ≤ q → iter (code env (callk k) P k c) q a m = some (d, a', m') by
      obtain ⟨a', h1, K, h2⟩ := hs j ρ a m hr hj
      exact ⟨a', h1, max K j, fun k hk => by simp only [code]; exact h2 k (by omega) k (by omega)⟩
    intro j
    induction j with
    | zero => intro ρ a m _ h; cases h
    | succ j ih =>
      intro ρ a m hr h
      unfold iterG at h
      split at h
      · rename_i ρ1 m1 hb
        obtain ⟨a1, h1, K1, h2⟩ := code_ev c _ _ _ _ _ _ hd hr hb
        obtain ⟨a2, h3, K2, h4⟩ := ih _ _ _ h1 h
        refine ⟨a2, h3, max K1 K2, fun k hk q hq => ?_⟩
        obtain ⟨q', rfl⟩ : ∃ q', q = q' + 1 := ⟨q - 1, by omega⟩
        unfold iter
        have e1 := h2 k (by omega)
        simp only at e1
        rw [e1]
        exact h4 k (by omega) q' (by omega)
      · rename_i hx
        obtain ⟨a1, h1, K1, h2⟩ := code_ev c _ _ _ _ _ _ hd hr h
        refine ⟨a1, h1, K1, fun k hk q hq => ?_⟩
        obtain ⟨q', rfl⟩ : ∃ q', q = q' + 1 := ⟨q - 1, by omega⟩
        unfold iter
        have e1 := h2 k hk
        simp only at e1
        rw [e1]
        cases d with
        | normal => exact absurd h (hx _ _)
        | _ => rfl
  | .exit id, ρ, a, m, d, ρ', m', hd, hr, h => by
    simp only [codeW, Option.some.injEq, Prod.mk.injEq] at h
    obtain ⟨rfl, rfl, rfl⟩ := h
    exact ⟨a, hr, Ev.const rfl⟩
  | .ret, ρ, a, m, d, ρ', m', hd, hr, h => by
    simp only [codeW, Option.some.injEq, Prod.mk.injEq] at h
    obtain ⟨rfl, rfl, rfl⟩ := h
    exact ⟨a, hr, Ev.const rfl⟩
  | .rangeFunc _ _ _ _, _, _, _, _, _, _, _, _, h => by cases h
  | .scope _, _, _, _, _, _, _, _, _, h => by cases h
  | .label _, _, _, _, _, _, _, _, _, h => by cases h
  | .goto _, _, _, _, _, _, _, _, _, h => by cases h
  | .refuse _, _, _, _, _, _, _, _, _, h => by cases h
end

def resW (P : Program) (m : Mem) (ρ : Rho) : List ResultVar → Option (List Value)
  | [] => some []
  | .tmp t :: r => match resW P m ρ r with
    | some l => some (ρ t :: l)
    | none => none
  | .cell a t :: r => match loadVar P m t (ρ a), resW P m ρ r with
    | some v, some l => some (v :: l)
    | _, _ => none

theorem resW_eq {P : Program} {n : Nat} {a : Act} {ρ : Rho} (h : RhoR n a ρ) (m : Mem) : ∀ l, resOf P m a.tmps l = resW P m ρ l
  | [] => rfl
  | .tmp t :: r => by unfold resOf resW; rw [resW_eq h m r, h.tmp]; cases resW P m ρ r <;> rfl
  | .cell b t :: r => by
    unfold resOf resW; rw [resW_eq h m r, h.tmp]
    cases loadVar P m t (ρ b) <;> cases resW P m ρ r <;> rfl

/-- How a call ends, from how its code did. -/
def finW (P : Program) (m : Mem) (rv : List ResultVar) (d : DX) (ρ : Rho) (m' : Mem) : Option (DEnd × Mem) :=
  match d with
  | .normal | .ret => match resW P m' ρ rv with
    | none => none
    | some l => if plain (tupled l) && m'.clean m.next then some (.ret (tupled l), m) else some (.ret (tupled l), m'.relow m)
  | .pan v => some (.pan v, m'.relow m)
  | .exit _ => none

def rho0 (args : List Value) : Rho := fun t => args.getD t undef

/-- A call is what its code does. -/
theorem run_of {P : Program} {env : Env} {f : FuncId} {args : List Value} {m : Mem} {fn : Func} {c : Code} {d : DX} {ρ : Rho} {m' : Mem} {r : DEnd × Mem} (ho : env.orc f args = none) (hf : P.funcs[f]? = some fn) (hb : fn.body = some c)
    (hd : dstsOk fn.ntmps c = true) (h : codeW env (run P env) P c (rho0 args) m.mark = some (d, ρ, m')) (hr : finW P m fn.results.toList d ρ m' = some r) : run P env f args m = some r := by
  have hR : RhoR fn.ntmps { tmps := (args ++ List.replicate (fn.ntmps - args.length) undef).toArray, defers := [] } (rho0 args) := by
    refine ⟨by simp; omega, fun t => ?_⟩
    unfold rho0
    simp only [Array.getD_eq_getD_getElem?, List.getD_eq_getElem?_getD, List.getElem?_toArray]
    by_cases h1 : t < args.length
    · rw [List.getElem?_append_left h1]
    · rw [List.getElem?_append_right (by omega), List.getElem?_replicate, List.getElem?_eq_none (by omega)]
      split <;> rfl
  obtain ⟨a', h1, h2⟩ := code_ev (callk := call P env) (fun f args m r h => lim_some.1 h) c _ _ _ _ _ _ hd hR h
  refine lim_some.2 (Ev.shift (h2.congr fun k hk => ?_))
  unfold call
  simp only [ho, hf, hb]
  rw [hk]
  unfold finW at hr
  have hres := resW_eq (P := P) h1 m' fn.results.toList
  cases d with
  | normal => simp only [hres]; exact hr
  | ret => simp only [hres]; exact hr
  | pan v => exact hr
  | exit j => cases hr

theorem run_orc {P : Program} {env : Env} {f : FuncId} {args : List Value} {m : Mem} {v : Value} (ho : env.orc f args = some v) (hv : plain v = true) : run P env f args m = some (.ret v, m) :=
  lim_some.2 (Ev.shift ⟨0, fun k _ => by unfold call; simp only [ho, hv, if_true]⟩)

end Go.D
