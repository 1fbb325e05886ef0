/- D: code and calls, given what drawn regions do. -/
import Derived.Test.YtfdfickokkokmaaDoorLD10
set_option linter.unusedSimpArgs false
set_option linter.unusedVariables false
namespace Go.D
open Go

def QX (ψ : Phi) (Q : Exit → Act → World → Prop) : DX → Act → World → Prop
  | .normal, a, w => Q .normal a w
  | .exit id, a, w => Q (.exit id) a w
  | .ret, a, w => Q .ret a w
  | .pan v, a, w => ∀ v', VR ψ v v' → Q (.panic [{ v := v', recovered := false }]) a w

/-- What has to hold of every end that stands to the abstract one. -/
def Good (P : Program) (φ : Phi) (m : Mem) (w : World) (x : DX) (a1 : Act) (m1 : Mem) (Q : Exit → Act → World → Prop) : Prop :=
  ∀ ψ a' w', ActR ψ a1 a' → Sim P φ m w ψ m1 w' → QX ψ Q x a' w'

theorem Good.after {P : Program} {φ ψ : Phi} {m m1 m2 : Mem} {w w1 : World} {x : DX} {a2 : Act} {Q : Exit → Act → World → Prop} (hw : WR P φ m w) (h : Good P φ m w x a2 m2 Q) (hs : Sim P φ m w ψ m1 w1) : Good P ψ m1 w1 x a2 m2 Q :=
  fun χ a' w' ha hs' => h χ a' w' ha (hs.trans hs' hw)

section ops
variable {P : Program} {base : Nat} {old : Nat → Option Blk} {env : Env} {callf : CallF}
variable (hE : EnvOk P base old env) (hC : CallSound P base old callf)

include hE hC in
theorem ops_wp {os : Array Oper} (hok : ∀ (i : Nat) (o : Oper), os[i]? = some o → operOk base o = true) {Q : Exit → Act → World → Prop} : ∀ (l : List Nat) (a a' : Act) (m : Mem) (w : World) (φ : Phi) (x : DX) (a1 : Act) (m1 : Mem),
    m.base = base → m.old = old → WR P φ m w → ActR φ a a' → ops env callf P os l a m = some (x, a1, m1) → Good P φ m w x a1 m1 Q → wpOps P os Q l a' w
  | [], a, a', m, w, φ, x, a1, m1, hb, ho, hw, ha, h, hg => by
    simp only [ops, Option.some.injEq, Prod.mk.injEq] at h
    obtain ⟨rfl, rfl, rfl⟩ := h
    exact hg φ a' w ha (Sim.refl hw)
  | i :: rest, a, a', m, w, φ, x, a1, m1, hb, ho, hw, ha, h, hg => by
    unfold ops at h
    unfold wpOps
    split at h
    · cases h
    · rename_i o hi
      simp only [hi]
      rw [← wanted_eq ha os o]
      split at h
      · rename_i hwt
        rw [if_pos hwt]
        refine .inl ?_
        split at h
        · rename_i v m' hv
          refine op_wp hE hC hb ho hw ha (hok i o hi) hv ?_ ?_
          · rintro v2 hv2 ψ w' v' hvr hs
            cases hv2
            exact ops_wp hok rest _ _ m' w' ψ x a1 m1 (hs.base.trans hb) (hs.oldm.trans ho) hs.wr ((ha.mono hs.ext).put o.dst hvr) h (hg.after hw hs)
          · intro v2 hv2; cases hv2
        · rename_i v m' hv
          simp only [Option.some.injEq, Prod.mk.injEq] at h
          obtain ⟨rfl, rfl, rfl⟩ := h
          refine op_wp hE hC hb ho hw ha (hok i o hi) hv ?_ ?_
          · intro v2 hv2; cases hv2
          · rintro v2 hv2 ψ w' v' hvr hs
            cases hv2
            exact hg ψ a' w' (ha.mono hs.ext) hs v' hvr
        · cases h
      · rename_i hwt
        rw [if_neg hwt]
        exact ops_wp hok rest _ _ m w φ x a1 m1 hb ho hw (ha.put o.dst (VR.undef φ)) h hg

/-- An earlier loop's round by round rule, with a count. -/
theorem wp_loop_n {c : Code} {Q : Exit → Act → World → Prop} (J : Nat → Act → World → Prop)
    (round : ∀ n a w, J n a w → c.wp P (Exit.then (fun a' w' => ∃ n', n' < n ∧ J n' a' w') Q) a w) {n : Nat} {a : Act} {w : World} (h0 : J n a w) : (Code.loop c).wp P Q a w := by
  intro b k cs
  have key : ∀ n a w, J n a w → ∃ e a' w', Q e a' w' ∧ Arrives P (lone (b.at a (.code c :: .inLoop c :: k)) cs w) b k cs e a' w' := by
    intro n
    induction n using Nat.strongRecOn with
    | _ n ih =>
      intro a w hI
      obtain ⟨e, a₁, w₁, hq, harr⟩ := round n a w hI b (.inLoop c :: k) cs
      cases e with
      | normal =>
        obtain ⟨n', hlt, hI₁⟩ := hq
        obtain ⟨e₂, a₂, w₂, hq₂, harr₂⟩ := ih n' hlt a₁ w₁ hI₁
        exact ⟨e₂, a₂, w₂, hq₂, .of_steps (Steps.trans harr (.one step_inLoop)) harr₂⟩
      | exit id => exact ⟨_, a₁, w₁, hq, .pass (x := .inLoop c) rfl (fun _ _ => .inl (by simp)) harr⟩
      | goto l => exact ⟨_, a₁, w₁, hq, .pass (x := .inLoop c) rfl (fun _ _ => .inl (by simp)) harr⟩
      | ret => exact ⟨_, a₁, w₁, hq, .pass (x := .inLoop c) rfl (fun _ _ => .inl (by simp)) harr⟩
      | panic ch => exact ⟨_, a₁, w₁, hq, .pass (x := .inLoop c) rfl (fun _ _ => .inl (by simp)) harr⟩
      | outgrown => exact ⟨_, a₁, w₁, hq, .pass (x := .inLoop c) rfl (fun _ _ => .inl (by simp)) harr⟩
  obtain ⟨e, a', w', hq, harr⟩ := key n a w h0
  exact ⟨e, a', w', hq, .of_steps (.one step_loop) harr⟩

/-- A drawn region stands to its lexical run. -/
def DrawnSound (P : Program) (base : Nat) (old : Nat → Option Blk) (env : Env) (callf : CallF) (st : Array Oper → Bool) : Prop :=
  ∀ (id : Nat) (os : Array Oper) (a a' : Act) (m : Mem) (w : World) (φ : Phi) (x : DX) (a1 : Act) (m1 : Mem) (Q : Exit → Act → World → Prop), (∀ (i : Nat) (o : Oper), os[i]? = some o → operOk base o = true) → st os = true →
    m.base = base → m.old = old → WR P φ m w → ActR φ a a' → drawn env callf P os a m = some (x, a1, m1) → Good P φ m w x a1 m1 Q → (Code.region id os true).wp P Q a' w

/-- What is asked of a text once and for all. -/
def codeOk (base : Nat) (st : Array Oper → Bool) : Code → Bool
  | .region _ os d => os.toList.all (operOk base) && (!d || st os)
  | .seq x y => codeOk base st x && codeOk base st y
  | .cond c x y => opndOk base c && (codeOk base st x && codeOk base st y)
  | .block _ c => codeOk base st c
  | .loop c => codeOk base st c
  | _ => true

variable {st : Array Oper → Bool} (hD : DrawnSound P base old env callf st)

theorem ops_ok {os : Array Oper} (h : os.toList.all (operOk base) = true) : ∀ (i : Nat) (o : Oper), os[i]? = some o → operOk base o = true := fun i o hi =>
  List.all_eq_true.1 h o (by
    have := Array.mem_of_getElem? hi
    exact Array.mem_toList_iff.2 this)

include hE hC hD in
theorem code_wp (k : Nat) : ∀ (c : Code) (a a' : Act) (m : Mem) (w : World) (φ : Phi) (x : DX) (a1 : Act) (m1 : Mem) (Q : Exit → Act → World → Prop), codeOk base st c = true →
    m.base = base → m.old = old → WR P φ m w → ActR φ a a' → code env callf P k c a m = some (x, a1, m1) → Good P φ m w x a1 m1 Q → c.wp P Q a' w
  | .skip, a, a', m, w, φ, x, a1, m1, Q, hok, hb, ho, hw, ha, h, hg => by
    simp only [code, Option.some.injEq, Prod.mk.injEq] at h
    obtain ⟨rfl, rfl, rfl⟩ := h
    exact wp_skip (hg φ a' w ha (Sim.refl hw))
  | .region id os d, a, a', m, w, φ, x, a1, m1, Q, hok, hb, ho, hw, ha, h, hg => by
    simp only [codeOk, Bool.and_eq_true] at hok
    simp only [code] at h
    cases d with
    | true =>
      simp only [if_true] at h
      exact hD id os a a' m w φ x a1 m1 Q (ops_ok hok.1) (by simpa using hok.2) hb ho hw ha h hg
    | false =>
      simp only [Bool.false_eq_true, if_false] at h
      exact wp_region (ops_wp hE hC (ops_ok hok.1) _ a a' m w φ x a1 m1 hb ho hw ha h hg)
  | .seq c d, a, a', m, w, φ, x, a1, m1, Q, hok, hb, ho, hw, ha, h, hg => by
    simp only [codeOk, Bool.and_eq_true] at hok
    simp only [code] at h
    refine wp_seq ?_
    split at h
    · rename_i a2 m2 h2
      refine code_wp k c a a' m w φ .normal a2 m2 _ hok.1 hb ho hw ha h2 ?_
      intro ψ a2' w2 ha2 hs
      exact code_wp k d a2 a2' m2 w2 ψ x a1 m1 Q hok.2 (hs.base.trans hb) (hs.oldm.trans ho) hs.wr ha2 h (hg.after hw hs)
    · rename_i hn
      refine code_wp k c a a' m w φ x a1 m1 _ hok.1 hb ho hw ha h ?_
      intro ψ a2' w2 ha2 hs
      have := hg ψ a2' w2 ha2 hs
      cases x with
      | normal => exact (hn _ _ h).elim
      | exit id => exact this
      | ret => exact this
      | pan v => exact this
  | .cond c d e, a, a', m, w, φ, x, a1, m1, Q, hok, hb, ho, hw, ha, h, hg => by
    simp only [codeOk, Bool.and_eq_true] at hok
    simp only [code] at h
    have hc := opnd_rel hw ha (hb ▸ hok.1)
    split at h
    · rename_i hcv
      rw [hcv] at hc
      exact wp_cond_true (hc.scalar_eq rfl) (code_wp k d a a' m w φ x a1 m1 Q hok.2.1 hb ho hw ha h hg)
    · rename_i hcv
      rw [hcv] at hc
      exact wp_cond_false (hc.scalar_eq rfl) (code_wp k e a a' m w φ x a1 m1 Q hok.2.2 hb ho hw ha h hg)
    · cases h
  | .block id c, a, a', m, w, φ, x, a1, m1, Q, hok, hb, ho, hw, ha, h, hg => by
    simp only [code] at h
    refine wp_block ?_
    split at h
    · rename_i j a2 m2 h2
      refine code_wp k c a a' m w φ (.exit j) a2 m2 _ hok hb ho hw ha h2 ?_
      intro ψ a2' w2 ha2 hs
      show if j = id then Q .normal a2' w2 else Q (.exit j) a2' w2
      split at h
      · rename_i e
        simp only [Option.some.injEq, Prod.mk.injEq] at h
        obtain ⟨rfl, rfl, rfl⟩ := h
        rw [if_pos e]
        exact hg ψ a2' w2 ha2 hs
      · rename_i e
        simp only [Option.some.injEq, Prod.mk.injEq] at h
        obtain ⟨rfl, rfl, rfl⟩ := h
        rw [if_neg e]
        exact hg ψ a2' w2 ha2 hs
    · rename_i hn
      refine code_wp k c a a' m w φ x a1 m1 _ hok hb ho hw ha h ?_
      intro ψ a2' w2 ha2 hs
      have := hg ψ a2' w2 ha2 hs
      cases x with
      | normal => exact this
      | exit id => exact (hn _ _ _ h).elim
      | ret => exact this
      | pan v => exact this
  | .loop c, a, a', m, w, φ, x, a1, m1, Q, hok, hb, ho, hw, ha, h, hg => by
    simp only [code] at h
    refine wp_loop_n (fun n b' w2 => ∃ b m2 ψ, m2.base = base ∧ m2.old = old ∧ WR P ψ m2 w2 ∧ ActR ψ b b' ∧ iter (code env callf P k c) n b m2 = some (x, a1, m1) ∧ Good P ψ m2 w2 x a1 m1 Q) ?_ (n := k) ⟨a, m, φ, hb, ho, hw, ha, h, hg⟩
    rintro n b' w2 ⟨b, m2, ψ, hb2, ho2, hw2, ha2, h2, hg2⟩
    cases n with
    | zero => cases h2
    | succ n =>
      unfold iter at h2
      split at h2
      · rename_i a3 m3 h3
        refine code_wp k c b b' m2 w2 ψ .normal a3 m3 _ hok hb2 ho2 hw2 ha2 h3 ?_
        intro χ a3' w3 ha3 hs
        exact ⟨n, Nat.lt_succ_self n, a3, m3, χ, hs.base.trans hb2, hs.oldm.trans ho2, hs.wr, ha3, h2, hg2.after hw2 hs⟩
      · rename_i hn
        refine code_wp k c b b' m2 w2 ψ x a1 m1 _ hok hb2 ho2 hw2 ha2 h2 ?_
        intro χ a3' w3 ha3 hs
        have := hg2 χ a3' w3 ha3 hs
        cases x with
        | normal => exact (hn _ _ h2).elim
        | exit id => exact this
        | ret => exact this
        | pan v => exact this
  | .exit id, a, a', m, w, φ, x, a1, m1, Q, hok, hb, ho, hw, ha, h, hg => by
    simp only [code, Option.some.injEq, Prod.mk.injEq] at h
    obtain ⟨rfl, rfl, rfl⟩ := h
    exact wp_exit (hg φ a' w ha (Sim.refl hw))
  | .ret, a, a', m, w, φ, x, a1, m1, Q, hok, hb, ho, hw, ha, h, hg => by
    simp only [code, Option.some.injEq, Prod.mk.injEq] at h
    obtain ⟨rfl, rfl, rfl⟩ := h
    exact wp_ret (hg φ a' w ha (Sim.refl hw))
  | .rangeFunc _ _ _ _, _, _, _, _, _, _, _, _, _, _, _, _, _, _, h, _ => by cases h
  | .scope _, _, _, _, _, _, _, _, _, _, _, _, _, _, _, h, _ => by cases h
  | .label _, _, _, _, _, _, _, _, _, _, _, _, _, _, _, h, _ => by cases h
  | .goto _, _, _, _, _, _, _, _, _, _, _, _, _, _, _, h, _ => by cases h
  | .refuse _, _, _, _, _, _, _, _, _, _, _, _, _, _, _, h, _ => by cases h

end ops

def resF (tmps : Array Value) : ResultVar → Sem Value
  | .tmp t => pure (tmps.getD t undef)
  | .cell c t => do Go.loadVar t (← asAddr (tmps.getD c undef))

theorem results_eq (fn : Func) (tmps : Array Value) : results fn tmps = (do let vs ← fn.results.mapM (resF tmps); pure (if h : vs.size = 1 then vs[0] else .tuple vs)) := rfl

theorem resOf_ok {P : Program} {φ : Phi} {m : Mem} {w : World} (hw : WR P φ m w) {a a' : Act} (ha : ActR φ a a') : ∀ (rs : List ResultVar) (l : List Value), resOf P m a.tmps rs = some l →
    ∃ l', (rs.mapM (resF a'.tmps)).run P w = .ok l' w ∧ VRL φ l l'
  | [], l, h => by simp only [resOf] at h; cases h; exact ⟨[], rfl, .nil⟩
  | .tmp t :: r, l, h => by
    unfold resOf at h
    split at h
    · rename_i l2 h2
      cases h
      obtain ⟨l', hr, hrel⟩ := resOf_ok hw ha r l2 h2
      refine ⟨a'.tmps.getD t undef :: l', ?_, .cons (ha.tmp t) hrel⟩
      rw [List.mapM_cons]
      simp only [resF, Sem.run_bind, Sem.run_pure, Result.andThen_ok, hr]
    · cases h
  | .cell c t :: r, l, h => by
    unfold resOf at h
    split at h
    · rename_i v l2 hv h2
      cases h
      obtain ⟨l', hr, hrel⟩ := resOf_ok hw ha r l2 h2
      obtain ⟨v', hr', hrel'⟩ := loadVar_ok hw hv (ha.tmp c)
      refine ⟨v' :: l', ?_, .cons hrel' hrel⟩
      have hp : ∃ ad, a'.tmps.getD c undef = .pointer (some ad) := by
        have hc := ha.tmp c
        unfold loadVar at hv
        split at hv
        · rename_i ad e
          rw [e] at hc
          obtain ⟨_, L, _, e2⟩ := hc.ptr_inv
          exact ⟨_, e2⟩
        · cases hv
      obtain ⟨ad, had⟩ := hp
      rw [had] at hr'
      unfold Instr.loadAt Instr.sureAddr at hr'
      simp only [Sem.run_bind, Sem.run_pure, Result.andThen_ok] at hr'
      rw [List.mapM_cons]
      simp only [resF, Sem.run_bind, Sem.run_pure, Result.andThen_ok, had, asAddr, hr', hr]
    · cases h

theorem tupled_ok {φ : Phi} {l l' : List Value} (h : VRL φ l l') : VR φ (tupled l) (if hs : l'.toArray.size = 1 then l'.toArray[0] else .tuple l'.toArray) := by
  cases h with
  | nil => exact .tuple .nil
  | cons h t =>
    cases t with
    | nil => exact h
    | cons h2 t => exact .tuple (.cons h (.cons h2 t))

theorem ActR.enter {φ : Phi} {l : List Value} {l' : Array Value} (h : VRL φ l l'.toList) (n : Nat) :
    ActR φ { tmps := (l ++ List.replicate (n - l.length) undef).toArray, defers := [] } { tmps := l' ++ Array.replicate (n - l'.size) undef, defers := [] } := by
  have hl : l.length = l'.size := by have := h.length; simpa using this
  refine ⟨by simp [hl], fun t => ?_, rfl, rfl⟩
  have h2 : VRL φ (l ++ List.replicate (n - l.length) undef) (l' ++ Array.replicate (n - l'.size) undef).toList := by
    simp only [Array.toList_append, Array.toList_replicate]
    refine h.append ?_
    rw [hl]
    generalize n - l'.size = k
    induction k with
    | zero => exact .nil
    | succ k ih => exact .cons (VR.undef φ) ih
  rcases h2.get? t with ⟨a, b⟩ | ⟨x, y, a, b, c⟩
  · have b' : (l' ++ Array.replicate (n - l'.size) undef)[t]? = none := by rw [← Array.getElem?_toList]; exact b
    have a' : (l ++ List.replicate (n - l.length) undef).toArray[t]? = none := by simpa using a
    simp only [Array.getD_eq_getD_getElem?, a', b']
    exact VR.undef φ
  · have b' : (l' ++ Array.replicate (n - l'.size) undef)[t]? = some y := by rw [← Array.getElem?_toList]; exact b
    have a' : (l ++ List.replicate (n - l.length) undef).toArray[t]? = some x := by rw [List.getElem?_toArray]; exact a
    simp only [Array.getD_eq_getD_getElem?, a', b']
    exact c

/-- The text of a program, asked once. -/
def progOk (P : Program) (base : Nat) (st : Array Oper → Bool) : Bool :=
  P.funcs.toList.all fun fn => match fn.body with
    | none => true
    | some c => !(fn.name == "runtime.NumGoroutine") && codeOk base st c

theorem progOk_spec {P : Program} {base : Nat} {st : Array Oper → Bool} (h : progOk P base st = true) {f : FuncId} {fn : Func} {c : Code} (hf : P.funcs[f]? = some fn) (hb : fn.body = some c) :
    (fn.name == "runtime.NumGoroutine") = false ∧ codeOk base st c = true := by
  have := List.all_eq_true.1 h fn (Array.mem_toList_iff.2 (Array.mem_of_getElem? hf))
  simp only [hb, Bool.and_eq_true, Bool.not_eq_true'] at this
  exact this

theorem WR.low {P : Program} {φ : Phi} {m : Mem} {w : World} (hw : WR P φ m w) (n : List Nat) : WR P φ { m with low := n } w := ⟨hw.ok, hw.live, hw.rng, hw.inj, hw.fresh, hw.old, hw.own, hw.mapd⟩

theorem relow_not {m m2 : Mem} {b : Nat} (hb : b < m.next) (h : b ∉ (m2.relow m).low) : b ∉ m2.low := by
  intro hm
  refine h (List.mem_append_left _ (List.mem_filter.2 ⟨hm, ?_⟩))
  rw [Nat.blt_eq]; exact hb

theorem clean_not {m : Mem} {n b : Nat} (h : m.clean n = true) (hb : b < n) : b ∉ m.low := by
  intro hm
  have := List.all_eq_true.1 h b hm
  rw [Nat.ble_eq] at this
  omega

theorem Sim.relow {P : Program} {φ ψ : Phi} {m m2 : Mem} {w w' : World} (hw : WR P φ m w) (hs : Sim P φ m.mark w ψ m2 w') : Sim P φ m w ψ (m2.relow m) w' :=
  ⟨hs.ext, hs.wr.low _, hs.frame, hs.size, hs.os, hs.tape, hs.output, hs.base, hs.oldm, hs.next, hs.dead, hs.new, fun _ hb => List.mem_append_right _ hb,
    fun b hb2 hlo => hs.kept b hb2 (relow_not hb2 hlo), fun b L hL hl hlo => hs.same b L hL hl (relow_not (hw.lt hL) hlo), hs.dom⟩

section calls
variable {P : Program} {base : Nat} {old : Nat → Option Blk} {env : Env} {st : Array Oper → Bool}

theorem call_sound (hp : progOk P base st = true) (hE : EnvOk P base old env) (hD : ∀ callf, CallSound P base old callf → DrawnSound P base old env callf st) : ∀ k, CallSound P base old (call P env k)
  | 0 => by intro f args m e m' _ _ h; cases h
  | k + 1 => by
    have ih := call_sound hp hE hD k
    intro f args m e m' hb ho h
    unfold call at h
    split at h
    · rename_i v hv
      split at h
      · rename_i hpl
        simp only [Option.some.injEq, Prod.mk.injEq] at h
        obtain ⟨rfl, rfl⟩ := h
        obtain ⟨ha, hen, hcalls⟩ := hE.orc f args v hv
        refine ⟨hen, fun φ w args' hw hargs => ?_⟩
        have hargs' := hargs.plain_eq ha
        have := hcalls φ m w hb ho hw
        rw [← hargs'] at this
        simp only [Array.toArray_toList] at this
        refine this.mono ?_
        rintro en w' ⟨rfl, hbel⟩
        exact ⟨φ, sim_below hw hbel, v, rfl, VR.plain_self hpl⟩
      · cases h
    · split at h
      · cases h
      · rename_i fn hf
        split at h
        · cases h
        · rename_i c hbody
          obtain ⟨hname, hcok⟩ := progOk_spec hp hf hbody
          refine ⟨⟨fn, c, hf, hbody, hname⟩, fun φ w args' hw hargs => ?_⟩
          refine calls_of_wp hf hbody ?_
          have hact := ActR.enter hargs fn.ntmps
          have hw0 : WR P φ m.mark w := hw.low []
          -- the end of a run that returns
          have hret : ∀ (a : Act) (m2 : Mem) (l : List Value), resOf P m2 a.tmps fn.results.toList = some l →
              (if (plain (tupled l) && m2.clean m.next) = true then some (DEnd.ret (tupled l), m) else some (DEnd.ret (tupled l), m2.relow m)) = some (e, m') →
              ∀ ψ a' w', ActR ψ a a' → Sim P φ m.mark w ψ m2 w' →
              a'.defers = [] ∧ ∃ v', (results fn a'.tmps).run P w' = .ok v' w' ∧ ∃ χ, Sim P φ m w χ m' w' ∧ EndR χ e (.returned v') := by
            intro a m2 l hres hfin ψ a' w' ha' hs
            refine ⟨ha'.d2, ?_⟩
            obtain ⟨l', hr, hrel⟩ := resOf_ok hs.wr ha' _ _ hres
            have hrun : (results fn a'.tmps).run P w' = .ok (if hs : l'.toArray.size = 1 then l'.toArray[0] else .tuple l'.toArray) w' := by
              rw [results_eq, Sem.run_bind, Array.mapM_eq_mapM_toList, Sem.run_map, hr]
              rfl
            refine ⟨_, hrun, ?_⟩
            have hv := tupled_ok hrel
            generalize (if hs : l'.toArray.size = 1 then l'.toArray[0] else Value.tuple l'.toArray) = v' at hv
            split at hfin
            · rename_i hc
              simp only [Bool.and_eq_true] at hc
              simp only [Option.some.injEq, Prod.mk.injEq] at hfin
              obtain ⟨rfl, rfl⟩ := hfin
              have hve := hv.plain_eq hc.1
              refine ⟨φ, ?_, v', rfl, ?_⟩
              · refine ⟨Phi.le_refl φ, ⟨hw.ok, ?_, fun b L hL => Nat.lt_of_lt_of_le (hw.rng b L hL) hs.size, hw.inj, hw.fresh, hw.old, hw.own, hw.mapd⟩, hs.frame, hs.size, hs.os, hs.tape, hs.output, rfl, rfl, Nat.le_refl _, fun _ _ h => h,
                  fun b L h1 h2 => by (rw [h1] at h2; cases h2), fun _ h => h, fun _ _ _ => rfl, ?_, fun b L h1 h2 => by (rw [h1] at h2; cases h2)⟩
                · intro b x L hx hL
                  rw [hs.same b L hL (by show m.get b ≠ none; rw [hx]; simp) (clean_not hc.2 (hw.lt hL))]
                  exact hw.live b x L hx hL
                · intro b L hL hl _
                  exact hs.same b L hL hl (clean_not hc.2 (hw.lt hL))
              · rw [hve]; exact VR.plain_self hc.1
            · simp only [Option.some.injEq, Prod.mk.injEq] at hfin
              obtain ⟨rfl, rfl⟩ := hfin
              refine ⟨ψ, ?_, v', rfl, hv⟩
              exact hs.relow hw
          split at h
          · rename_i a m2 hcode
            split at h
            · cases h
            · rename_i l hres
              exact code_wp hE ih (hD _ ih) k c _ _ m.mark w φ .normal a m2 _ hcok hb ho hw0 hact hcode (fun ψ a' w' ha' hs => hret a m2 l hres h ψ a' w' ha' hs)
          · rename_i a m2 hcode
            split at h
            · cases h
            · rename_i l hres
              exact code_wp hE ih (hD _ ih) k c _ _ m.mark w φ .ret a m2 _ hcok hb ho hw0 hact hcode (fun ψ a' w' ha' hs => hret a m2 l hres h ψ a' w' ha' hs)
          · rename_i v a m2 hcode
            simp only [Option.some.injEq, Prod.mk.injEq] at h
            obtain ⟨rfl, rfl⟩ := h
            refine code_wp hE ih (hD _ ih) k c _ _ m.mark w φ (.pan v) a m2 _ hcok hb ho hw0 hact hcode (fun ψ a' w' ha' hs v' hv' => ?_)
            refine ⟨ha'.d2, ψ, ?_, v', rfl, hv'⟩
            exact hs.relow hw
          · cases h

end calls
end Go.D
