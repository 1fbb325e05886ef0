/- D: operations in a row. -/
import Derived.Test.YtfdfickokkokmaaDoorLD9
set_option linter.unusedSimpArgs false
set_option linter.unusedVariables false
namespace Go.D
open Go

structure ActR (φ : Phi) (a a' : Act) : Prop where
  size : a.tmps.size = a'.tmps.size
  tmp : ∀ t, VR φ (a.tmps.getD t undef) (a'.tmps.getD t undef)
  d1 : a.defers = []
  d2 : a'.defers = []

theorem ActR.mono {φ ψ : Phi} {a a' : Act} (h : ActR φ a a') (hle : φ.le ψ) : ActR ψ a a' := ⟨h.size, fun t => (h.tmp t).mono hle, h.d1, h.d2⟩

theorem getD_put (a : Act) (dst : Option Tmp) (v : Value) (t : Tmp) : (a.put dst v).tmps.getD t undef = if dst = some t ∧ t < a.tmps.size then v else a.tmps.getD t undef := by
  cases dst with
  | none => simp [Act.put]
  | some d =>
    simp only [Act.put, Option.some.injEq, Array.getD_eq_getD_getElem?, Array.getElem?_setIfInBounds]
    by_cases h : d = t
    · subst h
      by_cases h2 : d < a.tmps.size
      · simp [h2]
      · simp [h2]
    · simp [h]

theorem size_put (a : Act) (dst : Option Tmp) (v : Value) : (a.put dst v).tmps.size = a.tmps.size := by
  cases dst <;> simp [Act.put]

theorem defers_put (a : Act) (dst : Option Tmp) (v : Value) : (a.put dst v).defers = a.defers := by
  cases dst <;> simp [Act.put]

theorem ActR.put {φ : Phi} {a a' : Act} (h : ActR φ a a') (dst : Option Tmp) {v v' : Value} (hv : VR φ v v') : ActR φ (a.put dst v) (a'.put dst v') := by
  refine ⟨by rw [size_put, size_put]; exact h.size, fun t => ?_, by rw [defers_put]; exact h.d1, by rw [defers_put]; exact h.d2⟩
  rw [getD_put, getD_put, h.size]
  split
  · exact hv
  · exact h.tmp t

theorem VR.bool_iff {φ : Phi} {v v' : Value} (h : VR φ v v') (b : Bool) : v = .bool b ↔ v' = .bool b := by
  cases h <;> simp

theorem yielded_eq {φ : Phi} {a a' : Act} (h : ActR φ a a') (os : Array Oper) (j : Nat) : yielded os a.tmps j = yielded os a'.tmps j := by
  unfold yielded
  cases hd : (os[j]?).bind (·.dst) with
  | none => rfl
  | some t =>
    simp only [Option.bind_some]
    have ht := h.tmp t
    rw [Array.getD_eq_getD_getElem?, Array.getD_eq_getD_getElem?] at ht
    by_cases hlt : t < a.tmps.size
    · have hlt' : t < a'.tmps.size := h.size ▸ hlt
      rw [Array.getElem?_eq_getElem hlt, Array.getElem?_eq_getElem hlt'] at ht ⊢
      simp only [Option.getD_some] at ht
      generalize a.tmps[t] = x at ht ⊢
      generalize a'.tmps[t] = y at ht ⊢
      cases ht <;> rfl
    · rw [Array.getElem?_eq_none (Nat.le_of_not_lt hlt), Array.getElem?_eq_none (h.size ▸ Nat.le_of_not_lt hlt)]

theorem wanted_eq {φ : Phi} {a a' : Act} (h : ActR φ a a') (os : Array Oper) (o : Oper) : Region.wanted o (yielded os a.tmps) = Region.wanted o (yielded os a'.tmps) := by
  unfold Region.wanted
  cases o.guard with
  | none => rfl
  | some g => obtain ⟨j, b⟩ := g; simp only; rw [yielded_eq h]

def opndOk (base : Nat) : Operand → Bool
  | .tmp _ => true
  | .const v => plain v
  | .global g => Nat.blt g base
  | .func _ => true

def operOk (base : Nat) (o : Oper) : Bool := o.op.operands.toList.all (opndOk base)

theorem opnd_rel {P : Program} {φ : Phi} {m : Mem} {w : World} (hw : WR P φ m w) {a a' : Act} (h : ActR φ a a') {x : Operand} (hx : opndOk m.base x = true) : VR φ (a.eval x) (a'.eval x) := by
  cases x with
  | tmp t => exact h.tmp t
  | const v => exact VR.plain_self hx
  | global g =>
    simp only [opndOk, Nat.blt_eq] at hx
    obtain ⟨L, hL, he⟩ := hw.old g hx
    have : VR φ (.pointer (some ⟨g, 0, none⟩)) (.pointer (some ⟨L.blk, 0, none⟩)) := .ptr hL
    rw [he] at this
    exact this
  | func f => exact .func _ .nil .nil

theorem oper_rel {P : Program} {φ : Phi} {m : Mem} {w : World} (hw : WR P φ m w) {a a' : Act} (h : ActR φ a a') {o : Oper} (ho : operOk m.base o = true) : ∀ x ∈ o.op.operands, VR φ (a.eval x) (a'.eval x) :=
  fun x hx => opnd_rel hw h (List.all_eq_true.1 ho x (Array.mem_toList_iff.2 hx))

theorem VRL.plain_eq {φ : Phi} {l l' : List Value} (h : VRL φ l l') (hs : l.all plain = true) : l' = l := by
  induction l generalizing l' with
  | nil => cases h; rfl
  | cons x xs ih =>
    cases h with
    | cons h t =>
      simp only [List.all_cons, Bool.and_eq_true] at hs
      rw [h.plain_eq hs.1, ih t hs.2]

/-- A function that can be entered. -/
def Enters (P : Program) (f : FuncId) : Prop := ∃ fn c, P.funcs[f]? = some fn ∧ fn.body = some c ∧ (fn.name == "runtime.NumGoroutine") = false

def EndR (ψ : Phi) : DEnd → Ending → Prop
  | .ret v, e => ∃ v', e = .returned v' ∧ VR ψ v v'
  | .pan v, e => ∃ v', e = .panicked [{ v := v', recovered := false }] ∧ VR ψ v v'

/-- The calls that `callf` tells end so. -/
def CallSound (P : Program) (base : Nat) (old : Nat → Option Blk) (callf : CallF) : Prop :=
  ∀ f args m e m', m.base = base → m.old = old → callf f args m = some (e, m') → Enters P f ∧ ∀ φ w (args' : Array Value), WR P φ m w → VRL φ args args'.toList →
    Calls P f args' w fun en w' => ∃ ψ, Sim P φ m w ψ m' w' ∧ EndR ψ e en

structure EnvOk (P : Program) (base : Nat) (old : Nat → Option Blk) (env : Env) : Prop where
  ext : ∀ f args v, env.ext f args = some v → args.all plain = true ∧ ∀ w, (callFunc f args.toArray).run P w = .ok (.value v) w
  idf : ∀ f x w, env.idf f = true → (callFunc f #[x]).run P w = .ok (.value x) w
  orc : ∀ f args v, env.orc f args = some v → args.all plain = true ∧ Enters P f ∧ ∀ φ m w, m.base = base → m.old = old → WR P φ m w →
    Calls P f args.toArray w fun e w' => e = .returned v ∧ RowKit.Below w.heap.size w w'

open RowKit in
theorem sim_below {P : Program} {φ : Phi} {m : Mem} {w w' : World} (hw : WR P φ m w) (hb : Below w.heap.size w w') : Sim P φ m w φ m w' where
  ext := Phi.le_refl φ
  wr := ⟨hw.ok, fun b x L hx hL => by rw [hb.block _ (hw.rng b L hL)]; exact hw.live b x L hx hL, fun b L hL => Nat.lt_of_lt_of_le (hw.rng b L hL) hb.size, hw.inj, hw.fresh, hw.old, hw.own, hw.mapd⟩
  frame := fun k hk _ => hb.block k hk
  size := hb.size
  os := hb.os
  tape := hb.tape
  output := hb.output
  base := rfl
  oldm := rfl
  next := Nat.le_refl _
  dead := fun _ _ h => h
  new := fun b L h1 h2 => by rw [h1] at h2; cases h2
  low := fun _ h => h
  kept := fun _ _ _ => rfl
  same := fun b L hL _ _ => hb.block _ (hw.rng b L hL)
  dom := fun b L h1 h2 => by rw [h1] at h2; cases h2

theorem vals_pan {r : Option (Value × Mem)} {v : Value} {m' : Mem} (h : vals r = some (.pan v, m')) : False := by
  cases r with
  | none => cases h
  | some q => obtain ⟨a, b⟩ := q; simp [vals] at h

theorem val_pan {m : Mem} {r : Option Value} {v : Value} {m' : Mem} (h : val m r = some (.pan v, m')) : False := by
  cases r with
  | none => cases h
  | some q => simp [val] at h

theorem unit_pan {r : Option Mem} {v : Value} {m' : Mem} (h : unit r = some (.pan v, m')) : False := by
  cases r with
  | none => cases h
  | some q => simp [unit] at h

theorem bltin_pan {P : Program} {m : Mem} {b : Builtin} {ats : Array TypeId} {args : List Value} {v : Value} {m' : Mem} (h : builtinV P m b ats args = some (.pan v, m')) : False := by
  unfold builtinV at h
  split at h <;> first
    | (split at h <;> first | exact val_pan h | exact vals_pan h | exact unit_pan h | cases h)
    | exact val_pan h
    | cases h

theorem opV_pan {env : Env} {callf : CallF} {P : Program} {ρ : Operand → Value} {o : Oper} {m m' : Mem} {v : Value} (hcode : isCode o = false) (h : opV env callf P ρ o m = some (.pan v, m')) :
    ∃ x t u, o.op = .panic x ∧ ρ x = .iface t u ∧ v = .iface t u ∧ m' = m := by
  unfold opV at h
  split at h <;> first
    | (exact (vals_pan h).elim)
    | (exact (val_pan h).elim)
    | (exact (unit_pan h).elim)
    | (cases h; done)
    | skip
  · split at h <;> cases h
  · split at h <;> cases h
  · split at h <;> cases h
  · split at h <;> cases h
  · split at h
    · exact (val_pan h).elim
    · cases h
  · split at h <;> cases h
  · split at h
    · exact (val_pan h).elim
    · cases h
  · rename_i c hop
    split at h
    · rename_i f hc; simp [isCode, hop, hc] at hcode
    · exact (bltin_pan h).elim
    · cases h
  · rename_i x hop
    split at h
    · rename_i t u hx
      simp only [Option.some.injEq, Prod.mk.injEq, R.pan.injEq] at h
      exact ⟨x, t, u, hop, hx, h.1.symm, h.2.symm⟩
    · cases h

section ops
variable {P : Program} {φ : Phi} {m : Mem} {w : World} {base : Nat} {old : Nat → Option Blk} {env : Env} {callf : CallF}

theorem run_callFunc {f : FuncId} (he : Enters P f) (args : Array Value) : (callFunc f args).run P w = .ok (.enter f args) w := by
  obtain ⟨fn, c, hf, hb, hn⟩ := he
  unfold callFunc
  simp only [Sem.run_bind, run_program, Result.andThen_ok, hf, hn, hb, Bool.false_eq_true, if_false, Option.isNone_some]
  rfl

/-- A call of code. -/
theorem exec_call {o : Oper} {c : Call} {f : Operand} (ho : o.op = .call c) (hc : c.callee = .value f) {ρ : Operand → Value} {g : FuncId} {first captured : Array Value} (hf : ρ f = .func (.func g) first captured) :
    (execOp ρ o).run P w = (callFunc g (first ++ c.args.map ρ ++ captured)).run P w := by
  unfold execOp
  simp [ho, resolve, hc, hf, Deferred.ofValue, invoke]

theorem call_inv {o : Oper} (hcode : isCode o = true) {ρ : Operand → Value} {r : R} {m' : Mem} (h : opV env callf P ρ o m = some (r, m')) :
    ∃ c f g first captured, o.op = .call c ∧ c.callee = .value f ∧ ρ f = .func (.func g) first captured ∧
      ((∃ v, env.idf g = true ∧ first.toList ++ c.args.toList.map ρ ++ captured.toList = [v] ∧ r = .val v ∧ m' = m) ∨
       (∃ v, env.ext g (first.toList ++ c.args.toList.map ρ ++ captured.toList) = some v ∧ plain v = true ∧ r = .val v ∧ m' = m) ∨
       (∃ e, callf g (first.toList ++ c.args.toList.map ρ ++ captured.toList) m = some (e, m') ∧ (∀ v, r = .val v → e = .ret v) ∧ (∀ v, r = .pan v → e = .pan v))) := by
  unfold isCode at hcode
  split at hcode
  · rename_i c hop
    split at hcode
    · cases hcode
    · unfold opV at h
      simp only [hop] at h
      split at h
      · rename_i f hcal
        unfold callV at h
        split at h
        · rename_i g first captured hf
          refine ⟨c, f, g, first, captured, hop, hcal, hf, ?_⟩
          cases hi : env.idf g with
          | true =>
            simp only [hi, cond_true] at h
            split at h
            · rename_i x hx
              simp only [Option.some.injEq, Prod.mk.injEq] at h
              exact .inl ⟨x, rfl, hx, h.1.symm, h.2.symm⟩
            · cases h
          | false =>
          simp only [hi, cond_false] at h
          refine .inr ?_
          split at h
          · rename_i v hv
            split at h
            · rename_i hp
              simp only [Option.some.injEq, Prod.mk.injEq] at h
              exact .inl ⟨v, hv, hp, h.1.symm, h.2.symm⟩
            · cases h
          · split at h
            · rename_i v m2 hv
              simp only [Option.some.injEq, Prod.mk.injEq] at h
              obtain ⟨rfl, rfl⟩ := h
              exact .inr ⟨_, hv, fun u hu => by (cases hu; rfl), fun u hu => by (cases hu)⟩
            · rename_i v m2 hv
              simp only [Option.some.injEq, Prod.mk.injEq] at h
              obtain ⟨rfl, rfl⟩ := h
              exact .inr ⟨_, hv, fun u hu => by (cases hu), fun u hu => by (cases hu; rfl)⟩
            · cases h
        · cases h
      · rename_i b hb
        simp [hb] at *
      · cases h
  · cases hcode

variable (hE : EnvOk P base old env) (hC : CallSound P base old callf)
include hE hC

theorem op_wpρ (hb : m.base = base) (ho : m.old = old) (hw : WR P φ m w) {ρ : Operand → Value} {a' : Act} {o : Oper} (hρ : ∀ x ∈ o.op.operands, VR φ (ρ x) (a'.eval x)) {r : R} {m' : Mem} (h : opV env callf P ρ o m = some (r, m'))
    {K : Act → World → Prop} {Q : Exit → Act → World → Prop}
    (hK : ∀ v, r = .val v → ∀ ψ w' v', VR ψ v v' → Sim P φ m w ψ m' w' → K (a'.put o.dst v') w')
    (hQ : ∀ v, r = .pan v → ∀ ψ w' v', VR ψ v v' → Sim P φ m w ψ m' w' → Q (.panic [{ v := v', recovered := false }]) a' w') : o.wp P a' w K Q := by
  cases hcode : isCode o with
  | true =>
    obtain ⟨c, f, g, first, captured, hop, hcal, hf, hh⟩ := call_inv hcode h
    have hfr := hρ f (by rw [hop]; simp [Op.operands, Call.operands, hcal])
    rw [hf] at hfr
    generalize hfe : a'.eval f = fv at hfr
    cases hfr with
    | func _ h1 h2 =>
      rename_i first' captured'
      have hargs : VRL φ (first.toList ++ c.args.toList.map ρ ++ captured.toList) (first' ++ c.args.map a'.eval ++ captured').toList := by
        simp only [Array.toList_append, Array.toList_map]
        exact (h1.append (VRL.of_ops _ fun x hx => hρ x (by rw [hop]; simp [Op.operands, Call.operands, Array.mem_toList_iff.1 hx]))).append h2
      unfold Oper.wp
      rw [exec_call hop hcal hfe]
      rcases hh with ⟨v, hi, hv, hr, rfl⟩ | ⟨v, hv, hp, hr, rfl⟩ | ⟨e, he, hev, hep⟩
      · rw [hv] at hargs
        generalize (first' ++ c.args.map a'.eval ++ captured') = arr at hargs ⊢
        obtain ⟨l⟩ := arr
        simp only at hargs
        cases hargs with
        | cons hvv ht =>
          cases ht
          rename_i v'
          rw [show (({ toList := [v'] } : Array Value)) = #[v'] from rfl, hE.idf g v' w hi]
          exact hK v hr φ w v' hvv (Sim.refl hw)
      · obtain ⟨hpl, hrun⟩ := hE.ext _ _ _ hv
        have heq := hargs.plain_eq hpl
        have hr2 := hrun w
        rw [← heq] at hr2
        simp only [Array.toArray_toList] at hr2
        rw [hr2]
        exact hK v hr φ w v (VR.plain_self hp) (Sim.refl hw)
      · obtain ⟨hen, hcalls⟩ := hC _ _ _ _ _ hb ho he
        rw [run_callFunc hen]
        refine (hcalls φ w _ hw hargs).mono ?_
        rintro en w' ⟨ψ, hsim, hend⟩
        cases r with
        | val v =>
          rw [hev v rfl] at hend
          obtain ⟨v', rfl, hv'⟩ := hend
          exact hK v rfl ψ w' v' hv' hsim
        | pan v =>
          rw [hep v rfl] at hend
          obtain ⟨v', rfl, hv'⟩ := hend
          exact hQ v rfl ψ w' v' hv' hsim
  | false =>
    cases r with
    | val v =>
      obtain ⟨ψ, w', v', hrun, hv, hsim⟩ := opV_ok hw hρ hcode h
      unfold Oper.wp
      rcases hrun with hrun | ⟨hrun, rfl⟩
      · rw [hrun]; exact hK v rfl ψ w' v' hv hsim
      · rw [hrun]; exact hK v rfl ψ w' undef hv hsim
    | pan v =>
      obtain ⟨x, t, u, hop, hx, rfl, rfl⟩ := opV_pan hcode h
      have hxr := hρ x (by rw [hop]; simp [Op.operands])
      rw [hx] at hxr
      generalize hxe : a'.eval x = y at hxr
      cases hxr with
      | iface _ hu =>
        rename_i u'
        have hrun : (execOp a'.eval o).run P w = .halt (.panic (.iface t u')) w := by
          unfold execOp
          simp [hop, hxe, Instr.panic]
        unfold Oper.wp
        rw [hrun]
        exact hQ _ rfl φ w _ (.iface t hu) (Sim.refl hw)

theorem op_wp (hb : m.base = base) (ho : m.old = old) (hw : WR P φ m w) {a a' : Act} (ha : ActR φ a a') {o : Oper} (hok : operOk base o = true) {r : R} {m' : Mem} (h : opV env callf P a.eval o m = some (r, m'))
    {K : Act → World → Prop} {Q : Exit → Act → World → Prop}
    (hK : ∀ v, r = .val v → ∀ ψ w' v', VR ψ v v' → Sim P φ m w ψ m' w' → K (a'.put o.dst v') w')
    (hQ : ∀ v, r = .pan v → ∀ ψ w' v', VR ψ v v' → Sim P φ m w ψ m' w' → Q (.panic [{ v := v', recovered := false }]) a' w') : o.wp P a' w K Q :=
  op_wpρ hE hC hb ho hw (oper_rel hw ha (hb ▸ hok)) h hK hQ

end ops
end Go.D
