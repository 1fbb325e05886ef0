/- D: operations in continuation style are the operations. -/
import Derived.Test.YtfdfickokkokmaaDoorLD22
set_option linter.unusedSimpArgs false
set_option linter.unusedVariables false
namespace Go.D
open Go

/-- What an operation gives, handed on. -/
def sel {α : Type} (K KP : Value → Mem → Option α) : R → Mem → Option α
  | .val v, m => K v m
  | .pan v, m => KP v m

section
variable {α : Type} {r : α} {P : Program} {m : Mem} {K KP : Value → Mem → Option α}

theorem bind_val {o : Option Value} (h : (o.bind fun v => K v m) = some r) : ∃ v, o = some v ∧ K v m = some r := by
  cases o with
  | none => cases h
  | some v => exact ⟨v, rfl, h⟩

theorem andV_some {o : Option (Value × Mem)} (h : andV o K = some r) : ∃ v m', o = some (v, m') ∧ K v m' = some r := by
  unfold andV at h
  split at h
  · exact ⟨_, _, rfl, h⟩
  · cases h

theorem loadC_some {t : TypeId} {v : Value} (h : loadC P t m v K = some r) : ∃ x, loadVar P m t v = some x ∧ K x m = some r := by
  unfold loadC at h
  split at h
  · cases h
  · rename_i d hd
    cases hg : isAggD d with
    | true =>
      simp only [hg, cond_true] at h
      split at h
      · cases h
      · rename_i i hi
        obtain ⟨x, hx, hk⟩ := bind_val h
        refine ⟨x, ?_, hk⟩
        unfold ldn at hx
        split at hx
        · unfold loadVar
          simp only [hd, hg, if_true, hi]
          exact hx
        · cases hx
    | false =>
      simp only [hg, cond_false] at h
      obtain ⟨x, hx, hk⟩ := bind_val h
      refine ⟨x, ?_, hk⟩
      unfold ld at hx
      split at hx
      · unfold loadVar
        simp only [hd, hg, Bool.false_eq_true, if_false]
        exact hx
      · cases hx

theorem storeC_some {t : TypeId} {v x : Value} (h : storeC P t m v x K = some r) : ∃ m', storeVar P m t v x = some m' ∧ K undef m' = some r := by
  unfold storeC at h
  split at h
  · cases h
  · rename_i i hi
    cases hs : stn m i.size v x with
    | none => rw [hs] at h; cases h
    | some m' =>
      rw [hs] at h
      refine ⟨m', ?_, h⟩
      unfold stn at hs
      split at hs
      · unfold storeVar
        simp only [hi]
        exact hs
      · cases hs

theorem eqC_some {o : Option Bool} {n : Bool} (h : eqC o n m K = some r) : ∃ b, o = some b ∧ K (.bool (if n then !b else b)) m = some r := by
  unfold eqC at h
  cases n <;> simp only [cond_true, cond_false] at h <;> cases o with
  | none => cases h
  | some b => exact ⟨b, rfl, h⟩

theorem intL_some {op : BinOp} {t : TypeId} {x y v : Value} (h : intL op x y = some v) : (∃ k a k' b, x = .int k a ∧ y = .int k' b) ∧ semScal (Go.binOp op t x y) = some v := by
  have ar : ∀ {f}, arith f x y = some v → ∃ k a b, x = .int k a ∧ y = .int k b ∧ f k a b = some v := by
    clear h
    intro f h
    unfold arith at h
    split at h
    · split at h
      · rename_i e; subst e; exact ⟨_, _, _, rfl, rfl, h⟩
      · cases h
    · cases h
  cases op
  case shl =>
    simp only [intL, shlL] at h
    split at h
    · split at h
      · cases h
      · rename_i hn
        cases h
        refine ⟨⟨_, _, _, _, rfl, rfl⟩, ?_⟩
        simp [Go.binOp, Op.shift, hn, semScal, pure, scalar]
    · cases h
  case shr =>
    simp only [intL, shrL] at h
    split at h
    · split at h
      · cases h
      · rename_i hn
        cases h
        refine ⟨⟨_, _, _, _, rfl, rfl⟩, ?_⟩
        simp [Go.binOp, Op.shift, hn, semScal, pure, scalar]
    · cases h
  case quo =>
    obtain ⟨k, a, b, rfl, rfl, h'⟩ := ar h
    split at h'
    · cases h'
    · rename_i hn
      cases h'
      refine ⟨⟨_, _, _, _, rfl, rfl⟩, ?_⟩
      simp [Go.binOp, Op.intDiv, hn, semScal, pure, scalar]
  case rem =>
    obtain ⟨k, a, b, rfl, rfl, h'⟩ := ar h
    split at h'
    · cases h'
    · rename_i hn
      cases h'
      refine ⟨⟨_, _, _, _, rfl, rfl⟩, ?_⟩
      simp [Go.binOp, Op.intDiv, hn, semScal, pure, scalar]
  all_goals
    obtain ⟨k, a, b, rfl, rfl, h'⟩ := ar h
    cases h'
    exact ⟨⟨_, _, _, _, rfl, rfl⟩, by simp [Go.binOp, Op.intArith, Op.intBits, Op.intCmp, semScal, pure, scalar]⟩

theorem strL_some {op : BinOp} {t : TypeId} {x y v : Value} (h : strL op x y = some v) : (∃ a b, x = .string a ∧ y = .string b) ∧ semScal (Go.binOp op t x y) = some v := by
  have ar : ∀ {f}, strs f x y = some v → ∃ a b, x = .string a ∧ y = .string b ∧ f a b = some v := by
    clear h
    intro f h
    unfold strs at h
    split at h
    · exact ⟨_, _, rfl, rfl, h⟩
    · cases h
  cases op
  case add =>
    obtain ⟨a, b, rfl, rfl, h'⟩ := ar h
    split at h'
    · cases h'
    · rename_i hn
      cases h'
      refine ⟨⟨_, _, rfl, rfl⟩, ?_⟩
      simp only [Go.binOp, Op.stringOp, if_neg hn]
      rfl
  all_goals first
    | (obtain ⟨a, b, rfl, rfl, h'⟩ := ar h
       cases h'
       exact ⟨⟨_, _, rfl, rfl⟩, by simp [Go.binOp, Op.stringOp, semScal, pure, scalar]⟩)
    | cases h

theorem binC_some {op : BinOp} {t : TypeId} {xo yo : Operand} {x y : Value} (h : binC P op t (isConstO xo || isConstO yo) m x y K = some r) : ∃ v, binOpV P op t xo yo x y = some v ∧ K v m = some r := by
  unfold binC at h
  have eqs : ∀ {o : Option Bool} {n : Bool}, isEq op = some n → eqC o n m K = some r → (∀ b, o = some b → eqV P t x y = some b) → (∀ a b c d, x = .int a b → y ≠ .int c d) → (∀ a b, x = .string a → y ≠ .string b) → (x = .nilIface → y ≠ .nilIface) → ∃ v, binOpV P op t xo yo x y = some v ∧ K v m = some r := by
    intro o n hn h ho h1 h2 h3
    obtain ⟨b, hb, hk⟩ := eqC_some h
    refine ⟨_, ?_, hk⟩
    have he := ho b hb
    unfold binOpV
    split
    · exact absurd rfl (h1 _ _ _ _ rfl)
    · exact absurd rfl (h2 _ _ rfl)
    · exact absurd rfl (h3 rfl)
    · cases op <;> simp only [isEq, Option.some.injEq, reduceCtorEq] at hn <;> subst hn <;> simp [he]
  split at h
  · obtain ⟨v, hv, hk⟩ := bind_val h
    obtain ⟨⟨k, a, k', b, rfl, rfl⟩, hs⟩ := intL_some (t := t) hv
    exact ⟨v, hs, hk⟩
  · obtain ⟨v, hv, hk⟩ := bind_val h
    obtain ⟨⟨a, b, rfl, rfl⟩, hs⟩ := strL_some (t := t) hv
    exact ⟨v, hs, hk⟩
  · rename_i hu
    split at h
    · rename_i n hn
      obtain ⟨b, hb, hk⟩ := eqC_some h
      unfold boolEq at hb
      split at hb
      · exact eqs hn h (fun b hb => by unfold boolEq at hb; simp only [Option.some.injEq] at hb; subst hb; simp [eqV, hu]) (by intros; simp_all) (by intros; simp_all) (by intros; simp_all)
      · cases hb
    · cases h
  · rename_i e hu
    split at h
    · rename_i n hn
      split at h
      · rename_i s hs
        obtain ⟨b, hb, hk⟩ := eqC_some h
        unfold ptrEq at hb
        split at hb
        · exact eqs hn h (fun b hb => by simpa [eqV, hu, hs, ptrEq] using hb) (by intros; simp_all) (by intros; simp_all) (by intros; simp_all)
        · exact eqs hn h (fun b hb => by simpa [eqV, hu, hs, ptrEq] using hb) (by intros; simp_all) (by intros; simp_all) (by intros; simp_all)
        · exact eqs hn h (fun b hb => by simpa [eqV, hu, hs, ptrEq] using hb) (by intros; simp_all) (by intros; simp_all) (by intros; simp_all)
        · cases hb
      · cases h
    · cases h
  · rename_i e hu
    split at h
    · rename_i n hn
      obtain ⟨b, hb, hk⟩ := eqC_some h
      unfold slEq at hb
      split at hb
      · exact eqs hn h (fun b hb => by simpa [eqV, hu, slEq] using hb) (by intros; simp_all) (by intros; simp_all) (by intros; simp_all)
      · exact eqs hn h (fun b hb => by simpa [eqV, hu, slEq] using hb) (by intros; simp_all) (by intros; simp_all) (by intros; simp_all)
      · cases hb
    · cases h
  · rename_i e e' hu
    split at h
    · rename_i n hn
      obtain ⟨b, hb, hk⟩ := eqC_some h
      unfold mpEq at hb
      split at hb
      · exact eqs hn h (fun b hb => by simpa [eqV, hu, mpEq] using hb) (by intros; simp_all) (by intros; simp_all) (by intros; simp_all)
      · exact eqs hn h (fun b hb => by simpa [eqV, hu, mpEq] using hb) (by intros; simp_all) (by intros; simp_all) (by intros; simp_all)
      · cases hb
    · cases h
  · rename_i e e' e'' hu
    split at h
    · rename_i n hn
      obtain ⟨b, hb, hk⟩ := eqC_some h
      unfold fnEq at hb
      split at hb
      · exact eqs hn h (fun b hb => by simpa [eqV, hu, fnEq] using hb) (by intros; simp_all) (by intros; simp_all) (by intros; simp_all)
      · exact eqs hn h (fun b hb => by simpa [eqV, hu, fnEq] using hb) (by intros; simp_all) (by intros; simp_all) (by intros; simp_all)
      · exact eqs hn h (fun b hb => by simpa [eqV, hu, fnEq] using hb) (by intros; simp_all) (by intros; simp_all) (by intros; simp_all)
      · cases hb
    · cases h
  · rename_i e hu
    split at h
    · rename_i n hn
      obtain ⟨b, hb, hk⟩ := eqC_some h
      unfold ifEq at hb
      split at hb
      · refine ⟨_, ?_, hk⟩
        split at hb
        · rename_i hc
          cases hb
          unfold binOpV
          simp only [hc, if_true, hu]
          cases op <;> simp only [isEq, Option.some.injEq, reduceCtorEq] at hn <;> subst hn <;> simp
        · cases hb
      · exact eqs hn h (fun b hb => by simpa [eqV, hu, ifEq] using hb) (by intros; simp_all) (by intros; simp_all) (by intros; simp_all)
      · exact eqs hn h (fun b hb => by simpa [eqV, hu, ifEq] using hb) (by intros; simp_all) (by intros; simp_all) (by intros; simp_all)
      · cases hb
    · cases h
  · cases h

theorem unC_some {op : UnOp} {x : Value} (h : unC op m x K = some r) : ∃ v, scalar x = true ∧ semScal (Op.unary op x) = some v ∧ K v m = some r := by
  unfold unC at h
  split at h
  · obtain ⟨v, hv, hk⟩ := bind_val h
    unfold notL at hv
    split at hv
    · cases hv; exact ⟨_, rfl, by simp [Op.unary, semScal, pure, scalar], hk⟩
    · cases hv
  · obtain ⟨v, hv, hk⟩ := bind_val h
    unfold negL at hv
    split at hv
    · cases hv; exact ⟨_, rfl, by simp [Op.unary, Op.intArith, semScal, pure, scalar], hk⟩
    · cases hv
  · obtain ⟨v, hv, hk⟩ := bind_val h
    unfold cplL at hv
    split at hv
    · cases hv; exact ⟨_, rfl, by simp [Op.unary, Op.intBits, semScal, pure, scalar], hk⟩
    · cases hv
  · cases h

theorem cvC_some {s d : TypeId} {x : Value} (h : cvC P s d m x K = some r) : ∃ v m', convertV P m s d x = some (v, m') ∧ K v m' = some r := by
  unfold cvC at h
  split at h
  · rename_i hs hd
    obtain ⟨v, hv, hk⟩ := bind_val h
    unfold cvI at hv
    split at hv
    · cases hv; exact ⟨_, _, by simp [convertV, hs, hd], hk⟩
    · cases hv
  · rename_i hs hd
    obtain ⟨v, hv, hk⟩ := bind_val h
    unfold isStr at hv
    split at hv
    · cases hv; exact ⟨_, _, by simp [convertV, hs, hd], hk⟩
    · cases hv
  · rename_i e hs hd
    split at h
    · rename_i he
      obtain ⟨v, hv, hk⟩ := bind_val h
      unfold bytesOf at hv
      refine ⟨v, m, ?_, hk⟩
      unfold convertV
      simp only [hs, hd]
      split at hv
      · simp only [he]; cases hv; rfl
      · simp only [he]
        split at hv
        · rename_i l hl
          simp only [hl]
          split at hv
          · rename_i bs hb; simp only [hb]; cases hv; rfl
          · cases hv
        · cases hv
      · cases hv
    · cases h
  · rename_i e hs hd
    split at h
    · rename_i he hz
      obtain ⟨v, m', hv, hk⟩ := andV_some h
      refine ⟨v, m', ?_, hk⟩
      unfold strBytes at hv
      split at hv
      · cases hv; simp [convertV, hs, hd, he, hz, newLoose]
      · cases hv
    · cases h
  · rename_i t hs hd
    obtain ⟨v, hv, hk⟩ := bind_val h
    unfold ptrIn at hv
    refine ⟨v, m, ?_, hk⟩
    split at hv
    · cases hv; simp [convertV, hs, hd]
    · split at hv
      · rename_i h1 h2 h3
        split at hv
        · rename_i h4; cases hv; simp [convertV, hs, hd, h1, h2, h3, h4]
        · cases hv
      · cases hv
    · cases hv
  · rename_i t hs hd
    obtain ⟨v, hv, hk⟩ := bind_val h
    unfold ptrOut at hv
    refine ⟨v, m, ?_, hk⟩
    split at hv
    · cases hv; simp [convertV, hs, hd]
    · split at hv
      · rename_i h1 h2 h3
        split at hv
        · rename_i h4; cases hv; simp [convertV, hs, hd, h1, h2, h3, h4]
        · cases hv
      · cases hv
    · cases hv
  · cases h

theorem mkSC_some {t : TypeId} {l c : Value} (h : mkSC P t m l c K = some r) : ∃ v m', makeSlice P m t l c = some (v, m') ∧ K v m' = some r := by
  unfold mkSC at h
  split at h
  · rename_i e hu
    split at h
    · rename_i i z hi hz
      obtain ⟨v, m', hv, hk⟩ := andV_some h
      refine ⟨v, m', ?_, hk⟩
      unfold mkS at hv
      split at hv
      · unfold makeSlice
        simp only [hu, hi, hz]
        split at hv
        · rename_i hc; cases hv; rw [if_pos hc]; rfl
        · cases hv
      · cases hv
    · cases h
  · cases h

theorem slC_some {t : TypeId} {x : Value} {lo hi mx : Option Value} (h : slC P t m x lo hi mx K = some r) : ∃ v, sliceV P t x lo hi mx = some v ∧ K v m = some r := by
  unfold slC at h
  split at h
  · rename_i hu
    obtain ⟨v, hv, hk⟩ := bind_val h
    refine ⟨v, ?_, hk⟩
    unfold slStr at hv
    split at hv
    · unfold sliceV; simp only [hu]; exact hv
    · cases hv
  · rename_i e hu
    split at h
    · cases h
    · rename_i s hs
      obtain ⟨v, hv, hk⟩ := bind_val h
      refine ⟨v, ?_, hk⟩
      unfold slSl at hv
      split at hv
      · unfold sliceV; simp only [hu, hs]; exact hv
      · cases hv
  · rename_i n e hu
    split at h
    · cases h
    · rename_i s hs
      obtain ⟨v, hv, hk⟩ := bind_val h
      refine ⟨v, ?_, hk⟩
      unfold slArr at hv
      split at hv
      · unfold sliceV; simp only [hu, hs]; exact hv
      · cases hv
  · cases h

theorem fldC_some {s : TypeId} {f : Nat} {v : Value} (h : fldC P s f m v K = some r) : ∃ x, fieldAt P s v f = some x ∧ K x m = some r := by
  unfold fldC at h
  split at h
  · rename_i fields hu
    split at h
    · rename_i fd hf
      split at h
      · rename_i n hn
        obtain ⟨x, hx, hk⟩ := bind_val h
        refine ⟨x, ?_, hk⟩
        unfold fld at hx
        split at hx
        · unfold fieldAt; simp only [hu, hf, hn]; exact hx
        · cases hx
      · cases h
    · cases h
  · cases h

theorem prtC_some {s : TypeId} {f : Nat} {v : Value} (h : prtC P s f m v K = some r) : ∃ x, fieldV P s v f = some x ∧ K x m = some r := by
  unfold prtC at h
  split at h
  · rename_i fields hu
    split at h
    · rename_i fd hf
      split at h
      · rename_i d i hd hi
        cases hg : isAggD d with
        | true =>
          simp only [hg, cond_true] at h
          obtain ⟨x, hx, hk⟩ := bind_val h
          refine ⟨x, ?_, hk⟩
          unfold prtn at hx
          split at hx
          · unfold fieldV partV; simp only [hu, hf, hd, hi, hg, if_true]; exact hx
          · cases hx
        | false =>
          simp only [hg, cond_false] at h
          obtain ⟨x, hx, hk⟩ := bind_val h
          refine ⟨x, ?_, hk⟩
          unfold prt at hx
          split at hx
          · unfold fieldV partV; simp only [hu, hf, hd, hi, hg, Bool.false_eq_true, if_false]; exact hx
          · cases hx
      · cases h
    · cases h
  · cases h

theorem ixC_some {t : TypeId} {x ix : Value} (h : ixC P t m x ix K = some r) : ∃ v, indexAt P t x ix = some v ∧ K v m = some r := by
  unfold ixC at h
  split at h
  · rename_i e hu
    split at h
    · rename_i s hs
      obtain ⟨v, hv, hk⟩ := bind_val h
      refine ⟨v, ?_, hk⟩
      unfold ixS at hv
      split at hv
      · unfold indexAt; simp only [hu, hs]; exact hv
      · cases hv
    · cases h
  · rename_i n e hu
    split at h
    · rename_i s hs
      obtain ⟨v, hv, hk⟩ := bind_val h
      refine ⟨v, ?_, hk⟩
      unfold ixA at hv
      split at hv
      · unfold indexAt; simp only [hu, hs]; exact hv
      · cases hv
    · cases h
  · cases h

theorem ixVC_some {t : TypeId} {x ix : Value} (h : ixVC P t m x ix K = some r) : ∃ v, indexV P t x ix = some v ∧ K v m = some r := by
  unfold ixVC at h
  split at h
  · rename_i n e hu
    split at h
    · rename_i d i hd hi
      have hs : sizeT P e = some i.size := by unfold sizeT; rw [hi]; rfl
      cases hg : isAggD d with
      | true =>
        simp only [hg, cond_true] at h
        obtain ⟨v, hv, hk⟩ := bind_val h
        refine ⟨v, ?_, hk⟩
        unfold ixVn at hv
        split at hv
        · unfold indexV partV; simp only [hu, hs, hd, hi, hg, if_true]; exact hv
        · cases hv
      | false =>
        simp only [hg, cond_false] at h
        obtain ⟨v, hv, hk⟩ := bind_val h
        refine ⟨v, ?_, hk⟩
        unfold ixV at hv
        split at hv
        · unfold indexV partV; simp only [hu, hs, hd, hi, hg, Bool.false_eq_true, if_false]; exact hv
        · cases hv
    · cases h
  · rename_i hu
    obtain ⟨v, hv, hk⟩ := bind_val h
    refine ⟨v, ?_, hk⟩
    unfold ixStr at hv
    split at hv
    · unfold indexV; simp only [hu]; exact hv
    · cases hv
  · cases h

theorem bldC_some {t : TypeId} {parts : List (Nat × Value)} (h : bldC P t m parts K = some r) : ∃ v, build P t parts = some v ∧ K v m = some r := by
  unfold bldC at h
  split at h
  · cases h
  · rename_i z hz
    split at h
    · rename_i fields hu
      split at h
      · cases h
      · rename_i pl hp
        obtain ⟨v, hv, hk⟩ := bind_val h
        refine ⟨v, ?_, hk⟩
        unfold bldS at hv
        unfold build
        simp only [hz, hu, hp]
        exact hv
    · rename_i n e hu
      split at h
      · cases h
      · rename_i s hs
        obtain ⟨v, hv, hk⟩ := bind_val h
        refine ⟨v, ?_, hk⟩
        unfold bldA at hv
        unfold build
        simp only [hz, hu, hs]
        exact hv
    · cases h

theorem bldSlC_some {t : TypeId} {len : Nat} {parts : List (Nat × Value)} (h : bldSlC P t m len parts K = some r) : ∃ v m', buildSlice P m t len parts = some (v, m') ∧ K v m' = some r := by
  unfold bldSlC at h
  split at h
  · rename_i e hu
    split at h
    · rename_i s z hs hz
      cases hb : Nat.ble (len * s) 16777216 with
      | false => simp [hb] at h
      | true =>
        simp only [hb, cond_true] at h
        rw [Nat.ble_eq] at hb
        cases hc : cellsA (repl len z) s parts with
        | none => rw [hc] at h; cases h
        | some cs =>
          rw [hc] at h
          refine ⟨_, _, ?_, h⟩
          unfold cellsA at hc
          unfold buildSlice
          simp only [hu, hs, hz, if_pos hb, hc]
          rfl
    · cases h
  · cases h

theorem builtinC_some {b : Builtin} {ats : Array TypeId} {args : List Value} (h : builtinC P b ats m args K = some r) : ∃ v m', builtinV P m b ats args = some (.val v, m') ∧ K v m' = some r := by
  unfold builtinC at h
  split at h
  · rename_i x
    split at h
    · rename_i t ht
      split at h
      · rename_i hu
        obtain ⟨v, hv, hk⟩ := bind_val h
        unfold lenStr at hv
        split at hv
        · cases hv; exact ⟨_, _, by simp [builtinV, ht, lenOfV, hu, val], hk⟩
        · cases hv
      · rename_i e hu
        obtain ⟨v, hv, hk⟩ := bind_val h
        unfold lenSl at hv
        split at hv
        · cases hv; exact ⟨_, _, by simp [builtinV, ht, lenOfV, hu, val], hk⟩
        · cases hv
      · rename_i n e hu
        exact ⟨_, _, by simp [builtinV, ht, lenOfV, hu, val], h⟩
      · rename_i k e hu
        obtain ⟨v, hv, hk⟩ := bind_val h
        refine ⟨v, m, ?_, hk⟩
        unfold lenMp at hv
        split at hv
        · cases hv; simp [builtinV, ht, lenOfV, hu, val]
        · simp only [builtinV, ht, lenOfV, hu, val]
          split at hv
          · rename_i hg; cases hv; simp [hg]
          · cases hv
        · cases hv
      · cases h
    · cases h
  · rename_i s x
    split at h
    · rename_i st xt hst hxt
      split at h
      · rename_i e xd hu hxu
        cases hn : notInt xd with
        | false => simp [hn] at h
        | true =>
          simp only [hn, cond_true] at h
          split at h
          · rename_i i z hi hz
            cases hsz : Nat.blt 0 i.size with
            | false => simp [hsz] at h
            | true =>
              simp only [hsz, cond_true] at h
              rw [Nat.blt_eq] at hsz
              obtain ⟨v, m', hv, hk⟩ := andV_some h
              refine ⟨v, m', ?_, hk⟩
              unfold appS at hv
              split at hv
              · rename_i base sl sc n hl
                split at hv
                · rename_i hc
                  have : append P m st xt (.slice base sl sc) x = some (v, m') := by
                    unfold append
                    rw [hu, hxu]
                    cases xd with
                    | int k => cases hn
                    | _ => simp only [hi, hz, hl, if_pos (⟨hsz, hc⟩ : 0 < i.size ∧ (sl + n) * i.bytes ≤ 140737488355328 ∧ sl + n ≤ 1152921504606846976)]; exact hv
                  simp only [builtinV, hst, hxt, this, vals]
                · cases hv
              · cases hv
          · cases h
      · cases h
    · cases h
  · rename_i d x
    split at h
    · rename_i t ht
      split at h
      · rename_i e hu
        split at h
        · rename_i s hs
          obtain ⟨v, m', hv, hk⟩ := andV_some h
          refine ⟨v, m', ?_, hk⟩
          unfold cpyS at hv
          split at hv
          · rename_i base dl sc xl hl
            simp only [builtinV, ht, copyV, hu, hs, hl]
            split at hv
            · cases hv
            · rename_i cs hcs
              simp only [hcs]
              cases base with
              | none => cases hv; rfl
              | some a =>
                simp only at hv ⊢
                split at hv
                · rename_i hst; cases hv; simp [hst, vals]
                · cases hv
          · cases hv
        · cases h
      · cases h
    · cases h
  · rename_i x
    split at h
    · rename_i t ht
      split at h
      · rename_i e hu
        split at h
        · rename_i z hz
          cases hc : clrS m z x with
          | none => rw [hc] at h; cases h
          | some m' =>
            rw [hc] at h
            refine ⟨_, _, ?_, h⟩
            unfold clrS at hc
            split at hc
            · cases hc; simp [builtinV, ht, clearV, hu, unit]
            · simp only [builtinV, ht, clearV, hu, hz, hc, unit]
            · cases hc
        · cases h
      · cases h
    · cases h
  · obtain ⟨v, hv, hk⟩ := bind_val h
    exact ⟨v, m, by simp only [builtinV, hv, val], hk⟩
  · obtain ⟨v, hv, hk⟩ := bind_val h
    exact ⟨v, m, by simp only [builtinV, hv, val], hk⟩
  · rename_i x
    obtain ⟨v, hv, hk⟩ := bind_val h
    exact ⟨v, m, by simp [builtinV, val, hv], hk⟩
  · rename_i p n
    split at h
    · rename_i t ht
      split at h
      · rename_i e hu
        obtain ⟨v, m', hv, hk⟩ := andV_some h
        refine ⟨v, m', ?_, hk⟩
        have : bytesString P m t p n = some (v, m') := by
          unfold bytesStr at hv
          unfold bytesString
          rw [hu]
          split at hv
          · exact hv
          · cases hv
        simp only [builtinV, ht, this, vals]
      · cases h
    · cases h
  · cases h

theorem endC_some {o : Option (DEnd × Mem)} (h : endC o K KP = some r) : ∃ e m', o = some (e, m') ∧ (match e with | .ret v => K v m' | .pan v => KP v m') = some r := by
  unfold endC at h
  split at h
  · exact ⟨_, _, rfl, h⟩
  · exact ⟨_, _, rfl, h⟩
  · cases h

theorem callC_some {env : Env} {runf : CallF} {f : Value} {args : List Value} (h : callC env runf m f args K KP = some r) : ∃ q m', callV env runf m f args = some (q, m') ∧ sel K KP q m' = some r := by
  unfold callC at h
  split at h
  · rename_i g first captured
    cases hi : env.idf g with
    | true =>
      rw [hi] at h
      simp only [cond_true] at h
      unfold oneC at h
      split at h
      · rename_i x hx
        exact ⟨.val x, m, by simp only [callV, hi, cond_true, hx], h⟩
      · cases h
    | false =>
    rw [hi] at h
    simp only [cond_false] at h
    split at h
    · rename_i v hv
      split at h
      · rename_i hp
        exact ⟨.val v, m, by simp only [callV, hi, cond_false, hv, hp, if_true], h⟩
      · cases h
    · rename_i hn
      obtain ⟨e, m', he, hk⟩ := endC_some h
      cases e with
      | ret v => exact ⟨.val v, m', by simp only [callV, hi, cond_false, hn, he], hk⟩
      | pan v => exact ⟨.pan v, m', by simp only [callV, hi, cond_false, hn, he], hk⟩
  · cases h

theorem opC_sound {env : Env} {runf : CallF} {ρ : Operand → Value} {o : Oper} (h : opC env runf P ρ o.op m K KP = some r) : ∃ q m', opV env runf P ρ o m = some (q, m') ∧ sel K KP q m' = some r := by
  unfold opC at h
  have pure' : ∀ {x : Option Value}, opV env runf P ρ o m = val m x → (∃ v, x = some v ∧ K v m = some r) → ∃ q m', opV env runf P ρ o m = some (q, m') ∧ sel K KP q m' = some r := by
    rintro x hx ⟨v, hv, hk⟩
    exact ⟨.val v, m, by rw [hx, hv]; rfl, hk⟩
  have mems : ∀ {x : Option (Value × Mem)}, opV env runf P ρ o m = vals x → (∃ v m', x = some (v, m') ∧ K v m' = some r) → ∃ q m', opV env runf P ρ o m = some (q, m') ∧ sel K KP q m' = some r := by
    rintro x hx ⟨v, m', hv, hk⟩
    exact ⟨.val v, m', by rw [hx, hv]; rfl, hk⟩
  split at h
  · rename_i x ho; exact ⟨.val (ρ x), m, by simp [opV, ho], h⟩
  · rename_i x ho; exact ⟨.val (ρ x), m, by simp [opV, ho], h⟩
  · rename_i c a b ho
    obtain ⟨v, hv, hk⟩ := bind_val h
    refine ⟨.val v, m, ?_, hk⟩
    unfold pickL at hv
    split at hv
    · rename_i e; cases hv; simp only [opV, ho, e]
    · rename_i e; cases hv; simp only [opV, ho, e]
    · cases hv
  · rename_i e ho
    unfold allC at h
    split at h
    · rename_i z hz; exact ⟨.val _, _, by simp only [opV, ho, hz]; rfl, h⟩
    · cases h
  · rename_i e x ho
    unfold boxC at h
    split at h
    · rename_i z hz; exact ⟨.val _, _, by simp only [opV, ho, hz]; rfl, h⟩
    · cases h
  · rename_i t parts ho; exact pure' (by simp only [opV, ho]) (bldC_some h)
  · rename_i t len parts ho; exact mems (by simp only [opV, ho]) (bldSlC_some h)
  · rename_i t a ho; exact pure' (by simp only [opV, ho]) (loadC_some h)
  · rename_i t a x ho
    obtain ⟨m', hm, hk⟩ := storeC_some h
    exact ⟨.val undef, m', by simp only [opV, ho, hm, unit], hk⟩
  · rename_i x ho
    obtain ⟨v, hv, hk⟩ := bind_val h
    refine ⟨.val v, m, ?_, hk⟩
    unfold isPtr at hv
    split at hv
    · rename_i e; cases hv; simp only [opV, ho, e]
    · cases hv
  · rename_i op t x y yt ho; exact pure' (by simp only [opV, ho]) (binC_some h)
  · rename_i op t x ho
    obtain ⟨v, hs, hv, hk⟩ := unC_some h
    exact ⟨.val v, m, by simp only [opV, ho, hs, if_true, hv, val], hk⟩
  · rename_i s d x ho; exact mems (by simp only [opV, ho]) (cvC_some h)
  · rename_i t x ho
    unfold mkIC at h
    split at h
    · cases h
    · rename_i d hd hu
      refine ⟨.val (.iface t (ρ x)), m, ?_, h⟩
      simp only [opV, ho, hu]
    · cases h
  · rename_i fn first captured ho; exact ⟨.val _, _, by simp only [opV, ho], h⟩
  · rename_i t l c ho; exact mems (by simp only [opV, ho]) (mkSC_some h)
  · rename_i t x lo hi mx ho; exact pure' (by simp only [opV, ho]) (slC_some h)
  · rename_i s x f ho; exact pure' (by simp only [opV, ho]) (fldC_some h)
  · rename_i t x f ho; exact pure' (by simp only [opV, ho]) (prtC_some h)
  · rename_i t x ix ho; exact pure' (by simp only [opV, ho]) (ixC_some h)
  · rename_i t x ix ho; exact pure' (by simp only [opV, ho]) (ixVC_some h)
  · rename_i t ix ho
    obtain ⟨v, hv, hk⟩ := bind_val h
    refine ⟨.val v, m, ?_, hk⟩
    unfold extL at hv
    split at hv
    · rename_i e; simp only [opV, ho, e, hv, val]
    · cases hv
  · rename_i c ho
    split at h
    · rename_i f hc
      obtain ⟨q, m', hq, hk⟩ := callC_some h
      exact ⟨q, m', by simp only [opV, ho, hc]; exact hq, hk⟩
    · rename_i b hc
      obtain ⟨v, m', hv, hk⟩ := builtinC_some h
      exact ⟨.val v, m', by simp only [opV, ho, hc]; exact hv, hk⟩
    · cases h
  · rename_i x ho
    unfold panC at h
    split at h
    · rename_i t v e; exact ⟨.pan (.iface t v), m, by simp only [opV, ho, e], h⟩
    · cases h
  · cases h
end

end Go.D
