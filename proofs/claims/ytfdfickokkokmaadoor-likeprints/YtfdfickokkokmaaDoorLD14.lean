/- D: a region's lexical run, step by step; what the edges say. -/
import Derived.Test.YtfdfickokkokmaaDoorLD13
set_option linter.unusedSimpArgs false
set_option linter.unusedVariables false
namespace Go.D
open Go

/-- Step i of a lexical run. -/
def StepAt (env : Env) (callf : CallF) (P : Program) (os : Array Oper) (A : Nat → Act) (M : Nat → Mem) (V : Nat → Value) (R : Nat → Rec) (i : Nat) : Prop :=
  ∃ o, os[i]? = some o ∧ A (i + 1) = (A i).put o.dst (V i) ∧
    ((Region.wanted o (yielded os (A i).tmps) = true ∧ ∃ m', opV env callf P (A i).eval o (M i).mark = some (.val (V i), m') ∧ M (i + 1) = m'.relow (M i) ∧
        R i = ⟨looks (A i).eval o, wrOf (M i).next m'.low, (M i).next, m'.next⟩) ∨
     (Region.wanted o (yielded os (A i).tmps) = false ∧ V i = undef ∧ M (i + 1) = M i ∧ R i = ⟨.nil, .nil, (M i).next, (M i).next⟩))

theorem trace_seq {env : Env} {callf : CallF} {P : Program} {os : Array Oper} : ∀ (l : List Nat) (k : Nat) (a : Act) (m : Mem) (rs : List Rec) (a1 : Act) (m1 : Mem), l = List.range' k l.length →
    trace env callf P os l a m = some (rs, a1, m1) →
    ∃ A M V R, A k = a ∧ M k = m ∧ A (k + l.length) = a1 ∧ M (k + l.length) = m1 ∧ rs.length = l.length ∧ (∀ i, i < l.length → rs[i]? = some (R (k + i))) ∧ ∀ i, k ≤ i → i < k + l.length → StepAt env callf P os A M V R i
  | [], k, a, m, rs, a1, m1, _, h => by
    simp only [trace, Option.some.injEq, Prod.mk.injEq] at h
    obtain ⟨rfl, rfl, rfl⟩ := h
    exact ⟨fun _ => a, fun _ => m, fun _ => undef, fun _ => ⟨.nil, .nil, 0, 0⟩, rfl, rfl, rfl, rfl, rfl, fun i hi => by simp at hi, fun i h1 h2 => by simp at h2; omega⟩
  | j :: rest, k, a, m, rs, a1, m1, hl, h => by
    have hj : j = k ∧ rest = List.range' (k + 1) rest.length := by
      simp only [List.length_cons, List.range'_succ, List.cons.injEq] at hl
      exact hl
    obtain ⟨rfl, hrest⟩ := hj
    unfold trace at h
    split at h
    · cases h
    · rename_i o ho
      split at h
      · rename_i hwt
        split at h
        · rename_i v m' hv
          split at h
          · rename_i rs2 a2 m2 h2
            simp only [Option.some.injEq, Prod.mk.injEq] at h
            obtain ⟨rfl, rfl, rfl⟩ := h
            obtain ⟨A, M, V, R, hA, hM, hA1, hM1, hlen, hR, hst⟩ := trace_seq rest (j + 1) _ _ _ _ _ hrest h2
            refine ⟨fun i => if i = j then a else A i, fun i => if i = j then m else M i, fun i => if i = j then v else V i,
              fun i => if i = j then ⟨looks a.eval o, wrOf m.next m'.low, m.next, m'.next⟩ else R i, by simp, by simp, ?_, ?_, by simp [hlen], ?_, ?_⟩
            · simp only [List.length_cons]; rw [if_neg (by omega), ← hA1]; congr 1; omega
            · simp only [List.length_cons]; rw [if_neg (by omega), ← hM1]; congr 1; omega
            · intro i hi
              cases i with
              | zero => simp
              | succ i =>
                simp only [List.length_cons] at hi
                have e1 : j + (i + 1) ≠ j := by omega
                rw [List.getElem?_cons_succ, hR i (by omega)]
                simp only [e1, if_false]
                rw [show j + (i + 1) = j + 1 + i by omega]
            · intro i h1 h3
              by_cases e : i = j
              · subst e
                refine ⟨o, ho, ?_, .inl ⟨by simpa using hwt, m', by simpa using hv, ?_, by simp⟩⟩
                · simp only [if_true]; rw [if_neg (by omega)]; exact hA
                · simp only [if_true]; rw [if_neg (by omega)]; exact hM
              · simp only [List.length_cons] at h3
                obtain ⟨o', ho', s1, s2⟩ := hst i (by omega) (by omega)
                refine ⟨o', ho', ?_, ?_⟩
                · simp only [e, if_false]; rw [if_neg (by omega)]; exact s1
                · simp only [e, if_false]; rw [if_neg (by omega)]; exact s2
          · cases h
        · cases h
      · rename_i hwt
        split at h
        · rename_i rs2 a2 m2 h2
          simp only [Option.some.injEq, Prod.mk.injEq] at h
          obtain ⟨rfl, rfl, rfl⟩ := h
          obtain ⟨A, M, V, R, hA, hM, hA1, hM1, hlen, hR, hst⟩ := trace_seq rest (j + 1) _ _ _ _ _ hrest h2
          refine ⟨fun i => if i = j then a else A i, fun i => if i = j then m else M i, fun i => if i = j then undef else V i,
            fun i => if i = j then ⟨.nil, .nil, m.next, m.next⟩ else R i, by simp, by simp, ?_, ?_, by simp [hlen], ?_, ?_⟩
          · simp only [List.length_cons]; rw [if_neg (by omega), ← hA1]; congr 1; omega
          · simp only [List.length_cons]; rw [if_neg (by omega), ← hM1]; congr 1; omega
          · intro i hi
            cases i with
            | zero => simp
            | succ i =>
              simp only [List.length_cons] at hi
              have e1 : j + (i + 1) ≠ j := by omega
              rw [List.getElem?_cons_succ, hR i (by omega)]
              simp only [e1, if_false]
              rw [show j + (i + 1) = j + 1 + i by omega]
          · intro i h1 h3
            by_cases e : i = j
            · subst e
              refine ⟨o, ho, ?_, .inr ⟨by simpa using hwt, by simp, ?_, by simp⟩⟩
              · simp only [if_true]; rw [if_neg (by omega)]; exact hA
              · simp only [if_true]; rw [if_neg (by omega)]; exact hM
            · simp only [List.length_cons] at h3
              obtain ⟨o', ho', s1, s2⟩ := hst i (by omega) (by omega)
              refine ⟨o', ho', ?_, ?_⟩
              · simp only [e, if_false]; rw [if_neg (by omega)]; exact s1
              · simp only [e, if_false]; rw [if_neg (by omega)]; exact s2
        · cases h

theorem rowOk_spec {bf : Array Nat} {i : Nat} {a : Rec} : ∀ (l : List Rec) (j : Nat), rowOk bf i a j l = true → ∀ k b, l[k]? = some b → pairOk bf i (j + k) a b = true
  | [], _, _, k, b, h => by simp at h
  | c :: rest, j, h, k, b, hb => by
    simp only [rowOk, Bool.and_eq_true] at h
    cases k with
    | zero => simp only [List.getElem?_cons_zero, Option.some.injEq] at hb; subst hb; exact h.1
    | succ k =>
      rw [List.getElem?_cons_succ] at hb
      have := rowOk_spec rest (j + 1) h.2 k b hb
      rw [show j + (k + 1) = j + 1 + k by omega]; exact this

theorem pairsOk_spec {bf : Array Nat} : ∀ (l : List Rec) (i : Nat), pairsOk bf i l = true → ∀ p q a b, p < q → l[p]? = some a → l[q]? = some b → pairOk bf (i + p) (i + q) a b = true
  | [], _, _, p, q, a, b, _, h, _ => by simp at h
  | c :: rest, i, h, p, q, a, b, hpq, ha, hb => by
    simp only [pairsOk, Bool.and_eq_true] at h
    cases p with
    | zero =>
      obtain ⟨q, rfl⟩ : ∃ r, q = r + 1 := ⟨q - 1, by omega⟩
      simp only [List.getElem?_cons_zero, Option.some.injEq] at ha
      subst ha
      rw [List.getElem?_cons_succ] at hb
      have := rowOk_spec rest (i + 1) h.1 q b hb
      rw [show i + (q + 1) = i + 1 + q by omega]; exact this
    | succ p =>
      obtain ⟨q, rfl⟩ : ∃ r, q = r + 1 := ⟨q - 1, by omega⟩
      rw [List.getElem?_cons_succ] at ha hb
      have := pairsOk_spec rest (i + 1) h.2 p q a b (by omega) ha hb
      rw [show i + (p + 1) = i + 1 + p by omega, show i + (q + 1) = i + 1 + q by omega]; exact this

theorem still_clash {a b : Rec} (ha : a.still = true) (hb : b.still = true) : a.clash b = false := by
  obtain ⟨r1, w1, l1, h1⟩ := a
  obtain ⟨r2, w2, l2, h2⟩ := b
  simp only [Rec.still, Bool.and_eq_true, beq_iff_eq] at ha hb
  obtain ⟨ha1, rfl⟩ := ha
  obtain ⟨hb1, rfl⟩ := hb
  cases w1 <;> simp at ha1
  cases w2 <;> simp at hb1
  have hz : ∀ b, (Nat.ble l1 b && Nat.blt b l1) = false := by
    intro b
    rw [← Bool.not_eq_true, Bool.and_eq_true, Nat.ble_eq, Nat.blt_eq]
    omega
  have hz2 : Nat.blt l1 l1 = false := by rw [← Bool.not_eq_true, Nat.blt_eq]; omega
  have : ∀ f : FP, f.meetsIn l1 l1 = false := by
    intro f
    cases f <;> simp [FP.meetsIn, hz, hz2]
  simp [Rec.clash, nil_meets, meets_nil, this]

/- edges -/

def maskOf (acc : Array Nat) (after : List Edge) (s : Nat) : Nat := after.foldl (fun s e => if Region.binds .any e then s ||| 2 ^ e.on ||| acc.getD e.on 0 else s) s

theorem maskOf_bit (acc : Array Nat) : ∀ (after : List Edge) (s i : Nat), (maskOf acc after s).testBit i = true →
    s.testBit i = true ∨ ∃ e ∈ after, Region.binds .any e = true ∧ (e.on = i ∨ (acc.getD e.on 0).testBit i = true)
  | [], s, i, h => .inl h
  | e :: rest, s, i, h => by
    unfold maskOf at h
    rw [List.foldl_cons] at h
    rcases maskOf_bit acc rest _ i h with h1 | ⟨e', he', h1⟩
    · split at h1
      · rename_i hb
        rw [Nat.testBit_or, Nat.testBit_or] at h1
        simp only [Bool.or_eq_true] at h1
        rcases h1 with (h1 | h1) | h1
        · exact .inl h1
        · rw [Nat.testBit_two_pow] at h1
          simp only [decide_eq_true_eq] at h1
          exact .inr ⟨e, by simp, hb, .inl h1⟩
        · exact .inr ⟨e, by simp, hb, .inr h1⟩
      · exact .inl h1
    · exact .inr ⟨e', by simp [he'], h1⟩

theorem before_list (os : Array Oper) : Region.before os = os.toList.foldl (fun acc o => acc.push (maskOf acc o.after.toList 0)) #[] := by
  unfold Region.before
  rw [← Array.foldl_toList]
  congr 1
  funext acc o
  rw [← Array.foldl_toList]
  rfl

theorem foldl_masks : ∀ (l : List Oper) (acc : Array Nat), ∃ r : Array Nat, l.foldl (fun acc o => acc.push (maskOf acc o.after.toList 0)) acc = r ∧ r.size = acc.size + l.length ∧ (∀ i, i < acc.size → r.getD i 0 = acc.getD i 0) ∧
    ∀ j o, l[j]? = some o → ∀ i, (r.getD (acc.size + j) 0).testBit i = true → ∃ e ∈ o.after.toList, Region.binds .any e = true ∧ (e.on = i ∨ (e.on < acc.size + j ∧ (r.getD e.on 0).testBit i = true))
  | [], acc => ⟨acc, rfl, by simp, fun _ _ => rfl, fun j o h => by simp at h⟩
  | o :: rest, acc => by
    obtain ⟨r, hr, hsz, hlt, hst⟩ := foldl_masks rest (acc.push (maskOf acc o.after.toList 0))
    simp only [Array.size_push] at hsz hlt hst
    refine ⟨r, by rw [List.foldl_cons]; exact hr, by simp [hsz]; omega, ?_, ?_⟩
    · intro i hi
      rw [hlt i (by omega)]
      simp only [Array.getD_eq_getD_getElem?, Array.getElem?_push]
      rw [if_neg (by omega)]
    · intro j o' hj i hb
      cases j with
      | zero =>
        simp only [List.getElem?_cons_zero, Option.some.injEq] at hj
        subst hj
        rw [Nat.add_zero, hlt acc.size (by omega)] at hb
        simp only [Array.getD_eq_getD_getElem?, Array.getElem?_push, if_true, Option.getD_some] at hb
        rcases maskOf_bit acc _ 0 i hb with h0 | ⟨e, he, hbi, h1⟩
        · simp at h0
        · refine ⟨e, he, hbi, ?_⟩
          rcases h1 with h1 | h1
          · exact .inl h1
          · by_cases hlt2 : e.on < acc.size
            · refine .inr ⟨by omega, ?_⟩
              rw [hlt e.on (by omega)]
              simp only [Array.getD_eq_getD_getElem?, Array.getElem?_push] at h1 ⊢
              rw [if_neg (by omega)]; exact h1
            · simp only [Array.getD_eq_getD_getElem?] at h1
              rw [Array.getElem?_eq_none (by omega)] at h1
              simp at h1
      | succ j =>
        rw [List.getElem?_cons_succ] at hj
        have := hst j o' hj i (by rw [show acc.size + 1 + j = acc.size + (j + 1) by omega]; exact hb)
        rw [show acc.size + 1 + j = acc.size + (j + 1) by omega] at this
        exact this

/-- What is before, along edges, lies in every set that is closed. -/
theorem before_closed {os : Array Oper} {S : Nat → Prop} (hS : ∀ (j : Nat) (o : Oper), os[j]? = some o → S j → ∀ e ∈ o.after, Region.binds .any e = true → S e.on) :
    ∀ (j : Nat) (o : Oper), os[j]? = some o → (∀ e ∈ o.after, Region.binds .any e = true → S e.on) → ∀ i, ((Region.before os).getD j 0).testBit i = true → S i := by
  obtain ⟨r, hr, hsz, _, hst⟩ := foldl_masks os.toList #[]
  rw [before_list, hr]
  simp only [List.size_toArray, List.length_nil, Nat.zero_add, Array.getElem?_toList] at hst
  intro j
  induction j using Nat.strongRecOn with
  | _ j ih =>
    intro o ho hedges i hi
    obtain ⟨e, he, hb, h1⟩ := hst j o ho i hi
    have hSe := hedges e (Array.mem_toList_iff.1 he) hb
    rcases h1 with h1 | ⟨h1, h2⟩
    · exact h1 ▸ hSe
    · have hlt : e.on < os.size := by
        have : j < os.size := by
          rcases Nat.lt_or_ge j os.size with h | h
          · exact h
          · rw [Array.getElem?_eq_none h] at ho; cases ho
        omega
      exact ih e.on h1 os[e.on] (by simp [hlt]) (fun e' he' hb' => hS e.on os[e.on] (by simp [hlt]) hSe e' he' hb') i h2

/-- Edges lead back, and operations of which neither is before the other have no temporary in common. -/
def drawnStatic (os : Array Oper) : Bool :=
  let bf := Region.before os
  (List.range os.size).all fun j => match os[j]? with
    | some o => o.after.toList.all (fun e => !Region.binds .any e || Nat.blt e.on j) &&
        (List.range j).all (fun i => (bf.getD j 0).testBit i || match os[i]? with | some o' => Oper.apart os o' o | none => false)
    | none => false

theorem drawnStatic_spec {os : Array Oper} (h : drawnStatic os = true) {j : Nat} {o : Oper} (ho : os[j]? = some o) :
    (∀ e ∈ o.after, Region.binds .any e = true → e.on < j) ∧ ∀ i o', i < j → os[i]? = some o' → ((Region.before os).getD j 0).testBit i = true ∨ Oper.apart os o' o = true := by
  have hj : j < os.size := by
    rcases Nat.lt_or_ge j os.size with h | h
    · exact h
    · rw [Array.getElem?_eq_none h] at ho; cases ho
  have := List.all_eq_true.1 h j (List.mem_range.2 hj)
  simp only [ho, Bool.and_eq_true] at this
  obtain ⟨h1, h2⟩ := this
  constructor
  · intro e he hb
    have := List.all_eq_true.1 h1 e (Array.mem_toList_iff.2 he)
    simp only [hb, Bool.not_true, Bool.false_or, Nat.blt_eq] at this
    exact this
  · intro i o' hi ho'
    have := List.all_eq_true.1 h2 i (List.mem_range.2 hi)
    simp only [ho', Bool.or_eq_true] at this
    exact this

end Go.D
