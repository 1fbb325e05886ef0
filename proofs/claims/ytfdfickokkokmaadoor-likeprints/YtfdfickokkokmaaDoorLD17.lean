/- D: a drawn region: one operation more. -/
import Derived.Test.YtfdfickokkokmaaDoorLD16
set_option linter.unusedSimpArgs false
set_option linter.unusedVariables false
namespace Go.D
open Go

theorem Eff.next_eq (e : Eff) {m n : Mem} (h : n.next = m.next) : (e.ap n).next = (e.ap m).next := by
  cases e <;> simp [Eff.ap, Mem.push, Mem.put, h]
theorem Eff.low_eq (e : Eff) {m n : Mem} (h : n.low = m.low) : (e.ap n).low = (e.ap m).low := by
  cases e <;> simp [Eff.ap, Mem.push, Mem.put, h]
theorem Eff.get_eq (e : Eff) {m n : Mem} (hm : m.next = m.base + m.new.length) (hn : n.next = n.base + n.new.length) (hb : n.base = m.base) (h : n.next = m.next) (hwr : ∀ b, e.wr b → m.base ≤ b ∧ b < m.next) {b : Nat} (hg : n.get b = m.get b) : (e.ap n).get b = (e.ap m).get b := by
  cases e with
  | id => exact hg
  | push x => simp only [Eff.ap]; rw [Mem.get_push hm, Mem.get_push hn, h, hg]
  | put c x =>
    obtain ⟨h1, h2⟩ := hwr c rfl
    simp only [Eff.ap]
    rw [Mem.get_put hm h1 h2, Mem.get_put hn (hb ▸ h1) (h ▸ h2), hg]
  | grow c x =>
    obtain ⟨h1, h2⟩ := hwr c rfl
    simp only [Eff.ap]
    rw [Mem.get_push (Mem.ok_put hm _ _), Mem.get_push (Mem.ok_put hn _ _), Mem.get_put hm h1 h2, Mem.get_put hn (hb ▸ h1) (h ▸ h2), hg]
    show (if b = n.next then _ else _) = (if b = m.next then _ else _)
    rw [h]

theorem get_old {m : Mem} {b : Nat} (h : b < m.base) : m.get b = m.old b := by unfold Mem.get; rw [if_pos h]

theorem opnd_rel' {P : Program} {φ : Phi} {m : Mem} {w : World} (hw : WR P φ m w) {a a' : Act} {x : Operand} (ht : ∀ t, x = .tmp t → VR φ (a.tmps.getD t undef) (a'.tmps.getD t undef)) (hx : opndOk m.base x = true) : VR φ (a.eval x) (a'.eval x) := by
  cases x with
  | tmp t => exact ht t rfl
  | const v => exact VR.plain_self hx
  | global g =>
    simp only [opndOk, Nat.blt_eq] at hx
    obtain ⟨L, hL, he⟩ := hw.old g hx
    have : VR φ (.pointer (some ⟨g, 0, none⟩)) (.pointer (some ⟨L.blk, 0, none⟩)) := .ptr hL
    rw [he] at this
    exact this
  | func f => exact .func _ .nil .nil

structure Inv (P : Program) (os : Array Oper) (M : Nat → Mem) (R : Nat → Rec) (V : Nat → Value) (a0 : Act) (m0 : Mem) (φ0 : Phi) (w0 : World) (S : Nat → Bool) (ψ : Phi) (mS : Mem) (a' : Act) (w' : World) : Prop where
  closed : ∀ (j : Nat) (o : Oper), os[j]? = some o → S j = true → ∀ e ∈ o.after, Region.binds .any e = true → S e.on = true
  get : ∀ b, mS.get b = gS M R S os.size b
  next : mS.next = (M os.size).next
  low : mS.low = (M os.size).low
  sim : Sim P φ0 m0 w0 ψ mS w'
  un : ∀ i, i < os.size → S i = false → ∀ b, (M i).next ≤ b → b < (M (i + 1)).next → ψ b = none
  sz : a'.tmps.size = a0.tmps.size
  df : a'.defers = []
  tmp : ∀ t, VR ψ (vS os a0 V S os.size t) (a'.tmps.getD t undef)

section main
variable {P : Program} {base : Nat} {old : Nat → Option Blk} {env : Env} {callf : CallF}
variable {os : Array Oper} {A : Nat → Act} {M : Nat → Mem} {V : Nat → Value} {R : Nat → Rec}

/-- What the whole lexical run gives. -/
structure Run (P : Program) (base : Nat) (old : Nat → Option Blk) (env : Env) (callf : CallF) (os : Array Oper) (A : Nat → Act) (M : Nat → Mem) (V : Nat → Value) (R : Nat → Rec) : Prop where
  ok : ∀ (i : Nat) (o : Oper), os[i]? = some o → operOk base o = true
  st : drawnStatic os = true
  seq : ∀ i, i < os.size → StepAt env callf P os A M V R i
  pairs : ∀ i j, i < j → j < os.size → ((Region.before os).getD j 0).testBit i = true ∨ (R i).clash (R j) = false
  at_ : ∀ i, i ≤ os.size → At P base old A M i
  facts : ∀ i, i < os.size → Facts M R i

variable (r : Run P base old env callf os A M V R)
include r

theorem Run.nexts {i k : Nat} (h : i ≤ k) (hk : k ≤ os.size) : (M i).next ≤ (M k).next := by
  induction k with
  | zero => obtain rfl : i = 0 := by omega
            exact Nat.le_refl _
  | succ k ih =>
    by_cases e : i = k + 1
    · subst e; exact Nat.le_refl _
    · exact Nat.le_trans (ih (by omega) (by omega)) (r.facts k (by omega)).next

theorem Run.lows {i k : Nat} (h : i ≤ k) (hk : k ≤ os.size) {b : Nat} (hb : b ∈ (M i).low) : b ∈ (M k).low := by
  induction k with
  | zero => obtain rfl : i = 0 := by omega
            exact hb
  | succ k ih =>
    by_cases e : i = k + 1
    · subst e; exact hb
    · exact (r.facts k (by omega)).low _ (ih (by omega) (by omega))

theorem Run.deads {b : Nat} (hb : b < (M 0).next) (h : (M 0).get b = none) : ∀ i, i ≤ os.size → (M i).get b = none
  | 0, _ => h
  | i + 1, hi => (r.facts i (by omega)).dead b (Nat.lt_of_lt_of_le hb (r.nexts (Nat.zero_le i) (by omega))) (Run.deads hb h i (by omega))

theorem Run.kepts {b : Nat} (hb : b < (M 0).next) (h : b ∉ (M os.size).low) : ∀ i, i ≤ os.size → (M i).get b = (M 0).get b
  | 0, _ => rfl
  | i + 1, hi => by
    rw [(r.facts i (by omega)).kept b (Nat.lt_of_lt_of_le hb (r.nexts (Nat.zero_le i) (by omega))) (fun hm => h (r.lows (by omega) (Nat.le_refl _) hm))]
    exact Run.kepts hb h i (by omega)

theorem Run.before1 {S : Nat → Bool} {j : Nat} {o : Oper} (hj : j < os.size) (ho : os[j]? = some o)
    (hcl : ∀ (j : Nat) (o : Oper), os[j]? = some o → S j = true → ∀ e ∈ o.after, Region.binds .any e = true → S e.on = true)
    (hed : ∀ e ∈ o.after, Region.binds .any e = true → S e.on = true) {k : Nat} (hk : k < j) (hSk : S k = false) : (R k).clash (R j) = false ∧ ∀ ok, os[k]? = some ok → Oper.apart os ok o = true := by
  have hnb : ¬ ((Region.before os).getD j 0).testBit k = true := fun h => by
    have := before_closed (S := fun i => S i = true) hcl j o ho hed k h
    rw [hSk] at this; cases this
  refine ⟨(r.pairs k j hk hj).resolve_left hnb, fun ok hok => ?_⟩
  exact ((drawnStatic_spec r.st ho).2 k ok hk hok).resolve_left hnb

theorem Run.before2 {S : Nat → Bool} {j : Nat} {o : Oper} (ho : os[j]? = some o) (hS : S j = false)
    (hcl : ∀ (j : Nat) (o : Oper), os[j]? = some o → S j = true → ∀ e ∈ o.after, Region.binds .any e = true → S e.on = true)
    {k : Nat} (hk : j < k) (hkn : k < os.size) (hSk : S k = true) : (R j).clash (R k) = false ∧ ∀ ok, os[k]? = some ok → Oper.apart os o ok = true := by
  have hget : os[k]? = some os[k] := by simp [hkn]
  have hnb : ¬ ((Region.before os).getD k 0).testBit j = true := fun h => by
    have := before_closed (S := fun i => S i = true) hcl k os[k] hget (hcl k _ hget hSk) j h
    rw [hS] at this; cases this
  refine ⟨(r.pairs j k hk hkn).resolve_left hnb, fun ok hok => ?_⟩
  exact ((drawnStatic_spec r.st hok).2 j o hk ho).resolve_left hnb

theorem Run.after_ {S : Nat → Bool} {j : Nat} {o : Oper} (hj : j < os.size) (ho : os[j]? = some o) (hS : S j = false)
    (hcl : ∀ (j : Nat) (o : Oper), os[j]? = some o → S j = true → ∀ e ∈ o.after, Region.binds .any e = true → S e.on = true) {b : Nat} (ht : touched M R j b) : ∀ i, j < i → i < os.size → S i = true → ¬ touched M R i b := by
  intro i hi hin hSi ht2
  have hc := (r.before2 ho hS hcl hi hin hSi).1
  have hf := r.facts j hj
  simp only [Rec.clash, Bool.or_eq_false_iff] at hc
  obtain ⟨⟨⟨⟨c1, c2⟩, c3⟩, c4⟩, c5⟩ := hc
  have hn1 := r.nexts (show j ≤ i by omega) (by omega)
  have hn2 := r.nexts (show j + 1 ≤ i by omega) (by omega)
  rcases ht with ⟨h1, h2⟩ | ⟨h1, h2⟩ <;> rcases ht2 with ⟨k1, k2⟩ | ⟨k1, k2⟩
  · exact FP.meets_has c2 h1 k1
  · omega
  · rw [← hf.lo] at h1
    rw [← hf.hi] at h2
    exact FP.meetsIn_has c5 k1 h1 h2
  · omega

variable {S : Nat → Bool} {j : Nat} {o : Oper} (hj : j < os.size) (ho : os[j]? = some o) (hS : S j = false)
  (hcl : ∀ (j : Nat) (o : Oper), os[j]? = some o → S j = true → ∀ e ∈ o.after, Region.binds .any e = true → S e.on = true)
  (hed : ∀ e ∈ o.after, Region.binds .any e = true → S e.on = true)
include hj ho hS hcl hed

theorem Run.temps {t : Tmp} (ht : t ∈ o.looksAt os) : vS os (A 0) V S os.size t = (A j).tmps.getD t undef := by
  rw [vS_at (j := j) (Nat.le_of_lt hj)]
  · exact (vS_all (A := A) j (fun i hi => by
      obtain ⟨o, ho, hA, _⟩ := r.seq i (by omega)
      exact ⟨o, ho, hA⟩) rfl t).1
  · intro i hi hd
    cases hSi : S i with
    | true => rfl
    | false =>
      obtain ⟨oi, hoi⟩ : ∃ oi, os[i]? = some oi := ⟨os[i], by simp [show i < os.size by omega]⟩
      have := Oper.apart_spec ((r.before1 hj ho hcl hed hi hSi).2 oi hoi)
      rw [hoi, Option.bind_some] at hd
      exact absurd ht (this.1 t hd)
  · intro i hi hin hSi hd
    by_cases e : i = j
    · subst e; rw [hS] at hSi; cases hSi
    · obtain ⟨oi, hoi⟩ : ∃ oi, os[i]? = some oi := ⟨os[i], by simp [hin]⟩
      have := Oper.apart_spec ((r.before2 ho hS hcl (by omega) hin hSi).2 oi hoi)
      rw [hoi, Option.bind_some] at hd
      exact this.2.2 t hd ht

theorem Run.agree {b : Nat} (h : (R j).rd.has b = true ∨ (R j).wr.has b = true) (hb : b < (M j).next) : gS M R S os.size b = (M j).get b := by
  refine gS_at r.facts (Nat.le_of_lt hj) ?_ ?_
  · intro i hi ht
    cases hSi : S i with
    | true => rfl
    | false =>
      exfalso
      have hc := (r.before1 hj ho hcl hed hi hSi).1
      have hf := r.facts i (by omega)
      simp only [Rec.clash, Bool.or_eq_false_iff] at hc
      obtain ⟨⟨⟨⟨c1, c2⟩, c3⟩, c4⟩, c5⟩ := hc
      rcases ht with ⟨hw, _⟩ | ⟨h1, h2⟩
      · rcases h with h | h
        · exact FP.meets_has c1 hw h
        · exact FP.meets_has c2 hw h
      · rw [← hf.lo] at h1
        rw [← hf.hi] at h2
        rcases h with h | h
        · exact FP.meetsIn_has c4 h h1 h2
        · exact FP.meetsIn_has c5 h h1 h2
  · intro i hi hin hSi ht
    by_cases e : i = j
    · subst e; rw [hS] at hSi; cases hSi
    · have hc := (r.before2 ho hS hcl (by omega) hin hSi).1
      simp only [Rec.clash, Bool.or_eq_false_iff] at hc
      obtain ⟨⟨⟨⟨c1, c2⟩, c3⟩, c4⟩, c5⟩ := hc
      rcases ht with ⟨hw, _⟩ | ⟨h1, h2⟩
      · rcases h with h | h
        · exact FP.meets_has c3 hw h
        · exact FP.meets_has c2 h hw
      · have := r.nexts (show j ≤ i by omega) (by omega)
        omega

open Classical in
/-- The memory that operation j meets, and what it makes of it. -/
theorem Run.meets {m' : Mem} (hv : opV env callf P (A j).eval o (M j).mark = some (.val (V j), m')) (hM : M (j + 1) = m'.relow (M j))
    (hR : R j = ⟨looks (A j).eval o, wrOf (M j).next m'.low, (M j).next, m'.next⟩) :
    ∃ mm mm' : Mem, mm.base = base ∧ mm.old = old ∧ mm.next = (M j).next ∧ mm.next = mm.base + mm.new.length ∧ opV env callf P (A j).eval o mm = some (.val (V j), mm') ∧
      (∀ b, mm.get b = none ∨ (mm.get b = (M j).get b ∧ gS M R S os.size b = (M j).get b)) ∧ (∀ b, b < (M j).next → gS M R S os.size b = (M j).get b → mm.get b = (M j).get b) ∧
      (∀ b, touched M R j b → mm'.get b = (M (j + 1)).get b) ∧ (∀ b, ¬ touched M R j b → mm'.get b = mm.get b) ∧ mm'.next = (M (j + 1)).next ∧ mm'.low = m'.low := by
  obtain ⟨hb, hold, φ, w, a', hw, ha⟩ := r.at_ j (Nat.le_of_lt hj)
  have hbase := hb
  have hle : base ≤ (M j).next := hb ▸ hw.le
  have hnone : ∀ b, (M j).next ≤ b → (M j).get b = none := fun b h => Mem.get_ge (by omega) h
  have hgM : ∀ b, (M (j + 1)).get b = m'.get b := fun b => by rw [hM]; rfl
  have hnM : (M (j + 1)).next = m'.next := by rw [hM]; rfl
  cases hcode : isCode o with
  | true =>
    have hlk := code_all (ρ := (A j).eval) hcode
    have hag : ∀ b, b < (M j).next → gS M R S os.size b = (M j).get b := fun b hb => r.agree hj ho hS hcl hed (.inl (by rw [hR]; simp only [hlk]; rfl)) hb
    refine ⟨(M j).mark, m', hb, hold, rfl, hw.ok, hv, ?_, fun b _ _ => rfl, fun b _ => (hgM b).symm, ?_, hnM.symm, rfl⟩
    · intro b
      by_cases h : b < (M j).next
      · exact .inr ⟨rfl, hag b h⟩
      · exact .inl (hnone b (by omega))
    · intro b ht
      rw [← hgM]
      exact (r.facts j hj).still b ht
  | false =>
    obtain ⟨e, he, hew, hen⟩ := opV_eff hcode hv
    obtain ⟨_, _, hs3⟩ := eff_still (m := (M j).mark) hw.ok he (fun b hb => ⟨(hew b hb).1, (hew b hb).2.1⟩)
    have hwr : ∀ b, e.wr b → (R j).wr.has b = true ∧ b < (M j).next := by
      intro b hb
      refine ⟨?_, (hs3 b hb).2⟩
      rw [hR]
      exact wrOf_has.2 (hs3 b hb)
    obtain ⟨mm, m1, m2, m3, m4, m5, m6⟩ := Mem.exists_get base (M j).next [] old (fun b => if gS M R S os.size b = (M j).get b then (M j).get b else none) hle
    have hbelow : ∀ b, b < base → mm.get b = (M j).get b ∧ gS M R S os.size b = (M j).get b := by
      intro b hbb
      have e1 : ∀ i, i ≤ os.size → (M i).get b = old b := by
        intro i hi
        obtain ⟨h1, h2, _⟩ := r.at_ i hi
        rw [get_old (by omega), h2]
      rw [m6, if_pos hbb, e1 j (Nat.le_of_lt hj)]
      exact ⟨rfl, gS_const e1 os.size (Nat.le_refl _)⟩
    have g1 : ∀ b, mm.get b = none ∨ (mm.get b = (M j).get b ∧ gS M R S os.size b = (M j).get b) := by
      intro b
      by_cases h1 : b < base
      · exact .inr (hbelow b h1)
      · rw [m6, if_neg h1]
        by_cases h2 : b < (M j).next
        · rw [if_pos h2]
          by_cases h3 : gS M R S os.size b = (M j).get b
          · rw [if_pos h3]; exact .inr ⟨rfl, h3⟩
          · rw [if_neg h3]; exact .inl rfl
        · rw [if_neg h2]; exact .inl rfl
    have g2 : ∀ b, b < (M j).next → gS M R S os.size b = (M j).get b → mm.get b = (M j).get b := by
      intro b h2 h3
      by_cases h1 : b < base
      · exact (hbelow b h1).1
      · rw [m6, if_neg h1, if_pos h2, if_pos h3]
    have hbig : ∀ b, (M j).next ≤ b → mm.get b = (M j).get b := by
      intro b h
      rw [m6, if_neg (by omega), if_neg (by omega), hnone b h]
    have hlk : ∀ b, (looks (A j).eval o).has b = true → mm.get b = (M j).get b := by
      intro b hb
      by_cases h : b < (M j).next
      · exact g2 b h (r.agree hj ho hS hcl hed (.inl (by rw [hR]; exact hb)) h)
      · exact hbig b (by omega)
    have hwg : ∀ b, (R j).wr.has b = true → b < (M j).next → mm.get b = (M j).get b := fun b h1 h2 => g2 b h2 (r.agree hj ho hS hcl hed (.inr h1) h2)
    have hop := hen mm (by rw [m1]; exact hb.symm) (by rw [m3]; rfl) hlk (fun b hb => hwg b (hwr b hb).1 (hwr b hb).2)
    have hnx : (e.ap mm).next = m'.next := by rw [he]; exact Eff.next_eq e (by rw [m3]; rfl)
    refine ⟨mm, e.ap mm, m1, m2, m3, m5, hop, g1, g2, ?_, ?_, hnx.trans hnM.symm, by rw [he]; exact Eff.low_eq e (by rw [m4]; rfl)⟩
    · intro b ht
      rw [hgM, he]
      refine Eff.get_eq e (m := (M j).mark) hw.ok m5 (by rw [m1]; exact hb.symm) (by rw [m3]; rfl) (fun b hb => ⟨(hew b hb).1, (hwr b hb).2⟩) ?_
      show mm.get b = (M j).get b
      rcases ht with ⟨h1, h2⟩ | ⟨h1, h2⟩
      · exact hwg b h1 h2
      · exact hbig b h1
    · intro b ht
      obtain ⟨_, t2, _⟩ := eff_still (m := mm) m5 rfl (fun b hb => ⟨by rw [m1, ← hbase]; exact (hew b hb).1, by rw [hwg b (hwr b hb).1 (hwr b hb).2]; exact (hew b hb).2.1⟩)
      refine t2 b (fun hb2 => ht (.inl (hwr b hb2))) (fun hb2 => ht (.inr ?_))
      rw [m3, hnx, ← hnM] at hb2
      exact hb2

end main
end Go.D
