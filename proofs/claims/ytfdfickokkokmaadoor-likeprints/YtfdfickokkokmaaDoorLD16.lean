/- D: a drawn region: every order comes to what the lexical run tells. -/
import Derived.Test.YtfdfickokkokmaaDoorLD15
set_option linter.unusedSimpArgs false
set_option linter.unusedVariables false
namespace Go.D
open Go

theorem code_all {ρ : Operand → Value} {o : Oper} (h : isCode o = true) : looks ρ o = .all := by
  unfold isCode at h
  split at h
  · rename_i c hop
    unfold looks
    simp only [hop]
    cases hc : c.callee with
    | builtin b => simp [hc] at h
    | value f => rfl
    | invoke r n => rfl
  · cases h

def touched (M : Nat → Mem) (R : Nat → Rec) (i b : Nat) : Prop := ((R i).wr.has b = true ∧ b < (M i).next) ∨ ((M i).next ≤ b ∧ b < (M (i + 1)).next)

theorem get_low (m : Mem) (k : List Nat) (b : Nat) : ({ m with low := k } : Mem).get b = m.get b := rfl

section main
variable {P : Program} {base : Nat} {old : Nat → Option Blk} {env : Env} {callf : CallF}
variable (hE : EnvOk P base old env) (hC : CallSound P base old callf)
variable {os : Array Oper} (hok : ∀ (i : Nat) (o : Oper), os[i]? = some o → operOk base o = true)
variable {A : Nat → Act} {M : Nat → Mem} {V : Nat → Value} {R : Nat → Rec}

structure Facts (M : Nat → Mem) (R : Nat → Rec) (i : Nat) : Prop where
  next : (M i).next ≤ (M (i + 1)).next
  dead : ∀ b, b < (M i).next → (M i).get b = none → (M (i + 1)).get b = none
  low : ∀ b, b ∈ (M i).low → b ∈ (M (i + 1)).low
  kept : ∀ b, b < (M i).next → b ∉ (M (i + 1)).low → (M (i + 1)).get b = (M i).get b
  lo : (R i).lo = (M i).next
  hi : (R i).hi = (M (i + 1)).next
  still : ∀ b, ¬ touched M R i b → (M (i + 1)).get b = (M i).get b

/-- Whether an effect is one that a record tells. -/
theorem eff_still {m m' : Mem} {e : Eff} (hmok : m.next = m.base + m.new.length) (he : m' = e.ap m) (hwr : ∀ b, e.wr b → m.base ≤ b ∧ m.get b ≠ none) :
    m.next ≤ m'.next ∧ (∀ b, ¬ e.wr b → ¬ (m.next ≤ b ∧ b < m'.next) → m'.get b = m.get b) ∧ (∀ b, e.wr b → b ∈ m'.low ∧ b < m.next) := by
  have hlt : ∀ b, e.wr b → b < m.next := by
    intro b hb
    obtain ⟨h1, h2⟩ := hwr b hb
    rcases Nat.lt_or_ge b m.next with h | h
    · exact h
    · exact absurd (Mem.get_ge h1 h) h2
  cases e with
  | id => subst he; exact ⟨Nat.le_refl _, fun _ _ _ => rfl, fun _ h => h.elim⟩
  | push x =>
    subst he
    refine ⟨by simp [Eff.ap, Mem.push], fun b _ hb => ?_, fun _ h => h.elim⟩
    simp only [Eff.ap] at hb ⊢
    rw [Mem.get_push hmok, if_neg]
    rintro rfl
    exact hb ⟨Nat.le_refl _, by simp [Mem.push]⟩
  | put c x =>
    subst he
    obtain ⟨h1, h2⟩ := hwr c rfl
    have h3 := hlt c rfl
    refine ⟨Nat.le_refl _, fun b hb _ => ?_, ?_⟩
    · simp only [Eff.ap]
      rw [Mem.get_put hmok h1 h3, if_neg (show ¬ b = c from hb)]
    · rintro b rfl
      exact ⟨by simp [Eff.ap, Mem.put], h3⟩
  | grow c x =>
    subst he
    obtain ⟨h1, h2⟩ := hwr c rfl
    have h3 := hlt c rfl
    refine ⟨by simp [Eff.ap, Mem.push, Mem.put], fun b hb hb2 => ?_, ?_⟩
    · simp only [Eff.ap] at hb2 ⊢
      rw [Mem.get_push (Mem.ok_put hmok _ _), if_neg, Mem.get_put hmok h1 h3, if_neg (show ¬ b = c from hb)]
      rintro rfl
      exact hb2 ⟨Nat.le_refl _, by simp [Mem.push, Mem.put]⟩
    · rintro b rfl
      exact ⟨by simp [Eff.ap, Mem.put, Mem.push], h3⟩

include hE hC hok in
theorem facts {i : Nat} (hst : StepAt env callf P os A M V R i) (h : At P base old A M i) : Facts M R i := by
  obtain ⟨hat, φ, w, ψ, w', hw, hs, hraw⟩ := lex_step hE hC hok hst h
  obtain ⟨hb, ho, _⟩ := h
  obtain ⟨o, hoi, hA, ⟨hwt, m', hv, hM, hR⟩ | ⟨hwt, hV, hM, hR⟩⟩ := hst
  · have hs1 := hraw o m' hoi hwt hv
    have hhi : m'.next = (M (i + 1)).next := by rw [hM]; rfl
    refine ⟨hs.next, hs.dead, hs.low, hs.kept, by rw [hR], by rw [hR]; exact hhi, ?_⟩
    intro b hnt
    have hgM : (M (i + 1)).get b = m'.get b := by rw [hM]; rfl
    rw [hgM]
    by_cases hlt : b < (M i).next
    · refine hs1.kept b hlt fun hl => hnt (.inl ⟨?_, hlt⟩)
      rw [hR]
      exact wrOf_has.2 ⟨hl, hlt⟩
    · have h1 : ¬ b < (M (i + 1)).next := fun h => hnt (.inr ⟨by omega, h⟩)
      by_cases hbb : base ≤ b
      · rw [Mem.get_ge (by rw [hs1.base]; show (M i).base ≤ b; omega) (by omega), Mem.get_ge (by omega) (by omega)]
      · have := hw.le; omega
  · exact ⟨hs.next, hs.dead, hs.low, hs.kept, by rw [hR], by rw [hR, hM], fun b _ => by rw [hM]⟩

open Classical in
/-- What a block holds when the operations of S are done. -/
noncomputable def gS (M : Nat → Mem) (R : Nat → Rec) (S : Nat → Bool) : Nat → Nat → Option Blk
  | 0, b => (M 0).get b
  | k + 1, b => if S k = true ∧ touched M R k b then (M (k + 1)).get b else gS M R S k b

def vS (os : Array Oper) (a : Act) (V : Nat → Value) (S : Nat → Bool) : Nat → Nat → Value
  | 0, t => a.tmps.getD t undef
  | k + 1, t => if S k = true ∧ (os[k]?).bind (·.dst) = some t ∧ t < a.tmps.size then V k else vS os a V S k t

theorem gS_all {S : Nat → Bool} {n : Nat} (hF : ∀ i, i < n → Facts M R i) {b : Nat} : ∀ k, k ≤ n → (∀ i, i < k → touched M R i b → S i = true) → gS M R S k b = (M k).get b
  | 0, _, _ => rfl
  | k + 1, hk, h => by
    unfold gS
    by_cases ht : touched M R k b
    · rw [if_pos ⟨h k (Nat.lt_succ_self k) ht, ht⟩]
    · rw [if_neg (fun h => ht h.2), gS_all hF k (by omega) (fun i hi => h i (by omega)), (hF k (by omega)).still b ht]

open Classical in
theorem gS_rest {S : Nat → Bool} {b : Nat} {j : Nat} : ∀ k, j ≤ k → (∀ i, j ≤ i → i < k → S i = true → ¬ touched M R i b) → gS M R S k b = gS M R S j b := by
  intro k hk
  induction k with
  | zero => intro _; obtain rfl : j = 0 := by omega
            rfl
  | succ k ih =>
    intro h
    by_cases e : j = k + 1
    · subst e; rfl
    · have : gS M R S (k + 1) b = gS M R S k b := by
        show (if S k = true ∧ touched M R k b then (M (k + 1)).get b else gS M R S k b) = _
        rw [if_neg (fun hh => h k (by omega) (by omega) hh.1 hh.2)]
      rw [this]
      exact ih (by omega) fun i h1 h2 => h i h1 (by omega)

/-- Where all that touched a block before j is done, and nothing behind j: what j finds. -/
theorem gS_at {S : Nat → Bool} {n : Nat} (hF : ∀ i, i < n → Facts M R i) {b j : Nat} (hj : j ≤ n) (h1 : ∀ i, i < j → touched M R i b → S i = true) (h2 : ∀ i, j ≤ i → i < n → S i = true → ¬ touched M R i b) : gS M R S n b = (M j).get b := by
  rw [gS_rest n hj h2, gS_all hF j hj h1]

theorem gS_const {S : Nat → Bool} {n : Nat} {b : Nat} {x : Option Blk} (h : ∀ i, i ≤ n → (M i).get b = x) : ∀ k, k ≤ n → gS M R S k b = x
  | 0, _ => h 0 (Nat.zero_le _)
  | k + 1, hk => by
    unfold gS
    split
    · exact h (k + 1) hk
    · exact gS_const h k (by omega)

def upd (S : Nat → Bool) (j : Nat) : Nat → Bool := fun i => if i = j then true else S i

open Classical in
theorem gS_upd {S : Nat → Bool} {n j b : Nat} (hj : j < n) (h : ∀ i, j < i → i < n → S i = true → touched M R j b → ¬ touched M R i b) (hS : S j = false) :
    (touched M R j b → gS M R (upd S j) n b = (M (j + 1)).get b) ∧ (¬ touched M R j b → gS M R (upd S j) n b = gS M R S n b) := by
  constructor
  · intro ht
    rw [gS_rest (j := j + 1) n (by omega)]
    · show (if upd S j j = true ∧ touched M R j b then (M (j + 1)).get b else _) = _
      rw [if_pos ⟨by simp [upd], ht⟩]
    · intro i h1 h2 h3
      have : S i = true := by simpa [upd, show i ≠ j by omega] using h3
      exact h i (by omega) h2 this ht
  · intro ht
    have : ∀ k, gS M R (upd S j) k b = gS M R S k b := by
      intro k
      induction k with
      | zero => rfl
      | succ k ih =>
        show (if upd S j k = true ∧ touched M R k b then (M (k + 1)).get b else gS M R (upd S j) k b) = (if S k = true ∧ touched M R k b then (M (k + 1)).get b else gS M R S k b)
        by_cases e : k = j
        · subst e
          rw [if_neg (fun h => ht h.2), if_neg (fun h => ht h.2), ih]
        · simp only [upd, e, if_false] at ih ⊢
          rw [ih]
    exact this n

theorem vS_all {a : Act} : ∀ k, (∀ i, i < k → ∃ o, os[i]? = some o ∧ A (i + 1) = (A i).put o.dst (V i)) → A 0 = a → ∀ t, vS os a V (fun _ => true) k t = (A k).tmps.getD t undef ∧ (A k).tmps.size = a.tmps.size
  | 0, _, h0, t => by subst h0; exact ⟨rfl, rfl⟩
  | k + 1, h, h0, t => by
    obtain ⟨o, ho, hA⟩ := h k (Nat.lt_succ_self k)
    obtain ⟨h1, h2⟩ := vS_all k (fun i hi => h i (by omega)) h0 t
    rw [hA, getD_put, size_put, h2]
    refine ⟨?_, rfl⟩
    unfold vS
    simp only [true_and, ho, Option.bind_some]
    rw [h1]

theorem vS_at {a : Act} {S : Nat → Bool} {n j t : Nat} (hj : j ≤ n) (h1 : ∀ i, i < j → (os[i]?).bind (·.dst) = some t → S i = true) (h2 : ∀ i, j ≤ i → i < n → S i = true → (os[i]?).bind (·.dst) ≠ some t) :
    vS os a V S n t = vS os a V (fun _ => true) j t := by
  have p1 : ∀ k, k ≤ j → vS os a V S k t = vS os a V (fun _ => true) k t := by
    intro k
    induction k with
    | zero => intro _; rfl
    | succ k ih =>
      intro hk
      unfold vS
      rw [ih (by omega)]
      by_cases e : (os[k]?).bind (·.dst) = some t
      · simp only [h1 k (by omega) e]
      · simp only [e, false_and, and_false, if_false]
  have p2 : ∀ k, j ≤ k → k ≤ n → vS os a V S k t = vS os a V S j t := by
    intro k hk
    induction k with
    | zero => intro _; obtain rfl : j = 0 := by omega
              rfl
    | succ k ih =>
      intro hkn
      by_cases e : j = k + 1
      · subst e; rfl
      · rw [← ih (by omega) (by omega)]
        show (if S k = true ∧ (os[k]?).bind (·.dst) = some t ∧ t < a.tmps.size then V k else vS os a V S k t) = _
        rw [if_neg]
        rintro ⟨h3, h4, _⟩
        exact h2 k (by omega) (by omega) h3 h4
  rw [p2 n hj (Nat.le_refl _), p1 j (Nat.le_refl _)]

theorem vS_upd {a : Act} {S : Nat → Bool} {n j : Nat} (hj : j < n) {o : Oper} (ho : os[j]? = some o) (h : ∀ i, j < i → i < n → S i = true → ∀ d, o.dst = some d → (os[i]?).bind (·.dst) ≠ some d) (hS : S j = false) (t : Nat) :
    vS os a V (upd S j) n t = if o.dst = some t ∧ t < a.tmps.size then V j else vS os a V S n t := by
  have p1 : ∀ k, k ≤ j → vS os a V (upd S j) k t = vS os a V S k t := by
    intro k
    induction k with
    | zero => intro _; rfl
    | succ k ih =>
      intro hk
      unfold vS
      rw [ih (by omega)]
      simp only [upd, show k ≠ j by omega, if_false]
  have p2 : ∀ k, j < k → k ≤ n → vS os a V (upd S j) k t = if o.dst = some t ∧ t < a.tmps.size then V j else vS os a V S k t := by
    intro k hk
    induction k with
    | zero => omega
    | succ k ih =>
      intro hkn
      show (if upd S j k = true ∧ (os[k]?).bind (·.dst) = some t ∧ t < a.tmps.size then V k else vS os a V (upd S j) k t) = if o.dst = some t ∧ t < a.tmps.size then V j else (if S k = true ∧ (os[k]?).bind (·.dst) = some t ∧ t < a.tmps.size then V k else vS os a V S k t)
      by_cases e : k = j
      · subst e
        rw [p1 k (Nat.le_refl _)]
        simp only [upd, if_true, true_and, ho, Option.bind_some, hS, Bool.false_eq_true, false_and, if_false]
      · rw [ih (by omega) (by omega)]
        simp only [upd, e, if_false]
        by_cases hc : S k = true ∧ (os[k]?).bind (·.dst) = some t ∧ t < a.tmps.size
        · rw [if_pos hc, if_pos hc, if_neg]
          rintro ⟨h3, _⟩
          exact h k (by omega) (by omega) hc.1 t h3 hc.2.1
        · rw [if_neg hc, if_neg hc]
  exact p2 n hj (Nat.le_refl _)

theorem yielded_rel {φ : Phi} {x y : Array Value} (hsz : x.size = y.size) (g : Nat) (h : ∀ t, (os[g]?).bind (·.dst) = some t → VR φ (x.getD t undef) (y.getD t undef)) : yielded os x g = yielded os y g := by
  unfold yielded
  cases hd : (os[g]?).bind (·.dst) with
  | none => rfl
  | some t =>
    simp only [Option.bind_some]
    have ht := h t hd
    rw [Array.getD_eq_getD_getElem?, Array.getD_eq_getD_getElem?] at ht
    by_cases hlt : t < x.size
    · have hlt' : t < y.size := hsz ▸ hlt
      rw [Array.getElem?_eq_getElem hlt, Array.getElem?_eq_getElem hlt'] at ht ⊢
      simp only [Option.getD_some] at ht
      generalize x[t] = u at ht ⊢
      generalize y[t] = v at ht ⊢
      cases ht <;> rfl
    · rw [Array.getElem?_eq_none (Nat.le_of_not_lt hlt), Array.getElem?_eq_none (hsz ▸ Nat.le_of_not_lt hlt)]

end main
end Go.D
