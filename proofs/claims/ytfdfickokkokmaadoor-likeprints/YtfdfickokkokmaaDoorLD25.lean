/- D: drawn regions in continuation style are the drawn regions. -/
import Derived.Test.YtfdfickokkokmaaDoorLD24
set_option linter.unusedSimpArgs false
set_option linter.unusedVariables false
namespace Go.D
open Go

section
variable {α : Type} {r : α} {P : Program} {m : Mem} {env : Env} {runf : CallF} {ρ : Operand → Value} {o : Oper} {q : Bool} {K : Value → Mem → Option α}

theorem meetsIn_iff {f : FP} {lo hi : Nat} : f.meetsIn lo hi = true ↔ ∃ b, f.has b = true ∧ lo ≤ b ∧ b < hi := by
  constructor
  · intro h
    cases f with
    | nil => cases h
    | one b => simp only [FP.meetsIn, Bool.and_eq_true, Nat.ble_eq, Nat.blt_eq] at h; exact ⟨b, by simp [FP.has], h⟩
    | two b c =>
      simp only [FP.meetsIn, Bool.or_eq_true, Bool.and_eq_true, Nat.ble_eq, Nat.blt_eq] at h
      rcases h with h | h
      · exact ⟨b, by simp [FP.has], h⟩
      · exact ⟨c, by simp [FP.has], h⟩
    | some l =>
      simp only [FP.meetsIn, List.any_eq_true, Bool.and_eq_true, Nat.ble_eq, Nat.blt_eq] at h
      obtain ⟨b, hb, h⟩ := h
      exact ⟨b, List.any_eq_true.2 ⟨b, hb, by simp⟩, h⟩
    | all => simp only [FP.meetsIn, Nat.blt_eq] at h; exact ⟨lo, rfl, Nat.le_refl _, h⟩
  · rintro ⟨b, hb, h1, h2⟩
    cases h : f.meetsIn lo hi with
    | true => rfl
    | false => exact (FP.meetsIn_has h hb h1 h2).elim

theorem meetsIn_self (f : FP) (n : Nat) : f.meetsIn n n = false := by
  rw [Bool.eq_false_iff]; intro h; obtain ⟨b, _, h1, h2⟩ := meetsIn_iff.1 h; omega

def FP.sub (f g : FP) : Prop := ∀ b, f.has b = true → g.has b = true

theorem FP.sub_refl (f : FP) : f.sub f := fun _ h => h
theorem FP.nil_sub (f : FP) : FP.sub .nil f := fun _ h => by cases h

theorem meets_sub {f g f' g' : FP} (h : f.sub f') (k : g.sub g') (hm : f'.meets g' = false) : f.meets g = false := by
  rw [Bool.eq_false_iff] at hm ⊢
  intro hx
  obtain ⟨b, h1, h2⟩ := FP.meets_iff.1 hx
  exact hm (FP.meets_iff.2 ⟨b, h b h1, k b h2⟩)

theorem meetsIn_sub {f f' : FP} {lo hi : Nat} (h : f.sub f') (hm : f'.meetsIn lo hi = false) : f.meetsIn lo hi = false := by
  rw [Bool.eq_false_iff] at hm ⊢
  intro hx
  obtain ⟨b, h1, h2⟩ := meetsIn_iff.1 hx
  exact hm (meetsIn_iff.2 ⟨b, h b h1, h2⟩)

structure Cov (r d : Rec) : Prop where
  rd : r.rd.sub d.rd
  wr : r.wr.sub d.wr
  lo : r.lo = d.lo
  hi : r.hi = d.hi

theorem Cov.clash {r d r' d' : Rec} (h : Cov r d) (h' : Cov r' d') (hc : d.clash d' = false) : r.clash r' = false := by
  unfold Rec.clash at hc ⊢
  simp only [Bool.or_eq_false_iff] at hc ⊢
  obtain ⟨⟨⟨⟨c1, c2⟩, c3⟩, c4⟩, c5⟩ := hc
  rw [h.lo, h.hi]
  exact ⟨⟨⟨⟨meets_sub h.wr h'.rd c1, meets_sub h.wr h'.wr c2⟩, meets_sub h'.wr h.rd c3⟩, meetsIn_sub h'.rd c4⟩, meetsIn_sub h'.wr c5⟩

def St (c : Cls) (q : Bool) (d : Rec) : Prop :=
  match c with
  | .A => d.rd = .nil ∧ d.wr = .nil ∧ d.lo = d.hi
  | .B => d.wr = .nil ∧ d.lo = d.hi
  | .C => d.rd = .nil ∧ d.wr = .nil
  | .F => q = true → d.wr = .nil ∧ d.lo = d.hi
  | .W => True

theorem clash_fine {c c' : Cls} {q q' : Bool} {d d' : Rec} (hf : fine c q c' q' = true) (h : St c q d) (h' : St c' q' d') : d.clash d' = false := by
  unfold Rec.clash
  have key : d.wr = .nil → d.lo = d.hi → d'.wr = .nil → (d.wr.meets d'.rd || d.wr.meets d'.wr || d'.wr.meets d.rd || d'.rd.meetsIn d.lo d.hi || d'.wr.meetsIn d.lo d.hi) = false := by
    intro h1 h2 h3
    rw [h1, h2, h3]; simp only [nil_meets, meetsIn_self]; simp
  have keyA : d'.rd = .nil → d'.wr = .nil → (d.wr.meets d'.rd || d.wr.meets d'.wr || d'.wr.meets d.rd || d'.rd.meetsIn d.lo d.hi || d'.wr.meetsIn d.lo d.hi) = false := by
    intro h1 h2
    rw [h1, h2]; simp only [nil_meets, meets_nil]; simp [FP.meetsIn]
  have keyB : d.rd = .nil → d.wr = .nil → d.lo = d.hi → (d.wr.meets d'.rd || d.wr.meets d'.wr || d'.wr.meets d.rd || d'.rd.meetsIn d.lo d.hi || d'.wr.meetsIn d.lo d.hi) = false := by
    intro h1 h2 h3
    rw [h1, h2, h3]; simp only [nil_meets, meets_nil, meetsIn_self]; rfl
  cases c <;> cases c' <;> simp only [fine, Bool.false_eq_true, Bool.and_eq_true] at hf <;> simp only [St] at h h'
  case A.A => exact keyA h'.1 h'.2.1
  case A.B => exact keyB h.1 h.2.1 h.2.2
  case A.C => exact keyA h'.1 h'.2
  case A.W => exact keyB h.1 h.2.1 h.2.2
  case A.F => exact keyB h.1 h.2.1 h.2.2
  case B.A => exact keyA h'.1 h'.2.1
  case B.B => exact key h.1 h.2 h'.1
  case B.C => exact keyA h'.1 h'.2
  case B.F => exact key h.1 h.2 (h' hf).1
  case C.A => exact keyA h'.1 h'.2.1
  case C.C => exact keyA h'.1 h'.2
  case W.A => exact keyA h'.1 h'.2.1
  case W.C => exact keyA h'.1 h'.2
  case F.A => exact keyA h'.1 h'.2.1
  case F.B => exact key (h hf).1 (h hf).2 h'.1
  case F.C => exact keyA h'.1 h'.2
  case F.F => exact key (h hf.1).1 (h hf.1).2 (h' hf.2).1

theorem clsA {v : Value} {n n' : Mem} (hc : clsOf P o.op = .A) (h : opV env runf P ρ o n = some (.val v, n')) : n' = n ∧ looks ρ o = .nil := by
  unfold opV at h
  unfold looks
  split at h <;> rename_i ho <;> simp only [ho, clsOf, reduceCtorEq] at hc
  · cases h; simp [ho]
  · cases h; simp [ho]
  · split at h <;> cases h <;> simp [ho]
  · obtain ⟨hh, rfl⟩ := val_inv h; simp [ho]
  · split at h <;> cases h; simp [ho]
  · obtain ⟨hh, rfl⟩ := val_inv h; simp [ho]
  · split at h
    · obtain ⟨hh, rfl⟩ := val_inv h; simp [ho]
    · cases h
  · rename_i s d x
    split at hc
    · rename_i k k' hs hd
      unfold vals convertV at h
      simp only [hs, hd] at h
      split at h
      · rename_i v' m1 hx
        simp only [Option.some.injEq, Prod.mk.injEq, R.val.injEq] at h
        obtain ⟨rfl, rfl⟩ := h
        split at hx <;> simp_all [blockOf]
      · cases h
    · rename_i hs hd
      unfold vals convertV at h
      simp only [hs, hd] at h
      split at h
      · rename_i v' m1 hx
        simp only [Option.some.injEq, Prod.mk.injEq, R.val.injEq] at h
        obtain ⟨rfl, rfl⟩ := h
        split at hx <;> simp_all
        rw [← hx.1]; rfl
      · cases h
    · cases hc
  · split at h
    · cases h
    · cases h; simp [ho]
    · cases h
  · cases h; simp [ho]
  · obtain ⟨hh, rfl⟩ := val_inv h; simp [ho]
  · obtain ⟨hh, rfl⟩ := val_inv h; simp [ho]
  · obtain ⟨hh, rfl⟩ := val_inv h; simp [ho]
  · obtain ⟨hh, rfl⟩ := val_inv h; simp [ho]
  · obtain ⟨hh, rfl⟩ := val_inv h; simp [ho]
  · split at h
    · obtain ⟨hh, rfl⟩ := val_inv h; simp [ho]
    · cases h
  · rename_i c
    split at hc
    · rename_i b hb
      simp only [hb] at h
      split at hc
      · simp only [ho, hb]
        cases hl : List.map ρ c.args.toList with
        | nil => simp [hl, builtinV, no] at h
        | cons x xs =>
          simp only [hl, builtinV] at h
          obtain ⟨hh, rfl⟩ := val_inv h
          exact ⟨rfl, trivial⟩
      · simp only [ho, hb]
        cases hl : List.map ρ c.args.toList with
        | nil => simp [hl, builtinV, no] at h
        | cons x xs =>
          simp only [hl, builtinV] at h
          obtain ⟨hh, rfl⟩ := val_inv h
          exact ⟨rfl, trivial⟩
      · simp only [ho, hb]
        cases hl : List.map ρ c.args.toList with
        | nil => simp [hl, builtinV, no] at h
        | cons x xs =>
          cases xs with
          | cons y ys => simp [hl, builtinV, no] at h
          | nil =>
            simp only [hl, builtinV] at h
            obtain ⟨hh, rfl⟩ := val_inv h
            exact ⟨rfl, trivial⟩
      · split at hc
        · rename_i t ht
          have hx : ∃ x, c.args.toList = [x] := by
            cases hl : c.args.toList with
            | nil => simp [hl, builtinV, no] at h
            | cons x xs => cases xs with
              | nil => exact ⟨x, rfl⟩
              | cons y ys => simp [hl, builtinV, no] at h
          obtain ⟨x, hx⟩ := hx
          simp only [hx, List.map_cons, List.map_nil, builtinV, ht] at h
          obtain ⟨hh, rfl⟩ := val_inv h
          refine ⟨rfl, ?_⟩
          simp only [ho, hb, hx]
          split at hc
          · rename_i hu; unfold lenOfV at hh; simp only [hu] at hh; split at hh <;> simp_all
          · rename_i hu; unfold lenOfV at hh; simp only [hu] at hh; split at hh <;> simp_all
          · cases hc
        · cases hc
      · cases hc
    · cases hc

theorem clsB {v : Value} {n n' : Mem} (hc : clsOf P o.op = .B) (h : opV env runf P ρ o n = some (.val v, n')) : n' = n ∧ writes ρ o = .nil := by
  unfold opV at h
  unfold writes
  split at h <;> rename_i ho <;> simp only [ho, clsOf, reduceCtorEq] at hc
  · obtain ⟨hh, rfl⟩ := val_inv h; simp [ho]
  · split at hc <;> cases hc
  · split at hc
    · split at hc <;> (try cases hc)
      split at hc <;> (try cases hc)
      split at hc <;> cases hc
    · cases hc

theorem clsC (hc : clsOf P o.op = .C) : looks ρ o = .nil ∧ writes ρ o = .nil := by
  unfold looks writes
  cases ho : o.op <;> simp only [ho, clsOf, reduceCtorEq] at hc
  all_goals first
    | exact ⟨rfl, rfl⟩
    | (split at hc <;> cases hc)
    | (split at hc
       · split at hc <;> (try cases hc)
         split at hc <;> (try cases hc)
         split at hc <;> cases hc
       · cases hc)

theorem clsF : isF (clsOf P o.op) = isCode o := by
  unfold isCode
  cases ho : o.op <;> simp only [clsOf] <;> (try rfl)
  · split <;> rfl
  · rename_i c
    cases hc : c.callee with
    | builtin b =>
      simp only
      cases b <;> simp only <;> (try rfl)
      split <;> (try rfl)
      split <;> rfl
    | _ => rfl

theorem opD_plain {K : Value → Mem → FP → Option α} (hc : isCode o = false) (h : opD env runf P q ρ o m K = some r) : ∃ v m', opV env runf P ρ o m = some (.val v, m') ∧ K v m' (wOf P ρ o) = some r := by
  unfold opD at h
  split at h
  · rename_i c ho
    unfold isCode at hc
    rw [ho] at hc
    simp only at hc
    split at h
    · rename_i f hf; rw [hf] at hc; cases hc
    · rename_i b hb
      obtain ⟨v, m', hv, hk⟩ := builtinC_some h
      exact ⟨v, m', by simp only [opV, ho, hb]; exact hv, hk⟩
    · cases h
  · obtain ⟨d, m', hv, hk⟩ := opC_sound h
    cases d with
    | val v => exact ⟨v, m', hv, hk⟩
    | pan v => cases hk

theorem relow_self {n : Mem} : n.mark.relow n = n := rfl

theorem opD_code {K : Value → Mem → FP → Option α} (hc : isCode o = true) (h : opD env runf P q ρ o m K = some r) :
    ∃ v m1, opV env runf P ρ o m.mark = some (.val v, m1) ∧ K v (m1.relow m) (wrOf m.next m1.low) = some r ∧ (q = true → m1 = m.mark) := by
  unfold opD at h
  unfold isCode at hc
  split at h
  · rename_i c ho
    rw [ho] at hc
    simp only at hc
    split at h
    · rename_i f hf
      have hv : opV env runf P ρ o m.mark = callV env runf m.mark (ρ f) (c.args.toList.map ρ) := by simp only [opV, ho, hf]
      rw [hv]
      unfold callQ at h
      split at h
      · rename_i g first captured hfv
        rw [hfv]
        simp only [callV]
        cases hi : env.idf g with
        | true =>
          rw [hi] at h
          simp only [cond_true] at h ⊢
          unfold oneC at h
          split at h
          · rename_i x hx
            simp only [hx]
            exact ⟨x, m.mark, rfl, h, fun _ => rfl⟩
          · cases h
        | false =>
        rw [hi] at h
        simp only [cond_false] at h ⊢
        split at h
        · rename_i v he
          simp only [he]
          split at h
          · rename_i hp
            simp only [hp, if_true]
            exact ⟨v, m.mark, rfl, h, fun _ => rfl⟩
          · cases h
        · rename_i he
          simp only [he]
          cases q with
          | true =>
            simp only [cond_true] at h
            unfold quiet at h
            split at h
            · rename_i v m1 hr
              split at h
              · rename_i hm
                simp only [hr]
                exact ⟨v, m1, rfl, by rw [hm]; exact h, fun _ => hm⟩
              · cases h
            · cases h
          | false =>
            simp only [cond_false] at h
            unfold endD at h
            split at h
            · rename_i v m1 hr
              simp only [hr]
              exact ⟨v, m1, rfl, h, fun h => by cases h⟩
            · cases h
      · cases h
    · rename_i b hb; rw [hb] at hc; cases hc
    · cases h
  · rename_i hx
    split at hc
    · rename_i c ho; exact absurd ho (hx c)
    · cases hc

theorem relow_ap (e : Eff) {n : Mem} (hw : ∀ b, e.wr b → b < n.next) : (e.ap n.mark).relow n = e.ap n := by
  have hb : ∀ b, b < n.next → Nat.blt b n.next = true := fun b h => by rw [Nat.blt_eq]; exact h
  cases e with
  | id => rfl
  | push x => rfl
  | put b x => simp only [Eff.ap, Mem.mark, Mem.relow, Mem.put, List.filter_cons, hb b (hw b rfl), if_true, List.filter_nil]; rfl
  | grow b x => simp only [Eff.ap, Mem.mark, Mem.relow, Mem.put, Mem.push, List.filter_cons, hb b (hw b rfl), if_true, List.filter_nil]; rfl

theorem low_ap (e : Eff) {n : Mem} {b : Nat} (h : b ∈ (e.ap n.mark).low) : e.wr b := by
  cases e with
  | id => cases h
  | push x => cases h
  | put c x => exact List.mem_singleton.1 h
  | grow c x => exact List.mem_singleton.1 h

/-- One operation of a drawn region. -/
theorem opD_step {K : Value → Mem → FP → Option α} (h : opD env runf P q ρ o m K = some r) :
    ∃ v m1 w, opV env runf P ρ o m.mark = some (.val v, m1) ∧ K v (m1.relow m) w = some r ∧
      Cov ⟨looks ρ o, wrOf m.next m1.low, m.next, m1.next⟩ (recOf P ρ o w m (m1.relow m)) ∧ St (clsOf P o.op) q (recOf P ρ o w m (m1.relow m)) := by
  cases hc : isCode o with
  | true =>
    obtain ⟨v, m1, hv, hk, hq⟩ := opD_code hc h
    have e1 := code_all (ρ := ρ) hc
    have hcl : clsOf P o.op = .F := by
      have := clsF (P := P) (o := o)
      rw [hc] at this
      cases hx : clsOf P o.op <;> rw [hx] at this <;> cases this
    refine ⟨v, m1, _, hv, hk, ?_, ?_⟩
    · rw [e1]
      unfold recOf
      rw [hcl]
      exact ⟨FP.sub_refl _, FP.sub_refl _, rfl, rfl⟩
    · unfold recOf
      rw [hcl]
      simp only [St]
      intro hq'
      have := hq hq'
      subst this
      exact ⟨rfl, rfl⟩
  | false =>
    obtain ⟨v, m', hv, hk⟩ := opD_plain hc h
    obtain ⟨e, he, hwr, hn⟩ := opV_eff hc hv
    have hlt : ∀ b, e.wr b → b < m.next := by
      intro b hb
      rcases Nat.lt_or_ge b m.next with h1 | h1
      · exact h1
      · exact absurd (Mem.get_ge (hwr b hb).1 h1) (hwr b hb).2.1
    have h1 := hn m.mark rfl rfl (fun _ _ => rfl) (fun _ _ => rfl)
    have h2 := relow_ap e hlt
    have hsub : (wrOf m.next (e.ap m.mark).low).sub (writes ρ o) := fun b hb => (hwr b (low_ap e (wrOf_has.1 hb).1)).2.2
    refine ⟨v, e.ap m.mark, wOf P ρ o, h1, by rw [h2, ← he]; exact hk, ?_, ?_⟩
    · cases hcl : clsOf P o.op with
      | A =>
        obtain ⟨ha, hb⟩ := clsA hcl h1
        unfold recOf
        rw [hcl, ha, hb]
        exact ⟨FP.sub_refl _, FP.sub_refl _, rfl, rfl⟩
      | F =>
        have := clsF (P := P) (o := o)
        rw [hc, hcl] at this; cases this
      | B =>
        obtain ⟨ha, hb⟩ := clsB hcl h1
        unfold recOf wOf
        rw [hcl, ha]
        exact ⟨FP.sub_refl _, FP.sub_refl _, rfl, rfl⟩
      | C =>
        obtain ⟨ha, hb⟩ := clsC (ρ := ρ) hcl
        rw [hb] at hsub
        unfold recOf wOf
        rw [hcl, ha]
        exact ⟨FP.sub_refl _, hsub, rfl, rfl⟩
      | W =>
        unfold recOf wOf
        rw [hcl]
        exact ⟨FP.sub_refl _, hsub, rfl, rfl⟩
    · cases hcl : clsOf P o.op with
      | A => unfold recOf; rw [hcl]; exact ⟨rfl, rfl, rfl⟩
      | B =>
        obtain ⟨ha, hb⟩ := clsB hcl h1
        unfold recOf wOf; rw [hcl, ha]
        exact ⟨rfl, rfl⟩
      | C => unfold recOf wOf; rw [hcl]; exact ⟨rfl, rfl⟩
      | W => trivial
      | F =>
        have := clsF (P := P) (o := o)
        rw [hc, hcl] at this; cases this
end

end Go.D
