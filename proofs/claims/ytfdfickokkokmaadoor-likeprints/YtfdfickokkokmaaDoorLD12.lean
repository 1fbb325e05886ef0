/- D: what an operation looks at, and what it leaves. -/
import Derived.Test.YtfdfickokkokmaaDoorLD11
set_option linter.unusedSimpArgs false
set_option linter.unusedVariables false
namespace Go.D
open Go

theorem FP.has_list (f : FP) (c : Nat) : f.has c = true ↔ match f.list with | none => True | Option.some l => c ∈ l := by
  cases f with
  | nil => simp [FP.has, FP.list]
  | one b => simp only [FP.has, FP.list, beq_iff_eq, List.mem_singleton]; exact eq_comm
  | two b d => simp only [FP.has, FP.list, Bool.or_eq_true, beq_iff_eq, List.mem_cons, List.not_mem_nil, or_false]; rw [eq_comm (a := b), eq_comm (a := d)]
  | some l => simp only [FP.has, FP.list, List.any_eq_true, beq_iff_eq]; exact ⟨fun ⟨b, h, e⟩ => e ▸ h, fun h => ⟨c, h, rfl⟩⟩
  | all => simp [FP.has, FP.list]

theorem FP.meets_iff {f g : FP} : f.meets g = true ↔ ∃ c, f.has c = true ∧ g.has c = true := by
  simp only [FP.has_list]
  unfold FP.meets
  generalize f.list = x
  generalize g.list = y
  cases x <;> cases y <;> simp only [true_and, and_true]
  · exact ⟨fun _ => ⟨0, trivial⟩, fun _ => trivial⟩
  · rename_i l
    cases l with
    | nil => simp
    | cons a t => simp
  · rename_i l
    cases l with
    | nil => simp
    | cons a t => simp
  · simp only [List.any_eq_true, beq_iff_eq]
    exact ⟨fun ⟨b, h1, c, h2, h3⟩ => ⟨b, h1, h3 ▸ h2⟩, fun ⟨c, h1, h2⟩ => ⟨c, h1, c, h2, rfl⟩⟩

theorem FP.meets_has {f g : FP} (h : f.meets g = false) {c : Nat} (hf : f.has c = true) (hg : g.has c = true) : False := by
  rw [FP.meets_iff.2 ⟨c, hf, hg⟩] at h; cases h

theorem nil_meets (f : FP) : FP.meets .nil f = false := by
  rw [Bool.eq_false_iff]; intro h; obtain ⟨c, h1, _⟩ := FP.meets_iff.1 h; cases h1
theorem meets_nil (f : FP) : f.meets .nil = false := by
  rw [Bool.eq_false_iff]; intro h; obtain ⟨c, _, h1⟩ := FP.meets_iff.1 h; cases h1

theorem wrOf_has {n : Nat} {l : List Nat} {b : Nat} : (wrOf n l).has b = true ↔ b ∈ l ∧ b < n := by
  unfold wrOf
  have hm : b ∈ l.filter (fun b => Nat.blt b n) ↔ b ∈ l ∧ b < n := by rw [List.mem_filter, Nat.blt_eq]
  rw [← hm]
  split
  · rename_i h; rw [h]; simp [FP.has]
  · rename_i c r h
    rw [h]
    simp only [FP.has, List.any_eq_true, beq_iff_eq]
    exact ⟨fun ⟨x, hx, e⟩ => e ▸ hx, fun hb => ⟨b, hb, rfl⟩⟩

theorem ble_t {a b : Nat} (h : a ≤ b) : Nat.ble a b = true := by rw [Nat.ble_eq]; exact h
theorem blt_t {a b : Nat} (h : a < b) : Nat.blt a b = true := by rw [Nat.blt_eq]; exact h

theorem FP.meetsIn_has {f : FP} {lo hi : Nat} (h : f.meetsIn lo hi = false) {c : Nat} (hf : f.has c = true) (h1 : lo ≤ c) (h2 : c < hi) : False := by
  have e1 := ble_t h1
  have e2 := blt_t h2
  have e3 := blt_t (Nat.lt_of_le_of_lt h1 h2)
  cases f
  · cases hf
  · simp only [FP.has, beq_iff_eq] at hf
    subst hf
    simp only [FP.meetsIn, e1, e2, Bool.and_self] at h
    cases h
  · simp only [FP.has, Bool.or_eq_true, beq_iff_eq] at hf
    rcases hf with rfl | rfl <;> simp only [FP.meetsIn, e1, e2, Bool.and_self, Bool.true_or, Bool.or_true] at h <;> cases h
  · simp only [FP.has, List.any_eq_true, beq_iff_eq] at hf
    obtain ⟨b, hb, rfl⟩ := hf
    simp only [FP.meetsIn] at h
    rw [List.any_eq_true.2 ⟨b, hb, by rw [e1, e2]; rfl⟩] at h
    cases h
  · simp only [FP.meetsIn, e3] at h
    cases h

/-- What an operation does to memory. -/
inductive Eff where
  | id
  | push (x : Blk)
  | put (b : Nat) (x : Option Blk)
  | grow (b : Nat) (x : Blk)

def Eff.ap : Eff → Mem → Mem
  | .id, m => m
  | .push x, m => m.push x
  | .put b x, m => m.put b x
  | .grow b x, m => (m.put b none).push x

def Eff.wr : Eff → Nat → Prop
  | .id, _ | .push _, _ => False
  | .put b _, c | .grow b _, c => c = b

theorem add_block (a : Addr) (n : Nat) : (a.add n).block = a.block := by unfold Addr.add; split <;> rfl

section
variable {m n : Mem}

theorem loadN_congr {a : Addr} {k : Nat} (h : n.get a.block = m.get a.block) : loadN n a k = loadN m a k := by
  unfold loadN; rw [h]

theorem blockOf_ptr (a : Addr) : (blockOf (.pointer (some a))).has a.block = true := by simp [blockOf, FP.has]
theorem blockOf_sl (a : Addr) (k c : Nat) : (blockOf (.slice (some a) k c)).has a.block = true := by simp [blockOf, FP.has]

theorem bytesString_eff {P : Program} {t : TypeId} {p k v : Value} {m' : Mem} (h : bytesString P m t p k = some (v, m')) :
    ∃ e : Eff, m' = e.ap m ∧ (∀ b, e.wr b → m.base ≤ b ∧ m.get b ≠ none ∧ (blockOf p).has b = true) ∧ ∀ n : Mem, n.base = m.base → (∀ b, (blockOf p).has b = true → n.get b = m.get b) → bytesString P n t p k = some (v, e.ap n) := by
  unfold bytesString at h
  split at h
  · rename_i e q i hu
    split at h
    · rename_i hi
      cases h
      exact ⟨.id, rfl, fun _ h => h.elim, fun n _ _ => by simp only [bytesString, hu, hi, if_true]; rfl⟩
    · rename_i hi
      split at h
      · cases h
      · rename_i a
        split at h
        · rename_i c e' g hsp hget
          split at h
          · rename_i hc
            split at h
            · rename_i bs hbs
              simp only [Option.some.injEq, Prod.mk.injEq] at h
              obtain ⟨rfl, rfl⟩ := h
              refine ⟨.put a.block none, rfl, ?_, fun n hnb hg => ?_⟩
              · rintro b rfl; exact ⟨hc.2.2.1, by rw [hget]; simp, blockOf_ptr a⟩
              · simp only [bytesString, hu, hi, if_false, hsp, hg _ (blockOf_ptr a), hget, hnb, hbs]
                rw [if_pos hc]; rfl
            · cases h
          · cases h
        · cases h
  · cases h

theorem loadVar_congr {P : Program} {t : TypeId} {v : Value} (h : ∀ b, (blockOf v).has b = true → n.get b = m.get b) : loadVar P n t v = loadVar P m t v := by
  unfold loadVar
  cases v <;> try rfl
  rename_i a
  cases a with
  | none => rfl
  | some a => simp only [loadN_congr (h _ (blockOf_ptr a))]

theorem srcCells_congr {s k : Nat} {x : Value} (h : ∀ b, (blockOf x).has b = true → n.get b = m.get b) : srcCells n s k x = srcCells m s k x := by
  unfold srcCells
  cases x <;> try rfl
  rename_i a l c
  cases a with
  | none => rfl
  | some a => simp only [loadN_congr (h _ (blockOf_sl a l c))]

theorem storeN_eff {a : Addr} {vs : List Value} {m' : Mem} (h : storeN m a vs = some m') :
    ∃ e : Eff, m' = e.ap m ∧ (∀ b, e.wr b → m.base ≤ b ∧ m.get b ≠ none ∧ b = a.block) ∧ ∀ n : Mem, n.base = m.base → n.next = m.next → (∀ b, e.wr b → n.get b = m.get b) → storeN n a vs = some (e.ap n) := by
  cases vs with
  | nil =>
    simp only [storeN, Option.some.injEq] at h
    exact ⟨.id, h.symm, fun _ h => h.elim, fun n _ _ _ => rfl⟩
  | cons v rest =>
    simp only [storeN] at h
    split at h
    · cases h
    · rename_i hsp
      split at h
      · cases h
      · rename_i hb
        split at h
        · rename_i c e g hc
          split at h
          · rename_i hcond
            simp only [Option.some.injEq] at h
            refine ⟨.put a.block (some (.cells (splice c a.off (v :: rest)) e g)), h.symm, ?_, ?_⟩
            · rintro b rfl
              exact ⟨by omega, by rw [hc]; simp, rfl⟩
            · intro n hnb hnn hg
              have := hg a.block rfl
              simp only [storeN, hsp, hnb, hb, if_false, this, hc, hcond, if_true]
              rfl
          · cases h
        · cases h

theorem storeVar_eff {P : Program} {t : TypeId} {v x : Value} {m' : Mem} (h : storeVar P m t v x = some m') :
    ∃ e : Eff, m' = e.ap m ∧ (∀ b, e.wr b → m.base ≤ b ∧ m.get b ≠ none ∧ (blockOf v).has b = true) ∧ ∀ n : Mem, n.base = m.base → n.next = m.next → (∀ b, e.wr b → n.get b = m.get b) → storeVar P n t v x = some (e.ap n) := by
  unfold storeVar at h
  split at h
  · rename_i a
    split at h
    · cases h
    · rename_i i hi
      split at h
      · rename_i hs
        obtain ⟨e, h1, h2, h3⟩ := storeN_eff h
        refine ⟨e, h1, fun b hb => ?_, fun n hn hnn hg => ?_⟩
        · obtain ⟨x1, x2, rfl⟩ := h2 b hb
          exact ⟨x1, x2, blockOf_ptr a⟩
        · simp only [storeVar, hi, hs, if_true, h3 n hn hnn hg]
      · cases h
  · cases h

theorem join_has_l {f g : FP} {b : Nat} (h : f.has b = true) : (f.join g).has b = true := by
  cases f <;> cases g <;> simp_all [FP.join, FP.has]
theorem join_has_r {f g : FP} {b : Nat} (h : g.has b = true) : (f.join g).has b = true := by
  cases f <;> cases g <;> simp_all [FP.join, FP.has]

theorem appendCore_eff {elem : TypeId} {es : Nat} {base : Option Addr} {sl sc k : Nat} {newl : List Value} {v : Value} {m' : Mem} (h : appendCore m elem es base sl sc k newl = some (v, m')) :
    ∃ e : Eff, m' = e.ap m ∧ (∀ b, e.wr b → m.base ≤ b ∧ m.get b ≠ none ∧ (blockOf (.slice base sl sc)).has b = true) ∧
      ∀ n : Mem, n.base = m.base → n.next = m.next → (∀ b, (blockOf (.slice base sl sc)).has b = true → n.get b = m.get b) → appendCore n elem es base sl sc k newl = some (v, e.ap n) := by
  unfold appendCore at h
  unfold appendCore
  split at h
  · rename_i hlc
    simp only [hlc, if_true]
    cases base with
    | none => cases h
    | some a =>
      simp only at h
      split at h
      · rename_i c e hsp hget
        split at h
        · rename_i hc2
          simp only [Option.some.injEq, Prod.mk.injEq] at h
          obtain ⟨rfl, rfl⟩ := h
          refine ⟨.grow a.block (.cells (c ++ newl) elem true), rfl, ?_, ?_⟩
          · rintro b rfl
            exact ⟨hc2.2.1, by rw [hget]; simp, blockOf_sl a sl sc⟩
          · intro n hnb hnn hs
            simp only [hsp, hs _ (blockOf_sl a sl sc), hget, hnb, hnn]
            rw [if_pos hc2]
            rfl
        · cases h
      · cases h
  · rename_i hlc
    simp only [hlc, if_false, Bool.false_eq_true]
    split at h
    · rename_i hle
      simp only [hle, if_true]
      cases base with
      | none =>
        simp only at h
        split at h
        · rename_i hk
          simp only [Option.some.injEq, Prod.mk.injEq] at h
          obtain ⟨rfl, rfl⟩ := h
          exact ⟨.id, rfl, fun _ h => h.elim, fun n hnb hnn hs => by simp only [hk, if_true]; rfl⟩
        · cases h
      | some a =>
        simp only at h
        split at h
        · rename_i m2 hst
          simp only [Option.some.injEq, Prod.mk.injEq] at h
          obtain ⟨rfl, rfl⟩ := h
          obtain ⟨e, h1, h2, h3⟩ := storeN_eff hst
          refine ⟨e, h1, fun b hb => ?_, fun n hnb hnn hs => ?_⟩
          · obtain ⟨x1, x2, rfl⟩ := h2 b hb
            rw [add_block] at *
            exact ⟨x1, x2, blockOf_sl a sl sc⟩
          · have := h3 n hnb hnn (fun b hb => by
              obtain ⟨_, _, rfl⟩ := h2 b hb
              rw [add_block]
              exact hs _ (blockOf_sl a sl sc))
            simp only [this]
        · cases h
    · rename_i hgt
      simp only [hgt, if_false]
      cases base with
      | none =>
        simp only at h
        split at h
        · cases h
        · rename_i oldc hold
          simp only [newLoose, Option.some.injEq, Prod.mk.injEq] at h
          obtain ⟨rfl, rfl⟩ := h
          refine ⟨.push (.cells (oldc ++ newl) elem true), rfl, fun _ h => h.elim, fun n hnb hnn hs => ?_⟩
          simp only [hold, newLoose, hnn]
          rfl
      | some a =>
        simp only at h
        split at h
        · cases h
        · rename_i oldc hold
          simp only [newLoose, Option.some.injEq, Prod.mk.injEq] at h
          obtain ⟨rfl, rfl⟩ := h
          refine ⟨.push (.cells (oldc ++ newl) elem true), rfl, fun _ h => h.elim, fun n hnb hnn hs => ?_⟩
          simp only [loadN_congr (hs _ (blockOf_sl a sl sc)), hold, newLoose, hnn]
          rfl

theorem append_eff {P : Program} {st xt : TypeId} {s x v : Value} {m' : Mem} (h : append P m st xt s x = some (v, m')) :
    ∃ e : Eff, m' = e.ap m ∧ (∀ b, e.wr b → m.base ≤ b ∧ m.get b ≠ none ∧ (blockOf s).has b = true) ∧
      ∀ n : Mem, n.base = m.base → n.next = m.next → (∀ b, (blockOf s).has b = true → n.get b = m.get b) → (∀ b, (blockOf x).has b = true → n.get b = m.get b) → append P n st xt s x = some (v, e.ap n) := by
  unfold append at h
  split at h
  · rename_i elem xd hu hxd
    split at h
    · cases h
    · rename_i hni
      split at h
      · rename_i i z base sl sc k hi hz hlen
        split at h
        · rename_i hcond
          split at h
          · cases h
          · rename_i newl hnew
            split at h
            · cases h
            · rename_i hnl
              obtain ⟨e, h1, h2, h3⟩ := appendCore_eff h
              refine ⟨e, h1, h2, fun n hnb hnn hs hx => ?_⟩
              unfold append
              simp only [hu, hxd, hi, hz, hlen, hcond, and_self, if_true, srcCells_congr hx, hnew, hnl, if_false, h3 n hnb hnn hs]
        · cases h
      · cases h
  · cases h

theorem copyV_eff {P : Program} {dt : TypeId} {d x v : Value} {m' : Mem} (h : copyV P m dt d x = some (v, m')) :
    ∃ e : Eff, m' = e.ap m ∧ (∀ b, e.wr b → m.base ≤ b ∧ m.get b ≠ none ∧ (blockOf d).has b = true) ∧
      ∀ n : Mem, n.base = m.base → n.next = m.next → (∀ b, (blockOf x).has b = true → n.get b = m.get b) → (∀ b, e.wr b → n.get b = m.get b) → copyV P n dt d x = some (v, e.ap n) := by
  unfold copyV at h
  split at h
  · rename_i elem hu
    split at h
    · rename_i s base dl dc xl hs hlen
      simp only at h
      split at h
      · cases h
      · rename_i cs hcs
        cases base with
        | none =>
          simp only [Option.some.injEq, Prod.mk.injEq] at h
          obtain ⟨rfl, rfl⟩ := h
          refine ⟨.id, rfl, fun _ h => h.elim, fun n hnb hnn hx _ => ?_⟩
          simp only [copyV, hu, hs, hlen, srcCells_congr hx, hcs]
          rfl
        | some a =>
          simp only at h
          split at h
          · rename_i m2 hst
            simp only [Option.some.injEq, Prod.mk.injEq] at h
            obtain ⟨rfl, rfl⟩ := h
            obtain ⟨e, h1, h2, h3⟩ := storeN_eff hst
            refine ⟨e, h1, fun b hb => ?_, fun n hnb hnn hx hw => ?_⟩
            · obtain ⟨x1, x2, rfl⟩ := h2 b hb
              exact ⟨x1, x2, blockOf_sl a dl dc⟩
            · simp only [copyV, hu, hs, hlen, srcCells_congr hx, hcs, h3 n hnb hnn hw]
          · cases h
    · cases h
  · cases h

theorem clearV_eff {P : Program} {t : TypeId} {x : Value} {m' : Mem} (h : clearV P m t x = some m') :
    ∃ e : Eff, m' = e.ap m ∧ (∀ b, e.wr b → m.base ≤ b ∧ m.get b ≠ none ∧ (blockOf x).has b = true) ∧
      ∀ n : Mem, n.base = m.base → n.next = m.next → (∀ b, e.wr b → n.get b = m.get b) → clearV P n t x = some (e.ap n) := by
  unfold clearV at h
  split at h
  · rename_i e k c hu
    cases h
    exact ⟨.id, rfl, fun _ h => h.elim, fun n _ _ _ => by simp only [clearV, hu]; rfl⟩
  · rename_i e a k c hu
    split at h
    · rename_i z hz
      split at h
      · rename_i h0
        cases h
        exact ⟨.id, rfl, fun _ h => h.elim, fun n _ _ _ => by simp only [clearV, hu, hz, h0, if_true]; rfl⟩
      · rename_i h0
        obtain ⟨e, h1, h2, h3⟩ := storeN_eff h
        refine ⟨e, h1, fun b hb => ?_, fun n hnb hnn hw => ?_⟩
        · obtain ⟨x1, x2, rfl⟩ := h2 b hb
          exact ⟨x1, x2, blockOf_sl a k c⟩
        · simp only [clearV, hu, hz, h0, if_false, h3 n hnb hnn hw]
    · cases h
  · cases h

end
end Go.D
