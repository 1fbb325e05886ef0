/- D: loads, stores, new blocks. -/
import Derived.Test.YtfdfickokkokmaaDoorLD2
import Derived.Laws.Sem
import Derived.Laws.Cells
import Derived.Laws.Rows
import Derived.Laws.World
set_option linter.unusedSimpArgs false
set_option linter.unusedVariables false
namespace Go.D
open Go

def Phi.put (φ : Phi) (b : Nat) (L : Loc) : Phi := fun c => if c = b then some L else φ c

theorem Phi.put_same (φ : Phi) (b : Nat) (L : Loc) : φ.put b L b = some L := by simp [Phi.put]
theorem Phi.put_ne (φ : Phi) {b c : Nat} (L : Loc) (h : c ≠ b) : φ.put b L c = φ c := by simp [Phi.put, h]
theorem Phi.le_put {φ : Phi} {b : Nat} (L : Loc) (h : φ b = none) : φ.le (φ.put b L) := fun c M hc => by
  by_cases e : c = b
  · subst e; rw [h] at hc; cases hc
  · rw [Phi.put_ne _ _ e]; exact hc

section mem
variable {m : Mem}

theorem Mem.get_push (hok : m.next = m.base + m.new.length) (x : Blk) (b : Nat) : (m.push x).get b = if b = m.next then some x else m.get b := by
  unfold Mem.get Mem.push
  simp only
  by_cases h1 : b < m.base
  · have : b ≠ m.next := by omega
    simp [h1, this]
  · by_cases h2 : b = m.next
    · subst h2; simp [h1]
    · by_cases h3 : b < m.next
      · have e : m.next - b = (m.next - 1 - b) + 1 := by omega
        have h4 : b < m.next + 1 := by omega
        simp [h1, h2, h3, h4, e]
      · have h4 : ¬ b < m.next + 1 := by omega
        simp [h1, h2, h3, h4]

theorem Mem.ok_push (hok : m.next = m.base + m.new.length) (x : Blk) : (m.push x).next = (m.push x).base + (m.push x).new.length := by
  simp [Mem.push]; omega

theorem Mem.get_put (hok : m.next = m.base + m.new.length) {c : Nat} (hc : m.base ≤ c) (hc' : c < m.next) (x : Option Blk) (b : Nat) :
    (m.put c x).get b = if b = c then x else m.get b := by
  unfold Mem.get Mem.put
  simp only
  by_cases h1 : b < m.base
  · have : b ≠ c := by omega
    simp [h1, this]
  · by_cases h3 : b < m.next
    · simp only [h1, h3, if_false, if_true, List.getD_eq_getElem?_getD, List.getElem?_set]
      by_cases h2 : b = c
      · subst h2
        have : m.next - 1 - b < m.new.length := by omega
        simp [this]
      · have : m.next - 1 - c ≠ m.next - 1 - b := by omega
        simp [this, h2]
    · have : b ≠ c := by omega
      simp [h1, h3, this]

theorem Mem.ok_put (hok : m.next = m.base + m.new.length) (c : Nat) (x : Option Blk) : (m.put c x).next = (m.put c x).base + (m.put c x).new.length := by
  simp [Mem.put]; exact hok

theorem Mem.get_ge {b : Nat} (hb : m.base ≤ b) (h : m.next ≤ b) : m.get b = none := by
  unfold Mem.get
  simp only [show ¬ b < m.base by omega, show ¬ b < m.next by omega, if_false]
end mem

/-- w' is w but for the object k. -/
structure Upd (w : World) (k : Nat) (o : Obj) (w' : World) : Prop where
  here : w'.heap[k]? = some o
  other : ∀ j, j ≠ k → w'.heap[j]? = w.heap[j]?
  size : w'.heap.size = w.heap.size
  os : w'.os = w.os
  tape : w'.tape = w.tape
  output : w'.output = w.output

theorem Upd.refl {w : World} {k : Nat} {o : Obj} (h : w.heap[k]? = some o) : Upd w k o w := ⟨h, fun _ _ => rfl, rfl, rfl, rfl, rfl⟩

theorem Upd.trans {w w1 w2 : World} {k : Nat} {o o' : Obj} (h : Upd w k o w1) (h' : Upd w1 k o' w2) : Upd w k o' w2 :=
  ⟨h'.here, fun j hj => (h'.other j hj).trans (h.other j hj), h'.size.trans h.size, h'.os.trans h.os, h'.tape.trans h.tape, h'.output.trans h.output⟩

section sims
variable {P : Program} {φ : Phi} {m : Mem} {w : World}

theorem WR.lt (hw : WR P φ m w) {b : Nat} {L : Loc} (h : φ b = some L) : b < m.next := by
  rcases Nat.lt_or_ge b m.next with h1 | h1
  · exact h1
  · rw [hw.fresh b h1] at h; cases h

theorem WR.le (hw : WR P φ m w) : m.base ≤ m.next := by rw [hw.ok]; omega

/-- Only the count of draws has moved. -/
theorem sim_same (hw : WR P φ m w) {w' : World} (hh : w'.heap = w.heap) (ho : w'.os = w.os) (ht : w'.tape = w.tape) (hu : w'.output = w.output) : Sim P φ m w φ m w' where
  ext := Phi.le_refl φ
  wr := ⟨hw.ok, fun b x L hx hL => hh ▸ hw.live b x L hx hL, fun b L hL => hh ▸ hw.rng b L hL, hw.inj, hw.fresh, hw.old, hw.own, hw.mapd⟩
  frame := fun k _ _ => by rw [hh]
  size := by rw [hh]; exact Nat.le_refl _
  os := ho
  tape := ht
  output := hu
  base := rfl
  oldm := rfl
  next := Nat.le_refl _
  dead := fun _ _ h => h
  new := fun b L h1 h2 => by rw [h1] at h2; cases h2
  low := fun _ h => h
  kept := fun _ _ _ => rfl
  same := fun _ _ _ _ _ => by rw [hh]
  dom := fun b L h1 h2 => by rw [h1] at h2; cases h2

/-- A new block. -/
theorem sim_push (hw : WR P φ m w) (x : Blk) (L : Loc) (o : Obj) {w' : World} (hL : L.blk = w.heap.size) (hh : w'.heap = w.heap.push o) (ho : w'.os = w.os) (ht : w'.tape = w.tape) (hu : w'.output = w.output)
    (hbr : BR P (φ.put m.next L) True x L (some o)) : Sim P φ m w (φ.put m.next L) (m.push x) w' := by
  have hnone : φ m.next = none := hw.fresh _ (Nat.le_refl _)
  have hle := Phi.le_put L hnone
  have hold : ∀ k, k < w.heap.size → w'.heap[k]? = w.heap[k]? := fun k hk => by rw [hh, Array.getElem?_push, if_neg (by omega)]
  refine ⟨hle, ⟨Mem.ok_push hw.ok x, ?_, ?_, ?_, ?_, ?_, ?_, ?_⟩, fun k hk _ => hold k hk, by rw [hh]; simp, ho, ht, hu, rfl, rfl, by simp [Mem.push], ?_, ?_, fun _ h => h, ?_, fun b L hL _ _ => hold _ (hw.rng b L hL), ?_⟩
  · intro b y M hy hM
    rw [Mem.get_push hw.ok] at hy
    by_cases e : b = m.next
    · subst e
      rw [if_pos rfl] at hy
      cases hy
      rw [Phi.put_same] at hM
      cases hM
      have : w'.heap[L.blk]? = some o := by rw [hh, hL]; simp
      rw [this]
      show BR P _ (m.base ≤ m.next) x L (some o)
      have : (m.base ≤ m.next) = True := by simp [hw.le]
      rw [this]; exact hbr
    · rw [if_neg e] at hy
      rw [Phi.put_ne _ _ e] at hM
      rw [hold _ (hw.rng b M hM)]
      exact (hw.live b y M hy hM).mono hle
  · intro b M hM
    by_cases e : b = m.next
    · subst e
      rw [Phi.put_same] at hM
      cases hM
      rw [hh, hL]; simp
    · rw [Phi.put_ne _ _ e] at hM
      have := hw.rng b M hM
      rw [hh]; simp; omega
  · intro b c M N hb hc hM hN he
    rw [Mem.get_push hw.ok] at hb hc
    by_cases e : b = m.next <;> by_cases e' : c = m.next
    · rw [e, e']
    · subst e
      rw [Phi.put_same] at hM
      rw [Phi.put_ne _ _ e'] at hN
      cases hM
      have := hw.rng c N hN
      omega
    · subst e'
      rw [Phi.put_same] at hN
      rw [Phi.put_ne _ _ e] at hM
      cases hN
      have := hw.rng b M hM
      omega
    · rw [if_neg e] at hb
      rw [if_neg e'] at hc
      rw [Phi.put_ne _ _ e] at hM
      rw [Phi.put_ne _ _ e'] at hN
      exact hw.inj b c M N hb hc hM hN he
  · intro b hb
    have : b ≠ m.next := by simp [Mem.push] at hb; omega
    rw [Phi.put_ne _ _ this]
    exact hw.fresh b (by simp [Mem.push] at hb; omega)
  · intro b hb
    have hb' : b < m.base := hb
    obtain ⟨M, hM, he⟩ := hw.old b hb'
    have := hw.le
    exact ⟨M, by rw [Phi.put_ne _ _ (by omega)]; exact hM, he⟩
  · intro b M hb hM
    have hb' : m.base ≤ b := hb
    show m.base ≤ M.blk
    by_cases e : b = m.next
    · subst e
      rw [Phi.put_same] at hM
      cases hM
      rw [hL]
      rcases Nat.eq_zero_or_pos m.base with h0 | h0
      · omega
      · obtain ⟨M, hM, he⟩ := hw.old (m.base - 1) (by omega)
        have := hw.rng _ M hM
        omega
    · rw [Phi.put_ne _ _ e] at hM
      exact hw.own b M hb' hM
  · intro b hb
    rw [Mem.get_push hw.ok] at hb
    by_cases e : b = m.next
    · subst e; exact ⟨L, Phi.put_same _ _ _⟩
    · rw [if_neg e] at hb
      obtain ⟨M, hM⟩ := hw.mapd b hb
      exact ⟨M, by rw [Phi.put_ne _ _ e]; exact hM⟩
  · intro b hb hd
    rw [Mem.get_push hw.ok, if_neg (by omega)]
    exact hd
  · intro b M hM hN
    by_cases e : b = m.next
    · subst e
      rw [Phi.put_same] at hM
      cases hM
      exact .inl (by omega)
    · rw [Phi.put_ne _ _ e, hN] at hM; cases hM
  · intro b hb _
    rw [Mem.get_push hw.ok, if_neg (by omega)]
  · intro b M hM hN
    by_cases e : b = m.next
    · subst e; exact Nat.le_refl _
    · rw [Phi.put_ne _ _ e, hN] at hM; cases hM

/-- A block is written, or given up. -/
theorem sim_put (hw : WR P φ m w) {b : Nat} {L : Loc} (x : Option Blk) (hb : m.base ≤ b) (hl : m.get b ≠ none) (hL : φ b = some L) {o : Obj} {w' : World} (hu : Upd w L.blk o w')
    (hbr : ∀ y, x = some y → BR P φ True y L (some o)) : Sim P φ m w φ (m.put b x) w' := by
  have hlt := hw.lt hL
  have hget := Mem.get_put (m := m) hw.ok hb hlt x
  refine ⟨Phi.le_refl φ, ⟨Mem.ok_put hw.ok b x, ?_, ?_, ?_, ?_, ?_, ?_, ?_⟩, ?_, by rw [hu.size]; exact Nat.le_refl _, hu.os, hu.tape, hu.output, rfl, rfl, Nat.le_refl _, ?_, ?_, fun _ h => List.mem_cons_of_mem _ h, ?_, ?_, fun c M h1 h2 => by (rw [h1] at h2; cases h2)⟩
  · intro c y M hy hM
    rw [hget] at hy
    by_cases e : c = b
    · subst e
      rw [if_pos rfl] at hy
      have : M = L := Option.some.inj (hM.symm.trans hL)
      subst this
      rw [hu.here]
      show BR P φ (m.base ≤ c) y M (some o)
      have : (m.base ≤ c) = True := by simp [hb]
      rw [this]; exact hbr y hy
    · rw [if_neg e] at hy
      have hne : M.blk ≠ L.blk := fun h => e (hw.inj c b M L (by rw [hy]; simp) hl hM hL h)
      rw [hu.other _ hne]
      exact hw.live c y M hy hM
  · intro c M hM; rw [hu.size]; exact hw.rng c M hM
  · intro c d M N hc hd hM hN he
    refine hw.inj c d M N ?_ ?_ hM hN he
    · rw [hget] at hc
      by_cases e : c = b
      · rw [e]; exact hl
      · rw [if_neg e] at hc; exact hc
    · rw [hget] at hd
      by_cases e : d = b
      · rw [e]; exact hl
      · rw [if_neg e] at hd; exact hd
  · exact hw.fresh
  · exact hw.old
  · exact hw.own
  · intro c hc
    rw [hget] at hc
    by_cases e : c = b
    · subst e; exact ⟨L, hL⟩
    · rw [if_neg e] at hc; exact hw.mapd c hc
  · intro k hk hd
    by_cases e : k = L.blk
    · exact absurd (hd b L hb hL e.symm) hl
    · exact hu.other k e
  · intro c hc hd
    rw [hget]
    by_cases e : c = b
    · subst e; exact absurd hd hl
    · rw [if_neg e]; exact hd
  · intro c M h1 h2; rw [h1] at h2; cases h2
  · intro c hc hlo
    rw [hget, if_neg]
    intro e
    subst e
    exact hlo (List.mem_cons_self ..)
  · intro c M hM hl' hlo
    refine hu.other _ fun e => ?_
    have := hw.inj c b M L hl' hl hM hL e
    subst this
    exact hlo (List.mem_cons_self ..)

/-- A block goes on, under another number, where it is. -/
theorem sim_grow (hw : WR P φ m w) {b : Nat} {L : Loc} (x : Blk) (hb : m.base ≤ b) (hl : m.get b ≠ none) (hL : φ b = some L) {o : Obj} {w' : World} (hu : Upd w L.blk o w')
    (hbr : BR P φ True x L (some o)) : Sim P φ m w (φ.put m.next L) ((m.put b none).push x) w' := by
  have hlt := hw.lt hL
  have hnone : φ m.next = none := hw.fresh _ (Nat.le_refl _)
  have hle := Phi.le_put L hnone
  have hok1 := Mem.ok_put (m := m) hw.ok b none
  have hget : ∀ c, ((m.put b none).push x).get c = if c = m.next then some x else if c = b then none else m.get c := by
    intro c
    rw [Mem.get_push hok1, Mem.get_put hw.ok hb hlt]
    rfl
  have hdead : ∀ c, c < m.next → m.get c = none → ((m.put b none).push x).get c = none := by
    intro c hc hd
    rw [hget, if_neg (by omega)]
    split
    · rfl
    · exact hd
  refine ⟨hle, ⟨Mem.ok_push hok1 x, ?_, ?_, ?_, ?_, ?_, ?_, ?_⟩, ?_, by rw [hu.size]; exact Nat.le_refl _, hu.os, hu.tape, hu.output, rfl, rfl, by simp [Mem.push, Mem.put], hdead, ?_, fun _ h => List.mem_cons_of_mem _ h, ?_, ?_, ?_⟩
  · intro c y M hy hM
    rw [hget] at hy
    by_cases e : c = m.next
    · subst e
      rw [if_pos rfl] at hy
      cases hy
      rw [Phi.put_same] at hM
      cases hM
      rw [hu.here]
      show BR P _ (m.base ≤ m.next) x L (some o)
      have : (m.base ≤ m.next) = True := by simp [hw.le]
      rw [this]; exact hbr.mono hle
    · rw [if_neg e] at hy
      rw [Phi.put_ne _ _ e] at hM
      by_cases e2 : c = b
      · rw [if_pos e2] at hy; cases hy
      · rw [if_neg e2] at hy
        have hne : M.blk ≠ L.blk := fun h => e2 (hw.inj c b M L (by rw [hy]; simp) hl hM hL h)
        rw [hu.other _ hne]
        exact (hw.live c y M hy hM).mono hle
  · intro c M hM
    rw [hu.size]
    by_cases e : c = m.next
    · subst e
      rw [Phi.put_same] at hM
      cases hM
      exact hw.rng b L hL
    · rw [Phi.put_ne _ _ e] at hM
      exact hw.rng c M hM
  · intro c d M N hc hd hM hN he
    rw [hget] at hc hd
    by_cases e : c = m.next <;> by_cases e' : d = m.next
    · rw [e, e']
    · subst e
      rw [Phi.put_same] at hM
      rw [Phi.put_ne _ _ e'] at hN
      cases hM
      rw [if_neg e'] at hd
      by_cases e2 : d = b
      · rw [if_pos e2] at hd; exact absurd rfl hd
      · rw [if_neg e2] at hd
        exact absurd (hw.inj d b N L hd hl hN hL he.symm) e2
    · subst e'
      rw [Phi.put_same] at hN
      rw [Phi.put_ne _ _ e] at hM
      cases hN
      rw [if_neg e] at hc
      by_cases e2 : c = b
      · rw [if_pos e2] at hc; exact absurd rfl hc
      · rw [if_neg e2] at hc
        exact absurd (hw.inj c b M L hc hl hM hL he) e2
    · rw [if_neg e] at hc
      rw [if_neg e'] at hd
      rw [Phi.put_ne _ _ e] at hM
      rw [Phi.put_ne _ _ e'] at hN
      have h1 : m.get c ≠ none := by
        by_cases e2 : c = b
        · rw [if_pos e2] at hc; exact absurd rfl hc
        · rw [if_neg e2] at hc; exact hc
      have h2 : m.get d ≠ none := by
        by_cases e2 : d = b
        · rw [if_pos e2] at hd; exact absurd rfl hd
        · rw [if_neg e2] at hd; exact hd
      exact hw.inj c d M N h1 h2 hM hN he
  · intro c hc
    have hc' : m.next + 1 ≤ c := hc
    rw [Phi.put_ne _ _ (by omega)]
    exact hw.fresh c (by omega)
  · intro c hc
    have hc' : c < m.base := hc
    obtain ⟨M, hM, he⟩ := hw.old c hc'
    have := hw.le
    exact ⟨M, by rw [Phi.put_ne _ _ (by omega)]; exact hM, he⟩
  · intro c M hc hM
    have hc' : m.base ≤ c := hc
    show m.base ≤ M.blk
    by_cases e : c = m.next
    · subst e
      rw [Phi.put_same] at hM
      cases hM
      exact hw.own b L hb hL
    · rw [Phi.put_ne _ _ e] at hM
      exact hw.own c M hc' hM
  · intro c hc
    rw [hget] at hc
    by_cases e : c = m.next
    · subst e; exact ⟨L, Phi.put_same _ _ _⟩
    · rw [if_neg e] at hc
      by_cases e2 : c = b
      · rw [if_pos e2] at hc; exact absurd rfl hc
      · rw [if_neg e2] at hc
        obtain ⟨M, hM⟩ := hw.mapd c hc
        exact ⟨M, by rw [Phi.put_ne _ _ e]; exact hM⟩
  · intro k hk hd
    by_cases e : k = L.blk
    · exact absurd (hd b L hb hL e.symm) hl
    · exact hu.other k e
  · intro c M hM hN
    by_cases e : c = m.next
    · subst e
      rw [Phi.put_same] at hM
      cases hM
      exact .inr ⟨b, L, hb, hl, hL, rfl⟩
    · rw [Phi.put_ne _ _ e, hN] at hM; cases hM
  · intro c hc hlo
    rw [hget, if_neg (by omega), if_neg]
    intro e
    subst e
    exact hlo (List.mem_cons_self ..)
  · intro c M hM hl' hlo
    refine hu.other _ fun e => ?_
    have := hw.inj c b M L hl' hl hM hL e
    subst this
    exact hlo (List.mem_cons_self ..)
  · intro c M hM hN
    by_cases e : c = m.next
    · subst e; exact Nat.le_refl _
    · rw [Phi.put_ne _ _ e, hN] at hM; cases hM

end sims

/- runs -/

theorem add_none (k o n : Nat) : (⟨k, o, none⟩ : Addr).add n = ⟨k, o + n, none⟩ := by
  unfold Addr.add
  split
  · rename_i h; subst h; rfl
  · rfl

theorem VR.flat {φ : Phi} {v v' : Value} (h : VR φ v v') (hf : flat v = true) : v'.oneCell' = true := by
  cases h <;> first | rfl | simp [D.flat] at hf

theorem VR.ptr_inv {φ : Phi} {a : Addr} {v' : Value} (h : VR φ (.pointer (some a)) v') : a.spot = none ∧ ∃ L, φ a.block = some L ∧ v' = .pointer (some ⟨L.blk, a.off, none⟩) := by
  cases h with
  | ptr h => exact ⟨rfl, _, h, rfl⟩

section runs
variable {P : Program} {φ : Phi} {m : Mem} {w : World}

theorem run_loadN (hw : WR P φ m w) {a : Addr} {n : Nat} {l : List Value} (h : loadN m a n = some l) {L : Loc} (hL : φ a.block = some L) :
    ∃ arr : Array Value, (loadCells ⟨L.blk, a.off, none⟩ n).run P w = .ok arr w ∧ VRL φ l arr.toList := by
  unfold loadN at h
  split at h
  · cases h
  · split at h
    · rename_i c e g hc
      obtain ⟨c', fr, ho, htot, _, hle, hrel, _⟩ := hw.live _ _ L hc hL
      simp only at h
      split at h
      · rename_i hlen
        cases h
        obtain ⟨hlen, hflat⟩ := hlen
        have hrel' := (hrel.drop a.off).take n
        have hcs : ((c'.toList.take c.length).drop a.off).take n = (c'.toList.drop a.off).take n := by
          have h1 : n ≤ c.length - a.off := by simp at hlen; omega
          rw [List.drop_take, List.take_take, Nat.min_eq_left h1]
        rw [hcs] at hrel'
        have hrun := run_loadCells_list (P := P) (w := w) ⟨L.blk, a.off, none⟩ ((c'.toList.drop a.off).take n) (by
          intro j v hj
          rw [add_none, cell_of_row w L.blk (a.off + j) c' e fr ho]
          rw [List.getElem?_take] at hj
          split at hj
          · rw [List.getElem?_drop] at hj
            simpa using hj
          · cases hj)
        have hl2 : ((c'.toList.drop a.off).take n).length = n := by rw [← hrel'.length, hlen]
        rw [hl2] at hrun
        exact ⟨_, hrun, by simpa using hrel'.v hflat⟩
      · cases h
    · cases h

theorem splice_set (c : List Value) (o : Nat) (v : Value) (rest : List Value) (h : o < c.length) : splice (c.set o v) (o + 1) rest = splice c o (v :: rest) := by
  unfold splice
  have h1 : (c.set o v).take (o + 1) = c.take o ++ [v] := by
    rw [List.take_add_one, List.take_set_of_le (Nat.le_refl _)]
    simp [h]
  have h2 : (c.set o v).drop (o + 1 + rest.length) = c.drop (o + (v :: rest).length) := by
    rw [List.drop_set_of_lt (by omega)]
    congr 1
    simp; omega
  rw [h1, h2]
  simp

theorem run_storeCells {e : TypeId} {fr : Nat × Nat} {k o : Nat} : ∀ (vs : List Value) (i : Nat) (c : Array Value) (w : World), w.heap[k]? = some (.cells c e fr) →
    (∀ j, j < c.size → ¬ (fr.1 ≤ j ∧ j < fr.2)) → o + i + vs.length ≤ c.size → vs.all Value.oneCell' = true →
    ∃ w', (storeCells ⟨k, o, none⟩ vs i).run P w = .ok () w' ∧ Upd w k (.cells ⟨splice c.toList (o + i) vs⟩ e fr) w'
  | [], i, c, w, hk, _, _, _ => by
    refine ⟨w, rfl, ?_⟩
    have : splice c.toList (o + i) [] = c.toList := by simp [splice]
    rw [this]
    exact Upd.refl hk
  | v :: rest, i, c, w, hk, hfr, hle, hf => by
    simp only [List.all_cons, Bool.and_eq_true] at hf
    simp only [List.length_cons] at hle
    have hcell : w.cell? ⟨k, o + i, none⟩ = some (c[o + i]'(by omega)) := by
      rw [cell_of_row w k (o + i) c e fr hk]; simp
    have hfro : w.frozen? ⟨k, o + i, none⟩ = false := by
      unfold World.frozen?
      rw [hk]
      have := hfr (o + i) (by omega)
      simp only
      cases h1 : decide (fr.1 ≤ o + i) <;> simp_all
    have hset : (w.setCell ⟨k, o + i, none⟩ v).heap[k]? = some (.cells (c.setIfInBounds (o + i) v) e fr) := by
      simp only [World.setCell, Array.getElem?_modify, hk]
      simp
    obtain ⟨w', hr, hu⟩ := run_storeCells (o := o) rest (i + 1) (c.setIfInBounds (o + i) v) (w.setCell ⟨k, o + i, none⟩ v) hset (by simpa using hfr) (by simp only [Array.size_setIfInBounds]; omega) hf.2
    refine ⟨w', ?_, ?_⟩
    · unfold storeCells
      rw [Sem.run_bind, add_none, run_store P w _ v _ hf.1, hcell]
      simp only [hfro, Bool.false_eq_true, if_false, Result.andThen_ok]
      exact hr
    · have h1 : splice (c.setIfInBounds (o + i) v).toList (o + (i + 1)) rest = splice c.toList (o + i) (v :: rest) := by
        rw [Array.toList_setIfInBounds, show o + (i + 1) = o + i + 1 by omega]
        exact splice_set _ _ _ _ (by simp; omega)
      rw [h1] at hu
      refine ⟨hu.here, fun j hj => (hu.other j hj).trans (heap_setCell_other w _ j v hj), by rw [hu.size]; simp, hu.os, hu.tape, hu.output⟩

theorem splice_length (c : List Value) (o : Nat) (vs : List Value) (h : o + vs.length ≤ c.length) : (splice c o vs).length = c.length := by
  unfold splice; simp; omega

theorem splice_take (c vs : List Value) (o n : Nat) (h : o + vs.length ≤ n) (hn : n ≤ c.length) : (splice c o vs).take n = splice (c.take n) o vs := by
  unfold splice
  have h2 : (c.take o).length = o := by rw [List.length_take]; omega
  rw [List.take_append, List.take_append, List.take_take, h2, List.take_of_length_le (by omega : vs.length ≤ n - o), List.take_take, List.drop_take]
  rw [show min n o = o by omega, show min o n = o by omega, show n - o - vs.length = n - (o + vs.length) by omega]

theorem VRL.flats {φ : Phi} {l l' : List Value} (h : VRL φ l l') (hf : l.all flat = true) : l'.all Value.oneCell' = true := by
  induction l generalizing l' with
  | nil => cases h; rfl
  | cons x xs ih =>
    cases h with
    | cons h t =>
      simp only [List.all_cons, Bool.and_eq_true] at hf ⊢
      exact ⟨h.flat hf.1, ih t hf.2⟩

/-- The new block of a store stands to its object. -/
theorem BR.store {c : List Value} {e : TypeId} {g : Bool} {L : Loc} {c' : Array Value} {fr : Nat × Nat} {vs vs' : List Value} {o : Nat}
    (h2 : c'.size = L.tot) (h3 : g = false → c'.size = c.length) (h4 : c.length ≤ c'.size) (h5 : CRL φ c (c'.toList.take c.length))
    (h6 : ∀ k, k < c'.size → ¬ (fr.1 ≤ k ∧ k < fr.2)) (h7 : (P.info? e).map (·.size) = some L.sz) (hv : VRL φ vs vs') (hb : o + vs.length ≤ c.length) :
    BR P φ True (.cells (splice c o vs) e g) L (some (.cells ⟨splice c'.toList o vs'⟩ e fr)) := by
  have hl := hv.length
  have hc : (splice c'.toList o vs').length = c'.size := by rw [splice_length _ _ _ (by simp; omega)]; simp
  have hs := splice_length c o vs hb
  refine ⟨_, fr, rfl, by simpa [hc] using h2, by simpa [hc, hs] using h3, by simpa [hc, hs] using h4, ?_, by simpa [hc] using h6, fun _ => h7⟩
  rw [hs]
  simp only
  rw [splice_take _ _ _ _ (by omega) (by simpa using h4)]
  exact h5.splice hv o

theorem run_storeN (hw : WR P φ m w) {a : Addr} {vs vs' : List Value} {m' : Mem} (h : storeN m a vs = some m') (hv : VRL φ vs vs') {L : Loc} (hL : φ a.block = some L) :
    ∃ w', (storeCells ⟨L.blk, a.off, none⟩ vs').run P w = .ok () w' ∧ Sim P φ m w φ m' w' := by
  cases vs with
  | nil =>
    simp only [storeN] at h
    cases h
    cases hv
    exact ⟨w, rfl, Sim.refl hw⟩
  | cons v rest =>
    simp only [storeN] at h
    split at h
    · cases h
    · split at h
      · cases h
      · rename_i hb
        split at h
        · rename_i c e g hc
          split at h
          · rename_i hcond
            cases h
            simp only [Bool.and_eq_true, decide_eq_true_eq] at hcond
            obtain ⟨c', fr, ho, h2, h3, h4, h5, h6, h7⟩ := hw.live _ _ L hc hL
            have h6' := h6 (by omega)
            have hfl := hv.flats hcond.2
            have hlen := hv.length
            obtain ⟨w', hr, hu⟩ := run_storeCells (P := P) (o := a.off) vs' 0 c' w ho h6' (by omega) hfl
            refine ⟨w', hr, sim_put hw _ (by omega) (by rw [hc]; simp) hL hu ?_⟩
            intro y hy
            cases hy
            simp only [Nat.add_zero]
            exact BR.store h2 h3 h4 h5 h6' (h7 (by omega)) hv hcond.1
          · cases h
        · cases h

end runs
end Go.D
