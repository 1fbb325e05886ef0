/- D: an operation's effect on memory; a region's lexical run, step by step. -/
import Derived.Test.YtfdfickokkokmaaDoorLD12
set_option linter.unusedSimpArgs false
set_option linter.unusedVariables false
namespace Go.D
open Go

section
variable {m m' : Mem} {env : Env} {callf : CallF} {P : Program} {ρ : Operand → Value} {o : Oper} {v : Value}

/-- The effect of an operation: it is the same in every memory that agrees where it looks and writes. -/
def HasEff (env : Env) (callf : CallF) (P : Program) (ρ : Operand → Value) (o : Oper) (m : Mem) (v : Value) (m' : Mem) : Prop :=
  ∃ e : Eff, m' = e.ap m ∧ (∀ b, e.wr b → m.base ≤ b ∧ m.get b ≠ none ∧ (writes ρ o).has b = true) ∧
    ∀ n : Mem, n.base = m.base → n.next = m.next → (∀ b, (looks ρ o).has b = true → n.get b = m.get b) → (∀ b, e.wr b → n.get b = m.get b) → opV env callf P ρ o n = some (.val v, e.ap n)

theorem eff_id (h : m' = m) (hn : ∀ n : Mem, n.base = m.base → n.next = m.next → (∀ b, (looks ρ o).has b = true → n.get b = m.get b) → opV env callf P ρ o n = some (.val v, n)) : HasEff env callf P ρ o m v m' :=
  ⟨.id, h, fun _ h => h.elim, fun n h1 h2 h3 _ => hn n h1 h2 h3⟩

theorem eff_push {x : Blk} (h : m' = m.push x) (hn : ∀ n : Mem, n.base = m.base → n.next = m.next → (∀ b, (looks ρ o).has b = true → n.get b = m.get b) → opV env callf P ρ o n = some (.val v, n.push x)) : HasEff env callf P ρ o m v m' :=
  ⟨.push x, h, fun _ h => h.elim, fun n h1 h2 h3 _ => hn n h1 h2 h3⟩

theorem bltin_eff {b : Builtin} {c : Call} (hop : o.op = .call c) (hc : c.callee = .builtin b) (h : builtinV P m b c.argTypes (c.args.toList.map ρ) = some (.val v, m')) : HasEff env callf P ρ o m v m' := by
  have hopV : ∀ n, opV env callf P ρ o n = builtinV P n b c.argTypes (c.args.toList.map ρ) := by
    intro n; unfold opV; simp only [hop, hc]
  have hlk : looks ρ o = match (Callee.builtin b : Callee), c.args.toList with
    | .builtin .append, [s, x] => (blockOf (ρ s)).join (blockOf (ρ x))
    | .builtin .copy, [_, x] => blockOf (ρ x)
    | .builtin .len, [x] => match ρ x with | .map (some r) => .one r | _ => .nil
    | .builtin .min, _ | .builtin .max, _ | .builtin .clear, _ | .builtin .unsafeSliceData, _ => .nil
    | .builtin .unsafeString, [p, _] => blockOf (ρ p)
    | _, _ => .all := by unfold looks; simp only [hop, hc]; rfl
  have hwr : writes ρ o = match (Callee.builtin b : Callee), c.args.toList with
    | .builtin .append, [s, _] => blockOf (ρ s)
    | .builtin .copy, [d, _] => blockOf (ρ d)
    | .builtin .clear, [x] => blockOf (ρ x)
    | .builtin .len, _ | .builtin .min, _ | .builtin .max, _ | .builtin .unsafeSliceData, _ => .nil
    | .builtin .unsafeString, [p, _] => blockOf (ρ p)
    | _, _ => .all := by unfold writes; simp only [hop, hc]; rfl
  generalize c.args.toList = args at *
  unfold builtinV at h
  split at h
  · rename_i x0 hx0
    obtain ⟨x, rfl, rfl⟩ : ∃ x, args = [x] ∧ ρ x = x0 := by
      cases args with
      | nil => cases hx0
      | cons x t => cases t with
        | nil => simp only [List.map_cons, List.map_nil, List.cons.injEq, and_true] at hx0; exact ⟨x, rfl, hx0⟩
        | cons y t => simp at hx0
    split at h
    · rename_i t ht
      obtain ⟨hh, rfl⟩ := val_inv h
      refine eff_id rfl fun n hnb hnn hl => ?_
      rw [hopV]
      simp only [List.map_cons, List.map_nil, builtinV, ht]
      have hl' : ∀ r, ρ x = .map (some r) → n.get r = m'.get r := fun r e => hl r (by rw [hlk]; simp only [e]; simp [FP.has])
      have : lenOfV P n t (ρ x) = lenOfV P m' t (ρ x) := by
        unfold lenOfV
        generalize ρ x = y at hl'
        generalize P.underlying t = u
        cases u with
        | none => rfl
        | some d =>
          cases y with
          | map r => cases r with
            | none => cases d <;> rfl
            | some r => cases d <;> first | rfl | simp only [hl' r rfl]
          | _ => cases d <;> rfl
      rw [this, hh]; rfl
    · cases h
  · rename_i s0 x0 hx0
    obtain ⟨s, x, rfl, rfl, rfl⟩ : ∃ s x, args = [s, x] ∧ ρ s = s0 ∧ ρ x = x0 := by
      cases args with
      | nil => cases hx0
      | cons x t => cases t with
        | nil => simp at hx0
        | cons y t => cases t with
          | nil => simp only [List.map_cons, List.map_nil, List.cons.injEq, and_true] at hx0; exact ⟨x, y, rfl, hx0.1, hx0.2⟩
          | cons z t => simp at hx0
    split at h
    · rename_i st xt hst hxt
      obtain ⟨e, h1, h2, h3⟩ := append_eff (vals_inv h)
      simp only at hwr hlk
      refine ⟨e, h1, fun b hb => ?_, fun n hnb hnn hl _ => ?_⟩
      · rw [hwr]; exact h2 b hb
      · rw [hopV]
        rw [hlk] at hl
        simp only [List.map_cons, List.map_nil, builtinV, hst, hxt, h3 n hnb hnn (fun b hb => hl b (join_has_l hb)) (fun b hb => hl b (join_has_r hb))]
        rfl
    · cases h
  · rename_i s0 x0 hx0
    obtain ⟨s, x, rfl, rfl, rfl⟩ : ∃ s x, args = [s, x] ∧ ρ s = s0 ∧ ρ x = x0 := by
      cases args with
      | nil => cases hx0
      | cons x t => cases t with
        | nil => simp at hx0
        | cons y t => cases t with
          | nil => simp only [List.map_cons, List.map_nil, List.cons.injEq, and_true] at hx0; exact ⟨x, y, rfl, hx0.1, hx0.2⟩
          | cons z t => simp at hx0
    split at h
    · rename_i t ht
      obtain ⟨e, h1, h2, h3⟩ := copyV_eff (vals_inv h)
      simp only at hwr hlk
      refine ⟨e, h1, fun b hb => ?_, fun n hnb hnn hl hw => ?_⟩
      · rw [hwr]; exact h2 b hb
      · rw [hopV]
        rw [hlk] at hl
        simp only [List.map_cons, List.map_nil, builtinV, ht, h3 n hnb hnn hl hw]
        rfl
    · cases h
  · rename_i x0 hx0
    obtain ⟨x, rfl, rfl⟩ : ∃ x, args = [x] ∧ ρ x = x0 := by
      cases args with
      | nil => cases hx0
      | cons x t => cases t with
        | nil => simp only [List.map_cons, List.map_nil, List.cons.injEq, and_true] at hx0; exact ⟨x, rfl, hx0⟩
        | cons y t => simp at hx0
    split at h
    · rename_i t ht
      obtain ⟨hh, rfl⟩ := unit_inv h
      obtain ⟨e, h1, h2, h3⟩ := clearV_eff hh
      simp only at hwr hlk
      refine ⟨e, h1, fun b hb => ?_, fun n hnb hnn hl hw => ?_⟩
      · rw [hwr]; exact h2 b hb
      · rw [hopV]
        simp only [List.map_cons, List.map_nil, builtinV, ht, h3 n hnb hnn hw]
        rfl
    · cases h
  · rename_i x r hx0
    obtain ⟨hh, rfl⟩ := val_inv h
    refine eff_id rfl fun n hnb hnn hl => ?_
    rw [hopV, hx0]
    simp only [builtinV, hh]
    rfl
  · rename_i x r hx0
    obtain ⟨hh, rfl⟩ := val_inv h
    refine eff_id rfl fun n hnb hnn hl => ?_
    rw [hopV, hx0]
    simp only [builtinV, hh]
    rfl
  · rename_i x hx0
    obtain ⟨hh, rfl⟩ := val_inv h
    refine eff_id rfl fun n hnb hnn hl => ?_
    rw [hopV, hx0]
    simp only [builtinV, hh]
    rfl
  · rename_i p k hx0
    split at h
    · rename_i t ht
      obtain ⟨e, h1, h2, h3⟩ := bytesString_eff (vals_inv h)
      obtain ⟨x, y, rfl, rfl, rfl⟩ : ∃ x y, args = [x, y] ∧ ρ x = p ∧ ρ y = k := by
        cases args with
        | nil => cases hx0
        | cons x t => cases t with
          | nil => simp at hx0
          | cons y t => cases t with
            | nil => simp only [List.map_cons, List.map_nil, List.cons.injEq, and_true] at hx0; exact ⟨x, y, rfl, hx0.1, hx0.2⟩
            | cons z t => simp at hx0
      simp only at hwr hlk
      refine ⟨e, h1, fun b hb => by rw [hwr]; exact h2 b hb, fun n hnb hnn hl _ => ?_⟩
      rw [hopV]
      rw [hlk] at hl
      simp only [List.map_cons, List.map_nil, builtinV, ht, h3 n hnb hl]
      rfl
    · cases h
  · cases h

theorem opV_eff (hcode : isCode o = false) (h : opV env callf P ρ o m = some (.val v, m')) : HasEff env callf P ρ o m v m' := by
  have h0 := h
  unfold opV at h
  split at h <;> rename_i hop
  · cases h; exact eff_id rfl fun n _ _ _ => by unfold opV; simp only [hop]
  · cases h; exact eff_id rfl fun n _ _ _ => by unfold opV; simp only [hop]
  · split at h
    · rename_i hc; cases h; exact eff_id rfl fun n _ _ _ => by unfold opV; simp only [hop, hc]
    · rename_i hc; cases h; exact eff_id rfl fun n _ _ _ => by unfold opV; simp only [hop, hc]
    · cases h
  · split at h
    · rename_i z hz
      cases h
      exact eff_push rfl fun n hnb hnn _ => by unfold opV; simp only [hop, hz, newRow, hnn]
    · cases h
  · split at h
    · rename_i s hs
      cases h
      exact eff_push rfl fun n hnb hnn _ => by unfold opV; simp only [hop, hs, newRow, hnn]
    · cases h
  · obtain ⟨hh, rfl⟩ := val_inv h
    exact eff_id rfl fun n _ _ _ => by unfold opV; simp only [hop, hh]; rfl
  · rename_i t len parts
    have hh := vals_inv h
    unfold buildSlice at hh
    split at hh
    · rename_i elem hu
      split at hh
      · rename_i s z hs hz
        split at hh
        · rename_i hle
          split at hh
          · rename_i cs hcs
            simp only [newRow, Option.some.injEq, Prod.mk.injEq] at hh
            obtain ⟨rfl, rfl⟩ := hh
            refine eff_push rfl fun n hnb hnn _ => ?_
            unfold opV
            simp only [hop, buildSlice, hu, hs, hz, hle, if_true, hcs, newRow, hnn]
            rfl
          · cases hh
        · cases hh
      · cases hh
    · cases hh
  · rename_i t a
    obtain ⟨hh, rfl⟩ := val_inv h
    refine eff_id rfl fun n _ _ hl => ?_
    unfold opV
    simp only [hop]
    rw [loadVar_congr (m := m') (fun b hb => hl b (by unfold looks; simp only [hop]; exact hb)), hh]
    rfl
  · rename_i t a x
    obtain ⟨hh, rfl⟩ := unit_inv h
    obtain ⟨e, h1, h2, h3⟩ := storeVar_eff hh
    refine ⟨e, h1, fun b hb => ?_, fun n hnb hnn _ hw => ?_⟩
    · have : writes ρ o = blockOf (ρ a) := by unfold writes; simp only [hop]
      rw [this]; exact h2 b hb
    · unfold opV
      simp only [hop, h3 n hnb hnn hw]
      rfl
  · split at h
    · rename_i a hc; cases h; exact eff_id rfl fun n _ _ _ => by unfold opV; simp only [hop, hc]
    · cases h
  · obtain ⟨hh, rfl⟩ := val_inv h
    exact eff_id rfl fun n _ _ _ => by unfold opV; simp only [hop, hh]; rfl
  · split at h
    · rename_i hs
      obtain ⟨hh, rfl⟩ := val_inv h
      exact eff_id rfl fun n _ _ _ => by unfold opV; simp only [hop, hs, if_true, hh]; rfl
    · cases h
  · rename_i s d x
    have hh := vals_inv h
    have hlk : looks ρ o = blockOf (ρ x) := by unfold looks; simp only [hop]
    unfold convertV at hh
    split at hh
    · rename_i sd dd x0 hsd hdd
      split at hh
      · rename_i e k c hx
        split at hh
        · rename_i he; cases hh
          exact eff_id rfl fun n _ _ _ => by unfold opV; simp only [hop, convertV, hsd, hdd, hx, he]; rfl
        · cases hh
      · rename_i e a k c hx
        split at hh
        · rename_i he
          split at hh
          · rename_i l hl
            split at hh
            · rename_i bs hbs
              cases hh
              refine eff_id rfl fun n _ _ hlo => ?_
              rw [hlk, hx] at hlo
              unfold opV; simp only [hop, convertV, hsd, hdd, hx, he, loadN_congr (hlo _ (blockOf_sl a k c)), hl, hbs]; rfl
            · cases hh
          · cases hh
        · cases hh
      · rename_i e s0 hx
        split at hh
        · rename_i he hs1
          simp only [newLoose, Option.some.injEq, Prod.mk.injEq] at hh
          obtain ⟨rfl, rfl⟩ := hh
          exact eff_push rfl fun n hnb hnn _ => by unfold opV; simp only [hop, convertV, hsd, hdd, hx, he, hs1, newLoose, hnn]; rfl
        · cases hh
      · rename_i s0 hx
        cases hh
        exact eff_id rfl fun n _ _ _ => by unfold opV; simp only [hop, convertV, hsd, hdd, hx]; rfl
      · rename_i k0 k n0 k1 hx
        cases hh
        exact eff_id rfl fun n _ _ _ => by unfold opV; simp only [hop, convertV, hsd, hdd, hx]; rfl
      · rename_i hx
        cases hh
        exact eff_id rfl fun n _ _ _ => by unfold opV; simp only [hop, convertV, hsd, hdd, hx]; rfl
      · rename_i hx
        cases hh
        exact eff_id rfl fun n _ _ _ => by unfold opV; simp only [hop, convertV, hsd, hdd, hx]; rfl
      · rename_i t a hx
        split at hh
        · rename_i k c e g hsp hst hget
          split at hh
          · rename_i hoff
            cases hh
            refine eff_id rfl fun n _ _ hlo => ?_
            rw [hlk, hx] at hlo
            unfold opV; simp only [hop, convertV, hsd, hdd, hx, hsp, hst, hlo _ (blockOf_ptr a), hget, hoff, if_true]; rfl
          · cases hh
        · cases hh
      · rename_i u a hx
        split at hh
        · rename_i i c e hsp hi hget
          split at hh
          · rename_i hlies
            cases hh
            refine eff_id rfl fun n _ _ hlo => ?_
            rw [hlk, hx] at hlo
            unfold opV; simp only [hop, convertV, hsd, hdd, hx, hsp, hi, hlo _ (blockOf_ptr a), hget, hlies, if_true]; rfl
          · cases hh
        · cases hh
      · cases hh
    · cases hh
  · split at h
    · cases h
    · rename_i d hd hni
      cases h
      refine eff_id rfl fun n _ _ _ => ?_
      unfold opV; simp only [hop, hni]
    · cases h
  · cases h; exact eff_id rfl fun n _ _ _ => by unfold opV; simp only [hop]
  · rename_i t l c
    have hh := vals_inv h
    unfold makeSlice at hh
    split at hh
    · rename_i elem k1 l0 k2 c0 hu hl0 hc0
      split at hh
      · rename_i i z hi hz
        split at hh
        · rename_i hcond
          simp only [newRow, Option.some.injEq, Prod.mk.injEq] at hh
          obtain ⟨rfl, rfl⟩ := hh
          exact eff_push rfl fun n hnb hnn _ => by unfold opV; simp only [hop, makeSlice, hu, hl0, hc0, hi, hz, hcond, and_self, if_true, newRow, hnn]; rfl
        · cases hh
      · cases hh
    · cases hh
  · obtain ⟨hh, rfl⟩ := val_inv h
    exact eff_id rfl fun n _ _ _ => by unfold opV; simp only [hop, hh]; rfl
  · obtain ⟨hh, rfl⟩ := val_inv h
    exact eff_id rfl fun n _ _ _ => by unfold opV; simp only [hop, hh]; rfl
  · obtain ⟨hh, rfl⟩ := val_inv h
    exact eff_id rfl fun n _ _ _ => by unfold opV; simp only [hop, hh]; rfl
  · obtain ⟨hh, rfl⟩ := val_inv h
    exact eff_id rfl fun n _ _ _ => by unfold opV; simp only [hop, hh]; rfl
  · obtain ⟨hh, rfl⟩ := val_inv h
    exact eff_id rfl fun n _ _ _ => by unfold opV; simp only [hop, hh]; rfl
  · split at h
    · rename_i vs hc
      obtain ⟨hh, rfl⟩ := val_inv h
      exact eff_id rfl fun n _ _ _ => by unfold opV; simp only [hop, hc, hh]; rfl
    · cases h
  · rename_i c
    split at h
    · rename_i f hc; simp [isCode, hop, hc] at hcode
    · rename_i b hc
      exact bltin_eff hop hc h
    · cases h
  · split at h <;> cases h
  · cases h

end
end Go.D
