/- D: closed calls. -/
import Derived.Test.YtfdfickokkokmaaDoorLD19
set_option linter.unusedSimpArgs false
set_option linter.unusedVariables false
namespace Go.D
open Go

/-- The first relation: old blocks stand where they are. -/
def phi0 (base : Nat) (locs : Nat → Loc) : Phi := fun b => if b < base then some (locs b) else none

theorem wr0 {P : Program} {base : Nat} {old : Nat → Option Blk} {locs : Nat → Loc} {w : World} (hb : base ≤ w.heap.size) (hl : ∀ b, b < base → (locs b).blk = b)
    (ho : ∀ b x, b < base → old b = some x → BR P (phi0 base locs) (base ≤ b) x (locs b) w.heap[b]?) : WR P (phi0 base locs) { old, base, new := [], next := base, low := [] } w := by
  have hphi : ∀ b L, phi0 base locs b = some L → b < base ∧ L = locs b := by
    intro b L h
    unfold phi0 at h
    split at h
    · rename_i hlt; cases h; exact ⟨hlt, rfl⟩
    · cases h
  have hget : ∀ b, ({ old, base, new := [], next := base, low := [] } : Mem).get b = if b < base then old b else none := by
    intro b
    unfold Mem.get
    by_cases h : b < base
    · simp [h]
    · simp [h]
  refine ⟨by simp, ?_, ?_, ?_, ?_, ?_, ?_, ?_⟩
  · intro b x L hx hL
    obtain ⟨h1, rfl⟩ := hphi b L hL
    rw [hget, if_pos h1] at hx
    rw [hl b h1]
    exact ho b x h1 hx
  · intro b L hL
    obtain ⟨h1, rfl⟩ := hphi b L hL
    rw [hl b h1]; omega
  · intro b c L N _ _ hL hN he
    obtain ⟨h1, rfl⟩ := hphi b L hL
    obtain ⟨h2, rfl⟩ := hphi c N hN
    rw [hl b h1, hl c h2] at he
    exact he
  · intro b h
    have h' : base ≤ b := h
    unfold phi0
    rw [if_neg (by omega)]
  · intro b h
    have h' : b < base := h
    exact ⟨locs b, by unfold phi0; rw [if_pos h'], hl b h'⟩
  · intro b L h hL
    have h' : base ≤ b := h
    have := (hphi b L hL).1
    omega
  · intro b h
    rw [hget] at h
    by_cases h1 : b < base
    · exact ⟨locs b, by unfold phi0; rw [if_pos h1]⟩
    · rw [if_neg h1] at h; exact absurd rfl h

/-- A call of plain arguments that D tells to return a plain value, in every world that bears the old blocks. -/
theorem closed {P : Program} (hm : P.follows .mixedOrders = true) {base : Nat} {old : Nat → Option Blk} {env : Env} (hE : EnvOk P base old env) (hp : progOk P base drawnStatic = true)
    {k : Nat} {f : FuncId} {args : List Value} {v : Value} {m' : Mem} (h : call P env k f args { old, base, new := [], next := base, low := [] } = some (.ret v, m')) (ha : args.all plain = true) (hv : plain v = true)
    {w : World} (hb : base ≤ w.heap.size) {locs : Nat → Loc} (hl : ∀ b, b < base → (locs b).blk = b) (ho : ∀ b x, b < base → old b = some x → BR P (phi0 base locs) (base ≤ b) x (locs b) w.heap[b]?) :
    Calls P f args.toArray w fun e w' => e = .returned v ∧ RowKit.Below w.heap.size w w' := by
  obtain ⟨_, hc⟩ := sound hm hE hp k f args _ _ _ rfl rfl h
  have hw := wr0 hb hl ho
  have hargs : VRL (phi0 base locs) args args.toArray.toList := by
    simp only
    clear h hc
    induction args with
    | nil => exact .nil
    | cons x xs ih =>
      simp only [List.all_cons, Bool.and_eq_true] at ha
      exact .cons (VR.plain_self ha.1) (ih ha.2)
  refine (hc (phi0 base locs) w args.toArray hw hargs).mono ?_
  rintro e w' ⟨ψ, hs, v', rfl, hvr⟩
  refine ⟨by rw [hvr.plain_eq hv], hs.os, hs.tape, hs.output, hs.size, fun k hk => hs.frame k hk ?_⟩
  intro b L hb2 hL _
  have hb2' : base ≤ b := hb2
  unfold phi0 at hL
  rw [if_neg (by omega)] at hL
  cases hL

end Go.D
