/- D: the memory of a world, and a run in it. -/
import Derived.Test.YtfdfickokkokmaaDoorLF3
import Derived.ProofKit
set_option linter.unusedSimpArgs false
set_option linter.unusedVariables false
namespace Go.D
open Go

open Classical in
/-- A cell of an old block: what stands for itself, or nothing that is known. -/
noncomputable def absC (φ : Phi) (v : Value) : Value :=
  if flat v = true ∧ VR φ v v then v else match v with
    | .slice (some _) 0 0 => .slice (some ⟨0, 0, some 0⟩) 0 0
    | _ => undef

theorem absC_ok {φ : Phi} {v : Value} (h : flat (absC φ v) = true) : VR φ (absC φ v) v := by
  unfold absC at h ⊢
  split
  · rename_i hv; exact hv.2
  · rename_i hv
    rw [if_neg hv] at h
    split at h
    · exact .slZ _ _ _ _
    · cases h

theorem absC_self {φ : Phi} {v : Value} (hf : flat v = true) (h : VR φ v v) : absC φ v = v := by
  unfold absC; rw [if_pos ⟨hf, h⟩]

/-- A slice without a place. -/
theorem absC_zero {φ : Phi} (a : Addr) : ∃ a', absC φ (.slice (some a) 0 0) = .slice a' 0 0 := by
  unfold absC
  split
  · exact ⟨_, rfl⟩
  · exact ⟨_, rfl⟩

theorem absL_ok {φ : Phi} : ∀ (l : List Value), CRL φ (l.map (absC φ)) l
  | [] => .nil
  | v :: l => .cons absC_ok (absL_ok l)

theorem absL_v {φ : Phi} {l : List Value} (h : (l.map (absC φ)).all flat = true) : VRL φ (l.map (absC φ)) l := (absL_ok l).v h

/-- Old blocks stand where they are. -/
def locW (w : World) (b : Nat) : Loc := ⟨b, match w.heap[b]? with | some (.cells c _ _) => c.size | _ => 0, 0⟩
def phiW (w : World) : Phi := phi0 w.heap.size (locW w)
noncomputable def oldW (w : World) (b : Nat) : Option Blk := match w.heap[b]? with
  | some (.cells c e _) => some (.cells (c.toList.map (absC (phiW w))) e false)
  | _ => none
noncomputable def memW (w : World) : Mem := { old := oldW w, base := w.heap.size, new := [], next := w.heap.size, low := [] }

theorem memW_ok (w : World) : (memW w).Ok := rfl
theorem memW_get (w : World) (b : Nat) : (memW w).get b = oldW w b := by
  unfold Mem.get memW
  by_cases h : b < w.heap.size
  · simp [h]
  · simp [h, oldW]

theorem memW_wr (P : Program) (w : World) : WR P (phiW w) (memW w) w := by
  refine wr0 (Nat.le_refl _) (fun b _ => rfl) fun b x hb hx => ?_
  unfold oldW at hx
  split at hx
  · rename_i c e fr hc
    cases hx
    refine ⟨c, fr, hc, ?_, fun _ => by simp, by simp, ?_, fun h => absurd hb (by omega), fun h => absurd hb (by omega)⟩
    · simp [locW, hc]
    · have := absL_ok (φ := phiW w) c.toList
      rw [List.take_of_length_le (by simp)]
      exact this
  · cases hx

/-- What a run tells is so. -/
theorem calls_of_run {P : Program} (hm : P.follows .mixedOrders = true) {w : World} {env : Env} (hE : EnvOk P w.heap.size (oldW w) env) (hp : progOk P w.heap.size drawnStatic = true)
    {f : FuncId} {args : List Value} {args' : Array Value} {v : Value} {m' : Mem} (h : run P env f args (memW w) = some (.ret v, m')) (ha : VRL (phiW w) args args'.toList) (hv : plain v = true) :
    Calls P f args' w fun e w' => e = .returned v ∧ RowKit.Below w.heap.size w w' := by
  obtain ⟨k, hk⟩ := lim_some.1 h
  obtain ⟨_, hc⟩ := sound hm hE hp k f args _ _ _ rfl rfl (hk k (Nat.le_refl _))
  refine (hc (phiW w) w args' (memW_wr P w) ha).mono ?_
  rintro e w' ⟨ψ, hs, v', rfl, hvr⟩
  refine ⟨by rw [hvr.plain_eq hv], hs.os, hs.tape, hs.output, hs.size, fun k hk => hs.frame k hk ?_⟩
  intro b L hb2 hL _
  have hb2' : w.heap.size ≤ b := hb2
  unfold phiW phi0 at hL
  rw [if_neg (by omega)] at hL
  cases hL

theorem opndOk_mono {b c : Nat} (h : b ≤ c) {x : Operand} (hx : opndOk b x = true) : opndOk c x = true := by
  cases x with
  | global g => simp only [opndOk, Nat.blt_eq] at hx ⊢; omega
  | _ => exact hx

theorem codeOk_mono {b c : Nat} (h : b ≤ c) {st : Array Oper → Bool} (x : Code) : codeOk b st x = true → codeOk c st x = true := by
  induction x with
  | region id os d =>
    intro hx
    simp only [codeOk, Bool.and_eq_true, List.all_eq_true] at hx ⊢
    refine ⟨fun o ho => ?_, hx.2⟩
    have := hx.1 o ho
    simp only [operOk, List.all_eq_true] at this ⊢
    exact fun y hy => opndOk_mono h (this y hy)
  | seq x y ihx ihy =>
    intro hx
    simp only [codeOk, Bool.and_eq_true] at hx ⊢
    exact ⟨ihx hx.1, ihy hx.2⟩
  | cond d x y ihx ihy =>
    intro hx
    simp only [codeOk, Bool.and_eq_true] at hx ⊢
    exact ⟨opndOk_mono h hx.1, ihx hx.2.1, ihy hx.2.2⟩
  | block _ x ih => exact fun hx => ih hx
  | loop x ih => exact fun hx => ih hx
  | _ => exact fun hx => hx

theorem progOk_mono {P : Program} {b c : Nat} (h : b ≤ c) {st : Array Oper → Bool} (hp : progOk P b st = true) : progOk P c st = true := by
  unfold progOk at hp ⊢
  rw [List.all_eq_true] at hp ⊢
  intro fn hfn
  have := hp fn hfn
  split at this
  · rfl
  · rename_i x hx
    rw [Bool.and_eq_true] at this ⊢
    exact ⟨this.1, codeOk_mono h _ this.2⟩

end Go.D
