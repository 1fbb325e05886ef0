/- D: a drawn region: what its lexical run needs. -/
import Derived.Test.YtfdfickokkokmaaDoorLD14
set_option linter.unusedSimpArgs false
set_option linter.unusedVariables false
namespace Go.D
open Go

def Phi.below (ψ : Phi) (n : Nat) : Phi := fun b => if b < n then ψ b else none

theorem Phi.below_some {ψ : Phi} {n b : Nat} {L : Loc} (h : ψ.below n b = some L) : b < n ∧ ψ b = some L := by
  unfold Phi.below at h
  split at h
  · exact ⟨‹_›, h⟩
  · cases h

theorem Phi.below_of {ψ : Phi} {n b : Nat} {L : Loc} (hb : b < n) (h : ψ b = some L) : ψ.below n b = some L := by
  unfold Phi.below; rw [if_pos hb]; exact h

mutual
theorem VR.restrict {φ ψ : Phi} {n : Nat} (hφ : ∀ b L, φ b = some L → b < n) : ∀ {v u v' : Value}, VR φ v u → VR ψ v v' → VR (ψ.below n) v v'
  | _, _, _, .bool _, h => by cases h; constructor
  | _, _, _, .int _ _, h => by cases h; constructor
  | _, _, _, .float _ _, h => by cases h; constructor
  | _, _, _, .string _, h => by cases h; constructor
  | _, _, _, .ptrN, h => by cases h; constructor
  | _, _, _, .ptr h1, h => by cases h with | ptr h2 => exact .ptr (Phi.below_of (hφ _ _ h1) h2)
  | _, _, _, .slN _ _, h => by cases h; constructor
  | _, _, _, .sl h1 _, h => by
    cases h with
    | sl h2 hc => exact .sl (Phi.below_of (hφ _ _ h1) h2) hc
    | slL h2 hc hn ht => exact .slL (Phi.below_of (hφ _ _ h1) h2) hc hn ht
  | _, _, _, .slL h1 _ _ _, h => by
    cases h with
    | sl h2 hc => exact .sl (Phi.below_of (hφ _ _ h1) h2) hc
    | slL h2 hc hn ht => exact .slL (Phi.below_of (hφ _ _ h1) h2) hc hn ht
  | _, _, _, .slZ _ _ _ _, h => by cases h; constructor
  | _, _, _, .mapN, h => by cases h; constructor
  | _, _, _, .map h1, h => by cases h with | map h2 => exact .map (Phi.below_of (hφ _ _ h1) h2)
  | _, _, _, .nilFunc, h => by cases h; constructor
  | _, _, _, .nilIface, h => by cases h; constructor
  | _, _, _, .iface _ h1, h => by cases h with | iface _ h2 => exact .iface _ (VR.restrict hφ h1 h2)
  | _, _, _, .func _ h1 h1', h => by cases h with | func _ h2 h2' => exact .func _ (VRL.restrict hφ h1 h2) (VRL.restrict hφ h1' h2')
  | _, _, _, .agg h1, h => by cases h with | agg h2 => exact .agg (VRL.restrict hφ h1 h2)
  | _, _, _, .tuple h1, h => by cases h with | tuple h2 => exact .tuple (VRL.restrict hφ h1 h2)
theorem VRL.restrict {φ ψ : Phi} {n : Nat} (hφ : ∀ b L, φ b = some L → b < n) : ∀ {v u v' : List Value}, VRL φ v u → VRL ψ v v' → VRL (ψ.below n) v v'
  | _, _, _, .nil, h => by cases h; exact .nil
  | _, _, _, .cons h1 t1, h => by cases h with | cons h2 t2 => exact .cons (VR.restrict hφ h1 h2) (VRL.restrict hφ t1 t2)
end

theorem CRL.restrict {φ ψ : Phi} {n : Nat} (hφ : ∀ b L, φ b = some L → b < n) {v u v' : List Value} (h : CRL φ v u) (h' : CRL ψ v v') : CRL (ψ.below n) v v' := by
  induction h generalizing v' with
  | nil => cases h'; exact .nil
  | cons h1 _ ih => cases h' with | cons h2 t2 => exact .cons (fun hf => VR.restrict hφ (h1 hf) (h2 hf)) (ih t2)

theorem BR.restrict {P : Program} {φ ψ : Phi} {n : Nat} (hφ : ∀ b L, φ b = some L → b < n) {own own' : Prop} {x : Blk} {L L' : Loc} {o o' : Option Obj} (h : BR P φ own x L o) (h' : BR P ψ own' x L' o') : BR P (ψ.below n) own' x L' o' := by
  cases x with
  | cells c e g =>
    obtain ⟨_, _, _, _, _, _, h5, _⟩ := h
    obtain ⟨c', fr, h1, h2, h3, h4, h5', h6⟩ := h'
    exact ⟨c', fr, h1, h2, h3, h4, CRL.restrict hφ h5 h5', h6⟩
  | mp es clock =>
    obtain ⟨es1, _, hl1, h3⟩ := h
    obtain ⟨es', h1, h2, h3'⟩ := h'
    refine ⟨es', h1, h2, fun i x y hx hy => ?_⟩
    have hi : i < es1.size := by
      rw [← hl1]
      rcases Nat.lt_or_ge i es.length with h | h
      · exact h
      · rw [List.getElem?_eq_none h] at hx; cases hx
    have a := h3 i x es1[i] hx (by simp [hi])
    have b := h3' i x y hx hy
    exact ⟨a.1.restrict hφ b.1, a.2.1.restrict hφ b.2.1, b.2.2⟩

/-- Memory is what it gives. -/
theorem Sim.mem {P : Program} {φ ψ : Phi} {m m1 m2 : Mem} {w w' : World} (hs : Sim P φ m w ψ m1 w') (hok : m2.next = m2.base + m2.new.length) (hb : m2.base = m1.base) (ho : m2.old = m1.old) (hn : m2.next = m1.next) (hl : m2.low = m1.low) (hg : ∀ b, m2.get b = m1.get b) :
    Sim P φ m w ψ m2 w' := by
  refine ⟨hs.ext, ⟨hok, ?_, hs.wr.rng, ?_, ?_, ?_, ?_, ?_⟩, hs.frame, hs.size, hs.os, hs.tape, hs.output, hb.trans hs.base, ho.trans hs.oldm, hn ▸ hs.next, ?_, hs.new, hl ▸ hs.low, ?_, ?_, hs.dom⟩
  · intro b x L hx hL; rw [hg] at hx; rw [hb]; exact hs.wr.live b x L hx hL
  · intro b c L M h1 h2; rw [hg] at h1 h2; exact hs.wr.inj b c L M h1 h2
  · intro b h; rw [hn] at h; exact hs.wr.fresh b h
  · intro b h; rw [hb] at h; exact hs.wr.old b h
  · intro b L h; rw [hb] at h ⊢; exact hs.wr.own b L h
  · intro b h; rw [hg] at h; exact hs.wr.mapd b h
  · intro b h1 h2; rw [hg]; exact hs.dead b h1 h2
  · intro b h1 h2; rw [hl] at h2; rw [hg]; exact hs.kept b h1 h2
  · intro b L h1 h2 h3; rw [hl] at h3; exact hs.same b L h1 h2 h3

/-- There is a memory that gives this. -/
theorem Mem.exists_get (base next : Nat) (low : List Nat) (old g : Nat → Option Blk) (h : base ≤ next) : ∃ m : Mem, m.base = base ∧ m.old = old ∧ m.next = next ∧ m.low = low ∧ m.next = m.base + m.new.length ∧
    ∀ b, m.get b = if b < base then old b else if b < next then g b else none := by
  refine ⟨{ old, base, new := (List.range (next - base)).map fun i => g (next - 1 - i), next, low }, rfl, rfl, rfl, rfl, by simp; omega, fun b => ?_⟩
  unfold Mem.get
  simp only
  by_cases h1 : b < base
  · simp [h1]
  · by_cases h2 : b < next
    · simp only [h1, h2, if_false, if_true, List.getD_eq_getElem?_getD, List.getElem?_map]
      have h3 : next - 1 - b < next - base := by omega
      rw [List.getElem?_range h3]
      simp only [Option.map_some, Option.getD_some]
      congr 1; omega
    · simp [h1, h2]

/-- An operation whose end can be told has an end. -/
theorem wp_extract {P : Program} {o : Oper} {a : Act} {w : World} {K : Act → World → Prop} (h : o.wp P a w K (fun _ _ _ => False)) : ∃ a' w', K a' w' := by
  unfold Oper.wp at h
  generalize (execOp a.eval o).run P w = r at h
  cases r with
  | ok n w' =>
    cases n with
    | value v => exact ⟨_, _, h⟩
    | skip => exact ⟨_, _, h⟩
    | defer d => exact ⟨_, _, h⟩
    | enter f args =>
      obtain ⟨e, w'', fr, hR, _⟩ := (show Calls P f args w' _ from h) []
      cases e with
      | returned v => exact ⟨_, _, hR⟩
      | panicked c => exact hR.elim
      | outgrown => obtain ⟨_, _, hF⟩ := (show LetsOut _ from hR); exact hF.elim
    | row row args =>
      obtain ⟨v, w'', hR, _⟩ := (show Rows P row args w' _ from h) default []
      exact ⟨_, _, hR⟩
    | _ => exact h.elim
  | halt x w' => cases x <;> exact h.elim

section lex
variable {P : Program} {base : Nat} {old : Nat → Option Blk} {env : Env} {callf : CallF}
variable (hE : EnvOk P base old env) (hC : CallSound P base old callf)

/-- At step i some world stands to the lexical run. -/
def At (P : Program) (base : Nat) (old : Nat → Option Blk) (A : Nat → Act) (M : Nat → Mem) (i : Nat) : Prop := (M i).base = base ∧ (M i).old = old ∧ ∃ φ w a', WR P φ (M i) w ∧ ActR φ (A i) a'

include hE hC in
theorem lex_step {os : Array Oper} (hok : ∀ (i : Nat) (o : Oper), os[i]? = some o → operOk base o = true) {A : Nat → Act} {M : Nat → Mem} {V : Nat → Value} {R : Nat → Rec} {i : Nat} (hst : StepAt env callf P os A M V R i) (h : At P base old A M i) :
    At P base old A M (i + 1) ∧ ∃ φ w ψ w', WR P φ (M i) w ∧ Sim P φ (M i) w ψ (M (i + 1)) w' ∧
      ∀ o m', os[i]? = some o → Region.wanted o (yielded os (A i).tmps) = true → opV env callf P (A i).eval o (M i).mark = some (.val (V i), m') → Sim P φ (M i).mark w ψ m' w' := by
  obtain ⟨hb, ho, φ, w, a', hw, ha⟩ := h
  obtain ⟨o, hoi, hA, ⟨hwt, m', hv, hM, hR⟩ | ⟨hwt, hV, hM, hR⟩⟩ := hst
  · have hx := op_wp (K := fun a2 w2 => ∃ ψ, Sim P φ (M i).mark w ψ m' w2 ∧ ActR ψ ((A i).put o.dst (V i)) a2) (Q := fun _ _ _ => False) (m := (M i).mark) hE hC hb ho (hw.low _) ha (hok i o hoi) hv
      (fun v hv2 ψ w2 v' hvr hs => by cases hv2; exact ⟨ψ, hs, (ha.mono hs.ext).put o.dst hvr⟩) (fun v hv2 => by cases hv2)
    obtain ⟨a2, w2, ψ, hs, ha2⟩ := wp_extract hx
    have hs2 := hs.relow hw
    rw [← hM] at hs2
    refine ⟨⟨hs2.base.trans hb, hs2.oldm.trans ho, ψ, w2, a2, hs2.wr, hA ▸ ha2⟩, φ, w, ψ, w2, hw, hs2, ?_⟩
    intro o2 m2 ho2 _ hv2
    rw [hoi] at ho2
    cases ho2
    rw [hv] at hv2
    cases hv2
    exact hs
  · refine ⟨⟨hM ▸ hb, hM ▸ ho, φ, w, a'.put o.dst undef, hM ▸ hw, by rw [hA, hV]; exact ha.put o.dst (VR.undef φ)⟩, φ, w, φ, w, hw, by rw [hM]; exact Sim.refl hw, ?_⟩
    intro o2 m2 ho2 hw2 _
    rw [hoi] at ho2
    cases ho2
    rw [hwt] at hw2
    cases hw2

end lex
end Go.D
