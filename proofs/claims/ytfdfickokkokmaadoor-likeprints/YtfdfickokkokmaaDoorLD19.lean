/- D: the whole: a call that D tells ends so, in every world and on every tape. -/
import Derived.Test.YtfdfickokkokmaaDoorLD18
import Derived.Still
set_option linter.unusedSimpArgs false
set_option linter.unusedVariables false
namespace Go.D
open Go

section main
variable {P : Program} {base : Nat} {old : Nat → Option Blk} {env : Env} {callf : CallF}
variable {os : Array Oper} {A : Nat → Act} {M : Nat → Mem} {V : Nat → Value} {R : Nat → Rec}
variable {φ0 : Phi} {w0 : World}

theorem Run.op_step (r : Run P base old env callf os A M V R) (hE : EnvOk P base old env) (hC : CallSound P base old callf) (hw0 : WR P φ0 (M 0) w0) {S : Nat → Bool} {ψ : Phi} {mS : Mem} {a' : Act} {w' : World}
    {j : Nat} {o : Oper} (hj : j < os.size) (ho : os[j]? = some o) (hS : S j = false) (hed : ∀ e ∈ o.after, Region.binds .any e = true → S e.on = true)
    (inv : Inv P os M R V (A 0) (M 0) φ0 w0 S ψ mS a' w') {Q : Exit → Act → World → Prop} {K : Act → World → Prop} (hK : ∀ ψ' mS' a2 w2, Inv P os M R V (A 0) (M 0) φ0 w0 (upd S j) ψ' mS' a2 w2 → K a2 w2) :
    if Region.wanted o (yielded os a'.tmps) then o.wp P a' w' K Q else K (a'.put o.dst undef) w' := by
  have hb0 : (M 0).base = base := (r.at_ 0 (Nat.zero_le _)).1
  have hsz : ∀ i, i ≤ os.size → (A i).tmps.size = (A 0).tmps.size := by
    intro i hi
    exact (vS_all (os := os) (V := V) (A := A) i (fun k hk => by
      obtain ⟨o, ho, hA, _⟩ := r.seq k (by omega)
      exact ⟨o, ho, hA⟩) rfl 0).2
  have htmp : ∀ t, t ∈ o.looksAt os → VR ψ ((A j).tmps.getD t undef) (a'.tmps.getD t undef) := by
    intro t ht
    rw [← r.temps hj ho hS inv.closed hed ht]
    exact inv.tmp t
  have hwant : Region.wanted o (yielded os (A j).tmps) = Region.wanted o (yielded os a'.tmps) := by
    unfold Region.wanted
    cases hg : o.guard with
    | none => rfl
    | some g =>
      obtain ⟨g, b⟩ := g
      simp only
      rw [yielded_rel (os := os) (φ := ψ) (x := (A j).tmps) (y := a'.tmps) ((hsz j (Nat.le_of_lt hj)).trans inv.sz.symm) g]
      intro t ht
      refine htmp t ?_
      unfold Oper.looksAt
      refine List.mem_append_right _ ?_
      rw [hg]
      simp only [ht, Option.toList_some, List.mem_singleton]
  obtain ⟨o2, ho2, hA, ⟨hwt, m', hv, hM, hR⟩ | ⟨hwt, hV, hM, hR⟩⟩ := r.seq j hj
  · rw [ho] at ho2
    cases ho2
    rw [← hwant, hwt, if_pos rfl]
    obtain ⟨mm, mm', b1, b2, b3, b4, hop, g1, g2, t1, t2, n', l'⟩ := r.meets hj ho hS inv.closed hed hv hM hR
    obtain ⟨hbj, hoj, φj, wj, aj', hwj, haj⟩ := r.at_ j (Nat.le_of_lt hj)
    have hφj : ∀ b L, φj b = some L → b < (M j).next := fun b L h => hwj.lt h
    have hWS := inv.sim.wr
    have hle : base ≤ (M j).next := hbj ▸ hwj.le
    have hlive : ∀ b, mm.get b ≠ none → mS.get b = mm.get b ∧ (M j).get b = mm.get b := by
      intro b hb
      rcases g1 b with h | ⟨h1, h2⟩
      · exact absurd h hb
      · rw [inv.get, h2, ← h1]; exact ⟨rfl, rfl⟩
    have hlt : ∀ b, mm.get b ≠ none → b < (M j).next := by
      intro b hb
      rcases Nat.lt_or_ge b (M j).next with h | h
      · exact h
      · exact absurd (Mem.get_ge (by rw [b1]; omega) (by rw [b3]; exact h)) hb
    have hwm : WR P (ψ.below (M j).next) mm w' := by
      refine ⟨b4, ?_, fun b L hL => hWS.rng b L (Phi.below_some hL).2, ?_, ?_, ?_, ?_, ?_⟩
      · intro b x L hx hL
        obtain ⟨hbl, hL⟩ := Phi.below_some hL
        obtain ⟨h1, h2⟩ := hlive b (by rw [hx]; simp)
        have h3 := hWS.live b x L (by rw [h1]; exact hx) hL
        rw [inv.sim.base, hb0, ← b1] at h3
        obtain ⟨Lj, hLj⟩ := hwj.mapd b (by rw [h2, hx]; simp)
        exact (hwj.live b x Lj (by rw [h2]; exact hx) hLj).restrict hφj h3
      · intro b c L N hb hc hL hN he
        exact hWS.inj b c L N (by rw [(hlive b hb).1]; exact hb) (by rw [(hlive c hc).1]; exact hc) (Phi.below_some hL).2 (Phi.below_some hN).2 he
      · intro b hb
        unfold Phi.below
        rw [if_neg (by omega)]
      · intro b hb
        rw [b1] at hb
        obtain ⟨L, hL, he⟩ := hWS.old b (by rw [inv.sim.base, hb0]; exact hb)
        exact ⟨L, Phi.below_of (by omega) hL, he⟩
      · intro b L hb hL
        have := hWS.own b L (by rw [inv.sim.base, hb0, ← b1]; exact hb) (Phi.below_some hL).2
        rw [inv.sim.base, hb0, ← b1] at this
        exact this
      · intro b hb
        obtain ⟨L, hL⟩ := hWS.mapd b (by rw [(hlive b hb).1]; exact hb)
        exact ⟨L, Phi.below_of (hlt b hb) hL⟩
    have hρ : ∀ x ∈ o.op.operands, VR (ψ.below (M j).next) ((A j).eval x) (a'.eval x) := by
      intro x hx
      have hxok : opndOk base x = true := List.all_eq_true.1 (r.ok j o ho) x (Array.mem_toList_iff.2 hx)
      have h1 : VR ψ ((A j).eval x) (a'.eval x) := opnd_rel' hWS (fun t ht => htmp t (by
        unfold Oper.looksAt
        refine List.mem_append_left _ (List.mem_filterMap.2 ⟨x, Array.mem_toList_iff.2 hx, ?_⟩)
        rw [ht])) (by rw [inv.sim.base, hb0]; exact hxok)
      have h2 := opnd_rel hwj haj (x := x) (by rw [hbj]; exact hxok)
      exact h2.restrict hφj h1
    refine op_wpρ hE hC b1 b2 hwm hρ hop ?_ ?_
    · rintro v hv2 χ w1 v' hvr hs
      cases hv2
      obtain ⟨ψ', mS', hinv⟩ := r.step_inv hj ho hS hed inv hw0 b1 b3 g1 g2 t1 t2 n' l' hM hvr hs
      exact hK ψ' mS' _ _ hinv
    · intro v hv2; cases hv2
  · rw [ho] at ho2
    cases ho2
    rw [← hwant, hwt, if_neg (by simp)]
    have hnt : ∀ b, ¬ touched M R j b := by
      rintro b (⟨h, _⟩ | ⟨h1, h2⟩)
      · rw [hR] at h; cases h
      · rw [hM] at h2; omega
    refine hK ψ mS _ _ ⟨inv.closed' ho hed, fun b => ?_, inv.next, inv.low, inv.sim, fun i hi hSi => inv.un i hi (upd_false hSi).2, by rw [size_put]; exact inv.sz, by rw [defers_put]; exact inv.df, fun t => ?_⟩
    · rw [(gS_upd (M := M) (R := R) (S := S) (b := b) hj (fun i h1 h2 h3 h4 => absurd h4 (hnt b)) hS).2 (hnt b)]
      exact inv.get b
    · rw [r.vS_step hj ho hS inv.closed, getD_put, inv.sz, hV]
      split
      · exact VR.undef ψ
      · exact inv.tmp t

def count (S : Nat → Bool) (n : Nat) : Nat := ((List.range n).filter fun i => !S i).length

theorem count_upd {S : Nat → Bool} {n j : Nat} (hj : j < n) (hS : S j = false) : count (upd S j) n + 1 = count S n := by
  unfold count
  induction n with
  | zero => omega
  | succ n ih =>
    rw [List.range_succ, List.filter_append, List.filter_append, List.length_append, List.length_append]
    by_cases e : j = n
    · subst e
      have h1 : (List.range j).filter (fun i => !upd S j i) = (List.range j).filter (fun i => !S i) := by
        apply List.filter_congr
        intro i hi
        have := List.mem_range.1 hi
        simp [upd, show i ≠ j by omega]
      rw [h1]
      simp [upd, hS]
    · have := ih (by omega)
      have h2 : ([n].filter fun i => !upd S j i) = [n].filter fun i => !S i := by
        apply List.filter_congr
        intro i hi
        simp only [List.mem_singleton] at hi
        subst hi
        simp [upd, show i ≠ j by omega]
      rw [h2]
      omega

theorem Run.any_wp (r : Run P base old env callf os A M V R) (hE : EnvOk P base old env) (hC : CallSound P base old callf) (hw0 : WR P φ0 (M 0) w0) {Q : Exit → Act → World → Prop}
    (hQ : ∀ S ψ mS a' w', (∀ i, i < os.size → S i = true) → Inv P os M R V (A 0) (M 0) φ0 w0 S ψ mS a' w' → Q .normal a' w') :
    ∀ (fuel : Nat) (listed : Array Bool) (ψ : Phi) (mS : Mem) (a' : Act) (w' : World), listed.size = os.size → count (fun i => listed.getD i false) os.size ≤ fuel →
      Inv P os M R V (A 0) (M 0) φ0 w0 (fun i => listed.getD i false) ψ mS a' w' → wpAny P .any os Q fuel listed a' w' := by
  have hdone : ∀ (listed : Array Bool), listed.size = os.size → Region.ready .any os listed = [] → ∀ i, i < os.size → listed.getD i false = true := by
    intro listed hsz hr i
    induction i using Nat.strongRecOn with
    | _ i ih =>
      intro hi
      cases hS : listed.getD i false with
      | true => rfl
      | false =>
        exfalso
        have hget : os[i]? = some os[i] := by simp [hi]
        have : i ∈ Region.ready .any os listed := mem_ready.2 ⟨by
          simp only [Array.getD_eq_getD_getElem?] at hS ⊢
          rw [Array.getElem?_eq_getElem (by omega)] at hS ⊢
          exact hS, os[i], hget, fun e he hb => ih e.on ((drawnStatic_spec r.st hget).1 e he hb) (by have := (drawnStatic_spec r.st hget).1 e he hb; omega)⟩
        rw [hr] at this
        cases this
  intro fuel
  induction fuel with
  | zero =>
    intro listed ψ mS a' w' hsz hc inv
    have hall : ∀ i, i < os.size → listed.getD i false = true := by
      intro i hi
      cases hS : listed.getD i false with
      | true => rfl
      | false =>
        exfalso
        have : i ∈ (List.range os.size).filter fun i => !listed.getD i false := List.mem_filter.2 ⟨List.mem_range.2 hi, by simp [hS]⟩
        have h3 := List.length_pos_of_mem this
        have h4 : ((List.range os.size).filter fun i => !listed.getD i false).length ≤ 0 := hc
        omega
    refine ⟨?_, hQ _ ψ mS a' w' hall inv⟩
    rw [List.eq_nil_iff_forall_not_mem]
    intro i hi
    obtain ⟨h1, oi, hoi, _⟩ := mem_ready.1 hi
    have hlt : i < os.size := by
      rcases Nat.lt_or_ge i os.size with h | h
      · exact h
      · rw [Array.getElem?_eq_none h] at hoi; cases hoi
    have h2 := hall i hlt
    simp only [Array.getD_eq_getD_getElem?] at h1 h2
    rw [Array.getElem?_eq_getElem (by omega)] at h1 h2
    simp only [Option.getD_some] at h1 h2
    rw [h1] at h2; cases h2
  | succ fuel ih =>
    intro listed ψ mS a' w' hsz hc inv
    refine ⟨fun hr => hQ _ ψ mS a' w' (hdone listed hsz hr) inv, fun j hjr => ?_⟩
    obtain ⟨h1, o, ho, hed⟩ := mem_ready.1 hjr
    have hj : j < os.size := by
      rcases Nat.lt_or_ge j os.size with h | h
      · exact h
      · rw [Array.getElem?_eq_none h] at ho; cases ho
    have hS : (fun i => listed.getD i false) j = false := by
      simp only [Array.getD_eq_getD_getElem?] at h1 ⊢
      rw [Array.getElem?_eq_getElem (by omega)] at h1 ⊢
      exact h1
    have hupd : (fun i => (listed.setIfInBounds j true).getD i false) = upd (fun i => listed.getD i false) j := by
      funext i
      simp only [upd, Array.getD_eq_getD_getElem?, Array.getElem?_setIfInBounds]
      by_cases e : j = i
      · subst e; simp [show j < listed.size by omega]
      · simp [e, Ne.symm e]
    have := r.op_step hE hC hw0 hj ho hS hed inv (Q := Q) (K := wpAny P .any os Q fuel (listed.setIfInBounds j true)) (fun ψ' mS' a2 w2 hinv => by
      refine ih _ ψ' mS' a2 w2 (by simpa using hsz) ?_ (by rw [hupd]; exact hinv)
      rw [hupd]
      have := count_upd (S := fun i => listed.getD i false) hj hS
      omega)
    unfold wpOp
    rw [ho]
    simp only
    split at this
    · rename_i h; rw [if_pos h]; exact .inl this
    · rename_i h; rw [if_neg h]; exact this

end main

theorem drawn_sound {P : Program} (hm : P.follows .mixedOrders = true) {base : Nat} {old : Nat → Option Blk} {env : Env} (hE : EnvOk P base old env) (callf : CallF) (hC : CallSound P base old callf) : DrawnSound P base old env callf drawnStatic := by
  intro id os a a' m w φ x a1 m1 Q hok hst hb ho hw ha h hg
  unfold drawn at h
  split at h
  · rename_i rs a2 m2 htr
    split at h
    · rename_i hpr
      simp only [Option.some.injEq, Prod.mk.injEq] at h
      obtain ⟨rfl, rfl, rfl⟩ := h
      obtain ⟨A, M, V, R, hA0, hM0, hA1, hM1, hlen, hR, hsteps⟩ := trace_seq (List.range os.size) 0 a m rs a2 m2 (by rw [List.length_range, List.range_eq_range']) htr
      simp only [List.length_range, Nat.zero_add] at hA1 hM1 hlen hR hsteps
      have hat : ∀ i, i ≤ os.size → At P base old A M i := by
        intro i
        induction i with
        | zero => intro _; exact ⟨hM0 ▸ hb, hM0 ▸ ho, φ, w, a', hM0 ▸ hw, hA0 ▸ ha⟩
        | succ i ih => intro hi; exact (lex_step hE hC hok (hsteps i (Nat.zero_le _) (by omega)) (ih (by omega))).1
      have r : Run P base old env callf os A M V R := by
        refine ⟨hok, hst, fun i hi => hsteps i (Nat.zero_le _) hi, ?_, hat, fun i hi => facts hE hC hok (hsteps i (Nat.zero_le _) hi) (hat i (by omega))⟩
        intro i j hij hj
        rcases Bool.or_eq_true _ _ ▸ hpr with hp | hp
        · exact .inr (still_clash (List.all_eq_true.1 hp _ (List.mem_of_getElem? (hR i (by omega)))) (List.all_eq_true.1 hp _ (List.mem_of_getElem? (hR j hj))))
        · have := pairsOk_spec rs 0 hp i j (R i) (R j) hij (hR i (by omega)) (hR j hj)
          simp only [Nat.zero_add, pairOk, Bool.or_eq_true, Bool.not_eq_true'] at this
          exact this
      subst hA0 hM0
      have hn := r.nexts (Nat.zero_le _) (Nat.le_refl _)
      obtain ⟨mS, s1, s2, s3, s4, s5, s6⟩ := Mem.exists_get base (M os.size).next (M os.size).low old (M 0).get (Nat.le_trans (hb ▸ hw.le) hn)
      have hget : ∀ b, mS.get b = (M 0).get b := by
        intro b
        rw [s6]
        by_cases h1 : b < base
        · rw [if_pos h1, get_old (by omega), ho]
        · rw [if_neg h1]
          by_cases h2 : b < (M os.size).next
          · rw [if_pos h2]
          · rw [if_neg h2, Mem.get_ge (by omega) (by omega)]
      have hS0 : ∀ i, (Array.replicate os.size false).getD i false = false := by
        intro i
        simp only [Array.getD_eq_getD_getElem?, Array.getElem?_replicate]
        split <;> rfl
      have hinv : Inv P os M R V (A 0) (M 0) φ w (fun i => (Array.replicate os.size false).getD i false) φ mS a' { w with drawn := w.drawn + 1 } := by
        refine ⟨fun j o _ hS => ?_, fun b => ?_, s3, s4, ?_, fun i hi _ b h1 h2 => ?_, ha.size.symm, ha.d2, fun t => ?_⟩
        · simp only [hS0] at hS; cases hS
        · rw [hget]
          have : ∀ k, gS M R (fun i => (Array.replicate os.size false).getD i false) k b = (M 0).get b := by
            intro k
            induction k with
            | zero => rfl
            | succ k ih => unfold gS; rw [if_neg (by rintro ⟨h, _⟩; simp only [hS0] at h; cases h), ih]
          rw [this]
        · refine ⟨Phi.le_refl φ, ⟨s5, ?_, hw.rng, ?_, ?_, ?_, ?_, ?_⟩, fun _ _ _ => rfl, Nat.le_refl _, rfl, rfl, rfl, by rw [s1, hb], by rw [s2, ho], by rw [s3]; exact hn, fun b _ h => by (rw [hget]; exact h), fun b L h1 h2 => by (rw [h1] at h2; cases h2), fun b hb => by rw [s4]; exact r.lows (Nat.zero_le _) (Nat.le_refl _) hb,
            fun b _ _ => hget b, fun _ _ _ _ _ => rfl, fun b L h1 h2 => by (rw [h1] at h2; cases h2)⟩
          · intro b x L hx hL; rw [hget] at hx; rw [s1, ← hb]; exact hw.live b x L hx hL
          · intro b c L N h1 h2; rw [hget] at h1 h2; exact hw.inj b c L N h1 h2
          · intro b h; rw [s3] at h; exact hw.fresh b (by omega)
          · intro b h; rw [s1, ← hb] at h; exact hw.old b h
          · intro b L h; rw [s1, ← hb] at h ⊢; exact hw.own b L h
          · intro b h; rw [hget] at h; exact hw.mapd b h
        · have := r.nexts (Nat.zero_le i) (by omega)
          exact hw.fresh b (by omega)
        · have : ∀ k, vS os (A 0) V (fun i => (Array.replicate os.size false).getD i false) k t = (A 0).tmps.getD t undef := by
            intro k
            induction k with
            | zero => rfl
            | succ k ih => unfold vS; rw [if_neg (by rintro ⟨h, _⟩; simp only [hS0] at h; cases h), ih]
          rw [this]
          exact ha.tmp t
      refine wp_region_any hm (r.any_wp hE hC hw ?_ os.size (Array.replicate os.size false) φ mS a' _ (by simp) ?_ hinv)
      · intro S ψ mS' a3 w3 hall inv
        have hgn : ∀ b, mS'.get b = (M os.size).get b := fun b => by rw [inv.get]; exact gS_all r.facts os.size (Nat.le_refl _) (fun i hi _ => hall i hi)
        obtain ⟨q1, q2, φn, wn, an, hwn, han⟩ := hat os.size (Nat.le_refl _)
        have hsim : Sim P φ (M 0) w ψ (M os.size) w3 := inv.sim.mem hwn.ok (by rw [q1, inv.sim.base, hb]) (by rw [q2, inv.sim.oldm, ho]) inv.next.symm inv.low.symm (fun b => (hgn b).symm)
        have hvs := fun t => vS_all (os := os) (V := V) (A := A) (a := A 0) os.size (fun k hk => by
          obtain ⟨o, ho, hA, _⟩ := r.seq k hk
          exact ⟨o, ho, hA⟩) rfl t
        have hact : ActR ψ a2 a3 := by
          refine ⟨by rw [← hA1, (hvs 0).2, inv.sz], fun t => ?_, by rw [← hA1]; exact han.d1, inv.df⟩
          have := inv.tmp t
          rw [vS_at (j := os.size) (Nat.le_refl _) (fun i hi _ => hall i hi) (fun i h1 h2 => by omega), (hvs t).1, hA1] at this
          exact this
        rw [hM1] at hsim
        exact hg ψ a3 w3 hact hsim
      · unfold count
        exact Nat.le_trans (List.length_filter_le _ _) (by simp)
    · cases h
  · cases h

/-- What D tells of calls is so. -/
theorem sound {P : Program} (hm : P.follows .mixedOrders = true) {base : Nat} {old : Nat → Option Blk} {env : Env} (hE : EnvOk P base old env) (hp : progOk P base drawnStatic = true) (k : Nat) : CallSound P base old (call P env k) :=
  call_sound hp hE (fun callf hC => drawn_sound hm hE callf hC) k

end Go.D
