/- D: a drawn region is sound. -/
import Derived.Test.YtfdfickokkokmaaDoorLD17
set_option linter.unusedSimpArgs false
set_option linter.unusedVariables false
namespace Go.D
open Go

section main
variable {P : Program} {base : Nat} {old : Nat → Option Blk} {env : Env} {callf : CallF}
variable {os : Array Oper} {A : Nat → Act} {M : Nat → Mem} {V : Nat → Value} {R : Nat → Rec}
variable {φ0 : Phi} {w0 : World} {S : Nat → Bool} {ψ : Phi} {mS : Mem} {a' : Act} {w' : World}

theorem upd_true {j i : Nat} (h : S i = true) : upd S j i = true := by unfold upd; split <;> simp [h]
theorem upd_false {j i : Nat} (h : upd S j i = false) : i ≠ j ∧ S i = false := by
  unfold upd at h
  split at h
  · cases h
  · exact ⟨‹_›, h⟩

theorem Inv.closed' (inv : Inv P os M R V (A 0) (M 0) φ0 w0 S ψ mS a' w') {j : Nat} {o : Oper} (ho : os[j]? = some o) (hed : ∀ e ∈ o.after, Region.binds .any e = true → S e.on = true) :
    ∀ (i : Nat) (oi : Oper), os[i]? = some oi → upd S j i = true → ∀ e ∈ oi.after, Region.binds .any e = true → upd S j e.on = true := by
  intro i oi hoi hS e he hb
  refine upd_true ?_
  by_cases h : i = j
  · subst h
    rw [ho] at hoi
    cases hoi
    exact hed e he hb
  · simp only [upd, h, if_false] at hS
    exact inv.closed i oi hoi hS e he hb

theorem Run.vS_step {j : Nat} {o : Oper} (hj : j < os.size) (ho : os[j]? = some o) (hS : S j = false)
    (hcl : ∀ (j : Nat) (o : Oper), os[j]? = some o → S j = true → ∀ e ∈ o.after, Region.binds .any e = true → S e.on = true) (r : Run P base old env callf os A M V R) (t : Nat) :
    vS os (A 0) V (upd S j) os.size t = if o.dst = some t ∧ t < (A 0).tmps.size then V j else vS os (A 0) V S os.size t := by
  refine vS_upd hj ho ?_ hS t
  intro i hi hin hSi d hd
  obtain ⟨oi, hoi⟩ : ∃ oi, os[i]? = some oi := ⟨os[i], by simp [hin]⟩
  rw [hoi, Option.bind_some]
  exact (Oper.apart_spec ((r.before2 ho hS hcl hi hin hSi).2 oi hoi)).2.1 d hd

/-- The relation behind one operation more. -/
theorem Run.step_inv (r : Run P base old env callf os A M V R) {j : Nat} {o : Oper} (hj : j < os.size) (ho : os[j]? = some o) (hS : S j = false) (hed : ∀ e ∈ o.after, Region.binds .any e = true → S e.on = true)
    (inv : Inv P os M R V (A 0) (M 0) φ0 w0 S ψ mS a' w') (hw0 : WR P φ0 (M 0) w0) {mm mm' : Mem} {χ : Phi} {w1 : World} {v' : Value} {m' : Mem}
    (b1 : mm.base = base) (b3 : mm.next = (M j).next)
    (g1 : ∀ b, mm.get b = none ∨ (mm.get b = (M j).get b ∧ gS M R S os.size b = (M j).get b)) (g2 : ∀ b, b < (M j).next → gS M R S os.size b = (M j).get b → mm.get b = (M j).get b)
    (t1 : ∀ b, touched M R j b → mm'.get b = (M (j + 1)).get b) (t2 : ∀ b, ¬ touched M R j b → mm'.get b = mm.get b) (n' : mm'.next = (M (j + 1)).next) (l' : mm'.low = m'.low)
    (hM : M (j + 1) = m'.relow (M j))
    (hvr : VR χ (V j) v') (hs : Sim P (ψ.below (M j).next) mm w' χ mm' w1) :
    ∃ ψ' mS', Inv P os M R V (A 0) (M 0) φ0 w0 (upd S j) ψ' mS' (a'.put o.dst v') w1 := by
  have hb0 : (M 0).base = base := (r.at_ 0 (Nat.zero_le _)).1
  have ho0 : (M 0).old = old := (r.at_ 0 (Nat.zero_le _)).2.1
  have hnx := r.nexts (show j ≤ os.size by omega) (Nat.le_refl _)
  have hnx1 := r.nexts (show j + 1 ≤ os.size by omega) (Nat.le_refl _)
  have hn0 := r.nexts (Nat.zero_le j) (Nat.le_of_lt hj)
  have hjj := (r.facts j hj).next
  have hbn : base ≤ (M 0).next := hb0 ▸ hw0.le
  -- the relation's new map
  let ψ' : Phi := fun b => if (M j).next ≤ b ∧ b < (M (j + 1)).next then χ b else ψ b
  have hin : ∀ b, (M j).next ≤ b → b < (M (j + 1)).next → ψ' b = χ b := fun b h1 h2 => if_pos ⟨h1, h2⟩
  have hout : ∀ b, ¬ ((M j).next ≤ b ∧ b < (M (j + 1)).next) → ψ' b = ψ b := fun b h => if_neg h
  have hψ : ψ.le ψ' := by
    intro b L hL
    by_cases h : (M j).next ≤ b ∧ b < (M (j + 1)).next
    · rw [inv.un j hj hS b h.1 h.2] at hL; cases hL
    · rw [hout b h]; exact hL
  have hχb : ∀ b L, b < (M j).next → χ b = some L → ψ b = some L := by
    intro b L hb hL
    cases hc : ψ.below (M j).next b with
    | some L' =>
      have := hs.ext b L' hc
      rw [hL] at this
      cases this
      exact (Phi.below_some hc).2
    | none =>
      have := hs.dom b L hL hc
      rw [b3] at this
      omega
  have hχ : χ.le ψ' := by
    intro b L hL
    by_cases h : (M j).next ≤ b ∧ b < (M (j + 1)).next
    · rw [hin b h.1 h.2]; exact hL
    · rw [hout b h]
      by_cases hlt : b < (M j).next
      · exact hχb b L hlt hL
      · have := hs.wr.fresh b (by rw [n']; omega)
        rw [this] at hL; cases hL
  -- the new memory
  obtain ⟨mS', s1, s2, s3, s4, s5, s6⟩ := Mem.exists_get base (M os.size).next (M os.size).low old (gS M R (upd S j) os.size) (Nat.le_trans hbn (r.nexts (Nat.zero_le _) (Nat.le_refl _)))
  have hget' : ∀ b, mS'.get b = gS M R (upd S j) os.size b := by
    intro b
    rw [s6]
    by_cases h1 : b < base
    · rw [if_pos h1]
      refine (gS_const (fun i hi => ?_) os.size (Nat.le_refl _)).symm
      obtain ⟨q1, q2, _⟩ := r.at_ i hi
      rw [get_old (by omega), q2]
    · rw [if_neg h1]
      by_cases h2 : b < (M os.size).next
      · rw [if_pos h2]
      · rw [if_neg h2]
        refine (gS_const (fun i hi => ?_) os.size (Nat.le_refl _)).symm
        obtain ⟨q1, q2, _⟩ := r.at_ i hi
        exact Mem.get_ge (by omega) (Nat.le_trans (r.nexts hi (Nat.le_refl _)) (by omega))
  have hup : ∀ b, (touched M R j b → mS'.get b = (M (j + 1)).get b) ∧ (¬ touched M R j b → mS'.get b = gS M R S os.size b) := by
    intro b
    have := gS_upd (M := M) (R := R) (S := S) (b := b) hj (fun i h1 h2 h3 h4 => r.after_ hj ho hS inv.closed h4 i h1 h2 h3) hS
    rw [hget']
    exact this
  -- live blocks of the operation's own memory are live in the whole one
  have hlive : ∀ b, mm.get b ≠ none → mS.get b ≠ none ∧ mS.get b = mm.get b := by
    intro b hb
    rcases g1 b with h | ⟨h1, h2⟩
    · exact absurd h hb
    · rw [inv.get, h2, ← h1]; exact ⟨hb, rfl⟩
  have hmmlt : ∀ b, mm.get b ≠ none → b < (M j).next := by
    intro b hb
    rcases Nat.lt_or_ge b (M j).next with h | h
    · exact h
    · exact absurd (Mem.get_ge (by rw [b1]; omega) (by rw [b3]; exact h)) hb
  have hWS := inv.sim.wr
  -- a live block of the new memory: the operation's, or one that it did not meet
  have hcase : ∀ b, mS'.get b ≠ none → (mm'.get b ≠ none ∧ mS'.get b = mm'.get b) ∨ (¬ touched M R j b ∧ mm.get b = none ∧ mS.get b ≠ none ∧ mS'.get b = mS.get b) := by
    intro b hb
    by_cases ht : touched M R j b
    · have e1 := (hup b).1 ht
      rw [← t1 b ht] at e1
      exact .inl ⟨by rw [← e1]; exact hb, e1⟩
    · have e1 := (hup b).2 ht
      rw [← inv.get] at e1
      by_cases hm : mm.get b = none
      · exact .inr ⟨ht, hm, by rw [← e1]; exact hb, e1⟩
      · exact .inl ⟨by rw [t2 b ht]; exact hm, by rw [e1, t2 b ht, (hlive b hm).2]⟩
  have hin' : ∀ b L, mm'.get b ≠ none → ψ' b = some L → χ b = some L := by
    intro b L hb hL
    obtain ⟨L', hL'⟩ := hs.wr.mapd b hb
    have := hχ b L' hL'
    rw [hL] at this
    cases this
    exact hL'
  have hnt : ∀ b, ¬ touched M R j b → ψ' b = ψ b := fun b ht => hout b (fun h => ht (.inr h))
  -- concrete blocks that the operation did not meet are as they were
  have hkeep : ∀ b L, mS.get b ≠ none → mm.get b = none → ψ b = some L → w1.heap[L.blk]? = w'.heap[L.blk]? := by
    intro b L hb hm hL
    refine hs.frame L.blk (hWS.rng b L hL) ?_
    intro c N _ hN he
    cases hc : mm.get c with
    | none => rfl
    | some x =>
      have hcl := hlive c (by rw [hc]; simp)
      have := hWS.inj c b N L hcl.1 hb (Phi.below_some hN).2 hL he
      subst this
      rw [hc] at hm; cases hm
  have hWR : WR P ψ' mS' w1 := by
    refine ⟨s5, ?_, ?_, ?_, ?_, ?_, ?_, ?_⟩
    · intro b x L hx hL
      rw [s1]
      rcases hcase b (by rw [hx]; simp) with ⟨h1, h2⟩ | ⟨h1, h2, h3, h4⟩
      · have := hs.wr.live b x L (by rw [← h2]; exact hx) (hin' b L h1 hL)
        rw [hs.base, b1] at this
        exact this.mono hχ
      · rw [hnt b h1] at hL
        rw [hkeep b L h3 h2 hL]
        have := hWS.live b x L (by rw [← h4]; exact hx) hL
        rw [inv.sim.base, hb0] at this
        exact this.mono hψ
    · intro b L hL
      by_cases h : (M j).next ≤ b ∧ b < (M (j + 1)).next
      · rw [hin b h.1 h.2] at hL; exact hs.wr.rng b L hL
      · rw [hout b h] at hL; exact Nat.lt_of_lt_of_le (hWS.rng b L hL) hs.size
    · -- no two live blocks are one
      have mix : ∀ b c L N, mm'.get b ≠ none → ψ' b = some L → ¬ touched M R j c → mm.get c = none → mS.get c ≠ none → ψ' c = some N → L.blk = N.blk → b = c := by
        intro b c L N hb hL hc hcm hcS hN he
        rw [hnt c hc] at hN
        have hLχ := hin' b L hb hL
        by_cases hbm : mm.get b = none
        · -- a block that the operation made
          have hge : (M j).next ≤ b := by
            rcases Nat.lt_or_ge b (M j).next with h | h
            · exact absurd (hs.dead b (by rw [b3]; exact h) hbm) hb
            · exact h
          have hn : ψ.below (M j).next b = none := by unfold Phi.below; rw [if_neg (by omega)]
          rcases hs.new b L hLχ hn with h | ⟨d, Q, hd1, hd2, hd3, hd4⟩
          · have := hWS.rng c N hN; omega
          · have := hWS.inj d c Q N (hlive d hd2).1 hcS (Phi.below_some hd3).2 hN (hd4.trans he)
            subst this
            exact absurd hcm hd2
        · exact hWS.inj b c L N (hlive b hbm).1 hcS (hχb b L (hmmlt b hbm) hLχ) hN he
      intro b c L N hb hc hL hN he
      rcases hcase b hb with ⟨h1, h2⟩ | ⟨h1, h2, h3, h4⟩ <;> rcases hcase c hc with ⟨k1, k2⟩ | ⟨k1, k2, k3, k4⟩
      · exact hs.wr.inj b c L N h1 k1 (hin' b L h1 hL) (hin' c N k1 hN) he
      · exact mix b c L N h1 hL k1 k2 k3 hN he
      · exact (mix c b N L k1 hN h1 h2 h3 hL he.symm).symm
      · rw [hnt b h1] at hL
        rw [hnt c k1] at hN
        exact hWS.inj b c L N h3 k3 hL hN he
    · intro b hb
      rw [s3] at hb
      rw [hout b (by omega)]
      exact hWS.fresh b (by rw [inv.next]; exact hb)
    · intro b hb
      rw [s1] at hb
      obtain ⟨L, hL, he⟩ := hWS.old b (by rw [inv.sim.base, hb0]; exact hb)
      exact ⟨L, hψ b L hL, he⟩
    · intro b L hb hL
      rw [s1] at hb ⊢
      by_cases h : (M j).next ≤ b ∧ b < (M (j + 1)).next
      · rw [hin b h.1 h.2] at hL
        have := hs.wr.own b L (by rw [hs.base, b1]; exact hb) hL
        rw [hs.base, b1] at this
        exact this
      · rw [hout b h] at hL
        have := hWS.own b L (by rw [inv.sim.base, hb0]; exact hb) hL
        rw [inv.sim.base, hb0] at this
        exact this
    · intro b hb
      rcases hcase b hb with ⟨h1, h2⟩ | ⟨h1, h2, h3, h4⟩
      · obtain ⟨L, hL⟩ := hs.wr.mapd b h1
        exact ⟨L, hχ b L hL⟩
      · obtain ⟨L, hL⟩ := hWS.mapd b h3
        exact ⟨L, hψ b L hL⟩
  have hdead0 : ∀ b, b < (M 0).next → (M 0).get b = none → mm.get b = none := by
    intro b hb hd
    rcases g1 b with h | ⟨h, _⟩
    · exact h
    · rw [h]; exact r.deads hb hd j (Nat.le_of_lt hj)
  have hlow : ∀ b, b < (M j).next → b ∉ (M os.size).low → b ∉ mm'.low := by
    intro b hb hn
    rw [l']
    refine relow_not hb fun h => hn ?_
    rw [← hM] at h
    exact r.lows (show j + 1 ≤ os.size by omega) (Nat.le_refl _) h
  refine ⟨ψ', mS', inv.closed' ho hed, hget', s3, s4, ?_, ?_, ?_, ?_, ?_⟩
  · refine ⟨Phi.le_trans inv.sim.ext hψ, hWR, ?_, Nat.le_trans inv.sim.size hs.size, hs.os.trans inv.sim.os, hs.tape.trans inv.sim.tape, hs.output.trans inv.sim.output, by rw [s1, hb0], by rw [s2, ho0], ?_, ?_, ?_, ?_, ?_, ?_, ?_⟩
    · intro k hk hd
      rw [← inv.sim.frame k hk hd]
      refine hs.frame k (Nat.lt_of_lt_of_le hk inv.sim.size) ?_
      intro b L hb hL he
      obtain ⟨hlt, hL⟩ := Phi.below_some hL
      rw [b1, ← hb0] at hb
      cases hp : φ0 b with
      | some L' =>
        have := inv.sim.ext b L' hp
        rw [hL] at this
        cases this
        exact hdead0 b (hw0.lt hp) (hd b L hb hp he)
      | none =>
        rcases inv.sim.new b L hL hp with h | ⟨c, N, hc, hl, hN, he2⟩
        · omega
        · exact absurd (hd c N hc hN (he2.trans he)) hl
    · rw [s3]; omega
    · intro b hb hd
      rw [hget']
      exact gS_const (fun i hi => r.deads hb hd i hi) os.size (Nat.le_refl _)
    · intro b L hL hp
      by_cases h : (M j).next ≤ b ∧ b < (M (j + 1)).next
      · rw [hin b h.1 h.2] at hL
        have hn : ψ.below (M j).next b = none := by unfold Phi.below; rw [if_neg (by omega)]
        rcases hs.new b L hL hn with h1 | ⟨c, N, hc, hl, hN, he⟩
        · exact .inl (Nat.le_trans inv.sim.size h1)
        · obtain ⟨hlt, hN⟩ := Phi.below_some hN
          rw [b1, ← hb0] at hc
          cases hq : φ0 c with
          | some N' =>
            have := inv.sim.ext c N' hq
            rw [hN] at this
            cases this
            exact .inr ⟨c, N, hc, fun hd => hl (hdead0 c (hw0.lt hq) hd), hq, he⟩
          | none =>
            rcases inv.sim.new c N hN hq with h1 | ⟨d, N', hd, hl', hN', he'⟩
            · exact .inl (he ▸ h1)
            · exact .inr ⟨d, N', hd, hl', hN', he'.trans he⟩
      · rw [hout b h] at hL
        exact inv.sim.new b L hL hp
    · intro b hb; rw [s4]; exact r.lows (Nat.zero_le _) (Nat.le_refl _) hb
    · intro b hb hlo
      rw [s4] at hlo
      rw [hget']
      exact gS_const (fun i hi => r.kepts hb hlo i hi) os.size (Nat.le_refl _)
    · intro b L hL hl hlo
      rw [s4] at hlo
      have hb := hw0.lt hL
      have hk := r.kepts hb hlo j (Nat.le_of_lt hj)
      have hgs : gS M R S os.size b = (M 0).get b := gS_const (fun i hi => r.kepts hb hlo i hi) os.size (Nat.le_refl _)
      have hmm := g2 b (by omega) (by rw [hgs, hk])
      rw [hs.same b L (Phi.below_of (by omega) (inv.sim.ext b L hL)) (by rw [hmm, hk]; exact hl) (hlow b (by omega) hlo)]
      exact inv.sim.same b L hL hl (by rw [inv.low]; exact hlo)
    · intro b L hL hp
      by_cases h : (M j).next ≤ b ∧ b < (M (j + 1)).next
      · omega
      · rw [hout b h] at hL
        exact inv.sim.dom b L hL hp
  · intro i hi hSi b h1 h2
    obtain ⟨hne, hSi⟩ := upd_false hSi
    rw [hout b]
    · exact inv.un i hi hSi b h1 h2
    · intro h
      rcases Nat.lt_or_gt_of_ne hne with h3 | h3
      · have := r.nexts (show i + 1 ≤ j by omega) (by omega); omega
      · have := r.nexts (show j + 1 ≤ i by omega) (by omega); omega
  · rw [size_put]; exact inv.sz
  · rw [defers_put]; exact inv.df
  · intro t
    rw [r.vS_step hj ho hS inv.closed, getD_put, inv.sz]
    split
    · exact hvr.mono hχ
    · exact (inv.tmp t).mono hψ

end main
end Go.D
