/- D: slicing against the model's. -/
import Derived.Test.YtfdfickokkokmaaDoorLD5
set_option linter.unusedSimpArgs false
set_option linter.unusedVariables false
namespace Go.D
open Go

inductive OR (φ : Phi) : Option Value → Option Value → Prop
  | none : OR φ none none
  | some {v v' : Value} (h : VR φ v v') : OR φ (some v) (some v')

section base
variable {P : Program} {φ : Phi} {m : Mem} {w : World}

theorem bound_inv {y : Nat} {v v' : Value} {n : Nat} (h : bound y v = some n) (hv : VR φ v v') : ∃ k i, v' = .int k i ∧ 0 ≤ i ∧ i ≤ y ∧ n = i.toNat := by
  unfold bound at h
  split at h
  · rename_i k i
    cases hv
    split at h
    · rename_i hb; cases h; exact ⟨k, i, rfl, hb.1, hb.2, rfl⟩
    · cases h
  · cases h

theorem boundO_inv {y d : Nat} {v v' : Option Value} {n : Nat} (h : boundO y d v = some n) (hv : OR φ v v') :
    (v = none ∧ v' = none ∧ n = d) ∨ ∃ k i u, v = some u ∧ v' = some (.int k i) ∧ 0 ≤ i ∧ i ≤ y ∧ n = i.toNat := by
  cases hv with
  | none => simp only [boundO] at h; cases h; exact .inl ⟨rfl, rfl, rfl⟩
  | some hv =>
    simp only [boundO] at h
    obtain ⟨k, i, rfl, h0, h1, h2⟩ := bound_inv h hv
    exact .inr ⟨k, i, _, rfl, rfl, h0, h1, h2⟩

theorem run_sliceBound' {k : IntKind} {i : Int} {y : Nat} {code : BoundsCode} (h0 : 0 ≤ i) (h1 : i ≤ y) : (Instr.sliceBound (.int k i) y code).run P w = .ok i.toNat w := by
  unfold Instr.sliceBound asIntOf
  simp only [Sem.run_bind, Sem.run_pure, Result.andThen_ok]
  rw [if_pos ⟨h0, h1⟩]; rfl

/-- The bounds of a slicing, as the model finds them: without a max the capacity stands for it. -/
theorem run_bnds {is : Bool} {D len cap l h mm : Nat} {lo hi mx lo' hi' mx' : Option Value} (hb : bnds D len lo hi mx = some (l, h, mm)) (hD : D ≤ cap) (ho : OR φ lo lo') (hi_ : OR φ hi hi') (hx : OR φ mx mx') :
    (Instr.sliceBounds is len cap lo' hi' mx').run P w = .ok (l, h, if mx.isSome then mm else cap) w ∧ l ≤ h ∧ h ≤ mm ∧ mm ≤ D ∧ (mx = none → mm = D) := by
  unfold bnds at hb
  split at hb
  · cases hb
  · rename_i mm' hm
    have h1 := boundO_inv hm hx
    split at hb
    · cases hb
    · rename_i hi0 mx0 hnn
      split at hb
      · cases hb
      · rename_i h' hh
        have h2 := boundO_inv hh hi_
        split at hb
        · cases hb
        · rename_i l' hl
          have h3 := boundO_inv hl ho
          split at hb
          · rename_i hc
            simp only [Option.some.injEq, Prod.mk.injEq] at hb
            obtain ⟨rfl, rfl, rfl⟩ := hb
            refine ⟨?_, hc.1, hc.2.1, hc.2.2, ?_⟩
            · unfold Instr.sliceBounds
              rcases h1 with ⟨rfl, rfl, e1⟩ | ⟨k1, i1, u1, rfl, rfl, a0, a1, e1⟩
              · rcases h2 with ⟨rfl, rfl, e2⟩ | ⟨k2, i2, u2, rfl, rfl, b0, b1, e2⟩ <;> rcases h3 with ⟨rfl, rfl, e3⟩ | ⟨k3, i3, u3, rfl, rfl, c0, c1, e3⟩
                · simp [e2, e3]
                · rw [e2] at c1; simp [e2, e3, run_sliceBound' c0 c1]
                · have b1' : i2 ≤ (cap : Int) := by omega
                  simp [e2, e3, run_sliceBound' b0 b1']
                · have b1' : i2 ≤ (cap : Int) := by omega
                  rw [e2] at c1
                  simp [e2, e3, run_sliceBound' b0 b1', run_sliceBound' c0 c1]
              · have a1' : i1 ≤ (cap : Int) := by omega
                rcases h2 with ⟨rfl, rfl, e2⟩ | ⟨k2, i2, u2, rfl, rfl, b0, b1, e2⟩
                · exact (hnn _ rfl rfl).elim
                · rw [e1] at b1
                  rcases h3 with ⟨rfl, rfl, e3⟩ | ⟨k3, i3, u3, rfl, rfl, c0, c1, e3⟩
                  · simp [e1, e2, e3, run_sliceBound' a0 a1', run_sliceBound' b0 b1]
                  · rw [e2] at c1
                    simp [e1, e2, e3, run_sliceBound' a0 a1', run_sliceBound' b0 b1, run_sliceBound' c0 c1]
            · intro hmx
              rcases h1 with ⟨_, _, e1⟩ | ⟨_, _, _, e, _⟩
              · exact e1
              · rw [hmx] at e; cases e
          · cases hb

theorem VR.slice_inv {a : Option Addr} {n c : Nat} {v' : Value} (h : VR φ (.slice a n c) v') :
    (a = none ∧ v' = .slice none n c) ∨ (∃ b o L c', a = some ⟨b, o, none⟩ ∧ φ b = some L ∧ v' = .slice (some ⟨L.blk, o, none⟩) n c' ∧
      ((isLoose c = false ∧ c' = c) ∨ (isLoose c = true ∧ n ≤ c' ∧ (o = 0 → c' * L.sz ≤ L.tot)))) ∨ ∃ b o s ad, a = some ⟨b, o, some s⟩ ∧ n = 0 ∧ c = 0 ∧ v' = .slice (some ad) 0 0 := by
  cases h with
  | slN => exact .inl ⟨rfl, rfl⟩
  | sl h hc => exact .inr (.inl ⟨_, _, _, _, rfl, h, rfl, .inl ⟨hc, rfl⟩⟩)
  | slL h hc hn ht => exact .inr (.inl ⟨_, _, _, _, rfl, h, rfl, .inr ⟨hc, hn, ht⟩⟩)
  | slZ b o s ad => exact .inr (.inr ⟨_, _, _, _, rfl, rfl, rfl, rfl⟩)

theorem isLoose_iff {c : Nat} : isLoose c = true ↔ loose ≤ c := by simp [isLoose]
theorem isLoose_false {c : Nat} : isLoose c = false ↔ c < loose := by rw [← Bool.not_eq_true, isLoose_iff]; omega
theorem isLoose_sub {c l : Nat} (h : isLoose c = false) : isLoose (c - l) = false := by rw [isLoose_false] at *; omega

theorem addr_if {b o l s mm : Nat} : (if mm = l then (⟨b, o, none⟩ : Addr) else (⟨b, o, none⟩ : Addr).add (l * s)) = ⟨b, if mm = l then o else o + l * s, none⟩ := by
  split
  · rfl
  · rw [add_none]

theorem sliceV_ok (hw : WR P φ m w) {t : TypeId} {x x' r : Value} {lo hi mx lo' hi' mx' : Option Value} (h : sliceV P t x lo hi mx = some r) (hx : VR φ x x') (hlo : OR φ lo lo') (hhi : OR φ hi hi') (hmx : OR φ mx mx') :
    Ok P φ m w (Instr.sliceAt t x' lo' hi' mx') r m := by
  unfold sliceV at h
  split at h
  · rename_i s hu
    cases hx
    split at h
    · cases h
    · cases hmx
      split at h
      · rename_i l hh _ hb
        cases h
        obtain ⟨hrun, -⟩ := run_bnds (P := P) (w := w) (is := false) hb (Nat.le_refl _) hlo hhi .none
        refine Ok.still hw (v' := .string (s.extract l hh)) ?_ (.string _)
        unfold Instr.sliceAt
        simp only [Sem.run_bind, run_under hu, Result.andThen_ok]
        unfold Instr.slice
        simp only [Sem.run_bind, run_under hu, Result.andThen_ok, Option.isSome_none, Bool.false_eq_true, if_false, hrun, Sem.run_pure]
      · cases h
  · rename_i elem a len cap hu
    split at h
    · cases h
    · rename_i s hs
      have hat : ∀ a' n' c', (Instr.sliceAt t (.slice a' n' c') lo' hi' mx').run P w = (Instr.slice t (.slice a' n' c') lo' hi' mx').run P w := by
        intro a' n' c'
        unfold Instr.sliceAt
        simp only [Sem.run_bind, run_under hu, Result.andThen_ok]
      rcases hx.slice_inv with ⟨rfl, rfl⟩ | ⟨b, o, L, c', rfl, hL, rfl, hcap⟩ | ⟨b, o, sp, ad, rfl, rfl, rfl, rfl⟩
      · simp only at h
        split at h
        · rename_i hz
          obtain ⟨rfl, rfl⟩ := hz
          split at h
          · rename_i q hb
            cases h
            obtain ⟨l, hh, mm⟩ := q
            obtain ⟨hrun, h1, h2, h3, h4⟩ := run_bnds (P := P) (w := w) (is := true) hb (Nat.le_refl _) hlo hhi hmx
            refine Ok.still hw (v' := .slice none 0 0) ?_ (.slN _ _)
            rw [hat]
            unfold Instr.slice
            simp only [Sem.run_bind, run_under hu, Result.andThen_ok, hrun, run_sizeOf hs, Sem.run_pure]
            have : l = 0 := by omega
            have : hh = 0 := by omega
            have : mm = 0 := by omega
            subst_vars
            cases mx <;> simp
          · cases h
        · cases h
      · simp only at h
        split at h
        · rename_i hlc
          rcases hcap with ⟨hc, -⟩ | ⟨_, hn, ht⟩
          · rw [hlc] at hc; cases hc
          · split at h
            · cases h
            · rename_i l hh mm hb
              obtain ⟨hrun, h1, h2, h3, h4⟩ := run_bnds (P := P) (w := w) (is := true) (cap := c') hb hn hlo hhi hmx
              have hsl : (Instr.slice t (.slice (some ⟨L.blk, o, none⟩) len c') lo' hi' mx').run P w =
                  .ok (.slice (some ⟨L.blk, if (if mx.isSome then mm else c') = l then o else o + l * s, none⟩) (hh - l) ((if mx.isSome then mm else c') - l)) w := by
                unfold Instr.slice
                simp only [Sem.run_bind, run_under hu, Result.andThen_ok, hrun, run_sizeOf hs, Sem.run_pure, Option.map_some]
                rw [← addr_if, apply_ite some]
              split at h
              · simp only [Option.isSome_none, Bool.false_eq_true, if_false] at hsl
                split at h
                · rename_i hl
                  cases h
                  refine Ok.still hw (v' := .slice (some ⟨L.blk, o + l * s, none⟩) (hh - l) (c' - l)) ?_ ?_
                  · rw [hat, hsl]
                    congr 3
                    split
                    · rename_i e
                      rcases hl with hl | hl
                      · subst hl; simp
                      · have := h4 rfl; omega
                    · rfl
                  · rw [add_none]
                    refine .slL hL hlc (by have := h4 rfl; omega) ?_
                    intro h0
                    rcases hl with hl | ⟨hl, hs0⟩
                    · subst hl
                      simp only [Nat.zero_mul, Nat.add_zero] at h0
                      simpa using ht h0
                    · rcases Nat.eq_zero_or_pos l with e | e
                      · subst e
                        simp only [Nat.zero_mul, Nat.add_zero] at h0
                        simpa using ht h0
                      · have := Nat.mul_pos e hs0
                        omega
                · cases h
              · simp only [Option.isSome_some, if_true] at hsl
                split at h
                · cases h
                · rename_i hlm
                  cases h
                  refine Ok.still hw (by rw [hat]; exact hsl) ?_
                  rw [addr_if]
                  exact .sl hL (isLoose_sub (by simpa using hlm))
        · rename_i hlc
          rcases hcap with ⟨hc, rfl⟩ | ⟨hc, _⟩
          · split at h
            · cases h
            · rename_i l hh mm hb
              cases h
              obtain ⟨hrun, h1, h2, h3, h4⟩ := run_bnds (P := P) (w := w) (is := true) hb (Nat.le_refl _) hlo hhi hmx
              have hmm : (if mx.isSome then mm else c') = mm := by
                cases mx with
                | none => simp [h4 rfl]
                | some _ => simp
              refine Ok.still hw (v' := .slice (some ⟨L.blk, if mm = l then o else o + l * s, none⟩) (hh - l) (mm - l)) ?_ ?_
              · rw [hat]
                unfold Instr.slice
                simp only [Sem.run_bind, run_under hu, Result.andThen_ok, hrun, run_sizeOf hs, Sem.run_pure, Option.map_some, hmm]
                rw [← addr_if, apply_ite some]
              · rw [addr_if]
                refine .sl hL (isLoose_sub ?_)
                rw [isLoose_false] at *
                omega
          · exact absurd hc hlc
      · simp only at h
        rw [if_neg (by decide)] at h
        split at h
        · cases h
        · rename_i l hh mm hb
          cases h
          obtain ⟨hrun, h1, h2, h3, h4⟩ := run_bnds (P := P) (w := w) (is := true) hb (Nat.le_refl _) hlo hhi hmx
          have e1 : l = 0 := by omega
          have e2 : hh = 0 := by omega
          have e3 : mm = 0 := by omega
          subst e1 e2 e3
          refine Ok.still hw (v' := .slice (some ad) 0 0) ?_ (.slZ _ _ _ _)
          rw [hat]
          unfold Instr.slice
          simp only [Sem.run_bind, run_under hu, Result.andThen_ok, hrun, run_sizeOf hs, Sem.run_pure]
          cases mx <;> simp
  · rename_i n elem a hu
    obtain ⟨hsp, L, hL, rfl⟩ := hx.ptr_inv
    obtain ⟨ab, ao, asp⟩ := a
    simp only at hsp hL
    subst hsp
    split at h
    · cases h
    · rename_i s hs
      split at h
      · cases h
      · rename_i hln
        split at h
        · rename_i l hh mm hb
          cases h
          obtain ⟨hrun, h1, h2, h3, h4⟩ := run_bnds (P := P) (w := w) (is := false) hb (Nat.le_refl _) hlo hhi hmx
          have hmm : (if mx.isSome then mm else n) = mm := by
            cases mx with
            | none => simp [h4 rfl]
            | some _ => simp
          refine Ok.still hw (v' := .slice (some ⟨L.blk, if mm = l then ao else ao + l * s, none⟩) (hh - l) (mm - l)) ?_ ?_
          · unfold Instr.sliceAt Instr.sureAddr
            simp only [Sem.run_bind, run_under hu, Result.andThen_ok, hrun, run_sizeOf hs, Sem.run_pure, hmm]
            rw [addr_if]
          · rw [addr_if]
            refine .sl hL (isLoose_sub ?_)
            rw [← Bool.not_eq_true, isLoose_iff] at *
            omega
        · cases h
  · cases h

end base
end Go.D
