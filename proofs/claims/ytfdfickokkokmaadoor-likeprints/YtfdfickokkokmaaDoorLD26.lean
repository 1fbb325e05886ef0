/- D: drawn regions in continuation style: whole regions. -/
import Derived.Test.YtfdfickokkokmaaDoorLD25
set_option linter.unusedSimpArgs false
set_option linter.unusedVariables false
namespace Go.D
open Go

/-- Records in a row, and what is known of them. -/
inductive Recs (P : Program) (os : Array Oper) (q : Nat → Bool) : List Nat → List Rec → List Rec → Prop
  | nil : Recs P os q [] [] []
  | cons {i : Nat} {l : List Nat} {r d : Rec} {rs ds : List Rec} : Cov r d → St (clsAt P os i) (q i) d → Recs P os q l rs ds → Recs P os q (i :: l) (r :: rs) (d :: ds)

theorem St.nil (c : Cls) (q : Bool) (m : Mem) : St c q (nilRec m) := by
  cases c <;> simp [St, nilRec]

section
variable {α : Type} {r : α} {P : Program} {env : Env} {runf : CallF}

theorem opsD_sound {dy : Bool} {q : Nat → Bool} {os : Array Oper} {K : List Rec → Rho → Mem → Option α} : ∀ {l : List Nat} {ρ : Rho} {m : Mem} {acc : List Rec}, opsD env runf P dy q os l ρ m acc K = some r →
    ∃ rs ds ρ' m', traceW env runf P os l ρ m = some (rs, ρ', m') ∧ Recs P os q l rs ds ∧ ∃ any, K any ρ' m' = some r ∧ (dy = true → any = acc.reverse ++ ds)
  | [], ρ, m, acc, h => ⟨[], [], ρ, m, rfl, .nil, acc.reverse, h, fun _ => by simp⟩
  | i :: rest, ρ, m, acc, h => by
    unfold opsD at h
    unfold traceW
    have hnl : Cov ⟨.nil, .nil, m.next, m.next⟩ (nilRec m) := ⟨FP.sub_refl _, FP.sub_refl _, rfl, rfl⟩
    split at h
    · cases h
    · rename_i o ho
      simp only [ho]
      have hcl : clsAt P os i = clsOf P o.op := by unfold clsAt; rw [ho]
      have app : ∀ (d : Rec) (ds : List Rec) (any : List Rec), (dy = true → any = ((bif dy then d else r0) :: acc).reverse ++ ds) → (dy = true → any = acc.reverse ++ (d :: ds)) := by
        intro d ds any h hd
        rw [h hd, hd]; simp
      split at h
      · rename_i hg
        have hw : Region.wanted o (ρ.said os) = true := by unfold Region.wanted; rw [hg]
        obtain ⟨v, m1, w, hv, hk, hcov, hst⟩ := opD_step h
        obtain ⟨rs, ds, ρ', m', ht, hr, any, ha, hd⟩ := opsD_sound hk
        simp only [hw, if_true, hv]
        simp only [ht]
        exact ⟨_, _ :: ds, ρ', m', rfl, .cons hcov (by rw [hcl]; exact hst) hr, any, ha, app _ _ _ hd⟩
      · rename_i j want hg
        have hw : Region.wanted o (ρ.said os) = saidB ρ os j want := by unfold Region.wanted; rw [hg, saidB_eq]
        rw [hw]
        cases hs : saidB ρ os j want with
        | true =>
          simp only [hs, cond_true] at h
          simp only [if_true]
          unfold then3 at h
          split at h
          · rename_i v2 m2 r2 h2
            obtain ⟨v, m1, w, hv, hk, hcov, hst⟩ := opD_step h2
            simp only [Option.some.injEq, Prod.mk.injEq] at hk
            obtain ⟨rfl, rfl, rfl⟩ := hk
            obtain ⟨rs, ds, ρ', m', ht, hr, any, ha, hd⟩ := opsD_sound h
            simp only [hv]
            simp only [ht]
            exact ⟨_, _ :: ds, ρ', m', rfl, .cons hcov (by rw [hcl]; exact hst) hr, any, ha, app _ _ _ hd⟩
          · cases h
        | false =>
          simp only [hs, cond_false, then3] at h
          simp only [Bool.false_eq_true, if_false]
          obtain ⟨rs, ds, ρ', m', ht, hr, any, ha, hd⟩ := opsD_sound h
          rw [ht]
          exact ⟨_, _ :: ds, ρ', m', rfl, .cons hnl (St.nil _ _ _) hr, any, ha, app _ _ _ hd⟩

theorem Recs.get {os : Array Oper} {q : Nat → Bool} {l : List Nat} {rs ds : List Rec} (h : Recs P os q l rs ds) : rs.length = l.length ∧ ds.length = l.length ∧
    ∀ k, k < l.length → Cov (rs.getD k r0) (ds.getD k r0) ∧ St (clsAt P os (l.getD k 0)) (q (l.getD k 0)) (ds.getD k r0) := by
  induction h with
  | nil => exact ⟨rfl, rfl, fun k hk => by simp at hk⟩
  | cons h1 h2 _ ih =>
    refine ⟨by simp [ih.1], by simp [ih.2.1], fun k hk => ?_⟩
    cases k with
    | zero => exact ⟨h1, h2⟩
    | succ k =>
      simp only [List.length_cons, Nat.add_lt_add_iff_right] at hk
      exact ih.2.2 k hk

theorem rowOk_of {bf : Array Nat} {i : Nat} {a : Rec} : ∀ {rs : List Rec} {j : Nat}, (∀ k, k < rs.length → pairOk bf i (j + k) a (rs.getD k r0) = true) → rowOk bf i a j rs = true
  | [], _, _ => rfl
  | b :: rest, j, h => by
    unfold rowOk
    rw [Bool.and_eq_true]
    refine ⟨h 0 (by simp), rowOk_of fun k hk => ?_⟩
    have := h (k + 1) (by simp; omega)
    rw [show j + (k + 1) = j + 1 + k by omega] at this
    exact this

theorem pairsOk_of {bf : Array Nat} : ∀ {rs : List Rec} {i : Nat}, (∀ a b, a < b → b < rs.length → pairOk bf (i + a) (i + b) (rs.getD a r0) (rs.getD b r0) = true) → pairsOk bf i rs = true
  | [], _, _ => rfl
  | x :: rest, i, h => by
    unfold pairsOk
    rw [Bool.and_eq_true]
    refine ⟨rowOk_of fun k hk => ?_, pairsOk_of fun a b hab hb => ?_⟩
    · have := h 0 (k + 1) (by omega) (by simp; omega)
      rw [show i + (k + 1) = i + 1 + k by omega] at this
      exact this
    · have := h (a + 1) (b + 1) (by omega) (by simp; omega)
      rw [show i + (a + 1) = i + 1 + a by omega, show i + (b + 1) = i + 1 + b by omega] at this
      exact this

theorem drawnC_sound {os : Array Oper} {ρ : Rho} {m : Mem} {K : DX → Rho → Mem → Option α} (h : drawnC env runf P os ρ m K = some r) : ∃ ρ' m', drawnW env runf P os ρ m = some (.normal, ρ', m') ∧ K .normal ρ' m' = some r := by
  unfold drawnC at h
  · have fin : ∀ {rs ds : List Rec} {ρ' : Rho} {m' : Mem}, traceW env runf P os (List.range os.size) ρ m = some (rs, ρ', m') → Recs P os (quietAt env P os) (List.range os.size) rs ds → (∀ p ∈ dynPairs env P os, (ds.getD p.1 r0).clash (ds.getD p.2 r0) = false) → drawnW env runf P os ρ m = some (.normal, ρ', m') := by
      intro rs ds ρ' m' ht hr hd
      obtain ⟨h1, h2, h3⟩ := hr.get
      simp only [List.length_range] at h1 h2 h3
      unfold drawnW
      simp only [ht]
      have : pairsOk (Region.before os) 0 rs = true := by
        refine pairsOk_of fun a b hab hb => ?_
        rw [h1] at hb
        unfold pairOk
        simp only [Nat.zero_add, Bool.or_eq_true, Bool.not_eq_true']
        cases ho : ((Region.before os).getD b 0).testBit a with
        | true => exact .inl rfl
        | false =>
          right
          obtain ⟨ca, sa⟩ := h3 a (by omega)
          obtain ⟨cb, sb⟩ := h3 b hb
          have ra : (List.range os.size).getD a 0 = a := by simp [List.getD_eq_getElem?_getD, List.getElem?_range (show a < os.size by omega)]
          have rb : (List.range os.size).getD b 0 = b := by simp [List.getD_eq_getElem?_getD, List.getElem?_range hb]
          rw [ra] at sa
          rw [rb] at sb
          refine ca.clash cb ?_
          cases hf : fine (clsAt P os a) (quietAt env P os a) (clsAt P os b) (quietAt env P os b) with
          | true => exact clash_fine hf sa sb
          | false =>
            refine hd (a, b) ?_
            unfold dynPairs
            rw [List.mem_flatMap]
            refine ⟨b, List.mem_range.2 hb, ?_⟩
            rw [List.mem_map]
            exact ⟨a, List.mem_filter.2 ⟨List.mem_range.2 hab, by rw [ho, hf]; rfl⟩, rfl⟩
      simp only [this, Bool.or_true, if_true]
    split at h
    · rename_i hp
      obtain ⟨rs, ds, ρ', m', ht, hr, any, ha, _⟩ := opsD_sound h
      exact ⟨ρ', m', fin ht hr (by rw [hp]; intro p hp; cases hp), ha⟩
    · rename_i p ps hp
      obtain ⟨rs, ds, ρ', m', ht, hr, any, ha, hd⟩ := opsD_sound h
      have := hd rfl
      simp only [List.reverse_nil, List.nil_append] at this
      subst this
      cases hc : chk (p :: ps) any with
      | false => simp [hc] at ha
      | true =>
        simp only [hc, cond_true] at ha
        refine ⟨ρ', m', fin ht hr ?_, ha⟩
        rw [hp]
        intro x hx
        have := List.all_eq_true.1 hc x hx
        simpa using this
end

end Go.D
