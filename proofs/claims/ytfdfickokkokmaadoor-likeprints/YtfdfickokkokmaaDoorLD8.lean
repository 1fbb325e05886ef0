/- D: copying, lengths, comparisons, conversions against the model's. -/
import Derived.Test.YtfdfickokkokmaaDoorLD7
set_option linter.unusedSimpArgs false
set_option linter.unusedVariables false
namespace Go.D
open Go

section base
variable {P : Program} {φ : Phi} {m : Mem} {w : World}

theorem copyV_ok (hw : WR P φ m w) {ats : Array TypeId} {dt ty : TypeId} (ha0 : ats[0]? = some dt) {d d' x x' v : Value} {m' : Mem} (h : copyV P m dt d x = some (v, m')) (hd : VR φ d d') (hx : VR φ x x') :
    Ok P φ m w (Builtin.copy_ ats ty #[d', x']) v m' := by
  unfold copyV at h
  split at h
  · rename_i elem hu
    split at h
    · rename_i s base dl dc xl hs hlen
      have hlx := lenV_ok (P := P) (w := w) hlen hx
      simp only at h
      split at h
      · cases h
      · rename_i cs hcs
        obtain ⟨arr, hrn, hrel⟩ := srcCells_ok hw hcs hx
        have hrn' : (Builtin.firstCells s (Nat.min xl dl) x').run P w = .ok arr w := hrn
        split at h
        · cases h
          rcases hd.slice_inv with ⟨_, rfl⟩ | ⟨b, o, L, c', e, _⟩ | ⟨_, _, _, _, e, _⟩
          rotate_left 2
          · cases e
          · refine Ok.still hw (v' := .int .i64 (Nat.min xl dl : Nat)) ?_ (.int _ _)
            unfold Builtin.copy_
            simp only [ha0, List.getElem?_toArray, List.getElem?_cons_zero, List.getElem?_cons_succ, Sem.run_bind, run_under hu, Result.andThen_ok, hlx, run_sizeOf hs, Sem.run_pure]
            simp [hrn', goInt]
          · cases e
        · rename_i a
          split at h
          · rename_i m2 hst
            cases h
            rcases hd.slice_inv with ⟨e, _⟩ | ⟨b, o, L, c', e, hL, rfl, _⟩ | ⟨b, o, sp, ad, e, rfl, rfl, rfl⟩
            rotate_left 2
            · cases e
              match cs, hst, hrel with
              | [], hst, hrel =>
                cases hst
                refine Ok.still hw (v' := .int .i64 (Nat.min xl 0 : Nat)) ?_ (.int _ _)
                have earr : arr.toList = [] := by have := hrel.length; exact List.eq_nil_of_length_eq_zero this.symm
                unfold Builtin.copy_
                simp only [ha0, List.getElem?_toArray, List.getElem?_cons_zero, List.getElem?_cons_succ, Sem.run_bind, run_under hu, Result.andThen_ok, hlx, run_sizeOf hs, Sem.run_pure]
                have hrn0 : (Builtin.firstCells s 0 x').run P w = .ok arr w := by simpa using hrn
                simp [hrn0, earr, goInt, storeCells]
              | _ :: _, hst, _ => cases hst
            · cases e
            · cases e
              obtain ⟨w', hr, hsim⟩ := run_storeN hw hst hrel hL
              refine ⟨φ, w', .int .i64 (Nat.min xl dl : Nat), ?_, .int _ _, hsim⟩
              unfold Builtin.copy_
              simp only [ha0, List.getElem?_toArray, List.getElem?_cons_zero, List.getElem?_cons_succ, Sem.run_bind, run_under hu, Result.andThen_ok, hlx, run_sizeOf hs, Sem.run_pure]
              simp [hrn', hr, goInt]
          · cases h
    · cases h
  · cases h

theorem clearV_ok (hw : WR P φ m w) {ats : Array TypeId} {t ty : TypeId} (ha0 : ats[0]? = some t) {x x' : Value} {m' : Mem} (h : clearV P m t x = some m') (hx : VR φ x x') :
    Ok P φ m w (Builtin.clear_ ats ty #[x']) undef m' := by
  unfold clearV at h
  split at h
  · rename_i e n c hu
    cases h
    rcases hx.slice_inv with ⟨_, rfl⟩ | ⟨b, o, L, c', e, _⟩ | ⟨_, _, _, _, e, _⟩
    rotate_left 2
    · cases e
    · refine Ok.still hw (v' := undef) ?_ (VR.undef φ)
      unfold Builtin.clear_
      simp only [ha0, List.getElem?_toArray, List.getElem?_cons_zero, Sem.run_bind, run_under hu, Result.andThen_ok, Sem.run_pure]
      rfl
    · cases e
  · rename_i e a n c hu
    rcases hx.slice_inv with ⟨e, _⟩ | ⟨b, o, L, c', e, hL, rfl, _⟩ | ⟨b, o, sp, ad, e, rfl, rfl, rfl⟩
    rotate_left 2
    · cases e
      split at h
      · rw [if_pos rfl] at h
        cases h
        refine Ok.still hw (v' := undef) ?_ (VR.undef φ)
        unfold Builtin.clear_
        simp only [ha0, List.getElem?_toArray, List.getElem?_cons_zero, Sem.run_bind, run_under hu, Result.andThen_ok, Sem.run_pure]
        rfl
      · cases h
    · cases e
    · cases e
      split at h
      · rename_i z hz
        split at h
        · rename_i h0
          cases h
          subst h0
          refine Ok.still hw (v' := undef) ?_ (VR.undef φ)
          unfold Builtin.clear_
          simp only [ha0, List.getElem?_toArray, List.getElem?_cons_zero, Sem.run_bind, run_under hu, Result.andThen_ok, Sem.run_pure]
          rfl
        · rename_i h0
          obtain ⟨i, zv, hi, hzv, he, _, hzl⟩ := zeroCells_spec hz
          have hzc : (Builtin.zeroCells zv.cells n).toList = repl n z := by
            rw [← he, ← range_repl]; rfl
          obtain ⟨w', hr, hsim⟩ := run_storeN hw h (vs' := (Builtin.zeroCells zv.cells n).toList) (by rw [hzc]; exact (VRL.zero hz).repl n) hL
          refine ⟨φ, w', undef, ?_, VR.undef φ, hsim⟩
          unfold Builtin.clear_
          obtain ⟨k, rfl⟩ : ∃ k, n = k + 1 := ⟨n - 1, by omega⟩
          simp only [ha0, List.getElem?_toArray, List.getElem?_cons_zero, Sem.run_bind, run_under hu, Result.andThen_ok, run_zeroValue hi hzv, hr, Sem.run_pure]
          rfl
      · cases h
  · cases h

theorem lenOfV_ok (hw : WR P φ m w) {ats : Array TypeId} {t ty : TypeId} (ha0 : ats[0]? = some t) {x x' v : Value} (h : lenOfV P m t x = some v) (hx : VR φ x x') :
    Ok P φ m w (Builtin.len_ ats ty #[x']) v m := by
  unfold lenOfV at h
  split at h
  · rename_i s hu
    cases h; cases hx
    refine Ok.still hw (v' := .int .i64 s.size) ?_ (.int _ _)
    unfold Builtin.len_
    simp only [ha0, List.getElem?_toArray, List.getElem?_cons_zero, Sem.run_bind, run_under hu, Result.andThen_ok, Sem.run_pure, goInt]
  · rename_i e a n c hu
    cases h
    refine Ok.still hw (v' := .int .i64 n) ?_ (.int _ _)
    unfold Builtin.len_
    rcases hx.slice_inv with ⟨_, rfl⟩ | ⟨b, o, L, c', _, _, rfl, _⟩ | ⟨_, _, _, _, _, rfl, rfl, rfl⟩ <;>
      simp only [ha0, List.getElem?_toArray, List.getElem?_cons_zero, Sem.run_bind, run_under hu, Result.andThen_ok, Sem.run_pure, goInt]
  · rename_i n e hu
    cases h
    refine Ok.still hw (v' := .int .i64 n) ?_ (.int _ _)
    unfold Builtin.len_
    simp only [ha0, List.getElem?_toArray, List.getElem?_cons_zero, Sem.run_bind, run_under hu, Result.andThen_ok, Sem.run_pure, goInt]
  · rename_i a b hu
    cases h; cases hx
    refine Ok.still hw (v' := .int .i64 0) ?_ (.int _ _)
    unfold Builtin.len_
    simp only [ha0, List.getElem?_toArray, List.getElem?_cons_zero, Sem.run_bind, run_under hu, Result.andThen_ok, Sem.run_pure, goInt]
  · rename_i a b r hu
    split at h
    · rename_i es cl hg
      cases h
      cases hx with
      | map hL =>
        rename_i L
        obtain ⟨es', ho, hl, _⟩ := hw.live _ _ L hg hL
        refine Ok.still hw (v' := .int .i64 es.length) ?_ (.int _ _)
        unfold Builtin.len_
        have hgo : (getObj L.blk).run P w = .ok (.map es' cl) w := by unfold getObj; simp [Sem.run, ho]
        simp only [ha0, List.getElem?_toArray, List.getElem?_cons_zero, Sem.run_bind, run_under hu, Result.andThen_ok, Sem.run_pure, goInt, hgo, hl]
    · cases h
  · cases h

theorem minMax_ok (mx : Bool) : ∀ (r r' : List Value) (x x' v : Value), VR φ x x' → VRL φ r r' → minMax mx x r = some v →
    ∃ v', (r'.foldlM (if mx then Builtin.max2 else Builtin.min2) x' : Sem Value).run P w = .ok v' w ∧ VR φ v v'
  | [], r', x, x', v, hx, hr, h => by
    cases hr
    simp only [minMax, Option.some.injEq] at h
    subst h
    exact ⟨x', rfl, hx⟩
  | y :: r, r', x, x', v, hx, hr, h => by
    cases hr with
    | cons hy hr =>
      unfold minMax at h
      split at h
      · rename_i e; cases e
      · rename_i k a k2 b r0 e
        cases e
        cases hx; cases hy
        obtain ⟨v', h1, h2⟩ := minMax_ok mx r _ _ (.int k (if mx then (if a < b then b else a) else (if b < a then b else a))) v (.int _ _) hr h
        refine ⟨v', ?_, h2⟩
        rw [List.foldlM_cons, Sem.run_bind]
        cases mx
        · simpa [Builtin.min2] using h1
        · have : (if b > a then b else a) = (if a < b then b else a) := rfl
          simpa [Builtin.max2, this] using h1
      · rename_i a b r0 e
        cases e
        cases hx; cases hy
        obtain ⟨v', h1, h2⟩ := minMax_ok mx r _ _ _ v (.string _) hr h
        refine ⟨v', ?_, h2⟩
        rw [List.foldlM_cons, Sem.run_bind]
        cases mx
        · have e1 : (Builtin.min2 (.string a) (.string b)).run P w = .ok (.string (if Op.bytesLess a.toList b.toList || a.toList == b.toList then a else b)) w := by
            simp [Builtin.min2, Op.stringOp, asBool]
          simp only [Bool.false_eq_true, if_false] at h1 ⊢
          rw [e1]; exact h1
        · have e1 : (Builtin.max2 (.string a) (.string b)).run P w = .ok (.string (if !(Op.bytesLess a.toList b.toList) then a else b)) w := by
            simp [Builtin.max2, Op.stringOp, asBool]
          simp only [if_true] at h1 ⊢
          rw [e1]; exact h1
      · cases h

theorem semScal_some {s : Sem Value} {v : Value} (h : semScal s = some v) : s = .pure v ∧ scalar v = true := by
  cases s <;> simp [semScal] at h
  exact ⟨by rw [h.2], h.2 ▸ h.1⟩

theorem semScal_ok (hw : WR P φ m w) {s : Sem Value} {v : Value} (h : semScal s = some v) : Ok P φ m w s v m := by
  obtain ⟨e, hs⟩ := semScal_some h
  rw [e]
  exact Ok.still hw (v' := v) rfl (VR.scalar_self hs)

theorem unary_ok (hw : WR P φ m w) {op : UnOp} {x x' v : Value} (h : semScal (Op.unary op x) = some v) (hs : scalar x = true) (hx : VR φ x x') : Ok P φ m w (Op.unary op x') v m := by
  have e := hx.scalar_eq hs
  rw [e]
  exact semScal_ok hw h

theorem equal_unfold (t : TypeId) (x y : Value) : Op.equal t x y = Op.equalIn (9999 + 1) t x y := rfl

theorem eqV_ok {t : TypeId} {x x' y y' : Value} {b : Bool} (h : eqV P t x y = some b) (hx : VR φ x x') (hy : VR φ y y') : (Op.equal t x' y').run P w = .ok b w := by
  rw [equal_unfold]
  unfold eqV at h
  split at h
  · split at h
    · rename_i hu
      cases h; cases hx; cases hy
      unfold Op.equalIn
      simp only [Sem.run_bind, run_under hu, Result.andThen_ok, Sem.run_pure]
    · cases h
  · split at h
    · rename_i a e hu
      cases h; cases hx
      cases hy <;> (unfold Op.equalIn; simp only [Sem.run_bind, run_under hu, Result.andThen_ok, Sem.run_pure] <;> rfl)
    · cases h
  · split at h
    · rename_i a e hu
      cases h; cases hy
      cases hx
      unfold Op.equalIn
      simp only [Sem.run_bind, run_under hu, Result.andThen_ok, Sem.run_pure]
    · cases h
  · rename_i a c
    split at h
    · rename_i e hu
      split at h
      · rename_i n hs
        split at h
        · rename_i hb
          cases h
          obtain ⟨ha, L, hL, rfl⟩ := hx.ptr_inv
          obtain ⟨hc, M, hM, rfl⟩ := hy.ptr_inv
          rw [hb] at hL
          have : L = M := Option.some.inj (hL.symm.trans hM)
          subst this
          obtain ⟨ab, ao, asp⟩ := a
          obtain ⟨cb, co, csp⟩ := c
          simp only at ha hc hb
          subst ha hc hb
          have e1 : ((⟨L.blk, ao, none⟩ : Addr) == ⟨L.blk, co, none⟩) = ((⟨ab, ao, none⟩ : Addr) == ⟨ab, co, none⟩) := by
            rw [Bool.eq_iff_iff]; simp
          unfold Op.equalIn
          simp only [Sem.run_bind, run_under hu, Result.andThen_ok, run_sizeOf hs]
          rw [if_pos (by simp)]
          unfold sameAddr
          simp [e1]
        · cases h
      · cases h
    · cases h
  · split at h
    · rename_i a b c d e f hu
      cases h
      rcases hx.slice_inv with ⟨_, rfl⟩ | ⟨_, _, _, _, e, _⟩ | ⟨_, _, _, _, e, _⟩
      rotate_left 2
      · cases e
      · rcases hy.slice_inv with ⟨rfl, rfl⟩ | ⟨_, _, _, _, rfl, _, rfl, _⟩ | ⟨_, _, _, _, rfl, _, _, rfl⟩ <;>
          (unfold Op.equalIn; simp only [Sem.run_bind, run_under hu, Result.andThen_ok, Sem.run_pure] <;> rfl)
      · cases e
    · cases h
  · split at h
    · rename_i a b c d e f hu
      cases h
      rcases hx.slice_inv with ⟨e, _⟩ | ⟨_, _, _, _, _, _, rfl, _⟩ | ⟨_, _, _, _, _, rfl, rfl, rfl⟩
      rotate_left 2
      · rcases hy.slice_inv with ⟨_, rfl⟩ | ⟨_, _, _, _, e, _⟩ | ⟨_, _, _, _, e, _⟩
        · unfold Op.equalIn; simp only [Sem.run_bind, run_under hu, Result.andThen_ok, Sem.run_pure]
        · cases e
        · cases e
      · cases e
      · rcases hy.slice_inv with ⟨_, rfl⟩ | ⟨_, _, _, _, e, _⟩ | ⟨_, _, _, _, e, _⟩
        rotate_left 2
        · cases e
        · unfold Op.equalIn; simp only [Sem.run_bind, run_under hu, Result.andThen_ok, Sem.run_pure]
        · cases e
    · cases h
  · split at h
    · rename_i a b c hu
      cases h; cases hx
      cases hy <;> (unfold Op.equalIn; simp only [Sem.run_bind, run_under hu, Result.andThen_ok, Sem.run_pure] <;> rfl)
    · cases h
  · split at h
    · rename_i a b c hu
      cases h; cases hy; cases hx
      unfold Op.equalIn; simp only [Sem.run_bind, run_under hu, Result.andThen_ok, Sem.run_pure]
    · cases h
  · split at h
    · rename_i a b c hu
      cases h; cases hy; cases hx
      unfold Op.equalIn; simp only [Sem.run_bind, run_under hu, Result.andThen_ok, Sem.run_pure]
    · cases h
  · split at h
    · rename_i hu
      cases h; cases hy; cases hx
      unfold Op.equalIn; simp only [Sem.run_bind, run_under hu, Result.andThen_ok, Sem.run_pure]
    · cases h
  · split at h
    · rename_i hu
      cases h; cases hy; cases hx
      unfold Op.equalIn; simp only [Sem.run_bind, run_under hu, Result.andThen_ok, Sem.run_pure]
    · cases h
  · split at h
    · rename_i hu
      cases h; cases hy; cases hx
      unfold Op.equalIn; simp only [Sem.run_bind, run_under hu, Result.andThen_ok, Sem.run_pure]
    · cases h
  · split at h
    · rename_i hu
      cases h; cases hy; cases hx
      unfold Op.equalIn; simp only [Sem.run_bind, run_under hu, Result.andThen_ok, Sem.run_pure]
    · cases h
  · cases h

theorem binOp_gen {op : BinOp} {t : TypeId} {x y : Value} (hx : (∀ k n, x ≠ .int k n) ∧ (∀ s, x ≠ .string s) ∧ (∀ k n, x ≠ .float k n) ∧ (∀ k a b, x ≠ .complex k a b)) :
    (op = .eql → Go.binOp op t x y = (do pure (.bool (← Op.equal t x y)))) ∧ (op = .neq → Go.binOp op t x y = (do pure (.bool (!(← Op.equal t x y))))) := by
  obtain ⟨h1, h2, h3, h4⟩ := hx
  constructor <;> (rintro rfl; cases x <;> first | rfl | exact absurd rfl (h1 _ _) | exact absurd rfl (h2 _) | exact absurd rfl (h3 _ _) | exact absurd rfl (h4 _ _ _))

theorem binOpV_ok (hw : WR P φ m w) {op : BinOp} {t : TypeId} {xo yo : Operand} {x x' y y' v : Value} (h : binOpV P op t xo yo x y = some v) (hx : VR φ x x') (hy : VR φ y y') :
    Ok P φ m w (do eqGuard op t xo yo x' y'; Go.binOp op t x' y') v m := by
  unfold binOpV at h
  split at h
  · cases hx; cases hy
    rw [eqGuard_at_int]
    exact semScal_ok hw h
  · cases hx; cases hy
    rw [eqGuard_at_string]
    exact semScal_ok hw h
  · cases hx; cases hy
    split at h
    · rename_i hc
      have hg : eqGuard op t xo yo .nilIface .nilIface = pure () := by
        cases op <;> cases xo <;> cases yo <;> first | (simp [isConstO] at hc; done) | rfl
      rw [hg]
      split at h
      · rename_i ms hu
        cases h
        refine Ok.still hw (v' := .bool true) ?_ (.bool _)
        show (Go.binOp .eql t .nilIface .nilIface).run P w = _
        rw [show Go.binOp .eql t .nilIface .nilIface = (do pure (.bool (← Op.equal t .nilIface .nilIface))) from rfl, equal_unfold]
        unfold Op.equalIn
        simp only [Sem.run_bind, run_under hu, Result.andThen_ok, Sem.run_pure]
      · rename_i ms hu
        cases h
        refine Ok.still hw (v' := .bool false) ?_ (.bool _)
        show (Go.binOp .neq t .nilIface .nilIface).run P w = _
        rw [show Go.binOp .neq t .nilIface .nilIface = (do pure (.bool (!(← Op.equal t .nilIface .nilIface)))) from rfl, equal_unfold]
        unfold Op.equalIn
        simp only [Sem.run_bind, run_under hu, Result.andThen_ok, Sem.run_pure]
        rfl
      · cases h
    · cases h
  · rename_i hn1 hn2 hn3
    have hgen : ∀ b : Bool, eqV P t x y = some b → (eqGuard op t xo yo x' y' = pure ()) ∧ ((∀ k n, x' ≠ .int k n) ∧ (∀ s, x' ≠ .string s) ∧ (∀ k n, x' ≠ .float k n) ∧ (∀ k a b, x' ≠ .complex k a b)) := by
      intro b hb
      cases hx <;> first
        | (cases hy <;> first | exact absurd rfl (hn1 _ _ _ _ rfl) | exact absurd rfl (hn2 _ _ rfl) | (simp [eqV] at hb; done) | exact ⟨by simp [eqGuard_at_bool, eqGuard_at_pointer, eqGuard_at_slice, eqGuard_at_map, eqGuard_at_func, eqGuard_at_nilFunc, eqGuard_at_iface, eqGuard_nil_iface], by simp⟩)
        | (cases hy <;> simp [eqV] at hb; done)
    split at h
    · simp only [Option.map_eq_some_iff] at h
      obtain ⟨b, hb, rfl⟩ := h
      obtain ⟨hg, hn⟩ := hgen b hb
      refine Ok.still hw (v' := .bool b) ?_ (.bool _)
      rw [hg, (binOp_gen hn).1 rfl]
      have := eqV_ok (P := P) (w := w) hb hx hy
      simp [this]
    · simp only [Option.map_eq_some_iff] at h
      obtain ⟨b, hb, rfl⟩ := h
      obtain ⟨hg, hn⟩ := hgen b hb
      refine Ok.still hw (v' := .bool (!b)) ?_ (.bool _)
      rw [hg, (binOp_gen hn).2 rfl]
      have := eqV_ok (P := P) (w := w) hb hx hy
      simp [this]
    · cases h

end base
end Go.D
