/- D: more operations against the model's. -/
import Derived.Test.YtfdfickokkokmaaDoorLD4
import Derived.Laws.Slices
import Derived.Laws.Strings
set_option linter.unusedSimpArgs false
set_option linter.unusedVariables false
namespace Go.D
open Go

section base
variable {P : Program} {φ : Phi} {m : Mem} {w : World}

theorem repl_length (n : Nat) (z : List Value) : (repl n z).length = n * z.length := by
  induction n with
  | zero => simp [repl]
  | succ n ih => simp [repl, ih, Nat.succ_mul, Nat.add_comm]

/-- The model's way to fill a row with zero values. -/
theorem range_repl (z : Array Value) (n : Nat) : ((Array.range (n * z.size)).map fun i => z[i % z.size]!).toList = repl n z.toList := by
  have key : ∀ n, (List.range (n * z.size)).map (fun i => z[i % z.size]!) = repl n z.toList := by
    intro n
    induction n with
    | zero => simp [repl]
    | succ n ih =>
      have h1 : (n + 1) * z.size = z.size + n * z.size := by rw [Nat.succ_mul, Nat.add_comm]
      rw [h1, List.range_add, List.map_append, List.map_map]
      have h2 : ((fun i => z[i % z.size]!) ∘ fun x => z.size + x) = fun i => z[i % z.size]! := by
        funext i; simp
      rw [h2, ih]
      have h3 : (List.range z.size).map (fun i => z[i % z.size]!) = z.toList := by
        apply List.ext_getElem
        · simp
        · intro i h1 h2
          simp only [List.length_map, List.length_range] at h1
          simp [Nat.mod_eq_of_lt h1, h1]
      rw [h3]; rfl
  simp [key]

theorem buildSlice_ok (hw : WR P φ m w) {t : TypeId} {len : Nat} {ps ps' : List (Nat × Value)} (hp : PR φ ps ps') {v : Value} {m' : Mem} (h : buildSlice P m t len ps = some (v, m')) :
    Ok P φ m w (Instr.buildSlice t len ps'.toArray) v m' := by
  unfold buildSlice at h
  split at h
  · rename_i elem hu
    split at h
    · rename_i s z hs hz
      split at h
      · rename_i hle
        split at h
        · rename_i cs hcs
          simp only [Option.some.injEq, Prod.mk.injEq] at h
          obtain ⟨rfl, rfl⟩ := h
          obtain ⟨i, zv, hi, hzv, he, _, hl⟩ := zeroCells_spec hz
          have hs2 : i.size = s := by simpa [sizeT, hi] using hs
          have hzs : zv.cells.size = s := by rw [← hs2, ← hl, ← he]; simp
          have hrep : ((Array.range (len * s)).map (fun x => zv.cells[x % zv.cells.size]!)).toList = repl len z := by rw [← he, ← range_repl, hzs]
          obtain ⟨r', hr', hrel⟩ := fill_ok (fun i => some (i * s, s)) ps ps' (repl len z) ((Array.range (len * s)).map (fun x => zv.cells[x % zv.cells.size]!)) cs hp
            (by rw [hrep]; exact (VRL.zero hz).repl len) hcs
          have hrow := sim_row hw hs (c := cs) (c' := r') hrel (w' := { w with heap := w.heap.push (.cells r' elem) }) rfl rfl rfl rfl
          refine ⟨_, _, .slice (some ⟨w.heap.size, 0, none⟩) len len, ?_, ?_, hrow.2⟩
          · unfold Instr.buildSlice
            simp only [Sem.run_bind, run_under hu, Result.andThen_ok, run_sizeOf hs]
            rw [if_neg (by omega)]
            by_cases h0 : len * s = 0
            · rw [if_pos h0]
              have e0 : ∀ Z : Array Value, (Array.range (len * s)).map (fun x => Z[x % Z.size]!) = #[] := by intro Z; rw [h0]; simp
              rw [e0] at hr'
              simp only [Sem.run_bind, Sem.run_pure, Result.andThen_ok, e0, hr', Go.newRow, run_newObj]
            · rw [if_neg h0]
              simp only [Sem.run_bind, Sem.run_pure, Result.andThen_ok, run_zeroValue hi hzv, hr', Go.newRow, run_newObj]
          · by_cases hlo : isLoose len = true
            · exact .slL (Phi.put_same _ _ _) hlo (Nat.le_refl _) (fun _ => by
                have h1 := hrel.length
                have h2 : ∀ (ps : List (Nat × Value)) (cs r : List Value), fillL (fun i => some (i * s, s)) cs ps = some r → r.length = cs.length := by
                  intro ps
                  induction ps with
                  | nil => intro cs r h; simp only [fillL, Option.some.injEq] at h; rw [h]
                  | cons x xs ih =>
                    intro cs r h
                    obtain ⟨i, v⟩ := x
                    unfold fillL at h
                    simp only at h
                    split at h
                    · rename_i hc
                      simp only [Bool.and_eq_true, decide_eq_true_eq] at hc
                      rw [ih _ _ h, splice_length _ _ _ (by simp; omega)]
                    · cases h
                have h3 := h2 _ _ _ hcs
                rw [repl_length, hl, hs2] at h3
                simp only [Array.length_toList] at h1
                simp; omega)
            · exact .sl (Phi.put_same _ _ _) (by simpa using hlo)
        · cases h
      · cases h
    · cases h
  · cases h

theorem part_ok {t : TypeId} {c c' : Array Value} (hc : VRL φ c.toList c'.toList) {off : Nat} {v : Value} (h : partV P t c off = some v) :
    ∃ v', (part t c' off).run P w = .ok v' w ∧ VR φ v v' := by
  unfold partV at h
  split at h
  · rename_i d i hd hi
    have hs : sizeT P t = some i.size := by simp [sizeT, hi]
    unfold part
    simp only [Sem.run_bind, run_isAgg hd, Result.andThen_ok]
    split at h
    · rename_i ha
      cases h
      refine ⟨.agg (c'.extract off (off + i.size)), by simp [ha, run_sizeOf hs], .agg ?_⟩
      simp only [Array.toList_extract]
      exact (hc.drop _).take _
    · rename_i ha
      have ha' : isAggD d = false := by simpa using ha
      rcases hc.get? off with ⟨h1, h2⟩ | ⟨x, y, h1, h2, h3⟩
      · simp at h1 h; rw [Array.getElem?_eq_none h1] at h; cases h
      · simp only [Array.getElem?_toList] at h1 h2
        rw [h] at h1
        cases h1
        exact ⟨y, by simp [ha', h2], h3⟩
  · cases h

theorem fieldAt_ok (hw : WR P φ m w) {s : TypeId} {v v' r : Value} {f : Nat} (h : fieldAt P s v f = some r) (hv : VR φ v v') :
    Ok P φ m w (Instr.fieldAt s v' f) r m := by
  unfold fieldAt at h
  split at h
  · rename_i fields a hu
    obtain ⟨hs, L, hL, rfl⟩ := hv.ptr_inv
    split at h
    · rename_i fd hf
      split at h
      · rename_i n hsz
        cases h
        obtain ⟨ab, ao, asp⟩ := a
        simp only at hs hL
        subst hs
        refine Ok.still hw (v' := .pointer (some ⟨L.blk, ao + fd.offset, none⟩)) ?_ (by rw [add_none]; exact .ptr hL)
        unfold Instr.fieldAt Instr.sureAddr fieldPlace
        simp only [Sem.run_bind, run_under hu, Result.andThen_ok, hf, Sem.run_pure, run_sizeOf hsz]
        simp [add_none]
      · cases h
    · cases h
  · cases h

theorem fieldV_ok (hw : WR P φ m w) {t : TypeId} {x x' r : Value} {f : Nat} (h : fieldV P t x f = some r) (hx : VR φ x x') :
    Ok P φ m w (Instr.field t x' f) r m := by
  unfold fieldV at h
  split at h
  · rename_i fields cs hu
    cases hx with
    | agg hc =>
      split at h
      · rename_i fd hf
        obtain ⟨v', hr, hv⟩ := part_ok (P := P) (w := w) hc h
        refine Ok.still hw (v' := v') ?_ hv
        unfold Instr.field asAgg
        simp only [Sem.run_bind, run_under hu, Result.andThen_ok, hf, Sem.run_pure, hr]
      · cases h
  · cases h

theorem indexAt_ok (hw : WR P φ m w) {t : TypeId} {x x' ix ix' r : Value} (h : indexAt P t x ix = some r) (hx : VR φ x x') (hi : VR φ ix ix') :
    Ok P φ m w (Instr.indexAt t x' ix') r m := by
  unfold indexAt at h
  split at h
  · rename_i k i
    cases hi
    split at h
    · rename_i elem a len cap hu
      split at h
      · rename_i s hs
        split at h
        · rename_i hb
          cases h
          have hx' : a.spot = none ∧ ∃ L c', φ a.block = some L ∧ x' = .slice (some ⟨L.blk, a.off, none⟩) len c' := by
            cases hx with
            | sl h hc => exact ⟨rfl, _, _, h, rfl⟩
            | slL h hc hn ht => exact ⟨rfl, _, _, h, rfl⟩
            | slZ b o s a => omega
          obtain ⟨hsp, L, c', hL, rfl⟩ := hx'
          obtain ⟨ab, ao, asp⟩ := a
          simp only at hsp hL
          subst hsp
          refine Ok.still hw (v' := .pointer (some ⟨L.blk, ao + i.toNat * s, none⟩)) ?_ (by rw [add_none]; exact .ptr hL)
          unfold Instr.indexAt asIntOf
          simp only [Sem.run_bind, run_under hu, Result.andThen_ok, Sem.run_pure]
          rw [if_pos hb]
          simp [run_sizeOf hs, add_none]
        · cases h
      · cases h
    · rename_i len elem a hu
      obtain ⟨hsp, L, hL, rfl⟩ := hx.ptr_inv
      split at h
      · rename_i s hs
        split at h
        · rename_i hb
          cases h
          obtain ⟨ab, ao, asp⟩ := a
          simp only at hsp hL
          subst hsp
          refine Ok.still hw (v' := .pointer (some ⟨L.blk, ao + i.toNat * s, none⟩)) ?_ (by rw [add_none]; exact .ptr hL)
          unfold Instr.indexAt asIntOf Instr.sureAddr
          simp only [Sem.run_bind, run_under hu, Result.andThen_ok, Sem.run_pure]
          rw [if_pos hb]
          simp [run_sizeOf hs, add_none]
        · cases h
      · cases h
    · cases h
  · cases h

theorem indexV_ok (hw : WR P φ m w) {t : TypeId} {x x' ix ix' r : Value} (h : indexV P t x ix = some r) (hx : VR φ x x') (hi : VR φ ix ix') :
    Ok P φ m w (Instr.index t x' ix') r m := by
  unfold indexV at h
  split at h
  · rename_i k i
    cases hi
    split at h
    · rename_i len elem cs hu
      cases hx with
      | agg hc =>
        split at h
        · rename_i s hs
          split at h
          · rename_i hb
            obtain ⟨v', hr, hv⟩ := part_ok (P := P) (w := w) hc h
            refine Ok.still hw (v' := v') ?_ hv
            unfold Instr.index asIntOf
            simp only [Sem.run_bind, run_under hu, Result.andThen_ok, Sem.run_pure]
            rw [if_pos hb]
            simp [run_sizeOf hs, hr]
          · cases h
        · cases h
    · rename_i s hu
      cases hx
      split at h
      · rename_i h0
        split at h
        · rename_i b hb
          cases h
          refine Ok.still hw (v' := .int .u8 b.toNat) ?_ (.int _ _)
          unfold Instr.index asIntOf
          simp only [Sem.run_bind, run_under hu, Result.andThen_ok, Sem.run_pure]
          rw [if_pos h0]
          have : s[i.toNat]? = some b := by
            have h1 : i.toNat < s.data.size := by
              rcases Nat.lt_or_ge i.toNat s.data.size with h | h
              · exact h
              · rw [Array.getElem?_eq_none h] at hb; cases hb
            rw [ByteArray.getElem?_lt' s _ h1]
            rw [Array.getElem?_eq_getElem h1] at hb
            exact hb
          simp [this]
        · cases h
      · cases h
    · cases h
  · cases h

theorem bound_ok {y : Nat} {v v' : Value} {code : BoundsCode} {n : Nat} (h : bound y v = some n) (hv : VR φ v v') :
    ∃ k i, v' = .int k i ∧ v = .int k i ∧ 0 ≤ i ∧ i ≤ y ∧ n = i.toNat ∧ (Instr.sliceBound v' y code).run P w = .ok n w := by
  unfold bound at h
  split at h
  · rename_i k i
    cases hv
    split at h
    · rename_i hb
      cases h
      refine ⟨k, i, rfl, rfl, hb.1, hb.2, rfl, ?_⟩
      unfold Instr.sliceBound asIntOf
      simp only [Sem.run_bind, Sem.run_pure, Result.andThen_ok]
      rw [if_pos hb]; rfl
    · cases h
  · cases h

end base
end Go.D
