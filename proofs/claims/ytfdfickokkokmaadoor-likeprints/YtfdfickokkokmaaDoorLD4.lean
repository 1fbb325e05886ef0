/- D: each operation against the model's. -/
import Derived.Test.YtfdfickokkokmaaDoorLD3
import Derived.Laws.Entries
set_option linter.unusedSimpArgs false
set_option linter.unusedVariables false
namespace Go.D
open Go

section base
variable {P : Program} {φ : Phi} {m : Mem} {w : World}

theorem run_typeInfo {t : TypeId} {i : TypeInfo} (h : P.info? t = some i) : (typeInfo t).run P w = .ok i w := by
  unfold typeInfo; simp [h]

theorem run_under {t : TypeId} {d : TypeDesc} (h : P.underlying t = some d) : (underlying t).run P w = .ok d w := run_underlying h w

theorem run_sizeOf {t : TypeId} {s : Nat} (h : sizeT P t = some s) : (sizeOf t).run P w = .ok s w := by
  unfold sizeT at h
  unfold sizeOf
  cases hi : P.info? t with
  | none => simp [hi] at h
  | some i =>
    simp [hi] at h
    simp [run_typeInfo hi, h]

theorem run_isAgg {t : TypeId} {d : TypeDesc} (h : P.underlying t = some d) : (isAgg t).run P w = .ok (isAggD d) w := by
  unfold isAgg isAggD
  rw [Sem.run_bind, run_under h]
  cases d <;> rfl

theorem zeroCells_spec {t : TypeId} {z : List Value} (h : zeroCells P t = some z) : ∃ i zv, P.info? t = some i ∧ i.zero = some zv ∧ zv.cells.toList = z ∧ z.all scalar = true ∧ z.length = i.size := by
  unfold zeroCells at h
  split at h
  · rename_i i hi
    split at h
    · rename_i zv hz
      split at h
      · rename_i hc
        cases h
        simp only [Bool.and_eq_true, decide_eq_true_eq] at hc
        exact ⟨i, zv, hi, hz, rfl, hc.1, by simpa using hc.2⟩
      · cases h
    · cases h
  · cases h

theorem run_zeroValue {t : TypeId} {i : TypeInfo} {z : Value} (h : P.info? t = some i) (hz : i.zero = some z) : (zeroValue t).run P w = .ok z w := by
  unfold zeroValue
  rw [Sem.run_bind, run_typeInfo h]
  simp [hz]

theorem cell_loadN (hw : WR P φ m w) {a : Addr} {x : Value} (h : loadN m a 1 = some [x]) {L : Loc} (hL : φ a.block = some L) :
    ∃ x', w.cell? ⟨L.blk, a.off, none⟩ = some x' ∧ VR φ x x' := by
  unfold loadN at h
  split at h
  · cases h
  · split at h
    · rename_i c e g hc
      obtain ⟨c', fr, ho, htot, _, hle, hrel, _⟩ := hw.live _ _ L hc hL
      simp only at h
      split at h
      · rename_i hc2
        simp only [Option.some.injEq] at h
        have hrel2 := ((hrel.drop a.off).take 1).v hc2.2
        rw [h] at hrel2
        generalize hy : ((c'.toList.take c.length).drop a.off).take 1 = ys at hrel2
        cases hrel2 with
        | cons h3 t =>
          cases t
          rename_i y'
          refine ⟨y', ?_, h3⟩
          rw [cell_of_row w L.blk a.off c' e fr ho]
          have h2 := congrArg (·[0]?) hy
          simp only [List.getElem?_take, List.getElem?_drop, Nat.add_zero, Nat.lt_one_iff, if_true, List.getElem?_cons_zero] at h2
          split at h2
          · simpa using h2
          · cases h2
      · cases h
    · cases h

theorem loadVar_ok (hw : WR P φ m w) {t : TypeId} {v v' r : Value} (h : loadVar P m t v = some r) (hv : VR φ v v') :
    ∃ r', (Instr.loadAt t v').run P w = .ok r' w ∧ VR φ r r' := by
  unfold loadVar at h
  split at h
  · rename_i a
    obtain ⟨hs, L, hL, rfl⟩ := hv.ptr_inv
    split at h
    · cases h
    · rename_i d hd
      unfold Instr.loadAt Instr.sureAddr Go.loadVar
      simp only [Sem.run_bind, Sem.run_pure, Result.andThen_ok, run_isAgg hd]
      split at h
      · rename_i hagg
        split at h
        · cases h
        · rename_i i hi
          split at h
          · rename_i l hl
            cases h
            obtain ⟨arr, hr, hrel⟩ := run_loadN hw hl hL
            refine ⟨.agg arr, ?_, .agg (by simpa using hrel)⟩
            have hsz : sizeT P t = some i.size := by simp [sizeT, hi]
            simp [hagg, run_sizeOf hsz, hr]
          · cases h
      · rename_i hagg
        split at h
        · rename_i x hx
          cases h
          obtain ⟨x', hc, hrel⟩ := cell_loadN hw hx hL
          refine ⟨x', ?_, hrel⟩
          simp [hagg, hc]
        · cases h
  · cases h

theorem storeVar_ok (hw : WR P φ m w) {t : TypeId} {v v' x x' : Value} {m' : Mem} (h : storeVar P m t v x = some m') (hv : VR φ v v') (hx : VR φ x x') :
    ∃ w', (Instr.storeAt t v' x').run P w = .ok () w' ∧ Sim P φ m w φ m' w' := by
  unfold storeVar at h
  split at h
  · rename_i a
    obtain ⟨hs, L, hL, rfl⟩ := hv.ptr_inv
    split at h
    · cases h
    · rename_i i hi
      split at h
      · rename_i hsz
        have hcells := hx.cells
        obtain ⟨w', hr, hsim⟩ := run_storeN hw h hcells hL
        refine ⟨w', ?_, hsim⟩
        have h1 : sizeT P t = some i.size := by simp [sizeT, hi]
        have h2 : x'.cells.size = i.size := by
          have := hcells.length
          simp only [Array.length_toList] at this
          omega
        unfold Instr.storeAt Instr.sureAddr Go.storeVar
        simp [run_sizeOf h1, h2, hr]
      · cases h
  · cases h

theorem VRL.zero {t : TypeId} {z : List Value} (h : zeroCells P t = some z) : VRL φ z z := by
  obtain ⟨_, _, _, _, _, hs, _⟩ := zeroCells_spec h
  exact VRL.scalar_self hs

/-- A new block of known cells. -/
theorem sim_row (hw : WR P φ m w) {e : TypeId} {s : Nat} (hs : sizeT P e = some s) {c : List Value} {c' : Array Value} (hc : VRL φ c c'.toList) {w' : World}
    (hh : w'.heap = w.heap.push (.cells c' e)) (ho : w'.os = w.os) (ht : w'.tape = w.tape) (hu : w'.output = w.output) :
    VR (φ.put m.next ⟨w.heap.size, c'.size, s⟩) (.pointer (some (newRow m e c).1)) (.pointer (some ⟨w.heap.size, 0, none⟩)) ∧
    Sim P φ m w (φ.put m.next ⟨w.heap.size, c'.size, s⟩) (newRow m e c).2 w' := by
  refine ⟨.ptr (Phi.put_same _ _ _), sim_push hw _ ⟨w.heap.size, c'.size, s⟩ _ rfl hh ho ht hu ?_⟩
  have hl := hc.length
  simp only [Array.length_toList] at hl
  have hle := Phi.le_put (φ := φ) ⟨w.heap.size, c'.size, s⟩ (hw.fresh m.next (Nat.le_refl _))
  refine ⟨c', (0, 0), rfl, rfl, fun _ => hl.symm, by omega, ?_, fun _ k _ h => by simp at h, fun _ => hs⟩
  rw [List.take_of_length_le (by simp; omega)]
  exact (hc.mono hle).c

/-- A new block that may bear more cells than are known. -/
theorem sim_rowL (hw : WR P φ m w) {e : TypeId} {s : Nat} (hs : sizeT P e = some s) {c : List Value} {c' : Array Value} (hc : VRL φ c (c'.toList.take c.length)) (hlen : c.length ≤ c'.size) {fr : Nat × Nat}
    (hfr : ∀ k, k < c'.size → ¬ (fr.1 ≤ k ∧ k < fr.2)) {w' : World}
    (hh : w'.heap = w.heap.push (.cells c' e fr)) (ho : w'.os = w.os) (ht : w'.tape = w.tape) (hu : w'.output = w.output) :
    Sim P φ m w (φ.put m.next ⟨w.heap.size, c'.size, s⟩) (m.push (.cells c e true)) w' := by
  refine sim_push hw _ ⟨w.heap.size, c'.size, s⟩ _ rfl hh ho ht hu ?_
  have hle := Phi.le_put (φ := φ) ⟨w.heap.size, c'.size, s⟩ (hw.fresh m.next (Nat.le_refl _))
  exact ⟨c', fr, rfl, rfl, nofun, hlen, (hc.mono hle).c, fun _ => hfr, fun _ => hs⟩

theorem sizeT_of_zero {t : TypeId} {z : List Value} (h : zeroCells P t = some z) : sizeT P t = some z.length := by
  obtain ⟨i, _, hi, _, _, _, hl⟩ := zeroCells_spec h
  simp [sizeT, hi, hl]

/-- A run that ends in a value, with memory as `m'` says. -/
def Ok (P : Program) (φ : Phi) (m : Mem) (w : World) (s : Sem Value) (v : Value) (m' : Mem) : Prop :=
  ∃ ψ w' v', s.run P w = .ok v' w' ∧ VR ψ v v' ∧ Sim P φ m w ψ m' w'

theorem Ok.still (hw : WR P φ m w) {s : Sem Value} {v v' : Value} (h : s.run P w = .ok v' w) (hv : VR φ v v') : Ok P φ m w s v m := ⟨φ, w, v', h, hv, Sim.refl hw⟩

theorem alloc_ok (hw : WR P φ m w) {e : TypeId} {z : List Value} (h : zeroCells P e = some z) :
    Ok P φ m w (Instr.alloc e true (.tuple #[])) (.pointer (some (newRow m e z).1)) (newRow m e z).2 := by
  obtain ⟨i, zv, hi, hz, he, hs, hl⟩ := zeroCells_spec h
  have hrow := sim_row hw (sizeT_of_zero h) (c := z) (c' := zv.cells) (by rw [he]; exact VRL.zero h) (w' := { w with heap := w.heap.push (.cells zv.cells e) }) rfl rfl rfl rfl
  refine ⟨_, _, _, ?_, hrow.1, hrow.2⟩
  unfold Instr.alloc newVar Go.newRow
  simp [run_zeroValue hi hz]

theorem box_ok (hw : WR P φ m w) {e : TypeId} {s : Nat} (hs : sizeT P e = some s) {v v' : Value} (hv : VR φ v v') :
    Ok P φ m w (Instr.box e v') (.pointer (some (newRow m e v.cells.toList).1)) (newRow m e v.cells.toList).2 := by
  have hrow := sim_row hw hs (c := v.cells.toList) (c' := v'.cells) hv.cells (w' := { w with heap := w.heap.push (.cells v'.cells e) }) rfl rfl rfl rfl
  refine ⟨_, _, _, ?_, hrow.1, hrow.2⟩
  unfold Instr.box newVar Go.newRow
  simp

/- fill -/

def PR (φ : Phi) : List (Nat × Value) → List (Nat × Value) → Prop
  | [], [] => True
  | x :: xs, y :: ys => x.1 = y.1 ∧ VR φ x.2 y.2 ∧ PR φ xs ys
  | _, _ => False

theorem zipIdx_foldl_splice (vs : List Value) : ∀ (off j : Nat) (cs : Array Value), off + j + vs.length ≤ cs.size →
    ((vs.zipIdx j).foldl (fun cs (x : Value × Nat) => cs.setIfInBounds (off + x.2) x.1) cs).toList = splice cs.toList (off + j) vs := by
  induction vs with
  | nil => intro off j cs _; simp [splice]
  | cons v rest ih =>
    intro off j cs h
    simp only [List.length_cons] at h
    rw [List.zipIdx_cons, List.foldl_cons, ih off (j + 1) _ (by simp only [Array.size_setIfInBounds]; omega), Array.toList_setIfInBounds]
    rw [show off + (j + 1) = off + j + 1 by omega]
    exact splice_set _ _ _ _ (by simp; omega)

theorem fill_ok (place : Nat → Option (Nat × Nat)) : ∀ (ps ps' : List (Nat × Value)) (cs : List Value) (cs' : Array Value) (r : List Value), PR φ ps ps' → VRL φ cs cs'.toList →
    fillL place cs ps = some r → ∃ r', Instr.fill place cs' ps' = some r' ∧ VRL φ r r'.toList
  | [], [], cs, cs', r, _, hc, h => by simp only [fillL] at h; cases h; exact ⟨cs', rfl, hc⟩
  | [], _ :: _, _, _, _, hp, _, _ => hp.elim
  | _ :: _, [], _, _, _, hp, _, _ => hp.elim
  | (i, v) :: rest, (j, v') :: rest', cs, cs', r, hp, hc, h => by
    obtain ⟨hij, hv, hp⟩ := hp
    simp only at hij hv
    subst hij
    unfold fillL at h
    unfold Instr.fill
    cases hpl : place i with
    | none => simp [hpl] at h
    | some q =>
      obtain ⟨off, size⟩ := q
      simp only [hpl] at h
      split at h
      · rename_i hcond
        simp only [Bool.and_eq_true, decide_eq_true_eq] at hcond
        have hl := hv.cells.length
        have hl2 := hc.length
        simp only [Array.length_toList] at hl hl2
        have h1 : ¬ (v'.cells.size ≠ size || off + v'.cells.size > cs'.size) = true := by
          simp only [Bool.or_eq_true, decide_eq_true_eq, ne_eq]
          omega
        simp only [h1]
        refine fill_ok place rest rest' _ _ r hp ?_ h
        have := zipIdx_foldl_splice v'.cells.toList off 0 cs' (by simp; omega)
        simp only [Nat.add_zero] at this
        have e : (Array.foldl (fun cs (x : Value × Nat) => cs.setIfInBounds (off + x.2) x.1) cs' v'.cells.zipIdx).toList = splice cs'.toList off v'.cells.toList := by
          rw [← this, ← Array.foldl_toList, Array.toList_zipIdx]
        have e2 : (Array.foldl (fun (cs : Array Value) (x : Value × Nat) => match x with | (c, j) => cs.setIfInBounds (off + j) c) cs' v'.cells.zipIdx) = (Array.foldl (fun cs (x : Value × Nat) => cs.setIfInBounds (off + x.2) x.1) cs' v'.cells.zipIdx) := rfl
        rw [e2, e]
        exact hc.splice hv.cells off
      · cases h

theorem run_places : ∀ (fs : List Field) (pl : List (Nat × Nat)), places P fs = some pl →
    (fs.mapM fun f => do pure (f.offset, ← sizeOf f.type) : Sem (List (Nat × Nat))).run P w = .ok pl w
  | [], pl, h => by simp only [places] at h; cases h; rfl
  | f :: fs, pl, h => by
    unfold places at h
    split at h
    · rename_i s l hs hl
      cases h
      rw [List.mapM_cons]
      simp only [Sem.run_bind, run_sizeOf hs, Result.andThen_ok, Sem.run_pure, run_places fs l hl]
    · cases h

theorem build_ok (hw : WR P φ m w) {t : TypeId} {ps ps' : List (Nat × Value)} (hp : PR φ ps ps') {v : Value} (h : build P t ps = some v) :
    Ok P φ m w (Instr.build t ps'.toArray) v m := by
  unfold build at h
  split at h
  · cases h
  · rename_i zero hz
    obtain ⟨i, zv, hi, hzv, he, _, _⟩ := zeroCells_spec hz
    have hz0 : VRL φ zero zv.cells.toList := by rw [he]; exact VRL.zero hz
    unfold Ok Instr.build
    simp only [Sem.run_bind, run_zeroValue hi hzv, Result.andThen_ok]
    split at h
    · rename_i fields hu
      split at h
      · cases h
      · rename_i pl hpl
        split at h
        · rename_i cs hcs
          cases h
          obtain ⟨r', hr', hrel⟩ := fill_ok (fun i => pl[i]?) ps ps' zero zv.cells cs hp hz0 hcs
          refine ⟨φ, w, .agg r', ?_, .agg (by simpa using hrel), Sim.refl hw⟩
          simp only [run_under hu, Result.andThen_ok, Array.mapM_eq_mapM_toList, Sem.run_bind, Sem.run_map]
          rw [run_places fields.toList pl hpl]
          simp only [Result.andThen_ok, List.getElem?_toArray, hr', Sem.run_pure]
        · cases h
    · rename_i n elem hu
      split at h
      · cases h
      · rename_i s hs
        split at h
        · rename_i cs hcs
          cases h
          obtain ⟨r', hr', hrel⟩ := fill_ok (fun i => some (i * s, s)) ps ps' zero zv.cells cs hp hz0 hcs
          refine ⟨φ, w, .agg r', ?_, .agg (by simpa using hrel), Sim.refl hw⟩
          simp only [run_under hu, Result.andThen_ok, Sem.run_bind, run_sizeOf hs, hr', Sem.run_pure]
        · cases h
    · cases h

end base
end Go.D
