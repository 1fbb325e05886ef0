/- D: making, appending, copying against the model's. -/
import Derived.Test.YtfdfickokkokmaaDoorLD6
import Derived.IntWalk
set_option linter.unusedSimpArgs false
set_option linter.unusedVariables false
namespace Go.D
open Go

section base
variable {P : Program} {φ : Phi} {m : Mem} {w : World}

theorem makeSlice_ok (hw : WR P φ m w) {t : TypeId} {ln cp ln' cp' v : Value} {m' : Mem} (h : makeSlice P m t ln cp = some (v, m')) (hl : VR φ ln ln') (hc : VR φ cp cp') :
    Ok P φ m w (Instr.makeSlice t ln' cp') v m' := by
  unfold makeSlice at h
  split at h
  · rename_i elem k1 l k2 c hu
    cases hl
    cases hc
    split at h
    · rename_i i z hi hz
      split at h
      · rename_i hcond
        obtain ⟨h0, h1, h2, h3⟩ := hcond
        simp only [Option.some.injEq, Prod.mk.injEq] at h
        obtain ⟨rfl, rfl⟩ := h
        obtain ⟨i', zv, hi', hzv, he, _, hzl⟩ := zeroCells_spec hz
        rw [hi] at hi'
        cases hi'
        have hs : sizeT P elem = some i.size := by simp [sizeT, hi]
        have hzs : zv.cells.size = i.size := by rw [← hzl, ← he]; simp
        have hwl : IntKind.i64.wrap l = l := IntWalk.i64_in _ (by omega)
        have hwc : IntKind.i64.wrap c = c := IntWalk.i64_in _ (by omega)
        have hrep : ((Array.range (c.toNat * i.size)).map (fun x => zv.cells[x % zv.cells.size]!)).toList = repl c.toNat z := by rw [← he, ← range_repl, hzs]
        have hnl : ¬ ((i.bytes : Int) * c > 2 ^ 48) := by rw [Int.mul_comm]; omega
        have hrow := sim_row hw hs (c := repl c.toNat z) (c' := (Array.range (c.toNat * i.size)).map (fun x => zv.cells[x % zv.cells.size]!)) (by rw [hrep]; exact (VRL.zero hz).repl _)
          (w' := { w with heap := w.heap.push (.cells ((Array.range (c.toNat * i.size)).map (fun x => zv.cells[x % zv.cells.size]!)) elem) }) rfl rfl rfl rfl
        refine ⟨_, _, .slice (some ⟨w.heap.size, 0, none⟩) l.toNat c.toNat, ?_, ?_, hrow.2⟩
        · unfold Instr.makeSlice asInt asIntOf
          simp only [Sem.run_bind, run_under hu, Result.andThen_ok, Sem.run_pure, run_typeInfo hi, hwl, hwc]
          have hcond2 : ((decide (c < 0) || decide ((i.bytes : Int) * c > 2 ^ 48) || decide (l < 0) || decide (l > c)) = true) = False := by
            simp only [Bool.or_eq_true, decide_eq_true_eq, eq_iff_iff, iff_false]
            omega
          rw [if_neg (by rw [hcond2]; exact id)]
          simp only [Sem.run_bind, run_askRoom, Result.andThen_ok, run_sizeOf hs]
          by_cases e0 : c.toNat * i.size = 0
          · have e1 : ∀ Z : Array Value, (Array.range (c.toNat * i.size)).map (fun x => Z[x % Z.size]!) = #[] := by intro Z; rw [e0]; simp
            rw [if_pos e0]
            simp only [Sem.run_bind, Sem.run_pure, Result.andThen_ok, e1, Go.newRow, run_newObj]
          · rw [if_neg e0]
            simp only [Sem.run_bind, Sem.run_pure, Result.andThen_ok, run_zeroValue hi hzv, Go.newRow, run_newObj]
        · cases hlc : isLoose c.toNat with
          | false => exact .sl (Phi.put_same _ _ _) hlc
          | true => exact .slL (Phi.put_same _ _ _) hlc (by omega) (fun _ => by simp)
      · cases h
    · cases h
  · cases h

theorem extract_data (s : ByteArray) (n : Nat) : (s.extract 0 n).data.toList = s.data.toList.take n := by
  rw [ByteArray.data_extract]; simp

theorem loadN_length {a : Addr} {n : Nat} {l : List Value} (h : loadN m a n = some l) : l.length = n := by
  unfold loadN at h
  split at h
  · cases h
  · split at h
    · simp only at h
      split at h
      · rename_i e; cases h; exact e.1
      · cases h
    · cases h

theorem srcCells_ok (hw : WR P φ m w) {s n : Nat} {x x' : Value} {l : List Value} (h : srcCells m s n x = some l) (hx : VR φ x x') :
    ∃ arr, (Builtin.firstCells s n x').run P w = .ok arr w ∧ VRL φ l arr.toList := by
  unfold srcCells at h
  split at h
  · rename_i a c
    split at h
    · cases h
      cases hx
      exact ⟨#[], rfl, .nil⟩
    · cases h
  · rename_i a c d
    rcases hx.slice_inv with ⟨e, _⟩ | ⟨b, o, L, c', e, hL, rfl, _⟩ | ⟨b, o, sp, ad, e, _⟩
    · cases e
    · cases e
      exact run_loadN hw h hL
    · cases e; cases h
  · rename_i b
    cases hx
    cases h
    refine ⟨_, rfl, ?_⟩
    rw [Array.toList_map, extract_data]
    exact VRL.map _ fun _ _ => .int _ _
  · cases h

theorem lenV_ok {x x' : Value} {n : Nat} (h : lenV x = some n) (hx : VR φ x x') : (Builtin.lenOf x').run P w = .ok n w := by
  unfold lenV at h
  split at h
  · cases h
    rcases hx.slice_inv with ⟨e, rfl⟩ | ⟨b, o, L, c', e, hL, rfl, _⟩ | ⟨b, o, sp, ad, e, rfl, rfl, rfl⟩ <;> rfl
  · cases h; cases hx; rfl
  · cases h

theorem growBy_le (n : Nat) : ∀ (r c : Nat), c < n → 256 ≤ c → Builtin.growBy n r c ≤ 2 * n
  | 0, c, h, _ => by unfold Builtin.growBy; omega
  | r + 1, c, h, h2 => by
    unfold Builtin.growBy
    rw [if_neg (by omega)]
    by_cases h3 : c + (c + 768) / 4 < n
    · exact growBy_le n r _ h3 (by omega)
    · cases r with
      | zero => unfold Builtin.growBy; omega
      | succ r => unfold Builtin.growBy; rw [if_pos (by omega)]; omega

theorem nextslicecap_le {n c : Nat} (h : c < n) : Builtin.nextslicecap n c ≤ 2 * n := by
  unfold Builtin.nextslicecap
  split
  · omega
  · split
    · omega
    · exact growBy_le n 4 c h (by omega)

/-- What an append that has no room does. -/
theorem run_grow (hw : WR P φ m w) {elem : TypeId} {i : TypeInfo} {z : List Value} (hi : P.info? elem = some i) (hz : zeroCells P elem = some z)
    {sl n sc : Nat} (hlt : sc < sl + n) (hb1 : (sl + n) * i.bytes ≤ 140737488355328) (hb2 : sl + n ≤ 1152921504606846976) {base : Option Addr} {x : Value} {oldl newl : List Value} {olda newa : Array Value}
    (ho : (Builtin.firstCells i.size sl (.slice base sl sc)).run P w.drew = .ok olda w.drew) (hn : (Builtin.firstCells i.size n x).run P w.drew = .ok newa w.drew)
    (hol : VRL φ oldl olda.toList) (hnl : VRL φ newl newa.toList) (hlo : olda.size = sl * i.size) (hln : newa.size = n * i.size) (hx : (Builtin.lenOf x).run P w = .ok n w)
    {ats : Array TypeId} {st xt ty : TypeId} (ha0 : ats[0]? = some st) (ha1 : ats[1]? = some xt) {xd : TypeDesc} (hu : P.underlying st = some (.slice elem)) (hxd : P.underlying xt = some xd) (hnint : ∀ k, xd ≠ .int k) :
    ∃ ψ w', (Builtin.append_ ats ty #[.slice base sl sc, x]).run P w = .ok (.slice (some ⟨w.heap.size, 0, none⟩) (sl + n) (w.tape w.drawn (.appendCap (sl + n) sc elem) % (2 ^ 63 - (sl + n)) + (sl + n))) w' ∧
      VR ψ (.slice (some ⟨m.next, 0, none⟩) (sl + n) loose) (.slice (some ⟨w.heap.size, 0, none⟩) (sl + n) (w.tape w.drawn (.appendCap (sl + n) sc elem) % (2 ^ 63 - (sl + n)) + (sl + n))) ∧
      Sim P φ m w ψ (newLoose m elem (oldl ++ newl)).2 w' := by
  obtain ⟨i', zv, hi', hzv, he, _, hzl⟩ := zeroCells_spec hz
  rw [hi] at hi'
  cases hi'
  have hs : sizeT P elem = some i.size := by simp [sizeT, hi]
  have hzs : zv.cells.size = i.size := by rw [← hzl, ← he]; simp
  generalize hcap : w.tape w.drawn (.appendCap (sl + n) sc elem) % (2 ^ 63 - (sl + n)) + (sl + n) = cap
  have hcn : sl + n ≤ cap := by omega
  have hrest : (Builtin.zeroCells zv.cells (cap - (sl + n))).size = (cap - (sl + n)) * i.size := by simp [Builtin.zeroCells, hzs]
  have hsize : (olda ++ newa ++ Builtin.zeroCells zv.cells (cap - (sl + n))).size = cap * i.size := by
    simp only [Array.size_append, hrest, hlo, hln]
    rw [← Nat.add_mul, ← Nat.add_mul, Nat.add_sub_cancel' hcn]
  have hl := hol.append hnl
  have hlen : (oldl ++ newl).length = (sl + n) * i.size := by
    have := hl.length
    simp only [List.length_append, Array.length_toList] at this ⊢
    rw [this, hlo, hln, Nat.add_mul]
  have hpre : VRL φ (oldl ++ newl) ((olda ++ newa ++ Builtin.zeroCells zv.cells (cap - (sl + n))).toList.take (oldl ++ newl).length) := by
    rw [Array.toList_append, Array.toList_append, List.take_append_of_le_length (by rw [hl.length]; exact Nat.le_refl _), hl.length, List.take_of_length_le (Nat.le_refl _)]
    exact hl
  have hsim := sim_rowL hw hs (c := oldl ++ newl) (c' := olda ++ newa ++ Builtin.zeroCells zv.cells (cap - (sl + n))) hpre (by rw [hsize, hlen]; exact Nat.mul_le_mul_right _ hcn) (fr := (0, 0)) (by intro k _ h; simp at h)
    (w' := { w.drew with heap := w.drew.heap.push (.cells (olda ++ newa ++ Builtin.zeroCells zv.cells (cap - (sl + n))) elem) }) rfl rfl rfl rfl
  refine ⟨_, _, ?_, ?_, hsim⟩
  · unfold Builtin.append_
    have hq : (Question.appendCap (sl + n) sc elem).forced = false := rfl
    have hcut : (Question.appendCap (sl + n) sc elem).cut (w.tape w.drawn (.appendCap (sl + n) sc elem)) = cap := by
      rw [← hcap]; simp only [Question.cut]; omega
    have hnx := nextslicecap_le hlt
    have hbytes : ¬ Builtin.nextslicecap (sl + n) sc * i.bytes > 2 ^ 48 := by
      have h1 := Nat.mul_le_mul_right i.bytes hnx
      rw [Nat.mul_assoc] at h1
      omega
    have hmax : ¬ ((((sl + n : Nat) : Int) > IntKind.i64.max) ∧ (false = true ∨ i.bytes = 0)) := by
      intro hh
      have h1 := hh.1
      rw [IntKind.max_i64] at h1
      omega
    simp only [ha0, ha1, List.getElem?_toArray, List.getElem?_cons_zero, List.getElem?_cons_succ, Sem.run_bind, run_under hu, run_under hxd, Result.andThen_ok, run_sizeOf hs, Sem.run_pure]
    rw [if_neg (by decide)]
    simp only [Sem.run_bind, hx, Result.andThen_ok]
    rw [if_neg (by omega)]
    simp only [Sem.run_bind, run_typeInfo hi, Result.andThen_ok]
    rw [if_neg hmax]
    simp only [Sem.run_bind, run_typeInfo hi, Result.andThen_ok]
    rw [if_neg hbytes]
    simp only [Sem.run_bind, run_choose, hq, Bool.false_eq_true, if_false, hcut, run_typeInfo hi, Result.andThen_ok, run_askRoom]
    have ho' : (Builtin.firstCells i.size sl (.slice base sl sc)).run P { w with drawn := w.drawn + 1 } = .ok olda { w with drawn := w.drawn + 1 } := ho
    have hn' : (Builtin.firstCells i.size n x).run P { w with drawn := w.drawn + 1 } = .ok newa { w with drawn := w.drawn + 1 } := hn
    simp only [ho', hn', Bool.not_false, if_true, Result.andThen_ok, run_zeroValue hi hzv, Go.newRow, Sem.run_bind, run_newObj, Sem.run_pure]
    rfl
  · exact .slL (Phi.put_same _ _ _) (by decide) hcn (fun _ => by simp only; rw [hsize]; exact Nat.le_refl _)

theorem WR.drew (hw : WR P φ m w) : WR P φ m w.drew := (sim_same hw (w' := w.drew) rfl rfl rfl rfl).wr

/-- append. -/
theorem append_ok (hw : WR P φ m w) {ats : Array TypeId} {st xt ty : TypeId} (ha0 : ats[0]? = some st) (ha1 : ats[1]? = some xt) {s s' x x' v : Value} {m' : Mem} (h : append P m st xt s x = some (v, m')) (hs' : VR φ s s') (hx' : VR φ x x') :
    Ok P φ m w (Builtin.append_ ats ty #[s', x']) v m' := by
  unfold append at h
  split at h
  · rename_i elem xd hu hxd
    split at h
    · cases h
    · rename_i hnint
      have hni : ∀ k, xd ≠ .int k := fun k e => hnint k e
      split at h
      · rename_i i z base sl sc n hi hz hlen
        split at h
        · rename_i hcond
          obtain ⟨hsz, hb1, hb2⟩ := hcond
          have hsT : sizeT P elem = some i.size := by simp [sizeT, hi]
          have hlx := lenV_ok (P := P) (w := w) hlen hx'
          split at h
          · cases h
          · rename_i newl hnew
            obtain ⟨newa, hrn, hreln⟩ := srcCells_ok hw hnew hx'
            obtain ⟨newa2, hrn2, hreln2⟩ := srcCells_ok hw.drew hnew hx'
            split at h
            · cases h
            rename_i hnl0
            have hnl : newl.length = n * i.size := by simpa using hnl0
            unfold appendCore at h
            have hna : newa.size = n * i.size := by rw [← hnl, hreln.length]; simp
            have hna2 : newa2.size = n * i.size := by rw [← hnl, hreln2.length]; simp
            -- the ends of a step in place
            have inplace : ∀ {b' : Option Addr} {sc' : Nat} {w' : World}, sl + n ≤ sc' →
                (match b' with | some a => (storeCells (a.add (sl * i.size)) newa.toList).run P w = .ok () w' | none => w' = w) →
                (Builtin.append_ ats ty #[.slice b' sl sc', x']).run P w = .ok (.slice b' (sl + n) sc') w' := by
              intro b' sc' w' hle hst
              unfold Builtin.append_
              simp only [ha0, ha1, List.getElem?_toArray, List.getElem?_cons_zero, List.getElem?_cons_succ, Sem.run_bind, run_under hu, run_under hxd, Result.andThen_ok, run_sizeOf hsT, Sem.run_pure]
              rw [if_neg (by cases xd <;> first | decide | exact absurd rfl (hni _))]
              simp only [Sem.run_bind, hlx, Result.andThen_ok]
              rw [if_pos hle]
              cases b' with
              | none =>
                simp only at hst
                subst hst
                cases xd <;> first | exact absurd rfl (hni _) | simp [hrn]
              | some a =>
                simp only at hst
                cases xd <;> first | exact absurd rfl (hni _) | simp [hrn, hst]
            split at h
            · rename_i hlc
              split at h
              · cases h
              · rename_i a
                rcases hs'.slice_inv with ⟨e, _⟩ | ⟨b, o, L, c', e, hL, rfl, hcap⟩ | ⟨b, o, sp, ad, e, rfl, rfl, rfl⟩
                rotate_left 2
                · exact absurd hlc (by decide)
                · cases e
                · cases e
                  rcases hcap with ⟨hc, _⟩ | ⟨_, hn, ht⟩
                  · rw [hlc] at hc; cases hc
                  · split at h
                    · rename_i c e hsp hget
                      split at h
                      · rename_i hc2
                        obtain ⟨rfl, hbase, ho0, hcl, hfl2⟩ := hc2
                        obtain ⟨hcfl, hfl⟩ := Bool.and_eq_true _ _ ▸ hfl2
                        simp only at ho0 hget hbase hcl
                        subst ho0
                        simp only [Option.some.injEq, Prod.mk.injEq] at h
                        obtain ⟨rfl, rfl⟩ := h
                        obtain ⟨c2, fr, ho, h2, h3, h4, h5, h6, h7⟩ := hw.live _ _ L hget hL
                        have h7 := h7 hbase
                        have hsz' : L.sz = i.size := by rw [hi] at h7; simpa using h7.symm
                        have hrel := hreln
                        by_cases hle : sl + n ≤ c'
                        · -- in place
                          have htot := ht rfl
                          rw [hsz'] at htot
                          have hm1 := Nat.mul_le_mul_right i.size hle
                          rw [Nat.add_mul] at hm1
                          obtain ⟨w', hrun, hupd⟩ := run_storeCells (P := P) (o := sl * i.size) newa.toList 0 c2 w ho (h6 hbase) (by simp only [Array.length_toList]; omega) (hreln.flats hfl)
                          refine ⟨φ.put m.next L, w', .slice (some ⟨L.blk, 0, none⟩) (sl + n) c', ?_, .slL (Phi.put_same _ _ _) (by decide) hle (by intro _; exact ht rfl), ?_⟩
                          · refine inplace hle ?_
                            simp only [add_none, Nat.zero_add]
                            exact hrun
                          · refine sim_grow hw _ hbase (by rw [hget]; simp) hL hupd ?_
                            have hl0 := h5.length
                            simp only [Nat.add_zero]
                            have hs1 : splice c2.toList (sl * i.size) newa.toList = c2.toList.take c.length ++ (newa.toList ++ c2.toList.drop (c.length + newa.toList.length)) := by
                              rw [hcl]; rfl
                            have hlen2 : (splice c2.toList (sl * i.size) newa.toList).length = c2.size := by
                              rw [splice_length _ _ _ (by simp only [Array.length_toList]; omega)]; simp
                            refine ⟨_, fr, rfl, by simpa [hlen2] using h2, nofun, ?_, ?_, fun hb k hk => h6 hbase k (by simpa [hlen2] using hk), fun _ => h7⟩
                            · simp only [List.length_append, List.size_toArray, hlen2, hnl, ← hcl]; omega
                            · simp only
                              rw [hs1, ← List.append_assoc, List.take_append_of_le_length (by
                                have := hreln.length
                                simp only [List.length_append, List.length_take, Array.length_toList] at this ⊢; omega)]
                              rw [List.take_of_length_le (by
                                have := hreln.length
                                simp only [List.length_append, List.length_take, Array.length_toList] at this ⊢; omega)]
                              exact h5.append hreln.c
                        · -- elsewhere
                          have hk := sim_put hw (none : Option Blk) hbase (by rw [hget]; simp) hL (Upd.refl ho) (by intro y hy; cases hy)
                          have hold : loadN m ⟨b, 0, none⟩ (sl * i.size) = some c := by
                            simp only [loadN, hget, List.drop_zero]
                            rw [List.take_of_length_le (by omega), if_pos ⟨hcl.symm, hcfl⟩]
                          obtain ⟨olda, hro, hrelo⟩ := run_loadN hw.drew hold hL
                          have hoa : olda.size = sl * i.size := by have := hrelo.length; simp at this; omega
                          obtain ⟨ψ, w', hrun, hvr, hsim⟩ := run_grow hk.wr hi hz (sc := c') (by omega) hb1 hb2 (base := some ⟨L.blk, 0, none⟩) (x := x') (oldl := c) (newl := newl) hro hrn2 hrelo hreln2 hoa hna2 hlx ha0 ha1 hu hxd hni (ty := ty)
                          exact ⟨ψ, w', _, hrun, hvr, hk.trans hsim hw⟩
                      · cases h
                    · cases h
            · rename_i hlc
              split at h
              · -- room enough
                rename_i hle
                rcases hs'.slice_inv with ⟨rfl, rfl⟩ | ⟨b, o, L, c', rfl, hL, rfl, hcap⟩ | ⟨b, o, sp, ad, rfl, rfl, rfl, rfl⟩
                rotate_left 2
                · have hn0 : n = 0 := by omega
                  subst hn0
                  have e0 : newl = [] := List.eq_nil_of_length_eq_zero (by omega)
                  have e1 : newa.toList = [] := List.eq_nil_of_length_eq_zero (by simp only [Array.length_toList]; omega)
                  subst e0
                  simp only [storeN, Option.some.injEq, Prod.mk.injEq] at h
                  obtain ⟨rfl, rfl⟩ := h
                  refine ⟨φ, w, .slice (some ad) 0 0, inplace hle ?_, .slZ _ _ _ _, Sim.refl hw⟩
                  rw [e1]
                  rfl
                · simp only at h
                  split at h
                  · cases h
                    exact ⟨φ, w, _, inplace hle rfl, .slN _ _, Sim.refl hw⟩
                  · cases h
                · rcases hcap with ⟨hc, rfl⟩ | ⟨hc, _⟩
                  · simp only [add_none] at h
                    split at h
                    · rename_i m2 hst
                      cases h
                      obtain ⟨w', hrun, hsim⟩ := run_storeN hw hst hreln hL
                      refine ⟨φ, w', _, inplace hle ?_, .sl hL hc, hsim⟩
                      simp only [add_none]
                      exact hrun
                    · cases h
                  · exact absurd hc hlc
              · rename_i hgt
                split at h
                · cases h
                · rename_i oldl hold
                  simp only [Option.some.injEq, Prod.mk.injEq] at h
                  obtain ⟨rfl, rfl⟩ := h
                  rcases hs'.slice_inv with ⟨rfl, rfl⟩ | ⟨b, o, L, c', rfl, hL, rfl, hcap⟩ | ⟨b, o, sp, ad, rfl, rfl, rfl, rfl⟩
                  rotate_left 2
                  · cases hold
                  · simp only at hold
                    split at hold
                    · rename_i e0
                      subst e0
                      cases hold
                      obtain ⟨ψ, w', hrun, hvr, hsim⟩ := run_grow hw hi hz (sc := sc) (by omega) hb1 hb2 (base := none) (x := x') (oldl := []) (newl := newl) (olda := #[]) rfl hrn2 .nil hreln2 (by simp) hna2 hlx ha0 ha1 hu hxd hni (ty := ty)
                      exact ⟨ψ, w', _, hrun, hvr, hsim⟩
                    · cases hold
                  · rcases hcap with ⟨hc, rfl⟩ | ⟨hc, _⟩
                    · simp only at hold
                      obtain ⟨olda, hro, hrelo⟩ := run_loadN hw.drew hold hL
                      have hoa : olda.size = sl * i.size := by
                        have h1 := hrelo.length
                        rw [loadN_length hold] at h1
                        simpa using h1.symm
                      obtain ⟨ψ, w', hrun, hvr, hsim⟩ := run_grow hw hi hz (sc := c') (by omega) hb1 hb2 (base := some ⟨L.blk, o, none⟩) (x := x') (oldl := oldl) (newl := newl) hro hrn2 hrelo hreln2 hoa hna2 hlx ha0 ha1 hu hxd hni (ty := ty)
                      exact ⟨ψ, w', _, hrun, hvr, hsim⟩
                    · exact absurd hc hlc
        · cases h
      · cases h
  · cases h

end base
end Go.D
