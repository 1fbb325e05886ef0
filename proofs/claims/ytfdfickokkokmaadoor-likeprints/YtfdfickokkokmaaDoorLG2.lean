/- D: a formula that is read out of a world, in the memory of that world. -/
import Derived.Test.YtfdfickokkokmaaDoorLG1
set_option linter.unusedSimpArgs false
set_option linter.unusedVariables false
namespace Go.D
open Go

/-- Cells that are read in a row. -/
theorem cells_at {w : World} {a : Addr} {n : Nat} {cs : List Value} (h : w.cells? 0 a n = some cs) (hn : 0 < n) :
    a.spot = none ∧ ∃ c e fr, w.heap[a.block]? = some (.cells c e fr) ∧ a.off + n ≤ c.size ∧ cs = (c.toList.drop a.off).take n := by
  unfold World.cells? at h
  rw [if_pos (Nat.zero_le _)] at h
  have hl : cs.length = n := by simpa using mapM_some_length h
  have hg : ∀ i, i < n → w.cell? (a.add i) = cs[i]? := fun i hi => mapM_some_get h i i (by simp [hi])
  have h0 := hg 0 hn
  have e0 : a.add 0 = a := by simp [Addr.add]
  rw [e0] at h0
  obtain ⟨v, hv⟩ : ∃ v, cs[0]? = some v := ⟨cs[0], List.getElem?_eq_getElem (by omega)⟩
  rw [hv] at h0
  unfold World.cell? at h0
  split at h0
  · rename_i c e fr hb
    split at h0
    · cases h0
    · rename_i hsp
      have hsp : a.spot = none := by cases hx : a.spot with
        | none => rfl
        | some _ => rw [hx] at hsp; simp at hsp
      have hall : ∀ i, i < n → c[a.off + i]? = cs[i]? := by
        intro i hi
        rw [← hg i hi]
        have hadd : a.add i = ⟨a.block, a.off + i, none⟩ := by
          obtain ⟨ab, ao, asp⟩ := a
          simp only at hsp
          subst hsp
          exact add_none _ _ _
        rw [hadd]
        simp [World.cell?, hb]
      have hlast := hall (n - 1) (by omega)
      have hsz : a.off + (n - 1) < c.size := by
        rcases Nat.lt_or_ge (a.off + (n - 1)) c.size with h | h
        · exact h
        · rw [Array.getElem?_eq_none h, List.getElem?_eq_getElem (by omega)] at hlast; cases hlast
      refine ⟨hsp, c, e, fr, hb, by omega, List.ext_getElem? fun i => ?_⟩
      rw [List.getElem?_take, List.getElem?_drop]
      split
      · rename_i hi
        rw [← hall i hi, Array.getElem?_toList]
      · rw [List.getElem?_eq_none (by omega)]
  · cases h0

theorem phiW_at {w : World} {b : Nat} (h : b < w.heap.size) : phiW w b = some (locW w b) := by unfold phiW phi0; rw [if_pos h]

theorem heap_lt {w : World} {b : Nat} {o : Obj} (h : w.heap[b]? = some o) : b < w.heap.size := by
  rcases Nat.lt_or_ge b w.heap.size with h' | h'
  · exact h'
  · rw [Array.getElem?_eq_none h'] at h; cases h

theorem memW_cells {w : World} {b : Nat} {c : Array Value} {e : TypeId} {fr : Nat × Nat} (h : w.heap[b]? = some (.cells c e fr)) : (memW w).get b = some (.cells (c.toList.map (absC (phiW w))) e false) := by
  rw [memW_get]; unfold oldW; rw [h]

/-- A form's type. -/
structure FormT (P : Program) (tF tK tS tI : TypeId) : Prop where
  form : ∃ f0 f1 f2 f3 : Field, P.underlying tF = some (.struct #[f0, f1, f2, f3]) ∧ (f0.type = tS ∧ f0.offset = 0) ∧ (f1.type = tI ∧ f1.offset = 1) ∧ (f2.type = tI ∧ f2.offset = 2) ∧ f3.type = tK ∧ f3.offset = 3
  kids : P.underlying tK = some (.slice tF)
  str : P.underlying tS = some .string
  int : P.underlying tI = some (.int .i64)
  cF : P.cellsOf tF = 4
  cK : P.cellsOf tK = 1
  cS : P.cellsOf tS = 1
  cI : P.cellsOf tI = 1
  bytes : 1 ≤ P.bytesOf tF

variable {H : Type} {enc : TypeId × Value → H} {P : Program} {w : World} {tF tK tS tI : TypeId}

theorem FormT.cells (hT : FormT P tF tK tS tI) {held : Bool} {fuel : Nat} {cs : List Value} {x : DataW H × List MemPlace} (h : DataW.trod enc P w 0 (fun _ => true) held fuel tF cs = some x) :
    ∃ n op a b s dk, fuel = n + 1 ∧ cs = [.string op, .int .i64 a, .int .i64 b, s] ∧ DataW.trod enc P w 0 (fun _ => true) held n tK [s] = some dk ∧ x.1.weights P tF = op.data.toList.length :: dk.1.weights P tK := by
  obtain ⟨f0, f1, f2, f3, hu, ⟨t0, o0⟩, ⟨t1, o1⟩, ⟨t2, o2⟩, t3, o3⟩ := hT.form
  obtain ⟨xs, n, rfl, rfl, hl, hxl, hf⟩ := DataW.trod_struct hu h
  rw [hT.cF] at hl
  have h0 := hf 0 f0 rfl
  have h1 := hf 1 f1 rfl
  have h2 := hf 2 f2 rfl
  have h3 := hf 3 f3 rfl
  match cs, hl, xs, hxl with
  | [c0, c1, c2, c3], _, [x0, x1, x2, x3], _ =>
    simp only [o0, o1, o2, o3, t0, t1, t2, t3, hT.cK, hT.cS, hT.cI, List.drop_zero, List.drop_succ_cons, List.take_succ_cons, List.take_zero, List.getElem?_cons_zero, List.getElem?_cons_succ] at h0 h1 h2 h3
    obtain ⟨op, e0, rfl, _⟩ := DataW.trod_string hT.str h0
    obtain ⟨a, e1, rfl, _⟩ := DataW.trod_int hT.int h1
    obtain ⟨b, e2, rfl, _⟩ := DataW.trod_int hT.int h2
    simp only [List.cons.injEq, and_true] at e0 e1 e2
    subst e0 e1 e2
    refine ⟨n, op, a, b, c3, x3, rfl, rfl, h3, ?_⟩
    simp only [DataW.weights, hu, DataW.weightsEach, List.map_cons, List.map_nil, t0, t1, t2, t3, List.append_nil, List.nil_append, List.singleton_append]

theorem absC_str (φ : Phi) (s : ByteArray) : absC φ (.string s) = .string s := absC_self rfl (.string _)
theorem absC_int (φ : Phi) (k : IntKind) (n : Int) : absC φ (.int k n) = .int k n := absC_self rfl (.int _ _)

theorem weightsAll_mem {t : TypeId} : ∀ {ds : List (DataW H)} {d : DataW H}, d ∈ ds → ∀ n ∈ d.weights P t, n ∈ DataW.weightsAll P t ds
  | x :: ds, d, hd, n, hn => by
    simp only [DataW.weightsAll, List.mem_append]
    rcases List.mem_cons.1 hd with rfl | hd
    · exact .inl hn
    · exact .inr (weightsAll_mem hd n hn)

theorem form_of_trod (hT : FormT P tF tK tS tI) {held : Bool} : ∀ (fuel : Nat) (cs : List Value) (x : DataW H × List MemPlace), DataW.trod enc P w 0 (fun _ => true) held fuel tF cs = some x → (∀ n ∈ x.1.weights P tF, n ≤ reachBytes) →
    ∃ T, FormAt (memW w) T (.agg ⟨cs.map (absC (phiW w))⟩) ∧ (cs.map (absC (phiW w))).all flat = true := by
  intro fuel
  induction fuel using Nat.strongRecOn with
  | _ fuel ih =>
  intro cs x h hw
  obtain ⟨n, op, a, b, s, dk, rfl, rfl, hk, hwt⟩ := hT.cells h
  rw [hwt] at hw
  have hwk : ∀ n ∈ dk.1.weights P tK, n ≤ reachBytes := fun n hn => hw n (List.mem_cons_of_mem _ hn)
  have key : ∃ ks cs', SlAt (memW w) (absC (phiW w) s) 4 ks.length cs' ∧ FormsAt (memW w) ks cs' := by
    rcases DataW.trod_slice hT.kids hk with ⟨e, _⟩ | ⟨ad, len, cap, elems, rest, n', rfl, e, rfl, _, hlc, _, hel, hget, hsp, _⟩
    · simp only [List.cons.injEq, and_true] at e
      subst e
      refine ⟨[], [], ⟨rfl, ⟨by simp, rfl⟩, .inl ⟨rfl, none, 0, ?_⟩⟩, by unfold FormsAt; trivial⟩
      exact absC_self rfl (.slN _ _)
    · simp only [List.cons.injEq, and_true] at e
      subst e
      obtain ⟨hrl, hrg⟩ := hsp rfl
      rw [hT.cF] at hget hrg
      simp only [DataW.weights, hT.kids, List.mem_cons, List.mem_append, List.length_map] at hwk
      have hcap : cap ≤ reachBytes := by
        have h1 := hwk _ (.inl rfl)
        have h2 := Nat.mul_le_mul_left (elems.length + rest.length) hT.bytes
        omega
      have hbig : reachBytes < 4611686018427387904 := by decide
      have hbig2 : reachBytes ≤ 140737488355328 := by decide
      have self : ∀ {o : Obj}, ad.spot = none → w.heap[ad.block]? = some o → absC (phiW w) (.slice (some ad) len cap) = .slice (some ad) len cap := by
        intro o h1 h2
        obtain ⟨bb, oo, ss⟩ := ad
        simp only at h1 h2
        subst h1
        exact absC_self rfl (.sl (L := locW w bb) (phiW_at (heap_lt h2)) (by unfold isLoose loose; rw [← Bool.not_eq_true, Nat.ble_eq]; omega))
      rcases Nat.eq_zero_or_pos len with h0 | hpos
      · subst h0
        refine ⟨[], [], ⟨rfl, ⟨by simp, rfl⟩, .inl ⟨rfl, ?_⟩⟩, by unfold FormsAt; trivial⟩
        rcases Nat.eq_zero_or_pos cap with h0 | hcp
        · subst h0
          obtain ⟨a', ha⟩ := absC_zero (φ := phiW w) ad
          exact ⟨a', 0, ha⟩
        · have h1 := hrg 0 (by omega)
          obtain ⟨y, hy⟩ : ∃ y, rest[0]? = some y := ⟨rest[0]'(by omega), List.getElem?_eq_getElem (by omega)⟩
          rw [hy, Option.bind_eq_some_iff] at h1
          obtain ⟨l, h2, _⟩ := h1
          have e0 : ad.add ((0 + 0) * 4) = ad := by simp [Addr.add]
          rw [e0] at h2
          obtain ⟨q1, c, e, fr, q2, _⟩ := cells_at h2 (by omega)
          exact ⟨_, _, self q1 q2⟩
      · -- the elements
        have hfirst : ∀ i, i < len → ∃ y l, elems[i]? = some y ∧ w.cells? 0 (ad.add (i * 4)) 4 = some l ∧ DataW.trod enc P w 0 (fun _ => true) held n' tF l = some y := by
          intro i hi
          have h1 := hget i hi
          obtain ⟨y, hy⟩ : ∃ y, elems[i]? = some y := ⟨elems[i]'(by omega), List.getElem?_eq_getElem (by omega)⟩
          rw [hy, Option.bind_eq_some_iff] at h1
          obtain ⟨l, h2, h3⟩ := h1
          exact ⟨y, l, hy, h2, h3⟩
        obtain ⟨y0, l0, _, hl0, _⟩ := hfirst 0 hpos
        have e0 : ad.add (0 * 4) = ad := by simp [Addr.add]
        rw [e0] at hl0
        obtain ⟨q1, c, e, fr, q2, _, _⟩ := cells_at hl0 (by omega)
        have hs := self q1 q2
        obtain ⟨bb, o, ss⟩ := ad
        simp only at q1 q2
        subst q1
        have hm := memW_cells (w := w) q2
        have hcell : ∀ i, i < len → o + i * 4 + 4 ≤ c.size ∧ ∃ T, FormAt (memW w) T (.agg ⟨((c.toList.map (absC (phiW w))).drop (o + i * 4)).take 4⟩) ∧ (((c.toList.map (absC (phiW w))).drop (o + i * 4)).take 4).all flat = true := by
          intro i hi
          obtain ⟨y, l, hy, hl, htr⟩ := hfirst i hi
          rw [add_none] at hl
          obtain ⟨_, c', e', fr', p2, p3, rfl⟩ := cells_at hl (by omega)
          simp only at p2 p3
          rw [q2] at p2
          cases p2
          refine ⟨p3, ?_⟩
          have := ih n' (by omega) _ y htr (fun n hn => hwk n (.inr (.inl (weightsAll_mem (List.mem_map.2 ⟨y, List.mem_of_getElem? hy, rfl⟩) n hn))))
          rw [← List.map_drop, ← List.map_take]
          exact this
        have run : ∀ r i, i + r = len → ∃ ks : List Tree, ks.length = r ∧ FormsAt (memW w) ks (((c.toList.map (absC (phiW w))).drop (o + i * 4)).take (r * 4)) ∧ (((c.toList.map (absC (phiW w))).drop (o + i * 4)).take (r * 4)).all flat = true := by
          intro r
          induction r with
          | zero => intro i _; exact ⟨[], rfl, by unfold FormsAt; trivial, by simp⟩
          | succ r ihr =>
            intro i hi
            obtain ⟨_, T, hT1, hT2⟩ := hcell i (by omega)
            obtain ⟨ks, hk1, hk2, hk3⟩ := ihr (i + 1) (by omega)
            have e1 : (r + 1) * 4 = 4 + r * 4 := by omega
            have e2 : o + (i + 1) * 4 = (o + i * 4) + 4 := by omega
            rw [e2, ← List.drop_drop] at hk2 hk3
            refine ⟨T :: ks, by simp [hk1], ?_, ?_⟩
            · rw [e1]
              unfold FormsAt
              rw [List.take_take, List.drop_take, Nat.min_eq_left (by omega), Nat.add_sub_cancel_left]
              exact ⟨hT1, hk2⟩
            · rw [e1, List.take_add, List.all_append, hT2, hk3]; rfl
        obtain ⟨ks, hk1, hk2, hk3⟩ := run len 0 (by omega)
        rw [Nat.zero_mul, Nat.add_zero] at hk2 hk3
        have hlast := (hcell (len - 1) (by omega)).1
        refine ⟨ks, _, ⟨?_, ⟨by omega, hk3⟩, .inr ⟨bb, o, cap, _, e, false, ?_, hm, ?_, ?_⟩⟩, hk2⟩
        · rw [List.length_take, List.length_drop, List.length_map, hk1]; simp only [Array.length_toList]; omega
        · rw [hk1]; exact hs
        · rw [List.length_map, hk1]; simp only [Array.length_toList]; omega
        · rw [hk1]
  obtain ⟨ks, cs', hsl, hfs⟩ := key
  refine ⟨.node op a b ks, ?_, ?_⟩
  · unfold FormAt
    refine ⟨absC (phiW w) s, cs', ?_, hsl, hfs⟩
    simp only [List.map_cons, List.map_nil, absC_str, absC_int]
  · simp only [List.map_cons, List.map_nil, absC_str, absC_int, List.all_cons, List.all_nil, hsl.flat]
    rfl

end Go.D
