/- D: an operation against the model's. -/
import Derived.Test.YtfdfickokkokmaaDoorLD8
import Derived.Laws.IdiomStrings
import Derived.Lib.Builder
import Derived.Lib.UnsafeStr
set_option linter.unusedSimpArgs false
set_option linter.unusedVariables false
namespace Go.D
open Go

section base
variable {P : Program} {φ : Phi} {m : Mem} {w : World}

theorem u8cells_spec : ∀ {l : List Value} {bs : List UInt8}, u8cells l = some bs → ∃ ns : List Int, l = ns.map (Value.int .u8) ∧ bs = ns.map fun n => UInt8.ofNat n.toNat
  | [], bs, h => by simp only [u8cells] at h; cases h; exact ⟨[], rfl, rfl⟩
  | v :: r, bs, h => by
    unfold u8cells at h
    split at h
    · rename_i b l hb hl
      cases h
      obtain ⟨ns, rfl, rfl⟩ := u8cells_spec hl
      unfold u8cell at hb
      split at hb
      · rename_i n
        cases hb
        exact ⟨n :: ns, rfl, rfl⟩
      · cases hb
    · cases h

theorem VRL.ints {k : IntKind} : ∀ {ns : List Int} {l : List Value}, VRL φ (ns.map (Value.int k)) l → l = ns.map (Value.int k)
  | [], l, h => by cases h; rfl
  | n :: ns, l, h => by
    cases h with
    | cons h t => cases h; rw [VRL.ints t]; rfl

theorem foldl_push_ints : ∀ (ns : List Int) (r : ByteArray), ns.foldl (fun r n => r.push (UInt8.ofNat n.toNat)) r = ⟨r.data ++ (ns.map fun n => UInt8.ofNat n.toNat).toArray⟩
  | [], r => by simp
  | n :: ns, r => by
    simp only [List.foldl_cons, List.map_cons]
    rw [foldl_push_ints ns]
    simp [ByteArray.push]

theorem convertV_ok (hw : WR P φ m w) {src dst : TypeId} {x x' v : Value} {m' : Mem} (h : convertV P m src dst x = some (v, m')) (hx : VR φ x x') :
    Ok P φ m w (convert src dst x') v m' := by
  unfold convertV at h
  split at h
  · rename_i sd dd x0 hsd hdd
    split at h
    · rename_i e n c
      split at h
      · rename_i he
        cases h
        rcases hx.slice_inv with ⟨_, rfl⟩ | ⟨_, _, _, _, e, _⟩ | ⟨_, _, _, _, e, _⟩
        rotate_left 2
        · cases e
        · refine Ok.still hw (v' := .string .empty) ?_ (.string _)
          rw [run_convert_bytes_string w src dst e none n c hsd he hdd]
          rfl
        · cases e
      · cases h
    · rename_i e a n c
      split at h
      · rename_i he
        split at h
        · rename_i l hl
          split at h
          · rename_i bs hbs
            cases h
            rcases hx.slice_inv with ⟨e, _⟩ | ⟨b, o, L, c', e, hL, rfl, _⟩ | ⟨_, _, _, _, e, _⟩
            rotate_left 2
            · cases e; cases hl
            · cases e
            · cases e
              obtain ⟨arr, hr, hrel⟩ := run_loadN hw hl hL
              obtain ⟨ns, rfl, rfl⟩ := u8cells_spec hbs
              have harr := hrel.ints
              refine Ok.still hw (v' := .string ⟨(ns.map fun n => UInt8.ofNat n.toNat).toArray⟩) ?_ (.string _)
              rw [run_convert_bytes_string w src dst e _ n c' hsd he hdd]
              have := run_bytesToString (P := P) w ⟨L.blk, o, none⟩ n c' ns (by rw [hr, ← harr])
              rw [this, foldl_push_ints]
              simp [ByteArray.empty, ByteArray.emptyWithCapacity]
              rfl
          · cases h
        · cases h
      · cases h
    · rename_i e s
      split at h
      · rename_i he hs1
        cases h
        cases hx
        have hrun := run_bytes_of_string (P := P) w src dst e s hsd hdd he
        have hle := grownCap_ge w s.size 0 e
        have hsz : (bytesRow s (grownCap w s.size 0 e)).size = grownCap w s.size 0 e := by
          have : s.data.size = s.size := rfl
          simp only [bytesRow, Array.size_append, Array.size_map, Array.size_replicate, this]
          omega
        have hl : (s.data.toList.map fun b => Value.int .u8 b.toNat).length = s.size := by simp
        have hpre : VRL φ (s.data.toList.map fun b => Value.int .u8 b.toNat) ((bytesRow s (grownCap w s.size 0 e)).toList.take (s.data.toList.map fun b => Value.int .u8 b.toNat).length) := by
          have e1 : (bytesRow s (grownCap w s.size 0 e)).toList = (s.data.toList.map fun b => Value.int .u8 b.toNat) ++ (Array.replicate (grownCap w s.size 0 e - s.size) (Value.int .u8 0)).toList := by
            simp [bytesRow]
          rw [e1, List.take_append_of_le_length (Nat.le_refl _), List.take_of_length_le (Nat.le_refl _)]
          exact VRL.map _ fun _ _ => .int _ _
        have hsim := sim_rowL hw hs1 (c := s.data.toList.map fun b => Value.int .u8 b.toNat) (c' := bytesRow s (grownCap w s.size 0 e)) hpre (by rw [hl, hsz]; exact hle)
          (fr := ((bytesRow s (grownCap w s.size 0 e)).size, (bytesRow s (grownCap w s.size 0 e)).size + 1)) (by intro k hk h; simp only at h; omega)
          (w' := w.drew.alloc (.cells (bytesRow s (grownCap w s.size 0 e)) e ((bytesRow s (grownCap w s.size 0 e)).size, (bytesRow s (grownCap w s.size 0 e)).size + 1))) rfl rfl rfl rfl
        exact ⟨_, _, _, hrun, .slL (Phi.put_same _ _ _) (by decide) hle (fun _ => by simp [hsz]), hsim⟩
      · cases h
    · cases h
      cases hx
      refine Ok.still hw (v' := .string _) ?_ (.string _)
      simp [convert, run_under hsd, run_under hdd]
    · rename_i k n _ 
      cases h
      cases hx
      refine Ok.still hw ?_ (.int _ _)
      simp [convert, run_under hsd, run_under hdd, Conv.intToInt]
    · cases h
      cases hx
      refine Ok.still hw (v' := .pointer none) ?_ .ptrN
      simp [convert, run_under hsd, run_under hdd, Conv.unsafePointer]
    · cases h
      cases hx
      refine Ok.still hw (v' := .pointer none) ?_ .ptrN
      simp [convert, run_under hsd, run_under hdd, Conv.unsafePointer]
    · rename_i t a
      split at h
      · rename_i k c e g hsp hst hget
        split at h
        · rename_i hoff
          cases h
          obtain ⟨_, L, hL, rfl⟩ := hx.ptr_inv
          obtain ⟨c', fr, ho, htot, _, hle, _, _⟩ := hw.live _ _ L hget hL
          obtain ⟨i, hi, hsz⟩ : ∃ i, P.info? t = some i ∧ i.size = k + 1 := by
            unfold sizeT at hst
            cases hi : P.info? t with
            | none => rw [hi] at hst; cases hst
            | some i => rw [hi] at hst; exact ⟨i, rfl, by simpa using hst⟩
          have hsh : w.shape? L.blk = some (e, c'.size) := by unfold World.shape?; rw [ho]
          exact Ok.still hw (Lib.run_to_unsafe w ⟨L.blk, a.off, none⟩ hsd hdd hi (by omega) hsh (show a.off < c'.size by omega)) hx
        · cases h
      · cases h
    · rename_i u a
      split at h
      · rename_i i c e hsp hi hget
        split at h
        · rename_i hlies
          cases h
          obtain ⟨_, L, hL, rfl⟩ := hx.ptr_inv
          obtain ⟨c', fr, ho, htot, hg, hle, _, _⟩ := hw.live _ _ L hget hL
          have hsh : w.shape? L.blk = some (e, c'.size) := by unfold World.shape?; rw [ho]
          exact Ok.still hw (Lib.run_from_unsafe w ⟨L.blk, a.off, none⟩ hsd hdd hi hsh (by rw [hg rfl]; exact hlies)) hx
        · cases h
      · cases h
    · cases h
  · cases h

theorem u8strict_spec : ∀ {l : List Value} {bs : List UInt8}, u8strict l = some bs → l = Lib.byteCells bs
  | [], bs, h => by simp only [u8strict] at h; cases h; rfl
  | v :: r, bs, h => by
    unfold u8strict at h
    split at h
    · rename_i n l hl
      split at h
      · rename_i hn
        cases h
        rw [u8strict_spec hl]
        simp only [Lib.byteCells, List.map_cons, hn]
      · cases h
    · cases h

theorem VRL.bytes : ∀ {bs : List UInt8} {l : List Value}, VRL φ (Lib.byteCells bs) l → l = Lib.byteCells bs
  | [], l, h => by cases h; rfl
  | n :: ns, l, h => by
    cases h with
    | cons h t =>
      cases h
      have := VRL.bytes (bs := ns) t
      rw [this]; rfl

theorem freeze_upd {w : World} {b : Nat} {c : Array Value} {e : TypeId} {fr : Nat × Nat} (h : w.heap[b]? = some (.cells c e fr)) (n : Nat) : ∃ o, Upd w b o (w.freeze ⟨b, 0, none⟩ n) := by
  unfold World.freeze
  split
  · exact ⟨_, Upd.refl h⟩
  · obtain ⟨lo, hi⟩ := fr
    refine ⟨.cells c e (if lo == hi then (0, 0 + n) else (min lo 0, max hi (0 + n))), ?_, ?_, ?_, rfl, rfl, rfl⟩
    · simp only [Array.getElem?_modify, h, if_true, Option.map_some]
    · intro j hj
      simp only [Array.getElem?_modify, Ne.symm hj, if_false]
    · simp

theorem sliceData_ok (hw : WR P φ m w) {ats : Array TypeId} {ty : TypeId} {x x' v : Value} (h : sliceData x = some v) (hx : VR φ x x') : Ok P φ m w (Builtin.unsafeSliceData_ ats ty #[x']) v m := by
  unfold sliceData at h
  split at h
  · rename_i n c
    cases h
    cases hx
    exact Ok.still hw (Lib.run_unsafeSliceData_nil w ats ty n c) .ptrN
  · rename_i a n c
    cases hc : (bif isLoose c then Nat.blt 0 n else Nat.blt 0 c) with
    | false => rw [hc] at h; cases h
    | true =>
      rw [hc] at h
      cases h
      cases hx with
      | sl hL hl =>
        rw [hl] at hc
        simp only [cond_false, Nat.blt_eq] at hc
        exact Ok.still hw (Lib.run_unsafeSliceData_row w ats ty _ n c (by omega)) (.ptr hL)
      | slL hL hl hn ht =>
        rw [hl] at hc
        simp only [cond_true, Nat.blt_eq] at hc
        exact Ok.still hw (Lib.run_unsafeSliceData_row w ats ty _ n _ (by omega)) (.ptr hL)
      | slZ b o s ad => cases hc
  · cases h

theorem bytesString_ok (hw : WR P φ m w) {ats : Array TypeId} {t ty : TypeId} (hat : ats[0]? = some t) {p p' n n' v : Value} {m' : Mem} (h : bytesString P m t p n = some (v, m')) (hp : VR φ p p') (hn : VR φ n n') :
    Ok P φ m w (Builtin.unsafeString_ ats ty #[p', n']) v m' := by
  have hgen : ∀ q k, Builtin.unsafeString_ ats ty #[.pointer q, .int .i64 k] = Builtin.unsafeString_ #[t, 0] ty #[.pointer q, .int .i64 k] := by
    intro q k
    have h2 : ats[0]? = (#[t, 0] : Array TypeId)[0]? := hat
    clear hat h
    delta Builtin.unsafeString_
    generalize ats[0]? = x at h2 ⊢
    subst h2
    rfl
  unfold bytesString at h
  split at h
  · rename_i e q k hu
    cases hn
    have hp' : ∃ q', p' = .pointer q' := by cases hp <;> exact ⟨_, rfl⟩
    split at h
    · rename_i hk
      subst hk
      cases h
      obtain ⟨q', rfl⟩ := hp'
      rw [hgen]
      exact Ok.still hw (Lib.run_unsafeString_none w t 0 ty q') (.string _)
    · split at h
      · cases h
      · rename_i a
        split at h
        · rename_i c e' g hsp hget
          split at h
          · rename_i hc
            obtain ⟨rfl, hoff, hbase, hk0, hkc, hkm, hce⟩ := hc
            split at h
            · rename_i bs hbs
              simp only [Option.some.injEq, Prod.mk.injEq] at h
              obtain ⟨rfl, rfl⟩ := h
              obtain ⟨_, L, hL, rfl⟩ := hp.ptr_inv
              obtain ⟨c', fr, ho, htot, _, hle, hrel, _⟩ := hw.live _ _ L hget hL
              have hcells := u8strict_spec hbs
              have hlen : bs.length = k.toNat := by
                have := congrArg List.length hcells
                rw [Lib.byteCells_length, List.length_take] at this
                omega
              have hbfl : (Lib.byteCells bs).all flat = true := by
                rw [List.all_eq_true]
                intro v hv
                obtain ⟨x, _, rfl⟩ := List.mem_map.1 hv
                rfl
              have hrel2 := hrel.take k.toNat
              rw [hcells, List.take_take, Nat.min_eq_left (by omega)] at hrel2
              have hrel2 := hrel2.v hbfl
              have hbytes := hrel2.bytes
              have hcell : ∀ (j : Nat) (x : UInt8), bs[j]? = some x → w.cell? ((⟨L.blk, 0, none⟩ : Addr).add j) = some (.int .u8 x.toNat) := by
                intro j x hj
                have hjl : j < k.toNat := by
                  rw [← hlen]
                  rcases Nat.lt_or_ge j bs.length with h | h
                  · exact h
                  · rw [List.getElem?_eq_none h] at hj; cases hj
                have h1 : (c'.toList.take k.toNat)[j]? = some (.int .u8 x.toNat) := by
                  rw [hbytes, Lib.byteCells, List.getElem?_map, hj]; rfl
                rw [List.getElem?_take, if_pos hjl, Array.getElem?_toList] at h1
                rw [show (⟨L.blk, 0, none⟩ : Addr).add j = ⟨L.blk, 0 + j, none⟩ from add_none _ _ _, Nat.zero_add]
                simp only [World.cell?, ho]
                exact h1
              have hrun := Lib.run_unsafeString_row (P := P) w t 0 ty e' hu hce L.blk c'.size (by unfold World.shape?; rw [ho]) bs (by intro e; subst e; simp at hlen; omega) (by omega) (by omega) hcell
              obtain ⟨o, hupd⟩ := freeze_upd ho bs.length
              refine ⟨φ, _, _, ?_, .string _, sim_put hw none hbase (by rw [hget]; simp) hL hupd (fun y h => by cases h)⟩
              rw [hgen, hoff]
              have e1 : (k : Int) = (bs.length : Int) := by omega
              rw [e1]
              exact hrun
            · cases h
          · cases h
        · cases h
  · cases h

/-- What a run of an operation other than a call of code comes to. -/
def OpOk (P : Program) (φ : Phi) (m : Mem) (w : World) (s : Sem Next) (v : Value) (m' : Mem) : Prop :=
  ∃ ψ w' v', (s.run P w = .ok (.value v') w' ∨ (s.run P w = .ok .skip w' ∧ v' = undef)) ∧ VR ψ v v' ∧ Sim P φ m w ψ m' w'

theorem OpOk.of {s : Sem Value} {v : Value} {m' : Mem} (h : Ok P φ m w s v m') : OpOk P φ m w (do pure (.value (← s))) v m' := by
  obtain ⟨ψ, w', v', hr, hv, hs⟩ := h
  exact ⟨ψ, w', v', .inl (by simp [hr]), hv, hs⟩

theorem OpOk.of_eq {s t : Sem Next} {v : Value} {m' : Mem} (h : OpOk P φ m w s v m') (e : t = s) : OpOk P φ m w t v m' := e ▸ h

def isCode (o : Oper) : Bool :=
  match o.op with
  | .call c => match c.callee with
    | .builtin _ => false
    | _ => true
  | _ => false

theorem PR.of {ρ ρ' : Operand → Value} : ∀ (ps : List (Nat × Operand)), (∀ x ∈ ps, VR φ (ρ x.2) (ρ' x.2)) → PR φ (ps.map fun (i, x) => (i, ρ x)) (ps.map fun (i, x) => (i, ρ' x))
  | [], _ => trivial
  | x :: ps, h => ⟨rfl, h x (by simp), PR.of ps fun y hy => h y (by simp [hy])⟩

theorem VRL.of_ops {ρ ρ' : Operand → Value} : ∀ (ps : List Operand), (∀ x ∈ ps, VR φ (ρ x) (ρ' x)) → VRL φ (ps.map ρ) (ps.map ρ')
  | [], _ => .nil
  | x :: ps, h => .cons (h x (by simp)) (VRL.of_ops ps fun y hy => h y (by simp [hy]))

theorem OR.of_map {ρ ρ' : Operand → Value} (o : Option Operand) (h : ∀ x ∈ o, VR φ (ρ x) (ρ' x)) : OR φ (o.map ρ) (o.map ρ') := by
  cases o with
  | none => exact .none
  | some x => exact .some (h x rfl)

theorem vals_inv {r : Option (Value × Mem)} {v : Value} {m' : Mem} (h : vals r = some (.val v, m')) : r = some (v, m') := by
  cases r with
  | none => cases h
  | some q => obtain ⟨a, b⟩ := q; simp only [vals, Option.some.injEq, Prod.mk.injEq, R.val.injEq] at h; rw [h.1, h.2]

theorem val_inv {r : Option Value} {v : Value} {m' : Mem} (h : val m r = some (.val v, m')) : r = some v ∧ m' = m := by
  cases r with
  | none => cases h
  | some q => simp only [val, Option.some.injEq, Prod.mk.injEq, R.val.injEq] at h; exact ⟨by rw [h.1], h.2.symm⟩

theorem unit_inv {r : Option Mem} {v : Value} {m' : Mem} (h : unit r = some (.val v, m')) : r = some m' ∧ v = undef := by
  cases r with
  | none => cases h
  | some q => simp only [unit, Option.some.injEq, Prod.mk.injEq, R.val.injEq] at h; exact ⟨by rw [h.2], h.1.symm⟩

theorem parts_eq (ρ : Operand → Value) (parts : Array (Nat × Operand)) : (parts.map fun (i, x) => (i, ρ x)) = (parts.toList.map fun (i, x) => (i, ρ x)).toArray := by
  apply Array.ext'
  simp

theorem bltin_ok (hw : WR P φ m w) {b : Builtin} {ats : Array TypeId} {ty : TypeId} {consts : Array Bool} {args args' : List Value} {v : Value} {m' : Mem}
    (h : builtinV P m b ats args = some (.val v, m')) (ha : VRL φ args args') : OpOk P φ m w (builtin b ats ty consts args'.toArray) v m' := by
  unfold builtinV at h
  split at h
  · rename_i x
    cases ha with
    | cons hx ha =>
      cases ha
      split at h
      · rename_i t ht
        obtain ⟨hh, rfl⟩ := val_inv h
        exact OpOk.of (lenOfV_ok hw ht hh hx)
      · cases h
  · rename_i s x
    cases ha with
    | cons hs ha =>
      cases ha with
      | cons hx ha =>
        cases ha
        split at h
        · rename_i st xt hst hxt
          exact OpOk.of (append_ok hw hst hxt (vals_inv h) hs hx)
        · cases h
  · rename_i d x
    cases ha with
    | cons hd ha =>
      cases ha with
      | cons hx ha =>
        cases ha
        split at h
        · rename_i t ht
          exact OpOk.of (copyV_ok hw ht (vals_inv h) hd hx)
        · cases h
  · rename_i x
    cases ha with
    | cons hx ha =>
      cases ha
      split at h
      · rename_i t ht
        obtain ⟨hh, rfl⟩ := unit_inv h
        exact OpOk.of (clearV_ok hw ht hh hx)
      · cases h
  · rename_i x r
    cases ha with
    | cons hx ha =>
      obtain ⟨hh, rfl⟩ := val_inv h
      obtain ⟨v', hr, hv⟩ := minMax_ok (P := P) (w := w) false _ _ _ _ _ hx ha hh
      exact OpOk.of (Ok.still hw (v' := v') (by simpa [Builtin.min_] using hr) hv)
  · rename_i x r
    cases ha with
    | cons hx ha =>
      obtain ⟨hh, rfl⟩ := val_inv h
      obtain ⟨v', hr, hv⟩ := minMax_ok (P := P) (w := w) true _ _ _ _ _ hx ha hh
      exact OpOk.of (Ok.still hw (v' := v') (by simpa [Builtin.max_] using hr) hv)
  · rename_i x
    cases ha with
    | cons hx ha =>
      cases ha
      obtain ⟨hh, rfl⟩ := val_inv h
      exact OpOk.of (sliceData_ok hw hh hx)
  · rename_i p n
    cases ha with
    | cons hp ha =>
      cases ha with
      | cons hn ha =>
        cases ha
        split at h
        · rename_i t ht
          exact OpOk.of (bytesString_ok hw ht (vals_inv h) hp hn)
        · cases h
  · cases h

theorem opV_ok (hw : WR P φ m w) {env : Env} {callf : CallF} {ρ ρ' : Operand → Value} {o : Oper} (hρ : ∀ x ∈ o.op.operands, VR φ (ρ x) (ρ' x)) (hnc : isCode o = false) {v : Value} {m' : Mem}
    (h : opV env callf P ρ o m = some (.val v, m')) : OpOk P φ m w (execOp ρ' o) v m' := by
  unfold opV at h
  unfold execOp
  split at h <;> rename_i hop <;> simp only [hop] at hρ ⊢
  · rename_i x
    cases h
    exact ⟨φ, w, _, .inl rfl, hρ x (by simp [Op.operands]), Sim.refl hw⟩
  · rename_i x
    cases h
    exact ⟨φ, w, _, .inl rfl, hρ x (by simp [Op.operands]), Sim.refl hw⟩
  · rename_i c a b
    have hc := hρ c (by simp [Op.operands])
    split at h
    · rename_i hcv
      cases h
      rw [hcv] at hc
      have hc' := hc.scalar_eq rfl
      refine ⟨φ, w, ρ' a, .inl ?_, hρ a (by simp [Op.operands]), Sim.refl hw⟩
      rw [hc']; rfl
    · rename_i hcv
      cases h
      rw [hcv] at hc
      have hc' := hc.scalar_eq rfl
      refine ⟨φ, w, ρ' b, .inl ?_, hρ b (by simp [Op.operands]), Sim.refl hw⟩
      rw [hc']; rfl
    · cases h
  · rename_i e
    split at h
    · rename_i z hz
      cases h
      exact OpOk.of (alloc_ok hw hz)
    · cases h
  · rename_i e x
    split at h
    · rename_i s hs
      cases h
      exact OpOk.of (box_ok hw hs (hρ x (by simp [Op.operands])))
    · cases h
  · rename_i t parts
    obtain ⟨hh, rfl⟩ := val_inv h
    have hp := PR.of (φ := φ) (ρ := ρ) (ρ' := ρ') parts.toList fun x hx => hρ x.2 (by
      simp only [Op.operands, List.mem_toArray, List.mem_map]; exact ⟨x, hx, rfl⟩)
    refine OpOk.of_eq (OpOk.of (build_ok hw hp hh)) ?_
    rw [parts_eq]
  · rename_i t len parts
    have h := vals_inv h
    have hp := PR.of (φ := φ) (ρ := ρ) (ρ' := ρ') parts.toList fun x hx => hρ x.2 (by
      simp only [Op.operands, List.mem_toArray, List.mem_map]; exact ⟨x, hx, rfl⟩)
    refine OpOk.of_eq (OpOk.of (buildSlice_ok hw hp h)) ?_
    rw [parts_eq]
  · rename_i t a
    obtain ⟨hh, rfl⟩ := val_inv h
    obtain ⟨r', hr, hv⟩ := loadVar_ok hw hh (hρ a (by simp [Op.operands]))
    exact OpOk.of (Ok.still hw hr hv)
  · rename_i t a x
    obtain ⟨hh, rfl⟩ := unit_inv h
    obtain ⟨w', hr, hs⟩ := storeVar_ok hw hh (hρ a (by simp [Op.operands])) (hρ x (by simp [Op.operands]))
    exact ⟨φ, w', undef, .inr ⟨by simp [hr], rfl⟩, VR.undef φ, hs⟩
  · rename_i x
    have hx := hρ x (by simp [Op.operands])
    split at h
    · rename_i a hxv
      cases h
      rw [hxv] at hx
      obtain ⟨_, L, hL, e⟩ := hx.ptr_inv
      refine ⟨φ, w, ρ' x, .inl ?_, hx, Sim.refl hw⟩
      rw [e]; rfl
    · cases h
  · rename_i op t x y yt
    obtain ⟨hh, rfl⟩ := val_inv h
    exact OpOk.of (binOpV_ok hw hh (hρ x (by simp [Op.operands])) (hρ y (by simp [Op.operands])))
  · rename_i op t x
    split at h
    · rename_i hs
      obtain ⟨hh, rfl⟩ := val_inv h
      exact OpOk.of (unary_ok hw hh hs (hρ x (by simp [Op.operands])))
    · cases h
  · rename_i s d x
    exact OpOk.of (convertV_ok hw (vals_inv h) (hρ x (by simp [Op.operands])))
  · rename_i t x
    split at h
    · cases h
    · rename_i d hd hni
      cases h
      refine OpOk.of (Ok.still hw (v' := .iface t (ρ' x)) ?_ (.iface t (hρ x (by simp [Op.operands]))))
      unfold Instr.makeInterface
      rw [Sem.run_bind, run_under hni]
      cases d <;> first | rfl | exact absurd rfl (hd _)
    · cases h
  · rename_i fn first captured
    cases h
    refine OpOk.of (Ok.still hw (v' := .func fn (first.map ρ') (captured.map ρ')) rfl (.func fn ?_ ?_))
    · simp only [Array.toList_map]
      exact VRL.of_ops _ fun x hx => hρ x (by simp [Op.operands, Array.mem_toList_iff.1 hx])
    · simp only [Array.toList_map]
      exact VRL.of_ops _ fun x hx => hρ x (by simp [Op.operands, Array.mem_toList_iff.1 hx])
  · rename_i t l c
    exact OpOk.of (makeSlice_ok hw (vals_inv h) (hρ l (by simp [Op.operands])) (hρ c (by simp [Op.operands])))
  · rename_i t x lo hi mx
    obtain ⟨hh, rfl⟩ := val_inv h
    refine OpOk.of (sliceV_ok hw hh (hρ x (by simp [Op.operands])) (OR.of_map lo fun y hy => hρ y ?_) (OR.of_map hi fun y hy => hρ y ?_) (OR.of_map mx fun y hy => hρ y ?_)) <;>
      (cases hy; simp [Op.operands])
  · rename_i s x f
    obtain ⟨hh, rfl⟩ := val_inv h
    exact OpOk.of (fieldAt_ok hw hh (hρ x (by simp [Op.operands])))
  · rename_i t x f
    obtain ⟨hh, rfl⟩ := val_inv h
    exact OpOk.of (fieldV_ok hw hh (hρ x (by simp [Op.operands])))
  · rename_i t x ix
    obtain ⟨hh, rfl⟩ := val_inv h
    exact OpOk.of (indexAt_ok hw hh (hρ x (by simp [Op.operands])) (hρ ix (by simp [Op.operands])))
  · rename_i t x ix
    obtain ⟨hh, rfl⟩ := val_inv h
    exact OpOk.of (indexV_ok hw hh (hρ x (by simp [Op.operands])) (hρ ix (by simp [Op.operands])))
  · rename_i t ix
    have ht := hρ t (by simp [Op.operands])
    split at h
    · rename_i vs hvs
      obtain ⟨hh, rfl⟩ := val_inv h
      rw [hvs] at ht
      generalize ρ' t = y at ht ⊢
      cases ht with
      | tuple hl =>
        rename_i c'
        rcases hl.get? ix with ⟨h1, _⟩ | ⟨a, b, h1, h2, h3⟩
        · simp only [Array.getElem?_toList] at h1; rw [hh] at h1; cases h1
        · simp only [Array.getElem?_toList] at h1 h2
          rw [hh] at h1
          cases h1
          refine OpOk.of (Ok.still hw (v' := b) ?_ h3)
          unfold Instr.extract
          simp [h2]
    · cases h
  · rename_i c
    split at h
    · rename_i f hc; simp [isCode, hop, hc] at hnc
    · rename_i b hc
      have ha := VRL.of_ops (φ := φ) (ρ := ρ) (ρ' := ρ') c.args.toList fun x hx => hρ x (by simp [Op.operands, Call.operands, Array.mem_toList_iff.1 hx])
      refine OpOk.of_eq (bltin_ok hw (ty := o.type) (consts := c.args.map fun | .const _ => true | _ => false) h ha) ?_
      have e1 : (c.args.toList.map ρ').toArray = c.args.map ρ' := by apply Array.ext'; simp
      rw [e1]
      simp [resolve, hc, invoke]
      rfl
    · cases h
  · split at h <;> cases h
  · cases h

end base
end Go.D
