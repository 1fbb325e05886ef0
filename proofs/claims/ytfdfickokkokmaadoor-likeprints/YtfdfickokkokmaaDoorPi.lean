/- Contracts: formulas that are converted. -/
import Derived.Test.YtfdfickokkokmaaDoorPh
set_option linter.unusedSimpArgs false
set_option linter.unusedVariables false
namespace Go.Proofs.YtfdfickokkokmaaDoor
open Go Go.D

attribute [local congr] bind_c cond_c condL_c then3_c andV_c bindR_c endC_c endD_c quiet_c newC_c newS_c callC_c callQ_c

theorem load27 (m : Mem) (b : Nat) : D.loadVar Pg m 27 (ptr b 0) = ldn m 4 (ptr b 0) := by kernel_rfl
theorem load24 (m : Mem) (b : Nat) : D.loadVar Pg m 24 (ptr b 0) = ldn m 4 (ptr b 0) := by kernel_rfl

theorem bldS_3 (x y z : Value) (hx : x.cells.size = 1) (hy : y.cells.size = 1) (hz : z.cells.size = 1) (ex : x.cells.toList = [x]) (ey : y.cells.toList = [y]) (ez : z.cells.toList = [z]) :
    bldS [.string ⟨#[]⟩, .int .i64 0, .int .i64 0, .slice none 0 0] [(0, 1), (1, 1), (2, 1), (3, 1)] [(0, x), (1, y), (2, z)] = some (.agg ⟨[x, y, z, .slice none 0 0]⟩) := by
  simp [bldS, fillL, splice, hx, hy, hz, ex, ey, ez]

theorem cellsA_1 (l : List Value) (h : l.length = 4) : cellsA (repl 1 [.string ⟨#[]⟩, .int .i64 0, .int .i64 0, .slice none 0 0]) 4 [(0, .agg ⟨l⟩)] = some l := by
  have hs : (Value.cells (.agg ⟨l⟩)).size = 4 := h
  have ht : (Value.cells (.agg ⟨l⟩)).toList = l := rfl
  simp [cellsA, fillL, repl, splice, hs, ht, h]

/-- What converting a formula gives. -/
structure Conv (m m' : Mem) (nb : Nat) (n : Int) (left : Int) (T' : Tree) (v1 v2 : Value) : Prop where
  one : FormG (m'.from m.next) T' v1
  two : FormG (m'.from m.next) T' v2
  height : height T' ≤ left + 1
  stp : Stp (fun b => b = nb) m m'
  cnt : ∃ n', m'.get nb = some (.cells [.int .i64 n'] 3 false) ∧ 0 ≤ n' ∧ n' < n

/-- Where the loop stands. -/
structure Inv23 (m0 m mm : Mem) (nb : Nat) (op : ByteArray) (a b : Int) (ks : List Tree) (va vb : Value) (csa csb : List Value) (ka kb : Nat) (n left : Int) : Prop where
  stp : Stp (fun b => b = nb) m mm
  sub : m0.Sub mm
  nx : m.next + 5 ≤ mm.next
  cnt : mm.get nb = some (.cells [.int .i64 n] 3 false)
  n0 : 0 ≤ n
  A : mm.get (m.next + 3) = some (.cells [.string op, .int .i64 a, .int .i64 b, va] 27 false)
  B : mm.get (m.next + 4) = some (.cells [.string op, .int .i64 a, .int .i64 b, vb] 24 false)
  r1 : ∃ c, c.length = 4 ∧ mm.get (m.next + 1) = some (.cells c 27 false)
  r2 : ∃ c, c.length = 4 ∧ mm.get (m.next + 2) = some (.cells c 24 false)
  rowa : Row mm 27 va ks.length csa ka
  rowb : Row mm 24 vb ks.length csb kb
  kaN : m.next + 5 ≤ ka
  kbN : m.next + 5 ≤ kb
  fa : FormsG (fun c => if m.next + 5 ≤ c ∧ c ≠ ka ∧ c ≠ kb then mm.get c else none) ks csa
  fb : FormsG (fun c => if m.next + 5 ≤ c ∧ c ≠ ka ∧ c ≠ kb then mm.get c else none) ks csb
  hk : heightL ks ≤ left

theorem Inv23.fresh {m0 m mm mm' : Mem} {nb : Nat} {op : ByteArray} {a b : Int} {ks : List Tree} {va vb : Value} {csa csb : List Value} {ka kb : Nat} {n left : Int} (h : Inv23 m0 m mm nb op a b ks va vb csa csb ka kb n left)
    (hs : Stp (fun _ => False) mm mm') : Inv23 m0 m mm' nb op a b ks va vb csa csb ka kb n left := by
  have hok := h.stp.ok
  have key : ∀ c x, (if m.next + 5 ≤ c ∧ c ≠ ka ∧ c ≠ kb then mm.get c else none) = some x → (if m.next + 5 ≤ c ∧ c ≠ ka ∧ c ≠ kb then mm'.get c else none) = some x := by
    intro c x hx
    split at hx
    · rename_i hc; rw [if_pos hc]; exact hs.keep hok hx (fun h => h)
    · cases hx
  obtain ⟨c1, hc1, hr1⟩ := h.r1
  obtain ⟨c2, hc2, hr2⟩ := h.r2
  exact ⟨h.stp.trans hs (fun _ h => h.elim), hs.sub hok h.sub (fun _ h => h.elim), by have := hs.next; have := h.nx; omega, hs.keep hok h.cnt (fun h => h), h.n0, hs.keep hok h.A (fun h => h), hs.keep hok h.B (fun h => h),
    ⟨c1, hc1, hs.keep hok hr1 (fun h => h)⟩, ⟨c2, hc2, hs.keep hok hr2 (fun h => h)⟩, h.rowa.keep hs hok (fun h => h), h.rowb.keep hs hok (fun h => h), h.kaN, h.kbN, h.fa.sub key, h.fb.sub key, h.hk⟩

theorem fin23 {m0 m mm : Mem} {nb : Nat} {op : ByteArray} {a b : Int} {ks : List Tree} {va vb : Value} {csa csb : List Value} {ka kb : Nat} {n left n0 : Int} (hm : m.Ok) (hnb : nb < m.next) (h : Inv23 m0 m mm nb op a b ks va vb csa csb ka kb n left) (hn : n < n0) (hkl : ks.length ≤ 1000) :
    ∃ v1 v2 m', (∀ (ρ : Rho), ρ 6 = ptr (m.next + 1) 0 → ρ 7 = ptr (m.next + 2) 0 → ρ 8 = ptr (m.next + 3) 0 → ρ 9 = ptr (m.next + 4) 0 → G Pg E 23 [1, 1, 1, 1] m ρ mm = some (.ret (.tuple #[v1, v2]), m')) ∧ Conv m m' nb n0 left (.node op a b ks) v1 v2 := by
  have hok := h.stp.ok
  have hbase := h.stp.base
  have hle := hm.le
  have hnx := h.nx
  obtain ⟨c1, hc1, hr1⟩ := h.r1
  obtain ⟨c2, hc2, hr2⟩ := h.r2
  obtain ⟨f1, f2, f3⟩ := h.rowa.flat
  obtain ⟨g1, g2, g3⟩ := h.rowb.flat
  have hfl : ∀ {v : Value}, D.flat v = true → [Value.string op, .int .i64 a, .int .i64 b, v].all D.flat = true := fun h => by simp only [List.all_cons, List.all_nil, h]; rfl
  have st1 : stn mm 4 (ptr (m.next + 1) 0) (.agg ⟨[.string op, .int .i64 a, .int .i64 b, va]⟩) = some (mm.put (m.next + 1) (some (.cells [.string op, .int .i64 a, .int .i64 b, va] 27 false))) := by
    rw [stn_g (n := 4) (o := 0) (v := .agg ⟨[.string op, .int .i64 a, .int .i64 b, va]⟩) (by omega) hr1 rfl (by omega) (by omega) (hfl f1), splice_all (by rw [hc1]; rfl)]; rfl
  have hok2 : (mm.put (m.next + 1) (some (.cells [.string op, .int .i64 a, .int .i64 b, va] 27 false))).Ok := hok.put _ _
  have st2 : stn (mm.put (m.next + 1) (some (.cells [.string op, .int .i64 a, .int .i64 b, va] 27 false))) 4 (ptr (m.next + 2) 0) (.agg ⟨[.string op, .int .i64 a, .int .i64 b, vb]⟩) =
      some ((mm.put (m.next + 1) (some (.cells [.string op, .int .i64 a, .int .i64 b, va] 27 false))).put (m.next + 2) (some (.cells [.string op, .int .i64 a, .int .i64 b, vb] 24 false))) := by
    rw [stn_g (n := 4) (o := 0) (v := .agg ⟨[.string op, .int .i64 a, .int .i64 b, vb]⟩) (by rw [base_put]; omega) (by rw [get_put_o hok (by omega) (by omega) _ (by omega)]; exact hr2) rfl (by omega) (by omega) (hfl g1), splice_all (by rw [hc2]; rfl)]; rfl
  have hS : Stp (fun b => b = nb) m ((mm.put (m.next + 1) (some (.cells [.string op, .int .i64 a, .int .i64 b, va] 27 false))).put (m.next + 2) (some (.cells [.string op, .int .i64 a, .int .i64 b, vb] 24 false))) :=
    (h.stp.put (by omega) (by omega) (.inr (by omega)) _).put (by rw [base_put]; omega) (by rw [next_put]; omega) (.inr (by omega)) _
  have hg : ∀ c, c ≠ m.next + 1 → c ≠ m.next + 2 → ((mm.put (m.next + 1) (some (.cells [.string op, .int .i64 a, .int .i64 b, va] 27 false))).put (m.next + 2) (some (.cells [.string op, .int .i64 a, .int .i64 b, vb] 24 false))).get c = mm.get c := by
    intro c q1 q2
    rw [get_put_o hok2 (by rw [base_put]; omega) (by rw [next_put]; omega) _ q2, get_put_o hok (by omega) (by omega) _ q1]
  have hl1 : D.loadVar Pg ((mm.put (m.next + 1) (some (.cells [.string op, .int .i64 a, .int .i64 b, va] 27 false))).put (m.next + 2) (some (.cells [.string op, .int .i64 a, .int .i64 b, vb] 24 false))) 27 (ptr (m.next + 1) 0) = some (.agg ⟨[.string op, .int .i64 a, .int .i64 b, va]⟩) := by
    rw [load27, ldn_g, get_put_o hok2 (by rw [base_put]; omega) (by rw [next_put]; omega) _ (by omega), get_put_n hok (by omega) (by omega)]; exact ldnB_l rfl (hfl f1)
  have hl2 : D.loadVar Pg ((mm.put (m.next + 1) (some (.cells [.string op, .int .i64 a, .int .i64 b, va] 27 false))).put (m.next + 2) (some (.cells [.string op, .int .i64 a, .int .i64 b, vb] 24 false))) 24 (ptr (m.next + 2) 0) = some (.agg ⟨[.string op, .int .i64 a, .int .i64 b, vb]⟩) := by
    rw [load24, ldn_g, get_put_n hok2 (by rw [base_put]; omega) (by rw [next_put]; omega)]; exact ldnB_l rfl (hfl g1)
  refine ⟨.agg ⟨[.string op, .int .i64 a, .int .i64 b, va]⟩, .agg ⟨[.string op, .int .i64 a, .int .i64 b, vb]⟩, (((mm.put (m.next + 1) (some (.cells [.string op, .int .i64 a, .int .i64 b, va] 27 false))).put (m.next + 2) (some (.cells [.string op, .int .i64 a, .int .i64 b, vb] 24 false))).relow m), fun ρ e6 e7 e8 e9 => x23_1_1_1_1 _ _ _ ?_, ?_⟩
  · rw [e6, e7, e8, e9]
    simp only [bind_s, condL_t, condL_f, then3_s, cond_t, cond_f, saidL_bt, saidL_bf, saidL_u, cells_agg, size_agg, ld_g, ldn_g, ldB_s, ldG_str, ldG_int, ldG_bool, ldG_ptr, ldG_sl, get_z, get_s, pickL_t, pickL_f, notL_b, isPtr_p, fld_p, extL_t, lenSl_s, lenStr_s, isStr_s, cvI_s, newC_s, newS_s, endC_s, quiet_s, andV_s, bindR_v, int_eql, int_neq, int_lss, int_leq, int_gtr, int_geq, str_eql, str_neq, boolEq_s, not_t, not_f, Bool.true_and, Bool.false_and, Bool.and_true, Bool.and_false, Bool.true_or, Bool.false_or, beq_self_eq_true, Nat.zero_add, add_z, h.A, h.B, ldnB_l (e := 27) (g := false) (n := 4) rfl (hfl f1), ldnB_l (e := 24) (g := false) (n := 4) rfl (hfl g1), st1, st2, clash_lw (show m.next + 4 ≠ m.next + 1 by omega)]
    unfold finW
    simp only [resW, put_look, Nat.reduceEqDiff, reduceIte, e6, e7, hl1, hl2]
    rfl
  · refine ⟨?_, ?_, ?_, hS.relow, n, by rw [get_relow, hg nb (by omega) (by omega)]; exact h.cnt, h.n0, hn⟩
    · unfold FormG
      refine ⟨va, csa, rfl, h.rowa.sl (by omega) (fun x hx => ?_), h.fa.sub (fun c x hx => ?_)⟩
      · unfold Mem.from
        rw [if_pos (by have := h.kaN; omega), get_relow, hg ka (by have := h.kaN; omega) (by have := h.kaN; omega)]; exact hx
      · split at hx
        · rename_i hc
          unfold Mem.from
          rw [if_pos (by omega), get_relow, hg c (by omega) (by omega)]; exact hx
        · cases hx
    · unfold FormG
      refine ⟨vb, csb, rfl, h.rowb.sl (by omega) (fun x hx => ?_), h.fb.sub (fun c x hx => ?_)⟩
      · unfold Mem.from
        rw [if_pos (by have := h.kbN; omega), get_relow, hg kb (by have := h.kbN; omega) (by have := h.kbN; omega)]; exact hx
      · split at hx
        · rename_i hc
          unfold Mem.from
          rw [if_pos (by omega), get_relow, hg c (by omega) (by omega)]; exact hx
        · cases hx
    · unfold height; have := h.hk; omega

theorem heightL_snoc : ∀ (ks : List Tree) (T : Tree), heightL (ks ++ [T]) = max (heightL ks) (height T)
  | [], T => by simp only [List.nil_append, heightL]; have := height_pos T; omega
  | k :: ks, T => by rw [List.cons_append]; unfold heightL; rw [heightL_snoc ks T]; omega

/-- One kid more: the two new nodes are appended. -/
theorem step23 {m0 m mm m28 : Mem} {nb : Nat} {op : ByteArray} {a b : Int} {ks : List Tree} {va vb : Value} {csa csb : List Value} {ka kb : Nat} {n left : Int} {Tk : Tree} {w1 w2 : Value} (hm : m.Ok) (hnb : nb < m.next) (hm0 : ∀ c, m.next ≤ c → m0.get c = none) (hnb0 : m0.get nb = none)
    (h : Inv23 m0 m mm nb op a b ks va vb csa csb ka kb n left) (hc : Conv mm m28 nb n (left - 1) Tk w1 w2) (hkl : ks.length ≤ 1000) :
    ∃ m35 m36 m44 m52 m54 m56 va' vb' n',
      stn ((m28.push (.cells [.string ⟨#[]⟩, .int .i64 0, .int .i64 0, .slice none 0 0] 27 false)).push (.cells [.string ⟨#[]⟩, .int .i64 0, .int .i64 0, .slice none 0 0] 24 false)) 4 (ptr m28.next 0) w1 = some m35 ∧
      stn m35 4 (ptr (m28.next + 1) 0) w2 = some m36 ∧ m36.get (m.next + 3) = some (.cells [.string op, .int .i64 a, .int .i64 b, va] 27 false) ∧
      ∃ c1 c2, w1 = .agg ⟨c1⟩ ∧ w2 = .agg ⟨c2⟩ ∧ c1.length = 4 ∧ c2.length = 4 ∧ (c1.all D.flat = true ∧ c2.all D.flat = true ∧ ldG (some va) = some va ∧ ldG (some vb) = some vb) ∧ m36.get m28.next = some (.cells c1 27 false) ∧ m36.next = m28.next + 2 ∧
      appS (m36.push (.cells c1 27 false)) 27 4 56 va (.slice (some ⟨m36.next, 0, none⟩) 1 1) = some (va', m44) ∧ m44.get (m.next + 4) = some (.cells [.string op, .int .i64 a, .int .i64 b, vb] 24 false) ∧ m44.get (m28.next + 1) = some (.cells c2 24 false) ∧
      m44.next = m28.next + 4 ∧ appS (m44.push (.cells c2 24 false)) 24 4 56 vb (.slice (some ⟨m44.next, 0, none⟩) 1 1) = some (vb', m52) ∧ stn m52 1 (ptr (m.next + 3) 3) va' = some m54 ∧ stn m54 1 (ptr (m.next + 4) 3) vb' = some m56 ∧
      (blockOf va).has (m.next + 4) = false ∧ (blockOf va).has (m28.next + 1) = false ∧ n' < n ∧
      Inv23 m0 m m56 nb op a b (ks ++ [Tk]) va' vb' (csa ++ c1) (csb ++ c2) (m28.next + 3) (m28.next + 5) n' left ∧ m28.next + 5 < m56.next := by
  have hok := h.stp.ok
  have hok28 := hc.stp.ok
  have hbm := h.stp.base
  have hb28 := hc.stp.base
  have hle := hm.le
  have hnx := h.nx
  have hnx28 := hc.stp.next
  obtain ⟨n', hcnt, hn0, hnlt⟩ := hc.cnt
  obtain ⟨c1, rfl, hc1, hf1⟩ := formG_cells hc.one
  obtain ⟨c2, rfl, hc2, hf2⟩ := formG_cells hc.two
  have kp : ∀ {c : Nat} {x : Blk}, mm.get c = some x → c ≠ nb → m28.get c = some x := fun hx hne => hc.stp.keep hok hx hne
  have hA28 := kp h.A (by omega)
  have hB28 := kp h.B (by omega)
  -- the two copies
  have hok32 := hok28.push (.cells [.string ⟨#[]⟩, .int .i64 0, .int .i64 0, .slice none 0 0] 27 false)
  have hok34 := hok32.push (.cells [.string ⟨#[]⟩, .int .i64 0, .int .i64 0, .slice none 0 0] 24 false)
  have hg34a : ((m28.push (.cells [.string ⟨#[]⟩, .int .i64 0, .int .i64 0, .slice none 0 0] 27 false)).push (.cells [.string ⟨#[]⟩, .int .i64 0, .int .i64 0, .slice none 0 0] 24 false)).get m28.next = some (.cells [.string ⟨#[]⟩, .int .i64 0, .int .i64 0, .slice none 0 0] 27 false) := by
    rw [get_push_o hok32 _ (by rw [next_push]; omega)]; exact get_push_n hok28 _
  have hg34b : ((m28.push (.cells [.string ⟨#[]⟩, .int .i64 0, .int .i64 0, .slice none 0 0] 27 false)).push (.cells [.string ⟨#[]⟩, .int .i64 0, .int .i64 0, .slice none 0 0] 24 false)).get (m28.next + 1) = some (.cells [.string ⟨#[]⟩, .int .i64 0, .int .i64 0, .slice none 0 0] 24 false) := get_push_n hok32 _
  have hS34 : Stp (fun _ => False) m28 ((m28.push (.cells [.string ⟨#[]⟩, .int .i64 0, .int .i64 0, .slice none 0 0] 27 false)).push (.cells [.string ⟨#[]⟩, .int .i64 0, .int .i64 0, .slice none 0 0] 24 false)) := ((Stp.refl hok28).push _).push _
  have hn34 : ((m28.push (.cells [.string ⟨#[]⟩, .int .i64 0, .int .i64 0, .slice none 0 0] 27 false)).push (.cells [.string ⟨#[]⟩, .int .i64 0, .int .i64 0, .slice none 0 0] 24 false)).next = m28.next + 2 := rfl
  have hb34 : ((m28.push (.cells [.string ⟨#[]⟩, .int .i64 0, .int .i64 0, .slice none 0 0] 27 false)).push (.cells [.string ⟨#[]⟩, .int .i64 0, .int .i64 0, .slice none 0 0] 24 false)).base = m28.base := rfl
  generalize (m28.push (.cells [.string ⟨#[]⟩, .int .i64 0, .int .i64 0, .slice none 0 0] 27 false)).push (.cells [.string ⟨#[]⟩, .int .i64 0, .int .i64 0, .slice none 0 0] 24 false) = m34 at *
  have st35 : stn m34 4 (ptr m28.next 0) (.agg ⟨c1⟩) = some (m34.put m28.next (some (.cells c1 27 false))) := by
    rw [stn_g (n := 4) (o := 0) (v := .agg ⟨c1⟩) (by omega) hg34a hc1 (by omega) (by simp) hf1]
    show some (m34.put m28.next (some (.cells (splice _ 0 c1) 27 false))) = _
    rw [splice_all (by rw [hc1]; rfl)]
  have hS35 : Stp (fun _ => False) m28 (m34.put m28.next (some (.cells c1 27 false))) := hS34.put (by omega) (by omega) (.inr (Nat.le_refl _)) _
  have hg35a : (m34.put m28.next (some (.cells c1 27 false))).get m28.next = some (.cells c1 27 false) := get_put_n hok34 (by omega) (by omega) _
  have hg35b : (m34.put m28.next (some (.cells c1 27 false))).get (m28.next + 1) = some (.cells [.string ⟨#[]⟩, .int .i64 0, .int .i64 0, .slice none 0 0] 24 false) := by
    rw [get_put_o hok34 (by omega) (by omega) _ (by omega)]; exact hg34b
  have hn35 : (m34.put m28.next (some (.cells c1 27 false))).next = m28.next + 2 := hn34
  have hb35 : (m34.put m28.next (some (.cells c1 27 false))).base = m28.base := hb34
  generalize m34.put m28.next (some (.cells c1 27 false)) = m35 at *
  have hok35 := hS35.ok
  have st36 : stn m35 4 (ptr (m28.next + 1) 0) (.agg ⟨c2⟩) = some (m35.put (m28.next + 1) (some (.cells c2 24 false))) := by
    rw [stn_g (n := 4) (o := 0) (v := .agg ⟨c2⟩) (by omega) hg35b hc2 (by omega) (by simp) hf2]
    show some (m35.put (m28.next + 1) (some (.cells (splice _ 0 c2) 24 false))) = _
    rw [splice_all (by rw [hc2]; rfl)]
  have hS36 : Stp (fun _ => False) m28 (m35.put (m28.next + 1) (some (.cells c2 24 false))) := hS35.put (by omega) (by omega) (.inr (by omega)) _
  have hg36a : (m35.put (m28.next + 1) (some (.cells c2 24 false))).get m28.next = some (.cells c1 27 false) := by
    rw [get_put_o hok35 (by omega) (by omega) _ (by omega)]; exact hg35a
  have hg36b : (m35.put (m28.next + 1) (some (.cells c2 24 false))).get (m28.next + 1) = some (.cells c2 24 false) := get_put_n hok35 (by omega) (by omega) _
  have hn36 : (m35.put (m28.next + 1) (some (.cells c2 24 false))).next = m28.next + 2 := hn35
  have hb36 : (m35.put (m28.next + 1) (some (.cells c2 24 false))).base = m28.base := hb35
  refine ⟨m35, m35.put (m28.next + 1) (some (.cells c2 24 false)), ?_⟩
  generalize m35.put (m28.next + 1) (some (.cells c2 24 false)) = m36 at *
  have hok36 := hS36.ok
  have kf : ∀ {c : Nat} {x : Blk}, m28.get c = some x → m36.get c = some x := fun hx => hS36.keep hok28 hx (fun h => h)
  -- the first append
  have hok42 := hok36.push (.cells c1 27 false)
  have hg42 : (m36.push (.cells c1 27 false)).get m36.next = some (.cells c1 27 false) := get_push_n hok36 _
  have hS42 : Stp (fun _ => False) m28 (m36.push (.cells c1 27 false)) := hS36.push _
  have k42 : ∀ {c : Nat} {x : Blk}, m36.get c = some x → (m36.push (.cells c1 27 false)).get c = some x := fun hx => Mem.Sub.push hok36 _ _ _ hx
  have hra28 := h.rowa.keep (W := fun b => b = nb) hc.stp hok (by have := h.kaN; omega)
  have hrb28 := h.rowb.keep (W := fun b => b = nb) hc.stp hok (by have := h.kbN; omega)
  have hra42 := hra28.keep hS42 hok28 (fun h => h)
  have hrb42 := hrb28.keep hS42 hok28 (fun h => h)
  obtain ⟨m44, ha44, hr44, hn44, hS44⟩ := appS_row hok42 hra42 (by omega) hg42 hc1 hf1
  have hn42 : (m36.push (.cells c1 27 false)).next = m28.next + 3 := by rw [next_push]; omega
  rw [hn42] at hn44 hr44 ha44
  have hok44 := hS44.ok
  have o44 : ∀ {c : Nat} {x : Blk}, (m36.push (.cells c1 27 false)).get c = some x → x ≠ .cells csa 27 true → m44.get c = some x := fun hx hne => hS44.keep hok42 hx (by rw [row_other hra42 hx hne]; simp)
  have ne27 : ∀ (c : List Value) (e : TypeId), Blk.cells c e false ≠ .cells csa 27 true := by intro c e h; cases h
  have ne24 : ∀ (c : List Value) (e : TypeId), Blk.cells c e false ≠ .cells csb 24 true := by intro c e h; cases h
  have hA44 := o44 (k42 (kf hA28)) (ne27 _ _)
  have hB44 := o44 (k42 (kf hB28)) (ne27 _ _)
  have hd44 := o44 (k42 hg36b) (ne27 _ _)
  have hrb44 : Row m44 24 vb ks.length csb kb := by
    obtain ⟨q1, q2, q3 | ⟨q3, q4, q5⟩⟩ := hrb42
    · exact ⟨q1, q2, .inl q3⟩
    · exact ⟨q1, q2, .inr ⟨q3, o44 q4 (by intro h; cases h), by rw [hS44.base]; exact q5⟩⟩
  -- the second append
  have hok50 := hok44.push (.cells c2 24 false)
  have hg50 : (m44.push (.cells c2 24 false)).get m44.next = some (.cells c2 24 false) := get_push_n hok44 _
  have k50 : ∀ {c : Nat} {x : Blk}, m44.get c = some x → (m44.push (.cells c2 24 false)).get c = some x := fun hx => Mem.Sub.push hok44 _ _ _ hx
  have hrb50 := hrb44.keep ((Stp.refl (W := fun _ => False) hok44).push (.cells c2 24 false)) hok44 (fun h => h)
  have hra50 := hr44.keep ((Stp.refl (W := fun _ => False) hok44).push (.cells c2 24 false)) hok44 (fun h => h)
  obtain ⟨m52, ha52, hr52, hn52, hS52⟩ := appS_row hok50 hrb50 (by omega) hg50 hc2 hf2
  have hn50 : (m44.push (.cells c2 24 false)).next = m28.next + 5 := by rw [next_push]; omega
  rw [hn50] at hn52 hr52 ha52
  have hok52 := hS52.ok
  have o52 : ∀ {c : Nat} {x : Blk}, (m44.push (.cells c2 24 false)).get c = some x → x ≠ .cells csb 24 true → m52.get c = some x := fun hx hne => hS52.keep hok50 hx (by rw [row_other hrb50 hx hne]; simp)
  have hA52 := o52 (k50 hA44) (ne24 _ _)
  have hB52 := o52 (k50 hB44) (ne24 _ _)
  have hra52 : Row m52 27 (.slice (some ⟨m28.next + 3, 0, none⟩) (ks.length + 1) loose) (ks.length + 1) (csa ++ c1) (m28.next + 3) := by
    obtain ⟨q1, q2, q3 | ⟨q3, q4, q5⟩⟩ := hra50
    · exact ⟨q1, q2, .inl q3⟩
    · exact ⟨q1, q2, .inr ⟨q3, o52 q4 (by intro h; cases h), by rw [hS52.base]; exact q5⟩⟩
  have hb42 : (m36.push (.cells c1 27 false)).base = m28.base := hb36
  have hb44 : m44.base = m28.base := hS44.base.trans hb42
  have hb52 : m52.base = m28.base := hS52.base.trans hb44
  -- the stores
  obtain ⟨fa1, fa2, fa3⟩ := hra52.flat
  obtain ⟨fb1, fb2, fb3⟩ := hr52.flat
  have one : ∀ {v : Value}, D.flat v = true → v.cells.toList = [v] → v.cells.toList.all D.flat = true := fun h1 h2 => by rw [h2]; simp only [List.all_cons, List.all_nil, h1]; rfl
  have st54 : stn m52 1 (ptr (m.next + 3) 3) (.slice (some ⟨m28.next + 3, 0, none⟩) (ks.length + 1) loose) = some (m52.put (m.next + 3) (some (.cells [.string op, .int .i64 a, .int .i64 b, .slice (some ⟨m28.next + 3, 0, none⟩) (ks.length + 1) loose] 27 false))) := by
    rw [stn_g (n := 1) (o := 3) (by omega) hA52 rfl (by omega) (by simp) rfl]; rfl
  have hok54 : (m52.put (m.next + 3) (some (.cells [.string op, .int .i64 a, .int .i64 b, .slice (some ⟨m28.next + 3, 0, none⟩) (ks.length + 1) loose] 27 false))).Ok := hok52.put _ _
  have hB54 : (m52.put (m.next + 3) (some (.cells [.string op, .int .i64 a, .int .i64 b, .slice (some ⟨m28.next + 3, 0, none⟩) (ks.length + 1) loose] 27 false))).get (m.next + 4) = some (.cells [.string op, .int .i64 a, .int .i64 b, vb] 24 false) := by
    rw [get_put_o hok52 (by omega) (by omega) _ (by omega)]; exact hB52
  have st56 : stn (m52.put (m.next + 3) (some (.cells [.string op, .int .i64 a, .int .i64 b, .slice (some ⟨m28.next + 3, 0, none⟩) (ks.length + 1) loose] 27 false))) 1 (ptr (m.next + 4) 3) (.slice (some ⟨m28.next + 5, 0, none⟩) (ks.length + 1) loose) =
      some ((m52.put (m.next + 3) (some (.cells [.string op, .int .i64 a, .int .i64 b, .slice (some ⟨m28.next + 3, 0, none⟩) (ks.length + 1) loose] 27 false))).put (m.next + 4) (some (.cells [.string op, .int .i64 a, .int .i64 b, .slice (some ⟨m28.next + 5, 0, none⟩) (ks.length + 1) loose] 24 false))) := by
    rw [stn_g (n := 1) (o := 3) (by rw [base_put]; omega) hB54 rfl (by omega) (by simp) rfl]; rfl
  have hg56 : ∀ c, c ≠ m.next + 3 → c ≠ m.next + 4 → ((m52.put (m.next + 3) (some (.cells [.string op, .int .i64 a, .int .i64 b, .slice (some ⟨m28.next + 3, 0, none⟩) (ks.length + 1) loose] 27 false))).put (m.next + 4) (some (.cells [.string op, .int .i64 a, .int .i64 b, .slice (some ⟨m28.next + 5, 0, none⟩) (ks.length + 1) loose] 24 false))).get c = m52.get c := by
    intro c q1 q2
    rw [get_put_o hok54 (by rw [base_put]; omega) (by rw [next_put]; omega) _ q2, get_put_o hok52 (by omega) (by omega) _ q1]
  have hA56 : ((m52.put (m.next + 3) (some (.cells [.string op, .int .i64 a, .int .i64 b, .slice (some ⟨m28.next + 3, 0, none⟩) (ks.length + 1) loose] 27 false))).put (m.next + 4) (some (.cells [.string op, .int .i64 a, .int .i64 b, .slice (some ⟨m28.next + 5, 0, none⟩) (ks.length + 1) loose] 24 false))).get (m.next + 3) = some (.cells [.string op, .int .i64 a, .int .i64 b, .slice (some ⟨m28.next + 3, 0, none⟩) (ks.length + 1) loose] 27 false) := by
    rw [get_put_o hok54 (by rw [base_put]; omega) (by rw [next_put]; omega) _ (by omega), get_put_n hok52 (by omega) (by omega)]
  have hB56 : ((m52.put (m.next + 3) (some (.cells [.string op, .int .i64 a, .int .i64 b, .slice (some ⟨m28.next + 3, 0, none⟩) (ks.length + 1) loose] 27 false))).put (m.next + 4) (some (.cells [.string op, .int .i64 a, .int .i64 b, .slice (some ⟨m28.next + 5, 0, none⟩) (ks.length + 1) loose] 24 false))).get (m.next + 4) = some (.cells [.string op, .int .i64 a, .int .i64 b, .slice (some ⟨m28.next + 5, 0, none⟩) (ks.length + 1) loose] 24 false) :=
    get_put_n hok54 (by rw [base_put]; omega) (by rw [next_put]; omega) _
  have hn56 : ((m52.put (m.next + 3) (some (.cells [.string op, .int .i64 a, .int .i64 b, .slice (some ⟨m28.next + 3, 0, none⟩) (ks.length + 1) loose] 27 false))).put (m.next + 4) (some (.cells [.string op, .int .i64 a, .int .i64 b, .slice (some ⟨m28.next + 5, 0, none⟩) (ks.length + 1) loose] 24 false))).next = m28.next + 6 := hn52
  have hS56 : Stp (fun c => c = nb) m ((m52.put (m.next + 3) (some (.cells [.string op, .int .i64 a, .int .i64 b, .slice (some ⟨m28.next + 3, 0, none⟩) (ks.length + 1) loose] 27 false))).put (m.next + 4) (some (.cells [.string op, .int .i64 a, .int .i64 b, .slice (some ⟨m28.next + 5, 0, none⟩) (ks.length + 1) loose] 24 false))) := by
    have rowW : ∀ {mx : Mem} {e : TypeId} {v : Value} {i : Nat} {cs : List Value} {k : Nat}, Row mx e v i cs k → m.next ≤ k → ∀ c, (blockOf v).has c = true → c = nb ∨ m.next ≤ c := by
      intro mx e v i cs k hr hk c hcv
      rcases Decidable.em (c = k) with q | q
      · exact .inr (by omega)
      · rw [row_has hr q] at hcv; cases hcv
    have q1 := (h.stp.trans hc.stp (fun c hc => .inl hc)).trans hS42 (W' := fun _ => False) (fun _ h => h.elim)
    have q2 := q1.trans hS44 (rowW hra42 (by have := h.kaN; omega))
    have q3 := (q2.push (.cells c2 24 false)).trans hS52 (rowW hrb50 (by have := h.kbN; omega))
    exact (q3.put (by omega) (by omega) (.inr (by omega)) _).put (by rw [base_put]; omega) (by rw [next_put]; omega) (.inr (by omega)) _
  -- what stays from the loop's head
  have stay : ∀ {c : Nat} {x : Blk}, mm.get c = some x → c ≠ nb → x ≠ .cells csa 27 true → x ≠ .cells csb 24 true → c ≠ m.next + 3 → c ≠ m.next + 4 →
      ((m52.put (m.next + 3) (some (.cells [.string op, .int .i64 a, .int .i64 b, .slice (some ⟨m28.next + 3, 0, none⟩) (ks.length + 1) loose] 27 false))).put (m.next + 4) (some (.cells [.string op, .int .i64 a, .int .i64 b, .slice (some ⟨m28.next + 5, 0, none⟩) (ks.length + 1) loose] 24 false))).get c = some x := by
    intro c x hx q0 q1 q2 q3 q4
    rw [hg56 c q3 q4]
    exact o52 (k50 (o44 (k42 (kf (kp hx q0))) q1)) q2
  have stay2 : ∀ {c : Nat} {x : Blk}, m28.get c = some x → c ≠ ka → c ≠ kb → c ≠ m.next + 3 → c ≠ m.next + 4 →
      ((m52.put (m.next + 3) (some (.cells [.string op, .int .i64 a, .int .i64 b, .slice (some ⟨m28.next + 3, 0, none⟩) (ks.length + 1) loose] 27 false))).put (m.next + 4) (some (.cells [.string op, .int .i64 a, .int .i64 b, .slice (some ⟨m28.next + 5, 0, none⟩) (ks.length + 1) loose] 24 false))).get c = some x := by
    intro c x hx q1 q2 q3 q4
    rw [hg56 c q3 q4]
    have z1 := hS44.keep hok42 (k42 (kf hx)) (by rw [row_has hra42 q1]; simp)
    exact hS52.keep hok50 (k50 z1) (by rw [row_has hrb50 q2]; simp)
  obtain ⟨d1, hd1, hr1⟩ := h.r1
  obtain ⟨d2, hd2, hr2⟩ := h.r2
  have hfk : ∀ {c : Nat} {x : Blk}, (if m.next + 5 ≤ c ∧ c ≠ ka ∧ c ≠ kb then mm.get c else none) = some x →
      (if m.next + 5 ≤ c ∧ c ≠ m28.next + 3 ∧ c ≠ m28.next + 5 then ((m52.put (m.next + 3) (some (.cells [.string op, .int .i64 a, .int .i64 b, .slice (some ⟨m28.next + 3, 0, none⟩) (ks.length + 1) loose] 27 false))).put (m.next + 4) (some (.cells [.string op, .int .i64 a, .int .i64 b, .slice (some ⟨m28.next + 5, 0, none⟩) (ks.length + 1) loose] 24 false))).get c else none) = some x := by
    intro c x hx
    split at hx
    · rename_i hc2
      have := get_lt hok hx
      rw [if_pos ⟨hc2.1, by omega, by omega⟩]
      exact stay2 (kp hx (by omega)) hc2.2.1 hc2.2.2 (by omega) (by omega)
    · cases hx
  have hfn : ∀ {c : Nat} {x : Blk}, m28.from mm.next c = some x →
      (if m.next + 5 ≤ c ∧ c ≠ m28.next + 3 ∧ c ≠ m28.next + 5 then ((m52.put (m.next + 3) (some (.cells [.string op, .int .i64 a, .int .i64 b, .slice (some ⟨m28.next + 3, 0, none⟩) (ks.length + 1) loose] 27 false))).put (m.next + 4) (some (.cells [.string op, .int .i64 a, .int .i64 b, .slice (some ⟨m28.next + 5, 0, none⟩) (ks.length + 1) loose] 24 false))).get c else none) = some x := by
    intro c x hx
    obtain ⟨z1, z2⟩ := from_get hx
    have z3 := get_lt hok28 z2
    rw [if_pos ⟨by omega, by omega, by omega⟩]
    rw [hg56 c (by omega) (by omega)]
    have hna : (blockOf va).has c = false := by
      rcases hra42.2.2 with ⟨e, _⟩ | ⟨e, e2, _⟩
      · rw [e]; rfl
      · refine row_has hra42 ?_
        rintro rfl
        rcases h.rowa.2.2 with ⟨e3, _⟩ | ⟨_, e3, _⟩
        · rw [e] at e3; cases e3
        · have := get_lt hok e3; omega
    have hnb2 : (blockOf vb).has c = false := by
      rcases hrb42.2.2 with ⟨e, _⟩ | ⟨e, e2, _⟩
      · rw [e]; rfl
      · refine row_has hrb42 ?_
        rintro rfl
        rcases h.rowb.2.2 with ⟨e3, _⟩ | ⟨_, e3, _⟩
        · rw [e] at e3; cases e3
        · have := get_lt hok e3; omega
    have y1 := hS44.keep hok42 (k42 (kf z2)) (by rw [hna]; simp)
    exact hS52.keep hok50 (k50 y1) (by rw [hnb2]; simp)
  have hhk := hc.height
  refine ⟨m44, m52, _, _, _, _, n', st35, st36, kf hA28, c1, c2, rfl, rfl, hc1, hc2, ⟨hf1, hf2, ldG_of h.rowa.flat.1, ldG_of h.rowb.flat.1⟩, hg36a, hn36, by rw [hn36]; rw [hn36] at ha44; exact ha44, hB44, hd44, hn44, by rw [hn44]; rw [hn44] at ha52; exact ha52, st54, st56, row_other hra42 (k42 (kf hB28)) (ne27 _ _), row_other hra42 (k42 hg36b) (ne27 _ _), hnlt, ?_, by omega⟩
  refine ⟨hS56, ?_, by omega, ?_, hn0, hA56, hB56, ⟨d1, hd1, stay hr1 (by omega) (ne27 _ _) (ne24 _ _) (by omega) (by omega)⟩, ⟨d2, hd2, stay hr2 (by omega) (ne27 _ _) (ne24 _ _) (by omega) (by omega)⟩, ?_, ?_, by omega, by omega, ?_, ?_, ?_⟩
  · intro c x hx
    have z1 : c < m.next := by
      rcases Nat.lt_or_ge c m.next with z | z
      · exact z
      · rw [hm0 c z] at hx; cases hx
    refine stay2 (kp (h.sub c x hx) (by rintro rfl; rw [hnb0] at hx; cases hx)) (by have := h.kaN; omega) (by have := h.kbN; omega) (by omega) (by omega)
  · exact stay2 hcnt (by have := h.kaN; omega) (by have := h.kbN; omega) (by omega) (by omega)
  · rw [List.length_append, List.length_singleton]
    exact hra52.keep ((Stp.refl (W := fun c => c = m.next + 3 ∨ c = m.next + 4) hok52).put (by omega) (by omega) (.inl (.inl rfl)) _ |>.put (by rw [base_put]; omega) (by rw [next_put]; omega) (.inl (.inr rfl)) _) hok52 (by omega)
  · rw [List.length_append, List.length_singleton]
    exact hr52.keep ((Stp.refl (W := fun c => c = m.next + 3 ∨ c = m.next + 4) hok52).put (by omega) (by omega) (.inl (.inl rfl)) _ |>.put (by rw [base_put]; omega) (by rw [next_put]; omega) (.inl (.inr rfl)) _) hok52 (by omega)
  · exact FormsG.snoc ks csa Tk c1 (h.fa.sub fun c x => hfk) h.rowa.1 hc1 (hc.one.sub fun c x => hfn)
  · exact FormsG.snoc ks csb Tk c2 (h.fb.sub fun c x => hfk) h.rowb.1 hc2 (hc.two.sub fun c x => hfn)
  · rw [heightL_snoc]; have := h.hk; omega

end Go.Proofs.YtfdfickokkokmaaDoor
