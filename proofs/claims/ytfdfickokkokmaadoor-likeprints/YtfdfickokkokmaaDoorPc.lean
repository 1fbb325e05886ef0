/- Contracts: Print. -/
import Derived.Test.YtfdfickokkokmaaDoorPb
set_option linter.unusedSimpArgs false
set_option linter.unusedVariables false
namespace Go.Proofs.YtfdfickokkokmaaDoor
open Go Go.D

attribute [local congr] bind_c cond_c condL_c then3_c andV_c bindR_c endC_c endD_c quiet_c newC_c newS_c callC_c callQ_c

theorem run8 (T : Tree) (m : Mem) (v : Value) (hm : m.Ok) (hf : FormAt m T v) (hh : height T ≤ 1000) : run Pg E 8 [v] m = some (.ret (.tuple #[.int .i64 (if 0 ≤ sizeS T 2000 40 then depthS T else 0), .int .i64 (if 0 ≤ sizeS T 2000 40 then 0 else 2)]), m) := by
  obtain ⟨op, a, b, ks⟩ := T
  obtain ⟨s, cs, rfl, hs, hk⟩ := form_cells hf
  refine G_run rfl Tryd.func8 rfl (by kernel_rfl) (x8 _ _ _ ?_)
  have hf2 := hf.sub ((Mem.Sub.mark m).trans (Mem.Sub.push hm.mark (.cells [.string op, .int .i64 a, .int .i64 b, s] 27 false)))
  simp only [bind_s, condL_t, condL_f, then3_s, cond_t, cond_f, saidL_bt, saidL_bf, saidL_u, cells_agg, size_agg, ld_g, ldn_g, ldB_s, ldG_str, ldG_int, ldG_bool, ldG_ptr, ldG_sl, get_z, get_s, pickL_t, pickL_f, notL_b, isPtr_p, fld_p, extL_t, lenSl_s, lenStr_s, isStr_s, cvI_s, newC_s, newS_s, endC_s, quiet_s, andV_s, bindR_v, int_eql, int_neq, int_lss, int_leq, int_gtr, int_geq, str_eql, str_neq, boolEq_s, not_t, not_f, Bool.true_and, Bool.false_and, Bool.and_true, Bool.and_false, Bool.true_or, Bool.false_or, beq_self_eq_true, Nat.zero_add, add_z, get_push_n hm.mark, hs.l4, run24 (.node op a b ks) _ _ (hm.mark.push _) hf2, run26 (.node op a b ks) _ _ (hm.mark.push _) hf2 hh]
  by_cases h : 0 ≤ sizeS (.node op a b ks) 2000 40
  · simp only [h, decide_true, if_true]
    simp only [bind_s, condL_t, condL_f, then3_s, cond_t, cond_f, saidL_bt, saidL_bf, saidL_u, cells_agg, size_agg, ld_g, ldn_g, ldB_s, ldG_str, ldG_int, ldG_bool, ldG_ptr, ldG_sl, get_z, get_s, pickL_t, pickL_f, notL_b, isPtr_p, fld_p, extL_t, lenSl_s, lenStr_s, isStr_s, cvI_s, newC_s, newS_s, endC_s, quiet_s, andV_s, bindR_v, int_eql, int_neq, int_lss, int_leq, int_gtr, int_geq, str_eql, str_neq, boolEq_s, not_t, not_f, Bool.true_and, Bool.false_and, Bool.and_true, Bool.and_false, Bool.true_or, Bool.false_or, beq_self_eq_true, Nat.zero_add, add_z]
    exact retL_plain rfl rfl
  · simp only [h, decide_false, if_false]
    simp only [bind_s, condL_t, condL_f, then3_s, cond_t, cond_f, saidL_bt, saidL_bf, saidL_u, cells_agg, size_agg, ld_g, ldn_g, ldB_s, ldG_str, ldG_int, ldG_bool, ldG_ptr, ldG_sl, get_z, get_s, pickL_t, pickL_f, notL_b, isPtr_p, fld_p, extL_t, lenSl_s, lenStr_s, isStr_s, cvI_s, newC_s, newS_s, endC_s, quiet_s, andV_s, bindR_v, int_eql, int_neq, int_lss, int_leq, int_gtr, int_geq, str_eql, str_neq, boolEq_s, not_t, not_f, Bool.true_and, Bool.false_and, Bool.and_true, Bool.and_false, Bool.true_or, Bool.false_or, beq_self_eq_true, Nat.zero_add, add_z]
    exact retL_plain rfl rfl

def letterB (x : Int) : ByteArray := ByteArray.extract ⟨#[97, 98, 99, 100]⟩ x.toNat (x.toNat + 1)

theorem run58 (m : Mem) (x : Int) (h : 0 ≤ x ∧ x < 4) : run Pg E 58 [.int .i64 x] m = some (.ret (.string (letterB x)), m) := by
  refine G_run rfl Tryd.func58 rfl (by kernel_rfl) (x58 _ _ _ ?_)
  simp only [bind_s, condL_t, condL_f, then3_s, cond_t, cond_f, saidL_bt, saidL_bf, saidL_u, cells_agg, size_agg, ld_g, ldn_g, ldB_s, ldG_str, ldG_int, ldG_bool, ldG_ptr, ldG_sl, get_z, get_s, pickL_t, pickL_f, notL_b, isPtr_p, fld_p, extL_t, lenSl_s, lenStr_s, isStr_s, cvI_s, newC_s, newS_s, endC_s, quiet_s, andV_s, bindR_v, int_eql, int_neq, int_lss, int_leq, int_gtr, int_geq, str_eql, str_neq, boolEq_s, not_t, not_f, Bool.true_and, Bool.false_and, Bool.and_true, Bool.and_false, Bool.true_or, Bool.false_or, beq_self_eq_true, Nat.zero_add, add_z, int_add, wrap_i64 (x := x + 1) (by omega) (by omega)]
  have : slStr (.string ⟨#[97, 98, 99, 100]⟩) (some (.int .i64 x)) (some (.int .i64 (x + 1))) none = some (.string (letterB x)) := by
    have h4 : (ByteArray.size ⟨#[97, 98, 99, 100]⟩) = 4 := rfl
    simp only [slStr, bnds, boundO, bound, h4]
    rw [if_pos ⟨by omega, by omega⟩]
    simp only []
    rw [if_pos ⟨by omega, by omega⟩]
    simp only []
    rw [if_pos ⟨by omega, by omega, by omega⟩]
    simp only [letterB]
    rw [show (x + 1).toNat = x.toNat + 1 by omega]
  rw [this]
  simp only [bind_s, condL_t, condL_f, then3_s, cond_t, cond_f, saidL_bt, saidL_bf, saidL_u, cells_agg, size_agg, ld_g, ldn_g, ldB_s, ldG_str, ldG_int, ldG_bool, ldG_ptr, ldG_sl, get_z, get_s, pickL_t, pickL_f, notL_b, isPtr_p, fld_p, extL_t, lenSl_s, lenStr_s, isStr_s, cvI_s, newC_s, newS_s, endC_s, quiet_s, andV_s, bindR_v, int_eql, int_neq, int_lss, int_leq, int_gtr, int_geq, str_eql, str_neq, boolEq_s, not_t, not_f, Bool.true_and, Bool.false_and, Bool.and_true, Bool.and_false, Bool.true_or, Bool.false_or, beq_self_eq_true, Nat.zero_add, add_z]
  exact retL_plain rfl rfl

theorem size81 : sizeT Pg 81 = some 2 := by kernel_rfl
theorem info81 : ∃ i, Pg.info? 81 = some i := Option.isSome_iff_exists.1 (by kernel_rfl)
theorem loose_l : isLoose loose = true := by decide
theorem lies81 : liesAt Pg Pg.depth 81 (2 / Pg.cellsOf 81) 0 81 1 = true := by kernel_rfl

theorem ptrIn_s {m : Mem} {b : Nat} {c : List Value} {e : TypeId} {g : Bool} (hg : m.get b = some (.cells c e g)) (h : 0 < c.length) : ptrIn Pg 81 m (ptr b 0) = some (ptr b 0) := by
  unfold ptrIn
  simp only [size81, hg]
  rw [if_pos h]

theorem ptrOut_s {m : Mem} {b : Nat} {p v : Value} (hg : m.get b = some (.cells [p, v] 81 false)) : ptrOut Pg 81 m (ptr b 0) = some (ptr b 0) := by
  obtain ⟨i, hi⟩ := info81
  unfold ptrOut
  simp only [hi, hg]
  rw [if_pos]
  exact lies81

theorem ptrEq_nn : D.ptrEq (.pointer none) (.pointer none) = some true := rfl
theorem ptrEq_sn (a : Addr) : D.ptrEq (.pointer (some a)) (.pointer none) = some false := rfl
theorem ptrEq_same (b : Nat) : D.ptrEq (ptr b 0) (ptr b 0) = some true := by simp [D.ptrEq]

theorem run70 {m0 m : Mem} {b : Nat} {l : List UInt8} (h : Bld 81 5 m0 m b l) : ∃ m', run Pg E 70 [ptr b 0] m = some (.ret (.tuple #[]), m') ∧ Bld 81 5 m0 m' b l ∧ Keeps 5 m m' b := by
  obtain ⟨p, v, hg, hp, hv⟩ := h.st
  rcases hp with rfl | rfl
  · have hput := (h.mark.put (p := ptr b 0) (v := v) (.inr rfl) hv)
    have hput2 := hput.relow h.clean
    have hst : stn m.mark 1 (ptr b 0) (ptr b 0) = some (m.mark.put b (some (.cells [ptr b 0, v] 81 false))) := by
      rw [stn_g (m := m.mark) (o := 0) (n := 1) (v := ptr b 0) (c := [.pointer none, v]) (e := 81) (g := false) h.blo hg rfl (by omega) (by simp) rfl]; rfl
    by_cases hcl : (m.mark.put b (some (.cells [ptr b 0, v] 81 false))).clean m.next = true
    · exfalso
      rw [clean_put, Bool.and_eq_true, Nat.ble_eq] at hcl
      have := h.hi; omega
    · refine ⟨_, G_run rfl Tryd.func70 rfl (by kernel_rfl) (x70 _ _ _ ?_), hput2, h.mark.keeps_put _⟩
      simp only [bind_s, condL_t, condL_f, then3_s, cond_t, cond_f, saidL_bt, saidL_bf, saidL_u, cells_agg, size_agg, ld_g, ldn_g, ldB_s, ldG_str, ldG_int, ldG_bool, ldG_ptr, ldG_sl, get_z, get_s, pickL_t, pickL_f, notL_b, isPtr_p, fld_p, extL_t, lenSl_s, lenStr_s, isStr_s, cvI_s, newC_s, newS_s, endC_s, quiet_s, andV_s, bindR_v, int_eql, int_neq, int_lss, int_leq, int_gtr, int_geq, str_eql, str_neq, boolEq_s, not_t, not_f, Bool.true_and, Bool.false_and, Bool.and_true, Bool.and_false, Bool.true_or, Bool.false_or, beq_self_eq_true, Nat.zero_add, add_z, hg, get_mark, ptrEq_nn, ptrIn_s (m := m.mark) hg (by simp), ptrOut_s (m := m.mark) hg, hst]
      unfold retL
      rw [if_neg]
      intro hx
      rw [Bool.and_eq_true] at hx
      exact hcl hx.2
  · refine ⟨m, G_run rfl Tryd.func70 rfl (by kernel_rfl) (x70 _ _ _ ?_), h, Keeps.refl _ _ _⟩
    simp only [bind_s, condL_t, condL_f, then3_s, cond_t, cond_f, saidL_bt, saidL_bf, saidL_u, cells_agg, size_agg, ld_g, ldn_g, ldB_s, ldG_str, ldG_int, ldG_bool, ldG_ptr, ldG_sl, get_z, get_s, pickL_t, pickL_f, notL_b, isPtr_p, fld_p, extL_t, lenSl_s, lenStr_s, isStr_s, cvI_s, newC_s, newS_s, endC_s, quiet_s, andV_s, bindR_v, int_eql, int_neq, int_lss, int_leq, int_gtr, int_geq, str_eql, str_neq, boolEq_s, not_t, not_f, Bool.true_and, Bool.false_and, Bool.and_true, Bool.and_false, Bool.true_or, Bool.false_or, beq_self_eq_true, Nat.zero_add, add_z, hg, get_mark, ptrEq_sn, ptrEq_same]
    exact retL_plain rfl rfl

theorem run57 {m0 m : Mem} {b : Nat} {l : List UInt8} (h : Bld 81 5 m0 m b l) (s : ByteArray) (hs : l.length + s.size ≤ 140737488355328) :
    ∃ m', run Pg E 57 [ptr b 0, .string s] m = some (.ret (.tuple #[.int .i64 s.size, .nilIface]), m') ∧ Bld 81 5 m0 m' b (l ++ s.data.toList) ∧ Keeps 5 m m' b ∧ b ∈ m'.low := by
  obtain ⟨m1, h1, hb1, hk1⟩ := run70 h.mark
  obtain ⟨p, v, hg, hp, hv⟩ := hb1.st
  obtain ⟨v', m2, happ, hc1, hc2, hfl, hg2, hb2, hbl, hk2⟩ := hb1.app hg hp hs hv
  have hst : stn m2 1 (ptr b 1) v' = some (m2.put b (some (.cells [p, v'] 81 false))) := by
    rw [stn_g (c := [p, v]) (e := 81) (g := false) hbl hg2 hc1 (by omega) (by simp) (by rw [hc2]; simp only [List.all_cons, List.all_nil, hfl]; rfl), hc2]; rfl
  have hput2 := hb2.relow h.clean
  by_cases hcl : (m2.put b (some (.cells [p, v'] 81 false))).clean m.next = true
  · exfalso
    rw [clean_put, Bool.and_eq_true, Nat.ble_eq] at hcl
    have := h.hi; omega
  · refine ⟨_, G_run rfl Tryd.func57 rfl (by kernel_rfl) (x57 _ _ _ _ ?_), hput2, hk1.trans hk2, List.mem_append_left _ (List.mem_filter.2 ⟨List.mem_cons_self .., by rw [Nat.blt_eq]; exact h.hi⟩)⟩
    have hvf : ldG (some v) = some v := ldG_of (by rcases hv with ⟨rfl, _⟩ | ⟨_, _, rfl, _⟩ <;> rfl)
    simp only [bind_s, condL_t, condL_f, then3_s, cond_t, cond_f, saidL_bt, saidL_bf, saidL_u, cells_agg, size_agg, ld_g, ldn_g, ldB_s, ldG_str, ldG_int, ldG_bool, ldG_ptr, ldG_sl, get_z, get_s, pickL_t, pickL_f, notL_b, isPtr_p, fld_p, extL_t, lenSl_s, lenStr_s, isStr_s, cvI_s, newC_s, newS_s, endC_s, quiet_s, andV_s, bindR_v, int_eql, int_neq, int_lss, int_leq, int_gtr, int_geq, str_eql, str_neq, boolEq_s, not_t, not_f, Bool.true_and, Bool.false_and, Bool.and_true, Bool.and_false, Bool.true_or, Bool.false_or, beq_self_eq_true, Nat.zero_add, add_z, h1, hg, hvf, happ, hst]
    unfold retL
    rw [if_neg]
    intro hx
    rw [Bool.and_eq_true] at hx
    exact hcl hx.2

theorem u8strict_bc : ∀ l : List UInt8, u8strict (bc l) = some l
  | [] => rfl
  | x :: l => by
    have := u8strict_bc l
    unfold bc at this ⊢
    simp only [List.map_cons, u8strict, this]
    simp

theorem run44 {m0 m : Mem} {b : Nat} {l : List UInt8} (h : Bld 81 5 m0 m b l) (hl : l.length ≤ 140737488355328) :
    ∃ m', run Pg E 44 [ptr b 0] m = some (.ret (.string ⟨⟨l⟩⟩), m') ∧ m'.clean m0.next = true := by
  obtain ⟨p, v, hg, hp, hv⟩ := h.st
  rcases hv with ⟨rfl, rfl⟩ | ⟨bb, h0, rfl, hbb, hne, hlo⟩
  · refine ⟨m, G_run rfl Tryd.func44 rfl (by kernel_rfl) (x44 _ _ _ ?_), h.clean⟩
    simp only [bind_s, condL_t, condL_f, then3_s, cond_t, cond_f, saidL_bt, saidL_bf, saidL_u, cells_agg, size_agg, ld_g, ldn_g, ldB_s, ldG_str, ldG_int, ldG_bool, ldG_ptr, ldG_sl, get_z, get_s, pickL_t, pickL_f, notL_b, isPtr_p, fld_p, extL_t, lenSl_s, lenStr_s, isStr_s, cvI_s, newC_s, newS_s, endC_s, quiet_s, andV_s, bindR_v, int_eql, int_neq, int_lss, int_leq, int_gtr, int_geq, str_eql, str_neq, boolEq_s, not_t, not_f, Bool.true_and, Bool.false_and, Bool.and_true, Bool.and_false, Bool.true_or, Bool.false_or, beq_self_eq_true, Nat.zero_add, add_z, hg, get_mark, sliceData]
    exact retL_plain rfl rfl
  · · have hpos : 0 < l.length := by cases l with | nil => exact absurd rfl h0 | cons x t => simp
      have hbase : m.base ≤ bb := by have := h.ok0.le; have := h.base; omega
      have hsd : sliceData (.slice (some ⟨bb, 0, none⟩) l.length loose) = some (ptr bb 0) := by
        unfold sliceData
        have : Nat.blt 0 l.length = true := by rw [Nat.blt_eq]; exact hpos
        simp only [loose_l, cond_true, this]
      have hbs : bytesStr m.mark 5 1 (ptr bb 0) (.int .i64 l.length) = some (.string ⟨⟨l⟩⟩, m.mark.put bb none) := by
        simp only [bytesStr]
        rw [if_neg (by omega)]
        simp only [get_mark, hbb]
        rw [if_pos ⟨trivial, trivial, hbase, by omega, by rw [bc_len]; omega, by omega, trivial⟩]
        have : (bc l).take (l.length : Int).toNat = bc l := by rw [List.take_of_length_le]; rw [bc_len]; omega
        rw [this, u8strict_bc]
      by_cases hcl : (m.mark.put bb none).clean m.next = true
      · exfalso
        rw [clean_put, Bool.and_eq_true, Nat.ble_eq] at hcl
        have := get_lt h.ok hbb; omega
      · refine ⟨_, G_run rfl Tryd.func44 rfl (by kernel_rfl) (x44 _ _ _ ?_), clean_relow h.clean (m' := m.mark.put bb none) (by rw [clean_put, clean_mark, Bool.and_true, Nat.ble_eq]; exact hlo)⟩
        simp only [bind_s, condL_t, condL_f, then3_s, cond_t, cond_f, saidL_bt, saidL_bf, saidL_u, cells_agg, size_agg, ld_g, ldn_g, ldB_s, ldG_str, ldG_int, ldG_bool, ldG_ptr, ldG_sl, get_z, get_s, pickL_t, pickL_f, notL_b, isPtr_p, fld_p, extL_t, lenSl_s, lenStr_s, isStr_s, cvI_s, newC_s, newS_s, endC_s, quiet_s, andV_s, bindR_v, int_eql, int_neq, int_lss, int_leq, int_gtr, int_geq, str_eql, str_neq, boolEq_s, not_t, not_f, Bool.true_and, Bool.false_and, Bool.and_true, Bool.and_false, Bool.true_or, Bool.false_or, beq_self_eq_true, Nat.zero_add, add_z, hg, get_mark, hsd, hbs]
        unfold retL
        rw [if_neg]
        intro hx
        rw [Bool.and_eq_true] at hx
        exact hcl hx.2

end Go.Proofs.YtfdfickokkokmaaDoor
