/- Contracts: converted, Of. -/
import Derived.Test.YtfdfickokkokmaaDoorPi
set_option linter.unusedSimpArgs false
set_option linter.unusedVariables false
namespace Go.Proofs.YtfdfickokkokmaaDoor
open Go Go.D

attribute [local congr] bind_c cond_c condL_c then3_c andV_c bindR_c endC_c endD_c quiet_c newC_c newS_c callC_c callQ_c

set_option maxRecDepth 20000 in
theorem run23 : ∀ (sz : Nat) (T : Tree), SizeOf.sizeOf T < sz → ∀ (m0 m : Mem) (v : Value) (left n : Int) (nb : Nat), m0.Ok → m.Ok → m.base = m0.base → m0.Sub m → m0.next ≤ nb → m.get nb = some (.cells [.int .i64 n] 3 false) → 1 ≤ n → n ≤ 1000000 → 0 ≤ left → left ≤ 1000 → m.clean m0.next = true → FormAt m0 T v →
    ∃ T' v1 v2 m', run Pg E 23 [v, .int .i64 left, ptr nb 0] m = some (.ret (.tuple #[v1, v2]), m') ∧ Conv m m' nb n left T' v1 v2
  | 0, T, h => by omega
  | sz + 1, .node op a b ks, hsz => by
    intro m0 m v left n nb hm0 hm hbase hsub hnb0 hcnt hn1 hn2 hl0 hl1 hclean hf
    obtain ⟨s, cs, rfl, hs, hk⟩ := form_cells hf
    have hnb := get_lt hm hcnt
    have hle := hm.le
    have hle0 := hm0.le
    have h0nx : m0.next ≤ m.next := by omega
    have hm0g : ∀ c, m0.next ≤ c → m0.get c = none := fun c hc => Mem.get_ge (by omega) hc
    -- the loop
    have loop : ∀ (r : List Tree) (i : Nat) (ks' : List Tree) (va vb : Value) (csa csb : List Value) (ka kb : Nat) (n' : Int) (mm : Mem), ks.drop i = r → ks'.length = i → ks'.length ≤ 4 → Inv23 m0 m mm nb op a b ks' va vb csa csb ka kb n' left → n' < n → mm.clean m0.next = true →
        ∃ T' v1 v2 m', (∀ (ρ : Rho), ρ 36 = .int .i64 i → ρ 35 = .int .i64 ks.length → ρ 34 = s → ρ 1 = .int .i64 left → ρ 2 = ptr nb 0 → ρ 6 = ptr (m.next + 1) 0 → ρ 7 = ptr (m.next + 2) 0 → ρ 8 = ptr (m.next + 3) 0 → ρ 9 = ptr (m.next + 4) 0 →
          G Pg E 23 [1, 1, 1, 0, 1, 0] m ρ mm = some (.ret (.tuple #[v1, v2]), m')) ∧ Conv m m' nb n left T' v1 v2 := by
      intro r
      induction r with
      | nil =>
        intro i ks' va vb csa csb ka kb n' mm hr hi h4 hinv hnn hcl
        have hi2 : ks.length ≤ i := by simpa using hr
        obtain ⟨v1, v2, m', hG, hC⟩ := fin23 hm hnb hinv hnn (by omega)
        refine ⟨_, v1, v2, m', fun ρ e36 e35 e34 e1 e2 e6 e7 e8 e9 => x23_1_1_1_0_1_0 (x23_1_1_1_0_1_0_0 _ _ _ ?_), hC⟩
        rw [e36, e35]
        simp only [bind_s, condL_t, condL_f, then3_s, cond_t, cond_f, saidL_bt, saidL_bf, saidL_u, cells_agg, size_agg, ld_g, ldn_g, ldB_s, ldG_str, ldG_int, ldG_bool, ldG_ptr, ldG_sl, get_z, get_s, pickL_t, pickL_f, notL_b, isPtr_p, fld_p, extL_t, lenSl_s, lenStr_s, isStr_s, cvI_s, newC_s, newS_s, endC_s, quiet_s, andV_s, bindR_v, int_eql, int_neq, int_lss, int_leq, int_gtr, int_geq, str_eql, str_neq, boolEq_s, not_t, not_f, Bool.true_and, Bool.false_and, Bool.and_true, Bool.and_false, Bool.true_or, Bool.false_or, beq_self_eq_true, Nat.zero_add, add_z]
        rw [decide_eq_false (by omega)]
        simp only [bind_s, condL_t, condL_f, then3_s, cond_t, cond_f, saidL_bt, saidL_bf, saidL_u, cells_agg, size_agg, ld_g, ldn_g, ldB_s, ldG_str, ldG_int, ldG_bool, ldG_ptr, ldG_sl, get_z, get_s, pickL_t, pickL_f, notL_b, isPtr_p, fld_p, extL_t, lenSl_s, lenStr_s, isStr_s, cvI_s, newC_s, newS_s, endC_s, quiet_s, andV_s, bindR_v, int_eql, int_neq, int_lss, int_leq, int_gtr, int_geq, str_eql, str_neq, boolEq_s, not_t, not_f, Bool.true_and, Bool.false_and, Bool.and_true, Bool.and_false, Bool.true_or, Bool.false_or, beq_self_eq_true, Nat.zero_add, add_z]
        exact hG _ e6 e7 e8 e9
      | cons k r ih =>
        intro i ks' va vb csa csb ka kb n' mm hr hi h4 hinv hnn hcl
        have hok := hinv.stp.ok
        obtain ⟨bb, o, y0, y1, y2, y3, m5, hilt, hr2, hlt, h1, h5, h6, h7, h8, hform, hsub5, hok5, hcl5, hnx5, hb5, hlt5, hold5⟩ := kid_at 24 hm0 hs hk hr hok hinv.sub hcl (by have := hinv.nx; omega)
        have hS5 : Stp (fun _ => False) mm m5 := by
          refine ⟨hok5, hb5, Nat.le_of_lt hlt5, fun c hc _ => hold5 c hc, ?_⟩
          have hst := h6
          rw [stn_g (n := 4) (o := 0) (v := .agg ⟨[y0, y1, y2, y3]⟩) (by rw [base_push]; exact hok.le) (get_push_n hok _) rfl (by omega) (by simp) ?_] at hst
          · have e := Option.some.inj hst
            intro c hc
            rw [← e, low_put, low_push] at hc
            rcases List.mem_cons.1 hc with rfl | hc
            · exact .inr (.inr (Nat.le_refl _))
            · exact .inl hc
          · have := hform
            obtain ⟨kop, q1, q2, q3⟩ := k
            obtain ⟨s2, cs2, hv, hs2, _⟩ := form_cells this
            simp only [Value.agg.injEq, Array.mk.injEq, List.cons.injEq, and_true] at hv
            obtain ⟨rfl, rfl, rfl, rfl⟩ := hv
            show [Value.string _, Value.int .i64 _, Value.int .i64 _, _].all D.flat = true
            simp only [List.all_cons, List.all_nil, hs2.flat]; rfl
        have hinv5 := hinv.fresh hS5
        obtain ⟨fv1, fv2, fm, hGf, hCf⟩ := fin23 hm hnb hinv5 hnn (by omega)
        have hg5 : m5.get nb = some (.cells [.int .i64 n'] 3 false) := hinv5.cnt
        by_cases c1 : left < 1
        · refine ⟨_, fv1, fv2, fm, fun ρ e36 e35 e34 e1 e2 e6 e7 e8 e9 => x23_1_1_1_0_1_0 (x23_1_1_1_0_1_0_0 _ _ _ ?_), hCf⟩
          rw [e36, e35, e34, e1, e2]
          simp only [bind_s, condL_t, condL_f, then3_s, cond_t, cond_f, saidL_bt, saidL_bf, saidL_u, cells_agg, size_agg, ld_g, ldn_g, ldB_s, ldG_str, ldG_int, ldG_bool, ldG_ptr, ldG_sl, get_z, get_s, pickL_t, pickL_f, notL_b, isPtr_p, fld_p, extL_t, lenSl_s, lenStr_s, isStr_s, cvI_s, newC_s, newS_s, endC_s, quiet_s, andV_s, bindR_v, int_eql, int_neq, int_lss, int_leq, int_gtr, int_geq, str_eql, str_neq, boolEq_s, not_t, not_f, Bool.true_and, Bool.false_and, Bool.and_true, Bool.and_false, Bool.true_or, Bool.false_or, beq_self_eq_true, Nat.zero_add, add_z]
          rw [decide_eq_true (by omega)]
          simp only [bind_s, condL_t, condL_f, then3_s, cond_t, cond_f, saidL_bt, saidL_bf, saidL_u, cells_agg, size_agg, ld_g, ldn_g, ldB_s, ldG_str, ldG_int, ldG_bool, ldG_ptr, ldG_sl, get_z, get_s, pickL_t, pickL_f, notL_b, isPtr_p, fld_p, extL_t, lenSl_s, lenStr_s, isStr_s, cvI_s, newC_s, newS_s, endC_s, quiet_s, andV_s, bindR_v, int_eql, int_neq, int_lss, int_leq, int_gtr, int_geq, str_eql, str_neq, boolEq_s, not_t, not_f, Bool.true_and, Bool.false_and, Bool.and_true, Bool.and_false, Bool.true_or, Bool.false_or, beq_self_eq_true, Nat.zero_add, add_z, h1, h5, h6]
          rw [decide_eq_true c1]
          simp only [bind_s, condL_t, condL_f, then3_s, cond_t, cond_f, saidL_bt, saidL_bf, saidL_u, cells_agg, size_agg, ld_g, ldn_g, ldB_s, ldG_str, ldG_int, ldG_bool, ldG_ptr, ldG_sl, get_z, get_s, pickL_t, pickL_f, notL_b, isPtr_p, fld_p, extL_t, lenSl_s, lenStr_s, isStr_s, cvI_s, newC_s, newS_s, endC_s, quiet_s, andV_s, bindR_v, int_eql, int_neq, int_lss, int_leq, int_gtr, int_geq, str_eql, str_neq, boolEq_s, not_t, not_f, Bool.true_and, Bool.false_and, Bool.and_true, Bool.and_false, Bool.true_or, Bool.false_or, beq_self_eq_true, Nat.zero_add, add_z]
          exact hGf _ e6 e7 e8 e9
        by_cases c2 : n' < 1
        · refine ⟨_, fv1, fv2, fm, fun ρ e36 e35 e34 e1 e2 e6 e7 e8 e9 => x23_1_1_1_0_1_0 (x23_1_1_1_0_1_0_0 _ _ _ ?_), hCf⟩
          rw [e36, e35, e34, e1, e2]
          simp only [bind_s, condL_t, condL_f, then3_s, cond_t, cond_f, saidL_bt, saidL_bf, saidL_u, cells_agg, size_agg, ld_g, ldn_g, ldB_s, ldG_str, ldG_int, ldG_bool, ldG_ptr, ldG_sl, get_z, get_s, pickL_t, pickL_f, notL_b, isPtr_p, fld_p, extL_t, lenSl_s, lenStr_s, isStr_s, cvI_s, newC_s, newS_s, endC_s, quiet_s, andV_s, bindR_v, int_eql, int_neq, int_lss, int_leq, int_gtr, int_geq, str_eql, str_neq, boolEq_s, not_t, not_f, Bool.true_and, Bool.false_and, Bool.and_true, Bool.and_false, Bool.true_or, Bool.false_or, beq_self_eq_true, Nat.zero_add, add_z]
          rw [decide_eq_true (by omega)]
          simp only [bind_s, condL_t, condL_f, then3_s, cond_t, cond_f, saidL_bt, saidL_bf, saidL_u, cells_agg, size_agg, ld_g, ldn_g, ldB_s, ldG_str, ldG_int, ldG_bool, ldG_ptr, ldG_sl, get_z, get_s, pickL_t, pickL_f, notL_b, isPtr_p, fld_p, extL_t, lenSl_s, lenStr_s, isStr_s, cvI_s, newC_s, newS_s, endC_s, quiet_s, andV_s, bindR_v, int_eql, int_neq, int_lss, int_leq, int_gtr, int_geq, str_eql, str_neq, boolEq_s, not_t, not_f, Bool.true_and, Bool.false_and, Bool.and_true, Bool.and_false, Bool.true_or, Bool.false_or, beq_self_eq_true, Nat.zero_add, add_z, h1, h5, h6]
          rw [decide_eq_false c1]
          simp only [bind_s, condL_t, condL_f, then3_s, cond_t, cond_f, saidL_bt, saidL_bf, saidL_u, cells_agg, size_agg, ld_g, ldn_g, ldB_s, ldG_str, ldG_int, ldG_bool, ldG_ptr, ldG_sl, get_z, get_s, pickL_t, pickL_f, notL_b, isPtr_p, fld_p, extL_t, lenSl_s, lenStr_s, isStr_s, cvI_s, newC_s, newS_s, endC_s, quiet_s, andV_s, bindR_v, int_eql, int_neq, int_lss, int_leq, int_gtr, int_geq, str_eql, str_neq, boolEq_s, not_t, not_f, Bool.true_and, Bool.false_and, Bool.and_true, Bool.and_false, Bool.true_or, Bool.false_or, beq_self_eq_true, Nat.zero_add, add_z, hg5]
          rw [decide_eq_true c2]
          simp only [bind_s, condL_t, condL_f, then3_s, cond_t, cond_f, saidL_bt, saidL_bf, saidL_u, cells_agg, size_agg, ld_g, ldn_g, ldB_s, ldG_str, ldG_int, ldG_bool, ldG_ptr, ldG_sl, get_z, get_s, pickL_t, pickL_f, notL_b, isPtr_p, fld_p, extL_t, lenSl_s, lenStr_s, isStr_s, cvI_s, newC_s, newS_s, endC_s, quiet_s, andV_s, bindR_v, int_eql, int_neq, int_lss, int_leq, int_gtr, int_geq, str_eql, str_neq, boolEq_s, not_t, not_f, Bool.true_and, Bool.false_and, Bool.and_true, Bool.and_false, Bool.true_or, Bool.false_or, beq_self_eq_true, Nat.zero_add, add_z]
          exact hGf _ e6 e7 e8 e9
        by_cases c3 : 3 < (i : Int)
        · refine ⟨_, fv1, fv2, fm, fun ρ e36 e35 e34 e1 e2 e6 e7 e8 e9 => x23_1_1_1_0_1_0 (x23_1_1_1_0_1_0_0 _ _ _ ?_), hCf⟩
          rw [e36, e35, e34, e1, e2]
          simp only [bind_s, condL_t, condL_f, then3_s, cond_t, cond_f, saidL_bt, saidL_bf, saidL_u, cells_agg, size_agg, ld_g, ldn_g, ldB_s, ldG_str, ldG_int, ldG_bool, ldG_ptr, ldG_sl, get_z, get_s, pickL_t, pickL_f, notL_b, isPtr_p, fld_p, extL_t, lenSl_s, lenStr_s, isStr_s, cvI_s, newC_s, newS_s, endC_s, quiet_s, andV_s, bindR_v, int_eql, int_neq, int_lss, int_leq, int_gtr, int_geq, str_eql, str_neq, boolEq_s, not_t, not_f, Bool.true_and, Bool.false_and, Bool.and_true, Bool.and_false, Bool.true_or, Bool.false_or, beq_self_eq_true, Nat.zero_add, add_z]
          rw [decide_eq_true (by omega)]
          simp only [bind_s, condL_t, condL_f, then3_s, cond_t, cond_f, saidL_bt, saidL_bf, saidL_u, cells_agg, size_agg, ld_g, ldn_g, ldB_s, ldG_str, ldG_int, ldG_bool, ldG_ptr, ldG_sl, get_z, get_s, pickL_t, pickL_f, notL_b, isPtr_p, fld_p, extL_t, lenSl_s, lenStr_s, isStr_s, cvI_s, newC_s, newS_s, endC_s, quiet_s, andV_s, bindR_v, int_eql, int_neq, int_lss, int_leq, int_gtr, int_geq, str_eql, str_neq, boolEq_s, not_t, not_f, Bool.true_and, Bool.false_and, Bool.and_true, Bool.and_false, Bool.true_or, Bool.false_or, beq_self_eq_true, Nat.zero_add, add_z, h1, h5, h6]
          rw [decide_eq_false c1]
          simp only [bind_s, condL_t, condL_f, then3_s, cond_t, cond_f, saidL_bt, saidL_bf, saidL_u, cells_agg, size_agg, ld_g, ldn_g, ldB_s, ldG_str, ldG_int, ldG_bool, ldG_ptr, ldG_sl, get_z, get_s, pickL_t, pickL_f, notL_b, isPtr_p, fld_p, extL_t, lenSl_s, lenStr_s, isStr_s, cvI_s, newC_s, newS_s, endC_s, quiet_s, andV_s, bindR_v, int_eql, int_neq, int_lss, int_leq, int_gtr, int_geq, str_eql, str_neq, boolEq_s, not_t, not_f, Bool.true_and, Bool.false_and, Bool.and_true, Bool.and_false, Bool.true_or, Bool.false_or, beq_self_eq_true, Nat.zero_add, add_z, hg5]
          rw [decide_eq_false c2]
          simp only [bind_s, condL_t, condL_f, then3_s, cond_t, cond_f, saidL_bt, saidL_bf, saidL_u, cells_agg, size_agg, ld_g, ldn_g, ldB_s, ldG_str, ldG_int, ldG_bool, ldG_ptr, ldG_sl, get_z, get_s, pickL_t, pickL_f, notL_b, isPtr_p, fld_p, extL_t, lenSl_s, lenStr_s, isStr_s, cvI_s, newC_s, newS_s, endC_s, quiet_s, andV_s, bindR_v, int_eql, int_neq, int_lss, int_leq, int_gtr, int_geq, str_eql, str_neq, boolEq_s, not_t, not_f, Bool.true_and, Bool.false_and, Bool.and_true, Bool.and_false, Bool.true_or, Bool.false_or, beq_self_eq_true, Nat.zero_add, add_z]
          rw [decide_eq_true c3]
          simp only [bind_s, condL_t, condL_f, then3_s, cond_t, cond_f, saidL_bt, saidL_bf, saidL_u, cells_agg, size_agg, ld_g, ldn_g, ldB_s, ldG_str, ldG_int, ldG_bool, ldG_ptr, ldG_sl, get_z, get_s, pickL_t, pickL_f, notL_b, isPtr_p, fld_p, extL_t, lenSl_s, lenStr_s, isStr_s, cvI_s, newC_s, newS_s, endC_s, quiet_s, andV_s, bindR_v, int_eql, int_neq, int_lss, int_leq, int_gtr, int_geq, str_eql, str_neq, boolEq_s, not_t, not_f, Bool.true_and, Bool.false_and, Bool.and_true, Bool.and_false, Bool.true_or, Bool.false_or, beq_self_eq_true, Nat.zero_add, add_z]
          exact hGf _ e6 e7 e8 e9
        -- the kid
        obtain ⟨Tk, w1, w2, m28, hrun, hC28⟩ := run23 sz k (by
            have := List.mem_of_mem_drop (show k ∈ ks.drop i by rw [hr]; exact List.mem_cons_self ..)
            have := List.sizeOf_lt_of_mem this
            simp at hsz; omega) m0 m5 (.agg ⟨[y0, y1, y2, y3]⟩) (left - 1) n' nb hm0 hok5 (hb5.trans (hinv.stp.base.trans hbase)) hinv5.sub hnb0 hg5 (by omega) (by omega) (by omega) (by omega) hcl5 hform
        have hw : IntKind.i64.wrap (left - 1) = left - 1 := wrap_i64 (by omega) (by omega)
        obtain ⟨m35, m36, m44, m52, m54, m56, va', vb', n2, s1, s2, s3, c1', c2', ew1, ew2, hc1, hc2, ⟨hf1, hf2, hgva, hgvb⟩, s4, s5, s6, s7, s8, s9, s10, s11, s12, s13, s14, s15, s16, s17⟩ :=
          step23 hm hnb (fun c hc => hm0g c (by omega)) (hm0g nb hnb0) hinv5 hC28 (by omega)
        subst ew1 ew2
        have hcl56 : m56.clean m0.next = true := s16.stp.cleaned hclean (fun c hc => by rw [hc]; exact hnb0) h0nx
        obtain ⟨T', v1, v2, m', hG, hC⟩ := ih (i + 1) (ks' ++ [Tk]) va' vb' _ _ _ _ n2 m56 hr2 (by rw [List.length_append, List.length_singleton, hi]) (by rw [List.length_append, List.length_singleton]; omega) s16 (by omega) hcl56
        refine ⟨T', v1, v2, m', fun ρ e36 e35 e34 e1 e2 e6 e7 e8 e9 => x23_1_1_1_0_1_0 (x23_1_1_1_0_1_0_0 _ _ _ ?_), hC⟩
        rw [e36, e35, e34, e1, e2, e8, e9]
        have hnx := hinv5.nx
        have hnx28 := hC28.stp.next
        simp only [bind_s, condL_t, condL_f, then3_s, cond_t, cond_f, saidL_bt, saidL_bf, saidL_u, cells_agg, size_agg, ld_g, ldn_g, ldB_s, ldG_str, ldG_int, ldG_bool, ldG_ptr, ldG_sl, get_z, get_s, pickL_t, pickL_f, notL_b, isPtr_p, fld_p, extL_t, lenSl_s, lenStr_s, isStr_s, cvI_s, newC_s, newS_s, endC_s, quiet_s, andV_s, bindR_v, int_eql, int_neq, int_lss, int_leq, int_gtr, int_geq, str_eql, str_neq, boolEq_s, not_t, not_f, Bool.true_and, Bool.false_and, Bool.and_true, Bool.and_false, Bool.true_or, Bool.false_or, beq_self_eq_true, Nat.zero_add, add_z]
        rw [decide_eq_true (by omega)]
        simp only [bind_s, condL_t, condL_f, then3_s, cond_t, cond_f, saidL_bt, saidL_bf, saidL_u, cells_agg, size_agg, ld_g, ldn_g, ldB_s, ldG_str, ldG_int, ldG_bool, ldG_ptr, ldG_sl, get_z, get_s, pickL_t, pickL_f, notL_b, isPtr_p, fld_p, extL_t, lenSl_s, lenStr_s, isStr_s, cvI_s, newC_s, newS_s, endC_s, quiet_s, andV_s, bindR_v, int_eql, int_neq, int_lss, int_leq, int_gtr, int_geq, str_eql, str_neq, boolEq_s, not_t, not_f, Bool.true_and, Bool.false_and, Bool.and_true, Bool.and_false, Bool.true_or, Bool.false_or, beq_self_eq_true, Nat.zero_add, add_z, h1, h5, h6]
        rw [decide_eq_false c1]
        simp only [bind_s, condL_t, condL_f, then3_s, cond_t, cond_f, saidL_bt, saidL_bf, saidL_u, cells_agg, size_agg, ld_g, ldn_g, ldB_s, ldG_str, ldG_int, ldG_bool, ldG_ptr, ldG_sl, get_z, get_s, pickL_t, pickL_f, notL_b, isPtr_p, fld_p, extL_t, lenSl_s, lenStr_s, isStr_s, cvI_s, newC_s, newS_s, endC_s, quiet_s, andV_s, bindR_v, int_eql, int_neq, int_lss, int_leq, int_gtr, int_geq, str_eql, str_neq, boolEq_s, not_t, not_f, Bool.true_and, Bool.false_and, Bool.and_true, Bool.and_false, Bool.true_or, Bool.false_or, beq_self_eq_true, Nat.zero_add, add_z, hg5]
        rw [decide_eq_false c2]
        simp only [bind_s, condL_t, condL_f, then3_s, cond_t, cond_f, saidL_bt, saidL_bf, saidL_u, cells_agg, size_agg, ld_g, ldn_g, ldB_s, ldG_str, ldG_int, ldG_bool, ldG_ptr, ldG_sl, get_z, get_s, pickL_t, pickL_f, notL_b, isPtr_p, fld_p, extL_t, lenSl_s, lenStr_s, isStr_s, cvI_s, newC_s, newS_s, endC_s, quiet_s, andV_s, bindR_v, int_eql, int_neq, int_lss, int_leq, int_gtr, int_geq, str_eql, str_neq, boolEq_s, not_t, not_f, Bool.true_and, Bool.false_and, Bool.and_true, Bool.and_false, Bool.true_or, Bool.false_or, beq_self_eq_true, Nat.zero_add, add_z]
        rw [decide_eq_false c3]
        have x0 : ∀ (a b : Value), extL (.tuple #[a, b]) 0 = some a := fun _ _ => rfl
        have x1 : ∀ (a b : Value), extL (.tuple #[a, b]) 1 = some b := fun _ _ => rfl
        have hcA : cellsA (repl 1 [.string ⟨#[]⟩, .int .i64 0, .int .i64 0, .slice none 0 0]) 4 [(0, .agg ⟨c1'⟩)] = some c1' := cellsA_1 c1' hc1
        have hcB : cellsA (repl 1 [.string ⟨#[]⟩, .int .i64 0, .int .i64 0, .slice none 0 0]) 4 [(0, .agg ⟨c2'⟩)] = some c2' := cellsA_1 c2' hc2
        have hl1 : ldnB (some (Blk.cells c1' 27 false)) 0 4 = some (.agg ⟨c1'⟩) := ldnB_l (by omega) (by assumption)
        have hl2 : ldnB (some (Blk.cells c2' 24 false)) 0 4 = some (.agg ⟨c2'⟩) := ldnB_l (by omega) (by assumption)
        simp only [bind_s, condL_t, condL_f, then3_s, cond_t, cond_f, saidL_bt, saidL_bf, saidL_u, cells_agg, size_agg, ld_g, ldn_g, ldB_s, ldG_str, ldG_int, ldG_bool, ldG_ptr, ldG_sl, get_z, get_s, pickL_t, pickL_f, notL_b, isPtr_p, fld_p, extL_t, lenSl_s, lenStr_s, isStr_s, cvI_s, newC_s, newS_s, endC_s, quiet_s, andV_s, bindR_v, int_eql, int_neq, int_lss, int_leq, int_gtr, int_geq, str_eql, str_neq, boolEq_s, not_t, not_f, Bool.true_and, Bool.false_and, Bool.and_true, Bool.and_false, Bool.true_or, Bool.false_or, beq_self_eq_true, Nat.zero_add, add_z, h7, h8, int_sub, hw, hrun, hgva, hgvb, x0, x1, next_push, s1, s2, s3, s4, hl1, hcA, s6, s7, s8, hl2, hcB, s10, s11, s12]
        rw [clash_nl (show m.next + 4 < m36.next by omega), clash_al (show m.next + 4 < m36.next + 1 by omega) s13, clash_nl (show m28.next + 1 < m36.next by omega), clash_al (show m28.next + 1 < m36.next + 1 by omega) s14]
        simp only [bind_s, condL_t, condL_f, then3_s, cond_t, cond_f, saidL_bt, saidL_bf, saidL_u, cells_agg, size_agg, ld_g, ldn_g, ldB_s, ldG_str, ldG_int, ldG_bool, ldG_ptr, ldG_sl, get_z, get_s, pickL_t, pickL_f, notL_b, isPtr_p, fld_p, extL_t, lenSl_s, lenStr_s, isStr_s, cvI_s, newC_s, newS_s, endC_s, quiet_s, andV_s, bindR_v, int_eql, int_neq, int_lss, int_leq, int_gtr, int_geq, str_eql, str_neq, boolEq_s, not_t, not_f, Bool.true_and, Bool.false_and, Bool.and_true, Bool.and_false, Bool.true_or, Bool.false_or, beq_self_eq_true, Nat.zero_add, add_z, int_add, wrap_nat hlt]
        refine hG _ ?_ ?_ ?_ ?_ ?_ ?_ ?_ ?_ ?_ <;> first | rfl | assumption
    -- the entry
    have hok1 := hm.mark.push (.cells [.string op, .int .i64 a, .int .i64 b, s] 24 false)
    have hok3 := hok1.push (.cells [.string ⟨#[]⟩, .int .i64 0, .int .i64 0, .slice none 0 0] 27 false)
    have hok5 := hok3.push (.cells [.string ⟨#[]⟩, .int .i64 0, .int .i64 0, .slice none 0 0] 24 false)
    have hS5 : Stp (fun c => c = nb) m (((m.mark.push (.cells [.string op, .int .i64 a, .int .i64 b, s] 24 false)).push (.cells [.string ⟨#[]⟩, .int .i64 0, .int .i64 0, .slice none 0 0] 27 false)).push (.cells [.string ⟨#[]⟩, .int .i64 0, .int .i64 0, .slice none 0 0] 24 false)) := (((Stp.mark hm).push _).push _).push _
    have hn5 : (((m.mark.push (.cells [.string op, .int .i64 a, .int .i64 b, s] 24 false)).push (.cells [.string ⟨#[]⟩, .int .i64 0, .int .i64 0, .slice none 0 0] 27 false)).push (.cells [.string ⟨#[]⟩, .int .i64 0, .int .i64 0, .slice none 0 0] 24 false)).next = m.next + 3 := rfl
    have hb5 : (((m.mark.push (.cells [.string op, .int .i64 a, .int .i64 b, s] 24 false)).push (.cells [.string ⟨#[]⟩, .int .i64 0, .int .i64 0, .slice none 0 0] 27 false)).push (.cells [.string ⟨#[]⟩, .int .i64 0, .int .i64 0, .slice none 0 0] 24 false)).base = m.base := rfl
    have g0 : (((m.mark.push (.cells [.string op, .int .i64 a, .int .i64 b, s] 24 false)).push (.cells [.string ⟨#[]⟩, .int .i64 0, .int .i64 0, .slice none 0 0] 27 false)).push (.cells [.string ⟨#[]⟩, .int .i64 0, .int .i64 0, .slice none 0 0] 24 false)).get m.next = some (.cells [.string op, .int .i64 a, .int .i64 b, s] 24 false) := by
      rw [get_push_o hok3 _ (by rw [next_push, next_push, next_mark]; omega), get_push_o hok1 _ (by rw [next_push, next_mark]; omega)]; exact get_push_n hm.mark _
    have g1 : (((m.mark.push (.cells [.string op, .int .i64 a, .int .i64 b, s] 24 false)).push (.cells [.string ⟨#[]⟩, .int .i64 0, .int .i64 0, .slice none 0 0] 27 false)).push (.cells [.string ⟨#[]⟩, .int .i64 0, .int .i64 0, .slice none 0 0] 24 false)).get (m.next + 1) = some (.cells [.string ⟨#[]⟩, .int .i64 0, .int .i64 0, .slice none 0 0] 27 false) := by
      rw [get_push_o hok3 _ (by rw [next_push, next_push, next_mark]; omega)]; exact get_push_n hok1 _
    have g2 : (((m.mark.push (.cells [.string op, .int .i64 a, .int .i64 b, s] 24 false)).push (.cells [.string ⟨#[]⟩, .int .i64 0, .int .i64 0, .slice none 0 0] 27 false)).push (.cells [.string ⟨#[]⟩, .int .i64 0, .int .i64 0, .slice none 0 0] 24 false)).get (m.next + 2) = some (.cells [.string ⟨#[]⟩, .int .i64 0, .int .i64 0, .slice none 0 0] 24 false) := get_push_n hok3 _
    have gs : m0.Sub (((m.mark.push (.cells [.string op, .int .i64 a, .int .i64 b, s] 24 false)).push (.cells [.string ⟨#[]⟩, .int .i64 0, .int .i64 0, .slice none 0 0] 27 false)).push (.cells [.string ⟨#[]⟩, .int .i64 0, .int .i64 0, .slice none 0 0] 24 false)) := hS5.sub hm hsub (fun c hc => by rw [hc]; exact hm0g nb hnb0)
    have gk : ∀ {c : Nat} {x : Blk}, m.get c = some x → (((m.mark.push (.cells [.string op, .int .i64 a, .int .i64 b, s] 24 false)).push (.cells [.string ⟨#[]⟩, .int .i64 0, .int .i64 0, .slice none 0 0] 27 false)).push (.cells [.string ⟨#[]⟩, .int .i64 0, .int .i64 0, .slice none 0 0] 24 false)).get c = some x := fun hx =>
      Mem.Sub.push hok3 _ _ _ (Mem.Sub.push hok1 _ _ _ (Mem.Sub.push hm.mark _ _ _ hx))
    have gn := gk hcnt
    have hent : ∀ r, G Pg E 23 [] m (rho0 [.agg ⟨[.string op, .int .i64 a, .int .i64 b, s]⟩, .int .i64 left, ptr nb 0]) m.mark = some r → run Pg E 23 [.agg ⟨[.string op, .int .i64 a, .int .i64 b, s]⟩, .int .i64 left, ptr nb 0] m = some r := fun r h => G_run rfl Tryd.func23 rfl (by kernel_rfl) h
    have htext := fun r => x23 m m.mark (.agg ⟨[.string op, .int .i64 a, .int .i64 b, s]⟩) (.int .i64 left) (ptr nb 0) (r := r)
    simp only [newC_s, next_mark, next_push, cells_agg] at htext
    generalize ((m.mark.push (.cells [.string op, .int .i64 a, .int .i64 b, s] 24 false)).push (.cells [.string ⟨#[]⟩, .int .i64 0, .int .i64 0, .slice none 0 0] 27 false)).push (.cells [.string ⟨#[]⟩, .int .i64 0, .int .i64 0, .slice none 0 0] 24 false) = m5 at *
    have hokm5 := hS5.ok
    have hw : IntKind.i64.wrap (n - 1) = n - 1 := wrap_i64 (by omega) (by omega)
    have st10 : stn m5 1 (ptr nb 0) (.int .i64 (n - 1)) = some (m5.put nb (some (.cells [.int .i64 (n - 1)] 3 false))) := by
      rw [stn_g (n := 1) (o := 0) (v := .int .i64 (n - 1)) (by omega) gn rfl (by omega) (by simp) rfl]; rfl
    have hS10 : Stp (fun c => c = nb) m (m5.put nb (some (.cells [.int .i64 (n - 1)] 3 false))) := hS5.put (by omega) (by omega) (.inl rfl) _
    have n10 : (m5.put nb (some (.cells [.int .i64 (n - 1)] 3 false))).next = m.next + 3 := hn5
    have b10 : (m5.put nb (some (.cells [.int .i64 (n - 1)] 3 false))).base = m.base := hb5
    have k10 : ∀ {c : Nat} {x : Blk}, c ≠ nb → m5.get c = some x → (m5.put nb (some (.cells [.int .i64 (n - 1)] 3 false))).get c = some x := fun hne hx => by rw [get_put_o hokm5 (by omega) (by omega) _ hne]; exact hx
    have gn10 : (m5.put nb (some (.cells [.int .i64 (n - 1)] 3 false))).get nb = some (.cells [.int .i64 (n - 1)] 3 false) := get_put_n hokm5 (by omega) (by omega) _
    generalize m5.put nb (some (.cells [.int .i64 (n - 1)] 3 false)) = m10 at *
    have hok10 := hS10.ok
    have hok26 := hok10.push (.cells [.string ⟨#[]⟩, .int .i64 0, .int .i64 0, .slice none 0 0] 27 false)
    have hok28 := hok26.push (.cells [.string ⟨#[]⟩, .int .i64 0, .int .i64 0, .slice none 0 0] 24 false)
    have n26 : (m10.push (.cells [.string ⟨#[]⟩, .int .i64 0, .int .i64 0, .slice none 0 0] 27 false)).next = m.next + 4 := by rw [next_push, n10]
    have hS28 : Stp (fun c => c = nb) m ((m10.push (.cells [.string ⟨#[]⟩, .int .i64 0, .int .i64 0, .slice none 0 0] 27 false)).push (.cells [.string ⟨#[]⟩, .int .i64 0, .int .i64 0, .slice none 0 0] 24 false)) := (hS10.push _).push _
    have n28 : ((m10.push (.cells [.string ⟨#[]⟩, .int .i64 0, .int .i64 0, .slice none 0 0] 27 false)).push (.cells [.string ⟨#[]⟩, .int .i64 0, .int .i64 0, .slice none 0 0] 24 false)).next = m.next + 5 := by rw [next_push, n26]
    have b28 : ((m10.push (.cells [.string ⟨#[]⟩, .int .i64 0, .int .i64 0, .slice none 0 0] 27 false)).push (.cells [.string ⟨#[]⟩, .int .i64 0, .int .i64 0, .slice none 0 0] 24 false)).base = m.base := b10
    have gA : ((m10.push (.cells [.string ⟨#[]⟩, .int .i64 0, .int .i64 0, .slice none 0 0] 27 false)).push (.cells [.string ⟨#[]⟩, .int .i64 0, .int .i64 0, .slice none 0 0] 24 false)).get (m.next + 3) = some (.cells [.string ⟨#[]⟩, .int .i64 0, .int .i64 0, .slice none 0 0] 27 false) := by
      rw [get_push_o hok26 _ (by omega), ← n10]; exact get_push_n hok10 _
    have gB : ((m10.push (.cells [.string ⟨#[]⟩, .int .i64 0, .int .i64 0, .slice none 0 0] 27 false)).push (.cells [.string ⟨#[]⟩, .int .i64 0, .int .i64 0, .slice none 0 0] 24 false)).get (m.next + 4) = some (.cells [.string ⟨#[]⟩, .int .i64 0, .int .i64 0, .slice none 0 0] 24 false) := by
      rw [← n26]; exact get_push_n hok26 _
    have k28 : ∀ {c : Nat} {x : Blk}, m10.get c = some x → ((m10.push (.cells [.string ⟨#[]⟩, .int .i64 0, .int .i64 0, .slice none 0 0] 27 false)).push (.cells [.string ⟨#[]⟩, .int .i64 0, .int .i64 0, .slice none 0 0] 24 false)).get c = some x := fun hx => Mem.Sub.push hok26 _ _ _ (Mem.Sub.push hok10 _ _ _ hx)
    have htext2 := htext
    generalize hm28 : (m10.push (.cells [.string ⟨#[]⟩, .int .i64 0, .int .i64 0, .slice none 0 0] 27 false)).push (.cells [.string ⟨#[]⟩, .int .i64 0, .int .i64 0, .slice none 0 0] 24 false) = m28 at *
    have hfl : [Value.string op, .int .i64 a, .int .i64 b, .slice none 0 0].all D.flat = true := rfl
    have st29 : stn m28 4 (ptr (m.next + 3) 0) (.agg ⟨[.string op, .int .i64 a, .int .i64 b, .slice none 0 0]⟩) = some (m28.put (m.next + 3) (some (.cells [.string op, .int .i64 a, .int .i64 b, .slice none 0 0] 27 false))) := by
      rw [stn_g (n := 4) (o := 0) (v := .agg ⟨[.string op, .int .i64 a, .int .i64 b, .slice none 0 0]⟩) (by omega) gA rfl (by omega) (by simp) hfl, splice_all (by rfl)]; rfl
    have hok29 : (m28.put (m.next + 3) (some (.cells [.string op, .int .i64 a, .int .i64 b, .slice none 0 0] 27 false))).Ok := hok28.put _ _
    have gB29 : (m28.put (m.next + 3) (some (.cells [.string op, .int .i64 a, .int .i64 b, .slice none 0 0] 27 false))).get (m.next + 4) = some (.cells [.string ⟨#[]⟩, .int .i64 0, .int .i64 0, .slice none 0 0] 24 false) := by
      rw [get_put_o hok28 (by omega) (by omega) _ (by omega)]; exact gB
    have st30 : stn (m28.put (m.next + 3) (some (.cells [.string op, .int .i64 a, .int .i64 b, .slice none 0 0] 27 false))) 4 (ptr (m.next + 4) 0) (.agg ⟨[.string op, .int .i64 a, .int .i64 b, .slice none 0 0]⟩) =
        some ((m28.put (m.next + 3) (some (.cells [.string op, .int .i64 a, .int .i64 b, .slice none 0 0] 27 false))).put (m.next + 4) (some (.cells [.string op, .int .i64 a, .int .i64 b, .slice none 0 0] 24 false))) := by
      rw [stn_g (n := 4) (o := 0) (v := .agg ⟨[.string op, .int .i64 a, .int .i64 b, .slice none 0 0]⟩) (by rw [base_put]; omega) gB29 rfl (by omega) (by simp) hfl, splice_all (by rfl)]; rfl
    have hS30 : Stp (fun c => c = nb) m ((m28.put (m.next + 3) (some (.cells [.string op, .int .i64 a, .int .i64 b, .slice none 0 0] 27 false))).put (m.next + 4) (some (.cells [.string op, .int .i64 a, .int .i64 b, .slice none 0 0] 24 false))) :=
      (hS28.put (by omega) (by omega) (.inr (by omega)) _).put (by rw [base_put]; omega) (by rw [next_put]; omega) (.inr (by omega)) _
    have k30 : ∀ {c : Nat} {x : Blk}, c ≠ m.next + 3 → c ≠ m.next + 4 → m28.get c = some x → ((m28.put (m.next + 3) (some (.cells [.string op, .int .i64 a, .int .i64 b, .slice none 0 0] 27 false))).put (m.next + 4) (some (.cells [.string op, .int .i64 a, .int .i64 b, .slice none 0 0] 24 false))).get c = some x := fun q1 q2 hx => by
      rw [get_put_o hok29 (by rw [base_put]; omega) (by rw [next_put]; omega) _ q2, get_put_o hok28 (by omega) (by omega) _ q1]; exact hx
    have hA30 : ((m28.put (m.next + 3) (some (.cells [.string op, .int .i64 a, .int .i64 b, .slice none 0 0] 27 false))).put (m.next + 4) (some (.cells [.string op, .int .i64 a, .int .i64 b, .slice none 0 0] 24 false))).get (m.next + 3) = some (.cells [.string op, .int .i64 a, .int .i64 b, .slice none 0 0] 27 false) := by
      rw [get_put_o hok29 (by rw [base_put]; omega) (by rw [next_put]; omega) _ (by omega), get_put_n hok28 (by omega) (by omega)]
    have hB30 : ((m28.put (m.next + 3) (some (.cells [.string op, .int .i64 a, .int .i64 b, .slice none 0 0] 27 false))).put (m.next + 4) (some (.cells [.string op, .int .i64 a, .int .i64 b, .slice none 0 0] 24 false))).get (m.next + 4) = some (.cells [.string op, .int .i64 a, .int .i64 b, .slice none 0 0] 24 false) :=
      get_put_n hok29 (by rw [base_put]; omega) (by rw [next_put]; omega) _
    have n30 : ((m28.put (m.next + 3) (some (.cells [.string op, .int .i64 a, .int .i64 b, .slice none 0 0] 27 false))).put (m.next + 4) (some (.cells [.string op, .int .i64 a, .int .i64 b, .slice none 0 0] 24 false))).next = m.next + 5 := n28
    have g0b := k30 (by omega) (by omega) (k28 (k10 (show m.next ≠ nb by omega) g0))
    have hinv : Inv23 m0 m ((m28.put (m.next + 3) (some (.cells [.string op, .int .i64 a, .int .i64 b, .slice none 0 0] 27 false))).put (m.next + 4) (some (.cells [.string op, .int .i64 a, .int .i64 b, .slice none 0 0] 24 false))) nb op a b [] (.slice none 0 0) (.slice none 0 0) [] [] (m.next + 5) (m.next + 6) (n - 1) left := by
      refine ⟨hS30, hS30.sub hm hsub (fun c hc => by rw [hc]; exact hm0g nb hnb0), by omega, k30 (by omega) (by omega) (k28 gn10), by omega, hA30, hB30, ⟨_, rfl, k30 (by omega) (by omega) (k28 (k10 (by omega) g1))⟩, ⟨_, rfl, k30 (by omega) (by omega) (k28 (k10 (by omega) g2))⟩, ⟨rfl, rfl, .inl ⟨rfl, rfl⟩⟩, ⟨rfl, rfl, .inl ⟨rfl, rfl⟩⟩, by omega, by omega, ?_, ?_, ?_⟩
      · unfold FormsG; trivial
      · unfold FormsG; trivial
      · unfold heightL; exact hl0
    obtain ⟨T', v1, v2, m', hG, hC⟩ := loop ks 0 [] _ _ [] [] _ _ (n - 1) _ rfl rfl (by simp) hinv (by omega) (hS30.cleaned hclean (fun c hc => by rw [hc]; exact hnb0) h0nx)
    refine ⟨T', v1, v2, m', hent _ (htext2 _ ?_), hC⟩
    have hbl := bldS_3 (.string op) (.int .i64 a) (.int .i64 b) rfl rfl rfl rfl rfl rfl
    simp only [bind_s, condL_t, condL_f, then3_s, cond_t, cond_f, saidL_bt, saidL_bf, saidL_u, cells_agg, size_agg, ld_g, ldn_g, ldB_s, ldG_str, ldG_int, ldG_bool, ldG_ptr, ldG_sl, get_z, get_s, pickL_t, pickL_f, notL_b, isPtr_p, fld_p, extL_t, lenSl_s, lenStr_s, isStr_s, cvI_s, newC_s, newS_s, endC_s, quiet_s, andV_s, bindR_v, int_eql, int_neq, int_lss, int_leq, int_gtr, int_geq, str_eql, str_neq, boolEq_s, not_t, not_f, Bool.true_and, Bool.false_and, Bool.and_true, Bool.and_false, Bool.true_or, Bool.false_or, beq_self_eq_true, Nat.zero_add, add_z, gn, int_sub, hw, st10, k10 (show m.next ≠ nb by omega) g0, hbl, n10, n26, hm28, st29, st30]
    have hne3 : m.next ≠ m.next + 3 := by omega
    rw [clash_lw hne3, clash_lw hne3, clash_lw hne3]
    simp only [bind_s, condL_t, condL_f, then3_s, cond_t, cond_f, saidL_bt, saidL_bf, saidL_u, cells_agg, size_agg, ld_g, ldn_g, ldB_s, ldG_str, ldG_int, ldG_bool, ldG_ptr, ldG_sl, get_z, get_s, pickL_t, pickL_f, notL_b, isPtr_p, fld_p, extL_t, lenSl_s, lenStr_s, isStr_s, cvI_s, newC_s, newS_s, endC_s, quiet_s, andV_s, bindR_v, int_eql, int_neq, int_lss, int_leq, int_gtr, int_geq, str_eql, str_neq, boolEq_s, not_t, not_f, Bool.true_and, Bool.false_and, Bool.and_true, Bool.and_false, Bool.true_or, Bool.false_or, beq_self_eq_true, Nat.zero_add, add_z, g0b, hs.gs, hs.len]
    refine hG _ ?_ ?_ ?_ ?_ ?_ ?_ ?_ ?_ ?_ <;> rfl

end Go.Proofs.YtfdfickokkokmaaDoor
