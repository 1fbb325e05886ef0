/- Contracts: the reference's functions on formulas. -/
import Derived.Test.YtfdfickokkokmaaDoorPe
set_option linter.unusedSimpArgs false
set_option linter.unusedVariables false
namespace Go.Proofs.YtfdfickokkokmaaDoor
open Go Go.D

attribute [local congr] bind_c cond_c condL_c then3_c andV_c bindR_c endC_c endD_c quiet_c newC_c newS_c callC_c callQ_c

theorem run45 (m : Mem) (op : ByteArray) : run Pg E 45 [.string op] m = some (.ret (.int .i64 (kidsN op)), m) := by
  refine G_run rfl Tryd.func45 rfl (by kernel_rfl) (x45 _ _ _ ?_)
  have h3 : ∀ ρ : Rho, ∀ b, ρ 7 = .bool b → ρ 3 = .string op → b = decide (op = ⟨#[33]⟩ ∨ op = ⟨#[69]⟩) → ¬ (op = ⟨#[61]⟩ ∨ op = ⟨#[126]⟩) → G Pg E 45 [1, 0, 1, 0, 1, 1, 1] m ρ m.mark = some (.ret (.int .i64 (kidsN op)), m) := by
    intro ρ b h7 h3 hb hn
    refine x45_1_0_1_0_1_1_1 _ _ _ ?_
    rw [h7]
    unfold kidsN
    rw [if_neg hn]
    by_cases h : op = ⟨#[33]⟩ ∨ op = ⟨#[69]⟩
    · rw [if_pos h, hb, decide_eq_true h]; rfl
    · rw [if_neg h, hb, decide_eq_false h]
      simp only [bind_s, condL_t, condL_f, then3_s, cond_t, cond_f, saidL_bt, saidL_bf, saidL_u, cells_agg, size_agg, ld_g, ldn_g, ldB_s, ldG_str, ldG_int, ldG_bool, ldG_ptr, ldG_sl, get_z, get_s, pickL_t, pickL_f, notL_b, isPtr_p, fld_p, extL_t, lenSl_s, lenStr_s, isStr_s, cvI_s, newC_s, newS_s, endC_s, quiet_s, andV_s, bindR_v, int_eql, int_neq, int_lss, int_leq, int_gtr, int_geq, str_eql, str_neq, boolEq_s, not_t, not_f, Bool.true_and, Bool.false_and, Bool.and_true, Bool.and_false, Bool.true_or, Bool.false_or, beq_self_eq_true, Nat.zero_add, add_z, h3]
      by_cases h2 : op = ⟨#[38]⟩
      · rw [if_pos h2, decide_eq_true h2]; rfl
      · rw [if_neg h2, decide_eq_false h2]; rfl
  have h1 : ∀ ρ : Rho, ∀ b, ρ 4 = .bool b → ρ 3 = .string op → b = decide (op = ⟨#[61]⟩ ∨ op = ⟨#[126]⟩) → G Pg E 45 [1, 0, 1, 0, 1] m ρ m.mark = some (.ret (.int .i64 (kidsN op)), m) := by
    intro ρ b h4 hs hb
    refine x45_1_0_1_0_1 _ _ _ ?_
    rw [h4]
    by_cases h : op = ⟨#[61]⟩ ∨ op = ⟨#[126]⟩
    · have : kidsN op = 0 := by unfold kidsN; rw [if_pos h]
      rw [this, hb, decide_eq_true h]; rfl
    · rw [hb, decide_eq_false h]
      simp only [bind_s, condL_t, condL_f, then3_s, cond_t, cond_f, saidL_bt, saidL_bf, saidL_u, cells_agg, size_agg, ld_g, ldn_g, ldB_s, ldG_str, ldG_int, ldG_bool, ldG_ptr, ldG_sl, get_z, get_s, pickL_t, pickL_f, notL_b, isPtr_p, fld_p, extL_t, lenSl_s, lenStr_s, isStr_s, cvI_s, newC_s, newS_s, endC_s, quiet_s, andV_s, bindR_v, int_eql, int_neq, int_lss, int_leq, int_gtr, int_geq, str_eql, str_neq, boolEq_s, not_t, not_f, Bool.true_and, Bool.false_and, Bool.and_true, Bool.and_false, Bool.true_or, Bool.false_or, beq_self_eq_true, Nat.zero_add, add_z, hs]
      by_cases h2 : op = ⟨#[33]⟩
      · rw [decide_eq_true h2]
        simp only [bind_s, condL_t, condL_f, then3_s, cond_t, cond_f, saidL_bt, saidL_bf, saidL_u, cells_agg, size_agg, ld_g, ldn_g, ldB_s, ldG_str, ldG_int, ldG_bool, ldG_ptr, ldG_sl, get_z, get_s, pickL_t, pickL_f, notL_b, isPtr_p, fld_p, extL_t, lenSl_s, lenStr_s, isStr_s, cvI_s, newC_s, newS_s, endC_s, quiet_s, andV_s, bindR_v, int_eql, int_neq, int_lss, int_leq, int_gtr, int_geq, str_eql, str_neq, boolEq_s, not_t, not_f, Bool.true_and, Bool.false_and, Bool.and_true, Bool.and_false, Bool.true_or, Bool.false_or, beq_self_eq_true, Nat.zero_add, add_z]
        exact h3 _ true rfl hs (by rw [decide_eq_true (.inl h2)]) h
      · rw [decide_eq_false h2]
        simp only [bind_s, condL_t, condL_f, then3_s, cond_t, cond_f, saidL_bt, saidL_bf, saidL_u, cells_agg, size_agg, ld_g, ldn_g, ldB_s, ldG_str, ldG_int, ldG_bool, ldG_ptr, ldG_sl, get_z, get_s, pickL_t, pickL_f, notL_b, isPtr_p, fld_p, extL_t, lenSl_s, lenStr_s, isStr_s, cvI_s, newC_s, newS_s, endC_s, quiet_s, andV_s, bindR_v, int_eql, int_neq, int_lss, int_leq, int_gtr, int_geq, str_eql, str_neq, boolEq_s, not_t, not_f, Bool.true_and, Bool.false_and, Bool.and_true, Bool.and_false, Bool.true_or, Bool.false_or, beq_self_eq_true, Nat.zero_add, add_z]
        by_cases h5 : op = ⟨#[69]⟩
        · rw [decide_eq_true h5]; exact h3 _ true rfl hs (by rw [decide_eq_true (.inr h5)]) h
        · rw [decide_eq_false h5]; exact h3 _ false rfl hs (by rw [decide_eq_false (by rintro (h | h) <;> contradiction)]) h
  simp only [bind_s, condL_t, condL_f, then3_s, cond_t, cond_f, saidL_bt, saidL_bf, saidL_u, cells_agg, size_agg, ld_g, ldn_g, ldB_s, ldG_str, ldG_int, ldG_bool, ldG_ptr, ldG_sl, get_z, get_s, pickL_t, pickL_f, notL_b, isPtr_p, fld_p, extL_t, lenSl_s, lenStr_s, isStr_s, cvI_s, newC_s, newS_s, endC_s, quiet_s, andV_s, bindR_v, int_eql, int_neq, int_lss, int_leq, int_gtr, int_geq, str_eql, str_neq, boolEq_s, not_t, not_f, Bool.true_and, Bool.false_and, Bool.and_true, Bool.and_false, Bool.true_or, Bool.false_or, beq_self_eq_true, Nat.zero_add, add_z]
  by_cases h : op = ⟨#[61]⟩
  · rw [decide_eq_true h]
    simp only [bind_s, condL_t, condL_f, then3_s, cond_t, cond_f, saidL_bt, saidL_bf, saidL_u, cells_agg, size_agg, ld_g, ldn_g, ldB_s, ldG_str, ldG_int, ldG_bool, ldG_ptr, ldG_sl, get_z, get_s, pickL_t, pickL_f, notL_b, isPtr_p, fld_p, extL_t, lenSl_s, lenStr_s, isStr_s, cvI_s, newC_s, newS_s, endC_s, quiet_s, andV_s, bindR_v, int_eql, int_neq, int_lss, int_leq, int_gtr, int_geq, str_eql, str_neq, boolEq_s, not_t, not_f, Bool.true_and, Bool.false_and, Bool.and_true, Bool.and_false, Bool.true_or, Bool.false_or, beq_self_eq_true, Nat.zero_add, add_z]
    exact h1 _ true rfl rfl (by rw [decide_eq_true (.inl h)])
  · rw [decide_eq_false h]
    simp only [bind_s, condL_t, condL_f, then3_s, cond_t, cond_f, saidL_bt, saidL_bf, saidL_u, cells_agg, size_agg, ld_g, ldn_g, ldB_s, ldG_str, ldG_int, ldG_bool, ldG_ptr, ldG_sl, get_z, get_s, pickL_t, pickL_f, notL_b, isPtr_p, fld_p, extL_t, lenSl_s, lenStr_s, isStr_s, cvI_s, newC_s, newS_s, endC_s, quiet_s, andV_s, bindR_v, int_eql, int_neq, int_lss, int_leq, int_gtr, int_geq, str_eql, str_neq, boolEq_s, not_t, not_f, Bool.true_and, Bool.false_and, Bool.and_true, Bool.and_false, Bool.true_or, Bool.false_or, beq_self_eq_true, Nat.zero_add, add_z]
    by_cases h5 : op = ⟨#[126]⟩
    · rw [decide_eq_true h5]; exact h1 _ true rfl rfl (by rw [decide_eq_true (.inr h5)])
    · rw [decide_eq_false h5]; exact h1 _ false rfl rfl (by rw [decide_eq_false (by rintro (h | h) <;> contradiction)])


set_option maxRecDepth 10000 in
mutual
theorem run12 : ∀ (T : Tree) (m : Mem) (v : Value), m.Ok → FormAt m T v → height T ≤ 1000 → run Pg E 12 [v] m = some (.ret (.int .i64 (depthS T)), m)
  | .node op a b ks, m, v, hm, hf, hh => by
    obtain ⟨s, cs, rfl, hs, hk⟩ := form_cells hf
    refine G_run rfl Tryd.func12 rfl (by kernel_rfl) (x12 _ _ _ ?_)
    simp only [bind_s, condL_t, condL_f, then3_s, cond_t, cond_f, saidL_bt, saidL_bf, saidL_u, cells_agg, size_agg, ld_g, ldn_g, ldB_s, ldG_str, ldG_int, ldG_bool, ldG_ptr, ldG_sl, get_z, get_s, pickL_t, pickL_f, notL_b, isPtr_p, fld_p, extL_t, lenSl_s, lenStr_s, isStr_s, cvI_s, newC_s, newS_s, endC_s, quiet_s, andV_s, bindR_v, int_eql, int_neq, int_lss, int_leq, int_gtr, int_geq, str_eql, str_neq, boolEq_s, not_t, not_f, Bool.true_and, Bool.false_and, Bool.and_true, Bool.and_false, Bool.true_or, Bool.false_or, beq_self_eq_true, Nat.zero_add, add_z, get_push_n hm.mark, hs.gs, hs.len]
    unfold height at hh
    exact loop12 ks m op a b s ks cs 0 0 _ _ hm hs hk rfl (hm.mark.push _) ((Mem.Sub.mark m).trans (Mem.Sub.push hm.mark _)) rfl (by rw [next_push, next_mark]; omega) (by omega) (by omega) rfl rfl rfl rfl rfl (by rw [← next_mark m, get_push_n hm.mark])
theorem loop12 : ∀ (r : List Tree) (m : Mem) (op : ByteArray) (a b : Int) (s : Value) (ks : List Tree) (cs : List Value) (i : Nat) (d : Int) (ρ : Rho) (mm : Mem), m.Ok → SlAt m s 4 ks.length cs → FormsAt m ks cs → ks.drop i = r → mm.Ok → m.Sub mm → mm.clean m.next = true → m.next < mm.next →
      heightL r ≤ 1000 → 0 ≤ d ∧ d ≤ 1000 → ρ 9 = .int .i64 i → ρ 8 = .int .i64 ks.length → ρ 7 = s → ρ 3 = .int .i64 d → ρ 1 = ptr m.next 0 → mm.get m.next = some (.cells [.string op, .int .i64 a, .int .i64 b, s] 24 false) →
      G Pg E 12 [1, 1, 0, 1, 0] m ρ mm = some (.ret (.int .i64 (if op = ⟨#[69]⟩ then depthL r d + 1 else depthL r d)), m)
  | [], m, op, a, b, s, ks, cs, i, d, ρ, mm, hm, hs, hk, hr, hmm, hsub, hcl, hnx, hh, hd, e1, e2, e3, e4, e5, hg => by
    have hi : ks.length ≤ i := by simpa using hr
    refine x12_1_1_0_1_0 (x12_1_1_0_1_0_0 _ _ _ ?_)
    rw [e1, e2]
    simp only [bind_s, condL_t, condL_f, then3_s, cond_t, cond_f, saidL_bt, saidL_bf, saidL_u, cells_agg, size_agg, ld_g, ldn_g, ldB_s, ldG_str, ldG_int, ldG_bool, ldG_ptr, ldG_sl, get_z, get_s, pickL_t, pickL_f, notL_b, isPtr_p, fld_p, extL_t, lenSl_s, lenStr_s, isStr_s, cvI_s, newC_s, newS_s, endC_s, quiet_s, andV_s, bindR_v, int_eql, int_neq, int_lss, int_leq, int_gtr, int_geq, str_eql, str_neq, boolEq_s, not_t, not_f, Bool.true_and, Bool.false_and, Bool.and_true, Bool.and_false, Bool.true_or, Bool.false_or, beq_self_eq_true, Nat.zero_add, add_z]
    rw [decide_eq_false (by omega)]
    simp only [bind_s, condL_t, condL_f, then3_s, cond_t, cond_f, saidL_bt, saidL_bf, saidL_u, cells_agg, size_agg, ld_g, ldn_g, ldB_s, ldG_str, ldG_int, ldG_bool, ldG_ptr, ldG_sl, get_z, get_s, pickL_t, pickL_f, notL_b, isPtr_p, fld_p, extL_t, lenSl_s, lenStr_s, isStr_s, cvI_s, newC_s, newS_s, endC_s, quiet_s, andV_s, bindR_v, int_eql, int_neq, int_lss, int_leq, int_gtr, int_geq, str_eql, str_neq, boolEq_s, not_t, not_f, Bool.true_and, Bool.false_and, Bool.and_true, Bool.and_false, Bool.true_or, Bool.false_or, beq_self_eq_true, Nat.zero_add, add_z]
    refine x12_1_1_1 _ _ _ ?_

    simp only [put_look, Nat.reduceEqDiff, reduceIte, e4, e5]
    simp only [bind_s, condL_t, condL_f, then3_s, cond_t, cond_f, saidL_bt, saidL_bf, saidL_u, cells_agg, size_agg, ld_g, ldn_g, ldB_s, ldG_str, ldG_int, ldG_bool, ldG_ptr, ldG_sl, get_z, get_s, pickL_t, pickL_f, notL_b, isPtr_p, fld_p, extL_t, lenSl_s, lenStr_s, isStr_s, cvI_s, newC_s, newS_s, endC_s, quiet_s, andV_s, bindR_v, int_eql, int_neq, int_lss, int_leq, int_gtr, int_geq, str_eql, str_neq, boolEq_s, not_t, not_f, Bool.true_and, Bool.false_and, Bool.and_true, Bool.and_false, Bool.true_or, Bool.false_or, beq_self_eq_true, Nat.zero_add, add_z, hg, int_add, wrap_i64 (x := d + 1) (by omega) (by omega)]
    unfold depthL
    by_cases h : op = ⟨#[69]⟩
    · rw [decide_eq_true h, if_pos h]
      simp only [bind_s, condL_t, condL_f, then3_s, cond_t, cond_f, saidL_bt, saidL_bf, saidL_u, cells_agg, size_agg, ld_g, ldn_g, ldB_s, ldG_str, ldG_int, ldG_bool, ldG_ptr, ldG_sl, get_z, get_s, pickL_t, pickL_f, notL_b, isPtr_p, fld_p, extL_t, lenSl_s, lenStr_s, isStr_s, cvI_s, newC_s, newS_s, endC_s, quiet_s, andV_s, bindR_v, int_eql, int_neq, int_lss, int_leq, int_gtr, int_geq, str_eql, str_neq, boolEq_s, not_t, not_f, Bool.true_and, Bool.false_and, Bool.and_true, Bool.and_false, Bool.true_or, Bool.false_or, beq_self_eq_true, Nat.zero_add, add_z]
      exact retL_plain rfl hcl
    · rw [decide_eq_false h, if_neg h]
      simp only [bind_s, condL_t, condL_f, then3_s, cond_t, cond_f, saidL_bt, saidL_bf, saidL_u, cells_agg, size_agg, ld_g, ldn_g, ldB_s, ldG_str, ldG_int, ldG_bool, ldG_ptr, ldG_sl, get_z, get_s, pickL_t, pickL_f, notL_b, isPtr_p, fld_p, extL_t, lenSl_s, lenStr_s, isStr_s, cvI_s, newC_s, newS_s, endC_s, quiet_s, andV_s, bindR_v, int_eql, int_neq, int_lss, int_leq, int_gtr, int_geq, str_eql, str_neq, boolEq_s, not_t, not_f, Bool.true_and, Bool.false_and, Bool.and_true, Bool.and_false, Bool.true_or, Bool.false_or, beq_self_eq_true, Nat.zero_add, add_z]
      exact retL_plain rfl hcl
  | k :: r, m, op, a, b, s, ks, cs, i, d, ρ, mm, hm, hs, hk, hr, hmm, hsub, hcl, hnx, hh, hd, e1, e2, e3, e4, e5, hg => by
    obtain ⟨bb, o, y0, y1, y2, y3, m2, hi, hr2, hn, h1, h5, h6, h7, h8, hform, hsub2, hok2, hcl2, hnx2, hb2, hlt2, hold⟩ := kid_at 24 hm hs hk hr hmm hsub hcl (by omega)
    refine x12_1_1_0_1_0 (x12_1_1_0_1_0_0 _ _ _ ?_)
    rw [e1, e2, e3, e4]
    simp only [bind_s, condL_t, condL_f, then3_s, cond_t, cond_f, saidL_bt, saidL_bf, saidL_u, cells_agg, size_agg, ld_g, ldn_g, ldB_s, ldG_str, ldG_int, ldG_bool, ldG_ptr, ldG_sl, get_z, get_s, pickL_t, pickL_f, notL_b, isPtr_p, fld_p, extL_t, lenSl_s, lenStr_s, isStr_s, cvI_s, newC_s, newS_s, endC_s, quiet_s, andV_s, bindR_v, int_eql, int_neq, int_lss, int_leq, int_gtr, int_geq, str_eql, str_neq, boolEq_s, not_t, not_f, Bool.true_and, Bool.false_and, Bool.and_true, Bool.and_false, Bool.true_or, Bool.false_or, beq_self_eq_true, Nat.zero_add, add_z]
    rw [decide_eq_true (by omega)]
    unfold heightL at hh
    have hdk := depthS_le k
    simp only [bind_s, condL_t, condL_f, then3_s, cond_t, cond_f, saidL_bt, saidL_bf, saidL_u, cells_agg, size_agg, ld_g, ldn_g, ldB_s, ldG_str, ldG_int, ldG_bool, ldG_ptr, ldG_sl, get_z, get_s, pickL_t, pickL_f, notL_b, isPtr_p, fld_p, extL_t, lenSl_s, lenStr_s, isStr_s, cvI_s, newC_s, newS_s, endC_s, quiet_s, andV_s, bindR_v, int_eql, int_neq, int_lss, int_leq, int_gtr, int_geq, str_eql, str_neq, boolEq_s, not_t, not_f, Bool.true_and, Bool.false_and, Bool.and_true, Bool.and_false, Bool.true_or, Bool.false_or, beq_self_eq_true, Nat.zero_add, add_z, h1, h5, h6, h7, h8, run12 k m2 _ hok2 (hform.sub hsub2) (by omega), minMax, if_true, int_add, wrap_nat hn]
    unfold depthL
    refine loop12 r m op a b s ks cs (i + 1) _ _ m2 hm hs hk hr2 hok2 hsub2 hcl2 (by omega) (by omega) ?_ rfl e2 e3 rfl e5 (by rw [hold _ hnx]; exact hg)
    split <;> omega
end


set_option maxRecDepth 10000 in
mutual
theorem run27 : ∀ (T : Tree) (m : Mem) (v : Value), m.Ok → FormAt m T v → run Pg E 27 [v] m = some (.ret (.int .i64 (if nodes T ≤ 2000 then nodes T else 2001)), m)
  | .node op a b ks, m, v, hm, hf => by
    obtain ⟨s, cs, rfl, hs, hk⟩ := form_cells hf
    refine G_run rfl Tryd.func27 rfl (by kernel_rfl) (x27 _ _ _ ?_)
    simp only [bind_s, condL_t, condL_f, then3_s, cond_t, cond_f, saidL_bt, saidL_bf, saidL_u, cells_agg, size_agg, ld_g, ldn_g, ldB_s, ldG_str, ldG_int, ldG_bool, ldG_ptr, ldG_sl, get_z, get_s, pickL_t, pickL_f, notL_b, isPtr_p, fld_p, extL_t, lenSl_s, lenStr_s, isStr_s, cvI_s, newC_s, newS_s, endC_s, quiet_s, andV_s, bindR_v, int_eql, int_neq, int_lss, int_leq, int_gtr, int_geq, str_eql, str_neq, boolEq_s, not_t, not_f, Bool.true_and, Bool.false_and, Bool.and_true, Bool.and_false, Bool.true_or, Bool.false_or, beq_self_eq_true, Nat.zero_add, add_z, get_push_n hm.mark, hs.gs, hs.len]
    unfold nodes
    rw [show nodesL ks + 1 = 1 + nodesL ks by omega]
    exact loop27 ks m s ks cs 0 1 _ _ hm hs hk rfl (hm.mark.push _) ((Mem.Sub.mark m).trans (Mem.Sub.push hm.mark _)) rfl (by rw [next_push, next_mark]; omega) (by omega) rfl rfl rfl rfl
theorem loop27 : ∀ (r : List Tree) (m : Mem) (s : Value) (ks : List Tree) (cs : List Value) (i : Nat) (n : Int) (ρ : Rho) (mm : Mem), m.Ok → SlAt m s 4 ks.length cs → FormsAt m ks cs → ks.drop i = r → mm.Ok → m.Sub mm → mm.clean m.next = true → m.next < mm.next →
      1 ≤ n ∧ n ≤ 2000 → ρ 9 = .int .i64 i → ρ 8 = .int .i64 ks.length → ρ 7 = s → ρ 3 = .int .i64 n →
      G Pg E 27 [1, 1, 0, 1, 0] m ρ mm = some (.ret (.int .i64 (if n + nodesL r ≤ 2000 then n + nodesL r else 2001)), m)
  | [], m, s, ks, cs, i, n, ρ, mm, hm, hs, hk, hr, hmm, hsub, hcl, hnx, hn, e1, e2, e3, e4 => by
    have hi : ks.length ≤ i := by simpa using hr
    refine x27_1_1_0_1_0 (x27_1_1_0_1_0_0 _ _ _ ?_)
    rw [e1, e2, e4]
    simp only [bind_s, condL_t, condL_f, then3_s, cond_t, cond_f, saidL_bt, saidL_bf, saidL_u, cells_agg, size_agg, ld_g, ldn_g, ldB_s, ldG_str, ldG_int, ldG_bool, ldG_ptr, ldG_sl, get_z, get_s, pickL_t, pickL_f, notL_b, isPtr_p, fld_p, extL_t, lenSl_s, lenStr_s, isStr_s, cvI_s, newC_s, newS_s, endC_s, quiet_s, andV_s, bindR_v, int_eql, int_neq, int_lss, int_leq, int_gtr, int_geq, str_eql, str_neq, boolEq_s, not_t, not_f, Bool.true_and, Bool.false_and, Bool.and_true, Bool.and_false, Bool.true_or, Bool.false_or, beq_self_eq_true, Nat.zero_add, add_z]
    rw [decide_eq_false (by omega)]
    simp only [bind_s, condL_t, condL_f, then3_s, cond_t, cond_f, saidL_bt, saidL_bf, saidL_u, cells_agg, size_agg, ld_g, ldn_g, ldB_s, ldG_str, ldG_int, ldG_bool, ldG_ptr, ldG_sl, get_z, get_s, pickL_t, pickL_f, notL_b, isPtr_p, fld_p, extL_t, lenSl_s, lenStr_s, isStr_s, cvI_s, newC_s, newS_s, endC_s, quiet_s, andV_s, bindR_v, int_eql, int_neq, int_lss, int_leq, int_gtr, int_geq, str_eql, str_neq, boolEq_s, not_t, not_f, Bool.true_and, Bool.false_and, Bool.and_true, Bool.and_false, Bool.true_or, Bool.false_or, beq_self_eq_true, Nat.zero_add, add_z]
    unfold nodesL
    rw [if_pos (by omega), Int.add_zero]
    exact retL_plain rfl hcl
  | k :: r, m, s, ks, cs, i, n, ρ, mm, hm, hs, hk, hr, hmm, hsub, hcl, hnx, hn, e1, e2, e3, e4 => by
    obtain ⟨bb, o, y0, y1, y2, y3, m2, hi, hr2, hlt, h1, h5, h6, h7, h8, hform, hsub2, hok2, hcl2, hnx2, hb2, hlt2, hold⟩ := kid_at 24 hm hs hk hr hmm hsub hcl (by omega)
    refine x27_1_1_0_1_0 (x27_1_1_0_1_0_0 _ _ _ ?_)
    rw [e1, e2, e3, e4]
    simp only [bind_s, condL_t, condL_f, then3_s, cond_t, cond_f, saidL_bt, saidL_bf, saidL_u, cells_agg, size_agg, ld_g, ldn_g, ldB_s, ldG_str, ldG_int, ldG_bool, ldG_ptr, ldG_sl, get_z, get_s, pickL_t, pickL_f, notL_b, isPtr_p, fld_p, extL_t, lenSl_s, lenStr_s, isStr_s, cvI_s, newC_s, newS_s, endC_s, quiet_s, andV_s, bindR_v, int_eql, int_neq, int_lss, int_leq, int_gtr, int_geq, str_eql, str_neq, boolEq_s, not_t, not_f, Bool.true_and, Bool.false_and, Bool.and_true, Bool.and_false, Bool.true_or, Bool.false_or, beq_self_eq_true, Nat.zero_add, add_z]
    rw [decide_eq_true (by omega)]
    have hp := nodes_pos k
    have hp2 := nodesL_pos r
    have hw : IntKind.i64.wrap (n + (if nodes k ≤ 2000 then nodes k else 2001)) = n + (if nodes k ≤ 2000 then nodes k else 2001) := wrap_i64 (by split <;> omega) (by split <;> omega)
    simp only [bind_s, condL_t, condL_f, then3_s, cond_t, cond_f, saidL_bt, saidL_bf, saidL_u, cells_agg, size_agg, ld_g, ldn_g, ldB_s, ldG_str, ldG_int, ldG_bool, ldG_ptr, ldG_sl, get_z, get_s, pickL_t, pickL_f, notL_b, isPtr_p, fld_p, extL_t, lenSl_s, lenStr_s, isStr_s, cvI_s, newC_s, newS_s, endC_s, quiet_s, andV_s, bindR_v, int_eql, int_neq, int_lss, int_leq, int_gtr, int_geq, str_eql, str_neq, boolEq_s, not_t, not_f, Bool.true_and, Bool.false_and, Bool.and_true, Bool.and_false, Bool.true_or, Bool.false_or, beq_self_eq_true, Nat.zero_add, add_z, h1, h5, h6, h7, h8, run27 k m2 _ hok2 (hform.sub hsub2), int_add, wrap_nat hlt, hw]
    unfold nodesL
    by_cases hc : 2000 < n + (if nodes k ≤ 2000 then nodes k else 2001)
    · rw [decide_eq_true hc]
      simp only [bind_s, condL_t, condL_f, then3_s, cond_t, cond_f, saidL_bt, saidL_bf, saidL_u, cells_agg, size_agg, ld_g, ldn_g, ldB_s, ldG_str, ldG_int, ldG_bool, ldG_ptr, ldG_sl, get_z, get_s, pickL_t, pickL_f, notL_b, isPtr_p, fld_p, extL_t, lenSl_s, lenStr_s, isStr_s, cvI_s, newC_s, newS_s, endC_s, quiet_s, andV_s, bindR_v, int_eql, int_neq, int_lss, int_leq, int_gtr, int_geq, str_eql, str_neq, boolEq_s, not_t, not_f, Bool.true_and, Bool.false_and, Bool.and_true, Bool.and_false, Bool.true_or, Bool.false_or, beq_self_eq_true, Nat.zero_add, add_z]
      rw [if_neg (by split at hc <;> omega)]
      exact retL_plain rfl hcl2
    · rw [decide_eq_false hc]
      simp only [bind_s, condL_t, condL_f, then3_s, cond_t, cond_f, saidL_bt, saidL_bf, saidL_u, cells_agg, size_agg, ld_g, ldn_g, ldB_s, ldG_str, ldG_int, ldG_bool, ldG_ptr, ldG_sl, get_z, get_s, pickL_t, pickL_f, notL_b, isPtr_p, fld_p, extL_t, lenSl_s, lenStr_s, isStr_s, cvI_s, newC_s, newS_s, endC_s, quiet_s, andV_s, bindR_v, int_eql, int_neq, int_lss, int_leq, int_gtr, int_geq, str_eql, str_neq, boolEq_s, not_t, not_f, Bool.true_and, Bool.false_and, Bool.and_true, Bool.and_false, Bool.true_or, Bool.false_or, beq_self_eq_true, Nat.zero_add, add_z]
      have hk2 : nodes k ≤ 2000 := by split at hc <;> omega
      rw [if_pos hk2] at hc
      rw [show n + (nodes k + nodesL r) = n + nodes k + nodesL r by omega]
      refine loop27 r m s ks cs (i + 1) _ _ m2 hm hs hk hr2 hok2 hsub2 hcl2 (by omega) (by omega) rfl e2 e3 (by show Value.int .i64 (n + (if nodes k ≤ 2000 then nodes k else 2001)) = _; rw [if_pos hk2])
end

mutual
def deepR : Tree → Int → Int
  | .node _ _ _ ks, left => deepRL ks left 1
def deepRL : List Tree → Int → Int → Int
  | [], _, n => n
  | k :: ks, left, n => if left < 1 then 41 else deepRL ks left (if n < 1 + deepR k (left - 1) then 1 + deepR k (left - 1) else n)
end

mutual
theorem deepR_le : ∀ (T : Tree) (left : Int), 1 ≤ deepR T left ∧ deepR T left ≤ height T + 41
  | .node _ _ _ ks, left => by
    unfold deepR height
    have := deepRL_le ks left 1 (by omega)
    have := heightL_pos ks
    omega
theorem deepRL_le : ∀ (ks : List Tree) (left n : Int), 1 ≤ n → 1 ≤ deepRL ks left n ∧ deepRL ks left n ≤ max n (heightL ks + 42)
  | [], left, n, h => by unfold deepRL; omega
  | k :: ks, left, n, h => by
    unfold deepRL heightL
    have h1 := deepR_le k (left - 1)
    have h2 := height_pos k
    have h3 := heightL_pos ks
    by_cases hc : left < 1
    · rw [if_pos hc]; omega
    · rw [if_neg hc]
      split
      · have := deepRL_le ks left (1 + deepR k (left - 1)) (by omega); omega
      · have := deepRL_le ks left n h; omega
end

set_option maxRecDepth 10000 in
mutual
theorem run28 : ∀ (T : Tree) (m : Mem) (v : Value) (left : Int), m.Ok → FormAt m T v → height T ≤ 1000000 → -1000000 ≤ left ∧ left ≤ 1000 → run Pg E 28 [v, .int .i64 left] m = some (.ret (.int .i64 (deepR T left)), m)
  | .node op a b ks, m, v, left, hm, hf, hh, hl => by
    obtain ⟨s, cs, rfl, hs, hk⟩ := form_cells hf
    refine G_run rfl Tryd.func28 rfl (by kernel_rfl) (x28 _ _ _ _ ?_)
    simp only [bind_s, condL_t, condL_f, then3_s, cond_t, cond_f, saidL_bt, saidL_bf, saidL_u, cells_agg, size_agg, ld_g, ldn_g, ldB_s, ldG_str, ldG_int, ldG_bool, ldG_ptr, ldG_sl, get_z, get_s, pickL_t, pickL_f, notL_b, isPtr_p, fld_p, extL_t, lenSl_s, lenStr_s, isStr_s, cvI_s, newC_s, newS_s, endC_s, quiet_s, andV_s, bindR_v, int_eql, int_neq, int_lss, int_leq, int_gtr, int_geq, str_eql, str_neq, boolEq_s, not_t, not_f, Bool.true_and, Bool.false_and, Bool.and_true, Bool.and_false, Bool.true_or, Bool.false_or, beq_self_eq_true, Nat.zero_add, add_z, get_push_n hm.mark, hs.gs, hs.len]
    unfold deepR
    unfold height at hh
    exact loop28 ks m s ks cs 0 1 left _ _ hm hs hk rfl (hm.mark.push _) ((Mem.Sub.mark m).trans (Mem.Sub.push hm.mark _)) rfl (by rw [next_push, next_mark]; omega) (by omega) (by omega) hl rfl rfl rfl rfl rfl
theorem loop28 : ∀ (r : List Tree) (m : Mem) (s : Value) (ks : List Tree) (cs : List Value) (i : Nat) (n left : Int) (ρ : Rho) (mm : Mem), m.Ok → SlAt m s 4 ks.length cs → FormsAt m ks cs → ks.drop i = r → mm.Ok → m.Sub mm → mm.clean m.next = true → m.next < mm.next →
      heightL r ≤ 1000000 → 1 ≤ n ∧ n ≤ 2000000 → -1000000 ≤ left ∧ left ≤ 1000 → ρ 11 = .int .i64 i → ρ 10 = .int .i64 ks.length → ρ 9 = s → ρ 5 = .int .i64 n → ρ 1 = .int .i64 left →
      G Pg E 28 [1, 1, 0, 1, 0] m ρ mm = some (.ret (.int .i64 (deepRL r left n)), m)
  | [], m, s, ks, cs, i, n, left, ρ, mm, hm, hs, hk, hr, hmm, hsub, hcl, hnx, hh, hn, hl, e1, e2, e3, e4, e5 => by
    have hi : ks.length ≤ i := by simpa using hr
    refine x28_1_1_0_1_0 (x28_1_1_0_1_0_0 _ _ _ ?_)
    rw [e1, e2, e4]
    simp only [bind_s, condL_t, condL_f, then3_s, cond_t, cond_f, saidL_bt, saidL_bf, saidL_u, cells_agg, size_agg, ld_g, ldn_g, ldB_s, ldG_str, ldG_int, ldG_bool, ldG_ptr, ldG_sl, get_z, get_s, pickL_t, pickL_f, notL_b, isPtr_p, fld_p, extL_t, lenSl_s, lenStr_s, isStr_s, cvI_s, newC_s, newS_s, endC_s, quiet_s, andV_s, bindR_v, int_eql, int_neq, int_lss, int_leq, int_gtr, int_geq, str_eql, str_neq, boolEq_s, not_t, not_f, Bool.true_and, Bool.false_and, Bool.and_true, Bool.and_false, Bool.true_or, Bool.false_or, beq_self_eq_true, Nat.zero_add, add_z]
    rw [decide_eq_false (by omega)]
    simp only [bind_s, condL_t, condL_f, then3_s, cond_t, cond_f, saidL_bt, saidL_bf, saidL_u, cells_agg, size_agg, ld_g, ldn_g, ldB_s, ldG_str, ldG_int, ldG_bool, ldG_ptr, ldG_sl, get_z, get_s, pickL_t, pickL_f, notL_b, isPtr_p, fld_p, extL_t, lenSl_s, lenStr_s, isStr_s, cvI_s, newC_s, newS_s, endC_s, quiet_s, andV_s, bindR_v, int_eql, int_neq, int_lss, int_leq, int_gtr, int_geq, str_eql, str_neq, boolEq_s, not_t, not_f, Bool.true_and, Bool.false_and, Bool.and_true, Bool.and_false, Bool.true_or, Bool.false_or, beq_self_eq_true, Nat.zero_add, add_z]
    unfold deepRL
    exact retL_plain rfl hcl
  | k :: r, m, s, ks, cs, i, n, left, ρ, mm, hm, hs, hk, hr, hmm, hsub, hcl, hnx, hh, hn, hl, e1, e2, e3, e4, e5 => by
    obtain ⟨bb, o, y0, y1, y2, y3, m2, hi, hr2, hlt, h1, h5, h6, h7, h8, hform, hsub2, hok2, hcl2, hnx2, hb2, hlt2, hold⟩ := kid_at 24 hm hs hk hr hmm hsub hcl (by omega)
    refine x28_1_1_0_1_0 (x28_1_1_0_1_0_0 _ _ _ ?_)
    rw [e1, e2, e3, e4, e5]
    simp only [bind_s, condL_t, condL_f, then3_s, cond_t, cond_f, saidL_bt, saidL_bf, saidL_u, cells_agg, size_agg, ld_g, ldn_g, ldB_s, ldG_str, ldG_int, ldG_bool, ldG_ptr, ldG_sl, get_z, get_s, pickL_t, pickL_f, notL_b, isPtr_p, fld_p, extL_t, lenSl_s, lenStr_s, isStr_s, cvI_s, newC_s, newS_s, endC_s, quiet_s, andV_s, bindR_v, int_eql, int_neq, int_lss, int_leq, int_gtr, int_geq, str_eql, str_neq, boolEq_s, not_t, not_f, Bool.true_and, Bool.false_and, Bool.and_true, Bool.and_false, Bool.true_or, Bool.false_or, beq_self_eq_true, Nat.zero_add, add_z]
    rw [decide_eq_true (by omega)]
    unfold heightL at hh
    unfold deepRL
    have hd := deepR_le k (left - 1)
    have hw : IntKind.i64.wrap (left - 1) = left - 1 := wrap_i64 (by omega) (by omega)
    have hw2 : IntKind.i64.wrap (1 + deepR k (left - 1)) = 1 + deepR k (left - 1) := wrap_i64 (by omega) (by omega)
    simp only [bind_s, condL_t, condL_f, then3_s, cond_t, cond_f, saidL_bt, saidL_bf, saidL_u, cells_agg, size_agg, ld_g, ldn_g, ldB_s, ldG_str, ldG_int, ldG_bool, ldG_ptr, ldG_sl, get_z, get_s, pickL_t, pickL_f, notL_b, isPtr_p, fld_p, extL_t, lenSl_s, lenStr_s, isStr_s, cvI_s, newC_s, newS_s, endC_s, quiet_s, andV_s, bindR_v, int_eql, int_neq, int_lss, int_leq, int_gtr, int_geq, str_eql, str_neq, boolEq_s, not_t, not_f, Bool.true_and, Bool.false_and, Bool.and_true, Bool.and_false, Bool.true_or, Bool.false_or, beq_self_eq_true, Nat.zero_add, add_z, h1, h5, h6]
    by_cases hc : left < 1
    · rw [decide_eq_true hc, if_pos hc]
      simp only [bind_s, condL_t, condL_f, then3_s, cond_t, cond_f, saidL_bt, saidL_bf, saidL_u, cells_agg, size_agg, ld_g, ldn_g, ldB_s, ldG_str, ldG_int, ldG_bool, ldG_ptr, ldG_sl, get_z, get_s, pickL_t, pickL_f, notL_b, isPtr_p, fld_p, extL_t, lenSl_s, lenStr_s, isStr_s, cvI_s, newC_s, newS_s, endC_s, quiet_s, andV_s, bindR_v, int_eql, int_neq, int_lss, int_leq, int_gtr, int_geq, str_eql, str_neq, boolEq_s, not_t, not_f, Bool.true_and, Bool.false_and, Bool.and_true, Bool.and_false, Bool.true_or, Bool.false_or, beq_self_eq_true, Nat.zero_add, add_z]
      exact retL_plain rfl hcl2
    · rw [decide_eq_false hc, if_neg hc]
      simp only [bind_s, condL_t, condL_f, then3_s, cond_t, cond_f, saidL_bt, saidL_bf, saidL_u, cells_agg, size_agg, ld_g, ldn_g, ldB_s, ldG_str, ldG_int, ldG_bool, ldG_ptr, ldG_sl, get_z, get_s, pickL_t, pickL_f, notL_b, isPtr_p, fld_p, extL_t, lenSl_s, lenStr_s, isStr_s, cvI_s, newC_s, newS_s, endC_s, quiet_s, andV_s, bindR_v, int_eql, int_neq, int_lss, int_leq, int_gtr, int_geq, str_eql, str_neq, boolEq_s, not_t, not_f, Bool.true_and, Bool.false_and, Bool.and_true, Bool.and_false, Bool.true_or, Bool.false_or, beq_self_eq_true, Nat.zero_add, add_z, h7, h8, int_sub, hw, run28 k m2 _ (left - 1) hok2 (hform.sub hsub2) (by omega) (by omega), int_add, wrap_nat hlt, hw2, minMax, if_true]
      refine loop28 r m s ks cs (i + 1) _ left _ m2 hm hs hk hr2 hok2 hsub2 hcl2 (by omega) (by omega) ?_ hl rfl e2 e3 rfl e5
      split <;> omega
end

end Go.Proofs.YtfdfickokkokmaaDoor
