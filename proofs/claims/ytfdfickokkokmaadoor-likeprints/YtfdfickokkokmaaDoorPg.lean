/- Contracts: shaped, Formula, Text of the reference. -/
import Derived.Test.YtfdfickokkokmaaDoorPf
set_option linter.unusedSimpArgs false
set_option linter.unusedVariables false
namespace Go.Proofs.YtfdfickokkokmaaDoor
open Go Go.D

attribute [local congr] bind_c cond_c condL_c then3_c andV_c bindR_c endC_c endD_c quiet_c newC_c newS_c callC_c callQ_c

theorem kidsN_pos {op : ByteArray} (h : 0 ≤ kidsN op) : (op = ⟨#[61]⟩ ∨ op = ⟨#[126]⟩) ∨ op = ⟨#[33]⟩ ∨ op = ⟨#[69]⟩ ∨ op = ⟨#[38]⟩ := by
  unfold kidsN at h
  split at h
  · rename_i h1; exact .inl h1
  · split at h
    · rename_i h1 h2; rcases h2 with h2 | h2
      · exact .inr (.inl h2)
      · exact .inr (.inr (.inl h2))
    · split at h
      · rename_i h3; exact .inr (.inr (.inr h3))
      · omega

/-- What the reference asks of a node, is what the program asks. -/
theorem shape_cond (op : ByteArray) (a b : Int) (n : Nat) :
    ((n : Int) ≠ kidsN op ∨ a < 0 ∨ 3 < a ∨ b < 0 ∨ 3 < b ∨ (0 < kidsN op ∧ b ≠ 0) ∨ ((op = ⟨#[33]⟩ ∨ op = ⟨#[38]⟩) ∧ a ≠ 0)) ↔
    ¬ (kidsN op = n ∧ hasV a (decide (kidsN op = 0) || decide (op = ⟨#[69]⟩)) = true ∧ hasV b (decide (kidsN op = 0)) = true) := by
  by_cases hn : (n : Int) = kidsN op
  · have hk : 0 ≤ kidsN op := by omega
    unfold hasV
    rcases kidsN_pos hk with h | rfl | rfl | rfl
    · have h0 : kidsN op = 0 := by unfold kidsN; rw [if_pos h]
      have h1 : ¬ (op = ⟨#[33]⟩ ∨ op = ⟨#[38]⟩) := by rcases h with rfl | rfl <;> decide
      simp [h0, h1, hn]; omega
    · have h0 : kidsN ⟨#[33]⟩ = 1 := by decide
      simp [h0, hn]; omega
    · have h0 : kidsN ⟨#[69]⟩ = 1 := by decide
      simp [h0, hn]; omega
    · have h0 : kidsN ⟨#[38]⟩ = 2 := by decide
      simp [h0, hn]; omega
  · constructor
    · intro _ h; exact hn h.1.symm
    · intro _; exact .inl hn

set_option maxRecDepth 10000 in
mutual
theorem run29 : ∀ (T : Tree) (m : Mem) (v : Value), m.Ok → FormAt m T v → run Pg E 29 [v] m = some (.ret (.bool (shapedS T)), m)
  | .node op a b ks, m, v, hm, hf => by
    obtain ⟨s, cs, rfl, hs, hk⟩ := form_cells hf
    refine G_run rfl Tryd.func29 rfl (by kernel_rfl) (x29 _ _ _ ?_)
    have hc := shape_cond op a b ks.length
    have hB := get_push_n hm.mark (.cells [.string op, .int .i64 a, .int .i64 b, s] 24 false)
    have bad : (kidsN op = ks.length ∧ hasV a (decide (kidsN op = 0) || decide (op = ⟨#[69]⟩)) = true ∧ hasV b (decide (kidsN op = 0)) = true) = False → 
        retL m (.bool false) (m.mark.push (.cells [.string op, .int .i64 a, .int .i64 b, s] 24 false)) = some (.ret (.bool (shapedS (.node op a b ks))), m) := by
      intro h
      have : shapedS (.node op a b ks) = false := by
        rw [Bool.eq_false_iff]
        intro h2
        unfold shapedS at h2
        simp only [Bool.and_eq_true, decide_eq_true_eq] at h2
        rw [← h]; exact ⟨h2.1, h2.2.1, h2.2.2.1⟩
      rw [this]
      exact retL_plain rfl rfl
    have good : (kidsN op = ks.length ∧ hasV a (decide (kidsN op = 0) || decide (op = ⟨#[69]⟩)) = true ∧ hasV b (decide (kidsN op = 0)) = true) →
        ∀ (ρ : Rho), ρ 61 = .int .i64 0 → ρ 60 = .int .i64 ks.length → ρ 59 = s → G Pg E 29 [1, 1, 1, 0, 1, 0] m ρ (m.mark.push (.cells [.string op, .int .i64 a, .int .i64 b, s] 24 false)) = some (.ret (.bool (shapedS (.node op a b ks))), m) := by
      intro h ρ e1 e2 e3
      have : shapedS (.node op a b ks) = shapedL ks := by
        unfold shapedS
        rw [h.2.1, h.2.2, decide_eq_true h.1]; rfl
      rw [this]
      exact loop29 ks m s ks cs 0 ρ _ hm hs hk rfl (hm.mark.push _) ((Mem.Sub.mark m).trans (Mem.Sub.push hm.mark _)) rfl (by rw [next_push, next_mark]; omega) e1 e2 e3
    have yes : ∀ {p : Prop}, ¬ p → p = False := fun h => eq_false h
    simp only [bind_s, condL_t, condL_f, then3_s, cond_t, cond_f, saidL_bt, saidL_bf, saidL_u, cells_agg, size_agg, ld_g, ldn_g, ldB_s, ldG_str, ldG_int, ldG_bool, ldG_ptr, ldG_sl, get_z, get_s, pickL_t, pickL_f, notL_b, isPtr_p, fld_p, extL_t, lenSl_s, lenStr_s, isStr_s, cvI_s, newC_s, newS_s, endC_s, quiet_s, andV_s, bindR_v, int_eql, int_neq, int_lss, int_leq, int_gtr, int_geq, str_eql, str_neq, boolEq_s, not_t, not_f, Bool.true_and, Bool.false_and, Bool.and_true, Bool.and_false, Bool.true_or, Bool.false_or, beq_self_eq_true, Nat.zero_add, add_z, hB, hs.gs, hs.len, run45]
    by_cases c1 : (ks.length : Int) ≠ kidsN op
    · rw [decide_eq_true c1]
      simp only [bind_s, condL_t, condL_f, then3_s, cond_t, cond_f, saidL_bt, saidL_bf, saidL_u, cells_agg, size_agg, ld_g, ldn_g, ldB_s, ldG_str, ldG_int, ldG_bool, ldG_ptr, ldG_sl, get_z, get_s, pickL_t, pickL_f, notL_b, isPtr_p, fld_p, extL_t, lenSl_s, lenStr_s, isStr_s, cvI_s, newC_s, newS_s, endC_s, quiet_s, andV_s, bindR_v, int_eql, int_neq, int_lss, int_leq, int_gtr, int_geq, str_eql, str_neq, boolEq_s, not_t, not_f, Bool.true_and, Bool.false_and, Bool.and_true, Bool.and_false, Bool.true_or, Bool.false_or, beq_self_eq_true, Nat.zero_add, add_z]
      exact bad (yes (hc.1 (.inl c1)))
    rw [decide_eq_false c1]
    simp only [bind_s, condL_t, condL_f, then3_s, cond_t, cond_f, saidL_bt, saidL_bf, saidL_u, cells_agg, size_agg, ld_g, ldn_g, ldB_s, ldG_str, ldG_int, ldG_bool, ldG_ptr, ldG_sl, get_z, get_s, pickL_t, pickL_f, notL_b, isPtr_p, fld_p, extL_t, lenSl_s, lenStr_s, isStr_s, cvI_s, newC_s, newS_s, endC_s, quiet_s, andV_s, bindR_v, int_eql, int_neq, int_lss, int_leq, int_gtr, int_geq, str_eql, str_neq, boolEq_s, not_t, not_f, Bool.true_and, Bool.false_and, Bool.and_true, Bool.and_false, Bool.true_or, Bool.false_or, beq_self_eq_true, Nat.zero_add, add_z, hB]
    by_cases c2 : a < 0
    · rw [decide_eq_true c2]
      simp only [bind_s, condL_t, condL_f, then3_s, cond_t, cond_f, saidL_bt, saidL_bf, saidL_u, cells_agg, size_agg, ld_g, ldn_g, ldB_s, ldG_str, ldG_int, ldG_bool, ldG_ptr, ldG_sl, get_z, get_s, pickL_t, pickL_f, notL_b, isPtr_p, fld_p, extL_t, lenSl_s, lenStr_s, isStr_s, cvI_s, newC_s, newS_s, endC_s, quiet_s, andV_s, bindR_v, int_eql, int_neq, int_lss, int_leq, int_gtr, int_geq, str_eql, str_neq, boolEq_s, not_t, not_f, Bool.true_and, Bool.false_and, Bool.and_true, Bool.and_false, Bool.true_or, Bool.false_or, beq_self_eq_true, Nat.zero_add, add_z]
      exact bad (yes (hc.1 (.inr (.inl c2))))
    rw [decide_eq_false c2]
    simp only [bind_s, condL_t, condL_f, then3_s, cond_t, cond_f, saidL_bt, saidL_bf, saidL_u, cells_agg, size_agg, ld_g, ldn_g, ldB_s, ldG_str, ldG_int, ldG_bool, ldG_ptr, ldG_sl, get_z, get_s, pickL_t, pickL_f, notL_b, isPtr_p, fld_p, extL_t, lenSl_s, lenStr_s, isStr_s, cvI_s, newC_s, newS_s, endC_s, quiet_s, andV_s, bindR_v, int_eql, int_neq, int_lss, int_leq, int_gtr, int_geq, str_eql, str_neq, boolEq_s, not_t, not_f, Bool.true_and, Bool.false_and, Bool.and_true, Bool.and_false, Bool.true_or, Bool.false_or, beq_self_eq_true, Nat.zero_add, add_z, hB]
    by_cases c3 : 3 < a
    · rw [decide_eq_true c3]
      simp only [bind_s, condL_t, condL_f, then3_s, cond_t, cond_f, saidL_bt, saidL_bf, saidL_u, cells_agg, size_agg, ld_g, ldn_g, ldB_s, ldG_str, ldG_int, ldG_bool, ldG_ptr, ldG_sl, get_z, get_s, pickL_t, pickL_f, notL_b, isPtr_p, fld_p, extL_t, lenSl_s, lenStr_s, isStr_s, cvI_s, newC_s, newS_s, endC_s, quiet_s, andV_s, bindR_v, int_eql, int_neq, int_lss, int_leq, int_gtr, int_geq, str_eql, str_neq, boolEq_s, not_t, not_f, Bool.true_and, Bool.false_and, Bool.and_true, Bool.and_false, Bool.true_or, Bool.false_or, beq_self_eq_true, Nat.zero_add, add_z]
      exact bad (yes (hc.1 (.inr (.inr (.inl c3)))))
    rw [decide_eq_false c3]
    simp only [bind_s, condL_t, condL_f, then3_s, cond_t, cond_f, saidL_bt, saidL_bf, saidL_u, cells_agg, size_agg, ld_g, ldn_g, ldB_s, ldG_str, ldG_int, ldG_bool, ldG_ptr, ldG_sl, get_z, get_s, pickL_t, pickL_f, notL_b, isPtr_p, fld_p, extL_t, lenSl_s, lenStr_s, isStr_s, cvI_s, newC_s, newS_s, endC_s, quiet_s, andV_s, bindR_v, int_eql, int_neq, int_lss, int_leq, int_gtr, int_geq, str_eql, str_neq, boolEq_s, not_t, not_f, Bool.true_and, Bool.false_and, Bool.and_true, Bool.and_false, Bool.true_or, Bool.false_or, beq_self_eq_true, Nat.zero_add, add_z, hB]
    by_cases c4 : b < 0
    · rw [decide_eq_true c4]
      simp only [bind_s, condL_t, condL_f, then3_s, cond_t, cond_f, saidL_bt, saidL_bf, saidL_u, cells_agg, size_agg, ld_g, ldn_g, ldB_s, ldG_str, ldG_int, ldG_bool, ldG_ptr, ldG_sl, get_z, get_s, pickL_t, pickL_f, notL_b, isPtr_p, fld_p, extL_t, lenSl_s, lenStr_s, isStr_s, cvI_s, newC_s, newS_s, endC_s, quiet_s, andV_s, bindR_v, int_eql, int_neq, int_lss, int_leq, int_gtr, int_geq, str_eql, str_neq, boolEq_s, not_t, not_f, Bool.true_and, Bool.false_and, Bool.and_true, Bool.and_false, Bool.true_or, Bool.false_or, beq_self_eq_true, Nat.zero_add, add_z]
      exact bad (yes (hc.1 (.inr (.inr (.inr (.inl c4))))))
    rw [decide_eq_false c4]
    simp only [bind_s, condL_t, condL_f, then3_s, cond_t, cond_f, saidL_bt, saidL_bf, saidL_u, cells_agg, size_agg, ld_g, ldn_g, ldB_s, ldG_str, ldG_int, ldG_bool, ldG_ptr, ldG_sl, get_z, get_s, pickL_t, pickL_f, notL_b, isPtr_p, fld_p, extL_t, lenSl_s, lenStr_s, isStr_s, cvI_s, newC_s, newS_s, endC_s, quiet_s, andV_s, bindR_v, int_eql, int_neq, int_lss, int_leq, int_gtr, int_geq, str_eql, str_neq, boolEq_s, not_t, not_f, Bool.true_and, Bool.false_and, Bool.and_true, Bool.and_false, Bool.true_or, Bool.false_or, beq_self_eq_true, Nat.zero_add, add_z, hB]
    by_cases c5 : 3 < b
    · rw [decide_eq_true c5]
      simp only [bind_s, condL_t, condL_f, then3_s, cond_t, cond_f, saidL_bt, saidL_bf, saidL_u, cells_agg, size_agg, ld_g, ldn_g, ldB_s, ldG_str, ldG_int, ldG_bool, ldG_ptr, ldG_sl, get_z, get_s, pickL_t, pickL_f, notL_b, isPtr_p, fld_p, extL_t, lenSl_s, lenStr_s, isStr_s, cvI_s, newC_s, newS_s, endC_s, quiet_s, andV_s, bindR_v, int_eql, int_neq, int_lss, int_leq, int_gtr, int_geq, str_eql, str_neq, boolEq_s, not_t, not_f, Bool.true_and, Bool.false_and, Bool.and_true, Bool.and_false, Bool.true_or, Bool.false_or, beq_self_eq_true, Nat.zero_add, add_z]
      exact bad (yes (hc.1 (.inr (.inr (.inr (.inr (.inl c5)))))))
    rw [decide_eq_false c5]
    simp only [bind_s, condL_t, condL_f, then3_s, cond_t, cond_f, saidL_bt, saidL_bf, saidL_u, cells_agg, size_agg, ld_g, ldn_g, ldB_s, ldG_str, ldG_int, ldG_bool, ldG_ptr, ldG_sl, get_z, get_s, pickL_t, pickL_f, notL_b, isPtr_p, fld_p, extL_t, lenSl_s, lenStr_s, isStr_s, cvI_s, newC_s, newS_s, endC_s, quiet_s, andV_s, bindR_v, int_eql, int_neq, int_lss, int_leq, int_gtr, int_geq, str_eql, str_neq, boolEq_s, not_t, not_f, Bool.true_and, Bool.false_and, Bool.and_true, Bool.and_false, Bool.true_or, Bool.false_or, beq_self_eq_true, Nat.zero_add, add_z, hB]
    by_cases c6 : 0 < kidsN op
    · rw [decide_eq_true c6]
      simp only [bind_s, condL_t, condL_f, then3_s, cond_t, cond_f, saidL_bt, saidL_bf, saidL_u, cells_agg, size_agg, ld_g, ldn_g, ldB_s, ldG_str, ldG_int, ldG_bool, ldG_ptr, ldG_sl, get_z, get_s, pickL_t, pickL_f, notL_b, isPtr_p, fld_p, extL_t, lenSl_s, lenStr_s, isStr_s, cvI_s, newC_s, newS_s, endC_s, quiet_s, andV_s, bindR_v, int_eql, int_neq, int_lss, int_leq, int_gtr, int_geq, str_eql, str_neq, boolEq_s, not_t, not_f, Bool.true_and, Bool.false_and, Bool.and_true, Bool.and_false, Bool.true_or, Bool.false_or, beq_self_eq_true, Nat.zero_add, add_z, hB]
      by_cases c7 : b ≠ 0
      · rw [decide_eq_true c7]
        simp only [bind_s, condL_t, condL_f, then3_s, cond_t, cond_f, saidL_bt, saidL_bf, saidL_u, cells_agg, size_agg, ld_g, ldn_g, ldB_s, ldG_str, ldG_int, ldG_bool, ldG_ptr, ldG_sl, get_z, get_s, pickL_t, pickL_f, notL_b, isPtr_p, fld_p, extL_t, lenSl_s, lenStr_s, isStr_s, cvI_s, newC_s, newS_s, endC_s, quiet_s, andV_s, bindR_v, int_eql, int_neq, int_lss, int_leq, int_gtr, int_geq, str_eql, str_neq, boolEq_s, not_t, not_f, Bool.true_and, Bool.false_and, Bool.and_true, Bool.and_false, Bool.true_or, Bool.false_or, beq_self_eq_true, Nat.zero_add, add_z]
        exact bad (yes (hc.1 (.inr (.inr (.inr (.inr (.inr (.inl ⟨c6, c7⟩))))))))
      rw [decide_eq_false c7]
      simp only [bind_s, condL_t, condL_f, then3_s, cond_t, cond_f, saidL_bt, saidL_bf, saidL_u, cells_agg, size_agg, ld_g, ldn_g, ldB_s, ldG_str, ldG_int, ldG_bool, ldG_ptr, ldG_sl, get_z, get_s, pickL_t, pickL_f, notL_b, isPtr_p, fld_p, extL_t, lenSl_s, lenStr_s, isStr_s, cvI_s, newC_s, newS_s, endC_s, quiet_s, andV_s, bindR_v, int_eql, int_neq, int_lss, int_leq, int_gtr, int_geq, str_eql, str_neq, boolEq_s, not_t, not_f, Bool.true_and, Bool.false_and, Bool.and_true, Bool.and_false, Bool.true_or, Bool.false_or, beq_self_eq_true, Nat.zero_add, add_z, hB]
      by_cases c8 : op = ⟨#[33]⟩
      · rw [decide_eq_true c8]
        simp only [bind_s, condL_t, condL_f, then3_s, cond_t, cond_f, saidL_bt, saidL_bf, saidL_u, cells_agg, size_agg, ld_g, ldn_g, ldB_s, ldG_str, ldG_int, ldG_bool, ldG_ptr, ldG_sl, get_z, get_s, pickL_t, pickL_f, notL_b, isPtr_p, fld_p, extL_t, lenSl_s, lenStr_s, isStr_s, cvI_s, newC_s, newS_s, endC_s, quiet_s, andV_s, bindR_v, int_eql, int_neq, int_lss, int_leq, int_gtr, int_geq, str_eql, str_neq, boolEq_s, not_t, not_f, Bool.true_and, Bool.false_and, Bool.and_true, Bool.and_false, Bool.true_or, Bool.false_or, beq_self_eq_true, Nat.zero_add, add_z, hB]
        by_cases c10 : a ≠ 0
        · rw [decide_eq_true c10]
          simp only [bind_s, condL_t, condL_f, then3_s, cond_t, cond_f, saidL_bt, saidL_bf, saidL_u, cells_agg, size_agg, ld_g, ldn_g, ldB_s, ldG_str, ldG_int, ldG_bool, ldG_ptr, ldG_sl, get_z, get_s, pickL_t, pickL_f, notL_b, isPtr_p, fld_p, extL_t, lenSl_s, lenStr_s, isStr_s, cvI_s, newC_s, newS_s, endC_s, quiet_s, andV_s, bindR_v, int_eql, int_neq, int_lss, int_leq, int_gtr, int_geq, str_eql, str_neq, boolEq_s, not_t, not_f, Bool.true_and, Bool.false_and, Bool.and_true, Bool.and_false, Bool.true_or, Bool.false_or, beq_self_eq_true, Nat.zero_add, add_z]
          exact bad (yes (hc.1 (.inr (.inr (.inr (.inr (.inr (.inr ⟨.inl c8, c10⟩))))))))
        rw [decide_eq_false c10]
        simp only [bind_s, condL_t, condL_f, then3_s, cond_t, cond_f, saidL_bt, saidL_bf, saidL_u, cells_agg, size_agg, ld_g, ldn_g, ldB_s, ldG_str, ldG_int, ldG_bool, ldG_ptr, ldG_sl, get_z, get_s, pickL_t, pickL_f, notL_b, isPtr_p, fld_p, extL_t, lenSl_s, lenStr_s, isStr_s, cvI_s, newC_s, newS_s, endC_s, quiet_s, andV_s, bindR_v, int_eql, int_neq, int_lss, int_leq, int_gtr, int_geq, str_eql, str_neq, boolEq_s, not_t, not_f, Bool.true_and, Bool.false_and, Bool.and_true, Bool.and_false, Bool.true_or, Bool.false_or, beq_self_eq_true, Nat.zero_add, add_z, hB, hs.gs, hs.len]
        refine good (Decidable.byContradiction fun h => ?_) _ rfl rfl rfl
        rcases hc.2 h with h | h | h | h | h | h | h
        · exact c1 h
        · exact c2 h
        · exact c3 h
        · exact c4 h
        · exact c5 h
        · exact c7 h.2
        · exact c10 h.2
      rw [decide_eq_false c8]
      simp only [bind_s, condL_t, condL_f, then3_s, cond_t, cond_f, saidL_bt, saidL_bf, saidL_u, cells_agg, size_agg, ld_g, ldn_g, ldB_s, ldG_str, ldG_int, ldG_bool, ldG_ptr, ldG_sl, get_z, get_s, pickL_t, pickL_f, notL_b, isPtr_p, fld_p, extL_t, lenSl_s, lenStr_s, isStr_s, cvI_s, newC_s, newS_s, endC_s, quiet_s, andV_s, bindR_v, int_eql, int_neq, int_lss, int_leq, int_gtr, int_geq, str_eql, str_neq, boolEq_s, not_t, not_f, Bool.true_and, Bool.false_and, Bool.and_true, Bool.and_false, Bool.true_or, Bool.false_or, beq_self_eq_true, Nat.zero_add, add_z, hB]
      by_cases c9 : op = ⟨#[38]⟩
      · rw [decide_eq_true c9]
        simp only [bind_s, condL_t, condL_f, then3_s, cond_t, cond_f, saidL_bt, saidL_bf, saidL_u, cells_agg, size_agg, ld_g, ldn_g, ldB_s, ldG_str, ldG_int, ldG_bool, ldG_ptr, ldG_sl, get_z, get_s, pickL_t, pickL_f, notL_b, isPtr_p, fld_p, extL_t, lenSl_s, lenStr_s, isStr_s, cvI_s, newC_s, newS_s, endC_s, quiet_s, andV_s, bindR_v, int_eql, int_neq, int_lss, int_leq, int_gtr, int_geq, str_eql, str_neq, boolEq_s, not_t, not_f, Bool.true_and, Bool.false_and, Bool.and_true, Bool.and_false, Bool.true_or, Bool.false_or, beq_self_eq_true, Nat.zero_add, add_z, hB]
        by_cases c10 : a ≠ 0
        · rw [decide_eq_true c10]
          simp only [bind_s, condL_t, condL_f, then3_s, cond_t, cond_f, saidL_bt, saidL_bf, saidL_u, cells_agg, size_agg, ld_g, ldn_g, ldB_s, ldG_str, ldG_int, ldG_bool, ldG_ptr, ldG_sl, get_z, get_s, pickL_t, pickL_f, notL_b, isPtr_p, fld_p, extL_t, lenSl_s, lenStr_s, isStr_s, cvI_s, newC_s, newS_s, endC_s, quiet_s, andV_s, bindR_v, int_eql, int_neq, int_lss, int_leq, int_gtr, int_geq, str_eql, str_neq, boolEq_s, not_t, not_f, Bool.true_and, Bool.false_and, Bool.and_true, Bool.and_false, Bool.true_or, Bool.false_or, beq_self_eq_true, Nat.zero_add, add_z]
          exact bad (yes (hc.1 (.inr (.inr (.inr (.inr (.inr (.inr ⟨.inr c9, c10⟩))))))))
        rw [decide_eq_false c10]
        simp only [bind_s, condL_t, condL_f, then3_s, cond_t, cond_f, saidL_bt, saidL_bf, saidL_u, cells_agg, size_agg, ld_g, ldn_g, ldB_s, ldG_str, ldG_int, ldG_bool, ldG_ptr, ldG_sl, get_z, get_s, pickL_t, pickL_f, notL_b, isPtr_p, fld_p, extL_t, lenSl_s, lenStr_s, isStr_s, cvI_s, newC_s, newS_s, endC_s, quiet_s, andV_s, bindR_v, int_eql, int_neq, int_lss, int_leq, int_gtr, int_geq, str_eql, str_neq, boolEq_s, not_t, not_f, Bool.true_and, Bool.false_and, Bool.and_true, Bool.and_false, Bool.true_or, Bool.false_or, beq_self_eq_true, Nat.zero_add, add_z, hB, hs.gs, hs.len]
        refine good (Decidable.byContradiction fun h => ?_) _ rfl rfl rfl
        rcases hc.2 h with h | h | h | h | h | h | h
        · exact c1 h
        · exact c2 h
        · exact c3 h
        · exact c4 h
        · exact c5 h
        · exact c7 h.2
        · exact c10 h.2
      rw [decide_eq_false c9]
      simp only [bind_s, condL_t, condL_f, then3_s, cond_t, cond_f, saidL_bt, saidL_bf, saidL_u, cells_agg, size_agg, ld_g, ldn_g, ldB_s, ldG_str, ldG_int, ldG_bool, ldG_ptr, ldG_sl, get_z, get_s, pickL_t, pickL_f, notL_b, isPtr_p, fld_p, extL_t, lenSl_s, lenStr_s, isStr_s, cvI_s, newC_s, newS_s, endC_s, quiet_s, andV_s, bindR_v, int_eql, int_neq, int_lss, int_leq, int_gtr, int_geq, str_eql, str_neq, boolEq_s, not_t, not_f, Bool.true_and, Bool.false_and, Bool.and_true, Bool.and_false, Bool.true_or, Bool.false_or, beq_self_eq_true, Nat.zero_add, add_z, hB, hs.gs, hs.len]
      refine good (Decidable.byContradiction fun h => ?_) _ rfl rfl rfl
      rcases hc.2 h with h | h | h | h | h | h | h
      · exact c1 h
      · exact c2 h
      · exact c3 h
      · exact c4 h
      · exact c5 h
      · exact c7 h.2
      · rcases h.1 with h | h
        · exact c8 h
        · exact c9 h
    rw [decide_eq_false c6]
    simp only [bind_s, condL_t, condL_f, then3_s, cond_t, cond_f, saidL_bt, saidL_bf, saidL_u, cells_agg, size_agg, ld_g, ldn_g, ldB_s, ldG_str, ldG_int, ldG_bool, ldG_ptr, ldG_sl, get_z, get_s, pickL_t, pickL_f, notL_b, isPtr_p, fld_p, extL_t, lenSl_s, lenStr_s, isStr_s, cvI_s, newC_s, newS_s, endC_s, quiet_s, andV_s, bindR_v, int_eql, int_neq, int_lss, int_leq, int_gtr, int_geq, str_eql, str_neq, boolEq_s, not_t, not_f, Bool.true_and, Bool.false_and, Bool.and_true, Bool.and_false, Bool.true_or, Bool.false_or, beq_self_eq_true, Nat.zero_add, add_z, hB]
    have c8 : ¬ op = ⟨#[33]⟩ := by intro h; rw [h] at c6; exact c6 (by decide)
    have c9 : ¬ op = ⟨#[38]⟩ := by intro h; rw [h] at c6; exact c6 (by decide)
    rw [decide_eq_false c8]
    simp only [bind_s, condL_t, condL_f, then3_s, cond_t, cond_f, saidL_bt, saidL_bf, saidL_u, cells_agg, size_agg, ld_g, ldn_g, ldB_s, ldG_str, ldG_int, ldG_bool, ldG_ptr, ldG_sl, get_z, get_s, pickL_t, pickL_f, notL_b, isPtr_p, fld_p, extL_t, lenSl_s, lenStr_s, isStr_s, cvI_s, newC_s, newS_s, endC_s, quiet_s, andV_s, bindR_v, int_eql, int_neq, int_lss, int_leq, int_gtr, int_geq, str_eql, str_neq, boolEq_s, not_t, not_f, Bool.true_and, Bool.false_and, Bool.and_true, Bool.and_false, Bool.true_or, Bool.false_or, beq_self_eq_true, Nat.zero_add, add_z, hB]
    rw [decide_eq_false c9]
    simp only [bind_s, condL_t, condL_f, then3_s, cond_t, cond_f, saidL_bt, saidL_bf, saidL_u, cells_agg, size_agg, ld_g, ldn_g, ldB_s, ldG_str, ldG_int, ldG_bool, ldG_ptr, ldG_sl, get_z, get_s, pickL_t, pickL_f, notL_b, isPtr_p, fld_p, extL_t, lenSl_s, lenStr_s, isStr_s, cvI_s, newC_s, newS_s, endC_s, quiet_s, andV_s, bindR_v, int_eql, int_neq, int_lss, int_leq, int_gtr, int_geq, str_eql, str_neq, boolEq_s, not_t, not_f, Bool.true_and, Bool.false_and, Bool.and_true, Bool.and_false, Bool.true_or, Bool.false_or, beq_self_eq_true, Nat.zero_add, add_z, hB, hs.gs, hs.len]
    refine good (Decidable.byContradiction fun h => ?_) _ rfl rfl rfl
    rcases hc.2 h with h | h | h | h | h | h | h
    · exact c1 h
    · exact c2 h
    · exact c3 h
    · exact c4 h
    · exact c5 h
    · exact c6 h.1
    · rcases h.1 with h | h
      · exact c8 h
      · exact c9 h
theorem loop29 : ∀ (r : List Tree) (m : Mem) (s : Value) (ks : List Tree) (cs : List Value) (i : Nat) (ρ : Rho) (mm : Mem), m.Ok → SlAt m s 4 ks.length cs → FormsAt m ks cs → ks.drop i = r → mm.Ok → m.Sub mm → mm.clean m.next = true → m.next < mm.next →
      ρ 61 = .int .i64 i → ρ 60 = .int .i64 ks.length → ρ 59 = s →
      G Pg E 29 [1, 1, 1, 0, 1, 0] m ρ mm = some (.ret (.bool (shapedL r)), m)
  | [], m, s, ks, cs, i, ρ, mm, hm, hs, hk, hr, hmm, hsub, hcl, hnx, e1, e2, e3 => by
    have hi : ks.length ≤ i := by simpa using hr
    refine x29_1_1_1_0_1_0 (x29_1_1_1_0_1_0_0 _ _ _ ?_)
    rw [e1, e2]
    simp only [bind_s, condL_t, condL_f, then3_s, cond_t, cond_f, saidL_bt, saidL_bf, saidL_u, cells_agg, size_agg, ld_g, ldn_g, ldB_s, ldG_str, ldG_int, ldG_bool, ldG_ptr, ldG_sl, get_z, get_s, pickL_t, pickL_f, notL_b, isPtr_p, fld_p, extL_t, lenSl_s, lenStr_s, isStr_s, cvI_s, newC_s, newS_s, endC_s, quiet_s, andV_s, bindR_v, int_eql, int_neq, int_lss, int_leq, int_gtr, int_geq, str_eql, str_neq, boolEq_s, not_t, not_f, Bool.true_and, Bool.false_and, Bool.and_true, Bool.and_false, Bool.true_or, Bool.false_or, beq_self_eq_true, Nat.zero_add, add_z]
    rw [decide_eq_false (by omega)]
    simp only [bind_s, condL_t, condL_f, then3_s, cond_t, cond_f, saidL_bt, saidL_bf, saidL_u, cells_agg, size_agg, ld_g, ldn_g, ldB_s, ldG_str, ldG_int, ldG_bool, ldG_ptr, ldG_sl, get_z, get_s, pickL_t, pickL_f, notL_b, isPtr_p, fld_p, extL_t, lenSl_s, lenStr_s, isStr_s, cvI_s, newC_s, newS_s, endC_s, quiet_s, andV_s, bindR_v, int_eql, int_neq, int_lss, int_leq, int_gtr, int_geq, str_eql, str_neq, boolEq_s, not_t, not_f, Bool.true_and, Bool.false_and, Bool.and_true, Bool.and_false, Bool.true_or, Bool.false_or, beq_self_eq_true, Nat.zero_add, add_z]
    unfold shapedL
    exact retL_plain rfl hcl
  | k :: r, m, s, ks, cs, i, ρ, mm, hm, hs, hk, hr, hmm, hsub, hcl, hnx, e1, e2, e3 => by
    obtain ⟨bb, o, y0, y1, y2, y3, m2, hi, hr2, hlt, h1, h5, h6, h7, h8, hform, hsub2, hok2, hcl2, hnx2, hb2, hlt2, hold⟩ := kid_at 24 hm hs hk hr hmm hsub hcl (by omega)
    refine x29_1_1_1_0_1_0 (x29_1_1_1_0_1_0_0 _ _ _ ?_)
    rw [e1, e2, e3]
    simp only [bind_s, condL_t, condL_f, then3_s, cond_t, cond_f, saidL_bt, saidL_bf, saidL_u, cells_agg, size_agg, ld_g, ldn_g, ldB_s, ldG_str, ldG_int, ldG_bool, ldG_ptr, ldG_sl, get_z, get_s, pickL_t, pickL_f, notL_b, isPtr_p, fld_p, extL_t, lenSl_s, lenStr_s, isStr_s, cvI_s, newC_s, newS_s, endC_s, quiet_s, andV_s, bindR_v, int_eql, int_neq, int_lss, int_leq, int_gtr, int_geq, str_eql, str_neq, boolEq_s, not_t, not_f, Bool.true_and, Bool.false_and, Bool.and_true, Bool.and_false, Bool.true_or, Bool.false_or, beq_self_eq_true, Nat.zero_add, add_z]
    rw [decide_eq_true (by omega)]
    simp only [bind_s, condL_t, condL_f, then3_s, cond_t, cond_f, saidL_bt, saidL_bf, saidL_u, cells_agg, size_agg, ld_g, ldn_g, ldB_s, ldG_str, ldG_int, ldG_bool, ldG_ptr, ldG_sl, get_z, get_s, pickL_t, pickL_f, notL_b, isPtr_p, fld_p, extL_t, lenSl_s, lenStr_s, isStr_s, cvI_s, newC_s, newS_s, endC_s, quiet_s, andV_s, bindR_v, int_eql, int_neq, int_lss, int_leq, int_gtr, int_geq, str_eql, str_neq, boolEq_s, not_t, not_f, Bool.true_and, Bool.false_and, Bool.and_true, Bool.and_false, Bool.true_or, Bool.false_or, beq_self_eq_true, Nat.zero_add, add_z, h1, h5, h6, h7, h8, run29 k m2 _ hok2 (hform.sub hsub2)]
    unfold shapedL
    cases hsk : shapedS k
    · simp only [bind_s, condL_t, condL_f, then3_s, cond_t, cond_f, saidL_bt, saidL_bf, saidL_u, cells_agg, size_agg, ld_g, ldn_g, ldB_s, ldG_str, ldG_int, ldG_bool, ldG_ptr, ldG_sl, get_z, get_s, pickL_t, pickL_f, notL_b, isPtr_p, fld_p, extL_t, lenSl_s, lenStr_s, isStr_s, cvI_s, newC_s, newS_s, endC_s, quiet_s, andV_s, bindR_v, int_eql, int_neq, int_lss, int_leq, int_gtr, int_geq, str_eql, str_neq, boolEq_s, not_t, not_f, Bool.true_and, Bool.false_and, Bool.and_true, Bool.and_false, Bool.true_or, Bool.false_or, beq_self_eq_true, Nat.zero_add, add_z]
      exact retL_plain rfl hcl2
    · simp only [bind_s, condL_t, condL_f, then3_s, cond_t, cond_f, saidL_bt, saidL_bf, saidL_u, cells_agg, size_agg, ld_g, ldn_g, ldB_s, ldG_str, ldG_int, ldG_bool, ldG_ptr, ldG_sl, get_z, get_s, pickL_t, pickL_f, notL_b, isPtr_p, fld_p, extL_t, lenSl_s, lenStr_s, isStr_s, cvI_s, newC_s, newS_s, endC_s, quiet_s, andV_s, bindR_v, int_eql, int_neq, int_lss, int_leq, int_gtr, int_geq, str_eql, str_neq, boolEq_s, not_t, not_f, Bool.true_and, Bool.false_and, Bool.and_true, Bool.and_false, Bool.true_or, Bool.false_or, beq_self_eq_true, Nat.zero_add, add_z, int_add, wrap_nat hlt]
      exact loop29 r m s ks cs (i + 1) _ m2 hm hs hk hr2 hok2 hsub2 hcl2 (by omega) rfl e2 e3
end

mutual
theorem deep_eq : ∀ (T : Tree) (left : Int), 0 ≤ left → (height T ≤ left + 1 → deepR T left = height T) ∧ (left + 1 < height T → 41 ≤ deepR T left)
  | .node op a b ks, left, hl => by
    have h := deepL_eq ks left 1 hl (by omega)
    have := heightL_pos ks
    unfold deepR height
    exact ⟨fun h1 => by rw [h.1 (by omega)]; omega, fun h1 => by have := h.2.1 (by omega); omega⟩
theorem deepL_eq : ∀ (ks : List Tree) (left n : Int), 0 ≤ left → 1 ≤ n → (heightL ks ≤ left → deepRL ks left n = max n (heightL ks + 1)) ∧ (left < heightL ks → 41 ≤ deepRL ks left n) ∧ (41 ≤ n → 41 ≤ deepRL ks left n)
  | [], left, n, hl, hn => by unfold deepRL heightL; exact ⟨fun _ => by omega, fun _ => by omega, fun h => h⟩
  | k :: ks, left, n, hl, hn => by
    unfold deepRL heightL
    have hp := height_pos k
    have hp2 := heightL_pos ks
    by_cases hc : left < 1
    · rw [if_pos hc]
      exact ⟨fun h => by omega, fun _ => by omega, fun _ => by omega⟩
    · rw [if_neg hc]
      have h1 := deep_eq k (left - 1) (by omega)
      have h2 := deepR_le k (left - 1)
      generalize hn2 : (if n < 1 + deepR k (left - 1) then 1 + deepR k (left - 1) else n) = n2
      have hn3 : n2 = max n (1 + deepR k (left - 1)) := by rw [← hn2]; split <;> omega
      have h3 := deepL_eq ks left n2 hl (by omega)
      refine ⟨fun h => ?_, fun h => ?_, fun h => h3.2.2 (by omega)⟩
      · have e1 := h1.1 (by omega)
        rw [h3.1 (by omega)]
        omega
      · by_cases hk : left < heightL ks
        · exact h3.2.1 hk
        · have := h1.2 (by omega)
          exact h3.2.2 (by omega)
end

theorem deep41 (T : Tree) : deepR T 41 ≤ 40 ↔ height T ≤ 40 := by
  have h := deep_eq T 41 (by omega)
  constructor
  · intro h1
    by_cases h2 : height T ≤ 42
    · have := h.1 (by omega); omega
    · have := h.2 (by omega); omega
  · intro h1
    have := h.1 (by omega); omega

def formulaS (T : Tree) : Bool := decide (nodes T ≤ 2000) && (decide (height T ≤ 40) && shapedS T)

theorem formula_size (T : Tree) : formulaS T = decide (0 ≤ sizeS T 2000 40) := by
  have h1 := size_of T 2000 40
  have h2 := of_size T 2000 40
  unfold formulaS
  by_cases h : 0 ≤ sizeS T 2000 40
  · obtain ⟨a1, a2, a3⟩ := h1 h
    rw [decide_eq_true h, a1, decide_eq_true a2, decide_eq_true (by omega)]; rfl
  · rw [decide_eq_false h, Bool.eq_false_iff]
    intro h3
    simp only [Bool.and_eq_true, decide_eq_true_eq] at h3
    obtain ⟨a1, a2, a3⟩ := h3
    have := h2 a3 a2 (by omega)
    omega

theorem run9 (T : Tree) (m : Mem) (v : Value) (hm : m.Ok) (hf : FormAt m T v) (hh : height T ≤ 1000000) : run Pg E 9 [v] m = some (.ret (.bool (formulaS T)), m) := by
  have hd := deep41 T
  obtain ⟨op, a, b, ks⟩ := T
  obtain ⟨s, cs, rfl, hs, hk⟩ := form_cells hf
  refine G_run rfl Tryd.func9 rfl (by kernel_rfl) (x9 _ _ _ ?_)
  have hf2 := hf.sub ((Mem.Sub.mark m).trans (Mem.Sub.push hm.mark (.cells [.string op, .int .i64 a, .int .i64 b, s] 24 false)))
  have hB := get_push_n hm.mark (.cells [.string op, .int .i64 a, .int .i64 b, s] 24 false)
  unfold formulaS
  simp only [bind_s, condL_t, condL_f, then3_s, cond_t, cond_f, saidL_bt, saidL_bf, saidL_u, cells_agg, size_agg, ld_g, ldn_g, ldB_s, ldG_str, ldG_int, ldG_bool, ldG_ptr, ldG_sl, get_z, get_s, pickL_t, pickL_f, notL_b, isPtr_p, fld_p, extL_t, lenSl_s, lenStr_s, isStr_s, cvI_s, newC_s, newS_s, endC_s, quiet_s, andV_s, bindR_v, int_eql, int_neq, int_lss, int_leq, int_gtr, int_geq, str_eql, str_neq, boolEq_s, not_t, not_f, Bool.true_and, Bool.false_and, Bool.and_true, Bool.and_false, Bool.true_or, Bool.false_or, beq_self_eq_true, Nat.zero_add, add_z, hB, hs.l4, run27 _ _ _ (hm.mark.push _) hf2]
  by_cases c1 : nodes (.node op a b ks) ≤ 2000
  · rw [if_pos c1, decide_eq_true c1]
    simp only [bind_s, condL_t, condL_f, then3_s, cond_t, cond_f, saidL_bt, saidL_bf, saidL_u, cells_agg, size_agg, ld_g, ldn_g, ldB_s, ldG_str, ldG_int, ldG_bool, ldG_ptr, ldG_sl, get_z, get_s, pickL_t, pickL_f, notL_b, isPtr_p, fld_p, extL_t, lenSl_s, lenStr_s, isStr_s, cvI_s, newC_s, newS_s, endC_s, quiet_s, andV_s, bindR_v, int_eql, int_neq, int_lss, int_leq, int_gtr, int_geq, str_eql, str_neq, boolEq_s, not_t, not_f, Bool.true_and, Bool.false_and, Bool.and_true, Bool.and_false, Bool.true_or, Bool.false_or, beq_self_eq_true, Nat.zero_add, add_z, hB, hs.l4, run28 _ _ _ 41 (hm.mark.push _) hf2 hh (by omega)]
    by_cases c2 : height (.node op a b ks) ≤ 40
    · rw [decide_eq_true (hd.2 c2), decide_eq_true c2]
      simp only [bind_s, condL_t, condL_f, then3_s, cond_t, cond_f, saidL_bt, saidL_bf, saidL_u, cells_agg, size_agg, ld_g, ldn_g, ldB_s, ldG_str, ldG_int, ldG_bool, ldG_ptr, ldG_sl, get_z, get_s, pickL_t, pickL_f, notL_b, isPtr_p, fld_p, extL_t, lenSl_s, lenStr_s, isStr_s, cvI_s, newC_s, newS_s, endC_s, quiet_s, andV_s, bindR_v, int_eql, int_neq, int_lss, int_leq, int_gtr, int_geq, str_eql, str_neq, boolEq_s, not_t, not_f, Bool.true_and, Bool.false_and, Bool.and_true, Bool.and_false, Bool.true_or, Bool.false_or, beq_self_eq_true, Nat.zero_add, add_z, hB, hs.l4, run29 _ _ _ (hm.mark.push _) hf2]
      exact retL_plain rfl rfl
    · rw [decide_eq_false (fun h => c2 (hd.1 h)), decide_eq_false c2]
      simp only [bind_s, condL_t, condL_f, then3_s, cond_t, cond_f, saidL_bt, saidL_bf, saidL_u, cells_agg, size_agg, ld_g, ldn_g, ldB_s, ldG_str, ldG_int, ldG_bool, ldG_ptr, ldG_sl, get_z, get_s, pickL_t, pickL_f, notL_b, isPtr_p, fld_p, extL_t, lenSl_s, lenStr_s, isStr_s, cvI_s, newC_s, newS_s, endC_s, quiet_s, andV_s, bindR_v, int_eql, int_neq, int_lss, int_leq, int_gtr, int_geq, str_eql, str_neq, boolEq_s, not_t, not_f, Bool.true_and, Bool.false_and, Bool.and_true, Bool.and_false, Bool.true_or, Bool.false_or, beq_self_eq_true, Nat.zero_add, add_z]
      exact retL_plain rfl rfl
  · rw [if_neg c1, decide_eq_false (show ¬ (2001 : Int) ≤ 2000 by omega), decide_eq_false c1]
    simp only [bind_s, condL_t, condL_f, then3_s, cond_t, cond_f, saidL_bt, saidL_bf, saidL_u, cells_agg, size_agg, ld_g, ldn_g, ldB_s, ldG_str, ldG_int, ldG_bool, ldG_ptr, ldG_sl, get_z, get_s, pickL_t, pickL_f, notL_b, isPtr_p, fld_p, extL_t, lenSl_s, lenStr_s, isStr_s, cvI_s, newC_s, newS_s, endC_s, quiet_s, andV_s, bindR_v, int_eql, int_neq, int_lss, int_leq, int_gtr, int_geq, str_eql, str_neq, boolEq_s, not_t, not_f, Bool.true_and, Bool.false_and, Bool.and_true, Bool.and_false, Bool.true_or, Bool.false_or, beq_self_eq_true, Nat.zero_add, add_z]
    exact retL_plain rfl rfl

end Go.Proofs.YtfdfickokkokmaaDoor
