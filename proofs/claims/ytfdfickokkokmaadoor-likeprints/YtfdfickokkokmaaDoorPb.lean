/- Contracts: Depth, and what Print writes. -/
import Derived.Test.YtfdfickokkokmaaDoorPa
set_option linter.unusedSimpArgs false
set_option linter.unusedVariables false
namespace Go.Proofs.YtfdfickokkokmaaDoor
open Go Go.D

attribute [local congr] bind_c cond_c condL_c then3_c andV_c bindR_c endC_c endD_c quiet_c newC_c newS_c callC_c callQ_c

theorem run24 (T : Tree) (m : Mem) (v : Value) (hm : m.Ok) (hf : FormAt m T v) : run Pg E 24 [v] m = some (.ret (.bool (decide (0 ≤ sizeS T 2000 40))), m) := by
  obtain ⟨op, a, b, ks⟩ := T
  obtain ⟨s, cs, rfl, hs, hk⟩ := form_cells hf
  refine G_run rfl Tryd.func24 rfl (by kernel_rfl) (x24 _ _ _ ?_)
  simp only [bind_s, condL_t, condL_f, then3_s, cond_t, cond_f, saidL_bt, saidL_bf, saidL_u, cells_agg, size_agg, ld_g, ldn_g, ldB_s, ldG_str, ldG_int, ldG_bool, ldG_ptr, ldG_sl, get_z, get_s, pickL_t, pickL_f, notL_b, isPtr_p, fld_p, extL_t, lenSl_s, lenStr_s, isStr_s, cvI_s, newC_s, newS_s, endC_s, quiet_s, andV_s, bindR_v, int_eql, int_neq, int_lss, int_leq, int_gtr, int_geq, str_eql, str_neq, boolEq_s, not_t, not_f, Bool.true_and, Bool.false_and, Bool.and_true, Bool.and_false, Bool.true_or, Bool.false_or, beq_self_eq_true, Nat.zero_add, add_z, get_push_n hm.mark, hs.l4, run42 (.node op a b ks) _ _ 2000 40 (hm.mark.push _) (hf.sub ((Mem.Sub.mark m).trans (Mem.Sub.push hm.mark _))) (by omega) (by omega)]
  exact retL_plain rfl rfl

mutual
def depthS : Tree → Int
  | .node op _ _ ks => if op = ⟨#[69]⟩ then depthL ks 0 + 1 else depthL ks 0
def depthL : List Tree → Int → Int
  | [], d => d
  | k :: ks, d => depthL ks (if d < depthS k then depthS k else d)
end

mutual
def height : Tree → Int
  | .node _ _ _ ks => heightL ks + 1
def heightL : List Tree → Int
  | [] => 0
  | k :: ks => max (height k) (heightL ks)
end

mutual
theorem height_pos : ∀ T, 1 ≤ height T
  | .node _ _ _ ks => by unfold height; have := heightL_pos ks; omega
theorem heightL_pos : ∀ ks, 0 ≤ heightL ks
  | [] => by unfold heightL; omega
  | k :: ks => by unfold heightL; have := height_pos k; have := heightL_pos ks; omega
end

mutual
theorem depthS_le : ∀ T, 0 ≤ depthS T ∧ depthS T ≤ height T
  | .node op _ _ ks => by
    unfold depthS height
    have := depthL_le ks 0 (by omega)
    have := heightL_pos ks
    split <;> omega
theorem depthL_le : ∀ ks d, 0 ≤ d → d ≤ depthL ks d ∧ depthL ks d ≤ max d (heightL ks)
  | [], d, h => by unfold depthL heightL; omega
  | k :: ks, d, h => by
    unfold depthL heightL
    have h1 := depthS_le k
    split
    · have := depthL_le ks (depthS k) (by omega); omega
    · have := depthL_le ks d h; omega
end

set_option maxRecDepth 10000 in
mutual
theorem run26 : ∀ (T : Tree) (m : Mem) (v : Value), m.Ok → FormAt m T v → height T ≤ 1000 → run Pg E 26 [v] m = some (.ret (.int .i64 (depthS T)), m)
  | .node op a b ks, m, v, hm, hf, hh => by
    obtain ⟨s, cs, rfl, hs, hk⟩ := form_cells hf
    refine G_run rfl Tryd.func26 rfl (by kernel_rfl) (x26 _ _ _ ?_)
    simp only [bind_s, condL_t, condL_f, then3_s, cond_t, cond_f, saidL_bt, saidL_bf, saidL_u, cells_agg, size_agg, ld_g, ldn_g, ldB_s, ldG_str, ldG_int, ldG_bool, ldG_ptr, ldG_sl, get_z, get_s, pickL_t, pickL_f, notL_b, isPtr_p, fld_p, extL_t, lenSl_s, lenStr_s, isStr_s, cvI_s, newC_s, newS_s, endC_s, quiet_s, andV_s, bindR_v, int_eql, int_neq, int_lss, int_leq, int_gtr, int_geq, str_eql, str_neq, boolEq_s, not_t, not_f, Bool.true_and, Bool.false_and, Bool.and_true, Bool.and_false, Bool.true_or, Bool.false_or, beq_self_eq_true, Nat.zero_add, add_z, get_push_n hm.mark, hs.gs, hs.len]
    unfold height at hh
    exact loop26 ks m op a b s ks cs 0 0 _ _ hm hs hk rfl (hm.mark.push _) ((Mem.Sub.mark m).trans (Mem.Sub.push hm.mark _)) rfl (by rw [next_push, next_mark]; omega) (by omega) (by omega) rfl rfl rfl rfl rfl (by rw [← next_mark m, get_push_n hm.mark])
theorem loop26 : ∀ (r : List Tree) (m : Mem) (op : ByteArray) (a b : Int) (s : Value) (ks : List Tree) (cs : List Value) (i : Nat) (d : Int) (ρ : Rho) (mm : Mem), m.Ok → SlAt m s 4 ks.length cs → FormsAt m ks cs → ks.drop i = r → mm.Ok → m.Sub mm → mm.clean m.next = true → m.next < mm.next →
      heightL r ≤ 1000 → 0 ≤ d ∧ d ≤ 1000 → ρ 9 = .int .i64 i → ρ 8 = .int .i64 ks.length → ρ 7 = s → ρ 3 = .int .i64 d → ρ 1 = ptr m.next 0 → mm.get m.next = some (.cells [.string op, .int .i64 a, .int .i64 b, s] 27 false) →
      G Pg E 26 [1, 1, 0, 1, 0] m ρ mm = some (.ret (.int .i64 (if op = ⟨#[69]⟩ then depthL r d + 1 else depthL r d)), m)
  | [], m, op, a, b, s, ks, cs, i, d, ρ, mm, hm, hs, hk, hr, hmm, hsub, hcl, hnx, hh, hd, e1, e2, e3, e4, e5, hg => by
    have hi : ks.length ≤ i := by simpa using hr
    refine x26_1_1_0_1_0 (x26_1_1_0_1_0_0 _ _ _ ?_)
    rw [e1, e2]
    simp only [bind_s, condL_t, condL_f, then3_s, cond_t, cond_f, saidL_bt, saidL_bf, saidL_u, cells_agg, size_agg, ld_g, ldn_g, ldB_s, ldG_str, ldG_int, ldG_bool, ldG_ptr, ldG_sl, get_z, get_s, pickL_t, pickL_f, notL_b, isPtr_p, fld_p, extL_t, lenSl_s, lenStr_s, isStr_s, cvI_s, newC_s, newS_s, endC_s, quiet_s, andV_s, bindR_v, int_eql, int_neq, int_lss, int_leq, int_gtr, int_geq, str_eql, str_neq, boolEq_s, not_t, not_f, Bool.true_and, Bool.false_and, Bool.and_true, Bool.and_false, Bool.true_or, Bool.false_or, beq_self_eq_true, Nat.zero_add, add_z]
    rw [decide_eq_false (by omega)]
    simp only [bind_s, condL_t, condL_f, then3_s, cond_t, cond_f, saidL_bt, saidL_bf, saidL_u, cells_agg, size_agg, ld_g, ldn_g, ldB_s, ldG_str, ldG_int, ldG_bool, ldG_ptr, ldG_sl, get_z, get_s, pickL_t, pickL_f, notL_b, isPtr_p, fld_p, extL_t, lenSl_s, lenStr_s, isStr_s, cvI_s, newC_s, newS_s, endC_s, quiet_s, andV_s, bindR_v, int_eql, int_neq, int_lss, int_leq, int_gtr, int_geq, str_eql, str_neq, boolEq_s, not_t, not_f, Bool.true_and, Bool.false_and, Bool.and_true, Bool.and_false, Bool.true_or, Bool.false_or, beq_self_eq_true, Nat.zero_add, add_z]
    refine x26_1_1_1 _ _ _ ?_

    simp only [put_look, Nat.reduceEqDiff, reduceIte, e4, e5]
    simp only [bind_s, condL_t, condL_f, then3_s, cond_t, cond_f, saidL_bt, saidL_bf, saidL_u, cells_agg, size_agg, ld_g, ldn_g, ldB_s, ldG_str, ldG_int, ldG_bool, ldG_ptr, ldG_sl, get_z, get_s, pickL_t, pickL_f, notL_b, isPtr_p, fld_p, extL_t, lenSl_s, lenStr_s, isStr_s, cvI_s, newC_s, newS_s, endC_s, quiet_s, andV_s, bindR_v, int_eql, int_neq, int_lss, int_leq, int_gtr, int_geq, str_eql, str_neq, boolEq_s, not_t, not_f, Bool.true_and, Bool.false_and, Bool.and_true, Bool.and_false, Bool.true_or, Bool.false_or, beq_self_eq_true, Nat.zero_add, add_z, hg, int_add, wrap_i64 (x := d + 1) (by omega) (by omega)]
    unfold depthL
    by_cases h : op = ⟨#[69]⟩
    · rw [decide_eq_true h, if_pos h]
      simp only [bind_s, condL_t, condL_f, then3_s, cond_t, cond_f, saidL_bt, saidL_bf, saidL_u, cells_agg, size_agg, ld_g, ldn_g, ldB_s, ldG_str, ldG_int, ldG_bool, ldG_ptr, ldG_sl, get_z, get_s, pickL_t, pickL_f, notL_b, isPtr_p, fld_p, extL_t, lenSl_s, lenStr_s, isStr_s, cvI_s, newC_s, newS_s, endC_s, quiet_s, andV_s, bindR_v, int_eql, int_neq, int_lss, int_leq, int_gtr, int_geq, str_eql, str_neq, boolEq_s, not_t, not_f, Bool.true_and, Bool.false_and, Bool.and_true, Bool.and_false, Bool.true_or, Bool.false_or, beq_self_eq_true, Nat.zero_add, add_z]
      exact retL_plain rfl hcl
    · rw [decide_eq_false h, if_neg h]
      simp only [bind_s, condL_t, condL_f, then3_s, cond_t, cond_f, saidL_bt, saidL_bf, saidL_u, cells_agg, size_agg, ld_g, ldn_g, ldB_s, ldG_str, ldG_int, ldG_bool, ldG_ptr, ldG_sl, get_z, get_s, pickL_t, pickL_f, notL_b, isPtr_p, fld_p, extL_t, lenSl_s, lenStr_s, isStr_s, cvI_s, newC_s, newS_s, endC_s, quiet_s, andV_s, bindR_v, int_eql, int_neq, int_lss, int_leq, int_gtr, int_geq, str_eql, str_neq, boolEq_s, not_t, not_f, Bool.true_and, Bool.false_and, Bool.and_true, Bool.and_false, Bool.true_or, Bool.false_or, beq_self_eq_true, Nat.zero_add, add_z]
      exact retL_plain rfl hcl
  | k :: r, m, op, a, b, s, ks, cs, i, d, ρ, mm, hm, hs, hk, hr, hmm, hsub, hcl, hnx, hh, hd, e1, e2, e3, e4, e5, hg => by
    obtain ⟨bb, o, y0, y1, y2, y3, m2, hi, hr2, hn, h1, h5, h6, h7, h8, hform, hsub2, hok2, hcl2, hnx2, hb2, hlt2, hold⟩ := kid_at 27 hm hs hk hr hmm hsub hcl (by omega)
    refine x26_1_1_0_1_0 (x26_1_1_0_1_0_0 _ _ _ ?_)
    rw [e1, e2, e3, e4]
    simp only [bind_s, condL_t, condL_f, then3_s, cond_t, cond_f, saidL_bt, saidL_bf, saidL_u, cells_agg, size_agg, ld_g, ldn_g, ldB_s, ldG_str, ldG_int, ldG_bool, ldG_ptr, ldG_sl, get_z, get_s, pickL_t, pickL_f, notL_b, isPtr_p, fld_p, extL_t, lenSl_s, lenStr_s, isStr_s, cvI_s, newC_s, newS_s, endC_s, quiet_s, andV_s, bindR_v, int_eql, int_neq, int_lss, int_leq, int_gtr, int_geq, str_eql, str_neq, boolEq_s, not_t, not_f, Bool.true_and, Bool.false_and, Bool.and_true, Bool.and_false, Bool.true_or, Bool.false_or, beq_self_eq_true, Nat.zero_add, add_z]
    rw [decide_eq_true (by omega)]
    unfold heightL at hh
    have hdk := depthS_le k
    simp only [bind_s, condL_t, condL_f, then3_s, cond_t, cond_f, saidL_bt, saidL_bf, saidL_u, cells_agg, size_agg, ld_g, ldn_g, ldB_s, ldG_str, ldG_int, ldG_bool, ldG_ptr, ldG_sl, get_z, get_s, pickL_t, pickL_f, notL_b, isPtr_p, fld_p, extL_t, lenSl_s, lenStr_s, isStr_s, cvI_s, newC_s, newS_s, endC_s, quiet_s, andV_s, bindR_v, int_eql, int_neq, int_lss, int_leq, int_gtr, int_geq, str_eql, str_neq, boolEq_s, not_t, not_f, Bool.true_and, Bool.false_and, Bool.and_true, Bool.and_false, Bool.true_or, Bool.false_or, beq_self_eq_true, Nat.zero_add, add_z, h1, h5, h6, h7, h8, run26 k m2 _ hok2 (hform.sub hsub2) (by omega), minMax, if_true, int_add, wrap_nat hn]
    unfold depthL
    refine loop26 r m op a b s ks cs (i + 1) _ _ m2 hm hs hk hr2 hok2 hsub2 hcl2 (by omega) (by omega) ?_ rfl e2 e3 rfl e5 (by rw [hold _ hnx]; exact hg)
    split <;> omega
end

end Go.Proofs.YtfdfickokkokmaaDoor
