/- Contracts, first part. -/
import Derived.Test.YtfdfickokkokmaaDoorTa
set_option linter.unusedSimpArgs false
set_option linter.unusedVariables false
namespace Go.Proofs.YtfdfickokkokmaaDoor
open Go Go.D

attribute [local congr] bind_c cond_c condL_c then3_c andV_c bindR_c endC_c endD_c quiet_c newC_c newS_c callC_c callQ_c

def opEq : ByteArray := ⟨#[61]⟩
def opNear : ByteArray := ⟨#[126]⟩
def opNot : ByteArray := ⟨#[33]⟩
def opE : ByteArray := ⟨#[69]⟩
def opAnd : ByteArray := ⟨#[38]⟩

def kidsN (op : ByteArray) : Int :=
  if op = ⟨#[61]⟩ ∨ op = ⟨#[126]⟩ then 0 else if op = ⟨#[33]⟩ ∨ op = ⟨#[69]⟩ then 1 else if op = ⟨#[38]⟩ then 2 else -1



theorem run56 (m : Mem) (op : ByteArray) : run Pg E 56 [.string op] m = some (.ret (.int .i64 (kidsN op)), m) := by
  refine G_run rfl Tryd.func56 rfl (by kernel_rfl) (x56 _ _ _ ?_)
  have h3 : ∀ ρ : Rho, ∀ b, ρ 7 = .bool b → ρ 3 = .string op → b = decide (op = ⟨#[33]⟩ ∨ op = ⟨#[69]⟩) → ¬ (op = ⟨#[61]⟩ ∨ op = ⟨#[126]⟩) → G Pg E 56 [1, 0, 1, 0, 1, 1, 1] m ρ m.mark = some (.ret (.int .i64 (kidsN op)), m) := by
    intro ρ b h7 h3 hb hn
    refine x56_1_0_1_0_1_1_1 _ _ _ ?_
    rw [h7]
    unfold kidsN
    rw [if_neg hn]
    by_cases h : op = ⟨#[33]⟩ ∨ op = ⟨#[69]⟩
    · rw [if_pos h, hb, decide_eq_true h]; rfl
    · rw [if_neg h, hb, decide_eq_false h]
      simp only [bind_s, condL_t, condL_f, then3_s, cond_t, cond_f, saidL_bt, saidL_bf, saidL_u, cells_agg, size_agg, ld_g, ldn_g, ldB_s, ldG_str, ldG_int, ldG_bool, ldG_ptr, ldG_sl, get_z, get_s, pickL_t, pickL_f, notL_b, isPtr_p, fld_p, extL_t, lenSl_s, lenStr_s, isStr_s, cvI_s, newC_s, newS_s, endC_s, quiet_s, andV_s, bindR_v, int_eql, int_neq, int_lss, int_leq, int_gtr, int_geq, str_eql, str_neq, boolEq_s, not_t, not_f, Bool.true_and, Bool.false_and, Bool.and_true, Bool.and_false, Bool.true_or, Bool.false_or, beq_self_eq_true, Nat.zero_add, add_z, h3]
      by_cases h2 : op = ⟨#[38]⟩
      · rw [if_pos h2, decide_eq_true h2]; rfl
      · rw [if_neg h2, decide_eq_false h2]; rfl
  have h1 : ∀ ρ : Rho, ∀ b, ρ 4 = .bool b → ρ 3 = .string op → b = decide (op = ⟨#[61]⟩ ∨ op = ⟨#[126]⟩) → G Pg E 56 [1, 0, 1, 0, 1] m ρ m.mark = some (.ret (.int .i64 (kidsN op)), m) := by
    intro ρ b h4 hs hb
    refine x56_1_0_1_0_1 _ _ _ ?_
    rw [h4]
    by_cases h : op = ⟨#[61]⟩ ∨ op = ⟨#[126]⟩
    · have : kidsN op = 0 := by unfold kidsN; rw [if_pos h]
      rw [this, hb, decide_eq_true h]; rfl
    · rw [hb, decide_eq_false h]
      simp only [bind_s, condL_t, condL_f, then3_s, cond_t, cond_f, saidL_bt, saidL_bf, saidL_u, cells_agg, size_agg, ld_g, ldn_g, ldB_s, ldG_str, ldG_int, ldG_bool, ldG_ptr, ldG_sl, get_z, get_s, pickL_t, pickL_f, notL_b, isPtr_p, fld_p, extL_t, lenSl_s, lenStr_s, isStr_s, cvI_s, newC_s, newS_s, endC_s, quiet_s, andV_s, bindR_v, int_eql, int_neq, int_lss, int_leq, int_gtr, int_geq, str_eql, str_neq, boolEq_s, not_t, not_f, Bool.true_and, Bool.false_and, Bool.and_true, Bool.and_false, Bool.true_or, Bool.false_or, beq_self_eq_true, Nat.zero_add, add_z, hs]
      by_cases h2 : op = ⟨#[33]⟩
      · rw [decide_eq_true h2]
        simp only [bind_s, condL_t, condL_f, then3_s, cond_t, cond_f, saidL_bt, saidL_bf, saidL_u, cells_agg, size_agg, ld_g, ldn_g, ldB_s, ldG_str, ldG_int, ldG_bool, ldG_ptr, ldG_sl, get_z, get_s, pickL_t, pickL_f, notL_b, isPtr_p, fld_p, extL_t, lenSl_s, lenStr_s, isStr_s, cvI_s, newC_s, newS_s, endC_s, quiet_s, andV_s, bindR_v, int_eql, int_neq, int_lss, int_leq, int_gtr, int_geq, str_eql, str_neq, boolEq_s, not_t, not_f, Bool.true_and, Bool.false_and, Bool.and_true, Bool.and_false, Bool.true_or, Bool.false_or, beq_self_eq_true, Nat.zero_add, add_z]
        exact h3 _ true rfl hs (by rw [decide_eq_true (.inl h2)]) h
      · rw [decide_eq_false h2]
        simp only [bind_s, condL_t, condL_f, then3_s, cond_t, cond_f, saidL_bt, saidL_bf, saidL_u, cells_agg, size_agg, ld_g, ldn_g, ldB_s, ldG_str, ldG_int, ldG_bool, ldG_ptr, ldG_sl, get_z, get_s, pickL_t, pickL_f, notL_b, isPtr_p, fld_p, extL_t, lenSl_s, lenStr_s, isStr_s, cvI_s, newC_s, newS_s, endC_s, quiet_s, andV_s, bindR_v, int_eql, int_neq, int_lss, int_leq, int_gtr, int_geq, str_eql, str_neq, boolEq_s, not_t, not_f, Bool.true_and, Bool.false_and, Bool.and_true, Bool.and_false, Bool.true_or, Bool.false_or, beq_self_eq_true, Nat.zero_add, add_z]
        by_cases h5 : op = ⟨#[69]⟩
        · rw [decide_eq_true h5]; exact h3 _ true rfl hs (by rw [decide_eq_true (.inr h5)]) h
        · rw [decide_eq_false h5]; exact h3 _ false rfl hs (by rw [decide_eq_false (by rintro (h | h) <;> contradiction)]) h
  simp only [bind_s, condL_t, condL_f, then3_s, cond_t, cond_f, saidL_bt, saidL_bf, saidL_u, cells_agg, size_agg, ld_g, ldn_g, ldB_s, ldG_str, ldG_int, ldG_bool, ldG_ptr, ldG_sl, get_z, get_s, pickL_t, pickL_f, notL_b, isPtr_p, fld_p, extL_t, lenSl_s, lenStr_s, isStr_s, cvI_s, newC_s, newS_s, endC_s, quiet_s, andV_s, bindR_v, int_eql, int_neq, int_lss, int_leq, int_gtr, int_geq, str_eql, str_neq, boolEq_s, not_t, not_f, Bool.true_and, Bool.false_and, Bool.and_true, Bool.and_false, Bool.true_or, Bool.false_or, beq_self_eq_true, Nat.zero_add, add_z]
  by_cases h : op = ⟨#[61]⟩
  · rw [decide_eq_true h]
    simp only [bind_s, condL_t, condL_f, then3_s, cond_t, cond_f, saidL_bt, saidL_bf, saidL_u, cells_agg, size_agg, ld_g, ldn_g, ldB_s, ldG_str, ldG_int, ldG_bool, ldG_ptr, ldG_sl, get_z, get_s, pickL_t, pickL_f, notL_b, isPtr_p, fld_p, extL_t, lenSl_s, lenStr_s, isStr_s, cvI_s, newC_s, newS_s, endC_s, quiet_s, andV_s, bindR_v, int_eql, int_neq, int_lss, int_leq, int_gtr, int_geq, str_eql, str_neq, boolEq_s, not_t, not_f, Bool.true_and, Bool.false_and, Bool.and_true, Bool.and_false, Bool.true_or, Bool.false_or, beq_self_eq_true, Nat.zero_add, add_z]
    exact h1 _ true rfl rfl (by rw [decide_eq_true (.inl h)])
  · rw [decide_eq_false h]
    simp only [bind_s, condL_t, condL_f, then3_s, cond_t, cond_f, saidL_bt, saidL_bf, saidL_u, cells_agg, size_agg, ld_g, ldn_g, ldB_s, ldG_str, ldG_int, ldG_bool, ldG_ptr, ldG_sl, get_z, get_s, pickL_t, pickL_f, notL_b, isPtr_p, fld_p, extL_t, lenSl_s, lenStr_s, isStr_s, cvI_s, newC_s, newS_s, endC_s, quiet_s, andV_s, bindR_v, int_eql, int_neq, int_lss, int_leq, int_gtr, int_geq, str_eql, str_neq, boolEq_s, not_t, not_f, Bool.true_and, Bool.false_and, Bool.and_true, Bool.and_false, Bool.true_or, Bool.false_or, beq_self_eq_true, Nat.zero_add, add_z]
    by_cases h5 : op = ⟨#[126]⟩
    · rw [decide_eq_true h5]; exact h1 _ true rfl rfl (by rw [decide_eq_true (.inr h5)])
    · rw [decide_eq_false h5]; exact h1 _ false rfl rfl (by rw [decide_eq_false (by rintro (h | h) <;> contradiction)])


def hasV (x : Int) (u : Bool) : Bool := decide (0 ≤ x) && (decide (x < 4) && (u || decide (x = 0)))

theorem run55 (m : Mem) (x : Int) (u : Bool) : run Pg E 55 [.int .i64 x, .bool u] m = some (.ret (.bool (hasV x u)), m) := by
  refine G_run rfl Tryd.func55 rfl (by kernel_rfl) (x55 _ _ _ _ ?_)
  unfold hasV
  simp only [bind_s, condL_t, condL_f, then3_s, cond_t, cond_f, saidL_bt, saidL_bf, saidL_u, cells_agg, size_agg, ld_g, ldn_g, ldB_s, ldG_str, ldG_int, ldG_bool, ldG_ptr, ldG_sl, get_z, get_s, pickL_t, pickL_f, notL_b, isPtr_p, fld_p, extL_t, lenSl_s, lenStr_s, isStr_s, cvI_s, newC_s, newS_s, endC_s, quiet_s, andV_s, bindR_v, int_eql, int_neq, int_lss, int_leq, int_gtr, int_geq, str_eql, str_neq, boolEq_s, not_t, not_f, Bool.true_and, Bool.false_and, Bool.and_true, Bool.and_false, Bool.true_or, Bool.false_or, beq_self_eq_true, Nat.zero_add, add_z]
  by_cases h1 : (0 : Int) ≤ x
  · simp only [h1, decide_true]
    simp only [bind_s, condL_t, condL_f, then3_s, cond_t, cond_f, saidL_bt, saidL_bf, saidL_u, cells_agg, size_agg, ld_g, ldn_g, ldB_s, ldG_str, ldG_int, ldG_bool, ldG_ptr, ldG_sl, get_z, get_s, pickL_t, pickL_f, notL_b, isPtr_p, fld_p, extL_t, lenSl_s, lenStr_s, isStr_s, cvI_s, newC_s, newS_s, endC_s, quiet_s, andV_s, bindR_v, int_eql, int_neq, int_lss, int_leq, int_gtr, int_geq, str_eql, str_neq, boolEq_s, not_t, not_f, Bool.true_and, Bool.false_and, Bool.and_true, Bool.and_false, Bool.true_or, Bool.false_or, beq_self_eq_true, Nat.zero_add, add_z]
    by_cases h2 : x < 4
    · simp only [h2, decide_true]
      simp only [bind_s, condL_t, condL_f, then3_s, cond_t, cond_f, saidL_bt, saidL_bf, saidL_u, cells_agg, size_agg, ld_g, ldn_g, ldB_s, ldG_str, ldG_int, ldG_bool, ldG_ptr, ldG_sl, get_z, get_s, pickL_t, pickL_f, notL_b, isPtr_p, fld_p, extL_t, lenSl_s, lenStr_s, isStr_s, cvI_s, newC_s, newS_s, endC_s, quiet_s, andV_s, bindR_v, int_eql, int_neq, int_lss, int_leq, int_gtr, int_geq, str_eql, str_neq, boolEq_s, not_t, not_f, Bool.true_and, Bool.false_and, Bool.and_true, Bool.and_false, Bool.true_or, Bool.false_or, beq_self_eq_true, Nat.zero_add, add_z]
      cases u
      · simp only [bind_s, condL_t, condL_f, then3_s, cond_t, cond_f, saidL_bt, saidL_bf, saidL_u, cells_agg, size_agg, ld_g, ldn_g, ldB_s, ldG_str, ldG_int, ldG_bool, ldG_ptr, ldG_sl, get_z, get_s, pickL_t, pickL_f, notL_b, isPtr_p, fld_p, extL_t, lenSl_s, lenStr_s, isStr_s, cvI_s, newC_s, newS_s, endC_s, quiet_s, andV_s, bindR_v, int_eql, int_neq, int_lss, int_leq, int_gtr, int_geq, str_eql, str_neq, boolEq_s, not_t, not_f, Bool.true_and, Bool.false_and, Bool.and_true, Bool.and_false, Bool.true_or, Bool.false_or, beq_self_eq_true, Nat.zero_add, add_z]
        exact retL_plain rfl rfl
      · simp only [bind_s, condL_t, condL_f, then3_s, cond_t, cond_f, saidL_bt, saidL_bf, saidL_u, cells_agg, size_agg, ld_g, ldn_g, ldB_s, ldG_str, ldG_int, ldG_bool, ldG_ptr, ldG_sl, get_z, get_s, pickL_t, pickL_f, notL_b, isPtr_p, fld_p, extL_t, lenSl_s, lenStr_s, isStr_s, cvI_s, newC_s, newS_s, endC_s, quiet_s, andV_s, bindR_v, int_eql, int_neq, int_lss, int_leq, int_gtr, int_geq, str_eql, str_neq, boolEq_s, not_t, not_f, Bool.true_and, Bool.false_and, Bool.and_true, Bool.and_false, Bool.true_or, Bool.false_or, beq_self_eq_true, Nat.zero_add, add_z]
        exact retL_plain rfl rfl
    · simp only [h2, decide_false]
      simp only [bind_s, condL_t, condL_f, then3_s, cond_t, cond_f, saidL_bt, saidL_bf, saidL_u, cells_agg, size_agg, ld_g, ldn_g, ldB_s, ldG_str, ldG_int, ldG_bool, ldG_ptr, ldG_sl, get_z, get_s, pickL_t, pickL_f, notL_b, isPtr_p, fld_p, extL_t, lenSl_s, lenStr_s, isStr_s, cvI_s, newC_s, newS_s, endC_s, quiet_s, andV_s, bindR_v, int_eql, int_neq, int_lss, int_leq, int_gtr, int_geq, str_eql, str_neq, boolEq_s, not_t, not_f, Bool.true_and, Bool.false_and, Bool.and_true, Bool.and_false, Bool.true_or, Bool.false_or, beq_self_eq_true, Nat.zero_add, add_z]
      exact retL_plain rfl rfl
  · simp only [h1, decide_false]
    simp only [bind_s, condL_t, condL_f, then3_s, cond_t, cond_f, saidL_bt, saidL_bf, saidL_u, cells_agg, size_agg, ld_g, ldn_g, ldB_s, ldG_str, ldG_int, ldG_bool, ldG_ptr, ldG_sl, get_z, get_s, pickL_t, pickL_f, notL_b, isPtr_p, fld_p, extL_t, lenSl_s, lenStr_s, isStr_s, cvI_s, newC_s, newS_s, endC_s, quiet_s, andV_s, bindR_v, int_eql, int_neq, int_lss, int_leq, int_gtr, int_geq, str_eql, str_neq, boolEq_s, not_t, not_f, Bool.true_and, Bool.false_and, Bool.and_true, Bool.and_false, Bool.true_or, Bool.false_or, beq_self_eq_true, Nat.zero_add, add_z]
    exact retL_plain rfl rfl

mutual
def sizeS : Tree → Int → Int → Int
  | .node op a b ks, left, deep =>
    if left < 1 ∨ deep < 1 ∨ kidsN op ≠ ks.length ∨ hasV a (decide (kidsN op = 0) || decide (op = ⟨#[69]⟩)) = false ∨ hasV b (decide (kidsN op = 0)) = false then -1 else sizeL ks (left - 1) (deep - 1)
def sizeL : List Tree → Int → Int → Int
  | [], left, _ => left
  | k :: ks, left, deep => if sizeS k left deep < 0 then -1 else sizeL ks (sizeS k left deep) deep
end

mutual
theorem sizeS_le : ∀ (T : Tree) (left deep : Int), sizeS T left deep ≤ left ∨ sizeS T left deep = -1
  | .node op a b ks, left, deep => by
    unfold sizeS
    split
    · exact .inr rfl
    · rcases sizeL_le ks (left - 1) (deep - 1) with h | h
      · exact .inl (by omega)
      · exact .inr h
theorem sizeL_le : ∀ (ks : List Tree) (left deep : Int), sizeL ks left deep ≤ left ∨ sizeL ks left deep = -1
  | [], left, deep => by unfold sizeL; exact .inl (Int.le_refl _)
  | k :: ks, left, deep => by
    unfold sizeL
    split
    · exact .inr rfl
    · rcases sizeL_le ks (sizeS k left deep) deep with h | h
      · rcases sizeS_le k left deep with h2 | h2
        · exact .inl (by omega)
        · omega
      · exact .inr h
end

theorem callQ_55 {α : Type} {m : Mem} {args : List Value} {K : Value → Mem → FP → Option α} : callQ E (run Pg E) false m (.func (.func 55) #[] #[]) args K = endD (run Pg E 55 (args ++ []) m.mark) m K := nr rfl

theorem if_pair {c : Bool} {a b : Value} {m : Mem} {x : Rec} : (bif c then some (a, m, x) else some (b, m, x)) = some ((bif c then a else b), m, x) := by cases c <;> rfl

set_option maxRecDepth 10000 in
mutual
theorem run42 : ∀ (T : Tree) (m : Mem) (v : Value) (left deep : Int), m.Ok → FormAt m T v → left ≤ 9000000000000000000 → deep ≤ 9000000000000000000 → run Pg E 42 [v, .int .i64 left, .int .i64 deep] m = some (.ret (.int .i64 (sizeS T left deep)), m)
  | .node op a b ks, m, v, left, deep, hm, hf, hl, hd => by
    have hf' := hf
    unfold FormAt at hf'
    obtain ⟨s, cs, rfl, hs, hk⟩ := hf'
    refine G_run rfl Tryd.func42 rfl (by kernel_rfl) (x42 _ _ _ _ _ ?_)
    unfold sizeS
    simp only [bind_s, condL_t, condL_f, then3_s, cond_t, cond_f, saidL_bt, saidL_bf, saidL_u, cells_agg, size_agg, ld_g, ldn_g, ldB_s, ldG_str, ldG_int, ldG_bool, ldG_ptr, ldG_sl, get_z, get_s, pickL_t, pickL_f, notL_b, isPtr_p, fld_p, extL_t, lenSl_s, lenStr_s, isStr_s, cvI_s, newC_s, newS_s, endC_s, quiet_s, andV_s, bindR_v, int_eql, int_neq, int_lss, int_leq, int_gtr, int_geq, str_eql, str_neq, boolEq_s, not_t, not_f, Bool.true_and, Bool.false_and, Bool.and_true, Bool.and_false, Bool.true_or, Bool.false_or, beq_self_eq_true, Nat.zero_add, add_z, get_push_n hm.mark, run56]
    by_cases h1 : left < 1
    · simp only [h1, decide_true, true_or, if_true]
      simp only [bind_s, condL_t, condL_f, then3_s, cond_t, cond_f, saidL_bt, saidL_bf, saidL_u, cells_agg, size_agg, ld_g, ldn_g, ldB_s, ldG_str, ldG_int, ldG_bool, ldG_ptr, ldG_sl, get_z, get_s, pickL_t, pickL_f, notL_b, isPtr_p, fld_p, extL_t, lenSl_s, lenStr_s, isStr_s, cvI_s, newC_s, newS_s, endC_s, quiet_s, andV_s, bindR_v, int_eql, int_neq, int_lss, int_leq, int_gtr, int_geq, str_eql, str_neq, boolEq_s, not_t, not_f, Bool.true_and, Bool.false_and, Bool.and_true, Bool.and_false, Bool.true_or, Bool.false_or, beq_self_eq_true, Nat.zero_add, add_z]
      exact retL_plain rfl rfl
    simp only [h1, decide_false, false_or]
    simp only [bind_s, condL_t, condL_f, then3_s, cond_t, cond_f, saidL_bt, saidL_bf, saidL_u, cells_agg, size_agg, ld_g, ldn_g, ldB_s, ldG_str, ldG_int, ldG_bool, ldG_ptr, ldG_sl, get_z, get_s, pickL_t, pickL_f, notL_b, isPtr_p, fld_p, extL_t, lenSl_s, lenStr_s, isStr_s, cvI_s, newC_s, newS_s, endC_s, quiet_s, andV_s, bindR_v, int_eql, int_neq, int_lss, int_leq, int_gtr, int_geq, str_eql, str_neq, boolEq_s, not_t, not_f, Bool.true_and, Bool.false_and, Bool.and_true, Bool.and_false, Bool.true_or, Bool.false_or, beq_self_eq_true, Nat.zero_add, add_z]
    by_cases h2 : deep < 1
    · simp only [h2, decide_true, true_or, if_true]
      simp only [bind_s, condL_t, condL_f, then3_s, cond_t, cond_f, saidL_bt, saidL_bf, saidL_u, cells_agg, size_agg, ld_g, ldn_g, ldB_s, ldG_str, ldG_int, ldG_bool, ldG_ptr, ldG_sl, get_z, get_s, pickL_t, pickL_f, notL_b, isPtr_p, fld_p, extL_t, lenSl_s, lenStr_s, isStr_s, cvI_s, newC_s, newS_s, endC_s, quiet_s, andV_s, bindR_v, int_eql, int_neq, int_lss, int_leq, int_gtr, int_geq, str_eql, str_neq, boolEq_s, not_t, not_f, Bool.true_and, Bool.false_and, Bool.and_true, Bool.and_false, Bool.true_or, Bool.false_or, beq_self_eq_true, Nat.zero_add, add_z]
      exact retL_plain rfl rfl
    simp only [h2, decide_false, false_or]
    simp only [bind_s, condL_t, condL_f, then3_s, cond_t, cond_f, saidL_bt, saidL_bf, saidL_u, cells_agg, size_agg, ld_g, ldn_g, ldB_s, ldG_str, ldG_int, ldG_bool, ldG_ptr, ldG_sl, get_z, get_s, pickL_t, pickL_f, notL_b, isPtr_p, fld_p, extL_t, lenSl_s, lenStr_s, isStr_s, cvI_s, newC_s, newS_s, endC_s, quiet_s, andV_s, bindR_v, int_eql, int_neq, int_lss, int_leq, int_gtr, int_geq, str_eql, str_neq, boolEq_s, not_t, not_f, Bool.true_and, Bool.false_and, Bool.and_true, Bool.and_false, Bool.true_or, Bool.false_or, beq_self_eq_true, Nat.zero_add, add_z, get_push_n hm.mark, hs.gs, hs.len, run56]
    by_cases h3 : kidsN op ≠ (ks.length : Int)
    · simp only [h3, decide_true, true_or, if_true, ne_eq, not_false_eq_true]
      simp only [bind_s, condL_t, condL_f, then3_s, cond_t, cond_f, saidL_bt, saidL_bf, saidL_u, cells_agg, size_agg, ld_g, ldn_g, ldB_s, ldG_str, ldG_int, ldG_bool, ldG_ptr, ldG_sl, get_z, get_s, pickL_t, pickL_f, notL_b, isPtr_p, fld_p, extL_t, lenSl_s, lenStr_s, isStr_s, cvI_s, newC_s, newS_s, endC_s, quiet_s, andV_s, bindR_v, int_eql, int_neq, int_lss, int_leq, int_gtr, int_geq, str_eql, str_neq, boolEq_s, not_t, not_f, Bool.true_and, Bool.false_and, Bool.and_true, Bool.and_false, Bool.true_or, Bool.false_or, beq_self_eq_true, Nat.zero_add, add_z]
      exact retL_plain rfl rfl
    simp only [h3, decide_false, false_or]
    have key : ∀ (ρ : Rho), ρ 56 = .int .i64 0 → ρ 55 = .int .i64 ks.length → ρ 54 = s → ρ 1 = .int .i64 (left - 1) → ρ 2 = .int .i64 deep →
        G Pg E 42 [1, 1, 1, 1, 1, 0, 1, 0] m ρ (m.mark.push (Blk.cells [.string op, .int .i64 a, .int .i64 b, s] 27 false)) = some (.ret (.int .i64 (sizeL ks (left - 1) (deep - 1))), m) := by
      intro ρ e1 e2 e3 e4 e5
      exact loop42 ks m s ks cs 0 (left - 1) deep ρ _ hm hs hk rfl (hm.mark.push _) ((Mem.Sub.mark m).trans (Mem.Sub.push hm.mark _)) rfl (by rw [next_push, next_mark]; omega) (by omega) (by omega) e1 e2 e3 e4 e5
    have hw : IntKind.i64.wrap (left - 1) = left - 1 := wrap_i64 (by omega) (by omega)
    generalize hA : decide (kidsN op = 0) = A
    generalize hB : decide (op = ⟨#[69]⟩) = B
    generalize hX : hasV a (A || B) = X
    generalize hY : hasV b A = Y
    cases A <;> cases B <;> cases X <;> cases Y <;> simp only [Bool.or_true, Bool.or_false, Bool.false_or, Bool.true_or] at hX <;>
      simp only [bind_s, condL_t, condL_f, then3_s, cond_t, cond_f, saidL_bt, saidL_bf, saidL_u, cells_agg, size_agg, ld_g, ldn_g, ldB_s, ldG_str, ldG_int, ldG_bool, ldG_ptr, ldG_sl, get_z, get_s, pickL_t, pickL_f, notL_b, isPtr_p, fld_p, extL_t, lenSl_s, lenStr_s, isStr_s, cvI_s, newC_s, newS_s, endC_s, quiet_s, andV_s, bindR_v, int_eql, int_neq, int_lss, int_leq, int_gtr, int_geq, str_eql, str_neq, boolEq_s, not_t, not_f, Bool.true_and, Bool.false_and, Bool.and_true, Bool.and_false, Bool.true_or, Bool.false_or, beq_self_eq_true, Nat.zero_add, add_z, get_push_n hm.mark, callQ_55, List.append_nil, run55, endD_s, relow_mark, hX, hY, hB, hs.gs, hs.len, int_sub, hw, Bool.false_eq_true, Bool.true_eq_false, or_true, true_or, or_false, false_or, if_true, if_false] <;>
      first
        | exact retL_plain rfl rfl
        | exact key _ rfl rfl rfl rfl rfl
theorem loop42 : ∀ (r : List Tree) (m : Mem) (s : Value) (ks : List Tree) (cs : List Value) (i : Nat) (left deep : Int) (ρ : Rho) (mm : Mem), m.Ok → SlAt m s 4 ks.length cs → FormsAt m ks cs → ks.drop i = r → mm.Ok → m.Sub mm → mm.clean m.next = true → m.next ≤ mm.next →
      left ≤ 9000000000000000000 → 1 ≤ deep ∧ deep ≤ 9000000000000000000 → ρ 56 = .int .i64 i → ρ 55 = .int .i64 ks.length → ρ 54 = s → ρ 1 = .int .i64 left → ρ 2 = .int .i64 deep →
      G Pg E 42 [1, 1, 1, 1, 1, 0, 1, 0] m ρ mm = some (.ret (.int .i64 (sizeL r left (deep - 1))), m)
  | [], m, s, ks, cs, i, left, deep, ρ, mm, hm, hs, hk, hr, hmm, hsub, hcl, hnx, hl, hd, e1, e2, e3, e4, e5 => by
    have hi : ks.length ≤ i := by simpa using hr
    refine x42_1_1_1_1_1_0_1_0 (x42_1_1_1_1_1_0_1_0_0 _ _ _ ?_)
    rw [e1, e2, e4]
    simp only [bind_s, condL_t, condL_f, then3_s, cond_t, cond_f, saidL_bt, saidL_bf, saidL_u, cells_agg, size_agg, ld_g, ldn_g, ldB_s, ldG_str, ldG_int, ldG_bool, ldG_ptr, ldG_sl, get_z, get_s, pickL_t, pickL_f, notL_b, isPtr_p, fld_p, extL_t, lenSl_s, lenStr_s, isStr_s, cvI_s, newC_s, newS_s, endC_s, quiet_s, andV_s, bindR_v, int_eql, int_neq, int_lss, int_leq, int_gtr, int_geq, str_eql, str_neq, boolEq_s, not_t, not_f, Bool.true_and, Bool.false_and, Bool.and_true, Bool.and_false, Bool.true_or, Bool.false_or, beq_self_eq_true, Nat.zero_add, add_z]
    rw [decide_eq_false (by omega)]
    simp only [bind_s, condL_t, condL_f, then3_s, cond_t, cond_f, saidL_bt, saidL_bf, saidL_u, cells_agg, size_agg, ld_g, ldn_g, ldB_s, ldG_str, ldG_int, ldG_bool, ldG_ptr, ldG_sl, get_z, get_s, pickL_t, pickL_f, notL_b, isPtr_p, fld_p, extL_t, lenSl_s, lenStr_s, isStr_s, cvI_s, newC_s, newS_s, endC_s, quiet_s, andV_s, bindR_v, int_eql, int_neq, int_lss, int_leq, int_gtr, int_geq, str_eql, str_neq, boolEq_s, not_t, not_f, Bool.true_and, Bool.false_and, Bool.and_true, Bool.and_false, Bool.true_or, Bool.false_or, beq_self_eq_true, Nat.zero_add, add_z]
    unfold sizeL
    exact retL_plain rfl hcl
  | k :: r, m, s, ks, cs, i, left, deep, ρ, mm, hm, hs, hk, hr, hmm, hsub, hcl, hnx, hl, hd, e1, e2, e3, e4, e5 => by
    have hi : i < ks.length := by
      rcases Nat.lt_or_ge i ks.length with h | h
      · exact h
      · rw [List.drop_eq_nil_of_le h] at hr; cases hr
    have hr2 : ks.drop (i + 1) = r := by rw [← List.drop_drop, hr]; rfl
    refine x42_1_1_1_1_1_0_1_0 (x42_1_1_1_1_1_0_1_0_0 _ _ _ ?_)
    rw [e1, e2, e3, e4, e5]
    obtain ⟨b, o, h1, all, e, g, h2, h3, h4, h40⟩ := hs.elem hi
    have h5 := SlAt.ldn (hsub _ _ h2) h3 h40
    rw [h4] at h5
    have hform := hk.at hr
    obtain ⟨kop, ka, kb, kks⟩ := k
    have hform2 := hform
    unfold FormAt at hform2
    obtain ⟨s2, cs2, hv, hs2, _⟩ := hform2
    simp only [Value.agg.injEq, Array.mk.injEq] at hv
    rw [hv] at h5 hform
    simp only [bind_s, condL_t, condL_f, then3_s, cond_t, cond_f, saidL_bt, saidL_bf, saidL_u, cells_agg, size_agg, ld_g, ldn_g, ldB_s, ldG_str, ldG_int, ldG_bool, ldG_ptr, ldG_sl, get_z, get_s, pickL_t, pickL_f, notL_b, isPtr_p, fld_p, extL_t, lenSl_s, lenStr_s, isStr_s, cvI_s, newC_s, newS_s, endC_s, quiet_s, andV_s, bindR_v, int_eql, int_neq, int_lss, int_leq, int_gtr, int_geq, str_eql, str_neq, boolEq_s, not_t, not_f, Bool.true_and, Bool.false_and, Bool.and_true, Bool.and_false, Bool.true_or, Bool.false_or, beq_self_eq_true, Nat.zero_add, add_z]
    rw [decide_eq_true (by omega)]
    simp only [bind_s, condL_t, condL_f, then3_s, cond_t, cond_f, saidL_bt, saidL_bf, saidL_u, cells_agg, size_agg, ld_g, ldn_g, ldB_s, ldG_str, ldG_int, ldG_bool, ldG_ptr, ldG_sl, get_z, get_s, pickL_t, pickL_f, notL_b, isPtr_p, fld_p, extL_t, lenSl_s, lenStr_s, isStr_s, cvI_s, newC_s, newS_s, endC_s, quiet_s, andV_s, bindR_v, int_eql, int_neq, int_lss, int_leq, int_gtr, int_geq, str_eql, str_neq, boolEq_s, not_t, not_f, Bool.true_and, Bool.false_and, Bool.and_true, Bool.and_false, Bool.true_or, Bool.false_or, beq_self_eq_true, Nat.zero_add, add_z, h1]
    rw [← ldn_g, h5]
    have hfl : [Value.string kop, .int .i64 ka, .int .i64 kb, s2].all flat = true := by simp only [List.all_cons, List.all_nil, hs2.flat]; rfl
    simp only [bind_s, condL_t, condL_f, then3_s, cond_t, cond_f, saidL_bt, saidL_bf, saidL_u, cells_agg, size_agg, ld_g, ldn_g, ldB_s, ldG_str, ldG_int, ldG_bool, ldG_ptr, ldG_sl, get_z, get_s, pickL_t, pickL_f, notL_b, isPtr_p, fld_p, extL_t, lenSl_s, lenStr_s, isStr_s, cvI_s, newC_s, newS_s, endC_s, quiet_s, andV_s, bindR_v, int_eql, int_neq, int_lss, int_leq, int_gtr, int_geq, str_eql, str_neq, boolEq_s, not_t, not_f, Bool.true_and, Bool.false_and, Bool.and_true, Bool.and_false, Bool.true_or, Bool.false_or, beq_self_eq_true, Nat.zero_add, add_z, stn_new hmm (z := [Value.string ⟨#[]⟩, .int .i64 0, .int .i64 0, .slice none 0 0]) (c := [Value.string kop, .int .i64 ka, .int .i64 kb, s2]) (n := 4) rfl rfl (by omega) hfl, get_new hmm, hs2.l4, int_sub, int_add]
    have hsub2 : m.Sub ((mm.push (.cells [Value.string ⟨#[]⟩, .int .i64 0, .int .i64 0, .slice none 0 0] 27 false)).put mm.next (some (.cells [Value.string kop, .int .i64 ka, .int .i64 kb, s2] 27 false))) := hsub.put_new hm hmm hnx _ _
    have hok2 : Mem.Ok ((mm.push (.cells [Value.string ⟨#[]⟩, .int .i64 0, .int .i64 0, .slice none 0 0] 27 false)).put mm.next (some (.cells [Value.string kop, .int .i64 ka, .int .i64 kb, s2] 27 false))) := (hmm.push _).put _ _
    have hcl2 : Mem.clean ((mm.push (.cells [Value.string ⟨#[]⟩, .int .i64 0, .int .i64 0, .slice none 0 0] 27 false)).put mm.next (some (.cells [Value.string kop, .int .i64 ka, .int .i64 kb, s2] 27 false))) m.next = true := clean_new hnx _ _ hcl
    have hnx2 : m.next ≤ Mem.next ((mm.push (.cells [Value.string ⟨#[]⟩, .int .i64 0, .int .i64 0, .slice none 0 0] 27 false)).put mm.next (some (.cells [Value.string kop, .int .i64 ka, .int .i64 kb, s2] 27 false))) := by rw [next_put, next_push]; omega
    generalize (mm.push (.cells [Value.string ⟨#[]⟩, .int .i64 0, .int .i64 0, .slice none 0 0] 27 false)).put mm.next (some (.cells [Value.string kop, .int .i64 ka, .int .i64 kb, s2] 27 false)) = m2 at hsub2 hok2 hcl2 hnx2 ⊢
    have hw : IntKind.i64.wrap (deep - 1) = deep - 1 := wrap_i64 (by omega) (by omega)
    have hle := sizeS_le (.node kop ka kb kks) left (deep - 1)
    have hn : i < 4611686018427387904 := by have := hs.2.1.1; omega
    rw [hw, run42 (.node kop ka kb kks) m2 _ left (deep - 1) hok2 (hform.sub hsub2) hl (by omega)]
    simp only [bind_s, condL_t, condL_f, then3_s, cond_t, cond_f, saidL_bt, saidL_bf, saidL_u, cells_agg, size_agg, ld_g, ldn_g, ldB_s, ldG_str, ldG_int, ldG_bool, ldG_ptr, ldG_sl, get_z, get_s, pickL_t, pickL_f, notL_b, isPtr_p, fld_p, extL_t, lenSl_s, lenStr_s, isStr_s, cvI_s, newC_s, newS_s, endC_s, quiet_s, andV_s, bindR_v, int_eql, int_neq, int_lss, int_leq, int_gtr, int_geq, str_eql, str_neq, boolEq_s, not_t, not_f, Bool.true_and, Bool.false_and, Bool.and_true, Bool.and_false, Bool.true_or, Bool.false_or, beq_self_eq_true, Nat.zero_add, add_z, wrap_nat hn]
    unfold sizeL
    by_cases h9 : sizeS (.node kop ka kb kks) left (deep - 1) < 0
    · rw [decide_eq_true h9, if_pos h9]
      simp only [bind_s, condL_t, condL_f, then3_s, cond_t, cond_f, saidL_bt, saidL_bf, saidL_u, cells_agg, size_agg, ld_g, ldn_g, ldB_s, ldG_str, ldG_int, ldG_bool, ldG_ptr, ldG_sl, get_z, get_s, pickL_t, pickL_f, notL_b, isPtr_p, fld_p, extL_t, lenSl_s, lenStr_s, isStr_s, cvI_s, newC_s, newS_s, endC_s, quiet_s, andV_s, bindR_v, int_eql, int_neq, int_lss, int_leq, int_gtr, int_geq, str_eql, str_neq, boolEq_s, not_t, not_f, Bool.true_and, Bool.false_and, Bool.and_true, Bool.and_false, Bool.true_or, Bool.false_or, beq_self_eq_true, Nat.zero_add, add_z]
      exact retL_plain rfl hcl2
    · rw [decide_eq_false h9, if_neg h9]
      simp only [bind_s, condL_t, condL_f, then3_s, cond_t, cond_f, saidL_bt, saidL_bf, saidL_u, cells_agg, size_agg, ld_g, ldn_g, ldB_s, ldG_str, ldG_int, ldG_bool, ldG_ptr, ldG_sl, get_z, get_s, pickL_t, pickL_f, notL_b, isPtr_p, fld_p, extL_t, lenSl_s, lenStr_s, isStr_s, cvI_s, newC_s, newS_s, endC_s, quiet_s, andV_s, bindR_v, int_eql, int_neq, int_lss, int_leq, int_gtr, int_geq, str_eql, str_neq, boolEq_s, not_t, not_f, Bool.true_and, Bool.false_and, Bool.and_true, Bool.and_false, Bool.true_or, Bool.false_or, beq_self_eq_true, Nat.zero_add, add_z]
      exact loop42 r m s ks cs (i + 1) _ deep _ m2 hm hs hk hr2 hok2 hsub2 hcl2 hnx2 (by omega) hd rfl e2 e3 rfl e5
end

end Go.Proofs.YtfdfickokkokmaaDoor
