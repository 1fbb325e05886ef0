/- Contracts: Text of the reference. -/
import Derived.Test.YtfdfickokkokmaaDoorPg
set_option linter.unusedSimpArgs false
set_option linter.unusedVariables false
namespace Go.Proofs.YtfdfickokkokmaaDoor
open Go Go.D

attribute [local congr] bind_c cond_c condL_c then3_c andV_c bindR_c endC_c endD_c quiet_c newC_c newS_c callC_c callQ_c

theorem slStr_letter (x : Int) (h : 0 ≤ x ∧ x < 4) : slStr (.string ⟨#[97, 98, 99, 100]⟩) (some (.int .i64 x)) (some (.int .i64 (x + 1))) none = some (.string (letterB x)) := by
  have h4 : (ByteArray.size ⟨#[97, 98, 99, 100]⟩) = 4 := rfl
  simp only [slStr, bnds, boundO, bound, h4]
  rw [if_pos ⟨by omega, by omega⟩]
  simp only []
  rw [if_pos ⟨by omega, by omega⟩]
  simp only []
  rw [if_pos ⟨by omega, by omega, by omega⟩]
  simp only [letterB]
  rw [show (x + 1).toNat = x.toNat + 1 by omega]

theorem ba_eq {x : ByteArray} {l : List UInt8} (h : x.data.toList = l) : x = ⟨⟨l⟩⟩ := by subst h; rfl
theorem ba_size (l : List UInt8) : (ByteArray.size ⟨⟨l⟩⟩) = l.length := rfl

set_option maxRecDepth 10000 in
theorem run11 : ∀ (n : Nat) (T : Tree), SizeOf.sizeOf T < n → ∀ (m : Mem) (v : Value), m.Ok → FormAt m T v → shapedS T = true → nodes T ≤ 2000 → run Pg E 11 [v] m = some (.ret (.string ⟨⟨textS T⟩⟩), m)
  | 0, T, h => by omega
  | n + 1, .node op a b ks, hn => by
    intro m v hm hf hsh hnod
    have hlen := text_len (.node op a b ks) hsh
    obtain ⟨s, cs, rfl, hs, hk⟩ := form_cells hf
    unfold shapedS at hsh
    simp only [Bool.and_eq_true, decide_eq_true_eq] at hsh
    obtain ⟨q1, q2, q3, q4⟩ := hsh
    have ha := hasV_of q2
    have hb := hasV_of q3
    have hla := letter_len ha
    have hlb := letter_len hb
    have hnodL : nodesL ks + 1 ≤ 2000 := by unfold nodes at hnod; exact hnod
    have hok1 := hm.mark.push (.cells [.string op, .int .i64 a, .int .i64 b, s] 24 false)
    have hsub1 := (Mem.Sub.mark m).trans (Mem.Sub.push hm.mark (.cells [.string op, .int .i64 a, .int .i64 b, s] 24 false))
    have hg : (m.mark.push (.cells [.string op, .int .i64 a, .int .i64 b, s] 24 false)).get m.next = some (.cells [.string op, .int .i64 a, .int .i64 b, s] 24 false) := get_push_n hm.mark _
    have hcl : (m.mark.push (.cells [.string op, .int .i64 a, .int .i64 b, s] 24 false)).clean m.next = true := rfl
    have main : ∀ (ρ : Rho), ρ 19 = .bool (decide (op = ⟨#[61]⟩ ∨ op = ⟨#[126]⟩)) → ρ 18 = .string op → ρ 1 = ptr m.next 0 → ρ 3 = .string (letterB a) → ρ 4 = .string (letterB b) →
        G Pg E 11 [1, 1, 0, 1, 0, 1] m ρ (m.mark.push (.cells [.string op, .int .i64 a, .int .i64 b, s] 24 false)) = some (.ret (.string ⟨⟨textS (.node op a b ks)⟩⟩), m) := by
      generalize m.mark.push (.cells [.string op, .int .i64 a, .int .i64 b, s] 24 false) = mB at *
      intro ρ e19 e18 e1 e3 e4
      by_cases c1 : op = ⟨#[61]⟩ ∨ op = ⟨#[126]⟩
      · have hops : op.size = 1 := by rcases c1 with rfl | rfl <;> rfl
        have htx : textS (.node op a b ks) = letterL a ++ op.data.toList ++ letterL b := by unfold textS; simp only [c1, if_true]
        refine x11_1_1_0_1_0_1 _ _ _ ?_
        rw [e19, e1, e3, e4, decide_eq_true c1]
        simp only [bind_s, condL_t, condL_f, then3_s, cond_t, cond_f, saidL_bt, saidL_bf, saidL_u, cells_agg, size_agg, ld_g, ldn_g, ldB_s, ldG_str, ldG_int, ldG_bool, ldG_ptr, ldG_sl, get_z, get_s, pickL_t, pickL_f, notL_b, isPtr_p, fld_p, extL_t, lenSl_s, lenStr_s, isStr_s, cvI_s, newC_s, newS_s, endC_s, quiet_s, andV_s, bindR_v, int_eql, int_neq, int_lss, int_leq, int_gtr, int_geq, str_eql, str_neq, boolEq_s, not_t, not_f, Bool.true_and, Bool.false_and, Bool.and_true, Bool.and_false, Bool.true_or, Bool.false_or, beq_self_eq_true, Nat.zero_add, add_z, hg, str_add_s (letterB a) op (by omega), str_add_s (letterB a ++ op) (letterB b) (by rw [add_size]; omega)]
        have : letterB a ++ op ++ letterB b = ⟨⟨textS (.node op a b ks)⟩⟩ := ba_eq (by rw [htx, add_data, add_data]; rfl)
        rw [this]
        exact retL_plain rfl hcl
      · by_cases c2 : op = ⟨#[33]⟩
        · have hkn : kidsN op = 1 := by unfold kidsN; rw [if_neg c1, if_pos (.inl c2)]
          obtain ⟨k, rfl⟩ : ∃ k, ks = [k] := by
            match ks, q1 with
            | [k], _ => exact ⟨k, rfl⟩
            | [], q1 => rw [hkn] at q1; simp at q1
            | _ :: _ :: _, q1 => rw [hkn] at q1; simp at q1; omega
          have htx : textS (.node op a b [k]) = [33] ++ textS k := by
            rw [textS]; simp only [textL, List.getD_cons_zero]; rw [if_neg c1, if_pos c2]
          obtain ⟨bb, o, kv, i1, i2, hkf⟩ := kid_get (i := 0) hs hk rfl hsub1
          have hi1 : ixS 4 s (.int .i64 0) = some (ptr bb o) := i1
          have hks : shapedS k = true := by simpa [shapedL] using q4
          have hkn2 : nodes k ≤ 2000 := by simp only [nodesL] at hnodL; omega
          have hkl := text_len k hks
          have hadd := str_add_s ⟨#[33]⟩ ⟨⟨textS k⟩⟩ (by rw [ba_size (textS k)]; show 1 + _ ≤ _; omega)
          refine x11_1_1_0_1_0_1 _ _ _ ?_
          rw [e19, e18, e1, decide_eq_false c1]
          simp only [bind_s, condL_t, condL_f, then3_s, cond_t, cond_f, saidL_bt, saidL_bf, saidL_u, cells_agg, size_agg, ld_g, ldn_g, ldB_s, ldG_str, ldG_int, ldG_bool, ldG_ptr, ldG_sl, get_z, get_s, pickL_t, pickL_f, notL_b, isPtr_p, fld_p, extL_t, lenSl_s, lenStr_s, isStr_s, cvI_s, newC_s, newS_s, endC_s, quiet_s, andV_s, bindR_v, int_eql, int_neq, int_lss, int_leq, int_gtr, int_geq, str_eql, str_neq, boolEq_s, not_t, not_f, Bool.true_and, Bool.false_and, Bool.and_true, Bool.and_false, Bool.true_or, Bool.false_or, beq_self_eq_true, Nat.zero_add, add_z]
          rw [decide_eq_true c2]
          simp only [bind_s, condL_t, condL_f, then3_s, cond_t, cond_f, saidL_bt, saidL_bf, saidL_u, cells_agg, size_agg, ld_g, ldn_g, ldB_s, ldG_str, ldG_int, ldG_bool, ldG_ptr, ldG_sl, get_z, get_s, pickL_t, pickL_f, notL_b, isPtr_p, fld_p, extL_t, lenSl_s, lenStr_s, isStr_s, cvI_s, newC_s, newS_s, endC_s, quiet_s, andV_s, bindR_v, int_eql, int_neq, int_lss, int_leq, int_gtr, int_geq, str_eql, str_neq, boolEq_s, not_t, not_f, Bool.true_and, Bool.false_and, Bool.and_true, Bool.and_false, Bool.true_or, Bool.false_or, beq_self_eq_true, Nat.zero_add, add_z, hg, hs.gs, hi1, i2, run11 n k (by simp at hn; omega) _ _ hok1 (hkf.sub hsub1) hks hkn2, hadd]
          have : (⟨#[33]⟩ ++ ⟨⟨textS k⟩⟩ : ByteArray) = ⟨⟨textS (.node op a b [k])⟩⟩ := ba_eq (by rw [htx, add_data])
          rw [this]
          exact retL_plain rfl hcl
        · by_cases c3 : op = ⟨#[69]⟩
          · have hkn : kidsN op = 1 := by unfold kidsN; rw [if_neg c1, if_pos (.inr c3)]
            obtain ⟨k, rfl⟩ : ∃ k, ks = [k] := by
              match ks, q1 with
              | [k], _ => exact ⟨k, rfl⟩
              | [], q1 => rw [hkn] at q1; simp at q1
              | _ :: _ :: _, q1 => rw [hkn] at q1; simp at q1; omega
            have htx : textS (.node op a b [k]) = [69] ++ letterL a ++ [32] ++ textS k := by
              rw [textS]; simp only [textL, List.getD_cons_zero]; rw [if_neg c1, if_neg c2, if_pos c3]
            obtain ⟨bb, o, kv, i1, i2, hkf⟩ := kid_get (i := 0) hs hk rfl hsub1
            have hi1 : ixS 4 s (.int .i64 0) = some (ptr bb o) := i1
            have hks : shapedS k = true := by simpa [shapedL] using q4
            have hkn2 : nodes k ≤ 2000 := by simp only [nodesL] at hnodL; omega
            have hkl := text_len k hks
            have e69 : (ByteArray.size ⟨#[69]⟩) = 1 := rfl
            have e32 : (ByteArray.size ⟨#[32]⟩) = 1 := rfl
            have hadd1 := str_add_s ⟨#[69]⟩ (letterB a) (by rw [hla, e69]; omega)
            have hadd2 := str_add_s (⟨#[69]⟩ ++ letterB a) ⟨#[32]⟩ (by rw [add_size, hla, e69, e32]; omega)
            have hadd3 := str_add_s (⟨#[69]⟩ ++ letterB a ++ ⟨#[32]⟩) ⟨⟨textS k⟩⟩ (by rw [add_size, add_size, hla, e69, e32, ba_size (textS k)]; omega)
            refine x11_1_1_0_1_0_1 _ _ _ ?_
            rw [e19, e18, e1, e3, decide_eq_false c1]
            simp only [bind_s, condL_t, condL_f, then3_s, cond_t, cond_f, saidL_bt, saidL_bf, saidL_u, cells_agg, size_agg, ld_g, ldn_g, ldB_s, ldG_str, ldG_int, ldG_bool, ldG_ptr, ldG_sl, get_z, get_s, pickL_t, pickL_f, notL_b, isPtr_p, fld_p, extL_t, lenSl_s, lenStr_s, isStr_s, cvI_s, newC_s, newS_s, endC_s, quiet_s, andV_s, bindR_v, int_eql, int_neq, int_lss, int_leq, int_gtr, int_geq, str_eql, str_neq, boolEq_s, not_t, not_f, Bool.true_and, Bool.false_and, Bool.and_true, Bool.and_false, Bool.true_or, Bool.false_or, beq_self_eq_true, Nat.zero_add, add_z]
            rw [decide_eq_false c2]
            simp only [bind_s, condL_t, condL_f, then3_s, cond_t, cond_f, saidL_bt, saidL_bf, saidL_u, cells_agg, size_agg, ld_g, ldn_g, ldB_s, ldG_str, ldG_int, ldG_bool, ldG_ptr, ldG_sl, get_z, get_s, pickL_t, pickL_f, notL_b, isPtr_p, fld_p, extL_t, lenSl_s, lenStr_s, isStr_s, cvI_s, newC_s, newS_s, endC_s, quiet_s, andV_s, bindR_v, int_eql, int_neq, int_lss, int_leq, int_gtr, int_geq, str_eql, str_neq, boolEq_s, not_t, not_f, Bool.true_and, Bool.false_and, Bool.and_true, Bool.and_false, Bool.true_or, Bool.false_or, beq_self_eq_true, Nat.zero_add, add_z]
            rw [decide_eq_true c3]
            simp only [bind_s, condL_t, condL_f, then3_s, cond_t, cond_f, saidL_bt, saidL_bf, saidL_u, cells_agg, size_agg, ld_g, ldn_g, ldB_s, ldG_str, ldG_int, ldG_bool, ldG_ptr, ldG_sl, get_z, get_s, pickL_t, pickL_f, notL_b, isPtr_p, fld_p, extL_t, lenSl_s, lenStr_s, isStr_s, cvI_s, newC_s, newS_s, endC_s, quiet_s, andV_s, bindR_v, int_eql, int_neq, int_lss, int_leq, int_gtr, int_geq, str_eql, str_neq, boolEq_s, not_t, not_f, Bool.true_and, Bool.false_and, Bool.and_true, Bool.and_false, Bool.true_or, Bool.false_or, beq_self_eq_true, Nat.zero_add, add_z, hg, hs.gs, hi1, i2, run11 n k (by simp at hn; omega) _ _ hok1 (hkf.sub hsub1) hks hkn2, hadd1, hadd2, hadd3]
            have : (⟨#[69]⟩ ++ letterB a ++ ⟨#[32]⟩ ++ ⟨⟨textS k⟩⟩ : ByteArray) = ⟨⟨textS (.node op a b [k])⟩⟩ := ba_eq (by rw [htx, add_data, add_data, add_data]; rfl)
            rw [this]
            exact retL_plain rfl hcl
          · have c4 : op = ⟨#[38]⟩ := by
              rcases kidsN_pos (show 0 ≤ kidsN op by omega) with h | h | h | h
              · exact absurd h c1
              · exact absurd h c2
              · exact absurd h c3
              · exact h
            have hkn : kidsN op = 2 := by unfold kidsN; rw [if_neg c1, if_neg (by rintro (h | h) <;> contradiction), if_pos c4]
            obtain ⟨k, k2, rfl⟩ : ∃ k k2, ks = [k, k2] := by
              match ks, q1 with
              | [k, k2], _ => exact ⟨k, k2, rfl⟩
              | [], q1 => rw [hkn] at q1; simp at q1
              | [_], q1 => rw [hkn] at q1; simp at q1
              | _ :: _ :: _ :: _, q1 => rw [hkn] at q1; simp at q1; omega
            have htx : textS (.node op a b [k, k2]) = [40] ++ textS k ++ [38] ++ textS k2 ++ [41] := by
              rw [textS]; simp only [textL, List.getD_cons_zero, List.getD_cons_succ]; rw [if_neg c1, if_neg c2, if_neg c3, if_pos c4]
            simp only [shapedL, Bool.and_true, Bool.and_eq_true] at q4
            have hp1 := nodes_pos k
            have hp2 := nodes_pos k2
            have hkn1 : nodes k ≤ 2000 := by simp only [nodesL] at hnodL; omega
            have hkn2 : nodes k2 ≤ 2000 := by simp only [nodesL] at hnodL; omega
            have hkl1 := text_len k q4.1
            have hkl2 := text_len k2 q4.2
            obtain ⟨bb, o, kv, i1, i2, hkf⟩ := kid_get (i := 0) hs hk rfl hsub1
            obtain ⟨bb5, o5, kv5, j1, j2, hkf5⟩ := kid_get (i := 1) hs hk rfl hsub1
            have hi1 : ixS 4 s (.int .i64 0) = some (ptr bb o) := i1
            have hj1 : ixS 4 s (.int .i64 1) = some (ptr bb5 o5) := j1
            have hadd1 := str_add_s ⟨#[40]⟩ ⟨⟨textS k⟩⟩ (by rw [ba_size (textS k)]; show 1 + _ ≤ _; omega)
            have hadd2 := str_add_s (⟨#[40]⟩ ++ ⟨⟨textS k⟩⟩) ⟨#[38]⟩ (by rw [add_size, ba_size (textS k)]; show 1 + _ + 1 ≤ _; omega)
            have hadd3 := str_add_s (⟨#[40]⟩ ++ ⟨⟨textS k⟩⟩ ++ ⟨#[38]⟩) ⟨⟨textS k2⟩⟩ (by rw [add_size, add_size, ba_size (textS k), ba_size (textS k2)]; show 1 + _ + 1 + _ ≤ _; omega)
            have hadd4 := str_add_s (⟨#[40]⟩ ++ ⟨⟨textS k⟩⟩ ++ ⟨#[38]⟩ ++ ⟨⟨textS k2⟩⟩) ⟨#[41]⟩ (by rw [add_size, add_size, add_size, ba_size (textS k), ba_size (textS k2)]; show 1 + _ + 1 + _ + 1 ≤ _; omega)
            refine x11_1_1_0_1_0_1 _ _ _ ?_
            rw [e19, e18, e1, decide_eq_false c1]
            simp only [bind_s, condL_t, condL_f, then3_s, cond_t, cond_f, saidL_bt, saidL_bf, saidL_u, cells_agg, size_agg, ld_g, ldn_g, ldB_s, ldG_str, ldG_int, ldG_bool, ldG_ptr, ldG_sl, get_z, get_s, pickL_t, pickL_f, notL_b, isPtr_p, fld_p, extL_t, lenSl_s, lenStr_s, isStr_s, cvI_s, newC_s, newS_s, endC_s, quiet_s, andV_s, bindR_v, int_eql, int_neq, int_lss, int_leq, int_gtr, int_geq, str_eql, str_neq, boolEq_s, not_t, not_f, Bool.true_and, Bool.false_and, Bool.and_true, Bool.and_false, Bool.true_or, Bool.false_or, beq_self_eq_true, Nat.zero_add, add_z]
            rw [decide_eq_false c2]
            simp only [bind_s, condL_t, condL_f, then3_s, cond_t, cond_f, saidL_bt, saidL_bf, saidL_u, cells_agg, size_agg, ld_g, ldn_g, ldB_s, ldG_str, ldG_int, ldG_bool, ldG_ptr, ldG_sl, get_z, get_s, pickL_t, pickL_f, notL_b, isPtr_p, fld_p, extL_t, lenSl_s, lenStr_s, isStr_s, cvI_s, newC_s, newS_s, endC_s, quiet_s, andV_s, bindR_v, int_eql, int_neq, int_lss, int_leq, int_gtr, int_geq, str_eql, str_neq, boolEq_s, not_t, not_f, Bool.true_and, Bool.false_and, Bool.and_true, Bool.and_false, Bool.true_or, Bool.false_or, beq_self_eq_true, Nat.zero_add, add_z]
            rw [decide_eq_false c3]
            simp only [bind_s, condL_t, condL_f, then3_s, cond_t, cond_f, saidL_bt, saidL_bf, saidL_u, cells_agg, size_agg, ld_g, ldn_g, ldB_s, ldG_str, ldG_int, ldG_bool, ldG_ptr, ldG_sl, get_z, get_s, pickL_t, pickL_f, notL_b, isPtr_p, fld_p, extL_t, lenSl_s, lenStr_s, isStr_s, cvI_s, newC_s, newS_s, endC_s, quiet_s, andV_s, bindR_v, int_eql, int_neq, int_lss, int_leq, int_gtr, int_geq, str_eql, str_neq, boolEq_s, not_t, not_f, Bool.true_and, Bool.false_and, Bool.and_true, Bool.and_false, Bool.true_or, Bool.false_or, beq_self_eq_true, Nat.zero_add, add_z]
            refine x11_1_1_1 _ _ _ ?_
            simp only [put_look, Nat.reduceEqDiff, reduceIte, e1]
            simp only [bind_s, condL_t, condL_f, then3_s, cond_t, cond_f, saidL_bt, saidL_bf, saidL_u, cells_agg, size_agg, ld_g, ldn_g, ldB_s, ldG_str, ldG_int, ldG_bool, ldG_ptr, ldG_sl, get_z, get_s, pickL_t, pickL_f, notL_b, isPtr_p, fld_p, extL_t, lenSl_s, lenStr_s, isStr_s, cvI_s, newC_s, newS_s, endC_s, quiet_s, andV_s, bindR_v, int_eql, int_neq, int_lss, int_leq, int_gtr, int_geq, str_eql, str_neq, boolEq_s, not_t, not_f, Bool.true_and, Bool.false_and, Bool.and_true, Bool.and_false, Bool.true_or, Bool.false_or, beq_self_eq_true, Nat.zero_add, add_z, hg, hs.gs, hi1, i2, run11 n k (by simp at hn; omega) _ _ hok1.mark (hkf.sub (hsub1.trans (Mem.Sub.mark _))) q4.1 hkn1, hj1, j2, run11 n k2 (by simp at hn; omega) _ _ hok1.mark (hkf5.sub (hsub1.trans (Mem.Sub.mark _))) q4.2 hkn2, endD_s, relow_mark, hadd1, hadd2, hadd3, hadd4]
            have : (⟨#[40]⟩ ++ ⟨⟨textS k⟩⟩ ++ ⟨#[38]⟩ ++ ⟨⟨textS k2⟩⟩ ++ ⟨#[41]⟩ : ByteArray) = ⟨⟨textS (.node op a b [k, k2])⟩⟩ := ba_eq (by rw [htx, add_data, add_data, add_data, add_data])
            rw [this]
            exact retL_plain rfl hcl
    refine G_run rfl Tryd.func11 rfl (by kernel_rfl) (x11 _ _ _ ?_)
    simp only [bind_s, condL_t, condL_f, then3_s, cond_t, cond_f, saidL_bt, saidL_bf, saidL_u, cells_agg, size_agg, ld_g, ldn_g, ldB_s, ldG_str, ldG_int, ldG_bool, ldG_ptr, ldG_sl, get_z, get_s, pickL_t, pickL_f, notL_b, isPtr_p, fld_p, extL_t, lenSl_s, lenStr_s, isStr_s, cvI_s, newC_s, newS_s, endC_s, quiet_s, andV_s, bindR_v, int_eql, int_neq, int_lss, int_leq, int_gtr, int_geq, str_eql, str_neq, boolEq_s, not_t, not_f, Bool.true_and, Bool.false_and, Bool.and_true, Bool.and_false, Bool.true_or, Bool.false_or, beq_self_eq_true, Nat.zero_add, add_z, next_mark, hg, int_add, wrap_i64 (x := a + 1) (by omega) (by omega), wrap_i64 (x := b + 1) (by omega) (by omega), slStr_letter a ha, slStr_letter b hb]
    by_cases c1 : op = ⟨#[61]⟩
    · rw [decide_eq_true c1]
      exact main _ (by rw [decide_eq_true (.inl c1)]; rfl) rfl rfl rfl rfl
    · rw [decide_eq_false c1]
      simp only [bind_s, condL_t, condL_f, then3_s, cond_t, cond_f, saidL_bt, saidL_bf, saidL_u, cells_agg, size_agg, ld_g, ldn_g, ldB_s, ldG_str, ldG_int, ldG_bool, ldG_ptr, ldG_sl, get_z, get_s, pickL_t, pickL_f, notL_b, isPtr_p, fld_p, extL_t, lenSl_s, lenStr_s, isStr_s, cvI_s, newC_s, newS_s, endC_s, quiet_s, andV_s, bindR_v, int_eql, int_neq, int_lss, int_leq, int_gtr, int_geq, str_eql, str_neq, boolEq_s, not_t, not_f, Bool.true_and, Bool.false_and, Bool.and_true, Bool.and_false, Bool.true_or, Bool.false_or, beq_self_eq_true, Nat.zero_add, add_z]
      refine main _ ?_ rfl rfl rfl rfl
      have : decide (op = ⟨#[61]⟩ ∨ op = ⟨#[126]⟩) = decide (op = ⟨#[126]⟩) := by simp [c1]
      rw [this]; rfl

end Go.Proofs.YtfdfickokkokmaaDoor
