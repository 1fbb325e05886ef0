/- Contracts: write, print, Print. -/
import Derived.Test.YtfdfickokkokmaaDoorPd
set_option linter.unusedSimpArgs false
set_option linter.unusedVariables false
namespace Go.Proofs.YtfdfickokkokmaaDoor
open Go Go.D

attribute [local congr] bind_c cond_c condL_c then3_c andV_c bindR_c endC_c endD_c quiet_c newC_c newS_c callC_c callQ_c

theorem retL_dirty {m m' : Mem} {v : Value} (hc : m'.clean m.next = false) : retL m v m' = some (.ret v, m'.relow m) := by
  unfold retL; rw [hc, Bool.and_false]; rfl

theorem dirty_of {m' : Mem} {b n : Nat} (h : b ∈ m'.low) (hb : b < n) : m'.clean n = false := by
  rw [Bool.eq_false_iff]
  intro hc
  have := List.all_eq_true.1 hc b h
  rw [Nat.ble_eq] at this; omega

theorem low_relow {m m' : Mem} {b : Nat} (h : b ∈ m'.low) (hb : b < m.next) : b ∈ (m'.relow m).low :=
  List.mem_append_left _ (List.mem_filter.2 ⟨h, by rw [Nat.blt_eq]; exact hb⟩)

/-- How a call ends that wrote into a builder. -/
theorem bld_ret {m0 m m' : Mem} {b : Nat} {l l' : List UInt8} {v : Value} (h : Bld 81 5 m0 m b l) (h' : Bld 81 5 m0 m' b l') (hb : b ∈ m'.low) :
    retL m v m' = some (.ret v, m'.relow m) ∧ Bld 81 5 m0 (m'.relow m) b l' ∧ b ∈ (m'.relow m).low :=
  ⟨retL_dirty (dirty_of hb h.hi), h'.relow h.clean, low_relow hb h.hi⟩

/-- What a writer leaves. -/
structure Wrote (m0 m m' : Mem) (b : Nat) (l' : List UInt8) : Prop where
  bld : Bld 81 5 m0 m' b l'
  keeps : Keeps 5 m m' b
  low : b ∈ m'.low

theorem run57w {m0 m : Mem} {b : Nat} {l : List UInt8} (h : Bld 81 5 m0 m b l) (s : ByteArray) (hs : l.length + s.size ≤ 140737488355328) :
    ∃ m', run Pg E 57 [ptr b 0, .string s] m = some (.ret (.tuple #[.int .i64 s.size, .nilIface]), m') ∧ Wrote m0 m m' b (l ++ s.data.toList) := by
  obtain ⟨m', h1, h2, h3, h4⟩ := run57 h s hs
  exact ⟨m', h1, h2, h3, h4⟩

theorem eq_lit {op : ByteArray} {l : List UInt8} (h : op = ⟨⟨l⟩⟩) : op.data.toList = l := by rw [h]

theorem size_list (s : ByteArray) : s.data.toList.length = s.size := rfl
theorem add_data (a b : ByteArray) : (a ++ b).data.toList = a.data.toList ++ b.data.toList := by simp
theorem add_size (a b : ByteArray) : (a ++ b).size = a.size + b.size := by simp

theorem str_add_s (a b : ByteArray) (h : a.size + b.size ≤ 1000000) : strL .add (.string a) (.string b) = some (.string (a ++ b)) :=
  str_add a b (by have : IntKind.i64.max = 9223372036854775807 := rfl; omega)

set_option maxRecDepth 10000 in
theorem run43 : ∀ (n : Nat) (T : Tree), SizeOf.sizeOf T < n → ∀ (m0 m : Mem) (v : Value) (b : Nat) (l : List UInt8), Bld 81 5 m0 m b l → FormAt m0 T v → shapedS T = true → l.length + (textS T).length ≤ 140737488355328 →
    ∃ m', run Pg E 43 [v, ptr b 0] m = some (.ret (.tuple #[]), m') ∧ Wrote m0 m m' b (l ++ textS T)
  | 0, T, h => by omega
  | n + 1, .node op a b2 ks, hn => by
    intro m0 m v b l hB hf hsh hlen
    obtain ⟨s, cs, rfl, hs, hk⟩ := form_cells hf
    unfold shapedS at hsh
    simp only [Bool.and_eq_true, decide_eq_true_eq] at hsh
    obtain ⟨q1, q2, q3, q4⟩ := hsh
    have ha := hasV_of q2
    have hb := hasV_of q3
    have hla := letter_len ha
    have hlb := letter_len hb
    -- the memory with the formula in a box
    have hB1 := hB.mark.push (.cells [.string op, .int .i64 a, .int .i64 b2, s] 27 false)
    have hg1 : (m.mark.push (.cells [.string op, .int .i64 a, .int .i64 b2, s] 27 false)).get m.next = some (.cells [.string op, .int .i64 a, .int .i64 b2, s] 27 false) := get_push_n hB.ok.mark _
    have hk1 : Keeps 5 m (m.mark.push (.cells [.string op, .int .i64 a, .int .i64 b2, s] 27 false)) b := Keeps.push hB.ok.mark _ b
    have hne : m.next ≠ b := by have := hB.hi; omega
    have hx : ∀ cs, Blk.cells [.string op, .int .i64 a, .int .i64 b2, s] 27 false ≠ .cells cs 5 true := by intro cs h; cases h
    have stay : ∀ {m1 m2 : Mem}, m1.get m.next = some (.cells [.string op, .int .i64 a, .int .i64 b2, s] 27 false) → Keeps 5 m1 m2 b → m2.get m.next = some (.cells [.string op, .int .i64 a, .int .i64 b2, s] 27 false) := fun h1 h2 => h2 _ _ h1 hne hx
    have fin : ∀ {m2 : Mem} {l2 : List UInt8}, Wrote m0 m m2 b l2 → ∃ m', retL m (.tuple #[]) m2 = some (.ret (.tuple #[]), m') ∧ Wrote m0 m m' b l2 := by
      intro m2 l2 hw
      obtain ⟨e1, e2, e3⟩ := bld_ret hB hw.bld hw.low (v := .tuple #[])
      exact ⟨_, e1, e2, hw.keeps, e3⟩
    generalize hmB : m.mark.push (.cells [.string op, .int .i64 a, .int .i64 b2, s] 27 false) = mB at *
    have main : ∀ (ρ : Rho), ρ 6 = .bool (decide (op = ⟨#[61]⟩ ∨ op = ⟨#[126]⟩)) → ρ 5 = .string op → ρ 2 = ptr m.next 0 → ρ 1 = ptr b 0 → ∃ m', G Pg E 43 [1, 1, 0, 1] m ρ mB = some (.ret (.tuple #[]), m') ∧ Wrote m0 m m' b (l ++ textS (.node op a b2 ks)) := by
      intro ρ e6 e5 e2 e1
      have hW0 : Wrote m0 mB mB b l → True := fun _ => trivial
      by_cases c1 : op = ⟨#[61]⟩ ∨ op = ⟨#[126]⟩
      · have hops : op.size = 1 := by rcases c1 with rfl | rfl <;> rfl
        have htx : textS (.node op a b2 ks) = letterL a ++ op.data.toList ++ letterL b2 := by unfold textS; simp only [c1, if_true]
        have hsz : (letterB a ++ op ++ letterB b2).size = 3 := by rw [add_size, add_size, hla, hlb, hops]
        obtain ⟨m2, h57, hw⟩ := run57w hB1.mark (letterB a ++ op ++ letterB b2) (by
          rw [htx] at hlen
          have : (letterL a ++ op.data.toList ++ letterL b2).length = 3 := by
            rw [← hsz, ← size_list, add_data, add_data]; rfl
          omega)
        have hw2 : Wrote m0 m (m2.relow mB) b (l ++ textS (.node op a b2 ks)) := by
          rw [htx]
          have e : (letterB a ++ op ++ letterB b2).data.toList = letterL a ++ op.data.toList ++ letterL b2 := by rw [add_data, add_data]; rfl
          rw [e] at hw
          exact ⟨hw.bld.relow hB1.clean, hk1.trans hw.keeps, low_relow hw.low hB1.hi⟩
        obtain ⟨m', hr, hW⟩ := fin hw2
        refine ⟨m', x43_1_1_0_1 _ _ _ ?_, hW⟩
        rw [e6, e2, e1, decide_eq_true c1]
        simp only [bind_s, condL_t, condL_f, then3_s, cond_t, cond_f, saidL_bt, saidL_bf, saidL_u, cells_agg, size_agg, ld_g, ldn_g, ldB_s, ldG_str, ldG_int, ldG_bool, ldG_ptr, ldG_sl, get_z, get_s, pickL_t, pickL_f, notL_b, isPtr_p, fld_p, extL_t, lenSl_s, lenStr_s, isStr_s, cvI_s, newC_s, newS_s, endC_s, quiet_s, andV_s, bindR_v, int_eql, int_neq, int_lss, int_leq, int_gtr, int_geq, str_eql, str_neq, boolEq_s, not_t, not_f, Bool.true_and, Bool.false_and, Bool.and_true, Bool.and_false, Bool.true_or, Bool.false_or, beq_self_eq_true, Nat.zero_add, add_z, hg1, run58 _ a ha, run58 _ b2 hb, str_add_s (letterB a) op (by omega), str_add_s (letterB a ++ op) (letterB b2) (by rw [add_size]; omega), h57, endD_s]
        exact hr
      · by_cases c2 : op = ⟨#[33]⟩
        · have hkn : kidsN op = 1 := by unfold kidsN; rw [if_neg c1, if_pos (.inl c2)]
          obtain ⟨k, rfl⟩ : ∃ k, ks = [k] := by
            match ks, q1 with
            | [k], _ => exact ⟨k, rfl⟩
            | [], q1 => rw [hkn] at q1; simp at q1
            | _ :: _ :: _, q1 => rw [hkn] at q1; simp at q1; omega
          have htx : textS (.node op a b2 [k]) = [33] ++ textS k := by
            rw [textS]; simp only [textL, List.getD_cons_zero]; rw [if_neg c1, if_pos c2]
          rw [htx, List.length_append, List.length_singleton] at hlen
          obtain ⟨m2, h57, hw⟩ := run57w hB1 ⟨#[33]⟩ (show l.length + 1 ≤ _ by omega)
          obtain ⟨bb, o, kv, i1, i2, hkf⟩ := kid_get (i := 0) hs hk rfl hw.bld.sub
          obtain ⟨m3, h43, hw3⟩ := run43 n k (by simp at hn; omega) m0 m2 kv b _ hw.bld hkf (by simpa [shapedL] using q4) (by rw [List.length_append]; show l.length + 1 + _ ≤ _; omega)
          have hw4 : Wrote m0 m m3 b (l ++ textS (.node op a b2 [k])) := by
            rw [htx]
            refine ⟨?_, (hk1.trans hw.keeps).trans hw3.keeps, hw3.low⟩
            have := hw3.bld
            rw [List.append_assoc] at this
            exact this
          obtain ⟨m', hr, hW⟩ := fin hw4
          refine ⟨m', x43_1_1_0_1 _ _ _ ?_, hW⟩
          have hi1 : ixS 4 s (.int .i64 0) = some (ptr bb o) := i1
          rw [e6, e5, e2, e1, decide_eq_false c1]
          simp only [bind_s, condL_t, condL_f, then3_s, cond_t, cond_f, saidL_bt, saidL_bf, saidL_u, cells_agg, size_agg, ld_g, ldn_g, ldB_s, ldG_str, ldG_int, ldG_bool, ldG_ptr, ldG_sl, get_z, get_s, pickL_t, pickL_f, notL_b, isPtr_p, fld_p, extL_t, lenSl_s, lenStr_s, isStr_s, cvI_s, newC_s, newS_s, endC_s, quiet_s, andV_s, bindR_v, int_eql, int_neq, int_lss, int_leq, int_gtr, int_geq, str_eql, str_neq, boolEq_s, not_t, not_f, Bool.true_and, Bool.false_and, Bool.and_true, Bool.and_false, Bool.true_or, Bool.false_or, beq_self_eq_true, Nat.zero_add, add_z, c2, decide_true, h57, stay hg1 hw.keeps, hs.gs, hi1, i2, h43]
          exact hr
        · by_cases c3 : op = ⟨#[69]⟩
          · have hkn : kidsN op = 1 := by unfold kidsN; rw [if_neg c1, if_pos (.inr c3)]
            obtain ⟨k, rfl⟩ : ∃ k, ks = [k] := by
              match ks, q1 with
              | [k], _ => exact ⟨k, rfl⟩
              | [], q1 => rw [hkn] at q1; simp at q1
              | _ :: _ :: _, q1 => rw [hkn] at q1; simp at q1; omega
            have htx : textS (.node op a b2 [k]) = [69] ++ letterL a ++ [32] ++ textS k := by
              rw [textS]; simp only [textL, List.getD_cons_zero]; rw [if_neg c1, if_neg c2, if_pos c3]
            have hll : (letterL a).length = 1 := hla
            rw [htx, List.length_append, List.length_append, List.length_append, List.length_singleton, List.length_singleton, hll] at hlen
            have e69 : (ByteArray.size ⟨#[69]⟩) = 1 := rfl
            have e32 : (ByteArray.size ⟨#[32]⟩) = 1 := rfl
            obtain ⟨m2, h57, hw⟩ := run57w hB1 (⟨#[69]⟩ ++ letterB a ++ ⟨#[32]⟩) (by rw [add_size, add_size, hla, e69, e32]; omega)
            have edat : (⟨#[69]⟩ ++ letterB a ++ ⟨#[32]⟩ : ByteArray).data.toList = [69] ++ letterL a ++ [32] := by rw [add_data, add_data]; rfl
            rw [edat] at hw
            obtain ⟨bb, o, kv, i1, i2, hkf⟩ := kid_get (i := 0) hs hk rfl hw.bld.sub
            obtain ⟨m3, h43, hw3⟩ := run43 n k (by simp at hn; omega) m0 m2 kv b _ hw.bld hkf (by simpa [shapedL] using q4) (by simp only [List.length_append, List.length_singleton, hll]; omega)
            have hw4 : Wrote m0 m m3 b (l ++ textS (.node op a b2 [k])) := by
              rw [htx]
              refine ⟨?_, (hk1.trans hw.keeps).trans hw3.keeps, hw3.low⟩
              have := hw3.bld
              rw [List.append_assoc] at this
              exact this
            obtain ⟨m', hr, hW⟩ := fin hw4
            refine ⟨m', x43_1_1_0_1 _ _ _ ?_, hW⟩
            have hi1 : ixS 4 s (.int .i64 0) = some (ptr bb o) := i1
            have hadd1 := str_add_s ⟨#[69]⟩ (letterB a) (by rw [hla, e69]; omega)
            have hadd2 := str_add_s (⟨#[69]⟩ ++ letterB a) ⟨#[32]⟩ (by rw [add_size, hla, e69, e32]; omega)
            rw [e6, e5, e2, e1, decide_eq_false c1]
            simp only [bind_s, condL_t, condL_f, then3_s, cond_t, cond_f, saidL_bt, saidL_bf, saidL_u, cells_agg, size_agg, ld_g, ldn_g, ldB_s, ldG_str, ldG_int, ldG_bool, ldG_ptr, ldG_sl, get_z, get_s, pickL_t, pickL_f, notL_b, isPtr_p, fld_p, extL_t, lenSl_s, lenStr_s, isStr_s, cvI_s, newC_s, newS_s, endC_s, quiet_s, andV_s, bindR_v, int_eql, int_neq, int_lss, int_leq, int_gtr, int_geq, str_eql, str_neq, boolEq_s, not_t, not_f, Bool.true_and, Bool.false_and, Bool.and_true, Bool.and_false, Bool.true_or, Bool.false_or, beq_self_eq_true, Nat.zero_add, add_z]
            rw [decide_eq_false c2]
            simp only [bind_s, condL_t, condL_f, then3_s, cond_t, cond_f, saidL_bt, saidL_bf, saidL_u, cells_agg, size_agg, ld_g, ldn_g, ldB_s, ldG_str, ldG_int, ldG_bool, ldG_ptr, ldG_sl, get_z, get_s, pickL_t, pickL_f, notL_b, isPtr_p, fld_p, extL_t, lenSl_s, lenStr_s, isStr_s, cvI_s, newC_s, newS_s, endC_s, quiet_s, andV_s, bindR_v, int_eql, int_neq, int_lss, int_leq, int_gtr, int_geq, str_eql, str_neq, boolEq_s, not_t, not_f, Bool.true_and, Bool.false_and, Bool.and_true, Bool.and_false, Bool.true_or, Bool.false_or, beq_self_eq_true, Nat.zero_add, add_z, c3, decide_true, hg1, run58 _ a ha, hadd1, hadd2, h57]
            simp only [bind_s, condL_t, condL_f, then3_s, cond_t, cond_f, saidL_bt, saidL_bf, saidL_u, cells_agg, size_agg, ld_g, ldn_g, ldB_s, ldG_str, ldG_int, ldG_bool, ldG_ptr, ldG_sl, get_z, get_s, pickL_t, pickL_f, notL_b, isPtr_p, fld_p, extL_t, lenSl_s, lenStr_s, isStr_s, cvI_s, newC_s, newS_s, endC_s, quiet_s, andV_s, bindR_v, int_eql, int_neq, int_lss, int_leq, int_gtr, int_geq, str_eql, str_neq, boolEq_s, not_t, not_f, Bool.true_and, Bool.false_and, Bool.and_true, Bool.and_false, Bool.true_or, Bool.false_or, beq_self_eq_true, Nat.zero_add, add_z, stay hg1 hw.keeps, hs.gs, hi1, i2, h43]
            exact hr
          · have c4 : op = ⟨#[38]⟩ := by
              have h : kidsN op = (ks.length : Int) := q1
              unfold kidsN at h
              rw [if_neg c1, if_neg (by rintro (h | h) <;> contradiction)] at h
              by_cases c4 : op = ⟨#[38]⟩
              · exact c4
              · rw [if_neg c4] at h; omega
            have hkn : kidsN op = 2 := by unfold kidsN; rw [if_neg c1, if_neg (by rintro (h | h) <;> contradiction), if_pos c4]
            obtain ⟨k, k2, rfl⟩ : ∃ k k2, ks = [k, k2] := by
              match ks, q1 with
              | [k, k2], _ => exact ⟨k, k2, rfl⟩
              | [], q1 => rw [hkn] at q1; simp at q1
              | [_], q1 => rw [hkn] at q1; simp at q1
              | _ :: _ :: _ :: _, q1 => rw [hkn] at q1; simp at q1; omega
            have htx : textS (.node op a b2 [k, k2]) = [40] ++ textS k ++ [38] ++ textS k2 ++ [41] := by
              rw [textS]; simp only [textL, List.getD_cons_zero, List.getD_cons_succ]; rw [if_neg c1, if_neg c2, if_neg c3, if_pos c4]
            rw [htx] at hlen
            simp only [List.length_append, List.length_singleton] at hlen
            simp only [shapedL, Bool.and_true, Bool.and_eq_true] at q4
            obtain ⟨m2, h57, hw⟩ := run57w hB1 ⟨#[40]⟩ (show l.length + 1 ≤ _ by omega)
            obtain ⟨bb, o, kv, i1, i2, hkf⟩ := kid_get (i := 0) hs hk rfl hw.bld.sub
            obtain ⟨m3, h43, hw3⟩ := run43 n k (by simp at hn; omega) m0 m2 kv b _ hw.bld hkf q4.1 (by rw [List.length_append]; show l.length + 1 + _ ≤ _; omega)
            obtain ⟨m4, h57b, hw4⟩ := run57w hw3.bld ⟨#[38]⟩ (by rw [List.length_append, List.length_append]; show l.length + 1 + _ + 1 ≤ _; omega)
            obtain ⟨bb5, o5, kv5, j1, j2, hkf5⟩ := kid_get (i := 1) hs hk rfl hw4.bld.sub
            obtain ⟨m5, h43b, hw5⟩ := run43 n k2 (by simp at hn; omega) m0 m4 kv5 b _ hw4.bld hkf5 q4.2 (by rw [List.length_append, List.length_append, List.length_append]; show l.length + 1 + _ + 1 + _ ≤ _; omega)
            obtain ⟨m6, h57c, hw6⟩ := run57w hw5.bld ⟨#[41]⟩ (by rw [List.length_append, List.length_append, List.length_append, List.length_append]; show l.length + 1 + _ + 1 + _ + 1 ≤ _; omega)
            have s2 := stay hg1 hw.keeps
            have s3 := stay s2 hw3.keeps
            have s4 := stay s3 hw4.keeps
            have hw7 : Wrote m0 m m6 b (l ++ textS (.node op a b2 [k, k2])) := by
              rw [htx]
              refine ⟨?_, ((((hk1.trans hw.keeps).trans hw3.keeps).trans hw4.keeps).trans hw5.keeps).trans hw6.keeps, hw6.low⟩
              have h6 := hw6.bld
              have e : l ++ [40] ++ textS k ++ [38] ++ textS k2 ++ [41] = l ++ ([40] ++ textS k ++ [38] ++ textS k2 ++ [41]) := by simp
              rw [← e]
              exact h6
            obtain ⟨m', hr, hW⟩ := fin hw7
            refine ⟨m', x43_1_1_0_1 _ _ _ ?_, hW⟩
            have hi1 : ixS 4 s (.int .i64 0) = some (ptr bb o) := i1
            have hj1 : ixS 4 s (.int .i64 1) = some (ptr bb5 o5) := j1
            rw [e6, e5, e2, e1, decide_eq_false c1]
            simp only [bind_s, condL_t, condL_f, then3_s, cond_t, cond_f, saidL_bt, saidL_bf, saidL_u, cells_agg, size_agg, ld_g, ldn_g, ldB_s, ldG_str, ldG_int, ldG_bool, ldG_ptr, ldG_sl, get_z, get_s, pickL_t, pickL_f, notL_b, isPtr_p, fld_p, extL_t, lenSl_s, lenStr_s, isStr_s, cvI_s, newC_s, newS_s, endC_s, quiet_s, andV_s, bindR_v, int_eql, int_neq, int_lss, int_leq, int_gtr, int_geq, str_eql, str_neq, boolEq_s, not_t, not_f, Bool.true_and, Bool.false_and, Bool.and_true, Bool.and_false, Bool.true_or, Bool.false_or, beq_self_eq_true, Nat.zero_add, add_z]
            rw [decide_eq_false c2]
            simp only [bind_s, condL_t, condL_f, then3_s, cond_t, cond_f, saidL_bt, saidL_bf, saidL_u, cells_agg, size_agg, ld_g, ldn_g, ldB_s, ldG_str, ldG_int, ldG_bool, ldG_ptr, ldG_sl, get_z, get_s, pickL_t, pickL_f, notL_b, isPtr_p, fld_p, extL_t, lenSl_s, lenStr_s, isStr_s, cvI_s, newC_s, newS_s, endC_s, quiet_s, andV_s, bindR_v, int_eql, int_neq, int_lss, int_leq, int_gtr, int_geq, str_eql, str_neq, boolEq_s, not_t, not_f, Bool.true_and, Bool.false_and, Bool.and_true, Bool.and_false, Bool.true_or, Bool.false_or, beq_self_eq_true, Nat.zero_add, add_z]
            rw [decide_eq_false c3]
            simp only [bind_s, condL_t, condL_f, then3_s, cond_t, cond_f, saidL_bt, saidL_bf, saidL_u, cells_agg, size_agg, ld_g, ldn_g, ldB_s, ldG_str, ldG_int, ldG_bool, ldG_ptr, ldG_sl, get_z, get_s, pickL_t, pickL_f, notL_b, isPtr_p, fld_p, extL_t, lenSl_s, lenStr_s, isStr_s, cvI_s, newC_s, newS_s, endC_s, quiet_s, andV_s, bindR_v, int_eql, int_neq, int_lss, int_leq, int_gtr, int_geq, str_eql, str_neq, boolEq_s, not_t, not_f, Bool.true_and, Bool.false_and, Bool.and_true, Bool.and_false, Bool.true_or, Bool.false_or, beq_self_eq_true, Nat.zero_add, add_z, c4, decide_true, h57, s2, hs.gs, hi1, i2, h43, h57b, s4, hj1, j2, h43b, h57c]
            exact hr
    have goal : ∃ m', G Pg E 43 [] m (rho0 [.agg ⟨[.string op, .int .i64 a, .int .i64 b2, s]⟩, ptr b 0]) m.mark = some (.ret (.tuple #[]), m') ∧ Wrote m0 m m' b (l ++ textS (.node op a b2 ks)) := by
      by_cases c1 : op = ⟨#[61]⟩
      · obtain ⟨m', hr, hW⟩ := main (Rho.put (Rho.put (Rho.put (Rho.put (Rho.put (rho0 [.agg ⟨[.string op, .int .i64 a, .int .i64 b2, s]⟩, ptr b 0]) (some 2) (ptr m.next 0)) (some 4) (ptr m.next 0)) (some 5) (.string op)) (some 7) (.bool true)) (some 6) (.bool true))
          (by rw [decide_eq_true (.inl c1)]; rfl) rfl rfl rfl
        refine ⟨m', x43 _ _ _ _ ?_, hW⟩
        simp only [bind_s, condL_t, condL_f, then3_s, cond_t, cond_f, saidL_bt, saidL_bf, saidL_u, cells_agg, size_agg, ld_g, ldn_g, ldB_s, ldG_str, ldG_int, ldG_bool, ldG_ptr, ldG_sl, get_z, get_s, pickL_t, pickL_f, notL_b, isPtr_p, fld_p, extL_t, lenSl_s, lenStr_s, isStr_s, cvI_s, newC_s, newS_s, endC_s, quiet_s, andV_s, bindR_v, int_eql, int_neq, int_lss, int_leq, int_gtr, int_geq, str_eql, str_neq, boolEq_s, not_t, not_f, Bool.true_and, Bool.false_and, Bool.and_true, Bool.and_false, Bool.true_or, Bool.false_or, beq_self_eq_true, Nat.zero_add, add_z, next_mark, hmB, hg1]
        rw [decide_eq_true c1]
        exact hr
      · obtain ⟨m', hr, hW⟩ := main (Rho.put (Rho.put (Rho.put (Rho.put (Rho.put (Rho.put (Rho.put (rho0 [.agg ⟨[.string op, .int .i64 a, .int .i64 b2, s]⟩, ptr b 0]) (some 2) (ptr m.next 0)) (some 4) (ptr m.next 0)) (some 5) (.string op)) (some 7) (.bool false)) (some 6) (.bool false)) (some 8) (.bool (decide (op = ⟨#[126]⟩)))) (some 6) (.bool (decide (op = ⟨#[126]⟩))))
          (by
            have : decide (op = ⟨#[61]⟩ ∨ op = ⟨#[126]⟩) = decide (op = ⟨#[126]⟩) := by simp [c1]
            rw [this]; rfl) rfl rfl rfl
        refine ⟨m', x43 _ _ _ _ ?_, hW⟩
        simp only [bind_s, condL_t, condL_f, then3_s, cond_t, cond_f, saidL_bt, saidL_bf, saidL_u, cells_agg, size_agg, ld_g, ldn_g, ldB_s, ldG_str, ldG_int, ldG_bool, ldG_ptr, ldG_sl, get_z, get_s, pickL_t, pickL_f, notL_b, isPtr_p, fld_p, extL_t, lenSl_s, lenStr_s, isStr_s, cvI_s, newC_s, newS_s, endC_s, quiet_s, andV_s, bindR_v, int_eql, int_neq, int_lss, int_leq, int_gtr, int_geq, str_eql, str_neq, boolEq_s, not_t, not_f, Bool.true_and, Bool.false_and, Bool.and_true, Bool.and_false, Bool.true_or, Bool.false_or, beq_self_eq_true, Nat.zero_add, add_z, next_mark, hmB, hg1]
        rw [decide_eq_false c1]
        simp only [bind_s, condL_t, condL_f, then3_s, cond_t, cond_f, saidL_bt, saidL_bf, saidL_u, cells_agg, size_agg, ld_g, ldn_g, ldB_s, ldG_str, ldG_int, ldG_bool, ldG_ptr, ldG_sl, get_z, get_s, pickL_t, pickL_f, notL_b, isPtr_p, fld_p, extL_t, lenSl_s, lenStr_s, isStr_s, cvI_s, newC_s, newS_s, endC_s, quiet_s, andV_s, bindR_v, int_eql, int_neq, int_lss, int_leq, int_gtr, int_geq, str_eql, str_neq, boolEq_s, not_t, not_f, Bool.true_and, Bool.false_and, Bool.and_true, Bool.and_false, Bool.true_or, Bool.false_or, beq_self_eq_true, Nat.zero_add, add_z]
        exact hr
    obtain ⟨m', hr, hW⟩ := goal
    exact ⟨m', G_run rfl Tryd.func43 rfl (by kernel_rfl) hr, hW⟩

theorem run25 (T : Tree) (m : Mem) (v : Value) (hm : m.Ok) (hf : FormAt m T v) (h : shapedS T = true) (hn : nodes T ≤ 1000000) : run Pg E 25 [v] m = some (.ret (.string ⟨⟨textS T⟩⟩), m) := by
  have hl := text_len T h
  obtain ⟨op, a, b, ks⟩ := T
  obtain ⟨s, cs, rfl, hs, hk⟩ := form_cells hf
  refine G_run rfl Tryd.func25 rfl (by kernel_rfl) (x25 _ _ _ ?_)
  have hok1 := hm.mark.push (.cells [.string op, .int .i64 a, .int .i64 b, s] 27 false)
  have hg2 : ((m.mark.push (.cells [.string op, .int .i64 a, .int .i64 b, s] 27 false)).push (.cells [.pointer none, .slice none 0 0] 81 false)).get m.next = some (.cells [.string op, .int .i64 a, .int .i64 b, s] 27 false) := by
    rw [get_push_o hok1 _ (by rw [next_push, next_mark]; omega)]; exact get_push_n hm.mark _
  have hB : Bld 81 5 m ((m.mark.push (.cells [.string op, .int .i64 a, .int .i64 b, s] 27 false)).push (.cells [.pointer none, .slice none 0 0] 81 false)) (m.next + 1) [] :=
    ⟨hok1.push _, rfl, ((Mem.Sub.mark m).trans (Mem.Sub.push hm.mark _)).trans (Mem.Sub.push hok1 _), hm, by omega, by rw [next_push, next_push, next_mark]; omega, by rw [next_push, next_push, next_mark]; omega, rfl, .pointer none, .slice none 0 0, get_push_n hok1 _, .inl rfl, .inl ⟨rfl, rfl⟩⟩
  obtain ⟨m2, h43, hw⟩ := run43 _ _ (Nat.lt_succ_self _) m _ _ _ _ hB hf h (by simp only [List.length_nil, Nat.zero_add]; omega)
  obtain ⟨m3, h44, hc⟩ := run44 hw.bld (by simp only [List.nil_append]; omega)
  simp only [bind_s, condL_t, condL_f, then3_s, cond_t, cond_f, saidL_bt, saidL_bf, saidL_u, cells_agg, size_agg, ld_g, ldn_g, ldB_s, ldG_str, ldG_int, ldG_bool, ldG_ptr, ldG_sl, get_z, get_s, pickL_t, pickL_f, notL_b, isPtr_p, fld_p, extL_t, lenSl_s, lenStr_s, isStr_s, cvI_s, newC_s, newS_s, endC_s, quiet_s, andV_s, bindR_v, int_eql, int_neq, int_lss, int_leq, int_gtr, int_geq, str_eql, str_neq, boolEq_s, not_t, not_f, Bool.true_and, Bool.false_and, Bool.and_true, Bool.and_false, Bool.true_or, Bool.false_or, beq_self_eq_true, Nat.zero_add, add_z, next_mark, next_push, hg2, hs.l4, h43, h44]
  exact retL_plain rfl hc

theorem run7 (T : Tree) (m : Mem) (v : Value) (hm : m.Ok) (hf : FormAt m T v) : run Pg E 7 [v] m = some (.ret (.tuple #[.string ⟨⟨if 0 ≤ sizeS T 2000 40 then textS T else []⟩⟩, .int .i64 (if 0 ≤ sizeS T 2000 40 then 0 else 2)]), m) := by
  have hsz := size_of T 2000 40
  obtain ⟨op, a, b, ks⟩ := T
  obtain ⟨s, cs, rfl, hs, hk⟩ := form_cells hf
  refine G_run rfl Tryd.func7 rfl (by kernel_rfl) (x7 _ _ _ ?_)
  have hf2 := hf.sub ((Mem.Sub.mark m).trans (Mem.Sub.push hm.mark (.cells [.string op, .int .i64 a, .int .i64 b, s] 27 false)))
  simp only [bind_s, condL_t, condL_f, then3_s, cond_t, cond_f, saidL_bt, saidL_bf, saidL_u, cells_agg, size_agg, ld_g, ldn_g, ldB_s, ldG_str, ldG_int, ldG_bool, ldG_ptr, ldG_sl, get_z, get_s, pickL_t, pickL_f, notL_b, isPtr_p, fld_p, extL_t, lenSl_s, lenStr_s, isStr_s, cvI_s, newC_s, newS_s, endC_s, quiet_s, andV_s, bindR_v, int_eql, int_neq, int_lss, int_leq, int_gtr, int_geq, str_eql, str_neq, boolEq_s, not_t, not_f, Bool.true_and, Bool.false_and, Bool.and_true, Bool.and_false, Bool.true_or, Bool.false_or, beq_self_eq_true, Nat.zero_add, add_z, get_push_n hm.mark, hs.l4, run24 (.node op a b ks) _ _ (hm.mark.push _) hf2]
  by_cases h : 0 ≤ sizeS (.node op a b ks) 2000 40
  · obtain ⟨h1, h2, h3⟩ := hsz h
    simp only [h, decide_true, if_true]
    simp only [bind_s, condL_t, condL_f, then3_s, cond_t, cond_f, saidL_bt, saidL_bf, saidL_u, cells_agg, size_agg, ld_g, ldn_g, ldB_s, ldG_str, ldG_int, ldG_bool, ldG_ptr, ldG_sl, get_z, get_s, pickL_t, pickL_f, notL_b, isPtr_p, fld_p, extL_t, lenSl_s, lenStr_s, isStr_s, cvI_s, newC_s, newS_s, endC_s, quiet_s, andV_s, bindR_v, int_eql, int_neq, int_lss, int_leq, int_gtr, int_geq, str_eql, str_neq, boolEq_s, not_t, not_f, Bool.true_and, Bool.false_and, Bool.and_true, Bool.and_false, Bool.true_or, Bool.false_or, beq_self_eq_true, Nat.zero_add, add_z, get_push_n hm.mark, hs.l4, run25 (.node op a b ks) _ _ (hm.mark.push _) hf2 h1 (by omega)]
    exact retL_plain rfl rfl
  · simp only [h, decide_false, if_false]
    simp only [bind_s, condL_t, condL_f, then3_s, cond_t, cond_f, saidL_bt, saidL_bf, saidL_u, cells_agg, size_agg, ld_g, ldn_g, ldB_s, ldG_str, ldG_int, ldG_bool, ldG_ptr, ldG_sl, get_z, get_s, pickL_t, pickL_f, notL_b, isPtr_p, fld_p, extL_t, lenSl_s, lenStr_s, isStr_s, cvI_s, newC_s, newS_s, endC_s, quiet_s, andV_s, bindR_v, int_eql, int_neq, int_lss, int_leq, int_gtr, int_geq, str_eql, str_neq, boolEq_s, not_t, not_f, Bool.true_and, Bool.false_and, Bool.and_true, Bool.and_false, Bool.true_or, Bool.false_or, beq_self_eq_true, Nat.zero_add, add_z]
    exact retL_plain rfl rfl

end Go.Proofs.YtfdfickokkokmaaDoor
