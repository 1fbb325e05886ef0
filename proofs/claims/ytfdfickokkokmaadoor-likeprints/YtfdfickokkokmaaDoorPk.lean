/- Contracts: Of, and the law LikePrints. -/
import Derived.Test.YtfdfickokkokmaaDoorPj
set_option linter.unusedSimpArgs false
set_option linter.unusedVariables false
namespace Go.Proofs.YtfdfickokkokmaaDoor
open Go Go.D

attribute [local congr] bind_c cond_c condL_c then3_c andV_c bindR_c endC_c endD_c quiet_c newC_c newS_c callC_c callQ_c

theorem run10 (m : Mem) : run Pg E 10 [] m = some (.ret (.bool true), m) := run_orc rfl rfl

set_option maxRecDepth 20000 in
theorem run6 (T : Tree) (m : Mem) (v : Value) (hm : m.Ok) (hf : FormAt m T v) :
    ∃ T' v1 v2 m', run Pg E 6 [v] m = some (.ret (.tuple #[v1, v2]), m') ∧ FormAt m' T' v1 ∧ FormAt m' T' v2 ∧ height T' ≤ 44 ∧ Stp (fun _ => False) m m' := by
  obtain ⟨op, a, b, ks⟩ := T
  obtain ⟨s, cs, rfl, hs, hk⟩ := form_cells hf
  have hle := hm.le
  have hok1 := hm.mark.push (.cells [.string op, .int .i64 a, .int .i64 b, s] 24 false)
  have hok3 := hok1.push (.cells [.string ⟨#[]⟩, .int .i64 0, .int .i64 0, .slice none 0 0] 27 false)
  have hok5 := hok3.push (.cells [.string ⟨#[]⟩, .int .i64 0, .int .i64 0, .slice none 0 0] 24 false)
  have hok7 := hok5.push (.cells [.int .i64 0] 3 false)
  have hS7 : Stp (fun _ => False) m.mark ((((m.mark.push (.cells [.string op, .int .i64 a, .int .i64 b, s] 24 false)).push (.cells [.string ⟨#[]⟩, .int .i64 0, .int .i64 0, .slice none 0 0] 27 false)).push (.cells [.string ⟨#[]⟩, .int .i64 0, .int .i64 0, .slice none 0 0] 24 false)).push (.cells [.int .i64 0] 3 false)) := ((((Stp.refl hm.mark).push _).push _).push _).push _
  have hn7 : ((((m.mark.push (.cells [.string op, .int .i64 a, .int .i64 b, s] 24 false)).push (.cells [.string ⟨#[]⟩, .int .i64 0, .int .i64 0, .slice none 0 0] 27 false)).push (.cells [.string ⟨#[]⟩, .int .i64 0, .int .i64 0, .slice none 0 0] 24 false)).push (.cells [.int .i64 0] 3 false)).next = m.next + 4 := rfl
  have g0 : ((((m.mark.push (.cells [.string op, .int .i64 a, .int .i64 b, s] 24 false)).push (.cells [.string ⟨#[]⟩, .int .i64 0, .int .i64 0, .slice none 0 0] 27 false)).push (.cells [.string ⟨#[]⟩, .int .i64 0, .int .i64 0, .slice none 0 0] 24 false)).push (.cells [.int .i64 0] 3 false)).get m.next = some (.cells [.string op, .int .i64 a, .int .i64 b, s] 24 false) :=
    Mem.Sub.push hok5 _ _ _ (Mem.Sub.push hok3 _ _ _ (Mem.Sub.push hok1 _ _ _ (get_push_n hm.mark _)))
  have g1 : ((((m.mark.push (.cells [.string op, .int .i64 a, .int .i64 b, s] 24 false)).push (.cells [.string ⟨#[]⟩, .int .i64 0, .int .i64 0, .slice none 0 0] 27 false)).push (.cells [.string ⟨#[]⟩, .int .i64 0, .int .i64 0, .slice none 0 0] 24 false)).push (.cells [.int .i64 0] 3 false)).get (m.next + 1) = some (.cells [.string ⟨#[]⟩, .int .i64 0, .int .i64 0, .slice none 0 0] 27 false) :=
    Mem.Sub.push hok5 _ _ _ (Mem.Sub.push hok3 _ _ _ (get_push_n hok1 _))
  have g2 : ((((m.mark.push (.cells [.string op, .int .i64 a, .int .i64 b, s] 24 false)).push (.cells [.string ⟨#[]⟩, .int .i64 0, .int .i64 0, .slice none 0 0] 27 false)).push (.cells [.string ⟨#[]⟩, .int .i64 0, .int .i64 0, .slice none 0 0] 24 false)).push (.cells [.int .i64 0] 3 false)).get (m.next + 2) = some (.cells [.string ⟨#[]⟩, .int .i64 0, .int .i64 0, .slice none 0 0] 24 false) :=
    Mem.Sub.push hok5 _ _ _ (get_push_n hok3 _)
  have g3 : ((((m.mark.push (.cells [.string op, .int .i64 a, .int .i64 b, s] 24 false)).push (.cells [.string ⟨#[]⟩, .int .i64 0, .int .i64 0, .slice none 0 0] 27 false)).push (.cells [.string ⟨#[]⟩, .int .i64 0, .int .i64 0, .slice none 0 0] 24 false)).push (.cells [.int .i64 0] 3 false)).get (m.next + 3) = some (.cells [.int .i64 0] 3 false) := get_push_n hok5 _
  have hb7 : ((((m.mark.push (.cells [.string op, .int .i64 a, .int .i64 b, s] 24 false)).push (.cells [.string ⟨#[]⟩, .int .i64 0, .int .i64 0, .slice none 0 0] 27 false)).push (.cells [.string ⟨#[]⟩, .int .i64 0, .int .i64 0, .slice none 0 0] 24 false)).push (.cells [.int .i64 0] 3 false)).base = m.base := rfl
  have htext := fun r => x6 m m.mark (.agg ⟨[.string op, .int .i64 a, .int .i64 b, s]⟩) (r := r)
  simp only [newC_s, next_mark, next_push, cells_agg] at htext
  generalize (((m.mark.push (.cells [.string op, .int .i64 a, .int .i64 b, s] 24 false)).push (.cells [.string ⟨#[]⟩, .int .i64 0, .int .i64 0, .slice none 0 0] 27 false)).push (.cells [.string ⟨#[]⟩, .int .i64 0, .int .i64 0, .slice none 0 0] 24 false)).push (.cells [.int .i64 0] 3 false) = m7 at *
  have st8 : stn m7 1 (ptr (m.next + 3) 0) (.int .i64 2010) = some (m7.put (m.next + 3) (some (.cells [.int .i64 2010] 3 false))) := by
    rw [stn_g (n := 1) (o := 0) (v := .int .i64 2010) (by omega) g3 rfl (by omega) (by simp) rfl]; rfl
  have hS8 : Stp (fun _ => False) m.mark (m7.put (m.next + 3) (some (.cells [.int .i64 2010] 3 false))) := hS7.put (by omega) (by omega) (.inr (by rw [next_mark]; omega)) _
  have k8 : ∀ {c : Nat} {x : Blk}, c ≠ m.next + 3 → m7.get c = some x → (m7.put (m.next + 3) (some (.cells [.int .i64 2010] 3 false))).get c = some x := fun hne hx => by rw [get_put_o hok7 (by omega) (by omega) _ hne]; exact hx
  have gn8 : (m7.put (m.next + 3) (some (.cells [.int .i64 2010] 3 false))).get (m.next + 3) = some (.cells [.int .i64 2010] 3 false) := get_put_n hok7 (by omega) (by omega) _
  have n8 : (m7.put (m.next + 3) (some (.cells [.int .i64 2010] 3 false))).next = m.next + 4 := hn7
  generalize m7.put (m.next + 3) (some (.cells [.int .i64 2010] 3 false)) = m8 at *
  have hok8 := hS8.ok
  have hcln : m8.clean m.next = true := hS8.cleaned (clean_mark _ _) (fun _ h => h.elim) (Nat.le_refl _)
  have hsub8 : m.Sub m8 := fun c x hx => hS8.keep hm.mark hx (fun h => h)
  have hb8 : m8.base = m.base := hS8.base
  obtain ⟨T', w1, w2, m11, hrun, hC⟩ := run23 _ (.node op a b ks) (Nat.lt_succ_self _) m m8 (.agg ⟨[.string op, .int .i64 a, .int .i64 b, s]⟩) 43 2010 (m.next + 3) hm hok8 hb8 hsub8 (by omega) gn8 (by omega) (by omega) (by omega) (by omega) hcln hf
  obtain ⟨c1, rfl, hc1, hf1⟩ := formG_cells hC.one
  obtain ⟨c2, rfl, hc2, hf2⟩ := formG_cells hC.two
  have hok11 := hC.stp.ok
  have hnx11 := hC.stp.next
  have hb11 : m11.base = m.base := hC.stp.base.trans hb8
  have hS11 : Stp (fun _ => False) m.mark m11 := hS8.trans hC.stp (fun c hc => .inr (by rw [next_mark]; omega))
  have q1 := hC.stp.keep hok8 (k8 (by omega) g1) (by omega)
  have q2 := hC.stp.keep hok8 (k8 (by omega) g2) (by omega)
  have st14 : stn m11 4 (ptr (m.next + 1) 0) (.agg ⟨c1⟩) = some (m11.put (m.next + 1) (some (.cells c1 27 false))) := by
    rw [stn_g (n := 4) (o := 0) (v := .agg ⟨c1⟩) (by omega) q1 hc1 (by omega) (by simp) hf1]
    show some (m11.put (m.next + 1) (some (.cells (splice _ 0 c1) 27 false))) = _
    rw [splice_all (by rw [hc1]; rfl)]
  have hok14 : (m11.put (m.next + 1) (some (.cells c1 27 false))).Ok := hok11.put _ _
  have st15 : stn (m11.put (m.next + 1) (some (.cells c1 27 false))) 4 (ptr (m.next + 2) 0) (.agg ⟨c2⟩) = some ((m11.put (m.next + 1) (some (.cells c1 27 false))).put (m.next + 2) (some (.cells c2 24 false))) := by
    rw [stn_g (n := 4) (o := 0) (v := .agg ⟨c2⟩) (by rw [base_put]; omega) (by rw [get_put_o hok11 (by omega) (by omega) _ (by omega)]; exact q2) hc2 (by omega) (by simp) hf2]
    show some (Mem.put _ (m.next + 2) (some (.cells (splice _ 0 c2) 24 false))) = _
    rw [splice_all (by rw [hc2]; rfl)]
  have hS15 : Stp (fun _ => False) m.mark ((m11.put (m.next + 1) (some (.cells c1 27 false))).put (m.next + 2) (some (.cells c2 24 false))) :=
    (hS11.put (by omega) (by omega) (.inr (by rw [next_mark]; omega)) _).put (by rw [base_put]; omega) (by rw [next_put]; omega) (.inr (by rw [next_mark]; omega)) _
  have hg : ∀ c, c ≠ m.next + 1 → c ≠ m.next + 2 → ((m11.put (m.next + 1) (some (.cells c1 27 false))).put (m.next + 2) (some (.cells c2 24 false))).get c = m11.get c := fun c z1 z2 => by
    rw [get_put_o hok14 (by rw [base_put]; omega) (by rw [next_put]; omega) _ z2, get_put_o hok11 (by omega) (by omega) _ z1]
  have hl1 : D.loadVar Pg ((m11.put (m.next + 1) (some (.cells c1 27 false))).put (m.next + 2) (some (.cells c2 24 false))) 27 (ptr (m.next + 1) 0) = some (.agg ⟨c1⟩) := by
    rw [load27, ldn_g, get_put_o hok14 (by rw [base_put]; omega) (by rw [next_put]; omega) _ (by omega), get_put_n hok11 (by omega) (by omega), ldnB_l hc1 hf1]
  have hl2 : D.loadVar Pg ((m11.put (m.next + 1) (some (.cells c1 27 false))).put (m.next + 2) (some (.cells c2 24 false))) 24 (ptr (m.next + 2) 0) = some (.agg ⟨c2⟩) := by
    rw [load24, ldn_g, get_put_n hok14 (by rw [base_put]; omega) (by rw [next_put]; omega), ldnB_l hc2 hf2]
  have x0 : ∀ (a b : Value), extL (.tuple #[a, b]) 0 = some a := fun _ _ => rfl
  have x1 : ∀ (a b : Value), extL (.tuple #[a, b]) 1 = some b := fun _ _ => rfl
  refine ⟨T', .agg ⟨c1⟩, .agg ⟨c2⟩, ((m11.put (m.next + 1) (some (.cells c1 27 false))).put (m.next + 2) (some (.cells c2 24 false))).relow m, G_run rfl Tryd.func6 rfl (by kernel_rfl) (htext _ ?_), ?_, ?_, ?_, ?_⟩
  · simp only [bind_s, condL_t, condL_f, then3_s, cond_t, cond_f, saidL_bt, saidL_bf, saidL_u, cells_agg, size_agg, ld_g, ldn_g, ldB_s, ldG_str, ldG_int, ldG_bool, ldG_ptr, ldG_sl, get_z, get_s, pickL_t, pickL_f, notL_b, isPtr_p, fld_p, extL_t, lenSl_s, lenStr_s, isStr_s, cvI_s, newC_s, newS_s, endC_s, quiet_s, andV_s, bindR_v, int_eql, int_neq, int_lss, int_leq, int_gtr, int_geq, str_eql, str_neq, boolEq_s, not_t, not_f, Bool.true_and, Bool.false_and, Bool.and_true, Bool.and_false, Bool.true_or, Bool.false_or, beq_self_eq_true, Nat.zero_add, add_z, st8, k8 (show m.next ≠ m.next + 3 by omega) g0, hs.l4, hrun, x0, x1, st14, st15]
    unfold finW
    simp only [resW, put_look, Nat.reduceEqDiff, reduceIte, hl1, hl2]
    rfl
  · refine hC.one.at fun c x hx => ?_
    obtain ⟨z1, z2⟩ := from_get hx
    rw [get_relow, hg c (by omega) (by omega)]; exact z2
  · refine hC.two.at fun c x hx => ?_
    obtain ⟨z1, z2⟩ := from_get hx
    rw [get_relow, hg c (by omega) (by omega)]; exact z2
  · have := hC.height; omega
  · exact ((Stp.mark hm).trans hS15 (fun _ h => h.elim)).relow

theorem form_flat {m : Mem} {T : Tree} {v : Value} (h : FormAt m T v) : ∃ c, v = .agg ⟨c⟩ ∧ c.length = 4 ∧ c.all D.flat = true := by
  obtain ⟨op, a, b, ks⟩ := T
  obtain ⟨s, cs, rfl, hs, _⟩ := form_cells h
  exact ⟨_, rfl, rfl, by simp only [List.all_cons, List.all_nil, hs.flat]; rfl⟩

/-- 'LikePrints' answers true. -/
theorem run3 (T : Tree) (m : Mem) (v : Value) (hm : m.Ok) (hf : FormAt m T v) : run Pg E 3 [v] m = some (.ret (.bool true), m) := by
  obtain ⟨op, a, b, ks⟩ := T
  obtain ⟨s, cs, rfl, hs, hk⟩ := form_cells hf
  have hle := hm.le
  have hok1 := hm.mark.push (.cells [.string op, .int .i64 a, .int .i64 b, s] 24 false)
  have hS1 : Stp (fun _ => False) m.mark (m.mark.push (.cells [.string op, .int .i64 a, .int .i64 b, s] 24 false)) := (Stp.refl hm.mark).push _
  have g1 := get_push_n hm.mark (.cells [.string op, .int .i64 a, .int .i64 b, s] 24 false)
  have hf1 := hf.sub ((Mem.Sub.mark m).trans (Mem.Sub.push hm.mark (.cells [.string op, .int .i64 a, .int .i64 b, s] 24 false)))
  have htext := fun r => x3 m m.mark (.agg ⟨[.string op, .int .i64 a, .int .i64 b, s]⟩) (r := r)
  simp only [newC_s, next_mark, next_push, cells_agg] at htext
  rw [next_mark] at g1
  have n1 : (m.mark.push (.cells [.string op, .int .i64 a, .int .i64 b, s] 24 false)).next = m.next + 1 := rfl
  generalize m.mark.push (.cells [.string op, .int .i64 a, .int .i64 b, s] 24 false) = m1 at *
  obtain ⟨T', w1, w2, m4, h6, hw1, hw2, hh, hS4⟩ := run6 _ m1 _ hok1 hf1
  obtain ⟨c1, rfl, hc1, hfl1⟩ := form_flat hw1
  obtain ⟨c2, rfl, hc2, hfl2⟩ := form_flat hw2
  have hok4 := hS4.ok
  have hnx4 := hS4.next
  have hSm4 := hS1.trans hS4 (fun _ h => h.elim)
  have hb4 := hSm4.base
  have hok8 := hok4.push (.cells [.string ⟨#[]⟩, .int .i64 0, .int .i64 0, .slice none 0 0] 27 false)
  have hok10 := hok8.push (.cells [.string ⟨#[]⟩, .int .i64 0, .int .i64 0, .slice none 0 0] 24 false)
  have st11 : stn ((m4.push (.cells [.string ⟨#[]⟩, .int .i64 0, .int .i64 0, .slice none 0 0] 27 false)).push (.cells [.string ⟨#[]⟩, .int .i64 0, .int .i64 0, .slice none 0 0] 24 false)) 4 (ptr m4.next 0) (.agg ⟨c1⟩) = some (((m4.push (.cells [.string ⟨#[]⟩, .int .i64 0, .int .i64 0, .slice none 0 0] 27 false)).push (.cells [.string ⟨#[]⟩, .int .i64 0, .int .i64 0, .slice none 0 0] 24 false)).put m4.next (some (.cells c1 27 false))) := by
    rw [stn_g (n := 4) (o := 0) (v := .agg ⟨c1⟩) (by rw [base_push, base_push]; exact hok4.le) (Mem.Sub.push hok8 _ _ _ (get_push_n hok4 _)) hc1 (by omega) (by simp) hfl1]
    show some (Mem.put _ m4.next (some (.cells (splice _ 0 c1) 27 false))) = _
    rw [splice_all (by rw [hc1]; rfl)]
  have hS11 : Stp (fun _ => False) m4 (((m4.push (.cells [.string ⟨#[]⟩, .int .i64 0, .int .i64 0, .slice none 0 0] 27 false)).push (.cells [.string ⟨#[]⟩, .int .i64 0, .int .i64 0, .slice none 0 0] 24 false)).put m4.next (some (.cells c1 27 false))) :=
    (((Stp.refl hok4).push _).push _).put (by rw [base_push, base_push]; exact hok4.le) (by rw [next_push, next_push]; omega) (.inr (Nat.le_refl _)) _
  have ga11 : (((m4.push (.cells [.string ⟨#[]⟩, .int .i64 0, .int .i64 0, .slice none 0 0] 27 false)).push (.cells [.string ⟨#[]⟩, .int .i64 0, .int .i64 0, .slice none 0 0] 24 false)).put m4.next (some (.cells c1 27 false))).get m4.next = some (.cells c1 27 false) := get_put_n hok10 (by rw [base_push, base_push]; exact hok4.le) (by rw [next_push, next_push]; omega) _
  have gb11 : (((m4.push (.cells [.string ⟨#[]⟩, .int .i64 0, .int .i64 0, .slice none 0 0] 27 false)).push (.cells [.string ⟨#[]⟩, .int .i64 0, .int .i64 0, .slice none 0 0] 24 false)).put m4.next (some (.cells c1 27 false))).get (m4.next + 1) = some (.cells [.string ⟨#[]⟩, .int .i64 0, .int .i64 0, .slice none 0 0] 24 false) := by
    rw [get_put_o hok10 (by rw [base_push, base_push]; exact hok4.le) (by rw [next_push, next_push]; omega) _ (by omega)]; exact get_push_n hok8 _
  have n11 : (((m4.push (.cells [.string ⟨#[]⟩, .int .i64 0, .int .i64 0, .slice none 0 0] 27 false)).push (.cells [.string ⟨#[]⟩, .int .i64 0, .int .i64 0, .slice none 0 0] 24 false)).put m4.next (some (.cells c1 27 false))).next = m4.next + 2 := rfl
  generalize ((m4.push (.cells [.string ⟨#[]⟩, .int .i64 0, .int .i64 0, .slice none 0 0] 27 false)).push (.cells [.string ⟨#[]⟩, .int .i64 0, .int .i64 0, .slice none 0 0] 24 false)).put m4.next (some (.cells c1 27 false)) = m11 at *
  have hok11 := hS11.ok
  have hb11 := hS11.base
  have hle4 := hok4.le
  have st12 : stn m11 4 (ptr (m4.next + 1) 0) (.agg ⟨c2⟩) = some (m11.put (m4.next + 1) (some (.cells c2 24 false))) := by
    rw [stn_g (n := 4) (o := 0) (v := .agg ⟨c2⟩) (by omega) gb11 hc2 (by omega) (by simp) hfl2]
    show some (Mem.put _ (m4.next + 1) (some (.cells (splice _ 0 c2) 24 false))) = _
    rw [splice_all (by rw [hc2]; rfl)]
  have hS12 : Stp (fun _ => False) m4 (m11.put (m4.next + 1) (some (.cells c2 24 false))) := hS11.put (by omega) (by omega) (.inr (by omega)) _
  have ga12 : (m11.put (m4.next + 1) (some (.cells c2 24 false))).get m4.next = some (.cells c1 27 false) := by rw [get_put_o hok11 (by omega) (by omega) _ (by omega)]; exact ga11
  have gb12 : (m11.put (m4.next + 1) (some (.cells c2 24 false))).get (m4.next + 1) = some (.cells c2 24 false) := get_put_n hok11 (by omega) (by omega) _
  generalize m11.put (m4.next + 1) (some (.cells c2 24 false)) = m12 at *
  have hok12 := hS12.ok
  have hsub12 : m4.Sub m12 := fun c x hx => hS12.keep hok4 hx (fun h => h)
  have hcl12 : m12.clean m.next = true := (hSm4.trans hS12 (fun _ h => h.elim)).cleaned (clean_mark _ _) (fun _ h => h.elim) (Nat.le_refl _)
  have l1 : ldnB (some (Blk.cells c1 27 false)) 0 4 = some (.agg ⟨c1⟩) := ldnB_l hc1 hfl1
  have l2 : ldnB (some (Blk.cells c2 24 false)) 0 4 = some (.agg ⟨c2⟩) := ldnB_l hc2 hfl2
  have x0 : ∀ (a b : Value), extL (.tuple #[a, b]) 0 = some a := fun _ _ => rfl
  have x1 : ∀ (a b : Value), extL (.tuple #[a, b]) 1 = some b := fun _ _ => rfl
  have hF := formula_size T'
  have hsz := size_of T' 2000 40
  have f1 := hw1.sub hsub12
  have f2 := hw2.sub hsub12
  refine G_run rfl Tryd.func3 rfl (by kernel_rfl) (htext _ ?_)
  simp only [bind_s, condL_t, condL_f, then3_s, cond_t, cond_f, saidL_bt, saidL_bf, saidL_u, cells_agg, size_agg, ld_g, ldn_g, ldB_s, ldG_str, ldG_int, ldG_bool, ldG_ptr, ldG_sl, get_z, get_s, pickL_t, pickL_f, notL_b, isPtr_p, fld_p, extL_t, lenSl_s, lenStr_s, isStr_s, cvI_s, newC_s, newS_s, endC_s, quiet_s, andV_s, bindR_v, int_eql, int_neq, int_lss, int_leq, int_gtr, int_geq, str_eql, str_neq, boolEq_s, not_t, not_f, Bool.true_and, Bool.false_and, Bool.and_true, Bool.and_false, Bool.true_or, Bool.false_or, beq_self_eq_true, Nat.zero_add, add_z, g1, hs.l4, h6, x0, x1, next_push, st11, st12, ga12, l1, gb12, l2, run7 T' m12 _ hok12 f1, run8 T' m12 _ hok12 f1 (by omega), run9 T' m12 _ hok12 f2 (by omega), hF]
  by_cases h : 0 ≤ sizeS T' 2000 40
  · obtain ⟨a1, a2, a3⟩ := hsz h
    simp only [h, decide_true, if_true]
    simp only [bind_s, condL_t, condL_f, then3_s, cond_t, cond_f, saidL_bt, saidL_bf, saidL_u, cells_agg, size_agg, ld_g, ldn_g, ldB_s, ldG_str, ldG_int, ldG_bool, ldG_ptr, ldG_sl, get_z, get_s, pickL_t, pickL_f, notL_b, isPtr_p, fld_p, extL_t, lenSl_s, lenStr_s, isStr_s, cvI_s, newC_s, newS_s, endC_s, quiet_s, andV_s, bindR_v, int_eql, int_neq, int_lss, int_leq, int_gtr, int_geq, str_eql, str_neq, boolEq_s, not_t, not_f, Bool.true_and, Bool.false_and, Bool.and_true, Bool.and_false, Bool.true_or, Bool.false_or, beq_self_eq_true, Nat.zero_add, add_z, gb12, l2, run11 _ T' (Nat.lt_succ_self _) m12 _ hok12 f2 a1 (by omega), decide_true, run12 T' m12 _ hok12 f2 (by omega), run10]
    exact retL_plain rfl hcl12
  · simp only [h, decide_false, if_false]
    simp only [bind_s, condL_t, condL_f, then3_s, cond_t, cond_f, saidL_bt, saidL_bf, saidL_u, cells_agg, size_agg, ld_g, ldn_g, ldB_s, ldG_str, ldG_int, ldG_bool, ldG_ptr, ldG_sl, get_z, get_s, pickL_t, pickL_f, notL_b, isPtr_p, fld_p, extL_t, lenSl_s, lenStr_s, isStr_s, cvI_s, newC_s, newS_s, endC_s, quiet_s, andV_s, bindR_v, int_eql, int_neq, int_lss, int_leq, int_gtr, int_geq, str_eql, str_neq, boolEq_s, not_t, not_f, Bool.true_and, Bool.false_and, Bool.and_true, Bool.and_false, Bool.true_or, Bool.false_or, beq_self_eq_true, Nat.zero_add, add_z, decide_true, run10]
    exact retL_plain rfl hcl12

end Go.Proofs.YtfdfickokkokmaaDoor
