/- What is asked of a world in which the tables are laid: awake tells true there. -/
import Derived.Test.YtfdfickokkokmaaDoorQa
import Derived.MakeChecks
import Derived.LaidMore
import Derived.OpenShut
import Derived.ProofKit
set_option linter.unusedSimpArgs false
set_option linter.unusedVariables false
namespace Go.Proofs.YtfdfickokkokmaaDoor
open Go Go.D

theorem own : ownKnob Tryd.prog.godebug = none := by kernel_rfl
theorem laidOut : laidOutB Tryd.prog = true := by kernel_rfl
theorem g32 : Tryd.prog.globalNamed "math/bits.deBruijn32tab" = some 0 := by kernel_rfl
theorem g64 : Tryd.prog.globalNamed "math/bits.deBruijn64tab" = some 1 := by kernel_rfl
theorem t32 : (Tryd.prog.globals[0]?).map (·.type) = some 162 := by kernel_rfl
theorem t64 : (Tryd.prog.globals[1]?).map (·.type) = some 163 := by kernel_rfl

abbrev laidTables : List (String × DataW Unit) := [("math/bits.deBruijn32tab", Rows.laid_math_bits_deBruijn32tab), ("math/bits.deBruijn64tab", Rows.laid_math_bits_deBruijn64tab)]

/-- The door's own heap meets the condition. -/
theorem door_met (os : Os) (args : Array Value) : laidMetH Tryd.prog laidTables ((World.doorLaid Tryd.prog 400 os).forCall (fun _ _ => 0) ⟨#[], args, []⟩).memory :=
  laidMetH_of_parts3 (fuel := 8) (laidMet_of_run' 8 (by kernel_rfl) (by kernel_rfl)) (by kernel_rfl) (by kernel_rfl)

theorem var_block {P : Program} {w : World} {n : String} {g : Nat} {cs : Array Value} (hg : P.globalNamed n = some g) (h : w.var? P n = some cs) : ∃ e fr, w.heap[g]? = some (.cells cs e fr) := by
  unfold World.var? at h
  rw [hg] at h
  simp only [Option.bind_some] at h
  split at h
  · rename_i c e fr hc
    cases h
    exact ⟨e, fr, hc⟩
  · cases h

/-- The two blocks. -/
structure Tables (W : World) : Prop where
  a : ∃ c e fr, W.heap[0]? = some (.cells c e fr) ∧ c.toList = (numbers (Rows.laid_math_bits_deBruijn32tab (H := Unit))).map (Value.int .u8)
  b : ∃ c e fr, W.heap[1]? = some (.cells c e fr) ∧ c.toList = (numbers (Rows.laid_math_bits_deBruijn64tab (H := Unit))).map (Value.int .u8)

theorem tables {W : World} (h : laidMetH Tryd.prog laidTables W) : Tables W := by
  rw [MakeChecks.laidMetH_plain _ _ _ (by kernel_rfl)] at h
  obtain ⟨ps, ⟨g0, ty0, cs0, f0, p0, q0, hg0, ht0, hv0, hd0, ⟨g1, ty1, cs1, f1, p1, q1, hg1, ht1, hv1, hd1, _, _⟩, _⟩, _, _⟩ := h
  obtain rfl := Option.some.inj (g32.symm.trans hg0)
  obtain rfl := Option.some.inj (g64.symm.trans hg1)
  obtain rfl := Option.some.inj (t32.symm.trans ht0)
  obtain rfl := Option.some.inj (t64.symm.trans ht1)
  obtain ⟨e0, fr0, h0⟩ := var_block hg0 hv0
  obtain ⟨e1, fr1, h1⟩ := var_block hg1 hv1
  exact ⟨⟨_, e0, fr0, h0, ints_of_trod Tryd.underlying162 Tryd.underlying5 (by kernel_rfl) (by kernel_rfl) hd0⟩, ⟨_, e1, fr1, h1, ints_of_trod Tryd.underlying163 Tryd.underlying5 (by kernel_rfl) (by kernel_rfl) hd1⟩⟩

theorem env0 (base : Nat) (old : Nat → Option Blk) : EnvOk Pg base old E0 :=
  ⟨fun _ _ _ h => (nomatch h), fun f x w h => (by obtain rfl : f = 77 := Nat.eq_of_beq_eq_true h; exact idf77 x w), fun _ _ _ h => (nomatch h)⟩

/-- awake in a world that bears the tables. -/
theorem awake_calls {w : World} (h : Tables w) : Calls Pg 10 #[] w fun e w' => e = .returned (.bool true) ∧ RowKit.Below w.heap.size w w' := by
  obtain ⟨c0, e0, fr0, h0, hc0⟩ := h.a
  obtain ⟨c1, e1, fr1, h1, hc1⟩ := h.b
  have hr := awake_run e0 e1
  rw [Option.map_eq_some_iff] at hr
  obtain ⟨⟨r, m'⟩, hr, rfl⟩ := hr
  refine closed mixed (env0 2 (old2 e0 e1)) progOk2 hr rfl rfl (by have := heap_lt h1; omega) (locs := locW w) (fun b _ => rfl) fun b x hb hx => ?_
  match b, hb, hx with
  | 0, _, hx =>
    cases hx
    have hl : c0.size = ((numbers (Rows.laid_math_bits_deBruijn32tab (H := Unit))).map (Value.int .u8)).length := by rw [← hc0]; simp
    refine ⟨c0, fr0, h0, by simp [locW, h0], fun _ => hl, by omega, ?_, fun h => absurd h (by decide), fun h => absurd h (by decide)⟩
    rw [← hl, hc0, List.take_of_length_le (by rw [hl]; exact Nat.le_refl _)]
    exact crl_ints_mk _
  | 1, _, hx =>
    cases hx
    have hl : c1.size = ((numbers (Rows.laid_math_bits_deBruijn64tab (H := Unit))).map (Value.int .u8)).length := by rw [← hc1]; simp
    refine ⟨c1, fr1, h1, by simp [locW, h1], fun _ => hl, by omega, ?_, fun h => absurd h (by decide), fun h => absurd h (by decide)⟩
    rw [← hl, hc1, List.take_of_length_le (by rw [hl]; exact Nat.le_refl _)]
    exact crl_ints_mk _
  | n + 2, hb, _ => omega

theorem envE {W : World} (h : Tables W) : EnvOk Pg W.heap.size (oldW W) E := by
  refine ⟨fun _ _ _ h => (nomatch h), fun f x w h => (by obtain rfl : f = 77 := Nat.eq_of_beq_eq_true h; exact idf77 x w), ?_⟩
  intro f args v ho
  unfold E at ho
  simp only at ho
  split at ho
  · cases hf : Nat.beq f 10 with
    | false => rw [hf] at ho; cases ho
    | true =>
      rw [hf] at ho
      obtain rfl := Nat.eq_of_beq_eq_true hf
      cases ho
      refine ⟨rfl, enters10, fun φ m w hb hold hw => awake_calls ?_⟩
      obtain ⟨c0, e0, fr0, h0, hc0⟩ := h.a
      obtain ⟨c1, e1, fr1, h1, hc1⟩ := h.b
      obtain ⟨_, c0', fr0', h0', hc0'⟩ := table_later h0 hc0 hb hold hw
      obtain ⟨_, c1', fr1', h1', hc1'⟩ := table_later h1 hc1 hb hold hw
      exact ⟨⟨c0', e0, fr0', h0', hc0'⟩, ⟨c1', e1, fr1', h1', hc1'⟩⟩
  · cases ho

theorem heap2 {W : World} (h : Tables W) : 2 ≤ W.heap.size := by
  obtain ⟨c1, e1, fr1, h1, _⟩ := h.b
  have := heap_lt h1
  omega

theorem refForm : FormT Pg 24 22 9 3 where
  form := ⟨_, _, _, _, Tryd.underlying24, ⟨rfl, rfl⟩, ⟨rfl, rfl⟩, ⟨rfl, rfl⟩, rfl, rfl⟩
  kids := Tryd.underlying22
  str := Tryd.underlying9
  int := Tryd.underlying3
  cF := by kernel_rfl
  cK := by kernel_rfl
  cS := by kernel_rfl
  cI := by kernel_rfl
  bytes := of_decide_eq_true (by kernel_rfl)

end Go.Proofs.YtfdfickokkokmaaDoor
