/- 'LikePrints': the law answers true at every formula, and the formula reads as it did. Conditions: those of the given row alone. -/
import Derived.Test.YtfdfickokkokmaaDoorQb
import Derived.Test.YtfdfickokkokmaaDoorPk
import Derived.Test.YtfdfickokkokmaaDoorTie
import Derived.Test.YtfdfickokkokmaaDoorCards
import Derived.SizedLaws
set_option linter.unusedSimpArgs false
set_option linter.unusedVariables false
namespace Go.Proofs.YtfdfickokkokmaaDoor
open Go Go.D Go.ChangeShapes Go.WideShapes Go.ChangeAt Go.RowKit

/-- The call. -/
theorem prints_calls {W : World} (hL : Tables W) {cs : List Value} {H : Type} {enc : TypeId × Value → H} {held : Bool} {fuel : Nat} {x : DataW H × List MemPlace}
    (h : DataW.trod enc Tryd.prog W 0 (fun _ => true) held fuel 24 cs = some x) (hw : ∀ n ∈ x.1.weights Tryd.prog 24, n ≤ reachBytes) :
    Calls Tryd.prog 3 #[.agg ⟨cs⟩] W fun e w' => e = .returned (.bool true) ∧ Below W.heap.size W w' := by
  obtain ⟨T, hT, hfl⟩ := form_of_trod refForm fuel cs x h hw
  refine calls_of_run (args := [.agg ⟨cs.map (absC (phiW W))⟩]) mixed (envE hL) (progOk_mono (heap2 hL) progOk2) (run3 T (memW W) _ (memW_ok W) hT) ?_ rfl
  exact .cons (.agg (absL_v hfl)) .nil

set_option maxRecDepth 100000 in
theorem likePrints_lifted (os : Os) (started : os.Started) (H : Type) (enc : TypeId × Value → H) :
    ReturnsInHanded {} Tryd.checked os 3 .any (fun w args => (Rows.likePrintsSpec.pre enc Tryd.prog Tryd.f3 [] false w args ∧ laidMetH Tryd.prog laidTables w) ∧ sizedMet enc Tryd.prog Tryd.f3 (OpenSpec.ofChange Rows.likePrintsSpec) false w args)
      (Rows.likePrintsSpec.post enc Tryd.prog Tryd.f3 false true false false) := by
  refine returnsInHanded_of_change_and (C := Tryd.checked) (X := fun w _ => laidMetH Tryd.prog laidTables w) (fun _ _ _ hh h => h.of_heap hh) own started (by kernel_rfl) Tryd.func3
    (ChangeSpec.witness_shaped (enc := enc) (C := Tryd.checked) (os := os) (X := fun w _ => laidMetH Tryd.prog laidTables w) false (World.doorLaid Tryd.prog 400 os) #[.agg #[.string .empty, .int .i64 0, .int .i64 0, .slice none 0 0]] 8 rfl (World.shaped_of_RefB (by kernel_rfl) (by kernel_rfl)) (by kernel_rfl) (by kernel_rfl) (by kernel_rfl) (door_met os _)) ?_
  intro W base args ds gs before hval0 hW _ hsz hL _
  have hW' := hW
  obtain ⟨p, q, hA0, hV, rfl, hfz, hnd⟩ := hW
  have hA : DataW.TrodAll enc Tryd.prog W 0 (fun _ => true) true Tryd.f3.params.toList args.toList ds p := hA0
  have hval : ∀ (j : Nat) t v, Tryd.f3.params[j]? = some t → args[j]? = some v → Value.okWide Tryd.prog W .any base t v := hval0
  have hsz2 : (DataW.weightsEach Tryd.prog (Tryd.f3.params.toList ++ Rows.likePrintsSpec.plain.varTypes Tryd.prog) (ds ++ gs)).all (· ≤ reachBytes) = true := hsz
  rw [Tryd.params3] at hA hval hsz2
  obtain ⟨v0, d0, rfl, rfl, h0⟩ := trodAll_one hA
  obtain ⟨rfl, rfl⟩ := trodVars_none hV
  have h0k := h0
  obtain ⟨fuel, h0⟩ := h0
  have hv : ∃ cs : Array Value, v0 = .agg cs := by
    have := hval 0 24 v0 rfl rfl
    unfold Value.okWide at this
    rw [Tryd.underlying24] at this
    obtain ⟨cs, rfl, _⟩ := this
    exact ⟨cs, rfl⟩
  obtain ⟨⟨cs⟩, rfl⟩ := hv
  have hw : ∀ n ∈ d0.weights Tryd.prog 24, n ≤ reachBytes := by
    intro n hn
    have h1 := List.all_eq_true.1 hsz2 n (DataW.weights_mem_each (j := 0) rfl rfl n hn)
    simpa using h1
  simp only [List.append_nil] at hW'
  refine (prints_calls (tables hL) h0 hw).mono fun e W' ⟨he, hbelow⟩ => ?_
  subst he
  have hlt : ∀ x ∈ p, x.block < W.heap.size := fun x hx => by simpa using hW'.lt x hx
  have hread : DataW.Trod enc Tryd.prog W' 0 (fun b => decide (b < W.heap.size)) true 24 (.agg ⟨cs⟩) d0 p :=
    Below.trod laidOut (by kernel_rfl) (of_decide_eq_true (by kernel_rfl)) h0k hbelow hlt
  refine ⟨_, rfl, [d0], [], p, [], p, [], hW', ?_, ?_, ?_, hbelow.frame _, fun h => nomatch h⟩
  · exact trodAll_mk1 (shut_bool Tryd.underlying4 _)
  · rw [Tryd.params3]
    exact trodAll_mk1 hread
  · rfl

theorem likePrints_holds : Rows.LikePrintsSaid :=
  OpenClaim.holds_of_wide 3 Tryd.f3 rfl rfl rfl rfl rfl rfl rfl ⟨rfl, rfl, rfl, rfl, rfl⟩ rfl rfl rfl rfl rfl (by kernel_rfl) Tryd.func3 (by kernel_rfl)
    (of_decide_eq_true (by kernel_rfl)) (by unfold Func.isWrapper; first | (rw [if_pos (by decide +kernel)]; kernel_rfl) | (rw [if_neg (by decide +kernel)]; exact ⟨rfl, rfl⟩))
    (fun os started H enc _ => likePrints_lifted os started H enc)

/-- The given statement. -/
theorem likePrints : Rows.LikePrintsCardSaid :=
  Claim7.holds_tied_plain_at .later [] [.data, .data] true (true, "4fb6dc037cadd9f7a7c22a869ad54b4809a55100c063147e3847d9982d16ecc0") true
    likePrints_holds (fun _ h => by cases h) (by kernel_rfl) (fun _ h => by cases h) likePrints_row_tie rfl ⟨rfl, rfl⟩ (by kernel_rfl) rfl
    (fun f fn hf hfn => by
      obtain rfl : f = 3 := Option.some.inj ((show Tryd.prog.funcNamed "lampblack/lampblacklaw09.LikePrints" = some 3 by kernel_rfl).symm.trans hf) |>.symm
      obtain rfl : fn = Tryd.f3 := (Option.some.inj (Tryd.func3.symm.trans hfn)).symm
      exact ⟨by kernel_rfl, fun j t ht => by
        rw [Tryd.params3] at ht
        have hm : t ∈ [24] := by simpa using Array.mem_of_getElem? ht
        have hall : ([24].all fun u => !Tryd.prog.wantsStandIn u) = true := by kernel_rfl
        exact (show Tryd.prog.wantsStandIn t = false by simpa using List.all_eq_true.1 hall t hm)⟩)
    (by kernel_rfl)

#print axioms likePrints
end Go.Proofs.YtfdfickokkokmaaDoor
