/- D: tables that are read out of a world. -/
import Derived.Test.YtfdfickokkokmaaDoorLG2
import Derived.OpenShut
set_option linter.unusedSimpArgs false
set_option linter.unusedVariables false
namespace Go.D
open Go

/-- The numbers of a datum that is a table. -/
def numbers {H : Type} : DataW H → List Int
  | .agg ds => ds.map fun d => match d with | .lit (.int _ n) => n | _ => 0
  | _ => []

theorem ints_of_trod {H : Type} {enc : TypeId × Value → H} {P : Program} {w : World} {sp : Nat → Bool} {held : Bool} {fuel : Nat} {t e : TypeId} {k : IntKind} {n : Nat} {cs : List Value} {x : DataW H × List MemPlace}
    (ht : P.underlying t = some (.array n e)) (he : P.underlying e = some (.int k)) (ce : P.cellsOf e = 1) (ct : P.cellsOf t = n) (h : DataW.trod enc P w 0 sp held fuel t cs = some x) : cs = (numbers x.1).map (Value.int k) := by
  obtain ⟨xs, m, rfl, rfl, hl, hxl, hg⟩ := DataW.trod_array ht h
  rw [ce] at hg
  rw [ct] at hl
  refine List.ext_getElem? fun i => ?_
  simp only [numbers, List.getElem?_map]
  rcases Nat.lt_or_ge i n with hi | hi
  · have h1 := hg i hi
    obtain ⟨y, hy⟩ : ∃ y, xs[i]? = some y := ⟨xs[i]'(by omega), List.getElem?_eq_getElem (by omega)⟩
    rw [hy] at h1 ⊢
    obtain ⟨q, e1, rfl, _⟩ := DataW.trod_int he h1
    have h2 : ((cs.drop (i * 1)).take 1)[0]? = some (Value.int k q) := by rw [e1]; rfl
    rw [List.getElem?_take, if_pos (by omega), List.getElem?_drop, Nat.mul_one, Nat.add_zero] at h2
    rw [h2]
    rfl
  · rw [List.getElem?_eq_none (by omega), List.getElem?_eq_none (by omega)]
    rfl

theorem crl_ints {φ : Phi} {k : IntKind} : ∀ {l : List Int} {ys : List Value}, CRL φ (l.map (Value.int k)) ys → ys = l.map (Value.int k)
  | [], _, h => by cases h; rfl
  | n :: l, _, h => by
    cases h with
    | cons h t =>
      have := h rfl
      cases this
      rw [crl_ints t]
      rfl

theorem crl_ints_mk {φ : Phi} {k : IntKind} : ∀ (l : List Int), CRL φ (l.map (Value.int k)) (l.map (Value.int k))
  | [] => .nil
  | _ :: l => .cons (fun _ => .int _ _) (crl_ints_mk l)

theorem absL_ints (φ : Phi) (k : IntKind) (l : List Int) : (l.map (Value.int k)).map (absC φ) = l.map (Value.int k) := by
  rw [List.map_map]
  exact List.map_congr_left fun n _ => absC_int φ k n

/-- A table's block is in every later world what it was. -/
theorem table_later {P : Program} {W : World} {b : Nat} {l : List Int} {k : IntKind} {c : Array Value} {e : TypeId} {fr : Nat × Nat} (hc : W.heap[b]? = some (.cells c e fr)) (hl : c.toList = l.map (Value.int k))
    {φ : Phi} {m : Mem} {w : World} (hb : m.base = W.heap.size) (ho : m.old = oldW W) (hw : WR P φ m w) :
    b < w.heap.size ∧ ∃ c' fr', w.heap[b]? = some (.cells c' e fr') ∧ c'.toList = l.map (Value.int k) := by
  have hlt : b < m.base := by rw [hb]; exact heap_lt hc
  obtain ⟨L, hL, he⟩ := hw.old b hlt
  have hget : m.get b = some (.cells (l.map (Value.int k)) e false) := by
    unfold Mem.get
    have hx : Nat.blt b m.base = true := by rw [Nat.blt_eq]; exact hlt
    simp only [hx, if_true, cond_true, hlt]
    rw [ho]
    unfold oldW
    rw [hc]
    simp only [hl, absL_ints]
  obtain ⟨c', fr', h1, h2, h3, h4, h5, _⟩ := hw.live b _ L hget hL
  rw [he] at h1
  refine ⟨by have := hw.rng b L hL; omega, c', fr', h1, ?_⟩
  have h6 := crl_ints h5
  have h7 := h3 rfl
  rw [List.take_of_length_le (by rw [Array.length_toList]; omega)] at h6
  exact h6

end Go.D
