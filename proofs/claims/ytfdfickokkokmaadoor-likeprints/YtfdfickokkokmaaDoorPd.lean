/- Contracts: what Print writes. -/
import Derived.Test.YtfdfickokkokmaaDoorPc
set_option linter.unusedSimpArgs false
set_option linter.unusedVariables false
namespace Go.Proofs.YtfdfickokkokmaaDoor
open Go Go.D

attribute [local congr] bind_c cond_c condL_c then3_c andV_c bindR_c endC_c endD_c quiet_c newC_c newS_c callC_c callQ_c

mutual
def shapedS : Tree → Bool
  | .node op a b ks => decide (kidsN op = ks.length) && (hasV a (decide (kidsN op = 0) || decide (op = ⟨#[69]⟩)) && (hasV b (decide (kidsN op = 0)) && shapedL ks))
def shapedL : List Tree → Bool
  | [] => true
  | k :: ks => shapedS k && shapedL ks
end

mutual
def nodes : Tree → Int
  | .node _ _ _ ks => nodesL ks + 1
def nodesL : List Tree → Int
  | [] => 0
  | k :: ks => nodes k + nodesL ks
end

mutual
theorem nodes_pos : ∀ T, 1 ≤ nodes T
  | .node _ _ _ ks => by unfold nodes; have := nodesL_pos ks; omega
theorem nodesL_pos : ∀ ks, 0 ≤ nodesL ks
  | [] => by unfold nodesL; omega
  | k :: ks => by unfold nodesL; have := nodes_pos k; have := nodesL_pos ks; omega
end

mutual
theorem size_of : ∀ (T : Tree) (left deep : Int), 0 ≤ sizeS T left deep → shapedS T = true ∧ height T ≤ deep ∧ sizeS T left deep = left - nodes T
  | .node op a b ks, left, deep, h => by
    unfold sizeS at h ⊢
    by_cases hc : left < 1 ∨ deep < 1 ∨ kidsN op ≠ ks.length ∨ hasV a (decide (kidsN op = 0) || decide (op = ⟨#[69]⟩)) = false ∨ hasV b (decide (kidsN op = 0)) = false
    · rw [if_pos hc] at h; omega
    · rw [if_neg hc] at h ⊢
      simp only [not_or, Bool.not_eq_false, Decidable.not_not, ne_eq] at hc
      obtain ⟨h1, h2, h3, h4, h5⟩ := hc
      obtain ⟨k1, k2, k3⟩ := sizeL_of ks _ _ h
      have k4 : heightL ks ≤ deep - 1 := by
        rcases k2 with rfl | k2
        · unfold heightL; omega
        · exact k2
      unfold shapedS height nodes
      rw [h4, h5, k1, decide_eq_true h3]
      exact ⟨rfl, by omega, by omega⟩
theorem sizeL_of : ∀ (ks : List Tree) (left deep : Int), 0 ≤ sizeL ks left deep → shapedL ks = true ∧ (ks = [] ∨ heightL ks ≤ deep) ∧ sizeL ks left deep = left - nodesL ks
  | [], left, deep, h => by unfold sizeL nodesL shapedL; exact ⟨rfl, .inl rfl, by omega⟩
  | k :: ks, left, deep, h => by
    unfold sizeL at h ⊢
    by_cases hc : sizeS k left deep < 0
    · rw [if_pos hc] at h; omega
    · rw [if_neg hc] at h ⊢
      obtain ⟨a1, a2, a3⟩ := size_of k left deep (by omega)
      obtain ⟨k1, k2, k3⟩ := sizeL_of ks _ _ h
      unfold shapedL heightL nodesL
      rw [a1, k1]
      refine ⟨rfl, .inr ?_, by omega⟩
      rcases k2 with rfl | k2
      · unfold heightL; have := height_pos k; omega
      · omega
end

mutual
theorem of_size : ∀ (T : Tree) (left deep : Int), shapedS T = true → height T ≤ deep → nodes T ≤ left → sizeS T left deep = left - nodes T
  | .node op a b ks, left, deep, h1, h2, h3 => by
    unfold shapedS at h1
    unfold height at h2
    unfold nodes at h3 ⊢
    simp only [Bool.and_eq_true, decide_eq_true_eq] at h1
    obtain ⟨q1, q2, q3, q4⟩ := h1
    have := heightL_pos ks
    have := nodesL_pos ks
    unfold sizeS
    rw [if_neg (by rw [q2, q3]; simp only [q1]; simp; omega), ofL_size ks _ _ q4 (by omega) (by omega)]
    omega
theorem ofL_size : ∀ (ks : List Tree) (left deep : Int), shapedL ks = true → heightL ks ≤ deep → nodesL ks ≤ left → sizeL ks left deep = left - nodesL ks
  | [], left, deep, _, _, _ => by unfold sizeL nodesL; omega
  | k :: ks, left, deep, h1, h2, h3 => by
    unfold shapedL at h1
    unfold heightL at h2
    unfold nodesL at h3 ⊢
    simp only [Bool.and_eq_true] at h1
    have := nodesL_pos ks
    have := nodes_pos k
    unfold sizeL
    have e := of_size k left deep h1.1 (by omega) (by omega)
    rw [e, if_neg (by omega), ofL_size ks _ _ h1.2 (by omega) (by omega)]
    omega
end

def letterL (x : Int) : List UInt8 := (letterB x).data.toList

mutual
def textS : Tree → List UInt8
  | .node op a b ks => let l := textL ks
    if op = ⟨#[61]⟩ ∨ op = ⟨#[126]⟩ then letterL a ++ op.data.toList ++ letterL b
    else if op = ⟨#[33]⟩ then [33] ++ l.getD 0 []
    else if op = ⟨#[69]⟩ then [69] ++ letterL a ++ [32] ++ l.getD 0 []
    else if op = ⟨#[38]⟩ then [40] ++ l.getD 0 [] ++ [38] ++ l.getD 1 [] ++ [41]
    else []
def textL : List Tree → List (List UInt8)
  | [] => []
  | k :: ks => textS k :: textL ks
end

theorem letter_len {x : Int} (h : 0 ≤ x ∧ x < 4) : (letterB x).size = 1 := by
  have : x = 0 ∨ x = 1 ∨ x = 2 ∨ x = 3 := by omega
  rcases this with rfl | rfl | rfl | rfl <;> rfl

theorem hasV_of {x : Int} {u : Bool} (h : hasV x u = true) : 0 ≤ x ∧ x < 4 := by
  unfold hasV at h
  simp only [Bool.and_eq_true, decide_eq_true_eq] at h
  exact ⟨h.1, h.2.1⟩

mutual
theorem text_len : ∀ (T : Tree), shapedS T = true → ((textS T).length : Int) ≤ 3 * nodes T
  | .node op a b ks, h => by
    unfold shapedS at h
    simp only [Bool.and_eq_true, decide_eq_true_eq] at h
    obtain ⟨q1, q2, q3, q4⟩ := h
    have ha := letter_len (hasV_of q2)
    have hb := letter_len (hasV_of q3)
    have hl : ∀ x, (letterB x).size = 1 → (letterL x).length = 1 := fun x h => h
    have ha' := hl _ ha
    have hb' := hl _ hb
    have hk := textL_len ks q4
    have hn := nodesL_pos ks
    unfold textS nodes
    simp only
    split
    · rename_i h1
      have : op.data.toList.length = 1 := by rcases h1 with rfl | rfl <;> rfl
      simp only [List.length_append, ha', hb', this]; omega
    · split
      · rename_i h1 h2
        have h3 : kidsN op = 1 := by unfold kidsN; rw [if_neg h1, if_pos (.inl h2)]
        obtain ⟨k, rfl⟩ : ∃ k, ks = [k] := by
          match ks, q1 with
          | [k], _ => exact ⟨k, rfl⟩
          | [], q1 => rw [h3] at q1; simp at q1
          | _ :: _ :: _, q1 => rw [h3] at q1; simp at q1; omega
        have := hk k (by simp)
        simp only [textL, nodesL, List.getD_cons_zero, List.length_append, List.length_cons, List.length_nil] at this ⊢; omega
      · split
        · rename_i h1 h2 h3
          have h4 : kidsN op = 1 := by unfold kidsN; rw [if_neg h1, if_pos (.inr h3)]
          obtain ⟨k, rfl⟩ : ∃ k, ks = [k] := by
            match ks, q1 with
            | [k], _ => exact ⟨k, rfl⟩
            | [], q1 => rw [h4] at q1; simp at q1
            | _ :: _ :: _, q1 => rw [h4] at q1; simp at q1; omega
          have := hk k (by simp)
          simp only [textL, nodesL, List.getD_cons_zero, List.length_append, List.length_cons, List.length_nil, ha'] at this ⊢; omega
        · split
          · rename_i h1 h2 h3 h5
            have h4 : kidsN op = 2 := by unfold kidsN; rw [if_neg h1, if_neg (by rintro (h | h) <;> contradiction), if_pos h5]
            obtain ⟨k, k2, rfl⟩ : ∃ k k2, ks = [k, k2] := by
              match ks, q1 with
              | [k, k2], _ => exact ⟨k, k2, rfl⟩
              | [], q1 => rw [h4] at q1; simp at q1
              | [_], q1 => rw [h4] at q1; simp at q1
              | _ :: _ :: _ :: _, q1 => rw [h4] at q1; simp at q1; omega
            have := hk k (by simp)
            have := hk k2 (by simp)
            simp only [textL, nodesL, List.getD_cons_zero, List.getD_cons_succ, List.length_append, List.length_cons, List.length_nil] at *; omega
          · simp; omega
theorem textL_len : ∀ (ks : List Tree), shapedL ks = true → ∀ k ∈ ks, ((textS k).length : Int) ≤ 3 * nodes k
  | [], _, k, h => by simp at h
  | k :: ks, h, k', hk => by
    unfold shapedL at h
    simp only [Bool.and_eq_true] at h
    rcases List.mem_cons.1 hk with e | hk
    · rw [e]; exact text_len k h.1
    · exact textL_len ks h.2 k' hk
end

end Go.Proofs.YtfdfickokkokmaaDoor
