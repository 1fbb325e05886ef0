/- D: memory, for texts. -/
import Derived.Test.YtfdfickokkokmaaDoorLD28
set_option linter.unusedSimpArgs false
set_option linter.unusedVariables false
namespace Go.D
open Go

def Mem.Ok (m : Mem) : Prop := m.next = m.base + m.new.length

theorem Mem.Ok.le {m : Mem} (h : m.Ok) : m.base ≤ m.next := by unfold Mem.Ok at h; omega
theorem Mem.Ok.push {m : Mem} (h : m.Ok) (x : Blk) : (m.push x).Ok := Mem.ok_push h x
theorem Mem.Ok.put {m : Mem} (h : m.Ok) (b : Nat) (x : Option Blk) : (m.put b x).Ok := Mem.ok_put h b x
theorem Mem.Ok.mark {m : Mem} (h : m.Ok) : m.mark.Ok := h
theorem Mem.Ok.relow {m n : Mem} (h : n.Ok) : (n.relow m).Ok := h

theorem next_mark (m : Mem) : m.mark.next = m.next := nr rfl
theorem base_mark (m : Mem) : m.mark.base = m.base := nr rfl
theorem get_mark (m : Mem) (b : Nat) : m.mark.get b = m.get b := nr rfl
theorem low_mark (m : Mem) : m.mark.low = [] := nr rfl
theorem next_relow (m n : Mem) : (n.relow m).next = n.next := nr rfl
theorem base_relow (m n : Mem) : (n.relow m).base = n.base := nr rfl
theorem get_relow (m n : Mem) (b : Nat) : (n.relow m).get b = n.get b := nr rfl
theorem next_push (m : Mem) (x : Blk) : (m.push x).next = m.next + 1 := nr rfl
theorem base_push (m : Mem) (x : Blk) : (m.push x).base = m.base := nr rfl
theorem low_push (m : Mem) (x : Blk) : (m.push x).low = m.low := nr rfl
theorem next_put (m : Mem) (b : Nat) (x : Option Blk) : (m.put b x).next = m.next := nr rfl
theorem base_put (m : Mem) (b : Nat) (x : Option Blk) : (m.put b x).base = m.base := nr rfl
theorem low_put (m : Mem) (b : Nat) (x : Option Blk) : (m.put b x).low = b :: m.low := nr rfl
theorem mark_mark (m : Mem) : m.mark.mark = m.mark := nr rfl

theorem get_push_n {m : Mem} (h : m.Ok) (x : Blk) : (m.push x).get m.next = some x := by rw [Mem.get_push h, if_pos rfl]
theorem get_push_o {m : Mem} (h : m.Ok) (x : Blk) {b : Nat} (hb : b ≠ m.next) : (m.push x).get b = m.get b := by rw [Mem.get_push h, if_neg hb]
theorem get_put_n {m : Mem} (h : m.Ok) {b : Nat} (h1 : m.base ≤ b) (h2 : b < m.next) (x : Option Blk) : (m.put b x).get b = x := by rw [Mem.get_put h h1 h2, if_pos rfl]
theorem get_put_o {m : Mem} (h : m.Ok) {b c : Nat} (h1 : m.base ≤ b) (h2 : b < m.next) (x : Option Blk) (hc : c ≠ b) : (m.put b x).get c = m.get c := by rw [Mem.get_put h h1 h2, if_neg hc]

theorem get_lt {m : Mem} (hm : m.Ok) {b : Nat} {x : Blk} (h : m.get b = some x) : b < m.next := by
  rcases Nat.lt_or_ge b m.next with h1 | h1
  · exact h1
  · rw [Mem.get_ge (by have := hm.le; omega) h1] at h; cases h

/-- A cell that can be loaded. -/
def ldG (o : Option Value) : Option Value :=
  match o with
  | some v => bif flat v then some v else none
  | none => none

def ldB (x : Option Blk) (o : Nat) : Option Value :=
  match x with
  | some (.cells c _ _) => ldG c[o]?
  | _ => none

def ldnB (x : Option Blk) (o n : Nat) : Option Value :=
  match x with
  | some (.cells c _ _) => if ((c.drop o).take n).length = n ∧ ((c.drop o).take n).all flat = true then some (.agg ((c.drop o).take n).toArray) else none
  | _ => none

theorem take1 (c : List Value) (o : Nat) : (match (let l := (c.drop o).take 1; if l.length = 1 ∧ l.all flat = true then some l else none) with | some [x] => some x | _ => none) = ldG c[o]? := by
  cases h : c.drop o with
  | nil =>
    have : c.length ≤ o := by simpa using h
    simp [List.getElem?_eq_none this, ldG]
  | cons x t =>
    have : c[o]? = some x := by
      have := congrArg (·[0]?) h
      simpa using this
    rw [this]
    cases hf : flat x <;> simp [ldG, hf]

theorem ld_g (m : Mem) (b o : Nat) : ld m (ptr b o) = ldB (m.get b) o := by
  simp only [ld, loadN, ldB]
  cases hb : m.get b with
  | none => rfl
  | some x => cases x with
    | cells c e g => exact take1 c o
    | mp es k => rfl

theorem ldn_g (m : Mem) (b o n : Nat) : ldn m n (ptr b o) = ldnB (m.get b) o n := by
  simp only [ldn, loadN, ldnB]
  cases hb : m.get b with
  | none => rfl
  | some x => cases x with
    | cells c e g =>
      simp only
      by_cases h : ((c.drop o).take n).length = n ∧ ((c.drop o).take n).all flat = true
      · rw [if_pos h, if_pos h]
      · rw [if_neg h, if_neg h]
    | mp es k => rfl

theorem ldB_s (c : List Value) (e : TypeId) (g : Bool) (o : Nat) : ldB (some (.cells c e g)) o = ldG c[o]? := nr rfl
theorem ldG_str (s : ByteArray) : ldG (some (.string s)) = some (.string s) := nr rfl
theorem ldG_int (k : IntKind) (n : Int) : ldG (some (.int k n)) = some (.int k n) := nr rfl
theorem ldG_bool (b : Bool) : ldG (some (.bool b)) = some (.bool b) := nr rfl
theorem ldG_ptr (a : Option Addr) : ldG (some (.pointer a)) = some (.pointer a) := nr rfl
theorem ldG_sl (a : Option Addr) (n c : Nat) : ldG (some (.slice a n c)) = some (.slice a n c) := nr rfl
theorem ldG_of {v : Value} (h : flat v = true) : ldG (some v) = some v := by simp [ldG, h]
theorem ldnB_s {c : List Value} {e : TypeId} {g : Bool} {o n : Nat} (h : o + n ≤ c.length) (hf : ((c.drop o).take n).all flat = true) : ldnB (some (.cells c e g)) o n = some (.agg ⟨(c.drop o).take n⟩) := by
  have : ((c.drop o).take n).length = n := by simp; omega
  simp only [ldnB, this, hf, and_self, if_true]

theorem ldnB_l {c : List Value} {e : TypeId} {g : Bool} {n : Nat} (h : c.length = n) (hf : c.all flat = true) : ldnB (some (.cells c e g)) 0 n = some (.agg ⟨c⟩) := by
  rw [ldnB_s (by omega) (by rw [List.drop_zero, List.take_of_length_le (by omega)]; exact hf), List.drop_zero, List.take_of_length_le (by omega)]

theorem relow_mark (m : Mem) : m.mark.relow m = m := nr rfl
theorem clean_mark (m : Mem) (n : Nat) : m.mark.clean n = true := nr rfl
theorem clean_push (m : Mem) (x : Blk) (n : Nat) : (m.push x).clean n = m.clean n := nr rfl
theorem clean_put (m : Mem) (b : Nat) (x : Option Blk) (n : Nat) : (m.put b x).clean n = (Nat.ble n b && m.clean n) := nr rfl

theorem put_look (ρ : Rho) (d t : Nat) (v : Value) : Rho.put ρ (some d) v t = if t = d then v else ρ t := by
  unfold Rho.put
  by_cases h : t = d
  · subst h; simp
  · have : Nat.beq t d = false := by rw [Bool.eq_false_iff]; intro e; exact h (Nat.eq_of_beq_eq_true e)
    simp only [this, cond_false, h, if_false]

theorem retL_plain {m m' : Mem} {v : Value} (hv : plain v = true) (hc : m'.clean m.next = true) : retL m v m' = some (.ret v, m) := by
  unfold retL; rw [hv, hc]; rfl

theorem stn_g {m : Mem} {n b o : Nat} {v : Value} {c : List Value} {e : TypeId} {g : Bool} (hb : m.base ≤ b) (hg : m.get b = some (.cells c e g)) (hl : v.cells.size = n) (h0 : 0 < n) (ho : o + n ≤ c.length) (hf : v.cells.toList.all flat = true) :
    stn m n (ptr b o) v = some (m.put b (some (.cells (splice c o v.cells.toList) e g))) := by
  unfold stn
  simp only [hl, if_true]
  unfold storeN
  have hlen : v.cells.toList.length = n := by simpa using hl
  split
  · rename_i h; rw [h] at hlen; simp at hlen; omega
  · simp only
    rw [if_neg (by omega), hg]
    simp only [hlen, hf, Bool.and_true, decide_eq_true ho, if_true]

/-- Old blocks stay. -/
def Mem.Sub (m m' : Mem) : Prop := ∀ b x, m.get b = some x → m'.get b = some x

theorem Mem.Sub.refl (m : Mem) : m.Sub m := fun _ _ h => h
theorem Mem.Sub.trans {m m' m2 : Mem} (h : m.Sub m') (h' : m'.Sub m2) : m.Sub m2 := fun b x hb => h' b x (h b x hb)
theorem Mem.Sub.mark (m : Mem) : m.Sub m.mark := fun _ _ h => h
theorem Mem.Sub.push {m : Mem} (hm : m.Ok) (x : Blk) : m.Sub (m.push x) := fun b y h => by
  rw [get_push_o hm x (by have := get_lt hm h; omega)]; exact h

theorem wrap_i64 {x : Int} (h1 : -9223372036854775808 ≤ x) (h2 : x ≤ 9223372036854775807) : IntKind.i64.wrap x = x := by
  have e : IntKind.i64.wrap x = if 9223372036854775808 ≤ x % 18446744073709551616 then x % 18446744073709551616 - 18446744073709551616 else x % 18446744073709551616 := by
    simp [IntKind.wrap, IntKind.bits, IntKind.signed]
  rw [e]
  split <;> omega

theorem wrap_nat {i : Nat} (h : i < 4611686018427387904) : IntKind.i64.wrap ((i : Int) + 1) = ((i + 1 : Nat) : Int) := by
  rw [wrap_i64 (by omega) (by omega)]; omega

/-- What a call may do to what was there: nothing but to the blocks of S; what it made lies behind. -/
structure Mem.Step (m : Mem) (S : Nat → Prop) (m' : Mem) : Prop where
  ok : m'.Ok
  base : m'.base = m.base
  next : m.next ≤ m'.next
  get : ∀ b, b < m.next → ¬ S b → m'.get b = m.get b
  low : ∀ b, b ∈ m'.low → b ∈ m.low ∨ S b ∨ m.next ≤ b

theorem splice_all {z c : List Value} (h : c.length = z.length) : splice z 0 c = c := by
  unfold splice; simp [← h]

/-- A new block, written at once. -/
theorem stn_new {m : Mem} (hm : m.Ok) {z c : List Value} {e : TypeId} {n : Nat} (hz : z.length = n) (hc : c.length = n) (h0 : 0 < n) (hf : c.all flat = true) :
    stn (m.push (.cells z e false)) n (ptr m.next 0) (.agg ⟨c⟩) = some ((m.push (.cells z e false)).put m.next (some (.cells c e false))) := by
  rw [stn_g (v := .agg ⟨c⟩) (c := z) (e := e) (g := false) (by rw [base_push]; exact hm.le) (get_push_n hm _) hc h0 (by omega) hf, splice_all (by show c.length = _; omega)]; rfl

theorem get_new {m : Mem} (hm : m.Ok) {x : Blk} {y : Option Blk} : ((m.push x).put m.next y).get m.next = y :=
  get_put_n (hm.push x) (by rw [base_push]; exact hm.le) (by rw [next_push]; omega) y

theorem Mem.Sub.put {m m' : Mem} (hm : m.Ok) (h : m.Sub m') (hm' : m'.Ok) {c : Nat} (h1 : m.next ≤ c) (h2 : m'.base ≤ c) (h3 : c < m'.next) (y : Option Blk) : m.Sub (m'.put c y) := fun b x hb => by
  rw [get_put_o hm' h2 h3 y (by have := get_lt hm hb; omega)]; exact h b x hb

theorem Mem.Sub.put_new {m m' : Mem} (hm : m.Ok) (h : m.Sub m') (hm' : m'.Ok) (hn : m.next ≤ m'.next) (x : Blk) (y : Option Blk) : m.Sub ((m'.push x).put m'.next y) :=
  (h.trans (Mem.Sub.push hm' x)).put hm (hm'.push x) hn (by rw [base_push]; exact hm'.le) (by rw [next_push]; omega) y

theorem clean_new {m' : Mem} {n : Nat} (hn : n ≤ m'.next) (x : Blk) (y : Option Blk) (hc : m'.clean n = true) : ((m'.push x).put m'.next y).clean n = true := by
  rw [clean_put, clean_push, hc, Bool.and_true, Nat.ble_eq]; exact hn

end Go.D
