/- D: how an abstract memory stands to a world. -/
import Derived.Test.YtfdfickokkokmaaDoorLD1
set_option linter.unusedSimpArgs false
set_option linter.unusedVariables false
namespace Go.D
open Go

structure Loc where
  blk : Nat
  tot : Nat
  sz : Nat

abbrev Phi := Nat → Option Loc

mutual
inductive VR (φ : Phi) : Value → Value → Prop
  | bool (b : Bool) : VR φ (.bool b) (.bool b)
  | int (k : IntKind) (n : Int) : VR φ (.int k n) (.int k n)
  | float (k : FloatKind) (n : Nat) : VR φ (.float k n) (.float k n)
  | string (s : ByteArray) : VR φ (.string s) (.string s)
  | ptrN : VR φ (.pointer none) (.pointer none)
  | ptr {b o : Nat} {L : Loc} (h : φ b = some L) : VR φ (.pointer (some ⟨b, o, none⟩)) (.pointer (some ⟨L.blk, o, none⟩))
  | slN (n c : Nat) : VR φ (.slice none n c) (.slice none n c)
  | sl {b o n c : Nat} {L : Loc} (h : φ b = some L) (hc : isLoose c = false) : VR φ (.slice (some ⟨b, o, none⟩) n c) (.slice (some ⟨L.blk, o, none⟩) n c)
  | slL {b o n c c' : Nat} {L : Loc} (h : φ b = some L) (hc : isLoose c = true) (hn : n ≤ c') (ht : o = 0 → c' * L.sz ≤ L.tot) : VR φ (.slice (some ⟨b, o, none⟩) n c) (.slice (some ⟨L.blk, o, none⟩) n c')
  | slZ (b o s : Nat) (a : Addr) : VR φ (.slice (some ⟨b, o, some s⟩) 0 0) (.slice (some a) 0 0)
  | mapN : VR φ (.map none) (.map none)
  | map {b : Nat} {L : Loc} (h : φ b = some L) : VR φ (.map (some b)) (.map (some L.blk))
  | nilFunc : VR φ .nilFunc .nilFunc
  | nilIface : VR φ .nilIface .nilIface
  | iface (t : TypeId) {v v' : Value} (h : VR φ v v') : VR φ (.iface t v) (.iface t v')
  | func (fn : Fn) {f f' c c' : Array Value} (h : VRL φ f.toList f'.toList) (h' : VRL φ c.toList c'.toList) : VR φ (.func fn f c) (.func fn f' c')
  | agg {c c' : Array Value} (h : VRL φ c.toList c'.toList) : VR φ (.agg c) (.agg c')
  | tuple {c c' : Array Value} (h : VRL φ c.toList c'.toList) : VR φ (.tuple c) (.tuple c')
inductive VRL (φ : Phi) : List Value → List Value → Prop
  | nil : VRL φ [] []
  | cons {x y : Value} {xs ys : List Value} (h : VR φ x y) (t : VRL φ xs ys) : VRL φ (x :: xs) (y :: ys)
end

def Phi.le (φ ψ : Phi) : Prop := ∀ b L, φ b = some L → ψ b = some L

mutual
theorem VR.mono {φ ψ : Phi} (hle : φ.le ψ) : ∀ {v v' : Value}, VR φ v v' → VR ψ v v'
  | _, _, .bool b => .bool b
  | _, _, .int k n => .int k n
  | _, _, .float k n => .float k n
  | _, _, .string s => .string s
  | _, _, .ptrN => .ptrN
  | _, _, .ptr h => .ptr (hle _ _ h)
  | _, _, .slN n c => .slN n c
  | _, _, .sl h hc => .sl (hle _ _ h) hc
  | _, _, .slL h hc hn ht => .slL (hle _ _ h) hc hn ht
  | _, _, .slZ b o s a => .slZ b o s a
  | _, _, .mapN => .mapN
  | _, _, .map h => .map (hle _ _ h)
  | _, _, .nilFunc => .nilFunc
  | _, _, .nilIface => .nilIface
  | _, _, .iface t h => .iface t (VR.mono hle h)
  | _, _, .func fn h h' => .func fn (VRL.mono hle h) (VRL.mono hle h')
  | _, _, .agg h => .agg (VRL.mono hle h)
  | _, _, .tuple h => .tuple (VRL.mono hle h)
theorem VRL.mono {φ ψ : Phi} (hle : φ.le ψ) : ∀ {v v' : List Value}, VRL φ v v' → VRL ψ v v'
  | _, _, .nil => .nil
  | _, _, .cons h t => .cons (VR.mono hle h) (VRL.mono hle t)
end

theorem Phi.le_refl (φ : Phi) : φ.le φ := fun _ _ h => h
theorem Phi.le_trans {φ ψ χ : Phi} (h : φ.le ψ) (h' : ψ.le χ) : φ.le χ := fun b L hb => h' b L (h b L hb)

section lists
variable {φ : Phi}
theorem VRL.length {l l' : List Value} (h : VRL φ l l') : l.length = l'.length := by
  induction l generalizing l' with
  | nil => cases h; rfl
  | cons x xs ih => cases h with | cons h t => simp [ih t]

theorem VRL.append {a a' b b' : List Value} (h : VRL φ a a') (h' : VRL φ b b') : VRL φ (a ++ b) (a' ++ b') := by
  induction a generalizing a' with
  | nil => cases h; exact h'
  | cons x xs ih => cases h with | cons h t => exact .cons h (ih t)

theorem VRL.take {l l' : List Value} (h : VRL φ l l') (n : Nat) : VRL φ (l.take n) (l'.take n) := by
  induction n generalizing l l' with
  | zero => simpa using VRL.nil
  | succ n ih => cases h with
    | nil => simpa using VRL.nil
    | cons h t => simpa using VRL.cons h (ih t)

theorem VRL.drop {l l' : List Value} (h : VRL φ l l') (n : Nat) : VRL φ (l.drop n) (l'.drop n) := by
  induction n generalizing l l' with
  | zero => simpa using h
  | succ n ih => cases h with
    | nil => simpa using VRL.nil
    | cons h t => simpa using ih t

theorem VRL.get? {l l' : List Value} (h : VRL φ l l') (i : Nat) : (l[i]? = none ∧ l'[i]? = none) ∨ ∃ x y, l[i]? = some x ∧ l'[i]? = some y ∧ VR φ x y := by
  induction i generalizing l l' with
  | zero => cases h with
    | nil => exact .inl ⟨rfl, rfl⟩
    | cons h t => exact .inr ⟨_, _, rfl, rfl, h⟩
  | succ n ih => cases h with
    | nil => exact .inl ⟨rfl, rfl⟩
    | cons h t => simpa using ih t

theorem VRL.of_get {l l' : List Value} (hl : l.length = l'.length) (h : ∀ (i : Nat) (x y : Value), l[i]? = some x → l'[i]? = some y → VR φ x y) : VRL φ l l' := by
  induction l generalizing l' with
  | nil => cases l' with
    | nil => exact .nil
    | cons _ _ => simp at hl
  | cons x xs ih => cases l' with
    | nil => simp at hl
    | cons y ys => exact .cons (h 0 x y rfl rfl) (ih (by simpa using hl) fun i a b ha hb => h (i + 1) a b (by simpa using ha) (by simpa using hb))

theorem VRL.splice {l l' vs vs' : List Value} (h : VRL φ l l') (hv : VRL φ vs vs') (o : Nat) : VRL φ (splice l o vs) (splice l' o vs') := by
  unfold D.splice
  rw [← hv.length]
  exact (h.take o).append (hv.append (h.drop _))

theorem VRL.map {α : Type} {f g : α → Value} (l : List α) (h : ∀ x ∈ l, VR φ (f x) (g x)) : VRL φ (l.map f) (l.map g) := by
  induction l with
  | nil => exact .nil
  | cons x xs ih => exact .cons (h x (by simp)) (ih fun y hy => h y (by simp [hy]))

theorem VRL.repl {l l' : List Value} (h : VRL φ l l') (n : Nat) : VRL φ (repl n l) (repl n l') := by
  induction n with
  | zero => exact .nil
  | succ n ih => exact h.append ih
end lists

theorem VR.undef (φ : Phi) : VR φ undef undef := .tuple .nil

theorem VR.cells {φ : Phi} {v v' : Value} (h : VR φ v v') : VRL φ v.cells.toList v'.cells.toList := by
  cases h <;> first
    | (rename_i h; exact h)
    | (simp only [Value.cells]; exact .cons (by constructor <;> assumption) .nil)

/-- Values without an address stand for themselves. -/
theorem VR.scalar_self {φ : Phi} {v : Value} (h : scalar v = true) : VR φ v v := by
  cases v <;> simp [scalar] at h <;> try constructor
  · rename_i a; cases a <;> simp at h; constructor
  · rename_i a _ _; cases a <;> simp at h; constructor
  · rename_i a; cases a <;> simp at h; constructor

theorem VR.scalar_eq {φ : Phi} {v v' : Value} (h : VR φ v v') (hs : scalar v = true) : v' = v := by
  cases h <;> first | rfl | simp [scalar] at hs

theorem VRL.scalar_self {φ : Phi} {l : List Value} (h : l.all scalar = true) : VRL φ l l := by
  induction l with
  | nil => exact .nil
  | cons x xs ih => simp only [List.all_cons, Bool.and_eq_true] at h; exact .cons (VR.scalar_self h.1) (ih h.2)

theorem VRL.scalar_eq {φ : Phi} {l l' : List Value} (h : VRL φ l l') (hs : l.all scalar = true) : l' = l := by
  induction l generalizing l' with
  | nil => cases h; rfl
  | cons x xs ih =>
    cases h with
    | cons h t =>
      simp only [List.all_cons, Bool.and_eq_true] at hs
      rw [h.scalar_eq hs.1, ih t hs.2]

theorem VR.plain_self {φ : Phi} {v : Value} (h : plain v = true) : VR φ v v := by
  cases v <;> simp only [plain] at h <;> first
    | exact VR.scalar_self h
    | exact .agg (VRL.scalar_self h)
    | exact .tuple (VRL.scalar_self h)

theorem VR.plain_eq {φ : Phi} {v v' : Value} (h : VR φ v v') (hs : plain v = true) : v' = v := by
  cases h <;> simp only [plain] at hs <;> first
    | rfl
    | (rename_i h; have := h.scalar_eq hs; simp only [Array.toList_inj] at this; rw [this])
    | (simp [scalar] at hs; done)

def ER (φ : Phi) (x y : MapEntry) : Prop := VR φ x.key y.key ∧ VR φ x.val y.val ∧ x.born = y.born

/-- Cells against cells: nothing is known of one that is not flat. -/
inductive CRL (φ : Phi) : List Value → List Value → Prop
  | nil : CRL φ [] []
  | cons {x y : Value} {xs ys : List Value} (h : flat x = true → VR φ x y) (t : CRL φ xs ys) : CRL φ (x :: xs) (y :: ys)

theorem VRL.c {φ : Phi} {l l' : List Value} (h : VRL φ l l') : CRL φ l l' := by
  induction l generalizing l' with
  | nil => cases h; exact .nil
  | cons x xs ih => cases h with | cons h t => exact .cons (fun _ => h) (ih t)

theorem CRL.v {φ : Phi} {l l' : List Value} (h : CRL φ l l') (hf : l.all flat = true) : VRL φ l l' := by
  induction l generalizing l' with
  | nil => cases h; exact .nil
  | cons x xs ih =>
    cases h with
    | cons h t =>
      simp only [List.all_cons, Bool.and_eq_true] at hf
      exact .cons (h hf.1) (ih t hf.2)

theorem CRL.length {φ : Phi} {l l' : List Value} (h : CRL φ l l') : l.length = l'.length := by
  induction h with
  | nil => rfl
  | cons _ _ ih => simp [ih]

theorem CRL.mono {φ ψ : Phi} (hle : φ.le ψ) {l l' : List Value} (h : CRL φ l l') : CRL ψ l l' := by
  induction h with
  | nil => exact .nil
  | cons h _ ih => exact .cons (fun hf => (h hf).mono hle) ih

theorem CRL.append {φ : Phi} {a a' b b' : List Value} (h : CRL φ a a') (h' : CRL φ b b') : CRL φ (a ++ b) (a' ++ b') := by
  induction h with
  | nil => exact h'
  | cons h _ ih => exact .cons h ih

theorem CRL.take {φ : Phi} {l l' : List Value} (h : CRL φ l l') (n : Nat) : CRL φ (l.take n) (l'.take n) := by
  induction n generalizing l l' with
  | zero => simpa using CRL.nil
  | succ n ih => cases h with
    | nil => simpa using CRL.nil
    | cons h t => simpa using CRL.cons h (ih t)

theorem CRL.drop {φ : Phi} {l l' : List Value} (h : CRL φ l l') (n : Nat) : CRL φ (l.drop n) (l'.drop n) := by
  induction n generalizing l l' with
  | zero => simpa using h
  | succ n ih => cases h with
    | nil => simpa using CRL.nil
    | cons h t => simpa using ih t

theorem CRL.splice {φ : Phi} {l l' vs vs' : List Value} (h : CRL φ l l') (hv : VRL φ vs vs') (o : Nat) : CRL φ (D.splice l o vs) (D.splice l' o vs') := by
  unfold D.splice
  rw [← hv.length]
  exact (h.take o).append (hv.c.append (h.drop _))

/-- Block against object. -/
def BR (P : Program) (φ : Phi) (own : Prop) (x : Blk) (L : Loc) (o : Option Obj) : Prop :=
  match x with
  | .cells c e g => ∃ c' fr, o = some (.cells c' e fr) ∧ c'.size = L.tot ∧ (g = false → c'.size = c.length) ∧ c.length ≤ c'.size ∧ CRL φ c (c'.toList.take c.length) ∧
      (own → ∀ k, k < c'.size → ¬ (fr.1 ≤ k ∧ k < fr.2)) ∧ (own → (P.info? e).map (·.size) = some L.sz)
  | .mp es clock => ∃ es', o = some (.map es' clock) ∧ es.length = es'.size ∧ ∀ (i : Nat) (x y : MapEntry), es[i]? = some x → es'[i]? = some y → ER φ x y

theorem BR.mono {P : Program} {φ ψ : Phi} {own : Prop} {x : Blk} {L : Loc} {o : Option Obj} (hle : φ.le ψ) (h : BR P φ own x L o) : BR P ψ own x L o := by
  cases x with
  | cells c e g =>
    obtain ⟨c', fr, h1, h2, h3, h4, h5, h6⟩ := h
    exact ⟨c', fr, h1, h2, h3, h4, h5.mono hle, h6⟩
  | mp es clock =>
    obtain ⟨es', h1, h2, h3⟩ := h
    exact ⟨es', h1, h2, fun i x y hx hy => ⟨(h3 i x y hx hy).1.mono hle, (h3 i x y hx hy).2.1.mono hle, (h3 i x y hx hy).2.2⟩⟩

structure WR (P : Program) (φ : Phi) (m : Mem) (w : World) : Prop where
  ok : m.next = m.base + m.new.length
  live : ∀ b x L, m.get b = some x → φ b = some L → BR P φ (m.base ≤ b) x L w.heap[L.blk]?
  rng : ∀ b L, φ b = some L → L.blk < w.heap.size
  inj : ∀ b c L M, m.get b ≠ none → m.get c ≠ none → φ b = some L → φ c = some M → L.blk = M.blk → b = c
  fresh : ∀ b, m.next ≤ b → φ b = none
  old : ∀ b, b < m.base → ∃ L, φ b = some L ∧ L.blk = b
  own : ∀ b L, m.base ≤ b → φ b = some L → m.base ≤ L.blk
  mapd : ∀ b, m.get b ≠ none → ∃ L, φ b = some L

structure Sim (P : Program) (φ : Phi) (m : Mem) (w : World) (ψ : Phi) (m' : Mem) (w' : World) : Prop where
  ext : φ.le ψ
  wr : WR P ψ m' w'
  frame : ∀ k, k < w.heap.size → (∀ b L, m.base ≤ b → φ b = some L → L.blk = k → m.get b = none) → w'.heap[k]? = w.heap[k]?
  size : w.heap.size ≤ w'.heap.size
  os : w'.os = w.os
  tape : w'.tape = w.tape
  output : w'.output = w.output
  base : m'.base = m.base
  oldm : m'.old = m.old
  next : m.next ≤ m'.next
  dead : ∀ b, b < m.next → m.get b = none → m'.get b = none
  new : ∀ b L, ψ b = some L → φ b = none → w.heap.size ≤ L.blk ∨ ∃ c M, m.base ≤ c ∧ m.get c ≠ none ∧ φ c = some M ∧ M.blk = L.blk
  low : ∀ b, b ∈ m.low → b ∈ m'.low
  kept : ∀ b, b < m.next → b ∉ m'.low → m'.get b = m.get b
  same : ∀ b L, φ b = some L → m.get b ≠ none → b ∉ m'.low → w'.heap[L.blk]? = w.heap[L.blk]?
  dom : ∀ b L, ψ b = some L → φ b = none → m.next ≤ b

theorem Sim.refl {P : Program} {φ : Phi} {m : Mem} {w : World} (h : WR P φ m w) : Sim P φ m w φ m w :=
  ⟨Phi.le_refl φ, h, fun _ _ _ => rfl, Nat.le_refl _, rfl, rfl, rfl, rfl, rfl, Nat.le_refl _, fun _ _ h => h, fun b L h1 h2 => by (rw [h1] at h2; cases h2), fun _ h => h, fun _ _ _ => rfl, fun _ _ _ _ _ => rfl, fun b L h1 h2 => by (rw [h1] at h2; cases h2)⟩

theorem Sim.trans {P : Program} {φ ψ χ : Phi} {m m1 m2 : Mem} {w w1 w2 : World} (h : Sim P φ m w ψ m1 w1) (k : Sim P ψ m1 w1 χ m2 w2) (hw : WR P φ m w) : Sim P φ m w χ m2 w2 where
  ext := Phi.le_trans h.ext k.ext
  wr := k.wr
  frame := by
    intro i hi hd
    rw [k.frame i (Nat.lt_of_lt_of_le hi h.size) ?_, h.frame i hi hd]
    intro b L hb hL hk
    rw [h.base] at hb
    cases hp : φ b with
    | some M =>
      have : M = L := Option.some.inj ((h.ext b M hp).symm.trans hL)
      subst this
      refine h.dead b ?_ (hd b M hb hp hk)
      rcases Nat.lt_or_ge b m.next with h1 | h1
      · exact h1
      · rw [hw.fresh b h1] at hp; cases hp
    | none =>
      rcases h.new b L hL hp with h1 | ⟨c, M, hc, hl, hM, he⟩
      · omega
      · exact absurd (hd c M hc hM (he.trans hk)) hl
  size := Nat.le_trans h.size k.size
  os := k.os.trans h.os
  tape := k.tape.trans h.tape
  output := k.output.trans h.output
  base := k.base.trans h.base
  oldm := k.oldm.trans h.oldm
  next := Nat.le_trans h.next k.next
  dead := fun b hb hd => k.dead b (Nat.lt_of_lt_of_le hb h.next) (h.dead b hb hd)
  new := by
    intro b L hL hp
    cases hq : ψ b with
    | some M =>
      have : M = L := Option.some.inj ((k.ext b M hq).symm.trans hL)
      subst this
      exact h.new b M hq hp
    | none =>
      rcases k.new b L hL hq with h1 | ⟨c, M, hc, hl, hM, he⟩
      · exact .inl (Nat.le_trans h.size h1)
      · rw [h.base] at hc
        cases hr : φ c with
        | some N =>
          have : N = M := Option.some.inj ((h.ext c N hr).symm.trans hM)
          subst this
          refine .inr ⟨c, N, hc, fun hn => hl ?_, hr, he⟩
          refine h.dead c ?_ hn
          rcases Nat.lt_or_ge c m.next with h1 | h1
          · exact h1
          · rw [hw.fresh c h1] at hr; cases hr
        | none =>
          rcases h.new c M hM hr with h1 | ⟨d, N, hd, hl', hN, he'⟩
          · exact .inl (he ▸ h1)
          · exact .inr ⟨d, N, hd, hl', hN, he'.trans he⟩
  low := fun b hb => k.low b (h.low b hb)
  kept := fun b hb hl => (k.kept b (Nat.lt_of_lt_of_le hb h.next) hl).trans (h.kept b hb fun hm => hl (k.low b hm))
  same := by
    intro b L hL hl hlo
    have hb : b < m.next := by
      rcases Nat.lt_or_ge b m.next with h1 | h1
      · exact h1
      · rw [hw.fresh b h1] at hL; cases hL
    have hlo1 : b ∉ m1.low := fun hm => hlo (k.low b hm)
    rw [k.same b L (h.ext b L hL) (by rw [h.kept b hb hlo1]; exact hl) hlo, h.same b L hL hl hlo1]
  dom := by
    intro b L hL hp
    cases hq : ψ b with
    | some M => exact h.dom b M hq hp
    | none => exact Nat.le_trans h.next (k.dom b L hL hq)

end Go.D
