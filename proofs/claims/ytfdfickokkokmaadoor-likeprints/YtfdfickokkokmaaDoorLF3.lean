/- Formulas that are made. -/
import Derived.Test.YtfdfickokkokmaaDoorLF2
set_option linter.unusedSimpArgs false
set_option linter.unusedVariables false
namespace Go.D
open Go

/-- Steps that leave alone what W does not name. -/
structure Stp (W : Nat → Prop) (m m' : Mem) : Prop where
  ok : m'.Ok
  base : m'.base = m.base
  next : m.next ≤ m'.next
  get : ∀ b, b < m.next → ¬ W b → m'.get b = m.get b
  low : ∀ b, b ∈ m'.low → b ∈ m.low ∨ W b ∨ m.next ≤ b

theorem Stp.refl {W : Nat → Prop} {m : Mem} (h : m.Ok) : Stp W m m := ⟨h, rfl, Nat.le_refl _, fun _ _ _ => rfl, fun _ h => .inl h⟩
theorem Stp.push {W : Nat → Prop} {m m' : Mem} (h : Stp W m m') (x : Blk) : Stp W m (m'.push x) :=
  ⟨h.ok.push x, h.base, by rw [next_push]; have := h.next; omega, fun b h1 h2 => by rw [get_push_o h.ok x (by have := h.next; omega)]; exact h.get b h1 h2, h.low⟩
theorem Stp.put {W : Nat → Prop} {m m' : Mem} (h : Stp W m m') {b : Nat} (h1 : m'.base ≤ b) (h2 : b < m'.next) (hW : W b ∨ m.next ≤ b) (y : Option Blk) : Stp W m (m'.put b y) :=
  ⟨h.ok.put b y, h.base, h.next, fun c h3 h4 => by
      rw [get_put_o h.ok h1 h2 y (by rintro rfl; rcases hW with h | h; exact h4 h; omega)]; exact h.get c h3 h4,
    fun c hc => by
      rw [low_put] at hc
      rcases List.mem_cons.1 hc with rfl | hc
      · exact .inr hW
      · exact h.low c hc⟩
theorem Stp.trans {W W' : Nat → Prop} {m m1 m2 : Mem} (h : Stp W m m1) (h' : Stp W' m1 m2) (hw : ∀ b, W' b → W b ∨ m.next ≤ b) : Stp W m m2 :=
  ⟨h'.ok, h'.base.trans h.base, Nat.le_trans h.next h'.next, fun b h1 h2 => by
      rw [h'.get b (by have := h.next; omega) (fun h3 => by rcases hw b h3 with h4 | h4; exact h2 h4; omega)]; exact h.get b h1 h2,
    fun b hb => by
      rcases h'.low b hb with h1 | h1 | h1
      · exact h.low b h1
      · exact .inr (hw b h1)
      · exact .inr (.inr (by have := h.next; omega))⟩
theorem Stp.mark {W : Nat → Prop} {m : Mem} (h : m.Ok) : Stp W m m.mark := ⟨h, rfl, Nat.le_refl _, fun _ _ _ => rfl, fun _ h => by cases h⟩

/-- Formulas over whatever gives blocks. -/
def SlG (g : Nat → Option Blk) (s : Value) (sz n : Nat) (cs : List Value) : Prop :=
  cs.length = n * sz ∧ (n ≤ 140737488355328 ∧ cs.all D.flat = true) ∧ ((n = 0 ∧ ∃ a c, s = .slice a 0 c) ∨
    ∃ b o c all e w, s = .slice (some ⟨b, o, none⟩) n c ∧ g b = some (.cells all e w) ∧ o + n * sz ≤ all.length ∧ cs = (all.drop o).take (n * sz))

mutual
def FormG (g : Nat → Option Blk) : Tree → Value → Prop
  | .node op a b ks, v => ∃ s cs, v = .agg ⟨[.string op, .int .i64 a, .int .i64 b, s]⟩ ∧ SlG g s 4 ks.length cs ∧ FormsG g ks cs
def FormsG (g : Nat → Option Blk) : List Tree → List Value → Prop
  | [], _ => True
  | k :: ks, cs => FormG g k (.agg ⟨cs.take 4⟩) ∧ FormsG g ks (cs.drop 4)
end

theorem SlG.sub {g g' : Nat → Option Blk} (h : ∀ b x, g b = some x → g' b = some x) {s : Value} {sz n : Nat} {cs : List Value} (hs : SlG g s sz n cs) : SlG g' s sz n cs := by
  obtain ⟨h1, h2, h3 | ⟨b, o, c, all, e, w, h4, h5, h6⟩⟩ := hs
  · exact ⟨h1, h2, .inl h3⟩
  · exact ⟨h1, h2, .inr ⟨b, o, c, all, e, w, h4, h b _ h5, h6⟩⟩

mutual
theorem FormG.sub {g g' : Nat → Option Blk} (h : ∀ b x, g b = some x → g' b = some x) : ∀ (t : Tree) (v : Value), FormG g t v → FormG g' t v
  | .node op a b ks, v, hf => by
    unfold FormG at hf ⊢
    obtain ⟨s, cs, h1, h2, h3⟩ := hf
    exact ⟨s, cs, h1, h2.sub h, FormsG.sub h ks cs h3⟩
theorem FormsG.sub {g g' : Nat → Option Blk} (h : ∀ b x, g b = some x → g' b = some x) : ∀ (ts : List Tree) (cs : List Value), FormsG g ts cs → FormsG g' ts cs
  | [], _, _ => by unfold FormsG; trivial
  | k :: ks, cs, hf => by
    unfold FormsG at hf ⊢
    exact ⟨FormG.sub h k _ hf.1, FormsG.sub h ks _ hf.2⟩
end

mutual
theorem FormG.at {g : Nat → Option Blk} {m : Mem} (h : ∀ b x, g b = some x → m.get b = some x) : ∀ (t : Tree) (v : Value), FormG g t v → FormAt m t v
  | .node op a b ks, v, hf => by
    unfold FormG at hf
    unfold FormAt
    obtain ⟨s, cs, h1, h2, h3⟩ := hf
    exact ⟨s, cs, h1, h2.sub h, FormsG.at h ks cs h3⟩
theorem FormsG.at {g : Nat → Option Blk} {m : Mem} (h : ∀ b x, g b = some x → m.get b = some x) : ∀ (ts : List Tree) (cs : List Value), FormsG g ts cs → FormsAt m ts cs
  | [], _, _ => by unfold FormsAt; trivial
  | k :: ks, cs, hf => by
    unfold FormsG at hf
    unfold FormsAt
    exact ⟨FormG.at h k _ hf.1, FormsG.at h ks _ hf.2⟩
end

theorem FormsG.snoc {g : Nat → Option Blk} : ∀ (ts : List Tree) (cs : List Value) (t : Tree) (c : List Value), FormsG g ts cs → cs.length = 4 * ts.length → c.length = 4 → FormG g t (.agg ⟨c⟩) → FormsG g (ts ++ [t]) (cs ++ c)
  | [], cs, t, c, _, hl, hc, h => by
    have : cs = [] := List.eq_nil_of_length_eq_zero (by simpa using hl)
    subst this
    unfold FormsG
    refine ⟨?_, by unfold FormsG; trivial⟩
    rw [List.nil_append, List.take_of_length_le (by omega)]; exact h
  | k :: ks, cs, t, c, hf, hl, hc, h => by
    unfold FormsG at hf
    rw [List.cons_append]
    unfold FormsG
    simp only [List.length_cons] at hl
    rw [List.take_append_of_le_length (by omega), List.drop_append_of_le_length (by omega)]
    exact ⟨hf.1, FormsG.snoc ks _ t c hf.2 (by rw [List.length_drop]; omega) hc h⟩

theorem formG_cells {g : Nat → Option Blk} {T : Tree} {v : Value} (h : FormG g T v) : ∃ c, v = .agg ⟨c⟩ ∧ c.length = 4 ∧ c.all flat = true := by
  obtain ⟨op, a, b, ks⟩ := T
  unfold FormG at h
  obtain ⟨s, cs, rfl, ⟨_, _, h1⟩, _⟩ := h
  refine ⟨_, rfl, rfl, ?_⟩
  have : flat s = true := by rcases h1 with ⟨_, a, c, rfl⟩ | ⟨b, o, c, all, e, w, rfl, _⟩ <;> rfl
  simp only [List.all_cons, List.all_nil, this]; rfl

/-- What lies in blocks from n on. -/
def Mem.from (m : Mem) (n : Nat) : Nat → Option Blk := fun b => if n ≤ b then m.get b else none

theorem from_get {m : Mem} {n b : Nat} {x : Blk} (h : m.from n b = some x) : n ≤ b ∧ m.get b = some x := by
  unfold Mem.from at h
  split at h
  · exact ⟨‹_›, h⟩
  · cases h

/-- A slice of formulas that grows: nil, or a row of its own. -/
def Row (m : Mem) (e : TypeId) (v : Value) (i : Nat) (cs : List Value) (k : Nat) : Prop :=
  cs.length = 4 * i ∧ cs.all flat = true ∧ ((v = .slice none 0 0 ∧ i = 0) ∨ (v = .slice (some ⟨k, 0, none⟩) i loose ∧ m.get k = some (.cells cs e true) ∧ m.base ≤ k))

theorem appS_row {m : Mem} {e : TypeId} {v : Value} {i : Nat} {cs : List Value} {k : Nat} (hm : m.Ok) (hr : Row m e v i cs k) (hi : i ≤ 1000000) {c3 : Nat} {c : List Value} {e' : TypeId} {g : Bool} (hg : m.get c3 = some (.cells c e' g)) (hc : c.length = 4) (hf : c.all flat = true) :
    ∃ m', appS m e 4 56 v (.slice (some ⟨c3, 0, none⟩) 1 1) = some (.slice (some ⟨m.next, 0, none⟩) (i + 1) loose, m') ∧ Row m' e (.slice (some ⟨m.next, 0, none⟩) (i + 1) loose) (i + 1) (cs ++ c) m.next ∧
      m'.next = m.next + 1 ∧ Stp (fun b => (blockOf v).has b = true) m m' := by
  obtain ⟨h1, h2, h3⟩ := hr
  have hsrc : srcCells m 4 1 (.slice (some ⟨c3, 0, none⟩) 1 1) = some c := by
    simp only [srcCells, loadN, hg, List.drop_zero, Nat.one_mul]
    rw [List.take_of_length_le (by omega), if_pos ⟨hc, hf⟩]
  have hlen : (cs ++ c).length = 4 * (i + 1) := by rw [List.length_append, h1, hc]; omega
  have hfl : (cs ++ c).all flat = true := by rw [List.all_append, h2, hf]; rfl
  rcases h3 with ⟨rfl, rfl⟩ | ⟨rfl, hk, hb⟩
  · have hnil : cs = [] := List.eq_nil_of_length_eq_zero (by omega)
    subst hnil
    refine ⟨m.push (.cells c e true), ?_, ⟨hlen, hfl, .inr ⟨rfl, get_push_n hm _, ?_⟩⟩, rfl, (Stp.refl hm).push _⟩
    · simp only [appS, lenV, hsrc, Nat.one_mul, hc, ne_eq, not_true, if_false]
      rw [if_pos ⟨by omega, by omega⟩]
      unfold appendCore
      rw [if_neg (by decide), if_neg (by omega)]
      simp [newLoose]
    · rw [base_push]; exact hm.le
  · have hlt := get_lt hm hk
    have hok1 : (m.put k none).Ok := hm.put _ _
    refine ⟨(m.put k none).push (.cells (cs ++ c) e true), ?_, ⟨hlen, hfl, .inr ⟨rfl, get_push_n hok1 _, ?_⟩⟩, rfl, ((Stp.refl (W := fun b => (blockOf (.slice (some ⟨k, 0, none⟩) i loose)).has b = true) hm).put hb hlt (.inl (by simp [blockOf, FP.has])) none).push _⟩
    · simp only [appS, lenV, hsrc, Nat.one_mul, hc, ne_eq, not_true, if_false]
      rw [if_pos ⟨by omega, by omega⟩]
      unfold appendCore
      rw [if_pos (by decide)]
      simp only [hk]
      rw [if_pos ⟨trivial, hb, trivial, by omega, by rw [h2, hf]; rfl⟩]
    · rw [base_push, base_put]; exact hm.le

/- records that do not clash -/

theorem clash_of {a b : Rec} (h1 : ∀ c, a.wr.has c = true → b.rd.has c = true → False) (h2 : ∀ c, a.wr.has c = true → b.wr.has c = true → False) (h3 : ∀ c, b.wr.has c = true → a.rd.has c = true → False)
    (h4 : ∀ c, b.rd.has c = true → a.lo ≤ c → c < a.hi → False) (h5 : ∀ c, b.wr.has c = true → a.lo ≤ c → c < a.hi → False) : a.clash b = false := by
  unfold Rec.clash
  simp only [Bool.or_eq_false_iff]
  refine ⟨⟨⟨⟨?_, ?_⟩, ?_⟩, ?_⟩, ?_⟩ <;> rw [Bool.eq_false_iff] <;> intro h
  · obtain ⟨c, a1, a2⟩ := FP.meets_iff.1 h; exact h1 c a1 a2
  · obtain ⟨c, a1, a2⟩ := FP.meets_iff.1 h; exact h2 c a1 a2
  · obtain ⟨c, a1, a2⟩ := FP.meets_iff.1 h; exact h3 c a1 a2
  · obtain ⟨c, a1, a2, a3⟩ := meetsIn_iff.1 h; exact h4 c a1 a2 a3
  · obtain ⟨c, a1, a2, a3⟩ := meetsIn_iff.1 h; exact h5 c a1 a2 a3

theorem has_one {b c : Nat} (h : (blockOf (ptr b 0)).has c = true) : c = b := (beq_iff_eq.1 (show (b == c) = true from h)).symm
theorem has_ptr {b o c : Nat} (h : (blockOf (ptr b o)).has c = true) : c = b := (beq_iff_eq.1 (show (b == c) = true from h)).symm

/-- A load against a write elsewhere. -/
theorem clash_lw {b o c o' x l h : Nat} (hb : b ≠ c) : Rec.clash ⟨blockOf (ptr b o), .nil, x, x⟩ ⟨.nil, blockOf (ptr c o'), l, h⟩ = false :=
  clash_of (fun _ h => by cases h) (fun _ h => by cases h) (fun _ h1 h2 => hb ((has_ptr h2).symm.trans (has_ptr h1))) (fun _ h => by cases h) (fun _ _ h1 h2 => by have h1' : x ≤ _ := h1; have h2' : _ < x := h2; omega)

/-- A new block against a load of an old one. -/
theorem clash_nl {b o x l h : Nat} (hb : b < l) : Rec.clash ⟨.nil, .nil, l, h⟩ ⟨blockOf (ptr b o), .nil, x, x⟩ = false :=
  clash_of (fun _ h => by cases h) (fun _ h => by cases h) (fun _ h => by cases h) (fun c h1 h2 _ => by have := has_ptr h1; have h2' : l ≤ c := h2; omega) (fun _ h => by cases h)

/-- An append against a load elsewhere. -/
theorem clash_al {f : FP} {v : Value} {b o x l h : Nat} (hb : b < l) (hv : (blockOf v).has b = false) : Rec.clash ⟨f, blockOf v, l, h⟩ ⟨blockOf (ptr b o), .nil, x, x⟩ = false :=
  clash_of (fun c h1 h2 => by have := has_ptr h2; subst this; rw [hv] at h1; cases h1) (fun _ _ h => by cases h) (fun _ h => by cases h) (fun c h1 h2 _ => by have := has_ptr h1; have h2' : l ≤ c := h2; omega) (fun _ h => by cases h)

theorem row_has {m : Mem} {e : TypeId} {v : Value} {i : Nat} {cs : List Value} {k b : Nat} (hr : Row m e v i cs k) (h : b ≠ k) : (blockOf v).has b = false := by
  rcases hr.2.2 with ⟨rfl, _⟩ | ⟨rfl, _⟩
  · rfl
  · simp [blockOf, FP.has]; omega

theorem Stp.relow {W : Nat → Prop} {m m' : Mem} (h : Stp W m m') : Stp W m (m'.relow m) :=
  ⟨h.ok, h.base, h.next, h.get, fun b hb => by
    rcases List.mem_append.1 hb with h1 | h1
    · exact h.low b (List.mem_filter.1 h1).1
    · exact .inl h1⟩

theorem Stp.cleaned {W : Nat → Prop} {m m' : Mem} {n : Nat} (h : Stp W m m') (hc : m.clean n = true) (hW : ∀ b, W b → n ≤ b) (hn : n ≤ m.next) : m'.clean n = true := by
  unfold Mem.clean at *
  rw [List.all_eq_true] at hc ⊢
  intro b hb
  rcases h.low b hb with h1 | h1 | h1
  · exact hc b h1
  · rw [Nat.ble_eq]; exact hW b h1
  · rw [Nat.ble_eq]; omega

theorem Stp.sub {W : Nat → Prop} {m0 m m' : Mem} (h : Stp W m m') (hm : m.Ok) (hs : m0.Sub m) (hW : ∀ b, W b → m0.get b = none) : m0.Sub m' := fun b x hb => by
  rw [h.get b (get_lt hm (hs b x hb)) (fun hw => by rw [hW b hw] at hb; cases hb)]; exact hs b x hb

theorem Stp.keep {W : Nat → Prop} {m m' : Mem} (h : Stp W m m') (hm : m.Ok) {b : Nat} {x : Blk} (hb : m.get b = some x) (hw : ¬ W b) : m'.get b = some x := by
  rw [h.get b (get_lt hm hb) hw]; exact hb

theorem Row.keep {W : Nat → Prop} {m m' : Mem} {e : TypeId} {v : Value} {i : Nat} {cs : List Value} {k : Nat} (hr : Row m e v i cs k) (h : Stp W m m') (hm : m.Ok) (hw : ¬ W k) : Row m' e v i cs k := by
  obtain ⟨h1, h2, h3 | ⟨h3, h4, h5⟩⟩ := hr
  · exact ⟨h1, h2, .inl h3⟩
  · exact ⟨h1, h2, .inr ⟨h3, h.keep hm h4 hw, by rw [h.base]; exact h5⟩⟩

theorem Row.sl {m : Mem} {e : TypeId} {v : Value} {i : Nat} {cs : List Value} {k : Nat} (hr : Row m e v i cs k) (hi : i ≤ 1000000) {g : Nat → Option Blk} (hg : ∀ x, m.get k = some x → g k = some x) : SlG g v 4 i cs := by
  obtain ⟨h1, h2, ⟨rfl, rfl⟩ | ⟨rfl, h4, h5⟩⟩ := hr
  · exact ⟨by omega, ⟨by omega, h2⟩, .inl ⟨rfl, none, 0, rfl⟩⟩
  · exact ⟨by omega, ⟨by omega, h2⟩, .inr ⟨k, 0, loose, cs, e, true, rfl, hg _ h4, by omega, by rw [List.drop_zero, List.take_of_length_le (by omega)]⟩⟩

theorem Row.flat {m : Mem} {e : TypeId} {v : Value} {i : Nat} {cs : List Value} {k : Nat} (hr : Row m e v i cs k) : D.flat v = true ∧ v.cells.size = 1 ∧ v.cells.toList = [v] := by
  obtain ⟨_, _, ⟨rfl, _⟩ | ⟨rfl, _⟩⟩ := hr <;> exact ⟨rfl, rfl, rfl⟩

/-- What is no row that grows is not the row. -/
theorem row_other {m : Mem} {e : TypeId} {v : Value} {i : Nat} {cs : List Value} {k c : Nat} {x : Blk} (hr : Row m e v i cs k) (hx : m.get c = some x) (hne : x ≠ .cells cs e true) : (blockOf v).has c = false := by
  rcases hr.2.2 with ⟨rfl, _⟩ | ⟨rfl, h, _⟩
  · rfl
  · cases hc : (blockOf (.slice (some ⟨k, 0, none⟩) i loose)).has c with
    | false => rfl
    | true =>
      have : c = k := (beq_iff_eq.1 (show (k == c) = true from hc)).symm
      subst this
      rw [h] at hx
      exact absurd (Option.some.inj hx).symm hne

end Go.D
