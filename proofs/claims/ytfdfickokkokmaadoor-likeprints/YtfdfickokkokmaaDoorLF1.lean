/- Formulas in memory. -/
import Derived.Test.YtfdfickokkokmaaDoorLD29
set_option linter.unusedSimpArgs false
set_option linter.unusedVariables false
namespace Go.D
open Go

inductive Tree where
  | node (op : ByteArray) (a b : Int) (kids : List Tree)

/-- A slice of n elements of sz cells each that holds these cells. -/
def SlAt (m : Mem) (s : Value) (sz n : Nat) (cs : List Value) : Prop :=
  cs.length = n * sz ∧ (n ≤ 140737488355328 ∧ cs.all D.flat = true) ∧ ((n = 0 ∧ ∃ a c, s = .slice a 0 c) ∨
    ∃ b o c all e g, s = .slice (some ⟨b, o, none⟩) n c ∧ m.get b = some (.cells all e g) ∧ o + n * sz ≤ all.length ∧ cs = (all.drop o).take (n * sz))

mutual
def FormAt (m : Mem) : Tree → Value → Prop
  | .node op a b ks, v => ∃ s cs, v = .agg ⟨[.string op, .int .i64 a, .int .i64 b, s]⟩ ∧ SlAt m s 4 ks.length cs ∧ FormsAt m ks cs
def FormsAt (m : Mem) : List Tree → List Value → Prop
  | [], _ => True
  | k :: ks, cs => FormAt m k (.agg ⟨cs.take 4⟩) ∧ FormsAt m ks (cs.drop 4)
end

theorem SlAt.sub {m m' : Mem} (h : m.Sub m') {s : Value} {sz n : Nat} {cs : List Value} (hs : SlAt m s sz n cs) : SlAt m' s sz n cs := by
  obtain ⟨h1, h2, h3 | ⟨b, o, c, all, e, g, h4, h5, h6⟩⟩ := hs
  · exact ⟨h1, h2, .inl h3⟩
  · exact ⟨h1, h2, .inr ⟨b, o, c, all, e, g, h4, h b _ h5, h6⟩⟩

mutual
theorem FormAt.sub {m m' : Mem} (h : m.Sub m') : ∀ (t : Tree) (v : Value), FormAt m t v → FormAt m' t v
  | .node op a b ks, v, hf => by
    unfold FormAt at hf ⊢
    obtain ⟨s, cs, h1, h2, h3⟩ := hf
    exact ⟨s, cs, h1, h2.sub h, FormsAt.sub h ks cs h3⟩
theorem FormsAt.sub {m m' : Mem} (h : m.Sub m') : ∀ (ts : List Tree) (cs : List Value), FormsAt m ts cs → FormsAt m' ts cs
  | [], _, _ => by unfold FormsAt; trivial
  | k :: ks, cs, hf => by
    unfold FormsAt at hf ⊢
    exact ⟨FormAt.sub h k _ hf.1, FormsAt.sub h ks _ hf.2⟩
end

theorem SlAt.len {m : Mem} {s : Value} {sz n : Nat} {cs : List Value} (hs : SlAt m s sz n cs) : lenSl s = some (.int .i64 n) := by
  obtain ⟨_, _, ⟨rfl, a, c, rfl⟩ | ⟨b, o, c, all, e, g, rfl, _⟩⟩ := hs <;> rfl

theorem SlAt.flat {m : Mem} {s : Value} {sz n : Nat} {cs : List Value} (hs : SlAt m s sz n cs) : D.flat s = true := by
  obtain ⟨_, _, ⟨rfl, a, c, rfl⟩ | ⟨b, o, c, all, e, g, rfl, _⟩⟩ := hs <;> rfl

theorem SlAt.gs {m : Mem} {s : Value} {sz n : Nat} {cs : List Value} (hs : SlAt m s sz n cs) : ldG (some s) = some s := ldG_of hs.flat
theorem SlAt.l4 {m : Mem} {s : Value} {sz n : Nat} {cs : List Value} (hs : SlAt m s sz n cs) (op : ByteArray) (a b : Int) (e : TypeId) (g : Bool) :
    ldnB (some (.cells [.string op, .int .i64 a, .int .i64 b, s] e g)) 0 4 = some (.agg ⟨[.string op, .int .i64 a, .int .i64 b, s]⟩) := ldnB_l rfl (by simp only [List.all_cons, List.all_nil, hs.flat]; rfl)

theorem all_sub {l : List Value} (h : l.all D.flat = true) (a b : Nat) : ((l.drop a).take b).all D.flat = true := by
  rw [List.all_eq_true] at h ⊢
  exact fun x hx => h x (List.mem_of_mem_drop (List.mem_of_mem_take hx))

/-- An element's place, and what lies there. -/
theorem SlAt.elem {m : Mem} {s : Value} {sz n : Nat} {cs : List Value} (hs : SlAt m s sz n cs) {i : Nat} (hi : i < n) :
    ∃ b o, ixS sz s (.int .i64 i) = some (ptr b o) ∧ ∃ all e g, m.get b = some (.cells all e g) ∧ o + sz ≤ all.length ∧ (all.drop o).take sz = (cs.drop (i * sz)).take sz ∧ ((all.drop o).take sz).all D.flat = true := by
  obtain ⟨_, ⟨_, hfl⟩, ⟨rfl, a, c, rfl⟩ | ⟨b, o, c, all, e, g, rfl, hg, hl, rfl⟩⟩ := hs
  · omega
  · have hmul : i * sz + sz ≤ n * sz := by
      have : (i + 1) * sz ≤ n * sz := Nat.mul_le_mul_right _ hi
      rw [Nat.succ_mul] at this; exact this
    refine ⟨b, o + i * sz, ?_, all, e, g, hg, by omega, ?_, ?_⟩
    · rw [ixS_s _ _ _ _ _ _ _ ⟨by omega, by omega⟩]; simp
    · rw [List.drop_take, List.take_take, List.drop_drop, Nat.min_eq_left (by omega)]
    · have := all_sub hfl (i * sz) sz
      rw [List.drop_take, List.take_take, List.drop_drop, Nat.min_eq_left (by omega)] at this
      exact this

theorem SlAt.ldn {m : Mem} {b o n : Nat} {all : List Value} {e : TypeId} {g : Bool} (hg : m.get b = some (.cells all e g)) (ho : o + n ≤ all.length) (hf : ((all.drop o).take n).all D.flat = true) : D.ldn m n (ptr b o) = some (.agg ⟨(all.drop o).take n⟩) := by
  rw [ldn_g, hg, ldnB_s ho hf]

/-- The forms from some place on. -/
theorem FormsAt.drop {m : Mem} : ∀ {ks : List Tree} {cs : List Value} (i : Nat), FormsAt m ks cs → FormsAt m (ks.drop i) (cs.drop (i * 4))
  | ks, cs, 0, h => by simpa using h
  | [], cs, i + 1, _ => by simp [FormsAt]
  | k :: ks, cs, i + 1, h => by
    unfold FormsAt at h
    have := FormsAt.drop i h.2
    rw [List.drop_drop, show 4 + i * 4 = (i + 1) * 4 by omega] at this
    simpa using this

theorem FormsAt.at {m : Mem} {ks : List Tree} {cs : List Value} {i : Nat} {k : Tree} {r : List Tree} (h : FormsAt m ks cs) (hk : ks.drop i = k :: r) : FormAt m k (.agg ⟨(cs.drop (i * 4)).take 4⟩) := by
  have := h.drop i
  rw [hk] at this
  unfold FormsAt at this
  exact this.1

/-- A kid that is copied into a new block. -/
theorem kid_at {m mm : Mem} {s : Value} {ks : List Tree} {cs : List Value} {i : Nat} {k : Tree} {r : List Tree} (e : TypeId) (hm : m.Ok) (hs : SlAt m s 4 ks.length cs) (hk : FormsAt m ks cs) (hr : ks.drop i = k :: r)
    (hmm : mm.Ok) (hsub : m.Sub mm) (hcl : mm.clean m.next = true) (hnx : m.next ≤ mm.next) :
    ∃ b o x0 x1 x2 x3 m2, i < ks.length ∧ ks.drop (i + 1) = r ∧ i < 4611686018427387904 ∧ ixS 4 s (.int .i64 i) = some (ptr b o) ∧ ldnB (mm.get b) o 4 = some (.agg ⟨[x0, x1, x2, x3]⟩) ∧
      stn (mm.push (.cells [.string ⟨#[]⟩, .int .i64 0, .int .i64 0, .slice none 0 0] e false)) 4 (ptr mm.next 0) (.agg ⟨[x0, x1, x2, x3]⟩) = some m2 ∧ m2.get mm.next = some (.cells [x0, x1, x2, x3] e false) ∧ ldnB (some (.cells [x0, x1, x2, x3] e false)) 0 4 = some (.agg ⟨[x0, x1, x2, x3]⟩) ∧
      FormAt m k (.agg ⟨[x0, x1, x2, x3]⟩) ∧ m.Sub m2 ∧ m2.Ok ∧ m2.clean m.next = true ∧ m.next ≤ m2.next ∧ m2.base = mm.base ∧ mm.next < m2.next ∧ (∀ b, b < mm.next → m2.get b = mm.get b) := by
  have hi : i < ks.length := by
    rcases Nat.lt_or_ge i ks.length with h | h
    · exact h
    · rw [List.drop_eq_nil_of_le h] at hr; cases hr
  have hr2 : ks.drop (i + 1) = r := by rw [← List.drop_drop, hr]; rfl
  obtain ⟨b, o, h1, all, e', g, h2, h3, h4, h40⟩ := hs.elem hi
  have h5 := SlAt.ldn (hsub _ _ h2) h3 h40
  rw [h4, ldn_g] at h5
  have hform := hk.at hr
  obtain ⟨kop, ka, kb, kks⟩ := k
  have hform2 := hform
  unfold FormAt at hform2
  obtain ⟨s2, cs2, hv, hs2, _⟩ := hform2
  simp only [Value.agg.injEq, Array.mk.injEq] at hv
  rw [hv] at h5 hform
  have hfl : [Value.string kop, .int .i64 ka, .int .i64 kb, s2].all D.flat = true := by simp only [List.all_cons, List.all_nil, hs2.flat]; rfl
  refine ⟨b, o, _, _, _, _, _, hi, hr2, by have := hs.2.1.1; omega, h1, h5, stn_new hmm rfl rfl (by omega) hfl, get_new hmm, ldnB_l rfl hfl, hform, hsub.put_new hm hmm hnx _ _, (hmm.push _).put _ _, clean_new hnx _ _ hcl, by rw [next_put, next_push]; omega, rfl, by rw [next_put, next_push]; omega, fun c hc => ?_⟩
  rw [get_put_o (hmm.push _) (by rw [base_push]; exact hmm.le) (by rw [next_push]; omega) _ (by omega), get_push_o hmm _ (by omega)]

/-- A kid that is read. -/
theorem kid_get {m mm : Mem} {s : Value} {ks : List Tree} {cs : List Value} {i : Nat} {k : Tree} {r : List Tree} (hs : SlAt m s 4 ks.length cs) (hk : FormsAt m ks cs) (hr : ks.drop i = k :: r) (hsub : m.Sub mm) :
    ∃ b o v, ixS 4 s (.int .i64 i) = some (ptr b o) ∧ ldnB (mm.get b) o 4 = some v ∧ FormAt m k v := by
  have hi : i < ks.length := by
    rcases Nat.lt_or_ge i ks.length with h | h
    · exact h
    · rw [List.drop_eq_nil_of_le h] at hr; cases hr
  obtain ⟨b, o, h1, all, e', g, h2, h3, h4, h40⟩ := hs.elem hi
  have h5 := SlAt.ldn (hsub _ _ h2) h3 h40
  rw [h4, ldn_g] at h5
  exact ⟨b, o, _, h1, h5, hk.at hr⟩

/-- The four cells of a form. -/
theorem form_cells {m : Mem} {op : ByteArray} {a b : Int} {ks : List Tree} {v : Value} (h : FormAt m (.node op a b ks) v) : ∃ s cs, v = .agg ⟨[.string op, .int .i64 a, .int .i64 b, s]⟩ ∧ SlAt m s 4 ks.length cs ∧ FormsAt m ks cs := by
  unfold FormAt at h; exact h

end Go.D
