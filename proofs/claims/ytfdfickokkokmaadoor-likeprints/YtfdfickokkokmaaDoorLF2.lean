/- A strings.Builder in memory. -/
import Derived.Test.YtfdfickokkokmaaDoorLF1
set_option linter.unusedSimpArgs false
set_option linter.unusedVariables false
namespace Go.D
open Go

def bc (l : List UInt8) : List Value := l.map fun b => .int .u8 b.toNat

theorem bc_len (l : List UInt8) : (bc l).length = l.length := by simp [bc]
theorem bc_app (a b : List UInt8) : bc (a ++ b) = bc a ++ bc b := by simp [bc]
theorem bc_flat (l : List UInt8) : (bc l).all flat = true := by
  rw [List.all_eq_true]
  intro v hv
  obtain ⟨b, _, rfl⟩ := List.mem_map.1 hv
  rfl

/-- A builder at block b of a memory m over m0, that holds these bytes. -/
structure Bld (TB TU : TypeId) (m0 m : Mem) (b : Nat) (l : List UInt8) : Prop where
  ok : m.Ok
  base : m.base = m0.base
  sub : m0.Sub m
  ok0 : m0.Ok
  lo : m0.next ≤ b
  hi : b < m.next
  nxt : m0.next ≤ m.next
  clean : m.clean m0.next = true
  st : ∃ p v, m.get b = some (.cells [p, v] TB false) ∧ (p = .pointer none ∨ p = ptr b 0) ∧ ((v = .slice none 0 0 ∧ l = []) ∨
    ∃ bb, l ≠ [] ∧ v = .slice (some ⟨bb, 0, none⟩) l.length loose ∧ m.get bb = some (.cells (bc l) TU true) ∧ bb ≠ b ∧ m0.next ≤ bb)

theorem clean_relow {m m' : Mem} {n : Nat} (h : m.clean n = true) (h' : m'.clean n = true) : (m'.relow m).clean n = true := by
  unfold Mem.clean Mem.relow at *
  simp only [List.all_append, Bool.and_eq_true]
  refine ⟨?_, h⟩
  rw [List.all_eq_true] at h' ⊢
  exact fun b hb => h' b (List.mem_filter.1 hb).1

theorem Bld.mark {TB TU : TypeId} {m0 m : Mem} {b : Nat} {l : List UInt8} (h : Bld TB TU m0 m b l) : Bld TB TU m0 m.mark b l :=
  ⟨h.ok, h.base, h.sub, h.ok0, h.lo, h.hi, h.nxt, rfl, h.st⟩

theorem Bld.relow {TB TU : TypeId} {m0 m n : Mem} {b : Nat} {l : List UInt8} (h : Bld TB TU m0 m b l) (hc : n.clean m0.next = true) : Bld TB TU m0 (m.relow n) b l :=
  ⟨h.ok, h.base, h.sub, h.ok0, h.lo, h.hi, h.nxt, clean_relow hc h.clean, h.st⟩

theorem Bld.blo {TB TU : TypeId} {m0 m : Mem} {b : Nat} {l : List UInt8} (h : Bld TB TU m0 m b l) : m.base ≤ b := by
  have := h.ok0.le; have := h.base; have := h.lo; omega

/-- What is neither the builder nor a row of bytes that grows stays. -/
def Keeps (TU : TypeId) (m m' : Mem) (b : Nat) : Prop := ∀ c x, m.get c = some x → c ≠ b → (∀ cs, x ≠ .cells cs TU true) → m'.get c = some x

theorem Keeps.refl (TU : TypeId) (m : Mem) (b : Nat) : Keeps TU m m b := fun _ _ h _ _ => h
theorem Keeps.trans {TU : TypeId} {m m1 m2 : Mem} {b : Nat} (h : Keeps TU m m1 b) (h' : Keeps TU m1 m2 b) : Keeps TU m m2 b := fun c x h1 h2 h3 => h' c x (h c x h1 h2 h3) h2 h3
theorem Keeps.push {TU : TypeId} {m : Mem} (hm : m.Ok) (x : Blk) (b : Nat) : Keeps TU m (m.push x) b := fun c y h _ _ => Mem.Sub.push hm x c y h

theorem Bld.push {TB TU : TypeId} {m0 m : Mem} {b : Nat} {l : List UInt8} (h : Bld TB TU m0 m b l) (x : Blk) : Bld TB TU m0 (m.push x) b l := by
  obtain ⟨p, v, hg, hp, hv⟩ := h.st
  refine ⟨h.ok.push x, h.base, h.sub.trans (Mem.Sub.push h.ok x), h.ok0, h.lo, by rw [next_push]; have := h.hi; omega, by rw [next_push]; have := h.nxt; omega, h.clean, p, v, Mem.Sub.push h.ok x _ _ hg, hp, ?_⟩
  rcases hv with h1 | ⟨bb, h0, h1, h2, h3, h4⟩
  · exact .inl h1
  · exact .inr ⟨bb, h0, h1, Mem.Sub.push h.ok x _ _ h2, h3, h4⟩

theorem Bld.keeps_put {TB TU : TypeId} {m0 m : Mem} {b : Nat} {l : List UInt8} (h : Bld TB TU m0 m b l) (y : Option Blk) : Keeps TU m (m.put b y) b := fun c x h1 h2 _ => by
  rw [get_put_o h.ok h.blo h.hi _ h2]; exact h1

/-- The builder's own cells written. -/
theorem Bld.put {TB TU : TypeId} {m0 m : Mem} {b : Nat} {l l' : List UInt8} (h : Bld TB TU m0 m b l) {p v : Value} (hp : p = .pointer none ∨ p = ptr b 0)
    (hv : (v = .slice none 0 0 ∧ l' = []) ∨ ∃ bb, l' ≠ [] ∧ v = .slice (some ⟨bb, 0, none⟩) l'.length loose ∧ m.get bb = some (.cells (bc l') TU true) ∧ bb ≠ b ∧ m0.next ≤ bb) :
    Bld TB TU m0 (m.put b (some (.cells [p, v] TB false))) b l' := by
  refine ⟨h.ok.put _ _, h.base, h.sub.put h.ok0 h.ok h.lo h.blo h.hi _, h.ok0, h.lo, h.hi, h.nxt, ?_, p, v, get_put_n h.ok h.blo h.hi _, hp, ?_⟩
  · rw [clean_put, h.clean, Bool.and_true, Nat.ble_eq]; exact h.lo
  · rcases hv with h1 | ⟨bb, h0, h1, h2, h3, h4⟩
    · exact .inl h1
    · exact .inr ⟨bb, h0, h1, by rw [get_put_o h.ok h.blo h.hi _ h3]; exact h2, h3, h4⟩

theorem lenV_str (s : ByteArray) : lenV (.string s) = some s.size := rfl
theorem src_str (m : Mem) (s : ByteArray) : srcCells m 1 s.size (.string s) = some (bc s.data.toList) := by
  simp only [srcCells, bc]
  rw [List.take_of_length_le (show s.data.toList.length ≤ s.size from Nat.le_refl _)]

/-- An append of a string to a builder's buffer. -/
theorem Bld.app {TB TU : TypeId} {m0 m : Mem} {b : Nat} {l : List UInt8} (h : Bld TB TU m0 m b l) {p v : Value} (hg : m.get b = some (.cells [p, v] TB false)) (hp : p = .pointer none ∨ p = ptr b 0) {s : ByteArray} (hs : l.length + s.size ≤ 140737488355328)
    (hv : (v = .slice none 0 0 ∧ l = []) ∨ ∃ bb, l ≠ [] ∧ v = .slice (some ⟨bb, 0, none⟩) l.length loose ∧ m.get bb = some (.cells (bc l) TU true) ∧ bb ≠ b ∧ m0.next ≤ bb) :
    ∃ v' m', appS m TU 1 1 v (.string s) = some (v', m') ∧ v'.cells.size = 1 ∧ v'.cells.toList = [v'] ∧ D.flat v' = true ∧ m'.get b = some (.cells [p, v] TB false) ∧
      Bld TB TU m0 (m'.put b (some (.cells [p, v'] TB false))) b (l ++ s.data.toList) ∧ m'.base ≤ b ∧ Keeps TU m (m'.put b (some (.cells [p, v'] TB false))) b := by
  have hsz : s.data.toList.length = s.size := rfl
  have hbl := h.blo
  rcases hv with ⟨rfl, rfl⟩ | ⟨bb, hnn, rfl, hbb, hne, hlo⟩
  · by_cases h0 : s.size = 0
    · have hnil : s.data.toList = [] := List.eq_nil_of_length_eq_zero (by rw [hsz]; exact h0)
      refine ⟨.slice none 0 0, m, ?_, rfl, rfl, rfl, hg, ?_, hbl, h.keeps_put _⟩
      · simp only [appS, lenV_str, src_str, hnil, h0, bc, appendCore]
        simp [isLoose, loose, srcCells]
      · rw [hnil]
        exact h.put hp (.inl ⟨rfl, rfl⟩)
    · have hok1 := h.ok.push (.cells (bc s.data.toList) TU true)
      have hh : Bld TB TU m0 (m.push (.cells (bc s.data.toList) TU true)) b [] :=
        ⟨hok1, h.base, h.sub.trans (Mem.Sub.push h.ok _), h.ok0, h.lo, by rw [next_push]; have := h.hi; omega, by rw [next_push]; have := h.nxt; omega, h.clean,
          p, .slice none 0 0, by rw [get_push_o h.ok _ (by have := h.hi; omega)]; exact hg, hp, .inl ⟨rfl, rfl⟩⟩
      refine ⟨.slice (some ⟨m.next, 0, none⟩) s.size loose, m.push (.cells (bc s.data.toList) TU true), ?_, rfl, rfl, rfl, ?_, ?_, hbl, (Keeps.push h.ok _ b).trans (hh.keeps_put _)⟩
      · simp only [appS, lenV_str, src_str]
        simp only [List.length_nil, Nat.zero_add] at hs
        simp only [Nat.zero_add, Nat.mul_one, bc_len, hsz]
        rw [if_pos ⟨hs, by omega⟩, if_neg (by simp)]
        unfold appendCore
        simp only [isLoose, loose, Nat.zero_add, newLoose, List.nil_append]
        rw [if_neg (by rw [Nat.ble_eq]; omega), if_neg (by omega)]
        rfl
      · rw [get_push_o h.ok _ (by have := h.hi; omega)]; exact hg
      · refine hh.put hp (.inr ⟨m.next, ?_, ?_, ?_, ?_, h.nxt⟩)
        · rw [List.nil_append]; intro e; rw [e] at hsz; exact h0 hsz.symm
        · rw [List.nil_append, hsz]
        · rw [List.nil_append]; exact get_push_n h.ok _
        · have := h.hi; omega
  · have hbase : m.base ≤ bb := by have := h.ok0.le; have := h.base; omega
    have hblt := get_lt h.ok hbb
    have hok1 : (m.put bb none).Ok := h.ok.put _ _
    have hok2 := hok1.push (.cells (bc l ++ bc s.data.toList) TU true)
    have hgb : ((m.put bb none).push (.cells (bc l ++ bc s.data.toList) TU true)).get b = some (.cells [p, .slice (some ⟨bb, 0, none⟩) l.length loose] TB false) := by
      rw [get_push_o hok1 _ (by rw [next_put]; have := h.hi; omega), get_put_o h.ok hbase hblt _ hne.symm]; exact hg
    refine ⟨.slice (some ⟨m.next, 0, none⟩) (l.length + s.size) loose, (m.put bb none).push (.cells (bc l ++ bc s.data.toList) TU true), ?_, rfl, rfl, rfl, hgb, ?_, hbl, fun c x h1 h2 h3 => ?_⟩
    · simp only [appS, lenV_str, src_str, Nat.mul_one, bc_len, hsz]
      rw [if_pos ⟨hs, by omega⟩, if_neg (by simp)]
      unfold appendCore
      rw [if_pos (by decide)]
      simp only [hbb]
      rw [if_pos ⟨trivial, hbase, trivial, by rw [bc_len]; omega, by rw [bc_flat, bc_flat]; rfl⟩]
    · have hsub2 : m0.Sub ((m.put bb none).push (.cells (bc l ++ bc s.data.toList) TU true)) := (h.sub.put h.ok0 h.ok hlo hbase hblt none).trans (Mem.Sub.push hok1 _)
      have hcl2 : ((m.put bb none).push (.cells (bc l ++ bc s.data.toList) TU true)).clean m0.next = true := by
        rw [clean_push, clean_put, h.clean, Bool.and_true, Nat.ble_eq]; exact hlo
      have hb' : m.base ≤ b := hbl
      have hi' : b < ((m.put bb none).push (.cells (bc l ++ bc s.data.toList) TU true)).next := by rw [next_push, next_put]; have := h.hi; omega
      refine ⟨hok2.put _ _, h.base, hsub2.put h.ok0 hok2 h.lo hb' hi' _, h.ok0, h.lo, hi', by rw [next_put, next_push, next_put]; have := h.nxt; omega, ?_, p, _, get_put_n hok2 hb' hi' _, hp, .inr ⟨m.next, by simp [hnn], ?_, ?_, ?_, h.nxt⟩⟩
      · rw [clean_put, hcl2, Bool.and_true, Nat.ble_eq]; exact h.lo
      · rw [List.length_append, hsz]
      · rw [get_put_o hok2 hb' hi' _ (by have := h.hi; omega), bc_app]; exact get_push_n hok1 _
      · have := h.hi; omega
    · have hcb : c ≠ bb := by
        rintro rfl
        rw [hbb] at h1
        exact h3 _ (Option.some.inj h1).symm
      rw [get_put_o hok2 (show m.base ≤ b from hbl) (by rw [next_push, next_put]; have := h.hi; omega) _ h2, get_push_o hok1 _ (by rw [next_put]; have := get_lt h.ok h1; omega), get_put_o h.ok hbase hblt _ hcb]
      exact h1

end Go.D
