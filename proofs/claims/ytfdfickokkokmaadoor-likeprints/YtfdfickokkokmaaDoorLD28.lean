/- D: steps of a text. -/
import Derived.Test.YtfdfickokkokmaaDoorLD27
import Derived.Laws.Strings
set_option linter.unusedSimpArgs false
set_option linter.unusedVariables false
namespace Go.D
open Go

def newC {α : Type} (m : Mem) (z : List Value) (e : TypeId) (K : Value → Mem → Option α) : Option α := K (ptr m.next 0) (m.push (.cells z e false))
def newS {α : Type} (m : Mem) (c : List Value) (e : TypeId) (n : Nat) (K : Value → Mem → Option α) : Option α := K (.slice (some ⟨m.next, 0, none⟩) n n) (m.push (.cells c e false))
def looksLen (v : Value) : FP := match v with | .map (some r) => .one r | _ => .nil

section congr
variable {α β : Type}
theorem bind_c {o o' : Option α} {K : α → Option β} (h : o = o') : o.bind K = o'.bind K := by rw [h]
theorem cond_c {c c' : Bool} {x y : α} (h : c = c') : cond c x y = cond c' x y := by rw [h]
theorem condL_c {c c' : Value} {x y : Option α} (h : c = c') : condL c x y = condL c' x y := by rw [h]
theorem then3_c {o o' : Option (Value × Mem × Rec)} {K : Value → Mem → Rec → Option α} (h : o = o') : then3 o K = then3 o' K := by rw [h]
theorem andV_c {o o' : Option (Value × Mem)} {K : Value → Mem → Option α} (h : o = o') : andV o K = andV o' K := by rw [h]
theorem bindR_c {o o' : Option (R × Mem)} {K KP : Value → Mem → Option α} (h : o = o') : bindR o K KP = bindR o' K KP := by rw [h]
theorem endC_c {o o' : Option (DEnd × Mem)} {K KP : Value → Mem → Option α} (h : o = o') : endC o K KP = endC o' K KP := by rw [h]
theorem endD_c {o o' : Option (DEnd × Mem)} {m m' : Mem} {K : Value → Mem → FP → Option α} (h : o = o') (h' : m = m') : endD o m K = endD o' m' K := by rw [h, h']
theorem quiet_c {o o' : Option (DEnd × Mem)} {m m' : Mem} {K : Value → Option α} (h : o = o') (h' : m = m') : quiet o m K = quiet o' m' K := by rw [h, h']
theorem newC_c {m m' : Mem} {z z' : List Value} {e : TypeId} {K : Value → Mem → Option α} (h : m = m') (h' : z = z') : newC m z e K = newC m' z' e K := by rw [h, h']
theorem newS_c {m m' : Mem} {z z' : List Value} {e : TypeId} {n : Nat} {K : Value → Mem → Option α} (h : m = m') (h' : z = z') : newS m z e n K = newS m' z' e n K := by rw [h, h']
theorem callC_c {E : Env} {f : CallF} {m m' : Mem} {v v' : Value} {l l' : List Value} {K KP : Value → Mem → Option α} (h : m = m') (h' : v = v') (h2 : l = l') : callC E f m v l K KP = callC E f m' v' l' K KP := by rw [h, h', h2]
theorem callQ_c {E : Env} {f : CallF} {q : Bool} {m m' : Mem} {v v' : Value} {l l' : List Value} {K : Value → Mem → FP → Option α} (h : m = m') (h' : v = v') (h2 : l = l') : callQ E f q m v l K = callQ E f q m' v' l' K := by rw [h, h', h2]
end congr

section steps
variable {α : Type}
/-- Not by computing. -/
theorem nr {β : Sort _} {a b : β} (h : a = b) : a = b := h
theorem bind_s {β : Type} (x : β) (K : β → Option α) : (some x).bind K = K x := nr rfl
theorem cond_t (x y : α) : (bif true then x else y) = x := nr rfl
theorem cond_f (x y : α) : (bif false then x else y) = y := nr rfl
theorem get_z (x : Value) (l : List Value) : (x :: l)[0]? = some x := nr rfl
theorem get_s (x : Value) (l : List Value) (i : Nat) : (x :: l)[i + 1]? = l[i]? := nr rfl
theorem add_z (n : Nat) : n + 0 = n := nr rfl
theorem not_t : (!true) = false := nr rfl
theorem not_f : (!false) = true := nr rfl
theorem newC_s (m : Mem) (z : List Value) (e : TypeId) (K : Value → Mem → Option α) : newC m z e K = K (ptr m.next 0) (m.push (.cells z e false)) := nr rfl
theorem newS_s (m : Mem) (c : List Value) (e : TypeId) (n : Nat) (K : Value → Mem → Option α) : newS m c e n K = K (.slice (some ⟨m.next, 0, none⟩) n n) (m.push (.cells c e false)) := nr rfl
theorem endC_s (v : Value) (m : Mem) (K KP : Value → Mem → Option α) : endC (some (.ret v, m)) K KP = K v m := nr rfl
theorem endC_p (v : Value) (m : Mem) (K KP : Value → Mem → Option α) : endC (some (.pan v, m)) K KP = KP v m := nr rfl
theorem endD_s (v : Value) (m m' : Mem) (K : Value → Mem → FP → Option α) : endD (some (.ret v, m')) m K = K v (m'.relow m) (wrOf m.next m'.low) := nr rfl
theorem quiet_s (v : Value) (m : Mem) (K : Value → Option α) : quiet (some (.ret v, m.mark)) m K = K v := by simp [quiet]
theorem andV_s (v : Value) (m : Mem) (K : Value → Mem → Option α) : andV (some (v, m)) K = K v m := nr rfl
theorem bindR_v (v : Value) (m : Mem) (K KP : Value → Mem → Option α) : bindR (some (.val v, m)) K KP = K v m := nr rfl
theorem bindR_p (v : Value) (m : Mem) (K KP : Value → Mem → Option α) : bindR (some (.pan v, m)) K KP = KP v m := nr rfl
theorem then3_s (v : Value) (m : Mem) (w : Rec) (K : Value → Mem → Rec → Option α) : then3 (some (v, m, w)) K = K v m w := nr rfl
theorem condL_t (x y : Option α) : condL (.bool true) x y = x := nr rfl
theorem condL_f (x y : Option α) : condL (.bool false) x y = y := nr rfl
theorem saidL_bt (b : Bool) : saidL (.bool b) true = b := by cases b <;> rfl
theorem saidL_bf (b : Bool) : saidL (.bool b) false = !b := by cases b <;> rfl
theorem saidL_u (b : Bool) : saidL undef b = false := nr rfl
theorem pickL_t (x y : Value) : pickL (.bool true) x y = some x := nr rfl
theorem pickL_f (x y : Value) : pickL (.bool false) x y = some y := nr rfl
theorem notL_b (b : Bool) : notL (.bool b) = some (.bool !b) := nr rfl
theorem isPtr_p (a : Addr) : isPtr (.pointer (some a)) = some (.pointer (some a)) := nr rfl
theorem fld_p (b o k : Nat) : fld (ptr b o) k = some (ptr b (o + k)) := by simp only [fld, add_none]
theorem prt_a (l : List Value) (o : Nat) : prt (.agg ⟨l⟩) o = l[o]? := by simp [prt]
theorem prtn_a (l : List Value) (o n : Nat) : prtn (.agg ⟨l⟩) o n = some (.agg ⟨(l.drop o).take n⟩) := by
  simp only [prtn, Option.some.injEq, Value.agg.injEq]
  apply Array.ext'
  rw [Array.toList_extract]
  simp [List.extract, Nat.add_sub_cancel_left]
theorem extL_t (l : List Value) (i : Nat) : extL (.tuple ⟨l⟩) i = l[i]? := by simp [extL]
theorem lenSl_s (a : Option Addr) (n c : Nat) : lenSl (.slice a n c) = some (.int .i64 n) := nr rfl
theorem lenStr_s (s : ByteArray) : lenStr (.string s) = some (.int .i64 s.size) := nr rfl
theorem isStr_s (s : ByteArray) : isStr (.string s) = some (.string s) := nr rfl
theorem cvI_s (k k' : IntKind) (n : Int) : cvI k (.int k' n) = some (.int k (k.wrap n)) := nr rfl
theorem ixS_s (s b o n c : Nat) (i : Int) (k : IntKind) (h : 0 ≤ i ∧ i < n) : ixS s (.slice (some ⟨b, o, none⟩) n c) (.int k i) = some (ptr b (o + i.toNat * s)) := by
  unfold ixS; simp only [h, and_self, if_true, add_none]
theorem ixA_s (s n b o : Nat) (i : Int) (k : IntKind) (h : 0 ≤ i ∧ i < n) : ixA s n (ptr b o) (.int k i) = some (ptr b (o + i.toNat * s)) := by
  unfold ixA; simp only [h, and_self, if_true, add_none]
theorem boolEq_s (a b : Bool) : boolEq (.bool a) (.bool b) = some (a == b) := nr rfl

theorem int_add (k : IntKind) (a b : Int) : intL .add (.int k a) (.int k b) = some (.int k (k.wrap (a + b))) := by simp [intL, addL, arith]
theorem int_sub (k : IntKind) (a b : Int) : intL .sub (.int k a) (.int k b) = some (.int k (k.wrap (a - b))) := by simp [intL, subL, arith]
theorem int_mul (k : IntKind) (a b : Int) : intL .mul (.int k a) (.int k b) = some (.int k (k.wrap (a * b))) := by simp [intL, mulL, arith]
theorem int_quo (k : IntKind) (a b : Int) (h : b ≠ 0) : intL .quo (.int k a) (.int k b) = some (.int k (k.wrap (a.tdiv b))) := by simp [intL, quoL, arith, h]
theorem int_rem (k : IntKind) (a b : Int) (h : b ≠ 0) : intL .rem (.int k a) (.int k b) = some (.int k (a.tmod b)) := by simp [intL, remL, arith, h]
theorem int_eql (k : IntKind) (a b : Int) : intL .eql (.int k a) (.int k b) = some (.bool (decide (a = b))) := by simp [intL, cmpL, arith]; rfl
theorem int_neq (k : IntKind) (a b : Int) : intL .neq (.int k a) (.int k b) = some (.bool (decide (a ≠ b))) := by simp [intL, cmpL, arith, bne]; rfl
theorem int_lss (k : IntKind) (a b : Int) : intL .lss (.int k a) (.int k b) = some (.bool (decide (a < b))) := by simp [intL, cmpL, arith]
theorem int_leq (k : IntKind) (a b : Int) : intL .leq (.int k a) (.int k b) = some (.bool (decide (a ≤ b))) := by simp [intL, cmpL, arith]
theorem int_gtr (k : IntKind) (a b : Int) : intL .gtr (.int k a) (.int k b) = some (.bool (decide (b < a))) := by simp [intL, cmpL, arith]
theorem int_geq (k : IntKind) (a b : Int) : intL .geq (.int k a) (.int k b) = some (.bool (decide (b ≤ a))) := by simp [intL, cmpL, arith]
theorem int_shl (k k' : IntKind) (a b : Int) (h : 0 ≤ b) : intL .shl (.int k a) (.int k' b) = some (.int k (k.wrap (a * 2 ^ min b.toNat k.bits))) := by simp only [intL, shlL]; rw [if_neg (by omega)]
theorem int_shr (k k' : IntKind) (a b : Int) (h : 0 ≤ b) : intL .shr (.int k a) (.int k' b) = some (.int k (a.fdiv (2 ^ min b.toNat k.bits))) := by simp only [intL, shrL]; rw [if_neg (by omega)]

theorem toList_eq {a b : ByteArray} : (a.toList == b.toList) = decide (a = b) := by
  have h : a.toList = b.toList ↔ a = b := by
    constructor
    · intro h
      have ha : a.data.toList = b.data.toList := by
        rw [← ByteArray.toList_eq, ← ByteArray.toList_eq, h]
      cases a; cases b
      simp only [Array.toList_inj] at ha
      rw [ha]
    · intro h; rw [h]
  by_cases e : a = b
  · rw [e]; simp
  · have : a.toList ≠ b.toList := fun h' => e (h.1 h')
    simp [e, this]
theorem str_eql (a b : ByteArray) : strL .eql (.string a) (.string b) = some (.bool (decide (a = b))) := by simp only [strL, strs]; rw [toList_eq]
theorem str_neq (a b : ByteArray) : strL .neq (.string a) (.string b) = some (.bool !(decide (a = b))) := by simp only [strL, strs]; rw [toList_eq]
theorem str_add (a b : ByteArray) (h : ((a.size + b.size : Nat) : Int) ≤ IntKind.i64.max) : strL .add (.string a) (.string b) = some (.string (a ++ b)) := by simp only [strL, strs]; rw [if_neg (by omega)]
theorem cells_agg (l : List Value) : Array.toList (Value.cells (.agg ⟨l⟩)) = l := nr rfl
theorem size_agg (l : List Value) : (Value.cells (.agg ⟨l⟩)).size = l.length := nr rfl
end steps

end Go.D
