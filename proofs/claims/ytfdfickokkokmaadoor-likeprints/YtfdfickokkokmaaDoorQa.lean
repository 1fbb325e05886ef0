/- The program's text is of the kind that D speaks of, and awake tells true. -/
import Derived.Test.YtfdfickokkokmaaDoorE
import Derived.Test.YtfdfickokkokmaaDoorRows
import Derived.Test.YtfdfickokkokmaaDoorLG3
import Derived.Laws.Externs
set_option linter.unusedSimpArgs false
set_option linter.unusedVariables false
namespace Go.Proofs.YtfdfickokkokmaaDoor
open Go Go.D

theorem mixed : Pg.follows .mixedOrders = true := by kernel_rfl
theorem progOk2 : progOk Pg 2 drawnStatic = true := by kernel_rfl

/-- The two tables. -/
def old2 (e0 e1 : TypeId) (b : Nat) : Option Blk := match b with
  | 0 => some (.cells ((numbers (Rows.laid_math_bits_deBruijn32tab (H := Unit))).map (Value.int .u8)) e0 false)
  | 1 => some (.cells ((numbers (Rows.laid_math_bits_deBruijn64tab (H := Unit))).map (Value.int .u8)) e1 false)
  | _ => none

set_option maxRecDepth 100000 in
theorem awake_run (e0 e1 : TypeId) : ((call Pg E0 600 10 [] { old := old2 e0 e1, base := 2, new := [], next := 2, low := [] }).map (·.1)) = some (.ret (.bool true)) := by kernel_rfl

theorem enters10 : Enters Pg 10 := by
  refine ⟨_, _, Tryd.func10, rfl, by kernel_rfl⟩

theorem idf77 (x : Value) (w : World) : (callFunc 77 #[x]).run Pg w = .ok (.value x) w := by
  rw [run_callFunc_extern Tryd.func77 (by kernel_rfl) (by kernel_rfl) (by kernel_rfl) (e := Extern.AbiNoEscape.same) (by kernel_rfl)]
  rfl

end Go.Proofs.YtfdfickokkokmaaDoor
