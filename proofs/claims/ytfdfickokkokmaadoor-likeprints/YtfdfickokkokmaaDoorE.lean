/- The program under D, and what is known of some functions. -/
import Derived.Test.YtfdfickokkokmaaDoorProg
import Derived.Test.YtfdfickokkokmaaDoorLF3
import Derived.KernelRfl
set_option linter.unusedSimpArgs false
set_option linter.unusedVariables false
namespace Go.Proofs.YtfdfickokkokmaaDoor
open Go Go.D

noncomputable abbrev Pg : Program := Tryd.prog
def E0 : Env := { orc := fun _ _ => none, ext := fun _ _ => none, idf := fun f => Nat.beq f 77 }
/-- .. and that awake tells true. -/
def E : Env := { E0 with orc := fun f args => match args with | [] => bif Nat.beq f 10 then some (.bool true) else none | _ => none }

end Go.Proofs.YtfdfickokkokmaaDoor
