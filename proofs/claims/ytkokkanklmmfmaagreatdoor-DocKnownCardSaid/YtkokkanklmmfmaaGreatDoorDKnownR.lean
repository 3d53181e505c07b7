/-
  The run of DocKnown in the interpreter.
-/
import Derived.Test.YtkokkanklmmfmaaGreatDoorDTab
set_option linter.all false
namespace Go.Proofs.YtkokkanklmmfmaaGreatDoor
open Go.Eng

set_option maxRecDepth 1000000 in
theorem docKnown_runs : (evC tabD 80 (.fn 4) [] ⟨.nil, 0⟩).map Prod.fst = some (.bool true) := by kernel_rfl


end Go.Proofs.YtkokkanklmmfmaaGreatDoor
