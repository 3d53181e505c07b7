/-
  UndoNone: the row's closed facts.
-/
import Derived.Test.YtkokkanklmmfmaaGreatDoorDBase
set_option linter.all false
namespace Go.Proofs.YtkokkanklmmfmaaGreatDoor
open Go.ChangeShapes Go.WideShapes Go.ChangeAt Go.RowKit Go.Eng

theorem undoNone_f1 : (Rows.undoNoneRow.inPlace == Tryz.prog.inPlace 13) = true := by kernel_rfl
theorem undoNone_f2 : (Rows.undoNoneRow.unfollowed == Tryz.prog.unfollowed 13) = true := by kernel_rfl
theorem undoNone_f3 : (Rows.undoNoneRow.recurses == Tryz.prog.recurses 13) = true := by kernel_rfl
theorem undoNone_f4 : (Rows.undoNoneRow.named == Tryz.prog.varsNamed 13) = true := by kernel_rfl
theorem undoNone_facts : joinedFacts Tryz.prog 13 Tryz.f13 Rows.undoNoneSpec Rows.undoNoneRow = true := by
  unfold joinedFacts
  rw [undoNone_f1, undoNone_f2, undoNone_f3, undoNone_f4, Tryz.laidOut, Tryz.rowed, Tryz.heard]
  kernel_rfl
theorem undoNone_goes : false = Rows.undoNoneRow.goesBy Tryz.prog := by kernel_rfl
theorem undoNone_named : Tryz.prog.funcNamed Tryz.f13.name = some 13 := by kernel_rfl

end Go.Proofs.YtkokkanklmmfmaaGreatDoor
