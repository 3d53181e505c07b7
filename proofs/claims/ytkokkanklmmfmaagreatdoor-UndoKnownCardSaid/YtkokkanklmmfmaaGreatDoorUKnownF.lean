/-
  UndoKnown: the row's closed facts.
-/
import Derived.Test.YtkokkanklmmfmaaGreatDoorDBase
set_option linter.all false
namespace Go.Proofs.YtkokkanklmmfmaaGreatDoor
open Go.ChangeShapes Go.WideShapes Go.ChangeAt Go.RowKit Go.Eng

theorem undoKnown_f1 : (Rows.undoKnownRow.inPlace == Tryz.prog.inPlace 11) = true := by kernel_rfl
theorem undoKnown_f2 : (Rows.undoKnownRow.unfollowed == Tryz.prog.unfollowed 11) = true := by kernel_rfl
theorem undoKnown_f3 : (Rows.undoKnownRow.recurses == Tryz.prog.recurses 11) = true := by kernel_rfl
theorem undoKnown_f4 : (Rows.undoKnownRow.named == Tryz.prog.varsNamed 11) = true := by kernel_rfl
theorem undoKnown_facts : joinedFacts Tryz.prog 11 Tryz.f11 Rows.undoKnownSpec Rows.undoKnownRow = true := by
  unfold joinedFacts
  rw [undoKnown_f1, undoKnown_f2, undoKnown_f3, undoKnown_f4, Tryz.laidOut, Tryz.rowed, Tryz.heard]
  kernel_rfl

theorem undoKnown_goes : false = Rows.undoKnownRow.goesBy Tryz.prog := by kernel_rfl
theorem undoKnown_named : Tryz.prog.funcNamed Tryz.f11.name = some 11 := by kernel_rfl


end Go.Proofs.YtkokkanklmmfmaaGreatDoor
