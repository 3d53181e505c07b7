/-
  DocNone: the row's closed facts.
-/
import Derived.Test.YtkokkanklmmfmaaGreatDoorDBase
set_option linter.all false
namespace Go.Proofs.YtkokkanklmmfmaaGreatDoor
open Go.ChangeShapes Go.WideShapes Go.ChangeAt Go.RowKit Go.Eng

theorem docNone_f1 : (Rows.docNoneRow.inPlace == Tryz.prog.inPlace 8) = true := by kernel_rfl
theorem docNone_f2 : (Rows.docNoneRow.unfollowed == Tryz.prog.unfollowed 8) = true := by kernel_rfl
theorem docNone_f3 : (Rows.docNoneRow.recurses == Tryz.prog.recurses 8) = true := by kernel_rfl
theorem docNone_f4 : (Rows.docNoneRow.named == Tryz.prog.varsNamed 8) = true := by kernel_rfl
theorem docNone_facts : joinedFacts Tryz.prog 8 Tryz.f8 Rows.docNoneSpec Rows.docNoneRow = true := by
  unfold joinedFacts
  rw [docNone_f1, docNone_f2, docNone_f3, docNone_f4, Tryz.laidOut, Tryz.rowed, Tryz.heard]
  kernel_rfl
theorem docNone_goes : false = Rows.docNoneRow.goesBy Tryz.prog := by kernel_rfl
theorem docNone_named : Tryz.prog.funcNamed Tryz.f8.name = some 8 := by kernel_rfl

end Go.Proofs.YtkokkanklmmfmaaGreatDoor
