/-
  DocKnown: the row's closed facts.
-/
import Derived.Test.YtkokkanklmmfmaaGreatDoorDBase
set_option linter.all false
namespace Go.Proofs.YtkokkanklmmfmaaGreatDoor
open Go.ChangeShapes Go.WideShapes Go.ChangeAt Go.RowKit Go.Eng

theorem docKnown_f1 : (Rows.docKnownRow.inPlace == Tryz.prog.inPlace 4) = true := by kernel_rfl
theorem docKnown_f2 : (Rows.docKnownRow.unfollowed == Tryz.prog.unfollowed 4) = true := by kernel_rfl
theorem docKnown_f3 : (Rows.docKnownRow.recurses == Tryz.prog.recurses 4) = true := by kernel_rfl
theorem docKnown_f4 : (Rows.docKnownRow.named == Tryz.prog.varsNamed 4) = true := by kernel_rfl
theorem docKnown_facts : joinedFacts Tryz.prog 4 Tryz.f4 Rows.docKnownSpec Rows.docKnownRow = true := by
  unfold joinedFacts
  rw [docKnown_f1, docKnown_f2, docKnown_f3, docKnown_f4, Tryz.laidOut, Tryz.rowed, Tryz.heard]
  kernel_rfl

theorem docKnown_goes : false = Rows.docKnownRow.goesBy Tryz.prog := by kernel_rfl
theorem docKnown_named : Tryz.prog.funcNamed Tryz.f4.name = some 4 := by kernel_rfl


end Go.Proofs.YtkokkanklmmfmaaGreatDoor
