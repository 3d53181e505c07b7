/-
  Closed facts of the program that each of its laws wants.
-/
import Derived.Test.YtkokkanklmmfmaaGreatDoorDTab
import Derived.Test.YtkokkanklmmfmaaGreatDoorCards
import Derived.Test.YtkokkanklmmfmaaGreatDoorTie
import Derived.JoinedOf
import Derived.ProofKit
import Derived.SevenTiedAt
set_option linter.all false
namespace Go.Proofs.YtkokkanklmmfmaaGreatDoor
open Go.ChangeShapes Go.RowKit Go.Eng

theorem Tryz.own : ownKnob Tryz.prog.godebug = none := by kernel_rfl
theorem Tryz.kids : Kids Tryz.prog (· < Tryz.prog.types.size) := kids_rows (by kernel_rfl) (by kernel_rfl)
theorem Tryz.full : ∀ t e, t < Tryz.prog.types.size → Tryz.prog.underlying t = some (.slice e) → 0 < Tryz.prog.cellsOf e := slices_full_of Tryz.prog (by kernel_rfl)
theorem Tryz.laidOut : laidOutB Tryz.prog = true := by kernel_rfl
theorem Tryz.rowed : mapsRowed Tryz.prog = true := by kernel_rfl
theorem Tryz.heard : Tryz.prog.stopsHeard = true := by kernel_rfl
theorem Tryz.mixed : Tryz.prog.follows .mixedOrders = true := by kernel_rfl

theorem Tryz.harness : Tryz.prog.mainIs = some (Rows.docKnownCard.stood.harness.1, Rows.docKnownCard.stood.harness.2.toList) := by kernel_rfl
theorem Tryz.looks : true = Tryz.prog.looks [] := by kernel_rfl

end Go.Proofs.YtkokkanklmmfmaaGreatDoor
