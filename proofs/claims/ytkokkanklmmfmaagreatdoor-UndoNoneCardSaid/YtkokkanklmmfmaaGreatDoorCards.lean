/-
  DERIVED. GIVEN WITH THE SEED: THE CARDS: each row of YtkokkanklmmfmaaGreatDoorRows.lean that lists a variable, with what it lists TIED to the program's text (the seventh form; the later family's looks); each row that meets fmt, with fmt's text TOLD by the authors' own Lean function (tested against real Go, not proved from fmt's source: count such statements apart). THE CARD IS WHAT COUNTS. Prove the row's statement (the work); the ties are given (YtkokkanklmmfmaaGreatDoorTie.lean); close each card by the builder's one call (the guide's Derived/Test/ToyasCard.lean, 'card_holds'). Laid BY PROGRAM, IN A SANDBOX (cutbox-door.mjs). By AI agents, Wed Nov 11 2026. No macro, syntax, notation, axiom, sorry.
-/
import Derived.Test.YtkokkanklmmfmaaGreatDoorRows
import GoSem.ClaimSeven
namespace Go.Proofs.YtkokkanklmmfmaaGreatDoor
namespace Rows

/-- THE TIED CARD OF 'quirelaw23.DocRange'. -/
def docRangeCard : Claim7 := { stood := { row := docRangeRow, standIns := [], harness := (true, "92aea68091925f0dfad4e2e33e207ebdc40c400d4e7f5f46d775e86794d4aef6"), looks := true }, kinds := [], alts := [], laidByText := true, laidKinds := [.data, .pinned], laidTests := true, laidLooks := .later }
def DocRangeCardSaid : Prop := Claim7.holds Tryz.pinned (.plain (OpenSpec.ofChange docRangeSpec)) docRangeCard

/-- THE TIED CARD OF 'quirelaw23.DocKnown'. -/
def docKnownCard : Claim7 := { stood := { row := docKnownRow, standIns := [], harness := (true, "92aea68091925f0dfad4e2e33e207ebdc40c400d4e7f5f46d775e86794d4aef6"), looks := true }, kinds := [], alts := [], laidByText := true, laidKinds := [.data, .pinned], laidTests := true, laidLooks := .later }
def DocKnownCardSaid : Prop := Claim7.holds Tryz.pinned (.plain (OpenSpec.ofChange docKnownSpec)) docKnownCard

/-- THE TIED CARD OF 'quirelaw23.DocPuts'. -/
def docPutsCard : Claim7 := { stood := { row := docPutsRow, standIns := [], harness := (true, "92aea68091925f0dfad4e2e33e207ebdc40c400d4e7f5f46d775e86794d4aef6"), looks := true }, kinds := [], alts := [], laidByText := true, laidKinds := [.data, .pinned], laidTests := true, laidLooks := .later }
def DocPutsCardSaid : Prop := Claim7.holds Tryz.pinned (.plain (OpenSpec.ofChange docPutsSpec)) docPutsCard

/-- THE TIED CARD OF 'quirelaw23.DocWhole'. -/
def docWholeCard : Claim7 := { stood := { row := docWholeRow, standIns := [], harness := (true, "92aea68091925f0dfad4e2e33e207ebdc40c400d4e7f5f46d775e86794d4aef6"), looks := true }, kinds := [], alts := [], laidByText := true, laidKinds := [.data, .pinned], laidTests := true, laidLooks := .later }
def DocWholeCardSaid : Prop := Claim7.holds Tryz.pinned (.plain (OpenSpec.ofChange docWholeSpec)) docWholeCard

/-- THE TIED CARD OF 'quirelaw23.DocScript'. -/
def docScriptCard : Claim7 := { stood := { row := docScriptRow, standIns := [], harness := (true, "92aea68091925f0dfad4e2e33e207ebdc40c400d4e7f5f46d775e86794d4aef6"), looks := true }, kinds := [], alts := [], laidByText := true, laidKinds := [.data, .pinned], laidTests := true, laidLooks := .later }
def DocScriptCardSaid : Prop := Claim7.holds Tryz.pinned (.plain (OpenSpec.ofChange docScriptSpec)) docScriptCard

/-- THE TIED CARD OF 'quirelaw23.DocNone'. -/
def docNoneCard : Claim7 := { stood := { row := docNoneRow, standIns := [], harness := (true, "92aea68091925f0dfad4e2e33e207ebdc40c400d4e7f5f46d775e86794d4aef6"), looks := true }, kinds := [], alts := [], laidByText := true, laidKinds := [.data, .pinned], laidTests := true, laidLooks := .later }
def DocNoneCardSaid : Prop := Claim7.holds Tryz.pinned (.plain (OpenSpec.ofChange docNoneSpec)) docNoneCard

/-- THE TIED CARD OF 'quirelaw24.UndoFull'. -/
def undoFullCard : Claim7 := { stood := { row := undoFullRow, standIns := [], harness := (true, "92aea68091925f0dfad4e2e33e207ebdc40c400d4e7f5f46d775e86794d4aef6"), looks := true }, kinds := [], alts := [], laidByText := true, laidKinds := [.data, .pinned], laidTests := true, laidLooks := .later }
def UndoFullCardSaid : Prop := Claim7.holds Tryz.pinned (.plain (OpenSpec.ofChange undoFullSpec)) undoFullCard

/-- THE TIED CARD OF 'quirelaw24.UndoBack'. -/
def undoBackCard : Claim7 := { stood := { row := undoBackRow, standIns := [], harness := (true, "92aea68091925f0dfad4e2e33e207ebdc40c400d4e7f5f46d775e86794d4aef6"), looks := true }, kinds := [], alts := [], laidByText := true, laidKinds := [.data, .pinned], laidTests := true, laidLooks := .later }
def UndoBackCardSaid : Prop := Claim7.holds Tryz.pinned (.plain (OpenSpec.ofChange undoBackSpec)) undoBackCard

/-- THE TIED CARD OF 'quirelaw24.UndoKnown'. -/
def undoKnownCard : Claim7 := { stood := { row := undoKnownRow, standIns := [], harness := (true, "92aea68091925f0dfad4e2e33e207ebdc40c400d4e7f5f46d775e86794d4aef6"), looks := true }, kinds := [], alts := [], laidByText := true, laidKinds := [.data, .pinned], laidTests := true, laidLooks := .later }
def UndoKnownCardSaid : Prop := Claim7.holds Tryz.pinned (.plain (OpenSpec.ofChange undoKnownSpec)) undoKnownCard

/-- THE TIED CARD OF 'quirelaw24.UndoScript'. -/
def undoScriptCard : Claim7 := { stood := { row := undoScriptRow, standIns := [], harness := (true, "92aea68091925f0dfad4e2e33e207ebdc40c400d4e7f5f46d775e86794d4aef6"), looks := true }, kinds := [], alts := [], laidByText := true, laidKinds := [.data, .pinned], laidTests := true, laidLooks := .later }
def UndoScriptCardSaid : Prop := Claim7.holds Tryz.pinned (.plain (OpenSpec.ofChange undoScriptSpec)) undoScriptCard

/-- THE TIED CARD OF 'quirelaw24.UndoNone'. -/
def undoNoneCard : Claim7 := { stood := { row := undoNoneRow, standIns := [], harness := (true, "92aea68091925f0dfad4e2e33e207ebdc40c400d4e7f5f46d775e86794d4aef6"), looks := true }, kinds := [], alts := [], laidByText := true, laidKinds := [.data, .pinned], laidTests := true, laidLooks := .later }
def UndoNoneCardSaid : Prop := Claim7.holds Tryz.pinned (.plain (OpenSpec.ofChange undoNoneSpec)) undoNoneCard

/-- THE SECOND FORM's CARD OF 'quirelaw23.DocRange'. -/
def docRangeUptoCard : Claim7 := { stood := { row := docRangeUptoRow, standIns := [], harness := (true, "92aea68091925f0dfad4e2e33e207ebdc40c400d4e7f5f46d775e86794d4aef6"), looks := true }, kinds := [], alts := [], laidByText := true, laidKinds := [.data, .pinned], laidTests := true, laidLooks := .later }
def DocRangeUptoCardSaid : Prop := Claim7.holds Tryz.pinned (.plain (OpenSpec.upto docRangeSpec)) docRangeUptoCard

/-- THE SECOND FORM's CARD OF 'quirelaw23.DocKnown'. -/
def docKnownUptoCard : Claim7 := { stood := { row := docKnownUptoRow, standIns := [], harness := (true, "92aea68091925f0dfad4e2e33e207ebdc40c400d4e7f5f46d775e86794d4aef6"), looks := true }, kinds := [], alts := [], laidByText := true, laidKinds := [.data, .pinned], laidTests := true, laidLooks := .later }
def DocKnownUptoCardSaid : Prop := Claim7.holds Tryz.pinned (.plain (OpenSpec.upto docKnownSpec)) docKnownUptoCard

/-- THE SECOND FORM's CARD OF 'quirelaw23.DocPuts'. -/
def docPutsUptoCard : Claim7 := { stood := { row := docPutsUptoRow, standIns := [], harness := (true, "92aea68091925f0dfad4e2e33e207ebdc40c400d4e7f5f46d775e86794d4aef6"), looks := true }, kinds := [], alts := [], laidByText := true, laidKinds := [.data, .pinned], laidTests := true, laidLooks := .later }
def DocPutsUptoCardSaid : Prop := Claim7.holds Tryz.pinned (.plain (OpenSpec.upto docPutsSpec)) docPutsUptoCard

/-- THE SECOND FORM's CARD OF 'quirelaw23.DocWhole'. -/
def docWholeUptoCard : Claim7 := { stood := { row := docWholeUptoRow, standIns := [], harness := (true, "92aea68091925f0dfad4e2e33e207ebdc40c400d4e7f5f46d775e86794d4aef6"), looks := true }, kinds := [], alts := [], laidByText := true, laidKinds := [.data, .pinned], laidTests := true, laidLooks := .later }
def DocWholeUptoCardSaid : Prop := Claim7.holds Tryz.pinned (.plain (OpenSpec.upto docWholeSpec)) docWholeUptoCard

/-- THE SECOND FORM's CARD OF 'quirelaw23.DocScript'. -/
def docScriptUptoCard : Claim7 := { stood := { row := docScriptUptoRow, standIns := [], harness := (true, "92aea68091925f0dfad4e2e33e207ebdc40c400d4e7f5f46d775e86794d4aef6"), looks := true }, kinds := [], alts := [], laidByText := true, laidKinds := [.data, .pinned], laidTests := true, laidLooks := .later }
def DocScriptUptoCardSaid : Prop := Claim7.holds Tryz.pinned (.plain (OpenSpec.upto docScriptSpec)) docScriptUptoCard

/-- THE SECOND FORM's CARD OF 'quirelaw23.DocNone'. -/
def docNoneUptoCard : Claim7 := { stood := { row := docNoneUptoRow, standIns := [], harness := (true, "92aea68091925f0dfad4e2e33e207ebdc40c400d4e7f5f46d775e86794d4aef6"), looks := true }, kinds := [], alts := [], laidByText := true, laidKinds := [.data, .pinned], laidTests := true, laidLooks := .later }
def DocNoneUptoCardSaid : Prop := Claim7.holds Tryz.pinned (.plain (OpenSpec.upto docNoneSpec)) docNoneUptoCard

/-- THE SECOND FORM's CARD OF 'quirelaw24.UndoFull'. -/
def undoFullUptoCard : Claim7 := { stood := { row := undoFullUptoRow, standIns := [], harness := (true, "92aea68091925f0dfad4e2e33e207ebdc40c400d4e7f5f46d775e86794d4aef6"), looks := true }, kinds := [], alts := [], laidByText := true, laidKinds := [.data, .pinned], laidTests := true, laidLooks := .later }
def UndoFullUptoCardSaid : Prop := Claim7.holds Tryz.pinned (.plain (OpenSpec.upto undoFullSpec)) undoFullUptoCard

/-- THE SECOND FORM's CARD OF 'quirelaw24.UndoBack'. -/
def undoBackUptoCard : Claim7 := { stood := { row := undoBackUptoRow, standIns := [], harness := (true, "92aea68091925f0dfad4e2e33e207ebdc40c400d4e7f5f46d775e86794d4aef6"), looks := true }, kinds := [], alts := [], laidByText := true, laidKinds := [.data, .pinned], laidTests := true, laidLooks := .later }
def UndoBackUptoCardSaid : Prop := Claim7.holds Tryz.pinned (.plain (OpenSpec.upto undoBackSpec)) undoBackUptoCard

/-- THE SECOND FORM's CARD OF 'quirelaw24.UndoKnown'. -/
def undoKnownUptoCard : Claim7 := { stood := { row := undoKnownUptoRow, standIns := [], harness := (true, "92aea68091925f0dfad4e2e33e207ebdc40c400d4e7f5f46d775e86794d4aef6"), looks := true }, kinds := [], alts := [], laidByText := true, laidKinds := [.data, .pinned], laidTests := true, laidLooks := .later }
def UndoKnownUptoCardSaid : Prop := Claim7.holds Tryz.pinned (.plain (OpenSpec.upto undoKnownSpec)) undoKnownUptoCard

/-- THE SECOND FORM's CARD OF 'quirelaw24.UndoScript'. -/
def undoScriptUptoCard : Claim7 := { stood := { row := undoScriptUptoRow, standIns := [], harness := (true, "92aea68091925f0dfad4e2e33e207ebdc40c400d4e7f5f46d775e86794d4aef6"), looks := true }, kinds := [], alts := [], laidByText := true, laidKinds := [.data, .pinned], laidTests := true, laidLooks := .later }
def UndoScriptUptoCardSaid : Prop := Claim7.holds Tryz.pinned (.plain (OpenSpec.upto undoScriptSpec)) undoScriptUptoCard

/-- THE SECOND FORM's CARD OF 'quirelaw24.UndoNone'. -/
def undoNoneUptoCard : Claim7 := { stood := { row := undoNoneUptoRow, standIns := [], harness := (true, "92aea68091925f0dfad4e2e33e207ebdc40c400d4e7f5f46d775e86794d4aef6"), looks := true }, kinds := [], alts := [], laidByText := true, laidKinds := [.data, .pinned], laidTests := true, laidLooks := .later }
def UndoNoneUptoCardSaid : Prop := Claim7.holds Tryz.pinned (.plain (OpenSpec.upto undoNoneSpec)) undoNoneUptoCard
end Rows
end Go.Proofs.YtkokkanklmmfmaaGreatDoor
