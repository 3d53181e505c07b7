/-
  NARROWER THAN 'FOR EVERY INPUT', by the rows' own cells (each row's printed sentence says how): DocRange: laid · DocKnown: laid · DocPuts: laid · DocWhole: laid · DocScript: laid · DocNone: laid · UndoFull: laid · UndoBack: laid · UndoKnown: laid · UndoScript: laid · UndoNone: laid.
  DERIVED. THE GIVEN ROWS OF THIS SEAT. 11 by the template 'for every input the law returns true; each argument reads behind the call as it read before'; 0 by the template 'total and deterministic' (their statements: YtkokkanklmmfmaaGreatDoorTotals.lean).
  GIVEN WITH THE SEED: the statements are not yours to turn. If you find one false, say at which input.
  Laid BY PROGRAM, IN A SANDBOX (cutbox-rows.mjs): the forced cells as the released guide's own fill.sh prints them over the translation adb38f9f3c76db85… (all of the seat's roots in one cut). By AI agents, Wed Nov 11 2026. No macro, syntax, notation, axiom, sorry.
-/
import Derived.Test.YtkokkanklmmfmaaGreatDoorChecked
import GoSem.PinnedTables
import GoSem.Claim
import GoSem.ClaimJoined
import GoSem.ClaimMapViews
import Derived.JoinedTies
import Derived.KernelRfl
namespace Go.Proofs.YtkokkanklmmfmaaGreatDoor
/- THE CELL 'sum', in the pinned program and in every row, IS THE sha256 OF THE DUMP (.gsa) THAT YtkokkanklmmfmaaGreatDoorProg.lean LOADS. Nothing in Lean hashes anything: it is a label: what it is worth is what the hold of that sum in a sandbox is worth. -/
noncomputable def Tryz.pinned : Pinned := { name := "ytkokkanklmmfmaagreatdoor", sum := "adb38f9f3c76db85932fa42d71bdf38ad970016be22a54cc66b71aebfe75c594", checked := Tryz.checked }
namespace Rows
def none {H : Type} : Left H := { results := [], args := [] }

/- WHAT THE LISTED PACKAGE-LEVEL VARIABLES READ AS WHEN THE CALL BEGINS. Each datum BY PROGRAM (the guide's laid-datum.mjs) off the statement by which the dump's own 'gosem.cut.vars' lays the variable. In a bare row this is a premise. The card (YtkokkanklmmfmaaGreatDoorCards.lean) ties it to the program's text. -/
def laid_unicode_utf8_acceptRanges {H : Type} : DataW H := .agg [.agg [.lit (.int .u8 128), .lit (.int .u8 191)], .agg [.lit (.int .u8 160), .lit (.int .u8 191)], .agg [.lit (.int .u8 128), .lit (.int .u8 159)], .agg [.lit (.int .u8 144), .lit (.int .u8 191)], .agg [.lit (.int .u8 128), .lit (.int .u8 143)], .agg [.lit (.int .u8 0), .lit (.int .u8 0)], .agg [.lit (.int .u8 0), .lit (.int .u8 0)], .agg [.lit (.int .u8 0), .lit (.int .u8 0)], .agg [.lit (.int .u8 0), .lit (.int .u8 0)], .agg [.lit (.int .u8 0), .lit (.int .u8 0)], .agg [.lit (.int .u8 0), .lit (.int .u8 0)], .agg [.lit (.int .u8 0), .lit (.int .u8 0)], .agg [.lit (.int .u8 0), .lit (.int .u8 0)], .agg [.lit (.int .u8 0), .lit (.int .u8 0)], .agg [.lit (.int .u8 0), .lit (.int .u8 0)], .agg [.lit (.int .u8 0), .lit (.int .u8 0)]]
/-- One of Go's own tables, pinned by name: the form's constant. -/
def laid_unicode_utf8_first : DataW Unit := Go.Pinned.utf8First

/-- 'quirelaw23.DocRange': WHATEVER THE INPUT: true; the input reads as it did. -/
def docRangeSpec : ChangeSpec := { name := "docRange", fn := fun _ => fun
  | [d1, d2, d3] => { results := [.lit (.bool true)], args := [d1, d2, d3] }
  | _ => none }
def docRangeRow : OpenClaim := { program := "ytkokkanklmmfmaagreatdoor", sum := "adb38f9f3c76db85932fa42d71bdf38ad970016be22a54cc66b71aebfe75c594", func := "quire/quirelaw23.DocRange", spec := "docRange", inPlace := ["internal/bytealg.CountString", "internal/bytealg.IndexByteString", "internal/bytealg.IndexString", "internal/abi.NoEscape", "slices.overlaps[*quire/doc.para]", "slices.overlaps[quire/api.Object]", "slices.overlaps[string]", "slices.overlaps[quire/api.Table]"], unfollowed := true, recurses := true, named := ["internal/bytealg.MaxLen", "unicode/utf8.first", "unicode/utf8.acceptRanges"], apart := false, laid := [("unicode/utf8.acceptRanges", laid_unicode_utf8_acceptRanges), ("unicode/utf8.first", laid_unicode_utf8_first)] }
def DocRangeSaid : Prop := docRangeRow.holds Tryz.pinned (OpenSpec.ofChange docRangeSpec)

/-- ITS FALSE NEIGHBOUR: 'it returns false'. Refute it at one input. -/
def docRangeWrong : ChangeSpec := { name := "docRange", fn := fun _ => fun
  | [d1, d2, d3] => { results := [.lit (.bool false)], args := [d1, d2, d3] }
  | _ => none }
def DocRangeWrongFalsely : Prop := docRangeRow.holds Tryz.pinned (OpenSpec.ofChange docRangeWrong)

/-- 'quirelaw23.DocKnown': WHATEVER THE INPUT: true; the input reads as it did. -/
def docKnownSpec : ChangeSpec := { name := "docKnown", fn := fun _ => fun
  | [] => { results := [.lit (.bool true)], args := [] }
  | _ => none }
def docKnownRow : OpenClaim := { program := "ytkokkanklmmfmaagreatdoor", sum := "adb38f9f3c76db85932fa42d71bdf38ad970016be22a54cc66b71aebfe75c594", func := "quire/quirelaw23.DocKnown", spec := "docKnown", inPlace := ["internal/bytealg.CountString", "internal/bytealg.IndexByteString", "internal/bytealg.IndexString", "internal/abi.NoEscape", "slices.overlaps[*quire/doc.para]", "slices.overlaps[quire/api.Object]", "slices.overlaps[string]", "slices.overlaps[quire/api.Table]"], unfollowed := true, recurses := true, named := ["internal/bytealg.MaxLen", "unicode/utf8.first", "unicode/utf8.acceptRanges"], apart := false, laid := [("unicode/utf8.acceptRanges", laid_unicode_utf8_acceptRanges), ("unicode/utf8.first", laid_unicode_utf8_first)] }
def DocKnownSaid : Prop := docKnownRow.holds Tryz.pinned (OpenSpec.ofChange docKnownSpec)

/-- ITS FALSE NEIGHBOUR: 'it returns false'. Refute it at one input. -/
def docKnownWrong : ChangeSpec := { name := "docKnown", fn := fun _ => fun
  | [] => { results := [.lit (.bool false)], args := [] }
  | _ => none }
def DocKnownWrongFalsely : Prop := docKnownRow.holds Tryz.pinned (OpenSpec.ofChange docKnownWrong)

/-- 'quirelaw23.DocPuts': WHATEVER THE INPUT: true; the input reads as it did. -/
def docPutsSpec : ChangeSpec := { name := "docPuts", fn := fun _ => fun
  | [d1, d2, d3] => { results := [.lit (.bool true)], args := [d1, d2, d3] }
  | _ => none }
def docPutsRow : OpenClaim := { program := "ytkokkanklmmfmaagreatdoor", sum := "adb38f9f3c76db85932fa42d71bdf38ad970016be22a54cc66b71aebfe75c594", func := "quire/quirelaw23.DocPuts", spec := "docPuts", inPlace := ["internal/bytealg.CountString", "internal/bytealg.IndexByteString", "internal/bytealg.IndexString", "internal/abi.NoEscape", "slices.overlaps[*quire/doc.para]", "slices.overlaps[quire/api.Object]", "slices.overlaps[string]", "slices.overlaps[quire/api.Table]"], unfollowed := true, recurses := true, named := ["internal/bytealg.MaxLen", "unicode/utf8.first", "unicode/utf8.acceptRanges"], apart := false, laid := [("unicode/utf8.acceptRanges", laid_unicode_utf8_acceptRanges), ("unicode/utf8.first", laid_unicode_utf8_first)] }
def DocPutsSaid : Prop := docPutsRow.holds Tryz.pinned (OpenSpec.ofChange docPutsSpec)

/-- ITS FALSE NEIGHBOUR: 'it returns false'. Refute it at one input. -/
def docPutsWrong : ChangeSpec := { name := "docPuts", fn := fun _ => fun
  | [d1, d2, d3] => { results := [.lit (.bool false)], args := [d1, d2, d3] }
  | _ => none }
def DocPutsWrongFalsely : Prop := docPutsRow.holds Tryz.pinned (OpenSpec.ofChange docPutsWrong)

/-- 'quirelaw23.DocWhole': WHATEVER THE INPUT: true; the input reads as it did. -/
def docWholeSpec : ChangeSpec := { name := "docWhole", fn := fun _ => fun
  | [d] => { results := [.lit (.bool true)], args := [d] }
  | _ => none }
def docWholeRow : OpenClaim := { program := "ytkokkanklmmfmaagreatdoor", sum := "adb38f9f3c76db85932fa42d71bdf38ad970016be22a54cc66b71aebfe75c594", func := "quire/quirelaw23.DocWhole", spec := "docWhole", inPlace := ["internal/bytealg.CountString", "internal/bytealg.IndexByteString", "internal/bytealg.IndexString", "internal/abi.NoEscape", "slices.overlaps[*quire/doc.para]", "slices.overlaps[quire/api.Object]", "slices.overlaps[string]", "slices.overlaps[quire/api.Table]"], unfollowed := true, recurses := true, named := ["internal/bytealg.MaxLen", "unicode/utf8.first", "unicode/utf8.acceptRanges"], apart := false, laid := [("unicode/utf8.acceptRanges", laid_unicode_utf8_acceptRanges), ("unicode/utf8.first", laid_unicode_utf8_first)] }
def DocWholeSaid : Prop := docWholeRow.holds Tryz.pinned (OpenSpec.ofChange docWholeSpec)

/-- ITS FALSE NEIGHBOUR: 'it returns false'. Refute it at one input. -/
def docWholeWrong : ChangeSpec := { name := "docWhole", fn := fun _ => fun
  | [d] => { results := [.lit (.bool false)], args := [d] }
  | _ => none }
def DocWholeWrongFalsely : Prop := docWholeRow.holds Tryz.pinned (OpenSpec.ofChange docWholeWrong)

/-- 'quirelaw23.DocScript': WHATEVER THE INPUT: true; the input reads as it did. -/
def docScriptSpec : ChangeSpec := { name := "docScript", fn := fun _ => fun
  | [d] => { results := [.lit (.bool true)], args := [d] }
  | _ => none }
def docScriptRow : OpenClaim := { program := "ytkokkanklmmfmaagreatdoor", sum := "adb38f9f3c76db85932fa42d71bdf38ad970016be22a54cc66b71aebfe75c594", func := "quire/quirelaw23.DocScript", spec := "docScript", inPlace := ["internal/bytealg.IndexByteString", "internal/abi.NoEscape", "maps.clone", "internal/bytealg.CountString", "internal/bytealg.IndexString", "slices.overlaps[*quire/doc.para]", "slices.overlaps[quire/api.Object]", "slices.overlaps[string]", "slices.overlaps[quire/api.Table]"], unfollowed := true, recurses := true, named := ["internal/bytealg.MaxLen", "unicode/utf8.first", "unicode/utf8.acceptRanges"], apart := false, laid := [("unicode/utf8.acceptRanges", laid_unicode_utf8_acceptRanges), ("unicode/utf8.first", laid_unicode_utf8_first)] }
def DocScriptSaid : Prop := docScriptRow.holds Tryz.pinned (OpenSpec.ofChange docScriptSpec)

/-- ITS FALSE NEIGHBOUR: 'it returns false'. Refute it at one input. -/
def docScriptWrong : ChangeSpec := { name := "docScript", fn := fun _ => fun
  | [d] => { results := [.lit (.bool false)], args := [d] }
  | _ => none }
def DocScriptWrongFalsely : Prop := docScriptRow.holds Tryz.pinned (OpenSpec.ofChange docScriptWrong)

/-- 'quirelaw23.DocNone': WHATEVER THE INPUT: true; the input reads as it did. -/
def docNoneSpec : ChangeSpec := { name := "docNone", fn := fun _ => fun
  | [d1, d2] => { results := [.lit (.bool true)], args := [d1, d2] }
  | _ => none }
def docNoneRow : OpenClaim := { program := "ytkokkanklmmfmaagreatdoor", sum := "adb38f9f3c76db85932fa42d71bdf38ad970016be22a54cc66b71aebfe75c594", func := "quire/quirelaw23.DocNone", spec := "docNone", inPlace := ["internal/bytealg.IndexByteString", "internal/bytealg.CountString", "internal/bytealg.IndexString", "internal/abi.NoEscape", "slices.overlaps[*quire/doc.para]", "slices.overlaps[quire/api.Object]", "slices.overlaps[string]", "slices.overlaps[quire/api.Table]", "maps.clone"], unfollowed := true, recurses := true, named := ["internal/bytealg.MaxLen", "unicode/utf8.first", "unicode/utf8.acceptRanges"], apart := false, laid := [("unicode/utf8.acceptRanges", laid_unicode_utf8_acceptRanges), ("unicode/utf8.first", laid_unicode_utf8_first)] }
def DocNoneSaid : Prop := docNoneRow.holds Tryz.pinned (OpenSpec.ofChange docNoneSpec)

/-- ITS FALSE NEIGHBOUR: 'it returns false'. Refute it at one input. -/
def docNoneWrong : ChangeSpec := { name := "docNone", fn := fun _ => fun
  | [d1, d2] => { results := [.lit (.bool false)], args := [d1, d2] }
  | _ => none }
def DocNoneWrongFalsely : Prop := docNoneRow.holds Tryz.pinned (OpenSpec.ofChange docNoneWrong)

/-- 'quirelaw24.UndoFull': WHATEVER THE INPUT: true; the input reads as it did. -/
def undoFullSpec : ChangeSpec := { name := "undoFull", fn := fun _ => fun
  | [d1, d2] => { results := [.lit (.bool true)], args := [d1, d2] }
  | _ => none }
def undoFullRow : OpenClaim := { program := "ytkokkanklmmfmaagreatdoor", sum := "adb38f9f3c76db85932fa42d71bdf38ad970016be22a54cc66b71aebfe75c594", func := "quire/quirelaw24.UndoFull", spec := "undoFull", inPlace := ["maps.clone", "internal/bytealg.CountString", "internal/bytealg.IndexByteString", "internal/bytealg.IndexString", "internal/abi.NoEscape", "slices.overlaps[*quire/doc.para]", "slices.overlaps[quire/api.Object]", "slices.overlaps[string]", "slices.overlaps[quire/api.Table]"], unfollowed := true, recurses := true, named := ["internal/bytealg.MaxLen", "unicode/utf8.first", "unicode/utf8.acceptRanges"], apart := false, laid := [("unicode/utf8.acceptRanges", laid_unicode_utf8_acceptRanges), ("unicode/utf8.first", laid_unicode_utf8_first)] }
def UndoFullSaid : Prop := undoFullRow.holds Tryz.pinned (OpenSpec.ofChange undoFullSpec)

/-- ITS FALSE NEIGHBOUR: 'it returns false'. Refute it at one input. -/
def undoFullWrong : ChangeSpec := { name := "undoFull", fn := fun _ => fun
  | [d1, d2] => { results := [.lit (.bool false)], args := [d1, d2] }
  | _ => none }
def UndoFullWrongFalsely : Prop := undoFullRow.holds Tryz.pinned (OpenSpec.ofChange undoFullWrong)

/-- 'quirelaw24.UndoBack': WHATEVER THE INPUT: true; the input reads as it did. -/
def undoBackSpec : ChangeSpec := { name := "undoBack", fn := fun _ => fun
  | [d] => { results := [.lit (.bool true)], args := [d] }
  | _ => none }
def undoBackRow : OpenClaim := { program := "ytkokkanklmmfmaagreatdoor", sum := "adb38f9f3c76db85932fa42d71bdf38ad970016be22a54cc66b71aebfe75c594", func := "quire/quirelaw24.UndoBack", spec := "undoBack", inPlace := ["maps.clone", "internal/bytealg.CountString", "internal/bytealg.IndexByteString", "internal/bytealg.IndexString", "internal/abi.NoEscape", "slices.overlaps[*quire/doc.para]", "slices.overlaps[quire/api.Object]", "slices.overlaps[string]", "slices.overlaps[quire/api.Table]"], unfollowed := true, recurses := true, named := ["internal/bytealg.MaxLen", "unicode/utf8.first", "unicode/utf8.acceptRanges"], apart := false, laid := [("unicode/utf8.acceptRanges", laid_unicode_utf8_acceptRanges), ("unicode/utf8.first", laid_unicode_utf8_first)] }
def UndoBackSaid : Prop := undoBackRow.holds Tryz.pinned (OpenSpec.ofChange undoBackSpec)

/-- ITS FALSE NEIGHBOUR: 'it returns false'. Refute it at one input. -/
def undoBackWrong : ChangeSpec := { name := "undoBack", fn := fun _ => fun
  | [d] => { results := [.lit (.bool false)], args := [d] }
  | _ => none }
def UndoBackWrongFalsely : Prop := undoBackRow.holds Tryz.pinned (OpenSpec.ofChange undoBackWrong)

/-- 'quirelaw24.UndoKnown': WHATEVER THE INPUT: true; the input reads as it did. -/
def undoKnownSpec : ChangeSpec := { name := "undoKnown", fn := fun _ => fun
  | [] => { results := [.lit (.bool true)], args := [] }
  | _ => none }
def undoKnownRow : OpenClaim := { program := "ytkokkanklmmfmaagreatdoor", sum := "adb38f9f3c76db85932fa42d71bdf38ad970016be22a54cc66b71aebfe75c594", func := "quire/quirelaw24.UndoKnown", spec := "undoKnown", inPlace := ["maps.clone", "internal/bytealg.CountString", "internal/bytealg.IndexByteString", "internal/bytealg.IndexString", "internal/abi.NoEscape", "slices.overlaps[*quire/doc.para]", "slices.overlaps[quire/api.Object]", "slices.overlaps[string]", "slices.overlaps[quire/api.Table]"], unfollowed := true, recurses := true, named := ["internal/bytealg.MaxLen", "unicode/utf8.first", "unicode/utf8.acceptRanges"], apart := false, laid := [("unicode/utf8.acceptRanges", laid_unicode_utf8_acceptRanges), ("unicode/utf8.first", laid_unicode_utf8_first)] }
def UndoKnownSaid : Prop := undoKnownRow.holds Tryz.pinned (OpenSpec.ofChange undoKnownSpec)

/-- ITS FALSE NEIGHBOUR: 'it returns false'. Refute it at one input. -/
def undoKnownWrong : ChangeSpec := { name := "undoKnown", fn := fun _ => fun
  | [] => { results := [.lit (.bool false)], args := [] }
  | _ => none }
def UndoKnownWrongFalsely : Prop := undoKnownRow.holds Tryz.pinned (OpenSpec.ofChange undoKnownWrong)

/-- 'quirelaw24.UndoScript': WHATEVER THE INPUT: true; the input reads as it did. -/
def undoScriptSpec : ChangeSpec := { name := "undoScript", fn := fun _ => fun
  | [d] => { results := [.lit (.bool true)], args := [d] }
  | _ => none }
def undoScriptRow : OpenClaim := { program := "ytkokkanklmmfmaagreatdoor", sum := "adb38f9f3c76db85932fa42d71bdf38ad970016be22a54cc66b71aebfe75c594", func := "quire/quirelaw24.UndoScript", spec := "undoScript", inPlace := ["internal/bytealg.IndexByteString", "internal/abi.NoEscape", "maps.clone", "internal/bytealg.CountString", "internal/bytealg.IndexString", "slices.overlaps[*quire/doc.para]", "slices.overlaps[quire/api.Object]", "slices.overlaps[string]", "slices.overlaps[quire/api.Table]"], unfollowed := true, recurses := true, named := ["internal/bytealg.MaxLen", "unicode/utf8.first", "unicode/utf8.acceptRanges"], apart := false, laid := [("unicode/utf8.acceptRanges", laid_unicode_utf8_acceptRanges), ("unicode/utf8.first", laid_unicode_utf8_first)] }
def UndoScriptSaid : Prop := undoScriptRow.holds Tryz.pinned (OpenSpec.ofChange undoScriptSpec)

/-- ITS FALSE NEIGHBOUR: 'it returns false'. Refute it at one input. -/
def undoScriptWrong : ChangeSpec := { name := "undoScript", fn := fun _ => fun
  | [d] => { results := [.lit (.bool false)], args := [d] }
  | _ => none }
def UndoScriptWrongFalsely : Prop := undoScriptRow.holds Tryz.pinned (OpenSpec.ofChange undoScriptWrong)

/-- 'quirelaw24.UndoNone': WHATEVER THE INPUT: true; the input reads as it did. -/
def undoNoneSpec : ChangeSpec := { name := "undoNone", fn := fun _ => fun
  | [d] => { results := [.lit (.bool true)], args := [d] }
  | _ => none }
def undoNoneRow : OpenClaim := { program := "ytkokkanklmmfmaagreatdoor", sum := "adb38f9f3c76db85932fa42d71bdf38ad970016be22a54cc66b71aebfe75c594", func := "quire/quirelaw24.UndoNone", spec := "undoNone", inPlace := ["maps.clone", "internal/bytealg.CountString", "internal/bytealg.IndexByteString", "internal/bytealg.IndexString", "internal/abi.NoEscape", "slices.overlaps[*quire/doc.para]", "slices.overlaps[quire/api.Object]", "slices.overlaps[string]", "slices.overlaps[quire/api.Table]"], unfollowed := true, recurses := true, named := ["internal/bytealg.MaxLen", "unicode/utf8.first", "unicode/utf8.acceptRanges"], apart := false, laid := [("unicode/utf8.acceptRanges", laid_unicode_utf8_acceptRanges), ("unicode/utf8.first", laid_unicode_utf8_first)] }
def UndoNoneSaid : Prop := undoNoneRow.holds Tryz.pinned (OpenSpec.ofChange undoNoneSpec)

/-- ITS FALSE NEIGHBOUR: 'it returns false'. Refute it at one input. -/
def undoNoneWrong : ChangeSpec := { name := "undoNone", fn := fun _ => fun
  | [d] => { results := [.lit (.bool false)], args := [d] }
  | _ => none }
def UndoNoneWrongFalsely : Prop := undoNoneRow.holds Tryz.pinned (OpenSpec.ofChange undoNoneWrong)

/- THE SECOND FORM. 'bulk': how many values and letters a reading holds, each counted each time it is reached (what is shared counts as often as it is met; a slice's spare places count too). A statement '..UptoSaid' is the law's where the arguments, and the package variables that the reading takes, are together of bulk at most 1048576: NARROWER than '..Said'. Prove '..Said' where nothing that the law and all that it calls make is longer than what came in: it says more and counts as full. Else prove '..UptoSaid'. A law counts once. -/
mutual
def uptoBulk {H : Type} : DataW H → Nat
  | .lit (.string bytes) => bytes.length + 1
  | .lit _ => 1
  | .nil => 1
  | .ptr d => uptoBulk d + 1
  | .slice elems spare => uptoBulkAll elems + uptoBulkAll spare + 1
  | .agg parts => uptoBulkAll parts + 1
  | .iface _ d => uptoBulk d + 1
  | .map entries => uptoBulkEntries entries + 1
  | .held _ => 1
def uptoBulkAll {H : Type} : List (DataW H) → Nat
  | [] => 0
  | d :: r => uptoBulk d + uptoBulkAll r
def uptoBulkEntries {H : Type} : List (Lit × DataW H) → Nat
  | [] => 0
  | x :: r => uptoBulkEntry x + uptoBulkEntries r
def uptoBulkEntry {H : Type} : Lit × DataW H → Nat
  | (.string bytes, d) => bytes.length + uptoBulk d + 1
  | (_, d) => uptoBulk d + 1
 end
def uptoSmall : (H : Type) → List (DataW H) → Bool := fun _ ds => decide (uptoBulkAll ds ≤ 1048576)
def OpenSpec.upto (s : _root_.Go.ChangeSpec) : _root_.Go.OpenSpec := { _root_.Go.OpenSpec.ofChange s with cond := some uptoSmall }

/-- 'quirelaw23.DocRange', WHERE WHAT IT READS IS OF BULK AT MOST 1048576: true; the input reads as it did. -/
def docRangeUptoRow : OpenClaim := { program := "ytkokkanklmmfmaagreatdoor", sum := "adb38f9f3c76db85932fa42d71bdf38ad970016be22a54cc66b71aebfe75c594", func := "quire/quirelaw23.DocRange", spec := "docRange", inPlace := ["internal/bytealg.CountString", "internal/bytealg.IndexByteString", "internal/bytealg.IndexString", "internal/abi.NoEscape", "slices.overlaps[*quire/doc.para]", "slices.overlaps[quire/api.Object]", "slices.overlaps[string]", "slices.overlaps[quire/api.Table]"], unfollowed := true, recurses := true, named := ["internal/bytealg.MaxLen", "unicode/utf8.first", "unicode/utf8.acceptRanges"], apart := false, laid := [("unicode/utf8.acceptRanges", laid_unicode_utf8_acceptRanges), ("unicode/utf8.first", laid_unicode_utf8_first)], narrowed := true }
def DocRangeUptoSaid : Prop := docRangeUptoRow.holds Tryz.pinned (OpenSpec.upto docRangeSpec)

/-- 'quirelaw23.DocKnown', WHERE WHAT IT READS IS OF BULK AT MOST 1048576: true; the input reads as it did. -/
def docKnownUptoRow : OpenClaim := { program := "ytkokkanklmmfmaagreatdoor", sum := "adb38f9f3c76db85932fa42d71bdf38ad970016be22a54cc66b71aebfe75c594", func := "quire/quirelaw23.DocKnown", spec := "docKnown", inPlace := ["internal/bytealg.CountString", "internal/bytealg.IndexByteString", "internal/bytealg.IndexString", "internal/abi.NoEscape", "slices.overlaps[*quire/doc.para]", "slices.overlaps[quire/api.Object]", "slices.overlaps[string]", "slices.overlaps[quire/api.Table]"], unfollowed := true, recurses := true, named := ["internal/bytealg.MaxLen", "unicode/utf8.first", "unicode/utf8.acceptRanges"], apart := false, laid := [("unicode/utf8.acceptRanges", laid_unicode_utf8_acceptRanges), ("unicode/utf8.first", laid_unicode_utf8_first)], narrowed := true }
def DocKnownUptoSaid : Prop := docKnownUptoRow.holds Tryz.pinned (OpenSpec.upto docKnownSpec)

/-- 'quirelaw23.DocPuts', WHERE WHAT IT READS IS OF BULK AT MOST 1048576: true; the input reads as it did. -/
def docPutsUptoRow : OpenClaim := { program := "ytkokkanklmmfmaagreatdoor", sum := "adb38f9f3c76db85932fa42d71bdf38ad970016be22a54cc66b71aebfe75c594", func := "quire/quirelaw23.DocPuts", spec := "docPuts", inPlace := ["internal/bytealg.CountString", "internal/bytealg.IndexByteString", "internal/bytealg.IndexString", "internal/abi.NoEscape", "slices.overlaps[*quire/doc.para]", "slices.overlaps[quire/api.Object]", "slices.overlaps[string]", "slices.overlaps[quire/api.Table]"], unfollowed := true, recurses := true, named := ["internal/bytealg.MaxLen", "unicode/utf8.first", "unicode/utf8.acceptRanges"], apart := false, laid := [("unicode/utf8.acceptRanges", laid_unicode_utf8_acceptRanges), ("unicode/utf8.first", laid_unicode_utf8_first)], narrowed := true }
def DocPutsUptoSaid : Prop := docPutsUptoRow.holds Tryz.pinned (OpenSpec.upto docPutsSpec)

/-- 'quirelaw23.DocWhole', WHERE WHAT IT READS IS OF BULK AT MOST 1048576: true; the input reads as it did. -/
def docWholeUptoRow : OpenClaim := { program := "ytkokkanklmmfmaagreatdoor", sum := "adb38f9f3c76db85932fa42d71bdf38ad970016be22a54cc66b71aebfe75c594", func := "quire/quirelaw23.DocWhole", spec := "docWhole", inPlace := ["internal/bytealg.CountString", "internal/bytealg.IndexByteString", "internal/bytealg.IndexString", "internal/abi.NoEscape", "slices.overlaps[*quire/doc.para]", "slices.overlaps[quire/api.Object]", "slices.overlaps[string]", "slices.overlaps[quire/api.Table]"], unfollowed := true, recurses := true, named := ["internal/bytealg.MaxLen", "unicode/utf8.first", "unicode/utf8.acceptRanges"], apart := false, laid := [("unicode/utf8.acceptRanges", laid_unicode_utf8_acceptRanges), ("unicode/utf8.first", laid_unicode_utf8_first)], narrowed := true }
def DocWholeUptoSaid : Prop := docWholeUptoRow.holds Tryz.pinned (OpenSpec.upto docWholeSpec)

/-- 'quirelaw23.DocScript', WHERE WHAT IT READS IS OF BULK AT MOST 1048576: true; the input reads as it did. -/
def docScriptUptoRow : OpenClaim := { program := "ytkokkanklmmfmaagreatdoor", sum := "adb38f9f3c76db85932fa42d71bdf38ad970016be22a54cc66b71aebfe75c594", func := "quire/quirelaw23.DocScript", spec := "docScript", inPlace := ["internal/bytealg.IndexByteString", "internal/abi.NoEscape", "maps.clone", "internal/bytealg.CountString", "internal/bytealg.IndexString", "slices.overlaps[*quire/doc.para]", "slices.overlaps[quire/api.Object]", "slices.overlaps[string]", "slices.overlaps[quire/api.Table]"], unfollowed := true, recurses := true, named := ["internal/bytealg.MaxLen", "unicode/utf8.first", "unicode/utf8.acceptRanges"], apart := false, laid := [("unicode/utf8.acceptRanges", laid_unicode_utf8_acceptRanges), ("unicode/utf8.first", laid_unicode_utf8_first)], narrowed := true }
def DocScriptUptoSaid : Prop := docScriptUptoRow.holds Tryz.pinned (OpenSpec.upto docScriptSpec)

/-- 'quirelaw23.DocNone', WHERE WHAT IT READS IS OF BULK AT MOST 1048576: true; the input reads as it did. -/
def docNoneUptoRow : OpenClaim := { program := "ytkokkanklmmfmaagreatdoor", sum := "adb38f9f3c76db85932fa42d71bdf38ad970016be22a54cc66b71aebfe75c594", func := "quire/quirelaw23.DocNone", spec := "docNone", inPlace := ["internal/bytealg.IndexByteString", "internal/bytealg.CountString", "internal/bytealg.IndexString", "internal/abi.NoEscape", "slices.overlaps[*quire/doc.para]", "slices.overlaps[quire/api.Object]", "slices.overlaps[string]", "slices.overlaps[quire/api.Table]", "maps.clone"], unfollowed := true, recurses := true, named := ["internal/bytealg.MaxLen", "unicode/utf8.first", "unicode/utf8.acceptRanges"], apart := false, laid := [("unicode/utf8.acceptRanges", laid_unicode_utf8_acceptRanges), ("unicode/utf8.first", laid_unicode_utf8_first)], narrowed := true }
def DocNoneUptoSaid : Prop := docNoneUptoRow.holds Tryz.pinned (OpenSpec.upto docNoneSpec)

/-- 'quirelaw24.UndoFull', WHERE WHAT IT READS IS OF BULK AT MOST 1048576: true; the input reads as it did. -/
def undoFullUptoRow : OpenClaim := { program := "ytkokkanklmmfmaagreatdoor", sum := "adb38f9f3c76db85932fa42d71bdf38ad970016be22a54cc66b71aebfe75c594", func := "quire/quirelaw24.UndoFull", spec := "undoFull", inPlace := ["maps.clone", "internal/bytealg.CountString", "internal/bytealg.IndexByteString", "internal/bytealg.IndexString", "internal/abi.NoEscape", "slices.overlaps[*quire/doc.para]", "slices.overlaps[quire/api.Object]", "slices.overlaps[string]", "slices.overlaps[quire/api.Table]"], unfollowed := true, recurses := true, named := ["internal/bytealg.MaxLen", "unicode/utf8.first", "unicode/utf8.acceptRanges"], apart := false, laid := [("unicode/utf8.acceptRanges", laid_unicode_utf8_acceptRanges), ("unicode/utf8.first", laid_unicode_utf8_first)], narrowed := true }
def UndoFullUptoSaid : Prop := undoFullUptoRow.holds Tryz.pinned (OpenSpec.upto undoFullSpec)

/-- 'quirelaw24.UndoBack', WHERE WHAT IT READS IS OF BULK AT MOST 1048576: true; the input reads as it did. -/
def undoBackUptoRow : OpenClaim := { program := "ytkokkanklmmfmaagreatdoor", sum := "adb38f9f3c76db85932fa42d71bdf38ad970016be22a54cc66b71aebfe75c594", func := "quire/quirelaw24.UndoBack", spec := "undoBack", inPlace := ["maps.clone", "internal/bytealg.CountString", "internal/bytealg.IndexByteString", "internal/bytealg.IndexString", "internal/abi.NoEscape", "slices.overlaps[*quire/doc.para]", "slices.overlaps[quire/api.Object]", "slices.overlaps[string]", "slices.overlaps[quire/api.Table]"], unfollowed := true, recurses := true, named := ["internal/bytealg.MaxLen", "unicode/utf8.first", "unicode/utf8.acceptRanges"], apart := false, laid := [("unicode/utf8.acceptRanges", laid_unicode_utf8_acceptRanges), ("unicode/utf8.first", laid_unicode_utf8_first)], narrowed := true }
def UndoBackUptoSaid : Prop := undoBackUptoRow.holds Tryz.pinned (OpenSpec.upto undoBackSpec)

/-- 'quirelaw24.UndoKnown', WHERE WHAT IT READS IS OF BULK AT MOST 1048576: true; the input reads as it did. -/
def undoKnownUptoRow : OpenClaim := { program := "ytkokkanklmmfmaagreatdoor", sum := "adb38f9f3c76db85932fa42d71bdf38ad970016be22a54cc66b71aebfe75c594", func := "quire/quirelaw24.UndoKnown", spec := "undoKnown", inPlace := ["maps.clone", "internal/bytealg.CountString", "internal/bytealg.IndexByteString", "internal/bytealg.IndexString", "internal/abi.NoEscape", "slices.overlaps[*quire/doc.para]", "slices.overlaps[quire/api.Object]", "slices.overlaps[string]", "slices.overlaps[quire/api.Table]"], unfollowed := true, recurses := true, named := ["internal/bytealg.MaxLen", "unicode/utf8.first", "unicode/utf8.acceptRanges"], apart := false, laid := [("unicode/utf8.acceptRanges", laid_unicode_utf8_acceptRanges), ("unicode/utf8.first", laid_unicode_utf8_first)], narrowed := true }
def UndoKnownUptoSaid : Prop := undoKnownUptoRow.holds Tryz.pinned (OpenSpec.upto undoKnownSpec)

/-- 'quirelaw24.UndoScript', WHERE WHAT IT READS IS OF BULK AT MOST 1048576: true; the input reads as it did. -/
def undoScriptUptoRow : OpenClaim := { program := "ytkokkanklmmfmaagreatdoor", sum := "adb38f9f3c76db85932fa42d71bdf38ad970016be22a54cc66b71aebfe75c594", func := "quire/quirelaw24.UndoScript", spec := "undoScript", inPlace := ["internal/bytealg.IndexByteString", "internal/abi.NoEscape", "maps.clone", "internal/bytealg.CountString", "internal/bytealg.IndexString", "slices.overlaps[*quire/doc.para]", "slices.overlaps[quire/api.Object]", "slices.overlaps[string]", "slices.overlaps[quire/api.Table]"], unfollowed := true, recurses := true, named := ["internal/bytealg.MaxLen", "unicode/utf8.first", "unicode/utf8.acceptRanges"], apart := false, laid := [("unicode/utf8.acceptRanges", laid_unicode_utf8_acceptRanges), ("unicode/utf8.first", laid_unicode_utf8_first)], narrowed := true }
def UndoScriptUptoSaid : Prop := undoScriptUptoRow.holds Tryz.pinned (OpenSpec.upto undoScriptSpec)

/-- 'quirelaw24.UndoNone', WHERE WHAT IT READS IS OF BULK AT MOST 1048576: true; the input reads as it did. -/
def undoNoneUptoRow : OpenClaim := { program := "ytkokkanklmmfmaagreatdoor", sum := "adb38f9f3c76db85932fa42d71bdf38ad970016be22a54cc66b71aebfe75c594", func := "quire/quirelaw24.UndoNone", spec := "undoNone", inPlace := ["maps.clone", "internal/bytealg.CountString", "internal/bytealg.IndexByteString", "internal/bytealg.IndexString", "internal/abi.NoEscape", "slices.overlaps[*quire/doc.para]", "slices.overlaps[quire/api.Object]", "slices.overlaps[string]", "slices.overlaps[quire/api.Table]"], unfollowed := true, recurses := true, named := ["internal/bytealg.MaxLen", "unicode/utf8.first", "unicode/utf8.acceptRanges"], apart := false, laid := [("unicode/utf8.acceptRanges", laid_unicode_utf8_acceptRanges), ("unicode/utf8.first", laid_unicode_utf8_first)], narrowed := true }
def UndoNoneUptoSaid : Prop := undoNoneUptoRow.holds Tryz.pinned (OpenSpec.upto undoNoneSpec)

end Rows
end Go.Proofs.YtkokkanklmmfmaaGreatDoor
