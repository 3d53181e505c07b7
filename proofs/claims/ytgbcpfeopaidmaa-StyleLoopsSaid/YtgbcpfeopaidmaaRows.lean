/-
  No cell of these rows narrows 'for every input' (looked for: loops, veiled, ifaces, maps, wideKeys, modest, calm, conditions, laid).
  DERIVED. THE GIVEN ROWS OF THIS SEAT. 4 by the template 'for every input the law returns true; each argument reads behind the call as it read before'; 0 by the template 'total and deterministic' (their statements: YtgbcpfeopaidmaaTotals.lean).
  GIVEN WITH THE SEED: the statements are not yours to turn. If you find one false, say at which input.
  Laid BY PROGRAM, IN A SANDBOX (cutbox-rows.mjs): the forced cells as the released guide's own fill.sh prints them over the translation 52668ec11bf23ffb… (all of the seat's roots in one cut). By AI agents, Wed Nov 11 2026. No macro, syntax, notation, axiom, sorry.
-/
import Derived.Test.YtgbcpfeopaidmaaChecked
import GoSem.Claim
import GoSem.ClaimJoined
import GoSem.ClaimMapViews
import Derived.JoinedTies
import Derived.KernelRfl
namespace Go.Proofs.Ytgbcpfeopaidmaa
/- THE CELL 'sum', in the pinned program and in every row, IS THE sha256 OF THE DUMP (.gsa) THAT YtgbcpfeopaidmaaProg.lean LOADS. Nothing in Lean hashes anything: it is a label: what it is worth is what the hold of that sum in a sandbox is worth. -/
noncomputable def Try.pinned : Pinned := { name := "ytgbcpfeopaidmaa", sum := "52668ec11bf23ffb03f31a660ae5a80e333ec8a79017917a5dc854924b1b7053", checked := Try.checked }
namespace Rows
def none {H : Type} : Left H := { results := [], args := [] }

/-- 'quirelaw03.StyleLoops': WHATEVER THE INPUT: true; the input reads as it did. -/
def styleLoopsSpec : ChangeSpec := { name := "styleLoops", fn := fun _ => fun
  | [d] => { results := [.lit (.bool true)], args := [d] }
  | _ => none }
def styleLoopsRow : OpenClaim := { program := "ytgbcpfeopaidmaa", sum := "52668ec11bf23ffb03f31a660ae5a80e333ec8a79017917a5dc854924b1b7053", func := "quire/quirelaw03.StyleLoops", spec := "styleLoops", unfollowed := true, recurses := true, apart := false }
def StyleLoopsSaid : Prop := styleLoopsRow.holds Try.pinned (OpenSpec.ofChange styleLoopsSpec)

/-- ITS FALSE NEIGHBOUR: 'it returns false'. Refute it at one input. -/
def styleLoopsWrong : ChangeSpec := { name := "styleLoops", fn := fun _ => fun
  | [d] => { results := [.lit (.bool false)], args := [d] }
  | _ => none }
def StyleLoopsWrongFalsely : Prop := styleLoopsRow.holds Try.pinned (OpenSpec.ofChange styleLoopsWrong)

/-- 'quirelaw03.StyleKnown': WHATEVER THE INPUT: true; the input reads as it did. -/
def styleKnownSpec : ChangeSpec := { name := "styleKnown", fn := fun _ => fun
  | [] => { results := [.lit (.bool true)], args := [] }
  | _ => none }
def styleKnownRow : OpenClaim := { program := "ytgbcpfeopaidmaa", sum := "52668ec11bf23ffb03f31a660ae5a80e333ec8a79017917a5dc854924b1b7053", func := "quire/quirelaw03.StyleKnown", spec := "styleKnown", unfollowed := true, recurses := true, apart := false }
def StyleKnownSaid : Prop := styleKnownRow.holds Try.pinned (OpenSpec.ofChange styleKnownSpec)

/-- ITS FALSE NEIGHBOUR: 'it returns false'. Refute it at one input. -/
def styleKnownWrong : ChangeSpec := { name := "styleKnown", fn := fun _ => fun
  | [] => { results := [.lit (.bool false)], args := [] }
  | _ => none }
def StyleKnownWrongFalsely : Prop := styleKnownRow.holds Try.pinned (OpenSpec.ofChange styleKnownWrong)

/-- 'quirelaw03.StyleScript': WHATEVER THE INPUT: true; the input reads as it did. -/
def styleScriptSpec : ChangeSpec := { name := "styleScript", fn := fun _ => fun
  | [d1, d2] => { results := [.lit (.bool true)], args := [d1, d2] }
  | _ => none }
def styleScriptRow : OpenClaim := { program := "ytgbcpfeopaidmaa", sum := "52668ec11bf23ffb03f31a660ae5a80e333ec8a79017917a5dc854924b1b7053", func := "quire/quirelaw03.StyleScript", spec := "styleScript", inPlace := ["maps.clone"], unfollowed := true, recurses := true, apart := false }
def StyleScriptSaid : Prop := styleScriptRow.holds Try.pinned (OpenSpec.ofChange styleScriptSpec)

/-- ITS FALSE NEIGHBOUR: 'it returns false'. Refute it at one input. -/
def styleScriptWrong : ChangeSpec := { name := "styleScript", fn := fun _ => fun
  | [d1, d2] => { results := [.lit (.bool false)], args := [d1, d2] }
  | _ => none }
def StyleScriptWrongFalsely : Prop := styleScriptRow.holds Try.pinned (OpenSpec.ofChange styleScriptWrong)

/-- 'quirelaw03.StyleNone': WHATEVER THE INPUT: true; the input reads as it did. -/
def styleNoneSpec : ChangeSpec := { name := "styleNone", fn := fun _ => fun
  | [d] => { results := [.lit (.bool true)], args := [d] }
  | _ => none }
def styleNoneRow : OpenClaim := { program := "ytgbcpfeopaidmaa", sum := "52668ec11bf23ffb03f31a660ae5a80e333ec8a79017917a5dc854924b1b7053", func := "quire/quirelaw03.StyleNone", spec := "styleNone", inPlace := ["maps.clone"], unfollowed := true, recurses := true, apart := false }
def StyleNoneSaid : Prop := styleNoneRow.holds Try.pinned (OpenSpec.ofChange styleNoneSpec)

/-- ITS FALSE NEIGHBOUR: 'it returns false'. Refute it at one input. -/
def styleNoneWrong : ChangeSpec := { name := "styleNone", fn := fun _ => fun
  | [d] => { results := [.lit (.bool false)], args := [d] }
  | _ => none }
def StyleNoneWrongFalsely : Prop := styleNoneRow.holds Try.pinned (OpenSpec.ofChange styleNoneWrong)

/- THE SECOND FORM. 'bulk': how many values and letters a reading holds, each counted each time it is reached (what is shared counts as often as it is met; a slice's spare places count too). A statement '..UptoSaid' is the law's where the arguments, and the package variables that the reading takes, are together of bulk at most 1048576: NARROWER than '..Said'. Prove '..Said' where nothing that the law and all that it calls make is longer than what came in: it says more and counts as full. Else prove '..UptoSaid'. A law counts once. -/
mutual
def uptoBulk {H : Type} : DataW H → Nat
  | .lit (.string bytes) => bytes.length + 1
  | .lit _ => 1
  | .nil => 1
  | .ptr d => uptoBulk d + 1
  | .slice elems spare => uptoBulkAll elems + uptoBulkAll spare + 1
  | .agg parts => uptoBulkAll parts + 1
  | .iface _ d => uptoBulk d + 1
  | .map entries => uptoBulkEntries entries + 1
  | .held _ => 1
def uptoBulkAll {H : Type} : List (DataW H) → Nat
  | [] => 0
  | d :: r => uptoBulk d + uptoBulkAll r
def uptoBulkEntries {H : Type} : List (Lit × DataW H) → Nat
  | [] => 0
  | x :: r => uptoBulkEntry x + uptoBulkEntries r
def uptoBulkEntry {H : Type} : Lit × DataW H → Nat
  | (.string bytes, d) => bytes.length + uptoBulk d + 1
  | (_, d) => uptoBulk d + 1
 end
def uptoSmall : (H : Type) → List (DataW H) → Bool := fun _ ds => decide (uptoBulkAll ds ≤ 1048576)
def OpenSpec.upto (s : _root_.Go.ChangeSpec) : _root_.Go.OpenSpec := { _root_.Go.OpenSpec.ofChange s with cond := some uptoSmall }

/-- 'quirelaw03.StyleLoops', WHERE WHAT IT READS IS OF BULK AT MOST 1048576: true; the input reads as it did. -/
def styleLoopsUptoRow : OpenClaim := { program := "ytgbcpfeopaidmaa", sum := "52668ec11bf23ffb03f31a660ae5a80e333ec8a79017917a5dc854924b1b7053", func := "quire/quirelaw03.StyleLoops", spec := "styleLoops", unfollowed := true, recurses := true, apart := false, narrowed := true }
def StyleLoopsUptoSaid : Prop := styleLoopsUptoRow.holds Try.pinned (OpenSpec.upto styleLoopsSpec)

/-- 'quirelaw03.StyleKnown', WHERE WHAT IT READS IS OF BULK AT MOST 1048576: true; the input reads as it did. -/
def styleKnownUptoRow : OpenClaim := { program := "ytgbcpfeopaidmaa", sum := "52668ec11bf23ffb03f31a660ae5a80e333ec8a79017917a5dc854924b1b7053", func := "quire/quirelaw03.StyleKnown", spec := "styleKnown", unfollowed := true, recurses := true, apart := false, narrowed := true }
def StyleKnownUptoSaid : Prop := styleKnownUptoRow.holds Try.pinned (OpenSpec.upto styleKnownSpec)

/-- 'quirelaw03.StyleScript', WHERE WHAT IT READS IS OF BULK AT MOST 1048576: true; the input reads as it did. -/
def styleScriptUptoRow : OpenClaim := { program := "ytgbcpfeopaidmaa", sum := "52668ec11bf23ffb03f31a660ae5a80e333ec8a79017917a5dc854924b1b7053", func := "quire/quirelaw03.StyleScript", spec := "styleScript", inPlace := ["maps.clone"], unfollowed := true, recurses := true, apart := false, narrowed := true }
def StyleScriptUptoSaid : Prop := styleScriptUptoRow.holds Try.pinned (OpenSpec.upto styleScriptSpec)

/-- 'quirelaw03.StyleNone', WHERE WHAT IT READS IS OF BULK AT MOST 1048576: true; the input reads as it did. -/
def styleNoneUptoRow : OpenClaim := { program := "ytgbcpfeopaidmaa", sum := "52668ec11bf23ffb03f31a660ae5a80e333ec8a79017917a5dc854924b1b7053", func := "quire/quirelaw03.StyleNone", spec := "styleNone", inPlace := ["maps.clone"], unfollowed := true, recurses := true, apart := false, narrowed := true }
def StyleNoneUptoSaid : Prop := styleNoneUptoRow.holds Try.pinned (OpenSpec.upto styleNoneSpec)

end Rows
end Go.Proofs.Ytgbcpfeopaidmaa
