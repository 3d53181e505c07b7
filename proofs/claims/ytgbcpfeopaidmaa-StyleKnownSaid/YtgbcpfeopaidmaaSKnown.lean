/-
  StyleKnown: the law returns true: the chapter's examples. No condition.
-/
import Derived.Test.YtgbcpfeopaidmaaSTab
import Derived.Test.YtgbcpfeopaidmaaRows
import Derived.ChangeMaps5
set_option linter.all false
namespace Go.Proofs.Ytgbcpfeopaidmaa
open Go.ChangeShapes Go.WideShapes Go.ChangeAt Go.RowKit Go.Eng
open Go.ChangeMaps (open_string)

theorem Try.own : ownKnob Try.prog.godebug = none := by kernel_rfl
theorem Try.kids : Kids Try.prog (· < Try.prog.types.size) := kids_rows (by kernel_rfl) (by kernel_rfl)
theorem Try.full : ∀ t e, t < Try.prog.types.size → Try.prog.underlying t = some (.slice e) → 0 < Try.prog.cellsOf e := slices_full_of Try.prog (by kernel_rfl)

set_option maxRecDepth 1000000 in
theorem known_runs : (evC tabS 80 (.fn 4) [] ⟨.nil, 0⟩).map Prod.fst = some (.bool true) := by kernel_rfl

theorem known_code : ∃ ir, tabS 4 = some (.code ir) := by
  have h : (match tabS 4 with | some (.code _) => true | _ => false) = true := by kernel_rfl
  split at h
  · rename_i ir hir; exact ⟨ir, hir⟩
  · cases h

set_option maxRecDepth 100000 in
theorem known_lifted (os : Os) (started : os.Started) (H : Type) (enc : TypeId × Value → H) :
    ReturnsInHanded {} Try.checked os 4 .any (Rows.styleKnownSpec.pre6 enc Try.prog Try.f4 Rows.styleKnownRow.domain false) (Rows.styleKnownSpec.post enc Try.prog Try.f4 false true false false) := by
  refine returnsInHanded_of_change (C := Try.checked) Try.own started (by kernel_rfl) Try.func4
    (ChangeSpec.witness6 (enc := enc) (C := Try.checked) false ⟨#[], #[], []⟩ 8 (by kernel_rfl) (by kernel_rfl) (by kernel_rfl) (by kernel_rfl)) ?_
  intro W base args ds gs before hval0 hW hcnd _
  have hW' := hW
  obtain ⟨p, q, hA0, hV, rfl, hfz, hnd⟩ := hW
  have hA : DataW.TrodAll enc Try.prog W 0 (fun _ => true) true Try.f4.params.toList args.toList ds p := hA0
  rw [Try.params4] at hA
  obtain ⟨rfl, rfl, rfl⟩ := trodAll_none hA
  obtain ⟨rfl, rfl⟩ := trodVars_none hV
  obtain ⟨ir, hir⟩ := known_code
  refine (calls_true tabS_ok (by kernel_rfl) hir W .nil known_runs).mono fun e W' ⟨he, ho, hp, hh⟩ => ?_
  subst he
  exact ⟨_, rfl, law_post rfl (by kernel_rfl) Try.underlying4 Try.kids Try.full (by rw [Try.params4]; decide) hW' rfl ho hp hh⟩

theorem styleKnown_holds : Rows.StyleKnownSaid :=
  OpenClaim.holds_of_wide 4 Try.f4 rfl rfl rfl rfl rfl rfl rfl ⟨rfl, rfl, rfl, rfl, rfl⟩ rfl rfl rfl rfl rfl (by kernel_rfl) Try.func4 (by kernel_rfl)
    (of_decide_eq_true (by kernel_rfl)) (by unfold Func.isWrapper; first | (rw [if_pos (by decide +kernel)]; kernel_rfl) | (rw [if_neg (by decide +kernel)]; exact ⟨rfl, rfl⟩))
    (fun os started H enc _ => known_lifted os started H enc)

end Go.Proofs.Ytgbcpfeopaidmaa
