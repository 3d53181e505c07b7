/-
  UndoKnown: the law returns true: the chapter's examples. No condition beyond the row's own.
-/
import Derived.Test.YtkokkanklmmfmaaGreatDoorUKnownF
import Derived.Test.YtkokkanklmmfmaaGreatDoorUKnownR
import Derived.ChangeMaps5
import Derived.LaidMore
import Derived.Lay
import Derived.SevenTiedAt
import Derived.OpenShut
import Derived.Stop.Joined
set_option linter.all false
namespace Go.Proofs.YtkokkanklmmfmaaGreatDoor
open Go.ChangeShapes Go.WideShapes Go.ChangeAt Go.RowKit Go.Eng

theorem known_code : ∃ ir, tabD 11 = some (.code ir) := by
  have h : (match tabD 11 with | some (.code _) => true | _ => false) = true := by kernel_rfl
  split at h
  · rename_i ir hir; exact ⟨ir, hir⟩
  · cases h

set_option maxRecDepth 100000 in
theorem known_lifted (os : Os) (started : os.Started) (H : Type) (enc : TypeId × Value → H) :
    ReturnsInHanded {} Tryz.checked os 11 .any (fun w args => (Rows.undoKnownSpec.pre enc Tryz.prog Tryz.f11 Rows.undoKnownRow.domain false w args ∧ laidMetH Tryz.prog Rows.undoKnownRow.laid w) ∧ sizedMet enc Tryz.prog Tryz.f11 (OpenSpec.ofChange Rows.undoKnownSpec) false w args) (Rows.undoKnownSpec.post enc Tryz.prog Tryz.f11 false true false false) := by
  refine returnsInHanded_of_change_and (C := Tryz.checked) (X := fun w _ => laidMetH Tryz.prog Rows.undoKnownRow.laid w) (fun _ _ _ hh h => h.of_heap hh) Tryz.own started (by kernel_rfl) Tryz.func11
    (ChangeSpec.witness_shaped (enc := enc) (C := Tryz.checked) (os := os) (X := fun w _ => laidMetH Tryz.prog Rows.undoKnownRow.laid w) false (World.laidAll Tryz.prog os Rows.undoKnownRow.laid) #[] 8 (World.laidAll_os _ _ _)
      (World.shaped_of_ZipB (by kernel_rfl) (by kernel_rfl)) (by kernel_rfl) (by kernel_rfl) (by kernel_rfl)
      (by rw [MakeChecks.laidMetH_plain _ _ _ (by kernel_rfl)]; exact laidMet_laidAll _ (by kernel_rfl) (by kernel_rfl))) ?_
  intro W base args ds gs before hval0 hW hc _ hL _
  have hW' := hW
  obtain ⟨p, q, hA0, hV, rfl, _, _⟩ := hW
  have hA : DataW.TrodAll enc Tryz.prog W 0 (fun _ => true) true Tryz.f11.params.toList args.toList ds p := hA0
  rw [Tryz.params11] at hA
  obtain ⟨rfl, rfl, rfl⟩ := trodAll_none hA
  obtain ⟨rfl, rfl⟩ := trodVars_none hV
  obtain ⟨ir, hir⟩ := known_code
  refine (calls_true tabD_ok Tryz.mixed hir W .nil undoKnown_runs).mono fun e W' ⟨he, ho, hp, hh⟩ => ?_
  subst he
  exact ⟨_, rfl, law_post rfl (by kernel_rfl) Tryz.underlying4 Tryz.kids Tryz.full (by rw [Tryz.params11]; decide) hW' rfl ho hp hh⟩

theorem undoKnown_row : Rows.UndoKnownSaid :=
  OpenClaim.holds_of_wide 11 Tryz.f11 rfl rfl rfl rfl rfl rfl rfl ⟨rfl, rfl, rfl, rfl, rfl⟩ rfl rfl rfl rfl rfl undoKnown_named Tryz.func11 undoKnown_facts
    (of_decide_eq_true (by kernel_rfl)) (by unfold Func.isWrapper; first | (rw [if_pos (by decide +kernel)]; kernel_rfl) | (rw [if_neg (by decide +kernel)]; exact ⟨rfl, rfl⟩))
    (fun os started H enc _ => known_lifted os started H enc)

theorem undoKnown_holds : Rows.UndoKnownCardSaid :=
  Claim7.holds_tied_plain_at .later [] [.data, .pinned] true Rows.undoKnownCard.stood.harness Rows.undoKnownCard.stood.looks undoKnown_row (fun _ h => by cases h) (by kernel_rfl) (fun _ h => by cases h) undoKnown_row_tie rfl ⟨rfl, rfl⟩ Tryz.harness rfl
    (fun f fn hf hfn => by
      obtain rfl : f = 11 := Option.some.inj (undoKnown_named.symm.trans hf) |>.symm
      obtain rfl : fn = Tryz.f11 := (Option.some.inj (Tryz.func11.symm.trans hfn)).symm
      exact ⟨Tryz.looks, fun j t ht => by
        rw [Tryz.params11] at ht
        simp at ht⟩)
    undoKnown_goes

end Go.Proofs.YtkokkanklmmfmaaGreatDoor
