/-
  DocKnown: the law returns true: the chapter's examples. No condition beyond the row's own.
-/
import Derived.Test.YtkokkanklmmfmaaGreatDoorDKnownF
import Derived.Test.YtkokkanklmmfmaaGreatDoorDKnownR
import Derived.ChangeMaps5
import Derived.LaidMore
import Derived.Lay
import Derived.SevenTiedAt
import Derived.OpenShut
import Derived.Stop.Joined
set_option linter.all false
namespace Go.Proofs.YtkokkanklmmfmaaGreatDoor
open Go.ChangeShapes Go.WideShapes Go.ChangeAt Go.RowKit Go.Eng

theorem known_code : ∃ ir, tabD 4 = some (.code ir) := by
  have h : (match tabD 4 with | some (.code _) => true | _ => false) = true := by kernel_rfl
  split at h
  · rename_i ir hir; exact ⟨ir, hir⟩
  · cases h

set_option maxRecDepth 100000 in
theorem known_lifted (os : Os) (started : os.Started) (H : Type) (enc : TypeId × Value → H) :
    ReturnsInHanded {} Tryz.checked os 4 .any (fun w args => (Rows.docKnownSpec.pre enc Tryz.prog Tryz.f4 Rows.docKnownRow.domain false w args ∧ laidMetH Tryz.prog Rows.docKnownRow.laid w) ∧ sizedMet enc Tryz.prog Tryz.f4 (OpenSpec.ofChange Rows.docKnownSpec) false w args) (Rows.docKnownSpec.post enc Tryz.prog Tryz.f4 false true false false) := by
  refine returnsInHanded_of_change_and (C := Tryz.checked) (X := fun w _ => laidMetH Tryz.prog Rows.docKnownRow.laid w) (fun _ _ _ hh h => h.of_heap hh) Tryz.own started (by kernel_rfl) Tryz.func4
    (ChangeSpec.witness_shaped (enc := enc) (C := Tryz.checked) (os := os) (X := fun w _ => laidMetH Tryz.prog Rows.docKnownRow.laid w) false (World.laidAll Tryz.prog os Rows.docKnownRow.laid) #[] 8 (World.laidAll_os _ _ _)
      (World.shaped_of_ZipB (by kernel_rfl) (by kernel_rfl)) (by kernel_rfl) (by kernel_rfl) (by kernel_rfl)
      (by rw [MakeChecks.laidMetH_plain _ _ _ (by kernel_rfl)]; exact laidMet_laidAll _ (by kernel_rfl) (by kernel_rfl))) ?_
  intro W base args ds gs before hval0 hW hc _ hL _
  have hW' := hW
  obtain ⟨p, q, hA0, hV, rfl, _, _⟩ := hW
  have hA : DataW.TrodAll enc Tryz.prog W 0 (fun _ => true) true Tryz.f4.params.toList args.toList ds p := hA0
  rw [Tryz.params4] at hA
  obtain ⟨rfl, rfl, rfl⟩ := trodAll_none hA
  obtain ⟨rfl, rfl⟩ := trodVars_none hV
  obtain ⟨ir, hir⟩ := known_code
  refine (calls_true tabD_ok Tryz.mixed hir W .nil docKnown_runs).mono fun e W' ⟨he, ho, hp, hh⟩ => ?_
  subst he
  exact ⟨_, rfl, law_post rfl (by kernel_rfl) Tryz.underlying4 Tryz.kids Tryz.full (by rw [Tryz.params4]; decide) hW' rfl ho hp hh⟩

theorem docKnown_row : Rows.DocKnownSaid :=
  OpenClaim.holds_of_wide 4 Tryz.f4 rfl rfl rfl rfl rfl rfl rfl ⟨rfl, rfl, rfl, rfl, rfl⟩ rfl rfl rfl rfl rfl docKnown_named Tryz.func4 docKnown_facts
    (of_decide_eq_true (by kernel_rfl)) (by unfold Func.isWrapper; first | (rw [if_pos (by decide +kernel)]; kernel_rfl) | (rw [if_neg (by decide +kernel)]; exact ⟨rfl, rfl⟩))
    (fun os started H enc _ => known_lifted os started H enc)

theorem docKnown_holds : Rows.DocKnownCardSaid :=
  Claim7.holds_tied_plain_at .later [] [.data, .pinned] true Rows.docKnownCard.stood.harness Rows.docKnownCard.stood.looks docKnown_row (fun _ h => by cases h) (by kernel_rfl) (fun _ h => by cases h) docKnown_row_tie rfl ⟨rfl, rfl⟩ Tryz.harness rfl
    (fun f fn hf hfn => by
      obtain rfl : f = 4 := Option.some.inj (docKnown_named.symm.trans hf) |>.symm
      obtain rfl : fn = Tryz.f4 := (Option.some.inj (Tryz.func4.symm.trans hfn)).symm
      exact ⟨Tryz.looks, fun j t ht => by
        rw [Tryz.params4] at ht
        simp at ht⟩)
    docKnown_goes

end Go.Proofs.YtkokkanklmmfmaaGreatDoor
