/-
  UndoNone: the law returns true at every input. No condition beyond the row's own.
-/
import Derived.Test.YtkokkanklmmfmaaGreatDoorUNoneF
import Derived.Test.YtkokkanklmmfmaaGreatDoorUNoneR
import Derived.ChangeMaps5
import Derived.LaidMore
import Derived.Lay
import Derived.SevenTiedAt
import Derived.OpenShut
import Derived.Stop.Joined
set_option linter.all false
namespace Go.Proofs.YtkokkanklmmfmaaGreatDoor
open Go.ChangeShapes Go.WideShapes Go.ChangeAt Go.RowKit Go.Eng

set_option maxRecDepth 100000 in
theorem undoNone_lifted (os : Os) (started : os.Started) (H : Type) (enc : TypeId × Value → H) :
    ReturnsInHanded {} Tryz.checked os 13 .any (fun w args => (Rows.undoNoneSpec.pre enc Tryz.prog Tryz.f13 Rows.undoNoneRow.domain false w args ∧ laidMetH Tryz.prog Rows.undoNoneRow.laid w) ∧ sizedMet enc Tryz.prog Tryz.f13 (OpenSpec.ofChange Rows.undoNoneSpec) false w args) (Rows.undoNoneSpec.post enc Tryz.prog Tryz.f13 false true false false) := by
  refine returnsInHanded_of_change_and (C := Tryz.checked) (X := fun w _ => laidMetH Tryz.prog Rows.undoNoneRow.laid w) (fun _ _ _ hh h => h.of_heap hh) Tryz.own started (by kernel_rfl) Tryz.func13
    (ChangeSpec.witness_shaped (enc := enc) (C := Tryz.checked) (os := os) (X := fun w _ => laidMetH Tryz.prog Rows.undoNoneRow.laid w) false (World.laidAll Tryz.prog os Rows.undoNoneRow.laid) #[.agg #[.int .i64 0, .int .i64 0, .int .i64 0, .string ⟨#[]⟩, .int .i64 0, .int .i64 0, .int .i64 0, .string ⟨#[]⟩, .string ⟨#[]⟩, .slice none 0 0, .int .i64 0, .int .i64 0, .int .i64 0, .int .i64 0, .int .i64 0, .slice none 0 0, .int .i64 0, .int .i64 0, .int .i64 0, .int .i64 0, .int .i64 0, .int .i64 0, .int .i64 0, .int .i64 0, .int .i64 0, .int .i64 0, .int .i64 0, .string ⟨#[]⟩, .string ⟨#[]⟩, .string ⟨#[]⟩, .string ⟨#[]⟩, .string ⟨#[]⟩, .string ⟨#[]⟩, .slice none 0 0]] 8 (World.laidAll_os _ _ _)
      (World.shaped_of_ZipB (by kernel_rfl) (by kernel_rfl)) (by kernel_rfl) (by kernel_rfl) (by kernel_rfl)
      (by rw [MakeChecks.laidMetH_plain _ _ _ (by kernel_rfl)]; exact laidMet_laidAll _ (by kernel_rfl) (by kernel_rfl))) ?_
  intro W base args ds gs before hval0 hW hc _ hL _
  have hval : ∀ (j : Nat) t v, Tryz.f13.params[j]? = some t → args[j]? = some v → Value.okWide Tryz.prog W .any base t v := hval0
  have hW' := hW
  obtain ⟨p, q, hA0, hV, rfl, _, _⟩ := hW
  have hA : DataW.TrodAll enc Tryz.prog W 0 (fun _ => true) true Tryz.f13.params.toList args.toList ds p := hA0
  rw [Tryz.params13] at hA hval
  obtain ⟨v1, d1, rfl, rfl, h1⟩ := trodAll_one hA
  obtain ⟨rfl, rfl⟩ := trodVars_none hV
  have hv1 := hval 0 40 v1 rfl rfl
  unfold Value.okWide at hv1
  rw [Tryz.underlying40] at hv1
  obtain ⟨⟨cs⟩, rfl, _, _⟩ := hv1
  obtain ⟨fuel, ht⟩ := h1
  obtain ⟨e, g, o0, o1, o2, hG, hl, hs⟩ := edit_import ht
  obtain ⟨σ', hrun⟩ := undoNone_runs e o0 o1 o2 hs
  refine (calls_law tabD_ok Tryz.mixed tabD13 hG (.cons (.agg hl) .nil) hrun).mono fun e W' ⟨he, ho, hp, hh⟩ => ?_
  subst he
  exact ⟨_, rfl, law_post rfl (by kernel_rfl) Tryz.underlying4 Tryz.kids Tryz.full (by rw [Tryz.params13]; decide) hW' rfl ho hp hh⟩

theorem undoNone_row : Rows.UndoNoneSaid :=
  OpenClaim.holds_of_wide 13 Tryz.f13 rfl rfl rfl rfl rfl rfl rfl ⟨rfl, rfl, rfl, rfl, rfl⟩ rfl rfl rfl rfl rfl undoNone_named Tryz.func13 undoNone_facts
    (of_decide_eq_true (by kernel_rfl)) (by unfold Func.isWrapper; first | (rw [if_pos (by decide +kernel)]; kernel_rfl) | (rw [if_neg (by decide +kernel)]; exact ⟨rfl, rfl⟩))
    (fun os started H enc _ => undoNone_lifted os started H enc)

theorem undoNone_holds : Rows.UndoNoneCardSaid :=
  Claim7.holds_tied_plain_at .later [] [.data, .pinned] true Rows.undoNoneCard.stood.harness Rows.undoNoneCard.stood.looks undoNone_row (fun _ h => by cases h) (by kernel_rfl) (fun _ h => by cases h) undoNone_row_tie rfl ⟨rfl, rfl⟩ Tryz.harness rfl
    (fun f fn hf hfn => by
      obtain rfl : f = 13 := Option.some.inj (undoNone_named.symm.trans hf) |>.symm
      obtain rfl : fn = Tryz.f13 := (Option.some.inj (Tryz.func13.symm.trans hfn)).symm
      exact ⟨Tryz.looks, fun j t ht => by
        rw [Tryz.params13] at ht
        have hm : t ∈ [40] := by simpa using Array.mem_of_getElem? ht
        have hall : ([40].all fun u => !Tryz.prog.wantsStandIn u) = true := by kernel_rfl
        exact (show Tryz.prog.wantsStandIn t = false by simpa using List.all_eq_true.1 hall t hm)⟩)
    undoNone_goes

end Go.Proofs.YtkokkanklmmfmaaGreatDoor
