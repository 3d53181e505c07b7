/-
  StyleNone: the law returns true at every name: a sheet that is nil, or that nobody made, tells nothing. No condition.
-/
import Derived.Test.YtgbcpfeopaidmaaEngZ
import Derived.Test.YtgbcpfeopaidmaaRows
import Derived.ChangeMaps5
set_option linter.all false
namespace Go.Eng
open Go

def tab (P : Program) : Table := fun f => match P.funcs[f]? with | some fn => (funC P fn).map .code | none => none

theorem tab_ok (P : Program) : TOk P (tab P) where
  code f ir h := by
    unfold tab at h
    split at h
    · rename_i fn hfn
      cases hf : funC P fn with
      | none => rw [hf] at h; simp at h
      | some ir' =>
        rw [hf] at h
        simp only [Option.map_some, Option.some.injEq, FE.code.injEq] at h
        subst h
        exact ⟨fn, hfn, hf⟩
    · simp at h
  noclone f h := by
    unfold tab at h
    split at h
    · rename_i fn hfn
      cases hf : funC P fn with
      | none => rw [hf] at h; simp at h
      | some ir' => rw [hf] at h; simp at h
    · simp at h
  spec f hh h := by
    exfalso
    unfold tab at h
    split at h
    · rename_i fn hfn
      cases hf : funC P fn with
      | none => rw [hf] at h; simp at h
      | some ir' => rw [hf] at h; simp at h
    · simp at h

def g0 : Gh := ⟨fun _ => none, fun _ => 0, fun _ => 0⟩
theorem rel0 (P : Program) (w : World) : Rel P g0 ⟨.nil, 0⟩ w := by
  have hg : ∀ i, (⟨.nil, 0⟩ : St).get i = none := fun i => Tr.get_nil i
  exact ⟨fun i o b bs h => (by rw [hg] at h; cases h), fun i j oi oj b bi bj _ h => (by rw [hg] at h; cases h), fun i b bs h => (by cases h), fun i _ => ⟨hg i, rfl⟩⟩

/-- A law whose arguments lead to no memory. -/
theorem calls_true {P : Program} {T : Table} (hT : TOk P T) (hmix : P.follows .mixedOrders = true) {f : FuncId} {n : Nat} {args args' : List Value} {ir : FIR} (hf : T f = some (.code ir)) (w : World) (ha : LRel g0 args args')
    (h : (evC T n (.fn f) args ⟨.nil, 0⟩).map Prod.fst = some (.bool true)) :
    Calls P f ⟨args'⟩ w fun e w' => e = .returned (.bool true) ∧ w'.os = w.os ∧ w'.output = w.output ∧ ∀ i, i < w.heap.size → w'.heap[i]? = w.heap[i]? := by
  cases he : evC T n (.fn f) args ⟨.nil, 0⟩ with
  | none => rw [he] at h; simp at h
  | some p =>
    obtain ⟨v, σ'⟩ := p
    rw [he] at h
    simp only [Option.map_some, Option.some.injEq] at h
    subst h
    obtain ⟨fn, hfn, hfc⟩ := hT.code f ir hf
    rcases (evC_ok hT hmix n).fn f args _ _ _ he g0 w args' (rel0 P w) ha with ⟨_, hc⟩ | ⟨_, v', w', g', hv, _⟩
    · refine hc.mono ?_
      rintro e w' ⟨v', g', rfl, hv, hG⟩
      cases hv
      refine ⟨rfl, hG.os, hG.out, fun i hi => hG.frm i hi ?_⟩
      rintro ⟨j, o, bs, hj, _⟩
      rw [show (⟨.nil, 0⟩ : St).get j = none from Tr.get_nil j] at hj
      cases hj
    · rw [callFunc_enter hfn hfc] at hv
      simp at hv
end Go.Eng

namespace Go.Proofs.Ytgbcpfeopaidmaa
open Go.ChangeShapes Go.WideShapes Go.ChangeAt Go.RowKit Go.Eng
open Go.ChangeMaps (open_string)

theorem Try.own : ownKnob Try.prog.godebug = none := by kernel_rfl
theorem Try.laidOut : laidOutB Try.prog = true := by kernel_rfl
theorem Try.kids : Kids Try.prog (· < Try.prog.types.size) := kids_rows (by kernel_rfl) (by kernel_rfl)
theorem Try.full : ∀ t e, t < Try.prog.types.size → Try.prog.underlying t = some (.slice e) → 0 < Try.prog.cellsOf e := slices_full_of Try.prog (by kernel_rfl)

set_option maxRecDepth 1000000 in
theorem none_runs (s : ByteArray) : (evC (tab Try.prog) 60 (.fn 6) [.string s] ⟨.nil, 0⟩).map Prod.fst = some (.bool true) := by kernel_rfl

set_option maxRecDepth 1000000 in
theorem none_code : ∃ ir, tab Try.prog 6 = some (.code ir) := by
  have h : (match tab Try.prog 6 with | some (.code _) => true | _ => false) = true := by kernel_rfl
  split at h
  · rename_i ir hir; exact ⟨ir, hir⟩
  · cases h

set_option maxRecDepth 100000 in
theorem none_lifted (os : Os) (started : os.Started) (H : Type) (enc : TypeId × Value → H) :
    ReturnsInHanded {} Try.checked os 6 .any (Rows.styleNoneSpec.pre6 enc Try.prog Try.f6 Rows.styleNoneRow.domain false) (Rows.styleNoneSpec.post enc Try.prog Try.f6 false true false false) := by
  refine returnsInHanded_of_change (C := Try.checked) Try.own started (by kernel_rfl) Try.func6
    (ChangeSpec.witness6 (enc := enc) (C := Try.checked) false ⟨#[], #[.string ⟨#[]⟩], []⟩ 8 (by kernel_rfl) (by kernel_rfl) (by kernel_rfl) (by kernel_rfl)) ?_
  intro W base args ds gs before hval0 hW hcnd _
  have hval : ∀ (j : Nat) t v, Try.f6.params[j]? = some t → args[j]? = some v → Value.okWide Try.prog W .any base t v := hval0
  have hW' := hW
  obtain ⟨p, q, hA0, hV, rfl, hfz, hnd⟩ := hW
  have hA : DataW.TrodAll enc Try.prog W 0 (fun _ => true) true Try.f6.params.toList args.toList ds p := hA0
  rw [Try.params6] at hA hval
  obtain ⟨v0, d0, rfl, rfl, h0⟩ := trodAll_one hA
  obtain ⟨rfl, rfl⟩ := trodVars_none hV
  obtain ⟨s, rfl, rfl, rfl, ws⟩ := open_string Try.underlying9 (hval 0 9 v0 rfl rfl) h0
  obtain ⟨ir, hir⟩ := none_code
  refine (calls_true (tab_ok Try.prog) (by kernel_rfl) hir W (.cons (.str s) .nil) (none_runs s)).mono fun e W' ⟨he, ho, hp, hh⟩ => ?_
  subst he
  exact ⟨_, rfl, law_post rfl (by kernel_rfl) Try.underlying4 Try.kids Try.full (by rw [Try.params6]; decide) hW' rfl ho hp hh⟩

theorem styleNone_holds : Rows.StyleNoneSaid :=
  OpenClaim.holds_of_wide 6 Try.f6 rfl rfl rfl rfl rfl rfl rfl ⟨rfl, rfl, rfl, rfl, rfl⟩ rfl rfl rfl rfl rfl (by kernel_rfl) Try.func6 (by kernel_rfl)
    (of_decide_eq_true (by kernel_rfl)) (by unfold Func.isWrapper; first | (rw [if_pos (by decide +kernel)]; kernel_rfl) | (rw [if_neg (by decide +kernel)]; exact ⟨rfl, rfl⟩))
    (fun os started H enc _ => none_lifted os started H enc)

end Go.Proofs.Ytgbcpfeopaidmaa
