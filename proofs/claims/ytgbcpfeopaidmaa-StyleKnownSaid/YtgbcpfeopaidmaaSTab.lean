/-
  The table of the sheet's functions: the code, and two contracts.
-/
import Derived.Test.YtgbcpfeopaidmaaEngZ
import Derived.Test.YtgbcpfeopaidmaaRemoveS
set_option linter.all false
namespace Go.Eng
open Go

def tab (P : Program) : Table := fun f => match P.funcs[f]? with | some fn => (funC P fn).map .code | none => none

theorem tab_ok (P : Program) : TOk P (tab P) where
  code f ir h := by
    unfold tab at h
    split at h
    · rename_i fn hfn
      cases hf : funC P fn with
      | none => rw [hf] at h; simp at h
      | some ir' =>
        rw [hf] at h
        simp only [Option.map_some, Option.some.injEq, FE.code.injEq] at h
        subst h
        exact ⟨fn, hfn, hf⟩
    · simp at h
  noclone f h := by
    unfold tab at h
    split at h
    · rename_i fn hfn
      cases hf : funC P fn with
      | none => rw [hf] at h; simp at h
      | some ir' => rw [hf] at h; simp at h
    · simp at h
  spec f hh h := by
    exfalso
    unfold tab at h
    split at h
    · rename_i fn hfn
      cases hf : funC P fn with
      | none => rw [hf] at h; simp at h
      | some ir' => rw [hf] at h; simp at h
    · simp at h

def g0 : Gh := ⟨fun _ => none, fun _ => 0, fun _ => 0⟩
theorem rel0 (P : Program) (w : World) : Rel P g0 ⟨.nil, 0⟩ w := by
  have hg : ∀ i, (⟨.nil, 0⟩ : St).get i = none := fun i => Tr.get_nil i
  exact ⟨fun i o b bs h => (by rw [hg] at h; cases h), fun i j oi oj b bi bj _ h => (by rw [hg] at h; cases h), fun i b bs h => (by cases h), fun i _ => ⟨hg i, rfl⟩⟩

/-- A law whose arguments lead to no memory. -/
theorem calls_true {P : Program} {T : Table} (hT : TOk P T) (hmix : P.follows .mixedOrders = true) {f : FuncId} {n : Nat} {args args' : List Value} {ir : FIR} (hf : T f = some (.code ir)) (w : World) (ha : LRel g0 args args')
    (h : (evC T n (.fn f) args ⟨.nil, 0⟩).map Prod.fst = some (.bool true)) :
    Calls P f ⟨args'⟩ w fun e w' => e = .returned (.bool true) ∧ w'.os = w.os ∧ w'.output = w.output ∧ ∀ i, i < w.heap.size → w'.heap[i]? = w.heap[i]? := by
  cases he : evC T n (.fn f) args ⟨.nil, 0⟩ with
  | none => rw [he] at h; simp at h
  | some p =>
    obtain ⟨v, σ'⟩ := p
    rw [he] at h
    simp only [Option.map_some, Option.some.injEq] at h
    subst h
    obtain ⟨fn, hfn, hfc⟩ := hT.code f ir hf
    rcases (evC_ok hT hmix n).fn f args _ _ _ he g0 w args' (rel0 P w) ha with ⟨_, hc⟩ | ⟨_, v', w', g', hv, _⟩
    · refine hc.mono ?_
      rintro e w' ⟨v', g', rfl, hv, hG⟩
      cases hv
      refine ⟨rfl, hG.os, hG.out, fun i hi => hG.frm i hi ?_⟩
      rintro ⟨j, o, bs, hj, _⟩
      rw [show (⟨.nil, 0⟩ : St).get j = none from Tr.get_nil j] at hj
      cases hj
    · rw [callFunc_enter hfn hfc] at hv
      simp at hv

noncomputable def tabS : Table := fun f => if f = 10 then some (.spec hNames) else if f = 13 then some (.spec hRemove) else tab Proofs.Try.prog f

theorem tabS_ok : TOk Proofs.Try.prog tabS where
  code f ir h := by
    unfold tabS at h
    split at h
    · cases h
    · split at h
      · cases h
      · exact (tab_ok Proofs.Try.prog).code f ir h
  noclone f h := by
    unfold tabS at h
    split at h
    · cases h
    · split at h
      · cases h
      · exact (tab_ok Proofs.Try.prog).noclone f h
  spec f hh h := by
    unfold tabS at h
    split at h
    · rename_i hf
      simp only [Option.some.injEq, FE.spec.injEq] at h
      subst h; subst hf
      intro args σ v σ' hv g w args' hR ha
      exact .inl (names_spec args σ v σ' hv g w args' hR ha)
    · split at h
      · rename_i hf
        simp only [Option.some.injEq, FE.spec.injEq] at h
        subst h; subst hf
        intro args σ v σ' hv g w args' hR ha
        exact .inl (remove_spec args σ v σ' hv g w args' hR ha)
      · exact (tab_ok Proofs.Try.prog).spec f hh h

end Go.Eng
