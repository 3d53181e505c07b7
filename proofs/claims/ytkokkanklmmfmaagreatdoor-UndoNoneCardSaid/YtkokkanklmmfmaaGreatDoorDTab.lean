/-
  The table of functions: the code, and contracts for what the interpreter does not cover.
-/
import Derived.Test.YtkokkanklmmfmaaGreatDoorEngZ
import Derived.Test.YtkokkanklmmfmaaGreatDoorRemoveS
import Derived.Test.YtkokkanklmmfmaaGreatDoorStrS
set_option linter.all false
namespace Go.Eng
open Go

def tab (P : Program) : Table := fun f => match P.funcs[f]? with | some fn => (funC P fn).map .code | none => none

theorem tab_ok (P : Program) : TOk P (tab P) where
  code f ir h := by
    unfold tab at h
    split at h
    · rename_i fn hfn
      cases hf : funC P fn with
      | none => rw [hf] at h; simp at h
      | some ir' =>
        rw [hf] at h
        simp only [Option.map_some, Option.some.injEq, FE.code.injEq] at h
        subst h
        exact ⟨fn, hfn, hf⟩
    · simp at h
  noclone f h := by
    unfold tab at h
    split at h
    · rename_i fn hfn
      cases hf : funC P fn with
      | none => rw [hf] at h; simp at h
      | some ir' => rw [hf] at h; simp at h
    · simp at h
  spec f hh h := by
    exfalso
    unfold tab at h
    split at h
    · rename_i fn hfn
      cases hf : funC P fn with
      | none => rw [hf] at h; simp at h
      | some ir' => rw [hf] at h; simp at h
    · simp at h

def g0 : Gh := ⟨fun _ => none, fun _ => 0, fun _ => 0⟩
theorem rel0 (P : Program) (w : World) : Rel P g0 ⟨.nil, 0⟩ w := by
  have hg : ∀ i, (⟨.nil, 0⟩ : St).get i = none := fun i => Tr.get_nil i
  exact ⟨fun i o b bs h => (by rw [hg] at h; cases h), fun i j oi oj b bi bj _ h => (by rw [hg] at h; cases h), fun i b bs h => (by cases h), fun i _ => ⟨hg i, rfl⟩⟩

/-- A law whose arguments lead to no memory. -/
theorem calls_true {P : Program} {T : Table} (hT : TOk P T) (hmix : P.follows .mixedOrders = true) {f : FuncId} {n : Nat} {args args' : List Value} {ir : FIR} (hf : T f = some (.code ir)) (w : World) (ha : LRel g0 args args')
    (h : (evC T n (.fn f) args ⟨.nil, 0⟩).map Prod.fst = some (.bool true)) :
    Calls P f ⟨args'⟩ w fun e w' => e = .returned (.bool true) ∧ w'.os = w.os ∧ w'.output = w.output ∧ ∀ i, i < w.heap.size → w'.heap[i]? = w.heap[i]? := by
  cases he : evC T n (.fn f) args ⟨.nil, 0⟩ with
  | none => rw [he] at h; simp at h
  | some p =>
    obtain ⟨v, σ'⟩ := p
    rw [he] at h
    simp only [Option.map_some, Option.some.injEq] at h
    subst h
    obtain ⟨fn, hfn, hfc⟩ := hT.code f ir hf
    rcases (evC_ok hT hmix n).fn f args _ _ _ he g0 w args' (rel0 P w) ha with ⟨_, hc⟩ | ⟨_, v', w', g', hv, _⟩
    · refine hc.mono ?_
      rintro e w' ⟨v', g', rfl, hv, hG⟩
      cases hv
      refine ⟨rfl, hG.os, hG.out, fun i hi => hG.frm i hi ?_⟩
      rintro ⟨j, o, bs, hj, _⟩
      rw [show (⟨.nil, 0⟩ : St).get j = none from Tr.get_nil j] at hj
      cases hj
    · rw [callFunc_enter hfn hfc] at hv
      simp at hv

def findH : FuncId → List (FuncId × (List Value → St → Option (Value × St))) → Option (List Value → St → Option (Value × St))
  | _, [] => none
  | f, (k, h) :: l => if f = k then some h else findH f l

noncomputable def tabL (P : Program) (l : List (FuncId × (List Value → St → Option (Value × St)))) : Table := fun f => match findH f l with | some h => some (.spec h) | none => tab P f

theorem findH_mem {f : FuncId} {h : List Value → St → Option (Value × St)} : ∀ {l : List (FuncId × (List Value → St → Option (Value × St)))}, findH f l = some h → (f, h) ∈ l
  | [], e => by simp [findH] at e
  | (k, h') :: l, e => by
    simp only [findH] at e
    split at e
    · rename_i hk; simp only [Option.some.injEq] at e; subst e; subst hk; simp
    · exact List.mem_cons_of_mem _ (findH_mem e)

theorem tabL_ok {P : Program} {l : List (FuncId × (List Value → St → Option (Value × St)))} (hl : ∀ p ∈ l, CallSpec P p.1 p.2) : TOk P (tabL P l) where
  code f ir h := by
    unfold tabL at h
    split at h
    · cases h
    · exact (tab_ok P).code f ir h
  noclone f h := by
    unfold tabL at h
    split at h
    · cases h
    · exact (tab_ok P).noclone f h
  spec f hh h := by
    unfold tabL at h
    split at h
    · rename_i h' hf
      simp only [Option.some.injEq, FE.spec.injEq] at h
      subst h
      intro args σ v σ' hv g w args' hR ha
      exact .inl (hl _ (findH_mem hf) args σ v σ' hv g w args' hR ha)
    · exact (tab_ok P).spec f hh h

def specsD : List (FuncId × (List Value → St → Option (Value × St))) :=
  [(237, hIndexByte), (166, hCount), (238, hCopyCheck 257), (193, hBString 257 5),
   (67, hNames), (182, hRemove), (86, hMapClone), (142, hMapClone)]

theorem specsD_ok : ∀ p ∈ specsD, CallSpec Proofs.Tryz.prog p.1 p.2 := by
  intro p hp
  simp only [specsD, List.mem_cons, List.not_mem_nil, or_false] at hp
  rcases hp with rfl | rfl | rfl | rfl | rfl | rfl | rfl | rfl
  · exact indexByte_spec
  · exact count_spec
  · exact copyCheck_spec
  · exact bstring_spec
  · exact names_spec
  · exact remove_spec
  · exact mapClone_spec (enters_code Proofs.Tryz.func86 (by kernel_rfl)) (fun w => Proofs.AnyW.maps_Clone_nil Proofs.Tryz.clone86 w) (fun b es clock w h => Proofs.AnyW.maps_Clone Proofs.Tryz.clone86 b es clock w h)
  · exact mapClone_spec (enters_code Proofs.Tryz.func142 (by kernel_rfl)) (fun w => Proofs.AnyW.maps_Clone_nil Proofs.Tryz.clone142 w) (fun b es clock w h => Proofs.AnyW.maps_Clone Proofs.Tryz.clone142 b es clock w h)

noncomputable def tabD : Table := tabL Proofs.Tryz.prog specsD
theorem tabD_ok : TOk Proofs.Tryz.prog tabD := tabL_ok specsD_ok

end Go.Eng
