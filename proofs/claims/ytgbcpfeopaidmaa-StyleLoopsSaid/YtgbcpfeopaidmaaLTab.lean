/-
  The table of the sheet's functions: the code, contracts, and the law's waking as one contract.
-/
import Derived.Test.YtgbcpfeopaidmaaEngI4
import Derived.Test.YtgbcpfeopaidmaaRemoveS
set_option linter.all false
namespace Go.Eng
open Go Go.RowKit Go.Shelf

def CallSpec (P : Program) (f : FuncId) (h : List Value → St → Option (Value × St)) : Prop :=
  ∀ args σ v σ', h args σ = some (v, σ') → ∀ g w args', Rel P g σ w → LRel g args args' →
    (callFunc f ⟨args'⟩).run P w = .ok (.enter f ⟨args'⟩) w ∧ Calls P f ⟨args'⟩ w (CallPost P g σ w v σ')

theorem enters_code {P : Program} {f : FuncId} {fn : Func} (hf : P.funcs[f]? = some fn) (h : (match funC P fn with | some _ => true | none => false) = true) (w : World) (xs : Array Value) : (callFunc f xs).run P w = .ok (.enter f xs) w := by
  split at h
  · rename_i ir hir; exact callFunc_enter hf hir xs w
  · cases h

def tab (P : Program) : Table := fun f => match P.funcs[f]? with | some fn => (funC P fn).map .code | none => none

theorem tab_ok (P : Program) : TOk P (tab P) where
  code f ir h := by
    unfold tab at h
    split at h
    · rename_i fn hfn
      cases hf : funC P fn with
      | none => rw [hf] at h; simp at h
      | some ir' =>
        rw [hf] at h
        simp only [Option.map_some, Option.some.injEq, FE.code.injEq] at h
        subst h
        exact ⟨fn, hfn, hf⟩
    · simp at h
  noclone f h := by
    unfold tab at h
    split at h
    · rename_i fn hfn
      cases hf : funC P fn with
      | none => rw [hf] at h; simp at h
      | some ir' => rw [hf] at h; simp at h
    · simp at h
  spec f hh h := by
    exfalso
    unfold tab at h
    split at h
    · rename_i fn hfn
      cases hf : funC P fn with
      | none => rw [hf] at h; simp at h
      | some ir' => rw [hf] at h; simp at h
    · simp at h

def g0 : Gh := ⟨fun _ => none, fun _ => 0, fun _ => 0⟩
theorem rel0 (P : Program) (w : World) : Rel P g0 ⟨.nil, 0⟩ w := by
  have hg : ∀ i, (⟨.nil, 0⟩ : St).get i = none := fun i => Tr.get_nil i
  exact ⟨fun i o b bs h => (by rw [hg] at h; cases h), fun i j oi oj b bi bj _ h => (by rw [hg] at h; cases h), fun i b bs h => (by cases h), fun i _ => ⟨hg i, rfl⟩⟩

/-- A law whose arguments lead to no memory. -/
theorem calls_true {P : Program} {T : Table} (hT : TOk P T) (hmix : P.follows .mixedOrders = true) {f : FuncId} {n : Nat} {args args' : List Value} {ir : FIR} (hf : T f = some (.code ir)) (w : World) (ha : LRel g0 args args')
    (h : (evC T n (.fn f) args ⟨.nil, 0⟩).map Prod.fst = some (.bool true)) :
    Calls P f ⟨args'⟩ w fun e w' => e = .returned (.bool true) ∧ w'.os = w.os ∧ w'.output = w.output ∧ ∀ i, i < w.heap.size → w'.heap[i]? = w.heap[i]? := by
  cases he : evC T n (.fn f) args ⟨.nil, 0⟩ with
  | none => rw [he] at h; simp at h
  | some p =>
    obtain ⟨v, σ'⟩ := p
    rw [he] at h
    simp only [Option.map_some, Option.some.injEq] at h
    subst h
    obtain ⟨fn, hfn, hfc⟩ := hT.code f ir hf
    rcases (evC_ok hT hmix n).fn f args _ _ _ he g0 w args' (rel0 P w) ha with ⟨_, hc⟩ | ⟨_, v', w', g', hv, _⟩
    · refine hc.mono ?_
      rintro e w' ⟨v', g', rfl, hv, hG⟩
      cases hv
      refine ⟨rfl, hG.os, hG.out, fun i hi => hG.frm i hi ?_⟩
      rintro ⟨j, o, bs, hj, _⟩
      rw [show (⟨.nil, 0⟩ : St).get j = none from Tr.get_nil j] at hj
      cases hj
    · rw [callFunc_enter hfn hfc] at hv
      simp at hv

def findH : FuncId → List (FuncId × (List Value → St → Option (Value × St))) → Option (List Value → St → Option (Value × St))
  | _, [] => none
  | f, (k, h) :: l => if f = k then some h else findH f l

noncomputable def tabL (P : Program) (l : List (FuncId × (List Value → St → Option (Value × St)))) : Table := fun f => match findH f l with | some h => some (.spec h) | none => tab P f

theorem findH_mem {f : FuncId} {h : List Value → St → Option (Value × St)} : ∀ {l : List (FuncId × (List Value → St → Option (Value × St)))}, findH f l = some h → (f, h) ∈ l
  | [], e => by simp [findH] at e
  | (k, h') :: l, e => by
    simp only [findH] at e
    split at e
    · rename_i hk; simp only [Option.some.injEq] at e; subst e; subst hk; simp
    · exact List.mem_cons_of_mem _ (findH_mem e)

theorem tabL_ok {P : Program} {l : List (FuncId × (List Value → St → Option (Value × St)))} (hl : ∀ p ∈ l, CallSpec P p.1 p.2) : TOk P (tabL P l) where
  code f ir h := by
    unfold tabL at h
    split at h
    · cases h
    · exact (tab_ok P).code f ir h
  noclone f h := by
    unfold tabL at h
    split at h
    · cases h
    · exact (tab_ok P).noclone f h
  spec f hh h := by
    unfold tabL at h
    split at h
    · rename_i h' hf
      simp only [Option.some.injEq, FE.spec.injEq] at h
      subst h
      intro args σ v σ' hv g w args' hR ha
      exact .inl (hl _ (findH_mem hf) args σ v σ' hv g w args' hR ha)
    · exact (tab_ok P).spec f hh h

def specs0 : List (FuncId × (List Value → St → Option (Value × St))) := [(10, hNames), (13, hRemove)]
theorem specs0_ok : ∀ p ∈ specs0, CallSpec Proofs.Try.prog p.1 p.2 := by
  intro p hp
  simp only [specs0, List.mem_cons, List.not_mem_nil, or_false] at hp
  rcases hp with rfl | rfl
  · exact names_spec
  · exact remove_spec
noncomputable def tab0 : Table := tabL Proofs.Try.prog specs0
theorem tab0_ok : TOk Proofs.Try.prog tab0 := tabL_ok specs0_ok

/-- A closed function that answers true, whatever the heap is. -/
def hTrue : List Value → St → Option (Value × St)
  | [], σ => some (.bool true, σ)
  | _, _ => none

theorem true_spec {P : Program} {T : Table} (hT : TOk P T) (hmix : P.follows .mixedOrders = true) {f : FuncId} {ir : FIR} (hf : T f = some (.code ir)) (hp : ∃ fn, P.funcs[f]? = some fn ∧ (match funC P fn with | some _ => true | none => false) = true) {n : Nat} (h : (evC T n (.fn f) [] ⟨.nil, 0⟩).map Prod.fst = some (.bool true)) : CallSpec P f hTrue := by
  intro args σ v σ' hh g w args' hR ha
  obtain ⟨fn, hfn, hc⟩ := hp
  unfold hTrue at hh
  split at hh
  · simp only [Option.some.injEq, Prod.mk.injEq] at hh
    obtain ⟨rfl, rfl⟩ := hh
    cases ha
    refine ⟨enters_code hfn hc w _, (calls_true hT hmix hf w .nil h).mono ?_⟩
    rintro e w' ⟨rfl, ho, hp, hk⟩
    refine ⟨_, g, rfl, .bool _, grow_goes hR hk ?_ ho hp⟩
    rcases Nat.eq_zero_or_pos w.heap.size with h0 | h0
    · omega
    · have h1 := hk (w.heap.size - 1) (by omega)
      have h2 : w.heap[w.heap.size - 1]? = some (w.heap[w.heap.size - 1]'(by omega)) := Array.getElem?_eq_getElem (by omega)
      rw [h2] at h1
      have := (Array.getElem?_eq_some_iff.1 h1).1
      omega
  · cases hh

theorem tab0_code {f : FuncId} (h : (match tab0 f with | some (.code _) => true | _ => false) = true) : ∃ ir, tab0 f = some (.code ir) := by
  split at h
  · rename_i ir hir; exact ⟨ir, hir⟩
  · cases h

set_option maxRecDepth 1000000 in
theorem awake_spec : CallSpec Proofs.Try.prog 7 hTrue := by
  obtain ⟨ir, hir⟩ := tab0_code (f := 7) (by kernel_rfl)
  exact true_spec tab0_ok (by kernel_rfl) hir ⟨_, Proofs.Try.func7, by kernel_rfl⟩ (n := 80) (by kernel_rfl)

def specs1 : List (FuncId × (List Value → St → Option (Value × St))) := (7, hTrue) :: specs0
theorem specs1_ok : ∀ p ∈ specs1, CallSpec Proofs.Try.prog p.1 p.2 := by
  intro p hp
  rcases List.mem_cons.1 hp with rfl | hp
  · exact awake_spec
  · exact specs0_ok p hp
noncomputable def tab1 : Table := tabL Proofs.Try.prog specs1
theorem tab1_ok : TOk Proofs.Try.prog tab1 := tabL_ok specs1_ok

theorem tab1_code {f : FuncId} {fn : Func} {ir : FIR} (h0 : findH f specs1 = none) (hf : Proofs.Try.prog.funcs[f]? = some fn) (h : funC Proofs.Try.prog fn = some ir) : tab1 f = some (.code ir) := by
  simp only [tab1, tabL, h0, tab, hf, h, Option.map_some]

end Go.Eng
