/-
  Symbolic evaluation: regions that draw their order, maps, and heaps that only grow.
-/
import Derived.Test.YtgbcpfeopaidmaaEngI4
set_option linter.all false
namespace Go.Eng
open Go

/-- Nothing that was there is changed. -/
structure Keep (σ σ' : St) : Prop where
  nx : σ.next ≤ σ'.next
  get : ∀ i, i < σ.next → σ'.get i = σ.get i

theorem Keep.refl (σ : St) : Keep σ σ := ⟨Nat.le_refl _, fun _ _ => rfl⟩
theorem Keep.trans {a b c : St} (h : Keep a b) (k : Keep b c) : Keep a c := ⟨Nat.le_trans h.nx k.nx, fun i hi => (k.get i (Nat.lt_of_lt_of_le hi h.nx)).trans (h.get i hi)⟩
theorem Keep.new (σ : St) (x : AObj) : Keep σ { σ.put σ.next (some x) with next := σ.next + 1 } := ⟨Nat.le_succ _, fun i hi => (St.get_put σ σ.next i _).trans (if_neg (by omega))⟩
theorem Keep.bump (σ : St) (n : Nat) : Keep σ { σ with next := σ.next + n } := ⟨Nat.le_add_right _ _, fun _ _ => rfl⟩
theorem Keep.store {σ σ' : St} (h : Keep σ σ') {k : Nat} (hk : σ.next ≤ k) (x : Option AObj) : Keep σ (σ'.put k x) := ⟨h.nx, fun i hi => (St.get_put σ' k i _).trans ((if_neg (by omega)).trans (h.get i hi))⟩
theorem new_get (σ : St) (x : AObj) : ({ σ.put σ.next (some x) with next := σ.next + 1 } : St).get σ.next = some x := (St.get_put σ σ.next σ.next _).trans (if_pos rfl)
theorem put_get (σ : St) (k : Nat) (x : Option AObj) : (σ.put k x).get k = x := (St.get_put σ k k _).trans (if_pos rfl)

/-- Nothing that was there is changed but one thing. -/
structure KeepBut (r : Nat) (σ σ' : St) : Prop where
  nx : σ.next ≤ σ'.next
  get : ∀ i, i < σ.next → i ≠ r → σ'.get i = σ.get i
theorem Keep.but {σ σ' : St} (h : Keep σ σ') (r : Nat) : KeepBut r σ σ' := ⟨h.nx, fun i hi _ => h.get i hi⟩
theorem KeepBut.trans {r : Nat} {a b c : St} (h : KeepBut r a b) (k : KeepBut r b c) : KeepBut r a c := ⟨Nat.le_trans h.nx k.nx, fun i hi hr => (k.get i (Nat.lt_of_lt_of_le hi h.nx) hr).trans (h.get i hi hr)⟩
theorem KeepBut.put (σ : St) (r : Nat) (x : Option AObj) : KeepBut r σ (σ.put r x) := ⟨Nat.le_refl _, fun i _ hr => (St.get_put σ r i _).trans (if_neg hr)⟩

theorem rowOf_of {σ : St} {k e c : Nat} {o r : Bool} {cs : List Value} (h : σ.get k = some (.row cs e o r c)) : rowOf σ k = some cs := by simp only [rowOf, h]
theorem mapOf_of {σ : St} {k : Nat} {es : List (Value × Value)} (h : σ.get k = some (.map es)) : mapOf σ k = some es := by simp only [mapOf, h]

section
variable {T : Table} {inr : Bool}

/-! Regions that draw their order. -/
structure Wr (T : Table) (base j : Nat) (l : List OpI) (ρ : Env) (σ : St) (K : List Rec → Env → St → Prop) : Prop where
  of ::
  out : ∃ rs ρ' σ', runD (clT T) base j l ρ σ = some (rs, ρ', σ') ∧ K rs ρ' σ'

theorem wp_drawn {l : List OpI} {bef : List Nat} {ρ : Env} {σ : St} {Q : Ex → Env → St → Prop} (h : Wr T σ.next 0 l ρ { σ with next := σ.next + l.length } fun rs ρ' σ' => chkD σ.next bef 0 rs [] = true ∧ Q .normal ρ' σ') : Wp T inr (.drawn l bef) ρ σ Q := by
  obtain ⟨rs, ρ', σ', h1, h2, h3⟩ := h.out
  refine ⟨_, ρ', σ', EvS.drawn (q := (ρ', σ')) ?_, h3⟩
  unfold evDrawn
  rw [h1]
  simp only [h2, if_true]
theorem wr_nil {base j : Nat} {ρ : Env} {σ : St} {K : List Rec → Env → St → Prop} (h : K [] ρ σ) : Wr T base j [] ρ σ K := ⟨[], ρ, σ, rfl, h⟩
theorem wr_did {base j : Nat} {o : OpI} {l : List OpI} {ρ : Env} {σ : St} {K : List Rec → Env → St → Prop} (d : Did) (hd : did (clT T) ρ σ o = some d) (h : Wr T base (j + 1) l (ρ.upd o.dst (d.val (base + j))) (d.after (base + j) σ) fun rs => K (⟨ρ, σ, o.i, d⟩ :: rs)) : Wr T base j (o :: l) ρ σ K := by
  obtain ⟨rs, ρ', σ', h1, h2⟩ := h.out
  exact ⟨_, ρ', σ', by simp only [runD, hd]; rw [h1], h2⟩
theorem wr_pure {base j : Nat} {d : Option Nat} {g : Option (Nat × Bool)} {i : Ins} {l : List OpI} {ρ : Env} {σ : St} {K : List Rec → Env → St → Prop} (v : Value) (hg : guardA ρ g = some true) (hv : evP ρ i = some v) (h : Wr T base (j + 1) l (ρ.upd d v) σ fun rs => K (⟨ρ, σ, i, .pure v⟩ :: rs)) : Wr T base j (⟨d, g, i⟩ :: l) ρ σ K :=
  wr_did (.pure v) (by simp only [did, hg, hv]) h
theorem wr_read {base j : Nat} {d : Option Nat} {g : Option (Nat × Bool)} {i : Ins} {l : List OpI} {ρ : Env} {σ : St} {K : List Rec → Env → St → Prop} (v : Value) (hg : guardA ρ g = some true) (hp : evP ρ i = none) (hv : stepS ρ σ i = some (.val v)) (h : Wr T base (j + 1) l (ρ.upd d v) σ fun rs => K (⟨ρ, σ, i, .weak (.val v)⟩ :: rs)) : Wr T base j (⟨d, g, i⟩ :: l) ρ σ K :=
  wr_did (.weak (.val v)) (by simp only [did, hg, hp, hv]) h
theorem wr_str {base j : Nat} {d : Option Nat} {g : Option (Nat × Bool)} {i : Ins} {l : List OpI} {ρ : Env} {σ σ' : St} {K : List Rec → Env → St → Prop} (v : Value) (hg : guardA ρ g = some true) (hp : evP ρ i = none) (hs : stepS ρ σ i = none) (hv : evW (clT T) ρ σ i = some (v, σ')) (h : Wr T base (j + 1) l (ρ.upd d v) σ' fun rs => K (⟨ρ, σ, i, .str v σ'⟩ :: rs)) : Wr T base j (⟨d, g, i⟩ :: l) ρ σ K :=
  wr_did (.str v σ') (by simp only [did, hg, hp, hs, hv, Option.map_some]) h
end
end Go.Eng
