/-
  The interpreter without a bound: what it answers at some bound.
-/
import Derived.Test.YtgbcpfeopaidmaaEngX
set_option linter.all false
namespace Go.Eng
open Go

def CallF.le (a b : CallF) : Prop := ∀ c args σ r, a c args σ = some r → b c args σ = some r
theorem CallF.le_refl (a : CallF) : a.le a := fun _ _ _ _ h => h
theorem CallF.le_trans {a b c : CallF} (h : a.le b) (k : b.le c) : a.le c := fun _ _ _ _ e => k _ _ _ _ (h _ _ _ _ e)

section
variable {a b : CallF} (h : a.le b)
include h

theorem evW_le {ρ : Env} {σ : St} {i : Ins} {r : Value × St} (e : evW a ρ σ i = some r) : evW b ρ σ i = some r := by
  cases i <;> simp only [evW] at e ⊢ <;> try (exact e)
  case call => exact h _ _ _ _ e
  case callv =>
    split at e
    · exact h _ _ _ _ e
    · split at e
      · rename_i hc; rw [if_pos hc]; exact h _ _ _ _ e
      · cases e
    · cases e

theorem evOps_le : ∀ {l : List OpI} {ρ : Env} {σ : St} {r : Env × St}, evOps a l ρ σ = some r → evOps b l ρ σ = some r
  | [], _, _, _, e => e
  | o :: os, ρ, σ, r, e => by
    simp only [evOps, step_eq] at e ⊢
    split at e
    · cases e
    · rename_i hg; exact evOps_le e
    · rename_i hg
      cases hs : stepS ρ σ o.i with
      | some x =>
        rw [hs] at e
        simp only at e ⊢
        cases x with
        | val v => exact evOps_le e
        | new x f => exact evOps_le e
        | str v s => exact evOps_le e
      | none =>
        rw [hs] at e
        simp only at e ⊢
        cases hw : evW a ρ σ o.i with
        | none => rw [hw] at e; cases e
        | some p =>
          rw [hw] at e
          rw [evW_le h hw]
          exact evOps_le e

theorem did_le {ρ : Env} {σ : St} {o : OpI} {d : Did} (e : did a ρ σ o = some d) : did b ρ σ o = some d := by
  simp only [did] at e ⊢
  split at e
  · cases e
  · exact e
  · split at e
    · exact e
    · split at e
      · exact e
      · cases hw : evW a ρ σ o.i with
        | none => rw [hw] at e; cases e
        | some p => rw [hw] at e; rw [evW_le h hw]; exact e

theorem runD_le {base : Nat} : ∀ {l : List OpI} {j : Nat} {ρ : Env} {σ : St} {r : List Rec × Env × St}, runD a base j l ρ σ = some r → runD b base j l ρ σ = some r
  | [], _, _, _, _, e => e
  | o :: os, j, ρ, σ, r, e => by
    simp only [runD] at e ⊢
    split at e
    · cases e
    · rename_i d hd
      rw [did_le h hd]
      simp only
      split at e
      · cases e
      · rename_i hr; rw [runD_le hr]; exact e

theorem evDrawn_le {l : List OpI} {bef : List Nat} {ρ : Env} {σ : St} {r : Env × St} (e : evDrawn a l bef ρ σ = some r) : evDrawn b l bef ρ σ = some r := by
  simp only [evDrawn] at e ⊢
  split at e
  · cases e
  · rename_i hr; rw [runD_le h hr]; exact e

theorem loopN_le {f g : Env → St → Option (Ex × Env × St)} (hfg : ∀ ρ σ r, f ρ σ = some r → g ρ σ = some r) : ∀ {n m : Nat}, n ≤ m → ∀ {ρ : Env} {σ : St} {r : Ex × Env × St}, loopN f n ρ σ = some r → loopN g m ρ σ = some r
  | 0, _, _, _, _, _, e => by simp [loopN] at e
  | n + 1, 0, hn, _, _, _, _ => by omega
  | n + 1, m + 1, hn, ρ, σ, r, e => by
    simp only [loopN] at e ⊢
    cases hf : f ρ σ with
    | none => rw [hf] at e; simp at e
    | some p =>
      rw [hf] at e
      rw [hfg _ _ _ hf]
      obtain ⟨x, ρ', σ'⟩ := p
      cases x with
      | normal => exact loopN_le hfg (by omega) e
      | exit i => exact e
      | ret => exact e

theorem evS_le : ∀ (s : Stmt) {n m : Nat} {inr : Bool} {ρ : Env} {σ : St} {r : Ex × Env × St}, n ≤ m → evS a n inr s ρ σ = some r → evS b m inr s ρ σ = some r
  | .skip, _, _, _, _, _, _, _, e => by simpa only [evS] using e
  | .exit _, _, _, _, _, _, _, _, e => by simpa only [evS] using e
  | .ret, _, _, _, _, _, _, _, e => by simpa only [evS] using e
  | .bad, _, _, _, _, _, _, _, e => by simp [evS] at e
  | .seq x y, n, m, inr, ρ, σ, r, hn, e => by
    simp only [evS] at e ⊢
    cases hx : evS a n inr x ρ σ with
    | none => rw [hx] at e; simp at e
    | some p =>
      rw [hx] at e
      rw [evS_le x hn hx]
      obtain ⟨k, ρ', σ'⟩ := p
      cases k with
      | normal => exact evS_le y hn e
      | exit i => exact e
      | ret => exact e
  | .ite c x y, n, m, inr, ρ, σ, r, hn, e => by
    simp only [evS] at e ⊢
    split at e
    · exact evS_le x hn e
    · exact evS_le y hn e
    · cases e
  | .block id x, n, m, inr, ρ, σ, r, hn, e => by
    simp only [evS] at e ⊢
    cases hx : evS a n inr x ρ σ with
    | none => rw [hx] at e; simp at e
    | some p => rw [hx] at e; rw [evS_le x hn hx]; exact e
  | .loop x, n, m, inr, ρ, σ, r, hn, e => by
    simp only [evS] at e ⊢
    exact loopN_le h (fun ρ σ r e => evS_le x hn e) hn e
  | .scope x, n, m, inr, ρ, σ, r, hn, e => by
    simp only [evS] at e ⊢
    exact evS_le x hn e
  | .ops l, n, m, inr, ρ, σ, r, hn, e => by
    simp only [evS] at e ⊢
    cases hx : evOps a l ρ σ with
    | none => rw [hx] at e; simp at e
    | some p => rw [hx] at e; rw [evOps_le h hx]; exact e
  | .drawn l bef, n, m, inr, ρ, σ, r, hn, e => by
    simp only [evS] at e ⊢
    cases hx : evDrawn a l bef ρ σ with
    | none => rw [hx] at e; simp at e
    | some p => rw [hx] at e; rw [evDrawn_le h hx]; exact e
  | .rangef f ps x y, n, m, inr, ρ, σ, r, hn, e => by
    simp only [evS] at e ⊢
    split at e
    · cases e
    · rename_i hinr
      rw [if_neg hinr]
      split at e
      · rename_i k first cap hf
        cases hc : a (.fn k) (first.toList ++ [.func (.yield σ.next) #[] #[]] ++ cap.toList) { σ.put σ.next (some (.loop .ready none ρ ps x y)) with next := σ.next + 1 } with
        | none => rw [hc] at e; simp at e
        | some p => rw [hc] at e; rw [h _ _ _ _ hc]; exact e
      · cases e

end

theorem evC_succ {T : Table} : ∀ n, (evC T n).le (evC T (n + 1))
  | 0 => fun c args σ r e => by simp [evC] at e
  | n + 1 => by
    have ih := evC_succ (T := T) n
    have st : ∀ (s : Stmt) {inr : Bool} {ρ : Env} {σ : St} {r : Ex × Env × St}, evS (evC T n) n inr s ρ σ = some r → evS (evC T (n + 1)) (n + 1) inr s ρ σ = some r := fun s => evS_le ih s (Nat.le_succ n)
    intro c args σ r e
    cases c with
    | fn f =>
      unfold evC at e ⊢
      split at e
      · split at e
        · rename_i hl
          rw [if_pos hl]
          rename_i ir _
          cases hs : evS (evC T n) n false ir.body (initEnv args) σ with
          | none => rw [hs] at e; simp at e
          | some p => rw [hs] at e; rw [st _ hs]; exact e
        · cases e
      · exact e
      · exact e
      · cases e
    | yield l =>
      unfold evC at e ⊢
      split at e
      · split at e
        · rename_i hl
          rw [if_pos hl]
          rename_i pend ρ ps asn bd _
          cases hs : evS (evC T n) n true asn (bindPs ρ ps args) σ with
          | none => rw [hs] at e; simp at e
          | some p =>
            rw [hs] at e
            rw [st _ hs]
            obtain ⟨x, ρ1, σ1⟩ := p
            cases x with
            | exit i => simp at e
            | ret => simp at e
            | normal =>
              simp only at e ⊢
              split at e
              · rename_i pend1 ρ2 ps2 asn2 bd2 _
                cases hs2 : evS (evC T n) n true bd ρ1 (σ1.put l (some (.loop .busy pend1 ρ2 ps2 asn2 bd2))) with
                | none => rw [hs2] at e; simp at e
                | some p2 => rw [hs2] at e; rw [st _ hs2]; exact e
              · cases e
        · cases e
      · cases e

theorem evC_le {T : Table} {n m : Nat} (h : n ≤ m) : (evC T n).le (evC T m) := by
  induction h with
  | refl => exact CallF.le_refl _
  | step _ ih => exact CallF.le_trans ih (evC_succ _)

open Classical in
/-- What is answered at some bound. -/
noncomputable def clT (T : Table) : CallF := fun c args σ => if h : ∃ r n, evC T n c args σ = some r then some (Classical.choose h) else none

theorem clT_of {T : Table} {n : Nat} {c : Callee} {args : List Value} {σ : St} {r : Value × St} (h : evC T n c args σ = some r) : clT T c args σ = some r := by
  have hx : ∃ r n, evC T n c args σ = some r := ⟨r, n, h⟩
  unfold clT
  rw [dif_pos hx]
  obtain ⟨m, hm⟩ := Classical.choose_spec hx
  have h1 := evC_le (T := T) (Nat.le_max_left n m) _ _ _ _ h
  have h2 := evC_le (T := T) (Nat.le_max_right n m) _ _ _ _ hm
  rw [h1] at h2
  exact h2.symm

theorem of_clT {T : Table} {c : Callee} {args : List Value} {σ : St} {r : Value × St} (h : clT T c args σ = some r) : ∃ n, evC T n c args σ = some r := by
  unfold clT at h
  split at h
  · rename_i hx
    obtain ⟨m, hm⟩ := Classical.choose_spec hx
    simp only [Option.some.injEq] at h
    rw [h] at hm
    exact ⟨m, hm⟩
  · cases h

theorem clT_ok {P : Program} {T : Table} (hT : TOk P T) (hmix : P.follows .mixedOrders = true) : ClOk P (clT T) := by
  constructor
  · intro f args σ v σ' h
    obtain ⟨n, hn⟩ := of_clT h
    exact (evC_ok hT hmix n).fn f args σ v σ' hn
  · intro l args σ v σ' h
    obtain ⟨n, hn⟩ := of_clT h
    exact (evC_ok hT hmix n).yield l args σ v σ' hn

/-! What is answered without a bound is answered within one. -/
section
variable {T : Table}

theorem evW_lim {ρ : Env} {σ : St} {i : Ins} {r : Value × St} (e : evW (clT T) ρ σ i = some r) : ∃ n, evW (evC T n) ρ σ i = some r := by
  cases i <;> simp only [evW] at e ⊢ <;> try (exact ⟨0, e⟩)
  case call => exact of_clT e
  case callv =>
    split at e
    · rename_i hf; exact of_clT e
    · rename_i hf
      split at e
      · rename_i hc; simp only [if_pos hc]; exact of_clT e
      · cases e
    · cases e

theorem evOps_lim : ∀ {l : List OpI} {ρ : Env} {σ : St} {r : Env × St}, evOps (clT T) l ρ σ = some r → ∃ n, evOps (evC T n) l ρ σ = some r
  | [], _, _, _, e => ⟨0, e⟩
  | o :: os, ρ, σ, r, e => by
    simp only [evOps, step_eq] at e ⊢
    split at e
    · cases e
    · exact evOps_lim e
    · cases hs : stepS ρ σ o.i with
      | some x =>
        rw [hs] at e
        simp only at e ⊢
        cases x with
        | val v => exact evOps_lim e
        | new x f => exact evOps_lim e
        | str v s => exact evOps_lim e
      | none =>
        rw [hs] at e
        simp only at e ⊢
        cases hw : evW (clT T) ρ σ o.i with
        | none => rw [hw] at e; cases e
        | some p =>
          rw [hw] at e
          obtain ⟨n, hn⟩ := evW_lim hw
          obtain ⟨m, hm⟩ := evOps_lim (l := os) e
          refine ⟨max n m, ?_⟩
          rw [evW_le (evC_le (Nat.le_max_left n m)) hn]
          exact evOps_le (evC_le (Nat.le_max_right n m)) hm

theorem did_lim {ρ : Env} {σ : St} {o : OpI} {d : Did} (e : did (clT T) ρ σ o = some d) : ∃ n, did (evC T n) ρ σ o = some d := by
  simp only [did] at e ⊢
  split at e
  · cases e
  · exact ⟨0, e⟩
  · split at e
    · exact ⟨0, e⟩
    · split at e
      · exact ⟨0, e⟩
      · cases hw : evW (clT T) ρ σ o.i with
        | none => rw [hw] at e; cases e
        | some p =>
          rw [hw] at e
          obtain ⟨n, hn⟩ := evW_lim hw
          exact ⟨n, by rw [hn]; exact e⟩

theorem runD_lim {base : Nat} : ∀ {l : List OpI} {j : Nat} {ρ : Env} {σ : St} {r : List Rec × Env × St}, runD (clT T) base j l ρ σ = some r → ∃ n, runD (evC T n) base j l ρ σ = some r
  | [], _, _, _, _, e => ⟨0, e⟩
  | o :: os, j, ρ, σ, r, e => by
    simp only [runD] at e
    split at e
    · cases e
    · rename_i d hd
      split at e
      · cases e
      · rename_i rs ρ' σ' hr
        obtain ⟨n, hn⟩ := did_lim hd
        obtain ⟨m, hm⟩ := runD_lim hr
        refine ⟨max n m, ?_⟩
        simp only [runD]
        rw [did_le (evC_le (Nat.le_max_left n m)) hn]
        simp only
        rw [runD_le (evC_le (Nat.le_max_right n m)) hm]
        exact e

/-- A statement, without a bound: at some bound. -/
def EvS (T : Table) (inr : Bool) (s : Stmt) (ρ : Env) (σ : St) (r : Ex × Env × St) : Prop := ∃ n, evS (evC T n) n inr s ρ σ = some r

theorem EvS.at {inr : Bool} {s : Stmt} {ρ : Env} {σ : St} {r : Ex × Env × St} {n m : Nat} (h : evS (evC T n) n inr s ρ σ = some r) (hm : n ≤ m) : evS (evC T m) m inr s ρ σ = some r := evS_le (evC_le hm) s hm h

theorem EvS.skip {inr : Bool} {ρ : Env} {σ : St} : EvS T inr .skip ρ σ (.normal, ρ, σ) := ⟨0, rfl⟩
theorem EvS.exit {inr : Bool} {ρ : Env} {σ : St} {i : Nat} : EvS T inr (.exit i) ρ σ (.exit i, ρ, σ) := ⟨0, rfl⟩
theorem EvS.ret {inr : Bool} {ρ : Env} {σ : St} : EvS T inr .ret ρ σ (.ret, ρ, σ) := ⟨0, rfl⟩
theorem EvS.seq {inr : Bool} {x y : Stmt} {ρ ρ1 : Env} {σ σ1 : St} {r : Ex × Env × St} (h1 : EvS T inr x ρ σ (.normal, ρ1, σ1)) (h2 : EvS T inr y ρ1 σ1 r) : EvS T inr (.seq x y) ρ σ r := by
  obtain ⟨n, hn⟩ := h1
  obtain ⟨m, hm⟩ := h2
  refine ⟨max n m, ?_⟩
  simp only [evS]
  rw [EvS.at hn (Nat.le_max_left n m)]
  exact EvS.at hm (Nat.le_max_right n m)
theorem EvS.seq_out {inr : Bool} {x y : Stmt} {ρ : Env} {σ : St} {e : Ex} {q : Env × St} (h1 : EvS T inr x ρ σ (e, q)) (he : e ≠ .normal) : EvS T inr (.seq x y) ρ σ (e, q) := by
  obtain ⟨n, hn⟩ := h1
  refine ⟨n, ?_⟩
  simp only [evS]
  rw [hn]
  cases e with
  | normal => exact absurd rfl he
  | exit => rfl
  | ret => rfl
theorem EvS.ite {inr : Bool} {c : Arg} {x y : Stmt} {ρ : Env} {σ : St} {r : Ex × Env × St} {t : Bool} (hc : c.get ρ = .bool t) (h : EvS T inr (if t then x else y) ρ σ r) : EvS T inr (.ite c x y) ρ σ r := by
  obtain ⟨n, hn⟩ := h
  refine ⟨n, ?_⟩
  simp only [evS, hc]
  cases t <;> simpa using hn
theorem EvS.block {inr : Bool} {id : Nat} {x : Stmt} {ρ : Env} {σ : St} {e : Ex} {q : Env × St} (h : EvS T inr x ρ σ (e, q)) : EvS T inr (.block id x) ρ σ (if e = .exit id then .normal else e, q) := by
  obtain ⟨n, hn⟩ := h
  refine ⟨n, ?_⟩
  simp only [evS, hn]
  cases e with
  | normal => simp
  | ret => simp
  | exit k =>
    by_cases hk : k = id
    · simp [hk]
    · simp [hk]
theorem EvS.scope {inr : Bool} {x : Stmt} {ρ : Env} {σ : St} {r : Ex × Env × St} (h : EvS T inr x ρ σ r) : EvS T inr (.scope x) ρ σ r := h
theorem EvS.ops {inr : Bool} {l : List OpI} {ρ : Env} {σ : St} {q : Env × St} (h : evOps (clT T) l ρ σ = some q) : EvS T inr (.ops l) ρ σ (.normal, q) := by
  obtain ⟨n, hn⟩ := evOps_lim h
  exact ⟨n, by simp only [evS, hn, Option.map_some]⟩
theorem EvS.drawn {inr : Bool} {l : List OpI} {bef : List Nat} {ρ : Env} {σ : St} {q : Env × St} (h : evDrawn (clT T) l bef ρ σ = some q) : EvS T inr (.drawn l bef) ρ σ (.normal, q) := by
  unfold evDrawn at h
  split at h
  · cases h
  · rename_i hr
    obtain ⟨n, hn⟩ := runD_lim hr
    refine ⟨n, ?_⟩
    simp only [evS, evDrawn, hn]
    split at h
    · rename_i hc
      rw [if_pos hc]
      simp only [Option.some.injEq] at h
      simp [h]
    · cases h

/-- A loop's last round. -/
theorem EvS.loop_out {inr : Bool} {x : Stmt} {ρ : Env} {σ : St} {e : Ex} {q : Env × St} (h : EvS T inr x ρ σ (e, q)) (he : e ≠ .normal) : EvS T inr (.loop x) ρ σ (e, q) := by
  obtain ⟨n, hn⟩ := h
  refine ⟨n + 1, ?_⟩
  simp only [evS, loopN]
  rw [EvS.at hn (Nat.le_succ n)]
  cases e with
  | normal => exact absurd rfl he
  | exit => rfl
  | ret => rfl
/-- A loop's round, and the rest. -/
theorem EvS.loop_more {inr : Bool} {x : Stmt} {ρ ρ1 : Env} {σ σ1 : St} {r : Ex × Env × St} (h : EvS T inr x ρ σ (.normal, ρ1, σ1)) (k : EvS T inr (.loop x) ρ1 σ1 r) : EvS T inr (.loop x) ρ σ r := by
  obtain ⟨n, hn⟩ := h
  obtain ⟨m, hm⟩ := k
  have h1 : evS (evC T (max n m + 1)) (max n m + 1) inr x ρ σ = some (.normal, ρ1, σ1) := EvS.at hn (by omega)
  refine ⟨max n m + 1, ?_⟩
  simp only [evS] at hm ⊢
  simp only [loopN]
  rw [h1]
  exact loopN_le (evC_le (T := T) (Nat.le_refl 0)) (fun ρ σ r e => evS_le (evC_le (by omega)) x (by omega) e) (by omega) hm

theorem EvS.rangef {ρ : Env} {σ σ2 : St} {f : Arg} {ps : List Nat} {x y : Stmt} {k : FuncId} {first cap : Array Value} {u : Value} {st : LoopState} {pend : Option Ex} {ρ0 : Env} {ps0 : List Nat} {x0 y0 : Stmt} (hf : f.get ρ = .func (.func k) first cap)
    (hc : clT T (.fn k) (first.toList ++ [.func (.yield σ.next) #[] #[]] ++ cap.toList) { σ.put σ.next (some (.loop .ready none ρ ps x y)) with next := σ.next + 1 } = some (u, σ2))
    (hg : σ2.get σ.next = some (.loop st pend ρ0 ps0 x0 y0)) (hst : st ≠ .busy) : EvS T false (.rangef f ps x y) ρ σ (pend.getD .normal, ρ, σ2.put σ.next none) := by
  obtain ⟨n, hn⟩ := of_clT hc
  refine ⟨n, ?_⟩
  simp only [evS, hf, Bool.false_eq_true, if_false]
  simp only [hn, hg, hst, if_false]
  cases pend <;> rfl

/-- A function. -/
theorem clT_code {f : FuncId} {ir : FIR} (hT : T f = some (.code ir)) {args : List Value} {σ σ' : St} {ρ : Env} {e : Ex} (hl : args.length = ir.np) (h : EvS T false ir.body (initEnv args) σ (e, ρ, σ')) (he : ∀ i, e ≠ .exit i) {vs : List Value} (hr : resA ρ σ' ir.res = some vs) :
    clT T (.fn f) args σ = some (tupA vs, σ') := by
  obtain ⟨n, hn⟩ := h
  refine clT_of (n := n + 1) ?_
  unfold evC
  simp only [hT, hl, if_true, hn]
  cases e with
  | exit i => exact absurd rfl (he i)
  | normal => simp [hr]
  | ret => simp [hr]

theorem clT_spec {f : FuncId} {h : List Value → St → Option (Value × St)} (hT : T f = some (.spec h)) {args : List Value} {σ : St} {r : Value × St} (hr : h args σ = some r) : clT T (.fn f) args σ = some r :=
  clT_of (n := 1) (by simp only [evC, hT]; exact hr)

/-- A round of a loop over a function. -/
theorem clT_yield {l : Nat} {args : List Value} {σ σ1 σ2 : St} {ρ ρ1 ρ2 ρ3 ρ4 : Env} {pend pend1 pend2 : Option Ex} {ps ps2 ps3 : List Nat} {asn bd asn2 bd2 asn3 bd3 : Stmt} {e : Ex} (hl : σ.get l = some (.loop .ready pend ρ ps asn bd)) (hn : args.length = ps.length)
    (h1 : EvS T true asn (bindPs ρ ps args) σ (.normal, ρ1, σ1)) (h2 : σ1.get l = some (.loop .ready pend1 ρ2 ps2 asn2 bd2)) (h3 : EvS T true bd ρ1 (σ1.put l (some (.loop .busy pend1 ρ2 ps2 asn2 bd2))) (e, ρ3, σ2))
    (h4 : σ2.get l = some (.loop .busy pend2 ρ4 ps3 asn3 bd3)) :
    clT T (.yield l) args σ = some (.bool (decide (e = .normal)), σ2.put l (some (match e with | .normal => .loop .ready none ρ4 ps3 asn3 bd3 | e => .loop .done (some e) ρ4 ps3 asn3 bd3))) := by
  obtain ⟨n, hn1⟩ := h1
  obtain ⟨m, hm⟩ := h3
  refine clT_of (n := max n m + 1) ?_
  unfold evC
  simp only [hl, hn, if_true, EvS.at hn1 (Nat.le_max_left n m), h2, EvS.at hm (Nat.le_max_right n m), h4]
  cases e <;> simp

end
end Go.Eng
