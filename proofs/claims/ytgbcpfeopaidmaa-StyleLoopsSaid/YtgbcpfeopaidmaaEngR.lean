/-
  A region in the order of its text.
-/
import Derived.Test.YtgbcpfeopaidmaaEngQ
import Derived.OrdersIn
set_option linter.all false
namespace Go.Eng
open Go

section
variable {P : Program} {g : Gh} {nt : Nat} {ρ : Env} {a : Act} {σ : St} {w : World} {ro : Option Nat} {n : Nat}

theorem getD_some {α : Type} {x : Option α} {y d : α} (h : x.getD d = y) (hy : y ≠ d) : x = some y := by
  cases x with
  | none => exact absurd h.symm hy
  | some z => simp at h; rw [h]

/-- What the compiler makes of an operation. -/
theorem opC_ok {ops : Array Oper} {o : Oper} {i : Ins} (hi : (opC P ops o).i = i) (hb : i ≠ .bad) : insC P o = some i ∧ (opC P ops o).dst = o.dst ∧
    ((o.guard = none ∧ (opC P ops o).g = none) ∨ ∃ j want t, o.guard = some (j, want) ∧ (ops[j]?).bind (·.dst) = some t ∧ (opC P ops o).g = some (t, want)) := by
  unfold opC at hi ⊢
  simp only at hi ⊢
  cases hg : o.guard with
  | none =>
    simp only [hg] at hi ⊢
    exact ⟨getD_some hi hb, trivial, .inl ⟨trivial, trivial⟩⟩
  | some p =>
    obtain ⟨j, want⟩ := p
    simp only [hg] at hi ⊢
    cases ht : (ops[j]?).bind (·.dst) with
    | none =>
      simp only [ht] at hi
      exact absurd hi.symm hb
    | some t =>
      simp only [ht] at hi ⊢
      exact ⟨getD_some hi hb, trivial, .inr ⟨j, want, t, rfl, ht, rfl⟩⟩

theorem opC_dst (ops : Array Oper) (o : Oper) : (opC P ops o).dst = o.dst := by
  unfold opC
  cases o.guard with
  | none => rfl
  | some p =>
    obtain ⟨j, want⟩ := p
    simp only
    cases (ops[j]?).bind (·.dst) <;> rfl

theorem step_bad (cl : CallF) : step cl ρ σ .bad = none := by simp [step, evP, evR, evM, evW]
theorem stepS_bad : stepS ρ σ .bad = none := by simp [stepS, evP, evR, evM]

/-- The guard of an operation that the compiler took. -/
theorem guard_wanted (hρ : ∀ i, VRel g (ρ i) (a.tmps.getD i undef)) {ops : Array Oper} {o : Oper} (hg : (o.guard = none ∧ (opC P ops o).g = none) ∨ ∃ j want t, o.guard = some (j, want) ∧ (ops[j]?).bind (·.dst) = some t ∧ (opC P ops o).g = some (t, want))
    {b : Bool} (hb : guardA ρ (opC P ops o).g = some b) : Region.wanted o (yielded ops a.tmps) = b := by
  rcases hg with ⟨h1, h2⟩ | ⟨j, want, t, h1, h2, h3⟩
  · rw [h2] at hb
    simp only [guardA, Option.some.injEq] at hb
    simp [Region.wanted, h1, hb]
  · rw [h3] at hb
    simp only [guardA] at hb
    split at hb
    · rename_i c hc
      simp only [Option.some.injEq] at hb
      have hr := hρ t
      rw [hc] at hr
      have ht : a.tmps[t]? = some (.bool c) := by
        rw [Array.getD_eq_getD_getElem?] at hr
        cases ht : a.tmps[t]? with
        | none => rw [ht] at hr; cases hr
        | some v => rw [ht] at hr; simp only [Option.getD_some] at hr; cases hr; rfl
      simp only [Region.wanted, h1, yielded, h2, Option.bind_some, ht]
      subst hb
      cases c <;> cases want <;> rfl
    · rename_i xs hc
      simp only [Option.some.injEq] at hb
      subst hb
      have hr := hρ t
      rw [hc] at hr
      rw [Array.getD_eq_getD_getElem?] at hr
      simp only [Region.wanted, h1, yielded, h2, Option.bind_some]
      cases ht : a.tmps[t]? with
      | none => rfl
      | some v =>
        rw [ht] at hr
        simp only [Option.getD_some] at hr
        cases hr
        rfl
    · simp at hb

/-- If the compiler did not take an operation, its guard tells nothing. -/
theorem guard_bad {ops : Array Oper} {o : Oper} (hb : (opC P ops o).i = .bad) : True := trivial

/-- A region, run in the order of its text. -/
theorem ops_ok {cl : CallF} (hcl : ClOk P cl) {ops : Array Oper} (hd : dstOk nt (ops.toList.map (opC P ops)) = true) {Q : Exit → Act → World → Prop} : ∀ (m k : Nat) {ρ : Env} {σ : St} {g : Gh} {a : Act} {w : World} {ρ' : Env} {σ' : St},
    k + m = ops.size → ERel g nt ρ a.tmps → Rel P g σ w → evOps cl ((ops.toList.map (opC P ops)).drop k) ρ σ = some (ρ', σ') →
    (∀ a' w' g', a'.defers = a.defers → ERel g' nt ρ' a'.tmps → Goes P g σ w g' σ' w' → Q .normal a' w') → wpOpsIn (FR ro) n P ops Q (List.range' k m) a w
  | 0, k, ρ, σ, g, a, w, ρ', σ', hk, hρ, hR, hv, hQ => by
    have : (ops.toList.map (opC P ops)).drop k = [] := by
      apply List.drop_of_length_le; simp; omega
    rw [this] at hv
    simp only [evOps, Option.some.injEq, Prod.mk.injEq] at hv
    obtain ⟨rfl, rfl⟩ := hv
    exact hQ a w g rfl hρ (Goes.refl hR)
  | m + 1, k, ρ, σ, g, a, w, ρ', σ', hk, hρ, hR, hv, hQ => by
    have hlt : k < ops.size := by omega
    have hdrop : (ops.toList.map (opC P ops)).drop k = opC P ops ops[k] :: (ops.toList.map (opC P ops)).drop (k + 1) := by
      rw [List.drop_eq_getElem_cons (by simpa using hlt)]
      simp
    rw [hdrop] at hv
    have ho : ops[k]? = some ops[k] := Array.getElem?_eq_getElem hlt
    have hdst : ∀ x, (opC P ops ops[k]).dst = some x → x < nt := by
      intro x hx
      simp only [dstOk, List.all_eq_true] at hd
      have := hd (opC P ops ops[k]) (List.mem_map.2 ⟨ops[k], by simp, rfl⟩)
      rw [hx] at this
      simpa using this
    rw [opC_dst] at hdst
    simp only [List.range'_succ]
    simp only [wpOpsIn, ho]
    simp only [evOps] at hv
    by_cases hbad : (opC P ops ops[k]).i = .bad
    · -- only a guard that says no lets it by
      cases hg : guardA ρ (opC P ops ops[k]).g with
      | none => simp [hg] at hv
      | some b =>
        cases b with
        | true => simp [hg, hbad, step_bad] at hv
        | false =>
          simp only [hg] at hv
          have hgg : (ops[k].guard = none ∧ (opC P ops ops[k]).g = none) ∨ ∃ j want t, ops[k].guard = some (j, want) ∧ (ops[j]?).bind (·.dst) = some t ∧ (opC P ops ops[k]).g = some (t, want) := by
            unfold opC at hg ⊢
            cases hgu : ops[k].guard with
            | none => simp only [hgu] at hg; simp [guardA] at hg
            | some p =>
              obtain ⟨j, want⟩ := p
              simp only [hgu] at hg ⊢
              cases ht : (ops[j]?).bind (·.dst) with
              | none => simp only [ht] at hg; simp [guardA] at hg
              | some t => exact .inr ⟨j, want, t, rfl, ht, rfl⟩
          have hw := guard_wanted hρ.val hgg hg
          simp only [hw, Bool.false_eq_true, if_false]
          refine ⟨about_any, ?_⟩
          rw [opC_dst] at hv
          refine ops_ok hcl hd m (k + 1) (by omega) (hρ.put hdst (undef_rel g)) hR hv ?_
          intro a' w' g' h1 h2 h3
          exact hQ a' w' g' (by rw [h1, put_defers]) h2 h3
    · obtain ⟨hi, _, hgg⟩ := opC_ok (P := P) rfl hbad
      cases hg : guardA ρ (opC P ops ops[k]).g with
      | none => simp [hg] at hv
      | some b =>
        have hw := guard_wanted hρ.val hgg hg
        cases b with
        | false =>
          simp only [hg] at hv
          simp only [hw, Bool.false_eq_true, if_false]
          refine ⟨about_any, ?_⟩
          rw [opC_dst] at hv
          refine ops_ok hcl hd m (k + 1) (by omega) (hρ.put hdst (undef_rel g)) hR hv ?_
          intro a' w' g' h1 h2 h3
          exact hQ a' w' g' (by rw [h1, put_defers]) h2 h3
        | true =>
          simp only [hg] at hv
          simp only [hw, if_true]
          rw [step_eq] at hv
          rw [opC_dst] at hv
          have go : ∀ v' v w' g' σ1, VRel g' v v' → Goes P g σ w g' σ1 w' → evOps cl ((ops.toList.map (opC P ops)).drop (k + 1)) (ρ.upd ops[k].dst v) σ1 = some (ρ', σ') → wpOpsIn (FR ro) n P ops Q (List.range' (k + 1) m) (a.put ops[k].dst v') w' := by
            intro v' v w' g' σ1 h1 h2 h3
            refine ops_ok hcl hd m (k + 1) (by omega) ((hρ.mono h2.le).put hdst h1) h2.rel h3 ?_
            intro a' w'' g'' h4 h5 h6
            exact hQ a' w'' g'' (by rw [h4, put_defers]) h5 (h2.trans h6)
          cases hs : stepS ρ σ (opC P ops ops[k]).i with
          | some r =>
            rw [hs] at hv
            cases r with
            | val v =>
              simp only at hv
              exact op_val hρ hR hi hs fun v' h => go v' v w g σ h (Goes.refl hR) hv
            | new x f =>
              simp only at hv
              exact op_new hρ hR hi hs (hR.fresh σ.next (Nat.le_refl _)).2 fun v' w' g' h => go v' _ w' g' _ h.val (new_goes hR h) hv
            | str v s =>
              exfalso
              unfold stepS at hs
              split at hs
              · simp at hs
              · split at hs
                · simp at hs
                · split at hs <;> simp at hs
          | none =>
            rw [hs] at hv
            cases he : evW cl ρ σ (opC P ops ops[k]).i with
            | none => simp [he] at hv
            | some p =>
              obtain ⟨v, σ1⟩ := p
              simp only [he, Option.map_some] at hv
              exact op_str hcl hρ hR hi he fun v' w' g' h1 h2 => go v' v w' g' σ1 h1 h2 hv

/-- A region whose order is its text's. -/
theorem region_ok {cl : CallF} (hcl : ClOk P cl) {id : Nat} {ops : Array Oper} (hd : dstOk nt (ops.toList.map (opC P ops)) = true) (hρ : ERel g nt ρ a.tmps) (hR : Rel P g σ w) {ρ' : Env} {σ' : St}
    (hv : evOps cl (ops.toList.map (opC P ops)) ρ σ = some (ρ', σ')) {Q : Exit → Act → World → Prop} (hQ : ∀ a' w' g', a'.defers = a.defers → ERel g' nt ρ' a'.tmps → Goes P g σ w g' σ' w' → Q .normal a' w') :
    (Code.region id ops false).wpIn (FR ro) n P Q a w := by
  refine wpIn_region ?_
  rw [List.range_eq_range']
  exact ops_ok hcl hd ops.size 0 (by omega) hρ hR (by simpa using hv) hQ

end
end Go.Eng
