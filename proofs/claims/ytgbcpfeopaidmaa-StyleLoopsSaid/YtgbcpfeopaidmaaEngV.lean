/-
  A region that draws its order, whole.
-/
import Derived.Test.YtgbcpfeopaidmaaEngU
set_option linter.all false
namespace Go.Eng
open Go

section
variable {P : Program} {cl : CallF} {base : Nat} {bef : List Nat} {l : List OpI} {E : Nat → Env} {T : Nat → St} {D : Nat → Did}

theorem env_run (hD : DRun cl base bef l E T D) : ∀ m, m ≤ l.length → E m = envS l (fun j => (D j).val (base + j)) (fun _ => true) (E 0) m := by
  intro m
  induction m with
  | zero => intro _; rfl
  | succ m ih =>
    intro hm
    have hml : m < l.length := by omega
    simp only [envS, if_true]
    rw [hD.env m l[m] (List.getElem?_eq_getElem hml), ih (by omega), List.getElem?_eq_getElem hml]
    rfl

theorem envS_none {V : Nat → Value} {ρ : Env} : ∀ k, envS l V (fun _ => false) ρ k = ρ
  | 0 => rfl
  | k + 1 => by simp only [envS]; rw [if_neg (by simp), envS_none k]

theorem guardA_congr {ρ ρ' : Env} {o : OpI} (h : ∀ t ∈ opT o, ρ t = ρ' t) : guardA ρ o.g = guardA ρ' o.g := by
  obtain ⟨d, g, i⟩ := o
  cases g with
  | none => rfl
  | some p =>
    obtain ⟨t, w⟩ := p
    simp only [guardA, h t (by simp [opT])]

theorem guard_no {ops : Array Oper} {o : Oper} {ρ : Env} (hg : guardA ρ (opC P ops o).g = some false) :
    (o.guard = none ∧ (opC P ops o).g = none) ∨ ∃ j want t, o.guard = some (j, want) ∧ (ops[j]?).bind (·.dst) = some t ∧ (opC P ops o).g = some (t, want) := by
  unfold opC at hg ⊢
  cases hgu : o.guard with
  | none => simp only [hgu] at hg; simp [guardA] at hg
  | some p =>
    obtain ⟨j, want⟩ := p
    simp only [hgu] at hg ⊢
    cases ht : (ops[j]?).bind (·.dst) with
    | none => simp only [ht] at hg; simp [guardA] at hg
    | some t => exact .inr ⟨j, want, t, rfl, ht, rfl⟩

theorem getD_addS {listed : Array Bool} {j : Nat} (hj : j < listed.size) : (fun m => (listed.setIfInBounds j true).getD m false) = addS (fun m => listed.getD m false) j := by
  funext m
  simp only [addS, Array.getD_eq_getD_getElem?, Array.getElem?_setIfInBounds]
  by_cases e : m = j
  · subst e; simp [hj]
  · rw [if_neg (fun q => e q.symm), if_neg e]

end

section
variable {P : Program} {cl : CallF} {ops : Array Oper} {E : Nat → Env} {T : Nat → St} {D : Nat → Did}
variable {g0 : Gh} {σ0 : St} {w0 : World} {a0 : Act} {nt : Nat} {ro : Option Nat} {n : Nat} {Q : Exit → Act → World → Prop}

theorem any_ok (hcl : ClOk P cl) (hd : dstOk nt (ops.toList.map (opC P ops)) = true) (hed : edgesOk ops.toList = true) (ht : tmpsOk (ops.toList.map (opC P ops)) (befC ops.toList) = true)
    (hD : DRun cl σ0.next (befC ops.toList) (ops.toList.map (opC P ops)) E T D)
    (hQ : ∀ a' w' g', a'.defers = a0.defers → ERel g' nt (E ops.size) a'.tmps → Goes P g0 σ0 w0 g' (T ops.size) w' → Q .normal a' w') :
    ∀ (fuel : Nat) (listed : Array Bool) (c : Nat) (g : Gh) (a : Act) (w : World), listed.size = ops.size →
      Inv0 P σ0.next (befC ops.toList) (ops.toList.map (opC P ops)) E T D g0 σ0 w0 a0 nt c (fun m => listed.getD m false) g a w →
      unex (fun m => listed.getD m false) ops.size ≤ fuel → wpAnyIn (FR ro) n P .any ops Q fuel listed a w := by
  have hlen : (ops.toList.map (opC P ops)).length = ops.size := by simp
  -- all have run
  have fin : ∀ (listed : Array Bool) (c : Nat) (g : Gh) (a : Act) (w : World), Inv0 P σ0.next (befC ops.toList) (ops.toList.map (opC P ops)) E T D g0 σ0 w0 a0 nt c (fun m => listed.getD m false) g a w →
      (∀ m, m < ops.size → listed.getD m false = true) → Q .normal a w := by
    intro listed c0 g a w h0 hall
    obtain ⟨c, h, hcs⟩ := h0.settle hD rfl _ (Nat.le_refl _)
    have hc : c = ops.size := by
      rcases Nat.lt_or_ge c ops.size with h1 | h1
      · have h2 := hcs (by rw [hlen]; exact h1)
        have h3 := h.above c (Nat.le_refl _) (by rw [hlen]; exact h1) h2
        have h4 := hall c h1
        rw [h4] at h3; cases h3
      · have := h.le; rw [hlen] at this; omega
    subst hc
    refine hQ a w g h.defs ?_ h.goes
    have he := h.env
    rw [hlen] at he
    have : envS (ops.toList.map (opC P ops)) (fun j => (D j).val (σ0.next + j)) (fun m => listed.getD m false) (E 0) ops.size = E ops.size := by
      rw [env_run hD ops.size (by rw [hlen]; exact Nat.le_refl _)]
      funext t
      exact envS_eq fun m hm _ => hall m hm
    rw [this] at he
    exact he
  intro fuel
  induction fuel with
  | zero =>
    intro listed c g a w hsz h hu
    have hall := unex_zero (Nat.le_zero.1 hu)
    refine ⟨?_, fin listed c g a w h hall⟩
    apply List.eq_nil_iff_forall_not_mem.2
    intro j hj
    obtain ⟨h1, o, ho, _⟩ := mem_ready.1 hj
    have hlt : j < ops.size := (Array.getElem?_eq_some_iff.1 ho).1
    have h2 := hall j hlt
    rw [Array.getD_eq_getD_getElem?, Array.getElem?_eq_getElem (by omega)] at h1 h2
    simp at h1 h2
    rw [h1] at h2; cases h2
  | succ fuel ih =>
    intro listed c0 g a w hsz h0 hu
    obtain ⟨c, h, hcs⟩ := h0.settle hD rfl _ (Nat.le_refl _)
    refine ⟨fun hnil => fin listed c g a w h ?_, ?_⟩
    · -- the first that hasn't run could run
      intro m
      induction m using Nat.strongRecOn with
      | _ m ihm =>
        intro hm
        cases hS : listed.getD m false with
        | true => rfl
        | false =>
          exfalso
          have : m ∈ Region.ready .any ops listed := by
            rw [mem_ready]
            refine ⟨?_, ops[m], Array.getElem?_eq_getElem hm, fun e he hb => ?_⟩
            · rw [Array.getD_eq_getD_getElem?, Array.getElem?_eq_getElem (by omega)] at hS ⊢
              simpa using hS
            · simp only [edgesOk, List.all_eq_true, List.mem_range] at hed
              have := hed m (by simpa using hm)
              have e1 : ops.toList[m]? = some ops[m] := by simp [hm]
              rw [e1] at this
              simp only [List.all_eq_true] at this
              have := this e (by simpa using he)
              rw [hb] at this
              simp at this
              exact ihm e.on this (by omega)
          rw [hnil] at this
          cases this
    · intro j hj
      obtain ⟨h1, o, ho, hed'⟩ := mem_ready.1 hj
      have hlt : j < ops.size := (Array.getElem?_eq_some_iff.1 ho).1
      have hS : listed.getD j false = false := by
        rw [Array.getD_eq_getD_getElem?, Array.getElem?_eq_getElem (by omega)] at h1 ⊢
        simpa using h1
      have hol : ops.toList[j]? = some o := by simpa using ho
      have hl : (ops.toList.map (opC P ops))[j]? = some (opC P ops o) := by simp [hol]
      have hr : ∀ e, Bit (befC ops.toList) j e → listed.getD e false = true := by
        intro e he
        obtain ⟨x, k1, k2, k3⟩ := befC_bit hol he
        have k4 := hed' x (by simpa using k1) k2
        rcases k3 with rfl | k3
        · exact k4
        · exact (h.clo x.on k4).2 e k3
      obtain ⟨r1, r2⟩ := h.reads hD ht hl hS hr
      have hdid := hD.did j _ hl
      have hdst : ∀ x, (opC P ops o).dst = some x → x < nt := by
        intro x hx
        simp only [dstOk, List.all_eq_true] at hd
        have := hd (opC P ops o) (List.mem_of_getElem? hl)
        rw [hx] at this
        simpa using this
      have hdo : (opC P ops o).dst = o.dst := opC_dst ops o
      rw [hdo] at hdst r2
      have hρ := h.env
      have goOn : ∀ {c' : Nat} {g' : Gh} {a' : Act} {w' : World}, Inv0 P σ0.next (befC ops.toList) (ops.toList.map (opC P ops)) E T D g0 σ0 w0 a0 nt c' (addS (fun m => listed.getD m false) j) g' a' w' →
          wpAnyIn (FR ro) n P .any ops Q fuel (listed.setIfInBounds j true) a' w' := by
        intro c' g' a' w' h'
        have e := getD_addS (listed := listed) (j := j) (by omega)
        refine ih (listed.setIfInBounds j true) c' g' a' w' (by simpa using hsz) ?_ ?_
        · rw [e]; exact h'
        · rw [e]
          have := unex_add (S := fun m => listed.getD m false) hS hlt
          omega
      have hi2 : ∀ t ∈ insT (opC P ops o).i, envS (ops.toList.map (opC P ops)) (fun j => (D j).val (σ0.next + j)) (fun m => listed.getD m false) (E 0) (ops.toList.map (opC P ops)).length t = E j t := fun t h => r1 t (by simp [opT, h])
      have hgA := guardA_congr (o := opC P ops o) r1
      simp only [wpOpIn, ho]
      unfold did at hdid
      split at hdid
      · cases hdid
      · -- its guard says no
        rename_i hgf
        rw [← hgA] at hgf
        have hw := guard_wanted hρ.val (guard_no hgf) hgf
        simp only [hw, Bool.false_eq_true, if_false]
        simp only [Option.some.injEq] at hdid
        refine ⟨about_any, goOn (h.val hl hS hr (by rw [← hdid]; simp) (by rw [← hdid]; rfl) (put_defers _ _ _) ?_)⟩
        rw [r2, ← hdid]
        exact hρ.put hdst (undef_rel g)
      · rename_i hgt
        rw [← hgA] at hgt
        have hbad : (opC P ops o).i ≠ .bad := by
          intro e
          rw [e] at hdid
          simp [evP, stepS_bad, evW] at hdid
        obtain ⟨hi, _, hgg⟩ := opC_ok (P := P) (ops := ops) (o := o) rfl hbad
        have hw := guard_wanted hρ.val hgg hgt
        simp only [hw, if_true]
        split at hdid
        · -- it looks at no memory
          rename_i v hv
          simp only [Option.some.injEq] at hdid
          have hs : stepS (envS (ops.toList.map (opC P ops)) (fun j => (D j).val (σ0.next + j)) (fun m => listed.getD m false) (E 0) (ops.toList.map (opC P ops)).length) (T c) (opC P ops o).i = some (.val v) := by
            unfold stepS
            rw [evP_congr (insA_congr hi2), hv]
          refine op_val hρ h.goes.rel hi hs fun v' hv' => goOn (h.val hl hS hr (by rw [← hdid]; simp) (by rw [← hdid]; rfl) (put_defers _ _ _) ?_)
          rw [r2, ← hdid]
          exact hρ.put hdst hv'
        · split at hdid
          · rename_i r hv
            simp only [Option.some.injEq] at hdid
            obtain ⟨s1, s2⟩ := h.still hD hcs hl hS hr hdid.symm hv
            unfold stillOk at s1
            rw [← stepS_congr hi2] at s1
            cases r with
            | str v s => exact (stepS_notStr hv).elim
            | val v =>
              split at s1
              · rename_i v1 v2 e1 e2
                simp only [Res.val.injEq] at e2
                have := sameV_eq _ _ s1
                subst this; subst e2
                refine op_val hρ h.goes.rel hi e1 fun v' hv' => goOn (h.val hl hS hr (by rw [← hdid]; simp) (by rw [← hdid]; rfl) (put_defers _ _ _) ?_)
                rw [r2, ← hdid]
                exact hρ.put hdst hv'
              · rename_i e1 e2; cases e2
              · cases s1
            | new x f =>
              split at s1
              · rename_i e1 e2; cases e2
              · rename_i o1 f1 o2 f2 e1 e2
                simp only [Res.new.injEq] at e2
                obtain ⟨rfl, rfl⟩ := e2
                simp only [Bool.and_eq_true] at s1
                have e3 := sameO_eq s1.1
                subst e3
                have hgn := h.nog j (by rw [hlen]; exact hlt) (.inl hS)
                refine op_new hρ h.goes.rel hi e1 hgn fun v' w' g' hm => goOn (h.new rfl hl hS hr hdid.symm ?_ hm (put_defers _ _ _) ?_)
                · refine s2.imp id fun k => ?_
                  simp only [keptOk] at k
                  split at k
                  · rename_i o' ho'; rw [ho', sameO_eq k]
                  · cases k
                · rw [r2, ← hdid]
                  have hv' := hm.val
                  rw [sameV_eq _ _ s1.2] at hv'
                  exact (hρ.mono hm.le).put hdst hv'
              · cases s1
          · -- it changes memory
            rename_i hns
            cases he : evW cl (E j) (T j) (opC P ops o).i with
            | none => rw [he] at hdid; cases hdid
            | some p =>
              obtain ⟨v, s⟩ := p
              rw [he] at hdid
              simp only [Option.map_some, Option.some.injEq] at hdid
              have hjc : j = c := by
                rcases Nat.lt_trichotomy j c with k | k | k
                · have := h.below j k (by rw [← hdid]; rfl)
                  rw [hS] at this; cases this
                · exact k
                · have hcl' : c < (ops.toList.map (opC P ops)).length := by rw [hlen]; omega
                  have hsc := hcs hcl'
                  rcases hD.pair c j _ _ k (List.getElem?_eq_getElem hcl') hl with hb | hp
                  · have k1 := h.above c (Nat.le_refl _) hcl' hsc
                    have k2 := hr c hb
                    rw [k1] at k2; cases k2
                  · cases hdc : D c with
                    | str v' s' => simp [okP, hdc, ← hdid] at hp
                    | _ => rw [hdc] at hsc; simp [Did.isStr] at hsc
              subst hjc
              have he' : evW cl (envS (ops.toList.map (opC P ops)) (fun j => (D j).val (σ0.next + j)) (fun m => listed.getD m false) (E 0) (ops.toList.map (opC P ops)).length) (T j) (opC P ops o).i = some (v, s) := by
                rw [evW_congr (insA_congr hi2)]; exact he
              refine op_str hcl hρ h.goes.rel hi he' fun v' w' g' hv' hg' => goOn (h.str hD rfl hl hr hdid.symm hg' (put_defers _ _ _) ?_)
              rw [r2, ← hdid]
              exact (hρ.mono hg'.le).put hdst hv'

theorem drawn_ok (hm : P.follows .mixedOrders = true) (hcl : ClOk P cl) {id : Nat} (hd : dstOk nt (ops.toList.map (opC P ops)) = true) (hed : edgesOk ops.toList = true) (ht : tmpsOk (ops.toList.map (opC P ops)) (befC ops.toList) = true)
    {g : Gh} {ρ : Env} {a : Act} {σ : St} {w : World} (hρ : ERel g nt ρ a.tmps) (hR : Rel P g σ w) {ρ' : Env} {σ' : St}
    (hv : evDrawn cl (ops.toList.map (opC P ops)) (befC ops.toList) ρ σ = some (ρ', σ')) (hQ : ∀ a' w' g', a'.defers = a.defers → ERel g' nt ρ' a'.tmps → Goes P g σ w g' σ' w' → Q .normal a' w') :
    (Code.region id ops true).wpIn (FR ro) n P Q a w := by
  obtain ⟨E, T, D, hD, rfl, e1, rfl, rfl⟩ := evDrawn_run hv
  have hlen : (ops.toList.map (opC P ops)).length = ops.size := by simp
  rw [hlen] at e1 hQ
  refine wpIn_region_any hm ?_
  have hdr : Goes P g σ w g σ { w with drawn := w.drawn + 1 } := Goes.drew hR rfl rfl rfl
  have hR' := hdr.rel
  refine any_ok hcl hd hed ht hD (g0 := g) (σ0 := σ) (w0 := { w with drawn := w.drawn + 1 }) (a0 := a) (fun a' w' g' k1 k2 k3 => hQ a' w' g' k1 k2 (hdr.trans k3)) ops.size (Array.replicate ops.size false) 0 g a _ (by simp) ?_ (unex_le)
  have hfalse : (fun m => (Array.replicate ops.size false).getD m false) = fun _ => false := by
    funext m
    rw [Array.getD_eq_getD_getElem?, Array.getElem?_replicate]
    split <;> rfl
  rw [hfalse]
  refine ⟨fun j hj => (by cases hj), Nat.zero_le _, fun e he => (by omega), fun _ _ _ _ => rfl, ?_, ?_, ?_, ?_, fun j x f _ _ hj => (by cases hj), ?_, ?_, rfl⟩
  · rw [e1]
    refine ⟨g.le_refl, fun _ _ => rfl, Nat.le_add_right _ _, bump_rel hR' (Nat.le_add_right _ _), Nat.le_refl _, fun _ _ _ => rfl, fun _ _ _ h => h, rfl, rfl, fun _ _ h => h⟩
  · rw [e1, hlen]; exact Nat.le_refl _
  · rw [envS_none]; exact hρ
  · intro j _ _; exact (hR.fresh _ (Nat.le_add_right _ _)).2
  · intro j k b b0 b1 _ _ _ _ h1; rw [(hR.fresh _ (Nat.le_add_right _ _)).2] at h1; cases h1
  · intro m hm' j _ _
    have : m = 0 := by omega
    subst this
    rw [e1]
    exact (hR.fresh _ (Nat.le_add_right _ _)).1

end
end Go.Eng
