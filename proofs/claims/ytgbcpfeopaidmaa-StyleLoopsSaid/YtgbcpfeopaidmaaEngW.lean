/-
  Statements.
-/
import Derived.Test.YtgbcpfeopaidmaaEngV
import Derived.RangeFuncRecord
import Derived.LoopNIn
import Derived.Scope
set_option linter.all false
namespace Go.Eng
open Go

def exX : Ex → Exit
  | .normal => .normal
  | .exit i => .exit i
  | .ret => .ret

section
variable {P : Program}

theorem Goes.ext {g g' : Gh} {σ σ' σ'' : St} {w w' : World} (h : Goes P g σ w g' σ' w') (hn : σ''.next = σ'.next) (hg : ∀ i, σ''.get i = σ'.get i) : Goes P g σ w g' σ'' w' where
  le := h.le
  old := h.old
  nx := by rw [hn]; exact h.nx
  rel := h.rel.ext hn hg
  size := h.size
  frm := h.frm
  own := by
    rintro r b hb ⟨i, o, bs, h1, h2, h3⟩
    exact h.own r b hb ⟨i, o, bs, by rw [← hg]; exact h1, h2, h3⟩
  os := h.os
  out := h.out
  dead i hi hn := by rw [hg]; exact h.dead i hi hn

/-- A block that nobody knows of. -/
theorem push_goes {g : Gh} {σ : St} {w w' : World} (h : Rel P g σ w) (ob : Obj) (hh : w'.heap = w.heap.push ob) (ho : w'.os = w.os) (hp : w'.output = w.output) : Goes P g σ w g σ w' := by
  have hget : ∀ b, b < w.heap.size → w'.heap[b]? = w.heap[b]? := by
    intro b hb
    rw [hh, Array.getElem?_push, if_neg (by omega)]
  refine ⟨g.le_refl, fun _ _ => rfl, Nat.le_refl _, ⟨?_, h.sep, ?_, h.fresh⟩, by rw [hh]; simp, fun b hb _ => hget b hb, fun _ _ _ h => h, ho, hp, fun _ _ h => h⟩
  · intro i o b bs h1 h2
    rw [hget b (h.lt _ _ _ h2)]
    exact h.obj _ _ _ _ h1 h2
  · intro i b bs hb
    have := h.lt _ _ _ hb
    rw [hh]; simp; omega

/-- An object that is left, its block turned. -/
theorem kill_goes {g : Gh} {σ : St} {w w' : World} (h : Rel P g σ w) {i b base : Nat} {o : AObj} (hi : σ.get i = some o) (hro : o.ro = false) (hb : g.blk i = some (b, base)) (ob : Obj) (hh : w'.heap = w.heap.setIfInBounds b ob) (ho : w'.os = w.os) (hp : w'.output = w.output) :
    Goes P g σ w g (σ.put i none) w' := by
  have hd := drop_goes h i
  have hin : σ.get i ≠ none := by rw [hi]; simp
  have hget : ∀ k, k ≠ b → w'.heap[k]? = w.heap[k]? := by
    intro k hk
    rw [hh, Array.getElem?_setIfInBounds_ne (Ne.symm hk)]
  have hsz : w'.heap.size = w.heap.size := by rw [hh]; simp
  refine ⟨g.le_refl, fun _ _ => rfl, Nat.le_refl _, ⟨?_, hd.rel.sep, ?_, hd.rel.fresh⟩, by rw [hsz]; exact Nat.le_refl _, ?_, hd.own, ho, hp, hd.dead⟩
  · intro j oj bj bs h1 h2
    rw [hget bj ?_]
    · exact hd.rel.obj _ _ _ _ h1 h2
    · intro e
      subst e
      rw [St.get_put] at h1
      split at h1
      · cases h1
      · rename_i hne
        have := h.sep i j _ _ _ _ _ (Ne.symm hne) hi h1 hb h2
        rw [hro] at this; simp at this
  · intro j bj bs h1; rw [hsz]; exact h.lt _ _ _ h1
  · intro k hk hn
    refine hget k fun e => hn ?_
    subst e
    exact ⟨i, o, base, hi, hro, hb⟩

/-- The marks that loops over functions leave among the deferred calls. -/
def MarksOk (m : Nat) (g : Gh) (σ : St) (w : World) (ds : List Deferred) : Prop :=
  ds.Pairwise (fun d d' => d.target ≠ d'.target) ∧ ∀ d ∈ ds, ∃ r, d.target = .collected r ∧ m ≤ r ∧ r < w.heap.size ∧ w.heap[r]? = some (.deferred (some [])) ∧ ∀ q, ¬ OwnR q g σ r

theorem MarksOk.goes {m : Nat} {g g' : Gh} {σ σ' : St} {w w' : World} {ds : List Deferred} (h : MarksOk m g σ w ds) (k : Goes P g σ w g' σ' w') : MarksOk m g' σ' w' ds := by
  refine ⟨h.1, fun d hd => ?_⟩
  obtain ⟨r, h1, h2, h3, h4, h5⟩ := h.2 d hd
  refine ⟨r, h1, h2, Nat.lt_of_lt_of_le h3 k.size, ?_, fun q ho => h5 q (k.own q r h3 ho)⟩
  rw [k.frm r h3 (h5 false)]; exact h4

theorem stepR_scope' {b : Frame} {a : Act} {k : List Item} {cs : List Frame} {w : World} {c : Code} : Go.step P (lone (b.atR a (.code (.scope c) :: k)) cs w) = .next (lone (b.atR a (.code c :: .inScope c :: k)) cs w) :=
  step_lone_go (by simp [stepG, stepG.exec, Frame.atR])
theorem stepR_inScope' {b : Frame} {a : Act} {k : List Item} {cs : List Frame} {w : World} {c : Code} : Go.step P (lone (b.atR a (.inScope c :: k)) cs w) = .next (lone (b.atR a k) cs w) :=
  step_lone_go (by simp [stepG, stepG.exec, Frame.atR])

theorem wpIn_scope' {F : Fence} {n : Nat} {Q : Exit → Act → World → Prop} {a : Act} {w : World} {c : Code} (h : c.wpIn F n P (Exit.noGoto Q) a w) : (Code.scope c).wpIn F n P Q a w := by
  intro b k cs hro hb hr
  have h0 : (lone (b.atR a (.code (.scope c) :: k)) cs w).fenced P F := fenced_calm hb hr rfl
  obtain ⟨e, a₁, w₁, hq, harr⟩ := h b (.inScope c :: k) cs hro hb hr
  cases e with
  | normal => exact ⟨.normal, a₁, w₁, hq, .head h0 stepR_scope' (StepsIn.trans harr (.one (fenced_calm hb hr rfl) stepR_inScope'))⟩
  | exit id =>
    have hx : exitTo id (.inScope c :: k) = exitTo id k := by simp [exitTo]
    exact ⟨_, a₁, w₁, hq, fun k' hk => .head h0 stepR_scope' (harr.1 k' (by rw [hx]; exact hk)),
      fun hr' hk => let ⟨k₁, h1, h2⟩ := harr.2 hr' (by rw [hx]; exact hk); ⟨k₁, h1, .head h0 stepR_scope' h2⟩⟩
  | goto l => exact hq.elim
  | ret => exact ⟨_, a₁, w₁, hq, .of_steps (.one h0 stepR_scope') harr⟩
  | panic ch => exact ⟨_, a₁, w₁, hq, .of_steps (.one h0 stepR_scope') harr⟩
  | outgrown => exact ⟨_, a₁, w₁, hq, .of_steps (.one h0 stepR_scope') harr⟩

variable {cl : CallF} {N nt n m : Nat} {ro : Option Nat}

/-- What a statement of the interpreter's asks of the model's. -/
def Says (P : Program) (cl : CallF) (N nt n m : Nat) (ro : Option Nat) (c : Code) : Prop :=
  ∀ (ρ : Env) (σ : St) (e : Ex) (ρ' : Env) (σ' : St) (g : Gh) (a : Act) (w : World) (Q : Exit → Act → World → Prop), evS cl N ro.isSome (stC P nt c) ρ σ = some (e, ρ', σ') → ERel g nt ρ a.tmps → Rel P g σ w → MarksOk m g σ w a.defers → m ≤ w.heap.size →
    (∀ a' w' g', ERel g' nt ρ' a'.tmps → Goes P g σ w g' σ' w' → MarksOk m g' σ' w' a'.defers → Q (exX e) a' w') → c.wpIn (FR ro) n P Q a w

theorem says_loop {c : Code} (ih : Says P cl N nt n m ro c) : ∀ (k : Nat) {ρ : Env} {σ : St} {e : Ex} {ρ' : Env} {σ' : St} {g : Gh} {a : Act} {w : World} {Q : Exit → Act → World → Prop}, loopN (evS cl N ro.isSome (stC P nt c)) k ρ σ = some (e, ρ', σ') → ERel g nt ρ a.tmps → Rel P g σ w → MarksOk m g σ w a.defers → m ≤ w.heap.size →
    (∀ a' w' g', ERel g' nt ρ' a'.tmps → Goes P g σ w g' σ' w' → MarksOk m g' σ' w' a'.defers → Q (exX e) a' w') → Code.roundsIn (FR ro) n P c Q k a w
  | 0, _, _, _, _, _, _, _, _, _, hv, _, _, _, _, _ => by simp [loopN] at hv
  | k + 1, ρ, σ, e, ρ', σ', g, a, w, Q, hv, hρ, hR, hM, hm, hQ => by
    rw [roundsIn_succ]
    simp only [loopN] at hv
    cases hb : evS cl N ro.isSome (stC P nt c) ρ σ with
    | none => rw [hb] at hv; simp at hv
    | some p =>
      obtain ⟨e1, ρ1, σ1⟩ := p
      rw [hb] at hv
      refine ih _ _ _ _ _ _ _ _ _ hb hρ hR hM hm fun a' w' g' h1 h2 h3 => ?_
      cases e1 with
      | normal =>
        simp only at hv
        exact says_loop ih k hv h1 h2.rel h3 (Nat.le_trans hm h2.size) fun a2 w2 g2 k1 k2 k3 => hQ a2 w2 g2 k1 (h2.trans k2) k3
      | exit id =>
        simp only [Option.some.injEq, Prod.mk.injEq] at hv
        obtain ⟨rfl, rfl, rfl⟩ := hv
        exact hQ a' w' g' h1 h2 h3
      | ret =>
        simp only [Option.some.injEq, Prod.mk.injEq] at hv
        obtain ⟨rfl, rfl, rfl⟩ := hv
        exact hQ a' w' g' h1 h2 h3

theorem says_rangef (hcl : ClOk P cl) {f : Operand} {ps : Array Tmp} {asn bd : Code} : Says P cl N nt n m none (.rangeFunc f ps asn bd) := by
  intro ρ σ e ρ' σ' g a w Q hv hρ hR hM hm hQ
  simp only [stC] at hv
  split at hv
  · rename_i x hx
    split at hv
    · rename_i hps
      simp only [evS, Option.isSome_none, Bool.false_eq_true, if_false] at hv
      have hfv := arg_ok hρ hx
      split at hv
      · rename_i k first cap hget
        rw [hget] at hfv
        generalize hfe : a.eval f = fw at hfv
        cases hfv with
        | fn hfx hfy =>
          rename_i xs ys xs' ys'
          simp only at hv
          refine wpIn_rangeFunc fun fn _ => ?_
          -- the two blocks
          have G1 : Goes P g σ w g σ (w.alloc (.deferred (some []))) := push_goes hR _ rfl rfl rfl
          let L : Loop := { state := .ready, pending := none, fn, tmps := a.tmps, params := ps, assign := asn, body := bd, defers := w.heap.size }
          let w1 : World := (w.alloc (.deferred (some []))).alloc (.loop L)
          have hsz : (w.alloc (.deferred (some []))).heap.size = w.heap.size + 1 := Array.size_push _
          have hfr := hR.fresh σ.next (Nat.le_refl _)
          have hle := Gh.le_ext hfr.2 (w.heap.size + 1) 0 0
          have hM1 : Makes P g (w.alloc (.deferred (some []))) w1 σ.next (.loop .ready none ρ ps.toList (stC P nt asn) (stC P nt bd)) (.func (.yield σ.next) #[] #[]) (.func (.yield (w.heap.size + 1)) #[] #[]) (g.ext σ.next (w.heap.size + 1) 0 0) (w.heap.size + 1) := by
            refine ⟨hle, fun j hj => by simp [Gh.ext, hj], Gh.ext_blk _ _ _ _ _, hsz.symm, ⟨.loop L, rfl, rfl, L, nt, rfl, rfl, trivial, rfl, ?_, rfl, rfl, hρ.mono hle⟩, .yield (Gh.ext_blk _ _ _ _ _), rfl, rfl⟩
            intro p hp
            rw [List.all_eq_true] at hps
            simpa using hps p hp
          have G2 := G1.trans (new_goes G1.rel hM1)
          split at hv
          · cases hv
          · rename_i v2 σ2 hcall
            have hargs : LRel (g.ext σ.next (w.heap.size + 1) 0 0) (xs ++ [.func (.yield σ.next) #[] #[]] ++ ys) (xs' ++ [.func (.yield (w.heap.size + 1)) #[] #[]] ++ ys') :=
              ((hfx.mono hle).append (.cons hM1.val .nil)).append (hfy.mono hle)
            rcases hcl.fn k _ _ _ _ hcall _ _ _ G2.rel hargs with ⟨e1, e2⟩ | ⟨hif, _⟩
            · have hmark : (w1.heap)[w.heap.size]? = some (.deferred (some [])) := by
                show ((w.heap.push (.deferred (some []))).push (.loop L))[w.heap.size]? = _
                rw [Array.getElem?_push, if_neg (by simp), Array.getElem?_push, if_pos rfl]
              refine ⟨w.heap.size + 1, [{ target := .collected w.heap.size, args := #[] }], w1, { target := .fn (.func k) ⟨ys'⟩, args := ⟨xs'⟩ ++ #[.func (.yield (w.heap.size + 1)) #[] #[]] }, w1, k, ⟨xs' ++ [.func (.yield (w.heap.size + 1)) #[] #[]] ++ ys'⟩, w1, run_enterLoop_outer fn a.tmps ps asn bd, ?_, fun _ _ => trivial, ?_, fun h => by simp [FR, Fence.wide] at h, ?_⟩
              · simp only [resolve, hfe, Deferred.ofValue, Sem.run_pure]
                rw [show Array.map a.eval #[Operand.const (Value.func (Fn.yield (w.heap.size + 1)) #[] #[])] = #[Value.func (Fn.yield (w.heap.size + 1)) #[] #[]] from by simp [Act.eval]]
              · simp only [invoke]
                have : ((⟨xs'⟩ : Array Value) ++ #[.func (.yield (w.heap.size + 1)) #[] #[]] ++ (⟨ys'⟩ : Array Value)) = ⟨xs' ++ [.func (.yield (w.heap.size + 1)) #[] #[]] ++ ys'⟩ := by
                  apply Array.ext'; simp
                rw [this]; exact e1
              · refine CallsIn.mono (callsIn_FR e2) ?_
                rintro en w3 ⟨v3, g2, rfl, hv3, G3⟩
                have hsm : Goes P g σ w g2 σ2 w3 := G2.trans G3
                split at hv
                · rename_i st pend ρ0 ps0 asn0 bd0 hg2
                  split at hv
                  · cases hv
                  · rename_i hst
                    have hblk : g2.blk σ.next = some (w.heap.size + 1, 0) := (G3.le _ _ (Gh.ext_blk _ _ _ _ _)).1
                    obtain ⟨_, L2, nt2, q1, q2, q3, _⟩ := hsm.rel.obj _ _ _ _ hg2 hblk
                    have hend := run_endLoop (P := P) q1 (by rw [q2]; exact hst)
                    have G4 : Goes P g2 σ2 w3 g2 (σ2.put σ.next none) (w3.putObj (w.heap.size + 1) (.loop { L2 with state := .exhausted })) := kill_goes hsm.rel hg2 rfl hblk _ rfl rfl rfl
                    have G5 := hsm.trans G4
                    have hm0 : MarksOk m g σ w1 [{ target := .collected w.heap.size, args := #[] }] := by
                      refine ⟨by simp, fun d hd => ?_⟩
                      simp only [List.mem_singleton] at hd
                      subst hd
                      refine ⟨w.heap.size, rfl, hm, by show w.heap.size < ((w.heap.push _).push _).size; simp; omega, hmark, ?_⟩
                      rintro q ⟨i, o, bs, _, _, h3⟩
                      have := hR.lt _ _ _ h3
                      omega
                    have hm1 : MarksOk m (g.ext σ.next (w.heap.size + 1) 0 0) { σ.put σ.next (some (.loop .ready none ρ ps.toList (stC P nt asn) (stC P nt bd))) with next := σ.next + 1 } w1 [{ target := .collected w.heap.size, args := #[] }] := by
                      refine ⟨hm0.1, fun d hd => ?_⟩
                      obtain ⟨r, k1, k2, k3, k4, k5⟩ := hm0.2 d hd
                      refine ⟨r, k1, k2, k3, k4, ?_⟩
                      rintro q ⟨i, o, bs, h1, h2, h3⟩
                      simp only [List.mem_singleton] at hd
                      subst hd
                      simp only [Target.collected.injEq] at k1
                      subst k1
                      by_cases hi : i = σ.next
                      · subst hi; rw [Gh.ext_blk] at h3; simp at h3
                      · have h3' : g.blk i = some (w.heap.size, bs) := by simpa [Gh.ext, hi] using h3
                        have := hR.lt _ _ _ h3'
                        omega
                    have hm2 := (hm1.goes G3).goes G4
                    have hm3 := hM.goes G5
                    have hmm : MarksOk m g2 (σ2.put σ.next none) (w3.putObj (w.heap.size + 1) (.loop { L2 with state := .exhausted })) ([{ target := .collected w.heap.size, args := #[] }] ++ a.defers) := by
                      refine ⟨List.pairwise_append.2 ⟨hm2.1, hm3.1, ?_⟩, fun d hd => ?_⟩
                      · intro d hd d' hd'
                        simp only [List.mem_singleton] at hd
                        subst hd
                        obtain ⟨r, k1, _, k3, _⟩ := hM.2 d' hd'
                        rw [k1]
                        intro e
                        simp only [Target.collected.injEq] at e
                        omega
                      · rcases List.mem_append.1 hd with h | h
                        · exact hm2.2 d h
                        · exact hm3.2 d h
                    have hρ' : ERel g2 nt ρ a.tmps := hρ.mono G5.le
                    clear hm2 hm3 G4
                    generalize w3.putObj (w.heap.size + 1) (.loop { L2 with state := .exhausted }) = w4 at hend G5 hmm
                    refine ⟨_, _, hend, ?_⟩
                    cases pend with
                    | none =>
                      simp only [Option.some.injEq, Prod.mk.injEq] at hv
                      obtain ⟨rfl, rfl, rfl⟩ := hv
                      cases hp : L2.pending with
                      | some c => rw [hp] at q3; exact q3.elim
                      | none => exact hQ _ _ _ hρ' G5 hmm
                    | some e1 =>
                      simp only [Option.some.injEq, Prod.mk.injEq] at hv
                      obtain ⟨rfl, rfl, rfl⟩ := hv
                      cases hp : L2.pending with
                      | none => rw [hp] at q3; cases e1 <;> exact q3.elim
                      | some c =>
                        rw [hp] at q3
                        cases e1 with
                        | normal => exact q3.elim
                        | exit i =>
                          cases c <;> try exact q3.elim
                          rename_i j
                          have q3' : i = j := q3
                          subst q3'
                          exact wpIn_exit (hQ _ _ _ hρ' G5 hmm)
                        | ret =>
                          cases c <;> try exact q3.elim
                          exact wpIn_ret (hQ _ _ _ hρ' G5 hmm)
                · cases hv
            · obtain ⟨t, u, h⟩ := hif (.func (.yield σ.next) #[] #[]) (by simp)
              cases h
      · cases hv
    · simp [evS] at hv
  · simp [evS] at hv

theorem evS_ok (hcl : ClOk P cl) (hmix : P.follows .mixedOrders = true) : ∀ (c : Code), Says P cl N nt n m ro c
  | .skip => by
    intro ρ σ e ρ' σ' g a w Q hv hρ hR hM hm hQ
    simp only [stC, evS, Option.some.injEq, Prod.mk.injEq] at hv
    obtain ⟨rfl, rfl, rfl⟩ := hv
    exact wpIn_skip (hQ a w g hρ (Goes.refl hR) hM)
  | .label l => by
    intro ρ σ e ρ' σ' g a w Q hv hρ hR hM hm hQ
    simp only [stC, evS, Option.some.injEq, Prod.mk.injEq] at hv
    obtain ⟨rfl, rfl, rfl⟩ := hv
    exact wpIn_label (hQ a w g hρ (Goes.refl hR) hM)
  | .exit i => by
    intro ρ σ e ρ' σ' g a w Q hv hρ hR hM hm hQ
    simp only [stC, evS, Option.some.injEq, Prod.mk.injEq] at hv
    obtain ⟨rfl, rfl, rfl⟩ := hv
    exact wpIn_exit (hQ a w g hρ (Goes.refl hR) hM)
  | .ret => by
    intro ρ σ e ρ' σ' g a w Q hv hρ hR hM hm hQ
    simp only [stC, evS, Option.some.injEq, Prod.mk.injEq] at hv
    obtain ⟨rfl, rfl, rfl⟩ := hv
    exact wpIn_ret (hQ a w g hρ (Goes.refl hR) hM)
  | .seq x y => by
    intro ρ σ e ρ' σ' g a w Q hv hρ hR hM hm hQ
    simp only [stC, evS] at hv
    refine wpIn_seq ?_
    cases hb : evS cl N ro.isSome (stC P nt x) ρ σ with
    | none => rw [hb] at hv; simp at hv
    | some p =>
      obtain ⟨e1, ρ1, σ1⟩ := p
      rw [hb] at hv
      refine evS_ok hcl hmix x _ _ _ _ _ _ _ _ _ hb hρ hR hM hm fun a' w' g' h1 h2 h3 => ?_
      cases e1 with
      | normal =>
        simp only at hv
        exact evS_ok hcl hmix y _ _ _ _ _ _ _ _ _ hv h1 h2.rel h3 (Nat.le_trans hm h2.size) fun a2 w2 g2 k1 k2 k3 => hQ a2 w2 g2 k1 (h2.trans k2) k3
      | exit id =>
        simp only [Option.some.injEq, Prod.mk.injEq] at hv
        obtain ⟨rfl, rfl, rfl⟩ := hv
        exact hQ a' w' g' h1 h2 h3
      | ret =>
        simp only [Option.some.injEq, Prod.mk.injEq] at hv
        obtain ⟨rfl, rfl, rfl⟩ := hv
        exact hQ a' w' g' h1 h2 h3
  | .cond c x y => by
    intro ρ σ e ρ' σ' g a w Q hv hρ hR hM hm hQ
    simp only [stC] at hv
    split at hv
    · rename_i cx hc
      simp only [evS] at hv
      have hr := arg_ok hρ hc
      split at hv
      · rename_i hg
        rw [hg] at hr
        generalize hce : a.eval c = cv at hr
        cases hr
        refine wpIn_cond hce ?_
        exact evS_ok hcl hmix x _ _ _ _ _ _ _ _ _ hv hρ hR hM hm hQ
      · rename_i hg
        rw [hg] at hr
        generalize hce : a.eval c = cv at hr
        cases hr
        refine wpIn_cond hce ?_
        exact evS_ok hcl hmix y _ _ _ _ _ _ _ _ _ hv hρ hR hM hm hQ
      · cases hv
    · simp [evS] at hv
  | .block id x => by
    intro ρ σ e ρ' σ' g a w Q hv hρ hR hM hm hQ
    simp only [stC, evS] at hv
    refine wpIn_block ?_
    cases hb : evS cl N ro.isSome (stC P nt x) ρ σ with
    | none => rw [hb] at hv; simp at hv
    | some p =>
      obtain ⟨e1, ρ1, σ1⟩ := p
      rw [hb] at hv
      refine evS_ok hcl hmix x _ _ _ _ _ _ _ _ _ hb hρ hR hM hm fun a' w' g' h1 h2 h3 => ?_
      cases e1 with
      | normal =>
        simp only [Option.some.injEq, Prod.mk.injEq] at hv
        obtain ⟨rfl, rfl, rfl⟩ := hv
        exact hQ a' w' g' h1 h2 h3
      | exit k =>
        simp only at hv
        split at hv
        · rename_i hk
          simp only [Option.some.injEq, Prod.mk.injEq] at hv
          obtain ⟨rfl, rfl, rfl⟩ := hv
          simp only [exX, Exit.inBlock, hk, if_true]
          exact hQ a' w' g' h1 h2 h3
        · rename_i hk
          simp only [Option.some.injEq, Prod.mk.injEq] at hv
          obtain ⟨rfl, rfl, rfl⟩ := hv
          simp only [exX, Exit.inBlock, hk, if_false]
          exact hQ a' w' g' h1 h2 h3
      | ret =>
        simp only [Option.some.injEq, Prod.mk.injEq] at hv
        obtain ⟨rfl, rfl, rfl⟩ := hv
        exact hQ a' w' g' h1 h2 h3
  | .loop x => by
    intro ρ σ e ρ' σ' g a w Q hv hρ hR hM hm hQ
    simp only [stC, evS] at hv
    exact wpIn_loop_rounds N (says_loop (evS_ok hcl hmix x) N hv hρ hR hM hm hQ)
  | .scope x => by
    intro ρ σ e ρ' σ' g a w Q hv hρ hR hM hm hQ
    simp only [stC, evS] at hv
    refine wpIn_scope' (evS_ok hcl hmix x _ _ _ _ _ _ _ _ _ hv hρ hR hM hm fun a' w' g' h1 h2 h3 => ?_)
    have := hQ a' w' g' h1 h2 h3
    cases e <;> exact this
  | .region id ops false => by
    intro ρ σ e ρ' σ' g a w Q hv hρ hR hM hm hQ
    simp only [stC] at hv
    split at hv
    · rename_i hd
      simp only [evS] at hv
      cases hb : evOps cl (ops.toList.map (opC P ops)) ρ σ with
      | none => rw [hb] at hv; simp at hv
      | some p =>
        obtain ⟨ρ1, σ1⟩ := p
        rw [hb] at hv
        simp only [Option.map_some, Option.some.injEq, Prod.mk.injEq] at hv
        obtain ⟨rfl, rfl, rfl⟩ := hv
        exact region_ok hcl hd hρ hR hb fun a' w' g' h1 h2 h3 => hQ a' w' g' h2 h3 (by rw [h1]; exact hM.goes h3)
    · simp [evS] at hv
  | .region id ops true => by
    intro ρ σ e ρ' σ' g a w Q hv hρ hR hM hm hQ
    simp only [stC] at hv
    split at hv
    · rename_i hd
      simp only [Bool.and_eq_true] at hd
      simp only [evS] at hv
      cases hb : evDrawn cl (ops.toList.map (opC P ops)) (befC ops.toList) ρ σ with
      | none => rw [hb] at hv; simp at hv
      | some p =>
        obtain ⟨ρ1, σ1⟩ := p
        rw [hb] at hv
        simp only [Option.map_some, Option.some.injEq, Prod.mk.injEq] at hv
        obtain ⟨rfl, rfl, rfl⟩ := hv
        exact drawn_ok hmix hcl hd.1.1 hd.1.2 hd.2 hρ hR hb fun a' w' g' h1 h2 h3 => hQ a' w' g' h2 h3 (by rw [h1]; exact hM.goes h3)
    · simp [evS] at hv
  | .rangeFunc f ps asn bd => by
    cases ro with
    | none => exact says_rangef hcl
    | some l =>
      intro ρ σ e ρ' σ' g a w Q hv hρ hR hM hm hQ
      simp only [stC] at hv
      split at hv
      · split at hv <;> simp [evS] at hv
      · simp [evS] at hv
  | .goto l => by
    intro ρ σ e ρ' σ' g a w Q hv hρ hR hM hm hQ
    simp [stC, evS] at hv
  | .refuse s => by
    intro ρ σ e ρ' σ' g a w Q hv hρ hR hM hm hQ
    simp [stC, evS] at hv

end
end Go.Eng
