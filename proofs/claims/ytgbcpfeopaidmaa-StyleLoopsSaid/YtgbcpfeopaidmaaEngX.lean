/-
  Functions: whatever the interpreter says of a call, the model's call does.
-/
import Derived.Test.YtgbcpfeopaidmaaEngW
set_option linter.all false
namespace Go.Eng
open Go

section
variable {P : Program}

/-- What the table of functions is to be. -/
structure TOk (P : Program) (T : Table) : Prop where
  code : ∀ f ir, T f = some (.code ir) → ∃ fn, P.funcs[f]? = some fn ∧ funC P fn = some ir
  noclone : ∀ f, T f ≠ some .mapsClone
  spec : ∀ f h, T f = some (.spec h) → ∀ args σ v σ', h args σ = some (v, σ') → ∀ g w args', Rel P g σ w → LRel g args args' →
    ((callFunc f ⟨args'⟩).run P w = .ok (.enter f ⟨args'⟩) w ∧ Calls P f ⟨args'⟩ w (CallPost P g σ w v σ')) ∨
    ((∀ x ∈ args, ∃ t u, x = .iface t u) ∧ ∃ v' w' g', (callFunc f ⟨args'⟩).run P w = .ok (.value v') w' ∧ VRel g' v v' ∧ Goes P g σ w g' σ' w')

/-! Results. -/
def resF (tmps : Array Value) : ResultVar → Sem Value
  | .tmp t => pure (tmps.getD t undef)
  | .cell a t => do loadVar t (← asAddr (tmps.getD a undef))

theorem results_resF (fn : Func) (tmps : Array Value) : results fn tmps = (do let vs ← fn.results.mapM (resF tmps); pure (if h : vs.size = 1 then vs[0] else .tuple vs)) := rfl

theorem res_list {g : Gh} {nt : Nat} {ρ : Env} {tmps : Array Value} {σ : St} {w : World} (hρ : ERel g nt ρ tmps) (hR : Rel P g σ w) : ∀ {rs : List ResultVar} {ir : List (Nat × Option (Option Nat))} {vs : List Value},
    resC P rs = some ir → resA ρ σ ir = some vs → ∃ vs', (rs.mapM (resF tmps)).run P w = .ok vs' w ∧ LRel g vs vs'
  | [], ir, vs, h1, h2 => by
    simp only [resC, Option.some.injEq] at h1; subst h1
    simp only [resA, Option.some.injEq] at h2; subst h2
    exact ⟨[], by simp, .nil⟩
  | .tmp t :: rs, ir, vs, h1, h2 => by
    simp only [resC] at h1
    cases hc : resC P rs with
    | none => rw [hc] at h1; simp at h1
    | some ir' =>
      rw [hc] at h1
      simp only [Option.map_some, Option.some.injEq] at h1; subst h1
      simp only [resA] at h2
      cases ha : resA ρ σ ir' with
      | none => rw [ha] at h2; simp at h2
      | some vs1 =>
        rw [ha] at h2
        simp only [Option.map_some, Option.some.injEq] at h2; subst h2
        obtain ⟨vs', e1, e2⟩ := res_list hρ hR hc ha
        refine ⟨tmps.getD t undef :: vs', ?_, .cons (hρ.val t) e2⟩
        simp only [List.mapM_cons, resF, Sem.run_bind, Sem.run_pure, Result.andThen_ok, e1]
  | .cell x t :: rs, ir, vs, h1, h2 => by
    simp only [resC] at h1
    split at h1
    · rename_i gg ir' hgg hc
      simp only [Option.some.injEq] at h1; subst h1
      simp only [resA] at h2
      split at h2
      · rename_i v hv
        cases ha : resA ρ σ ir' with
        | none => rw [ha] at h2; simp at h2
        | some vs1 =>
          rw [ha] at h2
          simp only [Option.map_some, Option.some.injEq] at h2; subst h2
          obtain ⟨vs', e1, e2⟩ := res_list hρ hR hc ha
          simp only [evR, Arg.get] at hv
          split at hv
          · rename_i ad had
            split at hv
            · rename_i hsp
              split at hv
              · rename_i cs hcs
                have hx := hρ.val x
                rw [had] at hx
                generalize hxe : tmps.getD x undef = xv at hx
                cases hx with
                | ptr hb =>
                  obtain ⟨v', k1, k2⟩ := load_ok (P := P) hR hgg hb hcs hv
                  refine ⟨v' :: vs', ?_, .cons k2 e2⟩
                  simp only [List.mapM_cons, resF, hxe, asAddr, Sem.run_bind, Sem.run_pure, Result.andThen_ok, k1, e1]
              · cases hv
            · cases hv
          · cases hv
      · cases h2
    · cases h1

theorem results_ok {g : Gh} {nt : Nat} {ρ : Env} {tmps : Array Value} {σ : St} {w : World} (hρ : ERel g nt ρ tmps) (hR : Rel P g σ w) {fn : Func} {ir : List (Nat × Option (Option Nat))} {vs : List Value} (h1 : resC P fn.results.toList = some ir) (h2 : resA ρ σ ir = some vs) :
    ∃ v', (results fn tmps).run P w = .ok v' w ∧ VRel g (tupA vs) v' := by
  obtain ⟨vs', e1, e2⟩ := res_list hρ hR h1 h2
  have hm : (fn.results.mapM (resF tmps)).run P w = .ok ⟨vs'⟩ w := by
    have : fn.results = fn.results.toList.toArray := by simp
    rw [this, List.mapM_toArray]
    simp only [map_eq_pure_bind, Sem.run_bind, e1, Result.andThen_ok, Sem.run_pure]
  rw [results_resF]
  simp only [Sem.run_bind, hm, Result.andThen_ok, Sem.run_pure]
  refine ⟨_, rfl, ?_⟩
  cases e2 with
  | nil => exact .tuple .nil
  | cons h t =>
    cases t with
    | nil => exact h
    | cons h' t' =>
      rw [dif_neg (by simp)]
      exact .tuple (.cons h (.cons h' t'))

theorem init_ok {g : Gh} {args args' : List Value} (h : LRel g args args') (nt : Nat) : ERel g nt (initEnv args) ((⟨args'⟩ : Array Value) ++ Array.replicate (nt - (⟨args'⟩ : Array Value).size) undef) := by
  refine ⟨by simp; omega, fun i => ?_⟩
  have : ((⟨args'⟩ : Array Value) ++ Array.replicate (nt - (⟨args'⟩ : Array Value).size) undef).getD i undef = args'.getD i undef := by
    rw [Array.getD_eq_getD_getElem?, List.getD_eq_getElem?_getD, Array.getElem?_append]
    split
    · rename_i hi; simp
    · rename_i hi
      have h2 : args'[i]? = none := by
        rw [List.getElem?_eq_none_iff]; simpa using hi
      rw [h2, Array.getElem?_replicate]
      split <;> rfl
  rw [this]
  exact h.getD i (undef_rel g)

/-! The way out. -/
theorem poke_goes {g0 g : Gh} {σ0 σ : St} {w0 w : World} (h : Goes P g0 σ0 w0 g σ w) {r : Nat} (hr : w0.heap.size ≤ r) (hn : ∀ q, ¬ OwnR q g σ r) (ob : Obj) : Goes P g0 σ0 w0 g σ (w.putObj r ob) := by
  have hget : ∀ k, k ≠ r → (w.putObj r ob).heap[k]? = w.heap[k]? := fun k hk => World.putObj_heap_other hk
  refine ⟨h.le, h.old, h.nx, ⟨?_, h.rel.sep, ?_, h.rel.fresh⟩, by simpa using h.size, ?_, h.own, h.os, h.out, h.dead⟩
  · intro i o b bs h1 h2
    rw [hget b fun e => hn o.ro ⟨i, o, bs, h1, rfl, by rw [← e]; exact h2⟩]
    exact h.rel.obj _ _ _ _ h1 h2
  · intro i b bs h1; simpa using h.rel.lt _ _ _ h1
  · intro b hb ho
    rw [hget b (by omega)]
    exact h.frm b hb ho

theorem leaves_ok {g0 g : Gh} {σ0 σ : St} {w0 : World} {F : Fence} {n : Nat} {fn : Func} {tmps : Array Value} {R : Ending → World → Prop} : ∀ (ds : List Deferred) {w : World}, Goes P g0 σ0 w0 g σ w → MarksOk w0.heap.size g σ w ds →
    (∀ w', Goes P g0 σ0 w0 g σ w' → ∃ v, (results fn tmps).run P w' = .ok v w' ∧ R (.returned v) w') → LeavesInM F n P fn tmps R ds .returning w
  | [], w, hG, _, hR => hR w hG
  | d :: ds, w, hG, hM, hR => by
    obtain ⟨r, h1, h2, h3, h4, h5⟩ := hM.2 d (by simp)
    refine ⟨by simp, .inl ⟨r, w.putObj r (.deferred none), h1, run_takeDeferred h4, ?_⟩⟩
    refine leaves_ok ds (poke_goes hG h2 h5 _) ⟨(List.pairwise_cons.1 hM.1).2, fun d' hd' => ?_⟩ hR
    obtain ⟨r', k1, k2, k3, k4, k5⟩ := hM.2 d' (by simp [hd'])
    refine ⟨r', k1, k2, by simpa using k3, ?_, k5⟩
    rw [World.putObj_heap_other]
    · exact k4
    · intro e
      have := (List.pairwise_cons.1 hM.1).1 d' hd'
      rw [h1, k1, e] at this
      exact this rfl

/-! A round. -/
theorem bind_ok {g : Gh} {nt : Nat} : ∀ {ps : List Nat} {args args' : List Value} {ρ : Env} {tmps : Array Value}, (∀ p ∈ ps, p < nt) → LRel g args args' → ERel g nt ρ tmps →
    ERel g nt (bindPs ρ ps args) ((ps.zip args').foldl (fun tmps (t, a) => tmps.setIfInBounds t a) tmps)
  | [], args, args', ρ, tmps, _, _, hρ => by cases args <;> simpa [bindPs] using hρ
  | p :: ps, [], args', ρ, tmps, _, ha, hρ => by cases ha; simpa [bindPs] using hρ
  | p :: ps, x :: args, args', ρ, tmps, hp, ha, hρ => by
    cases ha with
    | cons h t =>
      simp only [bindPs, List.zip_cons_cons, List.foldl_cons]
      refine bind_ok (fun q hq => hp q (by simp [hq])) t ?_
      exact ERel.put (a := { tmps := tmps, defers := [] }) hρ (d := some p) (fun y hy => by simp at hy; subst hy; exact hp _ (by simp)) h

theorem callFunc_enter {f : FuncId} {fn : Func} {ir : FIR} (hf : P.funcs[f]? = some fn) (hir : funC P fn = some ir) (args : Array Value) (w : World) : (callFunc f args).run P w = .ok (.enter f args) w := by
  unfold funC at hir
  split at hir
  · rename_i c rs hb hr
    split at hir
    · cases hir
    · rename_i hn
      have hn' : (fn.name == "runtime.NumGoroutine") = false := by simpa using hn
      simp [callFunc, Sem.run_bind, hf, hn, hb]
  · cases hir

theorem evC_ok {T : Table} (hT : TOk P T) (hmix : P.follows .mixedOrders = true) : ∀ n, ClOk P (evC T n)
  | 0 => ⟨fun f args σ v σ' h => by simp [evC] at h, fun l args σ v σ' h => by simp [evC] at h⟩
  | n + 1 => by
    have ih := evC_ok hT hmix n
    constructor
    · intro f args σ v σ' hv g w args' hR ha
      simp only [evC] at hv
      split at hv
      · -- a function whose code is known
        rename_i ir hir
        obtain ⟨fn, hf, hfc⟩ := hT.code f ir hir
        refine .inl ⟨callFunc_enter hf hfc _ _, ?_⟩
        split at hv
        · unfold funC at hfc
          split at hfc
          · rename_i c rs hb hr
            split at hfc
            · cases hfc
            · simp only [Option.some.injEq] at hfc
              subst hfc
              simp only at hv
              refine callsIn_wide.1 (callsIn_of_wp_marks (F := Fence.wide) (n := 0) hf hb trivial ?_)
              show c.wpIn (FR none) 0 P _ _ _
              cases he : evS (evC T n) n false (stC P fn.ntmps c) (initEnv args) σ with
              | none => rw [he] at hv; simp at hv
              | some p =>
                obtain ⟨e, ρ1, σ1⟩ := p
                rw [he] at hv
                refine evS_ok (m := w.heap.size) ih hmix c _ _ _ _ _ _ _ _ _ he (init_ok ha _) hR ⟨by simp, fun d hd => by simp at hd⟩ (Nat.le_refl _) fun a' w' g' h1 h2 h3 => ?_
                have fin : ∀ vs, resA ρ1 σ1 rs = some vs → (tupA vs, σ1) = (v, σ') → LeavesInM Fence.wide 0 P fn a'.tmps (CallPost P g σ w v σ') a'.defers .returning w' := by
                  intro vs hvs hvv
                  simp only [Prod.mk.injEq] at hvv
                  obtain ⟨rfl, rfl⟩ := hvv
                  refine leaves_ok _ h2 h3 fun w2 h4 => ?_
                  obtain ⟨v', k1, k2⟩ := results_ok h1 h4.rel hr hvs
                  exact ⟨v', k1, v', g', rfl, k2, h4⟩
                cases e with
                | exit i => simp at hv
                | normal =>
                  simp only at hv
                  cases hvs : resA ρ1 σ1 rs with
                  | none => rw [hvs] at hv; simp at hv
                  | some vs => rw [hvs] at hv; exact fin vs hvs (by simpa using hv)
                | ret =>
                  simp only at hv
                  cases hvs : resA ρ1 σ1 rs with
                  | none => rw [hvs] at hv; simp at hv
                  | some vs => rw [hvs] at hv; exact fin vs hvs (by simpa using hv)
          · cases hfc
        · cases hv
      · rename_i h; exact absurd h (hT.noclone f)
      · rename_i h hh
        exact hT.spec f h hh args σ v σ' hv g w args' hR ha
      · cases hv
    · intro l args σ v σ' hv g w args' b hR ha hb
      simp only [evC] at hv
      split at hv
      · rename_i pend ρ ps asn bd hl
        split at hv
        · rename_i hlen
          obtain ⟨_, L, nt, q1, q2, q3, q4, q5, q6, q7, q8⟩ := hR.obj _ _ _ _ hl hb
          have hsz : (⟨args'⟩ : Array Value).size = L.params.size := by
            have := ha.length
            have h2 : L.params.toList.length = ps.length := by rw [q4]
            simp at h2 ⊢
            omega
          refine ⟨_, _, _, _, run_yield q1 hsz, fun k => ?_⟩
          refine roundIn_of_wpIn trivial ?_
          show L.assign.wpIn (FR (some b)) k P _ _ _
          have htm : ERel g nt (bindPs ρ ps args) ((L.params.zip ⟨args'⟩).foldl (fun tmps (t, a) => tmps.setIfInBounds t a) L.tmps) := by
            rw [← Array.foldl_toList, Array.toList_zip, q4]
            exact bind_ok q5 ha q8
          cases he : evS (evC T n) n true asn (bindPs ρ ps args) σ with
          | none => rw [he] at hv; simp at hv
          | some p =>
            obtain ⟨e, ρ1, σ1⟩ := p
            rw [he] at hv
            have he' : evS (evC T n) n (some b).isSome (stC P nt L.assign) (bindPs ρ ps args) σ = some (e, ρ1, σ1) := by rw [q6]; exact he
            refine evS_ok (m := 0) ih hmix L.assign _ _ _ _ _ _ _ _ _ he' htm hR ⟨by simp, fun d hd => by simp at hd⟩ (Nat.zero_le _) fun a' w' g' h1 h2 h3 => ?_
            cases e with
            | exit i => simp at hv
            | ret => simp at hv
            | normal =>
              simp only at hv
              split at hv
              · rename_i pend1 ρ2 ps2 asn2 bd2 hl1
                have hb1 := (h2.le _ _ hb).1
                obtain ⟨_, L1, nt1, r1, r2, r3, r4, r5, r6, r7, r8⟩ := h2.rel.obj _ _ _ _ hl1 hb1
                have hlt1 : b < w'.heap.size := h2.rel.lt _ _ _ hb1
                refine ⟨_, run_beginRound r1 r2, ?_⟩
                have G1 : Goes P g' σ1 w' g' (σ1.put l (some (.loop .busy pend1 ρ2 ps2 asn2 bd2))) (w'.putObj b (.loop { L1 with state := .busy })) :=
                  put_goes h2.rel hl1 rfl hb1 rfl rfl rfl rfl ⟨rfl, _, nt1, rfl, rfl, r3, r4, r5, r6, r7, r8⟩
                cases he2 : evS (evC T n) n true bd ρ1 (σ1.put l (some (.loop .busy pend1 ρ2 ps2 asn2 bd2))) with
                | none => rw [he2] at hv; simp at hv
                | some p2 =>
                  obtain ⟨e2, ρ3, σ2⟩ := p2
                  rw [he2] at hv
                  have he2' : evS (evC T n) n (some b).isSome (stC P nt L.body) ρ1 (σ1.put l (some (.loop .busy pend1 ρ2 ps2 asn2 bd2))) = some (e2, ρ3, σ2) := by rw [q7]; exact he2
                  refine evS_ok (m := 0) (ro := some b) ih hmix L.body _ _ _ _ _ _ _ _ _ he2' (h1.mono G1.le) G1.rel (h3.goes G1) (Nat.zero_le _) fun a2 w2 g2 k1 k2 _ => ?_
                  · simp only at hv
                    split at hv
                    · rename_i pd ρ4 ps3 asn3 bd3 hl2
                      have hG := (h2.trans G1).trans k2
                      have hb2 := (hG.le _ _ hb).1
                      obtain ⟨_, L2, nt2, s1, s2, s3, s4, s5, s6, s7, s8⟩ := k2.rel.obj _ _ _ _ hl2 hb2
                      cases e2 with
                      | normal =>
                        simp only [Option.some.injEq, Prod.mk.injEq] at hv
                        obtain ⟨rfl, rfl⟩ := hv
                        refine ⟨_, _, run_endRound none s1, _, g2, rfl, .bool true, hG.trans ?_⟩
                        exact put_goes k2.rel hl2 rfl hb2 rfl rfl rfl rfl ⟨rfl, _, nt2, rfl, rfl, trivial, s4, s5, s6, s7, s8⟩
                      | exit i =>
                        simp only [Option.some.injEq, Prod.mk.injEq] at hv
                        obtain ⟨rfl, rfl⟩ := hv
                        refine ⟨_, _, run_endRound (some (.exit i)) s1, _, g2, rfl, .bool false, hG.trans ?_⟩
                        exact put_goes k2.rel hl2 rfl hb2 rfl rfl rfl rfl ⟨rfl, _, nt2, rfl, rfl, rfl, s4, s5, s6, s7, s8⟩
                      | ret =>
                        simp only [Option.some.injEq, Prod.mk.injEq] at hv
                        obtain ⟨rfl, rfl⟩ := hv
                        refine ⟨_, _, run_endRound (some .ret) s1, _, g2, rfl, .bool false, hG.trans ?_⟩
                        exact put_goes k2.rel hl2 rfl hb2 rfl rfl rfl rfl ⟨rfl, _, nt2, rfl, rfl, trivial, s4, s5, s6, s7, s8⟩
                    · cases hv
              · cases hv
        · cases hv
      · cases hv

end
end Go.Eng
