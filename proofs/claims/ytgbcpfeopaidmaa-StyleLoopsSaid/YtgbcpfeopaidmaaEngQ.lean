/-
  Single operations in the walk's words; a region in the order of its text.
-/
import Derived.Test.YtgbcpfeopaidmaaEngP
set_option linter.all false
namespace Go.Eng
open Go

/-- The fence that lets everything by, in a round or in none. -/
def FR (ro : Option Nat) : Fence := { Fence.wide with round := ro }

section
variable {P : Program}

def CallPost (P : Program) (g : Gh) (σ : St) (w : World) (v : Value) (σ' : St) : Ending → World → Prop :=
  fun e w' => ∃ v' g', e = .returned v' ∧ VRel g' v v' ∧ Goes P g σ w g' σ' w'

/-- What is asked of who answers calls. -/
structure ClOk (P : Program) (cl : CallF) : Prop where
  fn : ∀ f args σ v σ', cl (.fn f) args σ = some (v, σ') → ∀ g w args', Rel P g σ w → LRel g args args' →
    ((callFunc f ⟨args'⟩).run P w = .ok (.enter f ⟨args'⟩) w ∧ Calls P f ⟨args'⟩ w (CallPost P g σ w v σ')) ∨
    ((∀ x ∈ args, ∃ t u, x = .iface t u) ∧ ∃ v' w' g', (callFunc f ⟨args'⟩).run P w = .ok (.value v') w' ∧ VRel g' v v' ∧ Goes P g σ w g' σ' w')
  yield : ∀ l args σ v σ', cl (.yield l) args σ = some (v, σ') → ∀ g w args' b, Rel P g σ w → LRel g args args' → g.blk l = some (b, 0) →
    ∃ f tmps assign body, (Instr.yield b ⟨args'⟩).run P w = .ok (.round b f tmps assign body) w ∧ ∀ n, RoundIn Fence.wide n P b f tmps assign body w (CallPost P g σ w v σ')

theorem about_any {ro : Option Nat} {o : Oper} {a : Act} {w : World} : ∀ f, o.about P w a.eval = some f → (FR ro).fn f := fun _ _ => trivial

theorem semAt_ok {ro : Option Nat} {o : Oper} {i : Ins} (hi : insC P o = some i) (ρ : Operand → Value) : o.semAt ro ρ = execOp ρ o := by
  refine Oper.semAt_eq ro ρ o ?_
  intro c hc
  obtain ⟨dst, op, ty, pos, after, guard⟩ := o
  simp only at hc; subst hc
  simp [insC] at hi

variable {g : Gh} {nt : Nat} {ρ : Env} {a : Act} {σ : St} {w : World} {ro : Option Nat} {n : Nat} {next : Act → World → Prop} {Q : Exit → Act → World → Prop}

/-- An operation that answers a value, and changes nothing. -/
theorem op_val (hρ : ERel g nt ρ a.tmps) (hR : Rel P g σ w) {o : Oper} {i : Ins} (hi : insC P o = some i) {v : Value} (hv : stepS ρ σ i = some (.val v)) (hnext : ∀ v', VRel g v v' → next (a.put o.dst v') w) : o.wpIn (FR ro) n P a w next Q := by
  have key : ∃ v', (execOp a.eval o).run P w = .ok (.value v') w ∧ VRel g v v' := by
    unfold stepS at hv
    split at hv
    · rename_i v0 h
      simp only [Option.some.injEq, Res.val.injEq] at hv; subst hv
      exact evP_ok hρ hi h
    · split at hv
      · rename_i v0 h
        simp only [Option.some.injEq, Res.val.injEq] at hv; subst hv
        exact evR_ok hρ hR hi h
      · split at hv <;> simp at hv
  obtain ⟨v', e1, e2⟩ := key
  refine ⟨about_any, ?_⟩
  rw [semAt_ok hi, e1]
  exact hnext v' e2

/-- An operation that makes an object. -/
theorem op_new (hρ : ERel g nt ρ a.tmps) (hR : Rel P g σ w) {o : Oper} {i : Ins} (hi : insC P o = some i) {x : AObj} {f : Nat → Value} (hv : stepS ρ σ i = some (.new x f)) {id : Nat} (hid : g.blk id = none)
    (hnext : ∀ v' w' g', Makes P g w w' id x (f id) v' g' w.heap.size → next (a.put o.dst v') w') : o.wpIn (FR ro) n P a w next Q := by
  have hm : evM ρ σ i = some (x, f) := by
    unfold stepS at hv
    split at hv
    · simp at hv
    · split at hv
      · simp at hv
      · split at hv
        · rename_i o' f' h
          simp only [Option.some.injEq, Res.new.injEq] at hv
          obtain ⟨rfl, rfl⟩ := hv
          exact h
        · simp at hv
  obtain ⟨v', w', g', e1, e2⟩ := evM_ok hρ hR hi hm hid
  refine ⟨about_any, ?_⟩
  rw [semAt_ok hi, e1]
  exact hnext v' w' g' e2

theorem insC_call {o : Oper} {f : FuncId} {as : List Arg} (hi : insC P o = some (.call f as)) : ∃ c, o.op = .call c ∧ c.callee = .value (.func f) ∧ argsC c.args.toList = some as := by
  have hk := insC_kind hi
  obtain ⟨dst, op, ty, pos, after, guard⟩ := o
  cases op <;> simp [kindI, kindO] at hk
  rename_i c
  obtain ⟨callee, args, ats⟩ := c
  simp only [insC, o2_some] at hi
  obtain ⟨as', h1, hi⟩ := hi
  split at hi
  · simp only [Option.some.injEq, Ins.call.injEq] at hi
    obtain ⟨rfl, rfl⟩ := hi
    exact ⟨_, rfl, rfl, h1⟩
  · simp only [o2_some, Option.some.injEq] at hi; obtain ⟨f', _, hi⟩ := hi; simp at hi
  all_goals exfalso
  · split at hi <;> simp at hi
  · split at hi <;> simp at hi
  · split at hi <;> simp at hi
  · split at hi <;> simp at hi
  · split at hi
    · split at hi
      · simp only [o2_some] at hi
        obtain ⟨n', hn, b', hb, z, hz, hi⟩ := hi
        split at hi
        · simp at hi
        · split at hi <;> simp at hi
      · simp at hi
    · simp at hi
  · split at hi
    · split at hi
      · simp only [o2_some] at hi
        obtain ⟨n', _, hi⟩ := hi
        split at hi <;> simp at hi
      · simp at hi
    · simp at hi
  · split at hi
    · split at hi
      · simp only [o2_some, Option.some.injEq] at hi
        obtain ⟨n', _, hi⟩ := hi
        simp at hi
      · simp at hi
    · simp at hi
  · simp at hi

theorem insC_callv {o : Oper} {f : Arg} {as : List Arg} (hi : insC P o = some (.callv f as)) : ∃ c fo, o.op = .call c ∧ c.callee = .value fo ∧ argC fo = some f ∧ argsC c.args.toList = some as := by
  have hk := insC_kind hi
  obtain ⟨dst, op, ty, pos, after, guard⟩ := o
  cases op <;> simp [kindI, kindO] at hk
  rename_i c
  obtain ⟨callee, args, ats⟩ := c
  simp only [insC, o2_some] at hi
  obtain ⟨as', h1, hi⟩ := hi
  split at hi
  · simp at hi
  · simp only [o2_some, Option.some.injEq, Ins.callv.injEq] at hi
    obtain ⟨f', h2, rfl, rfl⟩ := hi
    exact ⟨_, _, rfl, rfl, h2, h1⟩
  all_goals exfalso
  · split at hi <;> simp at hi
  · split at hi <;> simp at hi
  · split at hi <;> simp at hi
  · split at hi <;> simp at hi
  · split at hi
    · split at hi
      · simp only [o2_some] at hi
        obtain ⟨n', hn, b', hb, z, hz, hi⟩ := hi
        split at hi
        · simp at hi
        · split at hi <;> simp at hi
      · simp at hi
    · simp at hi
  · split at hi
    · split at hi
      · simp only [o2_some] at hi
        obtain ⟨n', _, hi⟩ := hi
        split at hi <;> simp at hi
      · simp at hi
    · simp at hi
  · split at hi
    · split at hi
      · simp only [o2_some, Option.some.injEq] at hi
        obtain ⟨n', _, hi⟩ := hi
        simp at hi
      · simp at hi
    · simp at hi
  · simp at hi

theorem callsIn_FR {f : FuncId} {args : Array Value} {R : Ending → World → Prop} (h : Calls P f args w R) : CallsIn (FR ro) n P f args w R := by
  have := (callsIn_wide (n := n)).2 h
  exact this

theorem roundIn_FR {l : Nat} {f : FuncId} {tmps : Array Value} {assign body : Code} {R : Ending → World → Prop} (h : RoundIn Fence.wide n P l f tmps assign body w R) : RoundIn (FR ro) n P l f tmps assign body w R := h

/-- A call of a function, whichever way it is answered. -/
theorem call_upon {cl : CallF} (hcl : ClOk P cl) (hR : Rel P g σ w) {f : FuncId} {args args' : List Value} {v : Value} {σ' : St} (hv : cl (.fn f) args σ = some (v, σ')) (ha : LRel g args args') {o : Oper} {r : Result Next}
    (hr : r = (callFunc f ⟨args'⟩).run P w) (hnext : ∀ v' w' g', VRel g' v v' → Goes P g σ w g' σ' w' → next (a.put o.dst v') w') : o.uponIn (FR ro) n P a next Q r := by
  subst hr
  rcases hcl.fn f args σ v σ' hv g w args' hR ha with ⟨e1, e2⟩ | ⟨_, v', w', g', e1, e2, e3⟩
  · rw [e1, Oper.uponIn_enter]
    refine ⟨fun h => by simp [FR, Fence.wide] at h, ?_⟩
    refine CallsIn.mono (callsIn_FR e2) ?_
    rintro e w' ⟨v', g', rfl, h1, h2⟩
    exact hnext v' w' g' h1 h2
  · rw [e1]
    exact hnext v' w' g' e2 e3

/-- An operation that changes memory, or calls. -/
theorem op_str {cl : CallF} (hcl : ClOk P cl) (hρ : ERel g nt ρ a.tmps) (hR : Rel P g σ w) {o : Oper} {i : Ins} (hi : insC P o = some i) {v : Value} {σ' : St} (hv : evW cl ρ σ i = some (v, σ'))
    (hnext : ∀ v' w' g', VRel g' v v' → Goes P g σ w g' σ' w' → next (a.put o.dst v') w') : o.wpIn (FR ro) n P a w next Q := by
  refine ⟨about_any, ?_⟩
  rw [semAt_ok hi]
  by_cases hc : isCall i = false
  · obtain ⟨nx, v', w', g', e1, e2, e3, e4⟩ := evW_ok (P := P) hρ hR hi hc hv
    rw [e1]
    rcases e2 with rfl | ⟨rfl, rfl⟩
    · exact hnext v' w' g' e3 e4
    · exact hnext undef w' g' e3 e4
  · cases i with
    | call f as =>
      obtain ⟨c, h1, h2, h3⟩ := insC_call hi
      simp only [evW] at hv
      have ha := args_ok hρ h3
      refine call_upon hcl hR hv ha ?_ hnext
      obtain ⟨dst, op, ty, pos, after, guard⟩ := o
      simp only at h1; subst h1
      obtain ⟨callee, args, ats⟩ := c
      simp only at h2; subst h2
      have eargs : args.map a.eval = ⟨args.toList.map a.eval⟩ := by cases args; simp
      simp only [execOp, resolve, Act.eval, Deferred.ofValue, Sem.run_bind, Sem.run_pure, Result.andThen_ok, invoke, eargs, Array.append_empty, Array.empty_append]
    | callv f as =>
      obtain ⟨c, fo, h1, h2, h3, h4⟩ := insC_callv hi
      have ha := args_ok hρ h4
      have hf := arg_ok hρ h3
      simp only [evW] at hv
      generalize f.get ρ = fv at hv hf
      obtain ⟨dst, op, ty, pos, after, guard⟩ := o
      simp only at h1; subst h1
      obtain ⟨callee, args, ats⟩ := c
      simp only at h2 h4 ha; subst h2
      have eargs : args.map a.eval = ⟨args.toList.map a.eval⟩ := by cases args; simp
      split at hv
      · rename_i k first cap
        generalize hfe : a.eval fo = fw at hf
        cases hf with
        | fn hx hy =>
          refine call_upon hcl hR hv ((hx.append ha).append hy) ?_ hnext
          simp only [execOp, resolve, hfe, Deferred.ofValue, Sem.run_bind, Sem.run_pure, Result.andThen_ok, invoke, eargs]
          congr 2
          apply Array.ext'
          simp
      · rename_i l first cap
        split at hv
        · rename_i hz
          generalize hfe : a.eval fo = fw at hf
          cases hf with
          | yield hb =>
            rename_i b
            obtain ⟨f', tmps, assign, body, e1, e2⟩ := hcl.yield _ _ _ _ _ hv g w _ _ hR ha hb
            have er : (execOp a.eval { dst, op := .call { callee := .value fo, args, argTypes := ats }, type := ty, pos, after, guard }).run P w = .ok (.round b f' tmps assign body) w := by
              simp only [execOp, resolve, hfe, Deferred.ofValue, Sem.run_bind, Sem.run_pure, Result.andThen_ok, invoke, eargs, Array.empty_append, e1]
            rw [er, Oper.uponIn_round]
            refine ⟨fun h => by simp [FR, Fence.wide] at h, ?_⟩
            refine RoundIn.mono (roundIn_FR (e2 _)) ?_
            rintro e w' ⟨v', g', rfl, h1, h2⟩
            exact hnext v' w' g' h1 h2
        · simp at hv
      · simp at hv
    | _ => simp [isCall] at hc

end
end Go.Eng
