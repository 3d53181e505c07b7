/-
  The operations that change memory, calls aside, all together.
-/
import Derived.Test.YtgbcpfeopaidmaaEngN
set_option linter.all false
namespace Go.Eng
open Go

section
variable {P : Program} {w : World}

/-- What is said of an operation that changes memory. -/
def Wrote (P : Program) (g : Gh) (σ : St) (w : World) (v : Value) (σ' : St) (r : Result Next) : Prop :=
  ∃ nx v' w' g', r = .ok nx w' ∧ (nx = .value v' ∨ (nx = .skip ∧ v' = undef)) ∧ VRel g' v v' ∧ Goes P g σ w g' σ' w'

def isCall : Ins → Bool
  | .call .. | .callv .. => true
  | _ => false

theorem evW_kind {cl : CallF} {ρ : Env} {σ : St} {i : Ins} {r : Value × St} (h : evW cl ρ σ i = some r) (hc : isCall i = false) :
    (∃ a b c, i = .st a b c) ∨ (∃ a b c d, i = .mput a b c d) ∨ (∃ a b c, i = .mdel a b c) ∨ (∃ a b c, i = .cpy a b c) ∨ (∃ a b c d e, i = .app a b c d e) := by
  cases i <;> first
    | exact .inl ⟨_, _, _, rfl⟩
    | exact .inr (.inl ⟨_, _, _, _, rfl⟩)
    | exact .inr (.inr (.inl ⟨_, _, _, rfl⟩))
    | exact .inr (.inr (.inr (.inl ⟨_, _, _, rfl⟩)))
    | exact .inr (.inr (.inr (.inr ⟨_, _, _, _, _, rfl⟩)))
    | (simp [isCall] at hc; done)
    | (simp [evW] at h; done)

theorem st_ok {g : Gh} {nt : Nat} {ρ : Env} {a : Act} (hρ : ERel g nt ρ a.tmps) {σ : St} (hR : Rel P g σ w) {cl : CallF} {op : Oper} {n : Nat} {y z : Arg} (hi : insC P op = some (.st n y z)) {v : Value} {σ' : St}
    (hv : evW cl ρ σ (.st n y z) = some (v, σ')) : Wrote P g σ w v σ' ((execOp a.eval op).run P w) := by
  have hk := insC_kind hi
  obtain ⟨dst, op, ty, pos, after, guard⟩ := op
  cases op <;> simp [kindI, kindO] at hk
  rename_i t x x2
  simp only [insC, o2_some, Option.some.injEq, Ins.st.injEq] at hi
  obtain ⟨n', hn, y', h1, z', h2, rfl, rfl, rfl⟩ := hi
  have r1 := arg_ok hρ h1
  have r2 := arg_ok hρ h2
  simp only [evW] at hv
  generalize y'.get ρ = yv at hv r1
  split at hv
  · rename_i p
    split at hv
    · rename_i cs esz opn ec hg
      split at hv
      · rename_i hc
        simp only [Option.some.injEq, Prod.mk.injEq] at hv
        obtain ⟨rfl, rfl⟩ := hv
        obtain ⟨c1, c2, c3, c4⟩ := hc
        generalize hx : a.eval x = xv at r1
        cases r1 with
        | ptr hb =>
          obtain ⟨w', e1, e2⟩ := write_goes hR hg hb r2.cells (by rw [c2]; exact c3) c4
          refine ⟨.skip, undef, w', g, ?_, .inr ⟨rfl, rfl⟩, undef_rel g, e2⟩
          have hsz : ¬ ((a.eval x2).cells.size ≠ n') := by
            have := r2.cells.length
            have h3 : (cellsOf (a.eval x2)).length = (a.eval x2).cells.size := cells_size_of
            omega
          have e1' : (storeCells ⟨_, _, none⟩ (a.eval x2).cells.toList).run P w = .ok () w' := e1
          simp only [execOp, hx, Instr.storeAt, Instr.sureAddr, storeVar, Sem.run_bind, run_size hn, Result.andThen_ok, Sem.run_pure, hsz, if_false, e1']
      · simp at hv
    · simp at hv
  · simp at hv

theorem mput_all {g : Gh} {nt : Nat} {ρ : Env} {a : Act} (hρ : ERel g nt ρ a.tmps) {σ : St} (hR : Rel P g σ w) {cl : CallF} {op : Oper} {str : Bool} {m k x : Arg} (hi : insC P op = some (.mput str m k x)) {v : Value} {σ' : St}
    (hv : evW cl ρ σ (.mput str m k x) = some (v, σ')) : Wrote P g σ w v σ' ((execOp a.eval op).run P w) := by
  have hk := insC_kind hi
  obtain ⟨dst, op, ty, pos, after, guard⟩ := op
  have key : ∀ (t : TypeId) (mo ko xo : Operand), insC P { dst, op := .mapUpdate t mo ko xo, type := ty, pos, after, guard } = some (.mput str m k x) →
      Wrote P g σ w v σ' (((Instr.mapUpdate t (a.eval mo) (a.eval ko) (a.eval xo)).run P w).andThen fun _ w' => .ok .skip w') := by
    intro t mo ko xo hi
    simp only [insC] at hi
    split at hi
    · rename_i kt et hu
      simp only [o2_some, Option.some.injEq, Ins.mput.injEq] at hi
      obtain ⟨s, hs, m', h1, k', h2, x', h3, rfl, rfl, rfl, rfl⟩ := hi
      have r1 := arg_ok hρ h1
      have r2 := arg_ok hρ h2
      have r3 := arg_ok hρ h3
      simp only [evW] at hv
      generalize m'.get ρ = mv at hv r1
      generalize k'.get ρ = kv at hv r2
      split at hv
      · split at hv
        · rename_i es hes
          split at hv
          · rename_i hko
            simp only [Option.map_eq_some_iff, Prod.mk.injEq] at hv
            obtain ⟨es', hp, rfl, rfl⟩ := hv
            generalize hm : a.eval mo = mw at r1
            have hkr := keyRel hko r2
            cases r1 with
            | map hb =>
              obtain ⟨w', e1, e2⟩ := mput_ok hR hu hs hb (mapOf_some hes) hko r3 hp
              exact ⟨.skip, undef, w', g, by rw [hkr, e1]; rfl, .inr ⟨rfl, rfl⟩, undef_rel g, e2⟩
          · simp at hv
        · simp at hv
      · simp at hv
    · simp at hi
  cases op <;> simp [kindI, kindO] at hk
  · rename_i t mo ko xo
    have := key t mo ko xo hi
    have e : (execOp a.eval { dst, op := .insert t mo ko xo, type := ty, pos, after, guard }).run P w = (((Instr.mapUpdate t (a.eval mo) (a.eval ko) (a.eval xo)).run P w).andThen fun _ w' => .ok .skip w') := by
      simp [execOp]
    rw [e]; exact this
  · rename_i t mo ko xo
    have := key t mo ko xo hi
    have e : (execOp a.eval { dst, op := .mapUpdate t mo ko xo, type := ty, pos, after, guard }).run P w = (((Instr.mapUpdate t (a.eval mo) (a.eval ko) (a.eval xo)).run P w).andThen fun _ w' => .ok .skip w') := by
      simp [execOp]
    rw [e]; exact this

/-- What the compiler knows of a delete, of a copy. -/
theorem insC_mdel {c : Call} {dst : Option Tmp} {ty : TypeId} {pos : String} {after : Array Edge} {guard : Option (Nat × Bool)} {str : Bool} {s x : Arg}
    (hi : insC P { dst, op := .call c, type := ty, pos, after, guard } = some (.mdel str s x)) :
    c.callee = .builtin .delete ∧ argsC c.args.toList = some [s, x] ∧ ∃ mt kt et, c.argTypes[0]? = some mt ∧ P.underlying mt = some (.map kt et) ∧ keyK P kt = some str := by
  obtain ⟨callee, args, ats⟩ := c
  simp only [insC, o2_some] at hi
  obtain ⟨as, h1, hi⟩ := hi
  split at hi
  · simp at hi
  · simp only [o2_some, Option.some.injEq] at hi; obtain ⟨f', _, hi⟩ := hi; simp at hi
  · split at hi <;> simp at hi
  · split at hi <;> simp at hi
  · split at hi <;> simp at hi
  · split at hi <;> simp at hi
  · split at hi
    · split at hi
      · simp only [o2_some] at hi
        obtain ⟨n', hn, b', hb, z, hz, hi⟩ := hi
        split at hi
        · simp at hi
        · split at hi <;> simp at hi
      · simp at hi
    · simp at hi
  · split at hi
    · split at hi
      · simp only [o2_some] at hi
        obtain ⟨n', _, hi⟩ := hi
        split at hi <;> simp at hi
      · simp at hi
    · simp at hi
  · split at hi
    · rename_i mt ht
      split at hi
      · rename_i kt et hu
        simp only [o2_some, Option.some.injEq, Ins.mdel.injEq] at hi
        obtain ⟨s', hs, rfl, rfl, rfl⟩ := hi
        exact ⟨rfl, h1, mt, kt, et, ht, hu, hs⟩
      · simp at hi
    · simp at hi
  · simp at hi

theorem insC_cpy {c : Call} {dst : Option Tmp} {ty : TypeId} {pos : String} {after : Array Edge} {guard : Option (Nat × Bool)} {n : Nat} {s x : Arg}
    (hi : insC P { dst, op := .call c, type := ty, pos, after, guard } = some (.cpy n s x)) :
    c.callee = .builtin .copy ∧ argsC c.args.toList = some [s, x] ∧ ∃ st e, c.argTypes[0]? = some st ∧ P.underlying st = some (.slice e) ∧ sizeT P e = some n ∧ n ≠ 0 := by
  obtain ⟨callee, args, ats⟩ := c
  simp only [insC, o2_some] at hi
  obtain ⟨as, h1, hi⟩ := hi
  split at hi
  · simp at hi
  · simp only [o2_some, Option.some.injEq] at hi; obtain ⟨f', _, hi⟩ := hi; simp at hi
  · split at hi <;> simp at hi
  · split at hi <;> simp at hi
  · split at hi <;> simp at hi
  · split at hi <;> simp at hi
  · split at hi
    · split at hi
      · simp only [o2_some] at hi
        obtain ⟨n', hn, b', hb, z, hz, hi⟩ := hi
        split at hi
        · simp at hi
        · split at hi <;> simp at hi
      · simp at hi
    · simp at hi
  · split at hi
    · rename_i st ht
      split at hi
      · rename_i e hu
        simp only [o2_some] at hi
        obtain ⟨n', hn, hi⟩ := hi
        split at hi
        · simp at hi
        · rename_i hn0
          simp only [Option.some.injEq, Ins.cpy.injEq] at hi
          obtain ⟨rfl, rfl, rfl⟩ := hi
          exact ⟨rfl, h1, st, e, ht, hu, hn, hn0⟩
      · simp at hi
    · simp at hi
  · split at hi
    · split at hi
      · simp only [o2_some, Option.some.injEq] at hi
        obtain ⟨n', _, hi⟩ := hi
        simp at hi
      · simp at hi
    · simp at hi
  · simp at hi

theorem mdel_all {g : Gh} {nt : Nat} {ρ : Env} {a : Act} (hρ : ERel g nt ρ a.tmps) {σ : St} (hR : Rel P g σ w) {cl : CallF} {op : Oper} {str : Bool} {m k : Arg} (hi : insC P op = some (.mdel str m k)) {v : Value} {σ' : St}
    (hv : evW cl ρ σ (.mdel str m k) = some (v, σ')) : Wrote P g σ w v σ' ((execOp a.eval op).run P w) := by
  have hk := insC_kind hi
  obtain ⟨dst, op, ty, pos, after, guard⟩ := op
  cases op <;> simp [kindI, kindO] at hk
  rename_i c
  obtain ⟨q1, q2, mt, kt, et, q3, q4, q5⟩ := insC_mdel hi
  obtain ⟨m', k', hargs, r1, r2⟩ := lower_app hρ q2 rfl
  simp only [evW] at hv
  generalize m.get ρ = mv at hv r1
  generalize k.get ρ = kv at hv r2
  split at hv
  · split at hv
    · rename_i es hes
      split at hv
      · rename_i hko
        simp only [Option.map_eq_some_iff, Prod.mk.injEq] at hv
        obtain ⟨es', hp, rfl, rfl⟩ := hv
        have hkr := keyRel hko r2
        cases r1 with
        | map hb =>
          obtain ⟨w', e1, e2⟩ := mdel_ok hR q4 q5 hb (mapOf_some hes) hko hp q3 ty
          refine ⟨.value (.tuple #[]), .tuple #[], w', g, ?_, .inl rfl, undef_rel g, e2⟩
          obtain ⟨callee, args, ats⟩ := c
          simp only at q1 q3 hargs e1
          subst q1
          simp only [execOp, resolve, hargs, hkr, Sem.run_bind, Sem.run_pure, Result.andThen_ok, invoke, builtin, e1]
      · simp at hv
    · simp at hv
  · simp at hv

theorem cpy_all {g : Gh} {nt : Nat} {ρ : Env} {a : Act} (hρ : ERel g nt ρ a.tmps) {σ : St} (hR : Rel P g σ w) {cl : CallF} {op : Oper} {n : Nat} {d s : Arg} (hi : insC P op = some (.cpy n d s)) {v : Value} {σ' : St}
    (hv : evW cl ρ σ (.cpy n d s) = some (v, σ')) : Wrote P g σ w v σ' ((execOp a.eval op).run P w) := by
  have hk := insC_kind hi
  obtain ⟨dst, op, ty, pos, after, guard⟩ := op
  cases op <;> simp [kindI, kindO] at hk
  rename_i c
  obtain ⟨q1, q2, st, e, q3, q4, q5, q6⟩ := insC_cpy hi
  obtain ⟨d', s', hargs, r1, r2⟩ := lower_app hρ q2 rfl
  simp only [evW] at hv
  generalize d.get ρ = dv at hv r1
  generalize s.get ρ = sv at hv r2
  split at hv
  · rename_i p dl cap sl hsl
    have hlen := lenA_ok (P := P) (w := w) r2 hsl
    split at hv
    · simp at hv
    · rename_i cs hcs
      obtain ⟨news, e1, e2⟩ := srcA_ok hR r2 hcs
      have hone := srcA_one hR r2 hcs
      have hmin : Nat.min sl dl = min sl dl := rfl
      have hcall : ∀ (ad : Option Addr) (c' : Nat) (w' : World), d' = .slice ad dl c' → (match ad with | some a => (storeCells a news.toList).run P w | none => .ok () w) = .ok () w' →
          (execOp a.eval { dst, op := .call c, type := ty, pos, after, guard }).run P w = .ok (.value (.int .i64 (min sl dl : Nat))) w' := by
        intro ad c' w' hd hst
        subst hd
        obtain ⟨callee, args, ats⟩ := c
        simp only at q1 q3 hargs
        subst q1
        simp only [execOp, resolve, hargs, Sem.run_bind, Sem.run_pure, Result.andThen_ok, invoke, builtin, Builtin.copy_, q3, List.getElem?_toArray, List.getElem?_cons_zero, List.getElem?_cons_succ, run_und q4, hlen, run_size q5, hmin, e1]
        cases ad with
        | none =>
          simp only [Result.ok.injEq, true_and] at hst; subst hst
          simp [goInt]
        | some ad =>
          simp only at hst
          simp [hst, goInt]
      split at hv
      · rename_i h0
        simp only [Option.some.injEq, Prod.mk.injEq] at hv
        obtain ⟨rfl, rfl⟩ := hv
        have hn0 : news.toList = [] := by
          have := e2.length
          have : news.toList.length = 0 := by omega
          exact List.length_eq_zero_iff.1 this
        have hd : ∃ ad c', d' = .slice ad dl c' := by cases r1 <;> exact ⟨_, _, rfl⟩
        obtain ⟨ad, c', hd⟩ := hd
        refine ⟨_, _, w, g, hcall ad c' w hd ?_, .inl rfl, .int _ _, Goes.refl hR⟩
        rw [hn0]; cases ad <;> rfl
      · rename_i h0
        split at hv
        · rename_i ad
          split at hv
          · rename_i ds e' opn ec hg
            split at hv
            · rename_i hc
              simp only [Option.some.injEq, Prod.mk.injEq] at hv
              obtain ⟨rfl, rfl⟩ := hv
              cases r1 with
              | sl hb hl hu hcap =>
                obtain ⟨w', f1, f2⟩ := write_goes hR hg hb e2 hc.2 hone
                exact ⟨_, _, w', g, hcall _ _ w' rfl f1, .inl rfl, .int _ _, f2⟩
              | slz =>
                have := srcA_len hcs (fun str hstr => by subst hstr; simp only [lenA, Option.some.injEq] at hsl; omega)
                rw [show min sl 0 = 0 by omega] at this
                omega
              | slu _ _ =>
                have := srcA_len hcs (fun str hstr => by subst hstr; simp only [lenA, Option.some.injEq] at hsl; omega)
                rw [show min sl 0 = 0 by omega] at this
                omega
            · simp at hv
          · simp at hv
        · simp at hv
  · simp at hv

end
end Go.Eng
