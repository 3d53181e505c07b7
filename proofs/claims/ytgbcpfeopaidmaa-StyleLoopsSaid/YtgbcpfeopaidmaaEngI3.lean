/-
  Symbolic evaluation: what a statement does, said of what stands behind it; from a law's run to its row.
-/
import Derived.Test.YtgbcpfeopaidmaaEngI2
import Derived.Laws.BitsLemmas
set_option linter.all false
namespace Go.Eng
open Go Go.ChangeShapes Go.RowKit

section
variable {T : Table} {inr : Bool}

structure Wp (T : Table) (inr : Bool) (s : Stmt) (ρ : Env) (σ : St) (Q : Ex → Env → St → Prop) : Prop where
  of ::
  out : ∃ e ρ' σ', EvS T inr s ρ σ (e, ρ', σ') ∧ Q e ρ' σ'

def thenQ (T : Table) (inr : Bool) (s : Stmt) (Q : Ex → Env → St → Prop) : Ex → Env → St → Prop
  | .normal, ρ, σ => Wp T inr s ρ σ Q
  | .exit i, ρ, σ => Q (.exit i) ρ σ
  | .ret, ρ, σ => Q .ret ρ σ
def blockQ (id : Nat) (Q : Ex → Env → St → Prop) : Ex → Env → St → Prop
  | .normal, ρ, σ => Q .normal ρ σ
  | .exit i, ρ, σ => if i = id then Q .normal ρ σ else Q (.exit i) ρ σ
  | .ret, ρ, σ => Q .ret ρ σ

theorem Wp.mono {s : Stmt} {ρ : Env} {σ : St} {Q Q' : Ex → Env → St → Prop} (h : Wp T inr s ρ σ Q) (k : ∀ e ρ σ, Q e ρ σ → Q' e ρ σ) : Wp T inr s ρ σ Q' := by
  obtain ⟨e, ρ', σ', h1, h2⟩ := h.out
  exact ⟨e, ρ', σ', h1, k _ _ _ h2⟩

theorem wp_seq {a b : Stmt} {ρ : Env} {σ : St} {Q : Ex → Env → St → Prop} (h : Wp T inr a ρ σ (thenQ T inr b Q)) : Wp T inr (.seq a b) ρ σ Q := by
  obtain ⟨e, ρ1, σ1, h1, h2⟩ := h.out
  cases e with
  | normal =>
    obtain ⟨e2, ρ2, σ2, h3, h4⟩ := h2.out
    exact ⟨e2, ρ2, σ2, EvS.seq h1 h3, h4⟩
  | exit i => exact ⟨_, _, _, EvS.seq_out h1 (by simp), h2⟩
  | ret => exact ⟨_, _, _, EvS.seq_out h1 (by simp), h2⟩
theorem wp_block {id : Nat} {s : Stmt} {ρ : Env} {σ : St} {Q : Ex → Env → St → Prop} (h : Wp T inr s ρ σ (blockQ id Q)) : Wp T inr (.block id s) ρ σ Q := by
  obtain ⟨e, ρ1, σ1, h1, h2⟩ := h.out
  refine ⟨_, ρ1, σ1, EvS.block h1, ?_⟩
  cases e with
  | normal => simpa [blockQ] using h2
  | exit i =>
    simp only [blockQ] at h2
    by_cases hi : i = id
    · simpa [hi] using h2
    · simpa [hi] using h2
  | ret => simpa [blockQ] using h2
theorem thenQ_exit {i : Nat} {b : Stmt} {Q : Ex → Env → St → Prop} {ρ : Env} {σ : St} (h : Q (.exit i) ρ σ) : thenQ T inr b Q (.exit i) ρ σ := h
theorem thenQ_ret {b : Stmt} {Q : Ex → Env → St → Prop} {ρ : Env} {σ : St} (h : Q .ret ρ σ) : thenQ T inr b Q .ret ρ σ := h
theorem blockQ_hit {id : Nat} {Q : Ex → Env → St → Prop} {ρ : Env} {σ : St} (h : Q .normal ρ σ) : blockQ id Q (.exit id) ρ σ := by simpa [blockQ] using h
theorem wp_skip {ρ : Env} {σ : St} {Q : Ex → Env → St → Prop} (h : Q .normal ρ σ) : Wp T inr .skip ρ σ Q := ⟨_, _, _, EvS.skip, h⟩
theorem wp_exit {i : Nat} {ρ : Env} {σ : St} {Q : Ex → Env → St → Prop} (h : Q (.exit i) ρ σ) : Wp T inr (.exit i) ρ σ Q := ⟨_, _, _, EvS.exit, h⟩
theorem wp_ret {ρ : Env} {σ : St} {Q : Ex → Env → St → Prop} (h : Q .ret ρ σ) : Wp T inr .ret ρ σ Q := ⟨_, _, _, EvS.ret, h⟩
theorem wp_scope {s : Stmt} {ρ : Env} {σ : St} {Q : Ex → Env → St → Prop} (h : Wp T inr s ρ σ Q) : Wp T inr (.scope s) ρ σ Q := ⟨h.out⟩
theorem wp_ite {c : Arg} {a b : Stmt} {ρ : Env} {σ : St} {Q : Ex → Env → St → Prop} {t : Bool} (hc : c.get ρ = .bool t) (h1 : t = true → Wp T inr a ρ σ Q) (h2 : t = false → Wp T inr b ρ σ Q) : Wp T inr (.ite c a b) ρ σ Q := by
  cases t with
  | true => obtain ⟨e, ρ', σ', k1, k2⟩ := (h1 rfl).out; exact ⟨e, ρ', σ', EvS.ite hc (by simpa using k1), k2⟩
  | false => obtain ⟨e, ρ', σ', k1, k2⟩ := (h2 rfl).out; exact ⟨e, ρ', σ', EvS.ite hc (by simpa using k1), k2⟩
theorem wp_true {c : Arg} {a b : Stmt} {ρ : Env} {σ : St} {Q : Ex → Env → St → Prop} (hc : c.get ρ = .bool true) (h : Wp T inr a ρ σ Q) : Wp T inr (.ite c a b) ρ σ Q := wp_ite hc (fun _ => h) (fun h => by cases h)
theorem wp_false {c : Arg} {a b : Stmt} {ρ : Env} {σ : St} {Q : Ex → Env → St → Prop} (hc : c.get ρ = .bool false) (h : Wp T inr b ρ σ Q) : Wp T inr (.ite c a b) ρ σ Q := wp_ite hc (fun h => by cases h) (fun _ => h)

/-- What the kernel evaluates. -/
theorem wp_run {s : Stmt} {ρ : Env} {σ : St} {Q : Ex → Env → St → Prop} (n : Nat) {r : Ex × Env × St} (h : evS (evC T n) n inr s ρ σ = some r) (hq : Q r.1 r.2.1 r.2.2) : Wp T inr s ρ σ Q := ⟨r.1, r.2.1, r.2.2, ⟨n, h⟩, hq⟩

def loopQ (I : Nat → Env → St → Prop) (n : Nat) (Q : Ex → Env → St → Prop) : Ex → Env → St → Prop
  | .normal, ρ, σ => ∃ m, m < n ∧ I m ρ σ
  | .exit i, ρ, σ => Q (.exit i) ρ σ
  | .ret, ρ, σ => Q .ret ρ σ

theorem loopQ_exit {I : Nat → Env → St → Prop} {n i : Nat} {Q : Ex → Env → St → Prop} {ρ : Env} {σ : St} (h : Q (.exit i) ρ σ) : loopQ I n Q (.exit i) ρ σ := h
theorem wp_loop {s : Stmt} {Q : Ex → Env → St → Prop} (I : Nat → Env → St → Prop) (h : ∀ n ρ σ, I n ρ σ → Wp T inr s ρ σ (loopQ I n Q)) : ∀ n ρ σ, I n ρ σ → Wp T inr (.loop s) ρ σ Q := by
  intro n
  induction n using Nat.strongRecOn with
  | _ n ih =>
    intro ρ σ hI
    obtain ⟨e, ρ1, σ1, h1, h2⟩ := (h n ρ σ hI).out
    cases e with
    | normal =>
      obtain ⟨m, hm, hI'⟩ := h2
      obtain ⟨e2, ρ2, σ2, k1, k2⟩ := (ih m hm ρ1 σ1 hI').out
      exact ⟨e2, ρ2, σ2, EvS.loop_more h1 k1, k2⟩
    | exit i => exact ⟨_, _, _, EvS.loop_out h1 (by simp), h2⟩
    | ret => exact ⟨_, _, _, EvS.loop_out h1 (by simp), h2⟩

/-! Operations. -/
structure Wo (T : Table) (l : List OpI) (ρ : Env) (σ : St) (R : Env → St → Prop) : Prop where
  of ::
  out : ∃ ρ' σ', evOps (clT T) l ρ σ = some (ρ', σ') ∧ R ρ' σ'

theorem wp_ops {l : List OpI} {ρ : Env} {σ : St} {Q : Ex → Env → St → Prop} (h : Wo T l ρ σ (Q .normal)) : Wp T inr (.ops l) ρ σ Q := by
  obtain ⟨ρ', σ', h1, h2⟩ := h.out
  exact ⟨_, _, _, EvS.ops h1, h2⟩
theorem wo_nil {ρ : Env} {σ : St} {R : Env → St → Prop} (h : R ρ σ) : Wo T [] ρ σ R := ⟨ρ, σ, rfl, h⟩
theorem wo_skip {d : Option Nat} {g : Option (Nat × Bool)} {i : Ins} {l : List OpI} {ρ : Env} {σ : St} {R : Env → St → Prop} (hg : guardA ρ g = some false) (h : Wo T l (ρ.upd d undefV) σ R) : Wo T (⟨d, g, i⟩ :: l) ρ σ R := by
  obtain ⟨ρ', σ', h1, h2⟩ := h.out
  exact ⟨ρ', σ', by simp only [evOps, hg]; exact h1, h2⟩
theorem wo_val {d : Option Nat} {g : Option (Nat × Bool)} {i : Ins} {l : List OpI} {ρ : Env} {σ : St} {R : Env → St → Prop} {v : Value} (hg : guardA ρ g = some true) (hs : step (clT T) ρ σ i = some (.val v)) (h : Wo T l (ρ.upd d v) σ R) : Wo T (⟨d, g, i⟩ :: l) ρ σ R := by
  obtain ⟨ρ', σ', h1, h2⟩ := h.out
  exact ⟨ρ', σ', by simp only [evOps, hg, hs]; exact h1, h2⟩
theorem wo_new {d : Option Nat} {g : Option (Nat × Bool)} {i : Ins} {l : List OpI} {ρ : Env} {σ : St} {R : Env → St → Prop} {x : AObj} {f : Nat → Value} (hg : guardA ρ g = some true) (hs : step (clT T) ρ σ i = some (.new x f))
    (h : Wo T l (ρ.upd d (f σ.next)) { σ.put σ.next (some x) with next := σ.next + 1 } R) : Wo T (⟨d, g, i⟩ :: l) ρ σ R := by
  obtain ⟨ρ', σ', h1, h2⟩ := h.out
  exact ⟨ρ', σ', by simp only [evOps, hg, hs]; exact h1, h2⟩
theorem wo_str {d : Option Nat} {g : Option (Nat × Bool)} {i : Ins} {l : List OpI} {ρ : Env} {σ σ1 : St} {R : Env → St → Prop} {v : Value} (hg : guardA ρ g = some true) (hs : step (clT T) ρ σ i = some (.str v σ1)) (h : Wo T l (ρ.upd d v) σ1 R) : Wo T (⟨d, g, i⟩ :: l) ρ σ R := by
  obtain ⟨ρ', σ', h1, h2⟩ := h.out
  exact ⟨ρ', σ', by simp only [evOps, hg, hs]; exact h1, h2⟩
theorem wo_call {d : Option Nat} {g : Option (Nat × Bool)} {f : FuncId} {args : List Arg} {l : List OpI} {ρ : Env} {σ σ1 : St} {R : Env → St → Prop} {v : Value} (hg : guardA ρ g = some true) (hs : clT T (.fn f) (args.map (·.get ρ)) σ = some (v, σ1)) (h : Wo T l (ρ.upd d v) σ1 R) :
    Wo T (⟨d, g, .call f args⟩ :: l) ρ σ R := by
  refine wo_str hg ?_ h
  simp only [step, evP, evR, evM, evW]
  show (clT T (.fn f) (args.map (·.get ρ)) σ).map _ = _
  rw [hs]; rfl

theorem wo_cmp {d : Option Nat} {g : Option (Nat × Bool)} {op : BinOp} {ek : EqK} {a b : Arg} {l : List OpI} {ρ : Env} {σ : St} {R : Env → St → Prop} {p : Bool} (hg : guardA ρ g = some true) (hs : evP ρ (.bin op ek a b) = some (.bool p)) (h : ∀ t, p = t → Wo T l (ρ.upd d (.bool t)) σ R) : Wo T (⟨d, g, .bin op ek a b⟩ :: l) ρ σ R :=
  wo_val hg (by simp only [step, hs]) (h p rfl)
theorem wo_mv {v : Value} {d : Option Nat} {g : Option (Nat × Bool)} {a : Arg} {l : List OpI} {ρ : Env} {σ : St} {R : Env → St → Prop} (hg : guardA ρ g = some true) (ha : a.get ρ = v) (h : Wo T l (ρ.upd d v) σ R) : Wo T (⟨d, g, .mov a⟩ :: l) ρ σ R :=
  wo_val hg (by simp only [step, evP, ha]) h
theorem wo_pickT {v : Value} {d : Option Nat} {g : Option (Nat × Bool)} {c a b : Arg} {l : List OpI} {ρ : Env} {σ : St} {R : Env → St → Prop} (hg : guardA ρ g = some true) (hc : c.get ρ = .bool true) (ha : a.get ρ = v) (h : Wo T l (ρ.upd d v) σ R) : Wo T (⟨d, g, .pick c a b⟩ :: l) ρ σ R :=
  wo_val hg (by simp only [step, evP, hc, ha, if_true]) h
theorem wo_pickF {v : Value} {d : Option Nat} {g : Option (Nat × Bool)} {c a b : Arg} {l : List OpI} {ρ : Env} {σ : St} {R : Env → St → Prop} (hg : guardA ρ g = some true) (hc : c.get ρ = .bool false) (hb : b.get ρ = v) (h : Wo T l (ρ.upd d v) σ R) : Wo T (⟨d, g, .pick c a b⟩ :: l) ρ σ R :=
  wo_val hg (by simp only [step, evP, hc, hb, Bool.false_eq_true, if_false]) h
theorem wo_fadr {d : Option Nat} {g : Option (Nat × Bool)} {off : Nat} {a : Arg} {l : List OpI} {ρ : Env} {σ : St} {R : Env → St → Prop} {k o : Nat} (hg : guardA ρ g = some true) (ha : a.get ρ = .pointer (some ⟨k, o, none⟩)) (h : Wo T l (ρ.upd d (.pointer (some ⟨k, o + off, none⟩))) σ R) : Wo T (⟨d, g, .fadr off a⟩ :: l) ρ σ R := by
  refine wo_val hg ?_ h
  simp only [step, evP, ha, addA]
  by_cases ho : off = 0
  · simp [ho]
  · simp [ho]
theorem wo_lenS {d : Option Nat} {g : Option (Nat × Bool)} {a : Arg} {l : List OpI} {ρ : Env} {σ : St} {R : Env → St → Prop} {s : ByteArray} (hg : guardA ρ g = some true) (ha : a.get ρ = .string s) (h : Wo T l (ρ.upd d (.int .i64 s.size)) σ R) : Wo T (⟨d, g, .lenS a⟩ :: l) ρ σ R :=
  wo_val hg (by simp only [step, evP, ha]) h
theorem wo_lenL {d : Option Nat} {g : Option (Nat × Bool)} {a : Arg} {l : List OpI} {ρ : Env} {σ : St} {R : Env → St → Prop} {p : Option Addr} {n c : Nat} (hg : guardA ρ g = some true) (ha : a.get ρ = .slice p n c) (h : Wo T l (ρ.upd d (.int .i64 n)) σ R) : Wo T (⟨d, g, .lenL a⟩ :: l) ρ σ R :=
  wo_val hg (by simp only [step, evP, ha]) h
theorem wo_ld {d : Option Nat} {g : Option (Nat × Bool)} {agg : Option Nat} {a : Arg} {l : List OpI} {ρ : Env} {σ : St} {R : Env → St → Prop} {k o : Nat} {cs : List Value} {v : Value} (hg : guardA ρ g = some true) (ha : a.get ρ = .pointer (some ⟨k, o, none⟩)) (hr : rowOf σ k = some cs) (hv : partA agg cs o = some v) (h : Wo T l (ρ.upd d v) σ R) :
    Wo T (⟨d, g, .ld agg a⟩ :: l) ρ σ R := by
  refine wo_val hg ?_ h
  simp only [step, evP, evR, ha, hr, hv, if_true]
theorem wrap_in (n : Int) (h0 : -9223372036854775808 ≤ n) (h1 : n ≤ 9223372036854775807) : IntKind.i64.wrap n = n := by rw [IntKind.wrap_i64]; omega
theorem wo_iadr {d : Option Nat} {g : Option (Nat × Bool)} {esz : Nat} {a i : Arg} {l : List OpI} {ρ : Env} {σ : St} {R : Env → St → Prop} {kb o len cap : Nat} {k : IntKind} {n : Int} (hg : guardA ρ g = some true) (ha : a.get ρ = .slice (some ⟨kb, o, none⟩) len cap) (hi : i.get ρ = .int k n) (h0 : 0 ≤ n) (h1 : n < (len : Int))
    (h : Wo T l (ρ.upd d (.pointer (some ⟨kb, o + n.toNat * esz, none⟩))) σ R) : Wo T (⟨d, g, .iadr esz a i⟩ :: l) ρ σ R := by
  refine wo_val hg ?_ h
  simp only [step, evP, ha, hi]
  rw [if_pos ⟨h0, h1⟩]
  simp only [addA]
  by_cases ho : n.toNat * esz = 0
  · simp [ho]
  · simp [ho]
theorem wo_iadrA {d : Option Nat} {g : Option (Nat × Bool)} {m esz : Nat} {a i : Arg} {l : List OpI} {ρ : Env} {σ : St} {R : Env → St → Prop} {kb o : Nat} {k : IntKind} {n : Int} (hg : guardA ρ g = some true) (ha : a.get ρ = .pointer (some ⟨kb, o, none⟩)) (hi : i.get ρ = .int k n) (h0 : 0 ≤ n) (h1 : n < (m : Int))
    (h : Wo T l (ρ.upd d (.pointer (some ⟨kb, o + n.toNat * esz, none⟩))) σ R) : Wo T (⟨d, g, .iadrA m esz a i⟩ :: l) ρ σ R := by
  refine wo_val hg ?_ h
  simp only [step, evP, ha, hi]
  rw [if_pos ⟨h0, h1⟩]
  simp only [addA]
  by_cases ho : n.toNat * esz = 0
  · simp [ho]
  · simp [ho]

theorem wp_code {f : FuncId} {ir : FIR} (hT : T f = some (.code ir)) {args : List Value} {σ : St} {Q : Value → St → Prop} (hl : args.length = ir.np)
    (h : Wp T false ir.body (initEnv args) σ fun e ρ' σ' => (∀ i, e ≠ .exit i) ∧ ∃ vs, resA ρ' σ' ir.res = some vs ∧ Q (tupA vs) σ') : ∃ v σ', clT T (.fn f) args σ = some (v, σ') ∧ Q v σ' := by
  obtain ⟨e, ρ', σ', h1, h2, vs, h3, h4⟩ := h.out
  exact ⟨_, _, clT_code hT hl h1 h2 h3, h4⟩

theorem Env.self (ρ : Env) (d : Nat) (v : Value) (h : ρ d = v) : ρ = ρ.upd (some d) v := by
  funext i
  simp only [Env.upd]
  by_cases hi : i = d
  · rw [if_pos hi, hi, h]
  · rw [if_neg hi]
end

theorem Env.two (ρ : Env) (a b : Nat) {va vb : Value} (ha : ρ a = va) (hb : ρ b = vb) : ρ = (ρ.upd (some a) va).upd (some b) vb := by
  funext i
  simp only [Env.upd]
  by_cases h1 : i = b
  · rw [if_pos h1, h1, hb]
  · rw [if_neg h1]
    by_cases h2 : i = a
    · rw [if_pos h2, h2, ha]
    · rw [if_neg h2]

/-! From a run to a row. -/
theorem calls_law {P : Program} {T : Table} (hT : TOk P T) (hmix : P.follows .mixedOrders = true) {f : FuncId} {args args' : List Value} {ir : FIR} (hf : T f = some (.code ir)) {w : World} {g : Gh} {σ σ' : St} (hG : Good P w g σ) (ha : LRel g args args')
    (h : clT T (.fn f) args σ = some (.bool true, σ')) :
    Calls P f ⟨args'⟩ w fun e w' => e = .returned (.bool true) ∧ w'.os = w.os ∧ w'.output = w.output ∧ ∀ i, i < w.heap.size → w'.heap[i]? = w.heap[i]? := by
  obtain ⟨fn, hfn, hfc⟩ := hT.code f ir hf
  rcases (clT_ok hT hmix).fn f args σ _ σ' h g w args' hG.rel ha with ⟨_, hc⟩ | ⟨_, v', w', g', hv, _⟩
  · refine hc.mono ?_
    rintro e w' ⟨v', g', rfl, hv, hgo⟩
    cases hv
    refine ⟨rfl, hgo.os, hgo.out, fun i hi => hgo.frm i hi ?_⟩
    rintro ⟨j, o, bs, hj, hro, _⟩
    have := hG.ro j o hj
    rw [hro] at this
    cases this
  · rw [callFunc_enter hfn hfc] at hv
    simp at hv

end Go.Eng
