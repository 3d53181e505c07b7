/-
  A region that draws its order: every order comes to what the interpreter says.
-/
import Derived.Test.YtgbcpfeopaidmaaEngS
set_option linter.all false
namespace Go.Eng
open Go

theorem Env.upd_at (ρ : Env) (d : Option Nat) (v : Value) (t : Nat) : (ρ.upd d v) t = if d = some t then v else ρ t := by
  cases d with
  | none => simp [Env.upd]
  | some d =>
    simp only [Env.upd, Option.some.injEq]
    by_cases h : t = d
    · simp [h]
    · rw [if_neg h, if_neg (fun e => h e.symm)]

/-! The temporaries, after some of the operations. -/
def envS (l : List OpI) (V : Nat → Value) (S : Nat → Bool) (ρ0 : Env) : Nat → Env
  | 0 => ρ0
  | k + 1 => if S k = true then (envS l V S ρ0 k).upd ((l[k]?).bind (·.dst)) (V k) else envS l V S ρ0 k

theorem envS_eq {l : List OpI} {V : Nat → Value} {S S' : Nat → Bool} {ρ0 : Env} {t : Nat} : ∀ {k : Nat}, (∀ m, m < k → (l[m]?).bind (·.dst) = some t → S m = S' m) → envS l V S ρ0 k t = envS l V S' ρ0 k t
  | 0, _ => rfl
  | k + 1, h => by
    have ih := envS_eq (k := k) (V := V) (ρ0 := ρ0) fun m hm => h m (by omega)
    simp only [envS]
    by_cases hd : (l[k]?).bind (·.dst) = some t
    · rw [h k (Nat.lt_succ_self k) hd]
      by_cases hs : S' k = true
      · simp only [hs, if_true, Env.upd_at, if_pos hd]
      · rw [if_neg hs, if_neg hs]; exact ih
    · have e : ∀ ρ : Env, (ρ.upd ((l[k]?).bind (·.dst)) (V k)) t = ρ t := fun ρ => by rw [Env.upd_at, if_neg hd]
      split <;> split <;> first | exact ih | (simp only [e]; exact ih)

def addS (S : Nat → Bool) (j : Nat) : Nat → Bool := fun m => if m = j then true else S m

theorem envS_add {l : List OpI} {V : Nat → Value} {S : Nat → Bool} {ρ0 : Env} {j : Nat} (hj : S j = false) : ∀ {k : Nat}, j < k → (∀ m, j < m → m < k → S m = true → ∀ t, (l[j]?).bind (·.dst) = some t → (l[m]?).bind (·.dst) ≠ some t) →
    envS l V (addS S j) ρ0 k = (envS l V S ρ0 k).upd ((l[j]?).bind (·.dst)) (V j)
  | 0, h, _ => by omega
  | k + 1, h, hd => by
    simp only [envS]
    by_cases e : k = j
    · subst e
      have h1 : addS S k k = true := by simp [addS]
      have h2 : envS l V (addS S k) ρ0 k = envS l V S ρ0 k := by
        funext t
        refine envS_eq fun m hm _ => ?_
        simp [addS, show m ≠ k by omega]
      rw [h1, hj, h2]
      simp
    · have ih := envS_add (l := l) (V := V) (ρ0 := ρ0) hj (k := k) (by omega) fun m h1 h2 => hd m h1 (by omega)
      have h1 : addS S j k = S k := by simp [addS, e]
      rw [h1]
      by_cases hs : S k = true
      · rw [if_pos hs, if_pos hs, ih]
        funext t
        simp only [Env.upd_at]
        by_cases ht : (l[j]?).bind (·.dst) = some t
        · have := hd k (by omega) (Nat.lt_succ_self k) hs t ht
          simp [ht, this]
        · simp [ht]
      · rw [if_neg hs, if_neg hs, ih]

/-! How many are left. -/
def unex (S : Nat → Bool) : Nat → Nat
  | 0 => 0
  | k + 1 => unex S k + if S k = true then 0 else 1

theorem unex_add_ge {S : Nat → Bool} {j : Nat} : ∀ {k : Nat}, k ≤ j → unex (addS S j) k = unex S k
  | 0, _ => rfl
  | k + 1, h => by
    simp only [unex, unex_add_ge (k := k) (S := S) (j := j) (by omega)]
    simp [addS, show k ≠ j by omega]
theorem unex_add {S : Nat → Bool} {j : Nat} (hj : S j = false) : ∀ {k : Nat}, j < k → unex (addS S j) k + 1 = unex S k
  | 0, h => by omega
  | k + 1, h => by
    simp only [unex]
    by_cases e : k = j
    · subst e
      rw [unex_add_ge (Nat.le_refl _)]
      simp [addS, hj]
    · have ih := unex_add hj (k := k) (by omega)
      simp only [addS, e, if_false]
      omega
theorem unex_zero {S : Nat → Bool} : ∀ {k : Nat}, unex S k = 0 → ∀ m, m < k → S m = true
  | 0, _, m, h => by omega
  | k + 1, h, m, hm => by
    simp only [unex] at h
    have h2 : S k = true := by
      by_cases hs : S k = true
      · exact hs
      · simp [hs] at h
    by_cases e : m = k
    · rw [e]; exact h2
    · exact unex_zero (k := k) (by omega) m (by omega)
theorem unex_le {S : Nat → Bool} : ∀ {k : Nat}, unex S k ≤ k
  | 0 => Nat.le_refl _
  | k + 1 => by simp only [unex]; have := unex_le (S := S) (k := k); split <;> omega

/-! What comes ahead of what. -/
theorem befO_bit {acc : List Nat} {e : Nat} : ∀ {es : List Edge}, (befO acc es).testBit e = true → ∃ x ∈ es, Region.binds .any x = true ∧ (x.on = e ∨ (acc.getD x.on 0).testBit e = true)
  | [], h => by simp [befO] at h
  | x :: es, h => by
    simp only [befO] at h
    split at h
    · rename_i hb
      simp only [Nat.testBit_or, Bool.or_eq_true] at h
      rcases h with (h | h) | h
      · refine ⟨x, by simp, hb, .inl ?_⟩
        rw [Nat.testBit_two_pow] at h
        simpa using h
      · exact ⟨x, by simp, hb, .inr h⟩
      · obtain ⟨y, h1, h2⟩ := befO_bit h
        exact ⟨y, by simp [h1], h2⟩
    · obtain ⟨y, h1, h2⟩ := befO_bit h
      exact ⟨y, by simp [h1], h2⟩

theorem befL_get {acc : List Nat} : ∀ {ops : List Oper}, (befL acc ops).take acc.length = acc ∧ ∀ m o, ops[m]? = some o → (befL acc ops).getD (acc.length + m) 0 = befO ((befL acc ops).take (acc.length + m)) o.after.toList
  | [] => ⟨by simp [befL], fun m o h => by simp at h⟩
  | x :: ops => by
    obtain ⟨h1, h2⟩ := befL_get (acc := acc ++ [befO acc x.after.toList]) (ops := ops)
    have h3 : (befL acc (x :: ops)) = befL (acc ++ [befO acc x.after.toList]) ops := rfl
    have h4 : (befL acc (x :: ops)).take acc.length = acc := by
      rw [h3]
      have := congrArg (List.take acc.length) h1
      rw [List.take_take] at this
      simpa using this
    refine ⟨h4, fun m o hm => ?_⟩
    cases m with
    | zero =>
      simp only [List.getElem?_cons_zero, Option.some.injEq] at hm
      subst hm
      rw [Nat.add_zero, h4, h3]
      have h5 : ((befL (acc ++ [befO acc x.after.toList]) ops).take (acc.length + 1)).getD acc.length 0 = befO acc x.after.toList := by
        have : acc.length + 1 = (acc ++ [befO acc x.after.toList]).length := by simp
        rw [this, h1]
        simp [List.getD_eq_getElem?_getD]
      refine Eq.trans ?_ h5
      simp only [List.getD_eq_getElem?_getD]
      rw [List.getElem?_take, if_pos (Nat.lt_succ_self _)]
    | succ m =>
      have := h2 m o (by simpa using hm)
      rw [h3]
      simp only [List.length_append, List.length_singleton] at this
      rw [show acc.length + (m + 1) = acc.length + 1 + m by omega]
      exact this

theorem befC_bit {ops : List Oper} {j e : Nat} {o : Oper} (hj : ops[j]? = some o) (h : ((befC ops).getD j 0).testBit e = true) :
    ∃ x ∈ o.after.toList, Region.binds .any x = true ∧ (x.on = e ∨ ((befC ops).getD x.on 0).testBit e = true) := by
  obtain ⟨_, h2⟩ := befL_get (acc := []) (ops := ops)
  have h3 := h2 j o hj
  simp only [List.length_nil, Nat.zero_add] at h3
  unfold befC at h ⊢
  rw [h3] at h
  obtain ⟨x, k1, k2, k3⟩ := befO_bit h
  refine ⟨x, k1, k2, k3.imp_right fun k => ?_⟩
  simp only [List.getD_eq_getElem?_getD] at k ⊢
  rw [List.getElem?_take] at k
  split at k
  · exact k
  · simp at k

def Did.isStr : Did → Bool
  | .str _ _ => true
  | _ => false

section
variable {P : Program} {cl : CallF} {base : Nat} {bef : List Nat} {l : List OpI} {E : Nat → Env} {T : Nat → St} {D : Nat → Did}

abbrev Bit (bef : List Nat) (j e : Nat) : Prop := (bef.getD j 0).testBit e = true

/-- What stands when some of the operations have run: those that change memory as far as 'c'. -/
structure Inv0 (P : Program) (base : Nat) (bef : List Nat) (l : List OpI) (E : Nat → Env) (T : Nat → St) (D : Nat → Did) (g0 : Gh) (σ0 : St) (w0 : World) (a0 : Act) (nt c : Nat) (S : Nat → Bool) (g : Gh) (a : Act) (w : World) : Prop where
  clo : ∀ j, S j = true → j < l.length ∧ ∀ e, Bit bef j e → S e = true
  le : c ≤ l.length
  below : ∀ e, e < c → (D e).isStr = true → S e = true
  above : ∀ e, c ≤ e → e < l.length → (D e).isStr = true → S e = false
  goes : Goes P g0 σ0 w0 g (T c) w
  room : base + l.length ≤ (T c).next
  env : ERel g nt (envS l (fun j => (D j).val (base + j)) S (E 0) l.length) a.tmps
  nog : ∀ j, j < l.length → (S j = false ∨ ∀ x f, D j ≠ .weak (.new x f)) → g.blk (base + j) = none
  pend : ∀ j x f, c ≤ j → j < l.length → S j = true → D j = .weak (.new x f) → ∃ b, g.blk (base + j) = some (b, 0) ∧ b < w.heap.size ∧ w0.heap.size ≤ b ∧ ORel P g (base + j) 0 w.heap[b]? x ∧ ∀ r, ¬ OwnR r g (T c) b
  apart : ∀ j k b b0 b1, c ≤ j → c ≤ k → j < l.length → k < l.length → g.blk (base + j) = some (b, b0) → g.blk (base + k) = some (b, b1) → j = k
  dead : ∀ m, m ≤ c → ∀ j, m ≤ j → j < l.length → (T m).get (base + j) = none
  defs : a.defers = a0.defers

variable {g0 : Gh} {σ0 : St} {w0 : World} {a0 : Act} {nt c : Nat} {S : Nat → Bool} {g : Gh} {a : Act} {w : World}

/-- An object that lies in the world already comes to be known. -/
theorem put_fresh {σ : St} (h : Goes P g0 σ0 w0 g σ w) {id : Nat} (h1 : σ0.next ≤ id) (h2 : id < σ.next) {x : AObj}
    (hx : ∀ b bs, g.blk id = some (b, bs) → w0.heap.size ≤ b ∧ ORel P g id bs w.heap[b]? x ∧ ∀ r, ¬ OwnR r g σ b) : Goes P g0 σ0 w0 g (σ.put id (some x)) w where
  le := h.le
  old := h.old
  nx := h.nx
  rel := by
    refine ⟨?_, ?_, h.rel.lt, ?_⟩
    · intro i o b bs hi hb
      rw [St.get_put] at hi
      split at hi
      · rename_i e; subst e; simp only [Option.some.injEq] at hi; subst hi; exact (hx _ _ hb).2.1
      · exact h.rel.obj _ _ _ _ hi hb
    · intro i j oi oj b bi bj hij hi hj hbi hbj
      rw [St.get_put] at hi hj
      split at hi
      · rename_i e
        subst e
        rw [if_neg (Ne.symm hij)] at hj
        exact absurd ⟨j, oj, bj, hj, rfl, hbj⟩ ((hx _ _ hbi).2.2 oj.ro)
      · split at hj
        · rename_i e
          subst e
          exact absurd ⟨i, oi, bi, hi, rfl, hbi⟩ ((hx _ _ hbj).2.2 oi.ro)
        · exact h.rel.sep _ _ _ _ _ _ _ hij hi hj hbi hbj
    · intro i hi
      have hi' : σ.next ≤ i := hi
      have := h.rel.fresh i hi'
      refine ⟨?_, this.2⟩
      rw [St.get_put, if_neg (by omega)]
      exact this.1
  size := h.size
  frm := h.frm
  own := by
    rintro r b hb ⟨i, o, bs, hi, hr, hbi⟩
    rw [St.get_put] at hi
    split at hi
    · rename_i e
      subst e
      have := (hx _ _ hbi).1
      omega
    · exact h.own r b hb ⟨i, o, bs, hi, hr, hbi⟩
  os := h.os
  out := h.out
  dead := by
    intro i hi hn
    rw [St.get_put, if_neg (by omega)]
    exact h.dead i hi hn

/-- One more place of the text is passed: it doesn't change memory. -/
theorem Inv0.pass (hD : DRun cl base bef l E T D) (hb : σ0.next = base) (h : Inv0 P base bef l E T D g0 σ0 w0 a0 nt c S g a w) (hc : c < l.length) (hs : (D c).isStr = false) : Inv0 P base bef l E T D g0 σ0 w0 a0 nt (c + 1) S g a w := by
  have hst := hD.st c l[c] (List.getElem?_eq_getElem hc)
  have base' : (T (c + 1) = T c ∧ ∀ x f, D c ≠ .weak (.new x f)) ∨ ∃ x f, D c = .weak (.new x f) ∧ T (c + 1) = (T c).put (base + c) (some x) := by
    cases hd : D c with
    | skip => rw [hd] at hst; exact .inl ⟨hst, by simp⟩
    | pure v => rw [hd] at hst; exact .inl ⟨hst, by simp⟩
    | str v s => rw [hd] at hs; simp [Did.isStr] at hs
    | weak r =>
      cases r with
      | val v => rw [hd] at hst; exact .inl ⟨hst, by simp⟩
      | str v s => rw [hd] at hst; exact .inl ⟨hst, by simp⟩
      | new x f => rw [hd] at hst; exact .inr ⟨x, f, rfl, hst⟩
  have below : ∀ e, e < c + 1 → (D e).isStr = true → S e = true := by
    intro e he hse
    rcases Nat.lt_or_ge e c with h' | h'
    · exact h.below e h' hse
    · have : e = c := by omega
      subst this; rw [hs] at hse; cases hse
  have above : ∀ e, c + 1 ≤ e → e < l.length → (D e).isStr = true → S e = false := fun e he => h.above e (by omega)
  have apart : ∀ j k b b0 b1, c + 1 ≤ j → c + 1 ≤ k → j < l.length → k < l.length → g.blk (base + j) = some (b, b0) → g.blk (base + k) = some (b, b1) → j = k := fun j k b b0 b1 h1 h2 => h.apart j k b b0 b1 (by omega) (by omega)
  rcases base' with ⟨ht, hn⟩ | ⟨x, f, hd, ht⟩
  · refine ⟨h.clo, hc, below, above, by rw [ht]; exact h.goes, by rw [ht]; exact h.room, h.env, h.nog, fun j x f hj => by rw [ht]; exact h.pend j x f (by omega), apart, ?_, h.defs⟩
    intro m hm j hmj hj
    by_cases e : m = c + 1
    · rw [e, ht]; exact h.dead c (Nat.le_refl _) j (by omega) hj
    · exact h.dead m (by omega) j hmj hj
  · have hk : ∀ b bs, g.blk (base + c) = some (b, bs) → w0.heap.size ≤ b ∧ ORel P g (base + c) bs w.heap[b]? x ∧ ∀ r, ¬ OwnR r g (T c) b := by
      intro b bs hbb
      have hS : S c = true := by
        cases hS : S c with
        | true => rfl
        | false => rw [h.nog c hc (.inl hS)] at hbb; cases hbb
      obtain ⟨b', h1, h2, h3, h4, h5⟩ := h.pend c x f (Nat.le_refl _) hc hS hd
      rw [h1] at hbb
      simp only [Option.some.injEq, Prod.mk.injEq] at hbb
      obtain ⟨rfl, rfl⟩ := hbb
      exact ⟨h3, h4, h5⟩
    have hroom := h.room
    refine ⟨h.clo, hc, below, above, ?_, by rw [ht]; exact h.room, h.env, h.nog, ?_, apart, ?_, h.defs⟩
    · rw [ht]
      exact put_fresh h.goes (by omega) (by omega) hk
    · intro j x' f' hj hjl hS hdj
      obtain ⟨b, h1, h2, h3, h4, h5⟩ := h.pend j x' f' (by omega) hjl hS hdj
      refine ⟨b, h1, h2, h3, h4, ?_⟩
      rintro r ⟨i, o, bs, hi, hr, hbi⟩
      rw [ht, St.get_put] at hi
      split at hi
      · rename_i e
        subst e
        have := h.apart c j b bs 0 (Nat.le_refl _) (by omega) hc hjl hbi h1
        omega
      · exact h5 r ⟨i, o, bs, hi, hr, hbi⟩
    · intro m hm j hmj hj
      by_cases e : m = c + 1
      · rw [e, ht, St.get_put, if_neg (by omega)]; exact h.dead c (Nat.le_refl _) j (by omega) hj
      · exact h.dead m (by omega) j hmj hj

theorem Inv0.settle (hD : DRun cl base bef l E T D) (hb : σ0.next = base) : ∀ (k : Nat) {c : Nat}, Inv0 P base bef l E T D g0 σ0 w0 a0 nt c S g a w → l.length - c ≤ k → ∃ c', Inv0 P base bef l E T D g0 σ0 w0 a0 nt c' S g a w ∧ (c' < l.length → (D c').isStr = true)
  | 0, c, h, hk => ⟨c, h, fun hc => by omega⟩
  | k + 1, c, h, hk => by
    by_cases hc : c < l.length
    · cases hs : (D c).isStr with
      | true => exact ⟨c, h, fun _ => hs⟩
      | false => exact Inv0.settle hD hb k (h.pass hD hb hc hs) (by omega)
    · exact ⟨c, h, fun hc' => absurd hc' hc⟩

end
end Go.Eng
