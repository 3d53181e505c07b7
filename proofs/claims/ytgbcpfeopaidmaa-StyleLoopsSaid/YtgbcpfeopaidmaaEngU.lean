/-
  A region that draws its order: the steps, and the whole.
-/
import Derived.Test.YtgbcpfeopaidmaaEngT
set_option linter.all false
namespace Go.Eng
open Go

theorem ORel.heap {P : Program} {g : Gh} {i base : Nat} {h h' : Option Obj} {o : AObj} (e : h' = h) (k : ORel P g i base h o) : ORel P g i base h' o := by rw [e]; exact k

theorem Rel.ext {P : Program} {g : Gh} {σ σ' : St} {w : World} (h : Rel P g σ w) (hn : σ'.next = σ.next) (hg : ∀ i, σ'.get i = σ.get i) : Rel P g σ' w where
  obj i o b bs h1 h2 := h.obj i o b bs (by rw [← hg]; exact h1) h2
  sep i j oi oj b bi bj h1 h2 h3 := h.sep i j oi oj b bi bj h1 (by rw [← hg]; exact h2) (by rw [← hg]; exact h3)
  lt := h.lt
  fresh i hi := by rw [hg]; exact h.fresh i (by rw [← hn]; exact hi)

theorem evM_self {ρ : Env} {σ : St} {i : Ins} {x : AObj} {f : Nat → Value} (h : evM ρ σ i = some (x, f)) : sameO x x = true := by
  cases i <;> simp only [evM] at h <;> (repeat' split at h) <;> (try simp only [Option.some.injEq, Prod.mk.injEq, reduceCtorEq] at h) <;>
    (obtain ⟨rfl, _⟩ := h; first | exact sameO_row _ _ _ _ _ | exact sameO_map _)

section
variable {P : Program} {g0 : Gh} {σ0 : St} {w0 : World} {g : Gh} {σ : St} {w : World}

/-- An object is made whose place in the abstract heap is known already, or not yet. -/
theorem drawn_new (h : Goes P g0 σ0 w0 g σ w) {id : Nat} {x : AObj} {v v' : Value} {w' : World} {g' : Gh} {b : Nat} (hm : Makes P g w w' id x v v' g' b) (h1 : σ0.next ≤ id) (h2 : id < σ.next) (hg : g.blk id = none) (hx : σ.get id = none ∨ σ.get id = some x) :
    Goes P g0 σ0 w0 g' σ w' ∧ (∀ b, b < w.heap.size → w'.heap[b]? = w.heap[b]?) ∧ (∀ b, b < w.heap.size → ∀ r, OwnR r g' σ b → OwnR r g σ b) := by
  obtain ⟨k1, k2, k3, k4⟩ := makes_goes h.rel hm hg h2
  have own : ∀ b, b < w.heap.size → ∀ r, OwnR r g' σ b → OwnR r g σ b := by
    rintro b hb r ⟨i, o, bs, hi, hr, hbi⟩
    refine k4 r b hb ⟨i, o, bs, ?_, hr, hbi⟩
    rw [St.get_put]
    split
    · rename_i e
      subst e
      rcases hx with hx | hx
      · rw [hx] at hi; cases hi
      · rw [← hx]; exact hi
    · exact hi
  have rel : Rel P g' σ w' := by
    rcases hx with hx | hx
    · have := (drop_goes k1 id).rel
      refine this.ext rfl fun i => ?_
      rw [St.get_put, St.get_put]
      split
      · rename_i e; subst e; exact hx
      · rfl
    · refine k1.ext rfl fun i => ?_
      rw [St.get_put]
      split
      · rename_i e; subst e; exact hx
      · rfl
  refine ⟨⟨Gh.le_trans h.le hm.le, fun i hi => (hm.old i (by omega)).trans (h.old i hi), h.nx, rel, Nat.le_trans h.size k2, fun b hb hn => (k3 b (Nat.lt_of_lt_of_le hb h.size)).trans (h.frm b hb hn),
    fun r b hb ho => h.own r b hb (own b (Nat.lt_of_lt_of_le hb h.size) r ho), hm.os.trans h.os, hm.out.trans h.out, h.dead⟩, k3, own⟩
end

section
variable {P : Program} {cl : CallF} {base : Nat} {bef : List Nat} {l : List OpI} {E : Nat → Env} {T : Nat → St} {D : Nat → Did}
variable {g0 : Gh} {σ0 : St} {w0 : World} {a0 : Act} {nt c : Nat} {S : Nat → Bool} {g : Gh} {a : Act} {w : World}

theorem addS_le {S : Nat → Bool} {j m : Nat} (h : S m = true) : addS S j m = true := by simp [addS, h]
theorem addS_ne {S : Nat → Bool} {j m : Nat} (h : m ≠ j) : addS S j m = S m := by simp [addS, h]
theorem addS_self {S : Nat → Bool} {j : Nat} : addS S j j = true := by simp [addS]

theorem clo_add (h : Inv0 P base bef l E T D g0 σ0 w0 a0 nt c S g a w) {j : Nat} (hj : j < l.length) (hr : ∀ e, Bit bef j e → S e = true) : ∀ m, addS S j m = true → m < l.length ∧ ∀ e, Bit bef m e → addS S j e = true := by
  intro m hm
  by_cases e : m = j
  · subst e; exact ⟨hj, fun e he => addS_le (hr e he)⟩
  · rw [addS_ne e] at hm
    obtain ⟨h1, h2⟩ := h.clo m hm
    exact ⟨h1, fun e he => addS_le (h2 e he)⟩

/-- What an operation reads is what it reads in the order of the text. -/
theorem Inv0.reads (hD : DRun cl base bef l E T D) (ht : tmpsOk l bef = true) (h : Inv0 P base bef l E T D g0 σ0 w0 a0 nt c S g a w) {j : Nat} {o : OpI} (hj : l[j]? = some o) (hS : S j = false) (hr : ∀ e, Bit bef j e → S e = true) :
    (∀ t ∈ opT o, envS l (fun j => (D j).val (base + j)) S (E 0) l.length t = E j t) ∧
    envS l (fun j => (D j).val (base + j)) (addS S j) (E 0) l.length = (envS l (fun j => (D j).val (base + j)) S (E 0) l.length).upd o.dst ((D j).val (base + j)) := by
  have hjl : j < l.length := (List.getElem?_eq_some_iff.1 hj).1
  -- two operations, one of which writes what the other names
  have pair : ∀ i k a b, i < k → l[i]? = some a → l[k]? = some b → Bit bef k i ∨ ((∀ t, a.dst = some t → t ∉ opT b ∧ b.dst ≠ some t) ∧ (∀ t, b.dst = some t → t ∉ opT a)) := by
    intro i k a b hik hi hk
    have hkl : k < l.length := (List.getElem?_eq_some_iff.1 hk).1
    simp only [tmpsOk, List.all_eq_true, List.mem_range] at ht
    have := ht k hkl i hik
    rw [hi, hk] at this
    simp only [Bool.or_eq_true, Bool.and_eq_true, Bool.not_eq_true'] at this
    rcases this with h | ⟨h1, h2⟩
    · exact .inl h
    · refine .inr ⟨fun t hta => ?_, fun t htb => ?_⟩
      · rw [hta] at h1
        simp only [Bool.or_eq_false_iff] at h1
        refine ⟨fun hm => ?_, fun e => ?_⟩
        · have := h1.1; simp at this; exact this hm
        · have := h1.2; rw [e] at this; simp at this
      · rw [htb] at h2
        intro hm
        simp at h2
        exact h2 hm
  have all : ∀ m ≤ l.length, E m = envS l (fun j => (D j).val (base + j)) (fun m' => decide (m' < m)) (E 0) l.length := by
    have step : ∀ m, m ≤ l.length → E m = envS l (fun j => (D j).val (base + j)) (fun _ => true) (E 0) m := by
      intro m
      induction m with
      | zero => intro _; rfl
      | succ m ih =>
        intro hm
        have hml : m < l.length := by omega
        simp only [envS, if_true]
        rw [hD.env m l[m] (List.getElem?_eq_getElem hml), ih (by omega), List.getElem?_eq_getElem hml]
        rfl
    intro m hm
    rw [step m hm]
    have ext : ∀ k, m ≤ k → envS l (fun j => (D j).val (base + j)) (fun m' => decide (m' < m)) (E 0) k = envS l (fun j => (D j).val (base + j)) (fun m' => decide (m' < m)) (E 0) m := by
      intro k
      induction k with
      | zero => intro hk; rw [show m = 0 by omega]
      | succ k ih =>
        intro hk
        by_cases e : m = k + 1
        · rw [e]
        · have : m ≤ k := by omega
          rw [← ih this]
          simp only [envS]
          rw [if_neg]
          simp; omega
    rw [ext l.length hm]
    funext t
    exact envS_eq fun m' h1 _ => by simp [h1]
  constructor
  · intro t hto
    rw [all j (by omega)]
    refine envS_eq fun m hm hd => ?_
    obtain ⟨om, hom⟩ : ∃ om, l[m]? = some om := ⟨_, List.getElem?_eq_getElem hm⟩
    rw [hom] at hd
    simp only [Option.bind_some] at hd
    rcases Nat.lt_trichotomy m j with h1 | h1 | h1
    · rw [show decide (m < j) = true by simp [h1]]
      rcases pair m j om o h1 hom hj with h2 | ⟨h2, _⟩
      · exact hr m h2
      · exact absurd hto (h2 t hd).1
    · subst h1; simp [hS]
    · rw [show decide (m < j) = false by simp; omega]
      rcases pair j m o om h1 hj hom with h2 | ⟨_, h2⟩
      · cases hSm : S m with
        | false => rfl
        | true => have := (h.clo m hSm).2 j h2; rw [hS] at this; cases this
      · exact absurd hto (h2 t hd)
  · have := envS_add (l := l) (V := fun j => (D j).val (base + j)) (ρ0 := E 0) hS hjl (by
      intro m h1 h2 hSm t hd
      obtain ⟨om, hom⟩ : ∃ om, l[m]? = some om := ⟨_, List.getElem?_eq_getElem h2⟩
      rw [hj] at hd
      rw [hom]
      simp only [Option.bind_some] at hd ⊢
      rcases pair j m o om h1 hj hom with h3 | ⟨h3, _⟩
      · have := (h.clo m hSm).2 j h3; rw [hS] at this; cases this
      · exact (h3 t hd).2)
    rw [this, hj]
    rfl

/-- What changes no memory says the same where we are. -/
theorem Inv0.still (hD : DRun cl base bef l E T D) (h : Inv0 P base bef l E T D g0 σ0 w0 a0 nt c S g a w) (hcs : c < l.length → (D c).isStr = true) {j : Nat} {o : OpI} (hj : l[j]? = some o) (hS : S j = false) (hr : ∀ e, Bit bef j e → S e = true) {r : Res} (hd : D j = .weak r)
    (he : stepS (E j) (T j) o.i = some r) : stillOk (base + j) (T c) (E j) o.i r = true ∧ (c ≤ j ∨ keptOk (base + j) (T c) r = true) := by
  have hjl : j < l.length := (List.getElem?_eq_some_iff.1 hj).1
  rcases Nat.lt_trichotomy j c with h1 | h1 | h1
  · -- behind: step by step
    have go : ∀ m, j + 1 ≤ m → m ≤ c → stillOk (base + j) (T m) (E j) o.i r = true ∧ keptOk (base + j) (T m) r = true := by
      intro m
      induction m with
      | zero => intro h2; omega
      | succ m ih =>
        intro h2 h3
        have hml : m < l.length := by have := h.le; omega
        have hst := hD.st m l[m] (List.getElem?_eq_getElem hml)
        by_cases e : m = j
        · subst e
          rw [hd] at hst
          cases r with
          | val v =>
            have hst' : T (m + 1) = T m := hst
            rw [hst']
            simp [stillOk, he, keptOk, sameV_refl]
          | str v s => exact (stepS_notStr he).elim
          | new x f =>
            have hst' : T (m + 1) = (T m).put (base + m) (some x) := hst
            have hsub : (T m).sub (T (m + 1)) := by
              intro i o hi
              rw [hst', St.get_put, if_neg]
              · exact hi
              · intro e; subst e; rw [h.dead m (by omega) m (Nat.le_refl _) hml] at hi; cases hi
            have hx : (T (m + 1)).get (base + m) = some x := by rw [hst', St.get_put, if_pos rfl]
            have hsx : sameO x x = true := by
              unfold stepS at he
              split at he
              · simp at he
              · split at he
                · simp at he
                · split at he
                  · rename_i o' f' hm
                    simp only [Option.some.injEq, Res.new.injEq] at he
                    obtain ⟨rfl, rfl⟩ := he
                    exact evM_self hm
                  · simp at he
            rw [show stillOk (base + m) (T (m + 1)) (E m) o.i (.new x f) = true by simp only [stillOk, stepS_mono hsub he, hsx, sameV_refl, Bool.and_self]]
            refine ⟨rfl, ?_⟩
            simp only [keptOk, hx, hsx]
        · obtain ⟨i1, i2⟩ := ih (by omega) (by omega)
          by_cases hs : (D m).isStr = true
          · have hSm := h.below m (by omega) hs
            rcases hD.pair j m o l[m] (by omega) hj (List.getElem?_eq_getElem hml) with hb | hp
            · have := (h.clo m hSm).2 j hb; rw [hS] at this; cases this
            · cases hdm : D m with
              | str v s =>
                rw [hdm] at hst
                have hst' : T (m + 1) = s := hst
                simp only [okP, hd, hdm, Bool.and_eq_true] at hp
                rw [hst']; exact hp
              | _ => rw [hdm] at hs; simp [Did.isStr] at hs
          · have hsub : (T m).sub (T (m + 1)) := by
              intro i o hi
              cases hdm : D m with
              | str v s => rw [hdm] at hs; simp [Did.isStr] at hs
              | skip => rw [hdm] at hst; rw [hst]; exact hi
              | pure v => rw [hdm] at hst; rw [hst]; exact hi
              | weak r' =>
                rw [hdm] at hst
                cases r' with
                | val v => rw [hst]; exact hi
                | str v s => rw [hst]; exact hi
                | new x f =>
                  rw [hst]
                  simp only [Did.after]
                  rw [St.get_put, if_neg]
                  · exact hi
                  · intro e; subst e; rw [h.dead m (by omega) m (Nat.le_refl _) hml] at hi; cases hi
            refine ⟨?_, ?_⟩
            · unfold stillOk at i1 ⊢
              cases hst2 : stepS (E j) (T m) o.i with
              | none => rw [hst2] at i1; simp at i1
              | some r2 => rw [stepS_mono hsub hst2]; rw [hst2] at i1; exact i1
            · unfold keptOk at i2 ⊢
              cases r with
              | new x f =>
                simp only at i2 ⊢
                cases hg : (T m).get (base + j) with
                | none => rw [hg] at i2; simp at i2
                | some o' => rw [hsub _ _ hg]; rw [hg] at i2; exact i2
              | _ => rfl
    obtain ⟨k1, k2⟩ := go c h1 (Nat.le_refl _)
    exact ⟨k1, .inr k2⟩
  · subst h1
    have := hcs hjl
    rw [hd] at this
    simp [Did.isStr] at this
  · have hcl : c < l.length := by omega
    have hs := hcs hcl
    refine ⟨?_, .inl (by omega)⟩
    rcases hD.pair c j l[c] o h1 (List.getElem?_eq_getElem hcl) hj with hb | hp
    · have := hr c hb
      rw [h.above c (Nat.le_refl _) hcl hs] at this
      cases this
    · cases hdc : D c with
      | str v s => simp only [okP, hdc, hd] at hp; exact hp
      | _ => rw [hdc] at hs; simp [Did.isStr] at hs

/-- After an operation that changes nothing. -/
theorem Inv0.val (h : Inv0 P base bef l E T D g0 σ0 w0 a0 nt c S g a w) {j : Nat} {o : OpI} (hj : l[j]? = some o) (hS : S j = false) (hr : ∀ e, Bit bef j e → S e = true) (hn : ∀ x f, D j ≠ .weak (.new x f)) (hs : (D j).isStr = false)
    {a' : Act} (hd : a'.defers = a.defers) (he : ERel g nt (envS l (fun j => (D j).val (base + j)) (addS S j) (E 0) l.length) a'.tmps) : Inv0 P base bef l E T D g0 σ0 w0 a0 nt c (addS S j) g a' w := by
  have hjl : j < l.length := (List.getElem?_eq_some_iff.1 hj).1
  refine ⟨clo_add h hjl hr, h.le, fun e h1 h2 => addS_le (h.below e h1 h2), ?_, h.goes, h.room, he, ?_, ?_, h.apart, h.dead, by rw [hd]; exact h.defs⟩
  · intro e h1 h2 h3
    rw [addS_ne]
    · exact h.above e h1 h2 h3
    · intro e'; subst e'; rw [hs] at h3; cases h3
  · intro m hm hx
    by_cases e : m = j
    · subst e; exact h.nog m hm (.inl hS)
    · rw [addS_ne e] at hx; exact h.nog m hm hx
  · intro m x f h1 h2 h3 h4
    have e : m ≠ j := fun e => by subst e; exact hn x f h4
    rw [addS_ne e] at h3
    exact h.pend m x f h1 h2 h3 h4

/-- After an operation that makes an object. -/
theorem Inv0.new (hb : σ0.next = base) (h : Inv0 P base bef l E T D g0 σ0 w0 a0 nt c S g a w) {j : Nat} {o : OpI} (hj : l[j]? = some o) (hS : S j = false) (hr : ∀ e, Bit bef j e → S e = true) {x : AObj} {f : Nat → Value} (hd : D j = .weak (.new x f))
    (hk : c ≤ j ∨ (T c).get (base + j) = some x) {v v' : Value} {w' : World} {g' : Gh} (hm : Makes P g w w' (base + j) x v v' g' w.heap.size)
    {a' : Act} (hda : a'.defers = a.defers) (he : ERel g' nt (envS l (fun j => (D j).val (base + j)) (addS S j) (E 0) l.length) a'.tmps) : Inv0 P base bef l E T D g0 σ0 w0 a0 nt c (addS S j) g' a' w' := by
  have hjl : j < l.length := (List.getElem?_eq_some_iff.1 hj).1
  have hgn := h.nog j hjl (.inl hS)
  have hroom := h.room
  obtain ⟨k1, k2, k3⟩ := drawn_new h.goes hm (by omega) (by omega) hgn (hk.imp (fun hc => h.dead c (Nat.le_refl _) j hc hjl) id)
  have hob : ∀ m, m ≠ j → g'.blk (base + m) = g.blk (base + m) := fun m hm' => hm.old _ (by omega)
  have hsz : w'.heap.size = w.heap.size + 1 := by obtain ⟨ob, e1, _⟩ := hm.heap; rw [e1]; simp
  refine ⟨clo_add h hjl hr, h.le, fun e h1 h2 => addS_le (h.below e h1 h2), ?_, k1, h.room, he, ?_, ?_, ?_, h.dead, by rw [hda]; exact h.defs⟩
  · intro e h1 h2 h3
    rw [addS_ne]
    · exact h.above e h1 h2 h3
    · intro e'; subst e'; rw [hd] at h3; cases h3
  · intro m hml hx
    by_cases e : m = j
    · subst e
      rcases hx with hx | hx
      · rw [addS_self] at hx; cases hx
      · exact absurd hd (hx x f)
    · rw [addS_ne e] at hx
      rw [hob m e]; exact h.nog m hml hx
  · intro m x1 f1 h1 h2 h3 h4
    by_cases e : m = j
    · subst e
      rw [hd] at h4
      simp only [Did.weak.injEq, Res.new.injEq] at h4
      obtain ⟨rfl, rfl⟩ := h4
      obtain ⟨ob, e1, e2⟩ := hm.heap
      refine ⟨w.heap.size, hm.blk, by omega, h.goes.size, ?_, ?_⟩
      · have : w'.heap[w.heap.size]? = some ob := by rw [e1]; simp
        rw [this]; exact e2
      · rintro r ⟨i, oi, bs, hi, _, hbi⟩
        by_cases ei : i = base + m
        · subst ei
          rw [h.dead c (Nat.le_refl _) m h1 h2] at hi
          cases hi
        · rw [hm.old i ei] at hbi
          have := h.goes.rel.lt _ _ _ hbi
          omega
    · rw [addS_ne e] at h3
      obtain ⟨b, q1, q2, q3, q4, q5⟩ := h.pend m x1 f1 h1 h2 h3 h4
      refine ⟨b, by rw [hob m e]; exact q1, by omega, q3, ?_, fun r ho => q5 r (k3 b q2 r ho)⟩
      rw [k2 b q2]
      exact q4.mono hm.le q1
  · intro m k b b0 b1 h1 h2 h3 h4 h5 h6
    by_cases e : m = j
    · by_cases e2 : k = j
      · rw [e, e2]
      · subst e
        rw [hob k e2] at h6
        rw [hm.blk] at h5
        simp only [Option.some.injEq, Prod.mk.injEq] at h5
        have := h.goes.rel.lt _ _ _ h6
        omega
    · rw [hob m e] at h5
      by_cases e2 : k = j
      · subst e2
        rw [hm.blk] at h6
        simp only [Option.some.injEq, Prod.mk.injEq] at h6
        have := h.goes.rel.lt _ _ _ h5
        omega
      · rw [hob k e2] at h6
        exact h.apart m k b b0 b1 h1 h2 h3 h4 h5 h6

/-- After an operation that changes memory. -/
theorem Inv0.str (hD : DRun cl base bef l E T D) (hb : σ0.next = base) (h : Inv0 P base bef l E T D g0 σ0 w0 a0 nt c S g a w) {o : OpI} (hj : l[c]? = some o) (hr : ∀ e, Bit bef c e → S e = true) {v : Value} {s : St} (hd : D c = .str v s)
    {w' : World} {g' : Gh} (hg : Goes P g (T c) w g' s w')
    {a' : Act} (hda : a'.defers = a.defers) (he : ERel g' nt (envS l (fun j => (D j).val (base + j)) (addS S c) (E 0) l.length) a'.tmps) : Inv0 P base bef l E T D g0 σ0 w0 a0 nt (c + 1) (addS S c) g' a' w' := by
  have hcl : c < l.length := (List.getElem?_eq_some_iff.1 hj).1
  have hst : T (c + 1) = s := by have := hD.st c o hj; rw [hd] at this; exact this
  have hroom := h.room
  have hob : ∀ m, m < l.length → g'.blk (base + m) = g.blk (base + m) := fun m hm' => hg.old _ (by omega)
  refine ⟨clo_add h hcl hr, hcl, ?_, ?_, by rw [hst]; exact h.goes.trans hg, by rw [hst]; exact Nat.le_trans hroom hg.nx, he, ?_, ?_, ?_, ?_, by rw [hda]; exact h.defs⟩
  · intro e h1 h2
    by_cases e' : e = c
    · rw [e']; exact addS_self
    · exact addS_le (h.below e (by omega) h2)
  · intro e h1 h2 h3
    rw [addS_ne (by omega)]
    exact h.above e (by omega) h2 h3
  · intro m hm hx
    rw [hob m hm]
    refine h.nog m hm ?_
    by_cases e : m = c
    · subst e; exact .inr (by rw [hd]; simp)
    · rw [addS_ne e] at hx; exact hx
  · intro m x f h1 h2 h3 h4
    rw [addS_ne (by omega)] at h3
    obtain ⟨b, q1, q2, q3, q4, q5⟩ := h.pend m x f (by omega) h2 h3 h4
    refine ⟨b, by rw [hob m h2]; exact q1, Nat.lt_of_lt_of_le q2 hg.size, q3, ?_, fun r ho => q5 r (hg.own r b q2 (by rw [hst] at ho; exact ho))⟩
    rw [hg.frm b q2 (q5 false)]
    exact q4.mono hg.le q1
  · intro m k b b0 b1 h1 h2 h3 h4 h5 h6
    rw [hob m h3] at h5
    rw [hob k h4] at h6
    exact h.apart m k b b0 b1 (by omega) (by omega) h3 h4 h5 h6
  · intro m hm j hmj hjl
    by_cases e : m = c + 1
    · rw [e, hst]
      exact hg.dead _ (by omega) (h.dead c (Nat.le_refl _) j (by omega) hjl)
    · exact h.dead m (by omega) j hmj hjl

end
end Go.Eng
