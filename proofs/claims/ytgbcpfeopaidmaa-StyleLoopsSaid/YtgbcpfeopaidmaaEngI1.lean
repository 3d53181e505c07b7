/-
  A claim's arguments as read-only rows of the abstract heap.
-/
import Derived.Test.YtgbcpfeopaidmaaEngZ
set_option linter.all false
namespace Go.Eng
open Go

/-- The kinds of the cells of a value. -/
inductive CK where
  | b
  | i (k : IntKind)
  | s
  | sl (e : TypeId)
  deriving DecidableEq

section
variable (P : Program)

def kindsL (f : TypeId → Option (List CK)) : List Field → Nat → Option (List CK)
  | [], _ => some []
  | d :: ds, off =>
    if d.offset ≠ off then none else
    match f d.type with
    | some m => (kindsL f ds (off + m.length)).map (m ++ ·)
    | none => none
def repK : Nat → List CK → List CK
  | 0, _ => []
  | n + 1, l => l ++ repK n l
def sizedK (t : TypeId) (l : List CK) : Option (List CK) := if P.cellsOf t = l.length ∧ l ≠ [] then some l else none
def kindsT : Nat → TypeId → Option (List CK)
  | 0, _ => none
  | d + 1, t =>
    match P.underlying t with
    | some .bool => sizedK P t [.b]
    | some (.int k) => sizedK P t [.i k]
    | some .string => sizedK P t [.s]
    | some (.slice e) =>
      match kindsT d e with
      | some _ => sizedK P t [.sl e]
      | none => none
    | some (.struct fs) => (kindsL (kindsT d) fs.toList 0).bind (sizedK P t)
    | some (.array n e) =>
      match kindsT d e with
      | some m => sizedK P t (repK n m)
      | none => none
    | _ => none

theorem sizedK_some {t : TypeId} {l m : List CK} (h : sizedK P t l = some m) : l = m ∧ P.cellsOf t = m.length ∧ m ≠ [] := by
  unfold sizedK at h
  split at h
  · rename_i hc; simp only [Option.some.injEq] at h; subst h; exact ⟨rfl, hc⟩
  · cases h

theorem kindsT_size : ∀ {d : Nat} {t : TypeId} {ks : List CK}, kindsT P d t = some ks → P.cellsOf t = ks.length ∧ ks ≠ []
  | 0, _, _, h => by simp [kindsT] at h
  | d + 1, t, ks, h => by
    unfold kindsT at h
    split at h
    · exact (sizedK_some P h).2
    · exact (sizedK_some P h).2
    · exact (sizedK_some P h).2
    · split at h
      · exact (sizedK_some P h).2
      · cases h
    · simp only [Option.bind_eq_some_iff] at h
      obtain ⟨_, _, h⟩ := h
      exact (sizedK_some P h).2
    · split at h
      · exact (sizedK_some P h).2
      · cases h
    · cases h

/-- What a cell of a kind holds, in the abstract heap. -/
def CellK (σ : St) : Nat → CK → Value → Prop
  | _, .b, v => ∃ b, v = .bool b
  | _, .i k, v => ∃ x, v = .int k x ∧ (Lit.int k x).wf = true
  | _, .s, v => ∃ s, v = .string s ∧ s.size ≤ maxLen
  | 0, .sl _, _ => False
  | n + 1, .sl e, v => v = .slice none 0 0 ∨ v = .slice (some ⟨0, 0, none⟩) 0 0 ∨
      ∃ k len cap row ks, v = .slice (some ⟨k, 0, none⟩) len cap ∧ len ≤ cap ∧ cap ≤ maxLen ∧ (∃ d, kindsT P d e = some ks) ∧ σ.get k = some (.row row ks.length false true) ∧ row.length = len * ks.length ∧
        ∀ j v c, row[j]? = some v → ks[j % ks.length]? = some c → CellK σ n c v

inductive CellsK (σ : St) (n : Nat) : List CK → List Value → Prop
  | nil : CellsK σ n [] []
  | cons {c : CK} {v : Value} {cs : List CK} {vs : List Value} (h : CellK P σ n c v) (t : CellsK σ n cs vs) : CellsK σ n (c :: cs) (v :: vs)
end

section
variable {P : Program} {w : World}

structure Good (P : Program) (w : World) (g : Gh) (σ : St) : Prop where
  rel : Rel P g σ w
  ro : ∀ i o, σ.get i = some o → o.ro = true

structure ExtS (g : Gh) (σ : St) (g' : Gh) (σ' : St) : Prop where
  le : g.le g'
  nx : σ.next ≤ σ'.next
  get : ∀ i, i < σ.next → σ'.get i = σ.get i

theorem ExtS.refl (g : Gh) (σ : St) : ExtS g σ g σ := ⟨g.le_refl, Nat.le_refl _, fun _ _ => rfl⟩
theorem ExtS.trans {g g' g'' : Gh} {σ σ' σ'' : St} (h : ExtS g σ g' σ') (k : ExtS g' σ' g'' σ'') : ExtS g σ g'' σ'' :=
  ⟨Gh.le_trans h.le k.le, Nat.le_trans h.nx k.nx, fun i hi => (k.get i (Nat.lt_of_lt_of_le hi h.nx)).trans (h.get i hi)⟩

theorem get_lt {g : Gh} {σ : St} (h : Rel P g σ w) {i : Nat} {o : AObj} (hi : σ.get i = some o) : i < σ.next := by
  rcases Nat.lt_or_ge i σ.next with h' | h'
  · exact h'
  · rw [(h.fresh i h').1] at hi; cases hi

theorem CellK.mono {g g' : Gh} {σ σ' : St} (hR : Rel P g σ w) (hx : ExtS g σ g' σ') : ∀ {n : Nat} {c : CK} {v : Value}, CellK P σ n c v → CellK P σ' n c v
  | 0, .b, v, h => h
  | 0, .i k, v, h => h
  | 0, .s, v, h => h
  | 0, .sl e, v, h => h
  | n + 1, .b, v, h => h
  | n + 1, .i k, v, h => h
  | n + 1, .s, v, h => h
  | n + 1, .sl e, v, h => by
    unfold CellK at h ⊢
    rcases h with h | h | ⟨k, len, cap, row, ks, h1, h2, h3, h4, h5, h6, h7⟩
    · exact .inl h
    · exact .inr (.inl h)
    · refine .inr (.inr ⟨k, len, cap, row, ks, h1, h2, h3, h4, ?_, h6, fun j v c hj hc => CellK.mono hR hx (h7 j v c hj hc)⟩)
      rw [hx.get k (get_lt hR h5)]; exact h5

theorem CellK.up {σ : St} : ∀ {n : Nat} {c : CK} {v : Value}, CellK P σ n c v → CellK P σ (n + 1) c v
  | 0, .b, v, h => h
  | 0, .i k, v, h => h
  | 0, .s, v, h => h
  | 0, .sl e, v, h => False.elim h
  | n + 1, .b, v, h => h
  | n + 1, .i k, v, h => h
  | n + 1, .s, v, h => h
  | n + 1, .sl e, v, h => by
    unfold CellK at h ⊢
    rcases h with h | h | ⟨k, len, cap, row, ks, h1, h2, h3, h4, h5, h6, h7⟩
    · exact .inl h
    · exact .inr (.inl h)
    · exact .inr (.inr ⟨k, len, cap, row, ks, h1, h2, h3, h4, h5, h6, fun j v c hj hc => CellK.up (h7 j v c hj hc)⟩)

theorem CellK.one {σ : St} {n : Nat} {c : CK} {v : Value} (h : CellK P σ n c v) : v.oneCell' = true := by
  cases c with
  | b => cases n <;> (obtain ⟨b, rfl⟩ := h; rfl)
  | i k => cases n <;> (obtain ⟨b, rfl, _⟩ := h; rfl)
  | s => cases n <;> (obtain ⟨b, rfl, _⟩ := h; rfl)
  | sl e =>
    cases n with
    | zero => exact False.elim h
    | succ n =>
      unfold CellK at h
      rcases h with rfl | rfl | ⟨k, len, cap, row, ks, rfl, _⟩ <;> rfl

namespace CellsK
variable {σ : St} {n : Nat}
theorem mono {g g' : Gh} {σ' : St} (hR : Rel P g σ w) (hx : ExtS g σ g' σ') {ks : List CK} {vs : List Value} (h : CellsK P σ n ks vs) : CellsK P σ' n ks vs := by
  induction h with
  | nil => exact .nil
  | cons h t ih => exact .cons (h.mono hR hx) ih
theorem up {ks : List CK} {vs : List Value} (h : CellsK P σ n ks vs) : CellsK P σ (n + 1) ks vs := by
  induction h with
  | nil => exact .nil
  | cons h t ih => exact .cons h.up ih
theorem length {ks : List CK} {vs : List Value} (h : CellsK P σ n ks vs) : vs.length = ks.length := by
  induction h with
  | nil => rfl
  | cons h t ih => simp [ih]
theorem append {ks ks' : List CK} {vs vs' : List Value} (h : CellsK P σ n ks vs) (h' : CellsK P σ n ks' vs') : CellsK P σ n (ks ++ ks') (vs ++ vs') := by
  induction h with
  | nil => exact h'
  | cons h t ih => exact .cons h ih
theorem get {ks : List CK} {vs : List Value} (h : CellsK P σ n ks vs) : ∀ {j : Nat} {v : Value} {c : CK}, vs[j]? = some v → ks[j]? = some c → CellK P σ n c v := by
  induction h with
  | nil => intro j v c hv; simp at hv
  | cons h t ih =>
    intro j v c hv hc
    cases j with
    | zero => simp at hv hc; subst hv; subst hc; exact h
    | succ j => exact ih (by simpa using hv) (by simpa using hc)
theorem one {ks : List CK} {vs : List Value} (h : CellsK P σ n ks vs) : vs.all (·.oneCell') = true := by
  induction h with
  | nil => rfl
  | cons h t ih => simp [h.one, ih]
end CellsK

theorem repK_get : ∀ (n : Nat) (ks : List CK) (j : Nat), j < n * ks.length → (repK n ks)[j]? = ks[j % ks.length]?
  | 0, ks, j, h => by simp at h
  | n + 1, ks, j, h => by
    rw [Nat.succ_mul] at h
    simp only [repK]
    by_cases hk : j < ks.length
    · rw [List.getElem?_append_left hk, Nat.mod_eq_of_lt hk]
    · have hk' : ks.length ≤ j := by omega
      rw [List.getElem?_append_right hk', repK_get n ks _ (by omega)]
      congr 1
      exact (Nat.mod_eq_sub_mod hk').symm
theorem repK_length : ∀ (n : Nat) (ks : List CK), (repK n ks).length = n * ks.length
  | 0, ks => by simp [repK]
  | n + 1, ks => by simp [repK, repK_length n ks, Nat.succ_mul, Nat.add_comm]

/-- A row that is read only, under the next number. -/
theorem good_row {g : Gh} {σ : St} (hG : Good P w g σ) {b base : Nat} {arr : Array Value} {el : TypeId} {fz : Nat × Nat} (hh : w.heap[b]? = some (.cells arr el fz)) {cs : List Value} {esz : Nat} (hone : cs.all (·.oneCell') = true) (hsz : base + cs.length ≤ arr.size) (hl : LRel g cs ((arr.toList.drop base).take cs.length)) :
    ∃ g', Good P w g' { σ.put σ.next (some (.row cs esz false true)) with next := σ.next + 1 } ∧ ExtS g σ g' { σ.put σ.next (some (.row cs esz false true)) with next := σ.next + 1 } ∧ g'.blk σ.next = some (b, base) := by
  have hR := hG.rel
  have hf := (hR.fresh σ.next (Nat.le_refl _)).2
  have hle := Gh.le_extB hf b base 0 0
  have hbk : ∀ j, j ≠ σ.next → (g.extB σ.next b base 0 0).blk j = g.blk j := fun j hj => by simp [Gh.extB, hj]
  have hbn : (g.extB σ.next b base 0 0).blk σ.next = some (b, base) := by simp [Gh.extB]
  have hget : ∀ j, ({ σ.put σ.next (some (.row cs esz false true)) with next := σ.next + 1 } : St).get j = if j = σ.next then some (.row cs esz false true) else σ.get j := fun j => St.get_put σ σ.next j _
  have hblt : b < w.heap.size := by
    rcases Nat.lt_or_ge b w.heap.size with h | h
    · exact h
    · rw [Array.getElem?_eq_none h] at hh; cases hh
  have hro : ∀ i o, ({ σ.put σ.next (some (.row cs esz false true)) with next := σ.next + 1 } : St).get i = some o → o.ro = true := by
    intro i o hi
    rw [hget] at hi
    split at hi
    · simp only [Option.some.injEq] at hi; subst hi; rfl
    · exact hG.ro i o hi
  refine ⟨g.extB σ.next b base 0 0, ⟨⟨?_, ?_, ?_, ?_⟩, hro⟩, ⟨hle, Nat.le_succ _, fun i hi => by rw [hget, if_neg (by omega)]⟩, hbn⟩
  · intro i oi x bs hi hb
    rw [hget] at hi
    by_cases hin : i = σ.next
    · subst hin
      rw [if_pos rfl] at hi
      simp only [Option.some.injEq] at hi
      subst hi
      rw [hbn] at hb
      simp only [Option.some.injEq, Prod.mk.injEq] at hb
      obtain ⟨rfl, rfl⟩ := hb
      exact ⟨hone, arr, el, fz, hh, hsz, hl.mono hle, (fun h => by cases h), (fun h => by cases h), (fun t ht => by cases ht)⟩
    · rw [if_neg hin] at hi
      rw [hbk i hin] at hb
      exact (hR.obj _ _ _ _ hi hb).mono hle hb
  · intro i j oi oj x bi bj hij hi hj h3 h4
    exact ⟨hro _ _ hi, hro _ _ hj⟩
  · intro i x bs hb
    by_cases hin : i = σ.next
    · subst hin
      rw [hbn] at hb
      simp only [Option.some.injEq, Prod.mk.injEq] at hb
      omega
    · rw [hbk i hin] at hb
      exact hR.lt _ _ _ hb
  · intro i hi
    have hi' : σ.next + 1 ≤ i := hi
    rw [hget, if_neg (by omega), hbk i (by omega)]
    exact hR.fresh i (by omega)

/-- What a reading says, as the abstract heap holds it. -/
def Imp (P : Program) (w : World) (m : Nat) (ks : List CK) (cs : List Value) : Prop :=
  ∀ g σ, Good P w g σ → ∃ g' σ' cs', ExtS g σ g' σ' ∧ Good P w g' σ' ∧ LRel g' cs' cs ∧ CellsK P σ' m ks cs'

theorem Imp.nil {m : Nat} : Imp P w m [] [] := fun g σ h => ⟨g, σ, [], ExtS.refl g σ, h, .nil, .nil⟩
theorem Imp.append {m : Nat} {k1 k2 : List CK} {c1 c2 : List Value} (h1 : Imp P w m k1 c1) (h2 : Imp P w m k2 c2) : Imp P w m (k1 ++ k2) (c1 ++ c2) := by
  intro g σ hG
  obtain ⟨g1, σ1, d1, x1, G1, l1, q1⟩ := h1 g σ hG
  obtain ⟨g2, σ2, d2, x2, G2, l2, q2⟩ := h2 g1 σ1 G1
  exact ⟨g2, σ2, d1 ++ d2, x1.trans x2, G2, (l1.mono x2.le).append l2, (q1.mono G1.rel x2).append q2⟩
theorem Imp.same {m : Nat} {k : CK} {v : Value} (hr : ∀ g, VRel g v v) (hk : ∀ σ, CellK P σ m k v) : Imp P w m [k] [v] :=
  fun g σ hG => ⟨g, σ, [v], ExtS.refl g σ, hG, .cons (hr g) .nil, .cons (hk σ) .nil⟩
theorem Imp.up {m : Nat} {ks : List CK} {cs : List Value} (h : Imp P w m ks cs) : Imp P w (m + 1) ks cs := by
  intro g σ hG
  obtain ⟨g1, σ1, d1, x1, G1, l1, q1⟩ := h g σ hG
  exact ⟨g1, σ1, d1, x1, G1, l1, q1.up⟩

variable {H : Type} {enc : TypeId × Value → H}

theorem mapM_mem {α β : Type} {f : α → Option β} : ∀ {l : List α} {r : List β}, l.mapM f = some r → ∀ x ∈ l, ∃ y, f x = some y
  | [], r, _, x, hx => by simp at hx
  | a :: l, r, h, x, hx => by
    simp only [List.mapM_cons, Option.bind_eq_bind, Option.bind_eq_some_iff] at h
    obtain ⟨y, h1, ys, h2, _⟩ := h
    rcases List.mem_cons.1 hx with rfl | hx
    · exact ⟨y, h1⟩
    · exact mapM_mem h2 x hx

theorem fields_imp {m n : Nat} {d : Nat} (ih : ∀ t cs x ks, DataW.trod enc P w 0 (fun _ => true) true n t cs = some x → kindsT P d t = some ks → Imp P w m ks cs) :
    ∀ (fs : List Field) (off : Nat) (cs : List Value) (ks : List CK), kindsL (kindsT P d) fs off = some ks → cs.length = off + ks.length →
      (∀ f ∈ fs, ∃ y, DataW.trod enc P w 0 (fun _ => true) true n f.type ((cs.drop f.offset).take (P.cellsOf f.type)) = some y) → Imp P w m ks (cs.drop off)
  | [], off, cs, ks, hk, hl, _ => by
    simp only [kindsL, Option.some.injEq] at hk
    subst hk
    rw [List.drop_of_length_le (by simp at hl; omega)]
    exact Imp.nil
  | f :: fs, off, cs, ks, hk, hl, hf => by
    unfold kindsL at hk
    split at hk
    · cases hk
    · rename_i ho
      have ho' : f.offset = off := Decidable.byContradiction ho
      split at hk
      · rename_i k1 hk1
        simp only [Option.map_eq_some_iff] at hk
        obtain ⟨k2, hk2, rfl⟩ := hk
        obtain ⟨y, hy⟩ := hf f (by simp)
        have hsz := (kindsT_size P hk1).1
        rw [ho', hsz] at hy
        have h1 := ih _ _ _ _ hy hk1
        have h2 := fields_imp ih fs (off + k1.length) cs k2 hk2 (by simp at hl; omega) fun f' hf' => hf f' (by simp [hf'])
        have := h1.append h2
        rw [← List.drop_drop, List.take_append_drop] at this
        exact this
      · cases hk

theorem array_imp {m : Nat} {ks : List CK} {cs : List Value} : ∀ (n off : Nat), cs.length = (off + n) * ks.length → (∀ i, off ≤ i → i < off + n → Imp P w m ks ((cs.drop (i * ks.length)).take ks.length)) → Imp P w m (repK n ks) (cs.drop (off * ks.length))
  | 0, off, hl, _ => by
    rw [List.drop_of_length_le (by rw [hl]; simp)]
    exact Imp.nil
  | n + 1, off, hl, h => by
    have h1 := h off (Nat.le_refl _) (by omega)
    have h2 := array_imp n (off + 1) (by rw [hl]; congr 1; omega) fun i h1 h2 => h i (by omega) (by omega)
    have := h1.append h2
    rw [Nat.succ_mul, ← List.drop_drop, List.take_append_drop] at this
    exact this

theorem cells_of {a : Addr} {n : Nat} {l : List Value} (h : w.cells? 0 a n = some l) : l.length = n ∧ ∀ j v, l[j]? = some v → w.cell? (a.add j) = some v := by
  unfold World.cells? at h
  rw [if_pos (Nat.zero_le _)] at h
  have key : ∀ (xs : List Nat) (l : List Value), xs.mapM (fun i => w.cell? (a.add i)) = some l → l.length = xs.length ∧ ∀ (j : Nat) (v : Value), l[j]? = some v → ∃ i, xs[j]? = some i ∧ w.cell? (a.add i) = some v := by
    intro xs
    induction xs with
    | nil => intro l h; simp at h; subst h; simp
    | cons x xs ih =>
      intro l h
      simp only [List.mapM_cons, Option.bind_eq_bind, Option.bind_eq_some_iff] at h
      obtain ⟨y, h1, ys, h2, h3⟩ := h
      simp only [Option.pure_def, Option.some.injEq] at h3
      subst h3
      obtain ⟨k1, k2⟩ := ih ys h2
      refine ⟨by simp [k1], fun j v hj => ?_⟩
      cases j with
      | zero => simp at hj; subst hj; exact ⟨x, rfl, h1⟩
      | succ j => simpa using k2 j v (by simpa using hj)
  obtain ⟨k1, k2⟩ := key _ _ h
  refine ⟨by simpa using k1, fun j v hj => ?_⟩
  obtain ⟨i, h1, h2⟩ := k2 j v hj
  have hlt : j < n := by
    have := (List.getElem?_eq_some_iff.1 hj).1
    simp at k1; omega
  rw [List.getElem?_range hlt] at h1
  simp only [Option.some.injEq] at h1
  subst h1
  exact h2

end
end Go.Eng
