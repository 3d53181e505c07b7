/-
  Slices of plain cells among a claim's arguments, under numbers of one's own.
-/
import Derived.Test.YtgbcpfeopaidmaaEngI3
set_option linter.all false
namespace Go.Eng
open Go

def CK.plain : CK → Bool
  | .sl _ => false
  | _ => true

section
variable {P : Program} {w : World}

/-- A cell that leads nowhere. -/
def plainV : Value → Prop
  | .bool _ | .int _ _ | .string _ => True
  | _ => False

theorem plain_rel {g g' : Gh} : ∀ {l l' : List Value}, (∀ x ∈ l, plainV x) → LRel g l l' → LRel g' l l' := by
  intro l
  induction l with
  | nil => intro l' _ h; cases h; exact .nil
  | cons v l ih =>
    intro l' hp h
    cases h with
    | cons h t =>
      refine .cons ?_ (ih (fun x hx => hp x (by simp [hx])) t)
      have := hp v (by simp)
      cases h <;> simp [plainV] at this <;> constructor

theorem plain_cell {σ : St} {n : Nat} {c : CK} {v : Value} (hc : c.plain = true) (h : CellK P σ n c v) : plainV v := by
  cases c with
  | b => cases n <;> (obtain ⟨b, rfl⟩ := h; trivial)
  | i k => cases n <;> (obtain ⟨b, rfl, _⟩ := h; trivial)
  | s => cases n <;> (obtain ⟨b, rfl, _⟩ := h; trivial)
  | sl e => simp [CK.plain] at hc

/-- A slice of plain cells: nothing to be read, or a row that is read only, under whatever number. -/
structure PlainSl (P : Program) (w : World) (ks : List CK) (v' : Value) (l c : Nat) (a : Nat → Option Addr) (o : Option AObj) (bk : Option (Nat × Nat)) : Prop where
  val : ∀ (g : Gh) j, g.blk j = bk → VRel g (.slice (a j) l c) v'
  obj : ∀ (g : Gh) j b base x, o = some x → bk = some (b, base) → ORel P g j base w.heap[b]? x
  ro : ∀ x, o = some x → x.ro = true
  lt : ∀ b base, bk = some (b, base) → b < w.heap.size
  row : l = 0 ∨ ∃ row, (∀ j, a j = some ⟨j, 0, none⟩) ∧ o = some (.row row ks.length false true) ∧ row.length = l * ks.length ∧ ∀ (j : Nat) (u : Value) (k : CK), row[j]? = some u → ks[j % ks.length]? = some k → (match k with | .b => ∃ b, u = .bool b | .i q => ∃ x, u = .int q x ∧ (Lit.int q x).wf = true | .s => ∃ s, u = .string s ∧ s.size ≤ maxLen | .sl _ => False)

theorem plain_sl {g : Gh} {σ : St} {n : Nat} {e : TypeId} {ks : List CK} {v v' : Value} (hR : Rel P g σ w) (hk : ∀ d' ks', kindsT P d' e = some ks' → ks' = ks) (hp : ks.all CK.plain = true) (hc : CellK P σ n (.sl e) v) (hv : VRel g v v') :
    ∃ l c a o bk, PlainSl P w ks v' l c a o bk ∧ c ≤ maxLen ∧ l ≤ c := by
  cases n with
  | zero => exact False.elim hc
  | succ n =>
    unfold CellK at hc
    rcases hc with rfl | rfl | ⟨k, len, cap, row, ks', rfl, hlc, hcm, ⟨d', hks⟩, hg, hrl, hcell⟩
    · cases hv
      exact ⟨0, 0, fun _ => none, none, none, ⟨fun g j _ => .sl0, (fun _ _ _ _ _ h => by cases h), (fun _ h => by cases h), (fun _ _ h => by cases h), .inl rfl⟩, Nat.zero_le _, Nat.le_refl _⟩
    · have hz : ∃ a', v' = .slice (some a') 0 0 := by
        cases hv with
        | sl hb hl hu hcap =>
          rcases hcap with h | h
          · subst h; exact ⟨_, rfl⟩
          · exact absurd h.1 (by decide)
        | slz => exact ⟨_, rfl⟩
      obtain ⟨a', rfl⟩ := hz
      exact ⟨0, 0, fun _ => some ⟨0, 0, none⟩, none, none, ⟨fun g j _ => .slz, (fun _ _ _ _ _ h => by cases h), (fun _ h => by cases h), (fun _ _ h => by cases h), .inl rfl⟩, Nat.zero_le _, Nat.le_refl _⟩
    · obtain rfl := hk _ _ hks
      have hm : maxLen = 9223372036854775807 := by decide
      have hpl : ∀ x ∈ row, plainV x := by
        intro x hx
        obtain ⟨j, hj⟩ := List.mem_iff_getElem?.1 hx
        have hpos := kinds_ne hks
        have hlt : j % ks'.length < ks'.length := Nat.mod_lt _ hpos
        have hck := hcell j x _ hj (List.getElem?_eq_getElem hlt)
        exact plain_cell (List.all_eq_true.1 hp _ (List.getElem_mem hlt)) hck
      cases hv with
      | sl hb hl hu hcap =>
        rename_i b base c'
        obtain rfl : c' = cap := by
          rcases hcap with h | h
          · exact h
          · exact absurd h.1 (by unfold capU; omega)
        obtain ⟨h0, arr, el, fz, h1, h2, h3, h4, h5, h6⟩ := hR.obj _ _ _ _ hg hb
        refine ⟨len, c', fun j => some ⟨j, 0, none⟩, some (.row row ks'.length false true), some (b, base), ⟨fun g j hj => .sl hj hl hu (.inl rfl), ?_, ?_, ?_, .inr ⟨row, fun _ => rfl, rfl, hrl, ?_⟩⟩, hcm, hlc⟩
        · rintro g' j b' base' x hx hbk
          simp only [Option.some.injEq] at hx
          subst hx
          simp only [Option.some.injEq, Prod.mk.injEq] at hbk
          obtain ⟨rfl, rfl⟩ := hbk
          exact ⟨h0, arr, el, fz, h1, h2, plain_rel hpl h3, (fun h => by cases h), (fun h => by cases h), fun t ht => by cases ht⟩
        · rintro x hx
          simp only [Option.some.injEq] at hx
          subst hx; rfl
        · rintro b' base' hbk
          simp only [Option.some.injEq, Prod.mk.injEq] at hbk
          obtain ⟨rfl, rfl⟩ := hbk
          exact hR.lt _ _ _ hb
        · intro j u k hj hk'
          have := hcell j u k hj hk'
          cases k with
          | b => cases n <;> exact this
          | i q => cases n <;> exact this
          | s => cases n <;> exact this
          | sl e' =>
            have hpk := List.all_eq_true.1 hp _ (List.mem_of_getElem? hk')
            simp [CK.plain] at hpk
      | slz => exact ⟨0, 0, fun _ => some ⟨0, 0, none⟩, none, none, ⟨fun g j _ => .slz, (fun _ _ _ _ _ h => by cases h), (fun _ h => by cases h), (fun _ _ h => by cases h), .inl rfl⟩, Nat.zero_le _, Nat.le_refl _⟩
      | slu hb hj => exact absurd hcm (by rw [hm]; unfold capU; omega)

/-- Three objects. -/
def st3 (o0 o1 o2 : Option AObj) : St := ⟨.node (.node .nil o1 .nil) o0 (.node .nil o2 .nil), 3⟩
def gh3 (b0 b1 b2 : Option (Nat × Nat)) : Gh := ⟨fun i => if i = 0 then b0 else if i = 1 then b1 else if i = 2 then b2 else none, fun _ => 0, fun _ => 0⟩

theorem st3_get (o0 o1 o2 : Option AObj) (i : Nat) : (st3 o0 o1 o2).get i = if i = 0 then o0 else if i = 1 then o1 else if i = 2 then o2 else none := by
  match i with
  | 0 => rfl
  | 1 => rfl
  | 2 => rfl
  | i + 3 =>
    rw [if_neg (by omega), if_neg (by omega), if_neg (by omega)]
    show (Tr.node _ _ _).get (i + 3) = none
    simp only [Tr.get, st3]
    rw [if_neg (by omega)]
    split
    · rw [if_neg (by omega)]; split <;> simp [Tr.get_nil]
    · rw [if_neg (by omega)]; split <;> simp [Tr.get_nil]

theorem good3 {ks0 ks1 ks2 : List CK} {v0 v1 v2 : Value} {l0 c0 l1 c1 l2 c2 : Nat} {a0 a1 a2 : Nat → Option Addr} {o0 o1 o2 : Option AObj} {b0 b1 b2 : Option (Nat × Nat)} (h0 : PlainSl P w ks0 v0 l0 c0 a0 o0 b0) (h1 : PlainSl P w ks1 v1 l1 c1 a1 o1 b1) (h2 : PlainSl P w ks2 v2 l2 c2 a2 o2 b2) :
    Good P w (gh3 b0 b1 b2) (st3 o0 o1 o2) := by
  have hro : ∀ i o, (st3 o0 o1 o2).get i = some o → o.ro = true := by
    intro i o hi
    rw [st3_get] at hi
    split at hi
    · exact h0.ro _ hi
    · split at hi
      · exact h1.ro _ hi
      · split at hi
        · exact h2.ro _ hi
        · cases hi
  refine ⟨⟨?_, ?_, ?_, ?_⟩, hro⟩
  · intro i o b base hi hb
    rw [st3_get] at hi
    simp only [gh3] at hb
    split at hi
    · rename_i h; subst h; exact h0.obj _ _ _ _ _ hi (by simpa using hb)
    · rename_i e0
      rw [if_neg e0] at hb
      split at hi
      · rename_i h; rw [if_pos h] at hb; exact h1.obj _ _ _ _ _ hi hb
      · rename_i e1
        rw [if_neg e1] at hb
        split at hi
        · rename_i h; rw [if_pos h] at hb; exact h2.obj _ _ _ _ _ hi hb
        · cases hi
  · intro i j oi oj b bi bj _ hi hj _ _
    exact ⟨hro _ _ hi, hro _ _ hj⟩
  · intro i b base hb
    simp only [gh3] at hb
    split at hb
    · exact h0.lt _ _ hb
    · split at hb
      · exact h1.lt _ _ hb
      · split at hb
        · exact h2.lt _ _ hb
        · cases hb
  · intro i hi
    have hi' : 3 ≤ i := hi
    refine ⟨?_, ?_⟩
    · rw [st3_get, if_neg (by omega), if_neg (by omega), if_neg (by omega)]
    · simp only [gh3]
      rw [if_neg (by omega), if_neg (by omega), if_neg (by omega)]

end

/-- What the kernel evaluates, told by its results alone. -/
theorem wp_eval {T : Table} {inr : Bool} {s : Stmt} {ρ : Env} {σ : St} {Q : Ex → Env → St → Prop} (n : Nat) {e : Ex} {res : List (Nat × Option (Option Nat))} {vs : List Value} (h : (evS (evC T n) n inr s ρ σ).map (fun r => (r.1, resA r.2.1 r.2.2 res)) = some (e, some vs))
    (hq : ∀ ρ' σ', resA ρ' σ' res = some vs → Q e ρ' σ') : Wp T inr s ρ σ Q := by
  cases hr : evS (evC T n) n inr s ρ σ with
  | none => rw [hr] at h; simp at h
  | some r =>
    rw [hr] at h
    simp only [Option.map_some, Option.some.injEq, Prod.mk.injEq] at h
    obtain ⟨h1, h2⟩ := h
    refine wp_run n hr ?_
    rw [h1]
    exact hq _ _ h2

end Go.Eng
