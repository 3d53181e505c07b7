/-
  Comparisons by the kind of a type.
-/
import Derived.Test.YtgbcpfeopaidmaaEngE
set_option linter.all false
namespace Go.Eng
open Go

section
variable {P : Program} {w : World}

theorem o2_some {α : Type} {x : Option α} {f : α → Option Ins} {i : Ins} : o2 x f = some i ↔ ∃ a, x = some a ∧ f a = some i := by
  unfold o2; exact Option.bind_eq_some_iff

theorem eqK_flatP {t : TypeId} {ks : List Sk} (h : eqK P t = .flat ks) : P.eqGuardType P.depth t = false ∧ flatT P 8 t = some ks ∧ (∃ fs, P.underlying t = some (.struct fs)) ∨ P.eqGuardType P.depth t = false ∧ flatT P 8 t = some ks ∧ (∃ n e, P.underlying t = some (.array n e)) := by
  cases hu : P.underlying t with
  | none => simp [eqK, hu] at h
  | some d =>
    cases d <;> simp only [eqK, hu] at h <;> first
      | (simp at h; done)
      | (split at h
         · simp at h
         · rename_i hg
           split at h
           · rename_i ks' hk
             simp at h; subst h
             first
               | exact .inl ⟨by simpa using hg, hk, _, rfl⟩
               | exact .inr ⟨by simpa using hg, hk, _, _, rfl⟩
           · simp at h)

theorem eqK_bool {t : TypeId} (h : eqK P t = .bool) : P.underlying t = some .bool := by
  cases hu : P.underlying t with
  | none => simp [eqK, hu] at h
  | some d =>
    cases d <;> simp only [eqK, hu] at h <;> first
      | rfl
      | (simp at h; done)
      | (split at h
         · simp at h
         · split at h <;> simp at h)
theorem eqK_ptr {t : TypeId} (h : eqK P t = .ptr) : ∃ e, P.underlying t = some (.pointer e) := by
  cases hu : P.underlying t with
  | none => simp [eqK, hu] at h
  | some d =>
    cases d <;> simp only [eqK, hu] at h <;> first
      | exact ⟨_, rfl⟩
      | (simp at h; done)
      | (split at h
         · simp at h
         · split at h <;> simp at h)
theorem eqK_sl {t : TypeId} (h : eqK P t = .sl) : ∃ e, P.underlying t = some (.slice e) := by
  cases hu : P.underlying t with
  | none => simp [eqK, hu] at h
  | some d =>
    cases d <;> simp only [eqK, hu] at h <;> first
      | exact ⟨_, rfl⟩
      | (simp at h; done)
      | (split at h
         · simp at h
         · split at h <;> simp at h)
theorem eqK_map {t : TypeId} (h : eqK P t = .map) : ∃ k e, P.underlying t = some (.map k e) := by
  cases hu : P.underlying t with
  | none => simp [eqK, hu] at h
  | some d =>
    cases d <;> simp only [eqK, hu] at h <;> first
      | exact ⟨_, _, rfl⟩
      | (simp at h; done)
      | (split at h
         · simp at h
         · split at h <;> simp at h)
theorem eqK_fn {t : TypeId} (h : eqK P t = .fn) : ∃ a b c, P.underlying t = some (.func a b c) := by
  cases hu : P.underlying t with
  | none => simp [eqK, hu] at h
  | some d =>
    cases d <;> simp only [eqK, hu] at h <;> first
      | exact ⟨_, _, _, rfl⟩
      | (simp at h; done)
      | (split at h
         · simp at h
         · split at h <;> simp at h)

theorem eqIn_ok (d : Nat) (hd : 8 ≤ d) {g : Gh} {t : TypeId} {x y x' y' : Value} {b : Bool} (h : eqA (eqK P t) x y = some b) (hx : VRel g x x') (hy : VRel g y y') :
    (Op.equalIn (d + 1) t x' y').run P w = .ok b w := by
  generalize hk : eqK P t = k at h
  unfold eqA at h
  split at h
  · have hu := eqK_bool hk
    cases hx; cases hy
    simp only [Option.some.injEq] at h
    simp [Op.equalIn, run_und hu, h]
  · obtain ⟨e, hu⟩ := eqK_ptr hk
    cases hx
    simp only [Option.some.injEq] at h
    subst h
    cases hy <;> simp [Op.equalIn, run_und hu]
  · obtain ⟨e, hu⟩ := eqK_ptr hk
    cases hy
    simp only [Option.some.injEq] at h
    subst h
    cases hx; simp [Op.equalIn, run_und hu]
  · obtain ⟨e, hu⟩ := eqK_sl hk
    cases hx
    simp only [Option.some.injEq] at h
    subst h
    cases hy <;> simp [Op.equalIn, run_und hu]
  · obtain ⟨e, hu⟩ := eqK_sl hk
    cases hy
    simp only [Option.some.injEq] at h
    subst h
    cases hx <;> simp [Op.equalIn, run_und hu]
  · obtain ⟨e, f, hu⟩ := eqK_map hk
    cases hx
    simp only [Option.some.injEq] at h
    subst h
    cases hy <;> simp [Op.equalIn, run_und hu]
  · obtain ⟨e, f, hu⟩ := eqK_map hk
    cases hy
    simp only [Option.some.injEq] at h
    subst h
    cases hx; simp [Op.equalIn, run_und hu]
  · obtain ⟨e, f, r, hu⟩ := eqK_fn hk
    cases hx; cases hy
    simp only [Option.some.injEq] at h
    subst h
    simp [Op.equalIn, run_und hu]
  · obtain ⟨e, f, r, hu⟩ := eqK_fn hk
    cases hx
    simp only [Option.some.injEq] at h
    subst h
    cases hy <;> simp [Op.equalIn, run_und hu]
  · obtain ⟨e, f, r, hu⟩ := eqK_fn hk
    cases hy
    simp only [Option.some.injEq] at h
    subst h
    cases hx <;> simp [Op.equalIn, run_und hu]
  · rename_i ks xs ys
    split at h
    · rename_i hl
      cases hx with
      | agg hx =>
        cases hy with
        | agg hy =>
          have he := scEqs_rel h hx hy
          rcases eqK_flatP hk with ⟨_, hf, fs, hu⟩ | ⟨_, hf, n, e, hu⟩
          · have := flat_eq (w := w) 8 hf (d + 1) (by omega) (by rw [← hx.length]; exact hl.1) (by rw [← hy.length]; exact hl.2) he
            simpa [mkV, hu] using this
          · have := flat_eq (w := w) 8 hf (d + 1) (by omega) (by rw [← hx.length]; exact hl.1) (by rw [← hy.length]; exact hl.2) he
            simpa [mkV, hu] using this
    · simp at h
  · simp at h

theorem eqA_ok {g : Gh} {t : TypeId} {x y x' y' : Value} {b : Bool} (h : eqA (eqK P t) x y = some b) (hx : VRel g x x') (hy : VRel g y y') :
    (Op.equal t x' y').run P w = .ok b w := eqIn_ok 9999 (by omega) h hx hy

theorem guard_ok {g : Gh} {op : BinOp} {t : TypeId} {o1 o2 : Operand} {x y x' y' v : Value} (h : binA op (eqK P t) x y = some v) (hx : VRel g x x') (hy : VRel g y y') :
    (eqGuard op t o1 o2 x' y').run P w = .ok () w := by
  cases hx with
  | if0 => cases hy <;> cases op <;> simp [binA, eqA] at h
  | agg hx =>
    cases hy with
    | agg hy =>
      generalize hk : eqK P t = k at h
      have hg : op = .eql ∨ op = .neq → P.eqGuardType P.depth t = false := by
        intro ho
        cases k with
        | flat ks => rcases eqK_flatP hk with ⟨h1, _⟩ | ⟨h1, _⟩ <;> exact h1
        | _ => rcases ho with rfl | rfl <;> simp [binA, eqA] at h
      cases op <;> first
        | (simp [eqGuard, hg (.inl rfl)]; done)
        | (simp [eqGuard, hg (.inr rfl)]; done)
        | simp [eqGuard]
    | _ => cases op <;> simp [eqGuard]
  | _ => cases hy <;> cases op <;> simp [eqGuard]

theorem strOp_bin (op : BinOp) (t : TypeId) (a b : ByteArray) : binOp op t (.string a) (.string b) = Op.stringOp op a b := by
  cases op <;> rfl

theorem binA_ok {g : Gh} {op : BinOp} {t : TypeId} {x y x' y' v : Value} (h : binA op (eqK P t) x y = some v) (hx : VRel g x x') (hy : VRel g y y') :
    ∃ v', (binOp op t x' y').run P w = .ok v' w ∧ VRel g v v' := by
  unfold binA at h
  split at h
  · cases hx; cases hy
    split at h
    · split at h
      · simp at h
      · rename_i hn
        simp at h; subst h
        exact ⟨_, by simp [binOp, Op.shift, hn], .int _ _⟩
    · split at h
      · simp at h
      · rename_i hn
        simp at h; subst h
        exact ⟨_, by simp [binOp, Op.shift, hn], .int _ _⟩
    · rename_i h1 h2
      split at h
      · rename_i hj
        subst hj
        obtain ⟨e1, e2⟩ := intA_ok (P := P) (w := w) (t := t) h ⟨h1, h2⟩
        exact ⟨v, e1, e2 g⟩
      · simp at h
  · cases hx; cases hy
    obtain ⟨e1, e2⟩ := strA_ok (P := P) (w := w) h
    exact ⟨v, by rw [strOp_bin]; exact e1, e2 g⟩
  · rename_i hni hns
    split at h
    · cases he : eqA (eqK P t) x y with
      | none => simp [he] at h
      | some b =>
        simp [he] at h; subst h
        have e := eqA_ok (w := w) he hx hy
        refine ⟨.bool b, ?_, .bool b⟩
        cases hx <;> cases hy <;> first
          | exact absurd rfl (hni _ _ _ _ rfl)
          | exact absurd rfl (hns _ _ rfl)
          | simp [binOp, e]
          | (simp [eqA] at he; done)
    · cases he : eqA (eqK P t) x y with
      | none => simp [he] at h
      | some b =>
        simp [he] at h; subst h
        have e := eqA_ok (w := w) he hx hy
        refine ⟨.bool !b, ?_, .bool _⟩
        cases hx <;> cases hy <;> first
          | exact absurd rfl (hni _ _ _ _ rfl)
          | exact absurd rfl (hns _ _ rfl)
          | simp [binOp, e]
          | (simp [eqA] at he; done)
    · simp at h

theorem unA_ok {g : Gh} {op : UnOp} {x x' v : Value} (h : unA op x = some v) (hx : VRel g x x') : ∃ v', (Op.unary op x').run P w = .ok v' w ∧ VRel g v v' := by
  unfold unA at h
  split at h
  · cases hx; simp only [Option.some.injEq] at h; subst h; exact ⟨_, rfl, .bool _⟩
  · cases hx; simp only [Option.some.injEq] at h; subst h; exact ⟨_, rfl, .int _ _⟩
  · cases hx; simp only [Option.some.injEq] at h; subst h; exact ⟨_, rfl, .int _ _⟩
  · simp at h

end
end Go.Eng
