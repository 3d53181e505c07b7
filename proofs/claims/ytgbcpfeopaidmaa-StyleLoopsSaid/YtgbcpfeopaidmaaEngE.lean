/-
  Comparisons, and the operations that look at no memory, all together.
-/
import Derived.Test.YtgbcpfeopaidmaaEngD
import Derived.ChangeKeysEq
set_option linter.all false
namespace Go.Eng
open Go

section
variable {P : Program} {w : World}

theorem scEq_rel {g : Gh} {k : Sk} {x y x' y' : Value} {b : Bool} (h : scEq k x y = some b) (hx : VRel g x x') (hy : VRel g y y') : x' = x ∧ y' = y := by
  unfold scEq at h
  split at h
  · cases hx; cases hy; exact ⟨rfl, rfl⟩
  · cases hx; cases hy; exact ⟨rfl, rfl⟩
  · cases hx; cases hy; exact ⟨rfl, rfl⟩
  · simp at h

theorem scEqs_rel {g : Gh} : ∀ {ks : List Sk} {xs ys xs' ys' : List Value} {b : Bool}, scEqs ks xs ys = some b → LRel g xs xs' → LRel g ys ys' → scEqs ks xs' ys' = some b
  | [], [], [], _, _, b, h, .nil, .nil => h
  | [], [], _ :: _, _, _, b, h, _, _ => by simp [scEqs] at h
  | [], _ :: _, _, _, _, b, h, _, _ => by simp [scEqs] at h
  | _ :: _, [], _, _, _, b, h, _, _ => by simp [scEqs] at h
  | _ :: _, _ :: _, [], _, _, b, h, _, _ => by simp [scEqs] at h
  | k :: ks, x :: xs, y :: ys, _, _, b, h, .cons hx tx, .cons hy ty => by
    simp only [scEqs] at h ⊢
    cases hb : scEq k x y with
    | none => simp [hb] at h
    | some c =>
      obtain ⟨e1, e2⟩ := scEq_rel hb hx hy
      rw [e1, e2, hb]
      cases c with
      | true => simp only [hb] at h; exact scEqs_rel h tx ty
      | false => simpa only [hb] using h

theorem scEqs_append : ∀ {ks ks' : List Sk} {a a' b b' : List Value} {r : Bool}, a.length = ks.length → a'.length = ks.length → scEqs (ks ++ ks') (a ++ b) (a' ++ b') = some r →
    (scEqs ks a a' = some true ∧ scEqs ks' b b' = some r) ∨ (scEqs ks a a' = some false ∧ r = false)
  | [], ks', [], [], b, b', r, _, _, h => .inl ⟨rfl, by simpa using h⟩
  | [], _, _ :: _, _, _, _, _, hl, _, _ => by simp at hl
  | [], _, _, _ :: _, _, _, _, _, hl, _ => by simp at hl
  | _ :: _, _, [], _, _, _, _, hl, _, _ => by simp at hl
  | _ :: _, _, _, [], _, _, _, _, hl, _ => by simp at hl
  | k :: ks, ks', x :: a, y :: a', b, b', r, hl, hl', h => by
    simp only [List.cons_append, scEqs] at h ⊢
    cases hb : scEq k x y with
    | none => simp [hb] at h
    | some c =>
      cases c with
      | true => simp only [hb] at h; exact scEqs_append (by simpa using hl) (by simpa using hl') h
      | false => simp only [hb] at h; exact .inr ⟨rfl, by simpa using h.symm⟩

/-- A value of a type, out of its cells. -/
def mkV (P : Program) (t : TypeId) (cs : List Value) : Value :=
  match P.underlying t with
  | some (.struct _) | some (.array _ _) => .agg ⟨cs⟩
  | _ => cs.headD undef

theorem part_mkV {t : TypeId} {m : Nat} (hs : sizeT P t = some m) (hu : (P.underlying t).isSome) (hm : (∀ d, P.underlying t = some d → (match d with | .struct _ | .array _ _ => false | _ => true) = true → m = 1)) {cs : List Value} {off : Nat}
    (hl : off + m ≤ cs.length) : (part t ⟨cs⟩ off).run P w = .ok (mkV P t ((cs.drop off).take m)) w := by
  obtain ⟨d, hd⟩ := Option.isSome_iff_exists.1 hu
  cases d with
  | struct fs =>
    simp only [part, isAgg, Sem.run_bind, run_und hd, Result.andThen_ok, Sem.run_pure, if_true, run_size hs, mkV, hd]
    congr 2
    apply Array.ext'
    simp [List.extract_eq_take_drop]
  | array n e =>
    simp only [part, isAgg, Sem.run_bind, run_und hd, Result.andThen_ok, Sem.run_pure, if_true, run_size hs, mkV, hd]
    congr 2
    apply Array.ext'
    simp [List.extract_eq_take_drop]
  | _ =>
    have h1 := hm _ hd rfl
    subst h1
    have : cs[off]? = some (((cs.drop off).take 1).headD undef) := by
      cases hc : cs.drop off with
      | nil => rw [List.drop_eq_nil_iff] at hc; omega
      | cons x r =>
        have : (cs.drop off)[0]? = some x := by rw [hc]; rfl
        rw [List.getElem?_drop] at this
        simpa using this
    simp [part, isAgg, run_und hd, mkV, hd, this]

theorem scEq_b {x y : Value} {b : Bool} (h : scEq .b x y = some b) : ∃ p q, x = .bool p ∧ y = .bool q ∧ (p == q) = b := by
  cases x <;> cases y <;> simp [scEq] at h
  exact ⟨_, _, rfl, rfl, h⟩
theorem scEq_i {x y : Value} {b : Bool} (h : scEq .i x y = some b) : ∃ k p q, x = .int k p ∧ y = .int k q ∧ (p == q) = b := by
  cases x <;> cases y <;> simp [scEq] at h
  obtain ⟨rfl, h⟩ := h
  exact ⟨_, _, _, rfl, rfl, h⟩
theorem scEq_s {x y : Value} {b : Bool} (h : scEq .s x y = some b) : ∃ p q, x = .string p ∧ y = .string q ∧ (p == q) = b := by
  cases x <;> cases y <;> simp [scEq] at h
  exact ⟨_, _, rfl, rfl, h⟩

theorem flatT_size : ∀ {k : Nat} {t : TypeId} {n : List Sk}, flatT P k t = some n → sizeT P t = some n.length ∧ (P.underlying t).isSome ∧
    (∀ d, P.underlying t = some d → (match d with | .struct _ | .array _ _ => false | _ => true) = true → n.length = 1)
  | 0, t, n, h => by simp [flatT] at h
  | k + 1, t, n, h => by
    unfold flatT at h
    split at h
    · rename_i hu; split at h
      · rename_i hs; simp at h; subst h; exact ⟨hs, by simp [hu], fun _ _ _ => rfl⟩
      · simp at h
    · rename_i hu; split at h
      · rename_i hs; simp at h; subst h; exact ⟨hs, by simp [hu], fun _ _ _ => rfl⟩
      · simp at h
    · rename_i hu; split at h
      · rename_i hs; simp at h; subst h; exact ⟨hs, by simp [hu], fun _ _ _ => rfl⟩
      · simp at h
    · rename_i fs hu
      split at h
      · simp at h
      · split at h
        · split at h
          · rename_i hs; simp at h; subst h; exact ⟨hs, by simp [hu], fun d hd hc => by rw [hu] at hd; cases hd; simp at hc⟩
          · simp at h
        · simp at h
    · rename_i m e hu
      split at h
      · split at h
        · rename_i ks _ hs
          simp at h; subst h
          refine ⟨?_, by simp [hu], fun d hd hc => by rw [hu] at hd; cases hd; simp at hc⟩
          rw [hs.2]
          congr 1
          clear hs hu
          induction m with
          | zero => simp [repS]
          | succ m ih => simp [repS, Nat.succ_mul, ← ih, Nat.add_comm]
        · simp at h
      · simp at h
    · simp at h

theorem eqFields_ok {f : TypeId → Option (List Sk)} {d : Nat} (hf : ∀ {t n}, f t = some n → (sizeT P t = some n.length ∧ (P.underlying t).isSome ∧
      (∀ d, P.underlying t = some d → (match d with | .struct _ | .array _ _ => false | _ => true) = true → n.length = 1)) ∧
      ∀ {cs cs' : List Value} {b : Bool} {w : World}, cs.length = n.length → cs'.length = n.length → scEqs n cs cs' = some b → (Op.equalIn d t (mkV P t cs) (mkV P t cs')).run P w = .ok b w)
    {xs ys : List Value} : ∀ (fs : List Field) (off : Nat) {ks : List Sk} {b : Bool}, flatL f fs off = some ks → off + ks.length = xs.length → off + ks.length = ys.length →
      scEqs ks (xs.drop off) (ys.drop off) = some b → (Op.eqFields d ⟨xs⟩ ⟨ys⟩ fs).run P w = .ok b w
  | [], off, ks, b, h, hx, hy, hb => by
    simp [flatL] at h; subst h
    rw [List.drop_of_length_le (by simp at hx; omega), List.drop_of_length_le (by simp at hy; omega)] at hb
    simp [scEqs] at hb; subst hb
    simp [Op.eqFields]
  | fd :: fs, off, ks, b, h, hx, hy, hb => by
    unfold flatL at h
    split at h
    · simp at h
    · rename_i hc
      have hname : fd.name ≠ "_" := fun e => hc (.inl e)
      have hoff : fd.offset = off := by
        by_cases e : fd.offset = off
        · exact e
        · exact absurd (.inr e) hc
      split at h
      · rename_i m hm
        cases hr : flatL f fs (off + m.length) with
        | none => simp [hr] at h
        | some rs =>
          simp [hr] at h; subst h
          simp only [List.length_append] at hx hy
          obtain ⟨⟨h1, h2, h3⟩, heq⟩ := hf hm
          have px := part_mkV (w := w) h1 h2 h3 (cs := xs) (off := off) (by omega)
          have py := part_mkV (w := w) h1 h2 h3 (cs := ys) (off := off) (by omega)
          have ex : xs.drop off = (xs.drop off).take m.length ++ xs.drop (off + m.length) := by rw [← List.drop_drop, List.take_append_drop]
          have ey : ys.drop off = (ys.drop off).take m.length ++ ys.drop (off + m.length) := by rw [← List.drop_drop, List.take_append_drop]
          rw [ex, ey] at hb
          have lx : ((xs.drop off).take m.length).length = m.length := by simp; omega
          have ly : ((ys.drop off).take m.length).length = m.length := by simp; omega
          simp only [Op.eqFields, hname, ne_eq, not_false_eq_true, if_true, hoff, Sem.run_bind, px, py, Result.andThen_ok]
          rcases scEqs_append lx ly hb with ⟨k1, k2⟩ | ⟨k1, k2⟩
          · rw [heq lx ly k1]
            simp only [Result.andThen_ok, Bool.not_true, Bool.false_eq_true, if_false]
            exact eqFields_ok hf fs _ hr (by omega) (by omega) k2
          · rw [heq lx ly k1, k2]
            simp
      · simp at h

theorem eqItems_ok {e : TypeId} {m : List Sk} {d : Nat} (hf : (sizeT P e = some m.length ∧ (P.underlying e).isSome ∧
      (∀ d, P.underlying e = some d → (match d with | .struct _ | .array _ _ => false | _ => true) = true → m.length = 1)) ∧
      ∀ {cs cs' : List Value} {b : Bool} {w : World}, cs.length = m.length → cs'.length = m.length → scEqs m cs cs' = some b → (Op.equalIn d e (mkV P e cs) (mkV P e cs')).run P w = .ok b w)
    {xs ys : List Value} : ∀ (n i : Nat) {b : Bool}, (i + n) * m.length = xs.length → (i + n) * m.length = ys.length →
      scEqs (repS n m) (xs.drop (i * m.length)) (ys.drop (i * m.length)) = some b → (Op.eqItems d e m.length ⟨xs⟩ ⟨ys⟩ (List.range' i n)).run P w = .ok b w
  | 0, i, b, hx, hy, hb => by
    simp only [Nat.add_zero] at hx hy
    rw [List.drop_of_length_le (by omega), List.drop_of_length_le (by omega)] at hb
    simp [scEqs, repS] at hb; subst hb
    simp [Op.eqItems]
  | n + 1, i, b, hx, hy, hb => by
    obtain ⟨⟨h1, h2, h3⟩, heq⟩ := hf
    have ho : (i + 1) * m.length = i * m.length + m.length := Nat.succ_mul _ _
    have hle : (i + 1) * m.length ≤ (i + (n + 1)) * m.length := Nat.mul_le_mul_right _ (by omega)
    have px := part_mkV (w := w) h1 h2 h3 (cs := xs) (off := i * m.length) (by omega)
    have py := part_mkV (w := w) h1 h2 h3 (cs := ys) (off := i * m.length) (by omega)
    have ex : xs.drop (i * m.length) = (xs.drop (i * m.length)).take m.length ++ xs.drop ((i + 1) * m.length) := by rw [ho, ← List.drop_drop, List.take_append_drop]
    have ey : ys.drop (i * m.length) = (ys.drop (i * m.length)).take m.length ++ ys.drop ((i + 1) * m.length) := by rw [ho, ← List.drop_drop, List.take_append_drop]
    rw [ex, ey] at hb
    have lx : ((xs.drop (i * m.length)).take m.length).length = m.length := by simp; omega
    have ly : ((ys.drop (i * m.length)).take m.length).length = m.length := by simp; omega
    simp only [List.range'_succ, Op.eqItems, Sem.run_bind, px, py, Result.andThen_ok]
    simp only [repS] at hb
    rcases scEqs_append lx ly hb with ⟨k1, k2⟩ | ⟨k1, k2⟩
    · rw [heq lx ly k1]
      simp only [Result.andThen_ok, Bool.not_true, Bool.false_eq_true, if_false]
      exact eqItems_ok ⟨⟨h1, h2, h3⟩, heq⟩ n (i + 1) (by rw [show i + 1 + n = i + (n + 1) by omega]; exact hx) (by rw [show i + 1 + n = i + (n + 1) by omega]; exact hy) k2
    · rw [heq lx ly k1, k2]
      simp

theorem flat_eq : ∀ (k : Nat) {t : TypeId} {n : List Sk}, flatT P k t = some n → ∀ (d : Nat), k ≤ d → ∀ {cs cs' : List Value} {b : Bool} {w : World}, cs.length = n.length → cs'.length = n.length → scEqs n cs cs' = some b →
    (Op.equalIn d t (mkV P t cs) (mkV P t cs')).run P w = .ok b w
  | 0, t, n, h => by simp [flatT] at h
  | k + 1, t, n, h => by
    intro d hd cs cs' b w hc hc' hb
    obtain ⟨d, rfl⟩ : ∃ m, d = m + 1 := ⟨d - 1, by omega⟩
    have hd' : k ≤ d := by omega
    have one : ∀ s, n = [s] → ∃ x y, cs = [x] ∧ cs' = [y] ∧ scEq s x y = some b := by
      intro s h1
      subst h1
      match cs, cs', hc, hc' with
      | [x], [y], _, _ =>
        refine ⟨x, y, rfl, rfl, ?_⟩
        simp only [scEqs] at hb
        cases hs : scEq s x y with
        | none => simp [hs] at hb
        | some c => cases c <;> simp [hs] at hb <;> simp [hb]
    have ih : ∀ {t n}, flatT P k t = some n → _ := fun {t n} h => And.intro (flatT_size h) (fun {cs cs' b w} (h1 : cs.length = n.length) (h2 : cs'.length = n.length) h3 => flat_eq k h d hd' (cs := cs) (cs' := cs') (b := b) (w := w) h1 h2 h3)
    have hsz := (flatT_size h).1
    unfold flatT at h
    split at h
    · rename_i hu; split at h
      · simp at h
        obtain ⟨x, y, rfl, rfl, hs⟩ := one _ h.symm
        simp only [mkV, hu, List.headD_cons]
        obtain ⟨p, q, rfl, rfl, hq⟩ := scEq_b hs
        simp [Op.equalIn, run_und hu, hq]
      · simp at h
    · rename_i hu; split at h
      · simp at h
        obtain ⟨x, y, rfl, rfl, hs⟩ := one _ h.symm
        simp only [mkV, hu, List.headD_cons]
        obtain ⟨kk, p, q, rfl, rfl, hq⟩ := scEq_i hs
        simp [Op.equalIn, run_und hu, hq]
      · simp at h
    · rename_i hu; split at h
      · simp at h
        obtain ⟨x, y, rfl, rfl, hs⟩ := one _ h.symm
        simp only [mkV, hu, List.headD_cons]
        obtain ⟨p, q, rfl, rfl, hq⟩ := scEq_s hs
        simp [Op.equalIn, run_und hu, hq]
      · simp at h
    · rename_i fs hu
      split at h
      · simp at h
      · rename_i hst
        split at h
        · rename_i ks hks
          split at h
          · simp at h; subst h
            have hfo : P.fieldsOf t = fs := by simp [Program.fieldsOf, hu]
            simp only [mkV, hu]
            rw [run_equalIn_struct _ _ _ _ _ (by rw [hfo]; exact hu) (by simpa using hst), hfo]
            exact eqFields_ok (f := flatT P k) (d := d) ih fs.toList 0 hks (by simpa using hc.symm) (by simpa using hc'.symm) (by simpa using hb)
          · simp at h
        · simp at h
    · rename_i m e hu
      split at h
      · rename_i ks hks
        split at h
        · rename_i hs
          simp at h; subst h
          simp only [mkV, hu]
          have hlen : (repS m ks).length = m * ks.length := by
            rw [hs.2] at hsz; simpa using hsz.symm
          cases hi : P.info? e with
          | none => simp [sizeT, hi] at hs
          | some i =>
            have hco : P.cellsOf e = ks.length := by
              have := hs.1
              simp [sizeT, hi] at this
              simp [Program.cellsOf, hi, this]
            rw [run_equalIn_array w d _ _ hu hi, hco, List.range_eq_range']
            exact eqItems_ok (ih hks) m 0 (by simp; omega) (by simp; omega) (by simpa using hb)
        · simp at h
      · simp at h
    · simp at h
end
end Go.Eng
