/-
  A region that draws its order: what the interpreter's look says.
-/
import Derived.Test.YtgbcpfeopaidmaaEngR
set_option linter.all false
namespace Go.Eng
open Go

/-! What an operation looks at. -/
def insA : Ins → List Arg
  | .mov a | .nilck a | .un _ a | .cint _ a | .cstr a | .fadr _ a | .fld _ _ a | .mif _ a | .ext a _ | .lenS a | .lenL a | .capL a | .ld _ a | .lenM a | .cb2s a | .box a | .cs2b a => [a]
  | .pick c a b => [c, a, b]
  | .build _ ps | .bslice _ _ _ ps => ps.map (·.a)
  | .bin _ _ a b | .iadr _ a b | .iadrA _ _ a b | .idxS a b | .idxA _ _ _ a b | .mn a b | .mx a b | .lkp _ _ _ a b | .mslice _ _ _ a b | .app _ _ _ a b | .st _ a b | .mdel _ a b | .cpy _ a b => [a, b]
  | .sstr a lo hi => [a] ++ lo.toList ++ hi.toList
  | .ssl _ a lo hi mx | .sarr _ _ a lo hi mx => [a] ++ lo.toList ++ hi.toList ++ mx.toList
  | .mfun _ f c => f ++ c
  | .mput _ a b c => [a, b, c]
  | .call _ as => as
  | .callv f as => f :: as
  | .lenC _ | .alloc .. | .mmap | .bad => []

theorem argOT_flat (x : Option Arg) : argOT x = x.toList.flatMap argT := by cases x <;> simp [argOT]

theorem insT_A (i : Ins) : insT i = (insA i).flatMap argT := by
  cases i <;> simp [insT, insA, argsT, partT, argOT_flat, List.flatMap_map, List.flatMap_append]

theorem Arg.get_congr {ρ ρ' : Env} {a : Arg} (h : ∀ t ∈ argT a, ρ t = ρ' t) : a.get ρ = a.get ρ' := by
  cases a with
  | t n => exact h n (by simp [argT])
  | c v => rfl

theorem insA_congr {ρ ρ' : Env} {i : Ins} (h : ∀ t ∈ insT i, ρ t = ρ' t) : ∀ a ∈ insA i, a.get ρ = a.get ρ' := by
  intro a ha
  refine Arg.get_congr fun t ht => h t ?_
  rw [insT_A, List.mem_flatMap]
  exact ⟨a, ha, ht⟩

theorem fillL_congr {ρ ρ' : Env} : ∀ {ps : List Part} {cs : List Value}, (∀ a ∈ ps.map (·.a), a.get ρ = a.get ρ') → fillL ρ cs ps = fillL ρ' cs ps
  | [], _, _ => rfl
  | p :: ps, cs, h => by
    have h1 := h p.a (by simp)
    simp only [fillL, h1]
    split
    · exact fillL_congr fun a ha => h a (by simp at ha ⊢; exact .inr ha)
    · rfl

theorem bndO_congr {ρ ρ' : Env} {x : Option Arg} {m d : Nat} (h : ∀ a ∈ x.toList, a.get ρ = a.get ρ') : bndO ρ x m d = bndO ρ' x m d := by
  cases x with
  | none => rfl
  | some a => simp only [bndO, h a (by simp)]

theorem map_congr' {ρ ρ' : Env} {as : List Arg} (h : ∀ a ∈ as, a.get ρ = a.get ρ') : as.map (·.get ρ) = as.map (·.get ρ') := List.map_congr_left h

theorem evSl_congr {ρ ρ' : Env} {e : Nat} {v : Value} {lo hi mx : Option Arg} (h1 : ∀ a ∈ lo.toList, a.get ρ = a.get ρ') (h2 : ∀ a ∈ hi.toList, a.get ρ = a.get ρ') (h3 : ∀ a ∈ mx.toList, a.get ρ = a.get ρ') :
    evSl ρ e v lo hi mx = evSl ρ' e v lo hi mx := by
  unfold evSl
  simp only [bndO_congr h1, bndO_congr h2, bndO_congr h3]
theorem evSa_congr {ρ ρ' : Env} {n e : Nat} {v : Value} {lo hi mx : Option Arg} (h1 : ∀ a ∈ lo.toList, a.get ρ = a.get ρ') (h2 : ∀ a ∈ hi.toList, a.get ρ = a.get ρ') (h3 : ∀ a ∈ mx.toList, a.get ρ = a.get ρ') :
    evSa ρ n e v lo hi mx = evSa ρ' n e v lo hi mx := by
  unfold evSa
  simp only [bndO_congr h1, bndO_congr h2, bndO_congr h3]
theorem evSlU_congr {ρ ρ' : Env} {σ : St} {e : Nat} {v : Value} {lo hi mx : Option Arg} (h1 : ∀ a ∈ lo.toList, a.get ρ = a.get ρ') (h2 : ∀ a ∈ hi.toList, a.get ρ = a.get ρ') :
    evSlU ρ σ e v lo hi mx = evSlU ρ' σ e v lo hi mx := by
  unfold evSlU
  simp only [bndO_congr h1, bndO_congr h2]

theorem evP_congr {ρ ρ' : Env} {i : Ins} (h : ∀ a ∈ insA i, a.get ρ = a.get ρ') : evP ρ i = evP ρ' i := by
  cases i with
  | build zs ps => simp only [evP, fillL_congr h]
  | mfun f x y =>
    simp only [insA, List.mem_append] at h
    simp only [evP, map_congr' fun a ha => h a (.inl ha), map_congr' fun a ha => h a (.inr ha)]
  | sstr a lo hi =>
    simp only [insA, List.mem_append, List.mem_singleton] at h
    simp only [evP, h a (.inl (.inl rfl)), fun m d => bndO_congr (m := m) (d := d) fun a ha => h a (.inl (.inr ha)), fun m d => bndO_congr (m := m) (d := d) fun a ha => h a (.inr ha)]
  | ssl e a lo hi mx =>
    simp only [insA, List.mem_append, List.mem_singleton] at h
    simp only [evP, h a (.inl (.inl (.inl rfl)))]
    exact evSl_congr (fun a ha => h a (.inl (.inl (.inr ha)))) (fun a ha => h a (.inl (.inr ha))) (fun a ha => h a (.inr ha))
  | sarr n e a lo hi mx =>
    simp only [insA, List.mem_append, List.mem_singleton] at h
    simp only [evP, h a (.inl (.inl (.inl rfl)))]
    exact evSa_congr (fun a ha => h a (.inl (.inl (.inr ha)))) (fun a ha => h a (.inl (.inr ha))) (fun a ha => h a (.inr ha))
  | _ => simp only [insA, List.mem_cons, List.not_mem_nil, or_false, forall_eq_or_imp, forall_eq] at h; simp only [evP, h]

theorem evR_congr {ρ ρ' : Env} {σ : St} {i : Ins} (h : ∀ a ∈ insA i, a.get ρ = a.get ρ') : evR ρ σ i = evR ρ' σ i := by
  cases i with
  | ssl e a lo hi mx =>
    simp only [insA, List.mem_append, List.mem_singleton] at h
    simp only [evR, h a (.inl (.inl (.inl rfl)))]
    exact evSlU_congr (fun a ha => h a (.inl (.inl (.inr ha)))) (fun a ha => h a (.inl (.inr ha)))
  | build | mfun | sstr | sarr | call | callv | bslice => rfl
  | _ => simp only [insA, List.mem_cons, List.not_mem_nil, or_false, forall_eq_or_imp, forall_eq] at h; simp only [evR, h]

theorem evM_congr {ρ ρ' : Env} {σ : St} {i : Ins} (h : ∀ a ∈ insA i, a.get ρ = a.get ρ') : evM ρ σ i = evM ρ' σ i := by
  cases i with
  | bslice n e zs ps => simp only [evM, fillL_congr h]
  | build | mfun | sstr | ssl | sarr | call | callv => rfl
  | _ => simp only [insA, List.mem_cons, List.not_mem_nil, or_false, forall_eq_or_imp, forall_eq] at h; simp only [evM, h]

theorem evW_congr {cl : CallF} {ρ ρ' : Env} {σ : St} {i : Ins} (h : ∀ a ∈ insA i, a.get ρ = a.get ρ') : evW cl ρ σ i = evW cl ρ' σ i := by
  cases i with
  | call f as => exact congrArg (fun l => cl (.fn f) l σ) (map_congr' (as := as) h)
  | callv f as =>
    simp only [insA, List.mem_cons] at h
    simp only [evW, h f (.inl rfl), map_congr' fun a ha => h a (.inr ha)]
  | build | mfun | sstr | ssl | sarr | bslice => rfl
  | _ => simp only [insA, List.mem_cons, List.not_mem_nil, or_false, forall_eq_or_imp, forall_eq] at h; simp only [evW, h]

theorem stepS_congr {ρ ρ' : Env} {σ : St} {i : Ins} (h : ∀ t ∈ insT i, ρ t = ρ' t) : stepS ρ σ i = stepS ρ' σ i := by
  have h' := insA_congr h
  simp only [stepS, evP_congr h', evR_congr h', evM_congr h']

/-! More objects change nothing that is read. -/
def St.sub (σ σ' : St) : Prop := ∀ i o, σ.get i = some o → σ'.get i = some o

section
variable {σ σ' : St} (h : σ.sub σ') {ρ : Env} {i : Ins}
include h

theorem rowOf_mono {k : Nat} {cs : List Value} (hk : rowOf σ k = some cs) : rowOf σ' k = some cs := by
  unfold rowOf at hk ⊢
  split at hk
  · rename_i e; rw [h _ _ e]; exact hk
  · cases hk
theorem mapOf_mono {k : Nat} {es : List (Value × Value)} (hk : mapOf σ k = some es) : mapOf σ' k = some es := by
  unfold mapOf at hk ⊢
  split at hk
  · rename_i e; rw [h _ _ e]; exact hk
  · cases hk
theorem srcA_mono {e n : Nat} {v : Value} {l : List Value} (hv : srcA σ e n v = some l) : srcA σ' e n v = some l := by
  cases v <;> simp only [srcA] at hv ⊢ <;> try exact hv
  rename_i a len c
  cases a with
  | none => exact hv
  | some a =>
    simp only [srcA] at hv ⊢
    split at hv
    · rename_i h1
      rw [if_pos h1]
      split at hv
      · rename_i h2; rw [if_pos h2]; exact hv
      · rename_i h2
        rw [if_neg h2]
        split at hv
        · rename_i cs hcs; rw [rowOf_mono h hcs]; exact hv
        · cases hv
    · cases hv

theorem evR_mono {v : Value} (hv : evR ρ σ i = some v) : evR ρ σ' i = some v := by
  cases i <;> simp only [evR] at hv ⊢ <;> try (exact hv)
  case ssl =>
    unfold evSlU at hv ⊢
    split at hv
    · split at hv
      · rename_i hc
        rw [if_pos hc]
        split at hv
        · rename_i hg; rw [h _ _ hg]; exact hv
        · cases hv
      · cases hv
    · cases hv
  case ld =>
    split at hv
    · split at hv
      · rename_i hc
        rw [if_pos hc]
        split at hv
        · rename_i hcs; rw [rowOf_mono h hcs]; exact hv
        · cases hv
      · cases hv
    · cases hv
  case lkp =>
    split at hv
    · rename_i hc
      rw [if_pos hc]
      split at hv
      · exact hv
      · split at hv
        · rename_i hcs; rw [mapOf_mono h hcs]; exact hv
        · cases hv
      · cases hv
    · cases hv
  case lenM =>
    split at hv
    · exact hv
    · rename_i r _
      cases hm : mapOf σ r with
      | none => rw [hm] at hv; simp at hv
      | some es => rw [mapOf_mono h hm]; rw [hm] at hv; exact hv
    · cases hv
  case cb2s =>
    split at hv
    · rename_i p len c _
      cases hs : srcA σ 1 len (.slice p len c) with
      | none => rw [hs] at hv; simp at hv
      | some l => rw [srcA_mono h hs]; rw [hs] at hv; exact hv
    · cases hv

theorem evM_mono {r : AObj × (Nat → Value)} (hv : evM ρ σ i = some r) : evM ρ σ' i = some r := by
  cases i <;> simp only [evM] at hv ⊢ <;> try (exact hv)
  case app e b z s x =>
    split at hv
    · cases hv
    · rename_i n hn
      split at hv
      · cases hv
      · rename_i hn0
        rw [if_neg hn0]
        split at hv
        · rename_i p len cap hs
          split at hv
          · rename_i hc
            rw [if_pos hc]
            split at hv
            · rename_i old new h1 h2
              rw [srcA_mono h h1]
              have h3 : appL σ' e z n (x.get ρ) = some new := by
                unfold appL at h2 ⊢
                split at h2
                · exact h2
                · exact srcA_mono h h2
              rw [h3]
              exact hv
            · cases hv
          · cases hv
        · cases hv

end

theorem evM_notR {ρ : Env} {σ σ' : St} {i : Ins} {r : AObj × (Nat → Value)} (hv : evM ρ σ i = some r) : evR ρ σ' i = none := by
  cases i <;> simp [evM, evR] at hv ⊢

theorem stepS_mono {σ σ' : St} (h : σ.sub σ') {ρ : Env} {i : Ins} {r : Res} (hv : stepS ρ σ i = some r) : stepS ρ σ' i = some r := by
  unfold stepS at hv ⊢
  split at hv
  · exact hv
  · rename_i hp
    split at hv
    · rename_i v hr
      rw [evR_mono h hr]; exact hv
    · split at hv
      · rename_i o f hm
        rw [evM_notR hm, evM_mono h hm]; exact hv
      · cases hv

theorem stepS_notStr {ρ : Env} {σ : St} {i : Ins} {v : Value} {s : St} (h : stepS ρ σ i = some (.str v s)) : False := by
  unfold stepS at h
  split at h
  · simp at h
  · split at h
    · simp at h
    · split at h <;> simp at h

/-! What a run of the interpreter over such a region has looked at, place by place. -/
structure DRun (cl : CallF) (base : Nat) (bef : List Nat) (l : List OpI) (E : Nat → Env) (T : Nat → St) (D : Nat → Did) : Prop where
  did : ∀ j o, l[j]? = some o → did cl (E j) (T j) o = some (D j)
  env : ∀ j o, l[j]? = some o → E (j + 1) = (E j).upd o.dst ((D j).val (base + j))
  st : ∀ j o, l[j]? = some o → T (j + 1) = (D j).after (base + j) (T j)
  pair : ∀ e j oe oj, e < j → l[e]? = some oe → l[j]? = some oj → (bef.getD j 0).testBit e = true ∨ okP base e ⟨E e, T e, oe.i, D e⟩ j ⟨E j, T j, oj.i, D j⟩ = true

def recE (ρ : Env) : Option Rec → Env
  | some r => r.ρ
  | none => ρ
def recT (σ : St) : Option Rec → St
  | some r => r.σ
  | none => σ

theorem runD_ok {cl : CallF} {base : Nat} : ∀ {l : List OpI} {j : Nat} {ρ : Env} {σ : St} {rs : List Rec} {ρ' : Env} {σ' : St}, runD cl base j l ρ σ = some (rs, ρ', σ') →
    rs.length = l.length ∧ recE ρ' rs[0]? = ρ ∧ recT σ' rs[0]? = σ ∧ ∀ m o, l[m]? = some o → ∃ r, rs[m]? = some r ∧ r.i = o.i ∧ did cl r.ρ r.σ o = some r.d ∧
      recE ρ' rs[m + 1]? = r.ρ.upd o.dst (r.d.val (base + (j + m))) ∧ recT σ' rs[m + 1]? = r.d.after (base + (j + m)) r.σ
  | [], j, ρ, σ, rs, ρ', σ', h => by
    simp only [runD, Option.some.injEq, Prod.mk.injEq] at h
    obtain ⟨rfl, rfl, rfl⟩ := h
    exact ⟨rfl, rfl, rfl, fun m o hm => by simp at hm⟩
  | x :: os, j, ρ, σ, rs, ρ', σ', h => by
    simp only [runD] at h
    split at h
    · cases h
    · rename_i d hd
      split at h
      · cases h
      · rename_i rs1 ρ1 σ1 hr
        simp only [Option.some.injEq, Prod.mk.injEq] at h
        obtain ⟨rfl, rfl, rfl⟩ := h
        obtain ⟨h1, h2, h3, h4⟩ := runD_ok hr
        refine ⟨by simp [h1], rfl, rfl, fun m o hm => ?_⟩
        cases m with
        | zero =>
          simp only [List.getElem?_cons_zero, Option.some.injEq] at hm
          subst hm
          refine ⟨_, rfl, rfl, hd, ?_, ?_⟩
          · simpa using h2
          · simpa using h3
        | succ m =>
          obtain ⟨r, k1, k2, k3, k4, k5⟩ := h4 m o (by simpa using hm)
          refine ⟨r, by simpa using k1, k2, k3, ?_, ?_⟩
          · rw [show j + (m + 1) = j + 1 + m by omega]; simpa using k4
          · rw [show j + (m + 1) = j + 1 + m by omega]; simpa using k5

theorem chkD_ok {base : Nat} {bef : List Nat} : ∀ {rs : List Rec} {j : Nat} {prev : List (Nat × Rec)}, chkD base bef j rs prev = true →
    (∀ p ∈ prev, ∀ m r, rs[m]? = some r → r.d.looks = true → ((bef.getD (j + m) 0).testBit p.1 || okP base p.1 p.2 (j + m) r) = true) ∧
    (∀ e m a b, e < m → rs[e]? = some a → rs[m]? = some b → a.d.looks = true → b.d.looks = true → ((bef.getD (j + m) 0).testBit (j + e) || okP base (j + e) a (j + m) b) = true)
  | [], j, prev, _ => ⟨fun _ _ m r h => by simp at h, fun e m a b _ h => by simp at h⟩
  | x :: rs, j, prev, h => by
    simp only [chkD] at h
    split at h
    · rename_i hl
      simp only [Bool.and_eq_true, List.all_eq_true] at h
      obtain ⟨h1, h2⟩ := h
      obtain ⟨k1, k2⟩ := chkD_ok h2
      refine ⟨fun p hp m r hm hr => ?_, fun e m a b hem he hm ha hb => ?_⟩
      · cases m with
        | zero => simp only [List.getElem?_cons_zero, Option.some.injEq] at hm; subst hm; exact h1 p hp
        | succ m =>
          rw [show j + (m + 1) = j + 1 + m by omega]
          exact k1 p (List.mem_cons_of_mem _ hp) m r (by simpa using hm) hr
      · cases m with
        | zero => omega
        | succ m =>
          rw [show j + (m + 1) = j + 1 + m by omega]
          cases e with
          | zero =>
            simp only [List.getElem?_cons_zero, Option.some.injEq] at he; subst he
            exact k1 (j, x) List.mem_cons_self m b (by simpa using hm) hb
          | succ e =>
            rw [show j + (e + 1) = j + 1 + e by omega]
            exact k2 e m a b (by omega) (by simpa using he) (by simpa using hm) ha hb
    · rename_i hl
      obtain ⟨k1, k2⟩ := chkD_ok h
      refine ⟨fun p hp m r hm hr => ?_, fun e m a b hem he hm ha hb => ?_⟩
      · cases m with
        | zero => simp only [List.getElem?_cons_zero, Option.some.injEq] at hm; subst hm; exact absurd hr hl
        | succ m =>
          rw [show j + (m + 1) = j + 1 + m by omega]
          exact k1 p hp m r (by simpa using hm) hr
      · cases m with
        | zero => omega
        | succ m =>
          rw [show j + (m + 1) = j + 1 + m by omega]
          cases e with
          | zero => simp only [List.getElem?_cons_zero, Option.some.injEq] at he; subst he; exact absurd ha hl
          | succ e =>
            rw [show j + (e + 1) = j + 1 + e by omega]
            exact k2 e m a b (by omega) (by simpa using he) (by simpa using hm) ha hb

theorem okP_idle {base e j : Nat} {a b : Rec} (h : ¬ (a.d.looks = true ∧ b.d.looks = true)) : okP base e a j b = true := by
  unfold okP
  cases ha : a.d <;> cases hb : b.d <;> simp_all [Did.looks]

theorem evDrawn_run {cl : CallF} {l : List OpI} {bef : List Nat} {ρ : Env} {σ : St} {ρ' : Env} {σ' : St} (h : evDrawn cl l bef ρ σ = some (ρ', σ')) :
    ∃ E T D, DRun cl σ.next bef l E T D ∧ E 0 = ρ ∧ T 0 = { σ with next := σ.next + l.length } ∧ E l.length = ρ' ∧ T l.length = σ' := by
  unfold evDrawn at h
  split at h
  · cases h
  · rename_i rs ρ1 σ1 hr
    split at h
    · rename_i hc
      simp only [Option.some.injEq, Prod.mk.injEq] at h
      obtain ⟨rfl, rfl⟩ := h
      obtain ⟨h1, h2, h3, h4⟩ := runD_ok hr
      obtain ⟨_, h5⟩ := chkD_ok hc
      refine ⟨fun j => recE ρ1 rs[j]?, fun j => recT σ1 rs[j]?, fun j => match rs[j]? with | some r => r.d | none => .skip, ⟨?_, ?_, ?_, ?_⟩, h2, h3, ?_, ?_⟩
      · intro j o ho
        obtain ⟨r, k1, k2, k3, k4, k5⟩ := h4 j o ho
        simp only [k1, recE, recT]; exact k3
      · intro j o ho
        obtain ⟨r, k1, k2, k3, k4, k5⟩ := h4 j o ho
        simp only [k4]; simp [k1, recE]
      · intro j o ho
        obtain ⟨r, k1, k2, k3, k4, k5⟩ := h4 j o ho
        simp only [k5]; simp [k1, recT]
      · intro e j oe oj hej he hj
        obtain ⟨r, k1, k2, k3, k4, k5⟩ := h4 j oj hj
        obtain ⟨q, l1, l2, l3, l4, l5⟩ := h4 e oe he
        simp only [k1, l1, recE, recT, ← k2, ← l2]
        by_cases hl : q.d.looks = true ∧ r.d.looks = true
        · have := h5 e j q r hej l1 k1 hl.1 hl.2
          simpa using this
        · exact .inr (okP_idle hl)
      · simp [List.getElem?_eq_none (Nat.le_of_eq h1), recE]
      · simp [List.getElem?_eq_none (Nat.le_of_eq h1), recT]
    · cases h

end Go.Eng
