/-
  A sheet's style removed, as a contract of the interpreter's table.
-/
import Derived.Test.YtgbcpfeopaidmaaRemove
set_option linter.all false
namespace Go.Eng
open Go Go.RowKit Go.Maps Go.Sort Go.Shelf
open Go.Proofs (encStr parentOf mkNamed)

/-- A map's entries as bare lists: each key with its style's parent. -/
def parsA : List (Value × Value) → Option (List (List UInt8 × List UInt8))
  | [] => some []
  | (.string s, .agg ⟨[.string p, .slice _ _ _]⟩) :: es => if s.size ≤ 1000000 then (parsA es).map ((s.data.toList, p.data.toList) :: ·) else none
  | _ => none

def hRemoveOf (σ : St) (m : Nat) (es : List (Value × Value)) (n : ByteArray) : Option (Value × St) :=
  if es.length ≤ 1000000 then
    match parsA es with
    | some ps =>
      match findA (.string n) es with
      | some none => some (.int .i64 6, σ)
      | some (some _) =>
        if ps.any (fun p => p.2 == n.data.toList) then some (.int .i64 9, σ)
        else (delA (.string n) es).map fun es' => (.int .i64 0, σ.put m (some (.map es')))
      | none => none
    | none => none
  else none

def hRemove : List Value → St → Option (Value × St)
  | [.pointer none, _], σ => some (.int .i64 1, σ)
  | [.pointer (some ⟨i, o, none⟩), .string n], σ =>
    match rowOf σ i with
    | some cs =>
      match cs[o]? with
      | some (.map none) => some (.int .i64 1, σ)
      | some (.map (some m)) => match mapOf σ m with | some es => hRemoveOf σ m es n | none => none
      | _ => none
    | none => none
  | _, _ => none

theorem slice_rel {g : Gh} {x : Option Addr} {y z : Nat} {q : Value} (h : VRel g (.slice x y z) q) : ∃ a l c, q = .slice a l c := by
  cases h <;> exact ⟨_, _, _, rfl⟩

theorem parsA_ok {g : Gh} : ∀ {es : List (Value × Value)} {ents : List MapEntry} {ps : List (List UInt8 × List UInt8)}, MRel g es ents → parsA es = some ps →
    ents.map (fun e => (e.key, parentOf e.val)) = ps.map (fun p => (encStr p.1, some (.lit (.string p.2), []))) ∧ ents.length = es.length ∧ (∀ x ∈ ps, x.1.length ≤ 1000000) ∧ ∀ e ∈ ents, ∃ q a l c, e.val = .agg #[.string q, .slice a l c]
  | _, _, ps, .nil, h => by simp [parsA] at h; subst h; simp
  | _, _, ps, .cons (k := k) (v := v) (e := e) (l := l) (l' := l') hk hv t, h => by
    obtain ⟨ek, ev, eb⟩ := e
    unfold parsA at h
    split at h
    · rename_i heq; cases heq
    · rename_i s p x y z r heq
      simp only [List.cons.injEq, Prod.mk.injEq] at heq
      obtain ⟨⟨rfl, rfl⟩, rfl⟩ := heq
      split at h
      · rename_i hs
        simp only [Option.map_eq_some_iff] at h
        obtain ⟨ps', h', rfl⟩ := h
        obtain ⟨h1, h2, h3, h4⟩ := parsA_ok t h'
        cases hk with
        | str s =>
          cases hv with
          | agg hv =>
            cases hv with
            | cons hp hv =>
              cases hp with
              | str p =>
                cases hv with
                | cons hq hv =>
                  cases hv
                  obtain ⟨a, l, c, rfl⟩ := slice_rel hq
                  refine ⟨by rw [List.map_cons, List.map_cons, h1]; simp [encStr, parentOf], by simp [h2], fun x hx => ?_, fun e he => ?_⟩
                  · rcases List.mem_cons.1 hx with rfl | hx
                    · rw [Array.length_toList]; exact hs
                    · exact h3 x hx
                  · rcases List.mem_cons.1 he with rfl | he
                    · exact ⟨_, _, _, _, rfl⟩
                    · exact h4 e he
      · cases h
    · cases h

theorem pars_read {P : Program} {k : TypeId} (hk : P.underlying k = some .string) : ∀ {ents : List MapEntry} {ps : List (List UInt8 × List UInt8)}, ents.map (fun e => (e.key, parentOf e.val)) = ps.map (fun p => (encStr p.1, some (.lit (.string p.2), []))) → (∀ x ∈ ps, x.1.length ≤ 1000000) →
    (∀ x ∈ ents, ∃ y, WideElems.rd P k parentOf x = some y) ∧ ents.map (WideElems.rg P k parentOf) = ps.map fun p => ((.string p.1 : Lit), (.lit (.string p.2) : DataW Unit))
  | [], [], _, _ => by simp
  | [], _ :: _, h, _ => by simp at h
  | _ :: _, [], h, _ => by simp at h
  | e :: ents, p :: ps, h, hl => by
    simp only [List.map_cons, List.cons.injEq, Prod.mk.injEq] at h
    obtain ⟨⟨h0, h0'⟩, h'⟩ := h
    obtain ⟨h1, h2⟩ := pars_read hk h' fun y hy => hl y (by simp [hy])
    have hx := hl p (by simp)
    have hr : WideElems.rd P k parentOf e = some (.string p.1, .lit (.string p.2)) := by
      have hm : maxLen = 9223372036854775807 := by decide
      have : keyOf P k e.key = some (.string p.1) := by
        rw [h0]
        simp only [keyOf, hk, mapKey, encStr]
        rw [if_pos (by simp [hm, ByteArray.size]; omega)]
      simp [WideElems.rd, this, h0']
    refine ⟨fun y hy => ?_, by simp [h2, WideElems.rg, hr]⟩
    rcases List.mem_cons.1 hy with rfl | hy
    · exact ⟨_, hr⟩
    · exact h1 y hy

theorem pw_eq : ∀ {l : List (Lit × DataW Unit)}, l.Pairwise (fun p q => p.1 ≠ q.1) → ∀ {a b : Lit × DataW Unit}, a ∈ l → b ∈ l → a.1 = b.1 → a = b
  | [], _, _, _, ha, _, _ => by simp at ha
  | x :: l, h, a, b, ha, hb, e => by
    rw [List.pairwise_cons] at h
    rcases List.mem_cons.1 ha with ha1 | ha'
    · rcases List.mem_cons.1 hb with hb | hb
      · rw [ha1, hb]
      · exact absurd e (by rw [ha1]; exact h.1 b hb)
    · skip
      rcases List.mem_cons.1 hb with hb | hb
      · exact absurd e.symm (by rw [hb]; exact h.1 a ha')
      · exact pw_eq h.2 ha' hb e

theorem owns_pars {P : Program} {k : TypeId} (hk : P.underlying k = some .string) {g : Gh} {i base b : Nat} {w : World} {es : List (Value × Value)} {ps : List (List UInt8 × List UInt8)} (h : ORel P g i base w.heap[b]? (.map es)) (hps : parsA es = some ps) (hl : es.length ≤ 1000000) :
    ∃ D0 : DataW Unit, w.ownsMap P k parentOf b es.length D0 ∧
      (∀ n : List UInt8, (∃ kl, has D0 kl = true ∧ ∀ zd, D0.atKey kl zd = .lit (.string n)) → ps.any (fun p => p.2 == n) = true) ∧
      (∀ n : List UInt8, (∀ kl, has D0 kl = true → ∀ zd, D0.atKey kl zd ≠ .lit (.string n)) → ps.any (fun p => p.2 == n) = false) := by
  obtain ⟨_, ents, clock, h1, h2, h3⟩ := h
  obtain ⟨q1, q2, q3, q4⟩ := parsA_ok h2 hps
  obtain ⟨r1, r2⟩ := pars_read hk q1 q3
  have hm : maxLen = 9223372036854775807 := by decide
  have hsz : ents.size = es.length := by simpa using q2
  have hown : w.ownsMap P k parentOf b es.length (.map ((ents.toList.map (WideElems.rg P k parentOf)).foldr DataW.insert [])) := ⟨ents, clock, h1, ⟨by omega, h3, r1⟩, by omega, rfl⟩
  refine ⟨_, hown, fun n hn => ?_, fun n hn => ?_⟩
  · obtain ⟨kl, hh, ha⟩ := hn
    rw [has_eq, List.any_eq_true] at hh
    obtain ⟨p, hp, hpk⟩ := hh
    have hat := ha .nil
    unfold DataW.atKey at hat
    simp only at hat
    cases hf : List.find? (fun p => p.1.sameKey kl) ((ents.toList.map (WideElems.rg P k parentOf)).foldr DataW.insert []) with
    | none => rw [List.find?_eq_none] at hf; exact absurd hpk (hf p hp)
    | some q =>
      rw [hf] at hat
      simp only at hat
      have hq := List.mem_of_find?_eq_some hf
      rw [mem_sorted, r2, List.mem_map] at hq
      obtain ⟨z, hz, rfl⟩ := hq
      rw [List.any_eq_true]
      exact ⟨z, hz, by simpa using hat⟩
  · rw [Bool.eq_false_iff]
    intro hany
    rw [List.any_eq_true] at hany
    obtain ⟨z, hz, hzn⟩ := hany
    have hzn' : z.2 = n := by simpa using hzn
    have hmem : ((.string z.1 : Lit), (.lit (.string z.2) : DataW Unit)) ∈ (ents.toList.map (WideElems.rg P k parentOf)).foldr DataW.insert [] := by
      rw [mem_sorted, r2, List.mem_map]; exact ⟨z, hz, rfl⟩
    obtain ⟨es', he', hpw, _⟩ := hown.entries (string_keyed hk)
    simp only [DataW.map.injEq] at he'
    subst he'
    refine hn (.string z.1) ?_ .nil ?_
    · rw [has_eq, List.any_eq_true]; exact ⟨_, hmem, by simp [Lit.sameKey]⟩
    · unfold DataW.atKey
      simp only
      cases hf : List.find? (fun p => p.1.sameKey (.string z.1)) ((ents.toList.map (WideElems.rg P k parentOf)).foldr DataW.insert []) with
      | none => rw [List.find?_eq_none] at hf; exact absurd (by simp [Lit.sameKey]) (hf _ hmem)
      | some q =>
        have hq := List.mem_of_find?_eq_some hf
        have hqk := List.find?_some hf
        have hq2 := hq
        rw [mem_sorted, r2, List.mem_map] at hq2
        obtain ⟨y, hy, rfl⟩ := hq2
        have hk2 : y.1 = z.1 := by simpa [Lit.sameKey] using hqk
        have : ((.string y.1 : Lit), (.lit (.string y.2) : DataW Unit)) = (.string z.1, .lit (.string z.2)) := by
          by_cases he : ((.string y.1 : Lit), (.lit (.string y.2) : DataW Unit)) = (.string z.1, .lit (.string z.2))
          · exact he
          · exact absurd (pw_eq hpw hq hmem (by simp [hk2])) he
        simp only [Prod.mk.injEq] at this
        rw [← hzn']; simpa using this.2

theorem remove_enter (w : World) (xs : Array Value) : (callFunc 13 xs).run Proofs.Try.prog w = .ok (.enter 13 xs) w := by
  have h : (match funC Proofs.Try.prog Proofs.Try.f13 with | some _ => true | none => false) = true := by kernel_rfl
  split at h
  · rename_i ir hir; exact callFunc_enter Proofs.Try.func13 hir xs w
  · cases h

theorem parsA_val : ∀ {es : List (Value × Value)} {ps : List (List UInt8 × List UInt8)} {kv v : Value}, parsA es = some ps → findA kv es = some (some v) → ∃ p a l c, v = .agg #[.string p, .slice a l c]
  | [], ps, kv, v, _, h => by simp [findA] at h
  | e :: es, ps, kv, v, hp, h => by
    unfold parsA at hp
    split at hp
    · rename_i heq; cases heq
    · rename_i s p x y z r heq
      simp only [List.cons.injEq] at heq
      obtain ⟨rfl, rfl⟩ := heq
      split at hp
      · simp only [Option.map_eq_some_iff] at hp
        obtain ⟨ps', h', rfl⟩ := hp
        simp only [findA] at h
        split at h
        · simp only [Option.some.injEq] at h; subst h; exact ⟨_, _, _, _, rfl⟩
        · exact parsA_val h' h
        · cases h
      · cases hp
    · cases hp

theorem delA_of_findA : ∀ {es : List (Value × Value)} {kv v : Value}, findA kv es = some (some v) → ∃ es', delA kv es = some es'
  | [], kv, v, h => by simp [findA] at h
  | e :: es, kv, v, h => by
    simp only [findA] at h
    simp only [delA]
    split at h
    · exact ⟨_, rfl⟩
    · obtain ⟨es', h'⟩ := delA_of_findA h
      simp [h']
    · cases h

theorem remove_spec : ∀ args σ v σ', hRemove args σ = some (v, σ') → ∀ g w args', Rel Proofs.Try.prog g σ w → LRel g args args' →
    (callFunc 13 ⟨args'⟩).run Proofs.Try.prog w = .ok (.enter 13 ⟨args'⟩) w ∧ Calls Proofs.Try.prog 13 ⟨args'⟩ w (CallPost Proofs.Try.prog g σ w v σ') := by
  intro args σ v σ' h g w args' hR ha
  refine ⟨remove_enter _ _, ?_⟩
  unfold hRemove at h
  split at h
  · simp only [Option.some.injEq, Prod.mk.injEq] at h
    obtain ⟨rfl, rfl⟩ := h
    cases ha with
    | cons h1 t =>
      cases t with
      | cons h2 t =>
        cases t; cases h1
        refine (Proofs.Try.remove_nil _ w).mono ?_
        rintro e w' ⟨rfl, rfl⟩
        exact ⟨_, g, rfl, .int _ _, Goes.refl hR⟩
  · rename_i i o n
    cases ha with
    | cons hp t =>
      cases t with
      | cons h2 t =>
      cases t; cases h2
      cases hp with
      | ptr hb =>
        rename_i b base
        split at h
        · rename_i cs hcs
          obtain ⟨esz, opn, ro, ec, hrow⟩ := rowOf_some hcs
          have hobj := hR.obj _ _ _ _ hrow hb
          split at h
          · rename_i hco
            simp only [Option.some.injEq, Prod.mk.injEq] at h
            obtain ⟨rfl, rfl⟩ := h
            obtain ⟨v', hc, hv⟩ := row_cell hobj hco
            cases hv
            refine (Proofs.Try.remove_none _ _ _ w hc).mono ?_
            rintro e w' ⟨rfl, rfl⟩
            exact ⟨_, g, rfl, .int _ _, Goes.refl hR⟩
          · rename_i m hco
            obtain ⟨v', hc, hv⟩ := row_cell hobj hco
            cases hv with
            | map hbm =>
              rename_i bm
              split at h
              · rename_i es hes
                unfold hRemoveOf at h
                split at h
                · rename_i hlen
                  split at h
                  · rename_i ps hps
                    have hgm := mapOf_some hes
                    obtain ⟨D0, hown, hyes, hnot⟩ := owns_pars Proofs.Try.underlying9 (hR.obj _ _ _ _ hgm hbm) hps hlen
                    have hkk : keyK Proofs.Try.prog 9 = some true := by kernel_rfl
                    have hz : zeroT Proofs.Try.prog 66 = some (.agg #[.string ⟨#[]⟩, .slice none 0 0]) := by kernel_rfl
                    have hlook := (run_lookup (w := w) Proofs.Try.underlying60 hkk hz hR (kv := .string n) rfl true (.agg (.cons (.str _) (.cons .sl0 .nil)))).2 m bm es
                    split at h
                    · rename_i hf
                      simp only [Option.some.injEq, Prod.mk.injEq] at h
                      obtain ⟨rfl, rfl⟩ := h
                      obtain ⟨v', hrun, hv'⟩ := hlook none hbm hes hf
                      simp only [if_true] at hv'
                      have hv2 : v' = .tuple #[.agg #[.string ⟨#[]⟩, .slice none 0 0], .bool false] := by
                        cases hv' with
                        | tuple h =>
                          cases h with
                          | cons h h' =>
                            cases h' with
                            | cons h2 h' =>
                              cases h'; cases h2
                              cases h with
                              | agg h =>
                                cases h with
                                | cons h h' =>
                                  cases h' with
                                  | cons h2 h' => cases h'; cases h; cases h2; rfl
                      subst hv2
                      refine (Proofs.Try.remove_at b (base + o) bm es.length D0 w n ⟨#[]⟩ none 0 0 false (fun _ => False) hc hown hrun (fun h => by cases h)).mono ?_
                      · rintro e w' (⟨_, rfl, hB⟩ | ⟨h, _⟩ | ⟨h, _⟩)
                        · exact ⟨_, g, rfl, .int _ _, grow_goes hR hB.block hB.size hB.os hB.output⟩
                        · cases h
                        · cases h
                    · rename_i vv hf
                      obtain ⟨p, a, l, c, rfl⟩ := parsA_val hps hf
                      obtain ⟨es', hdl⟩ := delA_of_findA hf
                      obtain ⟨v', hrun, hv'⟩ := hlook (some _) hbm hes hf
                      simp only [if_true] at hv'
                      have hv2 : ∃ a' l' c', v' = .tuple #[.agg #[.string p, .slice a' l' c'], .bool true] := by
                        cases hv' with
                        | tuple h =>
                          cases h with
                          | cons h h' =>
                            cases h' with
                            | cons h2 h' =>
                              cases h'; cases h2
                              cases h with
                              | agg h =>
                                cases h with
                                | cons h h' =>
                                  cases h' with
                                  | cons h2 h' =>
                                    cases h'; cases h
                                    obtain ⟨a', l', c', rfl⟩ := slice_rel h2
                                    exact ⟨a', l', c', rfl⟩
                      obtain ⟨a', l', c', rfl⟩ := hv2
                      refine (Proofs.Try.remove_at b (base + o) bm es.length D0 w n p a' l' c' true (fun w' => Goes Proofs.Try.prog g σ w g (σ.put m (some (.map es'))) w') hc hown hrun (fun _ ty W hB => ?_)).mono ?_
                      · have hG := grow_goes hR hB.block hB.size hB.os hB.output
                        obtain ⟨W', k1, k2⟩ := mdel_ok hG.rel Proofs.Try.underlying60 hkk hbm hgm (kv := .string n) rfl hdl (ats := #[60, 9]) rfl ty
                        exact ⟨W', k1, hG.trans k2⟩
                      · rintro e w' (⟨h', _⟩ | ⟨_, hex, rfl, hB⟩ | ⟨_, hne, rfl, hP⟩)
                        · cases h'
                        · rw [if_pos (hyes _ hex)] at h
                          simp only [Option.some.injEq, Prod.mk.injEq] at h
                          obtain ⟨rfl, rfl⟩ := h
                          exact ⟨_, g, rfl, .int _ _, grow_goes hR hB.block hB.size hB.os hB.output⟩
                        · rw [if_neg (by rw [hnot _ hne]; simp), hdl] at h
                          simp only [Option.map_some, Option.some.injEq, Prod.mk.injEq] at h
                          obtain ⟨rfl, rfl⟩ := h
                          exact ⟨_, g, rfl, .int _ _, hP⟩
                    · cases h
                  · cases h
                · cases h
              · cases h
          · cases h
        · cases h
  · cases h

end Go.Eng
