/-
  A sheet's names, as a contract of the interpreter's table.
-/
import Derived.Test.YtgbcpfeopaidmaaNames
set_option linter.all false
namespace Go.Eng
open Go Go.RowKit Go.Maps Go.Sort Go.Shelf
open Go.Proofs (encStr)

def bleS : List UInt8 → List UInt8 → Bool
  | [], _ => true
  | _ :: _, [] => false
  | a :: ar, b :: br => if a.toNat < b.toNat then true else if b.toNat < a.toNat then false else bleS ar br

theorem bleS_eq : ∀ x y : List UInt8, bleS x y = decide (x ≤ y)
  | [], y => by simp [bleS]
  | a :: ar, [] => by simp [bleS]
  | a :: ar, b :: br => by
    simp only [bleS]
    by_cases h1 : a.toNat < b.toNat
    · have h1' : a < b := h1
      rw [if_pos h1, eq_comm, decide_eq_true_iff]
      exact Std.not_lt.1 (by
        rw [List.cons_lt_cons_iff]
        rintro (h | ⟨h, _⟩)
        · have : b.toNat < a.toNat := h
          omega
        · subst h; exact absurd h1 (Nat.lt_irrefl _))
    · rw [if_neg h1]
      by_cases h2 : b.toNat < a.toNat
      · have h2' : b < a := h2
        rw [if_pos h2, eq_comm, decide_eq_false_iff_not]
        intro h
        have := Std.not_lt.2 h
        exact this (by rw [List.cons_lt_cons_iff]; exact .inl h2')
      · rw [if_neg h2]
        have e : a = b := UInt8.toNat_inj.1 (by omega)
        subst e
        rw [bleS_eq ar br]
        congr 1
        rw [eq_iff_iff, ← Std.not_lt, ← Std.not_lt, List.cons_lt_cons_iff]
        simp

def insS (x : List UInt8) : List (List UInt8) → List (List UInt8)
  | [] => [x]
  | y :: l => if bleS x y then x :: y :: l else y :: insS x l
def srtS : List (List UInt8) → List (List UInt8)
  | [] => []
  | x :: l => insS x (srtS l)

theorem insS_perm (x : List UInt8) : ∀ l, (insS x l).Perm (x :: l)
  | [] => .refl _
  | y :: l => by
    simp only [insS]
    split
    · exact .refl _
    · exact ((insS_perm x l).cons y).trans (.swap _ _ _)
theorem srtS_perm : ∀ l, (srtS l).Perm l
  | [] => .refl _
  | x :: l => (insS_perm x _).trans ((srtS_perm l).cons x)
theorem insS_pw (x : List UInt8) : ∀ l, l.Pairwise (fun a b => a ≤ b) → (insS x l).Pairwise (fun a b => a ≤ b)
  | [], _ => by simp [insS]
  | y :: l, h => by
    simp only [insS]
    rw [List.pairwise_cons] at h
    split
    · rename_i hx
      rw [bleS_eq, decide_eq_true_iff] at hx
      refine List.pairwise_cons.2 ⟨fun a ha => ?_, List.pairwise_cons.2 h⟩
      rcases List.mem_cons.1 ha with rfl | ha
      · exact hx
      · exact List.le_trans hx (h.1 a ha)
    · rename_i hx
      rw [bleS_eq, decide_eq_true_iff] at hx
      refine List.pairwise_cons.2 ⟨fun a ha => ?_, insS_pw x l h.2⟩
      rcases List.mem_cons.1 ((insS_perm x l).mem_iff.1 ha) with rfl | ha
      · rcases List.le_total a y with h' | h'
        · exact absurd h' hx
        · exact h'
      · exact h.1 a ha
theorem srtS_pw : ∀ l, (srtS l).Pairwise (fun a b => a ≤ b)
  | [] => .nil
  | x :: l => insS_pw x _ (srtS_pw l)

theorem srtS_merge {l l' : List (List UInt8)} (h : l'.Perm l) : l'.mergeSort (fun x y => decide (x ≤ y)) = srtS l := by
  rw [show (fun x y : List UInt8 => decide (x ≤ y)) = leB from rfl, mergeSort_of_perm (h.trans (srtS_perm l).symm)]
  refine List.mergeSort_of_pairwise ?_
  exact (srtS_pw l).imp fun h => by simpa [leB] using h

/-- The keys of a map whose keys are strings. -/
def keysA : List (Value × Value) → Option (List (List UInt8))
  | [] => some []
  | (.string s, _) :: es => if s.size ≤ 1000000 then (keysA es).map (s.data.toList :: ·) else none
  | _ => none

def hNamesOf (σ : St) (es : List (Value × Value)) : Option (Value × St) :=
  if es.length ≤ 1000000 then
    match keysA es with
    | some [] => some (.slice none 0 0, σ)
    | some ks => some (slOf σ.next 0 ks.length capU, { σ.put σ.next (some (.row ((srtS ks).map encStr) 1 true false)) with next := σ.next + 1 })
    | none => none
  else none

def hNames : List Value → St → Option (Value × St)
  | [.pointer none], σ => some (.slice none 0 0, σ)
  | [.pointer (some ⟨i, o, none⟩)], σ =>
    match rowOf σ i with
    | some cs =>
      match cs[o]? with
      | some (.map none) => some (.slice none 0 0, σ)
      | some (.map (some m)) => match mapOf σ m with | some es => hNamesOf σ es | none => none
      | _ => none
    | none => none
  | _, _ => none

/-- An object that lies in a block which nobody owned. -/
theorem adopt_goes {P : Program} {g : Gh} {σ : St} {w w' : World} (hR : Rel P g σ w) (hk : ∀ k, k < w.heap.size → w'.heap[k]? = w.heap[k]?) (hs : w.heap.size ≤ w'.heap.size) (os : w'.os = w.os) (out : w'.output = w.output)
    {b esz cap : Nat} (h1 : w.heap.size ≤ b) (h2 : b < w'.heap.size) {o : AObj} (ho : ORel P (g.ext σ.next b esz cap) σ.next 0 w'.heap[b]? o) :
    Goes P g σ w (g.ext σ.next b esz cap) { σ.put σ.next (some o) with next := σ.next + 1 } w' := by
  have hf := hR.fresh σ.next (Nat.le_refl _)
  have hle := Gh.le_ext hf.2 b esz cap
  have hbk : ∀ j, j ≠ σ.next → (g.ext σ.next b esz cap).blk j = g.blk j := fun j hj => by simp [Gh.ext, hj]
  have hget : ∀ j, ({ σ.put σ.next (some o) with next := σ.next + 1 } : St).get j = if j = σ.next then some o else σ.get j := fun j => St.get_put σ σ.next j (some o)
  have hlt : ∀ j x bs, g.blk j = some (x, bs) → x < w.heap.size := fun j x bs h => hR.lt j x bs h
  refine ⟨hle, fun i hi => hbk i (by omega), Nat.le_succ _, ⟨?_, ?_, ?_, ?_⟩, hs, fun k hk' _ => hk k hk', ?_, os, out, fun i hi hn => by rw [hget, if_neg (by omega)]; exact hn⟩
  · intro i oi x bs hi hb
    rw [hget] at hi
    by_cases hin : i = σ.next
    · subst hin
      rw [if_pos rfl] at hi
      simp only [Option.some.injEq] at hi
      subst hi
      rw [Gh.ext_blk] at hb
      simp only [Option.some.injEq, Prod.mk.injEq] at hb
      obtain ⟨rfl, rfl⟩ := hb
      exact ho
    · rw [if_neg hin] at hi
      rw [hbk i hin] at hb
      rw [hk x (hlt _ _ _ hb)]
      exact (hR.obj _ _ _ _ hi hb).mono hle hb
  · intro i j oi oj x bi bj hij hi hj h3 h4
    rw [hget] at hi hj
    by_cases hin : i = σ.next
    · subst hin
      have hjn : j ≠ σ.next := fun e => hij e.symm
      rw [Gh.ext_blk] at h3
      rw [hbk j hjn] at h4
      simp only [Option.some.injEq, Prod.mk.injEq] at h3
      have := hlt _ _ _ h4
      omega
    · rw [if_neg hin] at hi
      rw [hbk i hin] at h3
      by_cases hjn : j = σ.next
      · subst hjn
        rw [Gh.ext_blk] at h4
        simp only [Option.some.injEq, Prod.mk.injEq] at h4
        have := hlt _ _ _ h3
        omega
      · rw [if_neg hjn] at hj
        rw [hbk j hjn] at h4
        exact hR.sep i j _ _ _ _ _ hij hi hj h3 h4
  · intro i x bs hb
    by_cases hin : i = σ.next
    · subst hin
      rw [Gh.ext_blk] at hb
      simp only [Option.some.injEq, Prod.mk.injEq] at hb
      omega
    · rw [hbk i hin] at hb
      have := hlt _ _ _ hb
      omega
  · intro i hi
    have hi' : σ.next + 1 ≤ i := hi
    rw [hget, if_neg (by omega), hbk i (by omega)]
    exact hR.fresh i (by omega)
  · rintro r x hx ⟨j, oj, bs, hj, h3, h4⟩
    rw [hget] at hj
    by_cases hjn : j = σ.next
    · subst hjn
      rw [Gh.ext_blk] at h4
      simp only [Option.some.injEq, Prod.mk.injEq] at h4
      omega
    · rw [if_neg hjn] at hj
      rw [hbk j hjn] at h4
      exact ⟨j, oj, bs, hj, h3, h4⟩

/-- Blocks that nobody owns. -/
theorem grow_goes {P : Program} {g : Gh} {σ : St} {w w' : World} (hR : Rel P g σ w) (hk : ∀ k, k < w.heap.size → w'.heap[k]? = w.heap[k]?) (hs : w.heap.size ≤ w'.heap.size) (os : w'.os = w.os) (out : w'.output = w.output) : Goes P g σ w g σ w' :=
  ⟨g.le_refl, fun _ _ => rfl, Nat.le_refl _, ⟨fun i oi x bs hi hb => by rw [hk x (hR.lt _ _ _ hb)]; exact hR.obj _ _ _ _ hi hb, hR.sep, fun i x bs hb => Nat.lt_of_lt_of_le (hR.lt _ _ _ hb) hs, hR.fresh⟩, hs, fun k hk' _ => hk k hk', fun _ _ _ h => h, os, out, fun _ _ h => h⟩

/-- What is read of any value: nothing. -/
def noElem (_ : Value) : Option (DataW Unit × List MemPlace) := some (.nil, [])

theorem keysA_ok {g : Gh} : ∀ {es : List (Value × Value)} {ents : List MapEntry} {ks : List (List UInt8)}, MRel g es ents → keysA es = some ks →
    ents.map (·.key) = ks.map encStr ∧ ents.length = es.length ∧ ks.length = es.length ∧ ∀ x ∈ ks, x.length ≤ 1000000
  | _, _, ks, .nil, h => by simp [keysA] at h; subst h; simp
  | _, _, ks, .cons (k := k) (v := v) (e := e) (l := l) (l' := l') hk hv t, h => by
    obtain ⟨ek, ev, eb⟩ := e
    cases hk with
    | str s =>
      simp only [keysA] at h
      split at h
      · rename_i hs
        simp only [Option.map_eq_some_iff] at h
        obtain ⟨ks', h', rfl⟩ := h
        obtain ⟨h1, h2, h3, h4⟩ := keysA_ok t h'
        refine ⟨by simp [h1, encStr], by simp [h2], by simp [h3], fun x hx => ?_⟩
        rcases List.mem_cons.1 hx with rfl | hx
        · rw [Array.length_toList]; exact hs
        · exact h4 x hx
      · cases h
    | _ => simp [keysA] at h

theorem keys_read {P : Program} {k : TypeId} (hk : P.underlying k = some .string) : ∀ {ents : List MapEntry} {ks : List (List UInt8)}, ents.map (·.key) = ks.map encStr → (∀ x ∈ ks, x.length ≤ 1000000) →
    (∀ x ∈ ents, ∃ y, WideElems.rd P k noElem x = some y) ∧ ents.map (WideElems.rg P k noElem) = ks.map fun x => ((.string x : Lit), (.nil : DataW Unit))
  | [], [], _, _ => by simp
  | [], _ :: _, h, _ => by simp at h
  | _ :: _, [], h, _ => by simp at h
  | e :: ents, x :: ks, h, hl => by
    simp only [List.map_cons, List.cons.injEq] at h
    obtain ⟨h1, h2⟩ := keys_read hk h.2 fun y hy => hl y (by simp [hy])
    have hx := hl x (by simp)
    have hr : WideElems.rd P k noElem e = some (.string x, .nil) := by
      have hm : maxLen = 9223372036854775807 := by decide
      have : keyOf P k e.key = some (.string x) := by
        rw [h.1]
        simp only [keyOf, hk, mapKey, encStr]
        rw [if_pos (by simp [hm, ByteArray.size]; omega)]
      simp [WideElems.rd, this, noElem]
    refine ⟨fun y hy => ?_, by simp [h2, WideElems.rg, hr]⟩
    rcases List.mem_cons.1 hy with rfl | hy
    · exact ⟨_, hr⟩
    · exact h1 y hy

theorem owns_keys {P : Program} {k : TypeId} (hk : P.underlying k = some .string) {g : Gh} {i base b : Nat} {w : World} {es : List (Value × Value)} {ks : List (List UInt8)} (h : ORel P g i base w.heap[b]? (.map es)) (hks : keysA es = some ks) (hl : es.length ≤ 1000000) :
    ∃ D0 : DataW Unit, w.ownsMap P k noElem b es.length D0 ∧ Maps.size D0 = es.length ∧ (strKeys D0).Perm ks := by
  obtain ⟨_, ents, clock, h1, h2, h3⟩ := h
  obtain ⟨q1, q2, q3, q4⟩ := keysA_ok h2 hks
  obtain ⟨r1, r2⟩ := keys_read hk q1 q4
  have hm : maxLen = 9223372036854775807 := by decide
  have hsz : ents.size = es.length := by simpa using q2
  have hp := WideShapes.sorted_perm (ents.toList.map (WideElems.rg P k noElem))
  refine ⟨_, ⟨ents, clock, h1, ⟨by omega, h3, r1⟩, by omega, rfl⟩, ?_, ?_⟩
  · rw [Maps.size_eq, hp.length_eq]; simp [hsz]
  · show (List.map _ _).Perm ks
    refine (hp.map _).trans ?_
    rw [r2]
    simp [List.map_map, Function.comp_def, strOf]

theorem names_enter (w : World) (xs : Array Value) : (callFunc 10 xs).run Proofs.Try.prog w = .ok (.enter 10 xs) w := by
  have h : (match funC Proofs.Try.prog Proofs.Try.f10 with | some _ => true | none => false) = true := by kernel_rfl
  split at h
  · rename_i ir hir; exact callFunc_enter Proofs.Try.func10 hir xs w
  · cases h

theorem names_spec : ∀ args σ v σ', hNames args σ = some (v, σ') → ∀ g w args', Rel Proofs.Try.prog g σ w → LRel g args args' →
    (callFunc 10 ⟨args'⟩).run Proofs.Try.prog w = .ok (.enter 10 ⟨args'⟩) w ∧ Calls Proofs.Try.prog 10 ⟨args'⟩ w (CallPost Proofs.Try.prog g σ w v σ') := by
  intro args σ v σ' h g w args' hR ha
  refine ⟨names_enter _ _, ?_⟩
  unfold hNames at h
  split at h
  · -- a nil sheet
    simp only [Option.some.injEq, Prod.mk.injEq] at h
    obtain ⟨rfl, rfl⟩ := h
    cases ha with
    | cons h1 t =>
      cases t; cases h1
      refine (Proofs.Try.names_nil w).mono ?_
      rintro e w' ⟨rfl, rfl⟩
      exact ⟨_, g, rfl, .sl0, Goes.refl hR⟩
  · rename_i i o
    cases ha with
    | cons hp t =>
      cases t
      cases hp with
      | ptr hb =>
        rename_i b base
        split at h
        · rename_i cs hcs
          obtain ⟨esz, opn, ro, ec, hrow⟩ := rowOf_some hcs
          have hobj := hR.obj _ _ _ _ hrow hb
          split at h
          · rename_i hco
            simp only [Option.some.injEq, Prod.mk.injEq] at h
            obtain ⟨rfl, rfl⟩ := h
            obtain ⟨v', hc, hv⟩ := row_cell hobj hco
            cases hv
            refine (Proofs.Try.names_none _ _ w hc).mono ?_
            rintro e w' ⟨rfl, rfl⟩
            exact ⟨_, g, rfl, .sl0, Goes.refl hR⟩
          · rename_i m hco
            obtain ⟨v', hc, hv⟩ := row_cell hobj hco
            cases hv with
            | map hbm =>
              rename_i bm
              split at h
              · rename_i es hes
                unfold hNamesOf at h
                split at h
                · rename_i hlen
                  have hgm := mapOf_some hes
                  have fin : ∀ ks, keysA es = some ks → Calls Proofs.Try.prog 10 ⟨[.pointer (some ⟨b, base + o, none⟩)]⟩ w fun e w' => ∃ v ss, e = .returned v ∧ ss.Perm ks ∧ w'.ownsRow w.heap.size 9 1 v ss.length ((srtS ks).map encStr) ∧ (v = .slice none 0 0 ↔ ss = []) ∧ Below w.heap.size w w' := by
                    intro ks hks
                    obtain ⟨D0, hown, hsize, hperm⟩ := owns_keys Proofs.Try.underlying9 (hR.obj _ _ _ _ hgm hbm) hks hlen
                    have hm : maxLen = 9223372036854775807 := by decide
                    refine (Proofs.Try.names_at b (base + o) bm es.length D0 noElem w hc hown (by omega) (by omega)).mono ?_
                    rintro e w' ⟨v, ss, rfl, hS, hrow, hnil, hB⟩
                    rw [srtS_merge (hS.trans hperm)] at hrow
                    exact ⟨v, ss, rfl, hS.trans hperm, hrow, hnil, hB⟩
                  split at h
                  · rename_i hks
                    simp only [Option.some.injEq, Prod.mk.injEq] at h
                    obtain ⟨rfl, rfl⟩ := h
                    refine (fin _ hks).mono ?_
                    rintro e w' ⟨v, ss, rfl, hS, hrow, hnil, hB⟩
                    have hss : ss = [] := by simpa using hS
                    obtain rfl := hnil.2 hss
                    exact ⟨_, g, rfl, .sl0, grow_goes hR hB.block hB.size hB.os hB.output⟩
                  · rename_i ks hne hks
                    simp only [Option.some.injEq, Prod.mk.injEq] at h
                    obtain ⟨rfl, rfl⟩ := h
                    refine (fin _ hks).mono ?_
                    rintro e w' ⟨v, ss, rfl, hS, hrow, hnil, hB⟩
                    have hln := hS.length_eq
                    have hpos : 0 < ks.length := by
                      cases ks with
                      | nil => exact absurd rfl hne
                      | cons _ _ => simp
                    obtain ⟨hl, (⟨_, hz⟩ | ⟨bn, cap, cur, rfl, hbn, hcur, hcap, hmax, hsz, htk⟩)⟩ := hrow
                    · omega
                    · have hm : maxLen = 9223372036854775807 := by decide
                      have hlt : bn < w'.heap.size := by
                        rcases Nat.lt_or_ge bn w'.heap.size with h | h
                        · exact h
                        · rw [Array.getElem?_eq_none h] at hcur; cases hcur
                      refine ⟨_, g.ext σ.next bn 1 cap, rfl, ?_, adopt_goes (o := .row ((srtS ks).map encStr) 1 true false) hR hB.block hB.size hB.os hB.output hbn hlt ?_⟩
                      · rw [hln]
                        have := VRel.sl (g := g.ext σ.next bn 1 cap) (i := σ.next) (o := 0) (l := ks.length) (c := capU) (c' := cap) (b := bn) (base := 0) (Gh.ext_blk _ _ _ _ _) (by omega) (by simp only [capU]; omega) (.inr ⟨rfl, 0, by simp, by simp [Gh.ext]⟩)
                        exact this
                      · have hlr : ((srtS ks).map encStr).length = ks.length := by simp [(srtS_perm ks).length_eq]
                        refine ⟨by simp [List.all_eq_true, encStr, Value.oneCell'], cur, 9, (0, 0), hcur, by omega, ?_, fun _ k _ _ hk => by omega, fun _ => ⟨by simp [Gh.ext], by simp [Gh.ext]; omega, by rw [hlr]; simp [Gh.ext]; omega⟩, fun t ht => by cases ht⟩
                        simp only [List.drop_zero, hlr]
                        rw [Nat.mul_one, hln] at htk
                        rw [htk]
                        have : ∀ l : List (List UInt8), LRel (g.ext σ.next bn 1 cap) (l.map encStr) (l.map encStr) := by
                          intro l
                          induction l with
                          | nil => exact .nil
                          | cons a l ih => exact .cons (.str _) ih
                        exact this _
                  · cases h
                · cases h
              · cases h
          · cases h
        · cases h
  · cases h

end Go.Eng
