/-
  The operations that change memory, calls aside.
-/
import Derived.Test.YtgbcpfeopaidmaaEngK
set_option linter.all false
namespace Go.Eng
open Go

section
variable {P : Program} {w : World}

theorem set_get (h : Array Obj) (b j : Nat) (x : Obj) : (h.setIfInBounds b x)[j]? = if j = b then (if b < h.size then some x else none) else h[j]? := by
  rw [Array.getElem?_setIfInBounds]
  by_cases hj : b = j
  · subst hj
    by_cases hb : b < h.size
    · simp [hb]
    · simp [hb]
  · rw [if_neg hj, if_neg (fun e => hj e.symm)]

/-- One object is changed. -/
theorem put_goes {g : Gh} {σ : St} (hR : Rel P g σ w) {i : Nat} {o0 : AObj} (hi : σ.get i = some o0) (h0 : o0.ro = false) {b base : Nat} (hb : g.blk i = some (b, base)) {o : AObj} (hro : o.ro = false) {ob : Obj} {w' : World}
    (hh : w'.heap = w.heap.setIfInBounds b ob) (hos : w'.os = w.os) (hout : w'.output = w.output) (hO : ORel P g i base (some ob) o) : Goes P g σ w g (σ.put i (some o)) w' := by
  have hlt := hR.lt _ _ _ hb
  have hget : ∀ j, w'.heap[j]? = if j = b then some ob else w.heap[j]? := by
    intro j; rw [hh, set_get]; simp [hlt]
  have hsz : w'.heap.size = w.heap.size := by rw [hh]; simp
  have hin : i < σ.next := by
    rcases Nat.lt_or_ge i σ.next with h | h
    · exact h
    · have := (hR.fresh i h).1; rw [hi] at this; cases this
  refine ⟨g.le_refl, fun _ _ => rfl, Nat.le_refl _, ⟨?_, ?_, ?_, ?_⟩, by rw [hsz]; exact Nat.le_refl _, ?_, ?_, hos, hout, fun j _ hj => by
    rw [St.get_put]; split
    · rename_i e; subst e; rw [hi] at hj; cases hj
    · exact hj⟩
  · intro j oj bj basej hj hbj
    rw [St.get_put] at hj
    by_cases e : j = i
    · subst e
      simp only [if_true, Option.some.injEq] at hj
      subst hj
      rw [hb] at hbj
      simp only [Option.some.injEq, Prod.mk.injEq] at hbj
      obtain ⟨rfl, rfl⟩ := hbj
      rw [hget, if_pos rfl]; exact hO
    · rw [if_neg e] at hj
      have hne : bj ≠ b := by
        intro eb
        subst eb
        have := hR.sep i j _ _ _ _ _ (Ne.symm e) hi hj hb hbj
        rw [h0] at this; simp at this
      rw [hget, if_neg hne]
      exact hR.obj _ _ _ _ hj hbj
  · intro j k oj ok bb bj bk hjk hj hk hbj hbk
    rw [St.get_put] at hj hk
    by_cases e : j = i
    · subst e
      rw [if_neg (Ne.symm hjk)] at hk
      have := hR.sep j k _ _ _ _ _ hjk hi hk hbj hbk
      rw [h0] at this; simp at this
    · rw [if_neg e] at hj
      by_cases e2 : k = i
      · subst e2
        have := hR.sep j k _ _ _ _ _ hjk hj hi hbj hbk
        rw [h0] at this; simp at this
      · rw [if_neg e2] at hk
        exact hR.sep j k _ _ _ _ _ hjk hj hk hbj hbk
  · intro j bj basej hbj; rw [hsz]; exact hR.lt _ _ _ hbj
  · intro j hj
    have := hR.fresh j hj
    refine ⟨?_, this.2⟩
    rw [St.get_put]
    have : j ≠ i := by rw [St.next_put] at hj; omega
    rw [if_neg this]
    exact (hR.fresh j hj).1
  · intro bb hbb hno
    have : bb ≠ b := fun e => hno ⟨i, o0, base, hi, h0, by rw [e]; exact hb⟩
    rw [hget, if_neg this]
  · rintro r bb hbb ⟨j, oj, basej, hj, hroj, hbj⟩
    rw [St.get_put] at hj
    by_cases e : j = i
    · subst e
      simp only [if_true, Option.some.injEq] at hj
      subst hj
      exact ⟨j, o0, basej, hi, by rw [h0, ← hroj, hro], hbj⟩
    · rw [if_neg e] at hj
      exact ⟨j, oj, basej, hj, hroj, hbj⟩

theorem modify_set (h : Array Obj) (b : Nat) (f : Obj → Obj) (x : Obj) (hx : h[b]? = some x) : h.modify b f = h.setIfInBounds b (f x) := by
  apply Array.ext_getElem?
  intro j
  rw [set_get, Array.getElem?_modify]
  have hb : b < h.size := by
    rcases Nat.lt_or_ge b h.size with hb | hb
    · exact hb
    · rw [Array.getElem?_eq_none hb] at hx; cases hx
  by_cases e : b = j
  · subst e
    rw [Array.getElem?_eq_getElem hb] at hx
    simp only [Option.some.injEq] at hx
    simp [hb, hx]
  · rw [if_neg e, if_neg (fun q => e q.symm)]

/-- Cells that are stored, one by one. -/
theorem run_stores (b o : Nat) (el : TypeId) (fz : Nat × Nat) : ∀ (vs : List Value) (i : Nat) (cur : Array Value) (w : World), w.heap[b]? = some (.cells cur el fz) → o + i + vs.length ≤ cur.size →
    (∀ k, o + i ≤ k → k < o + i + vs.length → ¬ (fz.1 ≤ k ∧ k < fz.2)) → vs.all (·.oneCell') = true →
    ∃ cur' : Array Value, (storeCells ⟨b, o, none⟩ vs i).run P w = .ok () { w with heap := w.heap.setIfInBounds b (.cells cur' el fz) } ∧ cur'.toList = spliceL cur.toList (o + i) vs
  | [], i, cur, w, hg, _, _, _ => by
    refine ⟨cur, ?_, by simp [spliceL]⟩
    have : w.heap.setIfInBounds b (.cells cur el fz) = w.heap := by
      apply Array.ext_getElem?
      intro j
      rw [set_get]
      have hb : b < w.heap.size := by
        rcases Nat.lt_or_ge b w.heap.size with hb | hb
        · exact hb
        · rw [Array.getElem?_eq_none hb] at hg; cases hg
      by_cases e : j = b
      · rw [if_pos e, if_pos hb, e, hg]
      · rw [if_neg e]
    rw [this]; rfl
  | v :: rest, i, cur, w, hg, hl, hfz, h1 => by
    simp only [List.length_cons] at hl hfz
    simp only [List.all_cons, Bool.and_eq_true] at h1
    have hi : o + i < cur.size := by omega
    have hadd : (⟨b, o, none⟩ : Addr).add i = ⟨b, o + i, none⟩ := by unfold Addr.add; split <;> simp_all
    have hcell : w.cell? ⟨b, o + i, none⟩ = some cur[o + i] := by simp [World.cell?, hg, hi]
    have hfro : w.frozen? ⟨b, o + i, none⟩ = false := by
      obtain ⟨lo, hi'⟩ := fz
      have := hfz (o + i) (Nat.le_refl _) (by omega)
      simp only [World.frozen?, hg, Bool.and_eq_false_iff, decide_eq_false_iff_not]
      simp only at this
      omega
    have hset : w.setCell ⟨b, o + i, none⟩ v = { w with heap := w.heap.setIfInBounds b (.cells (cur.setIfInBounds (o + i) v) el fz) } := by
      unfold World.setCell
      rw [modify_set _ _ _ _ hg]
      simp
    have hst : (store ((⟨b, o, none⟩ : Addr).add i) v).run P w = .ok () { w with heap := w.heap.setIfInBounds b (.cells (cur.setIfInBounds (o + i) v) el fz) } := by
      rw [hadd, run_store P w _ v _ h1.1, hcell]
      simp only [hfro, Bool.false_eq_true, if_false, hset]
    have hb : b < w.heap.size := by
      rcases Nat.lt_or_ge b w.heap.size with hb | hb
      · exact hb
      · rw [Array.getElem?_eq_none hb] at hg; cases hg
    obtain ⟨cur', e1, e2⟩ := run_stores b o el fz rest (i + 1) (cur.setIfInBounds (o + i) v) { w with heap := w.heap.setIfInBounds b (.cells (cur.setIfInBounds (o + i) v) el fz) } (by simp [set_get, hb]) (by simp; omega)
      (fun k k1 k2 => hfz k (by omega) (by omega)) h1.2
    refine ⟨cur', ?_, ?_⟩
    · simp only [storeCells, Sem.run_bind, hst, Result.andThen_ok, e1]
      congr 2
      simp
    · rw [e2]
      have hlt : o + i < cur.toList.length := by simp; omega
      have e : (cur.setIfInBounds (o + i) v).toList = cur.toList.set (o + i) v := by simp
      rw [e]
      unfold spliceL
      rw [show o + (i + 1) = (o + i) + 1 by omega, take_set_succ _ _ _ hlt, List.drop_set, if_pos (by omega)]
      simp only [List.append_assoc, List.singleton_append, List.length_cons]
      congr 3
      omega

theorem splice_take (A vs : List Value) (off n : Nat) (h : off + vs.length ≤ n) (hn : n ≤ A.length) : (spliceL A off vs).take n = spliceL (A.take n) off vs := by
  unfold spliceL
  have h1 : (A.take off).length = off := by simp; omega
  rw [List.take_append, List.take_append]
  simp only [List.length_append, h1]
  rw [List.take_of_length_le (l := A.take off) (by omega), List.take_of_length_le (l := vs) (by omega), List.take_take, Nat.min_eq_left (show off ≤ n by omega), List.drop_take]

/-- Cells of a row that are written. -/
theorem write_goes {g : Gh} {σ : St} (hR : Rel P g σ w) {i : Nat} {cs : List Value} {esz : Nat} {opn : Bool} {ec : Nat} (hi : σ.get i = some (.row cs esz opn false ec)) {b base : Nat} (hb : g.blk i = some (b, base)) {off : Nat} {vs vs' : List Value}
    (hv : LRel g vs vs') (hl : off + vs.length ≤ cs.length) (h1 : vs.all (·.oneCell') = true) :
    ∃ w', (storeCells ⟨b, base + off, none⟩ vs').run P w = .ok () w' ∧ Goes P g σ w g (σ.put i (some (.row (spliceL cs off vs) esz opn false ec))) w' := by
  obtain ⟨h0, arr, el, fz, q1, q2, q3, q4, q5, q6⟩ := hR.obj _ _ _ _ hi hb
  have hlen := hv.length
  obtain ⟨cur', e1, e2⟩ := run_stores (P := P) b (base + off) el fz vs' 0 arr w q1 (by omega) (fun k k1 k2 => q4 rfl k (by omega) (by omega)) (by rw [hv.one]; exact h1)
  refine ⟨_, e1, put_goes hR hi rfl hb rfl rfl rfl rfl ?_⟩
  have hcl : cur'.size = arr.size := by
    have : cur'.toList.length = arr.toList.length := by
      rw [e2]; unfold spliceL; simp; omega
    simpa using this
  have hsl : (spliceL cs off vs).length = cs.length := by unfold spliceL; simp; omega
  refine ⟨?_, cur', el, fz, rfl, by rw [hsl, hcl]; exact q2, ?_, fun hr k k1 k2 => q4 rfl k k1 (by omega), fun ho => ?_, fun t ht => ⟨(q6 t ht).1, (q6 t ht).2.1, fun ho => by rw [hcl, hsl]; exact (q6 t ht).2.2 ho⟩⟩
  · simp only [spliceL, List.all_append, Bool.and_eq_true]
    simp only [List.all_eq_true] at h0 h1 ⊢
    exact ⟨⟨fun v hv => h0 v (List.mem_of_mem_take hv), h1⟩, fun v hv => h0 v (List.mem_of_mem_drop hv)⟩
  · rw [hsl, e2, Nat.add_zero]
    have hs := q3.splice hv off
    have : (spliceL arr.toList (base + off) vs').drop base = spliceL (arr.toList.drop base) off vs' := by
      unfold spliceL
      rw [List.append_assoc, List.drop_append_of_le_length (by simp; omega), List.drop_take, List.drop_drop]
      rw [show base + off - base = off by omega, ← List.append_assoc]
      rw [Nat.add_assoc]
    rw [this]
    have : (spliceL (arr.toList.drop base) off vs').take cs.length = spliceL ((arr.toList.drop base).take cs.length) off vs' := splice_take _ _ _ _ (by omega) (by simp; omega)
    rw [this]
    exact hs
  · obtain ⟨a1, a2, a3⟩ := q5 ho
    exact ⟨a1, by rw [hcl]; exact a2, by rw [hsl]; exact a3⟩

end
end Go.Eng
