/-
  Appends in place, and all operations that change memory, calls aside.
-/
import Derived.Test.YtgbcpfeopaidmaaEngO
set_option linter.all false
namespace Go.Eng
open Go

section
variable {P : Program} {w : World}

theorem add_mul_off (b base o k : Nat) : (⟨b, base + o, none⟩ : Addr).add k = ⟨b, base + (o + k), none⟩ := by
  unfold Addr.add
  by_cases h : k = 0
  · simp [h]
  · simp [h, Nat.add_assoc]

/-- An object that is left. -/
theorem drop_goes {g : Gh} {σ : St} (hR : Rel P g σ w) (i : Nat) : Goes P g σ w g (σ.put i none) w := by
  have hget : ∀ j o, (σ.put i none).get j = some o → σ.get j = some o := by
    intro j o h
    rw [St.get_put] at h
    split at h
    · cases h
    · exact h
  refine ⟨g.le_refl, fun _ _ => rfl, Nat.le_refl _, ⟨?_, ?_, hR.lt, ?_⟩, Nat.le_refl _, fun _ _ _ => rfl, ?_, rfl, rfl, fun j _ hj => by
    rw [St.get_put]; split
    · rfl
    · exact hj⟩
  · intro j o b base h hb; exact hR.obj _ _ _ _ (hget _ _ h) hb
  · intro j k oj ok b bj bk hjk hj hk h1 h2; exact hR.sep j k _ _ _ _ _ hjk (hget _ _ hj) (hget _ _ hk) h1 h2
  · intro j hj
    have := hR.fresh j hj
    refine ⟨?_, this.2⟩
    rw [St.get_put]; split
    · rfl
    · exact this.1
  · rintro r b hb ⟨j, o, base, h, h2, h3⟩
    exact ⟨j, o, base, hget _ _ h, h2, h3⟩

theorem bump_rel {g : Gh} {σ : St} (hR : Rel P g σ w) {n : Nat} (hn : σ.next ≤ n) : Rel P g { σ with next := n } w :=
  ⟨hR.obj, hR.sep, hR.lt, fun j hj => hR.fresh j (Nat.le_trans hn hj)⟩

/-- An object that is made, under the next number. -/
theorem new_goes {g g' : Gh} {σ : St} (hR : Rel P g σ w) {o : AObj} {v v' : Value} {w' : World} {b : Nat} (hm : Makes P g w w' σ.next o v v' g' b) :
    Goes P g σ w g' { σ.put σ.next (some o) with next := σ.next + 1 } w' := by
  have hf := hR.fresh σ.next (Nat.le_refl _)
  obtain ⟨h1, h2, h3, h4⟩ := makes_goes (σ := { σ with next := σ.next + 1 }) (bump_rel hR (Nat.le_succ _)) hm hf.2 (Nat.lt_succ_self _)
  exact ⟨hm.le, fun i hi => hm.old i (by omega), Nat.le_succ _, h1, h2, fun b hb _ => h3 b hb, fun r b hb ho => h4 r b hb ho, hm.os, hm.out, fun i hi hn => by
    have : ({ σ.put σ.next (some o) with next := σ.next + 1 } : St).get i = (σ.put σ.next (some o)).get i := rfl
    rw [this, St.get_put, if_neg (by omega)]; exact hn⟩

theorem spliceL_drop (l vs : List Value) (a b : Nat) (h : a + b ≤ l.length) : ((spliceL l (a + b) vs).drop a).take (b + vs.length) = (l.drop a).take b ++ vs := by
  unfold spliceL
  rw [List.append_assoc, List.drop_append_of_le_length (by simp; omega), List.drop_take, show a + b - a = b by omega]
  have hl : ((l.drop a).take b).length = b := by simp; omega
  rw [← List.append_assoc, List.take_append_of_le_length (by simp; omega), List.take_of_length_le (by simp; omega)]

theorem app_all {g : Gh} {nt : Nat} {ρ : Env} {a : Act} (hρ : ERel g nt ρ a.tmps) {σ : St} (hR : Rel P g σ w) {cl : CallF} {op : Oper} {esz et : Nat} {z : Option (List Value)} {s x : Arg} (hi : insC P op = some (.app esz et z s x)) {v : Value} {σ' : St}
    (hv : evW cl ρ σ (.app esz et z s x) = some (v, σ')) : Wrote P g σ w v σ' ((execOp a.eval op).run P w) := by
  have hk := insC_kind hi
  obtain ⟨dst, op, ty, pos, after, guard⟩ := op
  cases op <;> simp [kindI, kindO] at hk
  rename_i c
  obtain ⟨q1, q2, st, xt, e, xd, z', bytes, qb, qe, q3, q4, q5, q6, q7, q8, q9, q10, q11, q12, q13⟩ := insC_app hi
  obtain ⟨s', x', hargs, r1, r2⟩ := lower_app hρ q2 rfl
  simp only [evW] at hv
  generalize s.get ρ = sv at hv r1
  generalize x.get ρ = xv at hv r2
  have hzs : z'.cells.size = esz := by rw [← cells_size_of]; exact q11
  have hcall : ∀ (r : Value) (w' : World), (Builtin.append_ c.argTypes ty #[s', x']).run P w = .ok r w' → (execOp a.eval { dst, op := .call c, type := ty, pos, after, guard }).run P w = .ok (.value r) w' := by
    intro r w' h
    obtain ⟨callee, args, ats⟩ := c
    simp only at q1 q3 q4 hargs h
    subst q1
    simp only [execOp, resolve, hargs, Sem.run_bind, Sem.run_pure, Result.andThen_ok, invoke, builtin, h]
  split at hv
  · rename_i k p len cap hk'
    split at hv
    · rename_i hk0
      subst hk0
      simp only [Option.some.injEq, Prod.mk.injEq] at hv
      obtain ⟨rfl, rfl⟩ := hv
      -- nothing is appended
      have hs' : ∃ ad cc, s' = .slice ad len cc ∧ len ≤ cc := by
        cases r1 with
        | sl0 => exact ⟨_, _, rfl, Nat.le_refl _⟩
        | sl hb' hl hu hcap => exact ⟨_, _, rfl, hl⟩
        | slz => exact ⟨_, _, rfl, Nat.le_refl _⟩
        | slu _ _ => exact ⟨_, _, rfl, Nat.le_refl _⟩
      obtain ⟨ad, cc, rfl, hle⟩ := hs'
      refine ⟨_, _, w, g, hcall (.slice ad len cc) w ?_, .inl rfl, r1, Goes.refl hR⟩
      unfold Builtin.append_
      obtain ⟨ti, hti, htb⟩ := run_bytes (w := w) q8
      simp only [q3, q4, List.getElem?_toArray, List.getElem?_cons_zero, List.getElem?_cons_succ, Sem.run_bind, run_und q5, Result.andThen_ok, run_size q7, run_und q6, Sem.run_pure]
      have hz0 : ∀ (y : Int), 0 ≤ y → y.toNat = 0 → y = 0 := by intro y h1 h2; omega
      cases xd with
      | int kk0 =>
        simp only at q13
        subst q13
        simp only [appN] at hk'
        split at hk'
        · rename_i kk y
          split at hk'
          · rename_i hy
            simp only [Option.some.injEq] at hk'
            have := hz0 y hy.1 hk'
            subst this
            cases r2
            have hw0 : IntKind.i64.wrap 0 = 0 := by decide
            simp [asInt, asIntOf, hw0, hti, hle]
            cases ad <;> simp [storeCells]
          · simp at hk'
        · simp at hk'
      | _ =>
        simp only at q13
        subst q13
        simp only [appN] at hk'
        have hl := lenA_ok (P := P) (w := w) r2 hk'
        have hfc : (Builtin.firstCells esz 0 x').run P w = .ok #[] w := by
          unfold lenA at hk'
          split at hk' <;> cases r2 <;> simp [Builtin.firstCells, loadCells, loadCellsFrom] at hk' ⊢
        simp [hl, hle, hfc]
        cases ad <;> simp [storeCells]
    · rename_i hk0
      split at hv
      · rename_i new ad hnew
        split at hv
        · rename_i cs e' opn ec hg
          split at hv
          · rename_i hc
            obtain ⟨c1, rfl, c3, _, c5⟩ := hc
            have c4 := qb
            obtain ⟨news, e1, e2⟩ := app_new (P := P) (w := w) hR q10 q11 q12 q13 r2 hk' hnew
            have lnew : new.length = k * e' := appL_len hk' hnew (fun zs hz => by
              cases xd <;> simp [q13] at hz
              rw [← hz]; exact q11)
            have hnone := appL_one hR r2 hnew (fun zs hz => by cases xd <;> simp [q13] at hz; rw [← hz]; exact closedV_one q10)
            -- an array of its own
            have fresh : ∀ (ad' : Option Addr) (c' : Nat), s' = .slice ad' len c' → c' < len + k → srcA σ e' len (.slice (some ad) len cap) = some ((cs.drop ad.off).take (len * e')) →
                Wrote P g σ w (slOf σ.next 0 (len + k) capU) { (σ.put ad.block none).put σ.next (some (.row ((cs.drop ad.off).take (len * e') ++ new) e' true false (if ec = et + 1 ∧ ad.off = 0 then ec else 0))) with next := σ.next + 1 }
                  ((execOp a.eval { dst, op := .call c, type := ty, pos, after, guard }).run P w) := by
              intro ad' c' hse hgrow hold
              obtain ⟨olds, f1, f2⟩ := srcA_all hR r1 hold
              have hone := srcA_one hR r1 hold
              rw [hse] at f1
              obtain ⟨cc, rest, g1, g2, g3, g4⟩ := run_append_new (P := P) (w := w) q3 q4 q5 q6 q7 q8 q9 hzs (by omega) ty (k := k) e2 f1 (by omega) hgrow c3 c4
              rw [← hse] at g4
              have lold : ((cs.drop ad.off).take (len * e')).length = len * e' := srcA_len hold (fun s hs => by cases hs)
              have ltot : ((cs.drop ad.off).take (len * e') ++ new).length = (len + k) * e' := by rw [List.length_append, lold, lnew, Nat.add_mul]
              have hrel : LRel g ((cs.drop ad.off).take (len * e') ++ new) (olds.toList ++ news.toList) := f2.append e1
              have hf := hR.fresh σ.next (Nat.le_refl _)
              have hm : Makes P g w { w with drawn := w.drawn + 1, heap := w.heap.push (.cells ⟨olds.toList ++ news.toList ++ rest⟩ e) } σ.next (.row ((cs.drop ad.off).take (len * e') ++ new) e' true false (if ec = et + 1 ∧ ad.off = 0 then ec else 0)) (slOf σ.next 0 (len + k) capU) (.slice (some ⟨w.heap.size, 0, none⟩) (len + k) cc)
                  (g.ext σ.next w.heap.size e' cc) w.heap.size := by
                refine makes_open (w' := { w with drawn := w.drawn + 1, heap := w.heap.push (.cells ⟨olds.toList ++ news.toList ++ rest⟩ e) }) hf.2 (arr := ⟨olds.toList ++ news.toList ++ rest⟩) (el := e) (fz := (0, 0)) (esz := e') (c := cc) (f := fun i => slOf i 0 (len + k) capU) rfl rfl rfl
                  (by simp only [List.all_append, Bool.and_eq_true]; exact ⟨hone, hnone⟩) ?_ ?_ (fun _ _ => by omega) ?_ ?_ (fun g' h hc => sl_open h (len + k) g1 g2 hc) (ec := if ec = et + 1 ∧ ad.off = 0 then ec else 0) (fun t ht => by
                    split at ht
                    · rename_i he; exact qe.trans (Nat.succ.inj (he.1.symm.trans ht))
                    · cases ht)
                · have hl := hrel.length
                  rw [hl, List.take_left]
                  exact hrel
                · have hl := hrel.length
                  have h2 := List.length_append (as := olds.toList ++ news.toList) (bs := rest)
                  simp only [List.size_toArray]
                  rw [h2, ← hl]; exact Nat.le_add_right _ _
                · have hl := hrel.length
                  have : (len + k) * e' + (cc - (len + k)) * e' = e' * cc := by
                    rw [← Nat.add_mul, Nat.mul_comm]; congr 1; omega
                  have h2 := List.length_append (as := olds.toList ++ news.toList) (bs := rest)
                  simp only [List.size_toArray]
                  rw [h2, ← hl, ltot, g3, this]
                  exact Nat.le_refl _
                · rw [ltot, Nat.mul_comm]; exact Nat.mul_le_mul_left _ g1
              have hd := drop_goes hR ad.block
              have hn := new_goes (σ := σ.put ad.block none) hd.rel hm
              exact ⟨_, _, _, _, hcall _ _ g4, .inl rfl, hm.val, hd.trans hn⟩
            cases r1 with
            | slz =>
              exfalso
              split at hv
              · rename_i hcc
                rcases hcc.2 with h | h
                · have := h.1; simp [capU] at this
                · omega
              · split at hv
                · rename_i h; have := h.1; simp [capU] at this
                · simp at hv
            | slu hb hj =>
              rename_i i o b base a'
              dsimp only at hg c5 hv fresh
              obtain ⟨_, arr, el, fz, _, p2, _, _, p5, _⟩ := hR.obj _ _ _ _ hg hb
              split at hv
              · rename_i hcc
                exfalso
                have hop : opn = true := by
                  rcases hcc.2 with h | h
                  · exact h.2
                  · exact absurd rfl h.1
                obtain ⟨t1, t2, t3⟩ := p5 hop
                have h1 := hcc.1
                simp only [Nat.zero_add] at h1
                rw [hj, t1] at h1
                have : e' * g.cap i = g.cap i * e' := Nat.mul_comm _ _
                have : 0 < k * e' := Nat.mul_pos (by omega) (by omega)
                omega
              · split at hv
                · rename_i hcc
                  simp only [Option.some.injEq, Prod.mk.injEq] at hv
                  obtain ⟨rfl, rfl⟩ := hv
                  exact fresh _ _ rfl (by omega) (by simp [srcA])
                · simp at hv
            | sl hb hl hu hcap =>
              rename_i i o b base c'
              dsimp only at hg c5 hv fresh
              have hrowI := hR.obj _ _ _ _ hg hb
              obtain ⟨p0, arr, el, fz, p1, p2, p3, p4, p5, p6⟩ := hrowI
              split at hv
              · rename_i hcc
                simp only [Option.some.injEq, Prod.mk.injEq] at hv
                obtain ⟨rfl, rfl⟩ := hv
                have hroom : len + k ≤ c' := by
                  rcases hcc.2 with h | h
                  · rcases hcap with hcap | ⟨_, j, j1, j2⟩
                    · rw [hcap, h.1]; unfold capU; omega
                    · obtain ⟨t1, t2, t3⟩ := p5 h.2
                      have h1 := hcc.1
                      rw [j1, t1, ← Nat.add_mul, Nat.mul_comm] at h1
                      have : e' * (j + (len + k)) ≤ e' * g.cap i := Nat.le_trans h1 t3
                      have := Nat.le_of_mul_le_mul_left this (by omega)
                      omega
                  · rcases hcap with hcap | hcap
                    · omega
                    · exact absurd hcap.1 h.1
                obtain ⟨w', f1, f2⟩ := write_goes hR hg hb (off := o + len * e') e1 (by rw [lnew]; have := hcc.1; simp only [Nat.add_mul] at this; omega) hnone
                refine ⟨_, _, w', g, hcall (.slice (some ⟨b, base + o, none⟩) (len + k) c') w' ?_, .inl rfl, .sl hb hroom hu hcap, f2⟩
                rw [run_append_room (P := P) (w := w) q3 q4 q5 q6 q7 q8 q9 hzs (by omega) ty e2 hroom c4]
                simp only [add_mul_off, f1, Result.andThen_ok]
              · split at hv
                · rename_i hnr hcc
                  simp only [Option.some.injEq, Prod.mk.injEq] at hv
                  obtain ⟨rfl, rfl⟩ := hv
                  obtain ⟨rfl, rfl⟩ := hcc
                  obtain ⟨t1, t2, t3⟩ := p5 rfl
                  rcases hcap with hcap | ⟨_, j, j1, j2⟩
                  · exact absurd hcap (by omega)
                  · by_cases hroom : len + k ≤ c'
                    · -- in place, beyond what is known
                      have hln := e1.length
                      have hsp : base + (o + len * e') + news.toList.length ≤ arr.size := by
                        rw [← hln, lnew]
                        have h1 : o + (len + k) * e' ≤ e' * g.cap i := by
                          rw [j1, t1, ← Nat.add_mul, Nat.mul_comm]
                          exact Nat.mul_le_mul_left _ (by omega)
                        simp only [Nat.add_mul] at h1
                        omega
                      obtain ⟨cur', f1, f2⟩ := run_stores (P := P) b (base + (o + len * e')) el fz news.toList 0 arr w p1 (by omega) (fun k k1 k2 => p4 rfl k (by omega) (by omega)) (by rw [e1.one]; exact hnone)
                      have hcl : cur'.size = arr.size := by
                        have : cur'.toList.length = arr.toList.length := by
                          rw [f2]; unfold spliceL
                          have : arr.toList.length = arr.size := by simp
                          simp only [List.length_append, List.length_take, List.length_drop]
                          omega
                        simpa using this
                      have hf := hR.fresh σ.next (Nat.le_refl _)
                      have lold : ((cs.drop o).take (len * e')).length = len * e' := by simp at c5 ⊢; omega
                      have ltot : ((cs.drop o).take (len * e') ++ new).length = (len + k) * e' := by rw [List.length_append, lold, lnew, Nat.add_mul]
                      have hO : ORel P (g.extB σ.next b (base + o) e' c') σ.next (base + o) (some (.cells cur' el fz)) (.row ((cs.drop o).take (len * e') ++ new) e' true false (if ec = et + 1 ∧ o = 0 then ec else 0)) := by
                        refine ⟨?_, cur', el, fz, rfl, ?_, ?_, fun _ k k1 k2 => p4 rfl k (by omega) (by omega), fun _ => ⟨by simp [Gh.extB], ?_, ?_⟩, fun t ht => (by
                          split at ht
                          · rename_i he; exact ⟨(p6 t ht).1, by rw [(p6 t ht).2.1, he.2], fun h => by cases h⟩
                          · cases ht)⟩
                        · simp only [List.all_append, Bool.and_eq_true]
                          refine ⟨?_, hnone⟩
                          simp only [List.all_eq_true] at p0 ⊢
                          exact fun v hv => p0 v (List.mem_of_mem_drop (List.mem_of_mem_take hv))
                        · rw [ltot, hcl]
                          rw [← hln, lnew] at hsp
                          simp only [Nat.add_mul]
                          omega
                        · rw [ltot, f2, Nat.add_zero, ← Nat.add_assoc]
                          have h3 : (len + k) * e' = len * e' + news.toList.length := by rw [← hln, lnew, Nat.add_mul]
                          rw [h3, spliceL_drop _ _ _ _ (by
                            have : arr.toList.length = arr.size := by simp
                            omega)]
                          refine LRel.append ?_ (e1.mono (Gh.le_extB hf.2 _ _ _ _))
                          have := ((p3.drop o).take (len * e'))
                          rw [List.drop_take, List.drop_drop, List.take_take, Nat.min_eq_left (by omega)] at this
                          exact this.mono (Gh.le_extB hf.2 _ _ _ _)
                        · have : (g.extB σ.next b (base + o) e' c').cap σ.next = c' := by simp [Gh.extB]
                          rw [this, hcl]
                          have h1 : o + e' * c' = e' * g.cap i := by rw [j1, t1, ← j2, Nat.mul_comm j, ← Nat.mul_add, Nat.add_comm]
                          omega
                        · have : (g.extB σ.next b (base + o) e' c').cap σ.next = c' := by simp [Gh.extB]
                          rw [this, ltot, Nat.mul_comm]
                          exact Nat.mul_le_mul_left _ hroom
                      have hgo := swap_goes (w' := { w with heap := w.heap.setIfInBounds b (.cells cur' el fz) }) hR hg rfl hb rfl rfl rfl rfl hO
                      refine ⟨_, _, _, _, hcall (.slice (some ⟨b, base + o, none⟩) (len + k) c') _ ?_, .inl rfl, ?_, hgo⟩
                      · rw [run_append_room (P := P) (w := w) q3 q4 q5 q6 q7 q8 q9 hzs (by omega) ty e2 hroom c4]
                        simp only [add_mul_off, f1, Result.andThen_ok]
                      · have := VRel.sl (g := g.extB σ.next b (base + o) e' c') (i := σ.next) (o := 0) (l := len + k) (c := capU) (c' := c') (b := b) (base := base + o) (by simp [Gh.extB]) hroom hu (.inr ⟨rfl, 0, by simp, by simp [Gh.extB]⟩)
                        simpa [slOf] using this
                    · refine fresh _ _ rfl (by omega) ?_
                      unfold srcA
                      simp only [Nat.le_refl, if_true]
                      by_cases h0 : len * e' = 0
                      · simp [h0]
                      · simp only [h0, if_false, rowOf, hg]
                        rw [if_pos ⟨trivial, c5⟩]
                · simp at hv
          · simp at hv
        · simp at hv
      · simp at hv
  · simp at hv

/-- The operations that change memory, calls aside. -/
theorem evW_ok {g : Gh} {nt : Nat} {ρ : Env} {a : Act} (hρ : ERel g nt ρ a.tmps) {σ : St} (hR : Rel P g σ w) {cl : CallF} {op : Oper} {i : Ins} (hi : insC P op = some i) (hc : isCall i = false) {v : Value} {σ' : St}
    (hv : evW cl ρ σ i = some (v, σ')) : Wrote P g σ w v σ' ((execOp a.eval op).run P w) := by
  rcases evW_kind hv hc with ⟨_, _, _, rfl⟩ | ⟨_, _, _, _, rfl⟩ | ⟨_, _, _, rfl⟩ | ⟨_, _, _, rfl⟩ | ⟨_, _, _, _, _, rfl⟩
  · exact st_ok hρ hR hi hv
  · exact mput_all hρ hR hi hv
  · exact mdel_all hρ hR hi hv
  · exact cpy_all hρ hR hi hv
  · exact app_all hρ hR hi hv

end
end Go.Eng
