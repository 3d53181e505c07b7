/-
  Whatever a claim's arguments read as: they are read-only rows of an abstract heap.
-/
import Derived.Test.YtgbcpfeopaidmaaEngI1
import Derived.ChangeArms
import Derived.OpenShut
set_option linter.all false
namespace Go.Eng
open Go

section
variable {P : Program} {w : World} {H : Type} {enc : TypeId × Value → H}

theorem add_zero (a : Addr) : a.add 0 = a := by simp [Addr.add]

theorem cell_row {a : Addr} {v : Value} (h : w.cell? a = some v) : a.spot = none ∧ ∃ arr el fz, w.heap[a.block]? = some (.cells arr el fz) ∧ arr.toList[a.off]? = some v := by
  unfold World.cell? at h
  split at h
  · rename_i c el fz hc
    split at h
    · cases h
    · rename_i hs
      refine ⟨by simpa using hs, c, el, fz, hc, by simpa using h⟩
  · cases h

theorem kinds_ne {d : Nat} {t : TypeId} {ks : List CK} (h : kindsT P d t = some ks) : 0 < ks.length := by
  have := (kindsT_size P h).2
  cases ks with
  | nil => exact absurd rfl this
  | cons _ _ => simp

theorem trod_imp : ∀ (n : Nat) (t : TypeId) (cs : List Value) (x : DataW H × List MemPlace) (d : Nat) (ks : List CK), DataW.trod enc P w 0 (fun _ => true) true n t cs = some x → kindsT P d t = some ks → Imp P w n ks cs
  | 0, t, cs, x, d, ks, h, hk => by simp [DataW.trod] at h
  | n + 1, t, cs, x, 0, ks, h, hk => by simp [kindsT] at hk
  | n + 1, t, cs, x, d + 1, ks, h, hk => by
    have ih := trod_imp n
    unfold kindsT at hk
    split at hk
    · rename_i hu
      obtain ⟨b, rfl, _⟩ := DataW.trod_bool hu h
      obtain ⟨rfl, _⟩ := sizedK_some P hk
      exact Imp.same (fun g => .bool b) (fun σ => ⟨b, rfl⟩)
    · rename_i k hu
      obtain ⟨y, rfl, _, hw⟩ := DataW.trod_int hu h
      obtain ⟨rfl, _⟩ := sizedK_some P hk
      exact Imp.same (fun g => .int k y) (fun σ => ⟨y, rfl, hw⟩)
    · rename_i hu
      obtain ⟨s, rfl, _, hs⟩ := DataW.trod_string hu h
      obtain ⟨rfl, _⟩ := sizedK_some P hk
      exact Imp.same (fun g => .str s) (fun σ => ⟨s, rfl, hs⟩)
    · rename_i e hu
      split at hk
      case h_2 => cases hk
      rename_i ke hke
      obtain ⟨rfl, _⟩ := sizedK_some P hk
      have hsz := (kindsT_size P hke).1
      have hpos := kinds_ne hke
      have hm63 : maxLen = 9223372036854775807 := by decide
      rcases DataW.trod_slice hu h with ⟨rfl, _⟩ | ⟨a, len, cap, elems, rest, m, hm, rfl, _, _, hlc, hcm, hel, hE, hS, _⟩
      · exact Imp.same (fun g => .sl0) (fun σ => .inl rfl)
      obtain rfl : n = m := by omega
      by_cases hcap : cap = 0
      · subst hcap
        obtain rfl : len = 0 := by omega
        exact fun g σ hG => ⟨g, σ, [.slice (some ⟨0, 0, none⟩) 0 0], ExtS.refl g σ, hG, .cons .slz .nil, .cons (.inr (.inl rfl)) .nil⟩
      rw [hsz] at hE hS
      -- the first cell
      have hfirst : ∃ v, w.cell? a = some v := by
        by_cases hl0 : len = 0
        · subst hl0
          obtain ⟨r1, r2⟩ := hS rfl
          have h0 := r2 0 (by omega)
          rw [List.getElem?_eq_getElem (by omega)] at h0
          simp only [Option.bind_eq_some_iff] at h0
          obtain ⟨l0, c0, _⟩ := h0
          obtain ⟨c1, c2⟩ := cells_of c0
          have := c2 0 _ (List.getElem?_eq_getElem (by omega))
          simp only [Nat.zero_mul, Nat.add_zero, add_zero] at this
          exact ⟨_, this⟩
        · have h0 := hE 0 (by omega)
          rw [List.getElem?_eq_getElem (by omega)] at h0
          simp only [Option.bind_eq_some_iff] at h0
          obtain ⟨l0, c0, _⟩ := h0
          obtain ⟨c1, c2⟩ := cells_of c0
          have := c2 0 _ (List.getElem?_eq_getElem (by omega))
          simp only [Nat.zero_mul, add_zero] at this
          exact ⟨_, this⟩
      obtain ⟨v0, hv0⟩ := hfirst
      obtain ⟨hsp, arr, el, fz, hh, _⟩ := cell_row hv0
      obtain ⟨b, o, sp⟩ := a
      simp only at hsp hh
      subst hsp
      have hadd : ∀ k, (⟨b, o, none⟩ : Addr).add k = ⟨b, o + k, none⟩ := by
        intro k
        unfold Addr.add
        by_cases hk : k = 0
        · simp [hk]
        · simp [hk]
      have helem : ∀ i, i < len → ∃ y, DataW.trod enc P w 0 (fun _ => true) true n e ((arr.toList.drop (o + i * ke.length)).take ke.length) = some y ∧ o + i * ke.length + ke.length ≤ arr.size := by
        intro i hi
        have h0 := hE i hi
        rw [List.getElem?_eq_getElem (by omega)] at h0
        simp only [Option.bind_eq_some_iff] at h0
        obtain ⟨l0, c0, ht⟩ := h0
        obtain ⟨c1, c2⟩ := cells_of c0
        have hcell : ∀ j v, l0[j]? = some v → arr.toList[o + i * ke.length + j]? = some v := by
          intro j v hj
          have hc := c2 j v hj
          rw [hadd] at hc
          have : ((⟨b, o + i * ke.length, none⟩ : Addr).add j) = ⟨b, o + i * ke.length + j, none⟩ := by
            unfold Addr.add
            by_cases hk : j = 0
            · simp [hk]
            · simp [hk]
          rw [this] at hc
          obtain ⟨_, arr', el', fz', hh', hv⟩ := cell_row hc
          rw [hh] at hh'
          simp only [Option.some.injEq, Obj.cells.injEq] at hh'
          obtain ⟨rfl, _, _⟩ := hh'
          exact hv
        have hle : o + i * ke.length + ke.length ≤ arr.size := by
          have := hcell (ke.length - 1) _ (List.getElem?_eq_getElem (by omega))
          have := (List.getElem?_eq_some_iff.1 this).1
          simp at this; omega
        have hl0 : l0 = (arr.toList.drop (o + i * ke.length)).take ke.length := by
          apply List.ext_getElem?
          intro j
          rw [List.getElem?_take]
          by_cases hj : j < ke.length
          · rw [if_pos hj, List.getElem?_drop]
            have := hcell j _ (List.getElem?_eq_getElem (by omega))
            rw [List.getElem?_eq_getElem (by omega), this]
          · rw [if_neg hj, List.getElem?_eq_none (by omega)]
        rw [hl0] at ht
        exact ⟨_, ht, hle⟩
      have hrow : o + len * ke.length ≤ arr.size := by
        by_cases hl0 : len = 0
        · subst hl0
          have := (List.getElem?_eq_some_iff.1 (cell_row hv0).2.choose_spec.choose_spec.choose_spec.2).1
          obtain ⟨_, arr', el', fz', hh', hv⟩ := cell_row hv0
          simp only at hh' hv
          rw [hh] at hh'
          simp only [Option.some.injEq, Obj.cells.injEq] at hh'
          obtain ⟨rfl, _, _⟩ := hh'
          have := (List.getElem?_eq_some_iff.1 hv).1
          simp at this; omega
        · obtain ⟨_, _, hle⟩ := helem (len - 1) (by omega)
          have : len * ke.length = (len - 1) * ke.length + ke.length := by
            rw [← Nat.succ_mul]; congr 1; omega
          omega
      have hlen : ((arr.toList.drop o).take (len * ke.length)).length = len * ke.length := by simp; omega
      have himp := array_imp (P := P) (w := w) (m := n) (ks := ke) (cs := (arr.toList.drop o).take (len * ke.length)) len 0 (by rw [hlen]; simp) (fun i _ hi => by
        obtain ⟨y, hy, hle⟩ := helem i (by omega)
        have : (((arr.toList.drop o).take (len * ke.length)).drop (i * ke.length)).take ke.length = (arr.toList.drop (o + i * ke.length)).take ke.length := by
          have h1 : (i + 1) * ke.length ≤ len * ke.length := Nat.mul_le_mul_right _ (by omega)
          rw [Nat.succ_mul] at h1
          rw [List.drop_take, List.take_take, List.drop_drop, Nat.min_eq_left (by omega)]
        rw [this]
        exact ih _ _ _ d ke hy hke)
      intro g σ hG
      obtain ⟨g1, σ1, c1, x1, G1, l1, q1⟩ := himp g σ hG
      simp only [Nat.zero_mul, List.drop_zero] at l1
      have hc1 : c1.length = len * ke.length := by rw [q1.length, repK_length]
      obtain ⟨g2, G2, x2, hb2⟩ := good_row (esz := ke.length) G1 hh q1.one (by rw [hc1]; exact hrow) (by rw [hc1]; exact l1)
      refine ⟨g2, _, [.slice (some ⟨σ1.next, 0, none⟩) len cap], x1.trans x2, G2, .cons ?_ .nil, .cons (.inr (.inr ⟨σ1.next, len, cap, c1, ke, rfl, hlc, hcm, ⟨d, hke⟩, ?_, hc1, fun j v c hj hc => ?_⟩)) .nil⟩
      · exact VRel.sl (o := 0) hb2 hlc (by unfold capU; omega) (.inl rfl)
      · show St.get _ σ1.next = _
        exact (St.get_put σ1 σ1.next σ1.next _).trans (if_pos rfl)
      · have hjl : j < len * ke.length := by
          have := (List.getElem?_eq_some_iff.1 hj).1
          omega
        exact (q1.get hj (by rw [repK_get len ke j hjl]; exact hc)).mono G1.rel x2
    · rename_i fs hu
      simp only [Option.bind_eq_some_iff] at hk
      obtain ⟨ks', hk', hs⟩ := hk
      obtain ⟨rfl, hs1, hs2⟩ := sizedK_some P hs
      obtain ⟨xs, m, hm, _, hl, hxl, hx⟩ := DataW.trod_struct hu h
      obtain rfl : n = m := by omega
      have := fields_imp (P := P) (w := w) (enc := enc) (m := n) (n := n) (d := d) (fun t cs x ks h hk => ih t cs x d ks h hk) fs.toList 0 cs ks' hk' (by rw [hl, hs1]; simp) (fun f hf => by
        obtain ⟨i, hi⟩ := List.mem_iff_getElem?.1 hf
        have hi' : fs[i]? = some f := by simpa using hi
        have h2 := hx i f hi'
        have hlt : i < xs.length := by
          have := (Array.getElem?_eq_some_iff.1 hi').1
          omega
        rw [List.getElem?_eq_getElem hlt] at h2
        exact ⟨_, h2⟩)
      exact (by simpa using this : Imp P w n ks' cs).up
    · rename_i k e hu
      split at hk
      · rename_i m hm
        obtain ⟨rfl, hs1, hs2⟩ := sizedK_some P hk
        obtain ⟨xs, q, hq, _, hl, hxl, hx⟩ := DataW.trod_array hu h
        obtain rfl : n = q := by omega
        have hsz := (kindsT_size P hm).1
        have := array_imp (P := P) (w := w) (m := n) (ks := m) (cs := cs) k 0 (by rw [hl, hs1, repK_length]; simp) (fun i _ hi => by
          have h2 := hx i (by omega)
          rw [hsz, List.getElem?_eq_getElem (by omega)] at h2
          exact ih _ _ _ d m h2 hm)
        exact (by simpa using this : Imp P w n (repK k m) cs).up
      · cases hk
    · cases hk

end
end Go.Eng
