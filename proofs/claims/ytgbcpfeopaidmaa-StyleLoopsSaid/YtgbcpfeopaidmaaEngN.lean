/-
  Appends that write in place, or leave what they were given behind; copies.
-/
import Derived.Test.YtgbcpfeopaidmaaEngM
set_option linter.all false
namespace Go.Eng
open Go

/-- The ghost, with one object more, anywhere. -/
def Gh.extB (g : Gh) (id b base esz cap : Nat) : Gh where
  blk j := if j = id then some (b, base) else g.blk j
  esz j := if j = id then esz else g.esz j
  cap j := if j = id then cap else g.cap j

theorem Gh.le_extB {g : Gh} {id : Nat} (h : g.blk id = none) (b base esz cap : Nat) : g.le (g.extB id b base esz cap) := by
  intro i x hi
  have : i ≠ id := fun e => by subst e; rw [h] at hi; cases hi
  simp [Gh.extB, this, hi]

section
variable {P : Program} {w : World}

/-- An object is left, another one takes its block over. -/
theorem swap_goes {g : Gh} {σ : St} (hR : Rel P g σ w) {i : Nat} {o0 : AObj} (hi : σ.get i = some o0) (h0 : o0.ro = false) {b base : Nat} (hb : g.blk i = some (b, base)) {o : AObj} {base' esz cap : Nat} {ob : Obj} {w' : World}
    (hh : w'.heap = w.heap.setIfInBounds b ob) (hos : w'.os = w.os) (hout : w'.output = w.output) (hro : o.ro = false) (hO : ORel P (g.extB σ.next b base' esz cap) σ.next base' (some ob) o) :
    Goes P g σ w (g.extB σ.next b base' esz cap) { (σ.put i none).put σ.next (some o) with next := σ.next + 1 } w' := by
  have hf := hR.fresh σ.next (Nat.le_refl _)
  have hle := Gh.le_extB hf.2 b base' esz cap
  have hlt := hR.lt _ _ _ hb
  have hget : ∀ j, w'.heap[j]? = if j = b then some ob else w.heap[j]? := by
    intro j; rw [hh, set_get]; simp [hlt]
  have hsz : w'.heap.size = w.heap.size := by rw [hh]; simp
  have hsg : ∀ j, ({ (σ.put i none).put σ.next (some o) with next := σ.next + 1 } : St).get j = if j = σ.next then some o else if j = i then none else σ.get j := by
    intro j
    have : ({ (σ.put i none).put σ.next (some o) with next := σ.next + 1 } : St).get j = ((σ.put i none).put σ.next (some o)).get j := rfl
    rw [this, St.get_put, St.get_put]
  have hne : ∀ j oj bj basej, j ≠ i → σ.get j = some oj → g.blk j = some (bj, basej) → bj ≠ b := by
    intro j oj bj basej hji hj hbj e
    subst e
    have := hR.sep i j _ _ _ _ _ (Ne.symm hji) hi hj hb hbj
    rw [h0] at this; simp at this
  have hbk : ∀ j, j ≠ σ.next → (g.extB σ.next b base' esz cap).blk j = g.blk j := fun j hj => by simp [Gh.extB, hj]
  refine ⟨hle, fun j hj => hbk j (by omega), Nat.le_succ _, ⟨?_, ?_, ?_, ?_⟩, by rw [hsz]; exact Nat.le_refl _, ?_, ?_, hos, hout, fun j hj hn => by
    rw [hsg, if_neg (by omega)]; split
    · rfl
    · exact hn⟩
  · intro j oj bj basej hj hbj
    rw [hsg] at hj
    by_cases e : j = σ.next
    · subst e
      simp only [if_true, Option.some.injEq] at hj
      subst hj
      simp only [Gh.extB, if_true, Option.some.injEq, Prod.mk.injEq] at hbj
      obtain ⟨rfl, rfl⟩ := hbj
      rw [hget, if_pos rfl]; exact hO
    · rw [if_neg e] at hj
      by_cases e2 : j = i
      · rw [if_pos e2] at hj; cases hj
      · rw [if_neg e2] at hj
        rw [hbk j e] at hbj
        rw [hget, if_neg (hne j oj bj basej e2 hj hbj)]
        exact (hR.obj _ _ _ _ hj hbj).mono hle hbj
  · intro j k oj ok bb bj bk hjk hj hk hbj hbk'
    rw [hsg] at hj hk
    by_cases e : j = σ.next
    · subst e
      rw [if_neg (Ne.symm hjk)] at hk
      simp only [Gh.extB, if_true, Option.some.injEq, Prod.mk.injEq] at hbj
      by_cases e2 : k = i
      · rw [if_pos e2] at hk; cases hk
      · rw [if_neg e2] at hk
        rw [hbk k (Ne.symm hjk)] at hbk'
        exact absurd hbj.1.symm (hne k ok bb bk e2 hk hbk')
    · rw [if_neg e] at hj
      by_cases e2 : j = i
      · rw [if_pos e2] at hj; cases hj
      · rw [if_neg e2] at hj
        rw [hbk j e] at hbj
        by_cases e3 : k = σ.next
        · subst e3
          simp only [Gh.extB, if_true, Option.some.injEq, Prod.mk.injEq] at hbk'
          exact absurd hbk'.1.symm (hne j oj bb bj e2 hj hbj)
        · rw [if_neg e3] at hk
          by_cases e4 : k = i
          · rw [if_pos e4] at hk; cases hk
          · rw [if_neg e4] at hk
            rw [hbk k e3] at hbk'
            exact hR.sep j k _ _ _ _ _ hjk hj hk hbj hbk'
  · intro j bj basej hbj
    rw [hsz]
    by_cases e : j = σ.next
    · subst e
      simp only [Gh.extB, if_true, Option.some.injEq, Prod.mk.injEq] at hbj
      rw [← hbj.1]; exact hlt
    · rw [hbk j e] at hbj; exact hR.lt _ _ _ hbj
  · intro j hj
    have hj' : σ.next + 1 ≤ j := hj
    have := hR.fresh j (by omega)
    refine ⟨?_, by rw [hbk j (by omega)]; exact this.2⟩
    rw [hsg, if_neg (by omega)]
    split
    · rfl
    · exact this.1
  · intro bb hbb hno
    have : bb ≠ b := fun e => hno ⟨i, o0, base, hi, h0, by rw [e]; exact hb⟩
    rw [hget, if_neg this]
  · rintro r bb hbb ⟨j, oj, basej, hj, hroj, hbj⟩
    rw [hsg] at hj
    by_cases e : j = σ.next
    · subst e
      simp only [Gh.extB, if_true, Option.some.injEq, Prod.mk.injEq] at hbj hj
      subst hj
      exact ⟨i, o0, base, hi, by rw [h0, ← hroj, hro], by rw [← hbj.1]; exact hb⟩
    · rw [if_neg e] at hj
      by_cases e2 : j = i
      · rw [if_pos e2] at hj; cases hj
      · rw [if_neg e2] at hj
        rw [hbk j e] at hbj
        exact ⟨j, oj, basej, hj, hroj, hbj⟩

/-- An object that is made. -/
theorem makes_goes {g g' : Gh} {σ : St} (hR : Rel P g σ w) {id : Nat} {o : AObj} {v v' : Value} {w' : World} {b : Nat} (hm : Makes P g w w' id o v v' g' b) (hg : g.blk id = none) (hlt : id < σ.next) :
    Rel P g' (σ.put id (some o)) w' ∧ w.heap.size ≤ w'.heap.size ∧ (∀ b, b < w.heap.size → w'.heap[b]? = w.heap[b]?) ∧ (∀ r b, b < w.heap.size → OwnR r g' (σ.put id (some o)) b → OwnR r g σ b) := by
  obtain ⟨ob, hh, hO⟩ := hm.heap
  have hbn := hm.new
  subst hbn
  have hget : ∀ j, w'.heap[j]? = if j = w.heap.size then some ob else w.heap[j]? := by
    intro j; rw [hh, Array.getElem?_push]
  have hsz : w'.heap.size = w.heap.size + 1 := by rw [hh]; simp
  refine ⟨⟨?_, ?_, ?_, ?_⟩, by omega, fun b hb => by rw [hget, if_neg (by omega)], ?_⟩
  · intro j oj bj basej hj hbj
    rw [St.get_put] at hj
    by_cases e : j = id
    · subst e
      simp only [if_true, Option.some.injEq] at hj
      subst hj
      rw [hm.blk] at hbj
      simp only [Option.some.injEq, Prod.mk.injEq] at hbj
      obtain ⟨rfl, rfl⟩ := hbj
      rw [hget, if_pos rfl]; exact hO
    · rw [if_neg e] at hj
      rw [hm.old j e] at hbj
      have := hR.lt _ _ _ hbj
      rw [hget, if_neg (by omega)]
      exact (hR.obj _ _ _ _ hj hbj).mono hm.le hbj
  · intro j k oj ok bb bj bk hjk hj hk hbj hbk
    rw [St.get_put] at hj hk
    by_cases e : j = id
    · subst e
      rw [hm.blk] at hbj
      simp only [Option.some.injEq, Prod.mk.injEq] at hbj
      rw [if_neg (Ne.symm hjk)] at hk
      rw [hm.old k (Ne.symm hjk)] at hbk
      have := hR.lt _ _ _ hbk
      omega
    · rw [if_neg e] at hj
      rw [hm.old j e] at hbj
      by_cases e2 : k = id
      · subst e2
        rw [hm.blk] at hbk
        simp only [Option.some.injEq, Prod.mk.injEq] at hbk
        have := hR.lt _ _ _ hbj
        omega
      · rw [if_neg e2] at hk
        rw [hm.old k e2] at hbk
        exact hR.sep j k _ _ _ _ _ hjk hj hk hbj hbk
  · intro j bj basej hbj
    by_cases e : j = id
    · subst e
      rw [hm.blk] at hbj
      simp only [Option.some.injEq, Prod.mk.injEq] at hbj
      omega
    · rw [hm.old j e] at hbj
      have := hR.lt _ _ _ hbj
      omega
  · intro j hj
    have hj' : σ.next ≤ j := hj
    have hne : j ≠ id := by omega
    rw [St.get_put, if_neg hne, hm.old j hne]
    exact hR.fresh j hj'
  · rintro r bb hbb ⟨j, oj, basej, hj, hroj, hbj⟩
    rw [St.get_put] at hj
    by_cases e : j = id
    · subst e
      rw [hm.blk] at hbj
      simp only [Option.some.injEq, Prod.mk.injEq] at hbj
      omega
    · rw [if_neg e] at hj
      rw [hm.old j e] at hbj
      exact ⟨j, oj, basej, hj, hroj, hbj⟩

/-- An append within the room. -/
theorem run_append_room {st e : TypeId} {n b : Nat} {ats : Array TypeId} {xt : TypeId} {xd : TypeDesc} {z : Value} (h0 : ats[0]? = some st) (h1 : ats[1]? = some xt) (hu : P.underlying st = some (.slice e)) (hx : P.underlying xt = some xd)
    (hn : sizeT P e = some n) (hbt : bytesT P e = some b) (hz : zeroT P e = some z) (hzl : z.cells.size = n) (hn0 : 0 < n) (ty : TypeId) {ad : Option Addr} {len cap : Nat} {x : Value} {k : Nat} {news : Array Value}
    (hlen : AppSrc P w xd z n x k news) (hroom : len + k ≤ cap) (hby : b ≤ 65536) :
    (Builtin.append_ ats ty #[.slice ad len cap, x]).run P w =
      match ad with
      | some a => ((storeCells (a.add (len * n)) news.toList).run P w).andThen fun _ w' => .ok (.slice (some a) (len + k) cap) w'
      | none => .ok (.slice none (len + k) cap) w := by
  obtain ⟨ti, hti, htb⟩ := run_bytes (w := w) hbt
  unfold Builtin.append_
  simp only [h0, h1, List.getElem?_toArray, List.getElem?_cons_zero, List.getElem?_cons_succ, Sem.run_bind, run_und hu, Result.andThen_ok, run_size hn, run_und hx, Sem.run_pure]
  cases xd with
  | int kk0 =>
    obtain ⟨kk, y, rfl, hy0, hy1, hyk, hnews⟩ := hlen
    have hw : IntKind.i64.wrap y = y := by
      have e1 : y % (2 ^ 64 : Int) = y := Int.emod_eq_of_lt hy0 (by omega)
      simp only [IntKind.wrap, IntKind.bits, IntKind.signed, e1]
      rw [if_neg]
      simp; omega
    have hyb : ¬ (y * (ti.bytes : Int) > 2 ^ 48) := by
      rw [htb]
      have h2 : y.toNat * b ≤ 1073741824 * 65536 := Nat.mul_le_mul (by omega) hby
      have h3 : y * (b : Int) = ((y.toNat * b : Nat) : Int) := by
        rw [Int.natCast_mul, Int.toNat_of_nonneg hy0]
      rw [h3]; omega
    have hy2 : ¬ y < 0 := by omega
    simp only [if_true, asInt, asIntOf, Sem.run_bind, Sem.run_pure, Result.andThen_ok, hw, hy2, if_false, Sem.run_ite, hti, hyb, hyk, hroom, Bool.not_true, Bool.false_eq_true]
    by_cases hkn : k * n = 0
    · have hk0 : k = 0 := by rcases Nat.mul_eq_zero.1 hkn with h | h <;> omega
      subst hk0
      have hne : news = #[] := by rw [hnews]; simp [Builtin.zeroCells]
      subst hne
      cases ad <;> simp [storeCells]
    · simp only [hkn, if_false, Sem.run_bind, run_zero hz, Result.andThen_ok, Sem.run_pure, ← hnews]
      cases ad <;> simp
  | _ =>
    obtain ⟨hl1, hl2⟩ := hlen
    simp only [Bool.false_eq_true, if_false, hl1, Result.andThen_ok, hroom, if_true, hl2 _ rfl, Sem.run_bind, Sem.run_pure, Sem.run_ite, Bool.not_false]
    cases ad <;> simp

end
end Go.Eng
