/-
  The operations that make memory.
-/
import Derived.Test.YtgbcpfeopaidmaaEngI
set_option linter.all false
namespace Go.Eng
open Go

/-- The ghost, with one object more. -/
def Gh.ext (g : Gh) (id b esz cap : Nat) : Gh where
  blk j := if j = id then some (b, 0) else g.blk j
  esz j := if j = id then esz else g.esz j
  cap j := if j = id then cap else g.cap j

theorem Gh.le_ext {g : Gh} {id : Nat} (h : g.blk id = none) (b esz cap : Nat) : g.le (g.ext id b esz cap) := by
  intro i x hi
  have : i ≠ id := fun e => by subst e; rw [h] at hi; cases hi
  simp [Gh.ext, this, hi]
theorem Gh.ext_blk (g : Gh) (id b esz cap : Nat) : (g.ext id b esz cap).blk id = some (b, 0) := by simp [Gh.ext]

section
variable {P : Program} {w : World}

/-- What is said of an operation that makes an object. -/
structure Makes (P : Program) (g : Gh) (w w' : World) (id : Nat) (o : AObj) (v v' : Value) (g' : Gh) (b : Nat) : Prop where
  le : g.le g'
  old : ∀ j, j ≠ id → g'.blk j = g.blk j
  blk : g'.blk id = some (b, 0)
  new : b = w.heap.size
  heap : ∃ ob, w'.heap = w.heap.push ob ∧ ORel P g' id 0 (some ob) o
  val : VRel g' v v'
  os : w'.os = w.os
  out : w'.output = w.output

theorem repL_length : ∀ (n : Nat) (zs : List Value), (repL n zs).length = n * zs.length
  | 0, zs => by simp [repL]
  | n + 1, zs => by simp [repL, repL_length n zs, Nat.succ_mul, Nat.add_comm]

theorem repL_get : ∀ (n : Nat) (zs : List Value) (k : Nat), k < n * zs.length → (repL n zs)[k]? = zs[k % zs.length]?
  | 0, zs, k, h => by simp at h
  | n + 1, zs, k, h => by
    rw [Nat.succ_mul] at h
    simp only [repL]
    by_cases hk : k < zs.length
    · rw [List.getElem?_append_left hk, Nat.mod_eq_of_lt hk]
    · have hk' : zs.length ≤ k := by omega
      rw [List.getElem?_append_right hk', repL_get n zs _ (by omega)]
      congr 1
      exact (Nat.mod_eq_sub_mod hk').symm

theorem repL_arr (n : Nat) (z : Array Value) (m : Nat) (hm : z.size = m) (hm0 : 0 < m) : ((Array.range (n * m)).map (z[· % z.size]!)).toList = repL n z.toList := by
  apply List.ext_getElem?
  intro k
  by_cases hk : k < n * m
  · rw [repL_get n z.toList k (by simpa [hm] using hk)]
    have h1 : k % m < m := Nat.mod_lt _ hm0
    simp [hm, hk, h1]
  · rw [List.getElem?_eq_none (by simp; omega), List.getElem?_eq_none (by rw [repL_length]; simp [hm]; omega)]

theorem row_new {g : Gh} {id : Nat} {cs : List Value} {arr : Array Value} {el : TypeId} (hone : cs.all (·.oneCell') = true) (h : LRel g cs arr.toList) (esz : Nat) (ro : Bool) {ec : Nat} (hec : ∀ t, ec = t + 1 → el = t) : ORel P g id 0 (some (.cells arr el)) (.row cs esz false ro ec) := by
  refine ⟨hone, arr, el, (0, 0), rfl, ?_, ?_, fun _ k _ _ => by omega, fun h => by simp at h, fun t ht => ⟨hec t ht, rfl, fun _ => by have := h.length; simp at this; omega⟩⟩
  · have := h.length; simp at this; omega
  · have hl := h.length
    simp only [List.drop_zero]
    rw [hl, List.take_length]
    exact h

theorem makes_row {g : Gh} {id : Nat} (hb : g.blk id = none) {cs : List Value} {arr : Array Value} {el : TypeId} {esz : Nat} {v v' : Value} (hone : cs.all (·.oneCell') = true) (h : LRel g cs arr.toList)
    (hv : ∀ g', g'.blk id = some (w.heap.size, 0) → VRel g' v v') {ec : Nat} (hec : ∀ t, ec = t + 1 → el = t := by intro t ht; cases ht) : Makes P g w { w with heap := w.heap.push (.cells arr el) } id (.row cs esz false false ec) v v' (g.ext id w.heap.size 0 0) w.heap.size where
  le := Gh.le_ext hb _ _ _
  old j hj := by simp [Gh.ext, hj]
  blk := Gh.ext_blk _ _ _ _ _
  new := rfl
  heap := ⟨_, rfl, row_new hone (h.mono (Gh.le_ext hb _ _ _)) _ _ hec⟩
  val := hv _ (Gh.ext_blk _ _ _ _ _)
  os := rfl
  out := rfl

theorem ptr_new {g' : Gh} {id b : Nat} (h : g'.blk id = some (b, 0)) : VRel g' (ptrOf id 0) (.pointer (some ⟨b, 0, none⟩)) := by
  have := VRel.ptr (o := 0) h
  simpa [ptrOf] using this

theorem evM_kind {ρ : Env} {σ : St} {i : Ins} {r : AObj × (Nat → Value)} (h : evM ρ σ i = some r) :
    (∃ a t, i = .alloc a t) ∨ (∃ a, i = .box a) ∨ (∃ a b c d, i = .bslice a b c d) ∨ i = .mmap ∨ (∃ a b c d e, i = .mslice a b c d e) ∨ (∃ a, i = .cs2b a) ∨ (∃ a b c d e, i = .app a b c d e) := by
  cases i <;> first
    | exact .inl ⟨_, _, rfl⟩
    | exact .inr (.inl ⟨_, rfl⟩)
    | exact .inr (.inr (.inl ⟨_, _, _, _, rfl⟩))
    | exact .inr (.inr (.inr (.inl rfl)))
    | exact .inr (.inr (.inr (.inr (.inl ⟨_, _, _, _, _, rfl⟩))))
    | exact .inr (.inr (.inr (.inr (.inr (.inl ⟨_, rfl⟩)))))
    | exact .inr (.inr (.inr (.inr (.inr (.inr ⟨_, _, _, _, _, rfl⟩)))))
    | (simp [evM] at h; done)

theorem growBy_le (n : Nat) : ∀ (r c : Nat), c ≤ n → Builtin.growBy n r c ≤ 2 * n + 192
  | 0, c, h => by simp [Builtin.growBy]; omega
  | r + 1, c, h => by
    unfold Builtin.growBy
    split
    · omega
    · by_cases h2 : c + (c + 768) / 4 ≤ n
      · exact growBy_le n r _ h2
      · cases r with
        | zero => simp [Builtin.growBy]; omega
        | succ r =>
          unfold Builtin.growBy
          rw [if_pos (by omega)]
          omega
theorem nextcap_le (n o : Nat) (h : o < n) : Builtin.nextslicecap n o ≤ 2 * n + 600 := by
  unfold Builtin.nextslicecap
  split
  · omega
  · split
    · omega
    · have := growBy_le n 4 o (by omega); omega

/-- What is appended, as the model has it. -/
def AppSrc (P : Program) (w : World) (xd : TypeDesc) (z : Value) (n : Nat) (x : Value) (k : Nat) (news : Array Value) : Prop :=
  match xd with
  | .int _ => ∃ kk y, x = .int kk y ∧ 0 ≤ y ∧ y ≤ 1073741824 ∧ y.toNat = k ∧ news = Builtin.zeroCells z.cells k
  | _ => (Builtin.lenOf x).run P w = .ok k w ∧ (∀ w' : World, w'.heap = w.heap → (Builtin.firstCells n k x).run P w' = .ok news w')

/-- An append that makes a new array. -/
theorem run_append_new {st e : TypeId} {n b : Nat} {ats : Array TypeId} {xt : TypeId} {xd : TypeDesc} {z : Value} (h0 : ats[0]? = some st) (h1 : ats[1]? = some xt) (hu : P.underlying st = some (.slice e)) (hx : P.underlying xt = some xd)
    (hn : sizeT P e = some n) (hbt : bytesT P e = some b) (hz : zeroT P e = some z) (hzl : z.cells.size = n) (hn0 : 0 < n) (ty : TypeId) {base : Option Addr} {len cap : Nat} {x : Value} {k : Nat} {news : Array Value} {olds : Array Value}
    (hlen : AppSrc P w xd z n x k news)
    (hold : ∀ w', w'.heap = w.heap → (Builtin.firstCells n len (.slice base len cap)).run P w' = .ok olds w') (hk : 0 < k) (hgrow : cap < len + k) (hmax : len + k ≤ 1073741824) (hby : b ≤ 65536) :
    ∃ c rest, len + k ≤ c ∧ c < capU ∧ rest.length = (c - (len + k)) * n ∧
      (Builtin.append_ ats ty #[.slice base len cap, x]).run P w = .ok (.slice (some ⟨w.heap.size, 0, none⟩) (len + k) c) { w with drawn := w.drawn + 1, heap := w.heap.push (.cells ⟨olds.toList ++ news.toList ++ rest⟩ e) } := by
  obtain ⟨ti, hti, htb⟩ := run_bytes (w := w) hbt
  have hcap := nextcap_le (len + k) cap hgrow
  have hnb : ¬ (Builtin.nextslicecap (len + k) cap * ti.bytes > 2 ^ 48) := by
    rw [htb]
    have h1 : Builtin.nextslicecap (len + k) cap ≤ 2147484248 := by omega
    have h2 := Nat.mul_le_mul h1 hby
    omega
  have hni : ¬ (((len + k : Nat) : Int) > IntKind.i64.max) := by
    have : IntKind.i64.max = 9223372036854775807 := by decide
    rw [this]; omega
  have hti' : ∀ w', (typeInfo e).run P w' = .ok ti w' := by
    intro w'
    unfold bytesT at hbt
    cases hi : P.info? e with
    | none => simp [hi] at hbt
    | some i => simp [typeInfo, hi] at hti ⊢; exact hti
  let c := (len + k) + w.tape w.drawn (.appendCap (len + k) cap e) % (2 ^ 63 - (len + k))
  have hc1 : len + k ≤ c := Nat.le_add_right _ _
  have hc2 : c < capU := by
    have : w.tape w.drawn (.appendCap (len + k) cap e) % (2 ^ 63 - (len + k)) < 2 ^ 63 - (len + k) := Nat.mod_lt _ (by omega)
    unfold capU
    omega
  have hcut : (Question.appendCap (len + k) cap e).cut (w.tape w.drawn (.appendCap (len + k) cap e)) = c := rfl
  refine ⟨c, (Builtin.zeroCells z.cells (c - (len + k))).toList, hc1, hc2, by simp [Builtin.zeroCells, hzl], ?_⟩
  have w1h : ({ w with drawn := w.drawn + 1 } : World).heap = w.heap := rfl
  unfold Builtin.append_
  simp only [h0, h1, List.getElem?_toArray, List.getElem?_cons_zero, List.getElem?_cons_succ, Sem.run_bind, run_und hu, Result.andThen_ok, run_size hn, run_und hx, Sem.run_pure]
  have hcapeq : ∀ (r : Result Value), r = r := fun _ => rfl
  cases xd with
  | int kk0 =>
    obtain ⟨kk, y, rfl, hy0, hy1, hyk, hnews⟩ := hlen
    have hw : IntKind.i64.wrap y = y := by
      have e1 : y % (2 ^ 64 : Int) = y := Int.emod_eq_of_lt hy0 (by omega)
      simp only [IntKind.wrap, IntKind.bits, IntKind.signed, e1]
      rw [if_neg]
      simp; omega
    have hyb : ¬ (y * (ti.bytes : Int) > 2 ^ 48) := by
      rw [htb]
      have h2 : y.toNat * b ≤ 1073741824 * 65536 := Nat.mul_le_mul (by omega) hby
      have h3 : y * (b : Int) = ((y.toNat * b : Nat) : Int) := by
        rw [Int.natCast_mul, Int.toNat_of_nonneg hy0]
      rw [h3]; omega
    simp only [if_true, asInt, asIntOf, Sem.run_bind, Sem.run_pure, Result.andThen_ok, hw]
    have hy2 : ¬ y < 0 := by omega
    simp only [hy2, if_false, Sem.run_ite, Sem.run_bind, hti', Result.andThen_ok, hyb, Sem.run_pure, hyk]
    have hgr : ¬ (len + k ≤ cap) := by omega
    have hkn : ¬ (k * n = 0) := by
      intro h; rcases Nat.mul_eq_zero.1 h with h | h <;> omega
    simp only [hgr, if_false, hti', Result.andThen_ok, hnb, hni, false_and, run_choose, Question.forced, Bool.false_eq_true, hcut, run_askRoom, hold _ w1h, Sem.run_bind, Sem.run_pure, run_zero hz, newRow, run_newObj, Bool.not_true, hkn, Sem.run_ite]
    have ea : olds ++ Builtin.zeroCells z.cells k ++ Builtin.zeroCells z.cells (c - (len + k)) = ⟨olds.toList ++ news.toList ++ (Builtin.zeroCells z.cells (c - (len + k))).toList⟩ := by
      apply Array.ext'; simp [hnews]
    rw [ea]
  | _ =>
    obtain ⟨hl1, hl2⟩ := hlen
    have hgr : ¬ (len + k ≤ cap) := by omega
    have hby0 : ¬ (((len + k : Nat) : Int) > IntKind.i64.max ∧ (False ∨ ti.bytes = 0)) := fun h => hni h.1
    simp only [Bool.false_eq_true, if_false, hl1, Result.andThen_ok, hgr, hti', hnb, hby0, run_choose, Question.forced, hcut, run_askRoom, hold _ w1h, hl2 _ w1h, Sem.run_bind, Sem.run_pure, run_zero hz, newRow, run_newObj, Bool.not_false, if_true, Sem.run_ite]
    have ea : olds ++ news ++ Builtin.zeroCells z.cells (c - (len + k)) = ⟨olds.toList ++ news.toList ++ (Builtin.zeroCells z.cells (c - (len + k))).toList⟩ := by
      apply Array.ext'; simp
    rw [ea]

end
end Go.Eng
