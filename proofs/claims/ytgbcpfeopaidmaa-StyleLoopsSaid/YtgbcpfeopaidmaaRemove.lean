/-
  A sheet's style removed: the walk, with a range over the map.
-/
import Derived.Test.YtgbcpfeopaidmaaNamesS
import Derived.Sort.MapsRangeIn
import Derived.OwnWalkIn
import Derived.TacticsInMore
import Derived.RegionIn
import Derived.LoopNIn
import Derived.LoopIn
set_option linter.all false
namespace Go.Proofs
open Go.RowKit Go.Maps Go.Sort Go.Shelf Go.Eng

/-- A style's parent is what is read of it. -/
def parentOf : Value → Option (DataW Unit × List MemPlace)
  | .agg ⟨[.string p, .slice _ _ _]⟩ => some (.lit (.string p.data.toList), [])
  | _ => none

def mkNamed (c : ByteArray × Option Addr × Nat × Nat) : Value := .agg #[.string c.1, .slice c.2.1 c.2.2.1 c.2.2.2]

theorem parentOf_inv (v : Value) (y : DataW Unit × List MemPlace) (h : parentOf v = some y) : ∃ c, v = mkNamed c := by
  unfold parentOf at h
  split at h
  · rename_i p a l c; exact ⟨(p, a, l, c), rfl⟩
  · cases h

set_option maxRecDepth 100000 in
set_option maxHeartbeats 2000000 in
theorem Try.remove_at (bp o b nn : Nat) (D0 : DataW Unit) (w : World) (nb : ByteArray) (p0 : ByteArray) (sa : Option Addr) (sl sc : Nat) (thr : Bool) (Post : World → Prop) (h : w.cell? ⟨bp, o, none⟩ = some (.map (some b))) (hown : w.ownsMap Try.prog 9 parentOf b nn D0)
    (hlk : (Instr.lookup 60 (.map (some b)) (.string nb) true).run Try.prog w = .ok (.tuple #[.agg #[.string p0, .slice sa sl sc], .bool thr]) w)
    (hdel : thr = true → ∀ ty W, Below w.heap.size w W → ∃ W', (Builtin.delete_ #[60, 9] ty #[.map (some b), .string nb]).run Try.prog W = .ok (.tuple #[]) W' ∧ Post W') :
    Calls Try.prog 13 #[.pointer (some ⟨bp, o, none⟩), .string nb] w fun e w' =>
      (thr = false ∧ e = .returned (.int .i64 6) ∧ Below w.heap.size w w') ∨
      (thr = true ∧ (∃ kl, has D0 kl = true ∧ ∀ zd, D0.atKey kl zd = .lit (.string nb.data.toList)) ∧ e = .returned (.int .i64 9) ∧ Below w.heap.size w w') ∨
      (thr = true ∧ (∀ kl, has D0 kl = true → ∀ zd, D0.atKey kl zd ≠ .lit (.string nb.data.toList)) ∧ e = .returned (.int .i64 0) ∧ Post w') := by
  refine (callsIn_wide (n := 6)).1 ?_
  have hf0 : Fence.wide.fn 25 := trivial
  refine callsIn_of_wp Try.func13 rfl trivial ?_ rfl
  simp only [Try.ntmps13, List.size_toArray, List.length_cons, List.length_nil, Nat.reduceAdd, Nat.reduceSub, Array.replicate_succ, Array.replicate_zero, List.push_toArray, List.append_toArray, List.nil_append, List.cons_append]
  cases thr with
  | false =>
    gi_wp2_with (first
      | (gi_at_call 25; refine (callsIn_wide.2 (Try.none_at bp o (some b) _ h)).mono ?_; rintro e w' ⟨rfl, rfl⟩))
    go_ret
    exact ⟨rfl, (Below.refl _ w).alloc (Nat.le_refl _) _⟩
  | true =>
    have hbp : bp < w.heap.size := by
      unfold World.cell? at h
      rcases Nat.lt_or_ge bp w.heap.size with hlt | hge
      · exact hlt
      · simp [Array.getElem?_eq_none hge] at h
    have hA : ∀ ob, (w.alloc ob).cell? ⟨bp, o, none⟩ = some (.map (some b)) := fun ob => by
      rw [World.cell?_of_block (a := ⟨bp, o, none⟩) (Below.heap_alloc w ob bp hbp)]; exact h
    have hownA : ∀ ob, (w.alloc ob).ownsMap Try.prog 9 parentOf b nn D0 := fun ob => hown.alloc ob
    gi_wp2_with (first
      | (gi_at_call 25; refine (callsIn_wide.2 (Try.none_at bp o (some b) _ h)).mono ?_; rintro e w' ⟨rfl, rfl⟩)
      | (gi_at_range; refine wpListIn_range_own _ rfl _ 60 rfl 9 66 (string_keyed Try.underlying9) Try.underlying60 _ b nn _ rfl (hownA _) ?_; intro w0 hrg0 hg0 hs0)
      | gi_in)
    go_frame
    gi_loopw [4, 8, 27, 28, 29, 30, 31, 32, 33, 34] (fun _ _ _ _ _ _ _ _ _ _ wr => ∃ (left : Lit → Bool) (cnt : Nat), wr.ranges Try.prog 9 parentOf b (w.alloc (Obj.cells #[Value.string p0, Value.slice sa sl sc] 66)).heap.size nn D0 left cnt ∧
        (∀ kl, has D0 kl = true → left kl = false → ∀ zd, D0.atKey kl zd ≠ .lit (.string nb.data.toList)) ∧ RowKit.Below w.heap.size w wr ∧ wr.cell? ⟨bp, o, none⟩ = some (.map (some b)))
      (fun _ _ _ _ _ _ _ _ _ _ wr => wr.rangeLeft b (w.alloc (Obj.cells #[Value.string p0, Value.slice sa sl sc] 66)).heap.size)
    case atStart =>
      have hbe : ∀ k, k < w.heap.size → w0.heap[k]? = w.heap[k]? := fun k hk => (hg0.block k (by simp; omega) (by simp)).trans (Below.heap_alloc w _ k hk)
      refine ⟨_, _, hrg0, fun kl h1 h2 => ?_, ⟨hg0.os, hg0.tape, hg0.output, by rw [hs0]; simp; omega, hbe⟩, ?_⟩
      · rw [h1] at h2; cases h2
      · rw [World.cell?_of_block (a := ⟨bp, o, none⟩) (hbe bp hbp)]; exact h
    case round =>
      obtain ⟨left, cnt, hrg, hno, hB, hcw⟩ := hrel
      gi_wp2_with (first
        | (gi_at_next; refine wpListIn_next_ranges _ rfl _ rfl 9 (string_keyed Try.underlying9) parentOf encStr mkNamed (fun key kl hk => by obtain ⟨x, hx, _⟩ := Maps.keyOf_str Try.underlying9 hk; exact ⟨x, hx⟩) parentOf_inv b _ nn _ _ _ rfl hrg ?_ ?_)
        | gi_in)
      · -- nothing is left
        intro hc0 hl0
        obtain ⟨W', hdr, hPost⟩ := hdel (by trivial) 0 wr hB
        gi_wp2
        go_ret
        exact .inr ⟨fun kl hk zd => hno kl hk (hl0 kl) zd, rfl, hPost⟩
      · intro x p a l c kl yd yp w2 cnt2 hkey hlk' hv hat hrg2 hlt hg2 hs2 hen
        have hbe : ∀ k, k < w.heap.size → w2.heap[k]? = wr.heap[k]? := fun k hk => hg2.block k (Nat.lt_of_lt_of_le hk hB.size) (by simp; omega)
        have hB2 : RowKit.Below w.heap.size w w2 := ⟨hg2.os.trans hB.os, hg2.tape.trans hB.tape, hg2.output.trans hB.output, Nat.le_trans hB.size hg2.size, fun k hk => (hbe k hk).trans (hB.block k hk)⟩
        have hcw2 : w2.cell? ⟨bp, o, none⟩ = some (.map (some b)) := by rw [World.cell?_of_block (a := ⟨bp, o, none⟩) (hbe bp hbp)]; exact hcw
        simp only [mkNamed] at hen hv
        simp only [parentOf, Option.some.injEq, Prod.mk.injEq] at hv
        obtain ⟨rfl, rfl⟩ := hv
        clear hs2
        have hkh : has D0 kl = true := has_true_of_atKey hat
        gi_wp2
        · rename_i heq
          have hpe : p.data.toList = nb.data.toList := by simpa [ByteArray.toList_eq] using heq
          go_ret
          exact .inl ⟨⟨kl, hkh, fun zd => by rw [hat zd, hpe]⟩, rfl, hB2.alloc hB2.size _⟩
        · rename_i heq
          have hpe : p.data.toList ≠ nb.data.toList := by simpa [ByteArray.toList_eq] using heq
          have hbp2 : bp < w2.heap.size := Nat.lt_of_lt_of_le hbp hB2.size
          go_roundw
          case rel =>
            have hrs : (w.alloc (Obj.cells #[Value.string p0, Value.slice sa sl sc] 66)).heap.size = w.heap.size + 1 := by simp
            rw [hrs]
            refine ⟨_, _, _, _, _, _, _, _, _, _, ⟨_, cnt2, hrg2.alloc _, fun z hz hl zd => ?_, hB2.alloc hB2.size _, ?_⟩, rfl⟩
            · cases hlz : left z with
              | false => exact hno z hz hlz zd
              | true =>
                rw [hlz] at hl
                have hsk : z.sameKey kl = true := by simpa using hl
                have : z = kl := by
                  obtain ⟨x', _, rfl, _⟩ := Maps.keyOf_str Try.underlying9 hkey
                  cases z <;> simp [Lit.sameKey] at hsk
                  rw [hsk]
                subst this
                rw [hat zd]
                simpa using hpe
            · rw [World.cell?_of_block (a := ⟨bp, o, none⟩) (Below.heap_alloc w2 _ bp hbp2)]; exact hcw2
          case measure =>
            have hrs : (w.alloc (Obj.cells #[Value.string p0, Value.slice sa sl sc] 66)).heap.size = w.heap.size + 1 := by simp
            have e1 := (hrg2.alloc (Obj.cells #[Value.string p, Value.slice a l c] 66)).left_eq
            have e2 := hrg.left_eq
            try rw [hrs] at e1
            try rw [hrs] at e2
            rw [hrs, e1, e2]; exact hlt

theorem Try.remove_nil (v : Value) (w : World) : Calls Try.prog 13 #[.pointer none, v] w fun e w' => e = .returned (.int .i64 1) ∧ w = w' := by
  refine (callsIn_wide (n := 6)).1 ?_
  have hf0 : Fence.wide.fn 25 := trivial
  refine callsIn_of_wp Try.func13 rfl trivial ?_ rfl
  simp only [Try.ntmps13, List.size_toArray, List.length_cons, List.length_nil, Nat.reduceAdd, Nat.reduceSub, Array.replicate_succ, Array.replicate_zero, List.push_toArray, List.append_toArray, List.nil_append, List.cons_append]
  gi_wp2_with (first
    | (gi_at_call 25; refine (callsIn_wide.2 (Try.none_nil _)).mono ?_; rintro e w' ⟨rfl, rfl⟩))
  go_ret
  exact ⟨rfl, rfl⟩

theorem Try.remove_none (b o : Nat) (v : Value) (w : World) (h : w.cell? ⟨b, o, none⟩ = some (.map none)) : Calls Try.prog 13 #[.pointer (some ⟨b, o, none⟩), v] w fun e w' => e = .returned (.int .i64 1) ∧ w = w' := by
  refine (callsIn_wide (n := 6)).1 ?_
  have hf0 : Fence.wide.fn 25 := trivial
  refine callsIn_of_wp Try.func13 rfl trivial ?_ rfl
  simp only [Try.ntmps13, List.size_toArray, List.length_cons, List.length_nil, Nat.reduceAdd, Nat.reduceSub, Array.replicate_succ, Array.replicate_zero, List.push_toArray, List.append_toArray, List.nil_append, List.cons_append]
  gi_wp2_with (first
    | (gi_at_call 25; refine (callsIn_wide.2 (Try.none_at b o none _ h)).mono ?_; rintro e w' ⟨rfl, rfl⟩))
  go_ret
  exact ⟨rfl, rfl⟩

end Go.Proofs
