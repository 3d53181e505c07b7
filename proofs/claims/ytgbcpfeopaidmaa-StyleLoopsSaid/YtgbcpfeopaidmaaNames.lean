/-
  A sheet's names: at Calls: every sheet; and as a contract of the interpreter's table.
-/
import Derived.Test.YtgbcpfeopaidmaaEngY
import Derived.Test.YtgbcpfeopaidmaaIter
import Derived.WalkKit
import Derived.ReadAgain
set_option linter.all false
namespace Go.Proofs
open Go.RowKit Go.Maps Go.Sort Go.Shelf Go.Eng

theorem Try.none_nil (w : World) : Calls Try.prog 25 #[.pointer none] w fun e w' => e = .returned (.bool true) ∧ w = w' := by
  refine (callsIn_wide (n := 6)).1 ?_
  refine callsIn_of_wp Try.func25 rfl trivial ?_ rfl
  simp only [Try.ntmps25, List.size_toArray, List.length_cons, List.length_nil, Nat.reduceAdd, Nat.reduceSub, Array.replicate_succ, Array.replicate_zero, List.push_toArray, List.append_toArray, List.nil_append, List.cons_append]
  gi_wp2
  go_ret
  exact ⟨rfl, rfl⟩

theorem Try.mapEq (m : Option Nat) (w : World) : (binOp .eql 60 (.map m) (.map none)).run Try.prog w = .ok (.bool m.isNone) w := by
  have hk : eqK Try.prog 60 = .map := by kernel_rfl
  cases m with
  | none =>
    obtain ⟨v', h, hv⟩ := binA_ok (P := Try.prog) (w := w) (g := ⟨fun _ => none, fun _ => 0, fun _ => 0⟩) (op := .eql) (t := 60) (x := .map none) (y := .map none) (v := .bool true) (by rw [hk]; rfl) .map0 .map0
    cases hv; exact h
  | some b =>
    obtain ⟨v', h, hv⟩ := binA_ok (P := Try.prog) (w := w) (g := ⟨fun _ => some (b, 0), fun _ => 0, fun _ => 0⟩) (op := .eql) (t := 60) (x := .map (some 0)) (y := .map none) (v := .bool false) (by rw [hk]; rfl) (.map rfl) .map0
    cases hv; exact h

set_option maxRecDepth 100000 in
theorem Try.none_at (b o : Nat) (m : Option Nat) (w : World) (h : w.cell? ⟨b, o, none⟩ = some (.map m)) : Calls Try.prog 25 #[.pointer (some ⟨b, o, none⟩)] w fun e w' => e = .returned (.bool m.isNone) ∧ w = w' := by
  refine (callsIn_wide (n := 6)).1 ?_
  refine callsIn_of_wp Try.func25 rfl trivial ?_ rfl
  simp only [Try.ntmps25, List.size_toArray, List.length_cons, List.length_nil, Nat.reduceAdd, Nat.reduceSub, Array.replicate_succ, Array.replicate_zero, List.push_toArray, List.append_toArray, List.nil_append, List.cons_append]
  have hq := Try.mapEq m
  gi_wp2
  go_ret
  exact ⟨rfl, rfl⟩

theorem Try.names_nil (w : World) : Calls Try.prog 10 #[.pointer none] w fun e w' => e = .returned (.slice none 0 0) ∧ w = w' := by
  refine (callsIn_wide (n := 6)).1 ?_
  have hf0 : Fence.wide.fn 25 := trivial
  refine callsIn_of_wp Try.func10 rfl trivial ?_ rfl
  simp only [Try.ntmps10, List.size_toArray, List.length_cons, List.length_nil, Nat.reduceAdd, Nat.reduceSub, Array.replicate_succ, Array.replicate_zero, List.push_toArray, List.append_toArray, List.nil_append, List.cons_append]
  gi_wp2_with (first
    | (gi_at_call 25; refine (callsIn_wide.2 (Try.none_nil _)).mono ?_; rintro e w' ⟨rfl, rfl⟩))
  go_ret
  exact ⟨rfl, rfl⟩

theorem Try.names_none (b o : Nat) (w : World) (h : w.cell? ⟨b, o, none⟩ = some (.map none)) : Calls Try.prog 10 #[.pointer (some ⟨b, o, none⟩)] w fun e w' => e = .returned (.slice none 0 0) ∧ w = w' := by
  refine (callsIn_wide (n := 6)).1 ?_
  have hf0 : Fence.wide.fn 25 := trivial
  refine callsIn_of_wp Try.func10 rfl trivial ?_ rfl
  simp only [Try.ntmps10, List.size_toArray, List.length_cons, List.length_nil, Nat.reduceAdd, Nat.reduceSub, Array.replicate_succ, Array.replicate_zero, List.push_toArray, List.append_toArray, List.nil_append, List.cons_append]
  gi_wp2_with (first
    | (gi_at_call 25; refine (callsIn_wide.2 (Try.none_at b o none _ h)).mono ?_; rintro e w' ⟨rfl, rfl⟩))
  go_ret
  exact ⟨rfl, rfl⟩

set_option maxHeartbeats 1000000 in
theorem Try.names_at {H : Type} (bp o : Nat) (b nn : Nat) (D0 : DataW H) (R : Value → Option (DataW H × List MemPlace)) (w : World) (h : w.cell? ⟨bp, o, none⟩ = some (.map (some b))) (hown : w.ownsMap Try.prog 9 R b nn D0) (hmax : Maps.size D0 ≤ maxLen) (hbytes : Maps.size D0 * 16 ≤ 140737488355328) :
    Calls Try.prog 10 #[.pointer (some ⟨bp, o, none⟩)] w fun e w' => ∃ (v : Value) (ss : List (List UInt8)), e = .returned v ∧ ss.Perm (strKeys D0) ∧
      w'.ownsRow w.heap.size 9 1 v ss.length ((ss.mergeSort (fun x y => decide (x ≤ y))).map encStr) ∧ (v = .slice none 0 0 ↔ ss = []) ∧ Below w.heap.size w w' := by
  refine (callsIn_wide (n := 6)).1 ?_
  have hf0 : Fence.wide.fn 25 := trivial
  have hfK : Fence.wide.fn 31 := trivial
  have hfS : Fence.wide.fn 30 := trivial
  refine callsIn_of_wp Try.func10 rfl trivial ?_ rfl
  simp only [Try.ntmps10, List.size_toArray, List.length_cons, List.length_nil, Nat.reduceAdd, Nat.reduceSub, Array.replicate_succ, Array.replicate_zero, List.push_toArray, List.append_toArray, List.nil_append, List.cons_append]
  gi_wp2_with (first
    | (gi_at_call 25; refine (callsIn_wide.2 (Try.none_at bp o (some b) _ h)).mono ?_; rintro e w' ⟨rfl, rfl⟩)
    | (gi_at_call 31; refine (Try.maps_Keys_31 _ _).mono ?_; rintro e w' ⟨rfl, rfl⟩)
    | (gi_at_call 30; go_loud (refine (Try.slices_Sorted_keys_30_31 b nn D0 R w hown hmax hbytes).mono ?_; rintro e w' ⟨v, ss, rfl, hS, hrow, hnil, hb⟩)))
  go_ret
  exact ⟨v, ss, rfl, hS, ownsRow_base_a hrow (by simp), hnil, ((Below.refl _ w).alloc (Nat.le_refl _) _).trans (hb.mono (by simp))⟩

end Go.Proofs
