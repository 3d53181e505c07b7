/-
  quirekit.LargeEdit answers, whatever the edit is; what an edit is in the abstract heap.
-/
import Derived.Test.YtkokkanklmmfmaaGreatDoorDTab
import Derived.Test.YtkokkanklmmfmaaGreatDoorEngI3
set_option linter.all false
namespace Go.Eng
open Go

def irD21 : FIR := ⟨76, 1, [(2, none)], (.seq (.ops [⟨(some 1), none, (.box (.t 0))⟩, ⟨(some 2), none, (.mov (.c (.bool false)))⟩]) (.seq (.seq (.ops [⟨(some 5), none, (.fadr 3 (.t 1))⟩, ⟨(some 6), none, (.ld none (.t 5))⟩, ⟨(some 7), none, (.lenS (.t 6))⟩, ⟨(some 8), none, (.bin .gtr .prim (.t 7) (.c (.int .i64 (5000))))⟩, ⟨(some 9), none, (.mov (.t 8))⟩, ⟨(some 10), (some (9, false)), (.fadr 9 (.t 1))⟩, ⟨(some 11), (some (9, false)), (.ld none (.t 10))⟩, ⟨(some 12), (some (9, false)), (.lenL (.t 11))⟩, ⟨(some 13), (some (9, false)), (.bin .gtr .prim (.t 12) (.c (.int .i64 (100))))⟩, ⟨(some 14), none, (.pick (.t 9) (.c (.bool true)) (.t 13))⟩, ⟨(some 15), none, (.mov (.t 14))⟩, ⟨(some 16), (some (15, false)), (.fadr 14 (.t 1))⟩, ⟨(some 17), (some (15, false)), (.fadr 1 (.t 16))⟩, ⟨(some 18), (some (15, false)), (.ld none (.t 17))⟩, ⟨(some 19), (some (15, false)), (.lenL (.t 18))⟩, ⟨(some 20), (some (15, false)), (.bin .gtr .prim (.t 19) (.c (.int .i64 (100))))⟩, ⟨(some 21), none, (.pick (.t 15) (.c (.bool true)) (.t 20))⟩, ⟨(some 22), none, (.mov (.t 21))⟩, ⟨(some 23), (some (22, false)), (.fadr 33 (.t 1))⟩, ⟨(some 24), (some (22, false)), (.ld none (.t 23))⟩, ⟨(some 25), (some (22, false)), (.lenL (.t 24))⟩, ⟨(some 26), (some (22, false)), (.bin .gtr .prim (.t 25) (.c (.int .i64 (40))))⟩, ⟨(some 27), none, (.pick (.t 22) (.c (.bool true)) (.t 26))⟩, ⟨(some 28), none, (.mov (.t 27))⟩, ⟨(some 29), (some (28, false)), (.fadr 7 (.t 1))⟩, ⟨(some 30), (some (28, false)), (.ld none (.t 29))⟩, ⟨(some 31), (some (28, false)), (.lenS (.t 30))⟩, ⟨(some 32), (some (28, false)), (.bin .gtr .prim (.t 31) (.c (.int .i64 (100))))⟩, ⟨(some 33), none, (.pick (.t 28) (.c (.bool true)) (.t 32))⟩, ⟨(some 34), none, (.mov (.t 33))⟩, ⟨(some 35), (some (34, false)), (.fadr 8 (.t 1))⟩, ⟨(some 36), (some (34, false)), (.ld none (.t 35))⟩, ⟨(some 37), (some (34, false)), (.lenS (.t 36))⟩, ⟨(some 38), (some (34, false)), (.bin .gtr .prim (.t 37) (.c (.int .i64 (100))))⟩, ⟨(some 39), none, (.pick (.t 34) (.c (.bool true)) (.t 38))⟩]) (.ite (.t 39) (.seq (.ops [⟨(some 2), none, (.mov (.c (.bool true)))⟩]) .ret) .skip)) (.seq (.seq (.ops [⟨(some 3), none, (.mov (.c (.int .i64 (0))))⟩]) (.block 0 (.loop (.seq (.seq (.ops [⟨(some 40), none, (.mov (.t 3))⟩, ⟨(some 41), none, (.fadr 14 (.t 1))⟩, ⟨(some 42), none, (.fadr 1 (.t 41))⟩, ⟨(some 43), none, (.ld none (.t 42))⟩, ⟨(some 44), none, (.lenL (.t 43))⟩, ⟨(some 45), none, (.bin .lss .prim (.t 40) (.t 44))⟩]) (.ite (.t 45) .skip (.exit 0))) (.seq (.block 1 (.seq (.ops [⟨(some 48), none, (.fadr 14 (.t 1))⟩, ⟨(some 49), none, (.fadr 1 (.t 48))⟩, ⟨(some 50), none, (.ld none (.t 49))⟩, ⟨(some 51), none, (.mov (.t 3))⟩, ⟨(some 52), none, (.iadr 1 (.t 50) (.t 51))⟩, ⟨(some 53), none, (.ld none (.t 52))⟩, ⟨(some 54), none, (.lenS (.t 53))⟩, ⟨(some 55), none, (.bin .gtr .prim (.t 54) (.c (.int .i64 (300))))⟩]) (.ite (.t 55) (.seq (.ops [⟨(some 2), none, (.mov (.c (.bool true)))⟩]) .ret) .skip))) (.ops [⟨(some 46), none, (.mov (.t 3))⟩, ⟨(some 47), none, (.bin .add .prim (.t 46) (.c (.int .i64 (1))))⟩, ⟨(some 3), none, (.mov (.t 47))⟩])))))) (.seq (.seq (.ops [⟨(some 4), none, (.mov (.c (.int .i64 (0))))⟩]) (.block 2 (.loop (.seq (.seq (.ops [⟨(some 56), none, (.mov (.t 4))⟩, ⟨(some 57), none, (.bin .lss .prim (.t 56) (.c (.int .i64 (3))))⟩]) (.ite (.t 57) .skip (.exit 2))) (.seq (.block 3 (.seq (.ops [⟨(some 60), none, (.mov (.t 4))⟩, ⟨(some 61), none, (.fadr 16 (.t 1))⟩, ⟨(some 62), none, (.fadr 11 (.t 61))⟩, ⟨(some 63), none, (.iadrA 3 1 (.t 62) (.t 60))⟩, ⟨(some 64), none, (.ld none (.t 63))⟩, ⟨(some 65), none, (.lenS (.t 64))⟩, ⟨(some 66), none, (.bin .gtr .prim (.t 65) (.c (.int .i64 (300))))⟩, ⟨(some 67), none, (.mov (.t 66))⟩, ⟨(some 68), (some (67, false)), (.mov (.t 4))⟩, ⟨(some 69), (some (67, false)), (.fadr 16 (.t 1))⟩, ⟨(some 70), (some (67, false)), (.fadr 14 (.t 69))⟩, ⟨(some 71), (some (67, false)), (.iadrA 3 1 (.t 70) (.t 68))⟩, ⟨(some 72), (some (67, false)), (.ld none (.t 71))⟩, ⟨(some 73), (some (67, false)), (.lenS (.t 72))⟩, ⟨(some 74), (some (67, false)), (.bin .gtr .prim (.t 73) (.c (.int .i64 (300))))⟩, ⟨(some 75), none, (.pick (.t 67) (.c (.bool true)) (.t 74))⟩]) (.ite (.t 75) (.seq (.ops [⟨(some 2), none, (.mov (.c (.bool true)))⟩]) .ret) .skip))) (.ops [⟨(some 58), none, (.mov (.t 4))⟩, ⟨(some 59), none, (.bin .add .prim (.t 58) (.c (.int .i64 (1))))⟩, ⟨(some 4), none, (.mov (.t 59))⟩])))))) (.seq (.ops [⟨(some 2), none, (.mov (.c (.bool false)))⟩]) .ret)))))⟩
theorem irD21_eq : funC Proofs.Tryz.prog Proofs.Tryz.f21 = some irD21 := by kernel_rfl


/-- An edit's cells. -/
structure EditA where
  (x0 x1 x2 x4 x5 x6 x10 x11 x12 x13 x14 x16 x17 x18 x19 x20 x21 x22 x23 x24 x25 x26 : Int)
  (x3 x7 x8 x27 x28 x29 x30 x31 x32 : ByteArray)
  (a9 a15 a33 : Option Addr)
  (l9 c9 l15 c15 l33 c33 : Nat)
def EditA.cells (e : EditA) : List Value :=
  [.int .i64 e.x0, .int .i64 e.x1, .int .i64 e.x2, .string e.x3, .int .i64 e.x4, .int .i64 e.x5, .int .i64 e.x6, .string e.x7, .string e.x8, .slice e.a9 e.l9 e.c9, .int .i64 e.x10, .int .i64 e.x11, .int .i64 e.x12, .int .i64 e.x13, .int .i64 e.x14, .slice e.a15 e.l15 e.c15, .int .i64 e.x16, .int .i64 e.x17, .int .i64 e.x18, .int .i64 e.x19, .int .i64 e.x20, .int .i64 e.x21, .int .i64 e.x22, .int .i64 e.x23, .int .i64 e.x24, .int .i64 e.x25, .int .i64 e.x26, .string e.x27, .string e.x28, .string e.x29, .string e.x30, .string e.x31, .string e.x32, .slice e.a33 e.l33 e.c33]

/-- A list of strings, in the abstract heap. -/
def StrRow (σ : St) (a : Option Addr) (len : Nat) : Prop := len = 0 ∨ ∃ k row, a = some ⟨k, 0, none⟩ ∧ k < σ.next ∧ rowOf σ k = some row ∧ row.length = len ∧ ∀ (j : Nat) (u : Value), row[j]? = some u → ∃ s, u = .string s


set_option maxHeartbeats 4000000 in
theorem large_ok {T : Table} (hT : T 21 = some (.code irD21)) (e : EditA) (σ : St) (hrow : StrRow σ e.a15 e.l15) :
    ∃ b, clT T (.fn 21) [.agg ⟨e.cells⟩] σ = some (.bool b, { σ.put σ.next (some (.row e.cells 34 false false)) with next := σ.next + 1 }) := by
  have hbox : rowOf { σ.put σ.next (some (.row e.cells 34 false false)) with next := σ.next + 1 } σ.next = some e.cells := by
    have : ({ σ.put σ.next (some (.row e.cells 34 false false)) with next := σ.next + 1 } : St).get σ.next = some (.row e.cells 34 false false) := (St.get_put σ σ.next σ.next _).trans (if_pos rfl)
    simp only [rowOf, this]
  have hoth : ∀ k, k < σ.next → rowOf { σ.put σ.next (some (.row e.cells 34 false false)) with next := σ.next + 1 } k = rowOf σ k := by
    intro k hk
    have : ({ σ.put σ.next (some (.row e.cells 34 false false)) with next := σ.next + 1 } : St).get k = σ.get k := (St.get_put σ σ.next k _).trans (if_neg (by omega))
    simp only [rowOf, this]
  suffices h : ∃ v σ', clT T (.fn 21) [.agg ⟨e.cells⟩] σ = some (v, σ') ∧ (∃ b, v = .bool b) ∧ σ' = { σ.put σ.next (some (.row e.cells 34 false false)) with next := σ.next + 1 } by
    obtain ⟨v, σ', h1, ⟨b, rfl⟩, rfl⟩ := h
    exact ⟨b, h1⟩
  refine wp_code hT rfl ?_
  refine wp_seq (wp_ops (wo_new (x := .row e.cells 34 false false) (f := fun i => ptrOf i 0) rfl rfl (wo_val rfl rfl (wo_nil ?_))))
  generalize hσ : ({ σ.put σ.next (some (.row e.cells 34 false false)) with next := σ.next + 1 } : St) = σ1 at hbox hoth ⊢
  have done : ∀ ρ b, ρ 2 = .bool b → (∀ i, Ex.ret ≠ .exit i) ∧ ∃ vs, resA ρ σ1 [(2, none)] = some vs ∧ (∃ b, tupA vs = .bool b) ∧ σ1 = σ1 := fun ρ b h => ⟨by simp, [ρ 2], rfl, ⟨b, h⟩, rfl⟩
  refine wp_seq (wp_seq (wp_ops ?_))
  (repeat (first | refine wo_mv (v := .bool _) rfl rfl ?_ | refine wo_mv (v := .int _ _) rfl rfl ?_ | refine wo_ld rfl rfl hbox rfl ?_ | refine wo_pickT (v := .bool _) rfl rfl rfl ?_ | refine wo_pickF (v := .bool _) rfl rfl rfl ?_ | refine wo_skip rfl ?_ | (refine wo_fadr rfl rfl ?_) | (refine wo_lenS rfl rfl ?_) | (refine wo_lenL rfl rfl ?_)))
  refine wo_cmp rfl rfl fun t1 h1 => ?_
  cases t1
  case true =>
    (repeat (first | refine wo_mv (v := .bool _) rfl rfl ?_ | refine wo_mv (v := .int _ _) rfl rfl ?_ | refine wo_ld rfl rfl hbox rfl ?_ | refine wo_pickT (v := .bool _) rfl rfl rfl ?_ | refine wo_pickF (v := .bool _) rfl rfl rfl ?_ | refine wo_skip rfl ?_ | (refine wo_fadr rfl rfl ?_) | (refine wo_lenS rfl rfl ?_) | (refine wo_lenL rfl rfl ?_)))
    exact wo_nil (wp_true rfl (wp_seq (wp_ops (wo_mv (v := .bool true) rfl rfl (wo_nil (wp_ret (done _ true rfl)))))))
  (repeat (first | refine wo_mv (v := .bool _) rfl rfl ?_ | refine wo_mv (v := .int _ _) rfl rfl ?_ | refine wo_ld rfl rfl hbox rfl ?_ | refine wo_pickT (v := .bool _) rfl rfl rfl ?_ | refine wo_pickF (v := .bool _) rfl rfl rfl ?_ | refine wo_skip rfl ?_ | (refine wo_fadr rfl rfl ?_) | (refine wo_lenS rfl rfl ?_) | (refine wo_lenL rfl rfl ?_)))
  refine wo_cmp rfl rfl fun t2 h2 => ?_
  cases t2
  case true =>
    (repeat (first | refine wo_mv (v := .bool _) rfl rfl ?_ | refine wo_mv (v := .int _ _) rfl rfl ?_ | refine wo_ld rfl rfl hbox rfl ?_ | refine wo_pickT (v := .bool _) rfl rfl rfl ?_ | refine wo_pickF (v := .bool _) rfl rfl rfl ?_ | refine wo_skip rfl ?_ | (refine wo_fadr rfl rfl ?_) | (refine wo_lenS rfl rfl ?_) | (refine wo_lenL rfl rfl ?_)))
    exact wo_nil (wp_true rfl (wp_seq (wp_ops (wo_mv (v := .bool true) rfl rfl (wo_nil (wp_ret (done _ true rfl)))))))
  (repeat (first | refine wo_mv (v := .bool _) rfl rfl ?_ | refine wo_mv (v := .int _ _) rfl rfl ?_ | refine wo_ld rfl rfl hbox rfl ?_ | refine wo_pickT (v := .bool _) rfl rfl rfl ?_ | refine wo_pickF (v := .bool _) rfl rfl rfl ?_ | refine wo_skip rfl ?_ | (refine wo_fadr rfl rfl ?_) | (refine wo_lenS rfl rfl ?_) | (refine wo_lenL rfl rfl ?_)))
  refine wo_cmp rfl rfl fun t3 h3 => ?_
  cases t3
  case true =>
    (repeat (first | refine wo_mv (v := .bool _) rfl rfl ?_ | refine wo_mv (v := .int _ _) rfl rfl ?_ | refine wo_ld rfl rfl hbox rfl ?_ | refine wo_pickT (v := .bool _) rfl rfl rfl ?_ | refine wo_pickF (v := .bool _) rfl rfl rfl ?_ | refine wo_skip rfl ?_ | (refine wo_fadr rfl rfl ?_) | (refine wo_lenS rfl rfl ?_) | (refine wo_lenL rfl rfl ?_)))
    exact wo_nil (wp_true rfl (wp_seq (wp_ops (wo_mv (v := .bool true) rfl rfl (wo_nil (wp_ret (done _ true rfl)))))))
  (repeat (first | refine wo_mv (v := .bool _) rfl rfl ?_ | refine wo_mv (v := .int _ _) rfl rfl ?_ | refine wo_ld rfl rfl hbox rfl ?_ | refine wo_pickT (v := .bool _) rfl rfl rfl ?_ | refine wo_pickF (v := .bool _) rfl rfl rfl ?_ | refine wo_skip rfl ?_ | (refine wo_fadr rfl rfl ?_) | (refine wo_lenS rfl rfl ?_) | (refine wo_lenL rfl rfl ?_)))
  refine wo_cmp rfl rfl fun t4 h4 => ?_
  cases t4
  case true =>
    (repeat (first | refine wo_mv (v := .bool _) rfl rfl ?_ | refine wo_mv (v := .int _ _) rfl rfl ?_ | refine wo_ld rfl rfl hbox rfl ?_ | refine wo_pickT (v := .bool _) rfl rfl rfl ?_ | refine wo_pickF (v := .bool _) rfl rfl rfl ?_ | refine wo_skip rfl ?_ | (refine wo_fadr rfl rfl ?_) | (refine wo_lenS rfl rfl ?_) | (refine wo_lenL rfl rfl ?_)))
    exact wo_nil (wp_true rfl (wp_seq (wp_ops (wo_mv (v := .bool true) rfl rfl (wo_nil (wp_ret (done _ true rfl)))))))
  (repeat (first | refine wo_mv (v := .bool _) rfl rfl ?_ | refine wo_mv (v := .int _ _) rfl rfl ?_ | refine wo_ld rfl rfl hbox rfl ?_ | refine wo_pickT (v := .bool _) rfl rfl rfl ?_ | refine wo_pickF (v := .bool _) rfl rfl rfl ?_ | refine wo_skip rfl ?_ | (refine wo_fadr rfl rfl ?_) | (refine wo_lenS rfl rfl ?_) | (refine wo_lenL rfl rfl ?_)))
  refine wo_cmp rfl rfl fun t5 h5 => ?_
  cases t5
  case true =>
    (repeat (first | refine wo_mv (v := .bool _) rfl rfl ?_ | refine wo_mv (v := .int _ _) rfl rfl ?_ | refine wo_ld rfl rfl hbox rfl ?_ | refine wo_pickT (v := .bool _) rfl rfl rfl ?_ | refine wo_pickF (v := .bool _) rfl rfl rfl ?_ | refine wo_skip rfl ?_ | (refine wo_fadr rfl rfl ?_) | (refine wo_lenS rfl rfl ?_) | (refine wo_lenL rfl rfl ?_)))
    exact wo_nil (wp_true rfl (wp_seq (wp_ops (wo_mv (v := .bool true) rfl rfl (wo_nil (wp_ret (done _ true rfl)))))))
  (repeat (first | refine wo_mv (v := .bool _) rfl rfl ?_ | refine wo_mv (v := .int _ _) rfl rfl ?_ | refine wo_ld rfl rfl hbox rfl ?_ | refine wo_pickT (v := .bool _) rfl rfl rfl ?_ | refine wo_pickF (v := .bool _) rfl rfl rfl ?_ | refine wo_skip rfl ?_ | (refine wo_fadr rfl rfl ?_) | (refine wo_lenS rfl rfl ?_) | (refine wo_lenL rfl rfl ?_)))
  refine wo_cmp rfl rfl fun t6 h6 => ?_
  cases t6
  case true =>
    (repeat (first | refine wo_mv (v := .bool _) rfl rfl ?_ | refine wo_mv (v := .int _ _) rfl rfl ?_ | refine wo_ld rfl rfl hbox rfl ?_ | refine wo_pickT (v := .bool _) rfl rfl rfl ?_ | refine wo_pickF (v := .bool _) rfl rfl rfl ?_ | refine wo_skip rfl ?_ | (refine wo_fadr rfl rfl ?_) | (refine wo_lenS rfl rfl ?_) | (refine wo_lenL rfl rfl ?_)))
    exact wo_nil (wp_true rfl (wp_seq (wp_ops (wo_mv (v := .bool true) rfl rfl (wo_nil (wp_ret (done _ true rfl)))))))
  (repeat (first | refine wo_mv (v := .bool _) rfl rfl ?_ | refine wo_mv (v := .int _ _) rfl rfl ?_ | refine wo_ld rfl rfl hbox rfl ?_ | refine wo_pickT (v := .bool _) rfl rfl rfl ?_ | refine wo_pickF (v := .bool _) rfl rfl rfl ?_ | refine wo_skip rfl ?_ | (refine wo_fadr rfl rfl ?_) | (refine wo_lenS rfl rfl ?_) | (refine wo_lenL rfl rfl ?_)))
  refine wo_nil (wp_false rfl (wp_skip ?_))
  have hl15 : e.l15 ≤ 100 := by have := of_decide_eq_false h3; omega
  clear h1 h2 h4 h5 h6
  refine wp_seq (wp_seq (wp_ops (wo_mv (v := .int _ _) rfl rfl (wo_nil (wp_block ?_)))))
  refine wp_loop (fun n ρ σ' => σ' = σ1 ∧ ∃ (i : Nat) (ρb : Env), ρ = ((ρb.upd (some 1) (ptrOf σ.next 0)).upd (some 3) (.int .i64 i)) ∧ i ≤ e.l15 ∧ n = e.l15 - i) ?_ e.l15 _ _ ⟨rfl, 0, _, Env.two _ 1 3 rfl rfl, Nat.zero_le _, rfl⟩
  rintro n ρ σ' ⟨rfl, i, ρb, rfl, hi, rfl⟩
  refine wp_seq (wp_seq (wp_ops ?_))
  (repeat (first | refine wo_mv (v := .bool _) rfl rfl ?_ | refine wo_mv (v := .int _ _) rfl rfl ?_ | refine wo_ld rfl rfl hbox rfl ?_ | refine wo_pickT (v := .bool _) rfl rfl rfl ?_ | refine wo_pickF (v := .bool _) rfl rfl rfl ?_ | refine wo_skip rfl ?_ | (refine wo_fadr rfl rfl ?_) | (refine wo_lenS rfl rfl ?_) | (refine wo_lenL rfl rfl ?_)))
  refine wo_cmp rfl rfl fun t1 h1 => ?_
  cases t1
  case false =>
    -- the loop is left
    refine wo_nil (wp_false rfl (wp_exit (thenQ_exit (loopQ_exit (blockQ_hit ?_)))))
    refine wp_seq (wp_seq (wp_ops (wo_mv (v := .int _ _) rfl rfl (wo_nil (wp_block ?_)))))
    refine wp_loop (fun n ρ σ2 => σ2 = σ' ∧ ∃ (i : Nat) (ρb : Env), ρ = ((ρb.upd (some 1) (ptrOf σ.next 0)).upd (some 4) (.int .i64 i)) ∧ i ≤ 3 ∧ n = 3 - i) ?_ 3 _ _ ⟨rfl, 0, _, Env.two _ 1 4 rfl rfl, by omega, rfl⟩
    rintro n ρ σ2 ⟨rfl, i, ρb, rfl, hi, rfl⟩
    refine wp_seq (wp_seq (wp_ops ?_))
    (repeat (first | refine wo_mv (v := .bool _) rfl rfl ?_ | refine wo_mv (v := .int _ _) rfl rfl ?_ | refine wo_ld rfl rfl hbox rfl ?_ | refine wo_pickT (v := .bool _) rfl rfl rfl ?_ | refine wo_pickF (v := .bool _) rfl rfl rfl ?_ | refine wo_skip rfl ?_ | (refine wo_fadr rfl rfl ?_) | (refine wo_lenS rfl rfl ?_) | (refine wo_lenL rfl rfl ?_)))
    refine wo_cmp rfl rfl fun t1 h1 => ?_
    cases t1
    case false =>
      refine wo_nil (wp_false rfl (wp_exit (thenQ_exit (loopQ_exit (blockQ_hit ?_)))))
      exact wp_seq (wp_ops (wo_mv (v := .bool false) rfl rfl (wo_nil (wp_ret (done _ false rfl)))))
    have hlt : i < 3 := by have := of_decide_eq_true h1; omega
    obtain ⟨s1, hs1⟩ : ∃ s, partA none e.cells (0 + 16 + 11 + (i : Int).toNat * 1) = some (.string s) := by
      obtain rfl | rfl | rfl : i = 0 ∨ i = 1 ∨ i = 2 := by omega
      · exact ⟨_, rfl⟩
      · exact ⟨_, rfl⟩
      · exact ⟨_, rfl⟩
    obtain ⟨s2, hs2⟩ : ∃ s, partA none e.cells (0 + 16 + 14 + (i : Int).toNat * 1) = some (.string s) := by
      obtain rfl | rfl | rfl : i = 0 ∨ i = 1 ∨ i = 2 := by omega
      · exact ⟨_, rfl⟩
      · exact ⟨_, rfl⟩
      · exact ⟨_, rfl⟩
    refine wo_nil (wp_true rfl (wp_skip ?_))
    refine wp_seq (wp_block (wp_seq (wp_ops ?_)))
    (repeat (first | refine wo_mv (v := .bool _) rfl rfl ?_ | refine wo_mv (v := .int _ _) rfl rfl ?_ | refine wo_ld rfl rfl hbox rfl ?_ | refine wo_pickT (v := .bool _) rfl rfl rfl ?_ | refine wo_pickF (v := .bool _) rfl rfl rfl ?_ | refine wo_skip rfl ?_ | (refine wo_fadr rfl rfl ?_) | (refine wo_lenS rfl rfl ?_) | (refine wo_lenL rfl rfl ?_)))
    refine wo_iadrA (n := i) rfl rfl rfl (by omega) (by omega) ?_
    refine wo_ld (v := .string s1) rfl rfl hbox hs1 ?_
    (repeat (first | refine wo_mv (v := .bool _) rfl rfl ?_ | refine wo_mv (v := .int _ _) rfl rfl ?_ | refine wo_ld rfl rfl hbox rfl ?_ | refine wo_pickT (v := .bool _) rfl rfl rfl ?_ | refine wo_pickF (v := .bool _) rfl rfl rfl ?_ | refine wo_skip rfl ?_ | (refine wo_fadr rfl rfl ?_) | (refine wo_lenS rfl rfl ?_) | (refine wo_lenL rfl rfl ?_)))
    refine wo_cmp rfl rfl fun t2 h2 => ?_
    cases t2
    case true =>
      (repeat (first | refine wo_mv (v := .bool _) rfl rfl ?_ | refine wo_mv (v := .int _ _) rfl rfl ?_ | refine wo_ld rfl rfl hbox rfl ?_ | refine wo_pickT (v := .bool _) rfl rfl rfl ?_ | refine wo_pickF (v := .bool _) rfl rfl rfl ?_ | refine wo_skip rfl ?_ | (refine wo_fadr rfl rfl ?_) | (refine wo_lenS rfl rfl ?_) | (refine wo_lenL rfl rfl ?_)))
      exact wo_nil (wp_true rfl (wp_seq (wp_ops (wo_mv (v := .bool true) rfl rfl (wo_nil (wp_ret (done _ true rfl)))))))
    (repeat (first | refine wo_mv (v := .bool _) rfl rfl ?_ | refine wo_mv (v := .int _ _) rfl rfl ?_ | refine wo_ld rfl rfl hbox rfl ?_ | refine wo_pickT (v := .bool _) rfl rfl rfl ?_ | refine wo_pickF (v := .bool _) rfl rfl rfl ?_ | refine wo_skip rfl ?_ | (refine wo_fadr rfl rfl ?_) | (refine wo_lenS rfl rfl ?_) | (refine wo_lenL rfl rfl ?_)))
    refine wo_iadrA (n := i) rfl rfl rfl (by omega) (by omega) ?_
    refine wo_ld (v := .string s2) rfl rfl hbox hs2 ?_
    (repeat (first | refine wo_mv (v := .bool _) rfl rfl ?_ | refine wo_mv (v := .int _ _) rfl rfl ?_ | refine wo_ld rfl rfl hbox rfl ?_ | refine wo_pickT (v := .bool _) rfl rfl rfl ?_ | refine wo_pickF (v := .bool _) rfl rfl rfl ?_ | refine wo_skip rfl ?_ | (refine wo_fadr rfl rfl ?_) | (refine wo_lenS rfl rfl ?_) | (refine wo_lenL rfl rfl ?_)))
    refine wo_cmp rfl rfl fun t3 h3 => ?_
    cases t3
    case true =>
      (repeat (first | refine wo_mv (v := .bool _) rfl rfl ?_ | refine wo_mv (v := .int _ _) rfl rfl ?_ | refine wo_ld rfl rfl hbox rfl ?_ | refine wo_pickT (v := .bool _) rfl rfl rfl ?_ | refine wo_pickF (v := .bool _) rfl rfl rfl ?_ | refine wo_skip rfl ?_ | (refine wo_fadr rfl rfl ?_) | (refine wo_lenS rfl rfl ?_) | (refine wo_lenL rfl rfl ?_)))
      exact wo_nil (wp_true rfl (wp_seq (wp_ops (wo_mv (v := .bool true) rfl rfl (wo_nil (wp_ret (done _ true rfl)))))))
    (repeat (first | refine wo_mv (v := .bool _) rfl rfl ?_ | refine wo_mv (v := .int _ _) rfl rfl ?_ | refine wo_ld rfl rfl hbox rfl ?_ | refine wo_pickT (v := .bool _) rfl rfl rfl ?_ | refine wo_pickF (v := .bool _) rfl rfl rfl ?_ | refine wo_skip rfl ?_ | (refine wo_fadr rfl rfl ?_) | (refine wo_lenS rfl rfl ?_) | (refine wo_lenL rfl rfl ?_)))
    refine wo_nil (wp_false rfl (wp_skip ?_))
    refine wp_ops (wo_mv (v := .int .i64 i) rfl rfl (wo_val (v := .int .i64 ((i + 1 : Nat) : Int)) rfl ?_ (wo_mv (v := .int _ _) rfl rfl (wo_nil ?_))))
    · show some (Res.val (Value.int .i64 (IntKind.i64.wrap ((i : Int) + 1)))) = _
      rw [wrap_in _ (by omega) (by omega)]; rfl
    · exact ⟨3 - (i + 1), by omega, rfl, i + 1, _, Env.two _ 1 4 rfl rfl, by omega, rfl⟩
  have hlt : i < e.l15 := by have := of_decide_eq_true h1; omega
  obtain ⟨k, row, ha, hk, hr, hrl, hstr⟩ : ∃ k row, e.a15 = some ⟨k, 0, none⟩ ∧ k < σ.next ∧ rowOf σ k = some row ∧ row.length = e.l15 ∧ ∀ (j : Nat) (u : Value), row[j]? = some u → ∃ s, u = .string s := by
    rcases hrow with h | h
    · omega
    · exact h
  obtain ⟨s, hs⟩ : ∃ s, row[i]? = some (.string s) := by
    obtain ⟨s, hs⟩ := hstr i _ (List.getElem?_eq_getElem (by omega))
    exact ⟨s, by rw [List.getElem?_eq_getElem (by omega), hs]⟩
  have hr1 : rowOf σ' k = some row := (hoth k hk).trans hr
  refine wo_nil (wp_true rfl (wp_skip ?_))
  refine wp_seq (wp_block (wp_seq (wp_ops ?_)))
  (repeat (first | refine wo_mv (v := .bool _) rfl rfl ?_ | refine wo_mv (v := .int _ _) rfl rfl ?_ | refine wo_ld rfl rfl hbox rfl ?_ | refine wo_pickT (v := .bool _) rfl rfl rfl ?_ | refine wo_pickF (v := .bool _) rfl rfl rfl ?_ | refine wo_skip rfl ?_ | (refine wo_fadr rfl rfl ?_) | (refine wo_lenS rfl rfl ?_) | (refine wo_lenL rfl rfl ?_)))
  refine wo_iadr (kb := k) (o := 0) (len := e.l15) (cap := e.c15) rfl (congrArg (fun a => Value.slice a e.l15 e.c15) ha) rfl (by omega) (by omega) ?_
  refine wo_ld (v := .string s) rfl rfl hr1 (by simpa [partA] using hs) ?_
  (repeat (first | refine wo_mv (v := .bool _) rfl rfl ?_ | refine wo_mv (v := .int _ _) rfl rfl ?_ | refine wo_ld rfl rfl hbox rfl ?_ | refine wo_pickT (v := .bool _) rfl rfl rfl ?_ | refine wo_pickF (v := .bool _) rfl rfl rfl ?_ | refine wo_skip rfl ?_ | (refine wo_fadr rfl rfl ?_) | (refine wo_lenS rfl rfl ?_) | (refine wo_lenL rfl rfl ?_)))
  refine wo_cmp rfl rfl fun t2 h2 => ?_
  cases t2
  case true =>
    exact wo_nil (wp_true rfl (wp_seq (wp_ops (wo_mv (v := .bool true) rfl rfl (wo_nil (wp_ret (done _ true rfl)))))))
  refine wo_nil (wp_false rfl (wp_skip ?_))
  refine wp_ops (wo_mv (v := .int _ _) rfl rfl (wo_val (v := .int .i64 ((i + 1 : Nat) : Int)) rfl ?_ (wo_mv (v := .int _ _) rfl rfl (wo_nil ?_))))
  · show some (Res.val (Value.int .i64 (IntKind.i64.wrap ((i : Int) + 1)))) = _
    rw [wrap_in _ (by omega) (by omega)]; rfl
  · exact ⟨e.l15 - (i + 1), by omega, rfl, i + 1, _, Env.two _ 1 3 rfl rfl, by omega, rfl⟩

end Go.Eng

