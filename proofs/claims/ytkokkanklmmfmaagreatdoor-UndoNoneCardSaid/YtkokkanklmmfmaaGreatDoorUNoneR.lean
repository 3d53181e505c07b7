/-
  The run of undoNone: whatever the edit is.
-/
import Derived.Test.YtkokkanklmmfmaaGreatDoorEdit
set_option linter.all false
namespace Go.Eng
open Go

def irD13 : FIR := ⟨79, 1, [(2, none)], (.seq (.ops [⟨(some 1), none, (.box (.t 0))⟩, ⟨(some 2), none, (.mov (.c (.bool false)))⟩]) (.seq (.seq (.ops [⟨(some 8), none, (.ld (some 34) (.t 1))⟩, ⟨(some 9), none, (.call 21 [(.t 8)])⟩]) (.ite (.t 9) (.seq (.ops [⟨(some 2), none, (.mov (.c (.bool true)))⟩]) .ret) .skip)) (.seq (.ops [⟨(some 10), none, (.build [(.pointer none), (.slice none 0 0), (.slice none 0 0)] [])⟩, ⟨(some 11), none, (.box (.t 10))⟩, ⟨(some 12), none, (.bslice 2 1 [(.pointer none), (.pointer none)] [⟨0, 1, (.c (.pointer none))⟩, ⟨1, 1, (.t 11)⟩])⟩, ⟨(some 3), none, (.mov (.t 12))⟩]) (.seq (.seq (.ops [⟨(some 4), none, (.mov (.c (.int .i64 (0))))⟩]) (.block 0 (.loop (.seq (.seq (.ops [⟨(some 13), none, (.mov (.t 4))⟩, ⟨(some 14), none, (.mov (.t 3))⟩, ⟨(some 15), none, (.lenL (.t 14))⟩, ⟨(some 16), none, (.bin .lss .prim (.t 13) (.t 15))⟩]) (.ite (.t 16) .skip (.exit 0))) (.seq (.block 1 (.seq (.ops [⟨(some 19), none, (.mov (.t 3))⟩, ⟨(some 20), none, (.mov (.t 4))⟩, ⟨(some 21), none, (.iadr 1 (.t 19) (.t 20))⟩, ⟨(some 22), none, (.ld none (.t 21))⟩, ⟨(some 5), none, (.mov (.t 22))⟩]) (.seq (.ops [⟨(some 24), none, (.mov (.t 5))⟩, ⟨(some 25), none, (.call 53 [(.t 24), (.c (.int .i64 (0)))])⟩, ⟨(some 23), none, (.mov (.t 25))⟩, ⟨(some 26), none, (.ext (.t 23) 0)⟩, ⟨(some 27), none, (.ext (.t 23) 1)⟩, ⟨(some 6), none, (.alloc [(.int .i64 (0)), (.int .i64 (0)), (.int .i64 (0)), (.int .i64 (0)), (.int .i64 (0)), (.int .i64 (0)), (.int .i64 (0)), (.int .i64 (0)), (.int .i64 (0)), (.int .i64 (0)), (.int .i64 (0)), (.int .i64 (0)), (.int .i64 (0)), (.int .i64 (0)), (.int .i64 (0)), (.int .i64 (0)), (.int .i64 (0))] 89)⟩, ⟨none, none, (.st 17 (.t 6) (.t 26))⟩, ⟨(some 7), none, (.mov (.t 27))⟩]) (.seq (.ops [⟨(some 28), none, (.mov (.t 5))⟩, ⟨(some 29), none, (.ld (some 34) (.t 1))⟩, ⟨(some 30), none, (.call 39 [(.t 28), (.t 29)])⟩, ⟨(some 31), none, (.bin .neq .prim (.t 30) (.c (.int .i64 (1))))⟩, ⟨(some 32), none, (.mov (.t 31))⟩, ⟨(some 33), (some (32, false)), (.mov (.t 5))⟩, ⟨(some 34), (some (32, false)), (.call 41 [(.t 33)])⟩, ⟨(some 35), (some (32, false)), (.bin .neq .prim (.t 34) (.c (.int .i64 (1))))⟩, ⟨(some 36), none, (.pick (.t 32) (.c (.bool true)) (.t 35))⟩, ⟨(some 37), none, (.mov (.t 36))⟩, ⟨(some 38), (some (37, false)), (.mov (.t 5))⟩, ⟨(some 39), (some (37, false)), (.call 45 [(.t 38)])⟩, ⟨(some 40), (some (37, false)), (.bin .neq .prim (.t 39) (.c (.int .i64 (1))))⟩, ⟨(some 41), none, (.pick (.t 37) (.c (.bool true)) (.t 40))⟩, ⟨(some 42), none, (.mov (.t 41))⟩, ⟨(some 43), (some (42, false)), (.mov (.t 5))⟩, ⟨(some 44), (some (42, false)), (.call 47 [(.t 43)])⟩, ⟨(some 45), (some (42, false)), (.bin .neq .prim (.t 44) (.c (.int .i64 (1))))⟩, ⟨(some 46), none, (.pick (.t 42) (.c (.bool true)) (.t 45))⟩, ⟨(some 47), none, (.mov (.t 46))⟩, ⟨(some 48), (some (47, false)), (.mov (.t 5))⟩, ⟨(some 49), (some (47, false)), (.call 44 [(.t 48)])⟩, ⟨(some 50), (some (47, false)), (.build [(.slice none 0 0), (.slice none 0 0), (.slice none 0 0), (.string ⟨#[]⟩), (.slice none 0 0)] [])⟩, ⟨(some 51), (some (47, false)), (.call 23 [(.t 49), (.t 50)])⟩, ⟨(some 52), (some (47, false)), (.un .not (.t 51))⟩, ⟨(some 53), none, (.pick (.t 47) (.c (.bool true)) (.t 52))⟩, ⟨(some 54), none, (.mov (.t 53))⟩, ⟨(some 55), (some (54, false)), (.mov (.t 5))⟩, ⟨(some 56), (some (54, false)), (.call 42 [(.t 55)])⟩, ⟨(some 57), (some (54, false)), (.bin .neq .prim (.t 56) (.c (.int .i64 (0))))⟩, ⟨(some 58), none, (.pick (.t 54) (.c (.bool true)) (.t 57))⟩, ⟨(some 59), none, (.mov (.t 58))⟩, ⟨(some 60), (some (59, false)), (.mov (.t 5))⟩, ⟨(some 61), (some (59, false)), (.call 43 [(.t 60)])⟩, ⟨(some 62), (some (59, false)), (.bin .neq .prim (.t 61) (.c (.int .i64 (0))))⟩, ⟨(some 63), none, (.pick (.t 59) (.c (.bool true)) (.t 62))⟩, ⟨(some 64), none, (.mov (.t 63))⟩, ⟨(some 65), (some (64, false)), (.ld (some 17) (.t 6))⟩, ⟨(some 66), (some (64, false)), (.build [(.int .i64 (0)), (.int .i64 (0)), (.int .i64 (0)), (.int .i64 (0)), (.int .i64 (0)), (.int .i64 (0)), (.int .i64 (0)), (.int .i64 (0)), (.int .i64 (0)), (.int .i64 (0)), (.int .i64 (0)), (.int .i64 (0)), (.int .i64 (0)), (.int .i64 (0)), (.int .i64 (0)), (.int .i64 (0)), (.int .i64 (0))] [])⟩, ⟨(some 67), (some (64, false)), (.bin .neq (.flat [.i, .i, .i, .i, .i, .i, .i, .i, .i, .i, .i, .i, .i, .i, .i, .i, .i]) (.t 65) (.t 66))⟩, ⟨(some 68), none, (.pick (.t 64) (.c (.bool true)) (.t 67))⟩, ⟨(some 69), none, (.mov (.t 68))⟩, ⟨(some 70), (some (69, false)), (.mov (.t 7))⟩, ⟨(some 71), (some (69, false)), (.bin .neq .prim (.t 70) (.c (.int .i64 (1))))⟩, ⟨(some 72), none, (.pick (.t 69) (.c (.bool true)) (.t 71))⟩, ⟨(some 73), none, (.mov (.t 72))⟩, ⟨(some 74), (some (73, false)), (.mov (.t 5))⟩, ⟨(some 75), (some (73, false)), (.call 50 [(.t 74)])⟩, ⟨(some 76), (some (73, false)), (.bin .neq .ptr (.t 75) (.c (.pointer none)))⟩, ⟨(some 77), none, (.pick (.t 73) (.c (.bool true)) (.t 76))⟩]) (.ite (.t 77) (.seq (.ops [⟨(some 2), none, (.mov (.c (.bool false)))⟩]) .ret) .skip))))) (.ops [⟨(some 17), none, (.mov (.t 4))⟩, ⟨(some 18), none, (.bin .add .prim (.t 17) (.c (.int .i64 (1))))⟩, ⟨(some 4), none, (.mov (.t 18))⟩])))))) (.seq (.ops [⟨(some 78), none, (.call 37 [])⟩, ⟨(some 2), none, (.mov (.t 78))⟩]) .ret)))))⟩
theorem irD13_eq : funC Proofs.Tryz.prog Proofs.Tryz.f13 = some irD13 := by kernel_rfl


theorem tabD13 : tabD 13 = some (.code irD13) := by kernel_rfl
theorem tabD21' : tabD 21 = some (.code irD21) := by kernel_rfl

set_option maxRecDepth 1000000 in
set_option maxHeartbeats 4000000 in
theorem undoNone_runs (e : EditA) (o0 o1 o2 : Option AObj) (hs : StrRow (st3 o0 o1 o2) e.a15 e.l15) : ∃ σ', clT tabD (.fn 13) [.agg ⟨e.cells⟩] (st3 o0 o1 o2) = some (.bool true, σ') := by
  suffices h : ∃ v σ', clT tabD (.fn 13) [.agg ⟨e.cells⟩] (st3 o0 o1 o2) = some (v, σ') ∧ v = .bool true by
    obtain ⟨v, σ', h1, rfl⟩ := h
    exact ⟨σ', h1⟩
  refine wp_code tabD13 rfl ?_
  refine wp_seq (wp_ops (wo_new (x := .row e.cells 34 false false) (f := fun i => ptrOf i 0) rfl rfl (wo_mv (v := .bool _) rfl rfl (wo_nil ?_))))
  refine wp_seq (wp_seq (wp_ops ?_))
  have hs' : StrRow { (st3 o0 o1 o2).put 3 (some (.row e.cells 34 false false)) with next := 4 } e.a15 e.l15 := by
    rcases hs with h | ⟨k, row, h1, h2, h3, h4⟩
    · exact .inl h
    · have h2' : k < 3 := h2
      refine .inr ⟨k, row, h1, (show k < 4 by omega), ?_, h4⟩
      have : ({ (st3 o0 o1 o2).put 3 (some (.row e.cells 34 false false)) with next := 4 } : St).get k = (st3 o0 o1 o2).get k := (St.get_put (st3 o0 o1 o2) 3 k _).trans (if_neg (by omega))
      rw [← h3]
      simp only [rowOf, this]
  obtain ⟨b, hb⟩ := large_ok tabD21' e _ hs'
  refine wo_ld (v := .agg ⟨e.cells⟩) (k := 3) (o := 0) (cs := e.cells) rfl rfl (by kernel_rfl) rfl ?_
  refine wo_call rfl hb (wo_nil ?_)
  cases b with
  | true =>
    exact wp_true rfl (wp_seq (wp_ops (wo_mv (v := .bool true) rfl rfl (wo_nil (wp_ret ⟨by simp, [.bool true], rfl, rfl⟩)))))
  | false =>
    refine wp_false rfl (wp_skip ?_)
    refine wp_eval 60 (e := .ret) (res := [(2, none)]) (vs := [.bool true]) (by kernel_rfl) fun ρ' σ' h => ⟨by simp, [.bool true], h, rfl⟩

end Go.Eng

