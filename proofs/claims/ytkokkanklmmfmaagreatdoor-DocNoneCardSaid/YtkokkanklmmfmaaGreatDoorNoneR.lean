/-
  The run of docNone: whatever the edit is.
-/
import Derived.Test.YtkokkanklmmfmaaGreatDoorEdit
set_option linter.all false
namespace Go.Eng
open Go

def irD8 : FIR := ⟨84, 2, [(4, none)], (.seq (.ops [⟨(some 3), none, (.box (.t 1))⟩, ⟨(some 4), none, (.mov (.c (.bool false)))⟩]) (.seq (.seq (.ops [⟨(some 13), none, (.ld (some 34) (.t 3))⟩, ⟨(some 14), none, (.call 21 [(.t 13)])⟩]) (.ite (.t 14) (.seq (.ops [⟨(some 4), none, (.mov (.c (.bool true)))⟩]) .ret) .skip)) (.seq (.ops [⟨(some 15), none, (.build [(.pointer none), (.pointer none), (.pointer none), (.map none), (.slice none 0 0), (.slice none 0 0), (.slice none 0 0), (.slice none 0 0), (.string ⟨#[]⟩), (.slice none 0 0), (.int .i64 (0)), (.int .i64 (0))] [])⟩, ⟨(some 16), none, (.box (.t 15))⟩, ⟨(some 17), none, (.bslice 2 1 [(.pointer none), (.pointer none)] [⟨0, 1, (.c (.pointer none))⟩, ⟨1, 1, (.t 16)⟩])⟩, ⟨(some 5), none, (.mov (.t 17))⟩]) (.seq (.seq (.ops [⟨(some 6), none, (.mov (.c (.int .i64 (0))))⟩]) (.block 0 (.loop (.seq (.seq (.ops [⟨(some 18), none, (.mov (.t 6))⟩, ⟨(some 19), none, (.mov (.t 5))⟩, ⟨(some 20), none, (.lenL (.t 19))⟩, ⟨(some 21), none, (.bin .lss .prim (.t 18) (.t 20))⟩]) (.ite (.t 21) .skip (.exit 0))) (.seq (.block 1 (.seq (.ops [⟨(some 24), none, (.mov (.t 5))⟩, ⟨(some 25), none, (.mov (.t 6))⟩, ⟨(some 26), none, (.iadr 1 (.t 24) (.t 25))⟩, ⟨(some 27), none, (.ld none (.t 26))⟩, ⟨(some 7), none, (.mov (.t 27))⟩]) (.seq (.ops [⟨(some 29), none, (.mov (.t 7))⟩, ⟨(some 30), none, (.mov (.t 0))⟩, ⟨(some 31), none, (.call 25 [(.t 29), (.t 30)])⟩, ⟨(some 28), none, (.mov (.t 31))⟩, ⟨(some 32), none, (.ext (.t 28) 0)⟩, ⟨(some 33), none, (.ext (.t 28) 1)⟩, ⟨(some 34), none, (.ext (.t 28) 2)⟩, ⟨(some 8), none, (.mov (.t 32))⟩, ⟨(some 9), none, (.mov (.t 33))⟩, ⟨(some 10), none, (.mov (.t 34))⟩]) (.seq (.ops [⟨(some 36), none, (.mov (.t 7))⟩, ⟨(some 37), none, (.mov (.t 0))⟩, ⟨(some 38), none, (.call 36 [(.t 36), (.t 37)])⟩, ⟨(some 35), none, (.mov (.t 38))⟩, ⟨(some 39), none, (.ext (.t 35) 0)⟩, ⟨(some 40), none, (.ext (.t 35) 1)⟩, ⟨(some 11), none, (.alloc [(.int .i64 (0)), (.int .i64 (0)), (.int .i64 (0)), (.int .i64 (0)), (.int .i64 (0)), (.int .i64 (0)), (.int .i64 (0)), (.int .i64 (0)), (.int .i64 (0)), (.int .i64 (0)), (.int .i64 (0)), (.int .i64 (0)), (.int .i64 (0)), (.int .i64 (0)), (.int .i64 (0)), (.int .i64 (0)), (.int .i64 (0))] 89)⟩, ⟨none, none, (.st 17 (.t 11) (.t 39))⟩, ⟨(some 12), none, (.mov (.t 40))⟩]) (.seq (.ops [⟨(some 41), none, (.mov (.t 7))⟩, ⟨(some 42), none, (.ld (some 34) (.t 3))⟩, ⟨(some 43), none, (.call 18 [(.t 41), (.t 42)])⟩, ⟨(some 44), none, (.bin .neq .prim (.t 43) (.c (.int .i64 (1))))⟩, ⟨(some 45), none, (.mov (.t 44))⟩, ⟨(some 46), (some (45, false)), (.mov (.t 8))⟩, ⟨(some 47), (some (45, false)), (.bin .neq .prim (.t 46) (.c (.int .i64 (0))))⟩, ⟨(some 48), none, (.pick (.t 45) (.c (.bool true)) (.t 47))⟩, ⟨(some 49), none, (.mov (.t 48))⟩, ⟨(some 50), (some (49, false)), (.mov (.t 9))⟩, ⟨(some 51), (some (49, false)), (.bin .neq .prim (.t 50) (.c (.int .i64 (0))))⟩, ⟨(some 52), none, (.pick (.t 49) (.c (.bool true)) (.t 51))⟩, ⟨(some 53), none, (.mov (.t 52))⟩, ⟨(some 54), (some (53, false)), (.mov (.t 10))⟩, ⟨(some 55), (some (53, false)), (.bin .neq .prim (.t 54) (.c (.int .i64 (1))))⟩, ⟨(some 56), none, (.pick (.t 53) (.c (.bool true)) (.t 55))⟩, ⟨(some 57), none, (.mov (.t 56))⟩, ⟨(some 58), (some (57, false)), (.ld (some 17) (.t 11))⟩, ⟨(some 59), (some (57, false)), (.build [(.int .i64 (0)), (.int .i64 (0)), (.int .i64 (0)), (.int .i64 (0)), (.int .i64 (0)), (.int .i64 (0)), (.int .i64 (0)), (.int .i64 (0)), (.int .i64 (0)), (.int .i64 (0)), (.int .i64 (0)), (.int .i64 (0)), (.int .i64 (0)), (.int .i64 (0)), (.int .i64 (0)), (.int .i64 (0)), (.int .i64 (0))] [])⟩, ⟨(some 60), (some (57, false)), (.bin .neq (.flat [.i, .i, .i, .i, .i, .i, .i, .i, .i, .i, .i, .i, .i, .i, .i, .i, .i]) (.t 58) (.t 59))⟩, ⟨(some 61), none, (.pick (.t 57) (.c (.bool true)) (.t 60))⟩, ⟨(some 62), none, (.mov (.t 61))⟩, ⟨(some 63), (some (62, false)), (.mov (.t 12))⟩, ⟨(some 64), (some (62, false)), (.bin .neq .prim (.t 63) (.c (.int .i64 (1))))⟩, ⟨(some 65), none, (.pick (.t 62) (.c (.bool true)) (.t 64))⟩, ⟨(some 66), none, (.mov (.t 65))⟩, ⟨(some 67), (some (66, false)), (.mov (.t 7))⟩, ⟨(some 68), (some (66, false)), (.call 20 [(.t 67)])⟩, ⟨(some 69), (some (66, false)), (.build [(.slice none 0 0), (.slice none 0 0), (.slice none 0 0), (.string ⟨#[]⟩), (.slice none 0 0)] [])⟩, ⟨(some 70), (some (66, false)), (.call 23 [(.t 68), (.t 69)])⟩, ⟨(some 71), (some (66, false)), (.un .not (.t 70))⟩, ⟨(some 72), none, (.pick (.t 66) (.c (.bool true)) (.t 71))⟩, ⟨(some 73), none, (.mov (.t 72))⟩, ⟨(some 74), (some (73, false)), (.mov (.t 7))⟩, ⟨(some 75), (some (73, false)), (.call 19 [(.t 74)])⟩, ⟨(some 76), (some (73, false)), (.bin .neq .prim (.t 75) (.c (.int .i64 (0))))⟩, ⟨(some 77), none, (.pick (.t 73) (.c (.bool true)) (.t 76))⟩, ⟨(some 78), none, (.mov (.t 77))⟩, ⟨(some 79), (some (78, false)), (.mov (.t 7))⟩, ⟨(some 80), (some (78, false)), (.call 30 [(.t 79)])⟩, ⟨(some 81), (some (78, false)), (.bin .neq .ptr (.t 80) (.c (.pointer none)))⟩, ⟨(some 82), none, (.pick (.t 78) (.c (.bool true)) (.t 81))⟩]) (.ite (.t 82) (.seq (.ops [⟨(some 4), none, (.mov (.c (.bool false)))⟩]) .ret) .skip)))))) (.ops [⟨(some 22), none, (.mov (.t 6))⟩, ⟨(some 23), none, (.bin .add .prim (.t 22) (.c (.int .i64 (1))))⟩, ⟨(some 6), none, (.mov (.t 23))⟩])))))) (.seq (.ops [⟨(some 83), none, (.call 14 [])⟩, ⟨(some 4), none, (.mov (.t 83))⟩]) .ret)))))⟩
theorem irD8_eq : funC Proofs.Tryz.prog Proofs.Tryz.f8 = some irD8 := by kernel_rfl


theorem tabD8 : tabD 8 = some (.code irD8) := by kernel_rfl
theorem tabD21' : tabD 21 = some (.code irD21) := by kernel_rfl

set_option maxRecDepth 1000000 in
set_option maxHeartbeats 4000000 in
theorem docNone_runs (e : EditA) (a : Int) (o0 o1 o2 : Option AObj) (hs : StrRow (st3 o0 o1 o2) e.a15 e.l15) : ∃ σ', clT tabD (.fn 8) [.int .i64 a, .agg ⟨e.cells⟩] (st3 o0 o1 o2) = some (.bool true, σ') := by
  suffices h : ∃ v σ', clT tabD (.fn 8) [.int .i64 a, .agg ⟨e.cells⟩] (st3 o0 o1 o2) = some (v, σ') ∧ v = .bool true by
    obtain ⟨v, σ', h1, rfl⟩ := h
    exact ⟨σ', h1⟩
  refine wp_code tabD8 rfl ?_
  refine wp_seq (wp_ops (wo_new (x := .row e.cells 34 false false) (f := fun i => ptrOf i 0) rfl rfl (wo_mv (v := .bool _) rfl rfl (wo_nil ?_))))
  refine wp_seq (wp_seq (wp_ops ?_))
  have hs' : StrRow { (st3 o0 o1 o2).put 3 (some (.row e.cells 34 false false)) with next := 4 } e.a15 e.l15 := by
    rcases hs with h | ⟨k, row, h1, h2, h3, h4⟩
    · exact .inl h
    · have h2' : k < 3 := h2
      refine .inr ⟨k, row, h1, (show k < 4 by omega), ?_, h4⟩
      have : ({ (st3 o0 o1 o2).put 3 (some (.row e.cells 34 false false)) with next := 4 } : St).get k = (st3 o0 o1 o2).get k := (St.get_put (st3 o0 o1 o2) 3 k _).trans (if_neg (by omega))
      rw [← h3]
      simp only [rowOf, this]
  obtain ⟨b, hb⟩ := large_ok tabD21' e _ hs'
  refine wo_ld (v := .agg ⟨e.cells⟩) (k := 3) (o := 0) (cs := e.cells) rfl rfl (by kernel_rfl) rfl ?_
  refine wo_call rfl hb (wo_nil ?_)
  cases b with
  | true =>
    exact wp_true rfl (wp_seq (wp_ops (wo_mv (v := .bool true) rfl rfl (wo_nil (wp_ret ⟨by simp, [.bool true], rfl, rfl⟩)))))
  | false =>
    refine wp_false rfl (wp_skip ?_)
    refine wp_eval 60 (e := .ret) (res := [(4, none)]) (vs := [.bool true]) (by kernel_rfl) fun ρ' σ' h => ⟨by simp, [.bool true], h, rfl⟩

end Go.Eng

