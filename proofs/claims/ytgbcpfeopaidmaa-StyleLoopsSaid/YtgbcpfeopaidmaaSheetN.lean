/-
  A style's name, in the interpreter's heap.
-/
import Derived.Test.YtgbcpfeopaidmaaSheetW
set_option linter.all false
namespace Go.Eng
open Go Go.Eng.Sheet
variable {T : Table}

theorem wo_idxS {d : Option Nat} {g : Option (Nat × Bool)} {a i : Arg} {l : List OpI} {ρ : Env} {σ : St} {R : Env → St → Prop} {s : ByteArray} {k : IntKind} {n : Nat} (hg : guardA ρ g = some true) (ha : a.get ρ = .string s) (hi : i.get ρ = .int k n) (hn : n < s.size)
    (h : ∀ b : UInt8, Wo T l (ρ.upd d (.int .u8 b.toNat)) σ R) : Wo T (⟨d, g, .idxS a i⟩ :: l) ρ σ R := by
  have hl : n < s.data.toList.length := by simpa using hn
  refine wo_val hg ?_ (h (s.data.toList[n]'hl))
  simp only [step, evP, ha, hi]
  rw [if_pos (by omega), Int.toNat_natCast, List.getElem?_eq_getElem hl]
  rfl

theorem name_ok (hT : T 26 = some (.code irS26)) {σ : St} (n : ByteArray) :
    ∃ v σ', clT T (.fn 26) [.string n] σ = some (v, σ') ∧ σ' = σ ∧ ∃ b, v = .bool b ∧ (b = true → 1 ≤ n.size ∧ n.size ≤ 16) := by
  refine wp_code hT rfl ?_
  refine wp_seq (wp_ops ?_)
  (repeat (first | refine wo_mv (v := .bool _) rfl rfl ?_ | refine wo_mv (v := .int _ _) rfl rfl ?_ | refine wo_mv (v := .string _) rfl rfl ?_ | refine wo_mv (v := .pointer _) rfl rfl ?_ | refine wo_mv (v := .slice _ _ _) rfl rfl ?_ | refine wo_mv (v := .tuple _) rfl rfl ?_ | refine wo_mv (v := .agg _) rfl rfl ?_ | refine wo_pickT (v := .bool _) rfl rfl rfl ?_ | refine wo_pickF (v := .bool _) rfl rfl rfl ?_ | refine wo_skip rfl ?_ | (refine wo_fadr rfl rfl ?_) | (refine wo_nilck rfl rfl ?_) | (refine wo_lenS rfl rfl ?_) | (refine wo_lenL rfl rfl ?_) | refine wo_not rfl rfl ?_ | refine wo_ext (v := .bool _) rfl rfl rfl ?_ | refine wo_ext (v := .int _ _) rfl rfl rfl ?_ | refine wo_ext (v := .string _) rfl rfl rfl ?_ | refine wo_ext (v := .agg _) rfl rfl rfl ?_))
  refine wo_nil (wp_seq (wp_seq (wp_ops ?_)))
  (repeat (first | refine wo_mv (v := .bool _) rfl rfl ?_ | refine wo_mv (v := .int _ _) rfl rfl ?_ | refine wo_mv (v := .string _) rfl rfl ?_ | refine wo_mv (v := .pointer _) rfl rfl ?_ | refine wo_mv (v := .slice _ _ _) rfl rfl ?_ | refine wo_mv (v := .tuple _) rfl rfl ?_ | refine wo_mv (v := .agg _) rfl rfl ?_ | refine wo_pickT (v := .bool _) rfl rfl rfl ?_ | refine wo_pickF (v := .bool _) rfl rfl rfl ?_ | refine wo_skip rfl ?_ | (refine wo_fadr rfl rfl ?_) | (refine wo_nilck rfl rfl ?_) | (refine wo_lenS rfl rfl ?_) | (refine wo_lenL rfl rfl ?_) | refine wo_not rfl rfl ?_ | refine wo_ext (v := .bool _) rfl rfl rfl ?_ | refine wo_ext (v := .int _ _) rfl rfl rfl ?_ | refine wo_ext (v := .string _) rfl rfl rfl ?_ | refine wo_ext (v := .agg _) rfl rfl rfl ?_))
  refine wo_cmp rfl rfl fun t1 h1 => ?_
  cases t1
  case true =>
    (repeat (first | refine wo_mv (v := .bool _) rfl rfl ?_ | refine wo_mv (v := .int _ _) rfl rfl ?_ | refine wo_mv (v := .string _) rfl rfl ?_ | refine wo_mv (v := .pointer _) rfl rfl ?_ | refine wo_mv (v := .slice _ _ _) rfl rfl ?_ | refine wo_mv (v := .tuple _) rfl rfl ?_ | refine wo_mv (v := .agg _) rfl rfl ?_ | refine wo_pickT (v := .bool _) rfl rfl rfl ?_ | refine wo_pickF (v := .bool _) rfl rfl rfl ?_ | refine wo_skip rfl ?_ | (refine wo_fadr rfl rfl ?_) | (refine wo_nilck rfl rfl ?_) | (refine wo_lenS rfl rfl ?_) | (refine wo_lenL rfl rfl ?_) | refine wo_not rfl rfl ?_ | refine wo_ext (v := .bool _) rfl rfl rfl ?_ | refine wo_ext (v := .int _ _) rfl rfl rfl ?_ | refine wo_ext (v := .string _) rfl rfl rfl ?_ | refine wo_ext (v := .agg _) rfl rfl rfl ?_))
    refine wo_nil (wp_true rfl (wp_seq (wp_ops ?_)))
    (repeat (first | refine wo_mv (v := .bool _) rfl rfl ?_ | refine wo_mv (v := .int _ _) rfl rfl ?_ | refine wo_mv (v := .string _) rfl rfl ?_ | refine wo_mv (v := .pointer _) rfl rfl ?_ | refine wo_mv (v := .slice _ _ _) rfl rfl ?_ | refine wo_mv (v := .tuple _) rfl rfl ?_ | refine wo_mv (v := .agg _) rfl rfl ?_ | refine wo_pickT (v := .bool _) rfl rfl rfl ?_ | refine wo_pickF (v := .bool _) rfl rfl rfl ?_ | refine wo_skip rfl ?_ | (refine wo_fadr rfl rfl ?_) | (refine wo_nilck rfl rfl ?_) | (refine wo_lenS rfl rfl ?_) | (refine wo_lenL rfl rfl ?_) | refine wo_not rfl rfl ?_ | refine wo_ext (v := .bool _) rfl rfl rfl ?_ | refine wo_ext (v := .int _ _) rfl rfl rfl ?_ | refine wo_ext (v := .string _) rfl rfl rfl ?_ | refine wo_ext (v := .agg _) rfl rfl rfl ?_))
    exact wo_nil (wp_ret ⟨by simp, [.bool false], rfl, rfl, false, rfl, fun h => by cases h⟩)
  (repeat (first | refine wo_mv (v := .bool _) rfl rfl ?_ | refine wo_mv (v := .int _ _) rfl rfl ?_ | refine wo_mv (v := .string _) rfl rfl ?_ | refine wo_mv (v := .pointer _) rfl rfl ?_ | refine wo_mv (v := .slice _ _ _) rfl rfl ?_ | refine wo_mv (v := .tuple _) rfl rfl ?_ | refine wo_mv (v := .agg _) rfl rfl ?_ | refine wo_pickT (v := .bool _) rfl rfl rfl ?_ | refine wo_pickF (v := .bool _) rfl rfl rfl ?_ | refine wo_skip rfl ?_ | (refine wo_fadr rfl rfl ?_) | (refine wo_nilck rfl rfl ?_) | (refine wo_lenS rfl rfl ?_) | (refine wo_lenL rfl rfl ?_) | refine wo_not rfl rfl ?_ | refine wo_ext (v := .bool _) rfl rfl rfl ?_ | refine wo_ext (v := .int _ _) rfl rfl rfl ?_ | refine wo_ext (v := .string _) rfl rfl rfl ?_ | refine wo_ext (v := .agg _) rfl rfl rfl ?_))
  refine wo_cmp rfl rfl fun t2 h2 => ?_
  cases t2
  case true =>
    (repeat (first | refine wo_mv (v := .bool _) rfl rfl ?_ | refine wo_mv (v := .int _ _) rfl rfl ?_ | refine wo_mv (v := .string _) rfl rfl ?_ | refine wo_mv (v := .pointer _) rfl rfl ?_ | refine wo_mv (v := .slice _ _ _) rfl rfl ?_ | refine wo_mv (v := .tuple _) rfl rfl ?_ | refine wo_mv (v := .agg _) rfl rfl ?_ | refine wo_pickT (v := .bool _) rfl rfl rfl ?_ | refine wo_pickF (v := .bool _) rfl rfl rfl ?_ | refine wo_skip rfl ?_ | (refine wo_fadr rfl rfl ?_) | (refine wo_nilck rfl rfl ?_) | (refine wo_lenS rfl rfl ?_) | (refine wo_lenL rfl rfl ?_) | refine wo_not rfl rfl ?_ | refine wo_ext (v := .bool _) rfl rfl rfl ?_ | refine wo_ext (v := .int _ _) rfl rfl rfl ?_ | refine wo_ext (v := .string _) rfl rfl rfl ?_ | refine wo_ext (v := .agg _) rfl rfl rfl ?_))
    refine wo_nil (wp_true rfl (wp_seq (wp_ops ?_)))
    (repeat (first | refine wo_mv (v := .bool _) rfl rfl ?_ | refine wo_mv (v := .int _ _) rfl rfl ?_ | refine wo_mv (v := .string _) rfl rfl ?_ | refine wo_mv (v := .pointer _) rfl rfl ?_ | refine wo_mv (v := .slice _ _ _) rfl rfl ?_ | refine wo_mv (v := .tuple _) rfl rfl ?_ | refine wo_mv (v := .agg _) rfl rfl ?_ | refine wo_pickT (v := .bool _) rfl rfl rfl ?_ | refine wo_pickF (v := .bool _) rfl rfl rfl ?_ | refine wo_skip rfl ?_ | (refine wo_fadr rfl rfl ?_) | (refine wo_nilck rfl rfl ?_) | (refine wo_lenS rfl rfl ?_) | (refine wo_lenL rfl rfl ?_) | refine wo_not rfl rfl ?_ | refine wo_ext (v := .bool _) rfl rfl rfl ?_ | refine wo_ext (v := .int _ _) rfl rfl rfl ?_ | refine wo_ext (v := .string _) rfl rfl rfl ?_ | refine wo_ext (v := .agg _) rfl rfl rfl ?_))
    exact wo_nil (wp_ret ⟨by simp, [.bool false], rfl, rfl, false, rfl, fun h => by cases h⟩)
  (repeat (first | refine wo_mv (v := .bool _) rfl rfl ?_ | refine wo_mv (v := .int _ _) rfl rfl ?_ | refine wo_mv (v := .string _) rfl rfl ?_ | refine wo_mv (v := .pointer _) rfl rfl ?_ | refine wo_mv (v := .slice _ _ _) rfl rfl ?_ | refine wo_mv (v := .tuple _) rfl rfl ?_ | refine wo_mv (v := .agg _) rfl rfl ?_ | refine wo_pickT (v := .bool _) rfl rfl rfl ?_ | refine wo_pickF (v := .bool _) rfl rfl rfl ?_ | refine wo_skip rfl ?_ | (refine wo_fadr rfl rfl ?_) | (refine wo_nilck rfl rfl ?_) | (refine wo_lenS rfl rfl ?_) | (refine wo_lenL rfl rfl ?_) | refine wo_not rfl rfl ?_ | refine wo_ext (v := .bool _) rfl rfl rfl ?_ | refine wo_ext (v := .int _ _) rfl rfl rfl ?_ | refine wo_ext (v := .string _) rfl rfl rfl ?_ | refine wo_ext (v := .agg _) rfl rfl rfl ?_))
  have hlo : 1 ≤ n.size := by have := of_decide_eq_false h1; omega
  have hhi : n.size ≤ 16 := by have := of_decide_eq_false h2; omega
  refine wo_nil (wp_false rfl (wp_skip (wp_seq (wp_seq (wp_ops ?_)))))
  (repeat (first | refine wo_mv (v := .bool _) rfl rfl ?_ | refine wo_mv (v := .int _ _) rfl rfl ?_ | refine wo_mv (v := .string _) rfl rfl ?_ | refine wo_mv (v := .pointer _) rfl rfl ?_ | refine wo_mv (v := .slice _ _ _) rfl rfl ?_ | refine wo_mv (v := .tuple _) rfl rfl ?_ | refine wo_mv (v := .agg _) rfl rfl ?_ | refine wo_pickT (v := .bool _) rfl rfl rfl ?_ | refine wo_pickF (v := .bool _) rfl rfl rfl ?_ | refine wo_skip rfl ?_ | (refine wo_fadr rfl rfl ?_) | (refine wo_nilck rfl rfl ?_) | (refine wo_lenS rfl rfl ?_) | (refine wo_lenL rfl rfl ?_) | refine wo_not rfl rfl ?_ | refine wo_ext (v := .bool _) rfl rfl rfl ?_ | refine wo_ext (v := .int _ _) rfl rfl rfl ?_ | refine wo_ext (v := .string _) rfl rfl rfl ?_ | refine wo_ext (v := .agg _) rfl rfl rfl ?_))
  refine wo_nil (wp_block ?_)
  refine wp_loop (fun m ρ σ' => σ' = σ ∧ ∃ (ρb : Env) (i : Nat), ρ = ((ρb.upd (some 0) (.string n)).upd (some 14) (.int .i64 n.size)).upd (some 15) (.int .i64 i) ∧ i ≤ n.size ∧ m = n.size - i) ?_ n.size _ _ ⟨rfl, _, 0, Env.three _ 0 14 15 rfl rfl rfl, Nat.zero_le _, rfl⟩
  rintro m ρ σ' ⟨rfl, ρb, i, rfl, hi, rfl⟩
  refine wp_seq (wp_ops (wo_cmp rfl rfl fun t ht => ?_))
  cases t
  case false =>
    refine wo_nil (wp_seq (wp_false rfl (wp_exit ?_)))
    refine thenQ_exit (loopQ_exit (blockQ_hit (wp_seq (wp_ops ?_))))
    (repeat (first | refine wo_mv (v := .bool _) rfl rfl ?_ | refine wo_mv (v := .int _ _) rfl rfl ?_ | refine wo_mv (v := .string _) rfl rfl ?_ | refine wo_mv (v := .pointer _) rfl rfl ?_ | refine wo_mv (v := .slice _ _ _) rfl rfl ?_ | refine wo_mv (v := .tuple _) rfl rfl ?_ | refine wo_mv (v := .agg _) rfl rfl ?_ | refine wo_pickT (v := .bool _) rfl rfl rfl ?_ | refine wo_pickF (v := .bool _) rfl rfl rfl ?_ | refine wo_skip rfl ?_ | (refine wo_fadr rfl rfl ?_) | (refine wo_nilck rfl rfl ?_) | (refine wo_lenS rfl rfl ?_) | (refine wo_lenL rfl rfl ?_) | refine wo_not rfl rfl ?_ | refine wo_ext (v := .bool _) rfl rfl rfl ?_ | refine wo_ext (v := .int _ _) rfl rfl rfl ?_ | refine wo_ext (v := .string _) rfl rfl rfl ?_ | refine wo_ext (v := .agg _) rfl rfl rfl ?_))
    exact wo_nil (wp_ret ⟨by simp, [.bool true], rfl, rfl, true, rfl, fun _ => ⟨hlo, hhi⟩⟩)
  have hlt : i < n.size := by have := of_decide_eq_true ht; omega
  refine wo_nil (wp_seq (wp_true rfl (wp_skip (wp_seq (wp_block (wp_seq (wp_ops ?_)))))))
  (repeat (first | refine wo_mv (v := .bool _) rfl rfl ?_ | refine wo_mv (v := .int _ _) rfl rfl ?_ | refine wo_mv (v := .string _) rfl rfl ?_ | refine wo_mv (v := .pointer _) rfl rfl ?_ | refine wo_mv (v := .slice _ _ _) rfl rfl ?_ | refine wo_mv (v := .tuple _) rfl rfl ?_ | refine wo_mv (v := .agg _) rfl rfl ?_ | refine wo_pickT (v := .bool _) rfl rfl rfl ?_ | refine wo_pickF (v := .bool _) rfl rfl rfl ?_ | refine wo_skip rfl ?_ | (refine wo_fadr rfl rfl ?_) | (refine wo_nilck rfl rfl ?_) | (refine wo_lenS rfl rfl ?_) | (refine wo_lenL rfl rfl ?_) | refine wo_not rfl rfl ?_ | refine wo_ext (v := .bool _) rfl rfl rfl ?_ | refine wo_ext (v := .int _ _) rfl rfl rfl ?_ | refine wo_ext (v := .string _) rfl rfl rfl ?_ | refine wo_ext (v := .agg _) rfl rfl rfl ?_))
  refine wo_nil (wp_seq (wp_ops ?_))
  (repeat (first | refine wo_mv (v := .bool _) rfl rfl ?_ | refine wo_mv (v := .int _ _) rfl rfl ?_ | refine wo_mv (v := .string _) rfl rfl ?_ | refine wo_mv (v := .pointer _) rfl rfl ?_ | refine wo_mv (v := .slice _ _ _) rfl rfl ?_ | refine wo_mv (v := .tuple _) rfl rfl ?_ | refine wo_mv (v := .agg _) rfl rfl ?_ | refine wo_pickT (v := .bool _) rfl rfl rfl ?_ | refine wo_pickF (v := .bool _) rfl rfl rfl ?_ | refine wo_skip rfl ?_ | (refine wo_fadr rfl rfl ?_) | (refine wo_nilck rfl rfl ?_) | (refine wo_lenS rfl rfl ?_) | (refine wo_lenL rfl rfl ?_) | refine wo_not rfl rfl ?_ | refine wo_ext (v := .bool _) rfl rfl rfl ?_ | refine wo_ext (v := .int _ _) rfl rfl rfl ?_ | refine wo_ext (v := .string _) rfl rfl rfl ?_ | refine wo_ext (v := .agg _) rfl rfl rfl ?_))
  refine wo_idxS rfl rfl rfl hlt fun c => ?_
  (repeat (first | refine wo_mv (v := .bool _) rfl rfl ?_ | refine wo_mv (v := .int _ _) rfl rfl ?_ | refine wo_mv (v := .string _) rfl rfl ?_ | refine wo_mv (v := .pointer _) rfl rfl ?_ | refine wo_mv (v := .slice _ _ _) rfl rfl ?_ | refine wo_mv (v := .tuple _) rfl rfl ?_ | refine wo_mv (v := .agg _) rfl rfl ?_ | refine wo_pickT (v := .bool _) rfl rfl rfl ?_ | refine wo_pickF (v := .bool _) rfl rfl rfl ?_ | refine wo_skip rfl ?_ | (refine wo_fadr rfl rfl ?_) | (refine wo_nilck rfl rfl ?_) | (refine wo_lenS rfl rfl ?_) | (refine wo_lenL rfl rfl ?_) | refine wo_not rfl rfl ?_ | refine wo_ext (v := .bool _) rfl rfl rfl ?_ | refine wo_ext (v := .int _ _) rfl rfl rfl ?_ | refine wo_ext (v := .string _) rfl rfl rfl ?_ | refine wo_ext (v := .agg _) rfl rfl rfl ?_))
  refine wo_nil (wp_seq (wp_ops ?_))
  have next : ∀ ρ' : Env, ρ' 0 = .string n → ρ' 14 = .int .i64 n.size → ρ' 15 = .int .i64 i → Wp T false (.ops [⟨some 39, none, .bin .add .prim (.t 15) (.c (.int .i64 1))⟩, ⟨some 15, none, .mov (.t 39)⟩]) ρ' σ' (loopQ (fun m ρ σ'' => σ'' = σ' ∧ ∃ (ρb : Env) (i : Nat), ρ = ((ρb.upd (some 0) (.string n)).upd (some 14) (.int .i64 n.size)).upd (some 15) (.int .i64 i) ∧ i ≤ n.size ∧ m = n.size - i) (n.size - i) (blockQ 0 (thenQ T false (.seq (.ops [⟨some 2, none, .mov (.c (.bool true))⟩]) .ret) fun e ρ' σ'' => (∀ i, e ≠ .exit i) ∧ ∃ vs, resA ρ' σ'' irS26.res = some vs ∧ σ'' = σ' ∧ ∃ b, tupA vs = .bool b ∧ (b = true → 1 ≤ n.size ∧ n.size ≤ 16)))) := by
    intro ρ' e0 e14 e15
    refine wp_ops (wo_val (v := .int .i64 ((i + 1 : Nat) : Int)) rfl ?_ ?_)
    · show step _ _ _ (.bin .add .prim (.t 15) (.c (.int .i64 1))) = _
      simp only [step, evP, Arg.get, e15, binA, if_true, intA]
      rw [wrap_in _ (by omega) (by omega)]
      rfl
    refine wo_mv (v := .int .i64 ((i + 1 : Nat) : Int)) rfl rfl ?_
    refine wo_nil ⟨n.size - (i + 1), by omega, rfl, _, i + 1, Env.three _ 0 14 15 ?_ ?_ rfl, hlt, rfl⟩
    · exact e0
    · exact e14
  (repeat (first | refine wo_mv (v := .bool _) rfl rfl ?_ | refine wo_mv (v := .int _ _) rfl rfl ?_ | refine wo_mv (v := .string _) rfl rfl ?_ | refine wo_mv (v := .pointer _) rfl rfl ?_ | refine wo_mv (v := .slice _ _ _) rfl rfl ?_ | refine wo_mv (v := .tuple _) rfl rfl ?_ | refine wo_mv (v := .agg _) rfl rfl ?_ | refine wo_pickT (v := .bool _) rfl rfl rfl ?_ | refine wo_pickF (v := .bool _) rfl rfl rfl ?_ | refine wo_skip rfl ?_ | (refine wo_fadr rfl rfl ?_) | (refine wo_nilck rfl rfl ?_) | (refine wo_lenS rfl rfl ?_) | (refine wo_lenL rfl rfl ?_) | refine wo_not rfl rfl ?_ | refine wo_ext (v := .bool _) rfl rfl rfl ?_ | refine wo_ext (v := .int _ _) rfl rfl rfl ?_ | refine wo_ext (v := .string _) rfl rfl rfl ?_ | refine wo_ext (v := .agg _) rfl rfl rfl ?_))
  iterate 6 (all_goals (try (refine wo_cmp rfl rfl fun t _ => ?_; cases t <;> (repeat (first | refine wo_mv (v := .bool _) rfl rfl ?_ | refine wo_mv (v := .int _ _) rfl rfl ?_ | refine wo_mv (v := .string _) rfl rfl ?_ | refine wo_mv (v := .pointer _) rfl rfl ?_ | refine wo_mv (v := .slice _ _ _) rfl rfl ?_ | refine wo_mv (v := .tuple _) rfl rfl ?_ | refine wo_mv (v := .agg _) rfl rfl ?_ | refine wo_pickT (v := .bool _) rfl rfl rfl ?_ | refine wo_pickF (v := .bool _) rfl rfl rfl ?_ | refine wo_skip rfl ?_ | (refine wo_fadr rfl rfl ?_) | (refine wo_nilck rfl rfl ?_) | (refine wo_lenS rfl rfl ?_) | (refine wo_lenL rfl rfl ?_) | refine wo_not rfl rfl ?_ | refine wo_ext (v := .bool _) rfl rfl rfl ?_ | refine wo_ext (v := .int _ _) rfl rfl rfl ?_ | refine wo_ext (v := .string _) rfl rfl rfl ?_ | refine wo_ext (v := .agg _) rfl rfl rfl ?_)))))
  all_goals first
    | (refine wo_nil (wp_false rfl (wp_skip ?_)); exact next _ rfl rfl rfl)
    | (refine wo_nil (wp_true rfl (wp_seq (wp_ops (wo_mv (v := .bool false) rfl rfl (wo_nil (wp_ret ?_)))))); exact ⟨by simp, [.bool false], rfl, rfl, false, rfl, fun h => by cases h⟩)

end Go.Eng
