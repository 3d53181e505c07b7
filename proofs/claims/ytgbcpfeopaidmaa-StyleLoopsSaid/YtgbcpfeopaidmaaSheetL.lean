/-
  StyleLoops in the interpreter's heap: it answers true.
-/
import Derived.Test.YtgbcpfeopaidmaaSheetD
set_option linter.all false
namespace Go.Eng
open Go Go.Eng.Sheet
open Go.Proofs (encStr)

section
variable {T : Table} {inr : Bool}
theorem Env.five (ρ : Env) (a b c d e : Nat) {va vb vc vd ve : Value} (ha : ρ a = va) (hb : ρ b = vb) (hc : ρ c = vc) (hd : ρ d = vd) (he : ρ e = ve) : ρ = ((((ρ.upd (some a) va).upd (some b) vb).upd (some c) vc).upd (some d) vd).upd (some e) ve := by
  rw [← Env.four ρ a b c d ha hb hc hd, ← Env.self ρ e ve he]
theorem Env.six (ρ : Env) (a b c d e f : Nat) {va vb vc vd ve vf : Value} (ha : ρ a = va) (hb : ρ b = vb) (hc : ρ c = vc) (hd : ρ d = vd) (he : ρ e = ve) (hf : ρ f = vf) : ρ = (((((ρ.upd (some a) va).upd (some b) vb).upd (some c) vc).upd (some d) vd).upd (some e) ve).upd (some f) vf := by
  rw [← Env.five ρ a b c d e ha hb hc hd he, ← Env.self ρ f vf hf]
theorem wo_inc {d : Option Nat} {g : Option (Nat × Bool)} {a : Arg} {l : List OpI} {ρ : Env} {σ : St} {R : Env → St → Prop} {i : Nat} (hg : guardA ρ g = some true) (ha : a.get ρ = .int .i64 i) (hi : i < 4611686018427387904) (h : Wo T l (ρ.upd d (.int .i64 ((i + 1 : Nat) : Int))) σ R) : Wo T (⟨d, g, .bin .add .prim a (.c (.int .i64 1))⟩ :: l) ρ σ R := by
  refine wo_val hg ?_ h
  have hk : (Arg.c (.int .i64 1)).get ρ = .int .i64 1 := rfl
  simp only [step, evP, ha, hk, binA, if_true, intA]
  rw [wrap_in _ (by omega) (by omega)]
  rfl
theorem iadr_ev {ρ : Env} {esz : Nat} {a i : Arg} {kb len cap n : Nat} {k : IntKind} (ha : a.get ρ = .slice (some ⟨kb, 0, none⟩) len cap) (hi : i.get ρ = .int k n) (h1 : n < len) : evP ρ (.iadr esz a i) = some (.pointer (some ⟨kb, n * esz, none⟩)) := by
  simp only [evP, ha, hi]
  rw [if_pos (by omega)]
  simp only [addA, Int.toNat_natCast]
  by_cases ho : n * esz = 0
  · simp [ho]
  · simp [ho]
theorem fadr_ev {ρ : Env} {off : Nat} {a : Arg} {k o : Nat} (ha : a.get ρ = .pointer (some ⟨k, o, none⟩)) : evP ρ (.fadr off a) = some (.pointer (some ⟨k, o + off, none⟩)) := by
  simp only [evP, ha, addA]
  by_cases ho : off = 0
  · simp [ho]
  · simp [ho]
end

theorem names_ok {σ : St} {sp r : Nat} {s : Sh} (h : Sht σ sp r s) (hI : Inv s) :
    ∃ a len cap σ', clT tab1 (.fn 10) [ptrOf sp 0] σ = some (.slice a len cap, σ') ∧ len = s.length ∧ Keep σ σ' ∧ ∀ i, i < len → ∃ k cs x, a = some ⟨k, 0, none⟩ ∧ k < σ'.next ∧ rowOf σ' k = some cs ∧ cs[i]? = some (.string (encK x)) ∧ x ∈ keys s := by
  have hk : ∀ s : Sh, (∀ k ∈ keys s, k.length ≤ 16) → keysA (esOf s) = some (keys s) := by
    intro s
    induction s with
    | nil => intro _; rfl
    | cons e s ih =>
      intro hl
      have h1 : (encK e.1).size ≤ 1000000 := by
        have : (encK e.1).size = e.1.length := by simp [encK, ByteArray.size]
        have := hl e.1 (by simp [keys])
        omega
      have ih' := ih fun k hk => hl k (by simp only [keys, List.map_cons, List.mem_cons] at hk ⊢; exact .inr hk)
      simp only [esOf, List.map_cons, keysA, h1, if_true] at ih' ⊢
      rw [ih']; rfl
  have hks := hk s fun k hk => (hI.ne k hk).2
  have hT : tab1 10 = some (.spec hNames) := rfl
  have hlen : (esOf s).length = s.length := by simp [esOf]
  have hle : (esOf s).length ≤ 1000000 := by have := hI.len; omega
  have hrun : hNames [ptrOf sp 0] σ = hNamesOf σ (esOf s) := by
    show (match rowOf σ sp with | some cs => _ | none => none) = _
    rw [rowOf_of h.hp]
    show (match mapOf σ r with | some es => hNamesOf σ es | none => none) = _
    rw [mapOf_of h.hm]
  cases hs : keys s with
  | nil =>
    have h0 : s = [] := by
      cases s with
      | nil => rfl
      | cons e s => simp [keys] at hs
    refine ⟨none, 0, 0, σ, clT_spec hT ?_, by rw [h0]; rfl, Keep.refl σ, fun i hi => absurd hi (Nat.not_lt_zero i)⟩
    rw [hrun]
    simp only [hNamesOf, hle, if_true, hks, hs]
  | cons x l =>
    have hl : (x :: l).length = s.length := by rw [← hs]; simp [keys]
    refine ⟨some ⟨σ.next, 0, none⟩, (x :: l).length, capU, _, clT_spec hT (r := (.slice (some ⟨σ.next, 0, none⟩) (x :: l).length capU, { σ.put σ.next (some (.row ((srtS (x :: l)).map encStr) 1 true false)) with next := σ.next + 1 })) ?_, hl, Keep.new σ _, fun i hi => ?_⟩
    · rw [hrun]
      simp only [hNamesOf, hle, if_true, hks, hs]
      rfl
    · have hp := srtS_perm (x :: l)
      have hi' : i < (srtS (x :: l)).length := by rw [hp.length_eq]; exact hi
      refine ⟨σ.next, _, (srtS (x :: l))[i]'hi', rfl, Nat.lt_succ_self _, rowOf_of (new_get σ _), ?_, ?_⟩
      · rw [List.getElem?_map, List.getElem?_eq_getElem hi']; rfl
      · exact hp.mem_iff.1 (List.getElem_mem hi')

/-- The acts, as far as they are read. -/
def ActsOk (σ : St) (a : Option Addr) (len : Nat) : Prop :=
  ∀ i, i < len → ∃ k cs e o ro ec n p, a = some ⟨k, 0, none⟩ ∧ k < σ.next ∧ σ.get k = some (.row cs e o ro ec) ∧ cs[i * 4 + 1]? = some (.string n) ∧ cs[i * 4 + 2]? = some (.string p)

theorem loops_ok {σ : St} {a : Option Addr} {len cap : Nat} (hA : ActsOk σ a len) : ∃ v σ', clT tab1 (.fn 3) [.slice a len cap] σ = some (v, σ') ∧ v = .bool true := by
  have hTa : tab1 7 = some (.spec hTrue) := rfl
  refine wp_code codeS3 rfl ?_
  refine wp_seq (wp_ops ?_)
  (repeat (first | refine wo_mv (v := .bool _) rfl rfl ?_ | refine wo_mv (v := .int _ _) rfl rfl ?_ | refine wo_mv (v := .string _) rfl rfl ?_ | refine wo_mv (v := .pointer _) rfl rfl ?_ | refine wo_mv (v := .slice _ _ _) rfl rfl ?_ | refine wo_mv (v := .tuple _) rfl rfl ?_ | refine wo_mv (v := .agg _) rfl rfl ?_ | refine wo_pickT (v := .bool _) rfl rfl rfl ?_ | refine wo_pickF (v := .bool _) rfl rfl rfl ?_ | refine wo_skip rfl ?_ | (refine wo_fadr rfl rfl ?_) | (refine wo_nilck rfl rfl ?_) | (refine wo_lenS rfl rfl ?_) | (refine wo_lenL rfl rfl ?_) | refine wo_not rfl rfl ?_ | refine wo_ext (v := .bool _) rfl rfl rfl ?_ | refine wo_ext (v := .int _ _) rfl rfl rfl ?_ | refine wo_ext (v := .string _) rfl rfl rfl ?_ | refine wo_ext (v := .agg _) rfl rfl rfl ?_))
  refine wo_nil (wp_seq (wp_ops ?_))
  refine wo_call rfl (clT_spec hTa (args := []) (σ := σ) (r := (.bool true, σ)) rfl) ?_
  (repeat (first | refine wo_mv (v := .bool _) rfl rfl ?_ | refine wo_mv (v := .int _ _) rfl rfl ?_ | refine wo_mv (v := .string _) rfl rfl ?_ | refine wo_mv (v := .pointer _) rfl rfl ?_ | refine wo_mv (v := .slice _ _ _) rfl rfl ?_ | refine wo_mv (v := .tuple _) rfl rfl ?_ | refine wo_mv (v := .agg _) rfl rfl ?_ | refine wo_pickT (v := .bool _) rfl rfl rfl ?_ | refine wo_pickF (v := .bool _) rfl rfl rfl ?_ | refine wo_skip rfl ?_ | (refine wo_fadr rfl rfl ?_) | (refine wo_nilck rfl rfl ?_) | (refine wo_lenS rfl rfl ?_) | (refine wo_lenL rfl rfl ?_) | refine wo_not rfl rfl ?_ | refine wo_ext (v := .bool _) rfl rfl rfl ?_ | refine wo_ext (v := .int _ _) rfl rfl rfl ?_ | refine wo_ext (v := .string _) rfl rfl rfl ?_ | refine wo_ext (v := .agg _) rfl rfl rfl ?_))
  refine wo_nil (wp_seq (wp_ops ?_))
  obtain ⟨_, σ1, hc, sp, r, rfl, h1, k1, hsp, hr⟩ := new_ok (T := tab1) codeS8 (σ := σ)
  refine wo_call rfl hc ?_
  (repeat (first | refine wo_mv (v := .bool _) rfl rfl ?_ | refine wo_mv (v := .int _ _) rfl rfl ?_ | refine wo_mv (v := .string _) rfl rfl ?_ | refine wo_mv (v := .pointer _) rfl rfl ?_ | refine wo_mv (v := .slice _ _ _) rfl rfl ?_ | refine wo_mv (v := .tuple _) rfl rfl ?_ | refine wo_mv (v := .agg _) rfl rfl ?_ | refine wo_pickT (v := .bool _) rfl rfl rfl ?_ | refine wo_pickF (v := .bool _) rfl rfl rfl ?_ | refine wo_skip rfl ?_ | (refine wo_fadr rfl rfl ?_) | (refine wo_nilck rfl rfl ?_) | (refine wo_lenS rfl rfl ?_) | (refine wo_lenL rfl rfl ?_) | refine wo_not rfl rfl ?_ | refine wo_ext (v := .bool _) rfl rfl rfl ?_ | refine wo_ext (v := .int _ _) rfl rfl rfl ?_ | refine wo_ext (v := .string _) rfl rfl rfl ?_ | refine wo_ext (v := .agg _) rfl rfl rfl ?_))
  refine wo_nil (wp_seq (wp_seq (wp_ops ?_)))
  (repeat (first | refine wo_mv (v := .bool _) rfl rfl ?_ | refine wo_mv (v := .int _ _) rfl rfl ?_ | refine wo_mv (v := .string _) rfl rfl ?_ | refine wo_mv (v := .pointer _) rfl rfl ?_ | refine wo_mv (v := .slice _ _ _) rfl rfl ?_ | refine wo_mv (v := .tuple _) rfl rfl ?_ | refine wo_mv (v := .agg _) rfl rfl ?_ | refine wo_pickT (v := .bool _) rfl rfl rfl ?_ | refine wo_pickF (v := .bool _) rfl rfl rfl ?_ | refine wo_skip rfl ?_ | (refine wo_fadr rfl rfl ?_) | (refine wo_nilck rfl rfl ?_) | (refine wo_lenS rfl rfl ?_) | (refine wo_lenL rfl rfl ?_) | refine wo_not rfl rfl ?_ | refine wo_ext (v := .bool _) rfl rfl rfl ?_ | refine wo_ext (v := .int _ _) rfl rfl rfl ?_ | refine wo_ext (v := .string _) rfl rfl rfl ?_ | refine wo_ext (v := .agg _) rfl rfl rfl ?_))
  refine wo_val (v := .bool false) rfl rfl ?_
  (repeat (first | refine wo_mv (v := .bool _) rfl rfl ?_ | refine wo_mv (v := .int _ _) rfl rfl ?_ | refine wo_mv (v := .string _) rfl rfl ?_ | refine wo_mv (v := .pointer _) rfl rfl ?_ | refine wo_mv (v := .slice _ _ _) rfl rfl ?_ | refine wo_mv (v := .tuple _) rfl rfl ?_ | refine wo_mv (v := .agg _) rfl rfl ?_ | refine wo_pickT (v := .bool _) rfl rfl rfl ?_ | refine wo_pickF (v := .bool _) rfl rfl rfl ?_ | refine wo_skip rfl ?_ | (refine wo_fadr rfl rfl ?_) | (refine wo_nilck rfl rfl ?_) | (refine wo_lenS rfl rfl ?_) | (refine wo_lenL rfl rfl ?_) | refine wo_not rfl rfl ?_ | refine wo_ext (v := .bool _) rfl rfl rfl ?_ | refine wo_ext (v := .int _ _) rfl rfl rfl ?_ | refine wo_ext (v := .string _) rfl rfl rfl ?_ | refine wo_ext (v := .agg _) rfl rfl rfl ?_))
  refine wo_cmp rfl rfl fun t ht => ?_
  (repeat (first | refine wo_mv (v := .bool _) rfl rfl ?_ | refine wo_mv (v := .int _ _) rfl rfl ?_ | refine wo_mv (v := .string _) rfl rfl ?_ | refine wo_mv (v := .pointer _) rfl rfl ?_ | refine wo_mv (v := .slice _ _ _) rfl rfl ?_ | refine wo_mv (v := .tuple _) rfl rfl ?_ | refine wo_mv (v := .agg _) rfl rfl ?_ | refine wo_pickT (v := .bool _) rfl rfl rfl ?_ | refine wo_pickF (v := .bool _) rfl rfl rfl ?_ | refine wo_skip rfl ?_ | (refine wo_fadr rfl rfl ?_) | (refine wo_nilck rfl rfl ?_) | (refine wo_lenS rfl rfl ?_) | (refine wo_lenL rfl rfl ?_) | refine wo_not rfl rfl ?_ | refine wo_ext (v := .bool _) rfl rfl rfl ?_ | refine wo_ext (v := .int _ _) rfl rfl rfl ?_ | refine wo_ext (v := .string _) rfl rfl rfl ?_ | refine wo_ext (v := .agg _) rfl rfl rfl ?_))
  cases t
  case true =>
    refine wo_nil (wp_true rfl (wp_seq (wp_ops ?_)))
    (repeat (first | refine wo_mv (v := .bool _) rfl rfl ?_ | refine wo_mv (v := .int _ _) rfl rfl ?_ | refine wo_mv (v := .string _) rfl rfl ?_ | refine wo_mv (v := .pointer _) rfl rfl ?_ | refine wo_mv (v := .slice _ _ _) rfl rfl ?_ | refine wo_mv (v := .tuple _) rfl rfl ?_ | refine wo_mv (v := .agg _) rfl rfl ?_ | refine wo_pickT (v := .bool _) rfl rfl rfl ?_ | refine wo_pickF (v := .bool _) rfl rfl rfl ?_ | refine wo_skip rfl ?_ | (refine wo_fadr rfl rfl ?_) | (refine wo_nilck rfl rfl ?_) | (refine wo_lenS rfl rfl ?_) | (refine wo_lenL rfl rfl ?_) | refine wo_not rfl rfl ?_ | refine wo_ext (v := .bool _) rfl rfl rfl ?_ | refine wo_ext (v := .int _ _) rfl rfl rfl ?_ | refine wo_ext (v := .string _) rfl rfl rfl ?_ | refine wo_ext (v := .agg _) rfl rfl rfl ?_))
    refine wo_val (v := .bool true) rfl rfl ?_
    (repeat (first | refine wo_mv (v := .bool _) rfl rfl ?_ | refine wo_mv (v := .int _ _) rfl rfl ?_ | refine wo_mv (v := .string _) rfl rfl ?_ | refine wo_mv (v := .pointer _) rfl rfl ?_ | refine wo_mv (v := .slice _ _ _) rfl rfl ?_ | refine wo_mv (v := .tuple _) rfl rfl ?_ | refine wo_mv (v := .agg _) rfl rfl ?_ | refine wo_pickT (v := .bool _) rfl rfl rfl ?_ | refine wo_pickF (v := .bool _) rfl rfl rfl ?_ | refine wo_skip rfl ?_ | (refine wo_fadr rfl rfl ?_) | (refine wo_nilck rfl rfl ?_) | (refine wo_lenS rfl rfl ?_) | (refine wo_lenL rfl rfl ?_) | refine wo_not rfl rfl ?_ | refine wo_ext (v := .bool _) rfl rfl rfl ?_ | refine wo_ext (v := .int _ _) rfl rfl rfl ?_ | refine wo_ext (v := .string _) rfl rfl rfl ?_ | refine wo_ext (v := .agg _) rfl rfl rfl ?_))
    exact wo_nil (wp_ret ⟨by simp, [.bool true], rfl, rfl⟩)
  have hlen : len ≤ 60 := by have := of_decide_eq_false ht; omega
  refine wo_nil (wp_false rfl (wp_skip (wp_cut (fun ρ σ2 => KeepBut r σ1 σ2 ∧ (∃ s, Sht σ2 sp r s ∧ Inv s) ∧ ∃ ρb : Env, ρ = (ρb.upd (some 3) (.bool true)).upd (some 4) (ptrOf sp 0)) (wp_seq (wp_ops ?_)) ?_)))
  · (repeat (first | refine wo_mv (v := .bool _) rfl rfl ?_ | refine wo_mv (v := .int _ _) rfl rfl ?_ | refine wo_mv (v := .string _) rfl rfl ?_ | refine wo_mv (v := .pointer _) rfl rfl ?_ | refine wo_mv (v := .slice _ _ _) rfl rfl ?_ | refine wo_mv (v := .tuple _) rfl rfl ?_ | refine wo_mv (v := .agg _) rfl rfl ?_ | refine wo_pickT (v := .bool _) rfl rfl rfl ?_ | refine wo_pickF (v := .bool _) rfl rfl rfl ?_ | refine wo_skip rfl ?_ | (refine wo_fadr rfl rfl ?_) | (refine wo_nilck rfl rfl ?_) | (refine wo_lenS rfl rfl ?_) | (refine wo_lenL rfl rfl ?_) | refine wo_not rfl rfl ?_ | refine wo_ext (v := .bool _) rfl rfl rfl ?_ | refine wo_ext (v := .int _ _) rfl rfl rfl ?_ | refine wo_ext (v := .string _) rfl rfl rfl ?_ | refine wo_ext (v := .agg _) rfl rfl rfl ?_))
    refine wo_nil (wp_block ?_)
    refine wp_loop (fun m ρ σ2 => KeepBut r σ1 σ2 ∧ (∃ s, Sht σ2 sp r s ∧ Inv s) ∧ ∃ (ρb : Env) (i : Nat), ρ = (((ρb.upd (some 0) (.slice a len cap)).upd (some 3) (.bool true)).upd (some 4) (ptrOf sp 0)).upd (some 5) (.int .i64 i) ∧ i ≤ len ∧ m = len - i) ?_ len _ _ ⟨(Keep.refl _).but r, ⟨[], h1, Inv.nil⟩, _, 0, Env.four _ 0 3 4 5 rfl rfl rfl rfl, Nat.zero_le _, rfl⟩
    rintro m ρ σ2 ⟨k2, ⟨s, hs, hI⟩, ρb, i, rfl, hi, rfl⟩
    refine wp_seq (wp_seq (wp_ops ?_))
    (repeat (first | refine wo_mv (v := .bool _) rfl rfl ?_ | refine wo_mv (v := .int _ _) rfl rfl ?_ | refine wo_mv (v := .string _) rfl rfl ?_ | refine wo_mv (v := .pointer _) rfl rfl ?_ | refine wo_mv (v := .slice _ _ _) rfl rfl ?_ | refine wo_mv (v := .tuple _) rfl rfl ?_ | refine wo_mv (v := .agg _) rfl rfl ?_ | refine wo_pickT (v := .bool _) rfl rfl rfl ?_ | refine wo_pickF (v := .bool _) rfl rfl rfl ?_ | refine wo_skip rfl ?_ | (refine wo_fadr rfl rfl ?_) | (refine wo_nilck rfl rfl ?_) | (refine wo_lenS rfl rfl ?_) | (refine wo_lenL rfl rfl ?_) | refine wo_not rfl rfl ?_ | refine wo_ext (v := .bool _) rfl rfl rfl ?_ | refine wo_ext (v := .int _ _) rfl rfl rfl ?_ | refine wo_ext (v := .string _) rfl rfl rfl ?_ | refine wo_ext (v := .agg _) rfl rfl rfl ?_))
    refine wo_cmp rfl rfl fun t ht => ?_
    cases t
    case false =>
      refine wo_nil (wp_false rfl (wp_exit ?_))
      exact thenQ_exit (loopQ_exit (blockQ_hit ⟨k2, ⟨s, hs, hI⟩, _, Env.two _ 3 4 rfl rfl⟩))
    have hlt : i < len := by have := of_decide_eq_true ht; omega
    refine wo_nil (wp_true rfl (wp_skip (wp_seq (wp_block (wp_drawn ?_)))))
    obtain ⟨k, cs, e, o, ro, ec, n, p, rfl, hk, hg, hn, hp⟩ := hA i hlt
    have hg2 : rowOf { σ2 with next := σ2.next + 12 } k = some cs := by
      have e1 : σ2.get k = some (.row cs e o ro ec) := (k2.get k (Nat.lt_of_lt_of_le hk k1.nx) (by omega)).trans ((k1.get k hk).trans hg)
      exact rowOf_of (σ := { σ2 with next := σ2.next + 12 }) e1
    have k3 := k2.trans ((Keep.bump σ2 12).but r)
    have hs3 := (Keep.bump σ2 12).sht hs
    show Wr tab1 σ2.next 0 _ _ { σ2 with next := σ2.next + 12 } _
    generalize ({ σ2 with next := σ2.next + 12 } : St) = σ3 at k3 hs3 hg2 ⊢
    obtain ⟨_, σ4, hd, ⟨er, rfl⟩, k4, s', hs4, hI4⟩ := define_ok hs3 hI n p
    refine wr_pure (ptrOf sp 0) rfl rfl ?_
    refine wr_pure (.slice (some ⟨k, 0, none⟩) len cap) rfl rfl ?_
    refine wr_pure (.int .i64 i) rfl rfl ?_
    refine wr_pure (.pointer (some ⟨k, i * 4, none⟩)) rfl (iadr_ev rfl rfl hlt) ?_
    refine wr_pure (.pointer (some ⟨k, i * 4 + 1, none⟩)) rfl (fadr_ev rfl) ?_
    refine wr_read (.string n) rfl rfl (ld_step rfl hg2 hn) ?_
    refine wr_pure (.slice (some ⟨k, 0, none⟩) len cap) rfl rfl ?_
    refine wr_pure (.int .i64 i) rfl rfl ?_
    refine wr_pure (.pointer (some ⟨k, i * 4, none⟩)) rfl (iadr_ev rfl rfl hlt) ?_
    refine wr_pure (.pointer (some ⟨k, i * 4 + 2, none⟩)) rfl (fadr_ev rfl) ?_
    refine wr_read (.string p) rfl rfl (ld_step rfl hg2 hp) ?_
    refine wr_str (.int .i64 er) rfl rfl rfl (σ' := σ4) hd ?_
    refine wr_nil ⟨?_, ?_⟩
    · refine chk_skip rfl (chk_skip rfl (chk_skip rfl (chk_skip rfl (chk_skip rfl (chk_look rfl rfl (chk_skip rfl (chk_skip rfl (chk_skip rfl (chk_skip rfl (chk_look rfl ?_ (chk_free rfl ?_ rfl)))))))))))
      · simp only [List.all_cons, List.all_nil, Bool.and_true, Bool.or_eq_true]
        exact .inr rfl
      · show ∀ p ∈ [10, 5], (2047).testBit p = true
        decide
    · refine wp_ops ?_
      (repeat (first | refine wo_mv (v := .bool _) rfl rfl ?_ | refine wo_mv (v := .int _ _) rfl rfl ?_ | refine wo_mv (v := .string _) rfl rfl ?_ | refine wo_mv (v := .pointer _) rfl rfl ?_ | refine wo_mv (v := .slice _ _ _) rfl rfl ?_ | refine wo_mv (v := .tuple _) rfl rfl ?_ | refine wo_mv (v := .agg _) rfl rfl ?_ | refine wo_pickT (v := .bool _) rfl rfl rfl ?_ | refine wo_pickF (v := .bool _) rfl rfl rfl ?_ | refine wo_skip rfl ?_ | (refine wo_fadr rfl rfl ?_) | (refine wo_nilck rfl rfl ?_) | (refine wo_lenS rfl rfl ?_) | (refine wo_lenL rfl rfl ?_) | refine wo_not rfl rfl ?_ | refine wo_ext (v := .bool _) rfl rfl rfl ?_ | refine wo_ext (v := .int _ _) rfl rfl rfl ?_ | refine wo_ext (v := .string _) rfl rfl rfl ?_ | refine wo_ext (v := .agg _) rfl rfl rfl ?_))
      refine wo_inc rfl rfl (by omega) ?_
      (repeat (first | refine wo_mv (v := .bool _) rfl rfl ?_ | refine wo_mv (v := .int _ _) rfl rfl ?_ | refine wo_mv (v := .string _) rfl rfl ?_ | refine wo_mv (v := .pointer _) rfl rfl ?_ | refine wo_mv (v := .slice _ _ _) rfl rfl ?_ | refine wo_mv (v := .tuple _) rfl rfl ?_ | refine wo_mv (v := .agg _) rfl rfl ?_ | refine wo_pickT (v := .bool _) rfl rfl rfl ?_ | refine wo_pickF (v := .bool _) rfl rfl rfl ?_ | refine wo_skip rfl ?_ | (refine wo_fadr rfl rfl ?_) | (refine wo_nilck rfl rfl ?_) | (refine wo_lenS rfl rfl ?_) | (refine wo_lenL rfl rfl ?_) | refine wo_not rfl rfl ?_ | refine wo_ext (v := .bool _) rfl rfl rfl ?_ | refine wo_ext (v := .int _ _) rfl rfl rfl ?_ | refine wo_ext (v := .string _) rfl rfl rfl ?_ | refine wo_ext (v := .agg _) rfl rfl rfl ?_))
      exact wo_nil ⟨len - (i + 1), by omega, k3.trans k4, ⟨s', hs4, hI4⟩, _, i + 1, Env.four _ 0 3 4 5 rfl rfl rfl rfl, hlt, rfl⟩
  rintro ρ σ2 ⟨k2, ⟨s, hs, hI⟩, ρb, rfl⟩
  refine wp_seq (wp_ops ?_)
  (repeat (first | refine wo_mv (v := .bool _) rfl rfl ?_ | refine wo_mv (v := .int _ _) rfl rfl ?_ | refine wo_mv (v := .string _) rfl rfl ?_ | refine wo_mv (v := .pointer _) rfl rfl ?_ | refine wo_mv (v := .slice _ _ _) rfl rfl ?_ | refine wo_mv (v := .tuple _) rfl rfl ?_ | refine wo_mv (v := .agg _) rfl rfl ?_ | refine wo_pickT (v := .bool _) rfl rfl rfl ?_ | refine wo_pickF (v := .bool _) rfl rfl rfl ?_ | refine wo_skip rfl ?_ | (refine wo_fadr rfl rfl ?_) | (refine wo_nilck rfl rfl ?_) | (refine wo_lenS rfl rfl ?_) | (refine wo_lenL rfl rfl ?_) | refine wo_not rfl rfl ?_ | refine wo_ext (v := .bool _) rfl rfl rfl ?_ | refine wo_ext (v := .int _ _) rfl rfl rfl ?_ | refine wo_ext (v := .string _) rfl rfl rfl ?_ | refine wo_ext (v := .agg _) rfl rfl rfl ?_))
  obtain ⟨na, nl, nc, σ3, hn, rfl, k3, hnames⟩ := names_ok hs hI
  have hs3 := k3.sht hs
  have hl32 := hI.len
  refine wo_call rfl hn ?_
  (repeat (first | refine wo_mv (v := .bool _) rfl rfl ?_ | refine wo_mv (v := .int _ _) rfl rfl ?_ | refine wo_mv (v := .string _) rfl rfl ?_ | refine wo_mv (v := .pointer _) rfl rfl ?_ | refine wo_mv (v := .slice _ _ _) rfl rfl ?_ | refine wo_mv (v := .tuple _) rfl rfl ?_ | refine wo_mv (v := .agg _) rfl rfl ?_ | refine wo_pickT (v := .bool _) rfl rfl rfl ?_ | refine wo_pickF (v := .bool _) rfl rfl rfl ?_ | refine wo_skip rfl ?_ | (refine wo_fadr rfl rfl ?_) | (refine wo_nilck rfl rfl ?_) | (refine wo_lenS rfl rfl ?_) | (refine wo_lenL rfl rfl ?_) | refine wo_not rfl rfl ?_ | refine wo_ext (v := .bool _) rfl rfl rfl ?_ | refine wo_ext (v := .int _ _) rfl rfl rfl ?_ | refine wo_ext (v := .string _) rfl rfl rfl ?_ | refine wo_ext (v := .agg _) rfl rfl rfl ?_))
  refine wo_nil (wp_cut (fun ρ σ4 => ∃ ρb : Env, ρ = (ρb.upd (some 3) (.bool true)).upd (some 6) (.slice na s.length nc)) (wp_seq (wp_ops ?_)) ?_)
  · (repeat (first | refine wo_mv (v := .bool _) rfl rfl ?_ | refine wo_mv (v := .int _ _) rfl rfl ?_ | refine wo_mv (v := .string _) rfl rfl ?_ | refine wo_mv (v := .pointer _) rfl rfl ?_ | refine wo_mv (v := .slice _ _ _) rfl rfl ?_ | refine wo_mv (v := .tuple _) rfl rfl ?_ | refine wo_mv (v := .agg _) rfl rfl ?_ | refine wo_pickT (v := .bool _) rfl rfl rfl ?_ | refine wo_pickF (v := .bool _) rfl rfl rfl ?_ | refine wo_skip rfl ?_ | (refine wo_fadr rfl rfl ?_) | (refine wo_nilck rfl rfl ?_) | (refine wo_lenS rfl rfl ?_) | (refine wo_lenL rfl rfl ?_) | refine wo_not rfl rfl ?_ | refine wo_ext (v := .bool _) rfl rfl rfl ?_ | refine wo_ext (v := .int _ _) rfl rfl rfl ?_ | refine wo_ext (v := .string _) rfl rfl rfl ?_ | refine wo_ext (v := .agg _) rfl rfl rfl ?_))
    refine wo_nil (wp_block ?_)
    refine wp_loop (fun m ρ σ4 => Keep σ3 σ4 ∧ ∃ (ρb : Env) (i : Nat), ρ = (((ρb.upd (some 3) (.bool true)).upd (some 4) (ptrOf sp 0)).upd (some 6) (.slice na s.length nc)).upd (some 7) (.int .i64 i) ∧ i ≤ s.length ∧ m = s.length - i) ?_ s.length _ _ ⟨Keep.refl _, _, 0, Env.four _ 3 4 6 7 rfl rfl rfl rfl, Nat.zero_le _, rfl⟩
    rintro m ρ σ4 ⟨k4, ρb, i, rfl, hi, rfl⟩
    refine wp_seq (wp_seq (wp_ops ?_))
    (repeat (first | refine wo_mv (v := .bool _) rfl rfl ?_ | refine wo_mv (v := .int _ _) rfl rfl ?_ | refine wo_mv (v := .string _) rfl rfl ?_ | refine wo_mv (v := .pointer _) rfl rfl ?_ | refine wo_mv (v := .slice _ _ _) rfl rfl ?_ | refine wo_mv (v := .tuple _) rfl rfl ?_ | refine wo_mv (v := .agg _) rfl rfl ?_ | refine wo_pickT (v := .bool _) rfl rfl rfl ?_ | refine wo_pickF (v := .bool _) rfl rfl rfl ?_ | refine wo_skip rfl ?_ | (refine wo_fadr rfl rfl ?_) | (refine wo_nilck rfl rfl ?_) | (refine wo_lenS rfl rfl ?_) | (refine wo_lenL rfl rfl ?_) | refine wo_not rfl rfl ?_ | refine wo_ext (v := .bool _) rfl rfl rfl ?_ | refine wo_ext (v := .int _ _) rfl rfl rfl ?_ | refine wo_ext (v := .string _) rfl rfl rfl ?_ | refine wo_ext (v := .agg _) rfl rfl rfl ?_))
    refine wo_cmp rfl rfl fun t ht => ?_
    cases t
    case false =>
      refine wo_nil (wp_false rfl (wp_exit ?_))
      exact thenQ_exit (loopQ_exit (blockQ_hit ⟨_, Env.two _ 3 6 rfl rfl⟩))
    have hlt : i < s.length := by have := of_decide_eq_true ht; omega
    refine wo_nil (wp_true rfl (wp_skip (wp_cut (fun ρ σ5 => Keep σ3 σ5 ∧ ∃ ρb : Env, ρ = (((ρb.upd (some 3) (.bool true)).upd (some 4) (ptrOf sp 0)).upd (some 6) (.slice na s.length nc)).upd (some 7) (.int .i64 i)) (wp_block (wp_seq (wp_ops ?_))) ?_)))
    · obtain ⟨k, cs, x, rfl, hk, hcs, hx, hmem⟩ := hnames i hlt
      have hrow : rowOf σ4 k = some cs := by
        rw [← hcs]; simp only [rowOf, k4.get k hk]
      (repeat (first | refine wo_mv (v := .bool _) rfl rfl ?_ | refine wo_mv (v := .int _ _) rfl rfl ?_ | refine wo_mv (v := .string _) rfl rfl ?_ | refine wo_mv (v := .pointer _) rfl rfl ?_ | refine wo_mv (v := .slice _ _ _) rfl rfl ?_ | refine wo_mv (v := .tuple _) rfl rfl ?_ | refine wo_mv (v := .agg _) rfl rfl ?_ | refine wo_pickT (v := .bool _) rfl rfl rfl ?_ | refine wo_pickF (v := .bool _) rfl rfl rfl ?_ | refine wo_skip rfl ?_ | (refine wo_fadr rfl rfl ?_) | (refine wo_nilck rfl rfl ?_) | (refine wo_lenS rfl rfl ?_) | (refine wo_lenL rfl rfl ?_) | refine wo_not rfl rfl ?_ | refine wo_ext (v := .bool _) rfl rfl rfl ?_ | refine wo_ext (v := .int _ _) rfl rfl rfl ?_ | refine wo_ext (v := .string _) rfl rfl rfl ?_ | refine wo_ext (v := .agg _) rfl rfl rfl ?_))
      refine wo_val (v := .pointer (some ⟨k, i * 1, none⟩)) rfl (by simp only [step]; rw [iadr_ev rfl rfl hlt]) ?_
      refine wo_ld (v := .string (encK x)) rfl rfl hrow (by rw [Nat.mul_one]; exact hx) ?_
      (repeat (first | refine wo_mv (v := .bool _) rfl rfl ?_ | refine wo_mv (v := .int _ _) rfl rfl ?_ | refine wo_mv (v := .string _) rfl rfl ?_ | refine wo_mv (v := .pointer _) rfl rfl ?_ | refine wo_mv (v := .slice _ _ _) rfl rfl ?_ | refine wo_mv (v := .tuple _) rfl rfl ?_ | refine wo_mv (v := .agg _) rfl rfl ?_ | refine wo_pickT (v := .bool _) rfl rfl rfl ?_ | refine wo_pickF (v := .bool _) rfl rfl rfl ?_ | refine wo_skip rfl ?_ | (refine wo_fadr rfl rfl ?_) | (refine wo_nilck rfl rfl ?_) | (refine wo_lenS rfl rfl ?_) | (refine wo_lenL rfl rfl ?_) | refine wo_not rfl rfl ?_ | refine wo_ext (v := .bool _) rfl rfl rfl ?_ | refine wo_ext (v := .int _ _) rfl rfl rfl ?_ | refine wo_ext (v := .string _) rfl rfl rfl ?_ | refine wo_ext (v := .agg _) rfl rfl rfl ?_))
      refine wo_nil (wp_block ?_)
      obtain ⟨m, hm⟩ := hI.ends x hmem
      have hml := ends_le hm
      refine wp_loop (fun j ρ σ5 => Keep σ3 σ5 ∧ ∃ (ρb : Env) (q : List UInt8) (st : Nat), ρ = (((((ρb.upd (some 3) (.bool true)).upd (some 4) (ptrOf sp 0)).upd (some 6) (.slice (some ⟨k, 0, none⟩) s.length nc)).upd (some 7) (.int .i64 i)).upd (some 8) (.string (encK q))).upd (some 9) (.int .i64 st) ∧ Sheet.Ends s q j ∧ st + j ≤ s.length) ?_ m _ _ ⟨k4, _, x, 0, Env.six _ 3 4 6 7 8 9 rfl rfl rfl rfl rfl rfl, hm, by omega⟩
      rintro j ρ σ5 ⟨k5, ρb, q, st, rfl, he, hst⟩
      refine wp_seq (wp_seq (wp_ops ?_))
      (repeat (first | refine wo_mv (v := .bool _) rfl rfl ?_ | refine wo_mv (v := .int _ _) rfl rfl ?_ | refine wo_mv (v := .string _) rfl rfl ?_ | refine wo_mv (v := .pointer _) rfl rfl ?_ | refine wo_mv (v := .slice _ _ _) rfl rfl ?_ | refine wo_mv (v := .tuple _) rfl rfl ?_ | refine wo_mv (v := .agg _) rfl rfl ?_ | refine wo_pickT (v := .bool _) rfl rfl rfl ?_ | refine wo_pickF (v := .bool _) rfl rfl rfl ?_ | refine wo_skip rfl ?_ | (refine wo_fadr rfl rfl ?_) | (refine wo_nilck rfl rfl ?_) | (refine wo_lenS rfl rfl ?_) | (refine wo_lenL rfl rfl ?_) | refine wo_not rfl rfl ?_ | refine wo_ext (v := .bool _) rfl rfl rfl ?_ | refine wo_ext (v := .int _ _) rfl rfl rfl ?_ | refine wo_ext (v := .string _) rfl rfl rfl ?_ | refine wo_ext (v := .agg _) rfl rfl rfl ?_))
      refine wo_str_ne rfl rfl rfl fun t ht => ?_
      cases t
      case false =>
        refine wo_nil (wp_false rfl (wp_exit ?_))
        exact thenQ_exit (loopQ_exit (blockQ_hit ⟨k5, _, Env.four _ 3 4 6 7 rfl rfl rfl rfl⟩))
      have hq : q ≠ [] := not_of ht
      cases he with
      | nil => exact absurd rfl hq
      | @step _ u j _ hu he =>
      obtain ⟨_, σ6, hpar, rfl, k6⟩ := parent_ok codeS11 codeS25 (k5.sht hs3) (k := encK q) hu
      refine wo_nil (wp_true rfl (wp_skip (wp_block (wp_seq (wp_ops ?_)))))
      (repeat (first | refine wo_mv (v := .bool _) rfl rfl ?_ | refine wo_mv (v := .int _ _) rfl rfl ?_ | refine wo_mv (v := .string _) rfl rfl ?_ | refine wo_mv (v := .pointer _) rfl rfl ?_ | refine wo_mv (v := .slice _ _ _) rfl rfl ?_ | refine wo_mv (v := .tuple _) rfl rfl ?_ | refine wo_mv (v := .agg _) rfl rfl ?_ | refine wo_pickT (v := .bool _) rfl rfl rfl ?_ | refine wo_pickF (v := .bool _) rfl rfl rfl ?_ | refine wo_skip rfl ?_ | (refine wo_fadr rfl rfl ?_) | (refine wo_nilck rfl rfl ?_) | (refine wo_lenS rfl rfl ?_) | (refine wo_lenL rfl rfl ?_) | refine wo_not rfl rfl ?_ | refine wo_ext (v := .bool _) rfl rfl rfl ?_ | refine wo_ext (v := .int _ _) rfl rfl rfl ?_ | refine wo_ext (v := .string _) rfl rfl rfl ?_ | refine wo_ext (v := .agg _) rfl rfl rfl ?_))
      refine wo_call rfl hpar ?_
      (repeat (first | refine wo_mv (v := .bool _) rfl rfl ?_ | refine wo_mv (v := .int _ _) rfl rfl ?_ | refine wo_mv (v := .string _) rfl rfl ?_ | refine wo_mv (v := .pointer _) rfl rfl ?_ | refine wo_mv (v := .slice _ _ _) rfl rfl ?_ | refine wo_mv (v := .tuple _) rfl rfl ?_ | refine wo_mv (v := .agg _) rfl rfl ?_ | refine wo_pickT (v := .bool _) rfl rfl rfl ?_ | refine wo_pickF (v := .bool _) rfl rfl rfl ?_ | refine wo_skip rfl ?_ | (refine wo_fadr rfl rfl ?_) | (refine wo_nilck rfl rfl ?_) | (refine wo_lenS rfl rfl ?_) | (refine wo_lenL rfl rfl ?_) | refine wo_not rfl rfl ?_ | refine wo_ext (v := .bool _) rfl rfl rfl ?_ | refine wo_ext (v := .int _ _) rfl rfl rfl ?_ | refine wo_ext (v := .string _) rfl rfl rfl ?_ | refine wo_ext (v := .agg _) rfl rfl rfl ?_))
      refine wo_nil (wp_seq (wp_seq (wp_ops ?_)))
      (repeat (first | refine wo_mv (v := .bool _) rfl rfl ?_ | refine wo_mv (v := .int _ _) rfl rfl ?_ | refine wo_mv (v := .string _) rfl rfl ?_ | refine wo_mv (v := .pointer _) rfl rfl ?_ | refine wo_mv (v := .slice _ _ _) rfl rfl ?_ | refine wo_mv (v := .tuple _) rfl rfl ?_ | refine wo_mv (v := .agg _) rfl rfl ?_ | refine wo_pickT (v := .bool _) rfl rfl rfl ?_ | refine wo_pickF (v := .bool _) rfl rfl rfl ?_ | refine wo_skip rfl ?_ | (refine wo_fadr rfl rfl ?_) | (refine wo_nilck rfl rfl ?_) | (refine wo_lenS rfl rfl ?_) | (refine wo_lenL rfl rfl ?_) | refine wo_not rfl rfl ?_ | refine wo_ext (v := .bool _) rfl rfl rfl ?_ | refine wo_ext (v := .int _ _) rfl rfl rfl ?_ | refine wo_ext (v := .string _) rfl rfl rfl ?_ | refine wo_ext (v := .agg _) rfl rfl rfl ?_))
      refine wo_val (v := .bool false) rfl rfl ?_
      (repeat (first | refine wo_mv (v := .bool _) rfl rfl ?_ | refine wo_mv (v := .int _ _) rfl rfl ?_ | refine wo_mv (v := .string _) rfl rfl ?_ | refine wo_mv (v := .pointer _) rfl rfl ?_ | refine wo_mv (v := .slice _ _ _) rfl rfl ?_ | refine wo_mv (v := .tuple _) rfl rfl ?_ | refine wo_mv (v := .agg _) rfl rfl ?_ | refine wo_pickT (v := .bool _) rfl rfl rfl ?_ | refine wo_pickF (v := .bool _) rfl rfl rfl ?_ | refine wo_skip rfl ?_ | (refine wo_fadr rfl rfl ?_) | (refine wo_nilck rfl rfl ?_) | (refine wo_lenS rfl rfl ?_) | (refine wo_lenL rfl rfl ?_) | refine wo_not rfl rfl ?_ | refine wo_ext (v := .bool _) rfl rfl rfl ?_ | refine wo_ext (v := .int _ _) rfl rfl rfl ?_ | refine wo_ext (v := .string _) rfl rfl rfl ?_ | refine wo_ext (v := .agg _) rfl rfl rfl ?_))
      refine wo_cmp rfl rfl fun t ht2 => ?_
      cases t
      case true =>
        have := of_decide_eq_true ht2
        omega
      (repeat (first | refine wo_mv (v := .bool _) rfl rfl ?_ | refine wo_mv (v := .int _ _) rfl rfl ?_ | refine wo_mv (v := .string _) rfl rfl ?_ | refine wo_mv (v := .pointer _) rfl rfl ?_ | refine wo_mv (v := .slice _ _ _) rfl rfl ?_ | refine wo_mv (v := .tuple _) rfl rfl ?_ | refine wo_mv (v := .agg _) rfl rfl ?_ | refine wo_pickT (v := .bool _) rfl rfl rfl ?_ | refine wo_pickF (v := .bool _) rfl rfl rfl ?_ | refine wo_skip rfl ?_ | (refine wo_fadr rfl rfl ?_) | (refine wo_nilck rfl rfl ?_) | (refine wo_lenS rfl rfl ?_) | (refine wo_lenL rfl rfl ?_) | refine wo_not rfl rfl ?_ | refine wo_ext (v := .bool _) rfl rfl rfl ?_ | refine wo_ext (v := .int _ _) rfl rfl rfl ?_ | refine wo_ext (v := .string _) rfl rfl rfl ?_ | refine wo_ext (v := .agg _) rfl rfl rfl ?_))
      refine wo_nil (wp_false rfl (wp_skip (wp_seq (wp_ops ?_))))
      (repeat (first | refine wo_mv (v := .bool _) rfl rfl ?_ | refine wo_mv (v := .int _ _) rfl rfl ?_ | refine wo_mv (v := .string _) rfl rfl ?_ | refine wo_mv (v := .pointer _) rfl rfl ?_ | refine wo_mv (v := .slice _ _ _) rfl rfl ?_ | refine wo_mv (v := .tuple _) rfl rfl ?_ | refine wo_mv (v := .agg _) rfl rfl ?_ | refine wo_pickT (v := .bool _) rfl rfl rfl ?_ | refine wo_pickF (v := .bool _) rfl rfl rfl ?_ | refine wo_skip rfl ?_ | (refine wo_fadr rfl rfl ?_) | (refine wo_nilck rfl rfl ?_) | (refine wo_lenS rfl rfl ?_) | (refine wo_lenL rfl rfl ?_) | refine wo_not rfl rfl ?_ | refine wo_ext (v := .bool _) rfl rfl rfl ?_ | refine wo_ext (v := .int _ _) rfl rfl rfl ?_ | refine wo_ext (v := .string _) rfl rfl rfl ?_ | refine wo_ext (v := .agg _) rfl rfl rfl ?_))
      refine wo_nil (wp_ops ?_)
      (repeat (first | refine wo_mv (v := .bool _) rfl rfl ?_ | refine wo_mv (v := .int _ _) rfl rfl ?_ | refine wo_mv (v := .string _) rfl rfl ?_ | refine wo_mv (v := .pointer _) rfl rfl ?_ | refine wo_mv (v := .slice _ _ _) rfl rfl ?_ | refine wo_mv (v := .tuple _) rfl rfl ?_ | refine wo_mv (v := .agg _) rfl rfl ?_ | refine wo_pickT (v := .bool _) rfl rfl rfl ?_ | refine wo_pickF (v := .bool _) rfl rfl rfl ?_ | refine wo_skip rfl ?_ | (refine wo_fadr rfl rfl ?_) | (refine wo_nilck rfl rfl ?_) | (refine wo_lenS rfl rfl ?_) | (refine wo_lenL rfl rfl ?_) | refine wo_not rfl rfl ?_ | refine wo_ext (v := .bool _) rfl rfl rfl ?_ | refine wo_ext (v := .int _ _) rfl rfl rfl ?_ | refine wo_ext (v := .string _) rfl rfl rfl ?_ | refine wo_ext (v := .agg _) rfl rfl rfl ?_))
      refine wo_inc rfl rfl (by omega) ?_
      (repeat (first | refine wo_mv (v := .bool _) rfl rfl ?_ | refine wo_mv (v := .int _ _) rfl rfl ?_ | refine wo_mv (v := .string _) rfl rfl ?_ | refine wo_mv (v := .pointer _) rfl rfl ?_ | refine wo_mv (v := .slice _ _ _) rfl rfl ?_ | refine wo_mv (v := .tuple _) rfl rfl ?_ | refine wo_mv (v := .agg _) rfl rfl ?_ | refine wo_pickT (v := .bool _) rfl rfl rfl ?_ | refine wo_pickF (v := .bool _) rfl rfl rfl ?_ | refine wo_skip rfl ?_ | (refine wo_fadr rfl rfl ?_) | (refine wo_nilck rfl rfl ?_) | (refine wo_lenS rfl rfl ?_) | (refine wo_lenL rfl rfl ?_) | refine wo_not rfl rfl ?_ | refine wo_ext (v := .bool _) rfl rfl rfl ?_ | refine wo_ext (v := .int _ _) rfl rfl rfl ?_ | refine wo_ext (v := .string _) rfl rfl rfl ?_ | refine wo_ext (v := .agg _) rfl rfl rfl ?_))
      exact wo_nil ⟨j, Nat.lt_succ_self _, k5.trans k6, _, u, st + 1, Env.six _ 3 4 6 7 8 9 rfl rfl rfl rfl rfl rfl, he, by omega⟩
    · rintro ρ σ5 ⟨k5, ρb, rfl⟩
      refine wp_ops ?_
      (repeat (first | refine wo_mv (v := .bool _) rfl rfl ?_ | refine wo_mv (v := .int _ _) rfl rfl ?_ | refine wo_mv (v := .string _) rfl rfl ?_ | refine wo_mv (v := .pointer _) rfl rfl ?_ | refine wo_mv (v := .slice _ _ _) rfl rfl ?_ | refine wo_mv (v := .tuple _) rfl rfl ?_ | refine wo_mv (v := .agg _) rfl rfl ?_ | refine wo_pickT (v := .bool _) rfl rfl rfl ?_ | refine wo_pickF (v := .bool _) rfl rfl rfl ?_ | refine wo_skip rfl ?_ | (refine wo_fadr rfl rfl ?_) | (refine wo_nilck rfl rfl ?_) | (refine wo_lenS rfl rfl ?_) | (refine wo_lenL rfl rfl ?_) | refine wo_not rfl rfl ?_ | refine wo_ext (v := .bool _) rfl rfl rfl ?_ | refine wo_ext (v := .int _ _) rfl rfl rfl ?_ | refine wo_ext (v := .string _) rfl rfl rfl ?_ | refine wo_ext (v := .agg _) rfl rfl rfl ?_))
      refine wo_inc rfl rfl (by omega) ?_
      (repeat (first | refine wo_mv (v := .bool _) rfl rfl ?_ | refine wo_mv (v := .int _ _) rfl rfl ?_ | refine wo_mv (v := .string _) rfl rfl ?_ | refine wo_mv (v := .pointer _) rfl rfl ?_ | refine wo_mv (v := .slice _ _ _) rfl rfl ?_ | refine wo_mv (v := .tuple _) rfl rfl ?_ | refine wo_mv (v := .agg _) rfl rfl ?_ | refine wo_pickT (v := .bool _) rfl rfl rfl ?_ | refine wo_pickF (v := .bool _) rfl rfl rfl ?_ | refine wo_skip rfl ?_ | (refine wo_fadr rfl rfl ?_) | (refine wo_nilck rfl rfl ?_) | (refine wo_lenS rfl rfl ?_) | (refine wo_lenL rfl rfl ?_) | refine wo_not rfl rfl ?_ | refine wo_ext (v := .bool _) rfl rfl rfl ?_ | refine wo_ext (v := .int _ _) rfl rfl rfl ?_ | refine wo_ext (v := .string _) rfl rfl rfl ?_ | refine wo_ext (v := .agg _) rfl rfl rfl ?_))
      exact wo_nil ⟨s.length - (i + 1), by omega, k5, _, i + 1, Env.four _ 3 4 6 7 rfl rfl rfl rfl, hlt, rfl⟩
  rintro ρ σ4 ⟨ρb, rfl⟩
  refine wp_seq (wp_ops ?_)
  (repeat (first | refine wo_mv (v := .bool _) rfl rfl ?_ | refine wo_mv (v := .int _ _) rfl rfl ?_ | refine wo_mv (v := .string _) rfl rfl ?_ | refine wo_mv (v := .pointer _) rfl rfl ?_ | refine wo_mv (v := .slice _ _ _) rfl rfl ?_ | refine wo_mv (v := .tuple _) rfl rfl ?_ | refine wo_mv (v := .agg _) rfl rfl ?_ | refine wo_pickT (v := .bool _) rfl rfl rfl ?_ | refine wo_pickF (v := .bool _) rfl rfl rfl ?_ | refine wo_skip rfl ?_ | (refine wo_fadr rfl rfl ?_) | (refine wo_nilck rfl rfl ?_) | (refine wo_lenS rfl rfl ?_) | (refine wo_lenL rfl rfl ?_) | refine wo_not rfl rfl ?_ | refine wo_ext (v := .bool _) rfl rfl rfl ?_ | refine wo_ext (v := .int _ _) rfl rfl rfl ?_ | refine wo_ext (v := .string _) rfl rfl rfl ?_ | refine wo_ext (v := .agg _) rfl rfl rfl ?_))
  refine wo_cmp rfl rfl fun t ht => ?_
  cases t
  case false =>
    have := of_decide_eq_false ht
    omega
  (repeat (first | refine wo_mv (v := .bool _) rfl rfl ?_ | refine wo_mv (v := .int _ _) rfl rfl ?_ | refine wo_mv (v := .string _) rfl rfl ?_ | refine wo_mv (v := .pointer _) rfl rfl ?_ | refine wo_mv (v := .slice _ _ _) rfl rfl ?_ | refine wo_mv (v := .tuple _) rfl rfl ?_ | refine wo_mv (v := .agg _) rfl rfl ?_ | refine wo_pickT (v := .bool _) rfl rfl rfl ?_ | refine wo_pickF (v := .bool _) rfl rfl rfl ?_ | refine wo_skip rfl ?_ | (refine wo_fadr rfl rfl ?_) | (refine wo_nilck rfl rfl ?_) | (refine wo_lenS rfl rfl ?_) | (refine wo_lenL rfl rfl ?_) | refine wo_not rfl rfl ?_ | refine wo_ext (v := .bool _) rfl rfl rfl ?_ | refine wo_ext (v := .int _ _) rfl rfl rfl ?_ | refine wo_ext (v := .string _) rfl rfl rfl ?_ | refine wo_ext (v := .agg _) rfl rfl rfl ?_))
  exact wo_nil (wp_ret ⟨by simp, [.bool true], rfl, rfl⟩)

end Go.Eng
