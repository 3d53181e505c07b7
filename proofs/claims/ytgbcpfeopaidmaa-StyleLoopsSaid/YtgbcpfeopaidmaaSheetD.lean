/-
  A style's definition, in the interpreter's heap.
-/
import Derived.Test.YtgbcpfeopaidmaaSheetN
set_option linter.all false
namespace Go.Eng
open Go Go.Eng.Sheet

def cutQ (M : Env → St → Prop) (Q : Ex → Env → St → Prop) : Ex → Env → St → Prop
  | .normal, ρ, σ => M ρ σ
  | .exit i, ρ, σ => Q (.exit i) ρ σ
  | .ret, ρ, σ => Q .ret ρ σ

section
variable {T : Table} {inr : Bool}
theorem wp_cut {a b : Stmt} {ρ : Env} {σ : St} {Q : Ex → Env → St → Prop} (M : Env → St → Prop) (h1 : Wp T inr a ρ σ (cutQ M Q)) (h2 : ∀ ρ' σ', M ρ' σ' → Wp T inr b ρ' σ' Q) : Wp T inr (.seq a b) ρ σ Q := by
  refine wp_seq (h1.mono ?_)
  rintro (_ | i | _) ρ' σ' h
  · exact h2 _ _ h
  · exact h
  · exact h
theorem Env.four (ρ : Env) (a b c d : Nat) {va vb vc vd : Value} (ha : ρ a = va) (hb : ρ b = vb) (hc : ρ c = vc) (hd : ρ d = vd) : ρ = (((ρ.upd (some a) va).upd (some b) vb).upd (some c) vc).upd (some d) vd := by
  rw [← Env.three ρ a b c ha hb hc, ← Env.self ρ d vd hd]
theorem wo_lkp2 {d : Option Nat} {g : Option (Nat × Bool)} {m k : Arg} {l : List OpI} {ρ : Env} {σ : St} {R : Env → St → Prop} {r : Nat} {s : Sh} {n : ByteArray} (hg : guardA ρ g = some true) (hm : m.get ρ = .map (some r)) (hk : k.get ρ = .string n) (hs : σ.get r = some (.map (esOf s)))
    (h : ∀ x t, (parOf s n.data.toList).isSome = t → Wo T l (ρ.upd d (.tuple #[.agg #[.string x, .slice none 0 0], .bool t])) σ R) : Wo T (⟨d, g, .lkp true (.agg #[(.string ⟨#[]⟩), (.slice none 0 0)]) true m k⟩ :: l) ρ σ R := by
  cases hp : parOf s n.data.toList with
  | none => exact wo_lkp hg hm hk hs (by rw [hp]; rfl) (h _ _ (by rw [hp]; rfl))
  | some p => exact wo_lkp hg hm hk hs (by rw [hp]; rfl) (h _ _ (by rw [hp]; rfl))
theorem ld_step {ρ : Env} {σ : St} {a : Arg} {k o : Nat} {cs : List Value} {v : Value} (ha : a.get ρ = .pointer (some ⟨k, o, none⟩)) (hr : rowOf σ k = some cs) (hv : cs[o]? = some v) : stepS ρ σ (.ld none a) = some (.val v) := by
  simp only [stepS, evP, evR, ha, hr, partA, if_true, hv]
theorem wo_lenM {d : Option Nat} {g : Option (Nat × Bool)} {m : Arg} {l : List OpI} {ρ : Env} {σ : St} {R : Env → St → Prop} {r : Nat} {es : List (Value × Value)} (hg : guardA ρ g = some true) (hm : m.get ρ = .map (some r)) (hs : σ.get r = some (.map es)) (h : Wo T l (ρ.upd d (.int .i64 es.length)) σ R) : Wo T (⟨d, g, .lenM m⟩ :: l) ρ σ R :=
  wo_val hg (by simp only [step, evP, evR, hm, mapOf_of hs, Option.map_some]) h
theorem mput_ev {cl : CallF} {ρ : Env} {σ : St} {m k x : Arg} {r : Nat} {es es' : List (Value × Value)} (hm : m.get ρ = .map (some r)) (hs : σ.get r = some (.map es)) (hk : keyOk true (k.get ρ) = true) (hp : putA (k.get ρ) (x.get ρ) es = some es') : evW cl ρ σ (.mput true m k x) = some (undefV, σ.put r (some (.map es'))) := by
  simp only [evW, hm, mapOf_of hs, hk, hp, if_true, Option.map_some]
theorem chk_skip {base j : Nat} {bef : List Nat} {r : Rec} {rs : List Rec} {prev : List (Nat × Rec)} (hl : r.d.looks = false) (h : chkD base bef (j + 1) rs prev = true) : chkD base bef j (r :: rs) prev = true := by
  simp only [chkD, hl, Bool.false_eq_true, if_false]; exact h
theorem chk_look {base j : Nat} {bef : List Nat} {r : Rec} {rs : List Rec} {prev : List (Nat × Rec)} (hl : r.d.looks = true) (ha : (prev.all fun p => (bef.getD j 0).testBit p.1 || okP base p.1 p.2 j r) = true) (h : chkD base bef (j + 1) rs ((j, r) :: prev) = true) : chkD base bef j (r :: rs) prev = true := by
  simp only [chkD, hl, if_true, ha, Bool.true_and]; exact h
theorem chk_free {base j : Nat} {bef : List Nat} {r : Rec} {rs : List Rec} {prev : List (Nat × Rec)} (hl : r.d.looks = true) (ha : ∀ p ∈ prev.map Prod.fst, (bef.getD j 0).testBit p = true) (h : chkD base bef (j + 1) rs ((j, r) :: prev) = true) : chkD base bef j (r :: rs) prev = true :=
  chk_look hl (List.all_eq_true.2 fun p hp => by rw [ha _ (List.mem_map_of_mem hp)]; rfl) h
theorem okP_still {base e j : Nat} {a b : Rec} {v w : Value} {σ' : St} (ha : a.d = .weak (.val v)) (hb : b.d = .str w σ') (h : stepS a.ρ σ' a.i = some (.val v)) : okP base e a j b = true := by
  simp only [okP, ha, hb, stillOk, h, keptOk, sameV_refl, Bool.and_true]
theorem call_step {ρ : Env} {σ : St} {f : FuncId} {xs : List Arg} : stepS ρ σ (.call f xs) = none := rfl
end

theorem define_ok {σ : St} {sp r : Nat} {s : Sh} (h : Sht σ sp r s) (hI : Inv s) (n p : ByteArray) :
    ∃ v σ', clT tab1 (.fn 9) [ptrOf sp 0, .string n, .string p, .slice none 0 0] σ = some (v, σ') ∧ (∃ e, v = .int .i64 e) ∧ KeepBut r σ σ' ∧ ∃ s', Sht σ' sp r s' ∧ Inv s' := by
  have done : ∀ (e : Int) (σ1 : St), Keep σ σ1 → ∃ vs, resA (fun _ => .int .i64 e) σ1 [(8, none)] = some vs ∧ (∃ e, tupA vs = .int .i64 e) ∧ KeepBut r σ σ1 ∧ ∃ s', Sht σ1 sp r s' ∧ Inv s' :=
    fun e σ1 k => ⟨[.int .i64 e], rfl, ⟨e, rfl⟩, k.but r, s, k.sht h, hI⟩
  refine wp_code codeS9 rfl ?_
  refine wp_seq (wp_ops ?_)
  (repeat (first | refine wo_mv (v := .bool _) rfl rfl ?_ | refine wo_mv (v := .int _ _) rfl rfl ?_ | refine wo_mv (v := .string _) rfl rfl ?_ | refine wo_mv (v := .pointer _) rfl rfl ?_ | refine wo_mv (v := .slice _ _ _) rfl rfl ?_ | refine wo_mv (v := .tuple _) rfl rfl ?_ | refine wo_mv (v := .agg _) rfl rfl ?_ | refine wo_pickT (v := .bool _) rfl rfl rfl ?_ | refine wo_pickF (v := .bool _) rfl rfl rfl ?_ | refine wo_skip rfl ?_ | (refine wo_fadr rfl rfl ?_) | (refine wo_nilck rfl rfl ?_) | (refine wo_lenS rfl rfl ?_) | (refine wo_lenL rfl rfl ?_) | refine wo_not rfl rfl ?_ | refine wo_ext (v := .bool _) rfl rfl rfl ?_ | refine wo_ext (v := .int _ _) rfl rfl rfl ?_ | refine wo_ext (v := .string _) rfl rfl rfl ?_ | refine wo_ext (v := .agg _) rfl rfl rfl ?_))
  refine wo_nil (wp_seq (wp_block (wp_seq (wp_ops ?_))))
  (repeat (first | refine wo_mv (v := .bool _) rfl rfl ?_ | refine wo_mv (v := .int _ _) rfl rfl ?_ | refine wo_mv (v := .string _) rfl rfl ?_ | refine wo_mv (v := .pointer _) rfl rfl ?_ | refine wo_mv (v := .slice _ _ _) rfl rfl ?_ | refine wo_mv (v := .tuple _) rfl rfl ?_ | refine wo_mv (v := .agg _) rfl rfl ?_ | refine wo_pickT (v := .bool _) rfl rfl rfl ?_ | refine wo_pickF (v := .bool _) rfl rfl rfl ?_ | refine wo_skip rfl ?_ | (refine wo_fadr rfl rfl ?_) | (refine wo_nilck rfl rfl ?_) | (refine wo_lenS rfl rfl ?_) | (refine wo_lenL rfl rfl ?_) | refine wo_not rfl rfl ?_ | refine wo_ext (v := .bool _) rfl rfl rfl ?_ | refine wo_ext (v := .int _ _) rfl rfl rfl ?_ | refine wo_ext (v := .string _) rfl rfl rfl ?_ | refine wo_ext (v := .agg _) rfl rfl rfl ?_))
  refine wo_call rfl (none_ok codeS25 h) ?_
  (repeat (first | refine wo_mv (v := .bool _) rfl rfl ?_ | refine wo_mv (v := .int _ _) rfl rfl ?_ | refine wo_mv (v := .string _) rfl rfl ?_ | refine wo_mv (v := .pointer _) rfl rfl ?_ | refine wo_mv (v := .slice _ _ _) rfl rfl ?_ | refine wo_mv (v := .tuple _) rfl rfl ?_ | refine wo_mv (v := .agg _) rfl rfl ?_ | refine wo_pickT (v := .bool _) rfl rfl rfl ?_ | refine wo_pickF (v := .bool _) rfl rfl rfl ?_ | refine wo_skip rfl ?_ | (refine wo_fadr rfl rfl ?_) | (refine wo_nilck rfl rfl ?_) | (refine wo_lenS rfl rfl ?_) | (refine wo_lenL rfl rfl ?_) | refine wo_not rfl rfl ?_ | refine wo_ext (v := .bool _) rfl rfl rfl ?_ | refine wo_ext (v := .int _ _) rfl rfl rfl ?_ | refine wo_ext (v := .string _) rfl rfl rfl ?_ | refine wo_ext (v := .agg _) rfl rfl rfl ?_))
  refine wo_nil (wp_false rfl (wp_seq (wp_ops ?_)))
  (repeat (first | refine wo_mv (v := .bool _) rfl rfl ?_ | refine wo_mv (v := .int _ _) rfl rfl ?_ | refine wo_mv (v := .string _) rfl rfl ?_ | refine wo_mv (v := .pointer _) rfl rfl ?_ | refine wo_mv (v := .slice _ _ _) rfl rfl ?_ | refine wo_mv (v := .tuple _) rfl rfl ?_ | refine wo_mv (v := .agg _) rfl rfl ?_ | refine wo_pickT (v := .bool _) rfl rfl rfl ?_ | refine wo_pickF (v := .bool _) rfl rfl rfl ?_ | refine wo_skip rfl ?_ | (refine wo_fadr rfl rfl ?_) | (refine wo_nilck rfl rfl ?_) | (refine wo_lenS rfl rfl ?_) | (refine wo_lenL rfl rfl ?_) | refine wo_not rfl rfl ?_ | refine wo_ext (v := .bool _) rfl rfl rfl ?_ | refine wo_ext (v := .int _ _) rfl rfl rfl ?_ | refine wo_ext (v := .string _) rfl rfl rfl ?_ | refine wo_ext (v := .agg _) rfl rfl rfl ?_))
  obtain ⟨_, σq, hc, hσ, b, rfl, hb⟩ := name_ok codeS26 (σ := σ) n
  rw [hσ] at hc
  refine wo_call rfl hc ?_
  (repeat (first | refine wo_mv (v := .bool _) rfl rfl ?_ | refine wo_mv (v := .int _ _) rfl rfl ?_ | refine wo_mv (v := .string _) rfl rfl ?_ | refine wo_mv (v := .pointer _) rfl rfl ?_ | refine wo_mv (v := .slice _ _ _) rfl rfl ?_ | refine wo_mv (v := .tuple _) rfl rfl ?_ | refine wo_mv (v := .agg _) rfl rfl ?_ | refine wo_pickT (v := .bool _) rfl rfl rfl ?_ | refine wo_pickF (v := .bool _) rfl rfl rfl ?_ | refine wo_skip rfl ?_ | (refine wo_fadr rfl rfl ?_) | (refine wo_nilck rfl rfl ?_) | (refine wo_lenS rfl rfl ?_) | (refine wo_lenL rfl rfl ?_) | refine wo_not rfl rfl ?_ | refine wo_ext (v := .bool _) rfl rfl rfl ?_ | refine wo_ext (v := .int _ _) rfl rfl rfl ?_ | refine wo_ext (v := .string _) rfl rfl rfl ?_ | refine wo_ext (v := .agg _) rfl rfl rfl ?_))
  cases b
  case false =>
    refine wo_nil (wp_true rfl (wp_seq (wp_ops ?_)))
    (repeat (first | refine wo_mv (v := .bool _) rfl rfl ?_ | refine wo_mv (v := .int _ _) rfl rfl ?_ | refine wo_mv (v := .string _) rfl rfl ?_ | refine wo_mv (v := .pointer _) rfl rfl ?_ | refine wo_mv (v := .slice _ _ _) rfl rfl ?_ | refine wo_mv (v := .tuple _) rfl rfl ?_ | refine wo_mv (v := .agg _) rfl rfl ?_ | refine wo_pickT (v := .bool _) rfl rfl rfl ?_ | refine wo_pickF (v := .bool _) rfl rfl rfl ?_ | refine wo_skip rfl ?_ | (refine wo_fadr rfl rfl ?_) | (refine wo_nilck rfl rfl ?_) | (refine wo_lenS rfl rfl ?_) | (refine wo_lenL rfl rfl ?_) | refine wo_not rfl rfl ?_ | refine wo_ext (v := .bool _) rfl rfl rfl ?_ | refine wo_ext (v := .int _ _) rfl rfl rfl ?_ | refine wo_ext (v := .string _) rfl rfl rfl ?_ | refine wo_ext (v := .agg _) rfl rfl rfl ?_))
    exact wo_nil (wp_ret ⟨by simp, done 4 _ (Keep.refl _)⟩)
  obtain ⟨hn1, hn2⟩ := hb rfl
  refine wo_nil (wp_false rfl (wp_skip (wp_cut (fun ρ σ1 => Keep σ σ1 ∧ (p.data.toList = [] ∨ p.data.toList ∈ keys s) ∧ ∃ ρb : Env, ρ = (((ρb.upd (some 0) (ptrOf sp 0)).upd (some 1) (.string n)).upd (some 2) (.string p)).upd (some 3) (.slice none 0 0)) (wp_seq (wp_ops ?_)) ?_)))
  · (repeat (first | refine wo_mv (v := .bool _) rfl rfl ?_ | refine wo_mv (v := .int _ _) rfl rfl ?_ | refine wo_mv (v := .string _) rfl rfl ?_ | refine wo_mv (v := .pointer _) rfl rfl ?_ | refine wo_mv (v := .slice _ _ _) rfl rfl ?_ | refine wo_mv (v := .tuple _) rfl rfl ?_ | refine wo_mv (v := .agg _) rfl rfl ?_ | refine wo_pickT (v := .bool _) rfl rfl rfl ?_ | refine wo_pickF (v := .bool _) rfl rfl rfl ?_ | refine wo_skip rfl ?_ | (refine wo_fadr rfl rfl ?_) | (refine wo_nilck rfl rfl ?_) | (refine wo_lenS rfl rfl ?_) | (refine wo_lenL rfl rfl ?_) | refine wo_not rfl rfl ?_ | refine wo_ext (v := .bool _) rfl rfl rfl ?_ | refine wo_ext (v := .int _ _) rfl rfl rfl ?_ | refine wo_ext (v := .string _) rfl rfl rfl ?_ | refine wo_ext (v := .agg _) rfl rfl rfl ?_))
    refine wo_ld (v := .map (some r)) rfl rfl (rowOf_of h.hp) rfl ?_
    (repeat (first | refine wo_mv (v := .bool _) rfl rfl ?_ | refine wo_mv (v := .int _ _) rfl rfl ?_ | refine wo_mv (v := .string _) rfl rfl ?_ | refine wo_mv (v := .pointer _) rfl rfl ?_ | refine wo_mv (v := .slice _ _ _) rfl rfl ?_ | refine wo_mv (v := .tuple _) rfl rfl ?_ | refine wo_mv (v := .agg _) rfl rfl ?_ | refine wo_pickT (v := .bool _) rfl rfl rfl ?_ | refine wo_pickF (v := .bool _) rfl rfl rfl ?_ | refine wo_skip rfl ?_ | (refine wo_fadr rfl rfl ?_) | (refine wo_nilck rfl rfl ?_) | (refine wo_lenS rfl rfl ?_) | (refine wo_lenL rfl rfl ?_) | refine wo_not rfl rfl ?_ | refine wo_ext (v := .bool _) rfl rfl rfl ?_ | refine wo_ext (v := .int _ _) rfl rfl rfl ?_ | refine wo_ext (v := .string _) rfl rfl rfl ?_ | refine wo_ext (v := .agg _) rfl rfl rfl ?_))
    refine wo_lkp2 rfl rfl rfl h.hm fun x tb htb => ?_
    (repeat (first | refine wo_mv (v := .bool _) rfl rfl ?_ | refine wo_mv (v := .int _ _) rfl rfl ?_ | refine wo_mv (v := .string _) rfl rfl ?_ | refine wo_mv (v := .pointer _) rfl rfl ?_ | refine wo_mv (v := .slice _ _ _) rfl rfl ?_ | refine wo_mv (v := .tuple _) rfl rfl ?_ | refine wo_mv (v := .agg _) rfl rfl ?_ | refine wo_pickT (v := .bool _) rfl rfl rfl ?_ | refine wo_pickF (v := .bool _) rfl rfl rfl ?_ | refine wo_skip rfl ?_ | (refine wo_fadr rfl rfl ?_) | (refine wo_nilck rfl rfl ?_) | (refine wo_lenS rfl rfl ?_) | (refine wo_lenL rfl rfl ?_) | refine wo_not rfl rfl ?_ | refine wo_ext (v := .bool _) rfl rfl rfl ?_ | refine wo_ext (v := .int _ _) rfl rfl rfl ?_ | refine wo_ext (v := .string _) rfl rfl rfl ?_ | refine wo_ext (v := .agg _) rfl rfl rfl ?_))
    refine wo_new (x := .row [.string ⟨#[]⟩, .slice none 0 0] 2 false false 67) (f := fun i => ptrOf i 0) rfl rfl ?_
    refine wo_st rfl rfl (new_get _ _) (vs := [.string x, .slice none 0 0]) rfl rfl rfl rfl ?_
    have k1 := (Keep.new σ (.row [.string ⟨#[]⟩, .slice none 0 0] 2 false false 67)).store (Nat.le_refl _) (some (.row [.string x, .slice none 0 0] 2 false false 67))
    generalize (({ σ.put σ.next (some (.row [.string ⟨#[]⟩, .slice none 0 0] 2 false false 67)) with next := σ.next + 1 } : St).put σ.next (some (.row [.string x, .slice none 0 0] 2 false false 67))) = σ1 at k1 ⊢
    (repeat (first | refine wo_mv (v := .bool _) rfl rfl ?_ | refine wo_mv (v := .int _ _) rfl rfl ?_ | refine wo_mv (v := .string _) rfl rfl ?_ | refine wo_mv (v := .pointer _) rfl rfl ?_ | refine wo_mv (v := .slice _ _ _) rfl rfl ?_ | refine wo_mv (v := .tuple _) rfl rfl ?_ | refine wo_mv (v := .agg _) rfl rfl ?_ | refine wo_pickT (v := .bool _) rfl rfl rfl ?_ | refine wo_pickF (v := .bool _) rfl rfl rfl ?_ | refine wo_skip rfl ?_ | (refine wo_fadr rfl rfl ?_) | (refine wo_nilck rfl rfl ?_) | (refine wo_lenS rfl rfl ?_) | (refine wo_lenL rfl rfl ?_) | refine wo_not rfl rfl ?_ | refine wo_ext (v := .bool _) rfl rfl rfl ?_ | refine wo_ext (v := .int _ _) rfl rfl rfl ?_ | refine wo_ext (v := .string _) rfl rfl rfl ?_ | refine wo_ext (v := .agg _) rfl rfl rfl ?_))
    refine wo_nil (wp_seq (wp_ops ?_))
    (repeat (first | refine wo_mv (v := .bool _) rfl rfl ?_ | refine wo_mv (v := .int _ _) rfl rfl ?_ | refine wo_mv (v := .string _) rfl rfl ?_ | refine wo_mv (v := .pointer _) rfl rfl ?_ | refine wo_mv (v := .slice _ _ _) rfl rfl ?_ | refine wo_mv (v := .tuple _) rfl rfl ?_ | refine wo_mv (v := .agg _) rfl rfl ?_ | refine wo_pickT (v := .bool _) rfl rfl rfl ?_ | refine wo_pickF (v := .bool _) rfl rfl rfl ?_ | refine wo_skip rfl ?_ | (refine wo_fadr rfl rfl ?_) | (refine wo_nilck rfl rfl ?_) | (refine wo_lenS rfl rfl ?_) | (refine wo_lenL rfl rfl ?_) | refine wo_not rfl rfl ?_ | refine wo_ext (v := .bool _) rfl rfl rfl ?_ | refine wo_ext (v := .int _ _) rfl rfl rfl ?_ | refine wo_ext (v := .string _) rfl rfl rfl ?_ | refine wo_ext (v := .agg _) rfl rfl rfl ?_))
    refine wo_str_ne rfl rfl rfl fun ta hta => ?_
    cases ta
    case false =>
      (repeat (first | refine wo_mv (v := .bool _) rfl rfl ?_ | refine wo_mv (v := .int _ _) rfl rfl ?_ | refine wo_mv (v := .string _) rfl rfl ?_ | refine wo_mv (v := .pointer _) rfl rfl ?_ | refine wo_mv (v := .slice _ _ _) rfl rfl ?_ | refine wo_mv (v := .tuple _) rfl rfl ?_ | refine wo_mv (v := .agg _) rfl rfl ?_ | refine wo_pickT (v := .bool _) rfl rfl rfl ?_ | refine wo_pickF (v := .bool _) rfl rfl rfl ?_ | refine wo_skip rfl ?_ | (refine wo_fadr rfl rfl ?_) | (refine wo_nilck rfl rfl ?_) | (refine wo_lenS rfl rfl ?_) | (refine wo_lenL rfl rfl ?_) | refine wo_not rfl rfl ?_ | refine wo_ext (v := .bool _) rfl rfl rfl ?_ | refine wo_ext (v := .int _ _) rfl rfl rfl ?_ | refine wo_ext (v := .string _) rfl rfl rfl ?_ | refine wo_ext (v := .agg _) rfl rfl rfl ?_))
      exact wo_nil (wp_false rfl (wp_skip ⟨k1, .inl (is_of hta), _, Env.four _ 0 1 2 3 rfl rfl rfl rfl⟩))
    (repeat (first | refine wo_mv (v := .bool _) rfl rfl ?_ | refine wo_mv (v := .int _ _) rfl rfl ?_ | refine wo_mv (v := .string _) rfl rfl ?_ | refine wo_mv (v := .pointer _) rfl rfl ?_ | refine wo_mv (v := .slice _ _ _) rfl rfl ?_ | refine wo_mv (v := .tuple _) rfl rfl ?_ | refine wo_mv (v := .agg _) rfl rfl ?_ | refine wo_pickT (v := .bool _) rfl rfl rfl ?_ | refine wo_pickF (v := .bool _) rfl rfl rfl ?_ | refine wo_skip rfl ?_ | (refine wo_fadr rfl rfl ?_) | (refine wo_nilck rfl rfl ?_) | (refine wo_lenS rfl rfl ?_) | (refine wo_lenL rfl rfl ?_) | refine wo_not rfl rfl ?_ | refine wo_ext (v := .bool _) rfl rfl rfl ?_ | refine wo_ext (v := .int _ _) rfl rfl rfl ?_ | refine wo_ext (v := .string _) rfl rfl rfl ?_ | refine wo_ext (v := .agg _) rfl rfl rfl ?_))
    cases tb
    case false =>
      refine wo_nil (wp_true rfl (wp_seq (wp_ops ?_)))
      (repeat (first | refine wo_mv (v := .bool _) rfl rfl ?_ | refine wo_mv (v := .int _ _) rfl rfl ?_ | refine wo_mv (v := .string _) rfl rfl ?_ | refine wo_mv (v := .pointer _) rfl rfl ?_ | refine wo_mv (v := .slice _ _ _) rfl rfl ?_ | refine wo_mv (v := .tuple _) rfl rfl ?_ | refine wo_mv (v := .agg _) rfl rfl ?_ | refine wo_pickT (v := .bool _) rfl rfl rfl ?_ | refine wo_pickF (v := .bool _) rfl rfl rfl ?_ | refine wo_skip rfl ?_ | (refine wo_fadr rfl rfl ?_) | (refine wo_nilck rfl rfl ?_) | (refine wo_lenS rfl rfl ?_) | (refine wo_lenL rfl rfl ?_) | refine wo_not rfl rfl ?_ | refine wo_ext (v := .bool _) rfl rfl rfl ?_ | refine wo_ext (v := .int _ _) rfl rfl rfl ?_ | refine wo_ext (v := .string _) rfl rfl rfl ?_ | refine wo_ext (v := .agg _) rfl rfl rfl ?_))
      exact wo_nil (wp_ret ⟨by simp, done 6 _ k1⟩)
    refine wo_nil (wp_false rfl (wp_skip ⟨k1, .inr ?_, _, Env.four _ 0 1 2 3 rfl rfl rfl rfl⟩))
    obtain ⟨q, hq⟩ := Option.isSome_iff_exists.1 htb
    exact par_key hq
  rintro ρ σ1 ⟨k1, hpar, ρb, rfl⟩
  refine wp_seq (wp_seq (wp_ops ?_))
  (repeat (first | refine wo_mv (v := .bool _) rfl rfl ?_ | refine wo_mv (v := .int _ _) rfl rfl ?_ | refine wo_mv (v := .string _) rfl rfl ?_ | refine wo_mv (v := .pointer _) rfl rfl ?_ | refine wo_mv (v := .slice _ _ _) rfl rfl ?_ | refine wo_mv (v := .tuple _) rfl rfl ?_ | refine wo_mv (v := .agg _) rfl rfl ?_ | refine wo_pickT (v := .bool _) rfl rfl rfl ?_ | refine wo_pickF (v := .bool _) rfl rfl rfl ?_ | refine wo_skip rfl ?_ | (refine wo_fadr rfl rfl ?_) | (refine wo_nilck rfl rfl ?_) | (refine wo_lenS rfl rfl ?_) | (refine wo_lenL rfl rfl ?_) | refine wo_not rfl rfl ?_ | refine wo_ext (v := .bool _) rfl rfl rfl ?_ | refine wo_ext (v := .int _ _) rfl rfl rfl ?_ | refine wo_ext (v := .string _) rfl rfl rfl ?_ | refine wo_ext (v := .agg _) rfl rfl rfl ?_))
  refine wo_call rfl (settings_ok codeS27) ?_
  (repeat (first | refine wo_mv (v := .bool _) rfl rfl ?_ | refine wo_mv (v := .int _ _) rfl rfl ?_ | refine wo_mv (v := .string _) rfl rfl ?_ | refine wo_mv (v := .pointer _) rfl rfl ?_ | refine wo_mv (v := .slice _ _ _) rfl rfl ?_ | refine wo_mv (v := .tuple _) rfl rfl ?_ | refine wo_mv (v := .agg _) rfl rfl ?_ | refine wo_pickT (v := .bool _) rfl rfl rfl ?_ | refine wo_pickF (v := .bool _) rfl rfl rfl ?_ | refine wo_skip rfl ?_ | (refine wo_fadr rfl rfl ?_) | (refine wo_nilck rfl rfl ?_) | (refine wo_lenS rfl rfl ?_) | (refine wo_lenL rfl rfl ?_) | refine wo_not rfl rfl ?_ | refine wo_ext (v := .bool _) rfl rfl rfl ?_ | refine wo_ext (v := .int _ _) rfl rfl rfl ?_ | refine wo_ext (v := .string _) rfl rfl rfl ?_ | refine wo_ext (v := .agg _) rfl rfl rfl ?_))
  refine wo_nil (wp_seq (wp_ops ?_))
  (repeat (first | refine wo_mv (v := .bool _) rfl rfl ?_ | refine wo_mv (v := .int _ _) rfl rfl ?_ | refine wo_mv (v := .string _) rfl rfl ?_ | refine wo_mv (v := .pointer _) rfl rfl ?_ | refine wo_mv (v := .slice _ _ _) rfl rfl ?_ | refine wo_mv (v := .tuple _) rfl rfl ?_ | refine wo_mv (v := .agg _) rfl rfl ?_ | refine wo_pickT (v := .bool _) rfl rfl rfl ?_ | refine wo_pickF (v := .bool _) rfl rfl rfl ?_ | refine wo_skip rfl ?_ | (refine wo_fadr rfl rfl ?_) | (refine wo_nilck rfl rfl ?_) | (refine wo_lenS rfl rfl ?_) | (refine wo_lenL rfl rfl ?_) | refine wo_not rfl rfl ?_ | refine wo_ext (v := .bool _) rfl rfl rfl ?_ | refine wo_ext (v := .int _ _) rfl rfl rfl ?_ | refine wo_ext (v := .string _) rfl rfl rfl ?_ | refine wo_ext (v := .agg _) rfl rfl rfl ?_))
  refine wo_val (v := .bool false) rfl rfl ?_
  refine wo_nil (wp_false rfl (wp_skip (wp_seq (wp_seq (wp_ops ?_)))))
  (repeat (first | refine wo_mv (v := .bool _) rfl rfl ?_ | refine wo_mv (v := .int _ _) rfl rfl ?_ | refine wo_mv (v := .string _) rfl rfl ?_ | refine wo_mv (v := .pointer _) rfl rfl ?_ | refine wo_mv (v := .slice _ _ _) rfl rfl ?_ | refine wo_mv (v := .tuple _) rfl rfl ?_ | refine wo_mv (v := .agg _) rfl rfl ?_ | refine wo_pickT (v := .bool _) rfl rfl rfl ?_ | refine wo_pickF (v := .bool _) rfl rfl rfl ?_ | refine wo_skip rfl ?_ | (refine wo_fadr rfl rfl ?_) | (refine wo_nilck rfl rfl ?_) | (refine wo_lenS rfl rfl ?_) | (refine wo_lenL rfl rfl ?_) | refine wo_not rfl rfl ?_ | refine wo_ext (v := .bool _) rfl rfl rfl ?_ | refine wo_ext (v := .int _ _) rfl rfl rfl ?_ | refine wo_ext (v := .string _) rfl rfl rfl ?_ | refine wo_ext (v := .agg _) rfl rfl rfl ?_))
  obtain ⟨m, hm⟩ : ∃ m, Sheet.Ends s p.data.toList m := by
    rcases hpar with h | h
    · rw [h]; exact ⟨0, .nil⟩
    · exact hI.ends _ h
  obtain ⟨_, σq, hc, hσ, b, rfl, hb⟩ := above_ok codeS28 (k1.sht h) n p hm
  rw [hσ] at hc
  refine wo_call rfl hc ?_
  cases b
  case true =>
    refine wo_nil (wp_true rfl (wp_seq (wp_ops ?_)))
    (repeat (first | refine wo_mv (v := .bool _) rfl rfl ?_ | refine wo_mv (v := .int _ _) rfl rfl ?_ | refine wo_mv (v := .string _) rfl rfl ?_ | refine wo_mv (v := .pointer _) rfl rfl ?_ | refine wo_mv (v := .slice _ _ _) rfl rfl ?_ | refine wo_mv (v := .tuple _) rfl rfl ?_ | refine wo_mv (v := .agg _) rfl rfl ?_ | refine wo_pickT (v := .bool _) rfl rfl rfl ?_ | refine wo_pickF (v := .bool _) rfl rfl rfl ?_ | refine wo_skip rfl ?_ | (refine wo_fadr rfl rfl ?_) | (refine wo_nilck rfl rfl ?_) | (refine wo_lenS rfl rfl ?_) | (refine wo_lenL rfl rfl ?_) | refine wo_not rfl rfl ?_ | refine wo_ext (v := .bool _) rfl rfl rfl ?_ | refine wo_ext (v := .int _ _) rfl rfl rfl ?_ | refine wo_ext (v := .string _) rfl rfl rfl ?_ | refine wo_ext (v := .agg _) rfl rfl rfl ?_))
    exact wo_nil (wp_ret ⟨by simp, done 10 _ k1⟩)
  have hfree := hb rfl
  refine wo_nil (wp_false rfl (wp_skip (wp_cut (fun ρ σ2 => Keep σ σ2 ∧ (n.data.toList ∈ keys s ∨ s.length < 32) ∧ ∃ ρb : Env, ρ = (((ρb.upd (some 0) (ptrOf sp 0)).upd (some 1) (.string n)).upd (some 2) (.string p)).upd (some 3) (.slice none 0 0)) (wp_seq (wp_ops ?_)) ?_)))
  · (repeat (first | refine wo_mv (v := .bool _) rfl rfl ?_ | refine wo_mv (v := .int _ _) rfl rfl ?_ | refine wo_mv (v := .string _) rfl rfl ?_ | refine wo_mv (v := .pointer _) rfl rfl ?_ | refine wo_mv (v := .slice _ _ _) rfl rfl ?_ | refine wo_mv (v := .tuple _) rfl rfl ?_ | refine wo_mv (v := .agg _) rfl rfl ?_ | refine wo_pickT (v := .bool _) rfl rfl rfl ?_ | refine wo_pickF (v := .bool _) rfl rfl rfl ?_ | refine wo_skip rfl ?_ | (refine wo_fadr rfl rfl ?_) | (refine wo_nilck rfl rfl ?_) | (refine wo_lenS rfl rfl ?_) | (refine wo_lenL rfl rfl ?_) | refine wo_not rfl rfl ?_ | refine wo_ext (v := .bool _) rfl rfl rfl ?_ | refine wo_ext (v := .int _ _) rfl rfl rfl ?_ | refine wo_ext (v := .string _) rfl rfl rfl ?_ | refine wo_ext (v := .agg _) rfl rfl rfl ?_))
    refine wo_ld (v := .map (some r)) rfl rfl (rowOf_of (k1.sht h).hp) rfl ?_
    (repeat (first | refine wo_mv (v := .bool _) rfl rfl ?_ | refine wo_mv (v := .int _ _) rfl rfl ?_ | refine wo_mv (v := .string _) rfl rfl ?_ | refine wo_mv (v := .pointer _) rfl rfl ?_ | refine wo_mv (v := .slice _ _ _) rfl rfl ?_ | refine wo_mv (v := .tuple _) rfl rfl ?_ | refine wo_mv (v := .agg _) rfl rfl ?_ | refine wo_pickT (v := .bool _) rfl rfl rfl ?_ | refine wo_pickF (v := .bool _) rfl rfl rfl ?_ | refine wo_skip rfl ?_ | (refine wo_fadr rfl rfl ?_) | (refine wo_nilck rfl rfl ?_) | (refine wo_lenS rfl rfl ?_) | (refine wo_lenL rfl rfl ?_) | refine wo_not rfl rfl ?_ | refine wo_ext (v := .bool _) rfl rfl rfl ?_ | refine wo_ext (v := .int _ _) rfl rfl rfl ?_ | refine wo_ext (v := .string _) rfl rfl rfl ?_ | refine wo_ext (v := .agg _) rfl rfl rfl ?_))
    refine wo_lkp2 rfl rfl rfl (k1.sht h).hm fun x tb htb => ?_
    (repeat (first | refine wo_mv (v := .bool _) rfl rfl ?_ | refine wo_mv (v := .int _ _) rfl rfl ?_ | refine wo_mv (v := .string _) rfl rfl ?_ | refine wo_mv (v := .pointer _) rfl rfl ?_ | refine wo_mv (v := .slice _ _ _) rfl rfl ?_ | refine wo_mv (v := .tuple _) rfl rfl ?_ | refine wo_mv (v := .agg _) rfl rfl ?_ | refine wo_pickT (v := .bool _) rfl rfl rfl ?_ | refine wo_pickF (v := .bool _) rfl rfl rfl ?_ | refine wo_skip rfl ?_ | (refine wo_fadr rfl rfl ?_) | (refine wo_nilck rfl rfl ?_) | (refine wo_lenS rfl rfl ?_) | (refine wo_lenL rfl rfl ?_) | refine wo_not rfl rfl ?_ | refine wo_ext (v := .bool _) rfl rfl rfl ?_ | refine wo_ext (v := .int _ _) rfl rfl rfl ?_ | refine wo_ext (v := .string _) rfl rfl rfl ?_ | refine wo_ext (v := .agg _) rfl rfl rfl ?_))
    refine wo_new (x := .row [.string ⟨#[]⟩, .slice none 0 0] 2 false false 67) (f := fun i => ptrOf i 0) rfl rfl ?_
    refine wo_st rfl rfl (new_get _ _) (vs := [.string x, .slice none 0 0]) rfl rfl rfl rfl ?_
    have k2 := k1.trans ((Keep.new σ1 (.row [.string ⟨#[]⟩, .slice none 0 0] 2 false false 67)).store (Nat.le_refl _) (some (.row [.string x, .slice none 0 0] 2 false false 67)))
    generalize (({ σ1.put σ1.next (some (.row [.string ⟨#[]⟩, .slice none 0 0] 2 false false 67)) with next := σ1.next + 1 } : St).put σ1.next (some (.row [.string x, .slice none 0 0] 2 false false 67))) = σ2 at k2 ⊢
    (repeat (first | refine wo_mv (v := .bool _) rfl rfl ?_ | refine wo_mv (v := .int _ _) rfl rfl ?_ | refine wo_mv (v := .string _) rfl rfl ?_ | refine wo_mv (v := .pointer _) rfl rfl ?_ | refine wo_mv (v := .slice _ _ _) rfl rfl ?_ | refine wo_mv (v := .tuple _) rfl rfl ?_ | refine wo_mv (v := .agg _) rfl rfl ?_ | refine wo_pickT (v := .bool _) rfl rfl rfl ?_ | refine wo_pickF (v := .bool _) rfl rfl rfl ?_ | refine wo_skip rfl ?_ | (refine wo_fadr rfl rfl ?_) | (refine wo_nilck rfl rfl ?_) | (refine wo_lenS rfl rfl ?_) | (refine wo_lenL rfl rfl ?_) | refine wo_not rfl rfl ?_ | refine wo_ext (v := .bool _) rfl rfl rfl ?_ | refine wo_ext (v := .int _ _) rfl rfl rfl ?_ | refine wo_ext (v := .string _) rfl rfl rfl ?_ | refine wo_ext (v := .agg _) rfl rfl rfl ?_))
    refine wo_nil (wp_seq (wp_ops ?_))
    (repeat (first | refine wo_mv (v := .bool _) rfl rfl ?_ | refine wo_mv (v := .int _ _) rfl rfl ?_ | refine wo_mv (v := .string _) rfl rfl ?_ | refine wo_mv (v := .pointer _) rfl rfl ?_ | refine wo_mv (v := .slice _ _ _) rfl rfl ?_ | refine wo_mv (v := .tuple _) rfl rfl ?_ | refine wo_mv (v := .agg _) rfl rfl ?_ | refine wo_pickT (v := .bool _) rfl rfl rfl ?_ | refine wo_pickF (v := .bool _) rfl rfl rfl ?_ | refine wo_skip rfl ?_ | (refine wo_fadr rfl rfl ?_) | (refine wo_nilck rfl rfl ?_) | (refine wo_lenS rfl rfl ?_) | (refine wo_lenL rfl rfl ?_) | refine wo_not rfl rfl ?_ | refine wo_ext (v := .bool _) rfl rfl rfl ?_ | refine wo_ext (v := .int _ _) rfl rfl rfl ?_ | refine wo_ext (v := .string _) rfl rfl rfl ?_ | refine wo_ext (v := .agg _) rfl rfl rfl ?_))
    cases tb
    case true =>
      (repeat (first | refine wo_mv (v := .bool _) rfl rfl ?_ | refine wo_mv (v := .int _ _) rfl rfl ?_ | refine wo_mv (v := .string _) rfl rfl ?_ | refine wo_mv (v := .pointer _) rfl rfl ?_ | refine wo_mv (v := .slice _ _ _) rfl rfl ?_ | refine wo_mv (v := .tuple _) rfl rfl ?_ | refine wo_mv (v := .agg _) rfl rfl ?_ | refine wo_pickT (v := .bool _) rfl rfl rfl ?_ | refine wo_pickF (v := .bool _) rfl rfl rfl ?_ | refine wo_skip rfl ?_ | (refine wo_fadr rfl rfl ?_) | (refine wo_nilck rfl rfl ?_) | (refine wo_lenS rfl rfl ?_) | (refine wo_lenL rfl rfl ?_) | refine wo_not rfl rfl ?_ | refine wo_ext (v := .bool _) rfl rfl rfl ?_ | refine wo_ext (v := .int _ _) rfl rfl rfl ?_ | refine wo_ext (v := .string _) rfl rfl rfl ?_ | refine wo_ext (v := .agg _) rfl rfl rfl ?_))
      refine wo_nil (wp_false rfl (wp_skip ⟨k2, .inl ?_, _, Env.four _ 0 1 2 3 rfl rfl rfl rfl⟩))
      obtain ⟨q, hq⟩ := Option.isSome_iff_exists.1 htb
      exact par_key hq
    (repeat (first | refine wo_mv (v := .bool _) rfl rfl ?_ | refine wo_mv (v := .int _ _) rfl rfl ?_ | refine wo_mv (v := .string _) rfl rfl ?_ | refine wo_mv (v := .pointer _) rfl rfl ?_ | refine wo_mv (v := .slice _ _ _) rfl rfl ?_ | refine wo_mv (v := .tuple _) rfl rfl ?_ | refine wo_mv (v := .agg _) rfl rfl ?_ | refine wo_pickT (v := .bool _) rfl rfl rfl ?_ | refine wo_pickF (v := .bool _) rfl rfl rfl ?_ | refine wo_skip rfl ?_ | (refine wo_fadr rfl rfl ?_) | (refine wo_nilck rfl rfl ?_) | (refine wo_lenS rfl rfl ?_) | (refine wo_lenL rfl rfl ?_) | refine wo_not rfl rfl ?_ | refine wo_ext (v := .bool _) rfl rfl rfl ?_ | refine wo_ext (v := .int _ _) rfl rfl rfl ?_ | refine wo_ext (v := .string _) rfl rfl rfl ?_ | refine wo_ext (v := .agg _) rfl rfl rfl ?_))
    refine wo_ld (v := .map (some r)) rfl rfl (rowOf_of (k2.sht h).hp) rfl ?_
    refine wo_lenM rfl rfl (k2.sht h).hm ?_
    refine wo_cmp rfl rfl fun t ht => ?_
    (repeat (first | refine wo_mv (v := .bool _) rfl rfl ?_ | refine wo_mv (v := .int _ _) rfl rfl ?_ | refine wo_mv (v := .string _) rfl rfl ?_ | refine wo_mv (v := .pointer _) rfl rfl ?_ | refine wo_mv (v := .slice _ _ _) rfl rfl ?_ | refine wo_mv (v := .tuple _) rfl rfl ?_ | refine wo_mv (v := .agg _) rfl rfl ?_ | refine wo_pickT (v := .bool _) rfl rfl rfl ?_ | refine wo_pickF (v := .bool _) rfl rfl rfl ?_ | refine wo_skip rfl ?_ | (refine wo_fadr rfl rfl ?_) | (refine wo_nilck rfl rfl ?_) | (refine wo_lenS rfl rfl ?_) | (refine wo_lenL rfl rfl ?_) | refine wo_not rfl rfl ?_ | refine wo_ext (v := .bool _) rfl rfl rfl ?_ | refine wo_ext (v := .int _ _) rfl rfl rfl ?_ | refine wo_ext (v := .string _) rfl rfl rfl ?_ | refine wo_ext (v := .agg _) rfl rfl rfl ?_))
    cases t
    case true =>
      refine wo_nil (wp_true rfl (wp_seq (wp_ops ?_)))
      (repeat (first | refine wo_mv (v := .bool _) rfl rfl ?_ | refine wo_mv (v := .int _ _) rfl rfl ?_ | refine wo_mv (v := .string _) rfl rfl ?_ | refine wo_mv (v := .pointer _) rfl rfl ?_ | refine wo_mv (v := .slice _ _ _) rfl rfl ?_ | refine wo_mv (v := .tuple _) rfl rfl ?_ | refine wo_mv (v := .agg _) rfl rfl ?_ | refine wo_pickT (v := .bool _) rfl rfl rfl ?_ | refine wo_pickF (v := .bool _) rfl rfl rfl ?_ | refine wo_skip rfl ?_ | (refine wo_fadr rfl rfl ?_) | (refine wo_nilck rfl rfl ?_) | (refine wo_lenS rfl rfl ?_) | (refine wo_lenL rfl rfl ?_) | refine wo_not rfl rfl ?_ | refine wo_ext (v := .bool _) rfl rfl rfl ?_ | refine wo_ext (v := .int _ _) rfl rfl rfl ?_ | refine wo_ext (v := .string _) rfl rfl rfl ?_ | refine wo_ext (v := .agg _) rfl rfl rfl ?_))
      exact wo_nil (wp_ret ⟨by simp, done 8 _ k2⟩)
    refine wo_nil (wp_false rfl (wp_skip ⟨k2, .inr ?_, _, Env.four _ 0 1 2 3 rfl rfl rfl rfl⟩))
    have := of_decide_eq_false ht
    simp only [esOf, List.length_map] at this
    omega
  rintro ρ σ2 ⟨k2, hroom, ρb, rfl⟩
  refine wp_seq (wp_drawn ?_)
  have k3 := k2.trans (Keep.bump σ2 10)
  show Wr tab1 σ2.next 0 _ _ { σ2 with next := σ2.next + 10 } _
  generalize ({ σ2 with next := σ2.next + 10 } : St) = σ3 at k3 ⊢
  have h3 := k3.sht h
  refine wr_pure (.pointer (some ⟨sp, 0, none⟩)) rfl rfl ?_
  refine wr_pure (.pointer (some ⟨sp, 0, none⟩)) rfl rfl ?_
  refine wr_pure (.pointer (some ⟨sp, 0, none⟩)) rfl rfl ?_
  refine wr_read (.map (some r)) rfl rfl (ld_step rfl (rowOf_of h3.hp) rfl) ?_
  refine wr_pure (.string n) rfl rfl ?_
  refine wr_pure (.string p) rfl rfl ?_
  refine wr_pure (.slice none 0 0) rfl rfl ?_
  refine wr_str (.slice none 0 0) rfl rfl rfl (σ' := σ3) (sclone_ok codeS29) ?_
  refine wr_pure (.agg #[.string p, .slice none 0 0]) rfl rfl ?_
  refine wr_str undefV rfl rfl rfl (σ' := σ3.put r (some (.map (esOf (putP n.data.toList p.data.toList s))))) ?_ ?_
  · exact mput_ev rfl h3.hm rfl (put_es n p s)
  refine wr_nil ⟨?_, ?_⟩
  · refine chk_skip rfl (chk_skip rfl (chk_skip rfl (chk_look rfl rfl (chk_skip rfl (chk_skip rfl (chk_skip rfl (chk_look rfl ?_ (chk_skip rfl (chk_free rfl ?_ rfl)))))))))
    · simp only [List.all_cons, List.all_nil, Bool.and_true, Bool.or_eq_true]
      exact .inr (okP_still rfl rfl (ld_step rfl (rowOf_of h3.hp) rfl))
    · show ∀ p ∈ [7, 3], (511).testBit p = true
      decide
  · refine wp_seq (wp_ops ?_)
    (repeat (first | refine wo_mv (v := .bool _) rfl rfl ?_ | refine wo_mv (v := .int _ _) rfl rfl ?_ | refine wo_mv (v := .string _) rfl rfl ?_ | refine wo_mv (v := .pointer _) rfl rfl ?_ | refine wo_mv (v := .slice _ _ _) rfl rfl ?_ | refine wo_mv (v := .tuple _) rfl rfl ?_ | refine wo_mv (v := .agg _) rfl rfl ?_ | refine wo_pickT (v := .bool _) rfl rfl rfl ?_ | refine wo_pickF (v := .bool _) rfl rfl rfl ?_ | refine wo_skip rfl ?_ | (refine wo_fadr rfl rfl ?_) | (refine wo_nilck rfl rfl ?_) | (refine wo_lenS rfl rfl ?_) | (refine wo_lenL rfl rfl ?_) | refine wo_not rfl rfl ?_ | refine wo_ext (v := .bool _) rfl rfl rfl ?_ | refine wo_ext (v := .int _ _) rfl rfl rfl ?_ | refine wo_ext (v := .string _) rfl rfl rfl ?_ | refine wo_ext (v := .agg _) rfl rfl rfl ?_))
    refine wo_nil (wp_ret ⟨by simp, [.int .i64 0], rfl, ⟨0, rfl⟩, (k3.but r).trans (KeepBut.put σ3 r _), _, ⟨?_, put_get _ _ _, h3.lp, h3.lr⟩, hI.put ?_ ?_ hpar hfree hroom⟩)
    · exact (St.get_put σ3 r sp _).trans ((if_neg h3.ne).trans h3.hp)
    · intro e
      have : n.data.toList.length = n.size := by simp
      rw [e] at this
      simp at this
      omega
    · have : n.data.toList.length = n.size := by simp
      omega

end Go.Eng
