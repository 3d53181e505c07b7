/-
  What the sheet's functions do to a sheet, in the interpreter's heap.
-/
import Derived.Test.YtgbcpfeopaidmaaSheetI
import Derived.Test.YtgbcpfeopaidmaaSheet
import Derived.Laws.Strings
set_option linter.all false
namespace Go.Eng
open Go Go.Eng.Sheet

theorem not_of {p : Prop} [Decidable p] (h : (!decide p) = true) : ¬ p := by
  intro hp
  rw [decide_eq_true hp] at h
  cases h
theorem is_of {p : Prop} [Decidable p] (h : (!decide p) = false) : p := by
  by_cases hp : p
  · exact hp
  · rw [decide_eq_false hp] at h; cases h

def encK (k : List UInt8) : ByteArray := ⟨k.toArray⟩
def esOf (s : Sh) : List (Value × Value) := s.map fun e => (.string (encK e.1), .agg #[.string (encK e.2), .slice none 0 0])

theorem encK_data (n : ByteArray) : encK n.data.toList = n := by cases n; rfl
theorem data_encK (k : List UInt8) : (encK k).data.toList = k := rfl
theorem encK_eq (n : ByteArray) (k : List UInt8) : (n == encK k) = decide (n.data.toList = k) := by
  have hd : (n == encK k) = (n.data == (encK k).data) := rfl
  rw [hd]
  by_cases h : n.data.toList = k
  · subst h; rw [encK_data]; simp
  · have : n.data ≠ (encK k).data := by intro e; exact h (by rw [e]; rfl)
    simp [this, h]

theorem find_es (n : ByteArray) : ∀ s : Sh, findA (.string n) (esOf s) = some ((parOf s n.data.toList).map fun p => .agg #[.string (encK p), .slice none 0 0])
  | [] => rfl
  | (a, p) :: s => by
    have ih := find_es n s
    simp only [esOf, List.map_cons, findA, keyEq, encK_eq, parOf] at ih ⊢
    by_cases h : n.data.toList = a
    · simp [h]
    · simp only [h, decide_false, if_false]
      exact ih
theorem put_es (n p : ByteArray) : ∀ s : Sh, putA (.string n) (.agg #[.string p, .slice none 0 0]) (esOf s) = some (esOf (putP n.data.toList p.data.toList s))
  | [] => by simp [esOf, putA, putP, encK_data]
  | (a, q) :: s => by
    have ih := put_es n p s
    simp only [esOf, List.map_cons, putA, keyEq, encK_eq, putP] at ih ⊢
    by_cases h : n.data.toList = a
    · subst h; simp [encK_data]
    · simp only [h, decide_false, if_false, List.map_cons]
      rw [ih]; rfl
theorem str_ne (x y : ByteArray) : strA .neq x y = some (.bool (!decide (x.data.toList = y.data.toList))) := by
  simp only [strA, ByteArray.toList_eq]
  congr 3
  by_cases h : x.data.toList = y.data.toList
  · simp [h]
  · rw [beq_eq_false_iff_ne.2 h, decide_eq_false h]

structure Sht (σ : St) (sp r : Nat) (s : Sh) : Prop where
  hp : σ.get sp = some (.row [.map (some r)] 1 false false 0)
  hm : σ.get r = some (.map (esOf s))
  lp : sp < σ.next
  lr : r < σ.next
theorem Sht.ne {σ : St} {sp r : Nat} {s : Sh} (h : Sht σ sp r s) : sp ≠ r := by
  rintro rfl
  have := h.hp
  rw [h.hm] at this
  cases this
theorem Keep.sht {σ σ' : St} {sp r : Nat} {s : Sh} (k : Keep σ σ') (h : Sht σ sp r s) : Sht σ' sp r s :=
  ⟨by rw [k.get _ h.lp]; exact h.hp, by rw [k.get _ h.lr]; exact h.hm, Nat.lt_of_lt_of_le h.lp k.nx, Nat.lt_of_lt_of_le h.lr k.nx⟩

section
variable {T : Table}
theorem wo_not {d : Option Nat} {g : Option (Nat × Bool)} {a : Arg} {l : List OpI} {ρ : Env} {σ : St} {R : Env → St → Prop} {b : Bool} (hg : guardA ρ g = some true) (ha : a.get ρ = .bool b) (h : Wo T l (ρ.upd d (.bool (!b))) σ R) : Wo T (⟨d, g, .un .not a⟩ :: l) ρ σ R :=
  wo_val hg (by simp only [step, evP, unA, ha]) h
theorem wo_ext {d : Option Nat} {g : Option (Nat × Bool)} {a : Arg} {i : Nat} {l : List OpI} {ρ : Env} {σ : St} {R : Env → St → Prop} {vs : Array Value} {v : Value} (hg : guardA ρ g = some true) (ha : a.get ρ = .tuple vs) (hv : vs.toList[i]? = some v) (h : Wo T l (ρ.upd d v) σ R) : Wo T (⟨d, g, .ext a i⟩ :: l) ρ σ R :=
  wo_val hg (by simp only [step, evP, ha, hv]) h
theorem wo_nilck {d : Option Nat} {g : Option (Nat × Bool)} {a : Arg} {l : List OpI} {ρ : Env} {σ : St} {R : Env → St → Prop} {x : Addr} (hg : guardA ρ g = some true) (ha : a.get ρ = .pointer (some x)) (h : Wo T l (ρ.upd d (.pointer (some x))) σ R) : Wo T (⟨d, g, .nilck a⟩ :: l) ρ σ R :=
  wo_val hg (by simp only [step, evP, ha]) h
theorem wo_str_ne {d : Option Nat} {g : Option (Nat × Bool)} {a b : Arg} {l : List OpI} {ρ : Env} {σ : St} {R : Env → St → Prop} {x y : ByteArray} (hg : guardA ρ g = some true) (ha : a.get ρ = .string x) (hb : b.get ρ = .string y) (h : ∀ t, (!decide (x.data.toList = y.data.toList)) = t → Wo T l (ρ.upd d (.bool t)) σ R) : Wo T (⟨d, g, .bin .neq .prim a b⟩ :: l) ρ σ R :=
  wo_cmp hg (by simp only [evP, ha, hb, binA, str_ne]) h
theorem wo_lkp {d : Option Nat} {g : Option (Nat × Bool)} {zero : Value} {ok : Bool} {m k : Arg} {l : List OpI} {ρ : Env} {σ : St} {R : Env → St → Prop} {r : Nat} {s : Sh} {n : ByteArray} {v : Value} (hg : guardA ρ g = some true) (hm : m.get ρ = .map (some r)) (hk : k.get ρ = .string n) (hs : σ.get r = some (.map (esOf s)))
    (hv : (match parOf s n.data.toList with | some p => (if ok then .tuple #[.agg #[.string (encK p), .slice none 0 0], .bool true] else .agg #[.string (encK p), .slice none 0 0] : Value) | none => (if ok then .tuple #[zero, .bool false] else zero)) = v) (h : Wo T l (ρ.upd d v) σ R) : Wo T (⟨d, g, .lkp true zero ok m k⟩ :: l) ρ σ R := by
  refine wo_val hg ?_ h
  simp only [step, evP, evR, hm, hk, keyOk, mapOf_of hs, find_es, if_true]
  cases hp : parOf s n.data.toList with
  | none => rw [hp] at hv; simp only at hv; rw [← hv]; rfl
  | some p => rw [hp] at hv; simp only at hv; rw [← hv]; rfl
theorem wo_st {d : Option Nat} {g : Option (Nat × Bool)} {n : Nat} {a x : Arg} {l : List OpI} {ρ : Env} {σ : St} {R : Env → St → Prop} {k e ec : Nat} {cs vs : List Value} (hg : guardA ρ g = some true) (ha : a.get ρ = .pointer (some ⟨k, 0, none⟩)) (hr : σ.get k = some (.row cs e false false ec)) (hx : cellsOf (x.get ρ) = vs) (hn : vs.length = n) (hc : cs.length = n) (hone : vs.all (·.oneCell') = true)
    (h : Wo T l (ρ.upd d undefV) (σ.put k (some (.row vs e false false ec))) R) : Wo T (⟨d, g, .st n a x⟩ :: l) ρ σ R := by
  refine wo_str hg ?_ h
  have hsp : spliceL cs 0 vs = vs := by simp only [spliceL, List.take_zero, List.nil_append, Nat.zero_add]; rw [List.drop_of_length_le (by omega)]; simp
  simp only [step, evP, evR, evM, evW, ha, hr, hx, hsp]
  rw [if_pos ⟨trivial, hn, by omega, hone⟩]
  rfl
end


variable {T : Table}

theorem none_ok (hT : T 25 = some (.code irS25)) {σ : St} {sp r : Nat} {s : Sh} (h : Sht σ sp r s) : clT T (.fn 25) [ptrOf sp 0] σ = some (.bool false, σ) := by
  suffices h : ∃ v σ', clT T (.fn 25) [ptrOf sp 0] σ = some (v, σ') ∧ v = .bool false ∧ σ' = σ by
    obtain ⟨v, σ', h1, rfl, rfl⟩ := h; exact h1
  refine wp_code hT rfl ?_
  refine wp_seq (wp_ops ?_)
  (repeat (first | refine wo_mv (v := .bool _) rfl rfl ?_ | refine wo_mv (v := .int _ _) rfl rfl ?_ | refine wo_mv (v := .string _) rfl rfl ?_ | refine wo_mv (v := .pointer _) rfl rfl ?_ | refine wo_mv (v := .slice _ _ _) rfl rfl ?_ | refine wo_mv (v := .tuple _) rfl rfl ?_ | refine wo_mv (v := .agg _) rfl rfl ?_ | refine wo_pickT (v := .bool _) rfl rfl rfl ?_ | refine wo_pickF (v := .bool _) rfl rfl rfl ?_ | refine wo_skip rfl ?_ | (refine wo_fadr rfl rfl ?_) | (refine wo_nilck rfl rfl ?_) | (refine wo_lenS rfl rfl ?_) | (refine wo_lenL rfl rfl ?_) | refine wo_not rfl rfl ?_ | refine wo_ext (v := .bool _) rfl rfl rfl ?_ | refine wo_ext (v := .int _ _) rfl rfl rfl ?_ | refine wo_ext (v := .string _) rfl rfl rfl ?_ | refine wo_ext (v := .agg _) rfl rfl rfl ?_))
  refine wo_nil (wp_seq (wp_ops ?_))
  (repeat (first | refine wo_mv (v := .bool _) rfl rfl ?_ | refine wo_mv (v := .int _ _) rfl rfl ?_ | refine wo_mv (v := .string _) rfl rfl ?_ | refine wo_mv (v := .pointer _) rfl rfl ?_ | refine wo_mv (v := .slice _ _ _) rfl rfl ?_ | refine wo_mv (v := .tuple _) rfl rfl ?_ | refine wo_mv (v := .agg _) rfl rfl ?_ | refine wo_pickT (v := .bool _) rfl rfl rfl ?_ | refine wo_pickF (v := .bool _) rfl rfl rfl ?_ | refine wo_skip rfl ?_ | (refine wo_fadr rfl rfl ?_) | (refine wo_nilck rfl rfl ?_) | (refine wo_lenS rfl rfl ?_) | (refine wo_lenL rfl rfl ?_) | refine wo_not rfl rfl ?_ | refine wo_ext (v := .bool _) rfl rfl rfl ?_ | refine wo_ext (v := .int _ _) rfl rfl rfl ?_ | refine wo_ext (v := .string _) rfl rfl rfl ?_ | refine wo_ext (v := .agg _) rfl rfl rfl ?_))
  refine wo_val (v := .bool false) rfl rfl ?_
  (repeat (first | refine wo_mv (v := .bool _) rfl rfl ?_ | refine wo_mv (v := .int _ _) rfl rfl ?_ | refine wo_mv (v := .string _) rfl rfl ?_ | refine wo_mv (v := .pointer _) rfl rfl ?_ | refine wo_mv (v := .slice _ _ _) rfl rfl ?_ | refine wo_mv (v := .tuple _) rfl rfl ?_ | refine wo_mv (v := .agg _) rfl rfl ?_ | refine wo_pickT (v := .bool _) rfl rfl rfl ?_ | refine wo_pickF (v := .bool _) rfl rfl rfl ?_ | refine wo_skip rfl ?_ | (refine wo_fadr rfl rfl ?_) | (refine wo_nilck rfl rfl ?_) | (refine wo_lenS rfl rfl ?_) | (refine wo_lenL rfl rfl ?_) | refine wo_not rfl rfl ?_ | refine wo_ext (v := .bool _) rfl rfl rfl ?_ | refine wo_ext (v := .int _ _) rfl rfl rfl ?_ | refine wo_ext (v := .string _) rfl rfl rfl ?_ | refine wo_ext (v := .agg _) rfl rfl rfl ?_))
  refine wo_ld (v := .map (some r)) rfl rfl (rowOf_of h.hp) rfl ?_
  refine wo_val (v := .bool false) rfl rfl ?_
  (repeat (first | refine wo_mv (v := .bool _) rfl rfl ?_ | refine wo_mv (v := .int _ _) rfl rfl ?_ | refine wo_mv (v := .string _) rfl rfl ?_ | refine wo_mv (v := .pointer _) rfl rfl ?_ | refine wo_mv (v := .slice _ _ _) rfl rfl ?_ | refine wo_mv (v := .tuple _) rfl rfl ?_ | refine wo_mv (v := .agg _) rfl rfl ?_ | refine wo_pickT (v := .bool _) rfl rfl rfl ?_ | refine wo_pickF (v := .bool _) rfl rfl rfl ?_ | refine wo_skip rfl ?_ | (refine wo_fadr rfl rfl ?_) | (refine wo_nilck rfl rfl ?_) | (refine wo_lenS rfl rfl ?_) | (refine wo_lenL rfl rfl ?_) | refine wo_not rfl rfl ?_ | refine wo_ext (v := .bool _) rfl rfl rfl ?_ | refine wo_ext (v := .int _ _) rfl rfl rfl ?_ | refine wo_ext (v := .string _) rfl rfl rfl ?_ | refine wo_ext (v := .agg _) rfl rfl rfl ?_))
  exact wo_nil (wp_ret ⟨by simp, [.bool false], rfl, rfl, rfl⟩)

theorem settings_ok (hT : T 27 = some (.code irS27)) {σ : St} : clT T (.fn 27) [.slice none 0 0] σ = some (.int .i64 0, σ) := by
  suffices h : ∃ v σ', clT T (.fn 27) [.slice none 0 0] σ = some (v, σ') ∧ v = .int .i64 0 ∧ σ' = σ by
    obtain ⟨v, σ', h1, rfl, rfl⟩ := h; exact h1
  refine wp_code hT rfl ?_
  exact wp_run 5 (r := (.ret, _, σ)) rfl ⟨by simp, [.int .i64 0], rfl, rfl, rfl⟩

theorem sclone_ok (hT : T 29 = some (.code irS29)) {σ : St} : clT T (.fn 29) [.slice none 0 0] σ = some (.slice none 0 0, σ) := by
  suffices h : ∃ v σ', clT T (.fn 29) [.slice none 0 0] σ = some (v, σ') ∧ v = .slice none 0 0 ∧ σ' = σ by
    obtain ⟨v, σ', h1, rfl, rfl⟩ := h; exact h1
  refine wp_code hT rfl ?_
  refine wp_seq (wp_ops ?_)
  (repeat (first | refine wo_mv (v := .bool _) rfl rfl ?_ | refine wo_mv (v := .int _ _) rfl rfl ?_ | refine wo_mv (v := .string _) rfl rfl ?_ | refine wo_mv (v := .pointer _) rfl rfl ?_ | refine wo_mv (v := .slice _ _ _) rfl rfl ?_ | refine wo_mv (v := .tuple _) rfl rfl ?_ | refine wo_mv (v := .agg _) rfl rfl ?_ | refine wo_pickT (v := .bool _) rfl rfl rfl ?_ | refine wo_pickF (v := .bool _) rfl rfl rfl ?_ | refine wo_skip rfl ?_ | (refine wo_fadr rfl rfl ?_) | (refine wo_nilck rfl rfl ?_) | (refine wo_lenS rfl rfl ?_) | (refine wo_lenL rfl rfl ?_) | refine wo_not rfl rfl ?_ | refine wo_ext (v := .bool _) rfl rfl rfl ?_ | refine wo_ext (v := .int _ _) rfl rfl rfl ?_ | refine wo_ext (v := .string _) rfl rfl rfl ?_ | refine wo_ext (v := .agg _) rfl rfl rfl ?_))
  refine wo_nil (wp_seq (wp_seq (wp_ops ?_)))
  (repeat (first | refine wo_mv (v := .bool _) rfl rfl ?_ | refine wo_mv (v := .int _ _) rfl rfl ?_ | refine wo_mv (v := .string _) rfl rfl ?_ | refine wo_mv (v := .pointer _) rfl rfl ?_ | refine wo_mv (v := .slice _ _ _) rfl rfl ?_ | refine wo_mv (v := .tuple _) rfl rfl ?_ | refine wo_mv (v := .agg _) rfl rfl ?_ | refine wo_pickT (v := .bool _) rfl rfl rfl ?_ | refine wo_pickF (v := .bool _) rfl rfl rfl ?_ | refine wo_skip rfl ?_ | (refine wo_fadr rfl rfl ?_) | (refine wo_nilck rfl rfl ?_) | (refine wo_lenS rfl rfl ?_) | (refine wo_lenL rfl rfl ?_) | refine wo_not rfl rfl ?_ | refine wo_ext (v := .bool _) rfl rfl rfl ?_ | refine wo_ext (v := .int _ _) rfl rfl rfl ?_ | refine wo_ext (v := .string _) rfl rfl rfl ?_ | refine wo_ext (v := .agg _) rfl rfl rfl ?_))
  refine wo_val (v := .bool true) rfl rfl ?_
  refine wo_nil (wp_true rfl (wp_seq (wp_ops ?_)))
  (repeat (first | refine wo_mv (v := .bool _) rfl rfl ?_ | refine wo_mv (v := .int _ _) rfl rfl ?_ | refine wo_mv (v := .string _) rfl rfl ?_ | refine wo_mv (v := .pointer _) rfl rfl ?_ | refine wo_mv (v := .slice _ _ _) rfl rfl ?_ | refine wo_mv (v := .tuple _) rfl rfl ?_ | refine wo_mv (v := .agg _) rfl rfl ?_ | refine wo_pickT (v := .bool _) rfl rfl rfl ?_ | refine wo_pickF (v := .bool _) rfl rfl rfl ?_ | refine wo_skip rfl ?_ | (refine wo_fadr rfl rfl ?_) | (refine wo_nilck rfl rfl ?_) | (refine wo_lenS rfl rfl ?_) | (refine wo_lenL rfl rfl ?_) | refine wo_not rfl rfl ?_ | refine wo_ext (v := .bool _) rfl rfl rfl ?_ | refine wo_ext (v := .int _ _) rfl rfl rfl ?_ | refine wo_ext (v := .string _) rfl rfl rfl ?_ | refine wo_ext (v := .agg _) rfl rfl rfl ?_))
  exact wo_nil (wp_ret ⟨by simp, [.slice none 0 0], rfl, rfl, rfl⟩)

theorem new_ok (hT : T 8 = some (.code irS8)) {σ : St} : ∃ v σ', clT T (.fn 8) [] σ = some (v, σ') ∧ ∃ sp r, v = ptrOf sp 0 ∧ Sht σ' sp r [] ∧ Keep σ σ' ∧ σ.next ≤ sp ∧ σ.next ≤ r := by
  refine wp_code hT rfl ?_
  refine wp_seq (wp_ops ?_)
  (repeat (first | refine wo_mv (v := .bool _) rfl rfl ?_ | refine wo_mv (v := .int _ _) rfl rfl ?_ | refine wo_mv (v := .string _) rfl rfl ?_ | refine wo_mv (v := .pointer _) rfl rfl ?_ | refine wo_mv (v := .slice _ _ _) rfl rfl ?_ | refine wo_mv (v := .tuple _) rfl rfl ?_ | refine wo_mv (v := .agg _) rfl rfl ?_ | refine wo_pickT (v := .bool _) rfl rfl rfl ?_ | refine wo_pickF (v := .bool _) rfl rfl rfl ?_ | refine wo_skip rfl ?_ | (refine wo_fadr rfl rfl ?_) | (refine wo_nilck rfl rfl ?_) | (refine wo_lenS rfl rfl ?_) | (refine wo_lenL rfl rfl ?_) | refine wo_not rfl rfl ?_ | refine wo_ext (v := .bool _) rfl rfl rfl ?_ | refine wo_ext (v := .int _ _) rfl rfl rfl ?_ | refine wo_ext (v := .string _) rfl rfl rfl ?_ | refine wo_ext (v := .agg _) rfl rfl rfl ?_))
  refine wo_nil (wp_seq (wp_ops ?_))
  refine wo_new (x := .map []) (f := fun i => .map (some i)) rfl rfl ?_
  refine wo_val (v := .agg #[.map (some σ.next)]) rfl rfl ?_
  refine wo_new (x := .row [.map (some σ.next)] 1 false false 0) (f := fun i => ptrOf i 0) rfl rfl ?_
  have k1 := Keep.new σ (.map [])
  have h1 := new_get σ (.map [])
  have hn1 : σ.next < ({ σ.put σ.next (some (.map [])) with next := σ.next + 1 } : St).next := Nat.lt_succ_self _
  generalize ({ σ.put σ.next (some (.map [])) with next := σ.next + 1 } : St) = σ1 at k1 h1 hn1 ⊢
  have k2 := Keep.new σ1 (.row [.map (some σ.next)] 1 false false 0)
  have h2 := new_get σ1 (.row [.map (some σ.next)] 1 false false 0)
  refine wo_mv (v := ptrOf σ1.next 0) rfl rfl ?_
  refine wo_nil (wp_ret ⟨by simp, [ptrOf σ1.next 0], rfl, σ1.next, σ.next, rfl, ⟨h2, ?_, Nat.lt_succ_self _, ?_⟩, k1.trans k2, ?_, Nat.le_refl _⟩)
  · rw [k2.get _ hn1]; exact h1
  · exact Nat.lt_succ_of_lt hn1
  · omega

theorem Env.three (ρ : Env) (a b c : Nat) {va vb vc : Value} (ha : ρ a = va) (hb : ρ b = vb) (hc : ρ c = vc) : ρ = ((ρ.upd (some a) va).upd (some b) vb).upd (some c) vc := by
  rw [← Env.two ρ a b ha hb, ← Env.self ρ c vc hc]

theorem parent_ok (hT : T 11 = some (.code irS11)) (hT25 : T 25 = some (.code irS25)) {σ : St} {sp r : Nat} {s : Sh} (h : Sht σ sp r s) {k : ByteArray} {p : List UInt8} (hp : parOf s k.data.toList = some p) :
    ∃ v σ', clT T (.fn 11) [ptrOf sp 0, .string k] σ = some (v, σ') ∧ v = .tuple #[.string (encK p), .int .i64 0] ∧ Keep σ σ' := by
  refine wp_code hT rfl ?_
  refine wp_seq (wp_ops ?_)
  (repeat (first | refine wo_mv (v := .bool _) rfl rfl ?_ | refine wo_mv (v := .int _ _) rfl rfl ?_ | refine wo_mv (v := .string _) rfl rfl ?_ | refine wo_mv (v := .pointer _) rfl rfl ?_ | refine wo_mv (v := .slice _ _ _) rfl rfl ?_ | refine wo_mv (v := .tuple _) rfl rfl ?_ | refine wo_mv (v := .agg _) rfl rfl ?_ | refine wo_pickT (v := .bool _) rfl rfl rfl ?_ | refine wo_pickF (v := .bool _) rfl rfl rfl ?_ | refine wo_skip rfl ?_ | (refine wo_fadr rfl rfl ?_) | (refine wo_nilck rfl rfl ?_) | (refine wo_lenS rfl rfl ?_) | (refine wo_lenL rfl rfl ?_) | refine wo_not rfl rfl ?_ | refine wo_ext (v := .bool _) rfl rfl rfl ?_ | refine wo_ext (v := .int _ _) rfl rfl rfl ?_ | refine wo_ext (v := .string _) rfl rfl rfl ?_ | refine wo_ext (v := .agg _) rfl rfl rfl ?_))
  refine wo_nil (wp_seq (wp_seq (wp_ops ?_)))
  (repeat (first | refine wo_mv (v := .bool _) rfl rfl ?_ | refine wo_mv (v := .int _ _) rfl rfl ?_ | refine wo_mv (v := .string _) rfl rfl ?_ | refine wo_mv (v := .pointer _) rfl rfl ?_ | refine wo_mv (v := .slice _ _ _) rfl rfl ?_ | refine wo_mv (v := .tuple _) rfl rfl ?_ | refine wo_mv (v := .agg _) rfl rfl ?_ | refine wo_pickT (v := .bool _) rfl rfl rfl ?_ | refine wo_pickF (v := .bool _) rfl rfl rfl ?_ | refine wo_skip rfl ?_ | (refine wo_fadr rfl rfl ?_) | (refine wo_nilck rfl rfl ?_) | (refine wo_lenS rfl rfl ?_) | (refine wo_lenL rfl rfl ?_) | refine wo_not rfl rfl ?_ | refine wo_ext (v := .bool _) rfl rfl rfl ?_ | refine wo_ext (v := .int _ _) rfl rfl rfl ?_ | refine wo_ext (v := .string _) rfl rfl rfl ?_ | refine wo_ext (v := .agg _) rfl rfl rfl ?_))
  refine wo_call rfl (none_ok hT25 h) ?_
  refine wo_nil (wp_false rfl (wp_skip (wp_seq (wp_ops ?_))))
  (repeat (first | refine wo_mv (v := .bool _) rfl rfl ?_ | refine wo_mv (v := .int _ _) rfl rfl ?_ | refine wo_mv (v := .string _) rfl rfl ?_ | refine wo_mv (v := .pointer _) rfl rfl ?_ | refine wo_mv (v := .slice _ _ _) rfl rfl ?_ | refine wo_mv (v := .tuple _) rfl rfl ?_ | refine wo_mv (v := .agg _) rfl rfl ?_ | refine wo_pickT (v := .bool _) rfl rfl rfl ?_ | refine wo_pickF (v := .bool _) rfl rfl rfl ?_ | refine wo_skip rfl ?_ | (refine wo_fadr rfl rfl ?_) | (refine wo_nilck rfl rfl ?_) | (refine wo_lenS rfl rfl ?_) | (refine wo_lenL rfl rfl ?_) | refine wo_not rfl rfl ?_ | refine wo_ext (v := .bool _) rfl rfl rfl ?_ | refine wo_ext (v := .int _ _) rfl rfl rfl ?_ | refine wo_ext (v := .string _) rfl rfl rfl ?_ | refine wo_ext (v := .agg _) rfl rfl rfl ?_))
  refine wo_ld (v := .map (some r)) rfl rfl (rowOf_of h.hp) rfl ?_
  (repeat (first | refine wo_mv (v := .bool _) rfl rfl ?_ | refine wo_mv (v := .int _ _) rfl rfl ?_ | refine wo_mv (v := .string _) rfl rfl ?_ | refine wo_mv (v := .pointer _) rfl rfl ?_ | refine wo_mv (v := .slice _ _ _) rfl rfl ?_ | refine wo_mv (v := .tuple _) rfl rfl ?_ | refine wo_mv (v := .agg _) rfl rfl ?_ | refine wo_pickT (v := .bool _) rfl rfl rfl ?_ | refine wo_pickF (v := .bool _) rfl rfl rfl ?_ | refine wo_skip rfl ?_ | (refine wo_fadr rfl rfl ?_) | (refine wo_nilck rfl rfl ?_) | (refine wo_lenS rfl rfl ?_) | (refine wo_lenL rfl rfl ?_) | refine wo_not rfl rfl ?_ | refine wo_ext (v := .bool _) rfl rfl rfl ?_ | refine wo_ext (v := .int _ _) rfl rfl rfl ?_ | refine wo_ext (v := .string _) rfl rfl rfl ?_ | refine wo_ext (v := .agg _) rfl rfl rfl ?_))
  refine wo_lkp rfl rfl rfl h.hm (by rw [hp]) ?_
  (repeat (first | refine wo_mv (v := .bool _) rfl rfl ?_ | refine wo_mv (v := .int _ _) rfl rfl ?_ | refine wo_mv (v := .string _) rfl rfl ?_ | refine wo_mv (v := .pointer _) rfl rfl ?_ | refine wo_mv (v := .slice _ _ _) rfl rfl ?_ | refine wo_mv (v := .tuple _) rfl rfl ?_ | refine wo_mv (v := .agg _) rfl rfl ?_ | refine wo_pickT (v := .bool _) rfl rfl rfl ?_ | refine wo_pickF (v := .bool _) rfl rfl rfl ?_ | refine wo_skip rfl ?_ | (refine wo_fadr rfl rfl ?_) | (refine wo_nilck rfl rfl ?_) | (refine wo_lenS rfl rfl ?_) | (refine wo_lenL rfl rfl ?_) | refine wo_not rfl rfl ?_ | refine wo_ext (v := .bool _) rfl rfl rfl ?_ | refine wo_ext (v := .int _ _) rfl rfl rfl ?_ | refine wo_ext (v := .string _) rfl rfl rfl ?_ | refine wo_ext (v := .agg _) rfl rfl rfl ?_))
  refine wo_new (x := .row [.string ⟨#[]⟩, .slice none 0 0] 2 false false 67) (f := fun i => ptrOf i 0) rfl rfl ?_
  refine wo_st rfl rfl (new_get _ _) (vs := [.string (encK p), .slice none 0 0]) rfl rfl rfl rfl ?_
  have k1 := (Keep.new σ (.row [.string ⟨#[]⟩, .slice none 0 0] 2 false false 67)).store (Nat.le_refl _) (some (.row [.string (encK p), .slice none 0 0] 2 false false 67))
  have h1 := put_get { σ.put σ.next (some (.row [.string ⟨#[]⟩, .slice none 0 0] 2 false false 67)) with next := σ.next + 1 } σ.next (some (.row [.string (encK p), .slice none 0 0] 2 false false 67))
  generalize (({ σ.put σ.next (some (.row [.string ⟨#[]⟩, .slice none 0 0] 2 false false 67)) with next := σ.next + 1 } : St).put σ.next (some (.row [.string (encK p), .slice none 0 0] 2 false false 67))) = σ1 at k1 h1 ⊢
  (repeat (first | refine wo_mv (v := .bool _) rfl rfl ?_ | refine wo_mv (v := .int _ _) rfl rfl ?_ | refine wo_mv (v := .string _) rfl rfl ?_ | refine wo_mv (v := .pointer _) rfl rfl ?_ | refine wo_mv (v := .slice _ _ _) rfl rfl ?_ | refine wo_mv (v := .tuple _) rfl rfl ?_ | refine wo_mv (v := .agg _) rfl rfl ?_ | refine wo_pickT (v := .bool _) rfl rfl rfl ?_ | refine wo_pickF (v := .bool _) rfl rfl rfl ?_ | refine wo_skip rfl ?_ | (refine wo_fadr rfl rfl ?_) | (refine wo_nilck rfl rfl ?_) | (refine wo_lenS rfl rfl ?_) | (refine wo_lenL rfl rfl ?_) | refine wo_not rfl rfl ?_ | refine wo_ext (v := .bool _) rfl rfl rfl ?_ | refine wo_ext (v := .int _ _) rfl rfl rfl ?_ | refine wo_ext (v := .string _) rfl rfl rfl ?_ | refine wo_ext (v := .agg _) rfl rfl rfl ?_))
  refine wo_nil (wp_seq (wp_seq (wp_ops ?_)))
  (repeat (first | refine wo_mv (v := .bool _) rfl rfl ?_ | refine wo_mv (v := .int _ _) rfl rfl ?_ | refine wo_mv (v := .string _) rfl rfl ?_ | refine wo_mv (v := .pointer _) rfl rfl ?_ | refine wo_mv (v := .slice _ _ _) rfl rfl ?_ | refine wo_mv (v := .tuple _) rfl rfl ?_ | refine wo_mv (v := .agg _) rfl rfl ?_ | refine wo_pickT (v := .bool _) rfl rfl rfl ?_ | refine wo_pickF (v := .bool _) rfl rfl rfl ?_ | refine wo_skip rfl ?_ | (refine wo_fadr rfl rfl ?_) | (refine wo_nilck rfl rfl ?_) | (refine wo_lenS rfl rfl ?_) | (refine wo_lenL rfl rfl ?_) | refine wo_not rfl rfl ?_ | refine wo_ext (v := .bool _) rfl rfl rfl ?_ | refine wo_ext (v := .int _ _) rfl rfl rfl ?_ | refine wo_ext (v := .string _) rfl rfl rfl ?_ | refine wo_ext (v := .agg _) rfl rfl rfl ?_))
  refine wo_nil (wp_false rfl (wp_skip (wp_seq (wp_ops ?_))))
  (repeat (first | refine wo_mv (v := .bool _) rfl rfl ?_ | refine wo_mv (v := .int _ _) rfl rfl ?_ | refine wo_mv (v := .string _) rfl rfl ?_ | refine wo_mv (v := .pointer _) rfl rfl ?_ | refine wo_mv (v := .slice _ _ _) rfl rfl ?_ | refine wo_mv (v := .tuple _) rfl rfl ?_ | refine wo_mv (v := .agg _) rfl rfl ?_ | refine wo_pickT (v := .bool _) rfl rfl rfl ?_ | refine wo_pickF (v := .bool _) rfl rfl rfl ?_ | refine wo_skip rfl ?_ | (refine wo_fadr rfl rfl ?_) | (refine wo_nilck rfl rfl ?_) | (refine wo_lenS rfl rfl ?_) | (refine wo_lenL rfl rfl ?_) | refine wo_not rfl rfl ?_ | refine wo_ext (v := .bool _) rfl rfl rfl ?_ | refine wo_ext (v := .int _ _) rfl rfl rfl ?_ | refine wo_ext (v := .string _) rfl rfl rfl ?_ | refine wo_ext (v := .agg _) rfl rfl rfl ?_))
  refine wo_ld (v := .string (encK p)) rfl rfl (rowOf_of h1) rfl ?_
  (repeat (first | refine wo_mv (v := .bool _) rfl rfl ?_ | refine wo_mv (v := .int _ _) rfl rfl ?_ | refine wo_mv (v := .string _) rfl rfl ?_ | refine wo_mv (v := .pointer _) rfl rfl ?_ | refine wo_mv (v := .slice _ _ _) rfl rfl ?_ | refine wo_mv (v := .tuple _) rfl rfl ?_ | refine wo_mv (v := .agg _) rfl rfl ?_ | refine wo_pickT (v := .bool _) rfl rfl rfl ?_ | refine wo_pickF (v := .bool _) rfl rfl rfl ?_ | refine wo_skip rfl ?_ | (refine wo_fadr rfl rfl ?_) | (refine wo_nilck rfl rfl ?_) | (refine wo_lenS rfl rfl ?_) | (refine wo_lenL rfl rfl ?_) | refine wo_not rfl rfl ?_ | refine wo_ext (v := .bool _) rfl rfl rfl ?_ | refine wo_ext (v := .int _ _) rfl rfl rfl ?_ | refine wo_ext (v := .string _) rfl rfl rfl ?_ | refine wo_ext (v := .agg _) rfl rfl rfl ?_))
  exact wo_nil (wp_ret ⟨by simp, [.string (encK p), .int .i64 0], rfl, rfl, k1⟩)

theorem above_ok (hT : T 28 = some (.code irS28)) {σ : St} {sp r : Nat} {s : Sh} (h : Sht σ sp r s) (n p : ByteArray) {m : Nat} (he : Sheet.Ends s p.data.toList m) :
    ∃ v σ', clT T (.fn 28) [ptrOf sp 0, .string n, .string p] σ = some (v, σ') ∧ σ' = σ ∧ ∃ b, v = .bool b ∧ (b = false → Free s n.data.toList p.data.toList) := by
  refine wp_code hT rfl ?_
  refine wp_seq (wp_ops ?_)
  (repeat (first | refine wo_mv (v := .bool _) rfl rfl ?_ | refine wo_mv (v := .int _ _) rfl rfl ?_ | refine wo_mv (v := .string _) rfl rfl ?_ | refine wo_mv (v := .pointer _) rfl rfl ?_ | refine wo_mv (v := .slice _ _ _) rfl rfl ?_ | refine wo_mv (v := .tuple _) rfl rfl ?_ | refine wo_mv (v := .agg _) rfl rfl ?_ | refine wo_pickT (v := .bool _) rfl rfl rfl ?_ | refine wo_pickF (v := .bool _) rfl rfl rfl ?_ | refine wo_skip rfl ?_ | (refine wo_fadr rfl rfl ?_) | (refine wo_nilck rfl rfl ?_) | (refine wo_lenS rfl rfl ?_) | (refine wo_lenL rfl rfl ?_) | refine wo_not rfl rfl ?_ | refine wo_ext (v := .bool _) rfl rfl rfl ?_ | refine wo_ext (v := .int _ _) rfl rfl rfl ?_ | refine wo_ext (v := .string _) rfl rfl rfl ?_ | refine wo_ext (v := .agg _) rfl rfl rfl ?_))
  refine wo_nil (wp_scope (wp_seq (wp_skip (wp_seq (wp_block ?_)))))
  refine wp_loop (fun m ρ σ' => σ' = σ ∧ ∃ (ρb : Env) (k : List UInt8), ρ = ((ρb.upd (some 0) (ptrOf sp 0)).upd (some 1) (.string n)).upd (some 2) (.string (encK k)) ∧ Sheet.Ends s k m ∧ (Free s n.data.toList k → Free s n.data.toList p.data.toList)) ?_ m _ _ ⟨rfl, _, p.data.toList, Env.three _ 0 1 2 rfl rfl (by rw [encK_data]; rfl), he, id⟩
  rintro m ρ σ' ⟨rfl, ρb, k, rfl, he, hf⟩
  refine wp_seq (wp_seq (wp_ops ?_))
  (repeat (first | refine wo_mv (v := .bool _) rfl rfl ?_ | refine wo_mv (v := .int _ _) rfl rfl ?_ | refine wo_mv (v := .string _) rfl rfl ?_ | refine wo_mv (v := .pointer _) rfl rfl ?_ | refine wo_mv (v := .slice _ _ _) rfl rfl ?_ | refine wo_mv (v := .tuple _) rfl rfl ?_ | refine wo_mv (v := .agg _) rfl rfl ?_ | refine wo_pickT (v := .bool _) rfl rfl rfl ?_ | refine wo_pickF (v := .bool _) rfl rfl rfl ?_ | refine wo_skip rfl ?_ | (refine wo_fadr rfl rfl ?_) | (refine wo_nilck rfl rfl ?_) | (refine wo_lenS rfl rfl ?_) | (refine wo_lenL rfl rfl ?_) | refine wo_not rfl rfl ?_ | refine wo_ext (v := .bool _) rfl rfl rfl ?_ | refine wo_ext (v := .int _ _) rfl rfl rfl ?_ | refine wo_ext (v := .string _) rfl rfl rfl ?_ | refine wo_ext (v := .agg _) rfl rfl rfl ?_))
  refine wo_str_ne rfl rfl rfl fun t ht => ?_
  cases t
  case false =>
    refine wo_nil (wp_false rfl (wp_exit ?_))
    refine thenQ_exit (loopQ_exit (blockQ_hit (wp_seq (wp_ops ?_))))
    (repeat (first | refine wo_mv (v := .bool _) rfl rfl ?_ | refine wo_mv (v := .int _ _) rfl rfl ?_ | refine wo_mv (v := .string _) rfl rfl ?_ | refine wo_mv (v := .pointer _) rfl rfl ?_ | refine wo_mv (v := .slice _ _ _) rfl rfl ?_ | refine wo_mv (v := .tuple _) rfl rfl ?_ | refine wo_mv (v := .agg _) rfl rfl ?_ | refine wo_pickT (v := .bool _) rfl rfl rfl ?_ | refine wo_pickF (v := .bool _) rfl rfl rfl ?_ | refine wo_skip rfl ?_ | (refine wo_fadr rfl rfl ?_) | (refine wo_nilck rfl rfl ?_) | (refine wo_lenS rfl rfl ?_) | (refine wo_lenL rfl rfl ?_) | refine wo_not rfl rfl ?_ | refine wo_ext (v := .bool _) rfl rfl rfl ?_ | refine wo_ext (v := .int _ _) rfl rfl rfl ?_ | refine wo_ext (v := .string _) rfl rfl rfl ?_ | refine wo_ext (v := .agg _) rfl rfl rfl ?_))
    refine wo_nil (wp_ret ⟨by simp, [.bool false], rfl, rfl, false, rfl, fun _ => hf ?_⟩)
    have : k = [] := is_of ht
    subst this
    exact .nil
  refine wo_nil (wp_true rfl (wp_skip (wp_block (wp_seq (wp_seq (wp_ops ?_))))))
  have hk : k ≠ [] := not_of ht
  (repeat (first | refine wo_mv (v := .bool _) rfl rfl ?_ | refine wo_mv (v := .int _ _) rfl rfl ?_ | refine wo_mv (v := .string _) rfl rfl ?_ | refine wo_mv (v := .pointer _) rfl rfl ?_ | refine wo_mv (v := .slice _ _ _) rfl rfl ?_ | refine wo_mv (v := .tuple _) rfl rfl ?_ | refine wo_mv (v := .agg _) rfl rfl ?_ | refine wo_pickT (v := .bool _) rfl rfl rfl ?_ | refine wo_pickF (v := .bool _) rfl rfl rfl ?_ | refine wo_skip rfl ?_ | (refine wo_fadr rfl rfl ?_) | (refine wo_nilck rfl rfl ?_) | (refine wo_lenS rfl rfl ?_) | (refine wo_lenL rfl rfl ?_) | refine wo_not rfl rfl ?_ | refine wo_ext (v := .bool _) rfl rfl rfl ?_ | refine wo_ext (v := .int _ _) rfl rfl rfl ?_ | refine wo_ext (v := .string _) rfl rfl rfl ?_ | refine wo_ext (v := .agg _) rfl rfl rfl ?_))
  refine wo_str_ne rfl rfl rfl fun t2 ht2 => ?_
  cases t2
  case false =>
    refine wo_nil (wp_false rfl (wp_skip (wp_seq (wp_ops ?_))))
    (repeat (first | refine wo_mv (v := .bool _) rfl rfl ?_ | refine wo_mv (v := .int _ _) rfl rfl ?_ | refine wo_mv (v := .string _) rfl rfl ?_ | refine wo_mv (v := .pointer _) rfl rfl ?_ | refine wo_mv (v := .slice _ _ _) rfl rfl ?_ | refine wo_mv (v := .tuple _) rfl rfl ?_ | refine wo_mv (v := .agg _) rfl rfl ?_ | refine wo_pickT (v := .bool _) rfl rfl rfl ?_ | refine wo_pickF (v := .bool _) rfl rfl rfl ?_ | refine wo_skip rfl ?_ | (refine wo_fadr rfl rfl ?_) | (refine wo_nilck rfl rfl ?_) | (refine wo_lenS rfl rfl ?_) | (refine wo_lenL rfl rfl ?_) | refine wo_not rfl rfl ?_ | refine wo_ext (v := .bool _) rfl rfl rfl ?_ | refine wo_ext (v := .int _ _) rfl rfl rfl ?_ | refine wo_ext (v := .string _) rfl rfl rfl ?_ | refine wo_ext (v := .agg _) rfl rfl rfl ?_))
    exact wo_nil (wp_ret ⟨by simp, [.bool true], rfl, rfl, true, rfl, fun h => by cases h⟩)
  have hkn : k ≠ n.data.toList := not_of ht2
  cases he with
  | nil => exact absurd rfl hk
  | @step _ q j _ hq he =>
  refine wo_nil (wp_true rfl (wp_seq (wp_ops ?_)))
  (repeat (first | refine wo_mv (v := .bool _) rfl rfl ?_ | refine wo_mv (v := .int _ _) rfl rfl ?_ | refine wo_mv (v := .string _) rfl rfl ?_ | refine wo_mv (v := .pointer _) rfl rfl ?_ | refine wo_mv (v := .slice _ _ _) rfl rfl ?_ | refine wo_mv (v := .tuple _) rfl rfl ?_ | refine wo_mv (v := .agg _) rfl rfl ?_ | refine wo_pickT (v := .bool _) rfl rfl rfl ?_ | refine wo_pickF (v := .bool _) rfl rfl rfl ?_ | refine wo_skip rfl ?_ | (refine wo_fadr rfl rfl ?_) | (refine wo_nilck rfl rfl ?_) | (refine wo_lenS rfl rfl ?_) | (refine wo_lenL rfl rfl ?_) | refine wo_not rfl rfl ?_ | refine wo_ext (v := .bool _) rfl rfl rfl ?_ | refine wo_ext (v := .int _ _) rfl rfl rfl ?_ | refine wo_ext (v := .string _) rfl rfl rfl ?_ | refine wo_ext (v := .agg _) rfl rfl rfl ?_))
  refine wo_ld (v := .map (some r)) rfl rfl (rowOf_of h.hp) rfl ?_
  (repeat (first | refine wo_mv (v := .bool _) rfl rfl ?_ | refine wo_mv (v := .int _ _) rfl rfl ?_ | refine wo_mv (v := .string _) rfl rfl ?_ | refine wo_mv (v := .pointer _) rfl rfl ?_ | refine wo_mv (v := .slice _ _ _) rfl rfl ?_ | refine wo_mv (v := .tuple _) rfl rfl ?_ | refine wo_mv (v := .agg _) rfl rfl ?_ | refine wo_pickT (v := .bool _) rfl rfl rfl ?_ | refine wo_pickF (v := .bool _) rfl rfl rfl ?_ | refine wo_skip rfl ?_ | (refine wo_fadr rfl rfl ?_) | (refine wo_nilck rfl rfl ?_) | (refine wo_lenS rfl rfl ?_) | (refine wo_lenL rfl rfl ?_) | refine wo_not rfl rfl ?_ | refine wo_ext (v := .bool _) rfl rfl rfl ?_ | refine wo_ext (v := .int _ _) rfl rfl rfl ?_ | refine wo_ext (v := .string _) rfl rfl rfl ?_ | refine wo_ext (v := .agg _) rfl rfl rfl ?_))
  refine wo_lkp rfl rfl rfl h.hm (by rw [data_encK, hq]) ?_
  refine wo_val (v := .string (encK q)) rfl rfl ?_
  (repeat (first | refine wo_mv (v := .bool _) rfl rfl ?_ | refine wo_mv (v := .int _ _) rfl rfl ?_ | refine wo_mv (v := .string _) rfl rfl ?_ | refine wo_mv (v := .pointer _) rfl rfl ?_ | refine wo_mv (v := .slice _ _ _) rfl rfl ?_ | refine wo_mv (v := .tuple _) rfl rfl ?_ | refine wo_mv (v := .agg _) rfl rfl ?_ | refine wo_pickT (v := .bool _) rfl rfl rfl ?_ | refine wo_pickF (v := .bool _) rfl rfl rfl ?_ | refine wo_skip rfl ?_ | (refine wo_fadr rfl rfl ?_) | (refine wo_nilck rfl rfl ?_) | (refine wo_lenS rfl rfl ?_) | (refine wo_lenL rfl rfl ?_) | refine wo_not rfl rfl ?_ | refine wo_ext (v := .bool _) rfl rfl rfl ?_ | refine wo_ext (v := .int _ _) rfl rfl rfl ?_ | refine wo_ext (v := .string _) rfl rfl rfl ?_ | refine wo_ext (v := .agg _) rfl rfl rfl ?_))
  refine wo_nil (wp_exit ?_)
  refine ⟨j, Nat.lt_succ_self _, rfl, _, q, Env.three _ 0 1 2 rfl rfl rfl, he, fun hfr => hf (.step hk hkn hq hfr)⟩

end Go.Eng
