/-
  StyleLoops: the law returns true whatever the acts are: the row.
-/
import Derived.Test.YtgbcpfeopaidmaaSheetL
import Derived.Test.YtgbcpfeopaidmaaRows
import Derived.ChangeMaps5
set_option linter.all false
namespace Go.Proofs.Ytgbcpfeopaidmaa
open Go.ChangeShapes Go.WideShapes Go.ChangeAt Go.RowKit Go.Eng

theorem Try.own : ownKnob Try.prog.godebug = none := by kernel_rfl
theorem Try.kids : Kids Try.prog (· < Try.prog.types.size) := kids_rows (by kernel_rfl) (by kernel_rfl)
theorem Try.full : ∀ t e, t < Try.prog.types.size → Try.prog.underlying t = some (.slice e) → 0 < Try.prog.cellsOf e := slices_full_of Try.prog (by kernel_rfl)
theorem Try.mixed : Try.prog.follows .mixedOrders = true := by kernel_rfl

theorem good0 (P : Program) (w : World) : Go.Eng.Good P w g0 ⟨.nil, 0⟩ :=
  ⟨rel0 P w, fun i o h => by rw [show (⟨.nil, 0⟩ : St).get i = none from Tr.get_nil i] at h; cases h⟩

theorem acts_kinds : kindsT Try.prog 8 30 = some [.i .i64, .s, .s, .sl 57] := by kernel_rfl

theorem kindsL_mono {f g : TypeId → Option (List CK)} (hfg : ∀ t ks, f t = some ks → g t = some ks) : ∀ (fs : List Field) (off : Nat) (ks : List CK), kindsL f fs off = some ks → kindsL g fs off = some ks
  | [], off, ks, h => h
  | d :: ds, off, ks, h => by
    unfold kindsL at h ⊢
    split at h
    · cases h
    · rename_i ho
      rw [if_neg ho]
      split at h
      · rename_i m hm
        simp only [Option.map_eq_some_iff] at h
        obtain ⟨k2, h2, rfl⟩ := h
        rw [hfg _ _ hm]
        simp only [kindsL_mono hfg ds _ _ h2, Option.map_some]
      · cases h
theorem kindsT_succ {P : Program} : ∀ (d : Nat) (t : TypeId) (ks : List CK), kindsT P d t = some ks → kindsT P (d + 1) t = some ks
  | 0, t, ks, h => by simp [kindsT] at h
  | d + 1, t, ks, h => by
    have ih := kindsT_succ (P := P) d
    unfold kindsT at h ⊢
    split at h
    · exact h
    · exact h
    · exact h
    · split at h
      · rename_i k hk; simp only [ih _ _ hk]; exact h
      · cases h
    · simp only [Option.bind_eq_some_iff] at h ⊢
      obtain ⟨k, h1, h2⟩ := h
      exact ⟨k, kindsL_mono ih _ _ _ h1, h2⟩
    · split at h
      · rename_i m hm; simp only [ih _ _ hm]; exact h
      · cases h
    · cases h
theorem kindsT_mono {P : Program} {t : TypeId} {ks : List CK} : ∀ {d d' : Nat}, d ≤ d' → kindsT P d t = some ks → kindsT P d' t = some ks := by
  intro d d' hd h
  induction hd with
  | refl => exact h
  | step _ ih => exact kindsT_succ _ _ _ ih
theorem kindsT_det {P : Program} {t : TypeId} {a b : List CK} {d d' : Nat} (h : kindsT P d t = some a) (h' : kindsT P d' t = some b) : a = b := by
  have h1 := kindsT_mono (Nat.le_max_left d d') h
  have h2 := kindsT_mono (Nat.le_max_right d d') h'
  rw [h1] at h2
  exact Option.some.inj h2

theorem acts_kind : kindsT Try.prog 9 22 = some [.sl 30] := by kernel_rfl

theorem acts_ok {W : World} {g : Gh} {σ : St} {n : Nat} {v : Value} (hR : Rel Try.prog g σ W) (h : CellK Try.prog σ n (.sl 30) v) : ∃ a len cap, v = .slice a len cap ∧ ActsOk σ a len := by
  cases n with
  | zero => exact False.elim h
  | succ n =>
    unfold CellK at h
    rcases h with rfl | rfl | ⟨k, len, cap, row, ks, rfl, hlc, hcm, ⟨d', hks⟩, hg, hrl, hcell⟩
    · exact ⟨_, _, _, rfl, fun i hi => absurd hi (Nat.not_lt_zero i)⟩
    · exact ⟨_, _, _, rfl, fun i hi => absurd hi (Nat.not_lt_zero i)⟩
    · obtain rfl := kindsT_det hks acts_kinds
      simp only [List.length_cons, List.length_nil, Nat.zero_add, Nat.reduceAdd] at hrl hcell hg
      refine ⟨_, _, _, rfl, fun i hi => ?_⟩
      have h1 : i * 4 + 1 < row.length := by omega
      have h2 : i * 4 + 2 < row.length := by omega
      have e1 : (i * 4 + 1) % 4 = 1 := by omega
      have e2 : (i * 4 + 2) % 4 = 2 := by omega
      have c1 := hcell (i * 4 + 1) _ .s (List.getElem?_eq_getElem h1) (by rw [e1]; rfl)
      have c2 := hcell (i * 4 + 2) _ .s (List.getElem?_eq_getElem h2) (by rw [e2]; rfl)
      obtain ⟨s1, q1, _⟩ : ∃ s, row[i * 4 + 1] = .string s ∧ s.size ≤ maxLen := by cases n <;> exact c1
      obtain ⟨s2, q2, _⟩ : ∃ s, row[i * 4 + 2] = .string s ∧ s.size ≤ maxLen := by cases n <;> exact c2
      exact ⟨k, row, _, _, _, _, s1, s2, rfl, get_lt hR hg, hg, by rw [List.getElem?_eq_getElem h1, q1], by rw [List.getElem?_eq_getElem h2, q2]⟩

set_option maxRecDepth 100000 in
theorem loops_lifted (os : Os) (started : os.Started) (H : Type) (enc : TypeId × Value → H) :
    ReturnsInHanded {} Try.checked os 3 .any (Rows.styleLoopsSpec.pre6 enc Try.prog Try.f3 Rows.styleLoopsRow.domain false) (Rows.styleLoopsSpec.post enc Try.prog Try.f3 false true false false) := by
  refine returnsInHanded_of_change (C := Try.checked) Try.own started (by kernel_rfl) Try.func3
    (ChangeSpec.witness6 (enc := enc) (C := Try.checked) false ⟨#[], #[.slice none 0 0], []⟩ 8 (by kernel_rfl) (by kernel_rfl) (by kernel_rfl) (by kernel_rfl)) ?_
  intro W base args ds gs before hval0 hW hcnd _
  have hval : ∀ (j : Nat) t v, Try.f3.params[j]? = some t → args[j]? = some v → Value.okWide Try.prog W .any base t v := hval0
  have hW' := hW
  obtain ⟨p, q, hA0, hV, rfl, hfz, hnd⟩ := hW
  have hA : DataW.TrodAll enc Try.prog W 0 (fun _ => true) true Try.f3.params.toList args.toList ds p := hA0
  rw [Try.params3] at hA hval
  obtain ⟨v0, d0, rfl, rfl, h0⟩ := trodAll_one hA
  obtain ⟨rfl, rfl⟩ := trodVars_none hV
  have hv0 := hval 0 22 v0 rfl rfl
  unfold Value.okWide at hv0
  rw [Try.underlying22] at hv0
  simp only at hv0
  obtain ⟨a0, l0, c0, rfl⟩ : ∃ a l c, v0 = .slice a l c := by
    cases v0 <;> simp [Cell.okWide, Cell.ok, Try.underlying22] at hv0
    exact ⟨_, _, _, rfl⟩
  obtain ⟨fuel, ht⟩ := h0
  obtain ⟨g, σ, cs1, _, G, l, q⟩ := trod_imp fuel _ _ _ 9 _ ht acts_kind g0 _ (good0 _ W)
  cases q with | cons hq q =>
  cases q
  cases l with | cons hl l =>
  cases l
  obtain ⟨a, len, cap, rfl, hA⟩ := acts_ok G.rel hq
  obtain ⟨v, σ', hrun, rfl⟩ := loops_ok (cap := cap) hA
  have hT3 : tab1 3 = some (.code irS3) := codeS3
  refine (calls_law tab1_ok Try.mixed hT3 G (.cons hl .nil) hrun).mono fun e W' ⟨he, ho, hp, hh⟩ => ?_
  subst he
  exact ⟨_, rfl, law_post rfl (by kernel_rfl) Try.underlying4 Try.kids Try.full (by rw [Try.params3]; decide) hW' rfl ho hp hh⟩

theorem styleLoops_holds : Rows.StyleLoopsSaid :=
  OpenClaim.holds_of_wide 3 Try.f3 rfl rfl rfl rfl rfl rfl rfl ⟨rfl, rfl, rfl, rfl, rfl⟩ rfl rfl rfl rfl rfl (by kernel_rfl) Try.func3 (by kernel_rfl)
    (of_decide_eq_true (by kernel_rfl)) (by unfold Func.isWrapper; first | (rw [if_pos (by decide +kernel)]; kernel_rfl) | (rw [if_neg (by decide +kernel)]; exact ⟨rfl, rfl⟩))
    (fun os started H enc _ => loops_lifted os started H enc)

end Go.Proofs.Ytgbcpfeopaidmaa
