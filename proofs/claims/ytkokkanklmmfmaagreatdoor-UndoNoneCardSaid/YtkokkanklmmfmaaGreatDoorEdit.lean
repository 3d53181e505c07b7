/-
  An edit among a claim's arguments.
-/
import Derived.Test.YtkokkanklmmfmaaGreatDoorLarge
import Derived.Test.YtkokkanklmmfmaaGreatDoorEngI4
set_option linter.all false
namespace Go.Eng
open Go

theorem cellK_int {P : Program} {σ : St} {n : Nat} {k : IntKind} {v : Value} (h : CellK P σ n (.i k) v) : ∃ x, v = .int k x := by
  cases n <;> (obtain ⟨x, rfl, _⟩ := h; exact ⟨x, rfl⟩)
theorem cellK_str {P : Program} {σ : St} {n : Nat} {v : Value} (h : CellK P σ n .s v) : ∃ s, v = .string s := by
  cases n <;> (obtain ⟨x, rfl, _⟩ := h; exact ⟨x, rfl⟩)

theorem kindsL_mono {f g : TypeId → Option (List CK)} (hfg : ∀ t ks, f t = some ks → g t = some ks) : ∀ (fs : List Field) (off : Nat) (ks : List CK), kindsL f fs off = some ks → kindsL g fs off = some ks
  | [], off, ks, h => h
  | d :: ds, off, ks, h => by
    unfold kindsL at h ⊢
    split at h
    · cases h
    · rename_i ho
      rw [if_neg ho]
      split at h
      · rename_i m hm
        simp only [Option.map_eq_some_iff] at h
        obtain ⟨k2, h2, rfl⟩ := h
        rw [hfg _ _ hm]
        simp only [kindsL_mono hfg ds _ _ h2, Option.map_some]
      · cases h
theorem kindsT_succ {P : Program} : ∀ (d : Nat) (t : TypeId) (ks : List CK), kindsT P d t = some ks → kindsT P (d + 1) t = some ks
  | 0, t, ks, h => by simp [kindsT] at h
  | d + 1, t, ks, h => by
    have ih := kindsT_succ (P := P) d
    unfold kindsT at h ⊢
    split at h
    · exact h
    · exact h
    · exact h
    · split at h
      · rename_i k hk; simp only [ih _ _ hk]; exact h
      · cases h
    · simp only [Option.bind_eq_some_iff] at h ⊢
      obtain ⟨k, h1, h2⟩ := h
      exact ⟨k, kindsL_mono ih _ _ _ h1, h2⟩
    · split at h
      · rename_i m hm; simp only [ih _ _ hm]; exact h
      · cases h
    · cases h
theorem kindsT_mono {P : Program} {t : TypeId} {ks : List CK} : ∀ {d d' : Nat}, d ≤ d' → kindsT P d t = some ks → kindsT P d' t = some ks := by
  intro d d' hd h
  induction hd with
  | refl => exact h
  | step _ ih => exact kindsT_succ _ _ _ ih
theorem kindsT_det {P : Program} {t : TypeId} {a b : List CK} {d d' : Nat} (h : kindsT P d t = some a) (h' : kindsT P d' t = some b) : a = b := by
  have h1 := kindsT_mono (Nat.le_max_left d d') h
  have h2 := kindsT_mono (Nat.le_max_right d d') h'
  rw [h1] at h2
  exact Option.some.inj h2

theorem kinds_edit : kindsT Proofs.Tryz.prog 12 40 = some [.i .i64, .i .i64, .i .i64, .s, .i .i64, .i .i64, .i .i64, .s, .s, .sl 135, .i .i64, .i .i64, .i .i64, .i .i64, .i .i64, .sl 9, .i .i64, .i .i64, .i .i64, .i .i64, .i .i64, .i .i64, .i .i64, .i .i64, .i .i64, .i .i64, .i .i64, .s, .s, .s, .s, .s, .s, .sl 128] := by kernel_rfl
theorem kinds_setting : kindsT Proofs.Tryz.prog 12 135 = some [.i .i64, .i .i64] := by kernel_rfl
theorem kinds_string : kindsT Proofs.Tryz.prog 12 9 = some [.s] := by kernel_rfl
theorem kinds_frame : kindsT Proofs.Tryz.prog 12 128 = some [.i .i64, .i .i64, .i .i64, .i .i64, .i .i64] := by kernel_rfl

def g00 : Gh := ⟨fun _ => none, fun _ => 0, fun _ => 0⟩
theorem good0 (P : Program) (w : World) : Good P w g00 ⟨.nil, 0⟩ := by
  have hg : ∀ i, (⟨.nil, 0⟩ : St).get i = none := fun i => Tr.get_nil i
  exact ⟨⟨fun i o b bs h => (by rw [hg] at h; cases h), fun i j oi oj b bi bj _ h => (by rw [hg] at h; cases h), fun i b bs h => (by cases h), fun i _ => ⟨hg i, rfl⟩⟩, fun i o h => by rw [hg] at h; cases h⟩

theorem edit_import {H : Type} {enc : TypeId × Value → H} {W : World} {fuel : Nat} {cs : List Value} {x : DataW H × List MemPlace} (ht : DataW.trod enc Proofs.Tryz.prog W 0 (fun _ => true) true fuel 40 cs = some x) :
    ∃ (e : EditA) (g : Gh) (o0 o1 o2 : Option AObj), Good Proofs.Tryz.prog W g (st3 o0 o1 o2) ∧ LRel g e.cells cs ∧ StrRow (st3 o0 o1 o2) e.a15 e.l15 := by
  obtain ⟨g, σ, cs1, _, G, l, q⟩ := trod_imp fuel _ _ _ 12 _ ht kinds_edit g00 _ (good0 _ W)
  cases q with | cons h0 q =>
  cases l with | cons r0 l =>
  cases q with | cons h1 q =>
  cases l with | cons r1 l =>
  cases q with | cons h2 q =>
  cases l with | cons r2 l =>
  cases q with | cons h3 q =>
  cases l with | cons r3 l =>
  cases q with | cons h4 q =>
  cases l with | cons r4 l =>
  cases q with | cons h5 q =>
  cases l with | cons r5 l =>
  cases q with | cons h6 q =>
  cases l with | cons r6 l =>
  cases q with | cons h7 q =>
  cases l with | cons r7 l =>
  cases q with | cons h8 q =>
  cases l with | cons r8 l =>
  cases q with | cons h9 q =>
  cases l with | cons r9 l =>
  cases q with | cons h10 q =>
  cases l with | cons r10 l =>
  cases q with | cons h11 q =>
  cases l with | cons r11 l =>
  cases q with | cons h12 q =>
  cases l with | cons r12 l =>
  cases q with | cons h13 q =>
  cases l with | cons r13 l =>
  cases q with | cons h14 q =>
  cases l with | cons r14 l =>
  cases q with | cons h15 q =>
  cases l with | cons r15 l =>
  cases q with | cons h16 q =>
  cases l with | cons r16 l =>
  cases q with | cons h17 q =>
  cases l with | cons r17 l =>
  cases q with | cons h18 q =>
  cases l with | cons r18 l =>
  cases q with | cons h19 q =>
  cases l with | cons r19 l =>
  cases q with | cons h20 q =>
  cases l with | cons r20 l =>
  cases q with | cons h21 q =>
  cases l with | cons r21 l =>
  cases q with | cons h22 q =>
  cases l with | cons r22 l =>
  cases q with | cons h23 q =>
  cases l with | cons r23 l =>
  cases q with | cons h24 q =>
  cases l with | cons r24 l =>
  cases q with | cons h25 q =>
  cases l with | cons r25 l =>
  cases q with | cons h26 q =>
  cases l with | cons r26 l =>
  cases q with | cons h27 q =>
  cases l with | cons r27 l =>
  cases q with | cons h28 q =>
  cases l with | cons r28 l =>
  cases q with | cons h29 q =>
  cases l with | cons r29 l =>
  cases q with | cons h30 q =>
  cases l with | cons r30 l =>
  cases q with | cons h31 q =>
  cases l with | cons r31 l =>
  cases q with | cons h32 q =>
  cases l with | cons r32 l =>
  cases q with | cons h33 q =>
  cases l with | cons r33 l =>
  cases q with | nil =>
  cases l with | nil =>
  obtain ⟨x0, rfl⟩ := cellK_int h0
  obtain ⟨x1, rfl⟩ := cellK_int h1
  obtain ⟨x2, rfl⟩ := cellK_int h2
  obtain ⟨x3, rfl⟩ := cellK_str h3
  obtain ⟨x4, rfl⟩ := cellK_int h4
  obtain ⟨x5, rfl⟩ := cellK_int h5
  obtain ⟨x6, rfl⟩ := cellK_int h6
  obtain ⟨x7, rfl⟩ := cellK_str h7
  obtain ⟨x8, rfl⟩ := cellK_str h8
  obtain ⟨l9, c9, a9, o9, b9, p9, _, _⟩ := plain_sl G.rel (fun d' ks' hk => kindsT_det hk kinds_setting) rfl h9 r9
  obtain ⟨x10, rfl⟩ := cellK_int h10
  obtain ⟨x11, rfl⟩ := cellK_int h11
  obtain ⟨x12, rfl⟩ := cellK_int h12
  obtain ⟨x13, rfl⟩ := cellK_int h13
  obtain ⟨x14, rfl⟩ := cellK_int h14
  obtain ⟨l15, c15, a15, o15, b15, p15, _, _⟩ := plain_sl G.rel (fun d' ks' hk => kindsT_det hk kinds_string) rfl h15 r15
  obtain ⟨x16, rfl⟩ := cellK_int h16
  obtain ⟨x17, rfl⟩ := cellK_int h17
  obtain ⟨x18, rfl⟩ := cellK_int h18
  obtain ⟨x19, rfl⟩ := cellK_int h19
  obtain ⟨x20, rfl⟩ := cellK_int h20
  obtain ⟨x21, rfl⟩ := cellK_int h21
  obtain ⟨x22, rfl⟩ := cellK_int h22
  obtain ⟨x23, rfl⟩ := cellK_int h23
  obtain ⟨x24, rfl⟩ := cellK_int h24
  obtain ⟨x25, rfl⟩ := cellK_int h25
  obtain ⟨x26, rfl⟩ := cellK_int h26
  obtain ⟨x27, rfl⟩ := cellK_str h27
  obtain ⟨x28, rfl⟩ := cellK_str h28
  obtain ⟨x29, rfl⟩ := cellK_str h29
  obtain ⟨x30, rfl⟩ := cellK_str h30
  obtain ⟨x31, rfl⟩ := cellK_str h31
  obtain ⟨x32, rfl⟩ := cellK_str h32
  obtain ⟨l33, c33, a33, o33, b33, p33, _, _⟩ := plain_sl G.rel (fun d' ks' hk => kindsT_det hk kinds_frame) rfl h33 r33
  cases r0
  cases r1
  cases r2
  cases r3
  cases r4
  cases r5
  cases r6
  cases r7
  cases r8
  cases r10
  cases r11
  cases r12
  cases r13
  cases r14
  cases r16
  cases r17
  cases r18
  cases r19
  cases r20
  cases r21
  cases r22
  cases r23
  cases r24
  cases r25
  cases r26
  cases r27
  cases r28
  cases r29
  cases r30
  cases r31
  cases r32
  refine ⟨⟨x0, x1, x2, x4, x5, x6, x10, x11, x12, x13, x14, x16, x17, x18, x19, x20, x21, x22, x23, x24, x25, x26, x3, x7, x8, x27, x28, x29, x30, x31, x32, a9 0, a15 1, a33 2, l9, c9, l15, c15, l33, c33⟩, gh3 b9 b15 b33, o9, o15, o33, good3 p9 p15 p33, ?_, ?_⟩
  · exact .cons (.int _ _) (.cons (.int _ _) (.cons (.int _ _) (.cons (.str _) (.cons (.int _ _) (.cons (.int _ _) (.cons (.int _ _) (.cons (.str _) (.cons (.str _) (.cons (p9.val _ 0 rfl) (.cons (.int _ _) (.cons (.int _ _) (.cons (.int _ _) (.cons (.int _ _) (.cons (.int _ _) (.cons (p15.val _ 1 rfl) (.cons (.int _ _) (.cons (.int _ _) (.cons (.int _ _) (.cons (.int _ _) (.cons (.int _ _) (.cons (.int _ _) (.cons (.int _ _) (.cons (.int _ _) (.cons (.int _ _) (.cons (.int _ _) (.cons (.int _ _) (.cons (.str _) (.cons (.str _) (.cons (.str _) (.cons (.str _) (.cons (.str _) (.cons (.str _) (.cons (p33.val _ 2 rfl) .nil)))))))))))))))))))))))))))))))))
  · rcases p15.row with h | ⟨row, ha, ho, hl, hc⟩
    · exact .inl h
    · refine .inr ⟨1, row, ha 1, (show 1 < 3 by decide), ?_, by simpa using hl, fun j u hj => ?_⟩
      · have : (st3 o9 o15 o33).get 1 = some (.row row 1 false true) := by rw [st3_get, if_neg (by omega), if_pos rfl, ho]; rfl
        simp only [rowOf, this]
      · obtain ⟨s, hs, _⟩ := hc j u .s hj (by simp [Nat.mod_one])
        exact ⟨s, hs⟩

end Go.Eng

