/-
  The operations that look at no memory, all together: the model's operation answers what the interpreter says.
-/
import Derived.Test.YtgbcpfeopaidmaaEngF
set_option linter.all false
namespace Go.Eng
open Go

section
variable {P : Program} {w : World}

theorem bndA_ok {g : Gh} {v v' : Value} {most n : Nat} (h : bndA v most = some n) (hv : VRel g v v') (code : BoundsCode) {real : Nat} (hle : most ≤ real) :
    (Instr.sliceBound v' real code).run P w = .ok n w ∧ n ≤ most := by
  unfold bndA at h
  split at h
  · cases hv
    split at h
    · rename_i hc
      simp at h; subst h
      refine ⟨?_, by omega⟩
      simp only [Instr.sliceBound, asIntOf, Sem.run_bind, Sem.run_pure, Result.andThen_ok]
      rw [if_pos ⟨hc.1, by omega⟩]; rfl
    · simp at h
  · simp at h

theorem argO_ok {g : Gh} {nt : Nat} {ρ : Env} {a : Act} (hρ : ERel g nt ρ a.tmps) {x : Option Operand} {y : Option Arg} (hx : argO x = some y) :
    (x = none ∧ y = none) ∨ ∃ o b, x = some o ∧ y = some b ∧ argC o = some b ∧ VRel g (b.get ρ) (a.eval o) := by
  cases x with
  | none => simp [argO] at hx; exact .inl ⟨rfl, hx.symm⟩
  | some o =>
    simp [argO] at hx
    obtain ⟨b, h1, h2⟩ := hx
    exact .inr ⟨o, b, rfl, h2.symm, h1, arg_ok hρ h1⟩

/-- The bounds of a slice expression: 'real' is the capacity as the model has it, 'known' what the interpreter knows of it. -/
theorem bounds_ok {g : Gh} {nt : Nat} {ρ : Env} {a : Act} (hρ : ERel g nt ρ a.tmps) {lo hi mx : Option Operand} {lo' hi' mx' : Option Arg} (h1 : argO lo = some lo') (h2 : argO hi = some hi')
    (h3 : argO mx = some mx') {known real len dflt m h l : Nat} (hkr : known ≤ real) (isSl : Bool) (hm : bndO ρ mx' known dflt = some m) (hh : bndO ρ hi' (if mx'.isSome then m else known) len = some h)
    (hx : (mx'.isSome && hi'.isNone) = false) (hl : bndO ρ lo' h 0 = some l) :
    (Instr.sliceBounds isSl len real (lo.map a.eval) (hi.map a.eval) (mx.map a.eval)).run P w = .ok (l, h, if mx'.isSome then m else real) w ∧ (mx'.isSome → m ≤ known ∧ h ≤ m) ∧ (lo' = none ∨ l ≤ h) ∧ (mx' = none → m = dflt) ∧ (hi' = none → h = len) ∧ (hi'.isSome → mx' = none → h ≤ known) ∧ (lo' = none → l = 0) := by
  rcases argO_ok hρ h3 with ⟨rfl, rfl⟩ | ⟨om, bm, rfl, rfl, _, rm⟩
  · simp only [bndO, Option.some.injEq, Option.isSome_none, Bool.false_eq_true, if_false] at hm hh
    subst hm
    rcases argO_ok hρ h2 with ⟨rfl, rfl⟩ | ⟨oh, bh, rfl, rfl, _, rh⟩
    · simp only [bndO, Option.some.injEq] at hh
      subst hh
      rcases argO_ok hρ h1 with ⟨rfl, rfl⟩ | ⟨ol, bl, rfl, rfl, _, rl⟩
      · simp only [bndO, Option.some.injEq] at hl
        subst hl
        simp [Instr.sliceBounds]
      · simp only [bndO] at hl
        obtain ⟨e, hle⟩ := bndA_ok (P := P) (w := w) hl rl .sliceB (Nat.le_refl _)
        simp [Instr.sliceBounds, e, hle]
    · simp only [bndO] at hh
      have ⟨e, hle⟩ := bndA_ok (P := P) (w := w) hh rh (if isSl then .sliceAcap else .sliceAlen) hkr
      rcases argO_ok hρ h1 with ⟨rfl, rfl⟩ | ⟨ol, bl, rfl, rfl, _, rl⟩
      · simp only [bndO, Option.some.injEq] at hl
        subst hl
        simp [Instr.sliceBounds, e, hle]
      · simp only [bndO] at hl
        obtain ⟨e2, hle2⟩ := bndA_ok (P := P) (w := w) hl rl .sliceB (Nat.le_refl _)
        simp [Instr.sliceBounds, e, e2, hle, hle2]
  · simp only [bndO, Option.isSome_some, if_true] at hm hh
    have ⟨e0, hle0⟩ := bndA_ok (P := P) (w := w) hm rm (if isSl then .slice3Acap else .slice3Alen) hkr
    rcases argO_ok hρ h2 with ⟨rfl, rfl⟩ | ⟨oh, bh, rfl, rfl, _, rh⟩
    · simp at hx
    · simp only [bndO] at hh
      have ⟨e, hle⟩ := bndA_ok (P := P) (w := w) hh rh .slice3B (Nat.le_refl _)
      rcases argO_ok hρ h1 with ⟨rfl, rfl⟩ | ⟨ol, bl, rfl, rfl, _, rl⟩
      · simp only [bndO, Option.some.injEq] at hl
        subst hl
        simp [Instr.sliceBounds, e, e0, hle, hle0]
      · simp only [bndO] at hl
        obtain ⟨e2, hle2⟩ := bndA_ok (P := P) (w := w) hl rl .slice3C (Nat.le_refl _)
        simp [Instr.sliceBounds, e, e0, e2, hle, hle0, hle2]

theorem mul_eq_zero_iff' {l e : Nat} (he : 0 < e) : l * e = 0 ↔ l = 0 := by
  constructor
  · intro h; rcases Nat.mul_eq_zero.1 h with h | h
    · exact h
    · omega
  · intro h; simp [h]

/-- A slice of a slice whose capacity is known. -/
theorem evSl_ok {g : Gh} {nt : Nat} {ρ : Env} {a : Act} (hρ : ERel g nt ρ a.tmps) {lo hi mx : Option Operand} {lo' hi' mx' : Option Arg} (h1 : argO lo = some lo') (h2 : argO hi = some hi')
    (h3 : argO mx = some mx') {t e : TypeId} {n : Nat} (ht : P.underlying t = some (.slice e)) (hn : sizeT P e = some n) {x x' v : Value} (hx : VRel g x x') (hv : evSl ρ n x lo' hi' mx' = some v) (hn0 : 0 < n) :
    ∃ v', (Instr.sliceAt t x' (lo.map a.eval) (hi.map a.eval) (mx.map a.eval)).run P w = .ok v' w ∧ VRel g v v' := by
  unfold evSl at hv
  split at hv
  · rename_i ad len cap
    simp only at hv
    split at hv
    · simp at hv
    · rename_i m hm
      split at hv
      · simp at hv
      · rename_i h hh
        split at hv
        · simp at hv
        · rename_i hb
          split at hv
          · simp at hv
          · rename_i l hl
            split at hv
            · simp at hv
            · rename_i hcu
              simp only [Option.some.injEq] at hv
              subst hv
              have hb' : (mx'.isSome && hi'.isNone) = false := by cases mx' <;> cases hi' <;> simp at hb ⊢
              -- the model's own capacity
              have key : ∀ (real : Nat) (ad' : Option Addr), (if cap = capU then len else cap) ≤ real → (cap ≠ capU → real = cap) → len ≤ real → x' = .slice ad' len real →
                  ((Instr.sliceAt t x' (lo.map a.eval) (hi.map a.eval) (mx.map a.eval)).run P w = .ok (.slice (if m = l then ad' else ad'.map (·.add (l * n))) (h - l) (m - l)) w ∧ h ≤ m ∧ m ≤ real ∧ l ≤ h) := by
                intro real ad' hkr hreal hlr hxe
                obtain ⟨e1, e2, e3, e4, e5, e6, e7⟩ := bounds_ok (P := P) (w := w) hρ h1 h2 h3 hkr true hm hh hb' hl
                have hmm : (if mx'.isSome then m else real) = m := by
                  cases mx' with
                  | some _ => rfl
                  | none =>
                    have hcap : cap ≠ capU := by simpa using hcu
                    have hm' := e4 rfl
                    simp only [Option.isSome_none, Bool.false_eq_true, if_false]
                    rw [hreal hcap, hm']
                rw [hmm] at e1
                subst hxe
                refine ⟨by simp only [Instr.sliceAt, Sem.run_bind, run_und ht, Result.andThen_ok, Instr.slice, e1, run_size hn, Sem.run_pure], ?_, ?_, ?_⟩
                · cases mx' with
                  | some _ => exact (e2 rfl).2
                  | none =>
                    have hcap : cap ≠ capU := by simpa using hcu
                    have hm' := e4 rfl
                    cases hi' with
                    | some _ => have := e6 rfl rfl; rw [if_neg hcap] at this; omega
                    | none => have := e5 rfl; have := hreal hcap; omega
                · cases mx' with
                  | some _ => have := (e2 rfl).1; omega
                  | none =>
                    have hcap : cap ≠ capU := by simpa using hcu
                    have hm' := e4 rfl
                    have := hreal hcap; omega
                · rcases e3 with e3 | e3
                  · have := e7 e3; omega
                  · exact e3
              cases hx with
              | sl0 =>
                obtain ⟨k1, k2, k3, k4⟩ := key 0 none (by rw [if_neg (by decide)]; exact Nat.le_refl _) (fun _ => rfl) (Nat.le_refl _) rfl
                refine ⟨_, k1, ?_⟩
                have hm0 : m = 0 := by omega
                have hh0 : h = 0 := by omega
                have hl0 : l = 0 := by omega
                subst hm0; subst hh0; subst hl0
                exact .sl0
              | sl hblk hll hu hcap =>
                rename_i i o b base c'
                obtain ⟨k1, k2, k3, k4⟩ := key c' (some ⟨b, base + o, none⟩) (by
                  split
                  · exact hll
                  · rename_i hne; rcases hcap with hcap | hcap
                    · omega
                    · exact absurd hcap.1 hne) (fun hne => by
                  rcases hcap with hcap | hcap
                  · exact hcap
                  · exact absurd hcap.1 hne) hll rfl
                refine ⟨_, k1, ?_⟩
                by_cases hml : m = l
                · simp only [hml, if_true]
                  exact .sl hblk (by omega) (by omega) (.inl rfl)
                · simp only [hml, if_false, Option.map_some, addA_eq]
                  by_cases hln : l * n = 0
                  · simp only [Addr.add, hln, if_true]
                    exact .sl hblk (by omega) (by omega) (.inl rfl)
                  · simp only [Addr.add, hln, if_false]
                    rw [Nat.add_assoc]
                    exact .sl hblk (by omega) (by omega) (.inl rfl)
              | slz =>
                rename_i ad ad'
                obtain ⟨k1, k2, k3, k4⟩ := key 0 (some ad') (by rw [if_neg (by decide)]; exact Nat.le_refl _) (fun _ => rfl) (Nat.le_refl _) rfl
                refine ⟨_, k1, ?_⟩
                have hm0 : m = 0 := by omega
                have hh0 : h = 0 := by omega
                have hl0 : l = 0 := by omega
                subst hm0; subst hh0; subst hl0
                exact .slz
              | slu hbb hj =>
                rename_i ad'
                obtain ⟨k1, k2, k3, k4⟩ := key 0 (some ad') (by rw [if_pos rfl]; exact Nat.le_refl _) (fun hne => absurd rfl hne) (Nat.le_refl _) rfl
                refine ⟨_, k1, ?_⟩
                have hm0 : m = 0 := by omega
                have hh0 : h = 0 := by omega
                have hl0 : l = 0 := by omega
                subst hm0; subst hh0; subst hl0
                exact .slz
  · simp at hv

/-- A slice of an array. -/
theorem evSa_ok {g : Gh} {nt : Nat} {ρ : Env} {a : Act} (hρ : ERel g nt ρ a.tmps) {lo hi mx : Option Operand} {lo' hi' mx' : Option Arg} (h1 : argO lo = some lo') (h2 : argO hi = some hi')
    (h3 : argO mx = some mx') {e : TypeId} {len n : Nat} (hn : sizeT P e = some n) {x x' v : Value} (hx : VRel g x x') (hv : evSa ρ len n x lo' hi' mx' = some v) :
    ∃ ad l h m v', x' = .pointer (some ad) ∧ (Instr.sliceBounds false len len (lo.map a.eval) (hi.map a.eval) (mx.map a.eval)).run P w = .ok (l, h, m) w ∧
      v' = .slice (some (if m = l then ad else ad.add (l * n))) (h - l) (m - l) ∧ VRel g v v' := by
  unfold evSa at hv
  split at hv
  · rename_i ad
    split at hv
    · simp at hv
    · rename_i m hm
      split at hv
      · simp at hv
      · rename_i h hh
        split at hv
        · simp at hv
        · rename_i hb
          split at hv
          · simp at hv
          · rename_i l hl
            split at hv
            · rename_i hcu
              simp only [Option.some.injEq] at hv
              subst hv
              have hb' : (mx'.isSome && hi'.isNone) = false := by cases mx' <;> cases hi' <;> simp at hb ⊢
              obtain ⟨e1, e2, e3, e4, e5, e6, e7⟩ := bounds_ok (P := P) (w := w) hρ h1 h2 h3 (Nat.le_refl len) false hm hh hb' hl
              have hmm : (if mx'.isSome then m else len) = m := by
                cases mx' with
                | some _ => rfl
                | none => simp only [Option.isSome_none, Bool.false_eq_true, if_false]; exact (e4 rfl).symm
              rw [hmm] at e1
              have b1 : h ≤ m := by
                cases mx' with
                | some _ => exact (e2 rfl).2
                | none =>
                  have hm' := e4 rfl
                  cases hi' with
                  | some _ => have := e6 rfl rfl; omega
                  | none => have := e5 rfl; omega
              have b2 : m ≤ len := by
                cases mx' with
                | some _ => exact (e2 rfl).1
                | none => have := e4 rfl; omega
              have b3 : l ≤ h := by
                rcases e3 with e3 | e3
                · have := e7 e3; omega
                · exact e3
              cases hx with
              | ptr hblk =>
                rename_i i o b base
                refine ⟨_, l, h, m, _, rfl, e1, rfl, ?_⟩
                by_cases hml : m = l
                · simp only [hml, if_true]
                  exact .sl hblk (by omega) (by omega) (.inl rfl)
                · simp only [hml, if_false, addA_eq]
                  by_cases hln : l * n = 0
                  · simp only [Addr.add, hln, if_true]
                    exact .sl hblk (by omega) (by omega) (.inl rfl)
                  · simp only [Addr.add, hln, if_false]
                    rw [Nat.add_assoc]
                    exact .sl hblk (by omega) (by omega) (.inl rfl)
            · simp at hv
  · simp at hv

end
end Go.Eng
