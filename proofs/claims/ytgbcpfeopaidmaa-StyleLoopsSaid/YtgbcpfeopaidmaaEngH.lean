/-
  The operations that look at no memory, all together: the model's operation answers what the interpreter says.
-/
import Derived.Test.YtgbcpfeopaidmaaEngG
set_option linter.all false
namespace Go.Eng
open Go

section
variable {P : Program} {w : World}

theorem run_indexAt_sl {t e : TypeId} {n : Nat} (ht : P.underlying t = some (.slice e)) (hn : sizeT P e = some n) {ad : Addr} {len cap : Nat} {k : IntKind} {i : Int} (hi : 0 ≤ i ∧ i < (len : Int)) :
    (Instr.indexAt t (.slice (some ad) len cap) (.int k i)).run P w = .ok (.pointer (some (ad.add (i.toNat * n)))) w := by
  simp [Instr.indexAt, asIntOf, run_und ht, hi, run_size hn]

theorem run_indexAt_arr {t e : TypeId} {m n : Nat} (ht : P.underlying t = some (.array m e)) (hn : sizeT P e = some n) {ad : Addr} {k : IntKind} {i : Int} (hi : 0 ≤ i ∧ i < (m : Int)) :
    (Instr.indexAt t (.pointer (some ad)) (.int k i)).run P w = .ok (.pointer (some (ad.add (i.toNat * n)))) w := by
  simp [Instr.indexAt, asIntOf, run_und ht, hi, run_size hn, Instr.sureAddr]

theorem run_sliceAt_str {t : TypeId} (ht : P.underlying t = some .string) {s : ByteArray} {lo hi : Option Value} {l h m : Nat} (hb : (Instr.sliceBounds false s.size s.size lo hi none).run P w = .ok (l, h, m) w) :
    (Instr.sliceAt t (.string s) lo hi none).run P w = .ok (.string (s.extract l h)) w := by
  simp [Instr.sliceAt, run_und ht, Instr.slice, hb]

set_option maxHeartbeats 2000000 in
theorem evP_ok {g : Gh} {nt : Nat} {ρ : Env} {a : Act} (hρ : ERel g nt ρ a.tmps) {o : Oper} {i : Ins} (hi : insC P o = some i) {v : Value} (hv : evP ρ i = some v) :
    ∃ v', (execOp a.eval o).run P w = .ok (.value v') w ∧ VRel g v v' := by
  obtain ⟨dst, op, ty, pos, after, guard⟩ := o
  cases op with
  | move x =>
    simp only [insC, o2_some, Option.some.injEq] at hi
    obtain ⟨y, h1, rfl⟩ := hi
    simp only [evP, Option.some.injEq] at hv; subst hv
    exact ⟨_, rfl, arg_ok hρ h1⟩
  | assign x =>
    simp only [insC, o2_some, Option.some.injEq] at hi
    obtain ⟨y, h1, rfl⟩ := hi
    simp only [evP, Option.some.injEq] at hv; subst hv
    exact ⟨_, rfl, arg_ok hρ h1⟩
  | pick c x y =>
    simp only [insC, o2_some, Option.some.injEq] at hi
    obtain ⟨c', h1, x', h2, y', h3, rfl⟩ := hi
    have r1 := arg_ok hρ h1
    have r2 := arg_ok hρ h2
    have r3 := arg_ok hρ h3
    simp only [evP] at hv
    generalize c'.get ρ = cv at hv r1
    split at hv
    · rename_i b
      generalize hcv : a.eval c = cw at r1
      cases r1
      simp only [Option.some.injEq] at hv; subst hv
      refine ⟨if b then a.eval x else a.eval y, by simp [execOp, hcv, asBool], ?_⟩
      cases b
      · exact r3
      · exact r2
    · simp at hv
  | alloc t =>
    simp only [insC, o2_some] at hi
    obtain ⟨z, h1, h2⟩ := hi
    split at h2 <;> simp at h2
    subst h2; simp [evP] at hv
  | box t x =>
    simp only [insC, o2_some, Option.some.injEq] at hi
    obtain ⟨y, h1, rfl⟩ := hi
    simp [evP] at hv
  | build t parts =>
    simp only [insC, o2_some] at hi
    obtain ⟨z, h1, h2⟩ := hi
    split at h2
    · simp at h2
    · rename_i hz
      have hz' : closedV z = true := by simpa using hz
      have hzr := closedV_cells g hz'
      have hzero := run_zero (w := w) h1
      split at h2
      · rename_i fs hu
        simp only [o2_some, Option.some.injEq] at h2
        obtain ⟨pl, h3, ps, h4, rfl⟩ := h2
        simp only [evP, Option.map_eq_some_iff] at hv
        obtain ⟨cs, hf, rfl⟩ := hv
        obtain ⟨cs', e1, e2⟩ := fill_ok hρ (zs' := z.cells) h4 hf hzr
        refine ⟨.agg cs', ?_, ?_⟩
        · have hpl := places_arr (P := P) (w := w) fs pl h3
          have hpl' : (fs.mapM fun f => do pure (f.offset, ← sizeOf f.type) : Sem (Array (Nat × Nat))).run P w = .ok pl.toArray w := hpl
          simp only [execOp, Instr.build, Sem.run_bind, hzero, Result.andThen_ok, run_und hu, hpl', Sem.run_pure, parts_arr]
          have : (fun x : Nat => pl.toArray[x]?) = fun i : Nat => pl[i]? := by funext i; simp
          rw [this, e1]
          simp
        · obtain ⟨cs'⟩ := cs'
          exact .agg e2
      · rename_i n e hu
        simp only [o2_some, Option.some.injEq] at h2
        obtain ⟨m, h3, ps, h4, rfl⟩ := h2
        simp only [evP, Option.map_eq_some_iff] at hv
        obtain ⟨cs, hf, rfl⟩ := hv
        obtain ⟨cs', e1, e2⟩ := fill_ok hρ (zs' := z.cells) h4 hf hzr
        refine ⟨.agg cs', ?_, ?_⟩
        · simp only [execOp, Instr.build, Sem.run_bind, hzero, Result.andThen_ok, run_und hu, run_size h3, Sem.run_pure, parts_arr, e1]
        · obtain ⟨cs'⟩ := cs'
          exact .agg e2
      · simp at h2
  | buildSlice t len parts =>
    simp only [insC] at hi
    split at hi
    · simp only [o2_some] at hi
      obtain ⟨n, h1, z, h2, h3⟩ := hi
      split at h3
      · simp at h3
      · simp only [o2_some, Option.some.injEq] at h3
        obtain ⟨ps, h4, rfl⟩ := h3
        simp [evP] at hv
    · simp at hi
  | insert t m k x =>
    simp only [insC] at hi
    split at hi
    · simp only [o2_some, Option.some.injEq] at hi
      obtain ⟨s, _, m', _, k', _, x', _, rfl⟩ := hi
      simp [evP] at hv
    · simp at hi
  | load t x =>
    simp only [insC, o2_some, Option.some.injEq] at hi
    obtain ⟨gg, h1, y, h2, rfl⟩ := hi
    simp [evP] at hv
  | store t x y =>
    simp only [insC, o2_some, Option.some.injEq] at hi
    obtain ⟨gg, h1, y, h2, z, h3, rfl⟩ := hi
    simp [evP] at hv
  | nilCheck x =>
    simp only [insC, o2_some, Option.some.injEq] at hi
    obtain ⟨y, h1, rfl⟩ := hi
    have r1 := arg_ok hρ h1
    simp only [evP] at hv
    generalize y.get ρ = cv at hv r1
    split at hv
    · simp only [Option.some.injEq] at hv; subst hv
      generalize hcv : a.eval x = cw at r1
      cases r1 with
      | ptr hb => exact ⟨_, by simp [execOp, hcv], .ptr hb⟩
    · simp only [Option.some.injEq] at hv; subst hv
      generalize hcv : a.eval x = cw at r1
      cases r1 with
      | fn hx hy => exact ⟨_, by simp [execOp, hcv], .fn hx hy⟩
    · simp at hv
  | binOp op t x y yt =>
    simp only [insC, o2_some, Option.some.injEq] at hi
    obtain ⟨x', h1, y', h2, rfl⟩ := hi
    simp only [evP] at hv
    have hg := guard_ok (P := P) (w := w) (o1 := x) (o2 := y) hv (arg_ok hρ h1) (arg_ok hρ h2)
    obtain ⟨v', e1, e2⟩ := binA_ok (P := P) (w := w) hv (arg_ok hρ h1) (arg_ok hρ h2)
    exact ⟨v', by simp [execOp, hg, e1], e2⟩
  | unOp op t x =>
    simp only [insC, o2_some, Option.some.injEq] at hi
    obtain ⟨x', h1, rfl⟩ := hi
    simp only [evP] at hv
    obtain ⟨v', e1, e2⟩ := unA_ok (P := P) (w := w) hv (arg_ok hρ h1)
    exact ⟨v', by simp [execOp, e1], e2⟩
  | convert s d x =>
    simp only [insC] at hi
    split at hi
    · rename_i ks kd hs hd
      simp only [o2_some, Option.some.injEq] at hi
      obtain ⟨x', h1, rfl⟩ := hi
      have r1 := arg_ok hρ h1
      simp only [evP] at hv
      generalize x'.get ρ = cv at hv r1
      split at hv
      · simp only [Option.some.injEq] at hv; subst hv
        generalize hcv : a.eval x = cw at r1
        cases r1
        exact ⟨_, by simp [execOp, hcv, convert, run_und hs, run_und hd, Conv.intToInt], .int _ _⟩
      · simp at hv
    · rename_i hs hd
      simp only [o2_some, Option.some.injEq] at hi
      obtain ⟨x', h1, rfl⟩ := hi
      have r1 := arg_ok hρ h1
      simp only [evP] at hv
      generalize x'.get ρ = cv at hv r1
      split at hv
      · simp only [Option.some.injEq] at hv; subst hv
        generalize hcv : a.eval x = cw at r1
        cases r1
        exact ⟨_, by simp [execOp, hcv, convert, run_und hs, run_und hd], .str _⟩
      · simp at hv
    · split at hi
      · simp only [o2_some, Option.some.injEq] at hi
        obtain ⟨x', h1, rfl⟩ := hi
        simp [evP] at hv
      · simp at hi
    · split at hi
      · simp only [o2_some, Option.some.injEq] at hi
        obtain ⟨x', h1, rfl⟩ := hi
        simp [evP] at hv
      · simp at hi
    · simp at hi
  | makeInterface t x =>
    simp only [insC] at hi
    split at hi
    · simp at hi
    · rename_i d hd hu
      simp only [o2_some, Option.some.injEq] at hi
      obtain ⟨x', h1, rfl⟩ := hi
      simp only [evP, Option.some.injEq] at hv; subst hv
      refine ⟨.iface t (a.eval x), ?_, .iface (arg_ok hρ h1)⟩
      cases d with
      | interface ms => exact absurd rfl (hd ms)
      | _ => simp [execOp, Instr.makeInterface, run_und hu]
    · simp at hi
  | makeFunc fn first cap =>
    cases fn with
    | func f =>
      simp only [insC, o2_some, Option.some.injEq] at hi
      obtain ⟨fs, h1, cs, h2, rfl⟩ := hi
      simp only [evP, Option.some.injEq] at hv; subst hv
      refine ⟨.func (.func f) (first.map a.eval) (cap.map a.eval), by simp [execOp, Instr.makeFunc], ?_⟩
      have e1 : first.map a.eval = ⟨first.toList.map a.eval⟩ := by cases first; simp
      have e2 : cap.map a.eval = ⟨cap.toList.map a.eval⟩ := by cases cap; simp
      rw [e1, e2]
      exact .fn (args_ok hρ h1) (args_ok hρ h2)
    | _ => simp [insC] at hi
  | slice t x lo hi' mx =>
    simp only [insC, o2_some] at hi
    obtain ⟨x', h1, lo', h2, hi'', h3, mx', h4, h5⟩ := hi
    have r1 := arg_ok hρ h1
    split at h5
    · rename_i hu
      split at h5
      · simp at h5
      · rename_i hm
        simp only [Option.some.injEq] at h5; subst h5
        have hmx : mx = none := by
          rcases argO_ok hρ h4 with ⟨e, _⟩ | ⟨_, _, _, e, _⟩
          · exact e
          · subst e; simp at hm
        have hmx' : mx' = none := by
          rcases argO_ok hρ h4 with ⟨_, e⟩ | ⟨_, _, _, e, _⟩
          · exact e
          · subst e; simp at hm
        subst hmx; subst hmx'
        simp only [evP] at hv
        generalize x'.get ρ = cv at hv r1
        split at hv
        · rename_i s
          generalize hcv : a.eval x = cw at r1
          cases r1
          split at hv
          · simp at hv
          · rename_i h hh
            split at hv
            · simp at hv
            · rename_i l hl
              simp only [Option.some.injEq] at hv; subst hv
              obtain ⟨e1, _⟩ := bounds_ok (P := P) (w := w) (len := s.size) (dflt := s.size) (m := s.size) hρ h2 h3 h4 (Nat.le_refl s.size) false rfl hh rfl hl
              have := run_sliceAt_str (P := P) (w := w) hu (s := s) (lo := lo.map a.eval) (hi := hi'.map a.eval) (by simpa using e1)
              exact ⟨_, by simp [execOp, hcv, this], .str _⟩
        · simp at hv
    · rename_i e hu
      simp only [o2_some] at h5
      obtain ⟨n, hn, h5⟩ := h5
      split at h5
      · simp at h5
      · rename_i hn0
        simp only [Option.some.injEq] at h5; subst h5
        simp only [evP] at hv
        obtain ⟨v', e1, e2⟩ := evSl_ok (P := P) (w := w) hρ h2 h3 h4 hu hn r1 hv (by omega)
        exact ⟨v', by simp [execOp, e1], e2⟩
    · rename_i m e hu
      simp only [o2_some, Option.some.injEq] at h5
      obtain ⟨n, hn, rfl⟩ := h5
      simp only [evP] at hv
      obtain ⟨ad, l, h, mm, v', e0, e1, e2, e3⟩ := evSa_ok (P := P) (w := w) hρ h2 h3 h4 hn r1 hv
      refine ⟨v', ?_, e3⟩
      rw [e2]
      simp only [execOp, Instr.sliceAt, Sem.run_bind, run_und hu, Result.andThen_ok, e0, Instr.sureAddr, e1, run_size hn, Sem.run_pure]
    · rename_i r hu
      split at h5
      · rename_i m e hur
        simp only [o2_some, Option.some.injEq] at h5
        obtain ⟨n, hn, rfl⟩ := h5
        simp only [evP] at hv
        obtain ⟨ad, l, h, mm, v', e0, e1, e2, e3⟩ := evSa_ok (P := P) (w := w) hρ h2 h3 h4 hn r1 hv
        refine ⟨v', ?_, e3⟩
        rw [e2]
        simp only [execOp, Instr.sliceAt, Sem.run_bind, run_und hu, run_und hur, Result.andThen_ok, e0, Instr.slice, asAddr, e1, run_size hn, Sem.run_pure]
      · simp at h5
    · simp at h5
  | fieldAddr s x f =>
    simp only [insC] at hi
    split at hi
    · rename_i fs hu
      split at hi
      · rename_i fd hf
        simp only [o2_some] at hi
        obtain ⟨n, hn, hi⟩ := hi
        split at hi
        · simp at hi
        · rename_i hn0
          simp only [o2_some, Option.some.injEq] at hi
          obtain ⟨x', h1, rfl⟩ := hi
          have r1 := arg_ok hρ h1
          simp only [evP] at hv
          generalize x'.get ρ = cv at hv r1
          split at hv
          · simp only [Option.some.injEq] at hv; subst hv
            generalize hcv : a.eval x = cw at r1
            cases r1 with
            | ptr hb =>
              have hf' : fs[f]? = some fd := by simpa using hf
              exact ⟨_, by simp [execOp, Instr.fieldAt, run_und hu, hf', hcv, Instr.sureAddr, fieldPlace, run_size hn, hn0], add_rel hb _⟩
          · simp at hv
      · simp at hi
    · simp at hi
  | field s x f =>
    simp only [insC] at hi
    split at hi
    · rename_i fs hu
      split at hi
      · rename_i fd hf
        simp only [o2_some, Option.some.injEq] at hi
        obtain ⟨gg, hg, x', h1, rfl⟩ := hi
        have r1 := arg_ok hρ h1
        simp only [evP] at hv
        generalize x'.get ρ = cv at hv r1
        split at hv
        · generalize hcv : a.eval x = cw at r1
          cases r1 with
          | agg hl =>
            obtain ⟨v', e1, e2⟩ := run_part (P := P) (w := w) hg hl hv
            have hf' : fs[f]? = some fd := by simpa using hf
            exact ⟨v', by simp [execOp, Instr.field, run_und hu, hf', hcv, asAgg, e1], e2⟩
        · simp at hv
      · simp at hi
    · simp at hi
  | indexAddr t x i' =>
    simp only [insC, o2_some] at hi
    obtain ⟨x', h1, i'', h2, hi⟩ := hi
    have r1 := arg_ok hρ h1
    have r2 := arg_ok hρ h2
    split at hi
    · rename_i e hu
      simp only [o2_some, Option.some.injEq] at hi
      obtain ⟨n, hn, rfl⟩ := hi
      simp only [evP] at hv
      generalize x'.get ρ = cv at hv r1
      generalize i''.get ρ = iv at hv r2
      split at hv
      · split at hv
        · rename_i hc
          simp only [Option.some.injEq] at hv; subst hv
          generalize hcv : a.eval x = cw at r1
          generalize hiv : a.eval i' = iw at r2
          cases r2
          cases r1 with
          | sl hb hl hu' hcap => exact ⟨_, by simp only [execOp, hcv, hiv, Sem.run_bind, run_indexAt_sl hu hn hc, Result.andThen_ok, Sem.run_pure], add_rel hb _⟩
          | slz => simp at hc; omega
          | slu _ _ => simp at hc; omega
        · simp at hv
      · simp at hv
    · rename_i m e hu
      simp only [o2_some, Option.some.injEq] at hi
      obtain ⟨n, hn, rfl⟩ := hi
      simp only [evP] at hv
      generalize x'.get ρ = cv at hv r1
      generalize i''.get ρ = iv at hv r2
      split at hv
      · split at hv
        · rename_i hc
          simp only [Option.some.injEq] at hv; subst hv
          generalize hcv : a.eval x = cw at r1
          generalize hiv : a.eval i' = iw at r2
          cases r2
          cases r1 with
          | ptr hb => exact ⟨_, by simp only [execOp, hcv, hiv, Sem.run_bind, run_indexAt_arr hu hn hc, Result.andThen_ok, Sem.run_pure], add_rel hb _⟩
        · simp at hv
      · simp at hv
    · simp at hi
  | index t x i' =>
    simp only [insC, o2_some] at hi
    obtain ⟨x', h1, i'', h2, hi⟩ := hi
    have r1 := arg_ok hρ h1
    have r2 := arg_ok hρ h2
    split at hi
    · rename_i hu
      simp only [Option.some.injEq] at hi; subst hi
      simp only [evP] at hv
      generalize x'.get ρ = cv at hv r1
      generalize i''.get ρ = iv at hv r2
      split at hv
      · rename_i s k n
        split at hv
        · rename_i hc
          simp only [Option.map_eq_some_iff] at hv
          obtain ⟨b, hb, rfl⟩ := hv
          generalize hcv : a.eval x = cw at r1
          generalize hiv : a.eval i' = iw at r2
          cases r2; cases r1
          have hb' : s[n.toNat]? = some b := by
            have hlt : n.toNat < s.data.toList.length := (List.getElem?_eq_some_iff.1 hb).1
            have hlt' : n.toNat < s.size := by simpa using hlt
            rw [getElem?_pos s n.toNat hlt']
            have := (List.getElem?_eq_some_iff.1 hb).2
            rw [← this]; rfl
          exact ⟨_, by simp [execOp, hcv, hiv, Instr.index, asIntOf, run_und hu, hc, hb'], .int _ _⟩
        · simp at hv
      · simp at hv
    · rename_i m e hu
      simp only [o2_some, Option.some.injEq] at hi
      obtain ⟨n, hn, gg, hg, rfl⟩ := hi
      simp only [evP] at hv
      generalize x'.get ρ = cv at hv r1
      generalize i''.get ρ = iv at hv r2
      split at hv
      · split at hv
        · rename_i hc
          generalize hcv : a.eval x = cw at r1
          generalize hiv : a.eval i' = iw at r2
          cases r2
          cases r1 with
          | agg hl =>
            obtain ⟨v', e1, e2⟩ := run_part (P := P) (w := w) hg hl hv
            exact ⟨v', by simp [execOp, hcv, hiv, Instr.index, asIntOf, run_und hu, hc, run_size hn, e1], e2⟩
        · simp at hv
      · simp at hv
    · simp at hi
  | extract x i' =>
    simp only [insC, o2_some, Option.some.injEq] at hi
    obtain ⟨x', h1, rfl⟩ := hi
    have r1 := arg_ok hρ h1
    simp only [evP] at hv
    generalize x'.get ρ = cv at hv r1
    split at hv
    · generalize hcv : a.eval x = cw at r1
      cases r1 with
      | tuple hl =>
        obtain ⟨v', e1, e2⟩ := hl.get hv
        exact ⟨v', by simp [execOp, hcv, Instr.extract, e1], e2⟩
    · simp at hv
  | lookup t m k ok =>
    simp only [insC] at hi
    split at hi
    · simp only [o2_some] at hi
      obtain ⟨s, _, z, _, hi⟩ := hi
      split at hi
      · simp at hi
      · simp only [o2_some, Option.some.injEq] at hi
        obtain ⟨m', _, k', _, rfl⟩ := hi
        simp [evP] at hv
    · simp at hi
  | mapUpdate t m k x =>
    simp only [insC] at hi
    split at hi
    · simp only [o2_some, Option.some.injEq] at hi
      obtain ⟨s, _, m', _, k', _, x', _, rfl⟩ := hi
      simp [evP] at hv
    · simp at hi
  | makeMap t r =>
    cases r with
    | none => simp [insC] at hi; subst hi; simp [evP] at hv
    | some _ => simp [insC] at hi
  | makeSlice t l c =>
    simp only [insC] at hi
    split at hi
    · simp only [o2_some] at hi
      obtain ⟨n, _, b, _, z, _, hi⟩ := hi
      split at hi
      · simp at hi
      · simp only [o2_some, Option.some.injEq] at hi
        obtain ⟨l', _, c', _, rfl⟩ := hi
        simp [evP] at hv
    · simp at hi
  | call c =>
    obtain ⟨callee, args, ats⟩ := c
    simp only [insC, o2_some] at hi
    obtain ⟨as, h1, hi⟩ := hi
    have rs := args_ok hρ h1
    have eargs : args.map a.eval = ⟨args.toList.map a.eval⟩ := by cases args; simp
    have one : ∀ x : Arg, as = [x] → ∃ y, args.map a.eval = #[y] ∧ VRel g (x.get ρ) y := by
      intro x hx
      subst hx
      rw [eargs]
      generalize args.toList.map a.eval = l at rs
      cases rs with
      | cons hv t => cases t; exact ⟨_, rfl, hv⟩
    have two : ∀ x y : Arg, as = [x, y] → ∃ x' y', args.map a.eval = #[x', y'] ∧ VRel g (x.get ρ) x' ∧ VRel g (y.get ρ) y' := by
      intro x y hx
      subst hx
      rw [eargs]
      generalize args.toList.map a.eval = l at rs
      cases rs with
      | cons hv t =>
        cases t with
        | cons hw t => cases t; exact ⟨_, _, rfl, hv, hw⟩
    split at hi
    · simp only [Option.some.injEq] at hi; subst hi; simp [evP] at hv
    · simp only [o2_some, Option.some.injEq] at hi
      obtain ⟨f', _, rfl⟩ := hi
      simp [evP] at hv
    · split at hi
      · rename_i x hu
        simp only [Option.some.injEq] at hi; subst hi
        obtain ⟨y, e1, r1⟩ := one _ rfl
        obtain ⟨tt, ht, hu⟩ := Option.bind_eq_some_iff.1 hu
        simp only [evP] at hv
        generalize x.get ρ = cv at hv r1
        split at hv
        · simp only [Option.some.injEq] at hv; subst hv
          cases r1
          exact ⟨_, by simp [execOp, resolve, invoke, builtin, e1, Builtin.len_, ht, run_und hu, goInt], .int _ _⟩
        · simp at hv
      · rename_i x ee hu
        simp only [Option.some.injEq] at hi; subst hi
        obtain ⟨y, e1, r1⟩ := one _ rfl
        obtain ⟨tt, ht, hu⟩ := Option.bind_eq_some_iff.1 hu
        simp only [evP] at hv
        generalize x.get ρ = cv at hv r1
        split at hv
        · simp only [Option.some.injEq] at hv; subst hv
          cases r1 <;> exact ⟨_, by simp [execOp, resolve, invoke, builtin, e1, Builtin.len_, ht, run_und hu, goInt], .int _ _⟩
        · simp at hv
      · rename_i x nn ee hu
        simp only [Option.some.injEq] at hi; subst hi
        obtain ⟨y, e1, r1⟩ := one _ rfl
        obtain ⟨tt, ht, hu⟩ := Option.bind_eq_some_iff.1 hu
        simp only [evP, Option.some.injEq] at hv; subst hv
        exact ⟨_, by simp [execOp, resolve, invoke, builtin, e1, Builtin.len_, ht, run_und hu, goInt], .int _ _⟩
      · simp only [Option.some.injEq] at hi; subst hi; simp [evP] at hv
      · simp at hi
    · split at hi
      · rename_i x ee hu
        simp only [Option.some.injEq] at hi; subst hi
        obtain ⟨y, e1, r1⟩ := one _ rfl
        obtain ⟨tt, ht, hu⟩ := Option.bind_eq_some_iff.1 hu
        simp only [evP] at hv
        generalize x.get ρ = cv at hv r1
        split at hv
        · split at hv
          · simp at hv
          · rename_i hc
            simp only [Option.some.injEq] at hv; subst hv
            cases r1 with
            | sl0 => exact ⟨_, by simp [execOp, resolve, invoke, builtin, e1, Builtin.cap_, ht, run_und hu, goInt], .int _ _⟩
            | sl hb hl hu' hcap =>
              rcases hcap with rfl | hcap
              · exact ⟨_, by simp [execOp, resolve, invoke, builtin, e1, Builtin.cap_, ht, run_und hu, goInt], .int _ _⟩
              · exact absurd hcap.1 hc
            | slz => exact ⟨_, by simp [execOp, resolve, invoke, builtin, e1, Builtin.cap_, ht, run_und hu, goInt], .int _ _⟩
            | slu _ _ => exact absurd rfl hc
        · simp at hv
      · simp at hi
    · split at hi
      · rename_i x y
        simp only [Option.some.injEq] at hi; subst hi
        obtain ⟨x', y', e1, r1, r2⟩ := two _ _ rfl
        simp only [evP] at hv
        generalize x.get ρ = cv at hv r1
        generalize y.get ρ = cw at hv r2
        split at hv
        · simp only [Option.some.injEq] at hv; subst hv
          cases r1; cases r2
          exact ⟨_, by simp [execOp, resolve, invoke, builtin, e1, Builtin.min_, Builtin.min2], .int _ _⟩
        · simp at hv
      · simp at hi
    · split at hi
      · rename_i x y
        simp only [Option.some.injEq] at hi; subst hi
        obtain ⟨x', y', e1, r1, r2⟩ := two _ _ rfl
        simp only [evP] at hv
        generalize x.get ρ = cv at hv r1
        generalize y.get ρ = cw at hv r2
        split at hv
        · simp only [Option.some.injEq] at hv; subst hv
          cases r1; cases r2
          exact ⟨_, by simp [execOp, resolve, invoke, builtin, e1, Builtin.max_, Builtin.max2], .int _ _⟩
        · simp at hv
      · simp at hi
    · split at hi
      · split at hi
        · simp only [o2_some] at hi
          obtain ⟨n, _, b, _, z, _, hi⟩ := hi
          split at hi
          · simp at hi
          · split at hi <;> simp only [Option.some.injEq] at hi <;> subst hi <;> simp [evP] at hv
        · simp at hi
      · simp at hi
    · split at hi
      · split at hi
        · simp only [o2_some] at hi
          obtain ⟨n, _, hi⟩ := hi
          split at hi
          · simp at hi
          · simp only [Option.some.injEq] at hi; subst hi; simp [evP] at hv
        · simp at hi
      · simp at hi
    · split at hi
      · split at hi
        · simp only [o2_some, Option.some.injEq] at hi
          obtain ⟨n, _, rfl⟩ := hi
          simp [evP] at hv
        · simp at hi
      · simp at hi
    · simp at hi
  | _ => simp [insC] at hi

end
end Go.Eng
