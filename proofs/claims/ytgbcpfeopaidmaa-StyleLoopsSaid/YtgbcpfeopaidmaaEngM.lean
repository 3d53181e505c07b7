/-
  The operations that change memory, calls aside, all together.
-/
import Derived.Test.YtgbcpfeopaidmaaEngL
set_option linter.all false
namespace Go.Eng
open Go

section
variable {P : Program} {w : World}

/-! Maps. -/
theorem keyEq_eq {a b : Value} (h : keyEq a b = some true) : a = b := by
  unfold keyEq at h
  split at h
  · rename_i x y; simp only [Option.some.injEq] at h
    have : x.data.toList = y.data.toList := by
      rw [beq_toListBytes] at h
      have := eq_of_beq h
      simpa [ByteArray.toList_eq] using this
    rw [bytes_ext this]
  · split at h
    · rename_i hk; simp only [Option.some.injEq, beq_iff_eq] at h; rw [hk, h]
    · simp at h
  · simp at h

theorem same_now {d : TypeDesc} {str : Bool} (hd : (str = true ∧ d = .string) ∨ (str = false ∧ ∃ k, d = .int k)) {kv : Value} (hk : keyOk str kv = true) {g : Gh} {k k' : Value} (hr : VRel g k k') {b : Bool} (hb : keyEq kv k = some b) :
    Instr.sameNow d kv k' = some b ∧ k' = k := by
  cases kv with
  | string s =>
    cases k <;> simp [keyEq] at hb
    cases hr
    rcases hd with ⟨_, rfl⟩ | ⟨hs, _⟩
    · simp [Instr.sameNow, hb]
    · subst hs; simp [keyOk] at hk
  | int kk n =>
    cases k <;> simp [keyEq] at hb
    cases hr
    rcases hd with ⟨hs, _⟩ | ⟨_, q, rfl⟩
    · subst hs; simp [keyOk] at hk
    · simp [Instr.sameNow, hb]
  | _ => simp [keyOk] at hk

theorem keyEq_ne {a b : Value} (h : keyEq a b = some false) : b ≠ a := by
  rintro rfl
  have bb : ∀ x : ByteArray, (x == x) = true := fun x => by
    rw [beq_toListBytes]; exact beq_self_eq_true _
  unfold keyEq at h
  split at h <;> simp_all

theorem putA_ok {g : Gh} {d : TypeDesc} {str : Bool} (hd : (str = true ∧ d = .string) ∨ (str = false ∧ ∃ k, d = .int k)) {kv : Value} (hk : keyOk str kv = true) {xv xv' : Value} (hx : VRel g xv xv') :
    ∀ {es es' : List (Value × Value)} {ents : List MapEntry} (i : Nat), MRel g es ents → putA kv xv es = some es' →
      (∃ j v', Instr.findNow d kv ents i = some (some (i + j, v')) ∧ (∃ e, ents[j]? = some e ∧ e.key = kv) ∧ MRel g es' (ents.modify j fun e => { e with key := kv, val := xv' })) ∨
      (Instr.findNow d kv ents i = some none ∧ (∀ c, MRel g es' (ents ++ [{ key := kv, val := xv', born := c }])) ∧ ∀ x ∈ ents, x.key ≠ kv)
  | [], es', _, i, .nil, h => by
    simp [putA] at h; subst h
    refine .inr ⟨rfl, fun c => .cons ?_ hx .nil, fun x hx => by simp at hx⟩
    cases kv <;> simp [keyOk] at hk
    · exact .int _ _
    · exact .str _
  | (k, v) :: es, es', _, i, .cons (e := e) (l' := l') hk' hv t, h => by
    simp only [putA] at h
    cases hq : keyEq kv k with
    | none => simp [hq] at h
    | some b =>
      obtain ⟨hs, hke⟩ := same_now hd hk hk' hq
      cases b with
      | true =>
        simp only [hq, Option.some.injEq] at h; subst h
        have hkk := keyEq_eq hq
        refine .inl ⟨0, e.val, by simp [Instr.findNow, hs], ⟨e, rfl, by rw [hke, hkk]⟩, ?_⟩
        refine .cons ?_ hx t
        rw [hkk, ← hke]; rw [← hke] at hk'; exact hk'
      | false =>
        simp only [hq, Option.map_eq_some_iff] at h
        obtain ⟨es2, h2, rfl⟩ := h
        rcases putA_ok hd hk hx (i + 1) t h2 with ⟨j, v', e1, ⟨e', e2, e3⟩, e4⟩ | ⟨e1, e2, e3⟩
        · refine .inl ⟨j + 1, v', ?_, ⟨e', by simpa using e2, e3⟩, ?_⟩
          · simp [Instr.findNow, hs, e1]; omega
          · simp only [List.modify_succ_cons]
            exact .cons hk' hv e4
        · refine .inr ⟨by simp [Instr.findNow, hs, e1], fun c => .cons hk' hv (e2 c), fun x hx => ?_⟩
          rcases List.mem_cons.1 hx with rfl | hx
          · rw [hke]; exact keyEq_ne hq
          · exact e3 x hx

theorem delA_ok {g : Gh} {d : TypeDesc} {str : Bool} (hd : (str = true ∧ d = .string) ∨ (str = false ∧ ∃ k, d = .int k)) {kv : Value} (hk : keyOk str kv = true) :
    ∀ {es es' : List (Value × Value)} {ents : List MapEntry} (i : Nat), MRel g es ents → delA kv es = some es' →
      (∃ j v', Instr.findNow d kv ents i = some (some (i + j, v')) ∧ MRel g es' (ents.eraseIdx j)) ∨ (Instr.findNow d kv ents i = some none ∧ MRel g es' ents)
  | [], es', _, i, .nil, h => by
    simp [delA] at h; subst h
    exact .inr ⟨rfl, .nil⟩
  | (k, v) :: es, es', _, i, .cons (e := e) (l' := l') hk' hv t, h => by
    simp only [delA] at h
    cases hq : keyEq kv k with
    | none => simp [hq] at h
    | some b =>
      obtain ⟨hs, hke⟩ := same_now hd hk hk' hq
      cases b with
      | true =>
        simp only [hq, Option.some.injEq] at h; subst h
        exact .inl ⟨0, e.val, by simp [Instr.findNow, hs], t⟩
      | false =>
        simp only [hq, Option.map_eq_some_iff] at h
        obtain ⟨es2, h2, rfl⟩ := h
        rcases delA_ok hd hk (i + 1) t h2 with ⟨j, v', e1, e4⟩ | ⟨e1, e2⟩
        · refine .inl ⟨j + 1, v', ?_, ?_⟩
          · simp [Instr.findNow, hs, e1]; omega
          · exact .cons hk' hv e4
        · exact .inr ⟨by simp [Instr.findNow, hs, e1], .cons hk' hv e2⟩

theorem sameBits_key {str : Bool} {kv : Value} (hk : keyOk str kv = true) (n : Nat) : Instr.sameBits n kv kv = true := by
  cases kv <;> simp [keyOk] at hk <;> cases n <;> simp [Instr.sameBits]
  all_goals (rw [beq_toListBytes]; simp)

theorem mput_ok {g : Gh} {σ : St} (hR : Rel P g σ w) {m k e : TypeId} {str : Bool} (hu : P.underlying m = some (.map k e)) (hks : keyK P k = some str) {i b : Nat} (hb : g.blk i = some (b, 0)) {es es' : List (Value × Value)} (hi : σ.get i = some (.map es))
    {kv xv xv' : Value} (hko : keyOk str kv = true) (hx : VRel g xv xv') (hp : putA kv xv es = some es') :
    ∃ w', (Instr.mapUpdate m (.map (some b)) kv xv').run P w = .ok () w' ∧ Goes P g σ w g (σ.put i (some (.map es'))) w' := by
  obtain ⟨d, hud, hd⟩ := keyK_some hks
  obtain ⟨_, ents, clock, h1, h2, hst⟩ := hR.obj _ _ _ _ hi hb
  have hset : ∀ (o : Obj), (setObj b o).run P w = .ok () { w with heap := w.heap.setIfInBounds b o } := by
    intro o
    simp only [setObj, Sem.run, h1]
  rcases putA_ok hd hko hx 0 h2 hp with ⟨j, v', e1, ⟨e', e2, e3⟩, e4⟩ | ⟨e1, e2, e3⟩
  · refine ⟨{ w with heap := w.heap.setIfInBounds b (.map (ents.modify j fun e => { e with key := kv, val := xv' }) clock) }, ?_, put_goes (ob := .map (ents.modify j fun e => { e with key := kv, val := xv' }) clock) hR hi rfl hb rfl rfl rfl rfl ⟨rfl, _, _, rfl, by simpa using e4, MapKept.stamped_modify hst j _ (fun _ _ => rfl) (fun e _ he => by rw [show ents[j]? = some e' by simpa using e2] at he; simp only [Option.some.injEq] at he; rw [← he]; exact e3.symm)⟩⟩
    have hkey : ((ents[j]?).map (·.key)).getD kv = kv := by
      have : ents[j]? = some e' := by simpa using e2
      simp [this, e3]
    simp only [Instr.mapUpdate, Sem.run_bind, run_und hu, Result.andThen_ok, run_getMap h1, checkKey_ok hks hko, Instr.findKey, run_und hud, e1, Sem.run_pure, Nat.zero_add, hkey, Instr.keyThatStays, sameBits_key hko, if_true]
    exact hset _
  · refine ⟨{ w with heap := w.heap.setIfInBounds b (.map (ents.push { key := kv, val := xv', born := clock }) (clock + 1)) }, ?_, put_goes (ob := .map (ents.push { key := kv, val := xv', born := clock }) (clock + 1)) hR hi rfl hb rfl rfl rfl rfl ⟨rfl, _, _, rfl, by simpa using e2 clock, MapKept.stamped_push hst e3⟩⟩
    simp only [Instr.mapUpdate, Sem.run_bind, run_und hu, Result.andThen_ok, run_getMap h1, checkKey_ok hks hko, Instr.findKey, run_und hud, e1, Sem.run_pure]
    exact hset _

theorem mdel_ok {g : Gh} {σ : St} (hR : Rel P g σ w) {m k e : TypeId} {str : Bool} (hu : P.underlying m = some (.map k e)) (hks : keyK P k = some str) {i b : Nat} (hb : g.blk i = some (b, 0)) {es es' : List (Value × Value)} (hi : σ.get i = some (.map es))
    {kv : Value} (hko : keyOk str kv = true) (hp : delA kv es = some es') {ats : Array TypeId} (hat : ats[0]? = some m) (ty : TypeId) :
    ∃ w', (Builtin.delete_ ats ty #[.map (some b), kv]).run P w = .ok (.tuple #[]) w' ∧ Goes P g σ w g (σ.put i (some (.map es'))) w' := by
  obtain ⟨d, hud, hd⟩ := keyK_some hks
  obtain ⟨_, ents, clock, h1, h2, hst⟩ := hR.obj _ _ _ _ hi hb
  have hset : ∀ (o : Obj), (setObj b o).run P w = .ok () { w with heap := w.heap.setIfInBounds b o } := by
    intro o
    simp only [setObj, Sem.run, h1]
  rcases delA_ok hd hko 0 h2 hp with ⟨j, v', e1, e4⟩ | ⟨e1, e2⟩
  · refine ⟨{ w with heap := w.heap.setIfInBounds b (.map (ents.eraseIdxIfInBounds j) clock) }, ?_, put_goes (ob := .map (ents.eraseIdxIfInBounds j) clock) hR hi rfl hb rfl rfl rfl rfl ⟨rfl, _, _, rfl, ?_, MapKept.stamped_erase hst j⟩⟩
    · simp only [Builtin.delete_, hat, List.getElem?_toArray, List.getElem?_cons_zero, List.getElem?_cons_succ, Sem.run_bind, run_und hu, Result.andThen_ok, run_getMap h1, checkKey_ok hks hko, Instr.findKey, run_und hud, e1, Sem.run_pure, Nat.zero_add, hset]
    · have : (ents.eraseIdxIfInBounds j).toList = ents.toList.eraseIdx j := by simp
      rw [this]; exact e4
  · refine ⟨{ w with heap := w.heap.setIfInBounds b (.map ents clock) }, ?_, put_goes (ob := .map ents clock) hR hi rfl hb rfl rfl rfl rfl ⟨rfl, _, _, rfl, e2, hst⟩⟩
    simp only [Builtin.delete_, hat, List.getElem?_toArray, List.getElem?_cons_zero, List.getElem?_cons_succ, Sem.run_bind, run_und hu, Result.andThen_ok, run_getMap h1, checkKey_ok hks hko, Instr.findKey, run_und hud, e1, Sem.run_pure, hset]

end
end Go.Eng
