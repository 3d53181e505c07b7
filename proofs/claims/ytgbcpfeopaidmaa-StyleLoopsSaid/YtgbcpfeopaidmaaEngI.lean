/-
  The operations that read memory.
-/
import Derived.Test.YtgbcpfeopaidmaaEngH
import Derived.Laws.BytesString
set_option linter.all false
namespace Go.Eng
open Go

section
variable {P : Program} {w : World}

theorem rowOf_some {σ : St} {i : Nat} {cs : List Value} (h : rowOf σ i = some cs) : ∃ esz opn ro ec, σ.get i = some (.row cs esz opn ro ec) := by
  unfold rowOf at h
  split at h
  · rename_i cs' e p r c hg
    simp only [Option.some.injEq] at h; subst h
    exact ⟨_, _, _, _, hg⟩
  · simp at h
theorem mapOf_some {σ : St} {i : Nat} {es : List (Value × Value)} (h : mapOf σ i = some es) : σ.get i = some (.map es) := by
  unfold mapOf at h
  split at h
  · rename_i hg
    simp only [Option.some.injEq] at h; subst h
    exact hg
  · simp at h

/-- A load. -/
theorem load_ok {g : Gh} {σ : St} (hR : Rel P g σ w) {t : TypeId} {gg : Option Nat} (ht : aggT P t = some gg) {i o b base : Nat} (hb : g.blk i = some (b, base)) {cs : List Value} (hc : rowOf σ i = some cs) {v : Value}
    (hv : partA gg cs o = some v) : ∃ v', (loadVar t ⟨b, base + o, none⟩).run P w = .ok v' w ∧ VRel g v v' := by
  obtain ⟨esz, opn, ro, ec, hg⟩ := rowOf_some hc
  have ho := hR.obj _ _ _ _ hg hb
  obtain ⟨h1, h2⟩ := run_agg (w := w) ht
  unfold partA at hv
  cases gg with
  | some n =>
    simp only at hv
    split at hv
    · rename_i hle
      simp only [Option.some.injEq] at hv; subst hv
      obtain ⟨l', e1, e2, e3⟩ := row_cells ho o n hle
      refine ⟨.agg ⟨l'⟩, ?_, .agg e3⟩
      have := run_loadCells_list (P := P) w ⟨b, base + o, none⟩ l' e1
      rw [e2] at this
      simp only [loadVar, Sem.run_bind, h1, Result.andThen_ok, Option.isSome_some, if_true, h2 n rfl, this, Sem.run_pure]
    · simp at hv
  | none =>
    simp only at hv
    obtain ⟨v', e1, e2⟩ := row_cell ho hv
    exact ⟨v', by simp [loadVar, h1, e1], e2⟩

/-- A key that is looked for. -/
theorem find_ok {g : Gh} {d : TypeDesc} {str : Bool} (hd : (str = true ∧ d = .string) ∨ (str = false ∧ ∃ k, d = .int k)) {kv : Value} (hk : keyOk str kv = true) :
    ∀ {es : List (Value × Value)} {ents : List MapEntry} {r : Option Value} (i : Nat), MRel g es ents → findA kv es = some r →
      ∃ r', Instr.findNow d kv ents i = some r' ∧ (r = none → r' = none) ∧ (∀ v, r = some v → ∃ j v', r' = some (j, v') ∧ VRel g v v')
  | [], _, r, i, .nil, h => by
    simp [findA] at h; subst h
    exact ⟨none, rfl, fun _ => rfl, fun v hv => by simp at hv⟩
  | (k, v) :: es, _, r, i, .cons (e := e) hk' hv t, h => by
    have same : ∀ b, keyEq kv k = some b → Instr.sameNow d kv e.key = some b := by
      intro b hb
      cases kv with
      | string s =>
        cases k <;> simp [keyEq] at hb
        generalize e.key = ek at hk'
        cases hk'
        rcases hd with ⟨_, rfl⟩ | ⟨hs, _⟩
        · simp [Instr.sameNow, hb]
        · subst hs; simp [keyOk] at hk
      | int kk n =>
        cases k <;> simp [keyEq] at hb
        generalize e.key = ek at hk'
        cases hk'
        rcases hd with ⟨hs, _⟩ | ⟨_, q, rfl⟩
        · subst hs; simp [keyOk] at hk
        · simp [Instr.sameNow, hb]
      | _ => simp [keyOk] at hk
    simp only [findA] at h
    cases hq : keyEq kv k with
    | none => simp [hq] at h
    | some b =>
      have hs := same b hq
      cases b with
      | true =>
        simp only [hq, Option.some.injEq] at h; subst h
        exact ⟨some (i, e.val), by simp [Instr.findNow, hs], fun h => by simp at h, fun v' hv' => by simp at hv'; subst hv'; exact ⟨_, _, rfl, hv⟩⟩
      | false =>
        simp only [hq] at h
        obtain ⟨r', e1, e2, e3⟩ := find_ok hd hk (i + 1) t h
        exact ⟨r', by simp [Instr.findNow, hs, e1], e2, e3⟩

theorem keyK_some {t : TypeId} {str : Bool} (h : keyK P t = some str) : ∃ d, P.underlying t = some d ∧ ((str = true ∧ d = .string) ∨ (str = false ∧ ∃ k, d = .int k)) := by
  unfold keyK at h
  split at h
  · rename_i hu; simp at h; exact ⟨_, hu, .inl ⟨h, rfl⟩⟩
  · rename_i k hu; simp at h; exact ⟨_, hu, .inr ⟨h, _, rfl⟩⟩
  · simp at h

theorem checkKey_ok {t : TypeId} {str : Bool} (h : keyK P t = some str) {kv : Value} (hk : keyOk str kv = true) (emp : Bool) : (Instr.checkKey emp 10000 t kv).run P w = .ok () w := by
  obtain ⟨d, hu, hd⟩ := keyK_some h
  have : ∀ n, (Instr.checkKey emp (n + 1) t kv).run P w = .ok () w := by
    intro n
    rcases hd with ⟨_, rfl⟩ | ⟨_, k, rfl⟩ <;> simp [Instr.checkKey, run_und hu]
  exact this 9999

theorem findKey_ok {g : Gh} {t : TypeId} {str : Bool} (h : keyK P t = some str) {kv : Value} (hk : keyOk str kv = true) {es : List (Value × Value)} {ents : List MapEntry} {r : Option Value} (hm : MRel g es ents)
    (hf : findA kv es = some r) : ∃ r', (Instr.findKey t kv ents).run P w = .ok r' w ∧ (r = none → r' = none) ∧ (∀ v, r = some v → ∃ j v', r' = some (j, v') ∧ VRel g v v') := by
  obtain ⟨d, hu, hd⟩ := keyK_some h
  obtain ⟨r', e1, e2, e3⟩ := find_ok hd hk 0 hm hf
  exact ⟨r', by simp [Instr.findKey, run_und hu, e1], e2, e3⟩

theorem keyRel {g : Gh} {str : Bool} {k k' : Value} (hk : keyOk str k = true) (h : VRel g k k') : k' = k := by
  cases k <;> simp [keyOk] at hk <;> cases h <;> rfl

theorem run_getMap {b : Nat} {ents : Array MapEntry} {clock : Nat} (h : w.heap[b]? = some (.map ents clock)) : (getObj b).run P w = .ok (.map ents clock) w := by
  simp [getObj, Sem.run, h]

theorem run_lookup {m k e : TypeId} {str : Bool} (hu : P.underlying m = some (.map k e)) (hk : keyK P k = some str) {z : Value} (hz : zeroT P e = some z) {g : Gh} {σ : St} (hR : Rel P g σ w) {kv : Value} (hkv : keyOk str kv = true)
    (ok : Bool) (hzr : VRel g z z) :
    (∀ v, (if ok then Value.tuple #[z, .bool false] else z) = v → ∃ v', (Instr.lookup m (.map none) kv ok).run P w = .ok v' w ∧ VRel g v v') ∧
    (∀ i b es r, g.blk i = some (b, 0) → mapOf σ i = some es → findA kv es = some r →
      ∃ v', (Instr.lookup m (.map (some b)) kv ok).run P w = .ok v' w ∧
        VRel g (match r with | some v => (if ok then Value.tuple #[v, .bool true] else v) | none => (if ok then .tuple #[z, .bool false] else z)) v') := by
  constructor
  · intro v hv
    subst hv
    refine ⟨if ok then Value.tuple #[z, .bool false] else z, ?_, ?_⟩
    · obtain ⟨r', e1, e2, _⟩ := findKey_ok (P := P) (w := w) (g := g) hk hkv (es := []) (ents := []) (r := none) .nil rfl
      have e3 := e2 rfl
      subst e3
      simp only [Instr.lookup, Sem.run_bind, run_und hu, Result.andThen_ok, Sem.run_pure, checkKey_ok hk hkv, e1, run_zero hz]
    · cases ok
      · exact hzr
      · exact .tuple (.cons hzr (.cons (.bool _) .nil))
  · intro i b es r hb hm hf
    obtain ⟨_, ents, clock, h1, h2, _⟩ := hR.obj _ _ _ _ (mapOf_some hm) hb
    obtain ⟨r', e1, e2, e3⟩ := findKey_ok (P := P) (w := w) hk hkv h2 hf
    cases r with
    | none =>
      have e4 := e2 rfl
      subst e4
      refine ⟨if ok then Value.tuple #[z, .bool false] else z, ?_, ?_⟩
      · simp only [Instr.lookup, Sem.run_bind, run_und hu, Result.andThen_ok, run_getMap h1, Sem.run_pure, checkKey_ok hk hkv, e1, run_zero hz]
      · cases ok
        · exact hzr
        · exact .tuple (.cons hzr (.cons (.bool _) .nil))
    | some v =>
      obtain ⟨j, v', rfl, hv⟩ := e3 v rfl
      refine ⟨if ok then Value.tuple #[v', .bool true] else v', ?_, ?_⟩
      · simp only [Instr.lookup, Sem.run_bind, run_und hu, Result.andThen_ok, run_getMap h1, Sem.run_pure, checkKey_ok hk hkv, e1]
      · cases ok
        · exact hv
        · exact .tuple (.cons hv (.cons (.bool _) .nil))

/-- The first cells of a slice or a string. -/
theorem srcA_all {g : Gh} {σ : St} (hR : Rel P g σ w) {esz n : Nat} {x x' : Value} (hx : VRel g x x') {cs : List Value} (hs : srcA σ esz n x = some cs) :
    ∃ cs' : Array Value, (∀ w' : World, w'.heap = w.heap → (Builtin.firstCells esz n x').run P w' = .ok cs' w') ∧ LRel g cs cs'.toList := by
  unfold srcA at hs
  split at hs
  · rename_i ad len c
    split at hs
    · rename_i hnl
      split at hs
      · rename_i h0
        simp only [Option.some.injEq] at hs; subst hs
        cases hx with
        | sl hb hl hu hc => exact ⟨#[], fun w' _ => by simp [Builtin.firstCells, h0, loadCells, loadCellsFrom], .nil⟩
        | slz => exact ⟨#[], fun w' _ => by simp [Builtin.firstCells, h0, loadCells, loadCellsFrom], .nil⟩
        | slu _ _ => exact ⟨#[], fun w' _ => by simp [Builtin.firstCells, h0, loadCells, loadCellsFrom], .nil⟩
      · rename_i h0
        split at hs
        · rename_i rs hrow
          split at hs
          · rename_i hc
            simp only [Option.some.injEq] at hs; subst hs
            cases hx with
            | sl hb hl hu hcap =>
              obtain ⟨e, p, r, ec, hg⟩ := rowOf_some hrow
              obtain ⟨l', e1, e2, e3⟩ := row_cells (hR.obj _ _ _ _ hg hb) _ _ hc.2
              refine ⟨⟨l'⟩, fun w' hw' => ?_, e3⟩
              have := run_loadCells_list (P := P) w' _ l' (fun j v hj => by have := e1 j v hj; simpa [World.cell?, hw'] using this)
              rw [e2] at this
              simp only [Builtin.firstCells, this]
            | slz =>
              have : n = 0 := by omega
              subst this; simp at h0
            | slu _ _ =>
              have : n = 0 := by omega
              subst this; simp at h0
          · simp at hs
        · simp at hs
    · simp at hs
  · split at hs
    · rename_i h0
      simp only [Option.some.injEq] at hs; subst hs
      cases hx
      exact ⟨#[], fun w' _ => by simp [Builtin.firstCells], .nil⟩
    · simp at hs
  · rename_i s
    split at hs
    · simp only [Option.some.injEq] at hs; subst hs
      cases hx
      refine ⟨_, fun _ _ => rfl, ?_⟩
      have : ((s.extract 0 n).data.map fun b => Value.int .u8 b.toNat).toList = (s.data.toList.take n).map fun b => Value.int .u8 b.toNat := by
        simp [ByteArray.data_extract, List.extract_eq_take_drop]
      rw [this]
      generalize (s.data.toList.take n) = l
      induction l with
      | nil => exact .nil
      | cons b l ih => exact .cons (.int _ _) ih
    · simp at hs
  · simp at hs

theorem srcA_ok {g : Gh} {σ : St} (hR : Rel P g σ w) {esz n : Nat} {x x' : Value} (hx : VRel g x x') {cs : List Value} (hs : srcA σ esz n x = some cs) :
    ∃ cs' : Array Value, (Builtin.firstCells esz n x').run P w = .ok cs' w ∧ LRel g cs cs'.toList :=
  let ⟨c, h, k⟩ := srcA_all hR hx hs
  ⟨c, h w rfl, k⟩

theorem lenA_ok {g : Gh} {x x' : Value} (hx : VRel g x x') {n : Nat} (h : lenA x = some n) : (Builtin.lenOf x').run P w = .ok n w := by
  unfold lenA at h
  split at h
  · simp only [Option.some.injEq] at h; subst h
    cases hx <;> simp [Builtin.lenOf]
  · simp only [Option.some.injEq] at h; subst h
    cases hx; simp [Builtin.lenOf]
  · simp at h

theorem bytesOf_ok {g : Gh} : ∀ {cs cs' : List Value} {l : List UInt8}, bytesOf cs = some l → LRel g cs cs' → ∃ ns : List Int, cs' = ns.map (Value.int .u8) ∧ l = ns.map fun n => UInt8.ofNat n.toNat
  | [], _, l, h, .nil => by simp [bytesOf] at h; subst h; exact ⟨[], rfl, rfl⟩
  | v :: cs, _, l, h, .cons hv t => by
    unfold bytesOf at h
    split at h
    · simp_all
    · rename_i n r he
      simp only [List.cons.injEq] at he
      obtain ⟨rfl, rfl⟩ := he
      simp only [Option.map_eq_some_iff] at h
      obtain ⟨r', h1, rfl⟩ := h
      cases hv
      obtain ⟨ns, rfl, rfl⟩ := bytesOf_ok h1 t
      exact ⟨n :: ns, rfl, rfl⟩
    · simp at h

theorem foldl_push (ns : List Int) (s : ByteArray) : (ns.foldl (fun r n => r.push (UInt8.ofNat n.toNat)) s).data.toList = s.data.toList ++ ns.map fun n => UInt8.ofNat n.toNat := by
  induction ns generalizing s with
  | nil => simp
  | cons n ns ih => simp [ih]

/-! Which operation an instruction is of. -/
def kindI : Ins → Nat
  | .ld .. => 1
  | .lkp .. => 2
  | .st .. => 3
  | .mput .. => 4
  | .alloc .. => 5
  | .box .. => 6
  | .bslice .. => 7
  | .mmap => 8
  | .mslice .. => 9
  | .cb2s .. | .cs2b .. | .cint .. | .cstr .. => 10
  | .ssl .. | .sstr .. | .sarr .. => 11
  | .lenS .. | .lenL .. | .lenC .. | .lenM .. | .capL .. | .mn .. | .mx .. | .app .. | .cpy .. | .mdel .. | .call .. | .callv .. => 12
  | .bad => 13
  | _ => 0
def kindO : Op → Nat
  | .load .. => 1
  | .lookup .. => 2
  | .store .. => 3
  | .mapUpdate .. | .insert .. => 4
  | .alloc .. => 5
  | .box .. => 6
  | .buildSlice .. => 7
  | .makeMap .. => 8
  | .makeSlice .. => 9
  | .convert .. => 10
  | .slice .. => 11
  | .call .. => 12
  | _ => 0

set_option maxHeartbeats 2000000 in
theorem insC_kind {o : Oper} {i : Ins} (hi : insC P o = some i) : kindI i = kindO o.op := by
  obtain ⟨dst, op, ty, pos, after, guard⟩ := o
  cases op with
  | makeFunc fn first cap =>
    cases fn with
    | func f =>
      simp only [insC, o2_some, Option.some.injEq] at hi
      obtain ⟨fs, h1, cs, h2, rfl⟩ := hi
      rfl
    | _ => simp [insC] at hi
  | makeMap t r =>
    cases r with
    | none => simp [insC] at hi; subst hi; rfl
    | some _ => simp [insC] at hi
  | call c =>
    obtain ⟨callee, args, ats⟩ := c
    simp only [insC, o2_some] at hi
    obtain ⟨as, h1, hi⟩ := hi
    split at hi
    · simp only [Option.some.injEq] at hi; subst hi; rfl
    · simp only [o2_some, Option.some.injEq] at hi; obtain ⟨f', _, rfl⟩ := hi; rfl
    · split at hi <;> first | (simp at hi; done) | (simp only [Option.some.injEq] at hi; subst hi; rfl)
    · split at hi <;> first | (simp at hi; done) | (simp only [Option.some.injEq] at hi; subst hi; rfl)
    · split at hi <;> first | (simp at hi; done) | (simp only [Option.some.injEq] at hi; subst hi; rfl)
    · split at hi <;> first | (simp at hi; done) | (simp only [Option.some.injEq] at hi; subst hi; rfl)
    · split at hi
      · split at hi
        · simp only [o2_some] at hi
          obtain ⟨n, _, b, _, z, _, hi⟩ := hi
          split at hi
          · simp at hi
          · split at hi <;> simp only [Option.some.injEq] at hi <;> subst hi <;> rfl
        · simp at hi
      · simp at hi
    · split at hi
      · split at hi
        · simp only [o2_some] at hi
          obtain ⟨n, _, hi⟩ := hi
          split at hi
          · simp at hi
          · simp only [Option.some.injEq] at hi; subst hi; rfl
        · simp at hi
      · simp at hi
    · split at hi
      · split at hi
        · simp only [o2_some, Option.some.injEq] at hi
          obtain ⟨n, _, rfl⟩ := hi
          rfl
        · simp at hi
      · simp at hi
    · simp at hi
  | move x => simp only [insC, o2_some, Option.some.injEq] at hi; obtain ⟨y, h1, rfl⟩ := hi; rfl
  | assign x => simp only [insC, o2_some, Option.some.injEq] at hi; obtain ⟨y, h1, rfl⟩ := hi; rfl
  | pick c x y => simp only [insC, o2_some, Option.some.injEq] at hi; obtain ⟨c', h1, x', h2, y', h3, rfl⟩ := hi; rfl
  | alloc t => simp only [insC, o2_some] at hi; obtain ⟨z, h1, h2⟩ := hi; split at h2 <;> simp at h2; subst h2; rfl
  | box t x => simp only [insC, o2_some, Option.some.injEq] at hi; obtain ⟨y, h1, rfl⟩ := hi; rfl
  | build t parts =>
    simp only [insC, o2_some] at hi
    obtain ⟨z, h1, h2⟩ := hi
    split at h2
    · simp at h2
    · split at h2
      · simp only [o2_some, Option.some.injEq] at h2; obtain ⟨pl, h3, ps, h4, rfl⟩ := h2; rfl
      · simp only [o2_some, Option.some.injEq] at h2; obtain ⟨pl, h3, ps, h4, rfl⟩ := h2; rfl
      · simp at h2
  | buildSlice t len parts =>
    simp only [insC] at hi
    split at hi
    · simp only [o2_some] at hi
      obtain ⟨n, h1, z, h2, h3⟩ := hi
      split at h3
      · simp at h3
      · simp only [o2_some, Option.some.injEq] at h3; obtain ⟨ps, h4, rfl⟩ := h3; rfl
    · simp at hi
  | insert t m k x =>
    simp only [insC] at hi
    split at hi
    · simp only [o2_some, Option.some.injEq] at hi; obtain ⟨s, _, m', _, k', _, x', _, rfl⟩ := hi; rfl
    · simp at hi
  | mapUpdate t m k x =>
    simp only [insC] at hi
    split at hi
    · simp only [o2_some, Option.some.injEq] at hi; obtain ⟨s, _, m', _, k', _, x', _, rfl⟩ := hi; rfl
    · simp at hi
  | load t x => simp only [insC, o2_some, Option.some.injEq] at hi; obtain ⟨gg, h1, y, h2, rfl⟩ := hi; rfl
  | store t x y => simp only [insC, o2_some, Option.some.injEq] at hi; obtain ⟨gg, h1, y, h2, z, h3, rfl⟩ := hi; rfl
  | nilCheck x => simp only [insC, o2_some, Option.some.injEq] at hi; obtain ⟨y, h1, rfl⟩ := hi; rfl
  | binOp op t x y yt => simp only [insC, o2_some, Option.some.injEq] at hi; obtain ⟨x', h1, y', h2, rfl⟩ := hi; rfl
  | unOp op t x => simp only [insC, o2_some, Option.some.injEq] at hi; obtain ⟨x', h1, rfl⟩ := hi; rfl
  | convert s d x =>
    simp only [insC] at hi
    split at hi
    · simp only [o2_some, Option.some.injEq] at hi; obtain ⟨x', h1, rfl⟩ := hi; rfl
    · simp only [o2_some, Option.some.injEq] at hi; obtain ⟨x', h1, rfl⟩ := hi; rfl
    · split at hi
      · simp only [o2_some, Option.some.injEq] at hi; obtain ⟨x', h1, rfl⟩ := hi; rfl
      · simp at hi
    · split at hi
      · simp only [o2_some, Option.some.injEq] at hi; obtain ⟨x', h1, rfl⟩ := hi; rfl
      · simp at hi
    · simp at hi
  | makeInterface t x =>
    simp only [insC] at hi
    split at hi
    · simp at hi
    · simp only [o2_some, Option.some.injEq] at hi; obtain ⟨x', h1, rfl⟩ := hi; rfl
    · simp at hi
  | slice t x lo hi' mx =>
    simp only [insC, o2_some] at hi
    obtain ⟨x', h1, lo', h2, hi'', h3, mx', h4, h5⟩ := hi
    split at h5
    · split at h5
      · simp at h5
      · simp only [Option.some.injEq] at h5; subst h5; rfl
    · simp only [o2_some] at h5
      obtain ⟨n, hn, h5⟩ := h5
      split at h5
      · simp at h5
      · simp only [Option.some.injEq] at h5; subst h5; rfl
    · simp only [o2_some, Option.some.injEq] at h5; obtain ⟨n, hn, rfl⟩ := h5; rfl
    · split at h5
      · simp only [o2_some, Option.some.injEq] at h5; obtain ⟨n, hn, rfl⟩ := h5; rfl
      · simp at h5
    · simp at h5
  | fieldAddr s x f =>
    simp only [insC] at hi
    split at hi
    · split at hi
      · simp only [o2_some] at hi
        obtain ⟨n, hn, hi⟩ := hi
        split at hi
        · simp at hi
        · simp only [o2_some, Option.some.injEq] at hi; obtain ⟨x', h1, rfl⟩ := hi; rfl
      · simp at hi
    · simp at hi
  | field s x f =>
    simp only [insC] at hi
    split at hi
    · split at hi
      · simp only [o2_some, Option.some.injEq] at hi; obtain ⟨gg, hg, x', h1, rfl⟩ := hi; rfl
      · simp at hi
    · simp at hi
  | indexAddr t x i' =>
    simp only [insC, o2_some] at hi
    obtain ⟨x', h1, i'', h2, hi⟩ := hi
    split at hi
    · simp only [o2_some, Option.some.injEq] at hi; obtain ⟨n, hn, rfl⟩ := hi; rfl
    · simp only [o2_some, Option.some.injEq] at hi; obtain ⟨n, hn, rfl⟩ := hi; rfl
    · simp at hi
  | index t x i' =>
    simp only [insC, o2_some] at hi
    obtain ⟨x', h1, i'', h2, hi⟩ := hi
    split at hi
    · simp only [Option.some.injEq] at hi; subst hi; rfl
    · simp only [o2_some, Option.some.injEq] at hi; obtain ⟨n, hn, gg, hg, rfl⟩ := hi; rfl
    · simp at hi
  | lookup t m k ok =>
    simp only [insC] at hi
    split at hi
    · simp only [o2_some] at hi
      obtain ⟨s, _, z, _, hi⟩ := hi
      split at hi
      · simp at hi
      · simp only [o2_some, Option.some.injEq] at hi; obtain ⟨m', _, k', _, rfl⟩ := hi; rfl
    · simp at hi
  | makeSlice t l c =>
    simp only [insC] at hi
    split at hi
    · simp only [o2_some] at hi
      obtain ⟨n, _, b, _, z, _, hi⟩ := hi
      split at hi
      · simp at hi
      · simp only [o2_some, Option.some.injEq] at hi; obtain ⟨l', _, c', _, rfl⟩ := hi; rfl
    · simp at hi
  | extract x i' => simp only [insC, o2_some, Option.some.injEq] at hi; obtain ⟨x', h1, rfl⟩ := hi; rfl
  | _ => simp [insC] at hi

theorem evR_kind {ρ : Env} {σ : St} {i : Ins} {v : Value} (h : evR ρ σ i = some v) : (∃ a b, i = .ld a b) ∨ (∃ a b c d e, i = .lkp a b c d e) ∨ (∃ a, i = .lenM a) ∨ (∃ a, i = .cb2s a) ∨ (∃ a b c d e, i = .ssl a b c d e) := by
  cases i <;> first
    | exact .inl ⟨_, _, rfl⟩
    | exact .inr (.inl ⟨_, _, _, _, _, rfl⟩)
    | exact .inr (.inr (.inl ⟨_, rfl⟩))
    | exact .inr (.inr (.inr (.inl ⟨_, rfl⟩)))
    | exact .inr (.inr (.inr (.inr ⟨_, _, _, _, _, rfl⟩)))
    | (simp [evR] at h; done)

/-- A slice of a slice whose capacity isn't known. -/
theorem evSlU_ok {g : Gh} {nt : Nat} {ρ : Env} {a : Act} (hρ : ERel g nt ρ a.tmps) {σ : St} (hR : Rel P g σ w) {lo hi mx : Option Operand} {lo' hi' mx' : Option Arg} (h1 : argO lo = some lo') (h2 : argO hi = some hi')
    (h3 : argO mx = some mx') {t e : TypeId} {n : Nat} (ht : P.underlying t = some (.slice e)) (hn : sizeT P e = some n) {x x' v : Value} (hx : VRel g x x') (hv : evSlU ρ σ n x lo' hi' mx' = some v) :
    ∃ v', (Instr.sliceAt t x' (lo.map a.eval) (hi.map a.eval) (mx.map a.eval)).run P w = .ok v' w ∧ VRel g v v' := by
  unfold evSlU at hv
  split at hv
  · rename_i ad len cap
    split at hv
    · rename_i hcu
      subst hcu
      split at hv
      · rename_i cs e' ro ec hg
        split at hv
        · rename_i hee
          subst hee
          split at hv
          · simp at hv
          · rename_i h hh
            split at hv
            · simp at hv
            · rename_i l hl
              simp only [Option.some.injEq] at hv; subst hv
              have hmx : mx = none := by
                rcases argO_ok hρ h3 with ⟨e, _⟩ | ⟨_, _, _, e, _⟩
                · exact e
                · simp at e
              subst hmx
              have key : ∀ (real : Nat) (ad' : Addr), len ≤ real → x' = .slice (some ad') len real →
                  ((Instr.sliceAt t x' (lo.map a.eval) (hi.map a.eval) none).run P w = .ok (.slice (if real = l then some ad' else some (ad'.add (l * e'))) (h - l) (real - l)) w ∧ h ≤ len ∧ l ≤ h) := by
                intro real ad' hlr hxe
                obtain ⟨e1, e2, e3, e4, e5, e6, e7⟩ := bounds_ok (P := P) (w := w) (dflt := real) (m := real) (mx := none) (mx' := none) hρ h1 h2 rfl hlr true rfl hh rfl hl
                subst hxe
                refine ⟨?_, ?_, ?_⟩
                · simp only [Instr.sliceAt, Sem.run_bind, run_und ht, Result.andThen_ok, Instr.slice]
                  simp only [Option.map_none, Option.isSome_none, Bool.false_eq_true, if_false] at e1
                  rw [e1]
                  simp only [Result.andThen_ok, run_size hn, Sem.run_pure, Option.map_some]
                · cases hi' with
                  | some _ => exact e6 rfl rfl
                  | none => have := e5 rfl; omega
                · rcases e3 with e3 | e3
                  · have := e7 e3; omega
                  · exact e3
              cases hx with
              | sl hblk hll hu hcap =>
                rename_i i o b base c'
                obtain ⟨k1, k2, k3⟩ := key c' ⟨b, base + o, none⟩ hll rfl
                refine ⟨_, k1, ?_⟩
                by_cases hml : c' = l
                · subst hml
                  have : h - c' = 0 := by omega
                  rw [this]
                  simp only [if_true, Nat.sub_self, addA]
                  obtain ⟨_, arr, el, fz, _, _, _, _, h5, _⟩ := hR.obj _ _ _ _ hg hblk
                  obtain ⟨q1, q2, q3⟩ := h5 rfl
                  have hj : o + c' * e' = g.cap i * g.esz i := by
                    rcases hcap with hcap | ⟨_, j, j1, j2⟩
                    · exact absurd hcap (by omega)
                    · rw [← j2, Nat.add_mul, j1, q1]; omega
                  by_cases hln : c' * e' = 0
                  · simp only [hln, if_true]
                    exact .slu hblk (by omega)
                  · simp only [hln, if_false]
                    exact .slu hblk hj
                · simp only [hml, if_false, addA_eq]
                  have hcap' : capU = capU ∧ ∃ j, o + l * e' = j * g.esz i ∧ (c' - l) + j = g.cap i := by
                    obtain ⟨_, arr, el, fz, _, _, _, _, h5, _⟩ := hR.obj _ _ _ _ hg hblk
                    obtain ⟨q1, q2, q3⟩ := h5 rfl
                    rcases hcap with hcap | ⟨_, j, j1, j2⟩
                    · exact absurd hcap (by omega)
                    · refine ⟨rfl, j + l, ?_, by omega⟩
                      rw [j1, q1, Nat.add_mul]
                  by_cases hln : l * e' = 0
                  · simp only [Addr.add, hln, if_true]
                    exact .sl hblk (by omega) (by omega) (.inr (by simpa [hln] using hcap'))
                  · simp only [Addr.add, hln, if_false]
                    rw [Nat.add_assoc]
                    exact .sl hblk (by omega) (by omega) (.inr hcap')
              | slu hblk hj =>
                rename_i ad'
                obtain ⟨k1, k2, k3⟩ := key 0 ad' (Nat.le_refl _) rfl
                refine ⟨_, k1, ?_⟩
                have : h = 0 := by omega
                subst this
                have : l = 0 := by omega
                subst this
                simp only [Nat.zero_mul, addA, if_true, Nat.sub_self]
                exact .slu hblk hj
        · simp at hv
      · simp at hv
    · simp at hv
  · simp at hv

set_option maxHeartbeats 1000000 in
theorem evR_ok {g : Gh} {nt : Nat} {ρ : Env} {a : Act} (hρ : ERel g nt ρ a.tmps) {σ : St} (hR : Rel P g σ w) {o : Oper} {i : Ins} (hi : insC P o = some i) {v : Value} (hv : evR ρ σ i = some v) :
    ∃ v', (execOp a.eval o).run P w = .ok (.value v') w ∧ VRel g v v' := by
  have hk := insC_kind hi
  obtain ⟨dst, op, ty, pos, after, guard⟩ := o
  rcases evR_kind hv with ⟨gg, y, rfl⟩ | ⟨str, z, ok, m', k', rfl⟩ | ⟨y, rfl⟩ | ⟨y, rfl⟩ | ⟨n, x', lo', hi'', mx', rfl⟩
  · cases op <;> simp [kindI, kindO] at hk
    rename_i t x
    simp only [insC, o2_some, Option.some.injEq, Ins.ld.injEq] at hi
    obtain ⟨gg', h1, y', h2, rfl, rfl⟩ := hi
    have r1 := arg_ok hρ h2
    simp only [evR] at hv
    generalize y'.get ρ = cv at hv r1
    split at hv
    · split at hv
      · split at hv
        · rename_i cs hrow
          generalize hcv : a.eval x = cw at r1
          cases r1 with
          | ptr hb =>
            obtain ⟨v', e1, e2⟩ := load_ok hR h1 hb hrow hv
            exact ⟨v', by simp [execOp, hcv, Instr.loadAt, Instr.sureAddr, e1], e2⟩
        · simp at hv
      · simp at hv
    · simp at hv
  · cases op <;> simp [kindI, kindO] at hk
    rename_i t m k ok'
    simp only [insC] at hi
    split at hi
    · rename_i kt et hu
      simp only [o2_some] at hi
      obtain ⟨s, hs, z', hz, hi⟩ := hi
      split at hi
      · simp at hi
      · rename_i hcz
        simp only [o2_some, Option.some.injEq, Ins.lkp.injEq] at hi
        obtain ⟨m'', h1, k'', h2, rfl, rfl, rfl, rfl, rfl⟩ := hi
        have r1 := arg_ok hρ h1
        have r2 := arg_ok hρ h2
        simp only [evR] at hv
        generalize m''.get ρ = mv at hv r1
        generalize k''.get ρ = kv at hv r2
        split at hv
        · rename_i hko
          have hkr := keyRel hko r2
          obtain ⟨c1, c2⟩ := run_lookup (P := P) (w := w) hu hs hz hR hko ok' (closedV_rel g (by simpa using hcz))
          split at hv
          · simp only [Option.some.injEq] at hv
            generalize hcv : a.eval m = cw at r1
            cases r1
            obtain ⟨v', e1, e2⟩ := c1 v hv
            exact ⟨v', by simp [execOp, hcv, hkr, e1], e2⟩
          · split at hv
            · rename_i r es hes
              generalize hcv : a.eval m = cw at r1
              cases r1 with
              | map hb =>
                split at hv
                · rename_i v0 hf
                  simp only [Option.some.injEq] at hv
                  obtain ⟨v', e1, e2⟩ := c2 _ _ _ _ hb hes hf
                  simp only [hv] at e2
                  exact ⟨v', by simp [execOp, hcv, hkr, e1], e2⟩
                · rename_i hf
                  simp only [Option.some.injEq] at hv
                  obtain ⟨v', e1, e2⟩ := c2 _ _ _ _ hb hes hf
                  simp only [hv] at e2
                  exact ⟨v', by simp [execOp, hcv, hkr, e1], e2⟩
                · simp at hv
            · simp at hv
          · simp at hv
        · simp at hv
    · simp at hi
  · cases op <;> simp [kindI, kindO] at hk
    rename_i c
    obtain ⟨callee, args, ats⟩ := c
    simp only [insC, o2_some] at hi
    obtain ⟨as, h1, hi⟩ := hi
    have rs := args_ok hρ h1
    have eargs : args.map a.eval = ⟨args.toList.map a.eval⟩ := by cases args; simp
    have one : ∀ x : Arg, as = [x] → ∃ y, args.map a.eval = #[y] ∧ VRel g (x.get ρ) y := by
      intro x hx
      subst hx
      rw [eargs]
      generalize args.toList.map a.eval = l at rs
      cases rs with
      | cons hv t => cases t; exact ⟨_, rfl, hv⟩
    split at hi
    · simp at hi
    · simp only [o2_some, Option.some.injEq] at hi; obtain ⟨f', _, hi⟩ := hi; simp at hi
    · split at hi <;> simp only [Option.some.injEq, Ins.lenM.injEq, reduceCtorEq] at hi
      rename_i x kt et hu
      subst hi
      obtain ⟨y', e1, r1⟩ := one _ rfl
      obtain ⟨tt, ht, hu⟩ := Option.bind_eq_some_iff.1 hu
      simp only [evR] at hv
      generalize x.get ρ = cv at hv r1
      split at hv
      · simp only [Option.some.injEq] at hv; subst hv
        cases r1
        exact ⟨_, by simp [execOp, resolve, invoke, builtin, e1, Builtin.len_, ht, run_und hu, goInt], .int _ _⟩
      · simp only [Option.map_eq_some_iff] at hv
        obtain ⟨es, hes, rfl⟩ := hv
        cases r1 with
        | map hb =>
          obtain ⟨_, ents, clock, q1, q2, _⟩ := hR.obj _ _ _ _ (mapOf_some hes) hb
          have hl : es.length = ents.size := by
            have : ∀ {l : List (Value × Value)} {l' : List MapEntry}, MRel g l l' → l.length = l'.length := by
              intro l l' h
              induction h with
              | nil => rfl
              | cons _ _ _ ih => simp [ih]
            rw [this q2]; simp
          exact ⟨_, by simp [execOp, resolve, invoke, builtin, e1, Builtin.len_, ht, run_und hu, run_getMap q1, goInt, hl], .int _ _⟩
      · simp at hv
    all_goals first
      | (split at hi <;> simp at hi; done)
      | (split at hi
         · split at hi
           · simp only [o2_some] at hi
             obtain ⟨n, _, b, _, z, _, hi⟩ := hi
             split at hi
             · simp at hi
             · split at hi <;> simp at hi
           · simp at hi
         · simp at hi)
      | (split at hi
         · split at hi
           · simp only [o2_some] at hi
             obtain ⟨n, _, hi⟩ := hi
             split at hi <;> simp at hi
           · simp at hi
         · simp at hi)
      | (split at hi
         · split at hi
           · simp only [o2_some] at hi
             obtain ⟨n, _, hi⟩ := hi
             simp at hi
           · simp at hi
         · simp at hi)
      | (simp at hi; done)
  · cases op <;> simp [kindI, kindO] at hk
    rename_i s d x
    simp only [insC] at hi
    split at hi
    · simp only [o2_some, Option.some.injEq] at hi; obtain ⟨x', h1, h2⟩ := hi; simp at h2
    · simp only [o2_some, Option.some.injEq] at hi; obtain ⟨x', h1, h2⟩ := hi; simp at h2
    · rename_i e hs hd
      split at hi
      · rename_i he
        simp only [o2_some, Option.some.injEq, Ins.cb2s.injEq] at hi
        obtain ⟨x', h1, rfl⟩ := hi
        have r1 := arg_ok hρ h1
        simp only [evR] at hv
        generalize x'.get ρ = cv at hv r1
        split at hv
        · rename_i p len c
          simp only [Option.map_eq_some_iff, Option.bind_eq_some_iff] at hv
          obtain ⟨l, ⟨cs, hsrc, hby⟩, rfl⟩ := hv
          obtain ⟨cs', e1, e2⟩ := srcA_ok hR r1 hsrc
          obtain ⟨ns, q1, q2⟩ := bytesOf_ok hby e2
          generalize hcv : a.eval x = cw at r1
          have fin : ∀ ad len' c', a.eval x = .slice (some ad) len' c' → len' = len → ∃ v', (execOp a.eval { dst, op := .convert s d x, type := ty, pos, after, guard }).run P w = .ok (.value v') w ∧ VRel g (.string ⟨l.toArray⟩) v' := by
            intro ad len' c' hxe hl
            subst hl
            rw [hxe] at e1
            have e1' : (loadCells ad len').run P w = .ok (ns.map (Value.int .u8)).toArray w := by
              have : cs' = (ns.map (Value.int .u8)).toArray := by apply Array.ext'; rw [q1]
              rw [← this]
              simpa [Builtin.firstCells] using e1
            have e3 := run_bytesToString w ad len' c' ns e1'
            refine ⟨.string ⟨l.toArray⟩, ?_, .str _⟩
            simp only [execOp, hxe, Sem.run_bind, run_convert_bytes_string w s d e _ _ _ hs he hd, e3, Result.andThen_ok, Sem.run_pure]
            have : ns.foldl (fun r n => r.push (UInt8.ofNat n.toNat)) ByteArray.empty = ⟨l.toArray⟩ := by
              apply bytes_ext
              rw [foldl_push, q2]
              simp
            rw [this]
          cases r1 with
          | sl0 =>
            simp [srcA] at hsrc
            subst hsrc
            simp [bytesOf] at hby
            subst hby
            refine ⟨.string ⟨#[]⟩, ?_, .str _⟩
            simp only [execOp, hcv, Sem.run_bind, run_convert_bytes_string w s d e _ _ _ hs he hd, Conv.bytesToString, Result.andThen_ok, Sem.run_pure]
            rfl
          | sl hb hl hu hcap => exact fin _ _ _ hcv rfl
          | slz => exact fin _ _ _ hcv rfl
          | slu _ _ => exact fin _ _ _ hcv rfl
        · simp at hv
      · simp at hi
    · split at hi
      · simp only [o2_some, Option.some.injEq] at hi; obtain ⟨x', h1, h2⟩ := hi; simp at h2
      · simp at hi
    · simp at hi
  · cases op <;> simp [kindI, kindO] at hk
    rename_i t x lo hi' mx
    simp only [insC, o2_some] at hi
    obtain ⟨x'', h1, lo'', h2, hi3, h3, mx'', h4, h5⟩ := hi
    have r1 := arg_ok hρ h1
    split at h5
    · split at h5 <;> simp at h5
    · rename_i e hu
      simp only [o2_some] at h5
      obtain ⟨n', hn, h5⟩ := h5
      split at h5
      · simp at h5
      · simp only [Option.some.injEq, Ins.ssl.injEq] at h5
        obtain ⟨rfl, rfl, rfl, rfl, rfl⟩ := h5
        simp only [evR] at hv
        obtain ⟨v', e1, e2⟩ := evSlU_ok (P := P) (w := w) hρ hR h2 h3 h4 hu hn r1 hv
        exact ⟨v', by simp [execOp, e1], e2⟩
    · simp only [o2_some, Option.some.injEq] at h5; obtain ⟨n, hn, h5⟩ := h5; simp at h5
    · split at h5
      · simp only [o2_some, Option.some.injEq] at h5; obtain ⟨n, hn, h5⟩ := h5; simp at h5
      · simp at h5
    · simp at h5

end
end Go.Eng
