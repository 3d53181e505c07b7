/-
  The operations that make memory, all together.
-/
import Derived.Test.YtgbcpfeopaidmaaEngJ
set_option linter.all false
namespace Go.Eng
open Go

section
variable {P : Program} {w : World}

theorem cells_size_of {z : Value} : (cellsOf z).length = z.cells.size := by simp [cellsOf]

theorem sl_new {g' : Gh} {id b n : Nat} (h : g'.blk id = some (b, 0)) (m : Nat) (hm : m ≤ n) (hn : n < capU) : VRel g' (slOf id 0 m n) (.slice (some ⟨b, 0, none⟩) m n) := by
  have := VRel.sl (o := 0) (l := m) (c := n) (c' := n) h hm hn (.inl rfl)
  simpa [slOf] using this

theorem sl_open {g' : Gh} {id b c : Nat} (h : g'.blk id = some (b, 0)) (m : Nat) (hm : m ≤ c) (hc : c < capU) (hcap : g'.cap id = c) : VRel g' (slOf id 0 m capU) (.slice (some ⟨b, 0, none⟩) m c) := by
  have := VRel.sl (o := 0) (l := m) (c := capU) (c' := c) h hm hc (.inr ⟨rfl, 0, by simp, by simp [hcap]⟩)
  simpa [slOf] using this

/-- An open row that is new. -/
theorem makes_open {g : Gh} {id : Nat} (hb : g.blk id = none) {cs : List Value} {arr : Array Value} {el : TypeId} {fz : Nat × Nat} {esz c : Nat} {v' : Value} {w' : World} (hh : w'.heap = w.heap.push (.cells arr el fz))
    (ho : w'.os = w.os) (hp : w'.output = w.output) (hone : cs.all (·.oneCell') = true) (h : LRel g cs (arr.toList.take cs.length)) (hle : cs.length ≤ arr.size) (hfz : ∀ k, k < arr.size → ¬ (fz.1 ≤ k ∧ k < fz.2)) (hc : esz * c ≤ arr.size) (hcs : cs.length ≤ esz * c) {f : Nat → Value}
    (hv : ∀ g', g'.blk id = some (w.heap.size, 0) → g'.cap id = c → VRel g' (f id) v') {ec : Nat} (hec : ∀ t, ec = t + 1 → el = t := by intro t ht; cases ht) : Makes P g w w' id (.row cs esz true false ec) (f id) v' (g.ext id w.heap.size esz c) w.heap.size where
  le := Gh.le_ext hb _ _ _
  old j hj := by simp [Gh.ext, hj]
  blk := Gh.ext_blk _ _ _ _ _
  new := rfl
  heap := by
    refine ⟨_, hh, hone, arr, el, fz, rfl, by omega, ?_, fun _ k _ hk => hfz k hk, fun _ => ⟨by simp [Gh.ext], by simp [Gh.ext]; omega, by simp [Gh.ext]; omega⟩, fun t ht => ⟨hec t ht, rfl, fun h => by cases h⟩⟩
    simp only [List.drop_zero]
    exact h.mono (Gh.le_ext hb _ _ _)
  val := hv _ (Gh.ext_blk _ _ _ _ _) (by simp [Gh.ext])
  os := ho
  out := hp

theorem repL_rel {g : Gh} {l l' : List Value} (h : LRel g l l') : ∀ n, LRel g (repL n l) (repL n l')
  | 0 => .nil
  | n + 1 => h.append (repL_rel h n)

theorem repL_one {l : List Value} (h : l.all (·.oneCell') = true) : ∀ n, (repL n l).all (·.oneCell') = true
  | 0 => rfl
  | n + 1 => by simp only [repL, List.all_append, Bool.and_eq_true]; exact ⟨h, repL_one h n⟩

theorem srcA_one {g : Gh} {σ : St} (hR : Rel P g σ w) {esz n : Nat} {x x' : Value} (hx : VRel g x x') {cs : List Value} (hs : srcA σ esz n x = some cs) : cs.all (·.oneCell') = true := by
  unfold srcA at hs
  split at hs
  · split at hs
    · split at hs
      · simp only [Option.some.injEq] at hs; subst hs; rfl
      · rename_i h0
        split at hs
        · rename_i rs hrow
          split at hs
          · rename_i hc
            simp only [Option.some.injEq] at hs; subst hs
            cases hx with
            | sl hb hl hu hcap =>
              obtain ⟨e, p, r, ec, hg⟩ := rowOf_some hrow
              obtain ⟨h1, _⟩ := hR.obj _ _ _ _ hg hb
              simp only [List.all_eq_true] at h1 ⊢
              exact fun v hv => h1 v (List.mem_of_mem_drop (List.mem_of_mem_take hv))
            | slz =>
              have : n = 0 := by omega
              subst this; simp at h0
            | slu _ _ =>
              have : n = 0 := by omega
              subst this; simp at h0
          · simp at hs
        · simp at hs
    · simp at hs
  · split at hs
    · simp only [Option.some.injEq] at hs; subst hs; rfl
    · simp at hs
  · split at hs
    · simp only [Option.some.injEq] at hs; subst hs
      simp only [List.all_eq_true, List.mem_map]
      rintro v ⟨b, _, rfl⟩; rfl
    · simp at hs
  · simp at hs

theorem zeroCells_eq (z : Value) (k : Nat) (h : 0 < z.cells.size) : (Builtin.zeroCells z.cells k).toList = repL k (cellsOf z) := by
  unfold Builtin.zeroCells cellsOf
  exact repL_arr k z.cells _ rfl h

theorem modify_last {α : Type} (x : α) (f : α → α) : ∀ l : List α, (l ++ [x]).modify l.length f = l ++ [f x]
  | [] => rfl
  | a :: l => by simp [modify_last x f l]

/-- How the model's heap looks behind a conversion to bytes. -/
theorem freeze_push (w : World) (arr : Array Value) (el : TypeId) (n : Nat) (hn : 0 < n) :
    (({ w with heap := w.heap.push (.cells arr el) } : World).freeze ⟨w.heap.size, arr.size, none⟩ n).heap = w.heap.push (.cells arr el (arr.size, arr.size + n)) := by
  unfold World.freeze
  rw [if_neg (by omega)]
  simp only
  apply Array.ext'
  simp only [Array.toList_modify, Array.toList_push]
  rw [show w.heap.size = w.heap.toList.length by simp, modify_last]
  simp

theorem lower_app {g : Gh} {nt : Nat} {ρ : Env} {a : Act} (hρ : ERel g nt ρ a.tmps) {as : List Arg} {args : Array Operand} (h1 : argsC args.toList = some as) {s x : Arg} (he : as = [s, x]) :
    ∃ s' x', args.map a.eval = #[s', x'] ∧ VRel g (s.get ρ) s' ∧ VRel g (x.get ρ) x' := by
  have rs := args_ok hρ h1
  have eargs : args.map a.eval = ⟨args.toList.map a.eval⟩ := by cases args; simp
  subst he
  rw [eargs]
  generalize args.toList.map a.eval = l at rs
  cases rs with
  | cons hv t =>
    cases t with
    | cons hw t => cases t; exact ⟨_, _, rfl, hv, hw⟩

/-- What the compiler knows of an append. -/
theorem insC_app {c : Call} {dst : Option Tmp} {ty : TypeId} {pos : String} {after : Array Edge} {guard : Option (Nat × Bool)} {n et : Nat} {zo : Option (List Value)} {s x : Arg}
    (hi : insC P { dst, op := .call c, type := ty, pos, after, guard } = some (.app n et zo s x)) :
    c.callee = .builtin .append ∧ argsC c.args.toList = some [s, x] ∧ ∃ st xt e xd z b, b ≤ 65536 ∧ e = et ∧ c.argTypes[0]? = some st ∧ c.argTypes[1]? = some xt ∧ P.underlying st = some (.slice e) ∧ P.underlying xt = some xd ∧ sizeT P e = some n ∧ bytesT P e = some b ∧
      zeroT P e = some z ∧ closedV z = true ∧ (cellsOf z).length = n ∧ n ≠ 0 ∧ zo = (match xd with | .int _ => some (cellsOf z) | _ => none) := by
  obtain ⟨callee, args, ats⟩ := c
  simp only [insC, o2_some] at hi
  obtain ⟨as, h1, hi⟩ := hi
  split at hi
  · simp at hi
  · simp only [o2_some, Option.some.injEq] at hi; obtain ⟨f', _, hi⟩ := hi; simp at hi
  · split at hi <;> simp at hi
  · split at hi <;> simp at hi
  · split at hi <;> simp at hi
  · split at hi <;> simp at hi
  · split at hi
    · rename_i s' x' st xt h2 h3
      split at hi
      · rename_i e xd hu hx
        simp only [o2_some] at hi
        obtain ⟨n', hn, b', hb, z, hz, hi⟩ := hi
        split at hi
        · simp at hi
        · rename_i hc
          have hc1 : closedV z = true := by
            cases hcz : closedV z with
            | true => rfl
            | false => exact absurd (.inl hcz) hc
          have hc2 : (cellsOf z).length = n' := by
            by_cases h : (cellsOf z).length = n'
            · exact h
            · exact absurd (.inr (.inl h)) hc
          have hc3 : n' ≠ 0 := fun h => hc (.inr (.inr (.inl h)))
          have hc4 : b' ≤ 65536 := Nat.not_lt.1 fun h => hc (.inr (.inr (.inr h)))
          refine ⟨rfl, ?_, st, xt, e, xd, z, b', hc4, ?_, h2, h3, hu, hx, ?_⟩
          · cases xd <;> simp only [Option.some.injEq, Ins.app.injEq] at hi <;> obtain ⟨_, _, _, rfl, rfl⟩ := hi <;> exact h1
          · cases xd <;> simp only [Option.some.injEq, Ins.app.injEq] at hi <;> obtain ⟨_, h, _⟩ := hi <;> exact h
          · cases xd <;> simp only [Option.some.injEq, Ins.app.injEq] at hi <;> obtain ⟨rfl, _, rfl, _, _⟩ := hi <;> exact ⟨hn, hb, hz, hc1, hc2, hc3, rfl⟩
      · simp at hi
    · simp at hi
  · split at hi
    · split at hi
      · simp only [o2_some] at hi
        obtain ⟨n', _, hi⟩ := hi
        split at hi <;> simp at hi
      · simp at hi
    · simp at hi
  · split at hi
    · split at hi
      · simp only [o2_some] at hi
        obtain ⟨n', _, hi⟩ := hi
        simp at hi
      · simp at hi
    · simp at hi
  · simp at hi

/-- How many elements an append appends, and which. -/
theorem app_new {g : Gh} {σ : St} (hR : Rel P g σ w) {n : Nat} {xd : TypeDesc} {z : Value} (hzc : closedV z = true) (hzl : (cellsOf z).length = n) (hn0 : n ≠ 0) {zo : Option (List Value)} (hzo : zo = (match xd with | .int _ => some (cellsOf z) | _ => none))
    {xv xv' : Value} (hx : VRel g xv xv') {k : Nat}
    (hk : appN zo xv = some k) {new : List Value} (hnew : appL σ n zo k xv = some new) :
    ∃ news : Array Value, LRel g new news.toList ∧ AppSrc P w xd z n xv' k news := by
  cases xd with
  | int kk0 =>
    simp only at hzo
    subst hzo
    simp only [appN, appL] at hk hnew
    split at hk
    · split at hk
      · rename_i hc
        simp only [Option.some.injEq] at hk hnew
        subst hk; subst hnew
        cases hx
        refine ⟨_, ?_, _, _, rfl, hc.1, hc.2, rfl, rfl⟩
        rw [zeroCells_eq z _ (by have := cells_size_of (z := z); omega)]
        exact repL_rel (closedV_cells g hzc) _
      · simp at hk
    · simp at hk
  | _ =>
    simp only at hzo
    subst hzo
    simp only [appN, appL] at hk hnew
    obtain ⟨news, e1, e2⟩ := srcA_all hR hx hnew
    exact ⟨news, e2, lenA_ok hx hk, e1⟩

theorem srcA_len {σ : St} {esz n : Nat} {v : Value} {cs : List Value} (h : srcA σ esz n v = some cs) (hs : ∀ s, v = .string s → n ≤ s.size) : cs.length = n * esz := by
  unfold srcA at h
  split at h
  · split at h
    · split at h
      · rename_i h0; simp only [Option.some.injEq] at h; subst h; simpa using h0.symm
      · split at h
        · split at h
          · rename_i hh; simp only [Option.some.injEq] at h; subst h; simp; omega
          · simp at h
        · simp at h
    · simp at h
  · split at h
    · rename_i h0; simp only [Option.some.injEq] at h; subst h; simp [h0]
    · simp at h
  · rename_i s
    split at h
    · rename_i h1
      have := hs s rfl
      simp only [Option.some.injEq] at h; subst h
      simp [h1]
      exact Nat.min_eq_left this
    · simp at h
  · simp at h

theorem appL_len {σ : St} {esz k : Nat} {z : Option (List Value)} {xv : Value} {new : List Value} (hk : appN z xv = some k) (h : appL σ esz z k xv = some new) (hz : ∀ zs, z = some zs → zs.length = esz) : new.length = k * esz := by
  cases z with
  | some zs =>
    simp only [appL, Option.some.injEq] at h; subst h
    rw [repL_length, hz zs rfl]
  | none =>
    simp only [appL, appN] at h hk
    refine srcA_len h fun s hs => ?_
    subst hs
    simp only [lenA, Option.some.injEq] at hk
    omega

theorem appL_one {g : Gh} {σ : St} (hR : Rel P g σ w) {esz k : Nat} {z : Option (List Value)} {xv xv' : Value} (hx : VRel g xv xv') {new : List Value} (h : appL σ esz z k xv = some new) (hz : ∀ zs, z = some zs → zs.all (·.oneCell') = true) : new.all (·.oneCell') = true := by
  cases z with
  | some zs =>
    simp only [appL, Option.some.injEq] at h; subst h
    exact repL_one (hz zs rfl) k
  | none => exact srcA_one hR hx h

/-- The operations that make memory. -/
theorem evM_ok {g : Gh} {nt : Nat} {ρ : Env} {a : Act} (hρ : ERel g nt ρ a.tmps) {σ : St} (hR : Rel P g σ w) {op : Oper} {i : Ins} (hi : insC P op = some i) {o : AObj} {f : Nat → Value} (hv : evM ρ σ i = some (o, f)) {id : Nat} (hb : g.blk id = none) :
    ∃ v' w' g', (execOp a.eval op).run P w = .ok (.value v') w' ∧ Makes P g w w' id o (f id) v' g' w.heap.size := by
  have hk := insC_kind hi
  obtain ⟨dst, op, ty, pos, after, guard⟩ := op
  rcases evM_kind hv with ⟨zs, t', rfl⟩ | ⟨y, rfl⟩ | ⟨n, esz, zs, ps, rfl⟩ | rfl | ⟨esz, bytes, zs, l, c, rfl⟩ | ⟨y, rfl⟩ | ⟨esz, bytes, z, s, x, rfl⟩
  · cases op <;> simp [kindI, kindO] at hk
    rename_i t
    simp only [insC, o2_some] at hi
    obtain ⟨z, h1, h2⟩ := hi
    split at h2
    · rename_i hz
      simp only [Option.some.injEq, Ins.alloc.injEq] at h2; obtain ⟨rfl, rfl⟩ := h2
      simp only [evM, Option.some.injEq, Prod.mk.injEq] at hv
      obtain ⟨rfl, rfl⟩ := hv
      refine ⟨_, _, _, ?_, makes_row hb (arr := z.cells) (el := t) (closedV_one hz) (closedV_cells g hz) (fun g' h => ptr_new h) (ec := t + 1) (fun t' h => Nat.succ.inj h)⟩
      simp [execOp, Instr.alloc, run_zero h1, newVar, newRow]
    · simp at h2
  · cases op <;> simp [kindI, kindO] at hk
    rename_i t x
    simp only [insC, o2_some, Option.some.injEq, Ins.box.injEq] at hi
    obtain ⟨y', h1, rfl⟩ := hi
    simp only [evM] at hv
    split at hv
    case isFalse => simp at hv
    rename_i hone
    simp only [Option.some.injEq, Prod.mk.injEq] at hv
    obtain ⟨rfl, rfl⟩ := hv
    refine ⟨_, _, _, ?_, makes_row hb (arr := (a.eval x).cells) (el := t) hone (arg_ok hρ h1).cells (fun g' h => ptr_new h)⟩
    simp [execOp, Instr.box, newVar, newRow]
  · cases op <;> simp [kindI, kindO] at hk
    rename_i t len parts
    simp only [insC] at hi
    split at hi
    · rename_i e hu
      simp only [o2_some] at hi
      obtain ⟨n', hn, z, hz, h3⟩ := hi
      split at h3
      · simp at h3
      · rename_i hc
        simp only [o2_some, Option.some.injEq, Ins.bslice.injEq] at h3
        obtain ⟨ps', h4, rfl, rfl, rfl, rfl⟩ := h3
        have hc1 : closedV z = true := by
          cases hcz : closedV z with
          | true => rfl
          | false => exact absurd (.inl hcz) hc
        have hc2 : ¬ 16777216 < len * n' := fun h => hc (.inr (.inl h))
        have hc3 : (cellsOf z).length = n' := by
          by_cases h : (cellsOf z).length = n'
          · exact h
          · exact absurd (.inr (.inr (.inl h))) hc
        have hc4 : n' ≠ 0 := fun h => hc (.inr (.inr (.inr h)))
        have hzs : z.cells.size = n' := by rw [← cells_size_of]; exact hc3
        simp only [evM] at hv
        split at hv
        case h_2 => simp at hv
        rename_i cs hf
        split at hv
        case isFalse => simp at hv
        rename_i hone
        simp only [Option.some.injEq, Prod.mk.injEq] at hv
        obtain ⟨rfl, rfl⟩ := hv
        have hrow : (if len * n' = 0 then (#[] : Array Value) else z.cells) = if len * n' = 0 then #[] else z.cells := rfl
        have hzr : LRel g (zeroRow (cellsOf z) len) ((Array.range (len * n')).map ((if len * n' = 0 then (#[] : Array Value) else z.cells)[· % (if len * n' = 0 then (#[] : Array Value) else z.cells).size]!)).toList := by
          by_cases h0 : len * n' = 0
          · have hl0 : len = 0 := by rcases Nat.mul_eq_zero.1 h0 with h | h <;> omega
            subst hl0
            simp only [Nat.zero_mul, if_true, zeroRow, repL]
            have : ((Array.range 0).map (fun x : Nat => (#[] : Array Value)[x % (#[] : Array Value).size]!)).toList = [] := by simp
            rw [this]; exact .nil
          · simp only [h0, if_false]
            rw [repL_arr len z.cells n' hzs (by omega)]
            exact repL_rel (closedV_cells g hc1) len
        obtain ⟨cs', e1, e2⟩ := fill_ok hρ h4 hf hzr
        have hlen : len < capU := by
          have : len ≤ len * n' := Nat.le_mul_of_pos_right _ (by omega)
          unfold capU; omega
        refine ⟨_, _, _, ?_, makes_row hb (arr := cs') (el := e) hone e2 (fun g' h => sl_new h len (Nat.le_refl _) hlen)⟩
        have h24 : ¬ (len * n' > 2 ^ 24) := by omega
        have e1' : Instr.fill (fun i => some (i * n', n')) ((Array.range (len * n')).map ((if len * n' = 0 then (#[] : Array Value) else z.cells)[· % (if len * n' = 0 then (#[] : Array Value) else z.cells).size]!)) (parts.toList.map fun x => (x.fst, a.eval x.snd)) = some cs' := e1
        by_cases h0 : len * n' = 0
        · simp only [h0, if_true] at e1'
          have h24' : ¬ (0 > 2 ^ 24) := by omega
          simp only [execOp, Instr.buildSlice, Sem.run_bind, run_und hu, Result.andThen_ok, run_size hn, h0, h24', if_true, if_false, Sem.run_pure, parts_arr, e1', newRow, run_newObj, Sem.run_ite]
        · simp only [h0, if_false] at e1'
          simp only [execOp, Instr.buildSlice, Sem.run_bind, run_und hu, Result.andThen_ok, run_size hn, h24, h0, if_false, Sem.run_pure, run_zero hz, parts_arr, e1', newRow, run_newObj, Sem.run_ite]
    · simp at hi
  · cases op <;> simp [kindI, kindO] at hk
    rename_i t r
    cases r with
    | some _ => simp [insC] at hi
    | none =>
      simp only [evM, Option.some.injEq, Prod.mk.injEq] at hv
      obtain ⟨rfl, rfl⟩ := hv
      refine ⟨.map (some w.heap.size), { w with heap := w.heap.push (.map #[] 0) }, g.ext id w.heap.size 0 0, by simp [execOp, Instr.makeMap], ?_⟩
      exact ⟨Gh.le_ext hb _ _ _, fun j hj => by simp [Gh.ext, hj], Gh.ext_blk _ _ _ _ _, rfl, ⟨_, rfl, rfl, #[], 0, rfl, .nil, MapKept.stamped_empty _⟩, .map (Gh.ext_blk _ _ _ _ _), rfl, rfl⟩
  · cases op <;> simp [kindI, kindO] at hk
    rename_i t l' c'
    simp only [insC] at hi
    split at hi
    · rename_i e hu
      simp only [o2_some] at hi
      obtain ⟨n', hn, b, hbt, z, hz, h3⟩ := hi
      split at h3
      · simp at h3
      · rename_i hc
        simp only [o2_some, Option.some.injEq, Ins.mslice.injEq] at h3
        obtain ⟨l'', h4, c'', h5, rfl, rfl, rfl, rfl, rfl⟩ := h3
        have hc1 : closedV z = true := by
          cases hcz : closedV z with
          | true => rfl
          | false => exact absurd (.inl hcz) hc
        have hc3 : (cellsOf z).length = n' := by
          by_cases h : (cellsOf z).length = n'
          · exact h
          · exact absurd (.inr (.inl h)) hc
        have hc4 : n' ≠ 0 := fun h => hc (.inr (.inr h))
        have hzs : z.cells.size = n' := by rw [← cells_size_of]; exact hc3
        have r1 := arg_ok hρ h4
        have r2 := arg_ok hρ h5
        simp only [evM] at hv
        generalize l''.get ρ = lv at hv r1
        generalize c''.get ρ = cv at hv r2
        split at hv
        · rename_i kx x ky y
          split at hv
          · rename_i hcond
            simp only [Option.some.injEq, Prod.mk.injEq] at hv
            obtain ⟨rfl, rfl⟩ := hv
            generalize hlv : a.eval l' = lw at r1
            generalize hcv : a.eval c' = cw at r2
            cases r1; cases r2
            obtain ⟨q1, q2, q3, q4⟩ := hcond
            obtain ⟨ti, hti, htb⟩ := run_bytes (w := w) hbt
            have wr : ∀ m : Int, 0 ≤ m → m ≤ 1073741824 → IntKind.i64.wrap m = m := by
              intro m m1 m2
              have e1 : m % (2 ^ 64 : Int) = m := Int.emod_eq_of_lt m1 (by omega)
              simp only [IntKind.wrap, IntKind.bits, IntKind.signed, e1]
              rw [if_neg]
              simp; omega
            have big : ∀ m : Int, 0 ≤ m → m ≤ 1073741824 → ¬ ((m < 0 || (ti.bytes : Int) * m > 2 ^ 48) = true) := by
              intro m m1 m2
              have h3 : (ti.bytes : Int) * m = ((ti.bytes * m.toNat : Nat) : Int) := by
                rw [Int.natCast_mul, Int.toNat_of_nonneg m1]
              have h4 : ti.bytes * m.toNat ≤ 65536 * 1073741824 := Nat.mul_le_mul (by omega) (by omega)
              simp only [Bool.or_eq_true, decide_eq_true_eq, h3]
              omega
            have hzr : LRel g (repL y.toNat (cellsOf z)) ((Array.range (y.toNat * n')).map ((if y.toNat * n' = 0 then (#[] : Array Value) else z.cells)[· % (if y.toNat * n' = 0 then (#[] : Array Value) else z.cells).size]!)).toList := by
              by_cases h0 : y.toNat * n' = 0
              · have hl0 : y.toNat = 0 := by rcases Nat.mul_eq_zero.1 h0 with h | h <;> omega
                simp only [hl0, Nat.zero_mul, if_true, repL]
                have : ((Array.range 0).map (fun x : Nat => (#[] : Array Value)[x % (#[] : Array Value).size]!)).toList = [] := by simp
                rw [this]; exact .nil
              · simp only [h0, if_false]
                rw [repL_arr y.toNat z.cells n' hzs (by omega)]
                exact repL_rel (closedV_cells g hc1) y.toNat
            refine ⟨_, _, _, ?_, makes_row hb (el := e) (repL_one (closedV_one hc1) _) hzr (fun g' h => sl_new h x.toNat (by omega) (by unfold capU; omega))⟩
            have b1 : ¬ (281474976710656 < (ti.bytes : Int) * y) := by
              have := big y (by omega) q3
              simp only [Bool.or_eq_true, decide_eq_true_eq] at this
              omega
            have b0 : ¬ (y < 0) := by omega
            have b2 : ¬ (x < 0) := by omega
            have b3 : ¬ (x > y) := by omega
            by_cases h0 : y.toNat * n' = 0
            · simp [execOp, Instr.makeSlice, run_und hu, hlv, hcv, asInt, asIntOf, hti, wr x q1 (by omega), wr y (by omega) q3, b0, b1, b2, b3, run_size hn, h0, newRow]
            · simp [execOp, Instr.makeSlice, run_und hu, hlv, hcv, asInt, asIntOf, hti, wr x q1 (by omega), wr y (by omega) q3, b0, b1, b2, b3, run_size hn, h0, newRow, run_zero hz]
          · simp at hv
        · simp at hv
    · simp at hi
  · cases op <;> simp [kindI, kindO] at hk
    rename_i s d x
    simp only [insC] at hi
    split at hi
    · simp only [o2_some, Option.some.injEq] at hi; obtain ⟨x', h1, h2⟩ := hi; simp at h2
    · simp only [o2_some, Option.some.injEq] at hi; obtain ⟨x', h1, h2⟩ := hi; simp at h2
    · split at hi
      · simp only [o2_some, Option.some.injEq] at hi; obtain ⟨x', h1, h2⟩ := hi; simp at h2
      · simp at hi
    · rename_i e hs hd
      split at hi
      · rename_i he
        simp only [o2_some, Option.some.injEq, Ins.cs2b.injEq] at hi
        obtain ⟨x', h1, rfl⟩ := hi
        have r1 := arg_ok hρ h1
        simp only [evM] at hv
        generalize x'.get ρ = cv at hv r1
        split at hv
        · rename_i str
          split at hv
          case isFalse => simp at hv
          rename_i hstr
          simp only [Option.some.injEq, Prod.mk.injEq] at hv
          obtain ⟨rfl, rfl⟩ := hv
          generalize hcv : a.eval x = cw at r1
          cases r1
          let c := str.size + w.tape w.drawn (.appendCap str.size 0 e) % (2 ^ 63 - str.size)
          have hc1 : str.size ≤ c := Nat.le_add_right _ _
          by_cases hsz : str.size < 2 ^ 63
          · have hc2 : c < capU := by
              have : w.tape w.drawn (.appendCap str.size 0 e) % (2 ^ 63 - str.size) < 2 ^ 63 - str.size := Nat.mod_lt _ (by omega)
              unfold capU
              omega
            have hcut : (Question.appendCap str.size 0 e).cut (w.tape w.drawn (.appendCap str.size 0 e)) = c := rfl
            let arr : Array Value := str.data.map (fun b => .int .u8 b.toNat) ++ Array.replicate (c - str.size) (.int .u8 0)
            have harr : arr.size = c := by
              have : str.data.size = str.size := rfl
              simp [arr]; omega
            let w1 : World := { w with drawn := w.drawn + 1, heap := w.heap.push (.cells arr e) }
            have hsh : w1.shape? w.heap.size = some (e, arr.size) := by simp [w1, World.shape?]
            have hrun : (execOp a.eval { dst, op := .convert s d x, type := ty, pos, after, guard }).run P w = .ok (.value (.slice (some ⟨w.heap.size, 0, none⟩) str.size c)) (w1.freeze ⟨w.heap.size, arr.size, none⟩ 1) := by
              simp only [execOp, hcv, convert, Sem.run_bind, run_und hs, run_und hd, run_und he, Result.andThen_ok, Conv.stringToBytes, run_choose, Question.forced, Bool.false_eq_true, if_false, hcut, newRow, run_newObj, Sem.run_pure, markStringish, run_shape]
              rw [show ({ w with drawn := w.drawn + 1, heap := w.heap.push (Obj.cells (str.data.map (fun b => Value.int .u8 b.toNat) ++ Array.replicate (c - str.size) (.int .u8 0)) e) } : World) = w1 from rfl, hsh]
              rfl
            refine ⟨_, _, _, hrun, makes_open hb (arr := arr) (el := e) (fz := (arr.size, arr.size + 1)) (esz := 1) (c := c) (f := fun i => slOf i 0 str.size capU) ?_ ?_ ?_ (by simp only [List.all_eq_true, List.mem_map]; rintro v ⟨b, _, rfl⟩; rfl) ?_ ?_ (fun k hk => by omega) (by rw [harr]; omega) ?_ (fun g' h hc => sl_open h _ hc1 hc2 hc)⟩
            · exact freeze_push { w with drawn := w.drawn + 1 } arr e 1 (by omega)
            · simp [World.freeze, w1]
            · simp [World.freeze, w1]
            · have hlen : (str.data.toList.map fun b => Value.int .u8 b.toNat).length = str.size := by simp
              rw [hlen]
              have : arr.toList.take str.size = str.data.toList.map fun b => Value.int .u8 b.toNat := by
                simp [arr]
              rw [this]
              generalize str.data.toList = l
              induction l with
              | nil => exact .nil
              | cons b l ih => exact .cons (.int _ _) (ih)
            · rw [harr]; simp; exact hc1
            · simp; exact hc1
          · omega
        · simp at hv
      · simp at hi
    · simp at hi
  · cases op <;> simp [kindI, kindO] at hk
    rename_i c
    obtain ⟨q1, q2, st, xt, e, xd, z', bytes', qb, qe, q3, q4, q5, q6, q7, q8, q9, q10, q11, q12, q13⟩ := insC_app hi
    obtain ⟨s', x', hargs, r1, r2⟩ := lower_app hρ q2 rfl
    simp only [evM] at hv
    generalize s.get ρ = sv at hv r1
    generalize x.get ρ = xv at hv r2
    split at hv
    · simp at hv
    · rename_i k hk'
      split at hv
      · simp at hv
      · rename_i hk0
        split at hv
        · rename_i p len cap
          split at hv
          · rename_i hcond
            split at hv
            · rename_i old new hold hnew
              simp only [Option.some.injEq, Prod.mk.injEq] at hv
              obtain ⟨rfl, rfl⟩ := hv
              obtain ⟨c1, c2, c3, _⟩ := hcond
              have c4 := qb
              obtain ⟨news, e1, e2⟩ := app_new (P := P) (w := w) hR q10 q11 q12 q13 r2 hk' hnew
              obtain ⟨olds, f1, f2⟩ := srcA_all hR r1 hold
              have hs' : ∃ base, s' = .slice base len cap := by
                cases r1 with
                | sl0 => exact ⟨_, rfl⟩
                | sl hb' hl hu hcap =>
                  rcases hcap with rfl | hcap
                  · exact ⟨_, rfl⟩
                  · exact absurd hcap.1 c1
                | slz => exact ⟨_, rfl⟩
                | slu _ _ => exact absurd rfl c1
              obtain ⟨base, rfl⟩ := hs'
              have hzs : z'.cells.size = esz := by rw [← cells_size_of]; exact q11
              obtain ⟨cc, rest, g1, g2, g3, g4⟩ := run_append_new (P := P) (w := w) q3 q4 q5 q6 q7 q8 q9 hzs (by omega) ty (k := k) e2 f1 (by omega) c2 c3 c4
              have lold : old.length = len * esz := srcA_len hold (fun s hs => by cases hs)
              have lnew : new.length = k * esz := appL_len hk' hnew (fun zs hz => by
                cases xd <;> simp [q13] at hz
                rw [← hz]; exact q11)
              have hcall : (execOp a.eval { dst, op := .call c, type := ty, pos, after, guard }).run P w = .ok (.value (.slice (some ⟨w.heap.size, 0, none⟩) (len + k) cc)) { w with drawn := w.drawn + 1, heap := w.heap.push (.cells ⟨olds.toList ++ news.toList ++ rest⟩ e) } := by
                obtain ⟨callee, args, ats⟩ := c
                simp only at q1 q3 q4 hargs
                subst q1
                simp only [execOp, resolve, hargs, Sem.run_bind, Sem.run_pure, Result.andThen_ok, invoke, builtin, g4]
              have ltot : (old ++ new).length = (len + k) * esz := by simp [lold, lnew, Nat.add_mul]
              have hrel : LRel g (old ++ new) (olds.toList ++ news.toList) := f2.append e1
              refine ⟨_, _, _, hcall, makes_open (w' := { w with drawn := w.drawn + 1, heap := w.heap.push (.cells ⟨olds.toList ++ news.toList ++ rest⟩ e) }) hb (arr := ⟨olds.toList ++ news.toList ++ rest⟩) (el := e) (fz := (0, 0)) (esz := esz) (c := cc) (f := fun i => slOf i 0 (len + k) capU) rfl rfl rfl (by simp only [List.all_append, Bool.and_eq_true]; exact ⟨srcA_one hR r1 hold, appL_one hR r2 hnew (fun zs hz => by cases xd <;> simp [q13] at hz; rw [← hz]; exact closedV_one q10)⟩) ?_ ?_ (fun _ _ => by omega) ?_ ?_ (fun g' h hc => sl_open h (len + k) g1 g2 hc) (ec := bytes + 1) (fun t ht => qe.trans (Nat.succ.inj ht))⟩
              · have hl := hrel.length
                rw [hl, List.take_left]
                exact hrel
              · have hl := hrel.length
                have h2 := List.length_append (as := olds.toList ++ news.toList) (bs := rest)
                simp only [List.size_toArray]
                rw [h2, ← hl]; exact Nat.le_add_right _ _
              · have hl := hrel.length
                have : (len + k) * esz + (cc - (len + k)) * esz = esz * cc := by
                  rw [← Nat.add_mul, Nat.mul_comm]; congr 1; omega
                have h2 := List.length_append (as := olds.toList ++ news.toList) (bs := rest)
                simp only [List.size_toArray]
                rw [h2, ← hl, ltot, g3, this]
                exact Nat.le_refl _
              · rw [ltot, Nat.mul_comm]; exact Nat.mul_le_mul_left _ g1
            · simp at hv
          · simp at hv
        · simp at hv

end
end Go.Eng
