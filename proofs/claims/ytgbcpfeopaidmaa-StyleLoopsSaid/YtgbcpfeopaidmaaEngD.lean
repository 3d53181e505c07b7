/-
  The operations that look at no memory: what the model's own operation answers is what the interpreter says.
-/
import Derived.Test.YtgbcpfeopaidmaaEngC
set_option linter.all false
namespace Go.Eng
open Go

section
variable {P : Program} {w : World}

theorem run_und {t : TypeId} {d : TypeDesc} (h : P.underlying t = some d) : (underlying t).run P w = .ok d w := by simp [underlying, h]
theorem run_size {t : TypeId} {n : Nat} (h : sizeT P t = some n) : (sizeOf t).run P w = .ok n w := by
  unfold sizeT at h
  cases hi : P.info? t with
  | none => simp [hi] at h
  | some i => simp [hi] at h; simp [sizeOf, typeInfo, hi, h]
theorem run_bytes {t : TypeId} {n : Nat} (h : bytesT P t = some n) : ∃ i, (typeInfo t).run P w = .ok i w ∧ i.bytes = n := by
  unfold bytesT at h
  cases hi : P.info? t with
  | none => simp [hi] at h
  | some i => simp [hi] at h; exact ⟨i, by simp [typeInfo, hi], h⟩
theorem run_zero {t : TypeId} {z : Value} (h : zeroT P t = some z) : (zeroValue t).run P w = .ok z w := by
  unfold zeroT at h
  cases hi : P.info? t with
  | none => simp [hi] at h
  | some i =>
    simp [hi] at h
    simp [zeroValue, typeInfo, hi, h]
theorem run_agg {t : TypeId} {g : Option Nat} (h : aggT P t = some g) : (isAgg t).run P w = .ok g.isSome w ∧ ∀ n, g = some n → (sizeOf t).run P w = .ok n w := by
  unfold aggT at h
  cases hi : P.info? t with
  | none => simp [hi] at h
  | some i =>
    simp only [hi] at h
    cases hu : P.underlying t with
    | none => simp [hu] at h
    | some d =>
      simp only [hu] at h
      have hs : (sizeOf t).run P w = .ok i.size w := by simp [sizeOf, typeInfo, hi]
      cases d <;> simp at h <;> subst h <;> simp [isAgg, run_und hu, hs]

theorem run_part {t : TypeId} {gg : Option Nat} (ht : aggT P t = some gg) {g : Gh} {cs cs' : List Value} (hc : LRel g cs cs') {off : Nat} {v : Value} (hv : partA gg cs off = some v) :
    ∃ v', (part t ⟨cs'⟩ off).run P w = .ok v' w ∧ VRel g v v' := by
  obtain ⟨h1, h2⟩ := run_agg (w := w) ht
  unfold partA at hv
  cases gg with
  | some n =>
    simp only at hv
    split at hv
    · rename_i hle
      simp only [Option.some.injEq] at hv
      subst hv
      refine ⟨.agg ⟨(cs'.drop off).take n⟩, ?_, .agg ((hc.drop off).take n)⟩
      simp only [part, Sem.run_bind, h1, Result.andThen_ok, Option.isSome_some, if_true, h2 n rfl, Sem.run_pure]
      congr 2
      apply Array.ext'
      simp [List.extract_eq_take_drop]
    · simp at hv
  | none =>
    simp only at hv
    obtain ⟨v', e1, e2⟩ := hc.get hv
    exact ⟨v', by simp [part, h1, e1], e2⟩

theorem addA_eq (a : Addr) (n : Nat) : addA a n = a.add n := rfl

theorem add_rel {g : Gh} {i o b base : Nat} (h : g.blk i = some (b, base)) (n : Nat) :
    VRel g (.pointer (some (addA ⟨i, o, none⟩ n))) (.pointer (some ((⟨b, base + o, none⟩ : Addr).add n))) := by
  unfold addA Addr.add
  by_cases hn : n = 0
  · simp only [hn, if_true]; exact .ptr h
  · simp only [hn, if_false]
    have := VRel.ptr (o := o + n) h
    rwa [← Nat.add_assoc] at this

/-! Composite values. -/
theorem take_set_succ : ∀ (l : List Value) (n : Nat) (v : Value), n < l.length → (l.set n v).take (n + 1) = l.take n ++ [v]
  | [], n, v, h => by simp at h
  | a :: l, 0, v, h => by simp
  | a :: l, n + 1, v, h => by simpa using take_set_succ l n v (by simpa using h)

theorem fold_set (off : Nat) : ∀ (vs : List Value) (k : Nat) (cs : Array Value), off + k + vs.length ≤ cs.size →
    ((vs.zipIdx k).foldl (fun cs (c, j) => cs.setIfInBounds (off + j) c) cs).toList = spliceL cs.toList (off + k) vs
  | [], k, cs, _ => by simp [spliceL]
  | v :: vs, k, cs, h => by
    simp only [List.length_cons] at h
    simp only [List.zipIdx_cons, List.foldl_cons]
    rw [fold_set off vs (k + 1) (cs.setIfInBounds (off + k) v) (by simp; omega)]
    have hlt : off + k < cs.toList.length := by simp; omega
    have e : (cs.setIfInBounds (off + k) v).toList = cs.toList.set (off + k) v := by simp
    rw [e]
    unfold spliceL
    have e1 : (cs.toList.set (off + k) v).take (off + (k + 1)) = cs.toList.take (off + k) ++ [v] := take_set_succ _ _ _ hlt
    rw [e1, List.drop_set, if_pos (by omega)]
    simp only [List.append_assoc, List.singleton_append, List.length_cons]
    congr 3
    omega

theorem fill_ok {g : Gh} {nt : Nat} {ρ : Env} {a : Act} (hρ : ERel g nt ρ a.tmps) {place : Nat → Option (Nat × Nat)} :
    ∀ {parts : List (Nat × Operand)} {ps : List Part} {zs : List Value} {zs' : Array Value} {cs : List Value}, partsC place parts = some ps → fillL ρ zs ps = some cs → LRel g zs zs'.toList →
      ∃ cs', Instr.fill place zs' (parts.map fun (i, x) => (i, a.eval x)) = some cs' ∧ LRel g cs cs'.toList
  | [], ps, zs, zs', cs, hp, hf, hz => by
    simp only [partsC, Option.some.injEq] at hp
    subst hp
    simp only [fillL, Option.some.injEq] at hf
    subst hf
    exact ⟨zs', rfl, hz⟩
  | (i, x) :: parts, ps, zs, zs', cs, hp, hf, hz => by
    simp only [partsC] at hp
    split at hp
    · rename_i off size y ps' h1 h2 h3
      simp only [Option.some.injEq] at hp
      subst hp
      simp only [fillL] at hf
      have hv := (arg_ok hρ h2).cells
      split at hf
      · rename_i hc
        have hl := hv.length
        have hzl := hz.length
        simp only [cellsOf] at hl hc
        have hsz : off + (a.eval x).cells.size ≤ zs'.size := by
          have : (a.eval x).cells.toList.length = (a.eval x).cells.size := by simp
          have : zs'.toList.length = zs'.size := by simp
          omega
        obtain ⟨cs', e1, e2⟩ := fill_ok hρ (zs' := (a.eval x).cells.zipIdx.foldl (fun cs (c, j) => cs.setIfInBounds (off + j) c) zs') h3 hf (by
          have := fold_set off (a.eval x).cells.toList 0 zs' (by simpa using hsz)
          rw [show ((a.eval x).cells.zipIdx.foldl (fun cs (c, j) => cs.setIfInBounds (off + j) c) zs') = (((a.eval x).cells.toList.zipIdx 0).foldl (fun cs (c, j) => cs.setIfInBounds (off + j) c) zs') by
            rw [← Array.foldl_toList]; simp]
          rw [this]
          exact hz.splice hv off)
        refine ⟨cs', ?_, e2⟩
        simp only [List.map_cons, Instr.fill, h1]
        rw [if_neg]
        · exact e1
        · have : (a.eval x).cells.toList.length = (a.eval x).cells.size := by simp
          have hs : (a.eval x).cells.size = size := by omega
          simp only [hs, ne_eq, not_true_eq_false, decide_false, Bool.false_or, decide_eq_true_eq]
          omega
      · simp at hf
    · simp at hp

def placeS (f : Field) : Sem (Nat × Nat) := do pure (f.offset, ← sizeOf f.type)
theorem places_ok : ∀ (fs : List Field) (pl : List (Nat × Nat)), fieldsC P fs = some pl → (fs.mapM placeS).run P w = .ok pl w
  | [], pl, h => by simp [fieldsC] at h; subst h; rfl
  | f :: fs, pl, h => by
    simp only [fieldsC] at h
    split at h
    · rename_i n r h1 h2
      simp only [Option.some.injEq] at h
      subst h
      simp [List.mapM_cons, placeS, run_size h1, places_ok fs r h2]
    · simp at h

theorem places_arr (fs : Array Field) (pl : List (Nat × Nat)) (h : fieldsC P fs.toList = some pl) : (fs.mapM placeS).run P w = .ok pl.toArray w := by
  rw [Array.mapM_eq_mapM_toList, Sem.run_map, places_ok _ _ h]
  rfl

theorem parts_arr (parts : Array (Nat × Operand)) (ρ : Operand → Value) : (parts.map fun (i, x) => (i, ρ x)).toList = parts.toList.map fun (i, x) => (i, ρ x) := by simp

/-! Arithmetic, comparisons. -/
theorem strA_ok {op : BinOp} {x y : ByteArray} {v : Value} (h : strA op x y = some v) : (Op.stringOp op x y).run P w = .ok v w ∧ ∀ g, VRel g v v := by
  unfold strA at h
  cases op <;> simp at h <;> first
    | (obtain ⟨h1, rfl⟩ := h
       refine ⟨?_, fun g => .str _⟩
       simp only [Op.stringOp, Sem.run_ite, run_unsupported, Sem.run_pure]
       rw [if_neg]
       have : IntKind.i64.max = 9223372036854775807 := by decide
       rw [this]; omega)
    | (subst h; exact ⟨by simp [Op.stringOp], fun g => .bool _⟩)

theorem intA_ok {t : TypeId} {op : BinOp} {k : IntKind} {x y : Int} {v : Value} (h : intA op k x y = some v) (hs : op ≠ .shl ∧ op ≠ .shr) :
    (binOp op t (.int k x) (.int k y)).run P w = .ok v w ∧ ∀ g, VRel g v v := by
  unfold intA at h
  cases op <;> simp at h hs <;> first
    | (subst h; exact ⟨by simp [binOp, Op.intArith, Op.intBits, Op.intCmp], fun g => .int _ _⟩)
    | (subst h; exact ⟨by simp [binOp, Op.intArith, Op.intBits, Op.intCmp], fun g => .bool _⟩)
    | (obtain ⟨h1, rfl⟩ := h; exact ⟨by simp [binOp, Op.intDiv, h1], fun g => .int _ _⟩)

end
end Go.Eng
