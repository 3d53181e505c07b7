/-
  The library's strings, its Builder, maps.Clone: contracts of the interpreter's table.
-/
import Derived.Test.YtkokkanklmmfmaaGreatDoorNamesS
import Derived.Test.YtkokkanklmmfmaaGreatDoorStrs
import Derived.Lib.UnsafeStr
import Derived.Shelf.Strings.Builder1
set_option linter.all false
namespace Go.Proofs
open Go.RowKit Go.Shelf

theorem Tryz.sizeBuilder : (Tryz.prog.info? 257).map (·.size) = some 2 := by kernel_rfl
theorem Tryz.liesBuilder : liesAt Tryz.prog Tryz.prog.depth 257 (2 / Tryz.prog.cellsOf 257) 0 257 1 = true := by kernel_rfl
theorem Tryz.cellsByte : Tryz.prog.cellsOf 5 = 1 := by kernel_rfl

set_option maxHeartbeats 1000000 in
set_option maxRecDepth 100000 in
theorem Tryz.copyCheck_used (b : Nat) (w : World) (h0 : w.cell? ⟨b, 0, none⟩ = some (.pointer (some ⟨b, 0, none⟩))) :
    Calls Tryz.prog 238 #[.pointer (some ⟨b, 0, none⟩)] w fun e w' => e = .returned (.tuple #[]) ∧ w' = w := by
  obtain ⟨j, hj, _⟩ := Option.map_eq_some_iff.1 Tryz.sizeBuilder
  go_enter Tryz.func238, Tryz.ntmps238
  go_wp2
  rw [Lib.run_neq_ptr_same w _ Tryz.underlying255 hj]
  go_wp2
  go_end0
  exact ⟨rfl, rfl⟩

set_option maxHeartbeats 1000000 in
set_option maxRecDepth 100000 in
theorem Tryz.copyCheck_fresh (b : Nat) (w : World) (h0 : w.cell? ⟨b, 0, none⟩ = some (.pointer none)) (hsh : w.shape? b = some (257, 2)) (hfz : w.frozen? ⟨b, 0, none⟩ = false) :
    Calls Tryz.prog 238 #[.pointer (some ⟨b, 0, none⟩)] w fun e w' => e = .returned (.tuple #[]) ∧ w' = w.setCell ⟨b, 0, none⟩ (.pointer (some ⟨b, 0, none⟩)) := by
  obtain ⟨j, hj, hjs⟩ := Option.map_eq_some_iff.1 Tryz.sizeBuilder
  go_enter Tryz.func238, Tryz.ntmps238
  go_wp2
  rw [Lib.run_to_unsafe w ⟨b, 0, none⟩ Tryz.underlying255 Tryz.underlying308 hj (by rw [hjs]; decide) hsh (Nat.zero_lt_succ 1)]
  simp only [Result.andThen]
  rw [Oper.upon_value]
  go_wp2
  rw [run_callFunc_extern Tryz.func259 (by kernel_rfl) (by kernel_rfl) (by kernel_rfl) (e := Extern.AbiNoEscape.same) (by kernel_rfl)]
  rw [Lib.run_noEscape]
  simp only [Result.andThen]
  rw [Oper.upon_value]
  go_wp2
  rw [Lib.run_from_unsafe w ⟨b, 0, none⟩ Tryz.underlying308 Tryz.underlying255 hj hsh Tryz.liesBuilder]
  simp only [Result.andThen]
  rw [Oper.upon_value]
  go_wp2
  go_end0
  exact ⟨rfl, rfl⟩

set_option maxHeartbeats 1000000 in
set_option maxRecDepth 100000 in
theorem Tryz.builder_string (b g cap n : Nat) (l : List UInt8) (w : World) (h1 : w.cell? ⟨b, 1, none⟩ = some (.slice (some ⟨g, 0, none⟩) l.length cap)) (h0 : l ≠ []) (hsh : w.shape? g = some (5, n)) (hn : l.length ≤ n) (hc : l.length ≤ cap) (h63 : l.length ≤ 9223372036854775807)
    (hcell : ∀ j x, l[j]? = some x → w.cell? ((⟨g, 0, none⟩ : Addr).add j) = some (.int .u8 x.toNat)) :
    Calls Tryz.prog 193 #[.pointer (some ⟨b, 0, none⟩)] w fun e w' => e = .returned (.string ⟨l.toArray⟩) ∧ w' = w.drew.freeze ⟨g, 0, none⟩ l.length := by
  have hl0 : l.length ≠ 0 := by simpa using h0
  have c1 : w.drew.cell? ⟨b, 1, none⟩ = some (.slice (some ⟨g, 0, none⟩) l.length cap) := h1
  have hSD : (Builtin.unsafeSliceData_ #[25] 290 #[.slice (some ⟨g, 0, none⟩) l.length cap]).run Tryz.prog w.drew = .ok (.pointer (some ⟨g, 0, none⟩)) w.drew :=
    Lib.run_unsafeSliceData_row _ _ _ _ _ _ (by omega)
  have hUS : (Builtin.unsafeString_ #[290, 3] 9 #[.pointer (some ⟨g, 0, none⟩), .int .i64 l.length]).run Tryz.prog w.drew = .ok (.string ⟨l.toArray⟩) (w.drew.freeze ⟨g, 0, none⟩ l.length) :=
    Lib.run_unsafeString_row w.drew 290 3 9 5 Tryz.underlying290 Tryz.cellsByte g n hsh l h0 hn h63 hcell
  have mixed : Tryz.prog.follows .mixedOrders = true := by kernel_rfl
  go_enter Tryz.func193, Tryz.ntmps193
  go_wp2
  go_region_o
  all_goals (go_wp2; go_ret; exact ⟨rfl, rfl⟩)

set_option maxHeartbeats 1000000 in
set_option maxRecDepth 100000 in
theorem Tryz.builder_string_nil (b : Nat) (w : World) (h1 : w.cell? ⟨b, 1, none⟩ = some (.slice none 0 0)) :
    Calls Tryz.prog 193 #[.pointer (some ⟨b, 0, none⟩)] w fun e w' => e = .returned (.string ⟨#[]⟩) ∧ w' = w.drew := by
  have hUS : ∀ W q, (Builtin.unsafeString_ #[290, 3] 9 #[.pointer q, .int .i64 0]).run Tryz.prog W = .ok (.string .empty) W := fun W q => Lib.run_unsafeString_none W _ _ _ q
  have c1 : w.drew.cell? ⟨b, 1, none⟩ = some (.slice none 0 0) := h1
  have hSD : (Builtin.unsafeSliceData_ #[25] 290 #[.slice none 0 0]).run Tryz.prog w.drew = .ok (.pointer none) w.drew := rfl
  have mixed : Tryz.prog.follows .mixedOrders = true := by kernel_rfl
  go_enter Tryz.func193, Tryz.ntmps193
  go_wp2
  go_region_o
  all_goals (go_wp2; go_ret; exact ⟨rfl, rfl⟩)

end Go.Proofs

namespace Go.Eng
open Go Go.RowKit Go.Shelf
open Go.Proofs (encStr)

def CallSpec (P : Program) (f : FuncId) (h : List Value → St → Option (Value × St)) : Prop :=
  ∀ args σ v σ', h args σ = some (v, σ') → ∀ g w args', Rel P g σ w → LRel g args args' →
    (callFunc f ⟨args'⟩).run P w = .ok (.enter f ⟨args'⟩) w ∧ Calls P f ⟨args'⟩ w (CallPost P g σ w v σ')

theorem enters_code {P : Program} {f : FuncId} {fn : Func} (hf : P.funcs[f]? = some fn) (h : (match funC P fn with | some _ => true | none => false) = true) (w : World) (xs : Array Value) : (callFunc f xs).run P w = .ok (.enter f xs) w := by
  split at h
  · rename_i ir hir; exact callFunc_enter hf hir xs w
  · cases h

/-! Strings. -/
def idxS (c : UInt8) : List UInt8 → Nat → Option Nat
  | [], _ => none
  | b :: l, i => if b.toNat = c.toNat then some i else idxS c l (i + 1)

theorem idxS_eq (c : UInt8) : ∀ (l : List UInt8) (i : Nat), Lib.indexByte l c = (match idxS c l i with | some j => ((j : Int) - i) | none => -1) ∧ ∀ j, idxS c l i = some j → i ≤ j
  | [], i => by simp [Lib.indexByte, idxS]
  | b :: l, i => by
    obtain ⟨h1, h2⟩ := idxS_eq c l (i + 1)
    simp only [idxS, Lib.indexByte]
    by_cases hb : b.toNat = c.toNat
    · have : b = c := UInt8.toNat_inj.1 hb
      subst this
      simp
    · have hne : (b == c) = false := by simpa [← UInt8.toNat_inj] using hb
      rw [if_neg hb, hne]
      simp only [Bool.false_eq_true, if_false]
      cases hq : idxS c l (i + 1) with
      | none => rw [hq] at h1; simp only at h1; rw [h1]; simp
      | some j =>
        rw [hq] at h1
        simp only at h1
        have hj := h2 j hq
        have hn : (Lib.indexByte l c == -1) = false := by
          rw [h1]; simp; omega
        rw [hn, h1]
        refine ⟨by simp; omega, fun k hk => ?_⟩
        simp only [Option.some.injEq] at hk; omega

def hIndexByte : List Value → St → Option (Value × St)
  | [.string s, .int .u8 c], σ => some (.int .i64 (match idxS c.toNat.toUInt8 s.data.toList 0 with | some j => j | none => -1), σ)
  | _, _ => none

theorem indexByte_spec : CallSpec Proofs.Tryz.prog 237 hIndexByte := by
  intro args σ v σ' h g w args' hR ha
  refine ⟨enters_code Proofs.Tryz.func237 (by kernel_rfl) _ _, ?_⟩
  unfold hIndexByte at h
  split at h
  · rename_i s c
    simp only [Option.some.injEq, Prod.mk.injEq] at h
    obtain ⟨rfl, rfl⟩ := h
    cases ha with
    | cons h1 t =>
      cases t with
      | cons h2 t =>
        cases t; cases h1; cases h2
        refine (Proofs.Tryz.stringslite_IndexByte s c w).mono ?_
        rintro e w' ⟨rfl, rfl⟩
        refine ⟨_, g, rfl, ?_, Goes.refl hR⟩
        rw [(idxS_eq c.toNat.toUInt8 s.data.toList 0).1]
        have : (match idxS c.toNat.toUInt8 s.data.toList 0 with | some j => ((j : Int) - ((0 : Nat) : Int)) | none => -1) = (match idxS c.toNat.toUInt8 s.data.toList 0 with | some j => (j : Int) | none => -1) := by
          cases idxS c.toNat.toUInt8 s.data.toList 0 <;> simp
        rw [this]
        exact .int _ _
  · cases h

def cntS (c : UInt8) : List UInt8 → Nat
  | [] => 0
  | b :: l => if b.toNat = c.toNat then cntS c l + 1 else cntS c l

theorem cntS_eq (c : UInt8) : ∀ l : List UInt8, Lib.countByte l c = cntS c l
  | [] => rfl
  | b :: l => by
    have ih := cntS_eq c l
    unfold Lib.countByte at ih ⊢
    simp only [cntS, List.count_cons, ih]
    by_cases hb : b.toNat = c.toNat
    · have : b = c := UInt8.toNat_inj.1 hb
      subst this; simp
    · have hne : (b == c) = false := by simpa [← UInt8.toNat_inj] using hb
      simp [hb, hne]

def hCount : List Value → St → Option (Value × St)
  | [.string s, .string ⟨⟨[c]⟩⟩], σ => some (.int .i64 (cntS c s.data.toList), σ)
  | _, _ => none

theorem count_spec : CallSpec Proofs.Tryz.prog 166 hCount := by
  intro args σ v σ' h g w args' hR ha
  refine ⟨enters_code Proofs.Tryz.func166 (by kernel_rfl) _ _, ?_⟩
  unfold hCount at h
  split at h
  · rename_i s c
    simp only [Option.some.injEq, Prod.mk.injEq] at h
    obtain ⟨rfl, rfl⟩ := h
    cases ha with
    | cons h1 t =>
      cases t with
      | cons h2 t =>
        cases t; cases h1; cases h2
        refine (Proofs.Tryz.strings_Count_one s c w).mono ?_
        rintro e w' ⟨rfl, rfl⟩
        refine ⟨_, g, rfl, ?_, Goes.refl hR⟩
        rw [cntS_eq]
        exact .int _ _
  · cases h

/-! maps.Clone. -/
def hMapClone : List Value → St → Option (Value × St)
  | [.map none], σ => some (.map none, σ)
  | [.map (some r)], σ =>
    match mapOf σ r with
    | some es => some (.map (some σ.next), { σ.put σ.next (some (.map es)) with next := σ.next + 1 })
    | none => none
  | _, _ => none

theorem mapClone_spec {P : Program} {f : FuncId} (he : ∀ w xs, (callFunc f xs).run P w = .ok (.enter f xs) w)
    (c0 : ∀ w, Calls P f #[.map none] w fun e w' => e = .returned (.map none) ∧ w' = w)
    (c1 : ∀ b es clock w, w.heap[b]? = some (.map es clock) → Calls P f #[.map (some b)] w fun e w' => e = .returned (.map (some w.heap.size)) ∧ w' = w.alloc (.map es clock)) : CallSpec P f hMapClone := by
  intro args σ v σ' h g w args' hR ha
  refine ⟨he _ _, ?_⟩
  unfold hMapClone at h
  split at h
  · simp only [Option.some.injEq, Prod.mk.injEq] at h
    obtain ⟨rfl, rfl⟩ := h
    cases ha with
    | cons h1 t =>
      cases t; cases h1
      refine (c0 w).mono ?_
      rintro e w' ⟨rfl, rfl⟩
      exact ⟨_, g, rfl, .map0, Goes.refl hR⟩
  · rename_i r
    split at h
    · rename_i es hes
      simp only [Option.some.injEq, Prod.mk.injEq] at h
      obtain ⟨rfl, rfl⟩ := h
      cases ha with
      | cons h1 t =>
        cases t
        cases h1 with
        | map hb =>
          rename_i b
          obtain ⟨_, ents, clock, q1, q2, q3⟩ := hR.obj _ _ _ _ (mapOf_some hes) hb
          refine (c1 b ents clock w q1).mono ?_
          rintro e w' ⟨rfl, rfl⟩
          have hf := (hR.fresh σ.next (Nat.le_refl _)).2
          have hs : (w.alloc (.map ents clock)).heap.size = w.heap.size + 1 := Array.size_push _
          refine ⟨_, g.ext σ.next w.heap.size 0 0, rfl, .map (Gh.ext_blk _ _ _ _ _), adopt_goes (o := .map es) hR (fun k hk => Below.heap_alloc w _ k hk) (by omega) rfl rfl (Nat.le_refl _) (by omega) ?_⟩
          have : (w.alloc (.map ents clock)).heap[w.heap.size]? = some (.map ents clock) := (MapKept.heap_alloc w _).1
          exact ⟨rfl, ents, clock, this, q2.mono (Gh.le_ext hf _ _ _), q3⟩
    · cases h
  · cases h

/-! The Builder. -/
def bytesU : List Value → Option (List UInt8)
  | [] => some []
  | .int .u8 n :: r => if 0 ≤ n ∧ n < 256 then (bytesU r).map (UInt8.ofNat n.toNat :: ·) else none
  | _ => none

def hCopyCheck (tb : TypeId) : List Value → St → Option (Value × St)
  | [.pointer (some ⟨i, 0, none⟩)], σ =>
    match σ.get i with
    | some (.row (.pointer none :: cs) esz false false ec) =>
      if ec = tb + 1 ∧ cs.length = 1 then some (undefV, σ.put i (some (.row (ptrOf i 0 :: cs) esz false false ec))) else none
    | some (.row (.pointer (some ⟨j, 0, none⟩) :: cs) esz false false ec) => if j = i ∧ ec = tb + 1 then some (undefV, σ) else none
    | _ => none
  | _, _ => none

theorem copyCheck_spec : CallSpec Proofs.Tryz.prog 238 (hCopyCheck 257) := by
  intro args σ v σ' h g w args' hR ha
  refine ⟨enters_code Proofs.Tryz.func238 (by kernel_rfl) _ _, ?_⟩
  unfold hCopyCheck at h
  split at h
  · rename_i i
    cases ha with
    | cons h1 t =>
      cases t
      cases h1 with
      | ptr hb =>
        rename_i b base
        split at h
        · rename_i cs esz ec hg
          split at h
          · rename_i hc
            simp only [Option.some.injEq, Prod.mk.injEq] at h
            obtain ⟨rfl, rfl⟩ := h
            have hobj := hR.obj _ _ _ _ hg hb
            obtain ⟨v', hc0, hv⟩ := row_cell hobj (k := 0) (v := .pointer none) rfl
            obtain ⟨h0, arr, el, fz, q1, q2, q3, q4, q5, q6⟩ := hobj
            obtain ⟨r1, r2, r3⟩ := q6 _ hc.1
            have hsz := r3 rfl
            subst r1; subst r2
            cases hv
            simp only [Nat.zero_add] at hc0 ⊢
            have hl : (Value.pointer none :: cs).length = 2 := by simp [hc.2]
            rw [hl] at hsz
            have hsh : w.shape? b = some (257, 2) := by simp [World.shape?, q1, hsz]
            have hfz : w.frozen? ⟨b, 0, none⟩ = false := by
              have := q4 rfl 0 (Nat.le_refl _) (by omega)
              simp [World.frozen?, q1]
              omega
            refine (Proofs.Tryz.copyCheck_fresh b w hc0 hsh hfz).mono ?_
            rintro e w' ⟨rfl, rfl⟩
            refine ⟨_, g, rfl, .tuple .nil, ?_⟩
            refine put_goes hR hg rfl hb (o := .row (ptrOf i 0 :: cs) esz false false _) (ob := .cells (arr.setIfInBounds 0 (.pointer (some ⟨b, 0, none⟩))) 257 fz) rfl ?_ rfl rfl ?_
            · simp only [World.setCell]
              apply Array.ext_getElem?
              intro k
              rw [Array.getElem?_modify, Array.getElem?_setIfInBounds]
              by_cases hk : b = k
              · subst hk
                have hlt := hR.lt _ _ _ hb
                have hq : w.heap[b] = .cells arr 257 fz := by
                  have := q1
                  rw [Array.getElem?_eq_getElem hlt] at this
                  simpa using this
                simp [hlt, hq]
              · simp [hk]
            · obtain ⟨x, rfl⟩ : ∃ x, cs = [x] := by
                cases cs with
                | nil => simp at hc
                | cons x l =>
                  cases l with
                  | nil => exact ⟨x, rfl⟩
                  | cons y l => simp at hc
              obtain ⟨a0, a1, rfl⟩ : ∃ a0 a1, arr = #[a0, a1] := by
                obtain ⟨l⟩ := arr
                match l, hsz with
                | [a0, a1], _ => exact ⟨a0, a1, rfl⟩
              simp only [List.length_cons, List.length_nil, List.drop_zero, List.take_succ_cons, List.take_zero] at q3
              cases q3 with
              | cons g1 g2 =>
                cases g2 with
                | cons g2 g3 =>
                  have hp : VRel g (ptrOf i 0) (.pointer (some ⟨b, 0, none⟩)) := ptr_new hb
                  refine ⟨?_, #[.pointer (some ⟨b, 0, none⟩), a1], 257, fz, rfl, by simp, .cons hp (.cons g2 .nil), q4, (fun h => by cases h), fun t ht => ⟨(q6 t ht).1, rfl, fun _ => rfl⟩⟩
                  simp only [List.all_cons, Bool.and_eq_true] at h0 ⊢
                  exact ⟨rfl, h0.2⟩
          · cases h
        · rename_i j cs esz ec hg
          split at h
          · rename_i hc
            simp only [Option.some.injEq, Prod.mk.injEq] at h
            obtain ⟨rfl, rfl⟩ := h
            have hobj := hR.obj _ _ _ _ hg hb
            obtain ⟨v', hc0, hv⟩ := row_cell hobj (k := 0) (v := .pointer (some ⟨j, 0, none⟩)) rfl
            obtain ⟨h0, arr, el, fz, q1, q2, q3, q4, q5, q6⟩ := hobj
            obtain ⟨r1, r2, r3⟩ := q6 _ hc.2
            subst r2
            obtain rfl := hc.1
            cases hv with
            | ptr hb' =>
              rw [hb] at hb'
              simp only [Option.some.injEq, Prod.mk.injEq] at hb'
              obtain ⟨rfl, rfl⟩ := hb'
              simp only [Nat.zero_add] at hc0 ⊢
              refine (Proofs.Tryz.copyCheck_used b w hc0).mono ?_
              rintro e w' ⟨rfl, rfl⟩
              exact ⟨_, g, rfl, .tuple .nil, Goes.refl hR⟩
          · cases h
        · cases h
  · cases h


theorem bytesU_get : ∀ {cs : List Value} {l : List UInt8}, bytesU cs = some l → l.length = cs.length ∧ ∀ (j : Nat) (x : UInt8), l[j]? = some x → cs[j]? = some (Value.int .u8 x.toNat)
  | [], l, h => by simp [bytesU] at h; subst h; simp
  | v :: cs, l, h => by
    unfold bytesU at h
    split at h
    · rename_i heq; cases heq
    · rename_i n r heq
      simp only [List.cons.injEq] at heq
      obtain ⟨rfl, rfl⟩ := heq
      split at h
      · rename_i hn
        simp only [Option.map_eq_some_iff] at h
        obtain ⟨l', h', rfl⟩ := h
        obtain ⟨i1, i2⟩ := bytesU_get h'
        refine ⟨by simp [i1], fun j x hx => ?_⟩
        cases j with
        | zero =>
          simp only [List.getElem?_cons_zero, Option.some.injEq] at hx ⊢
          subst hx
          have : (UInt8.ofNat n.toNat).toNat = n.toNat := by
            rw [UInt8.toNat_ofNat']; exact Nat.mod_eq_of_lt (by omega)
          rw [this]
          congr 1; omega
        | succ j => simpa using i2 j x (by simpa using hx)
      · cases h
    · cases h

def hBString (tb tu : TypeId) : List Value → St → Option (Value × St)
  | [.pointer (some ⟨i, 0, none⟩)], σ =>
    match σ.get i with
    | some (.row [_, .slice none 0 0] _ false false eb) => if eb = tb + 1 then some (.string ⟨#[]⟩, σ) else none
    | some (.row [_, .slice (some ⟨j, 0, none⟩) (l + 1) _] _ false false eb) =>
      match σ.get j with
      | some (.row cs _ true false ec) =>
        if eb = tb + 1 ∧ ec = tu + 1 ∧ l + 1 ≤ cs.length ∧ cs.length ≤ 1073741824 then
          match bytesU (cs.take (l + 1)) with
          | some bs => some (.string ⟨bs.toArray⟩, σ.put j none)
          | none => none
        else none
      | _ => none
    | _ => none
  | _, _ => none

theorem freeze_other (w : World) (a : Addr) (n k : Nat) (hk : k ≠ a.block) : (w.freeze a n).heap[k]? = w.heap[k]? := by
  unfold World.freeze
  split
  · rfl
  · simp only [Array.getElem?_modify]
    rw [if_neg (fun e => hk e.symm)]
theorem freeze_size (w : World) (a : Addr) (n : Nat) : (w.freeze a n).heap.size = w.heap.size := by
  unfold World.freeze
  split
  · rfl
  · simp
theorem freeze_os (w : World) (a : Addr) (n : Nat) : (w.freeze a n).os = w.os ∧ (w.freeze a n).output = w.output := by
  unfold World.freeze
  split <;> exact ⟨rfl, rfl⟩

/-- A block that was owned, and is left. -/
theorem lose_goes {P : Program} {g : Gh} {σ : St} {w w' : World} (hR : Rel P g σ w) {j : Nat} {o : AObj} {b base : Nat} (hj : σ.get j = some o) (hro : o.ro = false) (hb : g.blk j = some (b, base)) (hk : ∀ k, k ≠ b → w'.heap[k]? = w.heap[k]?) (hs : w'.heap.size = w.heap.size) (os : w'.os = w.os) (out : w'.output = w.output) :
    Goes P g σ w g (σ.put j none) w' := by
  have hD := drop_goes hR j
  have hne : ∀ i oi x bs, (σ.put j none).get i = some oi → g.blk i = some (x, bs) → x ≠ b := by
    intro i oi x bs hi hbi e
    subst e
    rw [St.get_put] at hi
    split at hi
    · cases hi
    · rename_i hij
      have := hR.sep i j oi o x bs base hij hi hj hbi hb
      rw [hro] at this
      cases this.2
  refine ⟨g.le_refl, fun _ _ => rfl, hD.nx, ⟨fun i oi x bs hi hbi => ?_, hD.rel.sep, fun i x bs hbi => by rw [hs]; exact hD.rel.lt _ _ _ hbi, hD.rel.fresh⟩, by omega, fun k hk' hn => hk k ?_, fun r x hx ho => hD.own r x hx ho, os, out, hD.dead⟩
  · rw [hk x (hne i oi x bs hi hbi)]; exact hD.rel.obj _ _ _ _ hi hbi
  · intro e
    subst e
    exact hn ⟨j, o, base, hj, hro, hb⟩

theorem bstring_spec : CallSpec Proofs.Tryz.prog 193 (hBString 257 5) := by
  intro args σ v σ' h g w args' hR ha
  refine ⟨enters_code Proofs.Tryz.func193 (by kernel_rfl) _ _, ?_⟩
  unfold hBString at h
  split at h
  · rename_i i
    cases ha with
    | cons h1 t =>
      cases t
      cases h1 with
      | ptr hb =>
        rename_i b base
        split at h
        · rename_i x esz eb hg
          split at h
          · rename_i hc
            simp only [Option.some.injEq, Prod.mk.injEq] at h
            obtain ⟨rfl, rfl⟩ := h
            have hobj := hR.obj _ _ _ _ hg hb
            obtain ⟨v', hc1, hv⟩ := row_cell hobj (k := 1) (v := .slice none 0 0) rfl
            obtain ⟨h0, arr, el, fz, q1, q2, q3, q4, q5, q6⟩ := hobj
            obtain ⟨r1, r2, r3⟩ := q6 _ hc
            subst r2
            cases hv
            simp only [Nat.zero_add] at hc1 ⊢
            refine (Proofs.Tryz.builder_string_nil b w hc1).mono ?_
            rintro e w' ⟨rfl, rfl⟩
            exact ⟨_, g, rfl, .str _, Goes.drew hR rfl rfl rfl⟩
          · cases h
        · rename_i x j l c esz eb hg
          split at h
          · rename_i cs esz' ec hgj
            split at h
            · rename_i hc
              split at h
              · rename_i bs hbs
                simp only [Option.some.injEq, Prod.mk.injEq] at h
                obtain ⟨rfl, rfl⟩ := h
                have hobj := hR.obj _ _ _ _ hg hb
                obtain ⟨v', hc1, hv⟩ := row_cell hobj (k := 1) (v := .slice (some ⟨j, 0, none⟩) (l + 1) c) rfl
                obtain ⟨h0, arr, el, fz, q1, q2, q3, q4, q5, q6⟩ := hobj
                obtain ⟨r1, r2, r3⟩ := q6 _ hc.1
                subst r2
                cases hv with
                | sl hbj hl hu hcap =>
                  rename_i bj basej c'
                  have hobj' := hR.obj _ _ _ _ hgj hbj
                  have hcell := fun k v (hk : cs[k]? = some v) => row_cell hobj' hk
                  obtain ⟨h0', arr', el', fz', p1, p2, p3, p4, p5, p6⟩ := hobj'
                  obtain ⟨s1, s2, s3⟩ := p6 _ hc.2.1
                  subst s1; subst s2
                  obtain ⟨u1, u2⟩ := bytesU_get hbs
                  have hlen : bs.length = l + 1 := by rw [u1, List.length_take]; omega
                  simp only [Nat.zero_add] at hc1 hcell ⊢
                  rw [← hlen] at hc1
                  refine (Proofs.Tryz.builder_string b bj c' arr'.size bs w hc1 (fun e => by rw [e] at hlen; cases hlen) (by simp [World.shape?, p1]) (by omega) (by omega) (by omega) ?_).mono ?_
                  · intro k x hk
                    have hk2 := u2 k x hk
                    have hkl : k < l + 1 := by
                      have := (List.getElem?_eq_some_iff.1 hk).1
                      omega
                    rw [List.getElem?_take, if_pos hkl] at hk2
                    obtain ⟨v', k1, k2⟩ := hcell k _ hk2
                    cases k2
                    have : (⟨bj, 0, none⟩ : Addr).add k = ⟨bj, k, none⟩ := by
                      unfold Addr.add
                      by_cases hk0 : k = 0
                      · simp [hk0]
                      · simp [hk0]
                    rw [this]; exact k1
                  · rintro e w' ⟨rfl, rfl⟩
                    refine ⟨_, g, rfl, .str _, lose_goes hR hgj rfl hbj (fun k hk => ?_) ?_ ?_ ?_⟩
                    · exact freeze_other w.drew ⟨bj, 0, none⟩ bs.length k hk
                    · exact freeze_size w.drew ⟨bj, 0, none⟩ bs.length
                    · exact (freeze_os w.drew ⟨bj, 0, none⟩ bs.length).1
                    · exact (freeze_os w.drew ⟨bj, 0, none⟩ bs.length).2
              · cases h
            · cases h
          · cases h
        · cases h
  · cases h

end Go.Eng
