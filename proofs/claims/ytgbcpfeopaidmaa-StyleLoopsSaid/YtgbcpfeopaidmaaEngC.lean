/-
  How the interpreter's values and heap are related to the model's: the relation, and what keeps it.
-/
import Derived.Test.YtgbcpfeopaidmaaEngB
import Derived.Laws.Cells
import Derived.MapKept
set_option linter.all false
namespace Go.Eng
open Go

/-- Where an abstract object lies: its block, where in it it begins; of one that grows: its elements' size, how many fit. -/
structure Gh where
  blk : Nat → Option (Nat × Nat)
  esz : Nat → Nat
  cap : Nat → Nat

def Gh.le (g g' : Gh) : Prop := ∀ i x, g.blk i = some x → g'.blk i = some x ∧ g'.esz i = g.esz i ∧ g'.cap i = g.cap i
theorem Gh.le_refl (g : Gh) : g.le g := fun _ _ h => ⟨h, rfl, rfl⟩
theorem Gh.le_trans {a b c : Gh} (h : a.le b) (h' : b.le c) : a.le c := fun i x hx =>
  let ⟨h1, h2, h3⟩ := h i x hx
  let ⟨k1, k2, k3⟩ := h' i x h1
  ⟨k1, k2.trans h2, k3.trans h3⟩

mutual
inductive VRel (g : Gh) : Value → Value → Prop
  | bool (b : Bool) : VRel g (.bool b) (.bool b)
  | int (k : IntKind) (n : Int) : VRel g (.int k n) (.int k n)
  | str (s : ByteArray) : VRel g (.string s) (.string s)
  | ptr0 : VRel g (.pointer none) (.pointer none)
  | ptr {i o b base : Nat} (h : g.blk i = some (b, base)) : VRel g (.pointer (some ⟨i, o, none⟩)) (.pointer (some ⟨b, base + o, none⟩))
  | sl0 : VRel g (.slice none 0 0) (.slice none 0 0)
  | sl {i o l c b base c' : Nat} (h : g.blk i = some (b, base)) (hl : l ≤ c') (hu : c' < capU) (hc : c' = c ∨ (c = capU ∧ ∃ j, o = j * g.esz i ∧ c' + j = g.cap i)) :
      VRel g (.slice (some ⟨i, o, none⟩) l c) (.slice (some ⟨b, base + o, none⟩) l c')
  | slz {a a' : Addr} : VRel g (.slice (some a) 0 0) (.slice (some a') 0 0)
  | slu {i o b base : Nat} {a' : Addr} (h : g.blk i = some (b, base)) (hj : o = g.cap i * g.esz i) : VRel g (.slice (some ⟨i, o, none⟩) 0 capU) (.slice (some a') 0 0)
  | map0 : VRel g (.map none) (.map none)
  | map {i b : Nat} (h : g.blk i = some (b, 0)) : VRel g (.map (some i)) (.map (some b))
  | fn {f : FuncId} {xs ys xs' ys' : List Value} (hx : LRel g xs xs') (hy : LRel g ys ys') : VRel g (.func (.func f) ⟨xs⟩ ⟨ys⟩) (.func (.func f) ⟨xs'⟩ ⟨ys'⟩)
  | yield {l b : Nat} (h : g.blk l = some (b, 0)) : VRel g (.func (.yield l) #[] #[]) (.func (.yield b) #[] #[])
  | fn0 : VRel g .nilFunc .nilFunc
  | iface {t : TypeId} {v v' : Value} (h : VRel g v v') : VRel g (.iface t v) (.iface t v')
  | if0 : VRel g .nilIface .nilIface
  | agg {xs xs' : List Value} (h : LRel g xs xs') : VRel g (.agg ⟨xs⟩) (.agg ⟨xs'⟩)
  | tuple {xs xs' : List Value} (h : LRel g xs xs') : VRel g (.tuple ⟨xs⟩) (.tuple ⟨xs'⟩)
inductive LRel (g : Gh) : List Value → List Value → Prop
  | nil : LRel g [] []
  | cons {v v' : Value} {l l' : List Value} (h : VRel g v v') (t : LRel g l l') : LRel g (v :: l) (v' :: l')
end

mutual
theorem VRel.mono {g g' : Gh} (hg : g.le g') : ∀ {v v' : Value}, VRel g v v' → VRel g' v v'
  | _, _, .bool b => .bool b
  | _, _, .int k n => .int k n
  | _, _, .str s => .str s
  | _, _, .ptr0 => .ptr0
  | _, _, .ptr h => .ptr (hg _ _ h).1
  | _, _, .sl0 => .sl0
  | _, _, .sl h hl hu hc => .sl (hg _ _ h).1 hl hu (by
      obtain ⟨_, h2, h3⟩ := hg _ _ h
      rw [h2, h3]; exact hc)
  | _, _, .slz => .slz
  | _, _, .slu h hj => .slu (hg _ _ h).1 (by
      obtain ⟨_, h2, h3⟩ := hg _ _ h
      rw [h2, h3]; exact hj)
  | _, _, .map0 => .map0
  | _, _, .map h => .map (hg _ _ h).1
  | _, _, .fn hx hy => .fn (LRel.mono hg hx) (LRel.mono hg hy)
  | _, _, .yield h => .yield (hg _ _ h).1
  | _, _, .fn0 => .fn0
  | _, _, .iface h => .iface (VRel.mono hg h)
  | _, _, .if0 => .if0
  | _, _, .agg h => .agg (LRel.mono hg h)
  | _, _, .tuple h => .tuple (LRel.mono hg h)
theorem LRel.mono {g g' : Gh} (hg : g.le g') : ∀ {l l' : List Value}, LRel g l l' → LRel g' l l'
  | _, _, .nil => .nil
  | _, _, .cons h t => .cons (VRel.mono hg h) (LRel.mono hg t)
end

namespace LRel
variable {g : Gh}
theorem length {l l' : List Value} (h : LRel g l l') : l.length = l'.length := by
  induction l generalizing l' with
  | nil => cases h; rfl
  | cons a l ih => cases h with | cons h t => simp [ih t]
theorem append {a a' b b' : List Value} (h : LRel g a a') (k : LRel g b b') : LRel g (a ++ b) (a' ++ b') := by
  induction a generalizing a' with
  | nil => cases h; exact k
  | cons x a ih => cases h with | cons h t => exact .cons h (ih t)
theorem take {l l' : List Value} (h : LRel g l l') (n : Nat) : LRel g (l.take n) (l'.take n) := by
  induction l generalizing l' n with
  | nil => cases h; simp; exact .nil
  | cons a l ih =>
    cases h with
    | cons h t =>
      cases n with
      | zero => exact .nil
      | succ n => exact .cons h (ih t n)
theorem drop {l l' : List Value} (h : LRel g l l') (n : Nat) : LRel g (l.drop n) (l'.drop n) := by
  induction l generalizing l' n with
  | nil => cases h; simp; exact .nil
  | cons a l ih =>
    cases h with
    | cons h t =>
      cases n with
      | zero => exact .cons h t
      | succ n => exact ih t n
theorem get {l l' : List Value} (h : LRel g l l') {i : Nat} {v : Value} (hv : l[i]? = some v) : ∃ v', l'[i]? = some v' ∧ VRel g v v' := by
  induction l generalizing l' i with
  | nil => simp at hv
  | cons a l ih =>
    cases h with
    | cons h t =>
      cases i with
      | zero => simp at hv; subst hv; exact ⟨_, rfl, h⟩
      | succ i => simpa using ih t (by simpa using hv)
theorem getR {l l' : List Value} (h : LRel g l l') {i : Nat} {v' : Value} (hv : l'[i]? = some v') : ∃ v, l[i]? = some v ∧ VRel g v v' := by
  induction l generalizing l' i with
  | nil => cases h; simp at hv
  | cons a l ih =>
    cases h with
    | cons h t =>
      cases i with
      | zero => simp at hv; subst hv; exact ⟨_, rfl, h⟩
      | succ i => simpa using ih t (by simpa using hv)
theorem getD {l l' : List Value} (h : LRel g l l') (i : Nat) {d : Value} (hd : VRel g d d) : VRel g (l.getD i d) (l'.getD i d) := by
  rw [List.getD_eq_getElem?_getD, List.getD_eq_getElem?_getD]
  cases hv : l[i]? with
  | some v => obtain ⟨v', h1, h2⟩ := h.get hv; rw [h1]; exact h2
  | none =>
    have : l'[i]? = none := by rw [List.getElem?_eq_none_iff] at hv ⊢; rw [← h.length]; exact hv
    rw [this]; exact hd
/-- A list is related if each place is. -/
theorem mk {l l' : List Value} (hl : l.length = l'.length) (h : ∀ (i : Nat) (v v' : Value), l[i]? = some v → l'[i]? = some v' → VRel g v v') : LRel g l l' := by
  induction l generalizing l' with
  | nil => cases l' with | nil => exact .nil | cons a l' => simp at hl
  | cons a l ih =>
    cases l' with
    | nil => simp at hl
    | cons b l' => exact .cons (h 0 a b rfl rfl) (ih (by simpa using hl) (fun i v v' h1 h2 => h (i + 1) v v' (by simpa using h1) (by simpa using h2)))
theorem splice {l l' vs vs' : List Value} (h : LRel g l l') (hv : LRel g vs vs') (off : Nat) : LRel g (spliceL l off vs) (spliceL l' off vs') := by
  unfold spliceL
  rw [← hv.length]
  exact ((h.take off).append hv).append (h.drop _)
end LRel

theorem undef_rel (g : Gh) : VRel g undefV undefV := .tuple .nil
theorem undefV_eq : undefV = undef := rfl

theorem closedS_rel (g : Gh) {v : Value} (h : closedS v = true) : VRel g v v := by
  unfold closedS at h
  split at h
  · exact .bool _
  · exact .int _ _
  · exact .str _
  · exact .ptr0
  · exact .sl0
  · exact .map0
  · exact .fn0
  · exact .if0
  · simp at h
theorem closedL_rel (g : Gh) : ∀ {l : List Value}, l.all closedS = true → LRel g l l
  | [], _ => .nil
  | a :: l, h => by
    simp only [List.all_cons, Bool.and_eq_true] at h
    exact .cons (closedS_rel g h.1) (closedL_rel g h.2)
theorem closedV_rel (g : Gh) {v : Value} (h : closedV v = true) : VRel g v v := by
  unfold closedV at h
  split at h
  · exact .agg (closedL_rel g h)
  · exact closedS_rel g h
theorem closedV_cells (g : Gh) {v : Value} (h : closedV v = true) : LRel g (cellsOf v) (cellsOf v) := by
  have := closedV_rel g h
  unfold cellsOf Value.cells
  cases v <;> first
    | (cases this with | agg h => exact h)
    | exact .cons this .nil

theorem closedS_one {v : Value} (h : closedS v = true) : v.oneCell' = true := by
  unfold closedS at h
  split at h <;> first | rfl | simp at h
theorem closedV_one {v : Value} (h : closedV v = true) : (cellsOf v).all (·.oneCell') = true := by
  unfold closedV at h
  split at h
  · simp only [cellsOf, Value.cells, List.all_eq_true] at h ⊢
    exact fun x hx => closedS_one (h x hx)
  · have := closedS_one h
    cases v <;> simp_all [cellsOf, Value.cells, Value.oneCell']
theorem VRel.one {g : Gh} {v v' : Value} (h : VRel g v v') : v'.oneCell' = v.oneCell' := by cases h <;> rfl
theorem LRel.one {g : Gh} : ∀ {l l' : List Value}, LRel g l l' → l'.all (·.oneCell') = l.all (·.oneCell')
  | _, _, .nil => rfl
  | _, _, .cons h t => by simp [h.one, t.one]

theorem VRel.cells {g : Gh} {v v' : Value} (h : VRel g v v') : LRel g (cellsOf v) (cellsOf v') := by
  cases h with
  | agg h => exact h
  | bool b => exact .cons (.bool b) .nil
  | int k n => exact .cons (.int k n) .nil
  | str s => exact .cons (.str s) .nil
  | ptr0 => exact .cons .ptr0 .nil
  | ptr h => exact .cons (.ptr h) .nil
  | sl0 => exact .cons .sl0 .nil
  | sl h hl hu hc => exact .cons (.sl h hl hu hc) .nil
  | slz => exact .cons .slz .nil
  | slu h hj => exact .cons (.slu h hj) .nil
  | map0 => exact .cons .map0 .nil
  | map h => exact .cons (.map h) .nil
  | fn hx hy => exact .cons (.fn hx hy) .nil
  | yield h => exact .cons (.yield h) .nil
  | fn0 => exact .cons .fn0 .nil
  | iface h => exact .cons (.iface h) .nil
  | if0 => exact .cons .if0 .nil
  | tuple h => exact .cons (.tuple h) .nil

/-- The temporaries of an activation. -/
structure ERel (g : Gh) (nt : Nat) (ρ : Env) (tmps : Array Value) : Prop where
  size : nt ≤ tmps.size
  val : ∀ i, VRel g (ρ i) (tmps.getD i undef)

theorem ERel.mono {g g' : Gh} (hg : g.le g') {nt : Nat} {ρ : Env} {tmps : Array Value} (h : ERel g nt ρ tmps) : ERel g' nt ρ tmps :=
  ⟨h.size, fun i => (h.val i).mono hg⟩

theorem getD_set (tmps : Array Value) (d i : Nat) (v u : Value) (hd : d < tmps.size) :
    (tmps.setIfInBounds d v).getD i u = if i = d then v else tmps.getD i u := by
  simp only [Array.getD_eq_getD_getElem?, Array.getElem?_setIfInBounds]
  by_cases h : i = d
  · subst h; simp [hd]
  · rw [if_neg (fun e => h e.symm), if_neg h]

theorem ERel.put {g : Gh} {nt : Nat} {ρ : Env} {a : Act} (h : ERel g nt ρ a.tmps) {d : Option Nat} (hd : ∀ x, d = some x → x < nt) {v v' : Value} (hv : VRel g v v') :
    ERel g nt (ρ.upd d v) (a.put d v').tmps := by
  cases d with
  | none => exact h
  | some d =>
    have hd' := hd d rfl
    refine ⟨by simpa [Act.put] using h.size, fun i => ?_⟩
    simp only [Act.put, Env.upd]
    rw [getD_set _ _ _ _ _ (Nat.lt_of_lt_of_le hd' h.size)]
    by_cases hi : i = d
    · simp [hi, hv]
    · simp only [hi, if_false]; exact h.val i

theorem put_defers (a : Act) (d : Option Nat) (v : Value) : (a.put d v).defers = a.defers := by cases d <;> rfl

/-- Operands. -/
theorem arg_ok {g : Gh} {nt : Nat} {ρ : Env} {a : Act} (h : ERel g nt ρ a.tmps) {x : Operand} {y : Arg} (hx : argC x = some y) : VRel g (y.get ρ) (a.eval x) := by
  cases x with
  | tmp t => simp only [argC, Option.some.injEq] at hx; subst hx; exact h.val t
  | const v =>
    simp only [argC] at hx
    split at hx
    · rename_i hc; simp at hx; subst hx; exact closedV_rel g hc
    · simp at hx
  | global _ => simp [argC] at hx
  | func f => simp only [argC, Option.some.injEq] at hx; subst hx; exact .fn .nil .nil

theorem args_ok {g : Gh} {nt : Nat} {ρ : Env} {a : Act} (h : ERel g nt ρ a.tmps) : ∀ {xs : List Operand} {ys : List Arg}, argsC xs = some ys →
    LRel g (ys.map (·.get ρ)) (xs.map a.eval)
  | [], ys, hx => by simp [argsC] at hx; subst hx; exact .nil
  | x :: xs, ys, hx => by
    simp only [argsC] at hx
    split at hx
    · rename_i y ys' h1 h2
      simp only [Option.some.injEq] at hx
      subst hx
      exact .cons (arg_ok h h1) (args_ok h h2)
    · simp at hx

/-! The heap. -/
def PendRel : Option Ex → Option Code → Prop
  | none, none => True
  | some (.exit i), some (.exit j) => i = j
  | some .ret, some .ret => True
  | _, _ => False

inductive MRel (g : Gh) : List (Value × Value) → List MapEntry → Prop
  | nil : MRel g [] []
  | cons {k v : Value} {e : MapEntry} {l : List (Value × Value)} {l' : List MapEntry} (hk : VRel g k e.key) (hv : VRel g v e.val) (t : MRel g l l') : MRel g ((k, v) :: l) (e :: l')
theorem MRel.mono {g g' : Gh} (hg : g.le g') : ∀ {l l'}, MRel g l l' → MRel g' l l'
  | _, _, .nil => .nil
  | _, _, .cons hk hv t => .cons (hk.mono hg) (hv.mono hg) (t.mono hg)

/-- What a block of the model's heap holds, if an object lies in it. -/
def ORel (P : Program) (g : Gh) (i : Nat) (base : Nat) (h : Option Obj) : AObj → Prop
  | .row cs esz opn ro ec => cs.all (·.oneCell') = true ∧ ∃ arr el fz, h = some (.cells arr el fz) ∧ base + cs.length ≤ arr.size ∧ LRel g cs ((arr.toList.drop base).take cs.length) ∧
      (ro = false → ∀ k, base ≤ k → k < arr.size → ¬ (fz.1 ≤ k ∧ k < fz.2)) ∧
      (opn = true → g.esz i = esz ∧ base + esz * g.cap i ≤ arr.size ∧ cs.length ≤ esz * g.cap i) ∧
      (∀ t, ec = t + 1 → el = t ∧ base = 0 ∧ (opn = false → arr.size = cs.length))
  | .map es => base = 0 ∧ ∃ ents clock, h = some (.map ents clock) ∧ MRel g es ents.toList ∧ MapKept.Stamped ents clock
  | .loop st pend ρ ps asn bd => base = 0 ∧ ∃ (L : Loop) (nt : Nat), h = some (.loop L) ∧ L.state = st ∧ PendRel pend L.pending ∧ L.params.toList = ps ∧ (∀ p ∈ ps, p < nt) ∧
      stC P nt L.assign = asn ∧ stC P nt L.body = bd ∧ ERel g nt ρ L.tmps

theorem ORel.mono {P : Program} {g g' : Gh} (hg : g.le g') {i base : Nat} {h : Option Obj} {x : Nat × Nat} (hi : g.blk i = some x) : ∀ {o : AObj}, ORel P g i base h o → ORel P g' i base h o
  | .row cs esz opn ro ec, ⟨h0, arr, el, fz, h1, h2, h3, h4, h5, h6⟩ => ⟨h0, arr, el, fz, h1, h2, h3.mono hg, h4, fun ho => by
      obtain ⟨_, e1, e2⟩ := hg _ _ hi
      rw [e1, e2]; exact h5 ho, h6⟩
  | .map es, ⟨h0, ents, clock, h1, h2, h3⟩ => ⟨h0, ents, clock, h1, h2.mono hg, h3⟩
  | .loop .., ⟨h0, L, nt, h1, h2, h3, h4, h5, h6, h7, h8⟩ => ⟨h0, L, nt, h1, h2, h3, h4, h5, h6, h7, h8.mono hg⟩

structure Rel (P : Program) (g : Gh) (σ : St) (w : World) : Prop where
  obj : ∀ i o b base, σ.get i = some o → g.blk i = some (b, base) → ORel P g i base w.heap[b]? o
  sep : ∀ i j oi oj b bi bj, i ≠ j → σ.get i = some oi → σ.get j = some oj → g.blk i = some (b, bi) → g.blk j = some (b, bj) → oi.ro = true ∧ oj.ro = true
  lt : ∀ i b base, g.blk i = some (b, base) → b < w.heap.size
  fresh : ∀ i, σ.next ≤ i → σ.get i = none ∧ g.blk i = none

/-- An object of this kind (read only, or not) lies in this block. -/
def OwnR (r : Bool) (g : Gh) (σ : St) (b : Nat) : Prop := ∃ i o base, σ.get i = some o ∧ o.ro = r ∧ g.blk i = some (b, base)
abbrev Own (g : Gh) (σ : St) (b : Nat) : Prop := OwnR false g σ b

/-- What a step makes of the heap and of the ghost. -/
structure Goes (P : Program) (g : Gh) (σ : St) (w : World) (g' : Gh) (σ' : St) (w' : World) : Prop where
  le : g.le g'
  old : ∀ i, i < σ.next → g'.blk i = g.blk i
  nx : σ.next ≤ σ'.next
  rel : Rel P g' σ' w'
  size : w.heap.size ≤ w'.heap.size
  frm : ∀ b, b < w.heap.size → ¬ Own g σ b → w'.heap[b]? = w.heap[b]?
  own : ∀ r b, b < w.heap.size → OwnR r g' σ' b → OwnR r g σ b
  os : w'.os = w.os
  out : w'.output = w.output
  dead : ∀ i, i < σ.next → σ.get i = none → σ'.get i = none

theorem Goes.refl {P : Program} {g : Gh} {σ : St} {w : World} (h : Rel P g σ w) : Goes P g σ w g σ w :=
  ⟨g.le_refl, fun _ _ => rfl, Nat.le_refl _, h, Nat.le_refl _, fun _ _ _ => rfl, fun _ _ _ h => h, rfl, rfl, fun _ _ h => h⟩

theorem Goes.trans {P : Program} {g1 g2 g3 : Gh} {s1 s2 s3 : St} {w1 w2 w3 : World} (h : Goes P g1 s1 w1 g2 s2 w2) (k : Goes P g2 s2 w2 g3 s3 w3) : Goes P g1 s1 w1 g3 s3 w3 where
  le := Gh.le_trans h.le k.le
  old i hi := (k.old i (Nat.lt_of_lt_of_le hi h.nx)).trans (h.old i hi)
  nx := Nat.le_trans h.nx k.nx
  rel := k.rel
  size := Nat.le_trans h.size k.size
  frm b hb hn := (k.frm b (Nat.lt_of_lt_of_le hb h.size) (fun ho => hn (h.own false b hb ho))).trans (h.frm b hb hn)
  own r b hb ho := h.own r b hb (k.own r b (Nat.lt_of_lt_of_le hb h.size) ho)
  os := k.os.trans h.os
  out := k.out.trans h.out
  dead i hi hn := k.dead i (Nat.lt_of_lt_of_le hi h.nx) (h.dead i hi hn)

/-- A world that is another one but for how often the tape was asked. -/
theorem Rel.drew {P : Program} {g : Gh} {σ : St} {w w' : World} (h : Rel P g σ w) (hh : w'.heap = w.heap) : Rel P g σ w' where
  obj i o b base h1 h2 := by rw [hh]; exact h.obj i o b base h1 h2
  sep := h.sep
  lt i b base hb := by rw [hh]; exact h.lt i b base hb
  fresh := h.fresh

theorem Goes.drew {P : Program} {g : Gh} {σ : St} {w w' : World} (h : Rel P g σ w) (hh : w'.heap = w.heap) (ho : w'.os = w.os) (hp : w'.output = w.output) : Goes P g σ w g σ w' :=
  ⟨g.le_refl, fun _ _ => rfl, Nat.le_refl _, h.drew hh, by rw [hh]; exact Nat.le_refl _, fun b _ _ => by rw [hh], fun _ _ _ h => h, ho, hp, fun _ _ h => h⟩

/-- A cell that is read. -/
theorem row_cell {P : Program} {g : Gh} {i base : Nat} {w : World} {b : Nat} {cs : List Value} {esz : Nat} {opn ro : Bool} {ec : Nat}
    (h : ORel P g i base w.heap[b]? (.row cs esz opn ro ec)) {k : Nat} {v : Value} (hk : cs[k]? = some v) : ∃ v', w.cell? ⟨b, base + k, none⟩ = some v' ∧ VRel g v v' := by
  obtain ⟨_, arr, el, fz, h1, h2, h3, _⟩ := h
  obtain ⟨v', e1, e2⟩ := h3.get hk
  refine ⟨v', ?_, e2⟩
  have hlt : k < cs.length := (List.getElem?_eq_some_iff.1 hk).1
  have : arr.toList[base + k]? = some v' := by
    rw [List.getElem?_take] at e1
    rw [if_pos hlt, List.getElem?_drop] at e1
    exact e1
  simp only [World.cell?, h1]
  simpa using this

/-- Several cells. -/
theorem row_cells {P : Program} {g : Gh} {i base : Nat} {w : World} {b : Nat} {cs : List Value} {esz : Nat} {opn ro : Bool} {ec : Nat}
    (h : ORel P g i base w.heap[b]? (.row cs esz opn ro ec)) (off n : Nat) (hn : off + n ≤ cs.length) :
    ∃ l', (∀ j v, l'[j]? = some v → w.cell? ((⟨b, base + off, none⟩ : Addr).add j) = some v) ∧ l'.length = n ∧ LRel g ((cs.drop off).take n) l' := by
  obtain ⟨_, arr, el, fz, h1, h2, h3, _⟩ := h
  have hl : ((arr.toList.drop base).take cs.length).length = cs.length := h3.length.symm
  refine ⟨(((arr.toList.drop base).take cs.length).drop off).take n, fun j v hj => ?_, ?_, (h3.drop off).take n⟩
  · rw [List.getElem?_take] at hj
    split at hj
    · rename_i hjn
      rw [List.getElem?_drop, List.getElem?_take, if_pos (by omega), List.getElem?_drop] at hj
      have : w.cell? ⟨b, base + off + j, none⟩ = some v := by
        simp only [World.cell?, h1]
        rw [show base + off + j = base + (off + j) by omega]
        simpa using hj
      by_cases hj0 : j = 0
      · subst hj0; simpa [Addr.add] using this
      · simpa [Addr.add, hj0] using this
    · simp at hj
  · rw [List.length_take, List.length_drop, hl]; omega

end Go.Eng
