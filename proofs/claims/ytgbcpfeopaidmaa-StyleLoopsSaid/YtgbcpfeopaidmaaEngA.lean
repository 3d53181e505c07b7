/-
  A deterministic interpreter over an abstract heap, and the compiler from the model's code to what it interprets. Definitions alone.
-/
import Derived.RangeFuncLeaves
import Derived.KernelRfl
set_option linter.all false
namespace Go.Eng
open Go

/-- An unknown capacity, as the interpreter writes it. -/
def capU : Nat := 9223372036854775808

inductive Arg where
  | t (n : Nat)
  | c (v : Value)
  deriving Inhabited

/-- The kind of one cell that can be compared. -/
inductive Sk where
  | b | i | s
  deriving DecidableEq, Inhabited

inductive EqK where
  | prim | bool | ptr | sl | map | fn
  | flat (ks : List Sk)
  deriving Inhabited

/-- Where a piece of a composite value comes from: its place, how many cells, which operand. -/
structure Part where
  off : Nat
  size : Nat
  a : Arg
  deriving Inhabited

inductive Ins where
  | mov (a : Arg)
  | pick (c a b : Arg)
  | build (zs : List Value) (ps : List Part)
  | nilck (a : Arg)
  | bin (op : BinOp) (k : EqK) (a b : Arg)
  | un (op : UnOp) (a : Arg)
  | cint (k : IntKind) (a : Arg)
  | cstr (a : Arg)
  | sstr (a : Arg) (lo hi : Option Arg)
  | ssl (esz : Nat) (a : Arg) (lo hi mx : Option Arg)
  | sarr (n esz : Nat) (a : Arg) (lo hi mx : Option Arg)
  | fadr (off : Nat) (a : Arg)
  | fld (agg : Option Nat) (off : Nat) (a : Arg)
  | iadr (esz : Nat) (a i : Arg)
  | iadrA (n esz : Nat) (a i : Arg)
  | idxS (a i : Arg)
  | idxA (n esz : Nat) (agg : Option Nat) (a i : Arg)
  | mfun (f : FuncId) (first cap : List Arg)
  | mif (t : TypeId) (a : Arg)
  | ext (a : Arg) (i : Nat)
  | lenS (a : Arg)
  | lenL (a : Arg)
  | lenC (n : Nat)
  | capL (a : Arg)
  | mn (a b : Arg)
  | mx (a b : Arg)
  -- read
  | ld (agg : Option Nat) (a : Arg)
  | lkp (str : Bool) (zero : Value) (ok : Bool) (m k : Arg)
  | lenM (a : Arg)
  | cb2s (a : Arg)
  -- make
  | alloc (zs : List Value) (t : Nat)
  | box (a : Arg)
  | bslice (n esz : Nat) (zs : List Value) (ps : List Part)
  | mmap
  | mslice (esz bytes : Nat) (zs : List Value) (l c : Arg)
  | cs2b (a : Arg)
  -- make, or write
  | app (esz et : Nat) (z : Option (List Value)) (s x : Arg)
  -- write, call
  | st (n : Nat) (a x : Arg)
  | mput (str : Bool) (m k x : Arg)
  | mdel (str : Bool) (m k : Arg)
  | cpy (esz : Nat) (d s : Arg)
  | call (f : FuncId) (args : List Arg)
  | callv (f : Arg) (args : List Arg)
  | bad
  deriving Inhabited

structure OpI where
  dst : Option Nat
  g : Option (Nat × Bool)
  i : Ins
  deriving Inhabited

inductive Stmt where
  | skip
  | seq (a b : Stmt)
  | ite (c : Arg) (a b : Stmt)
  | block (id : Nat) (s : Stmt)
  | loop (s : Stmt)
  | exit (id : Nat)
  | ret
  | scope (s : Stmt)
  | ops (l : List OpI)
  | drawn (l : List OpI) (bef : List Nat)
  | rangef (f : Arg) (ps : List Nat) (asn bd : Stmt)
  | bad
  deriving Inhabited

inductive Ex where
  | normal
  | exit (id : Nat)
  | ret
  deriving DecidableEq, Inhabited

abbrev Env := Nat → Value
def Env.upd (ρ : Env) (d : Option Nat) (v : Value) : Env :=
  match d with
  | some d => fun i => if i = d then v else ρ i
  | none => ρ

def Arg.get (ρ : Env) : Arg → Value
  | .t n => ρ n
  | .c v => v

inductive AObj where
  | row (cs : List Value) (esz : Nat) (opn ro : Bool) (ec : Nat := 0)
  | map (es : List (Value × Value))
  | loop (st : LoopState) (pend : Option Ex) (ρ : Env) (ps : List Nat) (asn bd : Stmt)
  deriving Inhabited

def AObj.ro : AObj → Bool
  | .row _ _ _ r _ => r
  | _ => false

/-! The abstract heap: a tree by a number's digits. -/
inductive Tr where
  | nil
  | node (l : Tr) (v : Option AObj) (r : Tr)
  deriving Inhabited

def Tr.get : Tr → Nat → Option AObj
  | .nil, _ => none
  | .node l v r, k => if k = 0 then v else if k % 2 = 1 then l.get (k / 2) else r.get (k / 2 - 1)

def Tr.setF : Nat → Tr → Nat → Option AObj → Tr
  | 0, t, _, _ => t
  | n + 1, t, k, x =>
    match t with
    | .nil => if k = 0 then .node .nil x .nil else if k % 2 = 1 then .node (Tr.setF n .nil (k / 2) x) none .nil else .node .nil none (Tr.setF n .nil (k / 2 - 1) x)
    | .node l v r => if k = 0 then .node l x r else if k % 2 = 1 then .node (Tr.setF n l (k / 2) x) v r else .node l v (Tr.setF n r (k / 2 - 1) x)

theorem Tr.get_nil (k : Nat) : Tr.nil.get k = none := by cases k <;> rfl

theorem Tr.get_setF : ∀ (n : Nat) (t : Tr) (k j : Nat) (x : Option AObj), k < n → (Tr.setF n t k x).get j = if j = k then x else t.get j := by
  intro n
  induction n with
  | zero => intro t k j x h; omega
  | succ n ih =>
    intro t k j x h
    have aux : ∀ (l r : Tr) (v : Option AObj),
        (if k = 0 then Tr.node l x r else if k % 2 = 1 then Tr.node (Tr.setF n l (k / 2) x) v r else Tr.node l v (Tr.setF n r (k / 2 - 1) x)).get j =
          if j = k then x else (Tr.node l v r).get j := by
      intro l r v
      by_cases hk : k = 0
      · subst hk
        simp only [if_true, Tr.get]
        by_cases hj : j = 0
        · simp [hj]
        · simp [hj]
      · simp only [hk, if_false]
        by_cases h2 : k % 2 = 1
        · simp only [h2, if_true, Tr.get]
          by_cases hj : j = 0
          · subst hj; simp [Ne.symm hk]
          · simp only [hj, if_false]
            by_cases hj2 : j % 2 = 1
            · simp only [hj2, if_true]
              rw [ih _ _ _ _ (by omega)]
              by_cases he : j / 2 = k / 2
              · rw [if_pos he, if_pos (by omega)]
              · rw [if_neg he, if_neg (by omega)]
            · simp only [hj2, if_false]
              rw [if_neg (by omega)]
        · simp only [h2, if_false, Tr.get]
          by_cases hj : j = 0
          · subst hj; simp [Ne.symm hk]
          · simp only [hj, if_false]
            by_cases hj2 : j % 2 = 1
            · simp only [hj2, if_true]
              rw [if_neg (by omega)]
            · simp only [hj2, if_false]
              rw [ih _ _ _ _ (by omega)]
              by_cases he : j / 2 - 1 = k / 2 - 1
              · rw [if_pos he, if_pos (by omega)]
              · rw [if_neg he, if_neg (by omega)]
    cases t with
    | nil =>
      have := aux .nil .nil none
      simp only [Tr.setF]
      by_cases hk : k = 0
      · subst hk
        simp only [if_true] at this ⊢
        rw [Tr.get_nil]
        by_cases hj : j = 0
        · simp [hj, Tr.get]
        · simp only [Tr.get, hj, if_false, Tr.get_nil, ite_self]
      · rw [this, Tr.get_nil]
        by_cases hj : j = k
        · simp [hj]
        · simp only [hj, if_false, Tr.get, Tr.get_nil, ite_self]
    | node l v r => simpa only [Tr.setF] using aux l r v

structure St where
  objs : Tr
  next : Nat
  deriving Inhabited

def St.get (σ : St) (i : Nat) : Option AObj := σ.objs.get i
def St.put (σ : St) (i : Nat) (o : Option AObj) : St := { σ with objs := Tr.setF (i + 1) σ.objs i o }
theorem St.get_put (σ : St) (i j : Nat) (o : Option AObj) : (σ.put i o).get j = if j = i then o else σ.get j := Tr.get_setF _ _ _ _ _ (Nat.lt_succ_self i)
theorem St.next_put (σ : St) (i : Nat) (o : Option AObj) : (σ.put i o).next = σ.next := rfl

/-! What single operations answer. -/
def cellsOf (v : Value) : List Value := v.cells.toList

/-- A list with others in the place of some. -/
def spliceL (l : List Value) (off : Nat) (vs : List Value) : List Value := l.take off ++ vs ++ l.drop (off + vs.length)

def fillL (ρ : Env) : List Value → List Part → Option (List Value)
  | cs, [] => some cs
  | cs, p :: ps =>
    let vs := cellsOf (p.a.get ρ)
    if vs.length = p.size ∧ p.off + vs.length ≤ cs.length then fillL ρ (spliceL cs p.off vs) ps else none

def ptrOf (i o : Nat) : Value := .pointer (some ⟨i, o, none⟩)
def slOf (i o l c : Nat) : Value := .slice (some ⟨i, o, none⟩) l c

def intA (op : BinOp) (k : IntKind) (a b : Int) : Option Value :=
  match op with
  | .add => some (.int k (k.wrap (a + b)))
  | .sub => some (.int k (k.wrap (a - b)))
  | .mul => some (.int k (k.wrap (a * b)))
  | .quo => if b = 0 then none else some (.int k (k.wrap (a.tdiv b)))
  | .rem => if b = 0 then none else some (.int k (a.tmod b))
  | .and => some (.int k (k.wrap (BitVec.ofInt k.bits a &&& BitVec.ofInt k.bits b).toNat))
  | .or => some (.int k (k.wrap (BitVec.ofInt k.bits a ||| BitVec.ofInt k.bits b).toNat))
  | .xor => some (.int k (k.wrap (BitVec.ofInt k.bits a ^^^ BitVec.ofInt k.bits b).toNat))
  | .andNot => some (.int k (k.wrap (BitVec.ofInt k.bits a &&& ~~~(BitVec.ofInt k.bits b)).toNat))
  | .eql => some (.bool (a == b))
  | .neq => some (.bool (a != b))
  | .lss => some (.bool (decide (a < b)))
  | .leq => some (.bool (decide (a ≤ b)))
  | .gtr => some (.bool (decide (a > b)))
  | .geq => some (.bool (decide (a ≥ b)))
  | _ => none

def strA (op : BinOp) (x y : ByteArray) : Option Value :=
  match op with
  | .add => if x.size + y.size ≤ 4611686018427387904 then some (.string (x ++ y)) else none
  | .eql => some (.bool (x.toList == y.toList))
  | .neq => some (.bool !(x.toList == y.toList))
  | .lss => some (.bool (Op.bytesLess x.toList y.toList))
  | .leq => some (.bool (Op.bytesLess x.toList y.toList || x.toList == y.toList))
  | .gtr => some (.bool !(Op.bytesLess x.toList y.toList || x.toList == y.toList))
  | .geq => some (.bool !(Op.bytesLess x.toList y.toList))
  | _ => none

/-- Two scalars of one kind. -/
def scEq : Sk → Value → Value → Option Bool
  | .i, .int k a, .int k' b => if k = k' then some (a == b) else none
  | .s, .string a, .string b => some (a == b)
  | .b, .bool a, .bool b => some (a == b)
  | _, _, _ => none

def scEqs : List Sk → List Value → List Value → Option Bool
  | [], [], [] => some true
  | k :: ks, a :: as, b :: bs =>
    match scEq k a b with
    | some true => scEqs ks as bs
    | some false => some false
    | none => none
  | _, _, _ => none

def eqA (k : EqK) (x y : Value) : Option Bool :=
  match k, x, y with
  | .bool, .bool a, .bool b => some (a == b)
  | .ptr, .pointer none, .pointer b => some b.isNone
  | .ptr, .pointer (some _), .pointer none => some false
  | .sl, .slice none _ _, .slice b _ _ => some b.isNone
  | .sl, .slice (some _) _ _, .slice none _ _ => some false
  | .map, .map none, .map b => some b.isNone
  | .map, .map (some _), .map none => some false
  | .fn, .nilFunc, .nilFunc => some true
  | .fn, .nilFunc, .func _ _ _ => some false
  | .fn, .func _ _ _, .nilFunc => some false
  | .flat ks, .agg xs, .agg ys => if xs.toList.length = ks.length ∧ ys.toList.length = ks.length then scEqs ks xs.toList ys.toList else none
  | _, _, _ => none

def binA (op : BinOp) (k : EqK) (x y : Value) : Option Value :=
  match x, y with
  | .int j a, .int j' b =>
    match op with
    | .shl => if b < 0 then none else some (.int j (j.wrap (a * 2 ^ (min b.toNat j.bits))))
    | .shr => if b < 0 then none else some (.int j (a.fdiv (2 ^ (min b.toNat j.bits))))
    | _ => if j = j' then intA op j a b else none
  | .string a, .string b => strA op a b
  | x, y =>
    match op with
    | .eql => (eqA k x y).map .bool
    | .neq => (eqA k x y).map fun b => .bool !b
    | _ => none

def unA (op : UnOp) (x : Value) : Option Value :=
  match op, x with
  | .not, .bool b => some (.bool !b)
  | .neg, .int k n => some (.int k (k.wrap (0 - n)))
  | .xor, .int k n => some (.int k (k.wrap (BitVec.ofInt k.bits (if k.signed then -1 else k.max) ^^^ BitVec.ofInt k.bits n).toNat))
  | _, _ => none

/-- A bound of a slice expression: from 0 on, at most this. -/
def bndA (v : Value) (most : Nat) : Option Nat :=
  match v with
  | .int _ i => if 0 ≤ i ∧ i ≤ (most : Int) then some i.toNat else none
  | _ => none

def bndO (ρ : Env) (x : Option Arg) (most dflt : Nat) : Option Nat :=
  match x with
  | some a => bndA (a.get ρ) most
  | none => some dflt

def addA (a : Addr) (n : Nat) : Addr := if n = 0 then a else { a with off := a.off + n, spot := none }

def evSl (ρ : Env) (esz : Nat) (v : Value) (lo hi mx : Option Arg) : Option Value :=
  match v with
  | .slice a len cap =>
    let known := if cap = capU then len else cap
    match bndO ρ mx known cap with
    | none => none
    | some m =>
      match bndO ρ hi (if mx.isSome then m else known) len with
      | none => none
      | some h =>
        if mx.isSome && hi.isNone then none else
        match bndO ρ lo h 0 with
        | none => none
        | some l =>
          if mx.isNone && cap == capU then none
          else some (.slice (if m = l then a else a.map (addA · (l * esz))) (h - l) (m - l))
  | _ => none

def evSa (ρ : Env) (n esz : Nat) (v : Value) (lo hi mx : Option Arg) : Option Value :=
  match v with
  | .pointer (some a) =>
    match bndO ρ mx n n with
    | none => none
    | some m =>
      match bndO ρ hi (if mx.isSome then m else n) n with
      | none => none
      | some h =>
        if mx.isSome && hi.isNone then none else
        match bndO ρ lo h 0 with
        | none => none
        | some l => if n < capU then some (.slice (some (if m = l then a else addA a (l * esz))) (h - l) (m - l)) else none
  | _ => none

def partA (agg : Option Nat) (cs : List Value) (off : Nat) : Option Value :=
  match agg with
  | some n => if off + n ≤ cs.length then some (.agg ((cs.drop off).take n).toArray) else none
  | none => cs[off]?

/-- The operations that look at no memory. -/
def evP (ρ : Env) : Ins → Option Value
  | .mov a => some (a.get ρ)
  | .pick c a b => match c.get ρ with | .bool t => some (if t then a.get ρ else b.get ρ) | _ => none
  | .build zs ps => (fillL ρ zs ps).map fun cs => .agg cs.toArray
  | .nilck a => match a.get ρ with | .pointer (some x) => some (.pointer (some x)) | .func (.func f) x y => some (.func (.func f) x y) | _ => none
  | .bin op k a b => binA op k (a.get ρ) (b.get ρ)
  | .un op a => unA op (a.get ρ)
  | .cint k a => match a.get ρ with | .int _ n => some (.int k (k.wrap n)) | _ => none
  | .cstr a => match a.get ρ with | .string s => some (.string s) | _ => none
  | .sstr a lo hi =>
    match a.get ρ with
    | .string s =>
      match bndO ρ hi s.size s.size with
      | none => none
      | some h => match bndO ρ lo h 0 with
        | none => none
        | some l => some (.string (s.extract l h))
    | _ => none
  | .ssl esz a lo hi mx => evSl ρ esz (a.get ρ) lo hi mx
  | .sarr n esz a lo hi mx => evSa ρ n esz (a.get ρ) lo hi mx
  | .fadr off a => match a.get ρ with | .pointer (some x) => some (.pointer (some (addA x off))) | _ => none
  | .fld agg off a => match a.get ρ with | .agg cs => partA agg cs.toList off | _ => none
  | .iadr esz a i =>
    match a.get ρ, i.get ρ with
    | .slice (some x) len _, .int _ n => if 0 ≤ n ∧ n < (len : Int) then some (.pointer (some (addA x (n.toNat * esz)))) else none
    | _, _ => none
  | .iadrA m esz a i =>
    match a.get ρ, i.get ρ with
    | .pointer (some x), .int _ n => if 0 ≤ n ∧ n < (m : Int) then some (.pointer (some (addA x (n.toNat * esz)))) else none
    | _, _ => none
  | .idxS a i =>
    match a.get ρ, i.get ρ with
    | .string s, .int _ n => if 0 ≤ n then (s.data.toList[n.toNat]?).map fun b => .int .u8 b.toNat else none
    | _, _ => none
  | .idxA m esz agg a i =>
    match a.get ρ, i.get ρ with
    | .agg cs, .int _ n => if 0 ≤ n ∧ n < (m : Int) then partA agg cs.toList (n.toNat * esz) else none
    | _, _ => none
  | .mfun f first cap => some (.func (.func f) (first.map (·.get ρ)).toArray (cap.map (·.get ρ)).toArray)
  | .mif t a => some (.iface t (a.get ρ))
  | .ext a i => match a.get ρ with | .tuple vs => vs.toList[i]? | _ => none
  | .lenS a => match a.get ρ with | .string s => some (.int .i64 s.size) | _ => none
  | .lenL a => match a.get ρ with | .slice _ n _ => some (.int .i64 n) | _ => none
  | .lenC n => some (.int .i64 n)
  | .capL a => match a.get ρ with | .slice _ _ c => if c = capU then none else some (.int .i64 c) | _ => none
  | .mn a b => match a.get ρ, b.get ρ with | .int k x, .int _ y => some (.int k (if y < x then y else x)) | _, _ => none
  | .mx a b => match a.get ρ, b.get ρ with | .int k x, .int _ y => some (.int k (if y > x then y else x)) | _, _ => none
  | _ => none

def rowOf (σ : St) (i : Nat) : Option (List Value) :=
  match σ.get i with
  | some (.row cs _ _ _ _) => some cs
  | _ => none

def mapOf (σ : St) (i : Nat) : Option (List (Value × Value)) :=
  match σ.get i with
  | some (.map es) => some es
  | _ => none

/-- A key of the kind that the map has. -/
def keyOk (str : Bool) : Value → Bool
  | .string _ => str
  | .int _ _ => !str
  | _ => false

def keyEq : Value → Value → Option Bool
  | .string a, .string b => some (a == b)
  | .int k a, .int k' b => if k = k' then some (a == b) else none
  | _, _ => none

def findA (k : Value) : List (Value × Value) → Option (Option Value)
  | [] => some none
  | e :: es =>
    match keyEq k e.1 with
    | some true => some (some e.2)
    | some false => findA k es
    | none => none

def putA (k v : Value) : List (Value × Value) → Option (List (Value × Value))
  | [] => some [(k, v)]
  | e :: es =>
    match keyEq k e.1 with
    | some true => some ((k, v) :: es)
    | some false => (putA k v es).map (e :: ·)
    | none => none

def delA (k : Value) : List (Value × Value) → Option (List (Value × Value))
  | [] => some []
  | e :: es =>
    match keyEq k e.1 with
    | some true => some es
    | some false => (delA k es).map (e :: ·)
    | none => none

def bytesOf : List Value → Option (List UInt8)
  | [] => some []
  | .int .u8 n :: r => (bytesOf r).map (UInt8.ofNat n.toNat :: ·)
  | _ => none

/-- The first cells of a slice, or of a string. -/
def srcA (σ : St) (esz n : Nat) : Value → Option (List Value)
  | .slice (some a) len _ =>
    if n ≤ len then
      if n * esz = 0 then some [] else
      match rowOf σ a.block with
      | some cs => if a.spot = none ∧ a.off + n * esz ≤ cs.length then some ((cs.drop a.off).take (n * esz)) else none
      | none => none
    else none
  | .slice none _ _ => if n = 0 then some [] else none
  | .string s => if esz = 1 then some ((s.data.toList.take n).map fun b => .int .u8 b.toNat) else none
  | _ => none

def lenA : Value → Option Nat
  | .slice _ n _ => some n
  | .string s => some s.size
  | _ => none

/-- A slice of a slice whose capacity isn't known. -/
def evSlU (ρ : Env) (σ : St) (esz : Nat) (v : Value) (lo hi mx : Option Arg) : Option Value :=
  match v, mx with
  | .slice (some a) len cap, none =>
    if cap = capU then
      match σ.get a.block with
      | some (.row _ e true _ _) =>
        if e = esz then
          match bndO ρ hi len len with
          | none => none
          | some h =>
            match bndO ρ lo h 0 with
            | none => none
            | some l => some (.slice (some (addA a (l * esz))) (h - l) capU)
        else none
      | _ => none
    else none
  | _, _ => none

/-- The operations that read memory. -/
def evR (ρ : Env) (σ : St) : Ins → Option Value
  | .ld agg a =>
    match a.get ρ with
    | .pointer (some x) =>
      if x.spot = none then
        match rowOf σ x.block with
        | some cs => partA agg cs x.off
        | none => none
      else none
    | _ => none
  | .lkp str zero ok m k =>
    let kv := k.get ρ
    if keyOk str kv then
      match m.get ρ with
      | .map none => some (if ok then .tuple #[zero, .bool false] else zero)
      | .map (some r) =>
        match mapOf σ r with
        | some es =>
          match findA kv es with
          | some (some v) => some (if ok then .tuple #[v, .bool true] else v)
          | some none => some (if ok then .tuple #[zero, .bool false] else zero)
          | none => none
        | none => none
      | _ => none
    else none
  | .lenM a =>
    match a.get ρ with
    | .map none => some (.int .i64 0)
    | .map (some r) => (mapOf σ r).map fun es => .int .i64 es.length
    | _ => none
  | .ssl esz a lo hi mx => evSlU ρ σ esz (a.get ρ) lo hi mx
  | .cb2s a =>
    match a.get ρ with
    | .slice p len c => ((srcA σ 1 len (.slice p len c)).bind bytesOf).map fun l => .string ⟨l.toArray⟩
    | _ => none
  | _ => none

def repL : Nat → List Value → List Value
  | 0, _ => []
  | n + 1, l => l ++ repL n l

/-- How many elements an append appends. -/
def appN (z : Option (List Value)) (xv : Value) : Option Nat :=
  match z with
  | some _ => (match xv with | .int _ y => if 0 ≤ y ∧ y ≤ 1073741824 then some y.toNat else none | _ => none)
  | none => lenA xv
/-- Their cells. -/
def appL (σ : St) (esz : Nat) (z : Option (List Value)) (n : Nat) (xv : Value) : Option (List Value) :=
  match z with
  | some zs => some (repL n zs)
  | none => srcA σ esz n xv

/-- The operations that make memory, and change none. -/
def evM (ρ : Env) (σ : St) : Ins → Option (AObj × (Nat → Value))
  | .alloc zs t => some (.row zs zs.length false false (t + 1), fun i => ptrOf i 0)
  | .box a => if (cellsOf (a.get ρ)).all (·.oneCell') then some (.row (cellsOf (a.get ρ)) (cellsOf (a.get ρ)).length false false, fun i => ptrOf i 0) else none
  | .bslice n esz zs ps =>
    match fillL ρ zs ps with
    | some cs => if cs.all (·.oneCell') then some (.row cs esz false false, fun i => slOf i 0 n n) else none
    | none => none
  | .mmap => some (.map [], fun i => .map (some i))
  | .mslice esz bytes zs l c =>
    match l.get ρ, c.get ρ with
    | .int _ x, .int _ y =>
      if 0 ≤ x ∧ x ≤ y ∧ y ≤ 1073741824 ∧ bytes ≤ 65536 then some (.row (repL y.toNat zs) esz false false, fun i => slOf i 0 x.toNat y.toNat) else none
    | _, _ => none
  | .cs2b a =>
    match a.get ρ with
    | .string s => if s.size ≤ 1073741824 then some (.row (s.data.toList.map fun b => .int .u8 b.toNat) 1 true false, fun i => slOf i 0 s.size capU) else none
    | _ => none
  | .app esz et z s x =>
    let sv := s.get ρ
    let xv := x.get ρ
    match appN z xv with
    | none => none
    | some n =>
      if n = 0 then none else
      match sv with
      | .slice p len cap =>
        if cap ≠ capU ∧ cap < len + n ∧ len + n ≤ 1073741824 ∧ 0 ≤ et then
          match srcA σ esz len sv, appL σ esz z n xv with
          | some old, some new => some (.row (old ++ new) esz true false (et + 1), fun i => slOf i 0 (len + n) capU)
          | _, _ => none
        else none
      | _ => none
  | _ => none

inductive Callee where
  | fn (f : FuncId)
  | yield (l : Nat)

abbrev CallF := Callee → List Value → St → Option (Value × St)

def undefV : Value := .tuple #[]

/-- The operations that change memory, and calls. -/
def evW (cl : CallF) (ρ : Env) (σ : St) : Ins → Option (Value × St)
  | .st n a x =>
    match a.get ρ with
    | .pointer (some p) =>
      match σ.get p.block with
      | some (.row cs esz opn false ec) =>
        let vs := cellsOf (x.get ρ)
        if p.spot = none ∧ vs.length = n ∧ p.off + n ≤ cs.length ∧ vs.all (·.oneCell') = true then some (undefV, σ.put p.block (some (.row (spliceL cs p.off vs) esz opn false ec))) else none
      | _ => none
    | _ => none
  | .mput str m k x =>
    match m.get ρ with
    | .map (some r) =>
      match mapOf σ r with
      | some es => if keyOk str (k.get ρ) then (putA (k.get ρ) (x.get ρ) es).map fun es' => (undefV, σ.put r (some (.map es'))) else none
      | none => none
    | _ => none
  | .mdel str m k =>
    match m.get ρ with
    | .map (some r) =>
      match mapOf σ r with
      | some es => if keyOk str (k.get ρ) then (delA (k.get ρ) es).map fun es' => (undefV, σ.put r (some (.map es'))) else none
      | none => none
    | _ => none
  | .cpy esz d s =>
    match d.get ρ, lenA (s.get ρ) with
    | .slice p dl _, some sl =>
      let n := min sl dl
      match srcA σ esz n (s.get ρ) with
      | none => none
      | some cs =>
        if cs.length = 0 then some (.int .i64 n, σ) else
        match p with
        | some a =>
          match σ.get a.block with
          | some (.row ds e opn false ec) =>
            if a.spot = none ∧ a.off + cs.length ≤ ds.length then some (.int .i64 n, σ.put a.block (some (.row (spliceL ds a.off cs) e opn false ec))) else none
          | _ => none
        | none => none
    | _, _ => none
  | .app esz et z s x =>
    let sv := s.get ρ
    let xv := x.get ρ
    match appN z xv, sv with
    | some n, .slice p len cap =>
      if n = 0 then some (sv, σ) else
      match appL σ esz z n xv, p with
      | some new, some a =>
        match σ.get a.block with
        | some (.row cs e opn false ec) =>
          if a.spot = none ∧ e = esz ∧ len + n ≤ 1073741824 ∧ 0 ≤ et ∧ a.off + len * esz ≤ cs.length then
            if a.off + (len + n) * esz ≤ cs.length ∧ ((cap = capU ∧ opn = true) ∨ (cap ≠ capU ∧ len + n ≤ cap)) then
              some (.slice p (len + n) cap, σ.put a.block (some (.row (spliceL cs (a.off + len * esz) new) e opn false ec)))
            else if cap = capU ∧ opn = true then
              let σ1 := σ.put a.block none
              some (slOf σ.next 0 (len + n) capU, { σ1.put σ.next (some (.row ((cs.drop a.off).take (len * esz) ++ new) esz true false (if ec = et + 1 ∧ a.off = 0 then ec else 0))) with next := σ.next + 1 })
            else none
          else none
        | _ => none
      | _, _ => none
    | _, _ => none
  | .call f args => cl (.fn f) (args.map (·.get ρ)) σ
  | .callv f args =>
    match f.get ρ with
    | .func (.func k) first cap => cl (.fn k) (first.toList ++ args.map (·.get ρ) ++ cap.toList) σ
    | .func (.yield l) first cap => if first.size = 0 ∧ cap.size = 0 then cl (.yield l) (args.map (·.get ρ)) σ else none
    | _ => none
  | _ => none

inductive Res where
  | val (v : Value)
  | new (o : AObj) (f : Nat → Value)
  | str (v : Value) (σ : St)

def step (cl : CallF) (ρ : Env) (σ : St) (i : Ins) : Option Res :=
  match evP ρ i with
  | some v => some (.val v)
  | none =>
    match evR ρ σ i with
    | some v => some (.val v)
    | none =>
      match evM ρ σ i with
      | some (o, f) => some (.new o f)
      | none => (evW cl ρ σ i).map fun (v, σ') => .str v σ'

/-- Does the guard let it run? -/
def guardA (ρ : Env) : Option (Nat × Bool) → Option Bool
  | none => some true
  | some (t, want) => match ρ t with | .bool b => some (b == want) | .tuple _ => some false | _ => none

def evOps (cl : CallF) : List OpI → Env → St → Option (Env × St)
  | [], ρ, σ => some (ρ, σ)
  | o :: os, ρ, σ =>
    match guardA ρ o.g with
    | none => none
    | some false => evOps cl os (ρ.upd o.dst undefV) σ
    | some true =>
      match step cl ρ σ o.i with
      | none => none
      | some (.val v) => evOps cl os (ρ.upd o.dst v) σ
      | some (.new x f) => evOps cl os (ρ.upd o.dst (f σ.next)) { σ.put σ.next (some x) with next := σ.next + 1 }
      | some (.str v σ') => evOps cl os (ρ.upd o.dst v) σ'

end Go.Eng
