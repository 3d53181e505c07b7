/-
  The interpreter of statements and functions; the compiler from the model's code. Definitions alone.
-/
import Derived.Test.YtgbcpfeopaidmaaEngA
set_option linter.all false
namespace Go.Eng
open Go

/-! When two values are one and the same. -/
mutual
def sameV : Value → Value → Bool
  | .bool a, .bool b => a == b
  | .int k a, .int j b => decide (k = j) && decide (a = b)
  | .float k a, .float j b => decide (k = j) && decide (a = b)
  | .complex k a b, .complex j c d => decide (k = j) && decide (a = c) && decide (b = d)
  | .string a, .string b => decide (a.data.toList = b.data.toList)
  | .pointer a, .pointer b => decide (a = b)
  | .slice a l c, .slice b m d => decide (a = b) && decide (l = m) && decide (c = d)
  | .map a, .map b => decide (a = b)
  | .chan a, .chan b => decide (a = b)
  | .func f ⟨a⟩ ⟨b⟩, .func g ⟨c⟩ ⟨d⟩ => decide (f = g) && sameL a c && sameL b d
  | .nilFunc, .nilFunc => true
  | .iface t v, .iface u w => decide (t = u) && sameV v w
  | .nilIface, .nilIface => true
  | .agg ⟨a⟩, .agg ⟨b⟩ => sameL a b
  | .tuple ⟨a⟩, .tuple ⟨b⟩ => sameL a b
  | _, _ => false
def sameL : List Value → List Value → Bool
  | [], [] => true
  | a :: as, b :: bs => sameV a b && sameL as bs
  | _, _ => false
end

mutual
theorem sameV_refl : ∀ v : Value, sameV v v = true
  | .bool a => by simp [sameV]
  | .int k a => by simp [sameV]
  | .float k a => by simp [sameV]
  | .complex k a b => by simp [sameV]
  | .string a => by simp [sameV]
  | .pointer a => by simp [sameV]
  | .slice a l c => by simp [sameV]
  | .map a => by simp [sameV]
  | .chan a => by simp [sameV]
  | .func f ⟨a⟩ ⟨b⟩ => by simp [sameV, sameL_refl a, sameL_refl b]
  | .nilFunc => by simp [sameV]
  | .iface t v => by simp [sameV, sameV_refl v]
  | .nilIface => by simp [sameV]
  | .agg ⟨a⟩ => by simp [sameV, sameL_refl a]
  | .tuple ⟨a⟩ => by simp [sameV, sameL_refl a]
theorem sameL_refl : ∀ l : List Value, sameL l l = true
  | [] => by simp [sameL]
  | a :: as => by simp [sameL, sameV_refl a, sameL_refl as]
end

theorem bytes_ext {a b : ByteArray} (h : a.data.toList = b.data.toList) : a = b := by
  cases a; cases b; simp at h; simp [h]

mutual
theorem sameV_eq : ∀ v w : Value, sameV v w = true → v = w
  | .bool a, w, h => by cases w <;> simp [sameV] at h; simp [h]
  | .int k a, w, h => by cases w <;> simp [sameV] at h; simp [h]
  | .float k a, w, h => by cases w <;> simp [sameV] at h; simp [h]
  | .complex k a b, w, h => by cases w <;> simp [sameV] at h; simp [h]
  | .string a, w, h => by
    cases w <;> simp [sameV] at h
    case string b => rw [bytes_ext (a := a) (b := b) (by rw [h])]
  | .pointer a, w, h => by cases w <;> simp [sameV] at h; simp [h]
  | .slice a l c, w, h => by cases w <;> simp [sameV] at h; simp [h]
  | .map a, w, h => by cases w <;> simp [sameV] at h; simp [h]
  | .chan a, w, h => by cases w <;> simp [sameV] at h; simp [h]
  | .func f ⟨a⟩ ⟨b⟩, w, h => by
    cases w
    case func g c d =>
      obtain ⟨c⟩ := c; obtain ⟨d⟩ := d
      simp [sameV] at h
      rw [h.1.1, sameL_eq a c h.1.2, sameL_eq b d h.2]
    all_goals simp [sameV] at h
  | .nilFunc, w, h => by cases w <;> simp [sameV] at h; rfl
  | .iface t v, w, h => by
    cases w
    case iface u x =>
      simp [sameV] at h
      rw [h.1, sameV_eq v x h.2]
    all_goals simp [sameV] at h
  | .nilIface, w, h => by cases w <;> simp [sameV] at h; rfl
  | .agg ⟨a⟩, w, h => by
    cases w
    case agg b =>
      obtain ⟨b⟩ := b
      simp [sameV] at h
      rw [sameL_eq a b h]
    all_goals simp [sameV] at h
  | .tuple ⟨a⟩, w, h => by
    cases w
    case tuple b =>
      obtain ⟨b⟩ := b
      simp [sameV] at h
      rw [sameL_eq a b h]
    all_goals simp [sameV] at h
theorem sameL_eq : ∀ l m : List Value, sameL l m = true → l = m
  | [], m, h => by cases m <;> simp [sameL] at h; rfl
  | a :: as, m, h => by
    cases m
    case nil => simp [sameL] at h
    case cons b bs =>
      simp [sameL] at h
      rw [sameV_eq a b h.1, sameL_eq as bs h.2]
end

def sameP : List (Value × Value) → List (Value × Value) → Bool
  | [], [] => true
  | a :: as, b :: bs => sameV a.1 b.1 && sameV a.2 b.2 && sameP as bs
  | _, _ => false
theorem sameP_refl : ∀ l, sameP l l = true
  | [] => rfl
  | a :: as => by simp [sameP, sameV_refl, sameP_refl as]
theorem sameP_eq : ∀ l m, sameP l m = true → l = m
  | [], [], _ => rfl
  | [], _ :: _, h => by simp [sameP] at h
  | _ :: _, [], h => by simp [sameP] at h
  | (a, b) :: as, (c, d) :: bs, h => by
    simp [sameP] at h
    rw [sameV_eq _ _ h.1.1, sameV_eq _ _ h.1.2, sameP_eq as bs h.2]

def sameO : AObj → AObj → Bool
  | .row a e p r c, .row b f q s d => sameL a b && decide (e = f) && (p == q) && (r == s) && decide (c = d)
  | .map a, .map b => sameP a b
  | _, _ => false
theorem sameO_eq {a b : AObj} (h : sameO a b = true) : a = b := by
  cases a <;> cases b <;> simp [sameO] at h
  · rw [sameL_eq _ _ h.1.1.1.1, h.1.1.1.2, h.1.1.2, h.1.2, h.2]
  · rw [sameP_eq _ _ h]
theorem sameO_row (a : List Value) (e : Nat) (p r : Bool) (c : Nat) : sameO (.row a e p r c) (.row a e p r c) = true := by simp [sameO, sameL_refl]
theorem sameO_map (a : List (Value × Value)) : sameO (.map a) (.map a) = true := by simp [sameO, sameP_refl]

/-- What an operation answers that changes no memory that is there. -/
def stepS (ρ : Env) (σ : St) (i : Ins) : Option Res :=
  match evP ρ i with
  | some v => some (.val v)
  | none =>
    match evR ρ σ i with
    | some v => some (.val v)
    | none =>
      match evM ρ σ i with
      | some (o, f) => some (.new o f)
      | none => none

theorem step_eq (cl : CallF) (ρ : Env) (σ : St) (i : Ins) :
    step cl ρ σ i = match stepS ρ σ i with
      | some r => some r
      | none => (evW cl ρ σ i).map fun (v, σ') => .str v σ' := by
  unfold step stepS
  cases evP ρ i with
  | some v => rfl
  | none =>
    cases evR ρ σ i with
    | some v => rfl
    | none =>
      cases evM ρ σ i with
      | some p => rfl
      | none => rfl

/-- What an operation does. -/
inductive Did where
  | skip
  | pure (v : Value)
  | weak (r : Res)
  | str (v : Value) (σ : St)

def did (cl : CallF) (ρ : Env) (σ : St) (o : OpI) : Option Did :=
  match guardA ρ o.g with
  | none => none
  | some false => some .skip
  | some true =>
    match evP ρ o.i with
    | some v => some (.pure v)
    | none =>
      match stepS ρ σ o.i with
      | some r => some (.weak r)
      | none => (evW cl ρ σ o.i).map fun (v, σ') => .str v σ'

def Did.val (id : Nat) : Did → Value
  | .skip => undefV
  | .pure v => v
  | .weak (.val v) => v
  | .weak (.new _ f) => f id
  | .weak (.str v _) => v
  | .str v _ => v

def Did.after (id : Nat) (σ : St) : Did → St
  | .weak (.new x _) => σ.put id (some x)
  | .str _ σ' => σ'
  | _ => σ

structure Rec where
  ρ : Env
  σ : St
  i : Ins
  d : Did

/-- Operations in the order of their text, each object under the number that its place has; what each did. -/
def runD (cl : CallF) (base : Nat) : Nat → List OpI → Env → St → Option (List Rec × Env × St)
  | _, [], ρ, σ => some ([], ρ, σ)
  | j, o :: os, ρ, σ =>
    match did cl ρ σ o with
    | none => none
    | some d =>
      match runD cl base (j + 1) os (ρ.upd o.dst (d.val (base + j))) (d.after (base + j) σ) with
      | none => none
      | some (rs, ρ', σ') => some (⟨ρ, σ, o.i, d⟩ :: rs, ρ', σ')

/-- An operation that changes no memory says the same of another heap. -/
def stillOk (id : Nat) (σ : St) (ρ : Env) (i : Ins) (r : Res) : Bool :=
  match stepS ρ σ i, r with
  | some (.val v), .val w => sameV v w
  | some (.new o f), .new o' f' => sameO o o' && sameV (f id) (f' id)
  | _, _ => false

def keptOk (id : Nat) (σ : St) (r : Res) : Bool :=
  match r with
  | .new o _ => (match σ.get id with | some o' => sameO o' o | none => false)
  | _ => true

/-- Two operations that may change places. -/
def okP (base e : Nat) (a : Rec) (j : Nat) (b : Rec) : Bool :=
  match a.d, b.d with
  | .str _ _, .str _ _ => false
  | .str _ _, .weak r => stillOk (base + j) a.σ b.ρ b.i r
  | .weak r, .str _ σ' => stillOk (base + e) σ' a.ρ a.i r && keptOk (base + e) σ' r
  | _, _ => true

def Did.looks : Did → Bool
  | .weak _ | .str _ _ => true
  | _ => false

def chkD (base : Nat) (bef : List Nat) : Nat → List Rec → List (Nat × Rec) → Bool
  | _, [], _ => true
  | j, r :: rs, prev =>
    if r.d.looks then (prev.all fun p => (bef.getD j 0).testBit p.1 || okP base p.1 p.2 j r) && chkD base bef (j + 1) rs ((j, r) :: prev)
    else chkD base bef (j + 1) rs prev

/-- A region that draws its order, run in the order of its text, with a look that each order says the same. -/
def evDrawn (cl : CallF) (l : List OpI) (bef : List Nat) (ρ : Env) (σ : St) : Option (Env × St) :=
  match runD cl σ.next 0 l ρ { σ with next := σ.next + l.length } with
  | none => none
  | some (rs, ρ', σ') => if chkD σ.next bef 0 rs [] then some (ρ', σ') else none

def loopN (b : Env → St → Option (Ex × Env × St)) : Nat → Env → St → Option (Ex × Env × St)
  | 0, _, _ => none
  | n + 1, ρ, σ =>
    match b ρ σ with
    | some (.normal, ρ', σ') => loopN b n ρ' σ'
    | r => r

def evS (cl : CallF) (n : Nat) (inr : Bool) : Stmt → Env → St → Option (Ex × Env × St)
  | .skip, ρ, σ => some (.normal, ρ, σ)
  | .seq a b, ρ, σ =>
    match evS cl n inr a ρ σ with
    | some (.normal, ρ', σ') => evS cl n inr b ρ' σ'
    | r => r
  | .ite c a b, ρ, σ =>
    match c.get ρ with
    | .bool true => evS cl n inr a ρ σ
    | .bool false => evS cl n inr b ρ σ
    | _ => none
  | .block id s, ρ, σ =>
    match evS cl n inr s ρ σ with
    | some (.exit k, ρ', σ') => if k = id then some (.normal, ρ', σ') else some (.exit k, ρ', σ')
    | r => r
  | .loop s, ρ, σ => loopN (evS cl n inr s) n ρ σ
  | .exit id, ρ, σ => some (.exit id, ρ, σ)
  | .ret, ρ, σ => some (.ret, ρ, σ)
  | .scope s, ρ, σ => evS cl n inr s ρ σ
  | .ops l, ρ, σ => (evOps cl l ρ σ).map fun (ρ', σ') => (.normal, ρ', σ')
  | .drawn l bef, ρ, σ => (evDrawn cl l bef ρ σ).map fun (ρ', σ') => (.normal, ρ', σ')
  | .rangef f ps asn bd, ρ, σ =>
    if inr then none else
    match f.get ρ with
    | .func (.func k) first cap =>
      let id := σ.next
      let σ1 : St := { σ.put id (some (.loop .ready none ρ ps asn bd)) with next := id + 1 }
      match cl (.fn k) (first.toList ++ [.func (.yield id) #[] #[]] ++ cap.toList) σ1 with
      | none => none
      | some (_, σ2) =>
        match σ2.get id with
        | some (.loop st pend ρ0 ps0 asn0 bd0) =>
          if st = .busy then none else
          let σ3 := σ2.put id none
          match pend with
          | none => some (.normal, ρ, σ3)
          | some e => some (e, ρ, σ3)
        | _ => none
    | _ => none
  | .bad, _, _ => none

structure FIR where
  nt : Nat
  np : Nat
  res : List (Nat × Option (Option Nat))
  body : Stmt
  deriving Inhabited

inductive FE where
  | code (f : FIR)
  | mapsClone
  | spec (h : List Value → St → Option (Value × St))

abbrev Table := FuncId → Option FE

def initEnv (args : List Value) : Env := fun i => args.getD i undefV

def resA (ρ : Env) (σ : St) : List (Nat × Option (Option Nat)) → Option (List Value)
  | [] => some []
  | (t, none) :: rs => (resA ρ σ rs).map (ρ t :: ·)
  | (t, some agg) :: rs =>
    match evR ρ σ (.ld agg (.t t)) with
    | some v => (resA ρ σ rs).map (v :: ·)
    | none => none

def tupA : List Value → Value
  | [v] => v
  | vs => .tuple vs.toArray

def bindPs (ρ : Env) : List Nat → List Value → Env
  | p :: ps, v :: vs => bindPs (ρ.upd (some p) v) ps vs
  | _, _ => ρ

def evC (T : Table) : Nat → CallF
  | 0, _, _, _ => none
  | n + 1, .fn f, args, σ =>
    match T f with
    | some (.code ir) =>
      if args.length = ir.np then
        match evS (evC T n) n false ir.body (initEnv args) σ with
        | some (.exit _, _, _) => none
        | some (_, ρ, σ') => (resA ρ σ' ir.res).map fun vs => (tupA vs, σ')
        | none => none
      else none
    | some .mapsClone =>
      match args with
      | [.iface t (.map (some r))] =>
        match mapOf σ r with
        | some es => some (.iface t (.map (some σ.next)), { σ.put σ.next (some (.map es)) with next := σ.next + 1 })
        | none => none
      | _ => none
    | some (.spec h) => h args σ
    | none => none
  | n + 1, .yield l, args, σ =>
    match σ.get l with
    | some (.loop .ready pend ρ ps asn bd) =>
      if args.length = ps.length then
        match evS (evC T n) n true asn (bindPs ρ ps args) σ with
        | some (.normal, ρ1, σ1) =>
          match σ1.get l with
          | some (.loop .ready pend1 ρ2 ps2 asn2 bd2) =>
            match evS (evC T n) n true bd ρ1 (σ1.put l (some (.loop .busy pend1 ρ2 ps2 asn2 bd2))) with
            | some (e, _, σ2) =>
              match σ2.get l with
              | some (.loop .busy _ ρ3 ps3 asn3 bd3) =>
                match e with
                | .normal => some (.bool true, σ2.put l (some (.loop .ready none ρ3 ps3 asn3 bd3)))
                | e => some (.bool false, σ2.put l (some (.loop .done (some e) ρ3 ps3 asn3 bd3)))
              | _ => none
            | none => none
          | _ => none
        | _ => none
      else none
    | _ => none

/-! The compiler. -/
section compile
variable (P : Program)

def aggT (t : TypeId) : Option (Option Nat) :=
  match P.info? t with
  | some i =>
    match P.underlying t with
    | some (.struct _) | some (.array _ _) => some (some i.size)
    | some _ => some none
    | none => none
  | none => none
def sizeT (t : TypeId) : Option Nat := (P.info? t).map (·.size)
def bytesT (t : TypeId) : Option Nat := (P.info? t).map (·.bytes)
def zeroT (t : TypeId) : Option Value := (P.info? t).bind (·.zero)

def closedS : Value → Bool
  | .bool _ | .int _ _ | .string _ | .pointer none | .slice none 0 0 | .map none | .nilFunc | .nilIface => true
  | _ => false
def closedV : Value → Bool
  | .agg cs => cs.toList.all closedS
  | v => closedS v

def argC : Operand → Option Arg
  | .tmp t => some (.t t)
  | .const v => if closedV v then some (.c v) else none
  | .func f => some (.c (.func (.func f) #[] #[]))
  | .global _ => none

def argsC : List Operand → Option (List Arg)
  | [] => some []
  | o :: os => match argC o, argsC os with | some a, some as => some (a :: as) | _, _ => none

def argO : Option Operand → Option (Option Arg)
  | none => some none
  | some o => (argC o).map some

/-- The kinds of the cells of a value of a type that is compared cell by cell. -/
def flatL (f : TypeId → Option (List Sk)) : List Field → Nat → Option (List Sk)
  | [], _ => some []
  | d :: ds, off =>
    if d.name = "_" ∨ d.offset ≠ off then none else
    match f d.type with
    | some m => (flatL f ds (off + m.length)).map (m ++ ·)
    | none => none
def repS : Nat → List Sk → List Sk
  | 0, _ => []
  | n + 1, l => l ++ repS n l
def flatT : Nat → TypeId → Option (List Sk)
  | 0, _ => none
  | d + 1, t =>
    match P.underlying t with
    | some .bool => if sizeT P t = some 1 then some [.b] else none
    | some (.int _) => if sizeT P t = some 1 then some [.i] else none
    | some .string => if sizeT P t = some 1 then some [.s] else none
    | some (.struct fs) =>
      if P.stoodInHeld t then none else
      match flatL (flatT d) fs.toList 0 with
      | some n => if sizeT P t = some n.length then some n else none
      | none => none
    | some (.array n e) =>
      match flatT d e with
      | some m => if sizeT P e = some m.length ∧ sizeT P t = some (n * m.length) then some (repS n m) else none
      | none => none
    | _ => none

def eqK (t : TypeId) : EqK :=
  match P.underlying t with
  | some (.struct _) | some (.array _ _) => if P.eqGuardType P.depth t then .prim else match flatT P 8 t with | some n => .flat n | none => .prim
  | some .bool => .bool
  | some (.pointer _) => .ptr
  | some (.slice _) => .sl
  | some (.map _ _) => .map
  | some (.func _ _ _) => .fn
  | _ => .prim

def partsC (place : Nat → Option (Nat × Nat)) : List (Nat × Operand) → Option (List Part)
  | [] => some []
  | (i, x) :: rest =>
    match place i, argC x, partsC place rest with
    | some (off, size), some a, some ps => some (⟨off, size, a⟩ :: ps)
    | _, _, _ => none

def keyK (t : TypeId) : Option Bool :=
  match P.underlying t with
  | some .string => some true
  | some (.int _) => some false
  | _ => none

def fieldsC : List Field → Option (List (Nat × Nat))
  | [] => some []
  | f :: fs => match sizeT P f.type, fieldsC fs with | some n, some r => some ((f.offset, n) :: r) | _, _ => none

def zeroRow (zs : List Value) (len : Nat) : List Value := repL len zs

def o2 {α : Type} (x : Option α) (f : α → Option Ins) : Option Ins := x.bind f

def insC (o : Oper) : Option Ins :=
  match o.op with
  | .move x | .assign x => o2 (argC x) fun a => some (.mov a)
  | .pick c a b => o2 (argC c) fun c => o2 (argC a) fun a => o2 (argC b) fun b => some (.pick c a b)
  | .alloc t => o2 (zeroT P t) fun z => if closedV z then some (.alloc (cellsOf z) t) else none
  | .box _ x => o2 (argC x) fun a => some (.box a)
  | .build t parts =>
    o2 (zeroT P t) fun z => if closedV z = false then none else
    match P.underlying t with
    | some (.struct fs) => o2 (fieldsC P fs.toList) fun pl => o2 (partsC (fun i => pl[i]?) parts.toList) fun ps => some (.build (cellsOf z) ps)
    | some (.array _ e) => o2 (sizeT P e) fun n => o2 (partsC (fun i => some (i * n, n)) parts.toList) fun ps => some (.build (cellsOf z) ps)
    | _ => none
  | .buildSlice t len parts =>
    match P.underlying t with
    | some (.slice e) =>
      o2 (sizeT P e) fun n => o2 (zeroT P e) fun z =>
        if closedV z = false ∨ 16777216 < len * n ∨ (cellsOf z).length ≠ n ∨ n = 0 then none else
        o2 (partsC (fun i => some (i * n, n)) parts.toList) fun ps => some (.bslice len n (zeroRow (cellsOf z) len) ps)
    | _ => none
  | .load t a => o2 (aggT P t) fun g => o2 (argC a) fun a => some (.ld g a)
  | .store t a x => o2 (sizeT P t) fun n => o2 (argC a) fun a => o2 (argC x) fun x => some (.st n a x)
  | .nilCheck x => o2 (argC x) fun a => some (.nilck a)
  | .binOp op t x y _ => o2 (argC x) fun a => o2 (argC y) fun b => some (.bin op (eqK P t) a b)
  | .unOp op _ x => o2 (argC x) fun a => some (.un op a)
  | .convert s d x =>
    match P.underlying s, P.underlying d with
    | some (.int _), some (.int k) => o2 (argC x) fun a => some (.cint k a)
    | some .string, some .string => o2 (argC x) fun a => some (.cstr a)
    | some (.slice e), some .string => match P.underlying e with | some (.int .u8) => o2 (argC x) fun a => some (.cb2s a) | _ => none
    | some .string, some (.slice e) => match P.underlying e with | some (.int .u8) => o2 (argC x) fun a => some (.cs2b a) | _ => none
    | _, _ => none
  | .slice t x lo hi mx =>
    o2 (argC x) fun a => o2 (argO lo) fun lo => o2 (argO hi) fun hi => o2 (argO mx) fun mx =>
    match P.underlying t with
    | some .string => if mx.isSome then none else some (.sstr a lo hi)
    | some (.slice e) => o2 (sizeT P e) fun n => if n = 0 then none else some (.ssl n a lo hi mx)
    | some (.array n e) => o2 (sizeT P e) fun m => some (.sarr n m a lo hi mx)
    | some (.pointer r) => match P.underlying r with | some (.array n e) => o2 (sizeT P e) fun m => some (.sarr n m a lo hi mx) | _ => none
    | _ => none
  | .fieldAddr s x f =>
    match P.underlying s with
    | some (.struct fs) => match fs.toList[f]? with
      | some fd => o2 (sizeT P fd.type) fun n => if n = 0 then none else o2 (argC x) fun a => some (.fadr fd.offset a)
      | none => none
    | _ => none
  | .field s x f =>
    match P.underlying s with
    | some (.struct fs) => match fs.toList[f]? with
      | some fd => o2 (aggT P fd.type) fun g => o2 (argC x) fun a => some (.fld g fd.offset a)
      | none => none
    | _ => none
  | .indexAddr t x i =>
    o2 (argC x) fun a => o2 (argC i) fun i =>
    match P.underlying t with
    | some (.slice e) => o2 (sizeT P e) fun n => some (.iadr n a i)
    | some (.array m e) => o2 (sizeT P e) fun n => some (.iadrA m n a i)
    | _ => none
  | .index t x i =>
    o2 (argC x) fun a => o2 (argC i) fun i =>
    match P.underlying t with
    | some .string => some (.idxS a i)
    | some (.array m e) => o2 (sizeT P e) fun n => o2 (aggT P e) fun g => some (.idxA m n g a i)
    | _ => none
  | .lookup t m k ok =>
    match P.underlying t with
    | some (.map kt et) => o2 (keyK P kt) fun s => o2 (zeroT P et) fun z => if closedV z = false then none else o2 (argC m) fun m => o2 (argC k) fun k => some (.lkp s z ok m k)
    | _ => none
  | .mapUpdate t m k x | .insert t m k x =>
    match P.underlying t with
    | some (.map kt _) => o2 (keyK P kt) fun s => o2 (argC m) fun m => o2 (argC k) fun k => o2 (argC x) fun x => some (.mput s m k x)
    | _ => none
  | .makeMap _ none => some .mmap
  | .makeSlice t l c =>
    match P.underlying t with
    | some (.slice e) =>
      o2 (sizeT P e) fun n => o2 (bytesT P e) fun b => o2 (zeroT P e) fun z => if closedV z = false ∨ (cellsOf z).length ≠ n ∨ n = 0 then none else
        o2 (argC l) fun l => o2 (argC c) fun c => some (.mslice n b (cellsOf z) l c)
    | _ => none
  | .makeFunc (.func f) first cap => o2 (argsC first.toList) fun fs => o2 (argsC cap.toList) fun cs => some (.mfun f fs cs)
  | .makeInterface t x => match P.underlying t with | some (.interface _) => none | some _ => o2 (argC x) fun a => some (.mif t a) | none => none
  | .extract x i => o2 (argC x) fun a => some (.ext a i)
  | .call c =>
    o2 (argsC c.args.toList) fun as =>
    match c.callee with
    | .value (.func f) => some (.call f as)
    | .value f => o2 (argC f) fun f => some (.callv f as)
    | .builtin .len =>
      match as, (c.argTypes[0]?).bind P.underlying with
      | [a], some .string => some (.lenS a)
      | [a], some (.slice _) => some (.lenL a)
      | [_], some (.array n _) => some (.lenC n)
      | [a], some (.map _ _) => some (.lenM a)
      | _, _ => none
    | .builtin .cap =>
      match as, (c.argTypes[0]?).bind P.underlying with
      | [a], some (.slice _) => some (.capL a)
      | _, _ => none
    | .builtin .min => match as with | [a, b] => some (.mn a b) | _ => none
    | .builtin .max => match as with | [a, b] => some (.mx a b) | _ => none
    | .builtin .append =>
      match as, c.argTypes[0]?, c.argTypes[1]? with
      | [s, x], some st, some xt =>
        match P.underlying st, P.underlying xt with
        | some (.slice e), some xd =>
          o2 (sizeT P e) fun n => o2 (bytesT P e) fun b => o2 (zeroT P e) fun z => if closedV z = false ∨ (cellsOf z).length ≠ n ∨ n = 0 ∨ 65536 < b then none else
            match xd with
            | .int _ => some (.app n e (some (cellsOf z)) s x)
            | _ => some (.app n e none s x)
        | _, _ => none
      | _, _, _ => none
    | .builtin .copy =>
      match as, c.argTypes[0]? with
      | [d, s], some dt => match P.underlying dt with | some (.slice e) => o2 (sizeT P e) fun n => if n = 0 then none else some (.cpy n d s) | _ => none
      | _, _ => none
    | .builtin .delete =>
      match as, c.argTypes[0]? with
      | [m, k], some mt => match P.underlying mt with | some (.map kt _) => o2 (keyK P kt) fun s => some (.mdel s m k) | _ => none
      | _, _ => none
    | _ => none
  | _ => none

def opC (ops : Array Oper) (o : Oper) : OpI :=
  let i := (insC P o).getD .bad
  match o.guard with
  | none => ⟨o.dst, none, i⟩
  | some (j, want) =>
    match (ops[j]?).bind (·.dst) with
    | some t => ⟨o.dst, some (t, want), i⟩
    | none => ⟨o.dst, none, .bad⟩

def argT : Arg → List Nat
  | .t n => [n]
  | .c _ => []
def argsT (l : List Arg) : List Nat := l.flatMap argT
def argOT : Option Arg → List Nat
  | some a => argT a
  | none => []
def partT (l : List Part) : List Nat := l.flatMap fun p => argT p.a

/-- The temporaries that an operation reads. -/
def insT : Ins → List Nat
  | .mov a | .nilck a | .un _ a | .cint _ a | .cstr a | .fadr _ a | .fld _ _ a | .mif _ a | .ext a _ | .lenS a | .lenL a | .capL a | .ld _ a | .lenM a | .cb2s a | .box a | .cs2b a => argT a
  | .pick c a b => argT c ++ argT a ++ argT b
  | .build _ ps | .bslice _ _ _ ps => partT ps
  | .bin _ _ a b | .iadr _ a b | .iadrA _ _ a b | .idxS a b | .idxA _ _ _ a b | .mn a b | .mx a b | .lkp _ _ _ a b | .mslice _ _ _ a b | .app _ _ _ a b | .st _ a b | .mdel _ a b | .cpy _ a b => argT a ++ argT b
  | .sstr a lo hi => argT a ++ argOT lo ++ argOT hi
  | .ssl _ a lo hi mx | .sarr _ _ a lo hi mx => argT a ++ argOT lo ++ argOT hi ++ argOT mx
  | .mfun _ f c => argsT f ++ argsT c
  | .mput _ a b c => argT a ++ argT b ++ argT c
  | .call _ as => argsT as
  | .callv f as => argT f ++ argsT as
  | .lenC _ | .alloc .. | .mmap | .bad => []

def opT (o : OpI) : List Nat := (match o.g with | some (t, _) => [t] | none => []) ++ insT o.i

/-- Which operations come ahead of each one in every order: as a number's digits. -/
def befO (acc : List Nat) : List Edge → Nat
  | [] => 0
  | e :: es => if Region.binds .any e then (2 ^ e.on ||| acc.getD e.on 0) ||| befO acc es else befO acc es
def befL (acc : List Nat) : List Oper → List Nat
  | [] => acc
  | o :: os => befL (acc ++ [befO acc o.after.toList]) os
def befC (ops : List Oper) : List Nat := befL [] ops

/-- Operations that name one temporary, one of which writes it, stand in one order. -/
def tmpsOk (l : List OpI) (bef : List Nat) : Bool :=
  (List.range l.length).all fun j => (List.range j).all fun i =>
    match l[i]?, l[j]? with
    | some a, some b =>
      (bef.getD j 0).testBit i ||
      (!(match a.dst with | some t => (opT b).contains t || b.dst == some t | none => false) && !(match b.dst with | some t => (opT a).contains t | none => false))
    | _, _ => false

def dstOk (nt : Nat) (l : List OpI) : Bool := l.all fun o => match o.dst with | some d => d < nt | none => true

def edgesOk (ops : List Oper) : Bool :=
  (List.range ops.length).all fun j => match ops[j]? with | some o => o.after.toList.all fun e => !Region.binds .any e || e.on < j | none => true

def exC : Code → Option Ex
  | .exit id => some (.exit id)
  | .ret => some .ret
  | _ => none

def stC (nt : Nat) : Code → Stmt
  | .skip => .skip
  | .label _ => .skip
  | .seq a b => .seq (stC nt a) (stC nt b)
  | .cond c a b => match argC c with | some x => .ite x (stC nt a) (stC nt b) | none => .bad
  | .block id b => .block id (stC nt b)
  | .loop b => .loop (stC nt b)
  | .exit id => .exit id
  | .ret => .ret
  | .scope b => .scope (stC nt b)
  | .region _ ops false =>
    let l := ops.toList.map (opC P ops)
    if dstOk nt l then .ops l else .bad
  | .region _ ops true =>
    let l := ops.toList.map (opC P ops)
    let bef := befC ops.toList
    if dstOk nt l && edgesOk ops.toList && tmpsOk l bef then .drawn l bef else .bad
  | .rangeFunc f ps asn bd =>
    match argC f with
    | some x => if ps.toList.all (· < nt) then .rangef x ps.toList (stC nt asn) (stC nt bd) else .bad
    | none => .bad
  | _ => .bad

def resC : List ResultVar → Option (List (Nat × Option (Option Nat)))
  | [] => some []
  | .tmp t :: rs => (resC rs).map ((t, none) :: ·)
  | .cell a t :: rs => match aggT P t, resC rs with | some g, some r => some ((a, some g) :: r) | _, _ => none

def funC (fn : Func) : Option FIR :=
  match fn.body, resC P fn.results.toList with
  | some c, some rs => if fn.name = "runtime.NumGoroutine" then none else some ⟨fn.ntmps, fn.params.size + fn.nfree, rs, stC P fn.ntmps c⟩
  | _, _ => none
end compile

end Go.Eng
