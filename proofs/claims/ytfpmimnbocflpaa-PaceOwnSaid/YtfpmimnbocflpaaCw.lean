/- The engine's words: a weakest-precondition calculator over a function's Code. Its state holds what the temporaries hold and what the call's own boxes (struct variables) hold; what it tells is a formula over worlds. -/
import Derived.Calls
import Derived.OrdersHeld
import Derived.Tactics
import Derived.KernelRfl
import Derived.Below
namespace Go.Cw
open Go

/-! ### Kinds of cells -/
inductive Ck where
  | int (k : IntKind) | bool | str | sl | ptr | mp | any

def Ck.of : Value → Ck
  | .int k _ => .int k
  | .bool _ => .bool
  | .string _ => .str
  | .slice _ _ _ => .sl
  | .pointer _ => .ptr
  | .map _ => .mp
  | _ => .any

def Ck.fits : Ck → Value → Bool
  | .int k, .int k' _ => decide (k = k')
  | .bool, .bool _ => true
  | .str, .string _ => true
  | .sl, .slice _ _ _ => true
  | .ptr, .pointer _ => true
  | .mp, .map _ => true
  | .any, _ => true
  | _, _ => false

def exK : Ck → (Value → Prop) → Prop
  | .int k, K => ∃ n : Int, K (.int k n)
  | .bool, K => ∃ b : Bool, K (.bool b)
  | .str, K => ∃ s : ByteArray, K (.string s)
  | .sl, K => ∃ (A : Option Addr) (n c : Nat), K (.slice A n c)
  | .ptr, K => ∃ A : Option Addr, K (.pointer A)
  | .mp, K => ∃ r : Option Nat, K (.map r)
  | .any, K => ∃ v : Value, K v

def allK : Ck → (Value → Prop) → Prop
  | .int k, K => ∀ n : Int, K (.int k n)
  | .bool, K => ∀ b : Bool, K (.bool b)
  | .str, K => ∀ s : ByteArray, K (.string s)
  | .sl, K => ∀ (A : Option Addr) (n c : Nat), K (.slice A n c)
  | .ptr, K => ∀ A : Option Addr, K (.pointer A)
  | .mp, K => ∀ r : Option Nat, K (.map r)
  | .any, K => ∀ v : Value, K v

def exKs : List Ck → (List Value → Prop) → Prop
  | [], K => K []
  | k :: ks, K => exK k fun v => exKs ks fun vs => K (v :: vs)

def allKs : List Ck → (List Value → Prop) → Prop
  | [], K => K []
  | k :: ks, K => allK k fun v => allKs ks fun vs => K (v :: vs)

/-! ### What a type's value looks like -/
structure Sh where
  agg : Bool
  ks : List Ck

def shOf (P : Program) (t : TypeId) : Option Sh :=
  match P.info? t with
  | some i =>
    match i.zero with
    | some (.agg cs) => some ⟨true, cs.toList.map Ck.of⟩
    | some v => some ⟨false, [Ck.of v]⟩
    | none => none
  | none => none

def aggB (P : Program) (t : TypeId) : Bool :=
  match P.underlying t with
  | some (.struct _) => true
  | some (.array _ _) => true
  | _ => false

/-- A load's shape: as many cells as the type has. -/
def loadSh (P : Program) (t : TypeId) : Option Sh :=
  match shOf P t, P.underlying t with
  | some sh, some _ => if sh.agg = aggB P t ∧ P.cellsOf t = sh.ks.length ∧ (sh.agg = true ∨ sh.ks.length = 1) then some sh else none
  | _, _ => none

def mkOne (sh : Sh) (vs : List Value) : Value := if sh.agg then .agg vs.toArray else vs.headD undef

def mkMany : List Sh → List Value → List Value
  | [], _ => []
  | sh :: r, vs => mkOne sh (vs.take sh.ks.length) :: mkMany r (vs.drop sh.ks.length)

/-- A result's shape: one value's, or a tuple's. -/
inductive Rs where
  | one (sh : Sh)
  | many (shs : List Sh)

def Rs.ks : Rs → List Ck
  | .one sh => sh.ks
  | .many shs => shs.flatMap (·.ks)

def Rs.mk : Rs → List Value → Value
  | .one sh, vs => mkOne sh vs
  | .many shs, vs => .tuple (mkMany shs vs).toArray

def shsOf (P : Program) : List TypeId → Option (List Sh)
  | [] => some []
  | t :: ts =>
    match shOf P t, shsOf P ts with
    | some s, some r => some (s :: r)
    | _, _ => none

def rsOf (P : Program) (t : TypeId) : Option Rs :=
  match P.underlying t with
  | some (.tuple ts) =>
    match shsOf P ts.toList with
    | some l => some (.many l)
    | none => none
  | some _ =>
    match shOf P t with
    | some s => some (.one s)
    | none => none
  | none => none

/-! ### The state -/
/-- A value: as it is; as it is, and not to be looked into; the address of a cell of an own box; the address of a cell behind a base that is not nil. -/
inductive CV where
  | v (x : Value)
  | o (x : Value)
  | bp (k off : Nat)
  | ep (A : Option Addr) (j : Nat)
  deriving Inhabited

structure En where
  cv : CV
  tg : List (Nat × Bool)
  vr : Nat

structure Bx where
  id : Nat
  cs : List (Value × Nat)
  ty : TypeId
  esc : Bool

structure St where
  env : List (Option En)
  bx : List Bx
  ctr : Nat
  dirty : Bool
  pins : List Nat

def St.idAt (st : St) (k : Nat) : Nat :=
  match st.bx[k]? with
  | some b => b.id
  | none => 0

/-- A base moved on by some cells. -/
def offA (A : Option Addr) (j : Nat) : Option Addr := A.map (·.add j)

/-- The base of a slice's piece: from the l-th on, of elements of sz cells; c is its capacity. -/
def reA (A : Option Addr) (c l sz : Nat) : Option Addr := if c = l then A else A.map (·.add (l * sz))

def St.den (st : St) : CV → Value
  | .v x => x
  | .o x => x
  | .bp k off => .pointer (some ⟨st.idAt k, off, none⟩)
  | .ep A j => .pointer (offA A j)

def tgIn : List (Nat × Bool) → List (Nat × Bool) → Bool
  | [], _ => true
  | t :: r, T => T.contains t && tgIn r T

/-- What an operand holds, where the guards T are passed. -/
def St.rd (st : St) (T : List (Nat × Bool)) : Operand → Option CV
  | .tmp t =>
    match st.env[t]? with
    | some (some e) => if tgIn e.tg T then some e.cv else none
    | _ => none
  | .const v => some (.v v)
  | .func f => some (.v (.func (.func f) #[] #[]))
  | .global g => some (.v (.pointer (some ⟨g, 0, none⟩)))

def St.rho (st : St) (T : List (Nat × Bool)) (x : Operand) : Value :=
  match st.rd T x with
  | some cv => st.den cv
  | none => undef

def St.can (st : St) (T : List (Nat × Bool)) (xs : List Operand) : Bool := xs.all fun x => (st.rd T x).isSome

def Bx.mark (b : Bx) : Bx := { b with esc := true }

def St.esc1 (st : St) : CV → St
  | .bp k _ => { st with bx := st.bx.modify k Bx.mark }
  | _ => st

/-- The boxes whose addresses are handed on are marked. -/
def St.escs (st : St) (T : List (Nat × Bool)) : List Operand → St
  | [] => st
  | x :: r =>
    match st.rd T x with
    | some cv => (st.esc1 cv).escs T r
    | none => st.escs T r

def St.put (st : St) (d : Option Tmp) (cv : CV) (T : List (Nat × Bool)) : St :=
  match d with
  | some d => { st with env := st.env.set d (some ⟨cv, T, st.ctr⟩), ctr := st.ctr + 1 }
  | none => st

def St.addBx (st : St) (b : Nat) (l : List Value) (t : TypeId) : St :=
  { st with bx := st.bx ++ [⟨b, l.map fun v => (v, st.ctr), t, false⟩], ctr := st.ctr + 1, dirty := true }

def Ck.cv : Ck → Value → CV
  | .any, v => .o v
  | _, v => .v v

/-- A value of a shape, as it goes into a slot. -/
def shCv (sh : Sh) (vs : List Value) : CV :=
  if sh.agg then .v (.agg vs.toArray)
  else
    match sh.ks with
    | k :: _ => k.cv (vs.headD undef)
    | [] => .v undef

def rsCv : Rs → List Value → CV
  | .one sh, vs => shCv sh vs
  | r, vs => .v (r.mk vs)

/-! ### Guards -/
/-- The guards of an operation, the nearest first (none: they are not to be told). dn: which operations have come up. -/
def tagSt (ops : Array Oper) (dn : Nat → Bool) (st : St) (o : Oper) : Option (List (Nat × Bool)) :=
  match o.guard with
  | none => some []
  | some (j, b) =>
    if dn j then
      match (ops[j]?).bind (·.dst) with
      | some d =>
        match st.env[d]? with
        | some (some e) => some ((j, b) :: e.tg)
        | _ => none
      | none => none
    else none

/-- The slot of each guard is written by one operation alone. -/
def dstOk (ops : Array Oper) : Bool :=
  ops.toList.all fun o =>
    match o.guard with
    | none => true
    | some (j, _) =>
      match (ops[j]?).bind (·.dst) with
      | none => false
      | some d => (List.range ops.size).all fun i => i == j || (ops[i]?).bind (·.dst) != some d

def gx1 (st : St) (ops : Array Oper) (j : Nat) (b : Bool) : Option Bool :=
  match (ops[j]?).bind (·.dst) with
  | some d =>
    match st.env[d]? with
    | some (some ⟨.v (.bool c), _, _⟩) => some (if b then c else !c)
    | _ => none
  | none => none

/-- The guards' truth, as the values tell it. -/
def gx (st : St) (ops : Array Oper) : List (Nat × Bool) → Option Bool
  | [] => some true
  | [(j, b)] => gx1 st ops j b
  | (j, b) :: r =>
    match gx1 st ops j b, gx st ops r with
    | some c, some d => some (d && c)
    | _, _ => none

/-- P, where the guards are passed. -/
def gImp (st : St) (ops : Array Oper) (T : List (Nat × Bool)) (p : Prop) : Prop :=
  match T with
  | [] => p
  | _ =>
    match gx st ops T with
    | some g => g = true → p
    | none => False

/-! ### What only computes -/
def pureOf {α : Type} (P : Program) : Sem α → Option α
  | .pure a => some a
  | .program k => pureOf P (k P)
  | .mark _ k => pureOf P k
  | _ => none

def fieldOff (P : Program) (s : TypeId) (f : Nat) : Option Nat :=
  match P.underlying s with
  | some (.struct fs) =>
    match fs[f]? with
    | some fd => if P.cellsOf fd.type = 0 then none else some fd.offset
    | none => none
  | _ => none

def sliceElem (P : Program) (t : TypeId) : Option TypeId :=
  match P.underlying t with
  | some (.slice e) => if (P.info? e).isSome then some e else none
  | _ => none

/-- The cells of a struct's literal. -/
def fillL (offs : List Nat) : List Value → List (Nat × Value) → Option (List Value)
  | cs, [] => some cs
  | cs, (i, v) :: r =>
    match offs[i]? with
    | some off =>
      let l := v.cells.toList
      if off + l.length ≤ cs.length then fillL offs (cs.take off ++ l ++ cs.drop (off + l.length)) r else none
    | none => none

def partsOk (sizes : List Nat) : List (Nat × Value) → Bool
  | [] => true
  | (i, v) :: r =>
    match sizes[i]? with
    | some n => n == v.cells.toList.length && partsOk sizes r
    | none => false

def opIdx (ops : Array Oper) (d : Tmp) : Option Nat := ops.toList.findIdx? fun o => o.dst == some d

/-- The value of an operation that only computes from what the temporaries hold (or Sem that is to be run). -/
def semOf (rho : Operand → Value) (o : Oper) : Option (Sem Value) :=
  match o.op with
  | .binOp op t x y _ => some (eqGuard op t x y (rho x) (rho y) >>= fun _ => binOp op t (rho x) (rho y))
  | .unOp op _ x => some (Op.unary op (rho x))
  | .convert s d x => some (convert s d (rho x))
  | .extract t i => some (Instr.extract (rho t) i)
  | .makeFunc fn first cap => some (pure (.func fn (first.toList.map rho).toArray (cap.toList.map rho).toArray))
  | .field t x f => some (Instr.field t (rho x) f)
  | .index t x i => some (Instr.index t (rho x) (rho i))
  | .makeMap t r => some (Instr.makeMap t (r.map rho))
  | .makeSlice t l c => some (Instr.makeSlice t (rho l) (rho c))
  | .buildSlice t n parts => some (Instr.buildSlice t n (parts.toList.map fun p => (p.1, rho p.2)).toArray)
  | .lookup t x i ok => some (Instr.lookup t (rho x) (rho i) ok)
  | .slice t x lo hi mx => some (Instr.sliceAt t (rho x) (lo.map rho) (hi.map rho) (mx.map rho))
  | .range t x => some (Instr.range t (rho x))
  | .next it s => some (Instr.next (rho it) s o.type)
  | .entry it => some (Instr.entry (rho it))
  | .makeInterface t x => some (Instr.makeInterface t (rho x))
  | .call { callee := .builtin b, args, argTypes } =>
    let vs := (args.toList.map rho).toArray
    match b with
    | .len => some (Builtin.len_ argTypes o.type vs)
    | .cap => some (Builtin.cap_ argTypes o.type vs)
    | .min => some (Builtin.min_ argTypes o.type vs)
    | .max => some (Builtin.max_ argTypes o.type vs)
    | .append => some (Builtin.append_ argTypes o.type vs)
    | .copy => some (Builtin.copy_ argTypes o.type vs)
    | .clear => some (Builtin.clear_ argTypes o.type vs)
    | .delete => some (Builtin.delete_ argTypes o.type vs)
    | _ => none
  | _ => none

/-- The operands that semOf looks at. -/
def semOpnds (o : Oper) : List Operand :=
  match o.op with
  | .binOp _ _ x y _ => [x, y]
  | .unOp _ _ x | .convert _ _ x | .extract x _ | .field _ x _ | .range _ x | .next x _ | .entry x | .makeInterface _ x => [x]
  | .makeFunc _ first cap => first.toList ++ cap.toList
  | .index _ x i | .makeSlice _ x i | .lookup _ x i _ => [x, i]
  | .makeMap _ r => r.toList
  | .buildSlice _ _ ps => ps.toList.map (·.2)
  | .slice _ x l h m => [x] ++ l.toList ++ h.toList ++ m.toList
  | .call c => c.args.toList
  | _ => []

/-- Does it only compute? -/
def isPure (o : Oper) : Bool :=
  match o.op with
  | .binOp .. | .unOp .. | .convert .. | .extract .. | .makeFunc .. | .field .. | .makeInterface .. => true
  | .call { callee := .builtin .len, .. } | .call { callee := .builtin .cap, .. } | .call { callee := .builtin .min, .. } | .call { callee := .builtin .max, .. } => true
  | _ => false

/-- An end of a slice expression: it is left out, or a number. -/
def sliceEnd (st : St) (T : List (Nat × Bool)) : Option Operand → Option (Option Int)
  | none => some none
  | some b =>
    match st.rd T b with
    | some (.v (.int _ i)) => some (some i)
    | _ => none

def boundN (d : Nat) : Option Int → Nat
  | some i => i.toNat
  | none => d

def boundP (c : Int) (h : Option Int) (hN : Nat) (l : Option Int) : Option Prop :=
  match h, l with
  | some h, some l => some ((0 ≤ h ∧ h ≤ c) ∧ 0 ≤ l ∧ l ≤ (hN : Int))
  | some h, none => some (0 ≤ h ∧ h ≤ c)
  | none, some l => some (0 ≤ l ∧ l ≤ (hN : Int))
  | none, none => none

/-- Is what an operand holds nil? (of a slice's or a pointer's type) -/
def isNilB (P : Program) (st : St) (T : List (Nat × Bool)) (t : TypeId) (x : Operand) : Value → Option Bool
  | .slice none _ _ =>
    match P.underlying t, st.rd T x with
    | some (.slice _), some (.v (.slice A _ _)) => some (!A.isSome)
    | _, _ => none
  | .pointer none =>
    match P.underlying t, st.rd T x with
    | some (.pointer _), some (.v (.pointer A)) => some (!A.isSome)
    | some (.pointer _), some (.bp _ _) => some false
    | some (.pointer _), some (.ep _ _) => some false
    | _, _ => none
  | _ => none

/-- A comparison with nil. -/
def nilCmp (P : Program) (st : St) (T : List (Nat × Bool)) (o : Oper) : Option Bool :=
  match o.op with
  | .binOp .eql t x (.const v) _ => isNilB P st T t x v
  | .binOp .neq t x (.const v) _ =>
    match isNilB P st T t x v with
    | some b => some (!b)
    | none => none
  | _ => none

/-- A quiet operation's yield: what must hold (none: nothing), the value, the state. -/
def quietOp (P : Program) (ops : Array Oper) (st : St) (T : List (Nat × Bool)) (o : Oper) : Option (Option Prop × CV × St) :=
  match o.op with
  | .move x | .assign x => (st.rd T x).map fun cv => (none, cv, st)
  | .pick c a b =>
    match c with
    | .tmp d =>
      match opIdx ops d, st.rd T c with
      | some j, some (.v (.bool cb)) =>
        match st.rd ((j, true) :: T) a, st.rd ((j, false) :: T) b with
        | some (.v (.bool x)), some (.v (.bool y)) => some (none, .v (.bool (cond cb x y)), st)
        | some (.v (.int k x)), some (.v (.int k' y)) => if k = k' then some (none, .v (.int k (cond cb x y)), st) else none
        | _, _ => none
      | _, _ => none
    | _ => none
  | .nilCheck x =>
    match st.rd T x with
    | some (.bp k off) => some (none, .bp k off, st)
    | some (.ep A j) => some (none, .ep A j, st)
    | some (.v (.pointer A)) => some (some (A.isSome = true), .ep A 0, st)
    | some (.v (.func (.func f) a b)) => some (none, .v (.func (.func f) a b), st)
    | _ => none
  | .fieldAddr s x f =>
    match fieldOff P s f, st.rd T x with
    | some off, some (.bp k off0) => some (none, .bp k (off0 + off), st)
    | some off, some (.ep A j) => some (none, .ep A (j + off), st)
    | _, _ => none
  | .load t x =>
    match st.rd T x with
    | some (.bp k off) =>
      match st.bx[k]?, P.underlying t with
      | some b, some _ =>
        let n := P.cellsOf t
        let vs := ((b.cs.drop off).take n).map (·.1)
        if vs.length = n then
          if aggB P t then some (none, .v (.agg vs.toArray), st)
          else
            match vs, shOf P t with
            | [x], some ⟨false, [k]⟩ => some (none, k.cv x, st)
            | _, _ => none
        else none
      | _, _ => none
    | _ => none
  | .indexAddr t x i =>
    match sliceElem P t, st.rd T x, st.rd T i with
    | some e, some (.v (.slice A n _)), some (.v (.int _ i)) => some (some (0 ≤ i ∧ i < n ∧ A.isSome = true), .ep A (i.toNat * P.cellsOf e), st)
    | _, _, _ => none
  | .binOp .shl _ x y _ =>
    match st.rd T x, st.rd T y with
    | some (.v (.int k a)), some (.v (.int _ b)) =>
      let r : CV := .v (.int k (k.wrap (a * 2 ^ (min b.toNat k.bits))))
      match y with
      | .const (.int _ c) => if 0 ≤ c then some (none, r, st) else none
      | _ => some (some (0 ≤ b), r, st)
    | _, _ => none
  | .binOp .shr _ x y _ =>
    match st.rd T x, st.rd T y with
    | some (.v (.int k a)), some (.v (.int _ b)) =>
      let r : CV := .v (.int k (a.fdiv (2 ^ (min b.toNat k.bits))))
      match y with
      | .const (.int _ c) => if 0 ≤ c then some (none, r, st) else none
      | _ => some (some (0 ≤ b), r, st)
    | _, _ => none
  | .binOp .quo _ x y _ =>
    match st.rd T x, st.rd T y with
    | some (.v (.int k a)), some (.v (.int k' b)) =>
      if k = k' then
        let r : CV := .v (.int k (k.wrap (a.tdiv b)))
        match y with
        | .const (.int _ c) => if c = 0 then none else some (none, r, st)
        | _ => some (some (b ≠ 0), r, st)
      else none
    | _, _ => none
  | .binOp .rem _ x y _ =>
    match st.rd T x, st.rd T y with
    | some (.v (.int k a)), some (.v (.int k' b)) =>
      if k = k' then
        let r : CV := .v (.int k (a.tmod b))
        match y with
        | .const (.int _ c) => if c = 0 then none else some (none, r, st)
        | _ => some (some (b ≠ 0), r, st)
      else none
    | _, _ => none
  | .build t parts =>
    match P.underlying t, (P.info? t).bind (·.zero), st.can T (parts.toList.map (·.2)) with
    | some (.struct fs), some (.agg z), true =>
      let ps := parts.toList.map fun p => (p.1, st.rho T p.2)
      if fs.toList.all (fun f => (P.info? f.type).isSome) && partsOk (fs.toList.map fun f => P.cellsOf f.type) ps then
        match fillL (fs.toList.map (·.offset)) z.toList ps with
        | some cs => some (none, .v (.agg cs.toArray), st.escs T (parts.toList.map (·.2)))
        | none => none
      else none
    | _, _, _ => none
  | .slice t x lo hi none =>
    match sliceElem P t, st.rd T x, sliceEnd st T hi, sliceEnd st T lo with
    | some e, some (.v (.slice A n c)), some h, some l =>
      some (boundP (c : Int) h (boundN n h : Nat) l, .v (.slice (reA A c (boundN 0 l) (P.cellsOf e)) (boundN n h - boundN 0 l) (c - boundN 0 l)), st)
    | _, _, _, _ => none
  | _ =>
    match nilCmp P st T o with
    | some b => some (none, .v (.bool b), st)
    | none =>
      let xs := semOpnds o
      if isPure o && st.can T xs then
        match semOf (st.rho T) o with
        | some s =>
          match pureOf P s with
          | some v => some (none, .v v, st.escs T xs)
          | none => none
        | none => none
      else none

/-! ### Worlds -/
/-- What was there at the beginning, but for M, is as it was. -/
structure Fr (M : Nat → Prop) (w0 w : World) : Prop where
  os : w.os = w0.os
  tape : w.tape = w0.tape
  output : w.output = w0.output
  size : w0.heap.size ≤ w.heap.size
  block : ∀ k, k < w0.heap.size → ¬ M k → w.heap[k]? = w0.heap[k]?

structure Cx where
  P : Program
  M : Nat → Prop
  w0 : World
  ok : FuncId → Bool

def St.ids (st : St) : List Nat := st.bx.map (·.id)
def St.keeps (st : St) : List Nat := (st.bx.filter (! ·.esc)).map (·.id)

/-- Behind the boxes' own stores: all else is as it was. -/
structure Chg (ids : List Nat) (w w' : World) : Prop where
  os : w'.os = w.os
  tape : w'.tape = w.tape
  output : w'.output = w.output
  size : w.heap.size ≤ w'.heap.size
  block : ∀ k, k < w.heap.size → k ∉ ids → w'.heap[k]? = w.heap[k]?

/-- A step of somebody else's: it leaves the old blocks, and the boxes that it was not handed. -/
structure Stp (M : Nat → Prop) (n0 : Nat) (ids : List Nat) (w w' : World) : Prop where
  os : w'.os = w.os
  tape : w'.tape = w.tape
  output : w'.output = w.output
  size : w.heap.size ≤ w'.heap.size
  block : ∀ k, k < w.heap.size → ((k < n0 ∧ ¬ M k) ∨ k ∈ ids) → w'.heap[k]? = w.heap[k]?

/-- A box's block. -/
def Box (w : World) (b : Nat) (cs : List Value) (t : TypeId) : Prop := w.heap[b]? = some (.cells cs.toArray t (0, 0))

/-- The cells from a base on. -/
def Cells (w : World) (A : Option Addr) (j : Nat) (cs : List Value) : Prop :=
  ∃ p : Addr, A = some p ∧ ∀ m, m < cs.length → w.cell? ((p.add j).add m) = cs[m]?

def flush (cx : Cx) (st : St) (w : World) (k : World → Prop) : Prop :=
  if st.dirty then ∀ w1, Chg st.ids w w1 → Fr cx.M cx.w0 w1 → k w1 else k w

def St.clean (st : St) : St := { st with dirty := false }

/-- A box is written. -/
def St.wrBx (st : St) (kk off : Nat) (l : List Value) : St :=
  { st with bx := st.bx.modify kk fun b => { b with cs := b.cs.take off ++ (l.map fun v => (v, st.ctr)) ++ b.cs.drop (off + l.length) }, ctr := st.ctr + 1, dirty := true }

/-- The boxes that are told of: those whose addresses were handed on. -/
def boxHyps (w : World) : List Bx → Prop → Prop
  | [], p => p
  | b :: r, p => if b.esc then Box w b.id (b.cs.map (·.1)) b.ty → boxHyps w r p else boxHyps w r p

def escKs (P : Program) : List Bx → List Ck
  | [] => []
  | b :: r =>
    if b.esc then
      match shOf P b.ty with
      | some sh => sh.ks ++ escKs P r
      | none => escKs P r
    else escKs P r

/-- The boxes' cells, told anew. -/
def escBx (vr : Nat) : List Bx → List Value → List Bx
  | [], _ => []
  | b :: r, vs =>
    if b.esc then { b with cs := (vs.take b.cs.length).map fun v => (v, vr) } :: escBx vr r (vs.drop b.cs.length)
    else b :: escBx vr r vs

/-- The boxes that were handed on have as many cells as their types. -/
def escFit (P : Program) : List Bx → Bool
  | [] => true
  | b :: r =>
    (if b.esc then
      match shOf P b.ty with
      | some sh => sh.ks.length == b.cs.length
      | none => false
    else true) && escFit P r

/-- The cells of the boxes that were handed on. -/
def escNow : List Bx → List Value
  | [] => []
  | b :: r => if b.esc then b.cs.map (·.1) ++ escNow r else escNow r

/-- What is asked of them behind a call. -/
def boxAsks (w : World) : List Bx → Prop → Prop
  | [], p => p
  | b :: r, p => if b.esc then Box w b.id (b.cs.map (·.1)) b.ty ∧ boxAsks w r p else boxAsks w r p

def ltHyp (st : St) (w : World) (p : Prop) : Prop :=
  match st.bx with
  | [] => p
  | _ => (∀ k ∈ st.ids, k < w.heap.size) → p

def semUpon (P : Program) (s : Sem Value) (w : World) (R : Value → World → Prop) : Prop :=
  match s.run P w with
  | .ok v w' => R v w'
  | .halt _ _ => False

/-- A call of a function value that is not known. -/
def CallV (P : Program) (ok : FuncId → Bool) (F : Value) (args : List Value) (w : World) (R : Ending → World → Prop) : Prop :=
  match F with
  | .func (.func f) first cap => ok f = true ∧ Calls P f (first.toList ++ args ++ cap.toList).toArray w R
  | _ => False

/-- The blocks that a step of somebody else's leaves. -/
def St.kept (st : St) (dr : Bool) : List Nat := if dr then st.ids ++ st.pins else st.keeps

/-- The kinds of the cells that are read anew behind a step of somebody else's. -/
def St.anew (P : Program) (st : St) (dr : Bool) : List Ck := if dr then [] else escKs P st.bx

/-- The state behind a step of somebody else's: the boxes that were handed on are read anew. -/
def St.after (st : St) (dr : Bool) (vs : List Value) : St :=
  if dr then { st with ctr := st.ctr + 1, dirty := false }
  else { st with bx := escBx st.ctr st.bx vs, ctr := st.ctr + 1, dirty := false }

def St.asks (st : St) (dr : Bool) (w : World) (vs : List Value) (p : Prop) : Prop :=
  if dr then p else boxAsks w (escBx st.ctr st.bx vs) p

/-- An effect with a typed result, under guards or not; what it does to the world is told by E. -/
def effW (cx : Cx) (ops : Array Oper) (dr : Bool) (st : St) (T : List (Nat × Bool)) (rs : Rs) (dst : Option Tmp) (w1 : World)
    (E : (Value → World → Prop) → Prop) (k : St → World → Prop) : Prop :=
  let n := rs.ks.length
  let fin (vs : List Value) : St := ((st.after dr (vs.drop n)).put dst (rsCv rs (vs.take n)) T)
  let ks := rs.ks ++ st.anew cx.P dr
  match T with
  | [] =>
    E fun v w2 => exKs ks fun vs => v = rs.mk (vs.take n) ∧ Stp cx.M cx.w0.heap.size (st.kept dr) w1 w2 ∧
      st.asks dr w2 (vs.drop n) (Fr cx.M cx.w0 w2 → k (fin vs) w2)
  | _ =>
    match gx st ops T with
    | none => False
    | some g =>
      ∀ K' : List Value → World → Prop, (allKs ks fun vs => ∀ w2, Fr cx.M cx.w0 w2 → k (fin vs) w2 → K' vs w2) →
        ((g = true → E fun v w2 => exKs ks fun vs => v = rs.mk (vs.take n) ∧ Stp cx.M cx.w0.heap.size (st.kept dr) w1 w2 ∧
            st.asks dr w2 (vs.drop n) (K' vs w2)) ∧
          (g = false → exKs rs.ks fun vs => K' (vs ++ (if dr then [] else escNow st.bx)) w1))

def isMem : Oper → Bool
  | o =>
    match o.op with
    | .makeSlice .. | .buildSlice .. | .makeMap .. | .lookup .. | .index .. | .range .. | .next .. | .entry .. => true
    | .call { callee := .builtin _, .. } => true
    | _ => false

def oneB : Value → Bool
  | .agg _ => false
  | .tuple _ => false
  | _ => true

/-- One block is written anew; all else is as it was. -/
structure Upd (w : World) (b : Nat) (cs : List Value) (t : TypeId) (w' : World) : Prop where
  box : Box w' b cs t
  os : w'.os = w.os
  tape : w'.tape = w.tape
  output : w'.output = w.output
  size : w'.heap.size = w.heap.size
  block : ∀ k, k ≠ b → w'.heap[k]? = w.heap[k]?

/-- A store of l through an address that is no own box's. -/
def CanW (cx : Cx) (ids : List Nat) (w : World) (A : Option Addr) (j : Nat) (l : List Value) (K : World → Prop) : Prop :=
  ∃ (b o : Nat) (cs : List Value) (t : TypeId), offA A j = some ⟨b, o, none⟩ ∧ Box w b cs t ∧ o + l.length ≤ cs.length ∧ (cx.w0.heap.size ≤ b ∨ cx.M b) ∧ b ∉ ids ∧
    ∀ w2, Upd w b (cs.take o ++ l ++ cs.drop (o + l.length)) t w2 → Fr cx.M cx.w0 w2 → K w2

def blkOf : Option Addr → Nat
  | some p => p.block
  | none => 0

def St.pin (st : St) (dr : Bool) (A : Option Addr) : St := if dr then { st with pins := blkOf A :: st.pins } else st

/-- What an operation does that is not quiet. -/
def effOp (cx : Cx) (ops : Array Oper) (dr : Bool) (st : St) (T : List (Nat × Bool)) (o : Oper) (w : World) (k : St → World → Prop) : Prop :=
  match o.op with
  | .box t x =>
    match T, st.rd T x with
    | [], some cv =>
      ∀ b : Nat, w.heap.size ≤ b → b ∉ st.ids →
        k (((st.esc1 cv).addBx b ((st.den cv).cells.toList) t).put o.dst (.bp st.bx.length 0) T) w
    | _, _ => False
  | .alloc t =>
    match T, (cx.P.info? t).bind (·.zero) with
    | [], some z =>
      ∀ b : Nat, w.heap.size ≤ b → b ∉ st.ids →
        k ((st.addBx b z.cells.toList t).put o.dst (.bp st.bx.length 0) T) w
    | _, _ => False
  | .load t x =>
    match st.rd T x, loadSh cx.P t with
    | some (.ep A j), some sh =>
      flush cx st w fun w1 => exKs sh.ks fun vs => gImp st ops T (Cells w1 A j vs) ∧ k ((st.clean.pin dr A).put o.dst (shCv sh vs) T) w1
    | _, _ => False
  | .store t a x =>
    match T, st.rd T a, st.rd T x with
    | [], some (.bp kk off), some cv =>
      let st := st.esc1 cv
      let l := (st.den cv).cells.toList
      match st.bx[kk]? with
      | some b =>
        if (cx.P.info? t).isSome = true ∧ l.length = cx.P.cellsOf t ∧ off + l.length ≤ b.cs.length ∧ l.all oneB = true then
          k ((st.wrBx kk off l).put o.dst (.v undef) T) w
        else False
      | none => False
    | [], some (.ep A j), some cv =>
      let st := st.esc1 cv
      let l := (st.den cv).cells.toList
      if (cx.P.info? t).isSome = true ∧ l.length = cx.P.cellsOf t ∧ l.all oneB = true then
        flush cx st w fun w1 => CanW cx st.ids w1 A j l fun w2 => k (st.clean.put o.dst (.v undef) T) w2
      else False
    | _, _, _ => False
  | .call { callee := .value f, args, argTypes := _ } =>
    match rsOf cx.P o.type, st.rd T f, st.can T args.toList with
    | some rs, some F, true =>
      let st1 := (st.esc1 F).escs T args.toList
      if escFit cx.P st1.bx then
        match F with
        | .v (.func (.func g) first cap) =>
          if cx.ok g then
            flush cx st1 w fun w1 => ltHyp st1 w1 (boxHyps w1 st1.bx
              (effW cx ops dr st1 T rs o.dst w1 (fun R => Calls cx.P g (first.toList ++ args.toList.map (st.rho T) ++ cap.toList).toArray w1 fun e w2 => ∃ v, e = .returned v ∧ R v w2) k))
          else False
        | .o F =>
          flush cx st1 w fun w1 => ltHyp st1 w1 (boxHyps w1 st1.bx
            (effW cx ops dr st1 T rs o.dst w1 (fun R => CallV cx.P cx.ok F (args.toList.map (st.rho T)) w1 fun e w2 => ∃ v, e = .returned v ∧ R v w2) k))
        | _ => False
      else False
    | _, _, _ => False
  | _ =>
    let xs := semOpnds o
    match isMem o, st.can T xs, rsOf cx.P o.type, semOf (st.rho T) o with
    | true, true, some rs, some s =>
      let st1 := st.escs T xs
      if escFit cx.P st1.bx then
        flush cx st1 w fun w1 => ltHyp st1 w1 (boxHyps w1 st1.bx (effW cx ops dr st1 T rs o.dst w1 (fun R => semUpon cx.P s w1 R) k))
      else False
    | _, _, _, _ => False

/-- One operation. -/
def stepOp (cx : Cx) (ops : Array Oper) (dr : Bool) (dn : Nat → Bool) (o : Oper) (st : St) (w : World) (k : St → World → Prop) : Prop :=
  match tagSt ops dn st o with
  | none => False
  | some T =>
    match quietOp cx.P ops st T o with
    | some (none, cv, st') => k (st'.put o.dst cv T) w
    | some (some p, cv, st') => gImp st ops T p ∧ k (st'.put o.dst cv T) w
    | none => effOp cx ops dr st T o w k

def dropTags : List (Option En) → List (Option En)
  | [] => []
  | some e :: r => (match e.tg with | [] => some e | _ => none) :: dropTags r
  | none :: r => none :: dropTags r

def St.endReg (st : St) : St := { st with env := dropTags st.env, pins := [] }

def seqOps (cx : Cx) (ops : Array Oper) : List Oper → Nat → St → World → (St → World → Prop) → Prop
  | [], _, st, w, k => k st.endReg w
  | o :: r, i, st, w, k => stepOp cx ops false (fun j => decide (j < i)) o st w fun st w => seqOps cx ops r (i + 1) st w k

def isStore (o : Oper) : Bool :=
  match o.op with
  | .store .. => true
  | _ => false

def isLoad (o : Oper) : Bool :=
  match o.op with
  | .load .. => true
  | _ => false

def waits (o : Oper) (i : Nat) : Bool := o.after.toList.any fun e => Region.binds .any e && e.on == i

/-- Every store waits for it. -/
def storesWait (ops : Array Oper) (i : Nat) : Bool := ops.toList.all fun o => !isStore o || waits o i

/-- May an operation be taken ahead of those that are there, too? -/
def early (P : Program) (ops : Array Oper) (dn : Nat → Bool) (st : St) (o : Oper) : Bool :=
  match tagSt ops dn st o with
  | none => false
  | some T =>
    match quietOp P ops st T o with
    | some _ => true
    | none => isLoad o

/-- The first of some that may be taken ahead of all others: a load, if every store waits for it. -/
def firstQuiet (P : Program) (ops : Array Oper) (listed : Array Bool) (st : St) : List Nat → Option Nat
  | [] => none
  | i :: r =>
    match ops[i]? with
    | some o => if (!isLoad o || storesWait ops i) && early P ops (fun j => listed.getD j false) st o && Region.free .any ops listed i then some i else firstQuiet P ops listed st r
    | none => firstQuiet P ops listed st r

/-- For all of some. -/
def each : List Nat → (Nat → Prop) → Prop
  | [], _ => True
  | [i], F => F i
  | i :: r, F => F i ∧ each r F

/-- A region that draws its order: quiet ones first; the others in every order. -/
def drawOps (cx : Cx) (ops : Array Oper) : Nat → Array Bool → St → World → (St → World → Prop) → Prop
  | 0, _, _, _, _ => False
  | f + 1, listed, st, w, k =>
    match Region.ready .any ops listed with
    | [] => k st.endReg w
    | i :: r =>
      match firstQuiet cx.P ops listed st (i :: r) with
      | some i =>
        match ops[i]? with
        | some o => stepOp cx ops true (fun j => listed.getD j false) o st w fun st w => drawOps cx ops f (listed.setIfInBounds i true) st w k
        | none => False
      | none =>
        each (i :: r) fun i =>
          match ops[i]? with
          | some o => stepOp cx ops true (fun j => listed.getD j false) o st w fun st w => drawOps cx ops f (listed.setIfInBounds i true) st w k
          | none => False

/-! ### Hints, joins, loops -/
structure Hn where
  keep : List Nat
  slots : List (Nat × Ck)
  cells : List (Nat × Nat × Ck)
  esc : List Nat

structure Hs where
  conds : List (Nat × Hn)
  blocks : List (Nat × Hn)
  loops : List (Nat × Hn)

def Hn.ks (h : Hn) : List Ck := h.slots.map (·.2) ++ h.cells.map (·.2.2)

def look {α : Type} (k : Nat) : List (Nat × α) → Option α
  | [] => none
  | (j, a) :: r => if j = k then some a else look k r

/-- The number of the first region in a piece of code. -/
def key : Code → Option Nat
  | .region id _ _ => some id
  | .seq a b => (key a).orElse fun _ => key b
  | .cond _ a b => (key a).orElse fun _ => key b
  | .block _ c => key c
  | .loop c => key c
  | .scope c => key c
  | _ => none

def setSlots (vr : Nat) : List (Nat × Ck) → List Value → List (Option En) → List (Option En)
  | (d, k) :: r, v :: vs, env => setSlots vr r vs (env.set d (some ⟨k.cv v, [], vr⟩))
  | _, _, env => env

def setBx (vr : Nat) : List (Nat × Nat × Ck) → List Value → List Bx → List Bx
  | (k, j, _) :: r, v :: vs, bx => setBx vr r vs (bx.modify k fun b => { b with cs := b.cs.set j (v, vr) })
  | _, _, bx => bx

def escAll : List Nat → List Bx → List Bx
  | [], bx => bx
  | k :: r, bx => escAll r (bx.modify k Bx.mark)

def keepEnv (keep : List Nat) : Nat → List (Option En) → List (Option En)
  | _, [] => []
  | i, e :: r => (if keep.contains i then e else none) :: keepEnv keep (i + 1) r

/-- The state at a join's or a loop's head. -/
def St.inst (st : St) (h : Hn) (vs : List Value) : St :=
  { env := setSlots st.ctr h.slots (vs.take h.slots.length) (keepEnv h.keep 0 st.env),
    bx := setBx st.ctr h.cells (vs.drop h.slots.length) (escAll h.esc st.bx), ctr := st.ctr + 1, dirty := false, pins := [] }

def packSlots (st : St) : List (Nat × Ck) → Option (List Value)
  | [] => some []
  | (d, k) :: r =>
    match st.env[d]? with
    | some (some ⟨.v x, [], _⟩) | some (some ⟨.o x, [], _⟩) =>
      if k.fits x then
        match packSlots st r with
        | some vs => some (x :: vs)
        | none => none
      else none
    | _ => none

def packCells (st : St) : List (Nat × Nat × Ck) → Option (List Value)
  | [] => some []
  | (b, j, k) :: r =>
    match (st.bx[b]?).bind (·.cs[j]?) with
    | some (x, _) =>
      if k.fits x then
        match packCells st r with
        | some vs => some (x :: vs)
        | none => none
      else none
    | none => none

/-- Is what the hint keeps as it was at the head (by the versions)? -/
def keptEnv (c : Nat) (env env' : List (Option En)) : List Nat → Bool
  | [] => true
  | t :: r =>
    (match env[t]? with
    | some (some _) =>
      match env'[t]? with
      | some (some e) => decide (e.vr < c)
      | _ => false
    | _ => true) && keptEnv c env env' r

def keptCs (c : Nat) (hc : List (Nat × Nat × Ck)) (k : Nat) : Nat → List (Value × Nat) → Bool
  | _, [] => true
  | j, x :: r => (decide (x.2 < c) || hc.any fun y => y.1 == k && y.2.1 == j) && keptCs c hc k (j + 1) r

def keptBx (c : Nat) (hc : List (Nat × Nat × Ck)) : Nat → List Bx → List Bx → Bool
  | _, [], _ => true
  | k, b :: r, b' :: r' => (b.esc || !b'.esc) && keptCs c hc k 0 b'.cs && keptBx c hc (k + 1) r r'
  | _, _ :: _, [] => false

/-- 'st0': the state ahead of the piece; 'st': the one at its end. -/
def pack (st0 : St) (h : Hn) (st : St) : Option (List Value) :=
  if keptEnv st0.ctr st0.env st.env h.keep && keptBx st0.ctr h.cells 0 (escAll h.esc st0.bx) st.bx then
    match packSlots st h.slots, packCells st h.cells with
    | some a, some b => some (a ++ b)
    | _, _ => none
  else none

def joinK (cx : Cx) (st0 : St) (h : Hn) (J : List Value → World → Prop) (st : St) (w : World) : Prop :=
  match pack st0 h st with
  | some vs => flush cx st w fun w1 => J vs w1
  | none => False

def join (cx : Cx) (h : Option Hn) (st : St) (K : St → World → Prop) (p : (St → World → Prop) → Prop) : Prop :=
  match h with
  | none => p K
  | some h => ∀ J : List Value → World → Prop, (allKs h.ks fun vs => ∀ w', Fr cx.M cx.w0 w' → K (st.inst h vs) w' → J vs w') → p (joinK cx st h J)

def cwp (cx : Cx) (hs : Hs) : Code → St → World → (Exit → St → World → Prop) → Prop
  | .skip, st, w, K => K .normal st w
  | .region _ ops draw, st, w, K =>
    if dstOk ops then
      if draw then
        if Region.noSelect ops then
          drawOps cx ops (ops.size + 1) (Array.replicate ops.size false) { st with dirty := true } w (K .normal)
        else False
      else seqOps cx ops ops.toList 0 st w (K .normal)
    else False
  | .seq a b, st, w, K => cwp cx hs a st w fun e st w =>
    match e with
    | .normal => cwp cx hs b st w K
    | e => K e st w
  | .cond c x y, st, w, K =>
    match st.rd [] c with
    | some (.v (.bool b)) =>
      join cx ((key (.cond c x y)).bind fun n => look n hs.conds) st (K .normal) fun KN =>
        (b = true → cwp cx hs x st w fun e st w => match e with | .normal => KN st w | e => K e st w) ∧
        (b = false → cwp cx hs y st w fun e st w => match e with | .normal => KN st w | e => K e st w)
    | _ => False
  | .block id c, st, w, K =>
    join cx (look id hs.blocks) st (K .normal) fun KN =>
      cwp cx hs c st w fun e st w =>
        match e with
        | .normal => KN st w
        | .exit id' => if id' = id then KN st w else K (.exit id') st w
        | e => K e st w
  | .loop c, st, w, K =>
    match (key (.loop c)).bind fun n => look n hs.loops with
    | none => False
    | some h =>
      ∃ (I : List Value → World → Prop) (mu : List Value → World → Nat),
        joinK cx st h I { st with bx := escAll h.esc st.bx } w ∧
        allKs h.ks fun vs => ∀ w, Fr cx.M cx.w0 w → I vs w →
          cwp cx hs c (st.inst h vs) w fun e st' w' =>
            match e with
            | .normal => joinK cx (st.inst h vs) h (fun vs' w1 => I vs' w1 ∧ mu vs' w1 < mu vs w) st' w'
            | e => K e st' w'
  | .exit id, st, w, K => K (.exit id) st w
  | .ret, st, w, K => K .ret st w
  | .label _, st, w, K => K .normal st w
  | _, _, _, _ => False

/-! ### The whole function -/
def resOne (P : Program) (st : St) : ResultVar → Option (CV × Value)
  | .tmp t =>
    match st.rd [] (.tmp t) with
    | some cv => some (cv, st.den cv)
    | none => none
  | .cell a t =>
    match st.rd [] (.tmp a) with
    | some (.bp k off) =>
      match st.bx[k]?, P.underlying t with
      | some b, some _ =>
        let n := P.cellsOf t
        let vs := ((b.cs.drop off).take n).map (·.1)
        if vs.length = n ∧ aggB P t = true then some (.v undef, .agg vs.toArray) else none
      | _, _ => none
    | _ => none

def resAll (P : Program) : St → List ResultVar → Option (St × List Value)
  | st, [] => some (st, [])
  | st, r :: rs =>
    match resOne P st r with
    | some (cv, v) =>
      match resAll P (st.esc1 cv) rs with
      | some (st', vs) => some (st', v :: vs)
      | none => none
    | none => none

def retV : List Value → Value
  | [v] => v
  | vs => .tuple vs.toArray

def topK (cx : Cx) (fn : Func) (fin : List Nat) (Q : Value → World → Prop) : Exit → St → World → Prop
  | .normal, st, w | .ret, st, w =>
    match resAll cx.P st fn.results.toList with
    | some (st, vs) =>
      let st := { st with bx := escAll fin st.bx }
      flush cx st w fun w1 => boxHyps w1 st.bx (Q (retV vs) w1)
    | none => False
  | _, _, _ => False

/-- The state at a function's beginning. -/
def st0 (ntmps : Nat) (args : List CV) (bx : List Bx) : St :=
  { env := args.map (fun cv => some ⟨cv, [], 0⟩) ++ List.replicate (ntmps - args.length) none, bx, ctr := 1, dirty := false, pins := [] }

end Go.Cw
