/- The engine, part 1 of 5: a function's contract out of its code, by the kernel. -/
import Derived.ArgAppend
import Derived.Below
import Derived.Calls
import Derived.Great.BuildSlice
import Derived.KernelRfl
import Derived.Laws.AppendOwn
import Derived.Laws.BytesArg
import Derived.Laws.Cells
import Derived.Laws.CopyRow
import Derived.Laws.IdiomCopy
import Derived.Laws.OwnMore
import Derived.Laws.Slices
import Derived.Laws.StructEq
import Derived.Laws.World
import Derived.OrdersHeld
import Derived.Scope
import Derived.Tactics
section
namespace Go.Cw
open Go
/-! ### Kinds of cells -/
inductive Ck where
 | int (k : IntKind) | bool | str | sl | ptr | mp | any
def Ck.of : Value → Ck
 | .int k _ => .int k
 | .bool _ => .bool
 | .string _ => .str
 | .slice _ _ _ => .sl
 | .pointer _ => .ptr
 | .map _ => .mp
 | _ => .any
def Ck.fits : Ck → Value → Bool
 | .int k, .int k' _ => decide (k = k')
 | .bool, .bool _ => true
 | .str, .string _ => true
 | .sl, .slice _ _ _ => true
 | .ptr, .pointer _ => true
 | .mp, .map _ => true
 | .any, _ => true
 | _, _ => false
def exK : Ck → (Value → Prop) → Prop
 | .int k, K => ∃ n : Int, K (.int k n)
 | .bool, K => ∃ b : Bool, K (.bool b)
 | .str, K => ∃ s : ByteArray, K (.string s)
 | .sl, K => ∃ (A : Option Addr) (n c : Nat), K (.slice A n c)
 | .ptr, K => ∃ A : Option Addr, K (.pointer A)
 | .mp, K => ∃ r : Option Nat, K (.map r)
 | .any, K => ∃ v : Value, K v
def allK : Ck → (Value → Prop) → Prop
 | .int k, K => ∀ n : Int, K (.int k n)
 | .bool, K => ∀ b : Bool, K (.bool b)
 | .str, K => ∀ s : ByteArray, K (.string s)
 | .sl, K => ∀ (A : Option Addr) (n c : Nat), K (.slice A n c)
 | .ptr, K => ∀ A : Option Addr, K (.pointer A)
 | .mp, K => ∀ r : Option Nat, K (.map r)
 | .any, K => ∀ v : Value, K v
def exKs : List Ck → (List Value → Prop) → Prop
 | [], K => K []
 | k :: ks, K => exK k fun v => exKs ks fun vs => K (v :: vs)
def allKs : List Ck → (List Value → Prop) → Prop
 | [], K => K []
 | k :: ks, K => allK k fun v => allKs ks fun vs => K (v :: vs)
/-! ### What a type's value looks like -/
structure Sh where
 agg : Bool
 ks : List Ck
def shOf (P : Program) (t : TypeId) : Option Sh :=
 match P.info? t with
 | some i =>
   match i.zero with
   | some (.agg cs) => some ⟨true, cs.toList.map Ck.of⟩
   | some v => some ⟨false, [Ck.of v]⟩
   | none => none
 | none => none
def aggB (P : Program) (t : TypeId) : Bool :=
 match P.underlying t with
 | some (.struct _) => true
 | some (.array _ _) => true
 | _ => false
def loadSh (P : Program) (t : TypeId) : Option Sh :=
 match shOf P t, P.underlying t with
 | some sh, some _ => if sh.agg = aggB P t ∧ P.cellsOf t = sh.ks.length ∧ (sh.agg = true ∨ sh.ks.length = 1) then some sh else none
 | _, _ => none
def mkOne (sh : Sh) (vs : List Value) : Value := if sh.agg then .agg vs.toArray else vs.headD undef
def mkMany : List Sh → List Value → List Value
 | [], _ => []
 | sh :: r, vs => mkOne sh (vs.take sh.ks.length) :: mkMany r (vs.drop sh.ks.length)
inductive Rs where
 | one (sh : Sh)
 | many (shs : List Sh)
def Rs.ks : Rs → List Ck
 | .one sh => sh.ks
 | .many shs => shs.flatMap (·.ks)
def Rs.mk : Rs → List Value → Value
 | .one sh, vs => mkOne sh vs
 | .many shs, vs => .tuple (mkMany shs vs).toArray
def shsOf (P : Program) : List TypeId → Option (List Sh)
 | [] => some []
 | t :: ts =>
   match shOf P t, shsOf P ts with
   | some s, some r => some (s :: r)
   | _, _ => none
def rsOf (P : Program) (t : TypeId) : Option Rs :=
 match P.underlying t with
 | some (.tuple ts) =>
   match shsOf P ts.toList with
   | some l => some (.many l)
   | none => none
 | some _ =>
   match shOf P t with
   | some s => some (.one s)
   | none => none
 | none => none
/-! ### The state -/
inductive CV where
 | v (x : Value)
 | o (x : Value)
 | bp (k off : Nat)
 | ep (A : Option Addr) (j : Nat)
 deriving Inhabited
structure En where
 cv : CV
 tg : List (Nat × Bool)
 vr : Nat
structure Bx where
 id : Nat
 cs : List (Value × Nat)
 ty : TypeId
 esc : Bool
structure St where
 env : List (Option En)
 bx : List Bx
 ctr : Nat
 dirty : Bool
 pins : List Nat
def St.idAt (st : St) (k : Nat) : Nat :=
 match st.bx[k]? with
 | some b => b.id
 | none => 0
def offA (A : Option Addr) (j : Nat) : Option Addr := A.map (·.add j)
def reA (A : Option Addr) (c l sz : Nat) : Option Addr := if c = l then A else A.map (·.add (l * sz))
def St.den (st : St) : CV → Value
 | .v x => x
 | .o x => x
 | .bp k off => .pointer (some ⟨st.idAt k, off, none⟩)
 | .ep A j => .pointer (offA A j)
def tgIn : List (Nat × Bool) → List (Nat × Bool) → Bool
 | [], _ => true
 | t :: r, T => T.contains t && tgIn r T
def St.rd (st : St) (T : List (Nat × Bool)) : Operand → Option CV
 | .tmp t =>
   match st.env[t]? with
   | some (some e) => if tgIn e.tg T then some e.cv else none
   | _ => none
 | .const v => some (.v v)
 | .func f => some (.v (.func (.func f) #[] #[]))
 | .global g => some (.v (.pointer (some ⟨g, 0, none⟩)))
def St.rho (st : St) (T : List (Nat × Bool)) (x : Operand) : Value :=
 match st.rd T x with
 | some cv => st.den cv
 | none => undef
def St.can (st : St) (T : List (Nat × Bool)) (xs : List Operand) : Bool := xs.all fun x => (st.rd T x).isSome
def Bx.mark (b : Bx) : Bx := { b with esc := true }
def St.esc1 (st : St) : CV → St
 | .bp k _ => { st with bx := st.bx.modify k Bx.mark }
 | _ => st
def St.escs (st : St) (T : List (Nat × Bool)) : List Operand → St
 | [] => st
 | x :: r =>
   match st.rd T x with
   | some cv => (st.esc1 cv).escs T r
   | none => st.escs T r
def St.put (st : St) (d : Option Tmp) (cv : CV) (T : List (Nat × Bool)) : St :=
 match d with
 | some d => { st with env := st.env.set d (some ⟨cv, T, st.ctr⟩), ctr := st.ctr + 1 }
 | none => st
def St.addBx (st : St) (b : Nat) (l : List Value) (t : TypeId) : St :=
 { st with bx := st.bx ++ [⟨b, l.map fun v => (v, st.ctr), t, false⟩], ctr := st.ctr + 1, dirty := true }
def Ck.cv : Ck → Value → CV
 | .any, v => .o v
 | _, v => .v v
def shCv (sh : Sh) (vs : List Value) : CV :=
 if sh.agg then .v (.agg vs.toArray)
 else
  match sh.ks with
  | k :: _ => k.cv (vs.headD undef)
  | [] => .v undef
def rsCv : Rs → List Value → CV
 | .one sh, vs => shCv sh vs
 | r, vs => .v (r.mk vs)
/-! ### Guards -/
def tagSt (ops : Array Oper) (dn : Nat → Bool) (st : St) (o : Oper) : Option (List (Nat × Bool)) :=
 match o.guard with
 | none => some []
 | some (j, b) =>
   if dn j then
    match (ops[j]?).bind (·.dst) with
    | some d =>
      match st.env[d]? with
      | some (some e) => some ((j, b) :: e.tg)
      | _ => none
    | none => none
   else none
def dstOk (ops : Array Oper) : Bool :=
 ops.toList.all fun o =>
  match o.guard with
  | none => true
  | some (j, _) =>
    match (ops[j]?).bind (·.dst) with
    | none => false
    | some d => (List.range ops.size).all fun i => i == j || (ops[i]?).bind (·.dst) != some d
def gx1 (st : St) (ops : Array Oper) (j : Nat) (b : Bool) : Option Bool :=
 match (ops[j]?).bind (·.dst) with
 | some d =>
   match st.env[d]? with
   | some (some ⟨.v (.bool c), _, _⟩) => some (if b then c else !c)
   | _ => none
 | none => none
def gx (st : St) (ops : Array Oper) : List (Nat × Bool) → Option Bool
 | [] => some true
 | [(j, b)] => gx1 st ops j b
 | (j, b) :: r =>
   match gx1 st ops j b, gx st ops r with
   | some c, some d => some (d && c)
   | _, _ => none
def gImp (st : St) (ops : Array Oper) (T : List (Nat × Bool)) (p : Prop) : Prop :=
 match T with
 | [] => p
 | _ =>
   match gx st ops T with
   | some g => g = true → p
   | none => False
/-! ### What only computes -/
def pureOf {α : Type} (P : Program) : Sem α → Option α
 | .pure a => some a
 | .program k => pureOf P (k P)
 | .mark _ k => pureOf P k
 | _ => none
def fieldOff (P : Program) (s : TypeId) (f : Nat) : Option Nat :=
 match P.underlying s with
 | some (.struct fs) =>
   match fs[f]? with
   | some fd => if P.cellsOf fd.type = 0 then none else some fd.offset
   | none => none
 | _ => none
def sliceElem (P : Program) (t : TypeId) : Option TypeId :=
 match P.underlying t with
 | some (.slice e) => if (P.info? e).isSome then some e else none
 | _ => none
def arrElem (P : Program) (t : TypeId) : Option (Nat × TypeId) :=
 match P.underlying t with
 | some (.array n e) => if (P.info? e).isSome then some (n, e) else none
 | _ => none
def zeroOf (P : Program) (t : TypeId) : Option Value := (P.info? t).bind (·.zero)
def idxOff (P : Program) (e : TypeId) (off : Nat) (i : Int) : Nat := off + i.toNat * P.cellsOf e
def arrSizes (P : Program) (n : Nat) (e : TypeId) : List Nat := List.replicate n (P.cellsOf e)
def arrOffs (P : Program) (n : Nat) (e : TypeId) : List Nat := (List.range n).map (· * P.cellsOf e)
def fillL (offs : List Nat) : List Value → List (Nat × Value) → Option (List Value)
 | cs, [] => some cs
 | cs, (i, v) :: r =>
   match offs[i]? with
   | some off =>
     let l := v.cells.toList
     if off + l.length ≤ cs.length then fillL offs (cs.take off ++ l ++ cs.drop (off + l.length)) r else none
   | none => none
def partsOk (sizes : List Nat) : List (Nat × Value) → Bool
 | [] => true
 | (i, v) :: r =>
   match sizes[i]? with
   | some n => n == v.cells.toList.length && partsOk sizes r
   | none => false
def opIdx (ops : Array Oper) (d : Tmp) : Option Nat := ops.toList.findIdx? fun o => o.dst == some d
def semOf (rho : Operand → Value) (o : Oper) : Option (Sem Value) :=
 match o.op with
 | .binOp op t x y _ => some (eqGuard op t x y (rho x) (rho y) >>= fun _ => binOp op t (rho x) (rho y))
 | .unOp op _ x => some (Op.unary op (rho x))
 | .convert s d x => some (convert s d (rho x))
 | .extract t i => some (Instr.extract (rho t) i)
 | .makeFunc fn first cap => some (pure (.func fn (first.toList.map rho).toArray (cap.toList.map rho).toArray))
 | .field t x f => some (Instr.field t (rho x) f)
 | .index t x i => some (Instr.index t (rho x) (rho i))
 | .makeMap t r => some (Instr.makeMap t (r.map rho))
 | .makeSlice t l c => some (Instr.makeSlice t (rho l) (rho c))
 | .buildSlice t n parts => some (Instr.buildSlice t n (parts.toList.map fun p => (p.1, rho p.2)).toArray)
 | .lookup t x i ok => some (Instr.lookup t (rho x) (rho i) ok)
 | .slice t x lo hi mx => some (Instr.sliceAt t (rho x) (lo.map rho) (hi.map rho) (mx.map rho))
 | .range t x => some (Instr.range t (rho x))
 | .next it s => some (Instr.next (rho it) s o.type)
 | .entry it => some (Instr.entry (rho it))
 | .makeInterface t x => some (Instr.makeInterface t (rho x))
 | .box t x => some (Instr.box t (rho x))
 | .call { callee := .builtin b, args, argTypes } =>
   let vs := (args.toList.map rho).toArray
   match b with
   | .len => some (Builtin.len_ argTypes o.type vs)
   | .cap => some (Builtin.cap_ argTypes o.type vs)
   | .min => some (Builtin.min_ argTypes o.type vs)
   | .max => some (Builtin.max_ argTypes o.type vs)
   | .append => some (Builtin.append_ argTypes o.type vs)
   | .copy => some (Builtin.copy_ argTypes o.type vs)
   | .clear => some (Builtin.clear_ argTypes o.type vs)
   | .delete => some (Builtin.delete_ argTypes o.type vs)
   | _ => none
 | _ => none
def semOpnds (o : Oper) : List Operand :=
 match o.op with
 | .binOp _ _ x y _ => [x, y]
 | .unOp _ _ x | .convert _ _ x | .extract x _ | .field _ x _ | .range _ x | .next x _ | .entry x | .makeInterface _ x | .box _ x => [x]
 | .makeFunc _ first cap => first.toList ++ cap.toList
 | .index _ x i | .makeSlice _ x i | .lookup _ x i _ => [x, i]
 | .makeMap _ r => r.toList
 | .buildSlice _ _ ps => ps.toList.map (·.2)
 | .slice _ x l h m => [x] ++ l.toList ++ h.toList ++ m.toList
 | .call c => c.args.toList
 | _ => []
def isPure (o : Oper) : Bool :=
 match o.op with
 | .binOp .. | .unOp .. | .convert .. | .extract .. | .makeFunc .. | .field .. | .makeInterface .. => true
 | .call { callee := .builtin .len, .. } | .call { callee := .builtin .cap, .. } | .call { callee := .builtin .min, .. } | .call { callee := .builtin .max, .. } => true
 | _ => false
def isPureAt (st : St) (T : List (Nat × Bool)) (o : Oper) : Bool :=
 match o.op with
 | .extract t _ =>
   match st.rd T t with
   | some (.o _) => false
   | _ => true
 | .call { callee := .builtin .len, args, .. } => args.toList.all fun x =>
   match st.rd T x with
   | some (.v (.map _)) => false
   | _ => true
 | _ => isPure o
def sliceEnd (st : St) (T : List (Nat × Bool)) : Option Operand → Option (Option Int)
 | none => some none
 | some b =>
   match st.rd T b with
   | some (.v (.int _ i)) => some (some i)
   | _ => none
def boundN (d : Nat) : Option Int → Nat
 | some i => i.toNat
 | none => d
def strAt (s : ByteArray) (i : Nat) : Int := match s[i]? with | some b => (b.toNat : Int) | none => 0
def strOf (l : List Int) : ByteArray := ⟨(l.map fun n => UInt8.ofNat n.toNat).toArray⟩
def isB2S (P : Program) (src dst : TypeId) : Bool :=
 match P.underlying src, P.underlying dst with
 | some (.slice e), some .string => match P.underlying e with | some (.int .u8) => true | _ => false
 | _, _ => false
def boundP (c : Int) (h : Option Int) (hN : Nat) (l : Option Int) : Option Prop :=
 match h, l with
 | some h, some l => some ((0 ≤ h ∧ h ≤ c) ∧ 0 ≤ l ∧ l ≤ (hN : Int))
 | some h, none => some (0 ≤ h ∧ h ≤ c)
 | none, some l => some (0 ≤ l ∧ l ≤ (hN : Int))
 | none, none => none
def lowP (h : Int) : Option Int → Prop
 | some l => 0 ≤ l ∧ l ≤ h
 | none => True
def isNilB (P : Program) (st : St) (T : List (Nat × Bool)) (t : TypeId) (x : Operand) : Value → Option Bool
 | .slice none _ _ =>
   match P.underlying t, st.rd T x with
   | some (.slice _), some (.v (.slice A _ _)) => some (!A.isSome)
   | _, _ => none
 | .pointer none =>
   match P.underlying t, st.rd T x with
   | some (.pointer _), some (.v (.pointer A)) => some (!A.isSome)
   | some (.pointer _), some (.bp _ _) => some false
   | some (.pointer _), some (.ep _ _) => some false
   | _, _ => none
 | _ => none
def eqFs (P : Program) (sub : TypeId → List Value → List Value → Option Bool) : List Field → List Value → List Value → Option Bool
 | [], _, _ => some true
 | f :: fs, xs, ys =>
   match P.underlying f.type, xs[f.offset]?, ys[f.offset]? with
   | some (.int _), some (.int k a), some (.int k' b) =>
     if k = k' then
      match eqFs P sub fs xs ys with
      | some r => some ((a == b) && r)
      | none => none
     else none
   | some .bool, some (.bool a), some (.bool b) =>
     match eqFs P sub fs xs ys with
     | some r => some ((a == b) && r)
     | none => none
   | some (.struct _), _, _ =>
     match sub f.type ((xs.drop f.offset).take (P.cellsOf f.type)) ((ys.drop f.offset).take (P.cellsOf f.type)), eqFs P sub fs xs ys with
     | some a, some r => some (a && r)
     | _, _ => none
   | _, _, _ => none
def eqPlain (P : Program) (t : TypeId) : Bool := !P.stoodInHeld t && !P.eqGuardType P.depth t && (P.fieldsOf t).all fun f => f.name != "_"
def eqSn (P : Program) : Nat → TypeId → List Value → List Value → Option Bool
 | 0, _, _, _ => none
 | n + 1, t, xs, ys =>
   match P.underlying t with
   | some (.struct fs) =>
     match eqPlain P t with
     | true => eqFs P (eqSn P n) fs.toList xs ys
     | false => none
   | _ => none
def isAggCv : Option CV → Bool
 | some (.v (.agg _)) => true
 | _ => false
def aggEq (P : Program) (st : St) (T : List (Nat × Bool)) (t : TypeId) (x y : Operand) : Option Bool :=
 match P.underlying t, st.rd T x, st.rd T y with
 | some (.struct fs), some (.v (.agg xs)), some (.v (.agg ys)) =>
   match eqPlain P t with
   | true => eqFs P (eqSn P 4) fs.toList xs.toList ys.toList
   | false => none
 | _, _, _ => none
def nilCmp (P : Program) (st : St) (T : List (Nat × Bool)) (o : Oper) : Option Bool :=
 match o.op with
 | .binOp .eql t x y _ =>
   match isAggCv (st.rd T x) with
   | true => aggEq P st T t x y
   | false =>
     match y with
     | .const v => isNilB P st T t x v
     | _ => none
 | .binOp .neq t x y _ =>
   match isAggCv (st.rd T x) with
   | true =>
     match aggEq P st T t x y with
     | some b => some (!b)
     | none => none
   | false =>
     match y with
     | .const v =>
       match isNilB P st T t x v with
       | some b => some (!b)
       | none => none
     | _ => none
 | _ => none
def quietOp (P : Program) (ops : Array Oper) (st : St) (T : List (Nat × Bool)) (o : Oper) : Option (Option Prop × CV × St) :=
 match o.op with
 | .move x | .assign x => (st.rd T x).map fun cv => (none, cv, st)
 | .pick c a b =>
   match c with
   | .tmp d =>
     match opIdx ops d, st.rd T c with
     | some j, some (.v (.bool cb)) =>
       match st.rd ((j, true) :: T) a, st.rd ((j, false) :: T) b with
       | some (.v (.bool x)), some (.v (.bool y)) => some (none, .v (.bool (cond cb x y)), st)
       | some (.v (.int k x)), some (.v (.int k' y)) => if k = k' then some (none, .v (.int k (cond cb x y)), st) else none
       | _, _ => none
     | _, _ => none
   | _ => none
 | .nilCheck x =>
   match st.rd T x with
   | some (.bp k off) => some (none, .bp k off, st)
   | some (.ep A j) => some (none, .ep A j, st)
   | some (.v (.pointer A)) => some (some (A.isSome = true), .ep A 0, st)
   | some (.v (.func (.func f) a b)) => some (none, .v (.func (.func f) a b), st)
   | _ => none
 | .fieldAddr s x f =>
   match fieldOff P s f, st.rd T x with
   | some off, some (.bp k off0) => some (none, .bp k (off0 + off), st)
   | some off, some (.ep A j) => some (none, .ep A (j + off), st)
   | _, _ => none
 | .load t x =>
   match st.rd T x with
   | some (.bp k off) =>
     match st.bx[k]?, P.underlying t with
     | some b, some _ =>
       let n := P.cellsOf t
       let vs := ((b.cs.drop off).take n).map (·.1)
       if vs.length = n then
        if aggB P t then some (none, .v (.agg vs.toArray), st)
        else
         match vs, shOf P t with
         | [x], some ⟨false, [k]⟩ => some (none, k.cv x, st)
         | _, _ => none
       else none
     | _, _ => none
   | _ => none
 | .indexAddr t x i =>
   match sliceElem P t, st.rd T x, st.rd T i with
   | some e, some (.v (.slice A n _)), some (.v (.int _ i)) => some (some (0 ≤ i ∧ i < n ∧ A.isSome = true), .ep A (i.toNat * P.cellsOf e), st)
   | none, some cv, some (.v (.int _ i)) =>
     match arrElem P t with
     | some ne =>
       match cv with
       | .bp k off => some (some (0 ≤ i ∧ i < (ne.1 : Int)), .bp k (idxOff P ne.2 off i), st)
       | .ep A j => some (some (0 ≤ i ∧ i < (ne.1 : Int)), .ep A (j + i.toNat * P.cellsOf ne.2), st)
       | .v (.pointer A) => some (some (A.isSome = true ∧ 0 ≤ i ∧ i < (ne.1 : Int)), .ep A (i.toNat * P.cellsOf ne.2), st)
       | _ => none
     | none => none
   | _, _, _ => none
 | .binOp .shl _ x y _ =>
   match st.rd T x, st.rd T y with
   | some (.v (.int k a)), some (.v (.int _ b)) =>
     let r : CV := .v (.int k (k.wrap (a * 2 ^ (min b.toNat k.bits))))
     match y with
     | .const (.int _ c) => if 0 ≤ c then some (none, r, st) else none
     | _ => some (some (0 ≤ b), r, st)
   | _, _ => none
 | .binOp .shr _ x y _ =>
   match st.rd T x, st.rd T y with
   | some (.v (.int k a)), some (.v (.int _ b)) =>
     let r : CV := .v (.int k (a.fdiv (2 ^ (min b.toNat k.bits))))
     match y with
     | .const (.int _ c) => if 0 ≤ c then some (none, r, st) else none
     | _ => some (some (0 ≤ b), r, st)
   | _, _ => none
 | .binOp .quo _ x y _ =>
   match st.rd T x, st.rd T y with
   | some (.v (.int k a)), some (.v (.int k' b)) =>
     if k = k' then
      let r : CV := .v (.int k (k.wrap (a.tdiv b)))
      match y with
      | .const (.int _ c) => if c = 0 then none else some (none, r, st)
      | _ => some (some (b ≠ 0), r, st)
     else none
   | _, _ => none
 | .binOp .rem _ x y _ =>
   match st.rd T x, st.rd T y with
   | some (.v (.int k a)), some (.v (.int k' b)) =>
     if k = k' then
      let r : CV := .v (.int k (a.tmod b))
      match y with
      | .const (.int _ c) => if c = 0 then none else some (none, r, st)
      | _ => some (some (b ≠ 0), r, st)
     else none
   | _, _ => none
 | .build t parts =>
   match P.underlying t, zeroOf P t, st.can T (parts.toList.map (·.2)) with
   | some (.struct fs), some (.agg z), true =>
     let ps := parts.toList.map fun p => (p.1, st.rho T p.2)
     if fs.toList.all (fun f => (P.info? f.type).isSome) && partsOk (fs.toList.map fun f => P.cellsOf f.type) ps then
      match fillL (fs.toList.map (·.offset)) z.toList ps with
      | some cs => some (none, .v (.agg cs.toArray), st.escs T (parts.toList.map (·.2)))
      | none => none
     else none
   | some (.array n e), some (.agg z), true =>
     let ps := parts.toList.map fun p => (p.1, st.rho T p.2)
     if (P.info? e).isSome && partsOk (arrSizes P n e) ps then
      match fillL (arrOffs P n e) z.toList ps with
      | some cs => some (none, .v (.agg cs.toArray), st.escs T (parts.toList.map (·.2)))
      | none => none
     else none
   | _, _, _ => none
 | .slice t x lo hi none =>
   match sliceElem P t, st.rd T x, sliceEnd st T hi, sliceEnd st T lo with
   | some e, some (.v (.slice A n c)), some h, some l =>
     some (boundP (c : Int) h (boundN n h : Nat) l, .v (.slice (reA A c (boundN 0 l) (P.cellsOf e)) (boundN n h - boundN 0 l) (c - boundN 0 l)), st)
   | none, some (.v (.string s)), some h, some l =>
     match P.underlying t with
     | some .string => some (boundP (s.size : Int) h (boundN s.size h : Nat) l, .v (.string (s.extract (boundN 0 l) (boundN s.size h))), st)
     | _ => none
   | _, _, _, _ => none
 | .index t x i =>
   match P.underlying t, st.rd T x, st.rd T i with
   | some .string, some (.v (.string s)), some (.v (.int _ i)) => some (some (0 ≤ i ∧ i < (s.size : Int)), .v (.int .u8 (strAt s i.toNat)), st)
   | _, _, _ => none
 | .slice t x lo (some hi) (some mx) =>
   match sliceElem P t, st.rd T x, st.rd T hi, sliceEnd st T lo, st.rd T mx with
   | some e, some (.v (.slice A _ c)), some (.v (.int _ h)), some l, some (.v (.int _ m)) =>
     some (some ((0 ≤ m ∧ m ≤ (c : Int)) ∧ (0 ≤ h ∧ h ≤ m) ∧ lowP h l), .v (.slice (reA A m.toNat (boundN 0 l) (P.cellsOf e)) (h.toNat - boundN 0 l) (m.toNat - boundN 0 l)), st)
   | _, _, _, _, _ => none
 | _ =>
   match nilCmp P st T o with
   | some b => some (none, .v (.bool b), st)
   | none =>
     let xs := semOpnds o
     if isPureAt st T o && st.can T xs then
      match semOf (st.rho T) o with
      | some s =>
        match pureOf P s with
        | some v => some (none, .v v, st.escs T xs)
        | none => none
      | none => none
     else none
/-! ### Worlds -/
structure Fr (M : Nat → Prop) (w0 w : World) : Prop where
 os : w.os = w0.os
 tape : w.tape = w0.tape
 output : w.output = w0.output
 size : w0.heap.size ≤ w.heap.size
 block : ∀ k, k < w0.heap.size → ¬ M k → w.heap[k]? = w0.heap[k]?
structure Cx where
 P : Program
 M : Nat → Prop
 w0 : World
 ok : FuncId → Bool
def St.ids (st : St) : List Nat := st.bx.map (·.id)
def St.keeps (st : St) : List Nat := (st.bx.filter (! ·.esc)).map (·.id)
structure Chg (ids : List Nat) (w w' : World) : Prop where
 os : w'.os = w.os
 tape : w'.tape = w.tape
 output : w'.output = w.output
 size : w.heap.size ≤ w'.heap.size
 block : ∀ k, k < w.heap.size → k ∉ ids → w'.heap[k]? = w.heap[k]?
structure Stp (M : Nat → Prop) (n0 : Nat) (ids : List Nat) (w w' : World) : Prop where
 os : w'.os = w.os
 tape : w'.tape = w.tape
 output : w'.output = w.output
 size : w.heap.size ≤ w'.heap.size
 block : ∀ k, k < w.heap.size → ((k < n0 ∧ ¬ M k) ∨ k ∈ ids) → w'.heap[k]? = w.heap[k]?
def Box (w : World) (b : Nat) (cs : List Value) (t : TypeId) : Prop := w.heap[b]? = some (.cells cs.toArray t (0, 0))
def Cells (w : World) (A : Option Addr) (j : Nat) (cs : List Value) : Prop :=
 ∃ p : Addr, A = some p ∧ ∀ m, m < cs.length → w.cell? ((p.add j).add m) = cs[m]?
def flush (cx : Cx) (st : St) (w : World) (k : World → Prop) : Prop :=
 if st.dirty then ∀ w1, Chg st.ids w w1 → Fr cx.M cx.w0 w1 → k w1 else k w
def St.clean (st : St) : St := { st with dirty := false }
def St.wrBx (st : St) (kk off : Nat) (l : List Value) : St :=
 { st with bx := st.bx.modify kk fun b => { b with cs := b.cs.take off ++ (l.map fun v => (v, st.ctr)) ++ b.cs.drop (off + l.length) }, ctr := st.ctr + 1, dirty := true }
def boxHyps (w : World) : List Bx → Prop → Prop
 | [], p => p
 | b :: r, p => if b.esc then Box w b.id (b.cs.map (·.1)) b.ty → boxHyps w r p else boxHyps w r p
def escKs (P : Program) : List Bx → List Ck
 | [] => []
 | b :: r =>
   if b.esc then
    match shOf P b.ty with
    | some sh => sh.ks ++ escKs P r
    | none => escKs P r
   else escKs P r
def escBx (vr : Nat) : List Bx → List Value → List Bx
 | [], _ => []
 | b :: r, vs =>
   if b.esc then { b with cs := (vs.take b.cs.length).map fun v => (v, vr) } :: escBx vr r (vs.drop b.cs.length)
   else b :: escBx vr r vs
def escFit (P : Program) : List Bx → Bool
 | [] => true
 | b :: r =>
   (if b.esc then
    match shOf P b.ty with
    | some sh => sh.ks.length == b.cs.length
    | none => false
   else true) && escFit P r
def escNow : List Bx → List Value
 | [] => []
 | b :: r => if b.esc then b.cs.map (·.1) ++ escNow r else escNow r
def boxAsks (w : World) : List Bx → Prop → Prop
 | [], p => p
 | b :: r, p => if b.esc then Box w b.id (b.cs.map (·.1)) b.ty ∧ boxAsks w r p else boxAsks w r p
def ltHyp (st : St) (w : World) (p : Prop) : Prop :=
 match st.bx with
 | [] => p
 | _ => (∀ k ∈ st.ids, k < w.heap.size) → p
def semUpon (P : Program) (s : Sem Value) (w : World) (R : Value → World → Prop) : Prop :=
 match s.run P w with
 | .ok v w' => R v w'
 | .halt _ _ => False
def CallV (P : Program) (ok : FuncId → Bool) (F : Value) (args : List Value) (w : World) (R : Ending → World → Prop) : Prop :=
 match F with
 | .func (.func f) first cap => ok f = true ∧ Calls P f (first.toList ++ args ++ cap.toList).toArray w R
 | _ => False
def St.kept (st : St) (dr : Bool) : List Nat := if dr then st.ids ++ st.pins else st.keeps
def St.anew (P : Program) (st : St) (dr : Bool) : List Ck := if dr then [] else escKs P st.bx
def St.after (st : St) (dr : Bool) (vs : List Value) : St :=
 if dr then { st with ctr := st.ctr + 1, dirty := false }
 else { st with bx := escBx st.ctr st.bx vs, ctr := st.ctr + 1, dirty := false }
def St.asks (st : St) (dr : Bool) (w : World) (vs : List Value) (p : Prop) : Prop :=
 if dr then p else boxAsks w (escBx st.ctr st.bx vs) p
def effW (cx : Cx) (ops : Array Oper) (dr : Bool) (st : St) (T : List (Nat × Bool)) (rs : Rs) (dst : Option Tmp) (w1 : World)
 (E : (Value → World → Prop) → Prop) (k : St → World → Prop) : Prop :=
 let n := rs.ks.length
 let fin (vs : List Value) : St := ((st.after dr (vs.drop n)).put dst (rsCv rs (vs.take n)) T)
 let ks := rs.ks ++ st.anew cx.P dr
 match T with
 | [] =>
   E fun v w2 => exKs ks fun vs => v = rs.mk (vs.take n) ∧ Stp cx.M cx.w0.heap.size (st.kept dr) w1 w2 ∧
    st.asks dr w2 (vs.drop n) (Fr cx.M cx.w0 w2 → k (fin vs) w2)
 | _ =>
   match gx st ops T with
   | none => False
   | some g =>
     ∀ K' : List Value → World → Prop, (allKs ks fun vs => ∀ w2, Fr cx.M cx.w0 w2 → k (fin vs) w2 → K' vs w2) →
      ((g = true → E fun v w2 => exKs ks fun vs => v = rs.mk (vs.take n) ∧ Stp cx.M cx.w0.heap.size (st.kept dr) w1 w2 ∧
       st.asks dr w2 (vs.drop n) (K' vs w2)) ∧
        (g = false → exKs rs.ks fun vs => K' (vs ++ (if dr then [] else escNow st.bx)) w1))
def isMem : Oper → Bool
 | o =>
   match o.op with
   | .makeSlice .. | .buildSlice .. | .makeMap .. | .lookup .. | .index .. | .range .. | .next .. | .entry .. | .box .. | .extract .. => true
   | .call { callee := .builtin _, .. } => true
   | _ => false
def oneB : Value → Bool
 | .agg _ => false
 | .tuple _ => false
 | _ => true
structure Upd (w : World) (b : Nat) (cs : List Value) (t : TypeId) (w' : World) : Prop where
 box : Box w' b cs t
 os : w'.os = w.os
 tape : w'.tape = w.tape
 output : w'.output = w.output
 size : w'.heap.size = w.heap.size
 block : ∀ k, k ≠ b → w'.heap[k]? = w.heap[k]?
def CanW (cx : Cx) (ids : List Nat) (w : World) (A : Option Addr) (j : Nat) (l : List Value) (K : World → Prop) : Prop :=
 ∃ (b o : Nat) (cs : List Value) (t : TypeId), offA A j = some ⟨b, o, none⟩ ∧ Box w b cs t ∧ o + l.length ≤ cs.length ∧ (cx.w0.heap.size ≤ b ∨ cx.M b) ∧ b ∉ ids ∧
  ∀ w2, Upd w b (cs.take o ++ l ++ cs.drop (o + l.length)) t w2 → Fr cx.M cx.w0 w2 → K w2
def blkOf : Option Addr → Nat
 | some p => p.block
 | none => 0
def St.pin (st : St) (dr : Bool) (A : Option Addr) : St := if dr then { st with pins := blkOf A :: st.pins } else st
def OneCell (F : Value) : Prop := F.cells = #[F] ∧ oneB F = true
def cellsK (st : St) (cv : CV) (p : List Value → Prop) : Prop :=
 match cv with
 | .o F => OneCell F ∧ p [F]
 | cv => p (st.den cv).cells.toList
def oneK (cv : CV) (l : List Value) : Bool :=
 match cv with
 | .o _ => true
 | _ => l.all oneB
def rsFor (P : Program) (o : Oper) : Option Rs :=
 match o.op with
 | .range .. | .next .. | .entry .. => some (.one ⟨false, [.any]⟩)
 | _ => rsOf P o.type
def memOp (cx : Cx) (ops : Array Oper) (dr : Bool) (st : St) (T : List (Nat × Bool)) (o : Oper) (w : World) (k : St → World → Prop) : Prop :=
 let xs := semOpnds o
 match isMem o, st.can T xs, rsFor cx.P o, semOf (st.rho T) o with
 | true, true, some rs, some s =>
   let st1 := st.escs T xs
   if escFit cx.P st1.bx then
    flush cx st1 w fun w1 => ltHyp st1 w1 (boxHyps w1 st1.bx (effW cx ops dr st1 T rs o.dst w1 (fun R => semUpon cx.P s w1 R) k))
   else False
 | _, _, _, _ => False
def effOp (cx : Cx) (ops : Array Oper) (dr : Bool) (st : St) (T : List (Nat × Bool)) (o : Oper) (w : World) (k : St → World → Prop) : Prop :=
 match o.op with
 | .box t x =>
   match T, st.rd T x with
   | [], some cv =>
     cellsK st cv fun l => ∀ b : Nat, w.heap.size ≤ b → b ∉ st.ids →
      k (((st.esc1 cv).addBx b l t).put o.dst (.bp st.bx.length 0) T) w
   | [], none => False
   | _ :: _, _ => memOp cx ops dr st T o w k
 | .alloc t =>
   match T, zeroOf cx.P t with
   | [], some z =>
     ∀ b : Nat, w.heap.size ≤ b → b ∉ st.ids →
      k ((st.addBx b z.cells.toList t).put o.dst (.bp st.bx.length 0) T) w
   | _, _ => False
 | .load t x =>
   match st.rd T x, loadSh cx.P t with
   | some (.ep A j), some sh =>
     flush cx st w fun w1 => exKs sh.ks fun vs => gImp st ops T (Cells w1 A j vs) ∧ k ((st.clean.pin dr A).put o.dst (shCv sh vs) T) w1
   | _, _ => False
 | .convert src dst x =>
   match T, st.rd T x with
   | [], some (.v (.slice (some p) n _)) =>
     if isB2S cx.P src dst then
      flush cx st w fun w1 => ∃ bs : List Int, bs.length = n ∧ Cells w1 (some p) 0 (bs.map (Value.int .u8)) ∧ k ((st.clean.pin dr (some p)).put o.dst (.v (.string (strOf bs))) T) w1
     else False
   | _, _ => False
 | .store t a x =>
   match T, st.rd T a, st.rd T x with
   | [], some (.bp kk off), some cv =>
     let st := st.esc1 cv
     cellsK st cv fun l =>
     match st.bx[kk]? with
     | some b =>
       if (cx.P.info? t).isSome = true ∧ l.length = cx.P.cellsOf t ∧ off + l.length ≤ b.cs.length ∧ oneK cv l = true then
        k ((st.wrBx kk off l).put o.dst (.v undef) T) w
       else False
     | none => False
   | [], some (.ep A j), some cv =>
     let st := st.esc1 cv
     cellsK st cv fun l =>
     if (cx.P.info? t).isSome = true ∧ l.length = cx.P.cellsOf t ∧ oneK cv l = true then
      flush cx st w fun w1 => CanW cx st.ids w1 A j l fun w2 => k (st.clean.put o.dst (.v undef) T) w2
     else False
   | _, _, _ => False
 | .call { callee := .value f, args, argTypes := _ } =>
   match rsOf cx.P o.type, st.rd T f, st.can T args.toList with
   | some rs, some F, true =>
     let st1 := (st.esc1 F).escs T args.toList
     if escFit cx.P st1.bx then
      match F with
      | .v (.func (.func g) first cap) =>
        if cx.ok g then
         flush cx st1 w fun w1 => ltHyp st1 w1 (boxHyps w1 st1.bx
          (effW cx ops dr st1 T rs o.dst w1 (fun R => Calls cx.P g (first.toList ++ args.toList.map (st.rho T) ++ cap.toList).toArray w1 fun e w2 => ∃ v, e = .returned v ∧ R v w2) k))
        else False
      | .o F =>
        flush cx st1 w fun w1 => ltHyp st1 w1 (boxHyps w1 st1.bx
         (effW cx ops dr st1 T rs o.dst w1 (fun R => CallV cx.P cx.ok F (args.toList.map (st.rho T)) w1 fun e w2 => ∃ v, e = .returned v ∧ R v w2) k))
      | _ => False
     else False
   | _, _, _ => False
 | .mapUpdate t m i x =>
   match T, o.dst, st.can [] [m, i, x] with
   | [], none, true =>
     let st1 := st.escs [] [m, i, x]
     if escFit cx.P st1.bx then
      flush cx st1 w fun w1 => ltHyp st1 w1 (boxHyps w1 st1.bx
       (effW cx ops dr st1 [] (.many []) none w1 (fun R => semUpon cx.P (Instr.mapUpdate t (st.rho [] m) (st.rho [] i) (st.rho [] x) >>= fun _ => pure (.tuple #[])) w1 R) k))
     else False
   | _, _, _ => False
 | _ => memOp cx ops dr st T o w k
def stepOp (cx : Cx) (ops : Array Oper) (dr : Bool) (dn : Nat → Bool) (o : Oper) (st : St) (w : World) (k : St → World → Prop) : Prop :=
 match tagSt ops dn st o with
 | none => False
 | some T =>
   match quietOp cx.P ops st T o with
   | some (none, cv, st') => k (st'.put o.dst cv T) w
   | some (some p, cv, st') => gImp st ops T p ∧ k (st'.put o.dst cv T) w
   | none => effOp cx ops dr st T o w k
def dropTags : List (Option En) → List (Option En)
 | [] => []
 | some e :: r => (match e.tg with | [] => some e | _ => none) :: dropTags r
 | none :: r => none :: dropTags r
def St.endReg (st : St) : St := { st with env := dropTags st.env, pins := [] }
def seqOps (cx : Cx) (ops : Array Oper) : List Oper → Nat → St → World → (St → World → Prop) → Prop
 | [], _, st, w, k => k st.endReg w
 | o :: r, i, st, w, k => stepOp cx ops false (fun j => decide (j < i)) o st w fun st w => seqOps cx ops r (i + 1) st w k
def isStore (o : Oper) : Bool :=
 match o.op with
 | .store .. => true
 | _ => false
def isLoad (o : Oper) : Bool :=
 match o.op with
 | .load .. => true
 | _ => false
def waits (o : Oper) (i : Nat) : Bool := o.after.toList.any fun e => Region.binds .any e && e.on == i
def storesWait (ops : Array Oper) (i : Nat) : Bool := ops.toList.all fun o => !isStore o || waits o i
def early (P : Program) (ops : Array Oper) (dn : Nat → Bool) (st : St) (o : Oper) : Bool :=
 match tagSt ops dn st o with
 | none => false
 | some T =>
   match quietOp P ops st T o with
   | some _ => true
   | none => isLoad o
def firstQuiet (P : Program) (ops : Array Oper) (listed : Array Bool) (st : St) : List Nat → Option Nat
 | [] => none
 | i :: r =>
   match ops[i]? with
   | some o => if (!isLoad o || storesWait ops i) && early P ops (fun j => listed.getD j false) st o && Region.free .any ops listed i then some i else firstQuiet P ops listed st r
   | none => firstQuiet P ops listed st r
def each : List Nat → (Nat → Prop) → Prop
 | [], _ => True
 | [i], F => F i
 | i :: r, F => F i ∧ each r F
def drawOps (cx : Cx) (ops : Array Oper) : Nat → Array Bool → St → World → (St → World → Prop) → Prop
 | 0, _, _, _, _ => False
 | f + 1, listed, st, w, k =>
   match Region.ready .any ops listed with
   | [] => k st.endReg w
   | i :: r =>
     match firstQuiet cx.P ops listed st (i :: r) with
     | some i =>
       match ops[i]? with
       | some o => stepOp cx ops true (fun j => listed.getD j false) o st w fun st w => drawOps cx ops f (listed.setIfInBounds i true) st w k
       | none => False
     | none =>
       each (i :: r) fun i =>
        match ops[i]? with
        | some o => stepOp cx ops true (fun j => listed.getD j false) o st w fun st w => drawOps cx ops f (listed.setIfInBounds i true) st w k
        | none => False
/-! ### Hints, joins, loops -/
structure Hn where
 keep : List Nat
 slots : List (Nat × Ck)
 cells : List (Nat × Nat × Ck)
 esc : List Nat
structure Hs where
 conds : List (Nat × Hn)
 blocks : List (Nat × Hn)
 loops : List (Nat × Hn)
def Hn.ks (h : Hn) : List Ck := h.slots.map (·.2) ++ h.cells.map (·.2.2)
def look {α : Type} (k : Nat) : List (Nat × α) → Option α
 | [] => none
 | (j, a) :: r => if j = k then some a else look k r
def key : Code → Option Nat
 | .region id _ _ => some id
 | .seq a b => (key a).orElse fun _ => key b
 | .cond _ a b => (key a).orElse fun _ => key b
 | .block _ c => key c
 | .loop c => key c
 | .scope c => key c
 | _ => none
def keyD : Code → Option Nat
 | .region id _ _ => some id
 | .seq a b => (keyD a).orElse fun _ => keyD b
 | .cond _ a b => (keyD a).orElse fun _ => keyD b
 | .block _ c => keyD c
 | .loop c => (keyD c).map (· + 1000000)
 | .scope c => keyD c
 | _ => none
def setSlots (vr : Nat) : List (Nat × Ck) → List Value → List (Option En) → List (Option En)
 | (d, k) :: r, v :: vs, env => setSlots vr r vs (env.set d (some ⟨k.cv v, [], vr⟩))
 | _, _, env => env
def setBx (vr : Nat) : List (Nat × Nat × Ck) → List Value → List Bx → List Bx
 | (k, j, _) :: r, v :: vs, bx => setBx vr r vs (bx.modify k fun b => { b with cs := b.cs.set j (v, vr) })
 | _, _, bx => bx
def escAll : List Nat → List Bx → List Bx
 | [], bx => bx
 | k :: r, bx => escAll r (bx.modify k Bx.mark)
def keepEnv (keep : List Nat) : Nat → List (Option En) → List (Option En)
 | _, [] => []
 | i, e :: r => (if keep.contains i then e else none) :: keepEnv keep (i + 1) r
def St.inst (st : St) (h : Hn) (vs : List Value) : St :=
 { env := setSlots st.ctr h.slots (vs.take h.slots.length) (keepEnv h.keep 0 st.env),
   bx := setBx st.ctr h.cells (vs.drop h.slots.length) (escAll h.esc st.bx), ctr := st.ctr + 1, dirty := false, pins := [] }
/-! ### The whole function -/
def retV : List Value → Value
 | [v] => v
 | vs => .tuple vs.toArray
def st0 (ntmps : Nat) (args : List CV) (bx : List Bx) : St :=
 { env := args.map (fun cv => some ⟨cv, [], 0⟩) ++ List.replicate (ntmps - args.length) none, bx, ctr := 1, dirty := false, pins := [] }
end Go.Cw
end
section
namespace Go.Cw
open Go
theorem add_add (p : Addr) (i j : Nat) : (p.add i).add j = p.add (i + j) := by
 unfold Addr.add
 by_cases hj : j = 0
 ·subst hj; simp
 ·by_cases hi : i = 0
  ·subst hi; simp [hj]
  ·simp [hi, hj]; omega
theorem offA_some {p : Addr} {j : Nat} : offA (some p) j = some (p.add j) := rfl
theorem exK_mono {k : Ck} {K K' : Value → Prop} (h : ∀ v, K v → K' v) : exK k K → exK k K' := by
 cases k <;> simp only [exK]
 case sl => exact fun ⟨A, n, c, q⟩ => ⟨A, n, c, h _ q⟩
 all_goals exact fun ⟨x, q⟩ => ⟨x, h _ q⟩
theorem exKs_mono {ks : List Ck} : ∀ {K K' : List Value → Prop}, (∀ v, K v → K' v) → exKs ks K → exKs ks K' := by
 induction ks with
 | nil => intro K K' h q; exact h _ q
 | cons k ks ih => intro K K' h q; exact exK_mono (fun v q => ih (fun vs => h _) q) q
theorem exK_ex {k : Ck} {K : Value → Prop} (h : exK k K) : ∃ v, k.fits v = true ∧ K v := by
 cases k <;> simp only [exK] at h
 case sl => obtain ⟨A, n, c, q⟩ := h; exact ⟨_, rfl, q⟩
 all_goals obtain ⟨x, q⟩ := h; exact ⟨_, by simp [Ck.fits], q⟩
theorem exKs_ex {ks : List Ck} : ∀ {K : List Value → Prop}, exKs ks K → ∃ vs, vs.length = ks.length ∧ K vs := by
 induction ks with
 | nil => intro K h; exact ⟨[], rfl, h⟩
 | cons k ks ih =>
   intro K h
   obtain ⟨v, _, q⟩ := exK_ex h
   obtain ⟨vs, hl, q⟩ := ih q
   exact ⟨v :: vs, by simp [hl], q⟩
theorem allK_at {k : Ck} {K : Value → Prop} (h : allK k K) {v : Value} (hv : k.fits v = true) : K v := by
 cases k <;> cases v <;> simp only [Ck.fits] at hv <;> simp only [allK] at h
 case int.int => obtain rfl := of_decide_eq_true hv; exact h _
 case sl.slice => exact h _ _ _
 all_goals first | exact h _ | cases hv
def Fits : List Ck → List Value → Prop
 | [], [] => True
 | k :: ks, v :: vs => k.fits v = true ∧ Fits ks vs
 | _, _ => False
theorem allKs_at {ks : List Ck} : ∀ {K : List Value → Prop} {vs : List Value}, allKs ks K → Fits ks vs → K vs := by
 induction ks with
 | nil => intro K vs h hf; cases vs <;> first | exact h | exact hf.elim
 | cons k ks ih =>
   intro K vs h hf
   cases vs with
   | nil => exact hf.elim
   | cons v vs => exact ih (K := fun vs => K (v :: vs)) (allK_at (K := fun v => allKs ks fun vs => K (v :: vs)) h hf.1) hf.2
theorem allK_of {k : Ck} {K : Value → Prop} (h : ∀ v, K v) : allK k K := by
 cases k <;> simp only [allK] <;> intros <;> exact h _
theorem allKs_of {ks : List Ck} : ∀ {K : List Value → Prop}, (∀ vs, K vs) → allKs ks K := by
 induction ks with
 | nil => intro K h; exact h _
 | cons k ks ih => intro K h; exact allK_of fun v => ih fun vs => h _
/-! ### The relation -/
def CvOk (st : St) : CV → Prop
 | .bp k _ => k < st.bx.length
 | .ep A _ => A.isSome = true
 | _ => True
def Gd (ops : Array Oper) (a : Act) (T : List (Nat × Bool)) : Prop := ∀ x ∈ T, yielded ops a.tmps x.1 = some x.2
structure EnvOk (G : List (Nat × Bool) → Prop) (st : St) (a : Act) : Prop where
 size : a.tmps.size = st.env.length
 env : ∀ (t : Nat) (e : En), st.env[t]? = some (some e) → G e.tg → a.tmps[t]? = some (st.den e.cv) ∧ CvOk st e.cv
def Boxes (st : St) (w : World) : Prop := ∀ b ∈ st.bx, Box w b.id (b.cs.map (·.1)) b.ty
theorem tgIn_spec {T T' : List (Nat × Bool)} (h : tgIn T T' = true) : ∀ x ∈ T, x ∈ T' := by
 induction T with
 | nil => intro x hx; cases hx
 | cons t r ih =>
   simp only [tgIn, Bool.and_eq_true] at h
   intro x hx
   rcases List.mem_cons.1 hx with rfl | hx
   ·simpa using h.1
   ·exact ih h.2 x hx
theorem rd_sound {ops : Array Oper} {st : St} {a : Act} (hE : EnvOk (Gd ops a) st a) {T : List (Nat × Bool)} (hT : Gd ops a T) {x : Operand} {cv : CV} (h : st.rd T x = some cv) :
 a.eval x = st.den cv ∧ CvOk st cv := by
 cases x with
 | tmp t =>
   simp only [St.rd] at h
   split at h
   ·rename_i e he
    split at h
    ·rename_i hg
     obtain rfl := Option.some.inj h
     obtain ⟨h1, h2⟩ := hE.env t e he (fun x hx => hT x (tgIn_spec hg x hx))
     exact ⟨by simp [Act.eval, Array.getD_eq_getD_getElem?, h1], h2⟩
    ·cases h
   ·cases h
 | const v => obtain rfl := Option.some.inj h; exact ⟨rfl, trivial⟩
 | global g => obtain rfl := Option.some.inj h; exact ⟨rfl, trivial⟩
 | func f => obtain rfl := Option.some.inj h; exact ⟨rfl, trivial⟩
theorem rho_of {st : St} {T : List (Nat × Bool)} {x : Operand} {cv : CV} (h : st.rd T x = some cv) : st.rho T x = st.den cv := by simp [St.rho, h]
theorem can_spec {st : St} {T : List (Nat × Bool)} {xs : List Operand} (h : st.can T xs = true) : ∀ x ∈ xs, ∃ cv, st.rd T x = some cv := by
 intro x hx
 have := List.all_eq_true.1 h x hx
 exact Option.isSome_iff_exists.1 this
theorem eval_rho {ops : Array Oper} {st : St} {a : Act} (hE : EnvOk (Gd ops a) st a) {T : List (Nat × Bool)} (hT : Gd ops a T) {xs : List Operand} (h : st.can T xs = true) :
 ∀ x ∈ xs, a.eval x = st.rho T x := by
 intro x hx
 obtain ⟨cv, hcv⟩ := can_spec h x hx
 rw [rho_of hcv, (rd_sound hE hT hcv).1]
/-! ### Marks change nothing else -/
theorem esc1_env (st : St) (cv : CV) : (st.esc1 cv).env = st.env := by cases cv <;> rfl
theorem esc1_ctr (st : St) (cv : CV) : (st.esc1 cv).ctr = st.ctr := by cases cv <;> rfl
theorem esc1_dirty (st : St) (cv : CV) : (st.esc1 cv).dirty = st.dirty := by cases cv <;> rfl
theorem esc1_pins (st : St) (cv : CV) : (st.esc1 cv).pins = st.pins := by cases cv <;> rfl
def SameBx (l l' : List Bx) : Prop := l.map (fun b => (b.id, b.cs, b.ty)) = l'.map (fun b => (b.id, b.cs, b.ty))
theorem modify_mark (l : List Bx) (k : Nat) : SameBx (l.modify k Bx.mark) l := by
 unfold SameBx
 induction l generalizing k with
 | nil => simp
 | cons b l ih => cases k <;> simp [Bx.mark, ih]
theorem esc1_bx (st : St) (cv : CV) : SameBx (st.esc1 cv).bx st.bx := by
 cases cv with
 | bp k off => exact modify_mark _ _
 | _ => rfl
theorem escs_same (T : List (Nat × Bool)) : ∀ (xs : List Operand) (st : St), (st.escs T xs).env = st.env ∧ (st.escs T xs).ctr = st.ctr ∧ (st.escs T xs).dirty = st.dirty ∧ (st.escs T xs).pins = st.pins ∧ SameBx (st.escs T xs).bx st.bx
 | [], st => ⟨rfl, rfl, rfl, rfl, rfl⟩
 | x :: r, st => by
   simp only [St.escs]
   split
   ·rename_i cv _
    obtain ⟨h1, h2, h3, h4, h5⟩ := escs_same T r (st.esc1 cv)
    exact ⟨h1.trans (esc1_env _ _), h2.trans (esc1_ctr _ _), h3.trans (esc1_dirty _ _), h4.trans (esc1_pins _ _), Eq.trans h5 (esc1_bx _ _)⟩
   ·exact escs_same T r st
theorem SameBx.length {l l' : List Bx} (h : SameBx l l') : l.length = l'.length := by simpa using congrArg List.length h
theorem SameBx.ids {l l' : List Bx} (h : SameBx l l') : l.map (·.id) = l'.map (·.id) := by
 have := congrArg (List.map (·.1)) h
 simpa [List.map_map, Function.comp_def] using this
theorem SameBx.boxes {st st' : St} (h : SameBx st'.bx st.bx) {w : World} (hB : Boxes st w) : Boxes st' w := by
 intro b hb
 have : (b.id, b.cs, b.ty) ∈ st.bx.map (fun b => (b.id, b.cs, b.ty)) := by rw [← h]; exact List.mem_map.2 ⟨b, hb, rfl⟩
 obtain ⟨b', hb', he⟩ := List.mem_map.1 this
 simp only [Prod.mk.injEq] at he
 obtain ⟨h1, h2, h3⟩ := he
 have := hB b' hb'
 rw [h1, h2, h3] at this
 exact this
theorem idAt_eq (st : St) (k : Nat) : st.idAt k = ((st.bx.map (·.id))[k]?).getD 0 := by
 simp only [St.idAt, List.getElem?_map]
 cases st.bx[k]? <;> rfl
theorem den_same {st st' : St} (h : SameBx st'.bx st.bx) (cv : CV) : st'.den cv = st.den cv := by
 cases cv <;> simp only [St.den]
 rw [idAt_eq, idAt_eq, h.ids]
theorem cvOk_same {st st' : St} (h : SameBx st'.bx st.bx) {cv : CV} (hc : CvOk st cv) : CvOk st' cv := by
 cases cv <;> simp only [CvOk] at *
 ·rw [h.length]; exact hc
 ·exact hc
/-! ### What only computes -/
theorem pureOf_run {α : Type} {P : Program} : ∀ {s : Sem α} {v : α}, pureOf P s = some v → ∀ w, s.run P w = .ok v w
 | .pure a, v, h, w => by simp only [pureOf, Option.some.injEq] at h; subst h; rfl
 | .program k, v, h, w => by simp only [pureOf] at h; exact pureOf_run h w
 | .mark _ k, v, h, w => by simp only [pureOf] at h; exact pureOf_run h w
 | .load .., _, h, _ | .store .., _, h, _ | .new .., _, h, _ | .shape .., _, h, _ | .freeze .., _, h, _ | .frozen .., _, h, _ | .getObj .., _, h, _ | .setObj .., _, h, _ | .choose .., _, h, _ | .sys .., _, h, _ | .halt .., _, h, _ => by simp [pureOf] at h
theorem map_toArray (xs : Array Operand) (f : Operand → Value) : xs.map f = (xs.toList.map f).toArray := by
 apply Array.ext'; simp
theorem semOf_run {P : Program} {rho : Operand → Value} {o : Oper} {s : Sem Value} (h : semOf rho o = some s) (w : World) :
 (execOp rho o).run P w = (s.run P w).andThen fun v w' => .ok (.value v) w' := by
 obtain ⟨dst, op, type, pos, after, guard⟩ := o
 unfold semOf at h
 cases op <;> simp only [Option.some.injEq, reduceCtorEq] at h
 case call c =>
  obtain ⟨callee, args, argTypes⟩ := c
  cases callee <;> simp only [reduceCtorEq] at h
  rename_i b
  cases b <;> simp only [Option.some.injEq, reduceCtorEq] at h <;> subst h <;> simp [execOp, resolve, invoke, builtin, map_toArray]
 case makeFunc => subst h; simp [execOp, Instr.makeFunc, map_toArray]
 case buildSlice t n parts =>
  subst h
  simp only [execOp]
  rw [show (parts.map fun x => (x.1, rho x.2)) = (parts.toList.map fun p => (p.1, rho p.2)).toArray from by apply Array.ext'; simp]
  simp
 case binOp op t x y _ =>
  subst h
  simp only [execOp, Sem.run_bind]
  cases (eqGuard op t x y (rho x) (rho y)).run P w <;> rfl
 all_goals subst h; simp [execOp]
theorem semOpnds_mem {o : Oper} {rho : Operand → Value} {s : Sem Value} (h : semOf rho o = some s) : (∀ cs b, o.op ≠ .select cs b) ∧ ∀ x ∈ o.op.operands, x ∈ semOpnds o := by
 obtain ⟨dst, op, type, pos, after, guard⟩ := o
 unfold semOf at h
 cases op <;> simp only [reduceCtorEq] at h
 case call c =>
  obtain ⟨callee, args, argTypes⟩ := c
  cases callee <;> simp only [reduceCtorEq] at h
  refine ⟨by simp, fun x hx => ?_⟩
  simpa [Op.operands, Call.operands, semOpnds] using hx
 case slice t x lo hi mx =>
  refine ⟨by simp, fun y hy => ?_⟩
  cases lo <;> cases hi <;> cases mx <;> (simp only [Op.operands, semOpnds] at hy ⊢; simpa using hy)
 case makeMap t r => exact ⟨by simp, fun y hy => by cases r <;> (simp only [Op.operands, semOpnds] at hy ⊢; first | (exfalso; simp at hy; done) | simpa using hy)⟩
 all_goals exact ⟨by simp, fun x hx => by simpa [Op.operands, semOpnds] using hx⟩
end Go.Cw
end
section
namespace Go.Cw
open Go
theorem opIdx_spec {ops : Array Oper} {d : Tmp} {j : Nat} (h : opIdx ops d = some j) : (ops[j]?).bind (·.dst) = some d := by
 unfold opIdx at h
 obtain ⟨hlt, hp, _⟩ := List.findIdx?_eq_some_iff_getElem.1 h
 have hj : ops[j]? = some ops.toList[j] := by
  rw [← Array.getElem?_toList, List.getElem?_eq_getElem hlt]
 rw [hj]
 simpa using hp
theorem yielded_tmp {ops : Array Oper} {a : Act} {j : Nat} {d : Tmp} {b : Bool} (h : (ops[j]?).bind (·.dst) = some d) (hv : a.tmps[d]? = some (.bool b)) : yielded ops a.tmps j = some b := by
 simp [yielded, h, hv]
theorem typeInfo_run {P : Program} {t : TypeId} {i : TypeInfo} (h : P.info? t = some i) (w : World) : (typeInfo t).run P w = .ok i w := by
 simp [typeInfo, h]
theorem cellsOf_pos {P : Program} {t : TypeId} (h : P.cellsOf t ≠ 0) : ∃ i, P.info? t = some i ∧ i.size = P.cellsOf t := by
 unfold Program.cellsOf at *
 cases hi : P.info? t with
 | none => simp [hi] at h
 | some i => exact ⟨i, rfl, by simp⟩
theorem underlying_info {P : Program} {t : TypeId} {d : TypeDesc} (h : P.underlying t = some d) : ∃ i, P.info? t = some i ∧ i.size = P.cellsOf t := by
 unfold Program.underlying at h
 unfold Program.cellsOf
 cases hi : P.info? t with
 | none => simp [hi] at h
 | some i => exact ⟨i, rfl, by simp⟩
theorem sizeOf_run {P : Program} {t : TypeId} {i : TypeInfo} (h : P.info? t = some i) (w : World) : (sizeOf t).run P w = .ok i.size w := by
 simp [sizeOf, typeInfo_run h]
theorem isAgg_run {P : Program} {t : TypeId} {d : TypeDesc} (h : P.underlying t = some d) (w : World) : (isAgg t).run P w = .ok (aggB P t) w := by
 unfold isAgg aggB
 simp only [Sem.run_bind, run_underlying h, Result.andThen_ok, h]
 cases d <;> rfl
theorem fieldOff_spec {P : Program} {s : TypeId} {f off : Nat} (h : fieldOff P s f = some off) :
 ∃ (fs : Array Field) (fd : Field), P.underlying s = some (.struct fs) ∧ fs[f]? = some fd ∧ P.cellsOf fd.type ≠ 0 ∧ fd.offset = off := by
 unfold fieldOff at h
 split at h
 ·rename_i fs hu
  split at h
  ·rename_i fd hf
   split at h
   ·cases h
   ·rename_i hc; exact ⟨fs, fd, hu, hf, hc, Option.some.inj h⟩
  ·cases h
 ·cases h
theorem fieldAt_run {P : Program} {s : TypeId} {f off : Nat} (h : fieldOff P s f = some off) (p : Addr) (w : World) :
 (Instr.fieldAt s (.pointer (some p)) f).run P w = .ok (.pointer (some (p.add off))) w := by
 obtain ⟨fs, fd, hu, hf, hc, rfl⟩ := fieldOff_spec h
 obtain ⟨i, hi, hs⟩ := cellsOf_pos hc
 have hne : i.size ≠ 0 := by rw [hs]; exact hc
 simp [Instr.fieldAt, run_underlying hu, hf, Instr.sureAddr, fieldPlace, sizeOf_run hi, hne]
theorem sliceElem_spec {P : Program} {t e : TypeId} (h : sliceElem P t = some e) : P.underlying t = some (.slice e) ∧ ∃ i, P.info? e = some i ∧ i.size = P.cellsOf e := by
 unfold sliceElem at h
 split at h
 ·rename_i e' hu
  split at h
  ·rename_i hi
   obtain ⟨i, hi⟩ := Option.isSome_iff_exists.1 hi
   obtain rfl := Option.some.inj h
   exact ⟨hu, i, hi, by simp [Program.cellsOf, hi]⟩
  ·cases h
 ·cases h
theorem arrElem_spec {P : Program} {t : TypeId} {ne : Nat × TypeId} (h : arrElem P t = some ne) : P.underlying t = some (.array ne.1 ne.2) ∧ ∃ i, P.info? ne.2 = some i ∧ i.size = P.cellsOf ne.2 := by
 unfold arrElem at h
 split at h
 ·rename_i n e' hu
  split at h
  ·rename_i hi
   obtain ⟨i, hi⟩ := Option.isSome_iff_exists.1 hi
   obtain rfl := Option.some.inj h
   exact ⟨hu, i, hi, by simp [Program.cellsOf, hi]⟩
  ·cases h
 ·cases h
theorem indexAt_arr {P : Program} {t : TypeId} {ne : Nat × TypeId} (h : arrElem P t = some ne) (p : Addr) (k : IntKind) (i : Int) (h0 : 0 ≤ i) (h1 : i < (ne.1 : Int)) (w : World) :
 (Instr.indexAt t (.pointer (some p)) (.int k i)).run P w = .ok (.pointer (some (p.add (i.toNat * P.cellsOf ne.2)))) w := by
 obtain ⟨hu, inf, hinf, hsz⟩ := arrElem_spec h
 simp [Instr.indexAt, asIntOf, run_underlying hu, h0, h1, sizeOf_run hinf, hsz, Instr.sureAddr]
theorem box_cell {w : World} {b : Nat} {cs : List Value} {t : TypeId} (h : Box w b cs t) (j : Nat) : w.cell? ⟨b, j, none⟩ = cs[j]? := by
 unfold Box at h
 simp [World.cell?, h]
theorem loadCells_box {P : Program} {w : World} {b : Nat} {cs : List Value} {t : TypeId} (h : Box w b cs t) (off n : Nat) (vs : List Value) (hv : (cs.drop off).take n = vs) (hl : vs.length = n) :
 (loadCells ⟨b, off, none⟩ n).run P w = .ok vs.toArray w := by
 subst hl
 refine run_loadCells_list w ⟨b, off, none⟩ vs fun j v hj => ?_
 have he : (⟨b, off, none⟩ : Addr).add j = ⟨b, off + j, none⟩ := by
  unfold Addr.add; split
  ·rename_i h0; subst h0; rfl
  ·rfl
 rw [he, box_cell h]
 rw [← hv, List.getElem?_take] at hj
 split at hj
 ·simpa [List.getElem?_drop] using hj
 ·cases hj
theorem fill_list (offs : List Nat) (sizes : List Nat) (place : Nat → Option (Nat × Nat)) (hp : ∀ i o s, offs[i]? = some o → sizes[i]? = some s → place i = some (o, s)) :
 ∀ (parts : List (Nat × Value)) (cs : List Value) (r : List Value), fillL offs cs parts = some r →
  (∀ x ∈ parts, sizes[x.1]? = some x.2.cells.size) → Instr.fill place cs.toArray parts = some r.toArray
 | [], cs, r, h, _ => by simp only [fillL, Option.some.injEq] at h; subst h; rfl
 | (i, v) :: rest, cs, r, h, hs => by
   simp only [fillL] at h
   split at h
   ·rename_i off hoff
    split at h
    ·rename_i hle
     have hsz := hs (i, v) (by simp)
     simp only at hsz
     have ih := fill_list offs sizes place hp rest _ r h (fun x hx => hs x (by simp [hx]))
     simp only [Instr.fill, hp i off _ hoff hsz]
     have hle' : ¬ (off + v.cells.size > cs.toArray.size) := by simpa using hle
     rw [if_neg (by simpa using hle)]
     have key : (v.cells.zipIdx.foldl (fun cs (x : Value × Nat) => cs.setIfInBounds (off + x.2) x.1) cs.toArray) = (cs.take off ++ v.cells.toList ++ cs.drop (off + v.cells.toList.length)).toArray := by
      rw [← Array.foldl_toList]
      have gen : ∀ (l : List Value) (k : Nat) (cs : List Value), off + k + l.length ≤ cs.length →
       ((l.zipIdx k).foldl (fun (cs : Array Value) (x : Value × Nat) => cs.setIfInBounds (off + x.2) x.1) cs.toArray) = (cs.take (off + k) ++ l ++ cs.drop (off + k + l.length)).toArray := by
       intro l
       induction l with
       | nil => intro k cs _; simp
       | cons x l ih =>
         intro k cs hle
         simp only [List.length_cons] at hle
         simp only [List.zipIdx_cons, List.foldl_cons]
         rw [show (cs.toArray.setIfInBounds (off + k) x) = (cs.set (off + k) x).toArray from by simp]
         rw [ih (k + 1) (cs.set (off + k) x) (by simp; omega)]
         congr 1
         have h1 : (cs.set (off + k) x).take (off + (k + 1)) = cs.take (off + k) ++ [x] := by
          rw [List.take_set, show off + (k + 1) = (off + k) + 1 by omega, List.take_succ_eq_append_getElem (by omega), List.set_append_right _ _ (by simp; omega)]
          simp [Nat.min_eq_left (show off + k ≤ cs.length by omega)]
         have h2 : (cs.set (off + k) x).drop (off + (k + 1) + l.length) = cs.drop (off + k + (l.length + 1)) := by
          rw [List.drop_set, if_pos (by omega)]
          congr 1; omega
         rw [h1, h2]; simp
      have := gen v.cells.toList 0 cs (by simpa using hle)
      simpa [Array.toList_zipIdx] using this
     have e2 : (v.cells.zipIdx.foldl (fun cs x => match x with | (c, j) => cs.setIfInBounds (off + j) c) cs.toArray) = (cs.take off ++ v.cells.toList ++ cs.drop (off + v.cells.toList.length)).toArray := by
      rw [← key]
     rw [e2]
     exact ih
    ·cases h
   ·cases h
theorem partsOk_spec {sizes : List Nat} : ∀ {ps : List (Nat × Value)}, partsOk sizes ps = true → ∀ x ∈ ps, sizes[x.1]? = some x.2.cells.size
 | [], _, x, hx => by cases hx
 | (i, v) :: r, h, x, hx => by
   simp only [partsOk] at h
   split at h
   ·rename_i n hn
    simp only [Bool.and_eq_true, beq_iff_eq] at h
    rcases List.mem_cons.1 hx with rfl | hx
    ·simp only; rw [hn, h.1]; simp
    ·exact partsOk_spec h.2 x hx
   ·cases h
theorem mapM_run {α β : Type} {P : Program} {w : World} (g : α → Sem β) (h : α → β) : ∀ (l : List α), (∀ x ∈ l, (g x).run P w = .ok (h x) w) → (l.mapM g).run P w = .ok (l.map h) w
 | [], _ => by simp
 | x :: l, hx => by
   have ih := mapM_run g h l (fun y hy => hx y (by simp [hy]))
   simp [List.mapM_cons, hx x (by simp), ih]
theorem build_run {P : Program} {t : TypeId} {fs : Array Field} {z : Array Value} {ps : List (Nat × Value)} {cs : List Value} (hu : P.underlying t = some (.struct fs)) (hz : (P.info? t).bind (·.zero) = some (.agg z))
 (hi : fs.toList.all (fun f => (P.info? f.type).isSome) = true) (hp : partsOk (fs.toList.map fun f => P.cellsOf f.type) ps = true)
 (hf : fillL (fs.toList.map (·.offset)) z.toList ps = some cs) (w : World) : (Instr.build t ps.toArray).run P w = .ok (.agg cs.toArray) w := by
 obtain ⟨i, hi1, hi2⟩ := Option.bind_eq_some_iff.1 hz
 have hm : (fs.mapM (m := Sem) fun f => do pure (f.offset, ← sizeOf f.type)).run P w = .ok (fs.toList.map fun f => (f.offset, P.cellsOf f.type)).toArray w := by
  have := mapM_run (P := P) (w := w) (fun f : Field => do pure (f.offset, ← sizeOf f.type)) (fun f => (f.offset, P.cellsOf f.type)) fs.toList (fun f hf => by
   obtain ⟨j, hj⟩ := Option.isSome_iff_exists.1 (List.all_eq_true.1 hi f hf)
   simp [sizeOf_run hj, Program.cellsOf, hj])
  have e : fs.mapM (m := Sem) (fun f => do pure (f.offset, ← sizeOf f.type)) = List.toArray <$> fs.toList.mapM (m := Sem) (fun f => do pure (f.offset, ← sizeOf f.type)) := by
   obtain ⟨l⟩ := fs
   exact List.mapM_toArray
  rw [e, Sem.run_map, this]
  rfl
 have hfill := fill_list (fs.toList.map (·.offset)) (fs.toList.map fun f => P.cellsOf f.type) (fun i => (fs.toList.map fun f => (f.offset, P.cellsOf f.type)).toArray[i]?)
  (fun i o s ho hs => by
   simp only [List.getElem?_toArray, List.getElem?_map] at ho hs ⊢
   cases hx : fs.toList[i]? with
   | none => rw [hx] at ho; cases ho
   | some f =>
     rw [hx] at ho hs
     obtain rfl := Option.some.inj ho
     obtain rfl := Option.some.inj hs
     rfl) ps z.toList cs hf (partsOk_spec hp)
 simp only [Instr.build, zeroValue, Sem.run_bind, typeInfo_run hi1, Result.andThen_ok, hi2, Sem.run_pure, run_underlying hu, hm, Value.cells]
 rw [Array.toArray_toList] at hfill
 simp only [hfill]
 rfl
theorem buildA_run {P : Program} {t e : TypeId} {n : Nat} {z : Array Value} {ps : List (Nat × Value)} {cs : List Value} (hu : P.underlying t = some (.array n e)) (hz : (P.info? t).bind (·.zero) = some (.agg z))
 (hi : (P.info? e).isSome = true) (hp : partsOk (List.replicate n (P.cellsOf e)) ps = true)
 (hf : fillL ((List.range n).map (· * P.cellsOf e)) z.toList ps = some cs) (w : World) : (Instr.build t ps.toArray).run P w = .ok (.agg cs.toArray) w := by
 obtain ⟨i, hi1, hi2⟩ := Option.bind_eq_some_iff.1 hz
 obtain ⟨j, hj⟩ := Option.isSome_iff_exists.1 hi
 have hsz : j.size = P.cellsOf e := by simp [Program.cellsOf, hj]
 have hfill := fill_list ((List.range n).map (· * P.cellsOf e)) (List.replicate n (P.cellsOf e)) (fun i => some (i * P.cellsOf e, P.cellsOf e))
  (fun i o s ho hs => by
   rw [List.getElem?_map] at ho
   cases hx : (List.range n)[i]? with
   | none => rw [hx] at ho; cases ho
   | some m =>
     rw [hx] at ho
     obtain rfl := Option.some.inj ho
     have hm : m = i := by
      have := List.getElem?_eq_some_iff.1 hx
      obtain ⟨h1, h2⟩ := this
      simpa using h2.symm
     subst hm
     have hs' : s = P.cellsOf e := by
      rw [List.getElem?_replicate] at hs
      split at hs
      ·exact (Option.some.inj hs).symm
      ·cases hs
     rw [hs']) ps z.toList cs hf (partsOk_spec hp)
 simp only [Instr.build, zeroValue, Sem.run_bind, typeInfo_run hi1, Result.andThen_ok, hi2, Sem.run_pure, run_underlying hu, sizeOf_run hj, hsz, Value.cells]
 rw [Array.toArray_toList] at hfill
 simp only [hfill]
 rfl
theorem kcv_den (k : Ck) (x : Value) (st : St) : st.den (k.cv x) = x := by cases k <;> rfl
theorem kcv_ok (k : Ck) (x : Value) (st : St) : CvOk st (k.cv x) := by cases k <;> trivial
theorem sliceEnd_spec {ops : Array Oper} {st : St} {a : Act} (hE : EnvOk (Gd ops a) st a) {T : List (Nat × Bool)} (hT : Gd ops a T) {o : Option Operand} {r : Option Int} (h : sliceEnd st T o = some r) :
 (o = none ∧ r = none) ∨ ∃ b k i, o = some b ∧ r = some i ∧ a.eval b = .int k i := by
 cases o with
 | none => simp only [sliceEnd, Option.some.injEq] at h; exact .inl ⟨rfl, h.symm⟩
 | some b =>
   simp only [sliceEnd] at h
   split at h
   ·rename_i k i hr
    simp only [Option.some.injEq] at h
    exact .inr ⟨b, k, i, rfl, h.symm, (rd_sound hE hT hr).1⟩
   ·cases h
theorem sliceAt_run {P : Program} {t e : TypeId} (hu : P.underlying t = some (.slice e)) {i : TypeInfo} (hi : P.info? e = some i) (A : Option Addr) (n c : Nat) (lo hi' : Option Value) (l h : Option Int)
 (hl : (lo = none ∧ l = none) ∨ ∃ k x, lo = some (.int k x) ∧ l = some x) (hh : (hi' = none ∧ h = none) ∨ ∃ k x, hi' = some (.int k x) ∧ h = some x)
 (hp : ∀ q, boundP (c : Int) h (boundN n h) l = some q → q) (w : World) :
 (Instr.sliceAt t (.slice A n c) lo hi' none).run P w = .ok (.slice (reA A c (boundN 0 l) (P.cellsOf e)) (boundN n h - boundN 0 l) (c - boundN 0 l)) w := by
 have hsz : i.size = P.cellsOf e := by simp [Program.cellsOf, hi]
 rcases hh with ⟨rfl, rfl⟩ | ⟨k, y, rfl, rfl⟩ <;> rcases hl with ⟨rfl, rfl⟩ | ⟨k', x, rfl, rfl⟩ <;>
  simp only [boundP, Option.some.injEq, forall_eq', reduceCtorEq, false_implies, implies_true, boundN] at hp ⊢ <;>
  simp [Instr.sliceAt, run_underlying hu, Instr.slice, Instr.sliceBounds, Instr.sliceBound, asIntOf, sizeOf_run hi, reA, hsz, hp] <;> first | rfl | (intro h; exfalso; omega)
theorem slicePc_run {P : Program} {t : TypeId} (hu : P.underlying t = some .string) (s : ByteArray) (lo hi' : Option Value) (l h : Option Int)
 (hl : (lo = none ∧ l = none) ∨ ∃ k x, lo = some (.int k x) ∧ l = some x) (hh : (hi' = none ∧ h = none) ∨ ∃ k x, hi' = some (.int k x) ∧ h = some x)
 (hp : ∀ q, boundP (s.size : Int) h (boundN s.size h) l = some q → q) (w : World) :
 (Instr.sliceAt t (.string s) lo hi' none).run P w = .ok (.string (s.extract (boundN 0 l) (boundN s.size h))) w := by
 rw [run_sliceAt_string _ _ _ _ _ _ hu]
 rcases hh with ⟨rfl, rfl⟩ | ⟨kh, j, rfl, rfl⟩ <;> rcases hl with ⟨rfl, rfl⟩ | ⟨kl, i, rfl, rfl⟩ <;>
  simp only [boundP, Option.some.injEq, forall_eq', reduceCtorEq, false_implies, implies_true, boundN] at hp ⊢
 ·rw [run_slice_string_all w t s hu]
 ·rw [run_slice_string_l w t s hu kl i (by omega) (by omega)]
 ·rw [run_slice_string_h w t s hu kh j (by omega) (by omega)]
 ·have e1 : (Instr.sliceBound (.int kl i) j.toNat .sliceB).run P w = .ok i.toNat w := run_sliceBound w kl i _ _ (by omega) (by omega)
  have e2 : (Instr.sliceBound (.int kh j) s.size .sliceAlen).run P w = .ok j.toNat w := run_sliceBound w kh j _ _ (by omega) (by omega)
  simp [Instr.slice, run_underlying hu, Instr.sliceBounds, e1, e2]
theorem strAt_run {P : Program} {t : TypeId} (hu : P.underlying t = some .string) (s : ByteArray) (k : IntKind) (i : Int) (h0 : 0 ≤ i) (h1 : i < (s.size : Int)) (w : World) :
 (Instr.index t (.string s) (.int k i)).run P w = .ok (.int .u8 (strAt s i.toNat)) w := by
 have hlt : i.toNat < s.size := by omega
 have he : s[i.toNat]? = some s[i.toNat] := getElem?_pos s i.toNat hlt
 simp [Instr.index, asIntOf, run_underlying hu, h0, he, strAt]
theorem b2s_run {P : Program} {src dst : TypeId} (h : isB2S P src dst = true) {p : Addr} {n c : Nat} {bs : List Int} {w : World} (hl : bs.length = n) (hc : Cells w (some p) 0 (bs.map (Value.int .u8))) :
 (convert src dst (.slice (some p) n c)).run P w = .ok (.string (strOf bs)) w := by
 unfold isB2S at h
 split at h
 ·rename_i e hs hd
  split at h
  ·rename_i he
   obtain ⟨q, hq, hcell⟩ := hc
   obtain rfl := Option.some.inj hq
   have hld := run_loadCells_list (P := P) w p (bs.map (Value.int .u8)) (fun j u hu => by
    have := hcell j (List.getElem?_eq_some_iff.1 hu).1
    rw [hu] at this
    rw [← this]
    congr 1)
   rw [List.length_map, hl] at hld
   rw [run_convert_bytes_string w src dst e _ _ _ hs he hd, run_bytesToString w _ _ _ bs hld, foldl_push_bytes]
   simp [ByteArray.empty, ByteArray.emptyWithCapacity, strOf]
   rfl
  ·cases h
 ·cases h
theorem sliceAt3_run {P : Program} {t e : TypeId} (hu : P.underlying t = some (.slice e)) {i : TypeInfo} (hi : P.info? e = some i) (A : Option Addr) (n c : Nat) (lo : Option Value) (l : Option Int) (kh km : IntKind) (h m : Int)
 (hl : (lo = none ∧ l = none) ∨ ∃ k x, lo = some (.int k x) ∧ l = some x) (hm : 0 ≤ m ∧ m ≤ (c : Int)) (hh : 0 ≤ h ∧ h ≤ m) (hp : lowP h l) (w : World) :
 (Instr.sliceAt t (.slice A n c) lo (some (.int kh h)) (some (.int km m))).run P w = .ok (.slice (reA A m.toNat (boundN 0 l) (P.cellsOf e)) (h.toNat - boundN 0 l) (m.toNat - boundN 0 l)) w := by
 have hsz : i.size = P.cellsOf e := by simp [Program.cellsOf, hi]
 obtain ⟨m, rfl⟩ : ∃ q : Nat, m = (q : Int) := ⟨m.toNat, by omega⟩
 obtain ⟨h, rfl⟩ : ∃ q : Nat, h = (q : Int) := ⟨h.toNat, by omega⟩
 have hm' : m ≤ c := by omega
 have hh' : h ≤ m := by omega
 rcases hl with ⟨rfl, rfl⟩ | ⟨k', x, rfl, rfl⟩
 ·simp [Instr.sliceAt, run_underlying hu, Instr.slice, Instr.sliceBounds, Instr.sliceBound, asIntOf, sizeOf_run hi, reA, hsz, hm', hh', boundN]
 ·have hx : 0 ≤ x ∧ x ≤ (h : Int) := hp
  obtain ⟨x, rfl⟩ : ∃ q : Nat, x = (q : Int) := ⟨x.toNat, by omega⟩
  have hx' : x ≤ h := by omega
  simp [Instr.sliceAt, run_underlying hu, Instr.slice, Instr.sliceBounds, Instr.sliceBound, asIntOf, sizeOf_run hi, reA, hsz, hm', hh', hx', boundN]
  rfl
end Go.Cw
end
section
namespace Go.Cw
open Go
structure Like (st st' : St) : Prop where
 env : st'.env = st.env
 ctr : st'.ctr = st.ctr
 dirty : st'.dirty = st.dirty
 pins : st'.pins = st.pins
 bx : SameBx st'.bx st.bx
theorem Like.refl (st : St) : Like st st := ⟨rfl, rfl, rfl, rfl, rfl⟩
theorem Like.escs (st : St) (T : List (Nat × Bool)) (xs : List Operand) : Like st (st.escs T xs) :=
 let ⟨h1, h2, h3, h4, h5⟩ := escs_same T xs st; ⟨h1, h2, h3, h4, h5⟩
theorem Like.esc1 (st : St) (cv : CV) : Like st (st.esc1 cv) := ⟨esc1_env _ _, esc1_ctr _ _, esc1_dirty _ _, esc1_pins _ _, esc1_bx _ _⟩
theorem Like.trans {a b c : St} (h : Like a b) (k : Like b c) : Like a c :=
 ⟨k.env.trans h.env, k.ctr.trans h.ctr, k.dirty.trans h.dirty, k.pins.trans h.pins, Eq.trans k.bx h.bx⟩
def Yl (P : Program) (a : Act) (o : Oper) (st : St) (cv : CV) (w : World) : Prop :=
 (execOp a.eval o).run P w = .ok (.value (st.den cv)) w ∧ CvOk st cv
section
variable {P : Program} {ops : Array Oper} {st st' : St} {T : List (Nat × Bool)} {o : Oper} {p : Option Prop} {cv : CV} {a : Act}
theorem q_generic (hq : (if isPureAt st T o && st.can T (semOpnds o) then
 match semOf (st.rho T) o with
 | some s =>
   match pureOf P s with
   | some v => some (none, .v v, st.escs T (semOpnds o))
   | none => none
 | none => none
 else none) = some (p, cv, st')) (hE : EnvOk (Gd ops a) st a) (hT : Gd ops a T) (w : World) : Yl P a o st cv w ∧ Like st st' := by
 split at hq
 ·rename_i hc
  simp only [Bool.and_eq_true] at hc
  split at hq
  ·rename_i s hs
   split at hq
   ·rename_i v hv
    simp only [Option.some.injEq, Prod.mk.injEq] at hq
    obtain ⟨_, rfl, rfl⟩ := hq
    obtain ⟨h1, h2⟩ := semOpnds_mem hs
    refine ⟨⟨?_, trivial⟩, Like.escs _ _ _⟩
    rw [execOp_congr o h1 (fun x hx => eval_rho hE hT hc.2 x (h2 x hx)), semOf_run hs, pureOf_run hv]
    rfl
   ·cases hq
  ·cases hq
 ·cases hq
theorem eqIn_slice (d : Nat) {t e : TypeId} {A p : Option Addr} {n c q r : Nat} (hu : P.underlying t = some (.slice e)) (hp : p = none) (w : World) :
 (Op.equalIn (d + 1) t (.slice A n c) (.slice p q r)).run P w = .ok (!A.isSome) w := by
 subst hp
 cases A <;> simp [Op.equalIn, run_underlying hu]
theorem eqIn_pointer (d : Nat) {t e : TypeId} {A p : Option Addr} (hu : P.underlying t = some (.pointer e)) (hp : p = none) (w : World) :
 (Op.equalIn (d + 1) t (.pointer A) (.pointer p)).run P w = .ok (!A.isSome) w := by
 subst hp
 cases A <;> simp [Op.equalIn, run_underlying hu]
theorem eqG_slice (op : BinOp) (x y : Operand) (t : TypeId) {A p : Option Addr} {n c q r : Nat} (w : World) : (eqGuard op t x y (.slice A n c) (.slice p q r)).run P w = .ok () w := by
 simp only [eqGuard]; split <;> rfl
theorem eqG_pointer (op : BinOp) (x y : Operand) (t : TypeId) {A p : Option Addr} (w : World) : (eqGuard op t x y (.pointer A) (.pointer p)).run P w = .ok () w := by
 simp only [eqGuard]; split <;> rfl
theorem isNilB_run {t : TypeId} {x : Operand} {v : Value} {b : Bool} (h : isNilB P st T t x v = some b) (hE : EnvOk (Gd ops a) st a) (hT : Gd ops a T) (w : World) :
 (Op.equal t (a.eval x) v).run P w = .ok b w ∧ (∀ op xo yo, (eqGuard op t xo yo (a.eval x) v).run P w = .ok () w) ∧ (binOp .eql t (a.eval x) v = do pure (.bool (← Op.equal t (a.eval x) v))) ∧ (binOp .neq t (a.eval x) v = do pure (.bool (!(← Op.equal t (a.eval x) v)))) := by
 have key : ∀ {y z : Value}, (Op.equalIn (9999 + 1) t y z).run P w = (Op.equal t y z).run P w := fun {_ _} => rfl
 unfold isNilB at h
 split at h
 ·split at h
  ·rename_i e A n c hu hx
   obtain ⟨h1, _⟩ := rd_sound hE hT hx
   obtain rfl := Option.some.inj h
   have h1' : a.eval x = .slice A n c := h1
   rw [h1', ← key]
   exact ⟨eqIn_slice 9999 hu rfl w, fun op xo yo => eqG_slice op xo yo t w, rfl, rfl⟩
  ·cases h
 ·split at h
  ·rename_i e A hu hx
   obtain ⟨h1, _⟩ := rd_sound hE hT hx
   obtain rfl := Option.some.inj h
   have h1' : a.eval x = .pointer A := h1
   rw [h1', ← key]
   exact ⟨eqIn_pointer 9999 hu rfl w, fun op xo yo => eqG_pointer op xo yo t w, rfl, rfl⟩
  ·rename_i e k off hu hx
   obtain ⟨h1, _⟩ := rd_sound hE hT hx
   obtain rfl := Option.some.inj h
   rw [h1, ← key]
   exact ⟨eqIn_pointer 9999 hu rfl w, fun op xo yo => eqG_pointer op xo yo t w, rfl, rfl⟩
  ·rename_i e A j hu hx
   obtain ⟨h1, h2⟩ := rd_sound hE hT hx
   obtain rfl := Option.some.inj h
   obtain ⟨q, rfl⟩ := Option.isSome_iff_exists.1 h2
   rw [h1, ← key]
   exact ⟨eqIn_pointer 9999 hu rfl w, fun op xo yo => eqG_pointer op xo yo t w, rfl, rfl⟩
  ·cases h
 ·cases h
theorem part_agg {t : TypeId} {fs : Array Field} (hu : P.underlying t = some (.struct fs)) (xs : Array Value) (off : Nat) (w : World) : (part t xs off).run P w = .ok (.agg ((xs.toList.drop off).take (P.cellsOf t)).toArray) w := by
 obtain ⟨i, hi, hsz⟩ := underlying_info hu
 have hag : aggB P t = true := by unfold aggB; rw [hu]
 simp only [part, Sem.run_bind, isAgg_run hu, Result.andThen_ok, hag, if_true, sizeOf_run hi, hsz, Sem.run_pure]
 congr 2
 apply Array.ext'
 simp [Array.toList_extract, List.extract_eq_take_drop]
theorem eqFs_run (d : Nat) (sub : TypeId → List Value → List Value → Option Bool) (w : World) (hsub : ∀ t xs ys b, sub t xs ys = some b → (Op.equalIn (d + 1) t (.agg xs.toArray) (.agg ys.toArray)).run P w = .ok b w) (xs ys : Array Value) : ∀ (fs : List Field) (b : Bool), (∀ f ∈ fs, f.name ≠ "_") → eqFs P sub fs xs.toList ys.toList = some b → (Op.eqFields (d + 1) xs ys fs).run P w = .ok b w
 | [], b, _, h => by
   obtain rfl := Option.some.inj h
   rfl
 | f :: fs, b, hn, h => by
   have ih := fun b => eqFs_run d sub w hsub xs ys fs b (fun g hg => hn g (List.mem_cons_of_mem _ hg))
   have hf := hn f (List.mem_cons_self ..)
   simp only [Op.eqFields, hf, ne_eq, not_false_eq_true, if_true, Sem.run_bind]
   unfold eqFs at h
   split at h
   ·rename_i k0 k x k' y hu hx hy
    split at h
    ·rename_i hk
     subst hk
     split at h
     ·rename_i r hr
      obtain rfl := Option.some.inj h
      have px : (part f.type xs f.offset).run P w = .ok (.int k x) w := by
       rw [Array.getElem?_toList] at hx
       simp [part, isAgg, run_underlying hu, hx]
      have py : (part f.type ys f.offset).run P w = .ok (.int k y) w := by
       rw [Array.getElem?_toList] at hy
       simp [part, isAgg, run_underlying hu, hy]
      rw [px, Result.andThen_ok, py, Result.andThen_ok, run_equalIn_int w d _ k k0 x y hu, Result.andThen_ok]
      cases hxy : (x == y)
      ·simp
      ·simp [ih r hr]
     ·cases h
    ·cases h
   ·rename_i x y hu hx hy
    split at h
    ·rename_i r hr
     obtain rfl := Option.some.inj h
     have px : (part f.type xs f.offset).run P w = .ok (.bool x) w := by
      rw [Array.getElem?_toList] at hx
      simp [part, isAgg, run_underlying hu, hx]
     have py : (part f.type ys f.offset).run P w = .ok (.bool y) w := by
      rw [Array.getElem?_toList] at hy
      simp [part, isAgg, run_underlying hu, hy]
     rw [px, Result.andThen_ok, py, Result.andThen_ok, run_equalIn_bool' w d _ x y hu, Result.andThen_ok]
     cases hxy : (x == y)
     ·simp
     ·simp [ih r hr]
    ·cases h
   ·rename_i gs _ _ hu
    split at h
    ·rename_i c r hc hr
     obtain rfl := Option.some.inj h
     rw [part_agg hu, Result.andThen_ok, part_agg hu, Result.andThen_ok, hsub _ _ _ _ hc, Result.andThen_ok]
     cases c
     ·simp
     ·simp [ih r hr]
    ·cases h
   ·cases h
theorem eqSn_run (w : World) : ∀ (n D : Nat) (t : TypeId) (xs ys : List Value) (b : Bool), n ≤ D → eqSn P n t xs ys = some b → (Op.equalIn (D + 1) t (.agg xs.toArray) (.agg ys.toArray)).run P w = .ok b w
 | 0, _, _, _, _, _, _, h => by cases h
 | n + 1, 0, _, _, _, _, hD, _ => absurd hD (Nat.not_succ_le_zero _)
 | n + 1, D + 1, t, xs, ys, b, hD, h => by
   simp only [eqSn] at h
   split at h
   ·rename_i fs hu
    split at h
    ·rename_i hpl
     unfold eqPlain at hpl
     simp only [Bool.and_eq_true, Bool.not_eq_true', Array.all_eq_true, bne_iff_ne, ne_eq] at hpl
     obtain ⟨⟨hp1, hp2⟩, hp3⟩ := hpl
     have hfo : P.fieldsOf t = fs := by unfold Program.fieldsOf; rw [hu]
     have hn : ∀ f ∈ fs.toList, f.name ≠ "_" := by
      intro f hf
      rw [hfo] at hp3
      obtain ⟨i, hi, rfl⟩ := List.getElem_of_mem hf
      exact hp3 i (by simpa using hi)
     rw [run_equalIn_agg w (D + 1) t _ _ (by rw [hfo]; exact hu) hp1, hfo]
     exact eqFs_run D _ w (fun t xs ys b hb => eqSn_run w n D t xs ys b (Nat.le_of_succ_le_succ hD) hb) xs.toArray ys.toArray fs.toList b hn (by simpa using h)
    ·cases h
   ·cases h
theorem aggEq_run {t : TypeId} {x y : Operand} {b : Bool} (h : aggEq P st T t x y = some b) (hE : EnvOk (Gd ops a) st a) (hT : Gd ops a T) (w : World) :
 (∀ op xo yo, (eqGuard op t xo yo (a.eval x) (a.eval y)).run P w = .ok () w) ∧ (binOp .eql t (a.eval x) (a.eval y)).run P w = .ok (.bool b) w ∧ (binOp .neq t (a.eval x) (a.eval y)).run P w = .ok (.bool (!b)) w := by
 unfold aggEq at h
 split at h
 ·rename_i fs xs ys hu hx hy
  split at h
  ·rename_i hpl
   obtain ⟨h1, _⟩ := rd_sound hE hT hx
   obtain ⟨h2, _⟩ := rd_sound hE hT hy
   have h1' : a.eval x = .agg xs := h1
   have h2' : a.eval y = .agg ys := h2
   unfold eqPlain at hpl
   simp only [Bool.and_eq_true, Bool.not_eq_true', Array.all_eq_true, bne_iff_ne, ne_eq] at hpl
   obtain ⟨⟨hp1, hp2⟩, hp3⟩ := hpl
   have hfo : P.fieldsOf t = fs := by unfold Program.fieldsOf; rw [hu]
   have hn : ∀ f ∈ fs.toList, f.name ≠ "_" := by
    intro f hf
    rw [hfo] at hp3
    obtain ⟨i, hi, rfl⟩ := List.getElem_of_mem hf
    exact hp3 i (by simpa using hi)
   have he : (Op.equalIn (9999 + 1) t (.agg xs) (.agg ys)).run P w = .ok b w := by
    rw [run_equalIn_agg w 9999 t xs ys (by rw [hfo]; exact hu) hp1, hfo]
    exact eqFs_run 9998 _ w (fun t xs ys b hb => eqSn_run w 4 9998 t xs ys b (by decide) hb) xs ys fs.toList b hn h
   rw [h1', h2']
   refine ⟨fun op xo yo => run_eqGuard_agg w op t xo yo xs ys hp2, ?_, ?_⟩
   ·rw [run_eql_struct, he]; rfl
   ·rw [run_neq_struct, he]; rfl
  ·cases h
 ·cases h
theorem nilCmp_run {b : Bool} (h : nilCmp P st T o = some b) (hE : EnvOk (Gd ops a) st a) (hT : Gd ops a T) (w : World) : (execOp a.eval o).run P w = .ok (.value (.bool b)) w := by
 unfold nilCmp at h
 split at h
 ·rename_i t x y t' hop
  split at h
  ·obtain ⟨h1, h2, _⟩ := aggEq_run h hE hT w
   simp only [execOp, hop, Sem.run_bind, h1, Result.andThen_ok, h2, Sem.run_pure]
  ·split at h
   ·rename_i v
    obtain ⟨h1, h2, h3, _⟩ := isNilB_run h hE hT w
    simp only [execOp, hop]
    rw [show a.eval (.const v) = v from rfl]
    simp only [Sem.run_bind, h2, Result.andThen_ok, h3, h1, Sem.run_pure]
   ·cases h
 ·rename_i t x y t' hop
  split at h
  ·split at h
   ·rename_i b' hb
    obtain rfl := Option.some.inj h
    obtain ⟨h1, _, h2⟩ := aggEq_run hb hE hT w
    simp only [execOp, hop, Sem.run_bind, h1, Result.andThen_ok, h2, Sem.run_pure]
   ·cases h
  ·split at h
   ·rename_i v
    split at h
    ·rename_i b' hb
     obtain rfl := Option.some.inj h
     obtain ⟨h1, h2, _, h3⟩ := isNilB_run hb hE hT w
     simp only [execOp, hop]
     rw [show a.eval (.const v) = v from rfl]
     simp only [Sem.run_bind, h2, Result.andThen_ok, h3, h1, Sem.run_pure]
    ·cases h
   ·cases h
 ·cases h
theorem sureAddr_run (A : Addr) (w : World) : (Instr.sureAddr (.pointer (some A))).run P w = .ok A w := rfl
theorem addr_add (b i j : Nat) : (⟨b, i, none⟩ : Addr).add j = ⟨b, i + j, none⟩ := by
 unfold Addr.add; split
 ·rename_i h; subst h; rfl
 ·rfl
theorem quiet_sound (hq : quietOp P ops st T o = some (p, cv, st')) (hE : EnvOk (Gd ops a) st a) (hT : Gd ops a T) (hp : ∀ q, p = some q → q) (w : World) (hB : isLoad o = true → Boxes st w) :
 Yl P a o st cv w ∧ Like st st' := by
 unfold quietOp at hq
 split at hq
 -- move
 ·rename_i x hop
  obtain ⟨c, hc, he⟩ := Option.map_eq_some_iff.1 hq
  simp only [Prod.mk.injEq] at he
  obtain ⟨_, rfl, rfl⟩ := he
  obtain ⟨h1, h2⟩ := rd_sound hE hT hc
  exact ⟨⟨by simp [execOp, hop, h1], h2⟩, .refl _⟩
 -- assign
 ·rename_i x hop
  obtain ⟨c, hc, he⟩ := Option.map_eq_some_iff.1 hq
  simp only [Prod.mk.injEq] at he
  obtain ⟨_, rfl, rfl⟩ := he
  obtain ⟨h1, h2⟩ := rd_sound hE hT hc
  exact ⟨⟨by simp [execOp, hop, h1], h2⟩, .refl _⟩
 -- pick
 ·rename_i c x y hop
  split at hq
  ·rename_i d
   split at hq
   ·rename_i j cb hj hcb
    have hd := opIdx_spec hj
    obtain ⟨hc1, _⟩ := rd_sound hE hT hcb
    have hsome : ∀ (b : Bool), cb = b → Gd ops a ((j, b) :: T) := by
     intro b hb z hz
     rcases List.mem_cons.1 hz with rfl | hz
     ·refine yielded_tmp hd ?_
      have : a.eval (.tmp d) = .bool cb := hc1
      simp only [Act.eval, Array.getD_eq_getD_getElem?] at this
      cases hx : a.tmps[d]? with
      | none => simp [hx, undef] at this
      | some v => simp only [hx, Option.getD_some] at this; rw [this, hb]
     ·exact hT z hz
    have hrun : (execOp a.eval o).run P w = .ok (.value (if cb then a.eval x else a.eval y)) w := by
     simp only [execOp, hop, hc1, St.den, asBool, Sem.run_bind, Sem.run_pure, Result.andThen_ok]
    split at hq
    ·rename_i bx bY hx hy
     simp only [Option.some.injEq, Prod.mk.injEq] at hq
     obtain ⟨_, rfl, rfl⟩ := hq
     refine ⟨⟨?_, trivial⟩, .refl _⟩
     rw [hrun]
     cases cb with
     | true => simp only [if_true, (rd_sound hE (hsome true rfl) hx).1]; rfl
     | false => simp only [Bool.false_eq_true, if_false, (rd_sound hE (hsome false rfl) hy).1]; rfl
    ·rename_i k bx k' bY hx hy
     split at hq
     ·rename_i hk
      subst hk
      simp only [Option.some.injEq, Prod.mk.injEq] at hq
      obtain ⟨_, rfl, rfl⟩ := hq
      refine ⟨⟨?_, trivial⟩, .refl _⟩
      rw [hrun]
      cases cb with
      | true => simp only [if_true, (rd_sound hE (hsome true rfl) hx).1]; rfl
      | false => simp only [Bool.false_eq_true, if_false, (rd_sound hE (hsome false rfl) hy).1]; rfl
     ·cases hq
    ·cases hq
   ·cases hq
  ·cases hq
 -- nilCheck
 ·rename_i x hop
  split at hq
  ·rename_i k off hx
   simp only [Option.some.injEq, Prod.mk.injEq] at hq
   obtain ⟨_, rfl, rfl⟩ := hq
   obtain ⟨h1, h2⟩ := rd_sound hE hT hx
   exact ⟨⟨by simp only [execOp, hop, h1, St.den]; rfl, h2⟩, .refl _⟩
  ·rename_i A j hx
   simp only [Option.some.injEq, Prod.mk.injEq] at hq
   obtain ⟨_, rfl, rfl⟩ := hq
   obtain ⟨h1, h2⟩ := rd_sound hE hT hx
   refine ⟨⟨?_, h2⟩, .refl _⟩
   obtain ⟨q, rfl⟩ := Option.isSome_iff_exists.1 h2
   simp only [execOp, hop, h1, St.den, offA_some]; rfl
  ·rename_i A hx
   simp only [Option.some.injEq, Prod.mk.injEq] at hq
   obtain ⟨rfl, rfl, rfl⟩ := hq
   have hA := hp _ rfl
   obtain ⟨h1, h2⟩ := rd_sound hE hT hx
   refine ⟨⟨?_, hA⟩, .refl _⟩
   obtain ⟨q, rfl⟩ := Option.isSome_iff_exists.1 hA
   simp only [execOp, hop, h1, St.den, offA_some]; rfl
  ·rename_i f x1 x2 hx
   simp only [Option.some.injEq, Prod.mk.injEq] at hq
   obtain ⟨_, rfl, rfl⟩ := hq
   obtain ⟨h1, h2⟩ := rd_sound hE hT hx
   exact ⟨⟨by simp only [execOp, hop, h1, St.den]; rfl, trivial⟩, .refl _⟩
  ·cases hq
 -- fieldAddr
 ·rename_i s x f hop
  split at hq
  ·rename_i off k off0 hoff hx
   simp only [Option.some.injEq, Prod.mk.injEq] at hq
   obtain ⟨_, rfl, rfl⟩ := hq
   obtain ⟨h1, h2⟩ := rd_sound hE hT hx
   refine ⟨⟨?_, h2⟩, .refl _⟩
   simp only [execOp, hop, h1, St.den, Sem.run_bind, fieldAt_run hoff, Result.andThen_ok, Sem.run_pure, addr_add]
  ·rename_i off A j hoff hx
   simp only [Option.some.injEq, Prod.mk.injEq] at hq
   obtain ⟨_, rfl, rfl⟩ := hq
   obtain ⟨h1, h2⟩ := rd_sound hE hT hx
   refine ⟨⟨?_, h2⟩, .refl _⟩
   obtain ⟨q, rfl⟩ := Option.isSome_iff_exists.1 h2
   simp only [execOp, hop, h1, St.den, offA_some, Sem.run_bind, fieldAt_run hoff, Result.andThen_ok, Sem.run_pure, add_add]
  ·cases hq
 -- load
 ·rename_i t x hop
  have hB := hB (by simp [isLoad, hop])
  split at hq
  ·rename_i k off hx
   split at hq
   ·rename_i b d hb hd
    obtain ⟨h1, h2⟩ := rd_sound hE hT hx
    have hid : st.idAt k = b.id := by simp [St.idAt, hb]
    have hbox := hB b (List.mem_of_getElem? hb)
    dsimp only at hq
    split at hq
    ·rename_i hl
     have hvs : ((b.cs.map (·.1)).drop off).take (P.cellsOf t) = List.map (fun x => x.1) (List.take (P.cellsOf t) (List.drop off b.cs)) := by simp
     have hld := loadCells_box (P := P) hbox off (P.cellsOf t) _ hvs hl
     obtain ⟨i, hi, hsz⟩ := underlying_info hd
     split at hq
     ·rename_i hag
      simp only [Option.some.injEq, Prod.mk.injEq] at hq
      obtain ⟨_, rfl, rfl⟩ := hq
      refine ⟨⟨?_, trivial⟩, .refl _⟩
      simp only [execOp, hop, h1, St.den, hid, Instr.loadAt, Sem.run_bind, sureAddr_run, Result.andThen_ok, loadVar, isAgg_run hd, hag, if_true, sizeOf_run hi, hsz, hld, Sem.run_pure]
     ·rename_i hag
      split at hq
      ·rename_i y k' hy hsh
       simp only [Option.some.injEq, Prod.mk.injEq] at hq
       obtain ⟨_, rfl, rfl⟩ := hq
       refine ⟨⟨?_, kcv_ok _ _ _⟩, .refl _⟩
       have hn : P.cellsOf t = 1 := by rw [← hl, hy]; rfl
       have hcell : w.cell? ⟨b.id, off, none⟩ = some y := by
        rw [box_cell hbox]
        rw [hn] at hy
        have : (List.take 1 (List.drop off b.cs)) = [] ∨ ∃ z, b.cs[off]? = some z ∧ List.take 1 (List.drop off b.cs) = [z] := by
         cases hz : b.cs[off]? with
         | none => left; rw [List.drop_eq_nil_of_le (List.getElem?_eq_none_iff.1 hz)]; rfl
         | some z =>
           right
           obtain ⟨hlt, rfl⟩ := List.getElem?_eq_some_iff.1 hz
           exact ⟨_, rfl, by rw [List.drop_eq_getElem_cons hlt]; rfl⟩
        rcases this with h0 | ⟨z, hz, h0⟩
        ·rw [h0] at hy; cases hy
        ·rw [h0] at hy
         simp only [List.map_cons, List.map_nil, List.cons.injEq, and_true] at hy
         simp [hz, hy]
       have hag' : aggB P t = false := by simpa using hag
       rw [kcv_den]
       simp only [execOp, hop, h1, St.den, hid, Instr.loadAt, Sem.run_bind, sureAddr_run, Result.andThen_ok, loadVar, isAgg_run hd, hag', Bool.false_eq_true, if_false, run_load, hcell, Sem.run_pure]
      ·cases hq
    ·cases hq
   ·cases hq
  ·cases hq
 -- indexAddr
 ·rename_i t x i hop
  split at hq
  ·rename_i e A n c k i' he hx hi
   simp only [Option.some.injEq, Prod.mk.injEq] at hq
   obtain ⟨rfl, rfl, rfl⟩ := hq
   obtain ⟨hi0, hin, hA⟩ := hp _ rfl
   obtain ⟨h1, _⟩ := rd_sound hE hT hx
   obtain ⟨h2, _⟩ := rd_sound hE hT hi
   refine ⟨⟨?_, hA⟩, .refl _⟩
   obtain ⟨q, rfl⟩ := Option.isSome_iff_exists.1 hA
   obtain ⟨hu, i, hinf, hsz⟩ := sliceElem_spec he
   simp only [execOp, hop, h1, h2, St.den]
   simp [Instr.indexAt, asIntOf, run_underlying hu, hi0, hin, sizeOf_run hinf, hsz, offA_some]
  ·rename_i cv0 k i' he hx hi
   obtain ⟨h1, h1'⟩ := rd_sound hE hT hx
   obtain ⟨h2, _⟩ := rd_sound hE hT hi
   have h2' : a.eval i = .int k i' := h2
   split at hq
   ·rename_i ne hne
    split at hq
    ·rename_i q off
     simp only [Option.some.injEq, Prod.mk.injEq] at hq
     obtain ⟨rfl, rfl, rfl⟩ := hq
     obtain ⟨hi0, hin⟩ := hp _ rfl
     refine ⟨⟨?_, h1'⟩, .refl _⟩
     simp only [execOp, hop, h1, h2', St.den, Sem.run_bind, indexAt_arr hne _ k i' hi0 hin w, Result.andThen_ok, Sem.run_pure, addr_add, idxOff]
    ·rename_i A j
     simp only [Option.some.injEq, Prod.mk.injEq] at hq
     obtain ⟨rfl, rfl, rfl⟩ := hq
     obtain ⟨hi0, hin⟩ := hp _ rfl
     refine ⟨⟨?_, h1'⟩, .refl _⟩
     obtain ⟨p, rfl⟩ := Option.isSome_iff_exists.1 (show A.isSome = true from h1')
     simp only [execOp, hop, h1, h2', St.den, offA_some, Sem.run_bind, indexAt_arr hne _ k i' hi0 hin w, Result.andThen_ok, Sem.run_pure, add_add]
    ·rename_i A
     simp only [Option.some.injEq, Prod.mk.injEq] at hq
     obtain ⟨rfl, rfl, rfl⟩ := hq
     obtain ⟨hA, hi0, hin⟩ := hp _ rfl
     refine ⟨⟨?_, hA⟩, .refl _⟩
     obtain ⟨p, rfl⟩ := Option.isSome_iff_exists.1 hA
     simp only [execOp, hop, h1, h2', St.den, offA_some, Sem.run_bind, indexAt_arr hne _ k i' hi0 hin w, Result.andThen_ok, Sem.run_pure]
    ·cases hq
   ·cases hq
  ·cases hq
 -- shl
 ·rename_i t x y t' hop
  split at hq
  ·rename_i k a' k' b hx hy
   obtain ⟨h1, _⟩ := rd_sound hE hT hx
   obtain ⟨h2, _⟩ := rd_sound hE hT hy
   have main : 0 ≤ b → (execOp a.eval o).run P w = .ok (.value (.int k (k.wrap (a' * 2 ^ (min b.toNat k.bits))))) w := by
    intro hb
    simp only [execOp, hop, h1, h2, St.den]
    simp [eqGuard, binOp, Op.shift, show ¬ b < 0 by omega]
   dsimp only at hq
   split at hq
   ·rename_i k'' c
    have hbc : b = c := by simp only [St.rd, Option.some.injEq, CV.v.injEq, Value.int.injEq] at hy; exact hy.2.symm
    split at hq
    ·simp only [Option.some.injEq, Prod.mk.injEq] at hq
     obtain ⟨_, rfl, rfl⟩ := hq
     exact ⟨⟨main (by omega), trivial⟩, .refl _⟩
    ·cases hq
   ·simp only [Option.some.injEq, Prod.mk.injEq] at hq
    obtain ⟨rfl, rfl, rfl⟩ := hq
    exact ⟨⟨main (hp _ rfl), trivial⟩, .refl _⟩
  ·cases hq
 -- shr
 ·rename_i t x y t' hop
  split at hq
  ·rename_i k a' k' b hx hy
   obtain ⟨h1, _⟩ := rd_sound hE hT hx
   obtain ⟨h2, _⟩ := rd_sound hE hT hy
   have main : 0 ≤ b → (execOp a.eval o).run P w = .ok (.value (.int k (a'.fdiv (2 ^ (min b.toNat k.bits))))) w := by
    intro hb
    simp only [execOp, hop, h1, h2, St.den]
    simp [eqGuard, binOp, Op.shift, show ¬ b < 0 by omega]
   dsimp only at hq
   split at hq
   ·rename_i k'' c
    have hbc : b = c := by simp only [St.rd, Option.some.injEq, CV.v.injEq, Value.int.injEq] at hy; exact hy.2.symm
    split at hq
    ·simp only [Option.some.injEq, Prod.mk.injEq] at hq
     obtain ⟨_, rfl, rfl⟩ := hq
     exact ⟨⟨main (by omega), trivial⟩, .refl _⟩
    ·cases hq
   ·simp only [Option.some.injEq, Prod.mk.injEq] at hq
    obtain ⟨rfl, rfl, rfl⟩ := hq
    exact ⟨⟨main (hp _ rfl), trivial⟩, .refl _⟩
  ·cases hq
 -- quo
 ·rename_i t x y t' hop
  split at hq
  ·rename_i k a' k' b hx hy
   obtain ⟨h1, _⟩ := rd_sound hE hT hx
   obtain ⟨h2, _⟩ := rd_sound hE hT hy
   split at hq
   ·rename_i hk
    subst hk
    have main : b ≠ 0 → (execOp a.eval o).run P w = .ok (.value (.int k (k.wrap (a'.tdiv b)))) w := by
     intro hb
     simp only [execOp, hop, h1, h2, St.den]
     simp [eqGuard, binOp, Op.intDiv, hb]
    dsimp only at hq
    split at hq
    ·rename_i k'' c
     have hbc : b = c := by simp only [St.rd, Option.some.injEq, CV.v.injEq, Value.int.injEq] at hy; exact hy.2.symm
     split at hq
     ·cases hq
     ·simp only [Option.some.injEq, Prod.mk.injEq] at hq
      obtain ⟨_, rfl, rfl⟩ := hq
      exact ⟨⟨main (by omega), trivial⟩, .refl _⟩
    ·simp only [Option.some.injEq, Prod.mk.injEq] at hq
     obtain ⟨rfl, rfl, rfl⟩ := hq
     exact ⟨⟨main (hp _ rfl), trivial⟩, .refl _⟩
   ·cases hq
  ·cases hq
 -- rem
 ·rename_i t x y t' hop
  split at hq
  ·rename_i k a' k' b hx hy
   obtain ⟨h1, _⟩ := rd_sound hE hT hx
   obtain ⟨h2, _⟩ := rd_sound hE hT hy
   split at hq
   ·rename_i hk
    subst hk
    have main : b ≠ 0 → (execOp a.eval o).run P w = .ok (.value (.int k (a'.tmod b))) w := by
     intro hb
     simp only [execOp, hop, h1, h2, St.den]
     simp [eqGuard, binOp, Op.intDiv, hb]
    dsimp only at hq
    split at hq
    ·rename_i k'' c
     have hbc : b = c := by simp only [St.rd, Option.some.injEq, CV.v.injEq, Value.int.injEq] at hy; exact hy.2.symm
     split at hq
     ·cases hq
     ·simp only [Option.some.injEq, Prod.mk.injEq] at hq
      obtain ⟨_, rfl, rfl⟩ := hq
      exact ⟨⟨main (by omega), trivial⟩, .refl _⟩
    ·simp only [Option.some.injEq, Prod.mk.injEq] at hq
     obtain ⟨rfl, rfl, rfl⟩ := hq
     exact ⟨⟨main (hp _ rfl), trivial⟩, .refl _⟩
   ·cases hq
  ·cases hq
 -- build
 ·rename_i t parts hop
  split at hq
  ·rename_i fs z hu hz hc
   dsimp only at hq
   split at hq
   ·rename_i hk
    simp only [Bool.and_eq_true] at hk
    split at hq
    ·rename_i cs hf
     simp only [Option.some.injEq, Prod.mk.injEq] at hq
     obtain ⟨_, rfl, rfl⟩ := hq
     refine ⟨⟨?_, trivial⟩, Like.escs _ _ _⟩
     have e : (parts.map fun x => (x.1, a.eval x.2)) = (parts.toList.map fun q => (q.1, st.rho T q.2)).toArray := by
      apply Array.ext'
      simp only [Array.toList_map]
      apply List.map_congr_left
      intro q hq
      rw [eval_rho hE hT hc q.2 (List.mem_map.2 ⟨q, hq, rfl⟩)]
     have hr := build_run hu hz hk.1 hk.2 hf w
     simp only [execOp, hop, Sem.run_bind]
     rw [show (parts.map fun x => match x with | (i, x) => (i, a.eval x)) = (parts.map fun x => (x.1, a.eval x.2)) from rfl, e, hr]
     rfl
    ·cases hq
   ·cases hq
  ·rename_i n e' z hu hz hc
   dsimp only at hq
   split at hq
   ·rename_i hk
    simp only [Bool.and_eq_true] at hk
    split at hq
    ·rename_i cs hf
     simp only [Option.some.injEq, Prod.mk.injEq] at hq
     obtain ⟨_, rfl, rfl⟩ := hq
     refine ⟨⟨?_, trivial⟩, Like.escs _ _ _⟩
     have e : (parts.map fun x => (x.1, a.eval x.2)) = (parts.toList.map fun q => (q.1, st.rho T q.2)).toArray := by
      apply Array.ext'
      simp only [Array.toList_map]
      apply List.map_congr_left
      intro q hq
      rw [eval_rho hE hT hc q.2 (List.mem_map.2 ⟨q, hq, rfl⟩)]
     have hr := buildA_run hu hz hk.1 hk.2 hf w
     simp only [execOp, hop, Sem.run_bind]
     rw [show (parts.map fun x => match x with | (i, x) => (i, a.eval x)) = (parts.map fun x => (x.1, a.eval x.2)) from rfl, e, hr]
     rfl
    ·cases hq
   ·cases hq
  ·cases hq
 -- slice
 ·rename_i t x lo hi hop
  split at hq
  ·rename_i e A n c h l he hx hh hl
   simp only [Option.some.injEq, Prod.mk.injEq] at hq
   obtain ⟨rfl, rfl, rfl⟩ := hq
   obtain ⟨h1, _⟩ := rd_sound hE hT hx
   refine ⟨⟨?_, trivial⟩, .refl _⟩
   obtain ⟨hu, i, hinf, hsz⟩ := sliceElem_spec he
   have hs := sliceAt_run (P := P) hu hinf A n c (lo.map a.eval) (hi.map a.eval) l h
    (by rcases sliceEnd_spec hE hT hl with ⟨rfl, rfl⟩ | ⟨b, k, x, rfl, rfl, hb⟩
        ·exact .inl ⟨rfl, rfl⟩
        ·exact .inr ⟨k, x, by simp [hb], rfl⟩)
    (by rcases sliceEnd_spec hE hT hh with ⟨rfl, rfl⟩ | ⟨b, k, x, rfl, rfl, hb⟩
        ·exact .inl ⟨rfl, rfl⟩
        ·exact .inr ⟨k, x, by simp [hb], rfl⟩) hp w
   have h1' : a.eval x = .slice A n c := h1
   simp only [execOp, hop, h1', Option.map_none, Sem.run_bind, hs, Result.andThen_ok, Sem.run_pure]
   rfl
  ·rename_i s h l he hx hh hl
   split at hq
   ·rename_i hu
    simp only [Option.some.injEq, Prod.mk.injEq] at hq
    obtain ⟨rfl, rfl, rfl⟩ := hq
    obtain ⟨h1, _⟩ := rd_sound hE hT hx
    refine ⟨⟨?_, trivial⟩, .refl _⟩
    have hs := slicePc_run (P := P) hu s (lo.map a.eval) (hi.map a.eval) l h
     (by rcases sliceEnd_spec hE hT hl with ⟨rfl, rfl⟩ | ⟨b, k, x, rfl, rfl, hb⟩
         ·exact .inl ⟨rfl, rfl⟩
         ·exact .inr ⟨k, x, by simp [hb], rfl⟩)
     (by rcases sliceEnd_spec hE hT hh with ⟨rfl, rfl⟩ | ⟨b, k, x, rfl, rfl, hb⟩
         ·exact .inl ⟨rfl, rfl⟩
         ·exact .inr ⟨k, x, by simp [hb], rfl⟩) hp w
    have h1' : a.eval x = .string s := h1
    simp only [execOp, hop, h1', Option.map_none, Sem.run_bind, hs, Result.andThen_ok, Sem.run_pure]
    rfl
   ·cases hq
  ·cases hq
 -- a string's byte
 ·rename_i t x i hop
  split at hq
  ·rename_i s ki i' hu hx hi
   simp only [Option.some.injEq, Prod.mk.injEq] at hq
   obtain ⟨rfl, rfl, rfl⟩ := hq
   obtain ⟨h1, _⟩ := rd_sound hE hT hx
   obtain ⟨h2, _⟩ := rd_sound hE hT hi
   refine ⟨⟨?_, trivial⟩, .refl _⟩
   obtain ⟨p1, p2⟩ := hp _ rfl
   have h1' : a.eval x = .string s := h1
   have h2' : a.eval i = .int ki i' := h2
   simp only [execOp, hop, h1', h2', Sem.run_bind, strAt_run hu s ki i' p1 p2 w, Result.andThen_ok, Sem.run_pure]
   rfl
  ·cases hq
 -- slice, with its capacity
 ·rename_i t x lo hi mx hop
  split at hq
  ·rename_i e A n c kh h l km m he hx hh hl hm
   simp only [Option.some.injEq, Prod.mk.injEq] at hq
   obtain ⟨rfl, rfl, rfl⟩ := hq
   obtain ⟨h1, _⟩ := rd_sound hE hT hx
   obtain ⟨h2, _⟩ := rd_sound hE hT hh
   obtain ⟨h3, _⟩ := rd_sound hE hT hm
   refine ⟨⟨?_, trivial⟩, .refl _⟩
   obtain ⟨hu, i, hinf, hsz⟩ := sliceElem_spec he
   obtain ⟨p1, p2, p3⟩ := hp _ rfl
   have hs := sliceAt3_run (P := P) hu hinf A n c (lo.map a.eval) l kh km h m
    (by rcases sliceEnd_spec hE hT hl with ⟨rfl, rfl⟩ | ⟨b, k, x, rfl, rfl, hb⟩
        ·exact .inl ⟨rfl, rfl⟩
        ·exact .inr ⟨k, x, by simp [hb], rfl⟩) p1 p2 p3 w
   have h1' : a.eval x = .slice A n c := h1
   have h2' : a.eval hi = .int kh h := h2
   have h3' : a.eval mx = .int km m := h3
   simp only [execOp, hop, h1', h2', h3', Option.map_some, Sem.run_bind, hs, Result.andThen_ok, Sem.run_pure]
   rfl
  ·cases hq
 -- the rest
 ·split at hq
  ·rename_i b hb
   simp only [Option.some.injEq, Prod.mk.injEq] at hq
   obtain ⟨_, rfl, rfl⟩ := hq
   exact ⟨⟨nilCmp_run hb hE hT w, trivial⟩, .refl _⟩
  ·exact q_generic hq hE hT w
theorem quiet_like' (hq : quietOp P ops st T o = some (p, cv, st')) : Like st st' := by
 unfold quietOp at hq
 split at hq
 ·obtain ⟨c, hc, he⟩ := Option.map_eq_some_iff.1 hq; simp only [Prod.mk.injEq] at he; rw [← he.2.2]; exact .refl _
 ·obtain ⟨c, hc, he⟩ := Option.map_eq_some_iff.1 hq; simp only [Prod.mk.injEq] at he; rw [← he.2.2]; exact .refl _
 all_goals
  (repeat' (first
   | (cases hq; done)
   | (have e := (Prod.mk.inj (Prod.mk.inj (Option.some.inj hq)).2).2; rw [← e]; first | exact Like.refl _ | exact Like.escs _ _ _)
   | (dsimp only at hq; split at hq)
   | split at hq))
end
end Go.Cw
end
section
namespace Go.Cw
open Go
/-! ### Worlds -/
theorem Fr.refl (M : Nat → Prop) (w : World) : Fr M w w := ⟨rfl, rfl, rfl, Nat.le_refl _, fun _ _ _ => rfl⟩
theorem Fr.step {M : Nat → Prop} {w0 w w' : World} {ids : List Nat} (h : Fr M w0 w) (s : Stp M w0.heap.size ids w w') : Fr M w0 w' :=
 ⟨s.os.trans h.os, s.tape.trans h.tape, s.output.trans h.output, Nat.le_trans h.size s.size,
  fun k hk hM => (s.block k (Nat.lt_of_lt_of_le hk h.size) (.inl ⟨hk, hM⟩)).trans (h.block k hk hM)⟩
theorem Chg.refl (ids : List Nat) (w : World) : Chg ids w w := ⟨rfl, rfl, rfl, Nat.le_refl _, fun _ _ _ => rfl⟩
theorem box_lt {w : World} {b : Nat} {cs : List Value} {t : TypeId} (h : Box w b cs t) : b < w.heap.size := by
 unfold Box at h
 rcases Nat.lt_or_ge b w.heap.size with h' | h'
 ·exact h'
 ·rw [Array.getElem?_eq_none h'] at h; cases h
structure WOk (cx : Cx) (st : St) (w wa : World) : Prop where
 boxes : Boxes st wa
 own : ∀ b ∈ st.bx, cx.w0.heap.size ≤ b.id ∨ cx.M b.id
 nodup : st.ids.Nodup
 fr : Fr cx.M cx.w0 wa
 here : if st.dirty then Chg st.ids w wa else wa = w
theorem WOk.size_le {cx : Cx} {st : St} {w wa : World} (h : WOk cx st w wa) : w.heap.size ≤ wa.heap.size := by
 have := h.here
 split at this
 ·exact this.size
 ·rw [this]; exact Nat.le_refl _
theorem WOk.chg {cx : Cx} {st : St} {w wa : World} (h : WOk cx st w wa) : Chg st.ids w wa := by
 have := h.here
 split at this
 ·exact this
 ·rw [this]; exact Chg.refl _ _
theorem WOk.like {cx : Cx} {st st' : St} {w wa : World} (h : WOk cx st w wa) (l : Like st st') : WOk cx st' w wa where
 boxes := l.bx.boxes h.boxes
 own := by
  intro b hb
  have : b.id ∈ st'.bx.map (·.id) := List.mem_map.2 ⟨b, hb, rfl⟩
  rw [l.bx.ids] at this
  obtain ⟨b', hb', he⟩ := List.mem_map.1 this
  rw [← he]; exact h.own b' hb'
 nodup := by unfold St.ids; rw [l.bx.ids]; exact h.nodup
 fr := h.fr
 here := by
  have := h.here
  rw [l.dirty]
  unfold St.ids at *
  rw [l.bx.ids]; exact this
/-! ### The relation in a region -/
def Src (ops : Array Oper) (j : Nat) : Prop := ∃ o ∈ ops.toList, ∃ b, o.guard = some (j, b)
def Coh (ops : Array Oper) (st : St) : List (Nat × Bool) → Prop
 | [] => True
 | (j, _) :: r => ∃ d e, (ops[j]?).bind (·.dst) = some d ∧ st.env[d]? = some (some e) ∧ e.tg = r ∧ Coh ops st r
structure RelR (cx : Cx) (ops : Array Oper) (dn : Nat → Bool) (st : St) (a : Act) (w wa : World) : Prop where
 env : EnvOk (Gd ops a) st a
 wok : WOk cx st w wa
 defers : a.defers = []
 vers : ∀ (t : Nat) (e : En), st.env[t]? = some (some e) → e.vr < st.ctr
 versB : ∀ b ∈ st.bx, ∀ c ∈ b.cs, c.2 < st.ctr
 tags : ∀ (t : Nat) (e : En), st.env[t]? = some (some e) → ∀ x ∈ e.tg, dn x.1 = true ∧ Src ops x.1
 coh : ∀ (t : Nat) (e : En), st.env[t]? = some (some e) → Coh ops st e.tg
 ci : ∀ (j d : Nat) (e : En) (b : Bool), (ops[j]?).bind (·.dst) = some d → st.env[d]? = some (some e) → dn j = true → yielded ops a.tmps j = some b → Gd ops a e.tg
theorem dstOk_spec {ops : Array Oper} (h : dstOk ops = true) {j : Nat} (hs : Src ops j) : ∃ d, (ops[j]?).bind (·.dst) = some d ∧ ∀ i, (ops[i]?).bind (·.dst) = some d → i = j := by
 obtain ⟨o, ho, b, hb⟩ := hs
 have := List.all_eq_true.1 h o ho
 simp only [hb] at this
 split at this
 ·cases this
 ·rename_i d hd
  refine ⟨d, hd, fun i hi => ?_⟩
  have hlt : i < ops.size := by
   rcases Nat.lt_or_ge i ops.size with h' | h'
   ·exact h'
   ·rw [Array.getElem?_eq_none h'] at hi; cases hi
  have := List.all_eq_true.1 this i (List.mem_range.2 hlt)
  simp only [hi, Bool.or_eq_true, beq_iff_eq, bne_self_eq_false, Bool.false_eq_true, or_false] at this
  exact this
structure Aft (st st' : St) : Prop where
 env : st'.env = st.env
 ctr : st.ctr ≤ st'.ctr
 bx : ∀ (k : Nat) (b : Bx), st.bx[k]? = some b → ∃ b', st'.bx[k]? = some b' ∧ b'.id = b.id ∧ b'.ty = b.ty ∧ b'.cs.length = b.cs.length ∧ ∀ (j : Nat) (c : Value × Nat), b'.cs[j]? = some c → c.2 < st.ctr → b.cs[j]? = some c
structure Agr (st st' : St) : Prop where
 ctr : st.ctr ≤ st'.ctr
 len : st'.env.length = st.env.length
 env : ∀ (t : Nat) (e : En), st'.env[t]? = some (some e) → e.vr < st.ctr → st.env[t]? = some (some e)
 bx : ∀ (k : Nat) (b : Bx), st.bx[k]? = some b → ∃ b', st'.bx[k]? = some b' ∧ b'.id = b.id ∧ b'.ty = b.ty ∧ b'.cs.length = b.cs.length ∧ ∀ (j : Nat) (c : Value × Nat), b'.cs[j]? = some c → c.2 < st.ctr → b.cs[j]? = some c
theorem Agr.refl (st : St) : Agr st st := ⟨Nat.le_refl _, rfl, fun _ _ h _ => h, fun _ b h => ⟨b, h, rfl, rfl, rfl, fun _ _ h _ => h⟩⟩
theorem Agr.trans {a b c : St} (h : Agr a b) (k : Agr b c) : Agr a c where
 ctr := Nat.le_trans h.ctr k.ctr
 len := k.len.trans h.len
 env := fun t e he hv => h.env t e (k.env t e he (Nat.lt_of_lt_of_le hv h.ctr)) hv
 bx := fun i b hb => by
  obtain ⟨b1, h1, h2, h3, h4, h5⟩ := h.bx i b hb
  obtain ⟨b2, k1, k2, k3, k4, k5⟩ := k.bx i b1 h1
  exact ⟨b2, k1, k2.trans h2, k3.trans h3, k4.trans h4, fun j c hc hv => h5 j c (k5 j c hc (Nat.lt_of_lt_of_le hv h.ctr)) hv⟩
theorem Aft.agr {st st' : St} (h : Aft st st') : Agr st st' := ⟨h.ctr, by rw [h.env], fun _ _ he _ => by rw [h.env] at he; exact he, h.bx⟩
theorem sameBx_get {l l' : List Bx} (h : SameBx l l') {k : Nat} {b : Bx} (hb : l'[k]? = some b) : ∃ b', l[k]? = some b' ∧ b'.id = b.id ∧ b'.cs = b.cs ∧ b'.ty = b.ty := by
 have : (l.map (fun b => (b.id, b.cs, b.ty)))[k]? = some (b.id, b.cs, b.ty) := by rw [h, List.getElem?_map, hb]; rfl
 rw [List.getElem?_map] at this
 obtain ⟨b', hb', he⟩ := Option.map_eq_some_iff.1 this
 simp only [Prod.mk.injEq] at he
 exact ⟨b', hb', he.1, he.2.1, he.2.2⟩
theorem Like.aft {st st' : St} (h : Like st st') : Aft st st' := ⟨h.env, by rw [h.ctr]; exact Nat.le_refl _, fun k b hb => by
 obtain ⟨b', h1, h2, h3, h4⟩ := sameBx_get h.bx hb
 exact ⟨b', h1, h2, h4, by rw [h3], fun j c hc _ => by rw [← h3]; exact hc⟩⟩
theorem Aft.trans {a b c : St} (h : Aft a b) (k : Aft b c) : Aft a c := ⟨k.env.trans h.env, Nat.le_trans h.ctr k.ctr, (h.agr.trans k.agr).bx⟩
theorem agr_den {st st' : St} (h : ∀ (k : Nat) (b : Bx), st.bx[k]? = some b → ∃ b', st'.bx[k]? = some b' ∧ b'.id = b.id) {cv : CV} (hc : CvOk st cv) : st'.den cv = st.den cv ∧ CvOk st' cv := by
 cases cv with
 | v x => exact ⟨rfl, trivial⟩
 | o x => exact ⟨rfl, trivial⟩
 | ep A j => exact ⟨rfl, hc⟩
 | bp k off =>
   simp only [CvOk] at hc
   obtain ⟨b', h1, h2⟩ := h k st.bx[k] (List.getElem?_eq_getElem hc)
   have hlt : k < st'.bx.length := (List.getElem?_eq_some_iff.1 h1).1
   refine ⟨?_, hlt⟩
   simp only [St.den, St.idAt, h1, List.getElem?_eq_getElem hc, h2]
theorem Aft.den {st st' : St} (h : Aft st st') {cv : CV} (hc : CvOk st cv) : st'.den cv = st.den cv ∧ CvOk st' cv :=
 agr_den (fun k b hb => let ⟨b', h1, h2, _⟩ := h.bx k b hb; ⟨b', h1, h2⟩) hc
theorem yielded_put {ops : Array Oper} (hd : dstOk ops = true) {i : Nat} {o : Oper} (hi : ops[i]? = some o) (a : Act) (v : Value) {j : Nat} (hj : Src ops j) (hne : j ≠ i) :
 yielded ops (a.put o.dst v).tmps j = yielded ops a.tmps j := by
 obtain ⟨d, h1, h2⟩ := dstOk_spec hd hj
 unfold yielded
 rw [h1]
 simp only [Option.bind_some]
 have : (a.put o.dst v).tmps[d]? = a.tmps[d]? := by
  cases hdst : o.dst with
  | none => rfl
  | some d' =>
    have hdd : d' ≠ d := by
     rintro rfl
     exact hne (h2 i (by simp [hi, hdst])).symm
    simp only [Act.put]
    exact Array.getElem?_setIfInBounds_ne hdd
 rw [this]
theorem gd_put {ops : Array Oper} (hd : dstOk ops = true) {i : Nat} {o : Oper} (hi : ops[i]? = some o) (a : Act) (v : Value) {T : List (Nat × Bool)} (hT : ∀ x ∈ T, Src ops x.1 ∧ x.1 ≠ i) :
 Gd ops (a.put o.dst v) T ↔ Gd ops a T := by
 unfold Gd
 constructor <;> intro h x hx
 ·rw [← yielded_put hd hi a v (hT x hx).1 (hT x hx).2]; exact h x hx
 ·rw [yielded_put hd hi a v (hT x hx).1 (hT x hx).2]; exact h x hx
theorem env_set_get {l : List (Option En)} {d t : Nat} {x : Option En} {e : En} (h : (l.set d x)[t]? = some (some e)) : (t = d ∧ x = some e ∧ d < l.length) ∨ (t ≠ d ∧ l[t]? = some (some e)) := by
 rw [List.getElem?_set] at h
 split at h
 ·rename_i hdt
  subst hdt
  split at h
  ·exact .inl ⟨rfl, Option.some.inj h, by assumption⟩
  ·cases h
 ·rename_i hdt
  exact .inr ⟨fun h' => hdt h'.symm, h⟩
theorem coh_put {ops : Array Oper} (hd : dstOk ops = true) {i : Nat} {o : Oper} (hi : ops[i]? = some o) {st st1 : St} (henv : st1.env = st.env) (cv : CV) (T' : List (Nat × Bool)) :
 ∀ T : List (Nat × Bool), (∀ x ∈ T, Src ops x.1 ∧ x.1 ≠ i) → Coh ops st T → Coh ops (st1.put o.dst cv T') T
 | [], _, _ => trivial
 | (j, b) :: r, hT, ⟨d, e, h1, h2, h3, h4⟩ => by
   refine ⟨d, e, h1, ?_, h3, coh_put hd hi henv cv T' r (fun x hx => hT x (by simp [hx])) h4⟩
   cases hdst : o.dst with
   | none => simp only [St.put, henv]; exact h2
   | some d' =>
     have hdd : d' ≠ d := by
      rintro rfl
      obtain ⟨d2, k1, k2⟩ := dstOk_spec hd (hT (j, b) (by simp)).1
      rw [h1] at k1
      obtain rfl := Option.some.inj k1
      exact (hT (j, b) (by simp)).2 (k2 i (by simp [hi, hdst])).symm
     simp only [St.put, henv]
     rw [List.getElem?_set_ne hdd]; exact h2
theorem put_rel {cx : Cx} {ops : Array Oper} (hd : dstOk ops = true) {dn : Nat → Bool} {st st1 : St} {a : Act} {w wa w1 wa1 : World} {i : Nat} {o : Oper} {T : List (Nat × Bool)} {cv : CV} {v : Value}
 (hR : RelR cx ops dn st a w wa) (hi : ops[i]? = some o) (hdn : dn i = false) (hT : ∀ x ∈ T, dn x.1 = true ∧ Src ops x.1) (hcoh : Coh ops st T)
 (hA : Aft st st1) (hW : WOk cx st1 w1 wa1) (hvB : ∀ b ∈ st1.bx, ∀ c ∈ b.cs, c.2 < st1.ctr)
 (hv1 : Gd ops a T → v = st1.den cv ∧ CvOk st1 cv) (hv2 : Gd ops a T ∨ v = undef) :
 RelR cx ops (fun j => dn j || j == i) (st1.put o.dst cv T) (a.put o.dst v) w1 wa1 ∧ Agr st (st1.put o.dst cv T) := by
 have hne : ∀ x : Nat × Bool, dn x.1 = true → x.1 ≠ i := fun x hx he => by rw [he, hdn] at hx; cases hx
 have hT' : ∀ x ∈ T, Src ops x.1 ∧ x.1 ≠ i := fun x hx => ⟨(hT x hx).2, hne x (hT x hx).1⟩
 have hEt : ∀ (t : Nat) (e : En), st.env[t]? = some (some e) → ∀ x ∈ e.tg, Src ops x.1 ∧ x.1 ≠ i := fun t e he x hx => ⟨(hR.tags t e he x hx).2, hne x (hR.tags t e he x hx).1⟩
 have hbx : (st1.put o.dst cv T).bx = st1.bx := by cases o.dst <;> rfl
 have hids : (st1.put o.dst cv T).ids = st1.ids := by unfold St.ids; rw [hbx]
 have hdirty : (st1.put o.dst cv T).dirty = st1.dirty := by cases o.dst <;> rfl
 have hctr : st1.ctr ≤ (st1.put o.dst cv T).ctr := by cases o.dst <;> simp [St.put]
 have hden : ∀ c, (st1.put o.dst cv T).den c = st1.den c := by intro c; cases c <;> simp only [St.den, St.idAt, hbx]
 have hcv : ∀ c, CvOk (st1.put o.dst cv T) c ↔ CvOk st1 c := by intro c; cases c <;> simp only [CvOk, hbx]
 have hsz : st1.env.length = st.env.length := by rw [hA.env]
 -- the entries
 have hent : ∀ (t : Nat) (e : En), (st1.put o.dst cv T).env[t]? = some (some e) → (o.dst = some t ∧ e = ⟨cv, T, st1.ctr⟩ ∧ t < st.env.length) ∨ (o.dst ≠ some t ∧ st.env[t]? = some (some e)) := by
  intro t e he
  cases hdst : o.dst with
  | none => rw [hdst] at he; simp only [St.put, hA.env] at he; exact .inr ⟨by simp, he⟩
  | some d =>
    rw [hdst] at he
    simp only [St.put] at he
    rcases env_set_get he with ⟨rfl, h2, h3⟩ | ⟨h1, h2⟩
    ·exact .inl ⟨rfl, (Option.some.inj h2).symm, by rw [← hsz]; exact h3⟩
    ·exact .inr ⟨fun h => h1 (Option.some.inj h).symm, by rw [← hA.env]; exact h2⟩
 have htm : ∀ t, o.dst ≠ some t → (a.put o.dst v).tmps[t]? = a.tmps[t]? := by
  intro t ht
  cases hdst : o.dst with
  | none => rfl
  | some d =>
    have : d ≠ t := by rintro rfl; exact ht hdst
    simp only [Act.put]
    exact Array.getElem?_setIfInBounds_ne this
 have htd : ∀ t, o.dst = some t → t < st.env.length → (a.put o.dst v).tmps[t]? = some v := by
  intro t ht hlt
  rw [ht]
  simp only [Act.put]
  have : t < a.tmps.size := by rw [hR.env.size]; exact hlt
  simp [this]
 refine ⟨⟨⟨?_, ?_⟩, ⟨?_, ?_, ?_, hW.fr, ?_⟩, ?_, ?_, ?_, ?_, ?_, ?_⟩, ⟨?_, ?_, ?_, ?_⟩⟩
 ·have : (a.put o.dst v).tmps.size = a.tmps.size := by cases o.dst <;> simp [Act.put]
  rw [this, hR.env.size, ← hsz]
  cases o.dst <;> simp [St.put]
 ·intro t e he hg
  rcases hent t e he with ⟨h1, rfl, h3⟩ | ⟨h1, h2⟩
  ·have hg' := (gd_put hd hi a v hT').1 hg
   obtain ⟨k1, k2⟩ := hv1 hg'
   exact ⟨by rw [htd t h1 h3, hden, k1], (hcv _).2 k2⟩
  ·have hg' := (gd_put hd hi a v (hEt t e h2)).1 hg
   obtain ⟨k1, k2⟩ := hR.env.env t e h2 hg'
   obtain ⟨k3, k4⟩ := hA.den k2
   exact ⟨by rw [htm t h1, k1, hden, k3], (hcv _).2 k4⟩
 ·intro b hb; rw [hbx] at hb; exact hW.boxes b hb
 ·intro b hb; rw [hbx] at hb; exact hW.own b hb
 ·rw [hids]; exact hW.nodup
 ·rw [hdirty, hids]; exact hW.here
 ·cases o.dst <;> exact hR.defers
 ·intro t e he
  rcases hent t e he with ⟨h1, rfl, h3⟩ | ⟨h1, h2⟩
  ·rw [h1]; simp [St.put]
  ·exact Nat.lt_of_lt_of_le (hR.vers t e h2) (Nat.le_trans hA.ctr hctr)
 ·intro b hb c hc
  rw [hbx] at hb
  exact Nat.lt_of_lt_of_le (hvB b hb c hc) hctr
 ·intro t e he x hx
  rcases hent t e he with ⟨h1, rfl, h3⟩ | ⟨h1, h2⟩
  ·exact ⟨by simp [(hT x hx).1], (hT x hx).2⟩
  ·exact ⟨by simp [(hR.tags t e h2 x hx).1], (hR.tags t e h2 x hx).2⟩
 ·intro t e he
  rcases hent t e he with ⟨h1, rfl, h3⟩ | ⟨h1, h2⟩
  ·exact coh_put hd hi hA.env cv T T hT' hcoh
  ·exact coh_put hd hi hA.env cv T e.tg (hEt t e h2) (hR.coh t e h2)
 ·intro j d e b hj he hdj hy
  rcases hent d e he with ⟨h1, rfl, h3⟩ | ⟨h1, h2⟩
  ·refine (gd_put hd hi a v hT').2 ?_
   rcases hv2 with h | h
   ·exact h
   ·exfalso
    unfold yielded at hy
    rw [hj] at hy
    simp only [Option.bind_some] at hy
    rw [htd d h1 h3, h] at hy
    cases hy
  ·refine (gd_put hd hi a v (hEt d e h2)).2 ?_
   have hy' : yielded ops a.tmps j = some b := by
    unfold yielded at hy ⊢
    rw [hj] at hy ⊢
    simp only [Option.bind_some, htm d h1] at hy ⊢
    exact hy
   have hji : j ≠ i := by
    rintro rfl
    rw [hi] at hj
    exact h1 hj
   refine hR.ci j d e b hj h2 ?_ hy'
   simpa [hji] using hdj
 ·exact Nat.le_trans hA.ctr hctr
 ·rw [← hsz]; cases o.dst <;> simp [St.put]
 ·intro t e he hv
  rcases hent t e he with ⟨h1, rfl, h3⟩ | ⟨h1, h2⟩
  ·exact absurd hv (Nat.not_lt.2 hA.ctr)
  ·exact h2
 ·intro k b hb
  rw [hbx]
  exact hA.bx k b hb
end Go.Cw
end
section
namespace Go.Cw
open Go
section
variable {cx : Cx} {ops : Array Oper} {dn : Nat → Bool} {st : St} {a : Act} {w wa : World}
theorem gx1_spec (hR : RelR cx ops dn st a w wa) {j d : Nat} {b g : Bool} {e : En} (hd : (ops[j]?).bind (·.dst) = some d) (he : st.env[d]? = some (some e)) (hg : gx1 st ops j b = some g) (hT : Gd ops a e.tg) :
 ∃ c, yielded ops a.tmps j = some c ∧ (g = true ↔ c = b) := by
 unfold gx1 at hg
 rw [hd] at hg
 simp only [he] at hg
 split at hg
 ·rename_i c tg vr heq
  simp only [Option.some.injEq] at heq
  subst heq
  obtain ⟨h1, _⟩ := hR.env.env d _ he hT
  refine ⟨c, yielded_tmp hd h1, ?_⟩
  simp only [Option.some.injEq] at hg
  subst hg
  cases b <;> cases c <;> simp
 ·cases hg
theorem gx_spec (hR : RelR cx ops dn st a w wa) : ∀ {T : List (Nat × Bool)} {g : Bool}, Coh ops st T → gx st ops T = some g → (g = true ↔ Gd ops a T)
 | [], g, _, h => by
   simp only [gx, Option.some.injEq] at h
   subst h
   simp [Gd]
 | [(j, b)], g, ⟨d, e, h1, h2, h3, _⟩, h => by
   simp only [gx] at h
   obtain ⟨c, hc, hg⟩ := gx1_spec hR h1 h2 h (by rw [h3]; intro x hx; cases hx)
   rw [hg]
   simp only [Gd, List.mem_singleton, forall_eq, hc, Option.some.injEq]
 | (j, b) :: y :: r, g, ⟨d, e, h1, h2, h3, h4⟩, h => by
   simp only [gx] at h
   split at h
   ·rename_i c' d' hc' hd'
    simp only [Option.some.injEq] at h
    subst h
    have ih := gx_spec hR h4 hd'
    simp only [Bool.and_eq_true]
    constructor
    ·rintro ⟨k1, k2⟩
     have hr := ih.1 k1
     obtain ⟨c, hc, hg⟩ := gx1_spec hR h1 h2 hc' (by rw [h3]; exact hr)
     intro x hx
     rcases List.mem_cons.1 hx with rfl | hx
     ·simp only; rw [hc, hg.1 k2]
     ·exact hr x hx
    ·intro hG
     have hr : Gd ops a (y :: r) := fun x hx => hG x (List.mem_cons_of_mem _ hx)
     obtain ⟨c, hc, hg⟩ := gx1_spec hR h1 h2 hc' (by rw [h3]; exact hr)
     refine ⟨ih.2 hr, hg.2 ?_⟩
     have := hG (j, b) (by simp)
     simp only [hc, Option.some.injEq] at this
     exact this
   ·cases h
theorem gImp_spec (hR : RelR cx ops dn st a w wa) {T : List (Nat × Bool)} {p : Prop} (hC : Coh ops st T) (h : gImp st ops T p) (hT : Gd ops a T) : p := by
 unfold gImp at h
 split at h
 ·exact h
 ·split at h
  ·rename_i g hg
   exact h ((gx_spec hR hC hg).2 hT)
  ·exact h.elim
theorem tagSt_spec (hR : RelR cx ops dn st a w wa) {i : Nat} {o : Oper} (hi : ops[i]? = some o) {T : List (Nat × Bool)} (h : tagSt ops dn st o = some T) :
 (∀ x ∈ T, dn x.1 = true ∧ Src ops x.1) ∧ Coh ops st T ∧ (Region.wanted o (yielded ops a.tmps) = true ↔ Gd ops a T) := by
 unfold tagSt at h
 split at h
 ·rename_i hg
  simp only [Option.some.injEq] at h
  subst h
  refine ⟨fun x hx => (by cases hx), trivial, ?_⟩
  simp [Region.wanted, hg, Gd]
 ·rename_i j b hg
  split at h
  ·rename_i hdn
   split at h
   ·rename_i d hd
    split at h
    ·rename_i e he
     simp only [Option.some.injEq] at h
     subst h
     have hmem : o ∈ ops.toList := by
      rw [← Array.getElem?_toList] at hi
      exact List.mem_of_getElem? hi
     refine ⟨fun x hx => ?_, ⟨d, e, hd, he, rfl, hR.coh d e he⟩, ?_⟩
     ·rcases List.mem_cons.1 hx with rfl | hx
      ·exact ⟨hdn, o, hmem, b, hg⟩
      ·exact hR.tags d e he x hx
     ·simp only [Region.wanted, hg, beq_iff_eq]
      constructor
      ·intro hy x hx
       rcases List.mem_cons.1 hx with rfl | hx
       ·exact hy
       ·exact hR.ci j d e b hd he hdn hy x hx
      ·intro hG
       exact hG (j, b) (by simp)
    ·cases h
   ·cases h
  ·cases h
end
/-! ### Boxes come and are written -/
theorem addBx_boxes {cx : Cx} {st : St} {w wa : World} (h : WOk cx st w wa) (l : List Value) (t : TypeId) :
 WOk cx (st.addBx wa.heap.size l t) w (wa.alloc (.cells l.toArray t)) := by
 have hlt : ∀ b ∈ st.bx, b.id < wa.heap.size := fun b hb => box_lt (h.boxes b hb)
 have hold : ∀ k, k < wa.heap.size → (wa.alloc (.cells l.toArray t)).heap[k]? = wa.heap[k]? := fun k hk => RowKit.Below.heap_alloc _ _ _ hk
 refine ⟨?_, ?_, ?_, ?_, ?_⟩
 ·intro b hb
  simp only [St.addBx, List.mem_append, List.mem_singleton] at hb
  rcases hb with hb | rfl
  ·have := h.boxes b hb
   unfold Box at *
   rw [hold _ (hlt b hb)]; exact this
  ·unfold Box
   show (wa.heap.push _)[wa.heap.size]? = _
   rw [Array.getElem?_push_size]
   simp [Function.comp_def]
 ·intro b hb
  simp only [St.addBx, List.mem_append, List.mem_singleton] at hb
  rcases hb with hb | rfl
  ·exact h.own b hb
  ·exact .inl h.fr.size
 ·simp only [St.ids, St.addBx, List.map_append, List.map_cons, List.map_nil]
  rw [List.nodup_append]
  refine ⟨h.nodup, by simp, ?_⟩
  intro x hx y hy
  obtain ⟨b, hb, rfl⟩ := List.mem_map.1 hx
  simp only [List.mem_singleton] at hy
  subst hy
  exact Nat.ne_of_lt (hlt b hb)
 ·refine ⟨h.fr.os, h.fr.tape, h.fr.output, by have := h.fr.size; simp; omega, fun k hk hM => ?_⟩
  rw [hold k (Nat.lt_of_lt_of_le hk h.fr.size)]
  exact h.fr.block k hk hM
 ·simp only [St.addBx, if_true]
  have hc := h.chg
  refine ⟨hc.os, hc.tape, hc.output, by have := hc.size; simp; omega, fun k hk hn => ?_⟩
  rw [hold k (Nat.lt_of_lt_of_le hk hc.size)]
  refine hc.block k hk fun hm => hn ?_
  simp only [St.ids, List.map_append, List.mem_append] at hm ⊢
  exact .inl hm
theorem addBx_aft (st : St) (b : Nat) (l : List Value) (t : TypeId) : Aft st (st.addBx b l t) :=
 ⟨rfl, by simp [St.addBx], fun k x hx => ⟨x, by simp only [St.addBx]; rw [List.getElem?_append_left (List.getElem?_eq_some_iff.1 hx).1]; exact hx, rfl, rfl, rfl, fun _ _ h _ => h⟩⟩
theorem setRow_other (w : World) (g : Nat) (cs : Array Value) (k : Nat) (h : k ≠ g) : (w.setRow g cs).heap[k]? = w.heap[k]? := by
 simp only [World.setRow, Array.getElem?_modify]
 rw [if_neg (by omega)]
theorem upd_setRow {w : World} {b : Nat} {cs : List Value} {t : TypeId} (h : Box w b cs t) (cs' : List Value) : Upd w b cs' t (w.setRow b cs'.toArray) :=
 ⟨setRow_heap w b _ _ t _ h, rfl, rfl, rfl, by simp [World.setRow], fun k hk => setRow_other w b _ k hk⟩
theorem oneB_cell {v : Value} (h : oneB v = true) : v.oneCell' = true := by cases v <;> first | rfl | cases h
theorem store_run {P : Program} {w : World} {b o : Nat} {cs l : List Value} {t t' : TypeId} (hb : Box w b cs t) (hle : o + l.length ≤ cs.length) (h1 : l.all oneB = true) {v : Value} (hv : v.cells.toList = l)
 {i : TypeInfo} (hi : P.info? t' = some i) (hs : l.length = P.cellsOf t') :
 (Instr.storeAt t' (.pointer (some ⟨b, o, none⟩)) v).run P w = .ok () (w.setRow b (cs.take o ++ l ++ cs.drop (o + l.length)).toArray) := by
 have hr := run_storeCells_at (P := P) b o t l 0 cs.toArray w hb (by simpa using hle) (fun v hv => oneB_cell (List.all_eq_true.1 h1 v hv))
 have hsz : v.cells.size = i.size := by
  have : P.cellsOf t' = i.size := by simp [Program.cellsOf, hi]
  rw [← Array.length_toList, hv, hs, this]
 simp only [Instr.storeAt, Sem.run_bind, sureAddr_run, Result.andThen_ok, storeVar, sizeOf_run hi, hsz, ne_eq, not_true, if_false, hv]
 simpa using hr
end Go.Cw
end
section
namespace Go.Cw
open Go
theorem RelR.like {cx : Cx} {ops : Array Oper} {dn : Nat → Bool} {st st' : St} {a : Act} {w wa : World} (h : RelR cx ops dn st a w wa) (l : Like st st') : RelR cx ops dn st' a w wa where
 env := ⟨by rw [l.env]; exact h.env.size, fun t e he hg => by
  rw [l.env] at he
  obtain ⟨h1, h2⟩ := h.env.env t e he hg
  exact ⟨by rw [den_same l.bx]; exact h1, cvOk_same l.bx h2⟩⟩
 wok := h.wok.like l
 defers := h.defers
 vers := by rw [l.env, l.ctr]; exact h.vers
 versB := by
  intro b hb c hc
  have : (b.id, b.cs, b.ty) ∈ st.bx.map (fun b => (b.id, b.cs, b.ty)) := by rw [← l.bx]; exact List.mem_map.2 ⟨b, hb, rfl⟩
  obtain ⟨b', hb', he⟩ := List.mem_map.1 this
  simp only [Prod.mk.injEq] at he
  rw [l.ctr]
  exact h.versB b' hb' c (by rw [he.2.1]; exact hc)
 tags := by rw [l.env]; exact h.tags
 coh := by
  rw [l.env]
  intro t e he
  have gen : ∀ T, Coh ops st T → Coh ops st' T := by
   intro T
   induction T with
   | nil => intro _; trivial
   | cons x r ih =>
     obtain ⟨j, b⟩ := x
     rintro ⟨d, e, h1, h2, h3, h4⟩
     exact ⟨d, e, h1, by rw [l.env]; exact h2, h3, ih h4⟩
  exact gen _ (h.coh t e he)
 ci := by rw [l.env]; exact h.ci
theorem coh_like {ops : Array Oper} {st st' : St} (l : st'.env = st.env) : ∀ {T : List (Nat × Bool)}, Coh ops st T → Coh ops st' T
 | [], _ => trivial
 | (_, _) :: _, ⟨d, e, h1, h2, h3, h4⟩ => ⟨d, e, h1, by rw [l]; exact h2, h3, coh_like l h4⟩
structure Dr (st st' : St) (wa wa' : World) : Prop where
 block : ∀ k, k ∈ st.ids ++ st.pins → k < wa.heap.size → wa'.heap[k]? = wa.heap[k]?
 pins : ∀ p ∈ st.pins, p ∈ st'.pins
 bx : ∀ (k : Nat) (b : Bx), st.bx[k]? = some b → ∃ b', st'.bx[k]? = some b' ∧ b'.id = b.id ∧ b'.cs = b.cs ∧ b'.ty = b.ty
def DrOk (dr : Bool) (o : Oper) (st st' : St) (wa wa' : World) : Prop := wa.heap.size ≤ wa'.heap.size ∧ (dr = true → isStore o = false → Dr st st' wa wa')
def After (cx : Cx) (ops : Array Oper) (dn : Nat → Bool) (dr : Bool) (i : Nat) (o : Oper) (st : St) (wa : World) (k : St → World → Prop) (a' : Act) (wa' : World) : Prop :=
 ∃ st' w', RelR cx ops (fun j => dn j || j == i) st' a' w' wa' ∧ Agr st st' ∧ k st' w' ∧ DrOk dr o st st' wa wa'
theorem Dr.like {st st1 st' : St} {wa wa' : World} (l : Like st st1) (h : Dr st1 st' wa wa') : Dr st st' wa wa' where
 block := by
  intro k hk
  refine h.block k ?_
  rw [List.mem_append] at hk ⊢
  unfold St.ids at *
  rw [l.bx.ids, l.pins]; exact hk
 pins := by rw [← l.pins]; exact h.pins
 bx := by
  intro k b hb
  obtain ⟨b1, h1, h2, h3, h4⟩ := sameBx_get l.bx hb
  obtain ⟨b2, k1, k2, k3, k4⟩ := h.bx k b1 h1
  exact ⟨b2, k1, k2.trans h2, k3.trans h3, k4.trans h4⟩
theorem After.like {cx : Cx} {ops : Array Oper} {dn : Nat → Bool} {dr : Bool} {i : Nat} {o : Oper} {st st1 : St} {wa : World} {k : St → World → Prop} {a' : Act} {wa' : World} (l : Like st st1)
 (h : After cx ops dn dr i o st1 wa k a' wa') : After cx ops dn dr i o st wa k a' wa' := by
 obtain ⟨st', w', h1, h2, h3, h4, h5⟩ := h
 exact ⟨st', w', h1, l.aft.agr.trans h2, h3, h4, fun hd hs => (h5 hd hs).like l⟩
theorem flush_at {cx : Cx} {st : St} {w wa : World} {k : World → Prop} (h : flush cx st w k) (hW : WOk cx st w wa) : k wa := by
 unfold flush at h
 have := hW.here
 split at h
 ·rename_i hd
  rw [if_pos hd] at this
  exact h wa this hW.fr
 ·rename_i hd
  rw [if_neg hd] at this
  rw [this]; exact h
theorem boxHyps_at {w : World} : ∀ {l : List Bx} {p : Prop}, boxHyps w l p → (∀ b ∈ l, Box w b.id (b.cs.map (·.1)) b.ty) → p
 | [], _, h, _ => h
 | b :: r, p, h, hb => by
   simp only [boxHyps] at h
   split at h
   ·exact boxHyps_at (h (hb b (by simp))) (fun x hx => hb x (by simp [hx]))
   ·exact boxHyps_at h (fun x hx => hb x (by simp [hx]))
theorem ltHyp_at {st : St} {w : World} {p : Prop} (h : ltHyp st w p) (hB : Boxes st w) : p := by
 unfold ltHyp at h
 split at h
 ·exact h
 ·refine h fun k hk => ?_
  obtain ⟨b, hb, rfl⟩ := List.mem_map.1 hk
  exact box_lt (hB b hb)
theorem boxAsks_get {w : World} : ∀ {l : List Bx} {p : Prop}, boxAsks w l p → (∀ b ∈ l, b.esc = true → Box w b.id (b.cs.map (·.1)) b.ty) ∧ p
 | [], _, h => ⟨fun b hb => (by cases hb), h⟩
 | b :: r, p, h => by
   simp only [boxAsks] at h
   split at h
   ·obtain ⟨h1, h2⟩ := h
    obtain ⟨h3, h4⟩ := boxAsks_get h2
    exact ⟨fun x hx he => by rcases List.mem_cons.1 hx with rfl | hx; exact h1; exact h3 x hx he, h4⟩
   ·rename_i hn
    obtain ⟨h3, h4⟩ := boxAsks_get h
    exact ⟨fun x hx he => by rcases List.mem_cons.1 hx with rfl | hx; exact absurd he hn; exact h3 x hx he, h4⟩
theorem rsCv_den (st : St) (rs : Rs) {vs : List Value} (h : vs.length = rs.ks.length) : st.den (rsCv rs vs) = rs.mk vs ∧ CvOk st (rsCv rs vs) := by
 cases rs with
 | many shs => exact ⟨rfl, trivial⟩
 | one sh =>
   simp only [rsCv, shCv, Rs.mk, mkOne]
   split
   ·exact ⟨rfl, trivial⟩
   ·split
    ·exact ⟨kcv_den _ _ _, kcv_ok _ _ _⟩
    ·rename_i hk
     have : vs = [] := by
      apply List.eq_nil_of_length_eq_zero
      rw [h]; simp [Rs.ks, hk]
     subst this
     exact ⟨rfl, trivial⟩
theorem escBx_get {P : Program} (vr : Nat) : ∀ {l : List Bx} {vs : List Value}, escFit P l = true → vs.length = (escKs P l).length → ∀ (k : Nat) (b : Bx), l[k]? = some b →
 ∃ b', (escBx vr l vs)[k]? = some b' ∧ b'.id = b.id ∧ b'.ty = b.ty ∧ b'.esc = b.esc ∧ b'.cs.length = b.cs.length ∧ ((b.esc = false ∧ b'.cs = b.cs) ∨ (b.esc = true ∧ ∀ c ∈ b'.cs, c.2 = vr))
 | [], _, _, _, k, b, hb => by simp at hb
 | b0 :: r, vs, hf, hl, k, b, hb => by
   simp only [escFit, Bool.and_eq_true] at hf
   by_cases he : b0.esc = true
   ·simp only [he, if_true] at hf
    simp only [escKs, he, if_true] at hl
    cases hs : shOf P b0.ty with
    | none => simp [hs] at hf
    | some sh =>
      simp only [hs, beq_iff_eq] at hf hl
      simp only [List.length_append] at hl
      simp only [escBx, he, if_true]
      cases k with
      | zero =>
        simp only [List.getElem?_cons_zero, Option.some.injEq] at hb
        subst hb
        refine ⟨_, rfl, rfl, rfl, he.symm, by simp; omega, .inr ⟨he, fun c hc => ?_⟩⟩
        obtain ⟨v, _, rfl⟩ := List.mem_map.1 hc
        rfl
      | succ k =>
        simp only [List.getElem?_cons_succ] at hb ⊢
        exact escBx_get vr hf.2 (by simp; omega) k b hb
   ·have he' : b0.esc = false := by simpa using he
    simp only [he', Bool.false_eq_true, if_false] at hf
    simp only [escKs, he', Bool.false_eq_true, if_false] at hl
    simp only [escBx, he', Bool.false_eq_true, if_false]
    cases k with
    | zero =>
      simp only [List.getElem?_cons_zero, Option.some.injEq] at hb
      subst hb
      exact ⟨_, rfl, rfl, rfl, rfl, rfl, .inl ⟨he', rfl⟩⟩
    | succ k =>
      simp only [List.getElem?_cons_succ] at hb ⊢
      exact escBx_get vr hf.2 hl k b hb
theorem escBx_length (vr : Nat) : ∀ (l : List Bx) (vs : List Value), (escBx vr l vs).length = l.length
 | [], _ => rfl
 | b :: r, vs => by simp only [escBx]; split <;> simp [escBx_length vr r]
theorem escBx_ids (vr : Nat) : ∀ (l : List Bx) (vs : List Value), (escBx vr l vs).map (·.id) = l.map (·.id)
 | [], _ => rfl
 | b :: r, vs => by simp only [escBx]; split <;> simp [escBx_ids vr r]
theorem escNow_cells {P : Program} (vr : Nat) : ∀ {l : List Bx} {rest : List Value}, escFit P l = true → ∀ (k : Nat) (b : Bx), l[k]? = some b →
 ∃ b', (escBx vr l (escNow l ++ rest))[k]? = some b' ∧ b'.id = b.id ∧ b'.ty = b.ty ∧ b'.cs.map (·.1) = b.cs.map (·.1)
 | [], _, _, k, b, hb => by simp at hb
 | b0 :: r, rest, hf, k, b, hb => by
   simp only [escFit, Bool.and_eq_true] at hf
   by_cases he : b0.esc = true
   ·simp only [escNow, escBx, he, if_true]
    cases k with
    | zero =>
      simp only [List.getElem?_cons_zero, Option.some.injEq] at hb
      subst hb
      refine ⟨_, rfl, rfl, rfl, ?_⟩
      simp [List.append_assoc, Function.comp_def]
    | succ k =>
      simp only [List.getElem?_cons_succ] at hb ⊢
      have : (List.map (fun x => x.fst) b0.cs ++ escNow r ++ rest).drop b0.cs.length = escNow r ++ rest := by
       rw [List.append_assoc, List.drop_append_of_le_length (by simp)]; simp
      rw [this]
      exact escNow_cells vr hf.2 k b hb
   ·have he' : b0.esc = false := by simpa using he
    simp only [escNow, escBx, he', Bool.false_eq_true, if_false]
    cases k with
    | zero =>
      simp only [List.getElem?_cons_zero, Option.some.injEq] at hb
      subst hb
      exact ⟨_, rfl, rfl, rfl, rfl⟩
    | succ k =>
      simp only [List.getElem?_cons_succ] at hb ⊢
      exact escNow_cells vr hf.2 k b hb
theorem mem_get {α : Type} {l : List α} {x : α} (h : x ∈ l) : ∃ k : Nat, l[k]? = some x := List.getElem?_of_mem h
section
variable {cx : Cx} {ops : Array Oper} {dn : Nat → Bool} {dr : Bool} {i : Nat} {o : Oper} {st : St} {a : Act} {w wa : World} {T : List (Nat × Bool)} {k : St → World → Prop} {Q : Exit → Act → World → Prop}
theorem after_ok (hR : RelR cx ops dn st a w wa) (hf : escFit cx.P st.bx = true) {vs : List Value} (hl : vs.length = (st.anew cx.P dr).length) {w2 : World}
 (hst : Stp cx.M cx.w0.heap.size (st.kept dr) wa w2) (hasks : dr = false → ∀ b ∈ escBx st.ctr st.bx vs, b.esc = true → Box w2 b.id (b.cs.map (·.1)) b.ty) :
 Aft st (st.after dr vs) ∧ WOk cx (st.after dr vs) w2 w2 ∧ (∀ b ∈ (st.after dr vs).bx, ∀ c ∈ b.cs, c.2 < (st.after dr vs).ctr) := by
 have hfr := hR.wok.fr.step hst
 have hlt : ∀ b ∈ st.bx, b.id < wa.heap.size := fun b hb => box_lt (hR.wok.boxes b hb)
 cases dr with
 | true =>
   simp only [St.after, if_true]
   refine ⟨⟨rfl, by simp, fun k b hb => ⟨b, hb, rfl, rfl, rfl, fun _ _ h _ => h⟩⟩, ⟨fun b hb => ?_, hR.wok.own, hR.wok.nodup, hfr, by simp⟩, fun b hb c hc => Nat.lt_succ_of_lt (hR.versB b hb c hc)⟩
   have := hR.wok.boxes b hb
   unfold Box at *
   rw [hst.block b.id (hlt b hb) (.inr (by simp only [St.kept, if_true, List.mem_append]; exact .inl (List.mem_map.2 ⟨b, hb, rfl⟩)))]
   exact this
 | false =>
   simp only [St.after, Bool.false_eq_true, if_false]
   simp only [St.anew, Bool.false_eq_true, if_false] at hl
   have hg := escBx_get (P := cx.P) st.ctr hf hl
   have hback : ∀ b' ∈ escBx st.ctr st.bx vs, ∃ (k : Nat) (b : Bx), st.bx[k]? = some b ∧ (escBx st.ctr st.bx vs)[k]? = some b' := by
    intro b' hb'
    obtain ⟨k, hk⟩ := mem_get hb'
    have hlt : k < st.bx.length := by rw [← escBx_length st.ctr st.bx vs]; exact (List.getElem?_eq_some_iff.1 hk).1
    exact ⟨k, st.bx[k], List.getElem?_eq_getElem hlt, hk⟩
   refine ⟨⟨rfl, by simp, fun k b hb => ?_⟩, ⟨fun b' hb' => ?_, fun b' hb' => ?_, ?_, hfr, by simp⟩, fun b' hb' c hc => ?_⟩
   ·obtain ⟨b', h1, h2, h3, h4, h5, h6⟩ := hg k b hb
    refine ⟨b', h1, h2, h3, h5, fun j c hc hv => ?_⟩
    rcases h6 with ⟨_, h6⟩ | ⟨_, h6⟩
    ·rw [← h6]; exact hc
    ·have := h6 c (List.mem_of_getElem? hc)
     omega
   ·obtain ⟨k, b, hb, hk⟩ := hback b' hb'
    obtain ⟨b2, h1, h2, h3, h4, h5, h6⟩ := hg k b hb
    rw [hk] at h1
    obtain rfl := Option.some.inj h1
    rcases h6 with ⟨h6, h7⟩ | ⟨h6, h7⟩
    ·have hm := List.mem_of_getElem? hb
     have := hR.wok.boxes b hm
     unfold Box at *
     rw [h2, h3, h7, hst.block b.id (hlt b hm) (.inr ?_)]
     ·exact this
     ·simp only [St.kept, Bool.false_eq_true, if_false, St.keeps]
      exact List.mem_map.2 ⟨b, List.mem_filter.2 ⟨hm, by simp [h6]⟩, rfl⟩
    ·exact hasks rfl b' hb' (by rw [h4]; exact h6)
   ·obtain ⟨k, b, hb, hk⟩ := hback b' hb'
    obtain ⟨b2, h1, h2, _⟩ := hg k b hb
    rw [hk] at h1
    obtain rfl := Option.some.inj h1
    rw [h2]; exact hR.wok.own b (List.mem_of_getElem? hb)
   ·unfold St.ids
    rw [escBx_ids]; exact hR.wok.nodup
   ·obtain ⟨k, b, hb, hk⟩ := hback b' hb'
    obtain ⟨b2, h1, h2, h3, h4, h5, h6⟩ := hg k b hb
    rw [hk] at h1
    obtain rfl := Option.some.inj h1
    rcases h6 with ⟨_, h6⟩ | ⟨_, h6⟩
    ·rw [h6] at hc; exact Nat.lt_succ_of_lt (hR.versB b (List.mem_of_getElem? hb) c hc)
    ·have := h6 c hc
     show c.2 < st.ctr + 1
     omega
theorem after_dr {vs : List Value} {w2 : World} {cv : CV} {d : Option Tmp} (hst : Stp cx.M cx.w0.heap.size (st.kept dr) wa w2) (o : Oper) : DrOk dr o st ((st.after dr vs).put d cv T) wa w2 := by
 refine ⟨hst.size, fun hd _ => ?_⟩
 subst hd
 have hb : ((st.after true vs).put d cv T).bx = st.bx := by cases d <;> rfl
 have hp : ((st.after true vs).put d cv T).pins = st.pins := by cases d <;> rfl
 refine ⟨fun k hk hlt => hst.block k hlt (.inr (by simpa [St.kept] using hk)), fun p h => by rw [hp]; exact h, fun k b h => ⟨b, by rw [hb]; exact h, rfl, rfl, rfl⟩⟩
theorem effW_sound (hd : dstOk ops = true) (hR : RelR cx ops dn st a w wa) (hi : ops[i]? = some o) (hdn : dn i = false) (hT : ∀ x ∈ T, dn x.1 = true ∧ Src ops x.1) (hcoh : Coh ops st T)
 (hf : escFit cx.P st.bx = true) {rs : Rs} {E : (Value → World → Prop) → Prop} (hmono : ∀ R R' : Value → World → Prop, (∀ v w, R v w → R' v w) → E R → E R')
 (hrun : Gd ops a T → ∀ next : Act → World → Prop, E (fun v w2 => next (a.put o.dst v) w2) → o.wp cx.P a wa next Q)
 (h : effW cx ops dr st T rs o.dst wa E k) :
 (Gd ops a T → o.wp cx.P a wa (After cx ops dn dr i o st wa k) Q) ∧ (¬ Gd ops a T → After cx ops dn dr i o st wa k (a.put o.dst undef) wa) := by
 have core : ∀ (v : Value) (w2 : World) (vs : List Value), vs.length = (rs.ks ++ st.anew cx.P dr).length → v = rs.mk (vs.take rs.ks.length) → Stp cx.M cx.w0.heap.size (st.kept dr) wa w2 →
  (dr = false → ∀ b ∈ escBx st.ctr st.bx (vs.drop rs.ks.length), b.esc = true → Box w2 b.id (b.cs.map (·.1)) b.ty) → Gd ops a T →
  k ((st.after dr (vs.drop rs.ks.length)).put o.dst (rsCv rs (vs.take rs.ks.length)) T) w2 → After cx ops dn dr i o st wa k (a.put o.dst v) w2 := by
  intro v w2 vs hl hv hst hasks hG hk
  simp only [List.length_append] at hl
  obtain ⟨h1, h2, h3⟩ := after_ok hR hf (vs := vs.drop rs.ks.length) (by simp; omega) hst hasks
  obtain ⟨h4, h5⟩ := rsCv_den (st.after dr (vs.drop rs.ks.length)) rs (vs := vs.take rs.ks.length) (by simp; omega)
  obtain ⟨h6, h7⟩ := put_rel hd hR hi hdn hT hcoh h1 h2 h3 (cv := rsCv rs (vs.take rs.ks.length)) (v := v) (fun _ => ⟨by rw [hv, h4], h5⟩) (.inl hG)
  exact ⟨_, w2, h6, h7, hk, after_dr hst o⟩
 cases T with
 | nil =>
   have hG : Gd ops a [] := fun x hx => (by cases hx)
   refine ⟨fun _ => hrun hG _ (hmono _ _ (fun v w2 hv => ?_) h), fun hn => absurd hG hn⟩
   obtain ⟨vs, hl, hv', hst, hasks⟩ := exKs_ex hv
   unfold St.asks at hasks
   cases hdr : dr with
   | true =>
     subst hdr
     simp only [if_true] at hasks
     exact core v w2 vs hl hv' hst (fun h => by cases h) hG (hasks (hR.wok.fr.step hst))
   | false =>
     subst hdr
     simp only [Bool.false_eq_true, if_false] at hasks
     obtain ⟨hb, hk⟩ := boxAsks_get hasks
     exact core v w2 vs hl hv' hst (fun _ => hb) hG (hk (hR.wok.fr.step hst))
 | cons t r =>
   simp only [effW] at h
   cases hg : gx st ops (t :: r) with
   | none => rw [hg] at h; exact h.elim
   | some g =>
     rw [hg] at h
     have hgx := gx_spec hR hcoh hg
     obtain ⟨h1, h2⟩ := h (fun vs w2 => k ((st.after dr (vs.drop rs.ks.length)).put o.dst (rsCv rs (vs.take rs.ks.length)) (t :: r)) w2) (allKs_of fun vs w2 _ hk => hk)
     refine ⟨fun hG => hrun hG _ (hmono _ _ (fun v w2 hv => ?_) (h1 (hgx.2 hG))), fun hn => ?_⟩
     ·obtain ⟨vs, hl, hv', hst, hasks⟩ := exKs_ex hv
      unfold St.asks at hasks
      cases hdr : dr with
      | true =>
        subst hdr
        simp only [if_true] at hasks
        exact core v w2 vs hl hv' hst (fun h => by cases h) hG hasks
      | false =>
        subst hdr
        simp only [Bool.false_eq_true, if_false] at hasks
        obtain ⟨hb, hk⟩ := boxAsks_get hasks
        exact core v w2 vs hl hv' hst (fun _ => hb) hG hk
     ·have hgf : g = false := by
       cases g with
       | false => rfl
       | true => exact absurd (hgx.1 rfl) hn
      obtain ⟨vs, hl, hk⟩ := exKs_ex (h2 hgf)
      have hdrop : (vs ++ (if dr then [] else escNow st.bx)).drop rs.ks.length = if dr then [] else escNow st.bx := by rw [← hl]; simp
      rw [hdrop] at hk
      have hst : Stp cx.M cx.w0.heap.size (st.kept dr) wa wa := ⟨rfl, rfl, rfl, Nat.le_refl _, fun _ _ _ => rfl⟩
      have hlen : dr = false → (escNow st.bx).length = (escKs cx.P st.bx).length := by
       intro _
       have gen : ∀ l : List Bx, escFit cx.P l = true → (escNow l).length = (escKs cx.P l).length := by
        intro l
        induction l with
        | nil => intro _; rfl
        | cons b l ih =>
          intro hf
          simp only [escFit, Bool.and_eq_true] at hf
          simp only [escNow, escKs]
          split
          ·rename_i he
           simp only [he, if_true] at hf
           cases hs : shOf cx.P b.ty with
           | none => simp [hs] at hf
           | some sh =>
             simp only [hs, beq_iff_eq] at hf
             simp [ih hf.2, hf.1]
          ·exact ih hf.2
       exact gen _ hf
      obtain ⟨k1, k2, k3⟩ := after_ok hR hf (dr := dr) (vs := if dr then [] else escNow st.bx) (by cases dr <;> simp [St.anew, hlen]) hst (by
       intro hdr b' hb' _
       subst hdr
       simp only [Bool.false_eq_true, if_false] at hb'
       obtain ⟨q, hq⟩ := mem_get hb'
       have hlt : q < st.bx.length := by rw [← escBx_length st.ctr st.bx (escNow st.bx)]; exact (List.getElem?_eq_some_iff.1 hq).1
       obtain ⟨b2, j1, j2, j3, j4⟩ := escNow_cells (P := cx.P) st.ctr (rest := []) hf q st.bx[q] (List.getElem?_eq_getElem hlt)
       rw [List.append_nil] at j1
       rw [hq] at j1
       obtain rfl := Option.some.inj j1
       rw [j2, j3, j4]
       exact hR.wok.boxes _ (List.getElem_mem hlt))
      obtain ⟨h6, h7⟩ := put_rel hd hR hi hdn hT hcoh k1 k2 k3 (cv := rsCv rs ((vs ++ (if dr then [] else escNow st.bx)).take rs.ks.length)) (v := undef) (fun hG => absurd hG hn) (.inr rfl)
      exact ⟨_, wa, h6, h7, hk, after_dr hst o⟩
end
end Go.Cw
end
section
namespace Go.Cw
open Go
def OkFns (cx : Cx) : Prop := ∀ f, cx.ok f = true → ∀ args w, (callFunc f args).run cx.P w = .ok (.enter f args) w
theorem shOf_len {P : Program} {t : TypeId} {sh : Sh} (h : loadSh P t = some sh) : shOf P t = some sh ∧ (∃ d, P.underlying t = some d) ∧ sh.agg = aggB P t ∧ P.cellsOf t = sh.ks.length ∧ (sh.agg = true ∨ sh.ks.length = 1) := by
 unfold loadSh at h
 split at h
 ·rename_i sh' d hs hu
  split at h
  ·rename_i hc
   obtain rfl := Option.some.inj h
   exact ⟨hs, ⟨d, hu⟩, hc.1, hc.2.1, hc.2.2⟩
  ·cases h
 ·cases h
theorem load_run {P : Program} {t : TypeId} {sh : Sh} (h : loadSh P t = some sh) {w : World} {A : Option Addr} {j : Nat} {vs : List Value} (hl : vs.length = sh.ks.length) (hc : Cells w A j vs) (st : St) :
 (Instr.loadAt t (.pointer (offA A j))).run P w = .ok (st.den (shCv sh vs)) w := by
 obtain ⟨_, ⟨d, hd⟩, hag, hn, hor⟩ := shOf_len h
 obtain ⟨p, rfl, hcell⟩ := hc
 obtain ⟨i, hi, hsz⟩ := underlying_info hd
 simp only [Instr.loadAt, offA_some, Sem.run_bind, sureAddr_run, Result.andThen_ok, loadVar, isAgg_run hd]
 cases hb : aggB P t with
 | true =>
   have hr := run_loadCells_list (P := P) w (p.add j) vs (fun m v hm => by rw [hcell m (List.getElem?_eq_some_iff.1 hm).1]; exact hm)
   rw [hl, ← hn, ← hsz] at hr
   simp only [if_true, Sem.run_bind, sizeOf_run hi, Result.andThen_ok, hr, Sem.run_pure, shCv, hag, hb]
   rfl
 | false =>
   have hag' : sh.agg = false := by rw [hag, hb]
   have h1 : sh.ks.length = 1 := by rcases hor with h | h; rw [hag'] at h; cases h; exact h
   obtain ⟨v, rfl⟩ : ∃ v, vs = [v] := List.length_eq_one_iff.1 (hl.trans h1)
   obtain ⟨k, hk⟩ := List.length_eq_one_iff.1 h1
   have hcell0 := hcell 0 (by simp)
   rw [show (p.add j).add 0 = p.add j from rfl] at hcell0
   simp only [Bool.false_eq_true, if_false, run_load, hcell0, shCv, hag', hk, List.getElem?_cons_zero, List.headD_cons, kcv_den]
theorem shCv_ok (st : St) (sh : Sh) (vs : List Value) : CvOk st (shCv sh vs) := by
 unfold shCv
 split
 ·trivial
 ·split
  ·exact kcv_ok _ _ _
  ·trivial
theorem wrBx_get (st : St) (kk off : Nat) (l : List Value) (k : Nat) (b : Bx) (hb : st.bx[k]? = some b) :
 (st.wrBx kk off l).bx[k]? = some (if kk = k then { b with cs := b.cs.take off ++ (l.map fun v => (v, st.ctr)) ++ b.cs.drop (off + l.length) } else b) := by
 simp only [St.wrBx, List.getElem?_modify, hb]
 show some _ = some _
 split <;> rfl
theorem wrBx_ids (st : St) (kk off : Nat) (l : List Value) : (st.wrBx kk off l).ids = st.ids := by
 unfold St.ids
 apply List.ext_getElem?
 intro k
 simp only [List.getElem?_map]
 cases hb : st.bx[k]? with
 | none =>
   have : (st.wrBx kk off l).bx[k]? = none := by simp [St.wrBx, List.getElem?_modify, hb]
   rw [this]
 | some b => rw [wrBx_get st kk off l k b hb]; split <;> rfl
section
variable {cx : Cx} {ops : Array Oper} {dn : Nat → Bool} {dr : Bool} {i : Nat} {o : Oper} {st : St} {a : Act} {w wa : World} {T : List (Nat × Bool)} {k : St → World → Prop} {Q : Exit → Act → World → Prop}
theorem wp_value {v : Value} {w' : World} {next : Act → World → Prop} (h : (execOp a.eval o).run cx.P wa = .ok (.value v) w') (hn : next (a.put o.dst v) w') : o.wp cx.P a wa next Q := by
 unfold Oper.wp; rw [h]; exact hn
theorem wp_skip {w' : World} {next : Act → World → Prop} (h : (execOp a.eval o).run cx.P wa = .ok .skip w') (hn : next (a.put o.dst undef) w') : o.wp cx.P a wa next Q := by
 unfold Oper.wp; rw [h]; exact hn
theorem wrBx_ok (hR : RelR cx ops dn st a w wa) {kk off : Nat} {l : List Value} {b : Bx} (hb : st.bx[kk]? = some b) (hle : off + l.length ≤ b.cs.length) :
 let w' := wa.setRow b.id ((b.cs.map (·.1)).take off ++ l ++ (b.cs.map (·.1)).drop (off + l.length)).toArray
 Aft st (st.wrBx kk off l) ∧ WOk cx (st.wrBx kk off l) w w' ∧ (∀ b ∈ (st.wrBx kk off l).bx, ∀ c ∈ b.cs, c.2 < (st.wrBx kk off l).ctr) := by
 intro w'
 have hm := List.mem_of_getElem? hb
 have hu := upd_setRow (hR.wok.boxes b hm) ((b.cs.map (·.1)).take off ++ l ++ (b.cs.map (·.1)).drop (off + l.length))
 have hback : ∀ b' ∈ (st.wrBx kk off l).bx, ∃ (k : Nat) (b0 : Bx), st.bx[k]? = some b0 ∧ b' = if kk = k then { b0 with cs := b0.cs.take off ++ (l.map fun v => (v, st.ctr)) ++ b0.cs.drop (off + l.length) } else b0 := by
  intro b' hb'
  obtain ⟨q, hq⟩ := mem_get hb'
  have hlt : q < st.bx.length := by
   have := (List.getElem?_eq_some_iff.1 hq).1
   simpa [St.wrBx] using this
  have h2 := wrBx_get st kk off l q st.bx[q] (List.getElem?_eq_getElem hlt)
  rw [hq] at h2
  exact ⟨q, st.bx[q], List.getElem?_eq_getElem hlt, Option.some.inj h2⟩
 have hinj : ∀ (q : Nat) (b0 : Bx), st.bx[q]? = some b0 → b0.id = b.id → q = kk := by
  intro q b0 hq he
  have h1 : st.ids[q]? = some b.id := by simp [St.ids, hq, he]
  have h2 : st.ids[kk]? = some b.id := by simp [St.ids, hb]
  exact (List.getElem?_inj (List.getElem?_eq_some_iff.1 h1).1 hR.wok.nodup).1 (h1.trans h2.symm)
 refine ⟨⟨rfl, by simp [St.wrBx], fun q b0 hq => ?_⟩, ⟨fun b' hb' => ?_, fun b' hb' => ?_, ?_, ?_, ?_⟩, fun b' hb' c hc => ?_⟩
 ·refine ⟨_, wrBx_get st kk off l q b0 hq, ?_, ?_, ?_, ?_⟩
  ·split <;> rfl
  ·split <;> rfl
  ·split
   ·rename_i he
    subst he
    rw [hb] at hq
    obtain rfl := Option.some.inj hq
    simp; omega
   ·rfl
  ·intro j c hc hv
   split at hc
   ·rename_i he
    subst he
    rw [hb] at hq
    obtain rfl := Option.some.inj hq
    simp only at hc
    rw [List.getElem?_append] at hc
    split at hc
    ·rw [List.getElem?_append] at hc
     split at hc
     ·rw [List.getElem?_take] at hc
      split at hc
      ·exact hc
      ·cases hc
     ·rw [List.getElem?_map] at hc
      obtain ⟨v, _, rfl⟩ := Option.map_eq_some_iff.1 hc
      exact absurd hv (Nat.lt_irrefl _)
    ·rename_i hlt
     rw [List.getElem?_drop] at hc
     simp only [List.length_append, List.length_take, List.length_map] at hlt hc
     rw [show off + l.length + (j - (min off b.cs.length + l.length)) = j by omega] at hc
     exact hc
   ·exact hc
 ·obtain ⟨q, b0, hq, rfl⟩ := hback b' hb'
  by_cases he : kk = q
  ·subst he
   rw [hb] at hq
   obtain rfl := Option.some.inj hq
   rw [if_pos rfl]
   have := hu.box
   simpa [w', Function.comp_def] using this
  ·rw [if_neg he]
   have hne : b0.id ≠ b.id := fun h => he (hinj q b0 hq h).symm
   have := hR.wok.boxes b0 (List.mem_of_getElem? hq)
   unfold Box at *
   rw [hu.block _ hne]; exact this
 ·obtain ⟨q, b0, hq, rfl⟩ := hback b' hb'
  have := hR.wok.own b0 (List.mem_of_getElem? hq)
  split <;> exact this
 ·rw [wrBx_ids]; exact hR.wok.nodup
 ·have hf := hR.wok.fr
  refine ⟨hf.os, hf.tape, hf.output, by rw [hu.size]; exact hf.size, fun q hq hM => ?_⟩
  rw [hu.block q ?_]
  ·exact hf.block q hq hM
  ·rintro rfl
   rcases hR.wok.own b hm with h | h
   ·omega
   ·exact hM h
 ·have hc := hR.wok.chg
  rw [wrBx_ids]
  simp only [St.wrBx, if_true]
  refine ⟨hc.os, hc.tape, hc.output, by rw [hu.size]; exact hc.size, fun q hq hn => ?_⟩
  rw [hu.block q ?_]
  ·exact hc.block q hq hn
  ·rintro rfl
   exact hn (List.mem_map.2 ⟨b, hm, rfl⟩)
 ·obtain ⟨q, b0, hq, rfl⟩ := hback b' hb'
  show c.2 < st.ctr + 1
  have hold := hR.versB b0 (List.mem_of_getElem? hq)
  split at hc
  ·simp only [List.mem_append, List.mem_map] at hc
   rcases hc with (hc | ⟨v, _, rfl⟩) | hc
   ·exact Nat.lt_succ_of_lt (hold c (List.mem_of_mem_take hc))
   ·exact Nat.lt_succ_self _
   ·exact Nat.lt_succ_of_lt (hold c (List.mem_of_mem_drop hc))
  ·exact Nat.lt_succ_of_lt (hold c hc)
theorem callV_mono {F : Value} {args : List Value} {w : World} {R R' : Ending → World → Prop} (h : CallV cx.P cx.ok F args w R) (hr : ∀ e w, R e w → R' e w) : CallV cx.P cx.ok F args w R' := by
 unfold CallV at *
 split at h
 ·exact ⟨h.1, Calls.mono h.2 hr⟩
 ·exact h.elim
theorem semUpon_mono {P : Program} {s : Sem Value} {w : World} {R R' : Value → World → Prop} (h : semUpon P s w R) (hr : ∀ v w, R v w → R' v w) : semUpon P s w R' := by
 unfold semUpon at *
 split at h
 ·exact hr _ _ h
 ·exact h
theorem idAt_get {kk : Nat} {b : Bx} (h : st.bx[kk]? = some b) : st.idAt kk = b.id := by simp [St.idAt, h]
theorem clean_wok (h : WOk cx st w wa) : WOk cx st.clean wa wa := ⟨h.boxes, h.own, h.nodup, h.fr, by simp [St.clean]⟩
theorem cellsK_at {cv : CV} {p : List Value → Prop} (h : cellsK st cv p) : p (st.den cv).cells.toList := by
 cases cv with
 | o F =>
   obtain ⟨⟨h1, _⟩, h2⟩ := h
   show p F.cells.toList
   rw [h1]
   exact h2
 | v x => exact h
 | bp k off => exact h
 | ep A j => exact h
theorem oneK_all {cv : CV} {p : List Value → Prop} (h : cellsK st cv p) (h1 : oneK cv (st.den cv).cells.toList = true) : (st.den cv).cells.toList.all oneB = true := by
 cases cv with
 | o F =>
   obtain ⟨⟨h2, h3⟩, _⟩ := h
   show F.cells.toList.all oneB = true
   rw [h2]
   simp [h3]
 | v x => exact h1
 | bp k off => exact h1
 | ep A j => exact h1
theorem mem_sound (hd : dstOk ops = true) (hR : RelR cx ops dn st a w wa) (hi : ops[i]? = some o) (hdn : dn i = false) (hT : ∀ x ∈ T, dn x.1 = true ∧ Src ops x.1) (hcoh : Coh ops st T)
 (h : memOp cx ops dr st T o w k) :
 (Gd ops a T → o.wp cx.P a wa (After cx ops dn dr i o st wa k) Q) ∧ (¬ Gd ops a T → After cx ops dn dr i o st wa k (a.put o.dst undef) wa) := by
 unfold memOp at h
 dsimp only at h
 split at h
 ·rename_i rs s hmem hcan hrs hs
  have hlk : Like st (st.escs T (semOpnds o)) := Like.escs _ _ _
  have hR' := hR.like hlk
  have hcoh' := coh_like (ops := ops) hlk.env hcoh
  split at h
  ·rename_i hfit
   have h' := boxHyps_at (ltHyp_at (flush_at h hR'.wok) hR'.wok.boxes) hR'.wok.boxes
   obtain ⟨m1, m2⟩ := semOpnds_mem hs
   obtain ⟨k1, k2⟩ := effW_sound (Q := Q) hd hR' hi hdn hT hcoh' hfit (fun R R' hRR hE => semUpon_mono hE hRR)
    (fun hG next hE => by
     unfold semUpon at hE
     split at hE
     ·rename_i v w' hv
      refine wp_value ?_ hE
      rw [execOp_congr o m1 (fun x hx => eval_rho hR.env hG hcan x (m2 x hx)), semOf_run hs, hv]
      rfl
     ·exact hE.elim) h'
   exact ⟨fun hG => Oper.wp_mono (fun a' w' => After.like hlk) (k1 hG), fun hn => (k2 hn).like hlk⟩
  ·exact h.elim
 ·exact h.elim
theorem eff_sound (hok : OkFns cx) (hd : dstOk ops = true) (hR : RelR cx ops dn st a w wa) (hi : ops[i]? = some o) (hdn : dn i = false) (hT : ∀ x ∈ T, dn x.1 = true ∧ Src ops x.1) (hcoh : Coh ops st T)
 (h : effOp cx ops dr st T o w k) :
 (Gd ops a T → o.wp cx.P a wa (After cx ops dn dr i o st wa k) Q) ∧ (¬ Gd ops a T → After cx ops dn dr i o st wa k (a.put o.dst undef) wa) := by
 have hG0 : Gd ops a [] := fun x hx => (by cases hx)
 unfold effOp at h
 split at h
 -- box
 ·rename_i t x hop
  split at h
  ·rename_i cv hcv
   have h := cellsK_at h
   refine ⟨fun _ => ?_, fun hn => absurd hG0 hn⟩
   obtain ⟨h1, _⟩ := rd_sound hR.env hG0 hcv
   have hlk := Like.esc1 st cv
   have hR' := hR.like hlk
   have hlt : wa.heap.size ∉ st.ids := fun hm => by
    obtain ⟨b, hb, he⟩ := List.mem_map.1 hm
    have := box_lt (hR.wok.boxes b hb)
    omega
   have hk := h wa.heap.size hR.wok.size_le hlt
   have hden : (st.den cv) = (st.esc1 cv).den cv := (den_same hlk.bx cv).symm
   have hw := addBx_boxes hR'.wok ((st.den cv).cells.toList) t
   have hB : ∀ b ∈ ((st.esc1 cv).addBx wa.heap.size ((st.den cv).cells.toList) t).bx, ∀ c ∈ b.cs, c.2 < ((st.esc1 cv).addBx wa.heap.size ((st.den cv).cells.toList) t).ctr := by
    intro b hb c hc
    simp only [St.addBx, List.mem_append, List.mem_singleton] at hb ⊢
    rcases hb with hb | rfl
    ·exact Nat.lt_succ_of_lt (hR'.versB b hb c hc)
    ·obtain ⟨v, _, rfl⟩ := List.mem_map.1 hc
     exact Nat.lt_succ_self _
   have hlen : (st.esc1 cv).bx.length = st.bx.length := hlk.bx.length
   have hnew : ((st.esc1 cv).addBx wa.heap.size ((st.den cv).cells.toList) t).den (.bp st.bx.length 0) = .pointer (some ⟨wa.heap.size, 0, none⟩) := by
    simp [St.den, St.idAt, St.addBx, ← hlen]
   obtain ⟨h6, h7⟩ := put_rel hd hR hi hdn hT hcoh (hlk.aft.trans (addBx_aft _ wa.heap.size ((st.den cv).cells.toList) t)) hw hB (cv := .bp st.bx.length 0) (v := .pointer (some ⟨wa.heap.size, 0, none⟩))
    (fun _ => ⟨hnew.symm, by simp [CvOk, St.addBx, hlen]⟩) (.inl hG0)
   have hrun : (execOp a.eval o).run cx.P wa = .ok (.value (.pointer (some ⟨wa.heap.size, 0, none⟩))) (wa.alloc (.cells (st.den cv).cells.toList.toArray t)) := by
    simp only [execOp, hop, h1, Instr.box, newVar, newRow, Sem.run_bind, run_newObj, Result.andThen_ok, Sem.run_pure, World.alloc_eq, Array.toArray_toList]
   refine wp_value hrun ⟨_, w, h6, h7, hk, by simp, fun _ _ => ?_⟩
   refine Dr.like hlk ⟨fun q _ hq => RowKit.Below.heap_alloc _ _ _ hq, fun p hp => by cases o.dst <;> exact hp, fun q b hb => ⟨b, ?_, rfl, rfl, rfl⟩⟩
   have : ((st.esc1 cv).bx ++ [⟨wa.heap.size, (st.den cv).cells.toList.map fun v => (v, (st.esc1 cv).ctr), t, false⟩])[q]? = some b := by
    rw [List.getElem?_append_left (List.getElem?_eq_some_iff.1 hb).1]; exact hb
   cases o.dst <;> exact this
  ·exact h.elim
  ·exact mem_sound hd hR hi hdn hT hcoh h
 -- alloc
 ·rename_i t hop
  split at h
  ·rename_i z hz
   refine ⟨fun _ => ?_, fun hn => absurd hG0 hn⟩
   obtain ⟨inf, hi1, hi2⟩ := Option.bind_eq_some_iff.1 hz
   have hlt : wa.heap.size ∉ st.ids := fun hm => by
    obtain ⟨b, hb, he⟩ := List.mem_map.1 hm
    have := box_lt (hR.wok.boxes b hb)
    omega
   have hk := h wa.heap.size hR.wok.size_le hlt
   have hw := addBx_boxes hR.wok z.cells.toList t
   have hB : ∀ b ∈ (st.addBx wa.heap.size z.cells.toList t).bx, ∀ c ∈ b.cs, c.2 < (st.addBx wa.heap.size z.cells.toList t).ctr := by
    intro b hb c hc
    simp only [St.addBx, List.mem_append, List.mem_singleton] at hb ⊢
    rcases hb with hb | rfl
    ·exact Nat.lt_succ_of_lt (hR.versB b hb c hc)
    ·obtain ⟨v, _, rfl⟩ := List.mem_map.1 hc
     exact Nat.lt_succ_self _
   have hnew : (st.addBx wa.heap.size z.cells.toList t).den (.bp st.bx.length 0) = .pointer (some ⟨wa.heap.size, 0, none⟩) := by
    simp [St.den, St.idAt, St.addBx]
   obtain ⟨h6, h7⟩ := put_rel hd hR hi hdn hT hcoh (addBx_aft _ wa.heap.size z.cells.toList t) hw hB (cv := .bp st.bx.length 0) (v := .pointer (some ⟨wa.heap.size, 0, none⟩))
    (fun _ => ⟨hnew.symm, by simp [CvOk, St.addBx]⟩) (.inl hG0)
   have hrun : (execOp a.eval o).run cx.P wa = .ok (.value (.pointer (some ⟨wa.heap.size, 0, none⟩))) (wa.alloc (.cells z.cells.toList.toArray t)) := by
    simp only [execOp, hop, Instr.alloc, zeroValue, Sem.run_bind, typeInfo_run hi1, Result.andThen_ok, hi2, Sem.run_pure, newVar, newRow, run_newObj, World.alloc_eq, Array.toArray_toList]
   refine wp_value hrun ⟨_, w, h6, h7, hk, by simp, fun _ _ => ?_⟩
   refine ⟨fun q _ hq => RowKit.Below.heap_alloc _ _ _ hq, fun p hp => by cases o.dst <;> exact hp, fun q b hb => ⟨b, ?_, rfl, rfl, rfl⟩⟩
   have : (st.bx ++ [⟨wa.heap.size, z.cells.toList.map fun v => (v, st.ctr), t, false⟩])[q]? = some b := by
    rw [List.getElem?_append_left (List.getElem?_eq_some_iff.1 hb).1]; exact hb
   cases o.dst <;> exact this
  ·exact h.elim
 -- load
 ·rename_i t x hop
  split at h
  ·rename_i A j sh hx hsh
   obtain ⟨vs, hl, hc, hk⟩ := exKs_ex (flush_at h hR.wok)
   have hpin : ∀ s : St, (s.pin dr A).env = s.env ∧ (s.pin dr A).ctr = s.ctr ∧ (s.pin dr A).bx = s.bx ∧ (s.pin dr A).dirty = s.dirty ∧ ∀ p ∈ s.pins, p ∈ (s.pin dr A).pins := by
    intro s; unfold St.pin; split
    ·exact ⟨rfl, rfl, rfl, rfl, fun p hp => List.mem_cons_of_mem _ hp⟩
    ·exact ⟨rfl, rfl, rfl, rfl, fun p hp => hp⟩
   obtain ⟨p1, p2, p3, p4, p5⟩ := hpin st.clean
   have hA : Aft st (st.clean.pin dr A) := ⟨p1, by rw [p2]; exact Nat.le_refl _, fun q b hb => ⟨b, by rw [p3]; exact hb, rfl, rfl, rfl, fun _ _ h _ => h⟩⟩
   have hW : WOk cx (st.clean.pin dr A) wa wa := by
    have := clean_wok hR.wok
    refine ⟨fun b hb => ?_, fun b hb => ?_, ?_, hR.wok.fr, ?_⟩
    ·rw [p3] at hb; exact this.boxes b hb
    ·rw [p3] at hb; exact this.own b hb
    ·unfold St.ids; rw [p3]; exact this.nodup
    ·rw [p4]; simp [St.clean]
   have hB : ∀ b ∈ (st.clean.pin dr A).bx, ∀ c ∈ b.cs, c.2 < (st.clean.pin dr A).ctr := by
    rw [p3, p2]; exact hR.versB
   have hDr : ∀ cv d, DrOk dr o st ((st.clean.pin dr A).put d cv T) wa wa := by
    intro cv d
    refine ⟨Nat.le_refl _, fun _ _ => ⟨fun _ _ _ => rfl, fun p hp => ?_, fun q b hb => ⟨b, ?_, rfl, rfl, rfl⟩⟩⟩
    ·have := p5 p hp; cases d <;> exact this
    ·have : (st.clean.pin dr A).bx[q]? = some b := by rw [p3]; exact hb
     cases d <;> exact this
   constructor
   ·intro hG
    obtain ⟨h1, _⟩ := rd_sound hR.env hG hx
    have hcells := gImp_spec hR hcoh hc hG
    have hrun : (execOp a.eval o).run cx.P wa = .ok (.value ((st.clean.pin dr A).den (shCv sh vs))) wa := by
     simp only [execOp, hop, h1, St.den, Sem.run_bind]
     have := load_run hsh hl hcells (st.clean.pin dr A)
     simp only [this, Result.andThen_ok, Sem.run_pure]
     rfl
    obtain ⟨h6, h7⟩ := put_rel hd hR hi hdn hT hcoh hA hW hB (cv := shCv sh vs) (v := (st.clean.pin dr A).den (shCv sh vs)) (fun _ => ⟨rfl, shCv_ok _ _ _⟩) (.inl hG)
    exact wp_value hrun ⟨_, wa, h6, h7, hk, hDr _ _⟩
   ·intro hn
    obtain ⟨h6, h7⟩ := put_rel hd hR hi hdn hT hcoh hA hW hB (cv := shCv sh vs) (v := undef) (fun hG => absurd hG hn) (.inr rfl)
    exact ⟨_, wa, h6, h7, hk, hDr _ _⟩
  ·exact h.elim
 -- bytes to a string
 ·rename_i src dst x hop
  split at h
  ·rename_i p n c hx
   split at h
   ·rename_i hb2
    obtain ⟨bs, hl, hc, hk⟩ := flush_at h hR.wok
    have hpin : ∀ s : St, (s.pin dr (some p)).env = s.env ∧ (s.pin dr (some p)).ctr = s.ctr ∧ (s.pin dr (some p)).bx = s.bx ∧ (s.pin dr (some p)).dirty = s.dirty ∧ ∀ q ∈ s.pins, q ∈ (s.pin dr (some p)).pins := by
     intro s; unfold St.pin; split
     ·exact ⟨rfl, rfl, rfl, rfl, fun p hp => List.mem_cons_of_mem _ hp⟩
     ·exact ⟨rfl, rfl, rfl, rfl, fun p hp => hp⟩
    obtain ⟨p1, p2, p3, p4, p5⟩ := hpin st.clean
    have hA : Aft st (st.clean.pin dr (some p)) := ⟨p1, by rw [p2]; exact Nat.le_refl _, fun q b hb => ⟨b, by rw [p3]; exact hb, rfl, rfl, rfl, fun _ _ h _ => h⟩⟩
    have hW : WOk cx (st.clean.pin dr (some p)) wa wa := by
     have := clean_wok hR.wok
     refine ⟨fun b hb => ?_, fun b hb => ?_, ?_, hR.wok.fr, ?_⟩
     ·rw [p3] at hb; exact this.boxes b hb
     ·rw [p3] at hb; exact this.own b hb
     ·unfold St.ids; rw [p3]; exact this.nodup
     ·rw [p4]; simp [St.clean]
    have hB : ∀ b ∈ (st.clean.pin dr (some p)).bx, ∀ c ∈ b.cs, c.2 < (st.clean.pin dr (some p)).ctr := by
     rw [p3, p2]; exact hR.versB
    have hDr : ∀ cv d, DrOk dr o st ((st.clean.pin dr (some p)).put d cv []) wa wa := by
     intro cv d
     refine ⟨Nat.le_refl _, fun _ _ => ⟨fun _ _ _ => rfl, fun p hp => ?_, fun q b hb => ⟨b, ?_, rfl, rfl, rfl⟩⟩⟩
     ·have := p5 p hp; cases d <;> exact this
     ·have : (st.clean.pin dr (some p)).bx[q]? = some b := by rw [p3]; exact hb
      cases d <;> exact this
    refine ⟨fun hG => ?_, fun hn => absurd hG0 hn⟩
    obtain ⟨h1, _⟩ := rd_sound hR.env hG hx
    have h1' : a.eval x = .slice (some p) n c := h1
    have hrun : (execOp a.eval o).run cx.P wa = .ok (.value ((st.clean.pin dr (some p)).den (.v (.string (strOf bs))))) wa := by
     simp only [execOp, hop, h1', Sem.run_bind, b2s_run hb2 hl hc, Result.andThen_ok, Sem.run_pure]
     rfl
    obtain ⟨h6, h7⟩ := put_rel hd hR hi hdn hT hcoh hA hW hB (cv := .v (.string (strOf bs))) (v := (st.clean.pin dr (some p)).den (.v (.string (strOf bs)))) (fun _ => ⟨rfl, trivial⟩) (.inl hG)
    exact wp_value hrun ⟨_, wa, h6, h7, hk, hDr _ _⟩
   ·exact h.elim
  ·exact h.elim
 -- store
 ·rename_i t ad x hop
  split at h
  ·rename_i kk off cv had hx
   refine ⟨fun _ => ?_, fun hn => absurd hG0 hn⟩
   obtain ⟨h1, h1'⟩ := rd_sound hR.env hG0 had
   obtain ⟨h2, _⟩ := rd_sound hR.env hG0 hx
   have hlk := Like.esc1 st cv
   have hR' := hR.like hlk
   dsimp only at h
   have h00 := h
   have h := cellsK_at h
   split at h
   ·rename_i b hb
    split at h
    ·rename_i hc
     obtain ⟨hinf, hlen, hle, hone⟩ := hc
     have hone := oneK_all h00 hone
     obtain ⟨inf, hinf⟩ := Option.isSome_iff_exists.1 hinf
     obtain ⟨k1, k2, k3⟩ := wrBx_ok hR' hb hle
     have hden : (st.esc1 cv).den cv = st.den cv := den_same hlk.bx cv
     have hid : st.idAt kk = b.id := by rw [← idAt_get hb]; simp only [idAt_eq, hlk.bx.ids]
     have hrun : (execOp a.eval o).run cx.P wa = .ok .skip (wa.setRow b.id ((b.cs.map (·.1)).take off ++ ((st.esc1 cv).den cv).cells.toList ++ (b.cs.map (·.1)).drop (off + ((st.esc1 cv).den cv).cells.toList.length)).toArray) := by
      have hs := store_run (P := cx.P) (hR'.wok.boxes b (List.mem_of_getElem? hb)) (o := off) (l := ((st.esc1 cv).den cv).cells.toList) (by simpa using hle) hone (v := (st.esc1 cv).den cv) rfl hinf hlen
      simp only [execOp, hop, h1, h2, ← hden, Sem.run_bind]
      rw [show st.den (.bp kk off) = .pointer (some ⟨b.id, off, none⟩) from by simp [St.den, hid], hs]
      rfl
     obtain ⟨h6, h7⟩ := put_rel hd hR hi hdn hT hcoh (hlk.aft.trans k1) k2 k3 (cv := .v undef) (v := undef) (fun _ => ⟨rfl, trivial⟩) (.inl hG0)
     refine wp_skip hrun ⟨_, w, h6, h7, h, by simp [World.setRow], fun _ hs => ?_⟩
     simp [isStore, hop] at hs
    ·exact h.elim
   ·exact h.elim
  ·rename_i A j cv had hx
   refine ⟨fun _ => ?_, fun hn => absurd hG0 hn⟩
   obtain ⟨h1, h1'⟩ := rd_sound hR.env hG0 had
   obtain ⟨h2, _⟩ := rd_sound hR.env hG0 hx
   have hlk := Like.esc1 st cv
   have hR' := hR.like hlk
   dsimp only at h
   have h00 := h
   have h := cellsK_at h
   split at h
   ·rename_i hc
    obtain ⟨hinf, hlen, hone⟩ := hc
    have hone := oneK_all h00 hone
    obtain ⟨inf, hinf⟩ := Option.isSome_iff_exists.1 hinf
    obtain ⟨b, o', cs, t', hA, hbox, hle, hown, hnot, hk⟩ := flush_at h hR'.wok
    have hu := upd_setRow hbox (cs.take o' ++ ((st.esc1 cv).den cv).cells.toList ++ cs.drop (o' + ((st.esc1 cv).den cv).cells.toList.length))
    have hden : (st.esc1 cv).den cv = st.den cv := den_same hlk.bx cv
    have hrun : (execOp a.eval o).run cx.P wa = .ok .skip (wa.setRow b (cs.take o' ++ ((st.esc1 cv).den cv).cells.toList ++ cs.drop (o' + ((st.esc1 cv).den cv).cells.toList.length)).toArray) := by
     have hs := store_run (P := cx.P) hbox (o := o') (l := ((st.esc1 cv).den cv).cells.toList) hle hone (v := (st.esc1 cv).den cv) rfl hinf hlen
     have e1 : a.eval ad = .pointer (some ⟨b, o', none⟩) := by rw [h1]; show Value.pointer (offA A j) = _; rw [hA]
     have e2 : a.eval x = (st.esc1 cv).den cv := h2.trans hden.symm
     simp only [execOp, hop, e1, e2, Sem.run_bind, hs, Result.andThen_ok, Sem.run_pure]
    have hfr : Fr cx.M cx.w0 (wa.setRow b (cs.take o' ++ ((st.esc1 cv).den cv).cells.toList ++ cs.drop (o' + ((st.esc1 cv).den cv).cells.toList.length)).toArray) := by
     have hf := hR.wok.fr
     refine ⟨hf.os, hf.tape, hf.output, by rw [hu.size]; exact hf.size, fun q hq hM => ?_⟩
     rw [hu.block q ?_]
     ·exact hf.block q hq hM
     ·rintro rfl
      rcases hown with h | h
      ·omega
      ·exact hM h
    have hA' : Aft (st.esc1 cv) (st.esc1 cv).clean := ⟨rfl, Nat.le_refl _, fun q b hb => ⟨b, hb, rfl, rfl, rfl, fun _ _ h _ => h⟩⟩
    have hW : WOk cx (st.esc1 cv).clean (wa.setRow b (cs.take o' ++ ((st.esc1 cv).den cv).cells.toList ++ cs.drop (o' + ((st.esc1 cv).den cv).cells.toList.length)).toArray)
     (wa.setRow b (cs.take o' ++ ((st.esc1 cv).den cv).cells.toList ++ cs.drop (o' + ((st.esc1 cv).den cv).cells.toList.length)).toArray) := by
     refine ⟨fun x hx => ?_, hR'.wok.own, hR'.wok.nodup, hfr, by simp [St.clean]⟩
     have := hR'.wok.boxes x hx
     have hne : x.id ≠ b := by rintro rfl; exact hnot (List.mem_map.2 ⟨x, hx, rfl⟩)
     unfold Box at *
     rw [hu.block _ hne]; exact this
    obtain ⟨h6, h7⟩ := put_rel hd hR hi hdn hT hcoh (hlk.aft.trans hA') hW hR'.versB (cv := .v undef) (v := undef) (fun _ => ⟨rfl, trivial⟩) (.inl hG0)
    refine wp_skip hrun ⟨_, _, h6, h7, hk _ hu hfr, by simp [World.setRow], fun _ hs => ?_⟩
    simp [isStore, hop] at hs
   ·exact h.elim
  ·exact h.elim
 -- call
 ·rename_i f args argTypes hop
  split at h
  ·rename_i rs F hrs hF hcan
   have hlk : Like st ((st.esc1 F).escs T args.toList) := (Like.esc1 st F).trans (Like.escs _ _ _)
   have hR' := hR.like hlk
   have hcoh' := coh_like (ops := ops) hlk.env hcoh
   dsimp only at h
   split at h
   ·rename_i hfit
    have hargs : Gd ops a T → (args.map a.eval) = (args.toList.map (st.rho T)).toArray := by
     intro hG
     apply Array.ext'
     simp only [Array.toList_map]
     exact List.map_congr_left fun x hx => eval_rho hR.env hG hcan x hx
    split at h
    ·rename_i g first cap
     split at h
     ·rename_i hokg
      have h' := boxHyps_at (ltHyp_at (flush_at h hR'.wok) hR'.wok.boxes) hR'.wok.boxes
      obtain ⟨k1, k2⟩ := effW_sound (Q := Q) hd hR' hi hdn hT hcoh' hfit
       (fun R R' hRR hE => hE.mono fun e w2 ⟨v, he, hv⟩ => ⟨v, he, hRR v w2 hv⟩)
       (fun hG next hE => by
        obtain ⟨h1, _⟩ := rd_sound hR.env hG hF
        have hrun : (execOp a.eval o).run cx.P wa = .ok (.enter g (first.toList ++ args.toList.map (st.rho T) ++ cap.toList).toArray) wa := by
         simp only [execOp, hop, resolve, h1, St.den, Sem.run_bind, hargs hG, Deferred.ofValue, Sem.run_pure, Result.andThen_ok, invoke]
         rw [hok g hokg]
         congr 2
         apply Array.ext'; simp
        unfold Oper.wp
        rw [hrun]
        refine Calls.mono hE fun e w2 ⟨v, he, hv⟩ => ?_
        subst he
        exact hv) h'
      exact ⟨fun hG => Oper.wp_mono (fun a' w' => After.like hlk) (k1 hG), fun hn => (k2 hn).like hlk⟩
     ·exact h.elim
    ·rename_i F'
     have h' := boxHyps_at (ltHyp_at (flush_at h hR'.wok) hR'.wok.boxes) hR'.wok.boxes
     obtain ⟨k1, k2⟩ := effW_sound (Q := Q) hd hR' hi hdn hT hcoh' hfit
      (fun R R' hRR hE => callV_mono hE fun e w2 ⟨v, he, hv⟩ => ⟨v, he, hRR v w2 hv⟩)
      (fun hG next hE => by
       obtain ⟨h1, _⟩ := rd_sound hR.env hG hF
       have h1' : a.eval f = F' := h1
       cases F' with
       | func fn first cap =>
         cases fn with
         | func g =>
           have hE' : cx.ok g = true ∧ Calls cx.P g (first.toList ++ args.toList.map (st.rho T) ++ cap.toList).toArray wa fun e w2 => ∃ v, e = .returned v ∧ next (a.put o.dst v) w2 := hE
           have hrun : (execOp a.eval o).run cx.P wa = .ok (.enter g (first.toList ++ args.toList.map (st.rho T) ++ cap.toList).toArray) wa := by
            simp only [execOp, hop, resolve, h1', Sem.run_bind, hargs hG, Deferred.ofValue, Sem.run_pure, Result.andThen_ok, invoke]
            rw [hok g hE'.1]
            congr 2
            apply Array.ext'; simp
           unfold Oper.wp
           rw [hrun]
           refine Calls.mono hE'.2 fun e w2 ⟨v, he, hv⟩ => ?_
           subst he
           exact hv
         | _ => exact hE.elim
       | _ => exact hE.elim) h'
     exact ⟨fun hG => Oper.wp_mono (fun a' w' => After.like hlk) (k1 hG), fun hn => (k2 hn).like hlk⟩
    ·exact h.elim
   ·exact h.elim
  ·exact h.elim
 -- an entry of a map
 ·rename_i t m ix x hop
  split at h
  ·rename_i hdst hcan
   refine ⟨fun _ => ?_, fun hn => absurd hG0 hn⟩
   have hlk : Like st (st.escs [] [m, ix, x]) := Like.escs _ _ _
   have hR' := hR.like hlk
   have hcoh' := coh_like (ops := ops) hlk.env hcoh
   dsimp only at h
   split at h
   ·rename_i hfit
    have h' := boxHyps_at (ltHyp_at (flush_at h hR'.wok) hR'.wok.boxes) hR'.wok.boxes
    rw [← hdst] at h'
    obtain ⟨k1, _⟩ := effW_sound (Q := Q) hd hR' hi hdn hT hcoh' hfit (fun R R' hRR hE => semUpon_mono hE hRR)
     (fun hG next hE => by
      unfold semUpon at hE
      split at hE
      ·rename_i v w' hv
       simp only [Sem.run_bind] at hv
       have hr : ∃ u, (Instr.mapUpdate t (st.rho [] m) (st.rho [] ix) (st.rho [] x)).run cx.P wa = .ok u w' ∧ v = .tuple #[] := by
        cases hu : (Instr.mapUpdate t (st.rho [] m) (st.rho [] ix) (st.rho [] x)).run cx.P wa with
        | ok u w1 =>
          rw [hu] at hv
          simp only [Result.andThen_ok, Sem.run_pure, Result.ok.injEq] at hv
          exact ⟨u, by rw [hv.2], hv.1.symm⟩
        | halt q w1 => rw [hu] at hv; simp [Result.andThen] at hv
       obtain ⟨u, hu, rfl⟩ := hr
       have e1 := eval_rho hR.env hG0 hcan m (by simp)
       have e2 := eval_rho hR.env hG0 hcan ix (by simp)
       have e3 := eval_rho hR.env hG0 hcan x (by simp)
       have hrun : (execOp a.eval o).run cx.P wa = .ok .skip w' := by
        simp only [execOp, hop, e1, e2, e3, Sem.run_bind, hu, Result.andThen_ok, Sem.run_pure]
       refine wp_skip hrun ?_
       rw [hdst] at hE ⊢
       exact hE
      ·exact hE.elim) h'
    exact Oper.wp_mono (fun a' w' => After.like hlk) (k1 hG0)
   ·exact h.elim
  ·exact h.elim
 -- memory
 ·exact mem_sound hd hR hi hdn hT hcoh h
end
end Go.Cw
end
section
namespace Go.Cw
open Go
structure RelO (cx : Cx) (st : St) (a : Act) (w wa : World) : Prop where
 size : a.tmps.size = st.env.length
 env : ∀ (t : Nat) (e : En), st.env[t]? = some (some e) → e.tg = [] ∧ a.tmps[t]? = some (st.den e.cv) ∧ CvOk st e.cv ∧ e.vr < st.ctr
 wok : WOk cx st w wa
 defers : a.defers = []
 versB : ∀ b ∈ st.bx, ∀ c ∈ b.cs, c.2 < st.ctr
theorem RelO.relR {cx : Cx} {st : St} {a : Act} {w wa : World} (h : RelO cx st a w wa) (ops : Array Oper) (dn : Nat → Bool) : RelR cx ops dn st a w wa where
 env := ⟨h.size, fun t e he _ => ⟨(h.env t e he).2.1, (h.env t e he).2.2.1⟩⟩
 wok := h.wok
 defers := h.defers
 vers := fun t e he => (h.env t e he).2.2.2
 versB := h.versB
 tags := fun t e he x hx => by rw [(h.env t e he).1] at hx; cases hx
 coh := fun t e he => by rw [(h.env t e he).1]; trivial
 ci := fun j d e b _ he _ _ => by rw [(h.env d e he).1]; intro x hx; cases hx
theorem dropTags_get : ∀ {l : List (Option En)} {t : Nat} {e : En}, (dropTags l)[t]? = some (some e) → l[t]? = some (some e) ∧ e.tg = []
 | [], t, e, h => by simp [dropTags] at h
 | some x :: r, 0, e, h => by
   simp only [dropTags, List.getElem?_cons_zero, Option.some.injEq] at h
   split at h
   ·rename_i hx
    obtain rfl := Option.some.inj h
    exact ⟨rfl, hx⟩
   ·cases h
 | none :: r, 0, e, h => by simp [dropTags] at h
 | some x :: r, t + 1, e, h => by
   simp only [dropTags, List.getElem?_cons_succ] at h ⊢
   exact dropTags_get h
 | none :: r, t + 1, e, h => by
   simp only [dropTags, List.getElem?_cons_succ] at h ⊢
   exact dropTags_get h
theorem dropTags_length : ∀ l : List (Option En), (dropTags l).length = l.length
 | [] => rfl
 | some x :: r => by simp [dropTags, dropTags_length r]
 | none :: r => by simp [dropTags, dropTags_length r]
theorem RelR.endReg {cx : Cx} {ops : Array Oper} {dn : Nat → Bool} {st : St} {a : Act} {w wa : World} (h : RelR cx ops dn st a w wa) : RelO cx st.endReg a w wa ∧ Agr st st.endReg := by
 have hden : ∀ cv, st.endReg.den cv = st.den cv := fun cv => by cases cv <;> rfl
 have hok : ∀ cv, CvOk st.endReg cv ↔ CvOk st cv := fun cv => by cases cv <;> exact Iff.rfl
 refine ⟨⟨?_, fun t e he => ?_, ⟨h.wok.boxes, h.wok.own, h.wok.nodup, h.wok.fr, h.wok.here⟩, h.defers, h.versB⟩, ⟨Nat.le_refl _, dropTags_length _, fun t e he _ => (dropTags_get he).1, fun k b hb => ⟨b, hb, rfl, rfl, rfl, fun _ _ h _ => h⟩⟩⟩
 ·rw [h.env.size]; exact (dropTags_length _).symm
 ·obtain ⟨h1, h2⟩ := dropTags_get he
  obtain ⟨h3, h4⟩ := h.env.env t e h1 (by rw [h2]; intro x hx; cases hx)
  exact ⟨h2, by rw [hden]; exact h3, (hok _).2 h4, h.vers t e h1⟩
section
variable {cx : Cx} {ops : Array Oper} {dn : Nat → Bool} {dr : Bool} {i : Nat} {o : Oper} {st : St} {a : Act} {w wa : World} {k : St → World → Prop} {Q : Exit → Act → World → Prop}
theorem step_sound (hok : OkFns cx) (hd : dstOk ops = true) (hR : RelR cx ops dn st a w wa) (hi : ops[i]? = some o) (hdn : dn i = false) (h : stepOp cx ops dr dn o st w k) :
 (Region.wanted o (yielded ops a.tmps) = true → o.wp cx.P a wa (After cx ops dn dr i o st wa k) Q) ∧
 (Region.wanted o (yielded ops a.tmps) = false → After cx ops dn dr i o st wa k (a.put o.dst undef) wa) := by
 unfold stepOp at h
 split at h
 ·exact h.elim
 ·rename_i T hT
  obtain ⟨h1, h2, h3⟩ := tagSt_spec hR hi hT
  have quiet : ∀ (p : Option Prop) (cv : CV) (st' : St), quietOp cx.P ops st T o = some (p, cv, st') → (Gd ops a T → ∀ q, p = some q → q) → k (st'.put o.dst cv T) w →
   (Region.wanted o (yielded ops a.tmps) = true → o.wp cx.P a wa (After cx ops dn dr i o st wa k) Q) ∧
   (Region.wanted o (yielded ops a.tmps) = false → After cx ops dn dr i o st wa k (a.put o.dst undef) wa) := by
   intro p cv st' hq hp hk
   have lk : Like st st' := quiet_like' hq
   have hR' := hR.like lk
   have hDr : ∀ d, DrOk dr o st (st'.put d cv T) wa wa := fun d =>
    ⟨Nat.le_refl _, fun _ _ => Dr.like lk ⟨fun _ _ _ => rfl, fun p hp => by cases d <;> exact hp, fun q b hb => ⟨b, by cases d <;> exact hb, rfl, rfl, rfl⟩⟩⟩
   constructor
   ·intro hw
    have hG := h3.1 hw
    obtain ⟨⟨k1, k2⟩, _⟩ := quiet_sound hq hR.env hG (hp hG) wa (fun _ => hR.wok.boxes)
    obtain ⟨h6, h7⟩ := put_rel hd hR hi hdn h1 h2 lk.aft hR'.wok hR'.versB (cv := cv) (v := st.den cv) (fun _ => ⟨(den_same lk.bx cv).symm, cvOk_same lk.bx k2⟩) (.inl hG)
    exact wp_value k1 ⟨_, w, h6, h7, hk, hDr _⟩
   ·intro hw
    have hn : ¬ Gd ops a T := fun hG => by rw [h3.2 hG] at hw; cases hw
    obtain ⟨h6, h7⟩ := put_rel hd hR hi hdn h1 h2 lk.aft hR'.wok hR'.versB (cv := cv) (v := undef) (fun hG => absurd hG hn) (.inr rfl)
    exact ⟨_, w, h6, h7, hk, hDr _⟩
  split at h
  ·rename_i cv st' hq
   exact quiet none cv st' hq (fun _ q hq => by cases hq) h
  ·rename_i p cv st' hq
   exact quiet (some p) cv st' hq (fun hG q hq' => by obtain rfl := Option.some.inj hq'; exact gImp_spec hR h2 h.1 hG) h.2
  ·obtain ⟨k1, k2⟩ := eff_sound (Q := Q) hok hd hR hi hdn h1 h2 h
   exact ⟨fun hw => k1 (h3.1 hw), fun hw => k2 fun hG => by rw [h3.2 hG] at hw; cases hw⟩
theorem relR_dn {dn dn' : Nat → Bool} (h : ∀ x, dn x = dn' x) (hR : RelR cx ops dn st a w wa) : RelR cx ops dn' st a w wa := by
 have : dn = dn' := funext h
 rw [← this]; exact hR
theorem seq_sound (hok : OkFns cx) (hd : dstOk ops = true) {st0 : St} (hQ : ∀ st a w wa, RelO cx st a w wa → Agr st0 st → k st w → Q .normal a wa) :
 ∀ (l : List Oper) (j : Nat) (st : St) (a : Act) (w wa : World), (∀ m, l[m]? = ops[j + m]?) → RelR cx ops (fun x => decide (x < j)) st a w wa → Agr st0 st → seqOps cx ops l j st w k → wpList cx.P ops Q l a wa
 | [], j, st, a, w, wa, _, hR, hA, h => by
   obtain ⟨h1, h2⟩ := hR.endReg
   exact hQ _ _ _ _ h1 (hA.trans h2) h
 | o :: r, j, st, a, w, wa, hl, hR, hA, h => by
   have hi : ops[j]? = some o := by simpa using (hl 0).symm
   obtain ⟨k1, k2⟩ := step_sound (Q := Q) hok hd hR hi (by simp) h
   have next : ∀ a' wa', After cx ops (fun x => decide (x < j)) false j o st wa (fun st w => seqOps cx ops r (j + 1) st w k) a' wa' → wpList cx.P ops Q r a' wa' := by
    intro a' wa' ⟨st', w', h1, h2, h3, _⟩
    refine seq_sound hok hd hQ r (j + 1) st' a' w' wa' (fun m => ?_) (relR_dn (fun x => ?_) h1) (hA.trans h2) h3
    ·have := hl (m + 1)
     rw [show j + 1 + m = j + (m + 1) by omega, ← this]; rfl
    ·rw [Bool.eq_iff_iff]
     simp only [Bool.or_eq_true, decide_eq_true_eq, beq_iff_eq]
     omega
   unfold wpList
   split
   ·rename_i hw
    exact .inl (Oper.wp_mono next (k1 hw))
   ·rename_i hw
    exact next _ _ (k2 (by simpa using hw))
end
end Go.Cw
end
section
namespace Go.Cw
open Go
end Go.Cw
end
section
namespace Go.Cw
open Go
section
variable {P : Program} {ops : Array Oper} {Q : Exit → Act → World → Prop}
def wpAnyL (P : Program) (ops : Array Oper) (Q : Exit → Act → World → Prop) (S : Array Bool → World → Prop) : Nat → Array Bool → Act → World → Prop
 | 0, listed, a, w => Region.ready .any ops listed = [] ∧ Q .normal a w
 | f + 1, listed, a, w =>
   (Region.ready .any ops listed = [] → Q .normal a w) ∧
    ∀ i ∈ Region.ready .any ops listed, wpOp P ops Q i (fun a' w' => S (listed.setIfInBounds i true) w' ∧ wpAnyL P ops Q S f (listed.setIfInBounds i true) a' w') a w
theorem wpAny_of_L {S : Array Bool → World → Prop} : ∀ (f : Nat) (listed : Array Bool) (a : Act) (w : World), wpAnyL P ops Q S f listed a w → wpAny P .any ops Q f listed a w
 | 0, _, _, _, h => h
 | f + 1, _, _, _, h => ⟨h.1, fun i hi => wpOp_mono (fun a' w' h' => wpAny_of_L f _ a' w' h'.2) (h.2 i hi)⟩
def Sub (l l' : Array Bool) : Prop := ∀ j : Nat, l.getD j false = true → l'.getD j false = true
theorem sub_set {l l' : Array Bool} (h : Sub l l') (i : Nat) : Sub l (l'.setIfInBounds i true) := fun j hj => getD_set_true (h j hj)
theorem wpAnyL_mono {S S' : Array Bool → World → Prop} (l0 : Array Bool) (h : ∀ l w, Sub l0 l → S l w → S' l w) : ∀ (f : Nat) (listed : Array Bool) (a : Act) (w : World), Sub l0 listed → wpAnyL P ops Q S f listed a w → wpAnyL P ops Q S' f listed a w
 | 0, _, _, _, _, H => H
 | f + 1, _, _, _, hs, H => ⟨H.1, fun i hi => wpOp_mono (fun a' w' h' => ⟨h _ _ (sub_set hs i) h'.1, wpAnyL_mono l0 h f _ a' w' (sub_set hs i) h'.2⟩) (H.2 i hi)⟩
theorem ready_lt {listed : Array Bool} {i : Nat} (h : i ∈ Region.ready .any ops listed) : i < listed.size ∧ listed.getD i false = false := by
 have h0 := (mem_ready.1 h).1
 rcases Nat.lt_or_ge i listed.size with h' | h'
 ·refine ⟨h', ?_⟩
  simpa [h'] using h0
 ·simp [Array.getElem?_eq_none h'] at h0
theorem wpAnyL_first {S : Array Bool → World → Prop} {Y : World → Prop} {B : Nat → Prop} {i : Nat} {oi : Oper} {v : Value} (hi : ops[i]? = some oi)
 (hsel : ∀ (j : Nat) (o : Oper) cs b, ops[j]? = some o → o.op ≠ .select cs b) (hQ : ∀ c a w, Q (.panic c) (a.put oi.dst v) w → Q (.panic c) a w)
 (hB : ∀ (j : Nat) (oj : Oper), ops[j]? = some oj → B j → ∃ e ∈ oj.after, Region.binds .any e = true ∧ e.on = i)
 (hSY : ∀ l w, (∀ j, B j → l.getD j false = false) → S l w → Y w) (hSi : ∀ l w, S (l.setIfInBounds i true) w → S l w) :
 ∀ (fuel : Nat) (listed : Array Bool) (a : Act) (w : World),
  (∀ j oj, ops[j]? = some oj → j ≠ i → listed.getD j true = false → (∀ e ∈ oj.after, Region.binds .any e = true → e.on ≠ i) → oi.apart ops oj = true) →
  i ∈ Region.ready .any ops listed → (∀ j, B j → listed.getD j false = false) → YieldsIf P ops Y oi v a → Y w → S (listed.setIfInBounds i true) w →
  wpAnyL P ops Q S fuel (listed.setIfInBounds i true) (a.put oi.dst v) w → wpAnyL P ops Q S (fuel + 1) listed a w := by
 intro fuel
 induction fuel with
 | zero =>
   intro listed a w _ hr _ hy hY hS H
   refine ⟨fun h => (by rw [h] at hr; cases hr), fun j hj => ?_⟩
   by_cases hji : j = i
   ·subst hji; exact hy.wpOp hi hY ⟨hS, H⟩
   ·have := ready_mono hj hji
    rw [H.1] at this
    cases this
 | succ fuel ih =>
   intro listed a w hfree hr hBl hy hY hS H
   refine ⟨fun h => (by rw [h] at hr; cases hr), fun j hj => ?_⟩
   by_cases hji : j = i
   ·subst hji; exact hy.wpOp hi hY ⟨hS, H⟩
   ·obtain ⟨hjun, oj, hoj, hall⟩ := mem_ready.1 hj
    obtain ⟨hilt, hi0⟩ := ready_lt hr
    have hnot : ∀ e ∈ oj.after, Region.binds .any e = true → e.on ≠ i := fun e he hb heq => by
     have h1 := hall e he hb
     rw [heq, hi0] at h1
     cases h1
    have hjB : ¬ B j := fun hb => by
     obtain ⟨e, he, hbd, hon⟩ := hB j oj hoj hb
     exact hnot e he hbd hon
    have h2 := wpOp_putIf hoj (hfree j oj hoj hji hjun hnot) (fun cs b => hsel i oi cs b hi) (fun cs b => hsel j oj cs b hoj) hQ hy (H.2 j (ready_mono hj hji))
    have hfree' : ∀ k ok, ops[k]? = some ok → k ≠ i → (listed.setIfInBounds j true).getD k true = false → (∀ e ∈ ok.after, Region.binds .any e = true → e.on ≠ i) → oi.apart ops ok = true := fun k ok hk hki hun hno => by
     refine hfree k ok hk hki ?_ hno
     by_cases hjk : j = k
     ·subst hjk; exact hjun
     ·rw [getD_set_ne true hjk] at hun; exact hun
    have hBl' : ∀ q, B q → (listed.setIfInBounds j true).getD q false = false := fun q hq => by
     by_cases hqj : j = q
     ·subst hqj; exact absurd hq hjB
     ·rw [getD_set_ne false hqj]; exact hBl q hq
    have hcomm : (listed.setIfInBounds i true).setIfInBounds j true = (listed.setIfInBounds j true).setIfInBounds i true := Array.setIfInBounds_comm _ _ (Ne.symm hji)
    refine wpOp_mono (fun a' w' h3 => ?_) h2
    obtain ⟨h4, h5, h6⟩ := h3
    rw [hcomm] at h5 h6
    have h7 := hSi _ _ h5
    exact ⟨h7, ih _ a' w' hfree' (ready_mono hr (Ne.symm hji)) hBl' h4 (hSY _ _ hBl' h7) h5 h6⟩
theorem count_set {listed : Array Bool} {i : Nat} (h : i < listed.size) (h0 : listed.getD i false = false) : (listed.setIfInBounds i true).toList.count false + 1 = listed.toList.count false := by
 have hl : i < listed.toList.length := by simpa using h
 have h1 : listed.toList[i] = false := by simpa [h] using h0
 rw [Array.toList_setIfInBounds, List.count_set hl]
 have : 0 < listed.toList.count false := List.count_pos_iff.2 (by rw [← h1]; exact List.getElem_mem hl)
 have e1 : (if (listed.toList[i] == false) = true then 1 else 0) = 1 := by rw [h1]; rfl
 rw [e1]
 show listed.toList.count false - 1 + 0 + 1 = _
 omega
end
section
variable {cx : Cx} {ops : Array Oper} {k : St → World → Prop} {Q : Exit → Act → World → Prop}
def Good (st : St) (wa w' : World) : Prop := wa.heap.size ≤ w'.heap.size ∧ ∀ q, q ∈ st.ids ++ st.pins → q < wa.heap.size → w'.heap[q]? = wa.heap[q]?
def NoStore (ops : Array Oper) (l : Array Bool) : Prop := ∀ (j : Nat) (o : Oper), ops[j]? = some o → isStore o = true → l.getD j false = false
def SS (ops : Array Oper) (st : St) (wa : World) (l : Array Bool) (w' : World) : Prop := NoStore ops l → Good st wa w'
theorem good_boxes {st : St} {wa w' : World} (h : Good st wa w') (hB : Boxes st wa) : Boxes st w' := by
 intro b hb
 have := hB b hb
 have hlt := box_lt this
 unfold Box at *
 rw [h.2 b.id (List.mem_append_left _ (List.mem_map.2 ⟨b, hb, rfl⟩)) hlt]; exact this
theorem good_step {st st' : St} {wa wa' w' : World} (hs : wa.heap.size ≤ wa'.heap.size) (hd : Dr st st' wa wa') (h : Good st' wa' w') : Good st wa w' := by
 refine ⟨Nat.le_trans hs h.1, fun q hq hlt => ?_⟩
 rw [h.2 q ?_ (Nat.lt_of_lt_of_le hlt hs), hd.block q hq hlt]
 rcases List.mem_append.1 hq with hq | hq
 ·obtain ⟨b, hb, rfl⟩ := List.mem_map.1 hq
  obtain ⟨n, hn⟩ := mem_get hb
  obtain ⟨b', h1, h2, _⟩ := hd.bx n b hn
  exact List.mem_append_left _ (List.mem_map.2 ⟨b', List.mem_of_getElem? h1, h2⟩)
 ·exact List.mem_append_right _ (hd.pins q hq)
theorem cells_block {w w' : World} {A : Option Addr} {j : Nat} {vs : List Value} (h : Cells w A j vs) (hb : blkOf A < w.heap.size → w'.heap[blkOf A]? = w.heap[blkOf A]?) : Cells w' A j vs := by
 obtain ⟨p, rfl, hc⟩ := h
 refine ⟨p, rfl, fun m hm => ?_⟩
 have h1 := hc m hm
 have hblk : ((p.add j).add m).block = p.block := by rw [add_add]; unfold Addr.add; split <;> rfl
 have hlt : p.block < w.heap.size := by
  rw [← hblk]
  exact World.block_lt_of_cell? _ _ (h1.trans (List.getElem?_eq_getElem hm))
 rw [← h1]
 exact World.cell?_of_block (w := w) (by rw [hblk]; exact hb hlt)
theorem waits_spec {o : Oper} {i : Nat} (h : waits o i = true) : ∃ e ∈ o.after, Region.binds .any e = true ∧ e.on = i := by
 obtain ⟨e, he, hc⟩ := List.any_eq_true.1 h
 simp only [Bool.and_eq_true, beq_iff_eq] at hc
 exact ⟨e, by simpa using he, hc.1, hc.2⟩
theorem storesWait_spec {i j : Nat} {oj : Oper} (h : storesWait ops i = true) (hj : ops[j]? = some oj) (hs : isStore oj = true) : waits oj i = true := by
 have hmem : oj ∈ ops.toList := by rw [← Array.getElem?_toList] at hj; exact List.mem_of_getElem? hj
 have h1 := List.all_eq_true.1 h oj hmem
 simpa [hs] using h1
theorem each_spec {F : Nat → Prop} : ∀ {l : List Nat}, each l F → ∀ i ∈ l, F i
 | [], _, i, hi => by cases hi
 | [x], h, i, hi => by
   obtain rfl := List.mem_singleton.1 hi
   exact h
 | x :: y :: r, h, i, hi => by
   rcases List.mem_cons.1 hi with rfl | hi
   ·exact h.1
   ·exact each_spec h.2 i hi
theorem firstQuiet_spec {P : Program} {listed : Array Bool} {st : St} : ∀ {l : List Nat} {i : Nat}, firstQuiet P ops listed st l = some i →
 i ∈ l ∧ ∃ o, ops[i]? = some o ∧ (isLoad o = true → storesWait ops i = true) ∧ early P ops (fun j => listed.getD j false) st o = true ∧ Region.free .any ops listed i = true
 | [], i, h => by simp [firstQuiet] at h
 | x :: r, i, h => by
   simp only [firstQuiet] at h
   split at h
   ·rename_i o ho
    split at h
    ·rename_i hc
     simp only [Bool.and_eq_true] at hc
     obtain rfl := Option.some.inj h
     refine ⟨by simp, o, ho, fun hl => ?_, hc.1.2, hc.2⟩
     rcases Bool.or_eq_true _ _ ▸ hc.1.1 with h1 | h1
     ·rw [hl] at h1; cases h1
     ·exact h1
    ·obtain ⟨h1, h2⟩ := firstQuiet_spec h
     exact ⟨List.mem_cons_of_mem _ h1, h2⟩
   ·obtain ⟨h1, h2⟩ := firstQuiet_spec h
    exact ⟨List.mem_cons_of_mem _ h1, h2⟩
theorem dn_set {listed : Array Bool} {i : Nat} (h : i < listed.size) (j : Nat) : (listed.getD j false || j == i) = (listed.setIfInBounds i true).getD j false := by
 by_cases hij : i = j
 ·subst hij; simp [h]
 ·rw [getD_set_ne false hij]
  have : (j == i) = false := by simpa using fun e => hij e.symm
  simp [this]
def Closed (ops : Array Oper) (listed : Array Bool) : Prop := ∀ (j : Nat) (o : Oper), ops[j]? = some o → listed.getD j false = true → ∀ e ∈ o.after, Region.binds .any e = true → listed.getD e.on false = true
theorem closed_set {listed : Array Bool} (hC : Closed ops listed) {i : Nat} (hi : i ∈ Region.ready .any ops listed) : Closed ops (listed.setIfInBounds i true) := by
 intro j o ho hj e he hb
 by_cases hij : i = j
 ·subst hij
  obtain ⟨_, o', ho', hall⟩ := mem_ready.1 hi
  rw [ho] at ho'
  obtain rfl := Option.some.inj ho'
  exact getD_set_true (hall e he hb)
 ·rw [getD_set_ne false hij] at hj
  exact getD_set_true (hC j o ho hj e he hb)
theorem draw_sound (hok : OkFns cx) (hd : dstOk ops = true) (hns : Region.noSelect ops = true) {st0 : St} (hQ : ∀ st a w wa, RelO cx st a w wa → Agr st0 st → k st w → Q .normal a wa)
 (hQp : ∀ c a w, ¬ Q (.panic c) a w) :
 ∀ (f : Nat) (n : Nat) (listed : Array Bool) (st : St) (a : Act) (w wa : World), listed.toList.count false ≤ n → Closed ops listed → RelR cx ops (fun j => listed.getD j false) st a w wa → Agr st0 st → drawOps cx ops f listed st w k →
  wpAnyL cx.P ops Q (SS ops st wa) n listed a wa
 | 0, _, _, _, _, _, _, _, _, _, _, h => h.elim
 | f + 1, n, listed, st, a, w, wa, hn, hC, hR, hA, h => by
   simp only [drawOps] at h
   cases hr : Region.ready .any ops listed with
   | nil =>
     rw [hr] at h
     obtain ⟨h1, h2⟩ := hR.endReg
     have hq := hQ _ _ _ _ h1 (hA.trans h2) h
     cases n with
     | zero => exact ⟨hr, hq⟩
     | succ n => exact ⟨fun _ => hq, by rw [hr]; simp⟩
   | cons i0 r =>
     rw [hr] at h
     simp only at h
     have hpos : ∀ i ∈ Region.ready .any ops listed, ∃ m, n = m + 1 ∧ (listed.setIfInBounds i true).toList.count false ≤ m := by
      intro i hi
      obtain ⟨h1, h2⟩ := ready_lt hi
      have := count_set h1 h2
      exact ⟨n - 1, by omega, by omega⟩
     cases hq : firstQuiet cx.P ops listed st (i0 :: r) with
     | some i =>
       rw [hq] at h
       obtain ⟨him, o, hi, hlfo, hearly, hfree⟩ := firstQuiet_spec hq
       rw [← hr] at him
       obtain ⟨hilt, hi0⟩ := ready_lt him
       obtain ⟨m, rfl, hm⟩ := hpos i him
       simp only [hi] at h
       unfold stepOp at h
       cases hT : tagSt ops (fun j => listed.getD j false) st o with
       | none => rw [hT] at h; exact h.elim
       | some T =>
         rw [hT] at h
         simp only at h
         obtain ⟨t1, t2, t3⟩ := tagSt_spec hR hi hT
         have hns' : isStore o = false := by
          unfold early at hearly
          rw [hT] at hearly
          simp only at hearly
          cases hop : o.op <;> simp [isStore, hop]
          rename_i t ad x
          simp [quietOp, nilCmp, hop, isPureAt, isPure, isLoad] at hearly
         -- what the two kinds have in common
         have main : ∀ (st1 : St) (cv : CV) (w1 : World) (Y : World → Prop) (v : Value), Aft st st1 → WOk cx st1 w1 wa → (∀ b ∈ st1.bx, ∀ c ∈ b.cs, c.2 < st1.ctr) → (Gd ops a T → v = st1.den cv ∧ CvOk st1 cv) → (Gd ops a T ∨ v = undef) →
          YieldsIf cx.P ops Y o v a → (∀ w', Good (st1.put o.dst cv T) wa w' → Y w') → (isLoad o = true ∨ ∀ w', Y w') → Dr st (st1.put o.dst cv T) wa wa → drawOps cx ops f (listed.setIfInBounds i true) (st1.put o.dst cv T) w1 k →
          wpAnyL cx.P ops Q (SS ops st wa) (m + 1) listed a wa := by
          intro st1 cv w1 Y v hAf hW hvB hv1 hv2 hY hGY hlY hDr hk
          obtain ⟨h6, h7⟩ := put_rel hd hR hi hi0 t1 t2 hAf hW hvB hv1 hv2
          have ih := draw_sound hok hd hns hQ hQp f m (listed.setIfInBounds i true) (st1.put o.dst cv T) (a.put o.dst v) w1 wa hm (closed_set hC him) (relR_dn (dn_set hilt) h6) (hA.trans h7) hk
          have hself : Good (st1.put o.dst cv T) wa wa := ⟨Nat.le_refl _, fun _ _ _ => rfl⟩
          have hstep := wpAnyL_first (S := SS ops (st1.put o.dst cv T) wa) (Y := Y) (B := fun j => isLoad o = true ∧ ∃ oj, ops[j]? = some oj ∧ isStore oj = true) hi
           (Region.noSelect_spec hns) (fun c a w h => absurd h (hQp _ _ _)) ?_ ?_ ?_ m listed a wa (Region.free_spec hi hfree) him ?_ hY (hGY _ hself) (fun _ => hself) ih
          ·exact wpAnyL_mono listed (fun l w' _ hS hno => good_step (Nat.le_refl _) hDr (hS hno)) _ _ _ _ (fun _ h => h) hstep
          ·rintro j oj hj ⟨hl, oj', hj', hs⟩
           rw [hj] at hj'
           obtain rfl := Option.some.inj hj'
           exact waits_spec (storesWait_spec (hlfo hl) hj hs)
          ·intro l w' hl hS
           rcases hlY with hl' | hall
           ·exact hGY w' (hS fun j oj hj hs => hl j ⟨hl', oj, hj, hs⟩)
           ·exact hall w'
          ·intro l w' hS hno
           refine hS fun j oj hj hs => ?_
           by_cases hij : i = j
           ·subst hij
            rw [hi] at hj
            obtain rfl := Option.some.inj hj
            rw [hns'] at hs; cases hs
           ·rw [getD_set_ne false hij]; exact hno j oj hj hs
          ·rintro j ⟨hl, oj, hj, hs⟩
           cases hlj : listed.getD j false with
           | false => rfl
           | true =>
             obtain ⟨e, he, hb, hon⟩ := waits_spec (storesWait_spec (hlfo hl) hj hs)
             have := hC j oj hj hlj e he hb
             rw [hon, hi0] at this
             cases this
         have quiet : ∀ (p : Option Prop) (cv : CV) (st1 : St), quietOp cx.P ops st T o = some (p, cv, st1) → (Gd ops a T → ∀ q, p = some q → q) → drawOps cx ops f (listed.setIfInBounds i true) (st1.put o.dst cv T) w k →
          wpAnyL cx.P ops Q (SS ops st wa) (m + 1) listed a wa := by
          intro p cv st1 hq hp hk
          have lk : Like st st1 := quiet_like' hq
          have hR' := hR.like lk
          have hDr : Dr st (st1.put o.dst cv T) wa wa := Dr.like lk ⟨fun _ _ _ => rfl, fun p hp => by cases o.dst <;> exact hp, fun q b hb => ⟨b, by cases o.dst <;> exact hb, rfl, rfl, rfl⟩⟩
          have hgood : ∀ w', Good (st1.put o.dst cv T) wa w' → isLoad o = true → Boxes st w' := fun w' hg _ => good_boxes (good_step (Nat.le_refl _) hDr hg) hR.wok.boxes
          by_cases hG : Gd ops a T
          ·have hys : ∀ w', (isLoad o = true → Boxes st w') → Yl cx.P a o st cv w' := fun w' hb => (quiet_sound hq hR.env hG (hp hG) w' hb).1
           have hv := (hys wa (fun _ => hR.wok.boxes)).2
           refine main st1 cv w (fun w' => isLoad o = true → Boxes st w') (st.den cv) lk.aft hR'.wok hR'.versB (fun _ => ⟨(den_same lk.bx cv).symm, cvOk_same lk.bx hv⟩) (.inl hG) (.inl ⟨t3.2 hG, fun w' hb => (hys w' hb).1⟩) hgood ?_ hDr hk
           cases hl : isLoad o with
           | true => exact .inl rfl
           | false => exact .inr fun w' h => by cases h
          ·have hw : Region.wanted o (yielded ops a.tmps) = false := by
            cases hw : Region.wanted o (yielded ops a.tmps) with
            | false => rfl
            | true => exact absurd (t3.1 hw) hG
           exact main st1 cv w (fun _ => True) undef lk.aft hR'.wok hR'.versB (fun h => absurd h hG) (.inr rfl) (.inr ⟨hw, rfl⟩) (fun _ _ => trivial) (.inr fun _ => trivial) hDr hk
         cases hq2 : quietOp cx.P ops st T o with
         | some y =>
           obtain ⟨p, cv, st1⟩ := y
           rw [hq2] at h
           cases p with
           | none => exact quiet none cv st1 hq2 (fun _ q hq => by cases hq) h
           | some p => exact quiet (some p) cv st1 hq2 (fun hG q hq' => by obtain rfl := Option.some.inj hq'; exact gImp_spec hR t2 h.1 hG) h.2
         | none =>
           rw [hq2] at h
           simp only at h
           unfold early at hearly
           rw [hT] at hearly
           simp only [hq2] at hearly
           -- a load of memory that is no own box's
           unfold effOp at h
           split at h
           all_goals try (rename_i hop; simp [isLoad, hop] at hearly; done)
           ·rename_i t x hop
            split at h
            ·rename_i A j sh hx hsh
             obtain ⟨vs, hl, hc, hk⟩ := exKs_ex (flush_at h hR.wok)
             have p3 : (st.clean.pin true A).bx = st.bx := rfl
             have hAf : Aft st (st.clean.pin true A) := ⟨rfl, Nat.le_refl _, fun q b hb => ⟨b, hb, rfl, rfl, rfl, fun _ _ h _ => h⟩⟩
             have hW : WOk cx (st.clean.pin true A) wa wa := by
              have := clean_wok hR.wok
              exact ⟨this.boxes, this.own, this.nodup, this.fr, by simp [St.clean, St.pin]⟩
             have hpins : ((st.clean.pin true A).put o.dst (shCv sh vs) T).pins = blkOf A :: st.pins := by cases o.dst <;> rfl
             have hbx : ((st.clean.pin true A).put o.dst (shCv sh vs) T).bx = st.bx := by cases o.dst <;> rfl
             have hDr : Dr st ((st.clean.pin true A).put o.dst (shCv sh vs) T) wa wa :=
              ⟨fun _ _ _ => rfl, fun p hp => by rw [hpins]; exact List.mem_cons_of_mem _ hp, fun q b hb => ⟨b, by rw [hbx]; exact hb, rfl, rfl, rfl⟩⟩
             by_cases hG : Gd ops a T
             ·obtain ⟨h1, _⟩ := rd_sound hR.env hG hx
              have hcells := gImp_spec hR t2 hc hG
              refine main (st.clean.pin true A) (shCv sh vs) wa (fun w' => blkOf A < wa.heap.size → w'.heap[blkOf A]? = wa.heap[blkOf A]?) ((st.clean.pin true A).den (shCv sh vs)) hAf hW hR.versB (fun _ => ⟨rfl, shCv_ok _ _ _⟩) (.inl hG) (.inl ⟨t3.2 hG, fun w' hb => ?_⟩)
               (fun w' hg hlt => hg.2 _ (List.mem_append_right _ (by rw [hpins]; exact List.mem_cons_self)) hlt) (.inl hearly) hDr hk
              simp only [execOp, hop, h1, St.den, Sem.run_bind]
              have := load_run hsh hl (cells_block hcells hb) (st.clean.pin true A)
              simp only [this, Result.andThen_ok, Sem.run_pure]
              rfl
             ·have hw : Region.wanted o (yielded ops a.tmps) = false := by
               cases hw : Region.wanted o (yielded ops a.tmps) with
               | false => rfl
               | true => exact absurd (t3.1 hw) hG
              exact main (st.clean.pin true A) (shCv sh vs) wa (fun _ => True) undef hAf hW hR.versB (fun h => absurd h hG) (.inr rfl) (.inr ⟨hw, rfl⟩) (fun _ _ => trivial) (.inr fun _ => trivial) hDr hk
            ·exact h.elim
     | none =>
       rw [hq] at h
       simp only at h
       obtain ⟨m, rfl, _⟩ := hpos i0 (by rw [hr]; simp)
       refine ⟨fun h0 => (by rw [hr] at h0; cases h0), ?_⟩
       intro i' him
       have h := each_spec h i' (hr ▸ him)
       obtain ⟨hilt, hi0⟩ := ready_lt him
       have hm : (listed.setIfInBounds i' true).toList.count false ≤ m := by
        obtain ⟨m', e, hm⟩ := hpos i' him
        obtain rfl : m = m' := by omega
        exact hm
       cases hi : ops[i']? with
       | none => rw [hi] at h; exact h.elim
       | some o =>
         rw [hi] at h
         simp only at h
         obtain ⟨k1, k2⟩ := step_sound (Q := Q) hok hd hR hi hi0 h
         have next : ∀ a' wa', After cx ops (fun j => listed.getD j false) true i' o st wa (fun st w => drawOps cx ops f (listed.setIfInBounds i' true) st w k) a' wa' →
          SS ops st wa (listed.setIfInBounds i' true) wa' ∧ wpAnyL cx.P ops Q (SS ops st wa) m (listed.setIfInBounds i' true) a' wa' := by
          intro a' wa' ⟨st', w', h1, h2, h3, h4, h5⟩
          have ih := draw_sound hok hd hns hQ hQp f m (listed.setIfInBounds i' true) st' a' w' wa' hm (closed_set hC him) (relR_dn (dn_set hilt) h1) (hA.trans h2) h3
          cases hs : isStore o with
          | true =>
            have hno : ∀ l, Sub (listed.setIfInBounds i' true) l → ¬ NoStore ops l := by
             intro l hsub hn
             have := hn i' o hi hs
             rw [hsub i' (by simp [hilt])] at this
             cases this
            exact ⟨fun hn => absurd hn (hno _ (fun _ h => h)), wpAnyL_mono (listed.setIfInBounds i' true) (fun l w' hsub _ hn => absurd hn (hno l hsub)) _ _ _ _ (fun _ h => h) ih⟩
          | false =>
            have hDr := h5 rfl hs
            refine ⟨fun _ => good_step h4 hDr ⟨Nat.le_refl _, fun _ _ _ => rfl⟩, wpAnyL_mono (listed.setIfInBounds i' true) (fun l w' _ hS hn => good_step h4 hDr (hS hn)) _ _ _ _ (fun _ h => h) ih⟩
         unfold wpOp
         rw [hi]
         simp only
         split
         ·rename_i hw
          exact .inl (Oper.wp_mono next (k1 hw))
         ·rename_i hw
          exact next _ _ (k2 (by simpa using hw))
end
end Go.Cw
end
section
namespace Go.Cw
open Go
theorem rd_out {cx : Cx} {st : St} {a : Act} {w wa : World} (h : RelO cx st a w wa) {x : Operand} {cv : CV} (hx : st.rd [] x = some cv) : a.eval x = st.den cv ∧ CvOk st cv :=
 rd_sound (ops := #[]) (h.relR #[] (fun _ => false)).env (fun x hx => by cases hx) hx
section
variable {cx : Cx} {hs : Hs}
end
end Go.Cw
end
section
namespace Go.Cw
open Go
theorem RelO.like {cx : Cx} {st st' : St} {a : Act} {w wa : World} (hR : RelO cx st a w wa) (l : Like st st') : RelO cx st' a w wa := by
 have := (hR.relR #[] (fun _ => false)).like l
 refine ⟨by rw [l.env]; exact hR.size, fun t e he => ?_, this.wok, hR.defers, this.versB⟩
 have he' := he
 rw [l.env] at he'
 obtain ⟨e1, e2⟩ := this.env.env t e he (by rw [(hR.env t e he').1]; intro x hx; cases hx)
 exact ⟨(hR.env t e he').1, e1, e2, this.vers t e he⟩
def resG (tmps : Array Value) : ResultVar → Sem Value
 | .tmp t => pure (tmps.getD t undef)
 | .cell a t => do loadVar t (← asAddr (tmps.getD a undef))
theorem results_run {P : Program} {fn : Func} {tmps : Array Value} {vs : List Value} {wa : World} (h : (fn.results.toList.mapM (resG tmps)).run P wa = .ok vs wa) : (results fn tmps).run P wa = .ok (retV vs) wa := by
 have key : ∀ g : ResultVar → Sem Value, (∀ x, g x = resG tmps x) → fn.results.mapM g = List.toArray <$> fn.results.toList.mapM (resG tmps) := by
  intro g hg
  obtain rfl : g = resG tmps := funext hg
  obtain ⟨l⟩ := fn.results
  exact List.mapM_toArray
 unfold results
 rw [key _ (fun x => by cases x <;> rfl)]
 simp only [Sem.run_bind, Sem.run_map, h, Result.andThen_ok, Sem.run_pure]
 congr 1
 match vs with
 | [] => rfl
 | [v] => rfl
 | v :: u :: r => simp [retV]
theorem st0_get {n : Nat} {cvs : List CV} {bx : List Bx} {t : Nat} {e : En} (h : (st0 n cvs bx).env[t]? = some (some e)) : ∃ cv, cvs[t]? = some cv ∧ e = ⟨cv, [], 0⟩ := by
 simp only [st0] at h
 rw [List.getElem?_append] at h
 split at h
 ·rw [List.getElem?_map] at h
  obtain ⟨cv, h1, h2⟩ := Option.map_eq_some_iff.1 h
  exact ⟨cv, h1, (Option.some.inj h2).symm⟩
 ·rw [List.getElem?_replicate] at h
  split at h
  ·cases Option.some.inj h
  ·cases h
theorem init_rel {cx : Cx} {n : Nat} {cvs : List CV} {bx : List Bx} (hcv : ∀ cv ∈ cvs, CvOk (st0 n cvs bx) cv) (hbox : ∀ b ∈ bx, Box cx.w0 b.id (b.cs.map (·.1)) b.ty ∧ cx.M b.id) (hnd : (bx.map (·.id)).Nodup) (hver : ∀ b ∈ bx, ∀ c ∈ b.cs, c.2 = 0) :
 RelO cx (st0 n cvs bx) { tmps := (cvs.map (st0 n cvs bx).den).toArray ++ Array.replicate (n - (cvs.map (st0 n cvs bx).den).toArray.size) undef, defers := [] } cx.w0 cx.w0 := by
 refine ⟨?_, fun t e he => ?_, ⟨fun b hb => (hbox b hb).1, fun b hb => .inr (hbox b hb).2, hnd, Fr.refl _ _, by simp [st0]⟩, rfl, fun b hb c hc => ?_⟩
 ·simp [st0]
 ·obtain ⟨cv, h1, rfl⟩ := st0_get he
  have hlt := (List.getElem?_eq_some_iff.1 h1).1
  refine ⟨rfl, ?_, hcv cv (List.mem_of_getElem? h1), by simp [st0]⟩
  rw [Array.getElem?_append_left (by simpa using hlt)]
  simp [h1]
 ·rw [hver b hb c hc]; simp [st0]
end Go.Cw
end
section
namespace Go.Cw
open Go
def F0 : Nat → Prop := fun _ => False
def okB (P : Program) (f : FuncId) : Bool :=
 match P.funcs[f]? with
 | some fn => !(fn.name == "runtime.NumGoroutine") && !fn.body.isNone
 | none => false
theorem okB_enter {P : Program} {f : FuncId} (h : okB P f = true) (args : Array Value) (w : World) : (callFunc f args).run P w = .ok (.enter f args) w := by
 unfold okB at h
 split at h
 ·rename_i fn hf
  simp only [Bool.and_eq_true, Bool.not_eq_true'] at h
  simp only [callFunc, Sem.run_bind, run_program, Result.andThen_ok, hf, h.1, h.2, Bool.false_eq_true, if_false]
  rfl
 ·cases h
theorem okFns_of {P : Program} {l : List Nat} (h : l.all (okB P) = true) (M : Nat → Prop) (w : World) : OkFns ⟨P, M, w, fun f => l.contains f⟩ := by
 intro f hf args w
 exact okB_enter (List.all_eq_true.1 h f (by simpa using hf)) args w
end Go.Cw
end
section
namespace Go.Cw
open Go
/-! ### Contracts -/
def RetM (P : Program) (M : Nat → Prop) (f : FuncId) (args : Array Value) (w : World) (R : Value → World → Prop) : Prop :=
 Calls P f args w fun e w' => ∃ v, e = .returned v ∧ Fr M w w' ∧ R v w'
theorem RetM.mono {P : Program} {M : Nat → Prop} {f : FuncId} {args : Array Value} {w : World} {R R' : Value → World → Prop} (h : RetM P M f args w R) (hr : ∀ v w', R v w' → R' v w') : RetM P M f args w R' := by
 refine Calls.mono h ?_
 rintro e w' ⟨v, rfl, hf, h⟩
 exact ⟨v, rfl, hf, hr v w' h⟩
/-! ### Blocks that stay -/
structure Keep (B : Nat → Prop) (w w' : World) : Prop where
 size : w.heap.size ≤ w'.heap.size
 block : ∀ k, k < w.heap.size → ¬ B k → w'.heap[k]? = w.heap[k]?
theorem Fr.keep {M : Nat → Prop} {w w' : World} (h : Fr M w w') : Keep M w w' := ⟨h.size, h.block⟩
theorem Chg.keep {ids : List Nat} {w w' : World} (h : Chg ids w w') : Keep (· ∈ ids) w w' := ⟨h.size, h.block⟩
theorem Upd.keep {w w' : World} {b : Nat} {cs : List Value} {t : TypeId} (h : Upd w b cs t w') : Keep (· = b) w w' := ⟨Nat.le_of_eq h.size.symm, fun k _ hk => h.block k hk⟩
theorem Keep.mono {B B' : Nat → Prop} {w w' : World} (h : Keep B w w') (hb : ∀ k, k < w.heap.size → B k → B' k) : Keep B' w w' := ⟨h.size, fun k hk hn => h.block k hk fun hh => hn (hb k hk hh)⟩
theorem Fr.mono {M M' : Nat → Prop} {w w' : World} (h : Fr M w w') (hb : ∀ k, k < w.heap.size → M k → M' k) : Fr M' w w' :=
 ⟨h.os, h.tape, h.output, h.size, fun k hk hn => h.block k hk fun hh => hn (hb k hk hh)⟩
theorem Box.lt {w : World} {b : Nat} {cs : List Value} {t : TypeId} (h : Box w b cs t) : b < w.heap.size := by
 unfold Box at h
 by_cases hb : b < w.heap.size
 ·exact hb
 ·rw [Array.getElem?_eq_none (by omega)] at h; cases h
theorem Box.kept {w w' : World} {b : Nat} {cs : List Value} {t : TypeId} {B : Nat → Prop} (h : Box w b cs t) (hk : Keep B w w') (hb : ¬ B b) : Box w' b cs t := by
 unfold Box
 rw [hk.block b h.lt hb]
 exact h
theorem cell_lt {w : World} {p : Addr} {v : Value} (h : w.cell? p = some v) : p.block < w.heap.size := by
 unfold World.cell? at h
 by_cases hb : p.block < w.heap.size
 ·exact hb
 ·rw [Array.getElem?_eq_none (by omega)] at h; cases h
theorem cell_kept {w w' : World} {p : Addr} {v : Value} {B : Nat → Prop} (h : w.cell? p = some v) (hk : Keep B w w') (hb : ¬ B p.block) : w'.cell? p = some v := by
 rw [World.cell?_of_block (hk.block _ (cell_lt h) hb)]
 exact h
theorem Box.cell {w : World} {b o : Nat} {cs : List Value} {t : TypeId} {v : Value} (h : Box w b cs t) (hv : cs[o]? = some v) : w.cell? ⟨b, o, none⟩ = some v := by
 unfold World.cell?
 rw [show w.heap[(⟨b, o, none⟩ : Addr).block]? = _ from h]
 simp [hv]
theorem add_none (b o j : Nat) : (⟨b, o, none⟩ : Addr).add j = ⟨b, o + j, none⟩ := addr_add b o j
theorem Box.cells {w : World} {b : Nat} {cs : List Value} {t : TypeId} (h : Box w b cs t) (j : Nat) (vs : List Value) (hv : ∀ m, m < vs.length → cs[j + m]? = vs[m]?) : Cells w (some ⟨b, 0, none⟩) j vs := by
 refine ⟨_, rfl, fun m hm => ?_⟩
 rw [add_none, add_none, Nat.zero_add]
 have := hv m hm
 rw [List.getElem?_eq_getElem hm] at this ⊢
 exact h.cell this
theorem Box.all {w : World} {b : Nat} {cs : List Value} {t : TypeId} (h : Box w b cs t) : Cells w (some ⟨b, 0, none⟩) 0 cs :=
 h.cells 0 cs fun m _ => by rw [Nat.zero_add]
/-! ### Numbers at a base -/
def Ints (k : IntKind) (w : World) (A : Option Addr) (n : Nat) (l : List Int) : Prop :=
 l.length = n ∧ (0 < n → ∃ p, A = some p ∧ ∀ i x, l[i]? = some x → w.cell? (p.add i) = some (.int k x))
def Row (k : IntKind) (e : TypeId) (w : World) (A : Option Addr) (n : Nat) (l : List Int) : Prop :=
 l.length = n ∧ ∃ b rest, A = some ⟨b, 0, none⟩ ∧ Box w b (l.map (Value.int k) ++ rest) e
theorem add_block (p : Addr) (j : Nat) : (p.add j).block = p.block := by
 unfold Addr.add; split
 ·rename_i h; subst h; rfl
 ·rfl
theorem Ints.kept {k : IntKind} {w w' : World} {A : Option Addr} {n : Nat} {l : List Int} {B : Nat → Prop} (h : Ints k w A n l) (hk : Keep B w w') (hb : ∀ p, A = some p → ¬ B p.block) : Ints k w' A n l :=
 ⟨h.1, fun hn => by
  obtain ⟨p, hp, hc⟩ := h.2 hn
  exact ⟨p, hp, fun i x hx => cell_kept (hc i x hx) hk (by rw [add_block]; exact hb p hp)⟩⟩
theorem Row.kept {k : IntKind} {e : TypeId} {w w' : World} {A : Option Addr} {n : Nat} {l : List Int} {B : Nat → Prop} (h : Row k e w A n l) (hk : Keep B w w') (hb : ∀ p, A = some p → ¬ B p.block) : Row k e w' A n l := by
 obtain ⟨h1, b, r, rfl, hB⟩ := h
 exact ⟨h1, b, r, rfl, hB.kept hk (hb _ rfl)⟩
theorem Row.isSome {k : IntKind} {e : TypeId} {w : World} {A : Option Addr} {n : Nat} {l : List Int} (h : Row k e w A n l) : A.isSome = true := by
 obtain ⟨_, b, r, rfl, _⟩ := h; rfl
theorem Ints.cell {k : IntKind} {w : World} {A : Option Addr} {n : Nat} {l : List Int} (h : Ints k w A n l) {i : Nat} {x : Int} (hx : l[i]? = some x) : Cells w A (i * 1) [.int k x] := by
 have hi : i < l.length := by
  by_cases hi : i < l.length
  ·exact hi
  ·rw [List.getElem?_eq_none (by omega)] at hx; cases hx
 obtain ⟨p, hp, hc⟩ := h.2 (by have := h.1; omega)
 refine ⟨p, hp, fun m hm => ?_⟩
 obtain rfl : m = 0 := by simpa using hm
 have := hc i x hx
 rw [Nat.mul_one]
 show w.cell? ((p.add i).add 0) = _
 rw [show (p.add i).add 0 = p.add i by
  unfold Addr.add; split <;> simp_all]
 exact this
theorem Ints.isSome {k : IntKind} {w : World} {A : Option Addr} {n : Nat} {l : List Int} (h : Ints k w A n l) (hn : 0 < n) : A.isSome = true := by
 obtain ⟨p, hp, _⟩ := h.2 hn; rw [hp]; rfl
end Go.Cw
end
section
namespace Go.Cw
open Go
section
variable {P : Program} {w : World} {k : IntKind} {t ty e : TypeId} {bytes : Nat} {R : Value → World → Prop}
theorem heap_alloc (w : World) (o : Obj) : (w.alloc o).heap = w.heap.push o := rfl
theorem fr_alloc (w : World) (o : Obj) : Fr F0 w (w.alloc o) := ⟨rfl, rfl, rfl, by rw [heap_alloc]; simp, fun j hj _ => by rw [heap_alloc, Array.getElem?_push_lt hj, Array.getElem?_eq_getElem hj]⟩
theorem fr_grown {w w' : World} (h : w.grownBy w' none) : Fr F0 w w' := ⟨h.os, h.tape, h.output, h.size, fun j hj _ => h.block j hj (by simp)⟩
theorem Row.put {A : Option Addr} {n : Nat} {l : List Int} (h : Row k e w A n l) {i : Nat} (hi : i < n) (x : Int) :
 ∃ b cs, offA A (i * 1) = some ⟨b, i, none⟩ ∧ A = some ⟨b, 0, none⟩ ∧ Box w b cs e ∧ i + 1 ≤ cs.length ∧
  ∀ w2, Upd w b (List.append (List.append (List.take i cs) [.int k x]) (List.drop (i + 1) cs)) e w2 → Row k e w2 A n (l.set i x) := by
 obtain ⟨h1, b, rest, rfl, hB⟩ := h
 refine ⟨b, _, ?_, rfl, hB, by simp; omega, fun w2 hu => ⟨by simp [h1], b, rest, rfl, ?_⟩⟩
 ·simp [offA, add_none]
 ·have := hu.box
  have heq : List.append (List.append (List.take i (List.map (Value.int k) l ++ rest)) [.int k x]) (List.drop (i + 1) (List.map (Value.int k) l ++ rest)) = (l.set i x).map (Value.int k) ++ rest := by
   show (List.take i (List.map (Value.int k) l ++ rest) ++ [.int k x]) ++ (List.drop (i + 1) (List.map (Value.int k) l ++ rest)) = _
   rw [List.take_append_of_le_length (by simp; omega), List.drop_append_of_le_length (by simp; omega), List.map_set, List.set_eq_take_append_cons_drop]
   simp [h1, hi]
  rw [heq] at this
  exact this
end
end Go.Cw
end
section
namespace Go.Cw
open Go
theorem wrap_i64 (x : Int) : IntKind.wrap .i64 x = if x % 18446744073709551616 ≥ 9223372036854775808 then x % 18446744073709551616 - 18446744073709551616 else x % 18446744073709551616 := by
 show (if (true && decide (x % 18446744073709551616 ≥ 9223372036854775808)) = true then x % 18446744073709551616 - 18446744073709551616 else x % 18446744073709551616) = _
 simp
theorem wrap_i64_of {x : Int} (h : -9223372036854775808 ≤ x) (h' : x < 9223372036854775808) : IntKind.wrap .i64 x = x := by
 rw [wrap_i64]; split <;> omega
end Go.Cw
end
section
namespace Go.Dw
open Go Go.Cw
set_option linter.unusedVariables false
inductive D where
 | v (x : Value)
 | l (es : List (List D))
 | p (cs : List D)
 | f (cs : List D)
inductive Shp where
 | v (k : Ck)
 | l (md : Nat) (e : TypeId) (sub : List Shp)
 | p (md : Nat) (t : TypeId) (sub : List Shp)
 | f (g : FuncId) (sub : List Shp)
def fnOf (g : FuncId) : FuncId := g % 1000000
def nfOf (g : FuncId) : Nat := g / 1000000
def fnV (g : FuncId) (cs : List Value) : Value := .func (.func (fnOf g)) (cs.take (nfOf g)).toArray (cs.drop (nfOf g)).toArray
theorem fn_code (g n : Nat) (h : g < 1000000) : fnOf (g + 1000000 * n) = g ∧ nfOf (g + 1000000 * n) = n := by
 have a : (g + 1000000 * n) % 1000000 = g := by omega
 have b : (g + 1000000 * n) / 1000000 = n := by omega
 exact ⟨a, b⟩
theorem fnV_inj {cs cs' : List Value} {n m : Nat} (h1 : (cs.take n).toArray = (cs'.take m).toArray) (h2 : (cs.drop n).toArray = (cs'.drop m).toArray) : cs = cs' := by
 have a : cs.take n = cs'.take m := by simpa using congrArg Array.toList h1
 have b : cs.drop n = cs'.drop m := by simpa using congrArg Array.toList h2
 rw [← List.take_append_drop n cs, a, b, List.take_append_drop]
def flatK : Ck → Bool
 | .int _ | .bool | .str => true
 | _ => false
theorem flatten_length {css : List (List Value)} {sz : Nat} (h : ∀ cs ∈ css, cs.length = sz) : css.flatten.length = css.length * sz := by
 induction css with
 | nil => simp
 | cons c r ih =>
   rw [List.flatten_cons, List.length_append, ih (fun cs hc => h cs (List.mem_cons_of_mem _ hc)), h c (List.mem_cons_self ..), List.length_cons, Nat.add_mul, Nat.one_mul, Nat.add_comm]
theorem flatten_get {css : List (List Value)} {sz : Nat} (h : ∀ cs ∈ css, cs.length = sz) : ∀ {i : Nat} {cs : List Value} {m : Nat}, css[i]? = some cs → m < sz → css.flatten[i * sz + m]? = cs[m]? := by
 induction css with
 | nil => intro i cs m hi; cases hi
 | cons c r ih =>
   intro i cs m hi hm
   have hc := h c (List.mem_cons_self ..)
   cases i with
   | zero =>
     obtain rfl := Option.some.inj hi
     rw [List.flatten_cons, Nat.zero_mul, Nat.zero_add, List.getElem?_append_left (by omega)]
   | succ i =>
     rw [List.flatten_cons, List.getElem?_append_right (by rw [hc, Nat.add_mul, Nat.one_mul]; omega)]
     rw [show (i + 1) * sz + m - c.length = i * sz + m by rw [hc, Nat.add_mul, Nat.one_mul]; omega]
     exact ih (fun cs hc => h cs (List.mem_cons_of_mem _ hc)) hi hm
theorem flatten_set {css : List (List Value)} {sz : Nat} (h : ∀ cs ∈ css, cs.length = sz) {i : Nat} {l : List Value} (hi : i < css.length) (hl : l.length = sz) : css.flatten.take (i * sz) ++ l ++ css.flatten.drop (i * sz + sz) = (css.set i l).flatten := by
 induction css generalizing i with
 | nil => cases hi
 | cons c r ih =>
   have hc := h c (List.mem_cons_self ..)
   cases i with
   | zero =>
     simp only [Nat.zero_mul, List.take_zero, List.nil_append, Nat.zero_add, List.set_cons_zero, List.flatten_cons]
     rw [List.drop_append, hc, Nat.sub_self, List.drop_zero, List.drop_eq_nil_of_le (by omega), List.nil_append]
   | succ i =>
     rw [List.set_cons_succ, List.flatten_cons, List.flatten_cons, ← ih (fun cs hc => h cs (List.mem_cons_of_mem _ hc)) (by simpa using hi)]
     have e : (i + 1) * sz = c.length + i * sz := by rw [hc, Nat.add_mul, Nat.one_mul, Nat.add_comm]
     rw [e, List.take_length_add_append, Nat.add_assoc, List.drop_length_add_append]
     simp only [List.append_assoc]
def CatZ (w : World) (Z : Nat → Prop) (A : Option Addr) (cs : List Value) : Prop :=
 cs ≠ [] → ∃ p, A = some p ∧ Z p.block ∧ ∀ (j : Nat) (v : Value), cs[j]? = some v → w.cell? (p.add j) = some v
mutual
inductive Rep (w : World) (Z : Nat → Nat → Prop) : Shp → D → Value → List Nat → Prop
 | v {k : Ck} {x : Value} : flatK k = true → k.fits x = true → Rep w Z (.v k) (.v x) x []
 | tree {md : Nat} {e : TypeId} {sub : List Shp} {es : List (List D)} {A : Option Addr} {c : Nat} {css : List (List Value)} :
  md ≠ 0 → es.length ≤ maxLen → es.length ≤ c → CatZ w (Z md) A css.flatten → Recs w Z sub es css [] → Rep w Z (.l md e sub) (.l es) (.slice A es.length c) []
 | nil {e : TypeId} {sub : List Shp} : Rep w Z (.l 0 e sub) (.l []) (.slice none 0 0) []
 | own {e : TypeId} {sub : List Shp} {es : List (List D)} {b c : Nat} {css : List (List Value)} {rest : List Value} {fs : List Nat} :
  Box w b (css.flatten ++ rest) e → (css.flatten ++ rest).length = c * sub.length → es.length ≤ c → c ≤ maxLen → Recs w Z sub es css fs →
  Rep w Z (.l 0 e sub) (.l es) (.slice (some ⟨b, 0, none⟩) es.length c) (b :: fs)
 | ptr {md : Nat} {t : TypeId} {sub : List Shp} {ds : List D} {p : Addr} {cs : List Value} :
  md ≠ 0 → CatZ w (Z md) (some p) cs → Reps w Z sub ds cs [] → Rep w Z (.p md t sub) (.p ds) (.pointer (some p)) []
 | box {t : TypeId} {sub : List Shp} {ds : List D} {b : Nat} {cs : List Value} {fs : List Nat} :
  Box w b cs t → Reps w Z sub ds cs fs → Rep w Z (.p 0 t sub) (.p ds) (.pointer (some ⟨b, 0, none⟩)) (b :: fs)
 | fn {g : FuncId} {sub : List Shp} {ds : List D} {cs : List Value} {fs : List Nat} :
  Reps w Z sub ds cs fs → Rep w Z (.f g sub) (.f ds) (fnV g cs) fs
inductive Reps (w : World) (Z : Nat → Nat → Prop) : List Shp → List D → List Value → List Nat → Prop
 | nil : Reps w Z [] [] [] []
 | cons {s : Shp} {ss : List Shp} {d : D} {ds : List D} {v : Value} {vs : List Value} {f fs : List Nat} : Rep w Z s d v f → Reps w Z ss ds vs fs → Reps w Z (s :: ss) (d :: ds) (v :: vs) (f ++ fs)
inductive Recs (w : World) (Z : Nat → Nat → Prop) : List Shp → List (List D) → List (List Value) → List Nat → Prop
 | nil {sub : List Shp} : Recs w Z sub [] [] []
 | cons {sub : List Shp} {e : List D} {es : List (List D)} {cs : List Value} {css : List (List Value)} {f fs : List Nat} : Reps w Z sub e cs f → Recs w Z sub es css fs → Recs w Z sub (e :: es) (cs :: css) (f ++ fs)
end
section
variable {w w' : World} {Z Z' : Nat → Nat → Prop}
theorem CatZ.kept {Q Q' : Nat → Prop} {A : Option Addr} {cs : List Value} (h : CatZ w Q A cs) (hb : ∀ k, k < w.heap.size → Q k → w'.heap[k]? = w.heap[k]?) (hq : ∀ k, Q k → Q' k) : CatZ w' Q' A cs := fun hn => by
 obtain ⟨p, hp, hz, hc⟩ := h hn
 refine ⟨p, hp, hq _ hz, fun j v hj => ?_⟩
 have h1 := hc j v hj
 have hl := cell_lt h1
 rw [add_block] at hl
 have h2 : w'.heap[(p.add j).block]? = w.heap[(p.add j).block]? := by rw [add_block]; exact hb _ hl hz
 rw [World.cell?_of_block h2]
 exact h1
theorem Box.keptB {b : Nat} {cs : List Value} {t : TypeId} (h : Box w b cs t) (hb : w'.heap[b]? = w.heap[b]?) : Box w' b cs t := by
 unfold Box at *
 rw [hb]; exact h
mutual
theorem Rep.kept (hz : ∀ m k, k < w.heap.size → Z m k → w'.heap[k]? = w.heap[k]?) (hm : ∀ m k, Z m k → Z' m k) : ∀ {s : Shp} {d : D} {v : Value} {f : List Nat}, Rep w Z s d v f → (∀ k ∈ f, w'.heap[k]? = w.heap[k]?) → Rep w' Z' s d v f
 | _, _, _, _, .v h1 h2, _ => .v h1 h2
 | _, _, _, _, .tree h1 h2 hc h3 h4, _ => .tree h1 h2 hc (h3.kept (hz _) (hm _)) (Recs.kept hz hm h4 (fun _ h => by cases h))
 | _, _, _, _, .nil, _ => .nil
 | _, _, _, _, .own h1 h2 h3 h4 h5, hf => .own (Box.keptB h1 (hf _ (List.mem_cons_self ..))) h2 h3 h4 (Recs.kept hz hm h5 fun k hk => hf k (List.mem_cons_of_mem _ hk))
 | _, _, _, _, .ptr h1 h2 h3, _ => .ptr h1 (h2.kept (hz _) (hm _)) (Reps.kept hz hm h3 (fun _ h => by cases h))
 | _, _, _, _, .box h1 h2, hf => .box (Box.keptB h1 (hf _ (List.mem_cons_self ..))) (Reps.kept hz hm h2 fun k hk => hf k (List.mem_cons_of_mem _ hk))
 | _, _, _, _, .fn h, hf => .fn (Reps.kept hz hm h hf)
theorem Reps.kept (hz : ∀ m k, k < w.heap.size → Z m k → w'.heap[k]? = w.heap[k]?) (hm : ∀ m k, Z m k → Z' m k) : ∀ {s : List Shp} {d : List D} {v : List Value} {f : List Nat}, Reps w Z s d v f → (∀ k ∈ f, w'.heap[k]? = w.heap[k]?) → Reps w' Z' s d v f
 | _, _, _, _, .nil, _ => .nil
 | _, _, _, _, .cons h1 h2, hf => .cons (Rep.kept hz hm h1 fun k hk => hf k (List.mem_append_left _ hk)) (Reps.kept hz hm h2 fun k hk => hf k (List.mem_append_right _ hk))
theorem Recs.kept (hz : ∀ m k, k < w.heap.size → Z m k → w'.heap[k]? = w.heap[k]?) (hm : ∀ m k, Z m k → Z' m k) : ∀ {s : List Shp} {d : List (List D)} {v : List (List Value)} {f : List Nat}, Recs w Z s d v f → (∀ k ∈ f, w'.heap[k]? = w.heap[k]?) → Recs w' Z' s d v f
 | _, _, _, _, .nil, _ => .nil
 | _, _, _, _, .cons h1 h2, hf => .cons (Reps.kept hz hm h1 fun k hk => hf k (List.mem_append_left _ hk)) (Recs.kept hz hm h2 fun k hk => hf k (List.mem_append_right _ hk))
end
mutual
theorem Rep.lt : ∀ {s : Shp} {d : D} {v : Value} {f : List Nat}, Rep w Z s d v f → ∀ k ∈ f, k < w.heap.size
 | _, _, _, _, .v h1 h2, _, h => by cases h
 | _, _, _, _, .tree h1 h2 hc h3 h4, _, h => by cases h
 | _, _, _, _, .nil, _, h => by cases h
 | _, _, _, _, .own h1 h2 h3 h4 h5, k, hk => by
   rcases List.mem_cons.1 hk with rfl | hk
   ·exact h1.lt
   ·exact Recs.lt h5 k hk
 | _, _, _, _, .ptr h1 h2 h3, _, h => by cases h
 | _, _, _, _, .box h1 h2, k, hk => by
   rcases List.mem_cons.1 hk with rfl | hk
   ·exact h1.lt
   ·exact Reps.lt h2 k hk
 | _, _, _, _, .fn h, k, hk => Reps.lt h k hk
theorem Reps.lt : ∀ {s : List Shp} {d : List D} {v : List Value} {f : List Nat}, Reps w Z s d v f → ∀ k ∈ f, k < w.heap.size
 | _, _, _, _, .nil, _, h => by cases h
 | _, _, _, _, .cons h1 h2, k, hk => by
   rcases List.mem_append.1 hk with hk | hk
   ·exact Rep.lt h1 k hk
   ·exact Reps.lt h2 k hk
theorem Recs.lt : ∀ {s : List Shp} {d : List (List D)} {v : List (List Value)} {f : List Nat}, Recs w Z s d v f → ∀ k ∈ f, k < w.heap.size
 | _, _, _, _, .nil, _, h => by cases h
 | _, _, _, _, .cons h1 h2, k, hk => by
   rcases List.mem_append.1 hk with hk | hk
   ·exact Reps.lt h1 k hk
   ·exact Recs.lt h2 k hk
end
theorem Reps.len {s : List Shp} {d : List D} {v : List Value} {f : List Nat} (h : Reps w Z s d v f) : d.length = s.length ∧ v.length = s.length := by
 induction s generalizing d v f with
 | nil => cases h; exact ⟨rfl, rfl⟩
 | cons s ss ih =>
   cases h with
   | cons h1 h2 => obtain ⟨a, b⟩ := ih h2; exact ⟨by simp [a], by simp [b]⟩
theorem Recs.len {sub : List Shp} {es : List (List D)} {css : List (List Value)} {f : List Nat} (h : Recs w Z sub es css f) : css.length = es.length := by
 induction es generalizing css f with
 | nil => cases h; rfl
 | cons e es ih =>
   cases h with
   | cons h1 h2 => simp [ih h2]
theorem Recs.sizes {sub : List Shp} {es : List (List D)} {css : List (List Value)} {f : List Nat} (h : Recs w Z sub es css f) : ∀ cs ∈ css, cs.length = sub.length := by
 induction es generalizing css f with
 | nil => cases h; intro cs hc; cases hc
 | cons e es ih =>
   cases h with
   | cons h1 h2 =>
     intro cs hc
     rcases List.mem_cons.1 hc with rfl | hc
     ·exact h1.len.2
     ·exact ih h2 cs hc
theorem Recs.size {sub : List Shp} {es : List (List D)} {css : List (List Value)} {f : List Nat} (h : Recs w Z sub es css f) : css.flatten.length = es.length * sub.length := by rw [flatten_length h.sizes, h.len]
theorem Recs.split {sub : List Shp} {es : List (List D)} {css : List (List Value)} {fs : List Nat} (h : Recs w Z sub es css fs) {i : Nat} {e : List D} (he : es[i]? = some e) :
 ∃ a f b cs, fs = a ++ f ++ b ∧ css[i]? = some cs ∧ Reps w Z sub e cs f ∧ ∀ e' cs' f', Reps w Z sub e' cs' f' → Recs w Z sub (es.set i e') (css.set i cs') (a ++ f' ++ b) := by
 induction es generalizing css fs i with
 | nil => cases he
 | cons e0 es ih =>
   cases h with
   | @cons _ _ _ cs0 css0 f0 fs0 h1 h2 =>
   cases i with
   | zero =>
     obtain rfl := Option.some.inj he
     refine ⟨[], f0, fs0, cs0, rfl, rfl, h1, fun e' cs' f' h' => ?_⟩
     exact .cons h' h2
   | succ i =>
     obtain ⟨a, f, b, cs, rfl, hc, hR, hS⟩ := ih h2 he
     refine ⟨f0 ++ a, f, b, cs, by simp, hc, hR, fun e' cs' f' h' => ?_⟩
     have := Recs.cons h1 (hS e' cs' f' h')
     simpa using this
theorem Recs.append {sub : List Shp} {es es' : List (List D)} {css css' : List (List Value)} {f f' : List Nat} (h : Recs w Z sub es css f) (h' : Recs w Z sub es' css' f') : Recs w Z sub (es ++ es') (css ++ css') (f ++ f') := by
 induction es generalizing css f with
 | nil => cases h; exact h'
 | cons e es ih =>
   cases h with
   | cons h1 h2 =>
     have := Recs.cons h1 (ih h2)
     simpa using this
theorem Recs.cut {sub : List Shp} {es : List (List D)} {css : List (List Value)} {fs : List Nat} (h : Recs w Z sub es css fs) (n : Nat) :
 ∃ f1 f2, fs = f1 ++ f2 ∧ Recs w Z sub (es.take n) (css.take n) f1 ∧ Recs w Z sub (es.drop n) (css.drop n) f2 := by
 induction es generalizing css fs n with
 | nil =>
   cases h
   exact ⟨[], [], rfl, by simpa using Recs.nil, by simpa using Recs.nil⟩
 | cons e es ih =>
   cases h with
   | @cons _ _ _ cs0 css0 f0 fs0 h1 h2 =>
     cases n with
     | zero => exact ⟨[], f0 ++ fs0, rfl, .nil, .cons h1 h2⟩
     | succ n =>
       obtain ⟨f1, f2, rfl, k1, k2⟩ := ih h2 n
       exact ⟨f0 ++ f1, f2, by simp, .cons h1 k1, k2⟩
theorem Reps.append {s s' : List Shp} {d d' : List D} {v v' : List Value} {f f' : List Nat} (h : Reps w Z s d v f) (h' : Reps w Z s' d' v' f') : Reps w Z (s ++ s') (d ++ d') (v ++ v') (f ++ f') := by
 induction s generalizing d v f with
 | nil => cases h; exact h'
 | cons s ss ih =>
   cases h with
   | cons h1 h2 =>
     have := Reps.cons h1 (ih h2)
     simpa using this
theorem Reps.cut {s : List Shp} {d : List D} {v : List Value} {fs : List Nat} (h : Reps w Z s d v fs) (n : Nat) :
 ∃ f1 f2, fs = f1 ++ f2 ∧ Reps w Z (s.take n) (d.take n) (v.take n) f1 ∧ Reps w Z (s.drop n) (d.drop n) (v.drop n) f2 := by
 induction s generalizing d v fs n with
 | nil =>
   cases h
   exact ⟨[], [], rfl, by simpa using Reps.nil, by simpa using Reps.nil⟩
 | cons s ss ih =>
   cases h with
   | @cons _ _ d0 ds v0 vs f0 fs0 h1 h2 =>
     cases n with
     | zero => exact ⟨[], f0 ++ fs0, rfl, .nil, .cons h1 h2⟩
     | succ n =>
       obtain ⟨f1, f2, rfl, k1, k2⟩ := ih h2 n
       exact ⟨f0 ++ f1, f2, by simp, .cons h1 k1, k2⟩
theorem Reps.of_one {s : Shp} {d : D} {v : Value} {f : List Nat} (h : Reps w Z [s] [d] [v] f) : Rep w Z s d v f := by
 cases h with
 | cons h1 h2 => cases h2; simpa using h1
theorem Rep.cell {s : Shp} {d : D} {v : Value} {f : List Nat} (h : Rep w Z s d v f) : oneB v = true ∧ v.cells = #[v] := by
 cases h with
 | v h1 h2 =>
   rename_i k
   cases k <;> cases v <;> first | (simp [flatK] at h1; done) | (simp [Ck.fits] at h2; done) | exact ⟨rfl, rfl⟩
 | tree => exact ⟨rfl, rfl⟩
 | nil => exact ⟨rfl, rfl⟩
 | own => exact ⟨rfl, rfl⟩
 | ptr => exact ⟨rfl, rfl⟩
 | box => exact ⟨rfl, rfl⟩
 | fn => exact ⟨rfl, rfl⟩
theorem Reps.ones {s : List Shp} {d : List D} {v : List Value} {f : List Nat} (h : Reps w Z s d v f) : ∀ x ∈ v, oneB x = true ∧ x.cells = #[x] := by
 induction s generalizing d v f with
 | nil => cases h; intro x hx; cases hx
 | cons s ss ih =>
   cases h with
   | cons h1 h2 =>
     intro x hx
     rcases List.mem_cons.1 hx with rfl | hx
     ·exact h1.cell
     ·exact ih h2 x hx
theorem Recs.ones {sub : List Shp} {es : List (List D)} {css : List (List Value)} {f : List Nat} (h : Recs w Z sub es css f) : ∀ x ∈ css.flatten, oneB x = true ∧ x.cells = #[x] := by
 induction es generalizing css f with
 | nil => cases h; intro x hx; cases hx
 | cons e es ih =>
   cases h with
   | cons h1 h2 =>
     intro x hx
     rw [List.flatten_cons] at hx
     rcases List.mem_append.1 hx with hx | hx
     ·exact h1.ones x hx
     ·exact ih h2 x hx
end
end Go.Dw
end
section
namespace Go.Dw
open Go Go.Cw
set_option linter.unusedVariables false
/-! ### Shapes -/
def kEq : Ck → Ck → Bool
 | .int k, .int k' => decide (k = k')
 | .bool, .bool => true
 | .str, .str => true
 | _, _ => false
def mdLe (m m' : Nat) : Bool := m == m' || m == 0 || (m == 1 && m' == 2)
mutual
def Shp.bor : Shp → Bool
 | .v _ => true
 | .l md _ sub => md != 0 && Shp.bors sub
 | .p md _ sub => md != 0 && Shp.bors sub
 | .f _ sub => Shp.bors sub
def Shp.bors : List Shp → Bool
 | [] => true
 | s :: r => s.bor && Shp.bors r
end
mutual
def Shp.le : Shp → Shp → Bool
 | .v k, s => match s with | .v k' => kEq k k' | _ => false
 | .l md e sub, s => match s with | .l md' e' sub' => mdLe md md' && (e == e') && Shp.les sub sub' && (md' == 0 || Shp.bors sub') | _ => false
 | .p md t sub, s => match s with | .p md' t' sub' => mdLe md md' && (t == t') && Shp.les sub sub' && (md' == 0 || Shp.bors sub') | _ => false
 | .f g sub, s => match s with | .f g' sub' => (g == g') && Shp.les sub sub' | _ => false
def Shp.les : List Shp → List Shp → Bool
 | [], ts => match ts with | [] => true | _ => false
 | s :: ss, ts => match ts with | t :: ts => s.le t && Shp.les ss ts | [] => false
end
mutual
def Shp.rdo : Shp → Bool
 | .v _ => true
 | .l md _ sub => md == 2 && Shp.rdos sub
 | .p md _ sub => md == 2 && Shp.rdos sub
 | .f _ sub => Shp.rdos sub
def Shp.rdos : List Shp → Bool
 | [] => true
 | s :: r => s.rdo && Shp.rdos r
end
def mdLr (m m' : Nat) : Bool := m' == 2 || (m == m' && m != 0)
mutual
def Shp.leR : Shp → Shp → Bool
 | .v k, s => match s with | .v k' => kEq k k' | _ => false
 | .l md e sub, s => match s with | .l md' e' sub' => mdLr md md' && (e == e') && Shp.lesR sub sub' | _ => false
 | .p md t sub, s => match s with | .p md' t' sub' => mdLr md md' && (t == t') && Shp.lesR sub sub' | _ => false
 | .f g sub, s => match s with | .f g' sub' => (g == g') && Shp.lesR sub sub' | _ => false
def Shp.lesR : List Shp → List Shp → Bool
 | [], ts => match ts with | [] => true | _ => false
 | s :: ss, ts => match ts with | t :: ts => s.leR t && Shp.lesR ss ts | [] => false
end
mutual
def Shp.rd (md : Nat) : Shp → Shp
 | .v k => .v k
 | .l m e sub => .l (if m == 0 then md else if m == 1 then md else m) e (Shp.rds md sub)
 | .p m t sub => .p (if m == 0 then md else if m == 1 then md else m) t (Shp.rds md sub)
 | .f g sub => .f g (Shp.rds md sub)
def Shp.rds (md : Nat) : List Shp → List Shp
 | [] => []
 | s :: r => s.rd md :: Shp.rds md r
end
/-! ### The state -/
inductive DC where
 | v (x : Value)
 | bp (k off : Nat)
 | er (r i sz off : Nat)
structure DE where
 cv : DC
 tg : List (Nat × Bool)
 vr : Nat
structure DB where
 cs : List (Value × Nat)
 ty : TypeId
inductive Te where
 | row (md : Nat) (e : TypeId) (sub : List Shp) (es : List (List D))
 | view (r : Nat) (root : Bool) (e : TypeId) (sub : List Shp) (es : List (List D))
 | pbx (md : Nat) (t : TypeId) (cs : List Value)
 | dead
structure DS where
 env : List (Option DE)
 bx : List DB
 tb : List (Te × Nat)
 ctr : Nat
 pins : List Nat
def DS.tbAt (s : DS) (r : Nat) : Te :=
 match s.tb[r]? with
 | some x => x.1
 | none => .dead
def DS.addT (s : DS) (t : Te) : DS := { s with tb := s.tb ++ [(t, s.ctr)], ctr := s.ctr + 1 }
def DS.setT (s : DS) (r : Nat) (t : Te) : DS := { s with tb := s.tb.set r (t, s.ctr), ctr := s.ctr + 1 }
def killE (r : Nat) (root : Bool) (c : Nat) : Te × Nat → Te × Nat
 | (.view r' rt e sub es, v) => if r' = r then (if root && !rt then (.view r' rt e sub es, v) else (.dead, c)) else (.view r' rt e sub es, v)
 | x => x
def DS.kill (s : DS) (r : Nat) (root : Bool) : DS := { s with tb := s.tb.map (killE r root s.ctr), ctr := s.ctr + 1 }
mutual
def cntS : Shp → Nat
 | .v _ => 0
 | .l _ _ _ => 1
 | .p _ _ sub => cntSs sub + 1
 | .f _ sub => cntSs sub
def cntSs : List Shp → Nat
 | [] => 0
 | s :: r => cntS s + cntSs r
end
def DS.pad : Nat → DS → DS
 | 0, s => s
 | n + 1, s => DS.pad n (s.addT .dead)
def slV (r : Nat) : Value := .slice (some ⟨2 * r, 0, none⟩) 0 0
def ptV (r : Nat) : Value := .pointer (some ⟨2 * r, 0, none⟩)
def evenB (p : Addr) : Bool := p.block % 2 == 0
def notFn : Value → Bool
 | .func _ _ _ => false
 | _ => true
mutual
def mat : Shp → D → DS → Option (Value × DS)
 | .v k, d, s => match d with | .v x => if flatK k && k.fits x then some (x, s) else none | _ => none
 | .l md e sub, d, s => match d with | .l es => some (slV s.tb.length, s.addT (.row md e sub es)) | _ => none
 | .p md t sub, d, s => match d with
   | .p ds => match mats sub ds s with | some (cs, s) => some (ptV s.tb.length, s.addT (.pbx md t cs)) | none => none
   | _ => none
 | .f g sub, d, s => match d with
   | .f ds => match mats sub ds s with | some (cs, s) => if cs.all notFn then some (.func (.func g) #[] cs.toArray, s) else none | none => none
   | _ => none
def mats : List Shp → List D → DS → Option (List Value × DS)
 | [], ds, s => match ds with | [] => some ([], s) | _ => none
 | t :: ts, ds, s => match ds with
   | d :: ds => match mat t d s with
     | some (v, s) => match mats ts ds s with | some (vs, s) => some (v :: vs, s) | none => none
     | none => none
   | [] => none
end
def matsV (own : Bool) (r : Nat) (rt : Bool) : List Shp → List D → DS → Option (List Value × DS)
 | [], ds, s => match ds with | [] => some ([], s) | _ => none
 | t :: ts, ds, s => match ds with
   | d :: ds =>
     match t, d with
     | .v k, .v x => if flatK k && k.fits x then match matsV own r rt ts ds s with | some (vs, s) => some (x :: vs, s) | none => none else none
     | .l md e sub, .l es => if md ≤ 2 then match matsV own r rt ts ds (s.addT (if own && md == 1 then .row md e sub es else .view r rt e (Shp.rds 2 sub) es)) with | some (vs, s') => some (slV s.tb.length :: vs, s') | none => none else none
     | _, _ => none
   | [] => none
mutual
def toD (s : DS) : Shp → Value → Option D
 | .v k, x => if flatK k && k.fits x then some (.v x) else none
 | .l md e sub, x =>
   match x with
   | .slice none 0 0 => if md == 2 then some (.l []) else none
   | .slice (some p) _ _ =>
     if evenB p && md == 2 then
      match s.tbAt (p.block / 2) with
      | .row md' e' sub' es => if Shp.leR (.l md' e' sub') (.l 2 e sub) then some (.l es) else none
      | .view _ _ e' sub' es => if Shp.le (.l 2 e' sub') (.l 2 e sub) && Shp.rdos sub then some (.l es) else none
      | _ => none
     else none
   | _ => none
 | .p md t sub, x =>
   match x with
   | .pointer (some p) =>
     if p.off = 0 ∧ md = 2 then
      if evenB p then
       match s.tbAt (p.block / 2) with
       | .pbx md' t' cs => if mdLe md' 2 && (t == t') then match toDs s sub cs with | some ds => some (.p ds) | none => none else none
       | _ => none
      else
       match s.bx[p.block / 2]? with
       | some b => if (t == b.ty) && !b.cs.isEmpty then match toDs s sub (b.cs.map (·.1)) with | some ds => some (.p ds) | none => none else none
       | none => none
     else none
   | _ => none
 | .f g sub, x =>
   match x with
   | .func (.func g') fst cap =>
     match fst.toList with
     | [] => if g == g' then match toDs s sub cap.toList with | some ds => some (.f ds) | none => none else none
     | _ => none
   | _ => none
def toDs (s : DS) : List Shp → List Value → Option (List D)
 | [], vs => match vs with | [] => some [] | _ => none
 | t :: ts, vs => match vs with
   | v :: vs => match toD s t v, toDs s ts vs with | some d, some ds => some (d :: ds) | _, _ => none
   | [] => none
end
mutual
def take (tgt : Option Nat) : Shp → Value → DS → Option (D × DS)
 | .v k, x, s => if flatK k && k.fits x then some (.v x, s) else none
 | .l md e sub, x, s =>
   match x with
   | .slice none 0 0 => some (.l [], s)
   | .slice (some p) _ _ =>
     if evenB p then
      match s.tbAt (p.block / 2) with
      | .row md' e' sub' es =>
        if Shp.le (.l md' e' sub') (.l md e sub) then
         match md with
         | 0 =>
           match tgt with
           | some r0 => if r0 = p.block / 2 then none else some (.l es, (s.setT (p.block / 2) (.view r0 false e' (Shp.rds 2 sub') es)).kill (p.block / 2) false)
           | none => some (.l es, (s.setT (p.block / 2) .dead).kill (p.block / 2) false)
         | md + 1 => if md ≤ 1 then some (.l es, if md' == 0 then s.setT (p.block / 2) (.row (md + 1) e' (Shp.rds (md + 1) sub') es) else s) else none
        else none
      | _ => none
     else none
   | _ => none
 | .p md t sub, x, s =>
   match x with
   | .pointer (some p) =>
     if p.off = 0 then
      if evenB p then
       match s.tbAt (p.block / 2) with
       | .pbx md' t' cs =>
         if mdLe md' md && (t == t') && (md == 0 || Shp.bors sub) then
          match takes tgt sub cs (if md == 0 then (s.setT (p.block / 2) .dead).kill (p.block / 2) false else if md' == 0 then s.setT (p.block / 2) (.pbx md t' cs) else s) with
          | some (ds, s) => some (.p ds, s)
          | none => none
         else none
       | _ => none
      else
       match s.bx[p.block / 2]?, tgt with
       | some b, none =>
         if t == b.ty && md == 0 && !b.cs.isEmpty then
          match takes none sub (b.cs.map (·.1)) { s with bx := s.bx.modify (p.block / 2) fun b => { b with cs := [] } } with
          | some (ds, s) => some (.p ds, s)
          | none => none
         else none
       | _, _ => none
     else none
   | _ => none
 | .f g sub, x, s =>
   match x with
   | .func (.func g') fst cap =>
     match fst.toList with
     | [] => if g == g' then match takes tgt sub cap.toList s with | some (ds, s) => some (.f ds, s) | none => none else none
     | _ => none
   | _ => none
def takes (tgt : Option Nat) : List Shp → List Value → DS → Option (List D × DS)
 | [], vs, s => match vs with | [] => some ([], s) | _ => none
 | t :: ts, vs, s => match vs with
   | v :: vs => match take tgt t v s with
     | some (d, s) => match takes tgt ts vs s with | some (ds, s) => some (d :: ds, s) | none => none
     | none => none
   | [] => none
end
mutual
def Shp.str : Shp → Bool
 | .v _ => true
 | .l md _ sub => (md == 0 || md == 1) && Shp.strs sub
 | .p md _ sub => (md == 0 || md == 1) && Shp.strs sub
 | .f _ sub => Shp.strs sub
def Shp.strs : List Shp → Bool
 | [] => true
 | s :: r => s.str && Shp.strs r
end
/-! ### Leaves -/
mutual
def exS : Shp → (D → Prop) → Prop
 | .v k, K => exK k fun x => K (.v x)
 | .l _ _ _, K => ∃ es : List (List D), K (.l es)
 | .p _ _ sub, K => exSs sub fun ds => K (.p ds)
 | .f _ sub, K => exSs sub fun ds => K (.f ds)
def exSs : List Shp → (List D → Prop) → Prop
 | [], K => K []
 | s :: ss, K => exS s fun d => exSs ss fun ds => K (d :: ds)
end
mutual
def allS : Shp → (D → Prop) → Prop
 | .v k, K => allK k fun x => K (.v x)
 | .l _ _ _, K => ∀ es : List (List D), K (.l es)
 | .p _ _ sub, K => allSs sub fun ds => K (.p ds)
 | .f _ sub, K => allSs sub fun ds => K (.f ds)
def allSs : List Shp → (List D → Prop) → Prop
 | [], K => K []
 | s :: ss, K => allS s fun d => allSs ss fun ds => K (d :: ds)
end
structure Pm where
 agg : Bool
 sub : List Shp
 nul : Bool
def Pm.nilp (p : Pm) : Bool := p.nul && !p.agg && match p.sub with | [.p 0 _ _] => true | _ => false
def Pm.nilV (p : Pm) (l : List Value) : Bool := p.nilp && match l with | [.pointer none] => true | _ => false
def Pm.nilD (p : Pm) (d : List D) : Bool := p.nilp && match d with | [.v (.pointer none)] => true | _ => false
def Pm.mk' (p : Pm) (vs : List Value) : Value := if p.agg then .agg vs.toArray else vs.headD undef
def allPs : List Pm → (List (List D) → Prop) → Prop
 | [], K => K []
 | p :: ps, K => match p.nilp with
   | false => allSs p.sub fun ds => allPs ps fun dss => K (ds :: dss)
   | true => (allSs p.sub fun ds => allPs ps fun dss => K (ds :: dss)) ∧ allPs ps fun dss => K ([.v (.pointer none)] :: dss)
structure Spec where
 α : Type
 as : List Pm
 rs : List Pm
 af : List (Nat × Shp)
 arg : α → List (List D)
 pre : α → Prop
 out : α → List (List D)
def Spec.In (S : Spec) (a : S.α) (ds : List (List D)) : Prop := S.arg a = ds ∧ S.pre a
def Spec.Out (S : Spec) (a : S.α) (ds : List (List D)) : Prop := S.out a = ds
def Spec.ps (S : Spec) : List Pm := S.rs ++ S.af.map fun x => ⟨false, [x.2], false⟩
structure Dcx where
 P : Program
 ok : FuncId → Bool
 sp : FuncId → List Spec
/-! ### What operands hold -/
def plainV : Value → Bool
 | .bool _ | .int _ _ | .string _ => true
 | _ => false
def constV : Value → Bool
 | .bool _ | .int _ _ | .string _ | .nilFunc => true
 | .slice none 0 0 | .pointer none => true
 | .agg xs => xs.toList.all fun v => match v with | .bool _ | .int _ _ | .string _ => true | .slice none 0 0 | .pointer none => true | _ => false
 | _ => false
def DS.rd (s : DS) (T : List (Nat × Bool)) : Operand → Option DC
 | .tmp t =>
   match s.env[t]? with
   | some (some e) => if tgIn e.tg T then some e.cv else none
   | _ => none
 | .const v => if constV v then some (.v v) else none
 | .func f => if f < 1000000 then some (.v (.func (.func f) #[] #[])) else none
 | .global _ => none
def DC.val : DC → Option Value
 | .v x => some x
 | .bp k off => some (.pointer (some ⟨2 * k + 1, off, none⟩))
 | .er r i sz off => if i = 0 ∧ sz = 0 ∧ off = 0 then some (ptV r) else none
def entryD (s : DS) : Value → DC
 | .pointer (some p) => if p.off = 0 ∧ evenB p then (match s.tbAt (p.block / 2) with | .pbx _ _ _ => .er (p.block / 2) 0 0 0 | _ => .v (.pointer (some p))) else .v (.pointer (some p))
 | v => .v v
def DS.put (s : DS) (d : Option Tmp) (cv : DC) (T : List (Nat × Bool)) : DS :=
 match d with
 | some d => { s with env := s.env.set d (some ⟨cv, T, s.ctr⟩), ctr := s.ctr + 1 }
 | none => s
def dtag (ops : Array Oper) (dn : Nat → Bool) (s : DS) (o : Oper) : Option (List (Nat × Bool)) :=
 match o.guard with
 | none => some []
 | some (j, b) =>
   if dn j then
    match (ops[j]?).bind (·.dst) with
    | some d =>
      match s.env[d]? with
      | some (some e) => some ((j, b) :: e.tg)
      | _ => none
    | none => none
   else none
def dgx1 (s : DS) (ops : Array Oper) (j : Nat) (b : Bool) : Option Bool :=
 match (ops[j]?).bind (·.dst) with
 | some d =>
   match s.env[d]? with
   | some (some ⟨.v (.bool c), _, _⟩) => some (if b then c else !c)
   | _ => none
 | none => none
def dgx (s : DS) (ops : Array Oper) : List (Nat × Bool) → Option Bool
 | [] => some true
 | [(j, b)] => dgx1 s ops j b
 | (j, b) :: r =>
   match dgx1 s ops j b, dgx s ops r with
   | some c, some d => some (d && c)
   | _, _ => none
def dImp (s : DS) (ops : Array Oper) (T : List (Nat × Bool)) (p : Prop) : Prop :=
 match T with
 | [] => p
 | _ =>
   match dgx s ops T with
   | some g => g = true → p
   | none => False
def DS.plain (s : DS) (T : List (Nat × Bool)) (xs : List Operand) : Bool :=
 xs.all fun x => match s.rd T x with | some (.v v) => plainV v | _ => false
def DS.rho (s : DS) (T : List (Nat × Bool)) (x : Operand) : Value :=
 match s.rd T x with
 | some (.v v) => v
 | _ => undef
def lvs : Value → List Value
 | .agg xs => xs.toList
 | v => [v]
def DS.vals (s : DS) (T : List (Nat × Bool)) : List Operand → Option (List Value)
 | [] => some []
 | x :: r =>
   match s.rd T x with
   | some cv =>
     match cv.val, s.vals T r with
     | some v, some vs => some (v :: vs)
     | _, _ => none
   | none => none
def sEnd (s : DS) (T : List (Nat × Bool)) : Option Operand → Option (Option Int)
 | none => some none
 | some b =>
   match s.rd T b with
   | some (.v (.int _ i)) => some (some i)
   | _ => none
def DS.recs (s : DS) : Value → Option (Nat × TypeId × List Shp × List (List D))
 | .slice (some p) _ _ =>
   if evenB p then
    match s.tbAt (p.block / 2) with
    | .row _ e sub es => some (p.block / 2, e, sub, es)
    | .view _ _ e sub es => some (p.block / 2, e, sub, es)
    | _ => none
   else none
 | _ => none
def piece (r : Nat) (es' : List (List D)) : Te → Te
 | .row 0 e sub _ => .view r true e (Shp.rds 2 sub) es'
 | .row md e sub _ => .row md e sub es'
 | .view r0 rt e sub _ => .view r0 rt e sub es'
 | t => t
def aggCmp1 (P : Program) (s : DS) (T : List (Nat × Bool)) (t : TypeId) (x y : Operand) : Option Bool :=
 match P.underlying t, s.rd T x, s.rd T y with
 | some (.struct fs), some (.v (.agg xs)), some (.v (.agg ys)) =>
   match eqPlain P t && xs.toList.all plainV && ys.toList.all plainV with
   | true => eqFs P (eqSn P 4) fs.toList xs.toList ys.toList
   | false => none
 | _, _, _ => none
def aggCmp (P : Program) (s : DS) (T : List (Nat × Bool)) (o : Oper) : Option Bool :=
 match o.op with
 | .binOp .eql t x y _ => aggCmp1 P s T t x y
 | .binOp .neq t x y _ => (aggCmp1 P s T t x y).map (!·)
 | _ => none
def kAny : Ck → Value → Bool
 | .any, .func _ _ _ => true
 | .any, _ => false
 | _, .func _ _ _ => false
 | _, _ => true
def notTup : Value → Bool
 | .tuple _ => false
 | _ => true
def dq (P : Program) (ops : Array Oper) (s : DS) (T : List (Nat × Bool)) (o : Oper) : Option (Option Prop × DC × DS) :=
 match o.op with
 | .move x | .assign x => (s.rd T x).map fun cv => (none, cv, s)
 | .pick c a b =>
   match c with
   | .tmp d =>
     match opIdx ops d, s.rd T c with
     | some j, some (.v (.bool cb)) =>
       match s.rd ((j, true) :: T) a, s.rd ((j, false) :: T) b with
       | some (.v (.bool x)), some (.v (.bool y)) => some (none, .v (.bool (cond cb x y)), s)
       | some (.v (.int k x)), some (.v (.int k' y)) => if k = k' then some (none, .v (.int k (cond cb x y)), s) else none
       | _, _ => none
     | _, _ => none
   | _ => none
 | .nilCheck x =>
   match s.rd T x with
   | some (.bp k off) => some (none, .bp k off, s)
   | some (.er r i sz off) => some (none, .er r i sz off, s)
   | some (.v (.pointer (some p))) =>
     if p.off = 0 ∧ evenB p then
      match s.tbAt (p.block / 2) with
      | .pbx _ _ _ => some (none, .er (p.block / 2) 0 0 0, s)
      | _ => none
     else none
   | _ => none
 | .fieldAddr st x f =>
   match fieldOff P st f, s.rd T x with
   | some off, some (.bp k off0) => some (none, .bp k (off0 + off), s)
   | some off, some (.er r i sz off0) => some (none, .er r i sz (off0 + off), s)
   | _, _ => none
 | .load t x =>
   match s.rd T x with
   | some (.bp k off) =>
     match s.bx[k]?, P.underlying t with
     | some b, some _ =>
       let n := P.cellsOf t
       let vs := ((b.cs.drop off).take n).map (·.1)
       if vs.length = n ∧ 0 < n then
        if aggB P t then some (none, .v (.agg vs.toArray), s)
        else
         match vs, Cw.shOf P t with
         | [x], some ⟨false, [k]⟩ => if kAny k x then some (none, .v x, s) else none
         | _, _ => none
       else none
     | _, _ => none
   | _ => none
 | .indexAddr t x i =>
   match sliceElem P t, s.rd T x, s.rd T i with
   | some e, some (.v v), some (.v (.int _ i)) =>
     match s.recs v with
     | some (r, e', sub, es) => if e = e' ∧ P.cellsOf e = sub.length ∧ 0 < sub.length then some (some (0 ≤ i ∧ i < (es.length : Int)), .er r i.toNat sub.length 0, s) else none
     | none => none
   | _, _, _ => none
 | .binOp .shl _ x y _ =>
   match s.rd T x, s.rd T y with
   | some (.v (.int k a)), some (.v (.int _ b)) =>
     let r : DC := .v (.int k (k.wrap (a * 2 ^ (min b.toNat k.bits))))
     match y with
     | .const (.int _ c) => if 0 ≤ c then some (none, r, s) else none
     | _ => some (some (0 ≤ b), r, s)
   | _, _ => none
 | .binOp .shr _ x y _ =>
   match s.rd T x, s.rd T y with
   | some (.v (.int k a)), some (.v (.int _ b)) =>
     let r : DC := .v (.int k (a.fdiv (2 ^ (min b.toNat k.bits))))
     match y with
     | .const (.int _ c) => if 0 ≤ c then some (none, r, s) else none
     | _ => some (some (0 ≤ b), r, s)
   | _, _ => none
 | .binOp .quo _ x y _ =>
   match s.rd T x, s.rd T y with
   | some (.v (.int k a)), some (.v (.int k' b)) =>
     if k = k' then
      let r : DC := .v (.int k (k.wrap (a.tdiv b)))
      match y with
      | .const (.int _ c) => if c = 0 then none else some (none, r, s)
      | _ => some (some (b ≠ 0), r, s)
     else none
   | _, _ => none
 | .binOp .rem _ x y _ =>
   match s.rd T x, s.rd T y with
   | some (.v (.int k a)), some (.v (.int k' b)) =>
     if k = k' then
      let r : DC := .v (.int k (a.tmod b))
      match y with
      | .const (.int _ c) => if c = 0 then none else some (none, r, s)
      | _ => some (some (b ≠ 0), r, s)
     else none
   | _, _ => none
 | .build t parts =>
   match P.underlying t, zeroOf P t, s.vals T (parts.toList.map (·.2)) with
   | some (.struct fs), some (.agg z), some vs =>
     let ps := (parts.toList.map (·.1)).zip vs
     if constV (.agg z) && vs.all notTup && fs.toList.all (fun f => (P.info? f.type).isSome) && partsOk (fs.toList.map fun f => P.cellsOf f.type) ps then
      match fillL (fs.toList.map (·.offset)) z.toList ps with
      | some cs => some (none, .v (.agg cs.toArray), s)
      | none => none
     else none
   | _, _, _ => none
 | .slice t x lo hi none =>
   match sliceElem P t, s.rd T x, sEnd s T hi, sEnd s T lo with
   | some e, some (.v v), some h, some l =>
     match s.recs v with
     | some (r, e', sub, es) =>
       if e = e' ∧ P.cellsOf e = sub.length ∧ 0 < sub.length then
        some (boundP (es.length : Int) h (boundN es.length h : Nat) l, .v (slV s.tb.length), s.addT (piece r ((es.take (boundN es.length h)).drop (boundN 0 l)) (s.tbAt r)))
       else none
     | _ => none
   | none, some (.v (.string b)), some h, some l =>
     match P.underlying t with
     | some .string => some (boundP (b.size : Int) h (boundN b.size h : Nat) l, .v (.string (b.extract (boundN 0 l) (boundN b.size h))), s)
     | _ => none
   | _, _, _, _ => none
 | .index t x i =>
   match P.underlying t, s.rd T x, s.rd T i with
   | some .string, some (.v (.string b)), some (.v (.int _ i)) => some (some (0 ≤ i ∧ i < (b.size : Int)), .v (.int .u8 (strAt b i.toNat)), s)
   | _, _, _ => none
 | .slice t x lo (some hi) (some mx) =>
   match sliceElem P t, s.rd T x, s.rd T hi, sEnd s T lo, s.rd T mx with
   | some e, some (.v v), some (.v (.int kh h)), some l, some (.v (.int km m)) =>
     match s.recs v with
     | some (r, e', sub, es) =>
       if e = e' ∧ P.cellsOf e = sub.length ∧ 0 < sub.length then
        some (some ((0 ≤ m ∧ m ≤ (es.length : Int)) ∧ (0 ≤ h ∧ h ≤ m) ∧ lowP h l), .v (slV s.tb.length), s.addT (piece r ((es.take h.toNat).drop (boundN 0 l)) (s.tbAt r)))
       else none
     | _ => none
   | _, _, _, _, _ => none
 | .extract t i =>
   match s.rd T t with
   | some (.v (.tuple xs)) => (xs[i]?).map fun v => (none, .v v, s)
   | _ => none
 | .makeFunc (.func g) fst cap =>
   match s.vals T (fst.toList ++ cap.toList) with
   | some vs => if g < 1000000 ∧ vs.all (fun v => notFn v && notTup v && match v with | .agg _ => false | _ => true) = true then some (none, .v (.func (.func (g + 1000000 * fst.toList.length)) #[] vs.toArray), s) else none
   | none => none
 | .call { callee := .builtin .len, args, argTypes } =>
   match args.toList, argTypes.toList with
   | [x], [t] =>
     match sliceElem P t, s.rd T x with
     | some _, some (.v v) =>
       match s.recs v with
       | some (_, _, _, es) => some (none, .v (.int .i64 (es.length : Int)), s)
       | none => none
     | none, some (.v (.string b)) =>
       match P.underlying t with
       | some .string => some (none, .v (.int .i64 (b.size : Int)), s)
       | _ => none
     | _, _ => none
   | _, _ => none
 | _ =>
   match aggCmp P s T o with
   | some b => some (none, .v (.bool b), s)
   | none =>
   if isPure o && s.plain T (semOpnds o) then
    match semOf (s.rho T) o with
    | some m =>
      match pureOf P m with
      | some v => if plainV v then some (none, .v v, s) else none
      | none => none
    | none => none
   else none
end Go.Dw
end
section
namespace Go.Dw
open Go Go.Cw
set_option linter.unusedVariables false
def tyShps (P : Program) (md : Nat) : Nat → TypeId → Option (List Shp)
 | 0, _ => none
 | f + 1, t =>
   match P.underlying t with
   | some (.int k) => some [.v (.int k)]
   | some .bool => some [.v .bool]
   | some .string => some [.v .str]
   | some (.slice e) => (tyShps P md f e).map fun sub => [.l md e sub]
   | some (.struct fs) => fs.toList.foldl (fun a fd => match a, tyShps P md f fd.type with | some l, some m => some (l ++ m) | _, _ => none) (some [])
   | _ => none
def zeroD : Shp → D
 | .v (.int k) => .v (.int k 0)
 | .v .bool => .v (.bool false)
 | .v .str => .v (.string .empty)
 | _ => .l []
def kindsOk : List Ck → List Value → Bool
 | [], [] => true
 | k :: ks, v :: vs => k.fits v && kindsOk ks vs
 | _, _ => false
def shKind : Shp → Ck → Bool
 | .v k, c => kEq k c
 | .l _ _ _, .sl => true
 | .p _ _ _, .ptr => true
 | .f _ _, .any => true
 | _, _ => false
def shKinds : List Shp → List Ck → Bool
 | [], [] => true
 | s :: ss, k :: ks => shKind s k && shKinds ss ks
 | _, _ => false
def pmSh (p : Pm) (sh : Sh) : Bool := (p.agg == sh.agg) && shKinds p.sub sh.ks && (p.agg || p.sub.length == 1)
def pmShs : List Pm → List Sh → Bool
 | [], [] => true
 | p :: ps, s :: ss => pmSh p s && pmShs ps ss
 | _, _ => false
def rsOk (P : Program) (t : TypeId) (l : List Pm) : Bool :=
 match rsOf P t, l with
 | some (.one sh), [p] => pmSh p sh && (sh.agg || sh.ks.length == 1)
 | some (.many shs), l => pmShs l shs && l.length != 1
 | _, _ => false
def DS.pin (s : DS) (dr : Bool) (r : Nat) : DS := if dr then { s with pins := r :: s.pins } else s
def DS.pinOk (s : DS) (r : Nat) : Bool := s.pins.all fun q => !(q == r) && match s.tbAt q with | .pbx 0 _ _ => true | _ => false
def scalars (l : List Shp) : Bool := l.all fun s => match s with | .v _ => true | _ => false
def valOf (agg : Bool) (vs : List Value) : Value := if agg then .agg vs.toArray else vs.headD undef
def DS.addB (s : DS) (cs : List (Value × Nat)) (t : TypeId) : DS := { s with bx := s.bx ++ [⟨cs, t⟩], ctr := s.ctr + 1 }
def DS.wrB (s : DS) (kk off : Nat) (l : List Value) : DS := { s with bx := s.bx.modify kk fun b => { b with cs := b.cs.take off ++ (l.map fun v => (v, s.ctr)) ++ b.cs.drop (off + l.length) }, ctr := s.ctr + 1 }
def anyOk (sh : Sh) (vs : List Value) : Bool := sh.agg || match sh.ks, vs with | [c], [v] => kAny c v | _, _ => false
def zeroable (l : List Shp) : Bool := l.all fun s => match s with | .v (.int _) => true | .v .bool => true | .l _ _ _ => true | _ => false
def dGet (s : DS) (ops : Array Oper) (T : List (Nat × Bool)) (sub : List Shp) (p : Option (List D)) (ds : List D) : Prop :=
 match T with
 | [] => p = some ds
 | _ =>
   match dgx s ops T with
   | some g => (g = true → p = some ds) ∧ (g = false → ds = sub.map zeroD)
   | none => False
def dLoad (P : Program) (ops : Array Oper) (dr : Bool) (s : DS) (T : List (Nat × Bool)) (t : TypeId) (r i sz off : Nat) (d : Option Tmp) (k : DS → Prop) : Prop :=
 match loadSh P t with
 | some sh =>
   let n := sh.ks.length
   match s.tbAt r with
   | .pbx _ _ cs =>
     let vs := (cs.drop off).take n
     if kindsOk sh.ks vs = true ∧ i = 0 ∧ 0 < n ∧ anyOk sh vs = true ∧ (T.isEmpty || (dgx s ops T).isSome) = true then k ((s.pin dr r).put d (.v (valOf sh.agg vs)) T) else False
   | .row md e sub es =>
     let sub' := (sub.drop off).take n
     if shKinds sub' sh.ks = true ∧ (T.isEmpty || zeroable sub') = true ∧ sz = sub.length ∧ 0 < n then
      exSs sub fun ds => dGet s ops T sub es[i]? ds ∧
       match (if md == 0 then matsV true r false sub' ((ds.drop off).take n) (s.pin dr r) else mats sub' ((ds.drop off).take n) (s.pin dr r)) with
       | some (vs, s') => if anyOk sh vs = true then k (s'.put d (.v (valOf sh.agg vs)) T) else False
       | none => False
     else False
   | .view r0 rt e sub es =>
     let sub' := (sub.drop off).take n
     if shKinds sub' sh.ks = true ∧ (T.isEmpty || zeroable sub') = true ∧ sz = sub.length ∧ 0 < n then
      exSs sub fun ds => dGet s ops T sub es[i]? ds ∧
       match matsV false r0 rt sub' ((ds.drop off).take n) (s.pin dr r) with
       | some (vs, s') => if anyOk sh vs = true then k (s'.put d (.v (valOf sh.agg vs)) T) else False
       | none => False
     else False
   | .dead => False
 | none => False
def dStore (P : Program) (s : DS) (t : TypeId) (r i sz off : Nat) (v : Value) (d : Option Tmp) (k : DS → Prop) : Prop :=
 let l := lvs v
 let n := l.length
 if (P.info? t).isSome = true ∧ n = P.cellsOf t ∧ 0 < n ∧ l.all oneB = true then
  match s.tbAt r with
  | .pbx 0 t' cs => if off + n ≤ cs.length ∧ i = 0 then k (((s.setT r (.pbx 0 t' (cs.take off ++ l ++ cs.drop (off + n)))).kill r false).put d (.v undef) []) else False
  | .row 0 e sub es =>
    let sub' := (sub.drop off).take n
    match (if sz = sub.length ∧ off + n ≤ sub.length then takes (some r) sub' l s else none) with
    | some (ds, s1) =>
      match s1.tbAt r with
      | .row 0 _ _ _ =>
        if n = sub.length ∧ off = 0 then
         i < es.length ∧ k (((s1.setT r (.row 0 e sub (es.set i ds))).kill r true).put d (.v undef) [])
        else
         exSs sub fun ds0 => es[i]? = some ds0 ∧ k (((s1.setT r (.row 0 e sub (es.set i (ds0.take off ++ ds ++ ds0.drop (off + n))))).kill r true).put d (.v undef) [])
      | _ => False
    | none => False
  | _ => False
 else False
/-! ### Calls -/
def argLvs : List Pm → List Value → Option (List (List Value))
 | [], [] => some []
 | p :: ps, v :: vs =>
   match (if p.agg then match v with | .agg xs => some xs.toList | _ => none else match v with | .agg _ => none | v => some [v]), argLvs ps vs with
   | some l, some r => some (l :: r)
   | _, _ => none
 | _, _ => none
def argTake : List Pm → List (List Value) → DS → Option (List (List D) × DS)
 | [], [], s => some ([], s)
 | p :: ps, v :: vs, s =>
   match (if p.nilV v then some ([.v (.pointer none)], s) else if Shp.strs p.sub then takes none p.sub v s else some ([], s)) with
   | some (d, s) => match argTake ps vs s with | some (ds, s) => some (d :: ds, s) | none => none
   | none => none
 | _, _, _ => none
def argFill (s : DS) : List Pm → List (List Value) → List (List D) → Option (List (List D))
 | [], [], [] => some []
 | p :: ps, v :: vs, d :: ds =>
   match (if p.nilV v then some d else if Shp.strs p.sub then some d else toDs s p.sub v), argFill s ps vs ds with
   | some d, some ds => some (d :: ds)
   | _, _ => none
 | _, _, _ => none
def matR : List Pm → List (List D) → DS → Option (List Value × DS)
 | [], [], s => some ([], s)
 | p :: ps, d :: ds, s =>
   match (if p.nilD d then some ([Value.pointer none], s.pad (cntSs p.sub)) else mats p.sub d s) with
   | some (v, s) => match matR ps ds s with | some (vs, s) => some (p.mk' v :: vs, s) | none => none
   | none => none
 | _, _, _ => none
def DS.setBx (s : DS) (k : Nat) (cs : List Value) : DS := { s with bx := s.bx.modify k fun b => { b with cs := cs.map fun v => (v, s.ctr) }, ctr := s.ctr + 1 }
mutual
def giveV : Shp → D → Value → DS → Option DS
 | .v _, _, _, s => some s
 | .l md e sub, d, v, s =>
   if md == 0 then
    match d, v with
    | .l es, .slice (some p) _ _ =>
      if evenB p then
       match s.tbAt (p.block / 2) with
       | .dead => some (s.setT (p.block / 2) (.row 0 e sub es))
       | _ => none
      else none
    | _, _ => none
   else if Shp.bors sub then some s else none
 | .p md t sub, d, v, s =>
   if md == 0 then
    match d, v with
    | .p cs, .pointer (some p) =>
      match mats sub cs s with
      | some (vs, s) =>
        if p.off = 0 then
         if evenB p then
          match s.tbAt (p.block / 2) with
          | .dead => some (s.setT (p.block / 2) (.pbx 0 t vs))
          | _ => none
         else
          match s.bx[p.block / 2]? with
          | some b => if b.cs.isEmpty && t == b.ty && !vs.isEmpty then some (s.setBx (p.block / 2) vs) else none
          | none => none
        else none
      | none => none
    | _, _ => none
   else if Shp.bors sub then some s else none
 | .f _ sub, d, v, s =>
   match d, v with
   | .f ds, .func _ _ cap => giveVs sub ds cap.toList s
   | _, _ => none
def giveVs : List Shp → List D → List Value → DS → Option DS
 | [], _, _, s => some s
 | t :: ts, ds, vs, s =>
   match ds, vs with
   | d :: ds, v :: vs => match giveV t d v s with | some s => giveVs ts ds vs s | none => none
   | _, _ => none
end
def giveB (vals : List Value) : List (Nat × Shp) → List (List D) → DS → Option DS
 | [], [], s => some s
 | (i, sh) :: r, [d] :: ds, s =>
   match vals[i]? with
   | some v => match giveV sh d v s with | some s => giveB vals r ds s | none => none
   | none => none
 | _, _, _ => none
def boxKinds (P : Program) (s : DS) : Bool := s.bx.all fun b => match Cw.shOf P b.ty with | some h => kindsOk h.ks (b.cs.map (·.1)) && !b.cs.isEmpty | none => false
def ro (l : List Pm) : Bool := l.all fun p => Shp.bors p.sub
def exPs : List Pm → (List (List D) → Prop) → Prop
 | [], K => K []
 | p :: ps, K => exSs p.sub fun ds => exPs ps fun dss => K (ds :: dss)
def resAny (P : Program) (t : TypeId) (vs : List Value) : Bool :=
 match rsOf P t, vs with
 | some (.one sh), [v] => anyOk sh (lvs v)
 | some (.many _), _ => true
 | _, _ => false
def dCall (cx : Dcx) (ops : Array Oper) (dr : Bool) (s : DS) (T : List (Nat × Bool)) (o : Oper) (S : Spec) (dss : List (List D)) (s1 : DS) (vals : List Value) (k : DS → Prop) : Prop :=
 if rsOk cx.P o.type S.rs = true then
  match T with
  | [] =>
   if (!dr || (ro S.as && S.af.isEmpty)) = true ∧ (S.rs.all fun p => Shp.strs p.sub) = true ∧ (S.af.all fun p => p.2.str) = true then
    ∃ a : S.α, S.In a dss ∧ allPs S.ps fun outs => S.Out a outs →
     match matR S.rs (outs.take S.rs.length) s1 with
     | some (vs, s2) =>
       match giveB vals S.af (outs.drop S.rs.length) s2 with
       | some s3 => if boxKinds cx.P s3 = true ∧ resAny cx.P o.type vs = true then k (s3.put o.dst (.v (retV vs)) T) else False
       | none => False
     | none => False
   else False
  | _ =>
    if (S.as.all fun p => Shp.rdos p.sub) = true ∧ (S.rs.all fun p => scalars p.sub) = true ∧ S.af.isEmpty = true ∧ boxKinds cx.P s1 = true then
     match dgx s ops T with
     | none => False
     | some g =>
       ∀ J : List (List D) → Prop, (allPs S.rs fun outs =>
        (match matR S.rs outs s1 with | some (vs, s2) => if resAny cx.P o.type vs = true then k (s2.put o.dst (.v (retV vs)) T) else False | none => False) → J outs) →
        ((g = true → ∃ a : S.α, S.In a dss ∧ allPs S.rs fun outs => S.Out a outs → J outs) ∧ (g = false → exPs S.rs J))
    else if dr = false ∧ (S.rs.all fun p => scalars p.sub) = true ∧ (S.af.all fun p => p.2.str) = true ∧ boxKinds cx.P s = true then
     match dgx s ops T with
     | none => False
     | some g =>
       (g = true → ∃ a : S.α, S.In a dss ∧ allPs S.ps fun outs => S.Out a outs →
        match matR S.rs (outs.take S.rs.length) s1 with
        | some (vs, s2) =>
          match giveB vals S.af (outs.drop S.rs.length) s2 with
          | some s3 => if boxKinds cx.P s3 = true ∧ resAny cx.P o.type vs = true then k (s3.put o.dst (.v (retV vs)) T) else False
          | none => False
        | none => False) ∧
       (g = false → exPs S.rs fun outs => match matR S.rs outs s with | some (vs, s2) => if resAny cx.P o.type vs = true then k (s2.put o.dst (.v (retV vs)) T) else False | none => False)
    else False
 else False
def pickS (s : DS) (vals : List Value) : List Spec → Option (Spec × List (List Value) × List (List D) × DS)
 | [] => none
 | S :: r =>
   match argLvs S.as vals with
   | some l =>
     match argTake S.as l s with
     | some (ds, s1) => match argFill s1 S.as l ds with | some ds => some (S, l, ds, s1) | none => pickS s vals r
     | none => pickS s vals r
   | none => pickS s vals r
def newSh (P : Program) (s : DS) (dflt : Shp) : Value → Option Shp
 | .slice (some p) _ _ =>
   if evenB p then
    match s.tbAt (p.block / 2) with
    | .row md e sub _ => some (.l md e sub)
    | _ => none
   else none
 | .slice none 0 0 => some dflt
 | v => if plainV v then some dflt else none
def newShs (P : Program) (s : DS) : List Shp → List Value → Option (List Shp)
 | [], [] => some []
 | t :: ts, v :: vs => match newSh P s t v, newShs P s ts vs with | some a, some b => some (a :: b) | _, _ => none
 | _, _ => none
def meet (a b : List Shp) : Option (List Shp) := if Shp.les a b then some b else if Shp.les b a then some a else none
def litRecs (P : Program) (sub : List Shp) : List Value → DS → Option (List (List D) × DS)
 | [], s => some ([], s)
 | v :: vs, s =>
   match takes (some s.tb.length) sub (lvs v) s with
   | some (d, s) => match litRecs P sub vs s with | some (ds, s) => some (d :: ds, s) | none => none
   | none => none
def idxs : Nat → List Nat → Bool
 | _, [] => true
 | i, j :: r => i == j && idxs (i + 1) r
def litSub (P : Program) (s : DS) (dflt : List Shp) : List Value → Option (List Shp)
 | [] => some dflt
 | v :: vs =>
   match newShs P s dflt (lvs v) with
   | some a => match vs with | [] => some a | _ => match litSub P s dflt vs with | some b => meet a b | none => none
   | none => none
def bytesOf (P : Program) (e : TypeId) : Option Nat := (P.info? e).bind fun i => match i.zero with | some z => if z.cells.size = i.size ∧ P.cellsOf e = i.size ∧ 0 < i.size then some i.bytes else none | none => none
def zeroAt : Shp → Value → Bool
 | .v (.int k), .int k' n => decide (k = k') && n == 0
 | .v .bool, .bool b => !b
 | .l 0 _ _, .slice none 0 0 => true
 | _, _ => false
def zeroAts : List Shp → List Value → Bool
 | [], [] => true
 | s :: ss, v :: vs => zeroAt s v && zeroAts ss vs
 | _, _ => false
def rsSl (P : Program) (t : TypeId) : Bool := match rsOf P t with | some (.one ⟨false, [.sl]⟩) => true | _ => false
def zeroCs (P : Program) (e : TypeId) : List Value := match (P.info? e).bind (·.zero) with | some z => z.cells.toList | none => []
def appSub (dr : Bool) (s : DS) (e : TypeId) (suby : List Shp) : Value → Option (List Shp)
 | .slice none 0 0 => some suby
 | .slice (some p) _ _ =>
   if evenB p && (!dr || s.pinOk (p.block / 2)) then
    match s.tbAt (p.block / 2) with
    | .row 0 e' subx _ => if e' = e then meet subx suby else none
    | _ => none
   else none
 | _ => none
def dMem (P : Program) (dr : Bool) (s : DS) (o : Oper) (k : DS → Prop) : Prop :=
 if rsSl P o.type && boxKinds P s then
 match o.op with
 | .makeSlice t x c =>
   match sliceElem P t, s.rd [] x, s.rd [] c with
   | some e, some (.v (.int kx n)), some (.v (.int kc m)) =>
     match bytesOf P e, tyShps P 0 6 e with
     | some by_, some sub =>
       if P.cellsOf e = sub.length ∧ zeroAts sub (zeroCs P e) = true then
        (0 ≤ n ∧ n ≤ m ∧ m.toNat * by_ ≤ 140737488355328 ∧ m.toNat ≤ maxLen) ∧
         k ((s.addT (.row 0 e sub (List.replicate n.toNat (sub.map zeroD)))).put o.dst (.v (slV s.tb.length)) [])
       else False
     | _, _ => False
   | _, _, _ => False
 | .buildSlice t n parts =>
   match sliceElem P t, s.vals [] (parts.toList.map (·.2)) with
   | some e, some vs =>
     match bytesOf P e, tyShps P 0 6 e with
     | some by_, some dflt =>
       if P.cellsOf e = dflt.length ∧ idxs 0 (parts.toList.map (·.1)) = true ∧ parts.size = n ∧ n * dflt.length < 1000 ∧ (vs.all fun v => notTup v && (lvs v).length == dflt.length) = true then
        match litSub P s dflt vs with
        | some sub =>
          if sub.length = dflt.length then
           match litRecs P sub vs s with
           | some (es, s1) => k ((s1.addT (.row 0 e sub es)).put o.dst (.v (slV s1.tb.length)) [])
           | none => False
          else False
        | none => False
       else False
     | _, _ => False
   | _, _ => False
 | .call { callee := .builtin .append, args, argTypes } =>
   match args.toList, argTypes.toList with
   | [x, y], [t, t'] =>
     match sliceElem P t, s.rd [] x, s.rd [] y with
     | some e, some (.v vx), some (.v vy) =>
       match bytesOf P e, s.recs vy with
       | some by_, some (_, _, suby, _) =>
         match appSub dr s e suby vx with
         | some sub =>
           if t = t' ∧ P.cellsOf e = sub.length ∧ 0 < sub.length then
            match (if scalars sub then (match s.recs vy with | some (_, e2, suby2, esy) => if Shp.les suby2 sub && e2 == e then some (D.l esy, s) else none | none => none) else take (some s.tb.length) (.l (if Shp.bors sub then 2 else 0) e sub) vy s) with
            | some (.l esy, s1) =>
              match vx with
              | .slice none 0 0 =>
                (esy.length * by_ ≤ 140737488355328 ∧ esy.length ≤ maxLen) ∧ k ((s1.addT (.row 0 e sub esy)).put o.dst (.v (slV s1.tb.length)) [])
              | .slice (some p) _ _ =>
                match s1.tbAt (p.block / 2) with
                | .row 0 e' subx esx =>
                  if e' = e ∧ Shp.les subx sub = true ∧ evenB p = true ∧ (!dr || s.pinOk (p.block / 2)) = true then
                   ((esx ++ esy).length * by_ ≤ 140737488355328 ∧ (esx ++ esy).length ≤ maxLen) ∧
                     k ((((s1.setT (p.block / 2) .dead).kill (p.block / 2) false).addT (.row 0 e sub (esx ++ esy))).put o.dst (.v (slV s1.tb.length)) [])
                  else False
                | _ => False
              | _ => False
            | _ => False
           else False
         | none => False
       | _, _ => False
     | _, _, _ => False
   | _, _ => False
 | _ => False
 else False
def dLitG (P : Program) (ops : Array Oper) (dr : Bool) (s : DS) (T : List (Nat × Bool)) (o : Oper) (t : TypeId) (n : Nat) (parts : Array (Nat × Operand)) (k : DS → Prop) : Prop :=
 if rsSl P o.type && boxKinds P s && !dr then
  match sliceElem P t, s.vals T (parts.toList.map (·.2)), dgx s ops T with
  | some e, some vs, some g =>
    match bytesOf P e, tyShps P 0 6 e with
    | some _, some sub =>
      if P.cellsOf e = sub.length ∧ idxs 0 (parts.toList.map (·.1)) = true ∧ parts.size = n ∧ n * sub.length < 1000 ∧ (vs.all fun v => notTup v && (lvs v).length == sub.length) = true then
       match litRecs P sub vs s with
       | some (es, s1) =>
         (g = true → k ((s1.addT (.row 0 e sub es)).put o.dst (.v (slV s1.tb.length)) T)) ∧
         (g = false → k ((s.addT (.row 2 e (Shp.rds 2 sub) [])).put o.dst (.v (slV s.tb.length)) T))
       | none => False
      else False
    | _, _ => False
  | _, _, _ => False
 else False
def byD : List D → Int
 | [.v (.int _ n)] => n
 | _ => 0
def strD (es : List (List D)) : ByteArray := strOf (es.map byD)
def dEff (cx : Dcx) (ops : Array Oper) (dr : Bool) (s : DS) (T : List (Nat × Bool)) (o : Oper) (k : DS → Prop) : Prop :=
 match o.op with
 | .box t x =>
   match T, (s.rd T x).bind DC.val, Cw.shOf cx.P t with
   | [], some v, some h =>
     if h.ks.length = (lvs v).length ∧ (lvs v).all oneB = true then
      k ((s.addB ((lvs v).map fun x => (x, s.ctr)) t).put o.dst (.bp s.bx.length 0) T)
     else False
   | _, _, _ => False
 | .alloc t =>
   match T, zeroOf cx.P t, Cw.shOf cx.P t with
   | [], some z, some h =>
     if h.ks.length = (lvs z).length ∧ constV z = true then
      k ((s.addB ((lvs z).map fun x => (x, s.ctr)) t).put o.dst (.bp s.bx.length 0) T)
     else False
   | _, _, _ => False
 | .load t x =>
   match s.rd T x with
   | some (.er r i sz off) => dLoad cx.P ops dr s T t r i sz off o.dst k
   | _ => False
 | .convert src dst x =>
   match T, s.rd T x with
   | [], some (.v v) =>
     match isB2S cx.P src dst, s.recs v with
     | true, some (_, _, [.v (.int .u8)], es) => if dr = false then k (s.put o.dst (.v (.string (strD es))) []) else False
     | _, _ => False
   | _, _ => False
 | .buildSlice t n parts =>
   match T with
   | [] => dMem cx.P dr s o k
   | _ => dLitG cx.P ops dr s T o t n parts k
 | .store t a x =>
   match T, s.rd T a, (s.rd T x).bind DC.val with
   | [], some (.bp kk off), some v =>
     let l := lvs v
     match s.bx[kk]? with
     | some b =>
       if (cx.P.info? t).isSome = true ∧ l.length = cx.P.cellsOf t ∧ off + l.length ≤ b.cs.length ∧ l.all oneB = true ∧ 0 < l.length then
        k ((s.wrB kk off l).put o.dst (.v undef) T)
       else False
     | none => False
   | [], some (.er r i sz off), some v => dStore cx.P s t r i sz off v o.dst k
   | _, _, _ => False
 | .call { callee := .value f, args, argTypes := _ } =>
   match s.rd T f, s.vals T args.toList with
   | some (.v (.func (.func g) fst cap)), some vs =>
     match fst.toList with
     | [] =>
       let avs := cap.toList.take (nfOf g) ++ (vs ++ cap.toList.drop (nfOf g))
       if cx.ok (fnOf g) = true ∧ avs.all notTup = true then
        match pickS s avs (cx.sp (fnOf g)) with
        | some (S, _, ds, s1) => dCall cx ops dr s T o S ds s1 avs k
        | none => False
       else False
     | _ => False
   | _, _ => False
 | _ =>
   match T with
   | [] => dMem cx.P dr s o k
   | _ => False
def dNil (P : Program) (s : DS) (T : List (Nat × Bool)) (o : Oper) : Option (Bool × List (List D)) :=
 match o.op with
 | .binOp .eql t x (.const (.slice none 0 0)) _ =>
   match sliceElem P t, s.rd T x with
   | some _, some (.v v) => match s.recs v with | some (_, _, sub, es) => if 0 < sub.length then some (false, es) else none | none => none
   | _, _ => none
 | .binOp .neq t x (.const (.slice none 0 0)) _ =>
   match sliceElem P t, s.rd T x with
   | some _, some (.v v) => match s.recs v with | some (_, _, sub, es) => if 0 < sub.length then some (true, es) else none | none => none
   | _, _ => none
 | _ => none
def firm (o : Oper) : Bool := match o.op with | .slice .. => true | _ => false
def dAsk (s : DS) (ops : Array Oper) (T : List (Nat × Bool)) (o : Oper) (p : Prop) : Prop :=
 if firm o = true then p ∧ (T.isEmpty || (dgx s ops T).isSome) = true else dImp s ops T p
def dStep (cx : Dcx) (ops : Array Oper) (dr : Bool) (dn : Nat → Bool) (o : Oper) (s : DS) (k : DS → Prop) : Prop :=
 match dtag ops dn s o with
 | none => False
 | some T =>
   match dq cx.P ops s T o with
   | some (none, cv, s') => if (T.isEmpty || (dgx s ops T).isSome) = true then k (s'.put o.dst cv T) else False
   | some (some p, cv, s') => dAsk s ops T o p ∧ k (s'.put o.dst cv T)
   | none =>
     match dNil cx.P s T o with
     | some (ng, es) => ∀ b : Bool, (es.length ≠ 0 → b = ng) → k (s.put o.dst (.v (.bool b)) T)
     | none => dEff cx ops dr s T o k
def dDrop : List (Option DE) → List (Option DE)
 | [] => []
 | some e :: r => (match e.tg with | [] => some e | _ => none) :: dDrop r
 | none :: r => none :: dDrop r
def DS.endReg (s : DS) : DS := { s with env := dDrop s.env, pins := [] }
def dSeq (cx : Dcx) (ops : Array Oper) : List Oper → Nat → DS → (DS → Prop) → Prop
 | [], _, s, k => k s.endReg
 | o :: r, i, s, k => dStep cx ops false (fun j => decide (j < i)) o s fun s => dSeq cx ops r (i + 1) s k
def loud (o : Oper) : Bool :=
 match o.op with
 | .box .. | .alloc .. | .store .. | .makeSlice .. | .buildSlice .. => true
 | .call { callee := .value _, .. } => true
 | .call { callee := .builtin .append, .. } => true
 | _ => false
def dEarly (P : Program) (ops : Array Oper) (dn : Nat → Bool) (s : DS) (o : Oper) : Option Bool :=
 match dtag ops dn s o with
 | none => none
 | some T =>
   match dq P ops s T o with
   | some _ => some true
   | none =>
     if isLoad o || (dNil P s T o).isSome then some true
     else if loud o then some false
     else none
def dFirst (P : Program) (ops : Array Oper) (listed : Array Bool) (s : DS) : List Nat → Option (Option Nat)
 | [] => some none
 | i :: r =>
   match ops[i]? with
   | some o =>
     if (!isLoad o || storesWait ops i) && Region.free .any ops listed i then
      match dEarly P ops (fun j => listed.getD j false) s o with
      | some true => some (some i)
      | some false => dFirst P ops listed s r
      | none => none
     else dFirst P ops listed s r
   | none => dFirst P ops listed s r
def dDraw (cx : Dcx) (ops : Array Oper) : Nat → Array Bool → DS → (DS → Prop) → Prop
 | 0, _, _, _ => False
 | f + 1, listed, s, k =>
   match Region.ready .any ops listed with
   | [] => k s.endReg
   | i :: r =>
     match dFirst cx.P ops listed s (i :: r) with
     | some (some i) =>
       match ops[i]? with
       | some o => dStep cx ops true (fun j => listed.getD j false) o s fun s => dDraw cx ops f (listed.setIfInBounds i true) s k
       | none => False
     | some none =>
       each (i :: r) fun i =>
        match ops[i]? with
        | some o => dStep cx ops true (fun j => listed.getD j false) o s fun s => dDraw cx ops f (listed.setIfInBounds i true) s k
        | none => False
     | none => False
/-! ### Joins and loops -/
structure DHn where
 keep : List Nat
 slots : List (Nat × Shp)
 cells : List (Nat × Nat × Shp)
 rows : List (Nat × List Shp)
 dead : List Nat
 pbs : List (Nat × TypeId × List Shp)
structure DHs where
 conds : List (Nat × DHn)
 blocks : List (Nat × DHn)
 loops : List (Nat × DHn)
def DHn.shps (h : DHn) : List Shp := (h.rows.map fun x => .l 0 0 x.2) ++ (h.slots.map (·.2) ++ (h.cells.map (·.2.2) ++ h.pbs.map fun x => .p 0 x.2.1 x.2.2))
def dKeep (keep : List Nat) : Nat → List (Option DE) → List (Option DE)
 | _, [] => []
 | i, e :: r => (if keep.contains i then e else none) :: dKeep keep (i + 1) r
def deadAll : List Nat → DS → DS
 | [], s => s
 | r :: l, s => deadAll l (s.setT r .dead)
def instR : List (Nat × List Shp) → List D → DS → Option (List D × DS)
 | [], ds, s => some (ds, s)
 | (r, sub) :: l, ds, s => match ds with
   | .l es :: ds => match s.tbAt r with | .row 0 e _ _ => instR l ds (s.setT r (.row 0 e sub es)) | _ => none
   | _ => none
def instC : List (Nat × Nat × Shp) → List D → DS → Option (List D × DS)
 | [], ds, s => some (ds, s)
 | (k, j, sh) :: l, ds, s => match ds with
   | d :: ds => match mat sh d s with
     | some (v, s) => instC l ds { s with bx := s.bx.modify k fun b => { b with cs := b.cs.set j (v, s.ctr) } }
     | none => none
   | [] => none
def instS : List (Nat × Shp) → List D → DS → Option (List D × DS)
 | [], ds, s => some (ds, s)
 | (t, sh) :: l, ds, s => match ds with
   | d :: ds => match mat sh d s with
     | some (v, s) => instS l ds { s with env := s.env.set t (some ⟨.v v, [], s.ctr⟩) }
     | none => none
   | [] => none
def instP : List (Nat × TypeId × List Shp) → List D → DS → Option (List D × DS)
 | [], ds, s => some (ds, s)
 | (r, t, sub) :: l, ds, s => match ds with
   | .p cs :: ds => match mats sub cs s with
     | some (vs, s) => match s.tbAt r with | .dead => instP l ds (s.setT r (.pbx 0 t vs)) | _ => none
     | none => none
   | _ => none
def DS.inst (s0 : DS) (h : DHn) (ds : List D) : Option DS :=
 let s := deadAll h.dead { s0 with env := dKeep h.keep 0 s0.env, ctr := s0.ctr + 1, pins := [] }
 match instR h.rows ds s with
 | some (ds, s) => match instS h.slots ds s with
   | some (ds, s) => match instC h.cells ds s with
     | some (ds, s) => if h.pbs.all (fun x => decide (x.1 < s0.tb.length)) then (match instP h.pbs ds s with | some ([], s) => some { s with ctr := s.ctr + 1 } | _ => none) else none
     | none => none
   | none => none
 | none => none
def packS (s0 : DS) : List (Nat × Shp) → DS → Option (List D × DS)
 | [], s => some ([], s)
 | (t, sh) :: l, s =>
   match s0.env[t]? with
   | some (some ⟨cv, [], _⟩) =>
     match cv.val with
     | some v =>
       match take none sh v s with
       | some (d, s) => match packS s0 l s with | some (ds, s) => some (d :: ds, s) | none => none
       | none => none
     | none => none
   | _ => none
def packC (s0 : DS) : List (Nat × Nat × Shp) → DS → Option (List D × DS)
 | [], s => some ([], s)
 | (k, j, sh) :: l, s =>
   match (s0.bx[k]?).bind (·.cs[j]?) with
   | some (v, _) =>
     match take none sh v s with
     | some (d, s) => match packC s0 l s with | some (ds, s) => some (d :: ds, s) | none => none
     | none => none
   | none => none
def packP (s0 : DS) : List (Nat × TypeId × List Shp) → DS → Option (List D × DS)
 | [], s => some ([], s)
 | (r, t, sub) :: l, s =>
   match s0.tbAt r with
   | .pbx _ _ _ =>
     match take none (.p 0 t sub) (ptV r) s with
     | some (d, s) => match packP s0 l s with | some (ds, s) => some (d :: ds, s) | none => none
     | none => none
   | _ => none
def packR (s0 : DS) : List (Nat × List Shp) → DS → Option (List D)
 | [], _ => some []
 | (r, sub) :: l, s =>
   match s0.tbAt r, s.tbAt r with
   | .row 0 e0 _ _, .row 0 e sub' es => if e0 = e ∧ Shp.les sub' sub = true then match packR s0 l s with | some ds => some (.l es :: ds) | none => none else none
   | _, _ => none
def keptE (c : Nat) (env env' : List (Option DE)) : List Nat → Bool
 | [] => true
 | t :: r =>
   (match env[t]? with
   | some (some _) =>
     match env'[t]? with
     | some (some e) => decide (e.vr < c)
     | _ => false
   | _ => true) && keptE c env env' r
def keptC (c : Nat) (hc : List (Nat × Nat × Shp)) (k : Nat) : Nat → List (Value × Nat) → Bool
 | _, [] => true
 | j, x :: r => (decide (x.2 < c) || hc.any fun y => y.1 == k && y.2.1 == j) && keptC c hc k (j + 1) r
def keptB (c : Nat) (hc : List (Nat × Nat × Shp)) : Nat → List DB → List DB → Bool
 | _, [], _ => true
 | k, b :: r, b' :: r' => (b.cs.length == b'.cs.length) && !b'.cs.isEmpty && keptC c hc k 0 b'.cs && keptB c hc (k + 1) r r'
 | _, _ :: _, [] => false
def keptT (c : Nat) (h : DHn) : Nat → List (Te × Nat) → List (Te × Nat) → Bool
 | _, [], _ => true
 | r, _ :: l, x :: l' => (decide (x.2 < c) || h.dead.contains r || h.rows.any (·.1 == r)) && keptT c h (r + 1) l l'
 | _, _ :: _, [] => false
def dPack (s0 : DS) (h : DHn) (s : DS) : Option (List D) :=
 match packS s h.slots s with
 | some (a, s1) =>
   match packC s h.cells s1 with
   | some (b, s2) =>
     match packP s h.pbs s2 with
     | some (p, s3) =>
       match packR s0 h.rows s3 with
       | some c => if keptE s0.ctr s0.env s.env h.keep && keptB s0.ctr h.cells 0 s0.bx s3.bx && keptT s0.ctr h 0 s0.tb s3.tb && decide (h.rows.map (·.1)).Nodup && h.keep.all (fun t => !h.slots.any (·.1 == t)) && h.pbs.all (fun x => h.dead.contains x.1) then some (c ++ (a ++ (b ++ p))) else none
       | none => none
     | none => none
   | none => none
 | none => none
def dJoinK (s0 : DS) (h : DHn) (J : List D → Prop) (s : DS) : Prop :=
 match dPack s0 h s with
 | some ds => J ds
 | none => False
def onInst (s : DS) (h : DHn) (ds : List D) (K : DS → Prop) : Prop :=
 match s.inst h ds with
 | some s => K s
 | none => False
def dJoin (h : Option DHn) (s : DS) (K : DS → Prop) (p : (DS → Prop) → Prop) : Prop :=
 match h with
 | none => p K
 | some h => ∀ J : List D → Prop, (allSs h.shps fun ds => onInst s h ds K → J ds) → p (dJoinK s h J)
def dwp (cx : Dcx) (hs : DHs) : Code → DS → (Exit → DS → Prop) → Prop
 | .skip, s, K => K .normal s
 | .region _ ops draw, s, K =>
   if dstOk ops then
    if draw then
     if Region.noSelect ops then dDraw cx ops (ops.size + 1) (Array.replicate ops.size false) s (K .normal) else False
    else dSeq cx ops ops.toList 0 s (K .normal)
   else False
 | .seq a b, s, K => dwp cx hs a s fun e s =>
   match e with
   | .normal => dwp cx hs b s K
   | e => K e s
 | .cond c x y, s, K =>
   match s.rd [] c with
   | some (.v (.bool b)) =>
     dJoin ((key (.cond c x y)).bind fun n => Cw.look n hs.conds) s (K .normal) fun KN =>
      (b = true → dwp cx hs x s fun e s => match e with | .normal => KN s | e => K e s) ∧
      (b = false → dwp cx hs y s fun e s => match e with | .normal => KN s | e => K e s)
   | _ => False
 | .block id c, s, K =>
   dJoin (Cw.look id hs.blocks) s (K .normal) fun KN =>
    dwp cx hs c s fun e s =>
     match e with
     | .normal => KN s
     | .exit id' => if id' = id then KN s else K (.exit id') s
     | e => K e s
 | .loop c, s, K =>
   match (keyD (.loop c)).bind fun n => Cw.look n hs.loops with
   | none => False
   | some h =>
     ∃ (I : List D → Prop) (mu : List D → Nat),
      dJoinK s h I s ∧
      allSs h.shps fun ds => I ds →
       onInst s h ds fun s1 => dwp cx hs c s1 fun e s' =>
        match e with
        | .normal => dJoinK s1 h (fun ds' => I ds' ∧ mu ds' < mu ds) s'
        | e => K e s'
 | .exit id, s, K => K (.exit id) s
 | .ret, s, K => K .ret s
 | .label _, s, K => K .normal s
 | .scope c, s, K => dwp cx hs c s fun e s =>
   match e with
   | .goto _ => False
   | e => K e s
 | _, _, _ => False
/-! ### The whole function -/
def dRes (P : Program) (s : DS) : ResultVar → Option Value
 | .tmp t =>
   match s.rd [] (.tmp t) with
   | some cv => cv.val
   | none => none
 | .cell a t =>
   match s.rd [] (.tmp a) with
   | some (.bp k off) =>
     match s.bx[k]?, P.underlying t with
     | some b, some _ =>
       let n := P.cellsOf t
       let vs := ((b.cs.drop off).take n).map (·.1)
       if vs.length = n ∧ aggB P t = true ∧ b.cs ≠ [] then some (.agg vs.toArray) else none
     | _, _ => none
   | _ => none
def dResAll (P : Program) (s : DS) : List ResultVar → Option (List Value)
 | [] => some []
 | r :: rs => match dRes P s r, dResAll P s rs with | some v, some vs => some (v :: vs) | _, _ => none
def giveD (vals : List Value) : List (Nat × Shp) → DS → Option (List (List D) × DS)
 | [], s => some ([], s)
 | (i, sh) :: r, s =>
   match vals[i]? with
   | some v =>
     match take none sh v s with
     | some (d, s) => match giveD vals r s with | some (ds, s) => some ([d] :: ds, s) | none => none
     | none => none
   | none => none
def dTop (cx : Dcx) (fn : Func) (rs : List Pm) (af : List (Nat × Shp)) (vals : List Value) (Q : List (List D) → Prop) : Exit → DS → Prop
 | .normal, s | .ret, s =>
   match dResAll cx.P s fn.results.toList with
   | some vs =>
     match argLvs rs vs with
     | some l =>
       match argTake rs l s with
       | some (ds, s1) =>
         match giveD vals af s1 with
         | some (da, _) => if vs.all notTup = true ∧ (rs.all fun p => Shp.strs p.sub) = true ∧ (af.all fun p => p.2.str) = true then Q (ds ++ da) else False
         | none => False
       | none => False
     | none => False
   | none => False
 | _, _ => False
def dSt0 (ntmps : Nat) (vals : List Value) (s : DS) : DS :=
 { s with env := vals.map (fun v => some ⟨entryD s v, [], 0⟩) ++ List.replicate (ntmps - vals.length) none, ctr := s.ctr + 1 }
def DS.empty : DS := ⟨[], [], [], 1, []⟩
def dFn (cx : Dcx) (hs : DHs) (fn : Func) (as rs : List Pm) (af : List (Nat × Shp)) (dss : List (List D)) (Q : List (List D) → Prop) : Prop :=
 match matR as dss DS.empty with
 | some (vals, s) => dwp cx hs (fn.body.getD .skip) (dSt0 fn.ntmps vals s) (dTop cx fn rs af vals Q)
 | none => False
end Go.Dw
end
