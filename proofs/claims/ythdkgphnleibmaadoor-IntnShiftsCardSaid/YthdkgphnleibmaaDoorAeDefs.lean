/- A part of the proofs over this program: an abstract machine that the kernel evaluates, its soundness, and what the functions compute (Defs). -/
import Derived.Calls
import Derived.Below
/-! An abstract machine over abstract values, evaluated by the kernel. -/
namespace Go.AE

inductive AV where
  | bad
  | val (v : Value)
  | agg (cs : List AV)
  | tup (vs : List AV)
  | ro (n : Nat) (f : Nat → List AV)
  | rop (cs : List AV) (off : Nat)
  | fn (f : FuncId) (caps : List AV)
  | ref (r : Nat) (off : Nat)
  | sl (r s off n : Nat)
  deriving Inhabited

abbrev Heap := List (Nat × List AV)

def hget : Heap → Nat → Option (List AV)
  | [], _ => none
  | (k, c) :: h, r => if k = r then some c else hget h r
def hset : Heap → Nat → List AV → Heap
  | [], _, _ => []
  | (k, c) :: h, r, d => if k = r then (k, d) :: h else (k, c) :: hset h r d

/-! ### types -/
structure FI where
  off : Nat
  size : Nat
  agg : Bool
inductive TK where
  | int (k : IntKind) | bool | str | ptr | slice (e : TypeId) | arr (n : Nat) (e : TypeId) | struct (fs : List FI) | other
structure TI where
  tk : TK
  size : Nat
  bytes : Nat
  zero : List Value
  flat : Bool := false     -- '==' is cell by cell
abbrev Ty := TypeId → Option TI
/-- a table by number, as a tree -/
inductive Tr (α : Type) where
  | leaf
  | node (v : Option α) (l r : Tr α)
def Tr.get {α : Type} : Tr α → Nat → Option α
  | .leaf, _ => none
  | .node v l r, n => match n with
    | 0 => v
    | n + 1 => if n % 2 = 0 then l.get (n / 2) else r.get (n / 2)
def TI.isAgg (i : TI) : Bool := match i.tk with | .arr .. | .struct _ => true | _ => false

/-! ### the machine's states -/
structure AFr where
  fn : FuncId
  todo : List Item
  fr : List AV
  dec : List (Nat × Bool)
structure Cfg where
  cur : AFr
  callers : List AFr
  h : Heap
  nx : Nat
/-- What a call of a function that is known by its contract gives. -/
structure SRes where
  pre : Prop
  res : AV
abbrev Env := FuncId → List AV → Option SRes
structure Ctx where
  P : Program
  ty : Ty
  gl : Nat → Option (List AV)
  env : Env
  fns : Nat → Bool     -- functions that may be called

def lget (l : List AV) (n : Nat) : AV := l.getD n .bad
def cval : Value → AV
  | .agg cs => .agg (cs.toList.map .val)
  | v => .val v
def ev (E : Ctx) (fr : List AV) : Operand → AV
  | .tmp t => lget fr t
  | .const v => cval v
  | .global g => match E.gl g with | some cs => .rop cs 0 | none => .bad
  | .func f => .fn f []

/-- may lie in one cell -/
def AV.one : AV → Bool
  | .bad | .agg _ | .tup _ => false
  | .val (.agg _) | .val (.tuple _) => false
  | _ => true
mutual
/-- leads to no root -/
def AV.closed : AV → Bool
  | .val _ | .ro .. | .rop .. => true
  | .agg cs => closedAll cs
  | .tup cs => closedAll cs
  | .fn _ cs => closedAll cs
  | .bad | .ref .. | .sl .. => false
def closedAll : List AV → Bool
  | [] => true
  | a :: l => a.closed && closedAll l
end
/-- A value that is stored or passed in one piece. -/
def AV.cells : AV → List AV
  | .agg cs => cs
  | a => [a]

/-! ### operations: the conditions, and the value -/
def okv (a : AV) : Option (List Prop × AV) := some ([], a)
def aint (k : IntKind) (n : Int) : AV := .val (.int k n)
def abool (b : Bool) : AV := .val (.bool b)

def ashift (op : BinOp) (k : IntKind) (x y : Int) : Option (List Prop × AV) :=
  match op with
  | .shl => some ([0 ≤ y], aint k (k.wrap (x * 2 ^ min y.toNat k.bits)))
  | .shr => some ([0 ≤ y], aint k (x.fdiv (2 ^ min y.toNat k.bits)))
  | _ => none
def aarith (op : BinOp) (k : IntKind) (a b : Int) : Option (List Prop × AV) :=
  match op with
  | .add => okv (aint k (k.wrap (a + b)))
  | .sub => okv (aint k (k.wrap (a - b)))
  | .mul => okv (aint k (k.wrap (a * b)))
  | .quo => some ([b ≠ 0], aint k (k.wrap (a.tdiv b)))
  | .rem => some ([b ≠ 0], aint k (a.tmod b))
  | .and => okv (aint k (k.wrap ((BitVec.ofInt k.bits a &&& BitVec.ofInt k.bits b).toNat : Int)))
  | .or => okv (aint k (k.wrap ((BitVec.ofInt k.bits a ||| BitVec.ofInt k.bits b).toNat : Int)))
  | .xor => okv (aint k (k.wrap ((BitVec.ofInt k.bits a ^^^ BitVec.ofInt k.bits b).toNat : Int)))
  | .andNot => okv (aint k (k.wrap ((BitVec.ofInt k.bits a &&& ~~~(BitVec.ofInt k.bits b)).toNat : Int)))
  | .eql => okv (abool (a == b))
  | .neq => okv (abool (a != b))
  | .lss => okv (abool (decide (a < b)))
  | .leq => okv (abool (decide (a ≤ b)))
  | .gtr => okv (abool (decide (a > b)))
  | .geq => okv (abool (decide (a ≥ b)))
  | .shl | .shr => none
def astr (op : BinOp) (x y : ByteArray) : Option (List Prop × AV) :=
  match op with
  | .eql => okv (abool (x.toList == y.toList))
  | .neq => okv (abool (!(x.toList == y.toList)))
  | _ => none
def isAggD : TypeDesc → Bool
  | .struct _ | .array _ _ => true
  | _ => false
/-- '==' at a type, part by part -/
def apart (P : Program) (t : TypeId) (cs : List AV) (off : Nat) : Option AV :=
  match P.underlying t, P.info? t with
  | some d, some ti => if isAggD d then (if off + ti.size ≤ cs.length then some (.agg ((cs.drop off).take ti.size)) else none) else cs[off]?
  | _, _ => none
def aeqPart (eq : TypeId → AV → AV → Option Bool) (P : Program) (t : TypeId) (cs ds : List AV) (off : Nat) : Option Bool :=
  match apart P t cs off, apart P t ds off with
  | some a, some b => eq t a b
  | _, _ => none
def aeqFields (eq : TypeId → AV → AV → Option Bool) (P : Program) (cs ds : List AV) : List Field → Option Bool
  | [] => some true
  | f :: fs => if f.name = "_" then aeqFields eq P cs ds fs else match aeqPart eq P f.type cs ds f.offset, aeqFields eq P cs ds fs with
    | some x, some y => some (x && y)
    | _, _ => none
def aeqElems (eq : TypeId → AV → AV → Option Bool) (P : Program) (e : TypeId) (m : Nat) (cs ds : List AV) : Nat → Nat → Option Bool
  | 0, _ => some true
  | n + 1, i => match aeqPart eq P e cs ds (i * m), aeqElems eq P e m cs ds n (i + 1) with
    | some x, some y => some (x && y)
    | _, _ => none
def aeqT (P : Program) : Nat → TypeId → AV → AV → Option Bool
  | 0, _, _, _ => none
  | d + 1, t, x, y => match P.underlying t, x, y with
    | some .bool, .val (.bool a), .val (.bool b) => some (a == b)
    | some (.int _), .val (.int k a), .val (.int k' b) => if k = k' then some (a == b) else none
    | some .string, .val (.string a), .val (.string b) => some (a == b)
    | some (.struct fs), .agg cs, .agg ds => if P.stoodInHeld t then none else aeqFields (aeqT P d) P cs ds fs.toList
    | some (.array n e), .agg cs, .agg ds => match P.info? e with
      | some ti => aeqElems (aeqT P d) P e ti.size cs ds n 0
      | none => none
    | _, _, _ => none
def aeqAgg (P : Program) (t : TypeId) (x y : AV) : Option Bool := if P.eqGuardType P.depth t then none else aeqT P 8 t x y
def isShift : BinOp → Bool
  | .shl | .shr => true
  | _ => false
def abin (E : Ctx) (op : BinOp) (t : TypeId) : AV → AV → Option (List Prop × AV)
  | .val (.int k a), .val (.int k' b) =>
    if isShift op then ashift op k a b else if k = k' then aarith op k a b else none
  | .val (.bool a), .val (.bool b) =>
    match E.ty t, op with
    | some { tk := .bool, .. }, .eql => okv (abool (a == b))
    | some { tk := .bool, .. }, .neq => okv (abool (!(a == b)))
    | _, _ => none
  | .val (.string a), .val (.string b) => astr op a b
  | .agg cs, .agg ds => match op with
    | .eql => match aeqAgg E.P t (.agg cs) (.agg ds) with | some b => okv (abool b) | none => none
    | .neq => match aeqAgg E.P t (.agg cs) (.agg ds) with | some b => okv (abool (!b)) | none => none
    | _ => none
  | _, _ => none
def aun (op : UnOp) : AV → Option (List Prop × AV)
  | .val (.bool b) => match op with | .not => okv (abool (!b)) | _ => none
  | .val (.int k n) => match op with
    | .neg => okv (aint k (k.wrap (0 - n)))
    | .xor => okv (aint k (k.wrap ((BitVec.ofInt k.bits (if k.signed then -1 else k.max) ^^^ BitVec.ofInt k.bits n).toNat : Int)))
    | _ => none
  | _ => none
def aconv (E : Ctx) (src dst : TypeId) : AV → Option (List Prop × AV)
  | .val (.int _ n) => match E.ty dst, E.ty src with
    | some { tk := .int k, .. }, some _ => okv (aint k (k.wrap n))
    | _, _ => none
  | .val (.string s) => match E.ty dst, E.ty src with
    | some { tk := .str, .. }, some _ => okv (.val (.string s))
    | _, _ => none
  | _ => none

/-- cells off .. off+n-1 as the value of a variable -/
def takeVar (i : TI) (cs : List AV) (off : Nat) : Option AV :=
  if i.isAgg then (if off + i.size ≤ cs.length then some (.agg ((cs.drop off).take i.size)) else none)
  else cs[off]?
def aload (E : Ctx) (h : Heap) (t : TypeId) : AV → Option AV
  | .rop cs off => match E.ty t with | some i => takeVar i cs off | none => none
  | .ref r off => match E.ty t, hget h r with | some i, some cs => takeVar i cs off | _, _ => none
  | _ => none
def setCells : List AV → Nat → List AV → List AV
  | cs, _, [] => cs
  | cs, off, v :: vs => setCells (cs.set off v) (off + 1) vs
def astore (E : Ctx) (h : Heap) (t : TypeId) (v : AV) : AV → Option Heap
  | .ref r off => match E.ty t, hget h r with
    | some i, some cs => if v.cells.length = i.size ∧ off + i.size ≤ cs.length ∧ v.cells.all AV.one = true then some (hset h r (setCells cs off v.cells)) else none
    | _, _ => none
  | _ => none
def afill (place : Nat → Option (Nat × Nat)) (cs : List AV) : List (Nat × AV) → Option (List AV)
  | [] => some cs
  | (i, v) :: rest => match place i with
    | none => none
    | some (off, size) => if v.cells.length = size ∧ off + size ≤ cs.length ∧ v.cells.all AV.one = true then afill place (setCells cs off v.cells) rest else none
def abuild (E : Ctx) (t : TypeId) (parts : List (Nat × AV)) : Option AV :=
  match E.ty t with
  | some { tk := .struct fs, zero := z, .. } => (afill (fun i => (fs[i]?).map fun f => (f.off, f.size)) (z.map .val) parts).map .agg
  | some { tk := .arr _ e, zero := z, .. } => match E.ty e with
    | some i => (afill (fun j => some (j * i.size, i.size)) (z.map .val) parts).map .agg
    | none => none
  | _ => none
def repCells (z : List Value) : Nat → List AV
  | 0 => []
  | n + 1 => z.map .val ++ repCells z n
def abuildSlice (E : Ctx) (t : TypeId) (len : Nat) (parts : List (Nat × AV)) : Option (Nat × List AV) :=
  match E.ty t with
  | some { tk := .slice e, .. } => match E.ty e with
    | some i => if len * i.size ≤ 16777216 ∧ i.zero.length = i.size ∧ 0 < i.size then (afill (fun j => some (j * i.size, i.size)) (repCells i.zero len) parts).map fun cs => (i.size, cs) else none
    | none => none
  | _ => none
def afieldAddr (E : Ctx) (s : TypeId) (f : Nat) : AV → Option AV
  | .ref r off => match E.ty s with
    | some { tk := .struct fs, .. } => match fs[f]? with | some i => if i.size = 0 then none else some (.ref r (off + i.off)) | none => none
    | _ => none
  | .rop cs off => match E.ty s with
    | some { tk := .struct fs, .. } => match fs[f]? with | some i => if i.size = 0 then none else some (.rop cs (off + i.off)) | none => none
    | _ => none
  | _ => none
def afield (E : Ctx) (t : TypeId) (f : Nat) : AV → Option AV
  | .agg cs => match E.ty t with
    | some { tk := .struct fs, .. } => match fs[f]? with
      | some i => if i.agg then (if i.off + i.size ≤ cs.length then some (.agg ((cs.drop i.off).take i.size)) else none) else cs[i.off]?
      | none => none
    | _ => none
  | _ => none
def aindexAddr (E : Ctx) (t : TypeId) (x : AV) (i : Int) : Option (List Prop × AV) :=
  match E.ty t with
  | some { tk := .arr n e, .. } => match E.ty e, x with
    | some ie, .ref r off => some ([0 ≤ i ∧ i < n], .ref r (off + i.toNat * ie.size))
    | some ie, .rop cs off => some ([0 ≤ i ∧ i < n], .rop cs (off + i.toNat * ie.size))
    | _, _ => none
  | some { tk := .slice e, .. } => match E.ty e, x with
    | some ie, .ro n f => some ([0 ≤ i ∧ i < n, (f i.toNat).length = ie.size], .rop (f i.toNat) 0)
    | some ie, .sl r s off n => if s = ie.size then some ([0 ≤ i ∧ i < n], .ref r (off + i.toNat * s)) else none
    | _, _ => none
  | _ => none
def aindex (E : Ctx) (t : TypeId) (x : AV) (i : Int) : Option (List Prop × AV) :=
  match E.ty t with
  | some { tk := .arr n e, .. } => match E.ty e, x with
    | some ie, .agg cs => match takeVar ie cs (i.toNat * ie.size) with
      | some a => some ([0 ≤ i ∧ i < n], a)
      | none => none
    | _, _ => none
  | _ => none
def aextract (n : Nat) : AV → Option AV
  | .tup vs => vs[n]?
  | _ => none
def alen (E : Ctx) (t : TypeId) : AV → Option AV
  | .ro n _ => match E.ty t with | some { tk := .slice _, .. } => some (aint .i64 n) | _ => none
  | .sl _ _ _ n => match E.ty t with | some { tk := .slice _, .. } => some (aint .i64 n) | _ => none
  | .val (.slice _ n _) => match E.ty t with | some { tk := .slice _, .. } => some (aint .i64 n) | _ => none
  | .val (.string s) => match E.ty t with | some { tk := .str, .. } => some (aint .i64 s.size) | _ => none
  | _ => none
def amax : AV → List AV → Option AV
  | a, [] => some a
  | .val (.int k x), .val (.int _ y) :: r => amax (aint k (if y > x then y else x)) r
  | _, _ => none
def amin : AV → List AV → Option AV
  | a, [] => some a
  | .val (.int k x), .val (.int _ y) :: r => amin (aint k (if y < x then y else x)) r
  | _, _ => none
def asI : AV → Option Int
  | .val (.int _ n) => some n
  | _ => none
def asB : AV → Option Bool
  | .val (.bool b) => some b
  | _ => none

/-- What an operation does: a value; nothing; a new root; another heap; a call. -/
inductive Out where
  | v (c : List Prop) (a : AV)
  | u (c : List Prop) (h : Heap)
  | new (cs : List AV) (mk : Nat → AV)
  | call (f : FuncId) (args : List AV)
  | no
def oV : Option AV → Out
  | some a => .v [] a
  | none => .no
def oC : Option (List Prop × AV) → Out
  | some (c, a) => .v c a
  | none => .no
def aop (E : Ctx) (h : Heap) (ρ : Operand → AV) (op : Op) : Out :=
  match op with
  | .move x | .assign x => .v [] (ρ x)
  | .pick .. => .no
  | .alloc t => match E.ty t with | some i => .new (i.zero.map .val) (fun r => .ref r 0) | none => .no
  | .box t x => match E.ty t with | some _ => if (ρ x).cells.all AV.one = true then .new (ρ x).cells (fun r => .ref r 0) else .no | none => .no
  | .build t parts => oV (abuild E t (parts.toList.map fun (i, x) => (i, ρ x)))
  | .buildSlice t len parts => match abuildSlice E t len (parts.toList.map fun (i, x) => (i, ρ x)) with
    | some (s, cs) => .new cs (fun r => .sl r s 0 len)
    | none => .no
  | .load t a => oV (aload E h t (ρ a))
  | .store t a x => match astore E h t (ρ x) (ρ a) with | some h' => .u [] h' | none => .no
  | .nilCheck x => match ρ x with
    | .ref r o => .v [] (.ref r o)
    | .rop cs o => .v [] (.rop cs o)
    | _ => .no
  | .binOp o t x y _ => oC (abin E o t (ρ x) (ρ y))
  | .unOp o _ x => oC (aun o (ρ x))
  | .convert s d x => oC (aconv E s d (ρ x))
  | .makeFunc (.func f) first caps => if first.isEmpty then .v [] (.fn f (caps.toList.map ρ)) else .no
  | .fieldAddr s x f => oV (afieldAddr E s f (ρ x))
  | .field t x f => oV (afield E t f (ρ x))
  | .indexAddr t x i => match asI (ρ i) with | some n => oC (aindexAddr E t (ρ x) n) | none => .no
  | .index t x i => match asI (ρ i) with | some n => oC (aindex E t (ρ x) n) | none => .no
  | .extract t i => oV (aextract i (ρ t))
  | .call { callee := .value f, args, .. } => match ρ f with
    | .fn g caps => .call g (args.toList.map ρ ++ caps)
    | _ => .no
  | .call { callee := .builtin .len, args, argTypes } => match argTypes[0]?, args[0]? with
    | some t, some x => oV (alen E t (ρ x))
    | _, _ => .no
  | .call { callee := .builtin .max, args, .. } => match args.toList with | x :: r => oV (amax (ρ x) (r.map ρ)) | [] => .no
  | .call { callee := .builtin .min, args, .. } => match args.toList with | x :: r => oV (amin (ρ x) (r.map ρ)) | [] => .no
  | _ => .no

/-! ### steps -/
inductive Fin where
  | at_ (c : Cfg)
  | ret (v : AV) (h : Heap)
def und : AV := .val undef
def putT (fr : List AV) : Option Tmp → AV → List AV
  | some d, a => fr.set d a
  | none, _ => fr
def dlook : List (Nat × Bool) → Nat → Option Bool
  | [], _ => none
  | (k, b) :: l, t => if k = t then some b else dlook l t
/-- A bool that stands in a temporary: what was decided of it, or the next decision (its condition). -/
def decide1 (dec : List (Nat × Bool)) (key : Option Nat) (b : Bool) (ds : List Bool) : Option (Bool × List Prop × List (Nat × Bool) × List Bool) :=
  match key.bind (dlook dec) with
  | some d => some (d, [], dec, ds)
  | none => match ds with
    | d :: ds => some (d, [b = d], (match key with | some k => (k, d) :: dec | none => dec), ds)
    | [] => none
def opTmp : Operand → Option Nat
  | .tmp t => some t
  | _ => none
def aresults (E : Ctx) (h : Heap) (fr : List AV) : List ResultVar → Option (List AV)
  | [] => some []
  | .tmp t :: r => match aresults E h fr r with | some l => some (lget fr t :: l) | none => none
  | .cell a t :: r => match aload E h t (lget fr a), aresults E h fr r with
    | some v, some l => some (v :: l)
    | _, _ => none
def retv : List AV → AV
  | [a] => a
  | l => .tup l
def enter (E : Ctx) (f : FuncId) (args : List AV) : Option AFr :=
  match E.P.funcs[f]? with
  | some fn => match fn.body with
    | some c => if args.length ≤ fn.ntmps then some ⟨f, [.code c], args ++ List.replicate (fn.ntmps - args.length) und, []⟩ else none
    | none => none
  | none => none

def dropD : List (Nat × Bool) → Nat → List (Nat × Bool)
  | [], _ => []
  | (k, b) :: l, t => if k = t then dropD l t else (k, b) :: dropD l t
/-- what follows an operation's value -/
def AFr.fin (F : AFr) (ops : Array Oper) (dst : Option Tmp) (rest : List Nat) (k : List Item) (a : AV) (dec : List (Nat × Bool)) : AFr :=
  { F with todo := .inRegion ops rest :: k, fr := putT F.fr dst a, dec := match dst with | some d => dropD dec d | none => dec }

def runOp (E : Ctx) (c : Cfg) (ops : Array Oper) (o : Oper) (rest : List Nat) (k : List Item) (dec : List (Nat × Bool)) (ds : List Bool) :
    Option (List Prop × Fin × List Bool) :=
  match o.op with
  | .pick x y z => match asB (ev E c.cur.fr x) with
    | some b => match decide1 dec (opTmp x) b ds with
      | some (d, C, dec, ds) => some (C, .at_ { c with cur := c.cur.fin ops o.dst rest k (ev E c.cur.fr (if d then y else z)) dec }, ds)
      | none => none
    | none => none
  | op => match aop E c.h (ev E c.cur.fr) op with
    | .v C a => some (C, .at_ { c with cur := c.cur.fin ops o.dst rest k a dec }, ds)
    | .u C h' => some (C, .at_ { c with cur := c.cur.fin ops o.dst rest k und dec, h := h' }, ds)
    | .new cs mk => some ([], .at_ { c with cur := c.cur.fin ops o.dst rest k (mk c.nx) dec, h := (c.nx, cs) :: c.h, nx := c.nx + 1 }, ds)
    | .call f args => if E.fns f then (match (if closedAll args then E.env f args else none) with
      | some r => some ([r.pre], .at_ { c with cur := c.cur.fin ops o.dst rest k r.res dec }, ds)
      | none => match enter E f args with
        | some F => some ([], .at_ { c with cur := F, callers := { c.cur with dec := dec } :: c.callers }, ds)
        | none => none) else none
    | .no => none

def todoC (c : Cfg) (t : List Item) (ds : List Bool) : Option (List Prop × Fin × List Bool) := some ([], .at_ { c with cur := { c.cur with todo := t } }, ds)

def leave (E : Ctx) (c : Cfg) (ds : List Bool) : Option (List Prop × Fin × List Bool) :=
  match E.P.funcs[c.cur.fn]? with
  | none => none
  | some fn => match aresults E c.h c.cur.fr fn.results.toList with
    | none => none
    | some vs => match c.callers with
      | [] => some ([], .ret (retv vs) c.h, ds)
      | F :: Fs => match F.todo with
        | .inRegion ops (i :: rest) :: k => match ops[i]? with
          | some o => some ([], .at_ { c with cur := F.fin ops o.dst rest k (retv vs) F.dec, callers := Fs }, ds)
          | none => none
        | _ => none

/-! ### regions that draw their order: the operations in the text's order, and why any order does the same -/
def names (ops : Array Oper) (o : Oper) : List Nat :=
  o.dst.toList ++ o.op.operands.toList.filterMap opTmp ++ (match o.guard with | some (j, _) => ((ops[j]?).bind (·.dst)).toList | none => [])
def maskF (ns : List Nat) : List AV → Nat → List AV
  | [], _ => []
  | a :: l, i => (if ns.contains i then a else .bad) :: maskF ns l (i + 1)
def refRoot : AV → List Nat
  | .ref r _ => [r]
  | _ => []
def rdOf (ρ : Operand → AV) : Op → List Nat
  | .load _ a => refRoot (ρ a)
  | .store _ a _ => refRoot (ρ a)
  | _ => []
def maskH (h : Heap) : List Nat → Heap
  | [] => []
  | r :: rs => match hget h r with | some cs => (r, cs) :: maskH h rs | none => maskH h rs
/-- what an operation did -/
structure Rc where
  dst : Option Tmp
  val : AV
  wr : Option (Nat × List AV)
  rd : List Nat
  nm : List Nat
/-- the value of one operation that is carried out -/
def dval (E : Ctx) (id : Nat) (o : Oper) (ns : List Nat) (fm : List AV) (h : Heap) (dec : List (Nat × Bool)) (ds : List Bool) : Option (List Prop × Rc × List (Nat × Bool) × List Bool) :=
  match o.op with
  | .pick x y z => match asB (ev E fm x) with
    | some b => match decide1 dec (opTmp x) b ds with
      | some (d, C, dec, ds) => some (C, ⟨o.dst, ev E fm (if d then y else z), none, [], ns⟩, dec, ds)
      | none => none
    | none => none
  | op => match aop E (maskH h (rdOf (ev E fm) op)) (ev E fm) op with
    | .v C a => some (C, ⟨o.dst, a, none, rdOf (ev E fm) op, ns⟩, dec, ds)
    | .u C h' => match rdOf (ev E fm) op with
      | [r] => match hget h' r with
        | some cs => some (C, ⟨o.dst, und, some (r, cs), [r], ns⟩, dec, ds)
        | none => none
      | _ => none
    | .new cs mk => some ([], ⟨o.dst, mk id, some (id, cs), rdOf (ev E fm) op, ns⟩, dec, ds)
    | .call f args => if E.fns f then (match (if closedAll args then E.env f args else none) with
      | some r => some ([r.pre], ⟨o.dst, r.res, none, rdOf (ev E fm) op, ns⟩, dec, ds)
      | none => none) else none
    | .no => none
def dop (E : Ctx) (ops : Array Oper) (id : Nat) (o : Oper) (fr : List AV) (h : Heap) (dec : List (Nat × Bool)) (ds : List Bool) : Option (List Prop × Rc × List (Nat × Bool) × List Bool) :=
  match o.guard with
  | none => dval E id o (names ops o) (maskF (names ops o) fr 0) h dec ds
  | some (j, want) => match (ops[j]?).bind (·.dst) with
    | none => none
    | some t => match lget (maskF (names ops o) fr 0) t with
      | .val (.bool b) => match decide1 dec (some t) b ds with
        | some (d, C, dec, ds) =>
          if d = want then (match dval E id o (names ops o) (maskF (names ops o) fr 0) h dec ds with | some (C', r, dec, ds) => some (C ++ C', r, dec, ds) | none => none)
          else some (C, ⟨o.dst, und, none, [], names ops o⟩, dec, ds)
        | none => none
      | .val (.tuple _) => some ([], ⟨o.dst, und, none, [], names ops o⟩, dec, ds)
      | _ => none
def hput (h : Heap) : Option (Nat × List AV) → Heap
  | none => h
  | some (r, cs) => match hget h r with | some _ => hset h r cs | none => (r, cs) :: h
def dropO : List (Nat × Bool) → Option Tmp → List (Nat × Bool)
  | dec, some d => dropD dec d
  | dec, none => dec
/-- the operations one behind the other -/
def drun (E : Ctx) (ops : Array Oper) (base : Nat) : Nat → List Oper → List AV → Heap → List (Nat × Bool) → List Bool → Option (List Prop × List Rc × List AV × Heap × List Bool)
  | _, [], fr, h, _, ds => some ([], [], fr, h, ds)
  | i, o :: os, fr, h, dec, ds => match dop E ops (base + i) o fr h dec ds with
    | some (C, r, dec, ds) => match drun E ops base (i + 1) os (putT fr r.dst r.val) (hput h r.wr) (dropO dec r.dst) ds with
      | some (C', rs, fr, h, ds) => some (C ++ C', r :: rs, fr, h, ds)
      | none => none
    | none => none
/-! what must come before what -/
def addN (l : List Nat) (x : Nat) : List Nat := if l.contains x then l else x :: l
def addAll (l : List Nat) : List Nat → List Nat
  | [] => l
  | x :: xs => addAll (addN l x) xs
def ancOf (acc : List (List Nat)) (j : Nat) : List Go.Edge → Option (List Nat)
  | [] => some []
  | e :: es => if Region.binds .any e then (if e.on < j then (match ancOf acc j es with | some l => some (addAll (addN l e.on) (acc.getD e.on [])) | none => none) else none) else ancOf acc j es
def ancs : List (List Nat) → List Oper → Option (List (List Nat))
  | acc, [] => some acc
  | acc, o :: os => match ancOf acc acc.length o.after.toList with
    | some l => ancs (acc ++ [l]) os
    | none => none
def wrRoot (r : Rc) : List Nat := match r.wr with | some (k, _) => [k] | none => []
def meets (l m : List Nat) : Bool := l.any fun x => m.contains x
/-- two operations that may not change places -/
def conf (a b : Rc) : Bool := meets a.dst.toList b.nm || meets b.dst.toList a.nm || meets (wrRoot a) (wrRoot b ++ b.rd) || meets (wrRoot b) (wrRoot a ++ a.rd)
/-- r (number j) against those before it -/
def okAgainst (anc : List Nat) (r : Rc) : Nat → List Rc → Bool
  | _, [] => true
  | i, q :: qs => (!conf q r || anc.contains i) && okAgainst anc r (i + 1) qs
def okAll (A : List (List Nat)) : Nat → List Rc → List Rc → Bool
  | _, _, [] => true
  | j, done, r :: rs => okAgainst (A.getD j []) r 0 done && okAll A (j + 1) (done ++ [r]) rs
def adraw (E : Ctx) (ops : Array Oper) (fr : List AV) (h : Heap) (nx : Nat) (ds : List Bool) : Option (List Prop × List AV × Heap × List Bool) :=
  match drun E ops nx 0 ops.toList fr h [] ds, ancs [] ops.toList with
  | some (C, rs, fr', h', ds'), some A => if okAll A 0 [] rs then some (C, fr', h', ds') else none
  | _, _ => none

def astep (E : Ctx) (ds : List Bool) (c : Cfg) : Option (List Prop × Fin × List Bool) :=
  match c.cur.todo with
  | [] => leave E c ds
  | .code .ret :: _ => leave E c ds
  | .code .skip :: k | .code (.label _) :: k | .inBlock _ :: k => todoC c k ds
  | .code (.seq a b) :: k => todoC c (.code a :: .code b :: k) ds
  | .code (.cond x a b) :: k => match asB (ev E c.cur.fr x) with
    | some t => match decide1 c.cur.dec (opTmp x) t ds with
      | some (d, C, _, ds) => some (C, .at_ { c with cur := { c.cur with todo := .code (if d then a else b) :: k } }, ds)
      | none => none
    | none => none
  | .code (.block id a) :: k => todoC c (.code a :: .inBlock id :: k) ds
  | .code (.loop a) :: k | .inLoop a :: k => todoC c (.code a :: .inLoop a :: k) ds
  | .code (.exit id) :: k => match exitTo id k with | some k' => todoC c k' ds | none => none
  | .code (.region _ ops false) :: k => some ([], .at_ { c with cur := { c.cur with todo := .inRegion ops (List.range ops.size) :: k, dec := [] } }, ds)
  | .code (.region _ ops true) :: k => match adraw E ops c.cur.fr c.h c.nx ds with
    | some (C, fr', h', ds') => some (C, .at_ { c with cur := { c.cur with todo := k, fr := fr', dec := [] }, h := h', nx := c.nx + ops.size }, ds')
    | none => none
  | .inRegion _ [] :: k => todoC c k ds
  | .inRegion ops (i :: rest) :: k => match ops[i]? with
    | none => none
    | some o => match o.guard with
      | none => runOp E c ops o rest k c.cur.dec ds
      | some (j, want) => match (ops[j]?).bind (·.dst) with
        | none => none
        | some t => match lget c.cur.fr t with
          | .val (.bool b) => match decide1 c.cur.dec (some t) b ds with
            | some (d, C, dec, ds) =>
              if d = want then (match runOp E c ops o rest k dec ds with | some (C', f, ds) => some (C ++ C', f, ds) | none => none)
              else some (C, .at_ { c with cur := c.cur.fin ops o.dst rest k und dec }, ds)
            | none => none
          | .val (.tuple _) => some ([], .at_ { c with cur := c.cur.fin ops o.dst rest k und c.cur.dec }, ds)
          | _ => none
  | _ => none

def apath (E : Ctx) : Nat → List Bool → Cfg → Option (List Prop × Fin × List Bool)
  | 0, ds, c => some ([], .at_ c, ds)
  | n + 1, ds, c => match astep E ds c with
    | some (C, .at_ c', ds') => match apath E n ds' c' with
      | some (C', f, ds'') => some (C ++ C', f, ds'')
      | none => none
    | some (C, .ret v h, ds') => some (C, .ret v h, ds')
    | none => none
end Go.AE
