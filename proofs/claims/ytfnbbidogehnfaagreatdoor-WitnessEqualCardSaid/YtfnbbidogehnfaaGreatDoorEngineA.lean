/- A part of the proofs over this program: an abstract machine that the kernel evaluates, and its soundness. No conditions. -/
import Derived.Calls
import Derived.Below
import GoSem.Claims
import Derived.Laws.Sem
import Derived.Laws.Entries
import Derived.Laws.World
import Derived.Laws.Slices
import Derived.Laws.Closers25b
import Derived.Tactics
namespace Go.BE
inductive Sh where
 | int (k : IntKind) | bool | str | unit
 | pair (a b : Sh) | arr (n : Nat) (a : Sh)
 | sl (bytes : Nat) (a : Sh) | ptr (a : Sh)
 deriving DecidableEq
@[reducible] def DenV (α : Type) : Nat → Type
 | 0 => Unit
 | n + 1 => α × DenV α n
@[reducible] def Den : Sh → Type
 | .int _ => Int
 | .bool => Bool
 | .str => ByteArray
 | .unit => Unit
 | .pair a b => Den a × Den b
 | .arr n a => DenV (Den a) n
 | .sl _ a => List (Den a)
 | .ptr a => Option (Den a)
def Sh.size : Sh → Nat
 | .int _ | .bool | .str | .sl .. | .ptr _ => 1
 | .unit => 0
 | .pair a b => a.size + b.size
 | .arr n a => n * a.size
def Sh.isAgg : Sh → Bool
 | .unit | .pair .. | .arr .. => true
 | _ => false
def vrep {α : Type} (x : α) : (n : Nat) → DenV α n
 | 0 => ()
 | n + 1 => (x, vrep x n)
def vget {α : Type} (d : α) : (n : Nat) → DenV α n → Nat → α
 | 0, _, _ => d
 | _ + 1, x, 0 => x.1
 | n + 1, x, i + 1 => vget d n x.2 i
def vset {α : Type} : (n : Nat) → DenV α n → Nat → α → DenV α n
 | 0, x, _, _ => x
 | _ + 1, x, 0, y => (y, x.2)
 | n + 1, x, i + 1, y => (x.1, vset n x.2 i y)
def dz : (S : Sh) → Den S
 | .int _ => (0 : Int)
 | .bool => false
 | .str => ByteArray.empty
 | .unit => ()
 | .pair a b => (dz a, dz b)
 | .arr n a => vrep (dz a) n
 | .sl _ _ => []
 | .ptr _ => none
def Sh.flat : Sh → Bool
 | .int _ | .bool | .str | .unit => true
 | .pair a b => a.flat && b.flat
 | .arr _ a => a.flat
 | .sl .. | .ptr _ => false
def roomB : Nat := 140737488355328
def room (bytes n : Nat) : Prop := n * bytes ≤ roomB ∧ n ≤ roomB
def VAll {α : Type} (p : α → Prop) : (n : Nat) → DenV α n → Prop
 | 0, _ => True
 | n + 1, x => p x.1 ∧ VAll p n x.2
def okD : (S : Sh) → Den S → Prop
 | .int k, x => k.has x
 | .bool, _ | .unit, _ => True
 | .str, x => ByteArray.size x ≤ roomB
 | .pair a b, x => okD a x.1 ∧ okD b x.2
 | .arr n a, x => VAll (okD a) n x
 | .sl by_ a, x => room by_ (List.length x) ∧ ∀ y : Den a, Membership.mem (γ := List (Den a)) x y → okD a y
 | .ptr a, x => ∀ y, x = some y → okD a y

inductive St where
 | l | r | a (i : Nat)
 deriving DecidableEq
def sAt : Sh → List St → Option (Sh × Nat)
 | S, [] => some (S, 0)
 | .pair a _, .l :: q => sAt a q
 | .pair a b, .r :: q => (sAt b q).map fun x => (x.1, a.size + x.2)
 | .arr _ a, .a i :: q => (sAt a q).map fun x => (x.1, i * a.size + x.2)
 | _, _ => none
structure TVal where
 S : Sh
 x : Den S
def sSh : Sh → List St → Option Sh
 | S, [] => some S
 | .pair a _, .l :: q => sSh a q
 | .pair _ b, .r :: q => sSh b q
 | .arr _ a, .a _ :: q => sSh a q
 | _, _ => none
theorem sAt_of_sSh : ∀ {st : List St} {S T : Sh}, sSh S st = some T → ∃ so, sAt S st = some (T, so)
 | [], S, T, h => by
  have h' : some S = some T := by cases S <;> exact h
  injection h' with h'
  subst h'
  exact ⟨0, by cases S <;> rfl⟩
 | .l :: q, .pair a b, T, h => sAt_of_sSh (S := a) h
 | .r :: q, .pair a b, T, h => by
  obtain ⟨so, h⟩ := sAt_of_sSh (S := b) h
  exact ⟨a.size + so, by simp only [sAt, h]; rfl⟩
 | .a i :: q, .arr n a, T, h => by
  obtain ⟨so, h⟩ := sAt_of_sSh (S := a) h
  exact ⟨i * a.size + so, by simp only [sAt, h]; rfl⟩
 | .l :: q, .int k, T, h => by simp [sSh] at h
 | .l :: q, .bool, T, h => by simp [sSh] at h
 | .l :: q, .str, T, h => by simp [sSh] at h
 | .l :: q, .unit, T, h => by simp [sSh] at h
 | .l :: q, .arr n a, T, h => by simp [sSh] at h
 | .l :: q, .sl b a, T, h => by simp [sSh] at h
 | .l :: q, .ptr a, T, h => by simp [sSh] at h
 | .r :: q, .int k, T, h => by simp [sSh] at h
 | .r :: q, .bool, T, h => by simp [sSh] at h
 | .r :: q, .str, T, h => by simp [sSh] at h
 | .r :: q, .unit, T, h => by simp [sSh] at h
 | .r :: q, .arr n a, T, h => by simp [sSh] at h
 | .r :: q, .sl b a, T, h => by simp [sSh] at h
 | .r :: q, .ptr a, T, h => by simp [sSh] at h
 | .a i :: q, .int k, T, h => by simp [sSh] at h
 | .a i :: q, .bool, T, h => by simp [sSh] at h
 | .a i :: q, .str, T, h => by simp [sSh] at h
 | .a i :: q, .unit, T, h => by simp [sSh] at h
 | .a i :: q, .pair a b, T, h => by simp [sSh] at h
 | .a i :: q, .sl b a, T, h => by simp [sSh] at h
 | .a i :: q, .ptr a, T, h => by simp [sSh] at h
theorem sAt_append : ∀ {st : List St} {S T U : Sh} {so o : Nat} {q : List St}, sAt S st = some (T, so) → sAt T q = some (U, o) → sAt S (st ++ q) = some (U, so + o)
 | [], S, T, U, so, o, q, h, h2 => by
  have h' : some (S, 0) = some (T, so) := by cases S <;> exact h
  injection h' with h'
  injection h' with e1 e2
  subst e1; subst e2
  rw [Nat.zero_add]
  exact h2
 | .l :: st, .pair a b, T, U, so, o, q, h, h2 => sAt_append (S := a) h h2
 | .r :: st, .pair a b, T, U, so, o, q, h, h2 => by
  simp only [sAt] at h
  obtain ⟨⟨T', so'⟩, h1, e⟩ := Option.map_eq_some_iff.1 h
  injection e with e1 e2
  subst e1; subst e2
  have := sAt_append (S := b) h1 h2
  simp only [List.cons_append, sAt, this, Option.map_some]
  rw [Nat.add_assoc]
 | .a i :: st, .arr n a, T, U, so, o, q, h, h2 => by
  simp only [sAt] at h
  obtain ⟨⟨T', so'⟩, h1, e⟩ := Option.map_eq_some_iff.1 h
  injection e with e1 e2
  subst e1; subst e2
  have := sAt_append (S := a) h1 h2
  simp only [List.cons_append, sAt, this, Option.map_some]
  rw [Nat.add_assoc]
 | .l :: st, .int k, T, U, so, o, q, h, h2 => by simp [sAt] at h
 | .l :: st, .bool, T, U, so, o, q, h, h2 => by simp [sAt] at h
 | .l :: st, .str, T, U, so, o, q, h, h2 => by simp [sAt] at h
 | .l :: st, .unit, T, U, so, o, q, h, h2 => by simp [sAt] at h
 | .l :: st, .arr n a, T, U, so, o, q, h, h2 => by simp [sAt] at h
 | .l :: st, .sl b a, T, U, so, o, q, h, h2 => by simp [sAt] at h
 | .l :: st, .ptr a, T, U, so, o, q, h, h2 => by simp [sAt] at h
 | .r :: st, .int k, T, U, so, o, q, h, h2 => by simp [sAt] at h
 | .r :: st, .bool, T, U, so, o, q, h, h2 => by simp [sAt] at h
 | .r :: st, .str, T, U, so, o, q, h, h2 => by simp [sAt] at h
 | .r :: st, .unit, T, U, so, o, q, h, h2 => by simp [sAt] at h
 | .r :: st, .arr n a, T, U, so, o, q, h, h2 => by simp [sAt] at h
 | .r :: st, .sl b a, T, U, so, o, q, h, h2 => by simp [sAt] at h
 | .r :: st, .ptr a, T, U, so, o, q, h, h2 => by simp [sAt] at h
 | .a i :: st, .int k, T, U, so, o, q, h, h2 => by simp [sAt] at h
 | .a i :: st, .bool, T, U, so, o, q, h, h2 => by simp [sAt] at h
 | .a i :: st, .str, T, U, so, o, q, h, h2 => by simp [sAt] at h
 | .a i :: st, .unit, T, U, so, o, q, h, h2 => by simp [sAt] at h
 | .a i :: st, .pair a b, T, U, so, o, q, h, h2 => by simp [sAt] at h
 | .a i :: st, .sl b a, T, U, so, o, q, h, h2 => by simp [sAt] at h
 | .a i :: st, .ptr a, T, U, so, o, q, h, h2 => by simp [sAt] at h
def sGet : (S : Sh) → Den S → List St → Option TVal
 | S, x, [] => some ⟨S, x⟩
 | .pair a _, x, .l :: q => sGet a x.1 q
 | .pair _ b, x, .r :: q => sGet b x.2 q
 | .arr n a, x, .a i :: q => sGet a (vget (dz a) n x i) q
 | _, _, _ => none
def castD (S T : Sh) (x : Den S) : Option (Den T) := if h : S = T then some (h ▸ x) else none
def sSet : (S : Sh) → Den S → List St → TVal → Option (Den S)
 | S, _, [], y => castD y.S S y.x
 | .pair a _, x, .l :: q, y => (sSet a x.1 q y).map fun z => (z, x.2)
 | .pair _ b, x, .r :: q, y => (sSet b x.2 q y).map fun z => (x.1, z)
 | .arr n a, x, .a i :: q, y => (sSet a (vget (dz a) n x i) q y).map fun z => vset n x i z
 | _, _, _, _ => none
def sOK : Sh → List St → List Prop
 | .pair a _, .l :: q => sOK a q
 | .pair _ b, .r :: q => sOK b q
 | .arr n a, .a i :: q => (i < n) :: sOK a q
 | _, _ => []

abbrev Seg := Nat × List St
abbrev Pth := List Seg
structure Node where
 S : Sh
 xs : List (Den S)
 isPtr : Bool
def qco : TVal → Option Node
 | ⟨.sl _ a, x⟩ => some ⟨a, x, false⟩
 | ⟨.ptr a, x⟩ => some ⟨a, Option.toList x, true⟩
 | _ => none
def nget (t : TVal) : Pth → Option Node
 | [] => qco t
 | (i, st) :: p => match qco t with
  | some n => match sGet n.S (n.xs.getD i (dz n.S)) st with
   | some u => nget u p
   | none => none
  | none => none
def ngetT (t : TVal) : Pth → Option TVal
 | [] => some t
 | (i, st) :: p => match qco t with
  | some n => match sGet n.S (n.xs.getD i (dz n.S)) st with
   | some u => ngetT u p
   | none => none
  | none => none
theorem nget_ngetT : ∀ {p : Pth} {t u : TVal}, ngetT t p = some u → nget t p = qco u
 | [], t, u, h => by injection h with h; subst h; rfl
 | (i, st) :: p, t, u, h => by
  unfold ngetT at h
  show (match qco t with | some n => (match sGet n.S (n.xs.getD i (dz n.S)) st with | some u => nget u p | none => none) | none => none) = qco u
  split at h
  ·rename_i n hn
   split at h
   ·rename_i v hv
    exact nget_ngetT h
   ·cases h
  ·cases h
def nodeSet : (t : TVal) → (n : Node) → Option (Den t.S)
 | ⟨.sl _ a, _⟩, n => if n.isPtr then none else castD (.sl 0 n.S) (.sl 0 a) n.xs
 | ⟨.ptr a, _⟩, n => if n.isPtr then castD (.ptr n.S) (.ptr a) (List.head? n.xs) else none
 | _, _ => none
def pset (t : TVal) : Pth → Nat → List St → TVal → Option (Den t.S)
 | [], i, st, y => match qco t with
  | some n => match sSet n.S (n.xs.getD i (dz n.S)) st y with
   | some z => nodeSet t ⟨n.S, n.xs.set i z, n.isPtr⟩
   | none => none
  | none => none
 | (k, s) :: p, i, st, y => match qco t with
  | some n => match sGet n.S (n.xs.getD k (dz n.S)) s with
   | some u => match pset u p i st y with
    | some x => match sSet n.S (n.xs.getD k (dz n.S)) s ⟨u.S, x⟩ with
     | some z => nodeSet t ⟨n.S, n.xs.set k z, n.isPtr⟩
     | none => none
    | none => none
   | none => none
  | none => none
def nOK (t : TVal) : Pth → List Prop
 | [] => []
 | (i, st) :: p => match qco t with
  | some m => match sGet m.S (m.xs.getD i (dz m.S)) st with
   | some u => (i < m.xs.length) :: (sOK m.S st ++ nOK u p)
   | none => [False]
  | none => [False]
end Go.BE
namespace Go.BE
inductive AV where
 | bad
 | val (v : Value)
 | tv (S : Sh) (x : Den S)            -- plain data; slices and pointers in it lead to read-only qfn
 | rtp (S : Sh) (x : Den S)           -- a pointer to read-only cells that hold x
 | agg (cs : List AV)
 | tup (vs : List AV)
 | fn (f : FuncId) (caps : List AV)
 | rop (cs : List AV) (off : Nat)     -- a pointer to read-only cells
 | ref (r off : Nat)                  -- a pointer into a root of cells
 | tref (r s : Nat) (p : Pth) (i : Nat) (st : List St)  -- a pointer into a root of data: element i of node p, and there place st
 | osl (r s : Nat) (p : Pth) (w : Option (Nat × Nat))   -- the slice whose elements are node p of root r
 | optr (r s : Nat) (p : Pth)         -- the pointer to node p of root r
 | csl (r off n : Nat)                -- the slice of n elements that lie in a root of cells
 | yld (r : Nat)                      -- the function that a round of the loop at root r is
 | mp (r : Nat)                       -- the map at root r
 | refx (r off n i : Nat)             -- a pointer into a root of cells: cell i of the n cells from off on
 deriving Inhabited
def runeAt (s : ByteArray) (i : Nat) : Int := ((Utf8.decode s i).1 : Nat)
def runeW (s : ByteArray) (i : Nat) : Nat := (Utf8.decode s i).2
structure RgL where
 l : Nat
 d : Nat
 base : Go.Loop
def valsV {α : Type} (f : α → List Value) : (n : Nat) → DenV α n → List Value
 | 0, _ => []
 | n + 1, x => f x.1 ++ valsV f n x.2
def valsD : (S : Sh) → Den S → List Value
 | .int k, x => [.int k x]
 | .bool, x => [.bool x]
 | .str, x => [.string x]
 | .unit, _ => []
 | .pair a b, x => valsD a x.1 ++ valsD b x.2
 | .arr n a, x => valsV (valsD a) n x
 | _, _ => []
def valD (S : Sh) (x : Den S) : Value := if S.isAgg then .agg (valsD S x).toArray else (valsD S x).headD undef
def denEqV {α : Type} (f : α → α → Bool) : (n : Nat) → DenV α n → DenV α n → Bool
 | 0, _, _ => true
 | n + 1, x, y => f x.1 y.1 && denEqV f n x.2 y.2
def denEq : (S : Sh) → Den S → Den S → Bool
 | .int _, x, y => decide (x = (y : Int))
 | .bool, x, y => x == (y : Bool)
 | .str, x, y => decide (x.data.toList = (y : ByteArray).data.toList)
 | .unit, _, _ => true
 | .pair a b, x, y => denEq a x.1 y.1 && denEq b x.2 y.2
 | .arr n a, x, y => denEqV (denEq a) n x y
 | _, _, _ => false
def mget {K V : Sh} : List (Den K × Den V) → Den K → Option (Den V)
 | [], _ => none
 | e :: l, x => cond (denEq K x e.1) (some e.2) (mget l x)
def mput {K V : Sh} : List (Den K × Den V) → Den K → Den V → List (Den K × Den V)
 | [], x, y => [(x, y)]
 | e :: l, x, y => cond (denEq K x e.1) ((x, y) :: l) (e :: mput l x y)
inductive AObj where
 | map (K V : Sh) (l : List (Den K × Den V))
 | iter (s : ByteArray) (pos : Nat)
 | loop (R : RgL) (st : LoopState) (pend : Option Code)
 | defd
 | gone
structure Hd where
 S : Sh
 isPtr : Bool
 n : Nat
 c : Nat
 blk : Option (Nat × Nat)
inductive Pin where
 | b (r v : Nat)
 | g (r s : Nat) (hd : Hd)
 | dead
inductive Cont where
 | cells (cs : List AV)
 | pins (l : List Pin)
 | obj (o : AObj)
 | arr (m by_ : Nat) (S : Sh) (xs : List (Den S))
structure Root where
 cont : Cont
 cur : Nat
 old : List (Nat × List Nat × Nat)
 fz : Bool
 pend : Option Pth
abbrev Heap := List (Nat × Root)
def hget : Heap → Nat → Option Root
 | [], _ => none
 | (k, c) :: h, r => if k = r then some c else hget h r
def hdel : Heap → Nat → Heap
 | [], _ => []
 | (k, c) :: h, r => if k = r then hdel h r else (k, c) :: hdel h r
def hput : Heap → Nat → Root → Heap
 | [], r, d => [(r, d)]
 | (k, c) :: h, r, d => if k = r then (k, d) :: h else (k, c) :: hput h r d

structure FI where
 off : Nat
 size : Nat
 agg : Bool
inductive TK where
 | int (k : IntKind) | bool | str | ptr (e : TypeId) | slice (e : TypeId) | arr (n : Nat) (e : TypeId) | struct (fs : List FI) | map (k v : TypeId) | other
structure TI where
 tk : TK
 size : Nat
 bytes : Nat
 zero : List Value
 sh : Option Sh := none
abbrev Ty := TypeId → Option TI
inductive Tr (α : Type) where
 | leaf
 | node (v : Option α) (l r : Tr α)
def Tr.get {α : Type} : Tr α → Nat → Option α
 | .leaf, _ => none
 | .node v l r, n => match n with
  | 0 => v
  | n + 1 => if n % 2 = 0 then l.get (n / 2) else r.get (n / 2)
def TI.isAgg (i : TI) : Bool := match i.tk with | .arr .. | .struct _ => true | _ => false

structure Rng where
 r : Nat
 R : RgL
 params : Array Tmp
 assign : Code
 body : Code
structure AFr where
 fn : FuncId
 todo : List Item
 fr : List AV
 rng : Option Rng := none
 rnd : Option (Option Nat × RgL) := none       -- it is a round of that loop
 marks : List (Option Nat × RgL) := []         -- deferred calls of loops
structure Cfg where
 cur : AFr
 callers : List AFr
 h : Heap
 nx : Nat
structure SRes where
 pre : Prop
 res : AV
 roots : List (Nat × Root) := []
 pan : Option (Bool × AV) := none   -- it panics, with that value, if ..
abbrev Env := FuncId → List AV → Option SRes
structure Ctx where
 P : Program
 ty : Ty
 gl : Nat → Option AV
 env : Env
 fns : Nat → Bool     -- functions that may be called
 pans : FuncId → Bool := fun _ => false   -- functions that may panic: called last in their regions
 site : FuncId → Nat → Nat := fun _ _ => 0  -- hints where memory is made: 1 a box that is never written again, 2 a variable as data, 10 + m a slice that is owned m levels deep
 iok : FuncId → Option (List Bool) := fun _ => none   -- functions that change what their arguments lead to: which arguments
 io : FuncId → List AV → Heap → Option SRes := fun _ _ _ => none   -- their contracts: the roots are numbered from 1
 iopin : FuncId → List Nat := fun _ => []   -- .. the roots of data whose headers stay
 mrg : FuncId → List Nat := fun _ => []  -- the picks at which the two ways of && and || are merged

def bndB : Nat := 4096
def unB : Nat → Nat
 | 0 => 0
 | n + 1 => n + 1 - bndB
theorem unB_eq (g : Nat) : unB g = g - bndB := by
 cases g with
 | zero => exact (Nat.zero_sub _).symm
 | succ n => unfold unB; rfl
def lget (l : List AV) (n : Nat) : AV := l.getD n .bad
def okI (k : IntKind) (n : Int) : Bool := decide (k.min ≤ n) && decide (n ≤ k.max)
def cvals : List Value → List AV
 | [] => []
 | .int k n :: l => (if okI k n then .val (.int k n) else .bad) :: cvals l
 | .string s :: l => (if decide (s.size ≤ roomB) then .val (.string s) else .bad) :: cvals l
 | .iface _ _ :: l => .bad :: cvals l
 | v :: l => .val v :: cvals l
def cval : Value → AV
 | .agg cs => .agg (cvals cs.toList)
 | .int k n => if okI k n then .val (.int k n) else .bad
 | .string s => if decide (s.size ≤ roomB) then .val (.string s) else .bad
 | .iface _ _ => .bad
 | v => .val v
def ev (E : Ctx) (fr : List AV) : Operand → AV
 | .tmp t => lget fr t
 | .const v => cval v
 | .global g => match E.gl g with | some a => a | none => .bad
 | .func f => match Nat.blt f bndB with | true => .fn f [] | false => .bad
def aint (k : IntKind) (n : Int) : AV := .val (.int k n)
def abool (b : Bool) : AV := .val (.bool b)
def avOf : (S : Sh) → Den S → AV
 | .int k, x => aint k x
 | .bool, x => abool x
 | .str, x => .val (.string x)
 | S, x => .tv S x
def cellsV {α : Type} (f : α → List AV) : (n : Nat) → DenV α n → List AV
 | 0, _ => []
 | n + 1, x => f x.1 ++ cellsV f n x.2
def qeu : (S : Sh) → Den S → List AV
 | .int k, x => [aint k x]
 | .bool, x => [abool x]
 | .str, x => [.val (.string x)]
 | .unit, _ => []
 | .pair a b, x => qeu a x.1 ++ qeu b x.2
 | .arr n a, x => cellsV (qeu a) n x
 | .sl b a, x => [.tv (.sl b a) x]
 | .ptr a, x => [.tv (.ptr a) x]
def AV.one : AV → Bool
 | .bad | .agg _ | .tup _ => false
 | .val (.agg _) | .val (.tuple _) => false
 | .tv S _ => !S.isAgg
 | _ => true
def AV.cells : AV → List AV
 | .agg cs => cs
 | .tv S x => qeu S x
 | a => [a]
mutual
/-- leads to no root -/
def AV.closed : AV → Bool
 | .val _ | .tv .. | .rtp .. | .rop .. => true
 | .agg cs => qcm cs
 | .tup cs => qcm cs
 | .fn _ cs => qcm cs
 | .bad | .ref .. | .tref .. | .osl .. | .optr .. | .csl .. | .yld _ | .mp _ | .refx .. => false
def qcm : List AV → Bool
 | [] => true
 | a :: l => a.closed && qcm l
end
mutual
/-- leads to no block at all -/
def AV.plain : AV → Bool
 | .val (.slice ..) | .val (.pointer _) => false
 | .val _ => true
 | .tv S _ => S.flat
 | .agg cs => plainAll cs
 | .tup cs => plainAll cs
 | _ => false
def plainAll : List AV → Bool
 | [] => true
 | a :: l => a.plain && plainAll l
end
def toDenV {α : Type} (f : List AV → Option (α × List AV)) : (n : Nat) → List AV → Option (DenV α n × List AV)
 | 0, cs => some ((), cs)
 | n + 1, cs => match f cs with
  | some (x, cs) => match toDenV f n cs with
   | some (y, cs) => some ((x, y), cs)
   | none => none
  | none => none
def cInt (k : IntKind) : AV → Option Int
 | .val (.int k' n) => if k = k' then some n else none
 | _ => none
def cBool : AV → Option Bool
 | .val (.bool b) => some b
 | _ => none
def cStr : AV → Option ByteArray
 | .val (.string s) => some s
 | _ => none
def isNilS : Value → Bool
 | .slice none 0 0 => true
 | _ => false
def isNilP : Value → Bool
 | .pointer none => true
 | _ => false
def cSl (b : Nat) (a : Sh) : AV → Option (List (Den a))
 | .tv S x => castD S (.sl b a) x
 | .val v => if isNilS v then some [] else none
 | _ => none
def cPtr (a : Sh) : AV → Option (Option (Den a))
 | .tv S x => castD S (.ptr a) x
 | .rtp S x => castD (.ptr S) (.ptr a) (some x)
 | .val v => if isNilP v then some none else none
 | _ => none
def one {α : Type} (f : AV → Option α) : List AV → Option (α × List AV)
 | c :: cs => (f c).map fun x => (x, cs)
 | [] => none
def toDen : (S : Sh) → List AV → Option (Den S × List AV)
 | .int k, cs => one (cInt k) cs
 | .bool, cs => one cBool cs
 | .str, cs => one cStr cs
 | .unit, cs => some ((), cs)
 | .pair a b, cs => match toDen a cs with
  | some (x, cs) => match toDen b cs with
   | some (y, cs) => some ((x, y), cs)
   | none => none
  | none => none
 | .arr n a, cs => toDenV (toDen a) n cs
 | .sl b a, cs => one (cSl b a) cs
 | .ptr a, cs => match cs with
  | .rop ds 0 :: rest => (match toDen a ds with
   | some (x, []) => some (some x, rest)
   | _ => none)
  | cs => one (cPtr a) cs
def stampAt : List (Nat × List Nat × Nat) → Nat → Nat → Bool
 | [], _, _ => false
 | (k, bad, cut) :: l, s, d => if k = s then decide (d < cut) && !bad.contains d else stampAt l s d
def Root.valid (R : Root) (s d : Nat) : Bool := R.cur == s || stampAt R.old s d
def oldApp (d : Nat) : List (Nat × List Nat × Nat) → List (Nat × List Nat × Nat)
 | [] => []
 | (k, bad, cut) :: l => (k, d :: bad, cut) :: oldApp d l
def oldCut (d : Nat) : List (Nat × List Nat × Nat) → List (Nat × List Nat × Nat)
 | [] => []
 | (k, bad, cut) :: l => (k, bad, min cut d) :: oldCut d l
def Root.app (R : Root) (d s : Nat) (xs : Cont) (pend : Option Pth) : Root := { R with cont := xs, cur := s, old := (R.cur, [d], 1000000) :: oldApp d R.old, pend := pend }
def Root.rep (R : Root) (d s : Nat) (xs : Cont) : Root := { R with cont := xs, cur := s, old := (R.cur, [], d) :: oldCut d R.old, pend := none }
def rdata (h : Heap) (r s d : Nat) : Option (Root × Nat × TVal) := match hget h r with
 | some R => match R.cont with
  | .arr m b S xs => if R.valid s d && R.pend.isNone && !R.fz then some (R, m, ⟨.sl b S, xs⟩) else none
  | _ => none
 | none => none
def rwhole (h : Heap) (r s : Nat) : Option (Root × Nat × TVal) := match hget h r with
 | some R => match R.cont with
  | .arr m b S xs => if R.valid s 0 && R.pend.isNone then some (R, m, ⟨.sl b S, xs⟩) else none
  | _ => none
 | none => none
def Root.setD (R : Root) (t : TVal) : Option Cont := match R.cont with
 | .arr m b S _ => (castD t.S (.sl b S) t.x).map fun x => .arr m b S x
 | _ => none
def wlo : Option (Nat × Nat) → Nat
 | none => 0
 | some (lo, _) => lo
def wlen (n : Nat) : Option (Nat × Nat) → Nat
 | none => n
 | some (_, k) => k
def wins {α : Type} (xs : List α) : Option (Nat × Nat) → List α
 | none => xs
 | some (lo, n) => (xs.drop lo).take n
structure NodeA where
 C : List Prop
 R : Root
 m : Nat
 d : TVal
 n : Node
def rnode (h : Heap) (r s : Nat) (p : Pth) : Option NodeA := match rdata h r s p.length with
 | some (R, m, t) => if p.length ≤ m then (match nget t p with
  | some n => some ⟨nOK t p, R, m, t, n⟩
  | none => none) else none
 | none => none
def rdataA (h : Heap) (r s d : Nat) : Option (Root × Nat × TVal) := match hget h r with
 | some R => match R.cont with
  | .arr m b S xs => if R.valid s d then some (R, m, ⟨.sl b S, xs⟩) else none
  | _ => none
 | none => none
def rnodeA (h : Heap) (r s : Nat) (p : Pth) : Option NodeA := match rdataA h r s p.length with
 | some (R, m, t) => if p.length ≤ m then (match nget t p with
  | some n => some ⟨nOK t p, R, m, t, n⟩
  | none => none) else none
 | none => none
def rnodeL (h : Heap) (r s : Nat) (p : Pth) : Option NodeA := match rnodeA h r s p with
 | some N => if N.R.pend.isNone then some N else none
 | none => none
def woff : Option (Nat × Nat) → Nat → Nat
 | none, i => i
 | some (lo, _), i => lo + i
theorem woff_eq (w : Option (Nat × Nat)) (i : Nat) : woff w i = wlo w + i := by
 cases w with
 | none => simp [woff, wlo]
 | some x => rfl
def norm (h : Heap) : AV → AV
 | .osl r s [] w => match rwhole h r s with
  | some (R, _, ⟨.sl b S, xs⟩) => if R.fz then .tv (.sl b S) (wins xs w) else .osl r s [] w
  | _ => .osl r s [] w
 | a => a
end Go.BE
namespace Go.BE
def qfv (w : World) (b o : Nat) (v : Value) : Prop := w.cell? ⟨b, o, none⟩ = some v
def Run (w : World) (b o : Nat) (us : List Value) : Prop := ∀ (j : Nat) v, us[j]? = some v → qfv w b (o + j) v
def lat {α : Type} (l : List α) (i : Nat) : Option α := l[i]?

def FRV {α : Type} (f : α → List Value → Prop) : (n : Nat) → DenV α n → List Value → Prop
 | 0, _, vs => vs = []
 | n + 1, x, vs => ∃ us ws, vs = us ++ ws ∧ f x.1 us ∧ FRV f n x.2 ws
def FR (w : World) (Z : Nat → Prop) : (S : Sh) → Den S → List Value → Prop
 | .int k, x, vs => vs = [.int k x] ∧ k.has x
 | .bool, x, vs => vs = [.bool x]
 | .str, x, vs => vs = [.string x] ∧ ByteArray.size x ≤ roomB
 | .unit, _, vs => vs = []
 | .pair a b, x, vs => ∃ us ws, vs = us ++ ws ∧ FR w Z a x.1 us ∧ FR w Z b x.2 ws
 | .arr n a, x, vs => FRV (FR w Z a) n x vs
 | .sl by_ a, x, vs => ∃ ad c, vs = [.slice ad (List.length x) c] ∧ List.length x ≤ c ∧ room by_ (List.length x) ∧
   (0 < List.length x → ∃ b o, ad = some ⟨b, o, none⟩ ∧ Z b ∧ ∀ (i : Nat) (y : Den a), lat (α := Den a) x i = some y → ∃ us, us.length = a.size ∧ Run w b (o + i * a.size) us ∧ FR w Z a y us)
 | .ptr a, x, vs => (x = none ∧ vs = [.pointer none]) ∨ ∃ (y : Den a) (b o : Nat) (us : List Value), x = some y ∧ vs = [.pointer (some ⟨b, o, none⟩)] ∧ Z b ∧ us.length = a.size ∧ Run w b o us ∧ FR w Z a y us

structure Stay (w : World) (Z : Nat → Prop) (w' : World) (Z' : Nat → Prop) : Prop where
 heap : ∀ b, Z b → w'.heap[b]? = w.heap[b]?
 sub : ∀ b, Z b → Z' b
theorem Stay.refl (w : World) (Z : Nat → Prop) : Stay w Z w Z := ⟨fun _ _ => rfl, fun _ h => h⟩
theorem Stay.trans {w1 w2 w3 : World} {Z1 Z2 Z3 : Nat → Prop} (h : Stay w1 Z1 w2 Z2) (k : Stay w2 Z2 w3 Z3) : Stay w1 Z1 w3 Z3 :=
 ⟨fun b hb => (k.heap b (h.sub b hb)).trans (h.heap b hb), fun b hb => k.sub b (h.sub b hb)⟩
theorem qfv.stay {w w' : World} {b o : Nat} {v : Value} (h : qfv w b o v) (hb : w'.heap[b]? = w.heap[b]?) : qfv w' b o v := by
 unfold qfv World.cell? at *
 simp only [hb]
 exact h
theorem Run.stay {w w' : World} {b o : Nat} {us : List Value} (h : Run w b o us) (hb : w'.heap[b]? = w.heap[b]?) : Run w' b o us := fun j v hj => (h j v hj).stay hb
section
variable {w w' : World} {Z Z' : Nat → Prop}
theorem FRV.imp {α : Type} {f g : α → List Value → Prop} (h : ∀ x vs, f x vs → g x vs) : ∀ {n : Nat} {x : DenV α n} {vs : List Value}, FRV f n x vs → FRV g n x vs
 | 0, _, _, hv => hv
 | _ + 1, _, _, ⟨us, ws, h1, h2, h3⟩ => ⟨us, ws, h1, h _ _ h2, FRV.imp h h3⟩
theorem FR.mono (hs : Stay w Z w' Z') : ∀ {S : Sh} {x : Den S} {vs : List Value}, FR w Z S x vs → FR w' Z' S x vs := by
 intro S
 induction S with
 | int k => exact fun h => h
 | bool => exact fun h => h
 | str => exact fun h => h
 | unit => exact fun h => h
 | pair a b iha ihb =>
  intro x vs ⟨us, ws, h1, h2, h3⟩
  exact ⟨us, ws, h1, iha h2, ihb h3⟩
 | arr n a ih => exact fun h => FRV.imp (fun _ _ => ih) h
 | sl by_ a ih =>
  intro x vs ⟨ad, c, h1, h2, h3, h4⟩
  refine ⟨ad, c, h1, h2, h3, fun hp => ?_⟩
  obtain ⟨b, o, e1, e2, e3⟩ := h4 hp
  refine ⟨b, o, e1, hs.sub _ e2, fun i y hy => ?_⟩
  obtain ⟨us, k1, k2, k3⟩ := e3 i y hy
  exact ⟨us, k1, k2.stay (hs.heap _ e2), ih k3⟩
 | ptr a ih =>
  intro x vs h
  rcases h with h | ⟨y, b, o, us, h1, h2, h3, h4, h5, h6⟩
  ·exact .inl h
  ·exact .inr ⟨y, b, o, us, h1, h2, hs.sub _ h3, h4, h5.stay (hs.heap _ h3), ih h6⟩
theorem FRV.len {α : Type} {f : α → List Value → Prop} {k : Nat} (h : ∀ x vs, f x vs → vs.length = k) : ∀ {n : Nat} {x : DenV α n} {vs : List Value}, FRV f n x vs → vs.length = n * k
 | 0, _, _, hv => by rw [show _ = [] from hv]; simp
 | n + 1, _, _, ⟨us, ws, h1, h2, h3⟩ => by rw [h1, List.length_append, h _ _ h2, FRV.len h h3, Nat.succ_mul, Nat.add_comm]
theorem FR.len : ∀ {S : Sh} {x : Den S} {vs : List Value}, FR w Z S x vs → vs.length = S.size := by
 intro S
 induction S with
 | int k => exact fun h => by rw [h.1]; rfl
 | bool => exact fun h => by rw [show _ = _ from h]; rfl
 | str => exact fun h => by rw [h.1]; rfl
 | unit => exact fun h => by rw [show _ = _ from h]; rfl
 | pair a b iha ihb =>
  intro x vs ⟨us, ws, h1, h2, h3⟩
  rw [h1, List.length_append, iha h2, ihb h3]; rfl
 | arr n a ih => exact fun h => FRV.len (fun _ _ => ih) h
 | sl by_ a ih =>
  intro x vs ⟨ad, c, h1, h2, h3, h4⟩
  rw [h1]; rfl
 | ptr a ih =>
  intro x vs h
  rcases h with h | ⟨y, b, o, us, h1, h2, h3, h4, h5, h6⟩
  ·rw [h.2]; rfl
  ·rw [h2]; rfl
theorem VAll.of_FRV {α : Type} {f : α → List Value → Prop} {p : α → Prop} (h : ∀ x vs, f x vs → p x) : ∀ {n : Nat} {x : DenV α n} {vs : List Value}, FRV f n x vs → VAll p n x
 | 0, _, _, _ => trivial
 | _ + 1, _, _, ⟨_, _, _, h2, h3⟩ => ⟨h _ _ h2, VAll.of_FRV h h3⟩
theorem FR.ok : ∀ {S : Sh} {x : Den S} {vs : List Value}, FR w Z S x vs → okD S x := by
 intro S
 induction S with
 | int k => exact fun h => h.2
 | bool => exact fun _ => trivial
 | str => exact fun h => h.2
 | unit => exact fun _ => trivial
 | pair a b iha ihb => intro x vs ⟨us, ws, h1, h2, h3⟩; exact ⟨iha h2, ihb h3⟩
 | arr n a ih => exact fun h => VAll.of_FRV (f := FR w Z a) (fun _ _ h => ih h) h
 | sl by_ a ih =>
  intro x vs ⟨ad, c, h1, h2, h3, h4⟩
  refine ⟨h3, fun y hy => ?_⟩
  obtain ⟨i, hi⟩ := List.mem_iff_getElem?.1 hy
  obtain ⟨b, o, e1, e2, e3⟩ := h4 (List.length_pos_of_mem hy)
  obtain ⟨us, k1, k2, k3⟩ := e3 i y hi
  exact ih k3
 | ptr a ih =>
  intro x vs h
  rcases h with h | ⟨z, b, o, us, h1, h2, h3, h4, h5, h6⟩
  ·intro y hy; rw [h.1] at hy; cases hy
  ·intro y hy; rw [h1] at hy; injection hy with hy; subst hy; exact ih h6
end

abbrev Own := Nat → Option (Nat × Pth)
abbrev Gh := Nat → Pth → Option Hd
abbrev Rows := Nat → Option (List Value)
def rows (w : World) : Rows := fun b => match w.heap[b]? with
 | some (.cells c _ (0, 0)) => some c.toList
 | _ => none
def seg (row : List Value) (o n : Nat) : List Value := (row.drop o).take n
def HVal (hd : Hd) (v : Value) : Prop :=
 if hd.isPtr then (hd.n = 0 ∧ v = .pointer none) ∨ ∃ b o, hd.blk = some (b, o) ∧ hd.n = 1 ∧ v = .pointer (some ⟨b, o, none⟩)
 else ∃ ad c, v = .slice ad hd.n c ∧ hd.n ≤ c ∧ c ≤ hd.c ∧ (0 < c → ∃ b o, hd.blk = some (b, o) ∧ ad = some ⟨b, o, none⟩)
structure Body (M : Rows) (own : Own) (r : Nat) (p : Pth) (hd : Hd) (f : Nat → List Value → Prop) : Prop where
 le : hd.n ≤ hd.c
 lim : hd.n ≤ roomB
 elems : 0 < hd.c → ∃ b o row, hd.blk = some (b, o) ∧ own b = some (r, p) ∧ M b = some row ∧ o + hd.c * hd.S.size ≤ row.length ∧ ∀ j, j < hd.n → f j (seg row (o + j * hd.S.size) hd.S.size)
def ORV {α : Type} (f : α → List St → List Value → Prop) (st : List St) : (n : Nat) → (k : Nat) → DenV α n → List Value → Prop
 | 0, _, _, vs => vs = []
 | n + 1, k, x, vs => ∃ us ws, vs = us ++ ws ∧ f x.1 (st ++ [.a k]) us ∧ ORV f st n (k + 1) x.2 ws
def OR (w : World) (Z : Nat → Prop) (M : Rows) (own : Own) (r : Nat) (g : Pth → Option Hd) : (S : Sh) → Nat → Den S → Pth → Nat → List St → List Value → Prop
 | .int k, _, x, _, _, _, vs => vs = [.int k x] ∧ k.has x
 | .bool, _, x, _, _, _, vs => vs = [.bool x]
 | .str, _, x, _, _, _, vs => vs = [.string x] ∧ ByteArray.size x ≤ roomB
 | .unit, _, _, _, _, _, vs => vs = []
 | .pair a b, m, x, p, i, st, vs => ∃ us ws, vs = us ++ ws ∧ OR w Z M own r g a m x.1 p i (st ++ [.l]) us ∧ OR w Z M own r g b m x.2 p i (st ++ [.r]) ws
 | .arr n a, m, x, p, i, st, vs => ORV (fun y st us => OR w Z M own r g a m y p i st us) st n 0 x vs
 | .sl by_ a, 0, x, _, _, _, vs => FR w Z (.sl by_ a) x vs
 | .sl by_ a, m + 1, x, p, i, st, vs => ∃ v hd, vs = [v] ∧ g (p ++ [(i, st)]) = some hd ∧ hd.S = a ∧ hd.isPtr = false ∧ hd.n = List.length x ∧ HVal hd v ∧ room by_ (List.length x) ∧
   Body M own r (p ++ [(i, st)]) hd fun j us => ∃ y : Den a, lat (α := Den a) x j = some y ∧ OR w Z M own r g a m y (p ++ [(i, st)]) j [] us
 | .ptr a, 0, x, _, _, _, vs => FR w Z (.ptr a) x vs
 | .ptr a, m + 1, x, p, i, st, vs => ∃ v hd, vs = [v] ∧ g (p ++ [(i, st)]) = some hd ∧ hd.S = a ∧ hd.isPtr = true ∧ hd.n = (Option.toList x).length ∧ HVal hd v ∧
   Body M own r (p ++ [(i, st)]) hd fun j us => ∃ y : Den a, lat (α := Den a) (Option.toList x) j = some y ∧ OR w Z M own r g a m y (p ++ [(i, st)]) j [] us

def okV1 : Value → Prop
 | .int k n => k.has n
 | .string s => s.size ≤ roomB
 | _ => True
def okV : Value → Prop
 | .int k n => k.has n
 | .string s => s.size ≤ roomB
 | .iface _ (.agg cs) => ∀ v ∈ cs.toList, okV1 v
 | _ => True
theorem fnV_ex (f : Nat) (vs : Array Value) : ∃ v : Value, (Nat.blt f bndB = true → v = .func (.func f) #[] vs) ∧ (Nat.blt f bndB = false → v = .func (.func (unB f)) vs #[]) := by
 cases h : Nat.blt f bndB with
 | true => exact ⟨.func (.func f) #[] vs, ⟨fun _ => rfl, (fun h => (by cases h))⟩⟩
 | false => exact ⟨.func (.func (unB f)) vs #[], ⟨(fun h => (by cases h)), fun _ => rfl⟩⟩
noncomputable def fnV (f : Nat) (vs : Array Value) : Value := Classical.choose (fnV_ex f vs)
theorem fnV_lt {f : Nat} (h : Nat.blt f bndB = true) (vs : Array Value) : fnV f vs = .func (.func f) #[] vs := (Classical.choose_spec (fnV_ex f vs)).1 h
theorem fnV_ge {f : Nat} (h : Nat.blt f bndB = false) (vs : Array Value) : fnV f vs = .func (.func (unB f)) vs #[] := (Classical.choose_spec (fnV_ex f vs)).2 h
theorem fnV_is (f : Nat) (vs : Array Value) : ∃ g a b, fnV f vs = .func (.func g) a b := by
 cases h : Nat.blt f bndB with
 | true => exact ⟨_, _, _, fnV_lt h vs⟩
 | false => exact ⟨_, _, _, fnV_ge h vs⟩
theorem fnV_cells (f : Nat) (vs : Array Value) : (fnV f vs).cells = #[fnV f vs] := by
 obtain ⟨g, a, b, h⟩ := fnV_is f vs
 rw [h]
 rfl
theorem blt_bnd (f n : Nat) : Nat.blt (f + n) n = false := by
 cases hq : Nat.blt (f + n) n with
 | false => rfl
 | true => have := Nat.le_of_ble_eq_true hq; omega
theorem fnV_bnd (f : Nat) (vs : Array Value) : fnV (f + bndB) vs = .func (.func f) vs #[] := by
 have h1 := fnV_ge (blt_bnd f bndB) vs
 rw [unB_eq, Nat.add_sub_cancel] at h1
 exact h1
inductive CR (w : World) (Z : Nat → Prop) : AV → Value → Prop
 | val (v : Value) (h : okV v) : CR w Z (.val v) v
 | tva (S : Sh) (x : Den S) (vs : Array Value) (hS : S.isAgg = true) (h : FR w Z S x vs.toList) : CR w Z (.tv S x) (.agg vs)
 | tv1 (S : Sh) (x : Den S) (v : Value) (hS : S.isAgg = false) (h : FR w Z S x [v]) : CR w Z (.tv S x) v
 | rtp (S : Sh) (x : Den S) (b o : Nat) (us : List Value) (hz : Z b) (hr : Run w b o us) (h : FR w Z S x us) : CR w Z (.rtp S x) (.pointer (some ⟨b, o, none⟩))
 | rop (cs : List AV) (off b o : Nat) (u : Nat → Value) (hz : Z b) (hcell : ∀ j a, cs[j]? = some a → qfv w b (o + j) (u j)) (hrel : ∀ j a, cs[j]? = some a → CR w Z a (u j)) :
   CR w Z (.rop cs off) (.pointer (some ⟨b, o + off, none⟩))
 | agg (cs : List AV) (vs : Array Value) (hl : cs.length = vs.size) (hrel : ∀ (j : Nat) a v, cs[j]? = some a → vs[j]? = some v → CR w Z a v) : CR w Z (.agg cs) (.agg vs)
 | tup (cs : List AV) (vs : Array Value) (hl : cs.length = vs.size) (hrel : ∀ (j : Nat) a v, cs[j]? = some a → vs[j]? = some v → CR w Z a v) : CR w Z (.tup cs) (.tuple vs)
 | fn (f : FuncId) (cs : List AV) (vs : Array Value) (hl : cs.length = vs.size) (hrel : ∀ (j : Nat) a v, cs[j]? = some a → vs[j]? = some v → CR w Z a v) : CR w Z (.fn f cs) (fnV f vs)
structure Gst where
 β : Nat → Option Nat
 G : Gh
def SVal (hd : Hd) (w : Option (Nat × Nat)) (v : Value) : Prop :=
 hd.isPtr = false ∧ ∃ ad c, v = .slice ad (wlen hd.n w) c ∧ wlen hd.n w ≤ c ∧ (wlo w + wlen hd.n w ≤ hd.n ∧ hd.n ≤ wlo w + c) ∧ wlo w + c ≤ hd.c ∧ (0 < c → ∃ b o, hd.blk = some (b, o) ∧ ad = some ⟨b, o + wlo w * hd.S.size, none⟩)
inductive VR (w : World) (Z : Nat → Prop) (γ : Gst) : AV → Value → Prop
 | bad (v : Value) : VR w Z γ .bad v
 | cr {a : AV} {v : Value} (h : CR w Z a v) : VR w Z γ a v
 | ref (r off b : Nat) (h : γ.β r = some b) : VR w Z γ (.ref r off) (.pointer (some ⟨b, off, none⟩))
 | tref (r s : Nat) (p : Pth) (i : Nat) (st : List St) (hd : Hd) (b o so : Nat) (T : Sh) (h : γ.G s p = some hd) (hi : i < hd.n) (hb : hd.blk = some (b, o)) (hs : sAt hd.S st = some (T, so)) :
   VR w Z γ (.tref r s p i st) (.pointer (some ⟨b, o + i * hd.S.size + so, none⟩))
 | osl (r s : Nat) (p : Pth) (win : Option (Nat × Nat)) (v : Value) (hd : Hd) (h : γ.G s p = some hd) (hv : SVal hd win v) : VR w Z γ (.osl r s p win) v
 | optr (r s : Nat) (p : Pth) (v : Value) (hd : Hd) (h : γ.G s p = some hd) (hp : hd.isPtr = true) (hv : HVal hd v) : VR w Z γ (.optr r s p) v
 | csl (r off n b c : Nat) (h : γ.β r = some b) (hc : n ≤ c) (hr : n ≤ roomB) : VR w Z γ (.csl r off n) (.slice (some ⟨b, off, none⟩) n c)
 | yld (r l : Nat) (h : γ.β r = some l) : VR w Z γ (.yld r) (.func (.yield l) #[] #[])
 | mp (r b : Nat) (h : γ.β r = some b) : VR w Z γ (.mp r) (.map (some b))
 | refx (r off n i b : Nat) (h : γ.β r = some b) (hi : i < n) : VR w Z γ (.refx r off n i) (.pointer (some ⟨b, off + i, none⟩))
 | agg (cs : List AV) (vs : Array Value) (hl : cs.length = vs.size) (hrel : ∀ (j : Nat) a v, cs[j]? = some a → vs[j]? = some v → VR w Z γ a v) : VR w Z γ (.agg cs) (.agg vs)
 | tup (cs : List AV) (vs : Array Value) (hl : cs.length = vs.size) (hrel : ∀ (j : Nat) a v, cs[j]? = some a → vs[j]? = some v → VR w Z γ a v) : VR w Z γ (.tup cs) (.tuple vs)
 | fn (f : FuncId) (cs : List AV) (vs : Array Value) (hl : cs.length = vs.size) (hrel : ∀ (j : Nat) a v, cs[j]? = some a → vs[j]? = some v → VR w Z γ a v) : VR w Z γ (.fn f cs) (fnV f vs)
structure Gst.Le (γ γ' : Gst) : Prop where
 β : ∀ r b, γ.β r = some b → γ'.β r = some b
 G : ∀ s p hd, γ.G s p = some hd → γ'.G s p = some hd
theorem Gst.Le.refl (γ : Gst) : γ.Le γ := ⟨fun _ _ h => h, fun _ _ _ h => h⟩
theorem Gst.Le.trans {a b c : Gst} (h : a.Le b) (k : b.Le c) : a.Le c := ⟨fun r x hx => k.β r x (h.β r x hx), fun s p x hx => k.G s p x (h.G s p x hx)⟩
section
variable {w w' : World} {Z Z' : Nat → Prop} {γ γ' : Gst} {a : AV} {v : Value} {cs ds : List AV} {vs us : List Value}
theorem CR.mono (hs : Stay w Z w' Z') (h : CR w Z a v) : CR w' Z' a v := by
 induction h with
 | val v h => exact .val v h
 | tva S x vs hS h => exact .tva S x vs hS (h.mono hs)
 | tv1 S x v hS h => exact .tv1 S x v hS (h.mono hs)
 | rtp S x b o us hz hr h => exact .rtp S x b o us (hs.sub _ hz) (hr.stay (hs.heap _ hz)) (h.mono hs)
 | rop cs off b o u hz hcell hrel ih => exact .rop cs off b o u (hs.sub _ hz) (fun j a ha => (hcell j a ha).stay (hs.heap _ hz)) ih
 | agg cs vs hl hrel ih => exact .agg cs vs hl ih
 | tup cs vs hl hrel ih => exact .tup cs vs hl ih
 | fn f cs vs hl hrel ih => exact .fn f cs vs hl ih
theorem VR.mono (hs : Stay w Z w' Z') (hγ : γ.Le γ') (h : VR w Z γ a v) : VR w' Z' γ' a v := by
 induction h with
 | bad v => exact .bad v
 | cr h => exact .cr (h.mono hs)
 | ref r off b h => exact .ref r off b (hγ.β _ _ h)
 | tref r s p i st hd b o so T h hi hb hst => exact .tref r s p i st hd b o so T (hγ.G _ _ _ h) hi hb hst
 | osl r s p win v hd h hv => exact .osl r s p win v hd (hγ.G _ _ _ h) hv
 | optr r s p v hd h hp hv => exact .optr r s p v hd (hγ.G _ _ _ h) hp hv
 | csl r off n b c h hc hr => exact .csl r off n b c (hγ.β _ _ h) hc hr
 | yld r l h => exact .yld r l (hγ.β _ _ h)
 | mp r b h => exact .mp r b (hγ.β _ _ h)
 | refx r off n i b h hi => exact .refx r off n i b (hγ.β _ _ h) hi
 | agg cs vs hl hrel ih => exact .agg cs vs hl ih
 | tup cs vs hl hrel ih => exact .tup cs vs hl ih
 | fn f cs vs hl hrel ih => exact .fn f cs vs hl ih
theorem closedAll_at {l : List AV} (h : qcm l = true) : ∀ (j : Nat) (a : AV), l[j]? = some a → a.closed = true := by
 induction l with
 | nil => intro j a ha; simp at ha
 | cons x l ih =>
  simp only [qcm, Bool.and_eq_true] at h
  intro j a ha
  cases j with
  | zero => simp at ha; subst ha; exact h.1
  | succ j => exact ih h.2 j a (by simpa using ha)
theorem VR.toCR (h : VR w Z γ a v) : a.closed = true → CR w Z a v := by
 induction h with
 | bad v => intro h; simp [AV.closed] at h
 | cr h => exact fun _ => h
 | ref r off b h => intro h; simp [AV.closed] at h
 | tref => intro h; simp [AV.closed] at h
 | osl => intro h; simp [AV.closed] at h
 | optr => intro h; simp [AV.closed] at h
 | csl => intro h; simp [AV.closed] at h
 | yld => intro h; simp [AV.closed] at h
 | mp => intro h; simp [AV.closed] at h
 | refx => intro h; simp [AV.closed] at h
 | agg cs vs hl hrel ih => exact fun h => .agg cs vs hl fun j a v ha hv => ih j a v ha hv (closedAll_at (by simpa [AV.closed] using h) j a ha)
 | tup cs vs hl hrel ih => exact fun h => .tup cs vs hl fun j a v ha hv => ih j a v ha hv (closedAll_at (by simpa [AV.closed] using h) j a ha)
 | fn f cs vs hl hrel ih => exact fun h => .fn f cs vs hl fun j a v ha hv => ih j a v ha hv (closedAll_at (by simpa [AV.closed] using h) j a ha)

def VRs (w : World) (Z : Nat → Prop) (γ : Gst) (cs : List AV) (vs : List Value) : Prop :=
 cs.length = vs.length ∧ ∀ (j : Nat) a v, cs[j]? = some a → vs[j]? = some v → VR w Z γ a v
theorem VRs.nil : VRs w Z γ [] [] := ⟨rfl, fun j a v h => by simp at h⟩
theorem VRs.cons (h : VR w Z γ a v) (hs : VRs w Z γ cs vs) : VRs w Z γ (a :: cs) (v :: vs) :=
 ⟨by simp [hs.1], fun j x y hx hy => by
  cases j with
  | zero => simp at hx hy; subst hx; subst hy; exact h
  | succ j => exact hs.2 j x y (by simpa using hx) (by simpa using hy)⟩
theorem VRs.head (h : VRs w Z γ (a :: cs) (v :: vs)) : VR w Z γ a v := h.2 0 a v rfl rfl
theorem VRs.tail (h : VRs w Z γ (a :: cs) (v :: vs)) : VRs w Z γ cs vs := ⟨by simpa using h.1, fun j x y hx hy => h.2 (j + 1) x y (by simpa using hx) (by simpa using hy)⟩
theorem VRs.append (h : VRs w Z γ cs vs) (k : VRs w Z γ ds us) : VRs w Z γ (cs ++ ds) (vs ++ us) := by
 refine ⟨by simp [h.1, k.1], fun j x y hx hy => ?_⟩
 rcases Nat.lt_or_ge j cs.length with hj | hj
 ·rw [List.getElem?_append_left hj] at hx
  rw [List.getElem?_append_left (by rw [← h.1]; exact hj)] at hy
  exact h.2 j x y hx hy
 ·rw [List.getElem?_append_right hj] at hx
  rw [List.getElem?_append_right (by rw [← h.1]; exact hj), ← h.1] at hy
  exact k.2 _ x y hx hy
theorem VRs.mono (hs : Stay w Z w' Z') (hγ : γ.Le γ') (h : VRs w Z γ cs vs) : VRs w' Z' γ' cs vs := ⟨h.1, fun j x y hx hy => (h.2 j x y hx hy).mono hs hγ⟩
theorem VRs.get (h : VRs w Z γ cs vs) {j : Nat} (hj : cs[j]? = some a) : ∃ v, vs[j]? = some v ∧ VR w Z γ a v := by
 have hl := (List.getElem?_eq_some_iff.1 hj).1
 rw [h.1] at hl
 exact ⟨vs[j], List.getElem?_eq_getElem hl, h.2 j _ _ hj (List.getElem?_eq_getElem hl)⟩
theorem VRs.set (h : VRs w Z γ cs vs) (j : Nat) (ha : VR w Z γ a v) : VRs w Z γ (cs.set j a) (vs.set j v) := by
 refine ⟨by simp [h.1], fun i x y hx hy => ?_⟩
 rw [List.getElem?_set] at hx hy
 by_cases hij : j = i
 ·subst hij
  simp only [if_true] at hx hy
  split at hx
  ·split at hy
   ·simp at hx hy; subst hx; subst hy; exact ha
   ·simp at hy
  ·simp at hx
 ·simp only [hij, if_false] at hx hy
  exact h.2 i x y hx hy
theorem VRs.drop (h : VRs w Z γ cs vs) (n : Nat) : VRs w Z γ (cs.drop n) (vs.drop n) :=
 ⟨by simp [h.1], fun j x y hx hy => h.2 (n + j) x y (by simpa [List.getElem?_drop] using hx) (by simpa [List.getElem?_drop] using hy)⟩
theorem VRs.take (h : VRs w Z γ cs vs) (n : Nat) : VRs w Z γ (cs.take n) (vs.take n) := by
 refine ⟨by simp [h.1], fun j x y hx hy => ?_⟩
 rw [List.getElem?_take] at hx hy
 split at hx
 ·rename_i hj
  rw [if_pos hj] at hy
  exact h.2 j x y hx hy
 ·simp at hx
theorem has_of_okI {k : IntKind} {n : Int} (h : okI k n = true) : k.has n := by
 simp only [okI, Bool.and_eq_true, decide_eq_true_eq] at h
 exact h
theorem VRs.cvals : ∀ l : List Value, VRs w Z γ (cvals l) l
 | [] => .nil
 | v :: l => by
  have ih := VRs.cvals l
  cases v with
  | int k n =>
   simp only [BE.cvals]
   split
   ·rename_i h
    exact .cons (.cr (.val _ (has_of_okI h))) ih
   ·exact .cons (.bad _) ih
  | string s =>
   simp only [BE.cvals]
   split
   ·rename_i h
    have h' : s.size ≤ roomB := of_decide_eq_true h
    exact .cons (.cr (.val _ h')) ih
   ·exact .cons (.bad _) ih
  | iface t v => exact .cons (.bad _) ih
  | _ => exact .cons (.cr (.val _ trivial)) ih
theorem cval_rel (v : Value) : VR w Z γ (cval v) v := by
 cases v with
 | int k n =>
  simp only [cval]
  split
  ·rename_i h
   exact .cr (.val _ (has_of_okI h))
  ·exact .bad _
 | string s =>
  simp only [cval]
  split
  ·rename_i h
   have h' : s.size ≤ roomB := of_decide_eq_true h
   exact .cr (.val _ h')
  ·exact .bad _
 | agg cs => exact .agg _ _ (by have := (VRs.cvals (w := w) (Z := Z) (γ := γ) cs.toList).1; simpa using this) (fun j x y hx hy => (VRs.cvals cs.toList).2 j x y hx (by simpa using hy))
 | iface t v => exact .bad _
 | _ => exact .cr (.val _ trivial)
theorem FR.cellsV {α : Type} {f : α → List AV} {g : α → List Value → Prop} (h : ∀ x vs, g x vs → VRs w Z γ (f x) vs) : ∀ {n : Nat} {x : DenV α n} {vs : List Value}, FRV g n x vs → VRs w Z γ (BE.cellsV f n x) vs
 | 0, _, _, hv => by rw [show _ = [] from hv]; exact .nil
 | _ + 1, _, _, ⟨us, ws, h1, h2, h3⟩ => by rw [h1]; exact (h _ _ h2).append (FR.cellsV h h3)
theorem FR.cells : ∀ {S : Sh} {x : Den S} {vs : List Value}, FR w Z S x vs → VRs w Z γ (qeu S x) vs := by
 intro S
 induction S with
 | int k => intro x vs h; rw [h.1]; exact .cons (.cr (.val _ h.2)) .nil
 | bool => intro x vs h; rw [show vs = _ from h]; exact .cons (.cr (.val _ trivial)) .nil
 | str => intro x vs h; rw [h.1]; exact .cons (.cr (.val _ h.2)) .nil
 | unit => intro x vs h; rw [show vs = _ from h]; exact .nil
 | pair a b iha ihb => intro x vs ⟨us, ws, h1, h2, h3⟩; rw [h1]; exact (iha h2).append (ihb h3)
 | arr n a ih => intro x vs h; exact FR.cellsV (g := FR w Z a) (fun _ _ h => ih h) h
 | sl by_ a ih => intro x vs h; obtain ⟨ad, c, h1, h2⟩ := h; rw [h1]; exact .cons (.cr (.tv1 _ _ _ rfl ⟨ad, c, rfl, h2⟩)) .nil
 | ptr a ih =>
  intro x vs h
  rcases h with h | ⟨z, b, o, us, h1, h2, h3⟩
  ·rw [h.2]; exact .cons (.cr (.tv1 _ _ _ rfl (.inl ⟨h.1, rfl⟩))) .nil
  ·rw [h2]; exact .cons (.cr (.tv1 _ _ _ rfl (.inr ⟨z, b, o, us, h1, rfl, h3⟩))) .nil
theorem FR.avOf {S : Sh} {x : Den S} {vs : List Value} (h : FR w Z S x vs) : if S.isAgg then CR w Z (avOf S x) (.agg vs.toArray) else ∃ v, vs = [v] ∧ CR w Z (avOf S x) v := by
 cases S with
 | int k => exact ⟨_, h.1, .val _ h.2⟩
 | bool => exact ⟨_, h, .val _ trivial⟩
 | str => exact ⟨_, h.1, .val _ h.2⟩
 | unit => exact .tva _ _ _ rfl (by simpa using h)
 | pair a b => exact .tva _ _ _ rfl (by simpa using h)
 | arr n a => exact .tva _ _ _ rfl (by simpa using h)
 | sl by_ a => obtain ⟨ad, c, h1, h2⟩ := h; exact ⟨_, h1, .tv1 _ _ _ rfl ⟨ad, c, rfl, h2⟩⟩
 | ptr a =>
  rcases h with h | ⟨z, b, o, us, h1, h2, h3⟩
  ·exact ⟨_, h.2, .tv1 _ _ _ rfl (.inl ⟨h.1, rfl⟩)⟩
  ·exact ⟨_, h2, .tv1 _ _ _ rfl (.inr ⟨z, b, o, us, h1, rfl, h3⟩)⟩
theorem VR.cells (h : VR w Z γ a v) (hb : ∀ u, a = .val u → u.cells = #[u]) (hbad : a ≠ .bad) : VRs w Z γ a.cells v.cells.toList := by
 cases h with
 | bad => exact absurd rfl hbad
 | cr h =>
  cases h with
  | val _ h =>
   rw [hb v rfl]
   exact VRs.cons (.cr (.val v h)) .nil
  | tva S x vs hS h => exact h.cells
  | tv1 S x v hS h =>
   have hl := h.len
   have hc : v.cells = #[v] := by
    cases S with
    | int k => have := h.1; injection this with this; rw [this]; rfl
    | bool => have : [v] = _ := h; injection this with this; rw [this]; rfl
    | str => have := h.1; injection this with this; rw [this]; rfl
    | unit => cases hS
    | pair => cases hS
    | arr => cases hS
    | sl by_ a => obtain ⟨ad, c, h1, _⟩ := h; injection h1 with h1; rw [h1]; rfl
    | ptr a =>
     rcases h with h | ⟨z, b, o, us, h1, h2, h3⟩
     ·have := h.2; injection this with this; rw [this]; rfl
     ·injection h2 with h2; rw [h2]; rfl
   rw [hc]
   exact h.cells
  | rtp S x b o us hz hr h => exact VRs.cons (.cr (.rtp S x b o us hz hr h)) .nil
  | rop cs off b o u h1 h2 h3 => exact VRs.cons (.cr (.rop cs off b o u h1 h2 h3)) .nil
  | agg cs vs hl hrel => exact ⟨by simpa [AV.cells, Value.cells] using hl, fun j x y hx hy => .cr (hrel j x y hx (by simpa [Value.cells] using hy))⟩
  | tup cs vs hl hrel => exact VRs.cons (.cr (.tup cs vs hl hrel)) .nil
  | fn f cs vs hl hrel => rw [fnV_cells]; exact VRs.cons (.cr (.fn f cs vs hl hrel)) .nil
 | ref r off b h => exact VRs.cons (.ref r off b h) .nil
 | csl r off n b c h hc hr => exact VRs.cons (.csl r off n b c h hc hr) .nil
 | yld r l h => exact VRs.cons (.yld r l h) .nil
 | mp r b h => exact VRs.cons (.mp r b h) .nil
 | refx r off n i b h hi => exact VRs.cons (.refx r off n i b h hi) .nil
 | tref r s p i st hd b o so T h hi hbk hst => exact VRs.cons (.tref r s p i st hd b o so T h hi hbk hst) .nil
 | osl r s p win v hd h hv =>
  obtain ⟨e, ad, c, rfl, h2⟩ := hv
  exact VRs.cons (.osl r s p win _ hd h ⟨e, ad, c, rfl, h2⟩) .nil
 | optr r s p v hd h hp hv =>
  have hc : v.cells = #[v] := by
   unfold HVal at hv
   rw [hp] at hv
   rcases hv with ⟨_, rfl⟩ | ⟨b, o, _, _, rfl⟩ <;> rfl
  rw [hc]
  exact VRs.cons (.optr r s p v hd h hp hv) .nil
 | agg cs vs hl hrel => exact ⟨by simpa [AV.cells, Value.cells] using hl, fun j x y hx hy => hrel j x y hx (by simpa [Value.cells] using hy)⟩
 | tup cs vs hl hrel => exact VRs.cons (.tup cs vs hl hrel) .nil
 | fn f cs vs hl hrel => rw [fnV_cells]; exact VRs.cons (.fn f cs vs hl hrel) .nil
end
end Go.BE
namespace Go.BE
def Under (p : Pth) (i : Nat) (st : List St) (q : Pth) : Prop := ∃ s' rest, q = p ++ (i, st ++ s') :: rest
theorem Under.self (p : Pth) (i : Nat) (st : List St) : Under p i st (p ++ [(i, st)]) := ⟨[], [], by simp⟩
theorem Under.sub {p : Pth} {i : Nat} {st s : List St} {q : Pth} (h : Under p i (st ++ s) q) : Under p i st q := by
 obtain ⟨s', rest, rfl⟩ := h
 exact ⟨s ++ s', rest, by simp⟩
theorem Under.below {p : Pth} {i j : Nat} {st : List St} {q : Pth} (h : Under (p ++ [(i, st)]) j [] q) : Under p i st q := by
 obtain ⟨s', rest, rfl⟩ := h
 exact ⟨[], (j, s') :: rest, by simp⟩
theorem Under.pre {p : Pth} {i : Nat} {st : List St} {q : Pth} (pre : Pth) (h : Under p i st q) : Under (pre ++ p) i st (pre ++ q) := by
 obtain ⟨s', rest, rfl⟩ := h
 exact ⟨s', rest, by simp⟩
theorem Under.elem {p : Pth} {i j : Nat} {st st' : List St} {q : Pth} (h : Under p i st q) (k : Under p j st' q) : i = j := by
 obtain ⟨s, rest, rfl⟩ := h
 obtain ⟨s', rest', e⟩ := k
 have := List.append_cancel_left e
 simp only [List.cons.injEq, Prod.mk.injEq] at this
 exact this.1.1
theorem Under.comp {p : Pth} {i : Nat} {st s s' : List St} {a b : St} {q : Pth} (hab : a ≠ b) (h : Under p i (st ++ a :: s) q) (k : Under p i (st ++ b :: s') q) : False := by
 obtain ⟨s1, rest, rfl⟩ := h
 obtain ⟨s2, rest', e⟩ := k
 have := List.append_cancel_left e
 simp only [List.cons.injEq, Prod.mk.injEq, List.append_assoc, List.cons_append] at this
 have h2 := List.append_cancel_left this.1.2
 injection h2 with h2
 exact hab h2
section
variable {w w' : World} {Z Z' : Nat → Prop} {M M' : Rows} {own own' : Own} {r r' : Nat} {g g' : Pth → Option Hd}
theorem ORV.imp {α : Type} {f f' : α → List St → List Value → Prop} {st : List St} (h : ∀ x s vs, f x (st ++ s) vs → f' x (st ++ s) vs) : ∀ {n k : Nat} {x : DenV α n} {vs : List Value}, ORV f st n k x vs → ORV f' st n k x vs
 | 0, _, _, _, hv => hv
 | _ + 1, k, _, _, ⟨us, ws, h1, h2, h3⟩ => ⟨us, ws, h1, h _ _ _ h2, ORV.imp h h3⟩
theorem ORV.len {α : Type} {f : α → List St → List Value → Prop} {st : List St} {k : Nat} (h : ∀ x s vs, f x s vs → vs.length = k) : ∀ {n j : Nat} {x : DenV α n} {vs : List Value}, ORV f st n j x vs → vs.length = n * k
 | 0, _, _, _, hv => by rw [show _ = [] from hv]; simp
 | n + 1, _, _, _, ⟨us, ws, h1, h2, h3⟩ => by rw [h1, List.length_append, h _ _ _ h2, ORV.len h h3, Nat.succ_mul, Nat.add_comm]
theorem OR.len : ∀ {S : Sh} {m : Nat} {x : Den S} {p : Pth} {i : Nat} {st : List St} {vs : List Value}, OR w Z M own r g S m x p i st vs → vs.length = S.size := by
 intro S
 induction S with
 | int k => intro m x p i st vs h; rw [h.1]; rfl
 | bool => intro m x p i st vs h; rw [show vs = _ from h]; rfl
 | str => intro m x p i st vs h; rw [h.1]; rfl
 | unit => intro m x p i st vs h; rw [show vs = _ from h]; rfl
 | pair a b iha ihb =>
  intro m x p i st vs ⟨us, ws, h1, h2, h3⟩
  rw [h1, List.length_append, iha h2, ihb h3]; rfl
 | arr n a ih => intro m x p i st vs h; exact ORV.len (f := fun y st us => OR w Z M own r g a m y p i st us) (fun _ _ _ h => ih h) h
 | sl by_ a ih =>
  intro m x p i st vs h
  cases m with
  | zero => exact FR.len (S := .sl by_ a) h
  | succ m => obtain ⟨v, hd, h1, _⟩ := h; rw [h1]; rfl
 | ptr a ih =>
  intro m x p i st vs h
  cases m with
  | zero => exact FR.len (S := .ptr a) h
  | succ m => obtain ⟨v, hd, h1, _⟩ := h; rw [h1]; rfl
theorem VAll.of_ORV {α : Type} {f : α → List St → List Value → Prop} {st : List St} {q : α → Prop} (h : ∀ x s vs, f x s vs → q x) : ∀ {n k : Nat} {x : DenV α n} {vs : List Value}, ORV f st n k x vs → VAll q n x
 | 0, _, _, _, _ => trivial
 | _ + 1, _, _, _, ⟨_, _, _, h2, h3⟩ => ⟨h _ _ _ h2, VAll.of_ORV h h3⟩
theorem OR.ok : ∀ {S : Sh} {m : Nat} {x : Den S} {p : Pth} {i : Nat} {st : List St} {vs : List Value}, OR w Z M own r g S m x p i st vs → okD S x := by
 intro S
 induction S with
 | int k => intro m x p i st vs h; exact h.2
 | bool => intros; trivial
 | str => intro m x p i st vs h; exact h.2
 | unit => intros; trivial
 | pair a b iha ihb => intro m x p i st vs ⟨us, ws, h1, h2, h3⟩; exact ⟨iha h2, ihb h3⟩
 | arr n a ih => intro m x p i st vs h; exact VAll.of_ORV (f := fun y st us => OR w Z M own r g a m y p i st us) (fun _ _ _ h => ih h) h
 | sl by_ a ih =>
  intro m x p i st vs h
  cases m with
  | zero => exact FR.ok (S := .sl by_ a) h
  | succ m =>
   obtain ⟨v, hd, h1, h2, rfl, h4, h5, h6, h7, hle, hlim, hel⟩ := h
   refine ⟨h7, fun y hy => ?_⟩
   obtain ⟨j, hj⟩ := List.mem_iff_getElem?.1 hy
   have hlt : j < hd.n := by rw [h5]; exact (List.getElem?_eq_some_iff.1 hj).1
   obtain ⟨b, o, row, e1, e2, e3, e4, e5⟩ := hel (by omega)
   obtain ⟨z, hz, hor⟩ := e5 j hlt
   have : z = y := Option.some.inj (hz.symm.trans hj)
   subst this
   exact ih hor
 | ptr a ih =>
  intro m x p i st vs h
  cases m with
  | zero => exact FR.ok (S := .ptr a) h
  | succ m =>
   obtain ⟨v, hd, h1, h2, rfl, h4, h5, h6, hle, hlim, hel⟩ := h
   intro y hy
   subst hy
   simp only [Option.toList_some, List.length_cons, List.length_nil] at h5
   obtain ⟨b, o, row, e1, e2, e3, e4, e5⟩ := hel (by omega)
   obtain ⟨z, hz, hor⟩ := e5 0 (by omega)
   have : z = y := (Option.some.inj hz).symm
   subst this
   exact ih hor
theorem OR.move (hs : Stay w Z w' Z') (pre : Pth) : ∀ {S : Sh} {m : Nat} {x : Den S} {p : Pth} {i : Nat} {st : List St} {vs : List Value},
  (∀ q hd, Under p i st q → g q = some hd → g' (pre ++ q) = some hd) →
  (∀ b q row, Under p i st q → own b = some (r, q) → M b = some row → own' b = some (r', pre ++ q) ∧ M' b = some row) →
  OR w Z M own r g S m x p i st vs → OR w' Z' M' own' r' g' S m x (pre ++ p) i st vs := by
 intro S
 induction S with
 | int k => intro m x p i st vs _ _ h; exact h
 | bool => intro m x p i st vs _ _ h; exact h
 | str => intro m x p i st vs _ _ h; exact h
 | unit => intro m x p i st vs _ _ h; exact h
 | pair a b iha ihb =>
  intro m x p i st vs hg hb ⟨us, ws, h1, h2, h3⟩
  exact ⟨us, ws, h1, iha (fun q hd hu => hg q hd hu.sub) (fun b q row hu => hb b q row hu.sub) h2, ihb (fun q hd hu => hg q hd hu.sub) (fun b q row hu => hb b q row hu.sub) h3⟩
 | arr n a ih =>
  intro m x p i st vs hg hb h
  exact ORV.imp (f := fun y st us => OR w Z M own r g a m y p i st us) (f' := fun y st us => OR w' Z' M' own' r' g' a m y (pre ++ p) i st us) (fun y s us h => ih (fun q hd hu => hg q hd hu.sub) (fun b q row hu => hb b q row hu.sub) h) h
 | sl by_ a ih =>
  intro m x p i st vs hg hb h
  cases m with
  | zero => exact FR.mono (S := .sl by_ a) hs h
  | succ m =>
   obtain ⟨v, hd, h1, h2, h3, h4, h5, h6, h7, hle, hlim, hel⟩ := h
   refine ⟨v, hd, h1, by rw [List.append_assoc]; exact hg _ _ (Under.self p i st) h2, h3, h4, h5, h6, h7, hle, hlim, fun hc => ?_⟩
   obtain ⟨b, o, row, e1, e2, e3, e4, e5⟩ := hel hc
   obtain ⟨k1, k2⟩ := hb b _ row (Under.self p i st) e2 e3
   refine ⟨b, o, row, e1, by rw [List.append_assoc]; exact k1, k2, e4, fun j hj => ?_⟩
   obtain ⟨y, hy, hor⟩ := e5 j hj
   refine ⟨y, hy, ?_⟩
   rw [List.append_assoc]
   exact ih (fun q hd hu => hg q hd hu.below) (fun b q row hu => hb b q row hu.below) hor
 | ptr a ih =>
  intro m x p i st vs hg hb h
  cases m with
  | zero => exact FR.mono (S := .ptr a) hs h
  | succ m =>
   obtain ⟨v, hd, h1, h2, h3, h4, h5, h6, hle, hlim, hel⟩ := h
   refine ⟨v, hd, h1, by rw [List.append_assoc]; exact hg _ _ (Under.self p i st) h2, h3, h4, h5, h6, hle, hlim, fun hc => ?_⟩
   obtain ⟨b, o, row, e1, e2, e3, e4, e5⟩ := hel hc
   obtain ⟨k1, k2⟩ := hb b _ row (Under.self p i st) e2 e3
   refine ⟨b, o, row, e1, by rw [List.append_assoc]; exact k1, k2, e4, fun j hj => ?_⟩
   obtain ⟨y, hy, hor⟩ := e5 j hj
   refine ⟨y, hy, ?_⟩
   rw [List.append_assoc]
   exact ih (fun q hd hu => hg q hd hu.below) (fun b q row hu => hb b q row hu.below) hor
theorem OR.move2 (hs : Stay w Z w' Z') : ∀ {S : Sh} {m : Nat} {x : Den S} {p p' : Pth} {i i' : Nat} {st : List St} {vs : List Value},
  (∀ s' rest hd, g (p ++ (i, st ++ s') :: rest) = some hd → g' (p' ++ (i', st ++ s') :: rest) = some hd) →
  (∀ b s' rest row, own b = some (r, p ++ (i, st ++ s') :: rest) → M b = some row → own' b = some (r', p' ++ (i', st ++ s') :: rest) ∧ M' b = some row) →
  OR w Z M own r g S m x p i st vs → OR w' Z' M' own' r' g' S m x p' i' st vs := by
 intro S
 induction S with
 | int k => intro m x p p' i i' st vs _ _ h; exact h
 | bool => intro m x p p' i i' st vs _ _ h; exact h
 | str => intro m x p p' i i' st vs _ _ h; exact h
 | unit => intro m x p p' i i' st vs _ _ h; exact h
 | pair a b iha ihb =>
  intro m x p p' i i' st vs hg hb ⟨us, ws, h1, h2, h3⟩
  exact ⟨us, ws, h1, iha (fun s' rest hd => by rw [List.append_assoc]; exact hg _ rest hd) (fun b s' rest row => by rw [List.append_assoc]; exact hb b _ rest row) h2,
   ihb (fun s' rest hd => by rw [List.append_assoc]; exact hg _ rest hd) (fun b s' rest row => by rw [List.append_assoc]; exact hb b _ rest row) h3⟩
 | arr n a ih =>
  intro m x p p' i i' st vs hg hb h
  exact ORV.imp (f := fun y st us => OR w Z M own r g a m y p i st us) (f' := fun y st us => OR w' Z' M' own' r' g' a m y p' i' st us) (fun y s us h => ih (fun s' rest hd => by rw [List.append_assoc]; exact hg _ rest hd) (fun b s' rest row => by rw [List.append_assoc]; exact hb b _ rest row) h) h
 | sl by_ a ih =>
  intro m x p p' i i' st vs hg hb h
  cases m with
  | zero => exact FR.mono (S := .sl by_ a) hs h
  | succ m =>
   obtain ⟨v, hd, h1, h2, h3, h4, h5, h6, h7, hle, hlim, hel⟩ := h
   have hg0 := hg [] [] hd
   rw [List.append_nil] at hg0
   refine ⟨v, hd, h1, hg0 h2, h3, h4, h5, h6, h7, hle, hlim, fun hc => ?_⟩
   obtain ⟨b, o, row, e1, e2, e3, e4, e5⟩ := hel hc
   have hb0 := hb b [] [] row
   rw [List.append_nil] at hb0
   obtain ⟨k1, k2⟩ := hb0 e2 e3
   refine ⟨b, o, row, e1, k1, k2, e4, fun j hj => ?_⟩
   obtain ⟨y, hy, hor⟩ := e5 j hj
   refine ⟨y, hy, ih (fun s' rest hd' => ?_) (fun b' s' rest row' => ?_) hor⟩
   ·have := hg [] ((j, s') :: rest) hd'
    simpa using this
   ·have := hb b' [] ((j, s') :: rest) row'
    simpa using this
 | ptr a ih =>
  intro m x p p' i i' st vs hg hb h
  cases m with
  | zero => exact FR.mono (S := .ptr a) hs h
  | succ m =>
   obtain ⟨v, hd, h1, h2, h3, h4, h5, h6, hle, hlim, hel⟩ := h
   have hg0 := hg [] [] hd
   rw [List.append_nil] at hg0
   refine ⟨v, hd, h1, hg0 h2, h3, h4, h5, h6, hle, hlim, fun hc => ?_⟩
   obtain ⟨b, o, row, e1, e2, e3, e4, e5⟩ := hel hc
   have hb0 := hb b [] [] row
   rw [List.append_nil] at hb0
   obtain ⟨k1, k2⟩ := hb0 e2 e3
   refine ⟨b, o, row, e1, k1, k2, e4, fun j hj => ?_⟩
   obtain ⟨y, hy, hor⟩ := e5 j hj
   refine ⟨y, hy, ih (fun s' rest hd' => ?_) (fun b' s' rest row' => ?_) hor⟩
   ·have := hg [] ((j, s') :: rest) hd'
    simpa using this
   ·have := hb b' [] ((j, s') :: rest) row'
    simpa using this
theorem OR.frame (hs : Stay w Z w' Z') {S : Sh} {m : Nat} {x : Den S} {p : Pth} {i : Nat} {st : List St} {vs : List Value}
  (hg : ∀ q hd, Under p i st q → g q = some hd → g' q = some hd) (hb : ∀ b q row, Under p i st q → own b = some (r, q) → M b = some row → own' b = some (r, q) ∧ M' b = some row)
  (h : OR w Z M own r g S m x p i st vs) : OR w' Z' M' own' r g' S m x p i st vs := OR.move hs [] hg hb h
theorem ORV.to_FRV {α : Type} {f : α → List St → List Value → Prop} {f' : α → List Value → Prop} {st : List St} (h : ∀ x s vs, f x s vs → f' x vs) : ∀ {n k : Nat} {x : DenV α n} {vs : List Value}, ORV f st n k x vs → FRV f' n x vs
 | 0, _, _, _, hv => hv
 | _ + 1, _, _, _, ⟨us, ws, h1, h2, h3⟩ => ⟨us, ws, h1, h _ _ _ h2, ORV.to_FRV h h3⟩
theorem FRV.to_ORV {α : Type} {f : α → List St → List Value → Prop} {f' : α → List Value → Prop} {st : List St} (h : ∀ x s vs, f' x vs → f x s vs) : ∀ {n k : Nat} {x : DenV α n} {vs : List Value}, FRV f' n x vs → ORV f st n k x vs
 | 0, _, _, _, hv => hv
 | _ + 1, _, _, _, ⟨us, ws, h1, h2, h3⟩ => ⟨us, ws, h1, h _ _ _ h2, FRV.to_ORV h h3⟩
theorem OR.of_FR : ∀ {S : Sh} {m : Nat} {x : Den S} {p : Pth} {i : Nat} {st : List St} {vs : List Value}, (m = 0 ∨ S.flat = true) → FR w Z S x vs → OR w Z M own r g S m x p i st vs := by
 intro S
 induction S with
 | int k => intro m x p i st vs _ h; exact h
 | bool => intro m x p i st vs _ h; exact h
 | str => intro m x p i st vs _ h; exact h
 | unit => intro m x p i st vs _ h; exact h
 | pair a b iha ihb =>
  intro m x p i st vs hm ⟨us, ws, h1, h2, h3⟩
  simp only [Sh.flat, Bool.and_eq_true] at hm
  exact ⟨us, ws, h1, iha (hm.imp id (·.1)) h2, ihb (hm.imp id (·.2)) h3⟩
 | arr n a ih => intro m x p i st vs hm h; exact FRV.to_ORV (f := fun y st us => OR w Z M own r g a m y p i st us) (fun _ _ _ h => ih hm h) h
 | sl by_ a ih =>
  intro m x p i st vs hm h
  rcases hm with rfl | hm
  ·exact h
  ·cases hm
 | ptr a ih =>
  intro m x p i st vs hm h
  rcases hm with rfl | hm
  ·exact h
  ·cases hm
theorem OR.to_FR : ∀ {S : Sh} {m : Nat} {x : Den S} {p : Pth} {i : Nat} {st : List St} {vs : List Value}, (m = 0 ∨ S.flat = true) → OR w Z M own r g S m x p i st vs → FR w Z S x vs := by
 intro S
 induction S with
 | int k => intro m x p i st vs _ h; exact h
 | bool => intro m x p i st vs _ h; exact h
 | str => intro m x p i st vs _ h; exact h
 | unit => intro m x p i st vs _ h; exact h
 | pair a b iha ihb =>
  intro m x p i st vs hm ⟨us, ws, h1, h2, h3⟩
  simp only [Sh.flat, Bool.and_eq_true] at hm
  exact ⟨us, ws, h1, iha (hm.imp id (·.1)) h2, ihb (hm.imp id (·.2)) h3⟩
 | arr n a ih => intro m x p i st vs hm h; exact ORV.to_FRV (f := fun y st us => OR w Z M own r g a m y p i st us) (fun _ _ _ h => ih hm h) h
 | sl by_ a ih =>
  intro m x p i st vs hm h
  rcases hm with rfl | hm
  ·exact h
  ·cases hm
 | ptr a ih =>
  intro m x p i st vs hm h
  rcases hm with rfl | hm
  ·exact h
  ·cases hm
theorem seg_length {row : List Value} {o n : Nat} (h : o + n ≤ row.length) : (seg row o n).length = n := by simp [seg]; omega
theorem seg_get {row : List Value} {o n j : Nat} {v : Value} (h : (seg row o n)[j]? = some v) : row[o + j]? = some v := by
 unfold seg at h
 rw [List.getElem?_take] at h
 split at h
 ·rwa [List.getElem?_drop] at h
 ·cases h
theorem OR.freeze (hs : Stay w Z w' Z') (hM : ∀ b q row, own b = some (r, q) → M b = some row → Z' b ∧ ∀ j v, row[j]? = some v → qfv w' b j v) : ∀ {S : Sh} {m : Nat} {x : Den S} {p : Pth} {i : Nat} {st : List St} {vs : List Value},
  OR w Z M own r g S m x p i st vs → FR w' Z' S x vs := by
 intro S
 induction S with
 | int k => intro m x p i st vs h; exact h
 | bool => intro m x p i st vs h; exact h
 | str => intro m x p i st vs h; exact h
 | unit => intro m x p i st vs h; exact h
 | pair a b iha ihb =>
  intro m x p i st vs ⟨us, ws, h1, h2, h3⟩
  exact ⟨us, ws, h1, iha h2, ihb h3⟩
 | arr n a ih => intro m x p i st vs h; exact ORV.to_FRV (f := fun y st us => OR w Z M own r g a m y p i st us) (fun _ _ _ h => ih h) h
 | sl by_ a ih =>
  intro m x p i st vs h
  cases m with
  | zero => exact FR.mono (S := .sl by_ a) hs h
  | succ m =>
   obtain ⟨v, hd, h1, h2, rfl, h4, h5, h6, h7, hle, hlim, hel⟩ := h
   unfold HVal at h6
   rw [h4] at h6
   simp only [Bool.false_eq_true, if_false] at h6
   obtain ⟨ad, cv, rfl, hnc, hcc, had⟩ := h6
   refine ⟨ad, cv, by rw [h1, h5], by rw [← h5]; exact hnc, h7, fun hp => ?_⟩
   obtain ⟨b, o, row, e1, e2, e3, e4, e5⟩ := hel (by omega)
   obtain ⟨b', o', k1, k2⟩ := had (by omega)
   rw [e1] at k1
   injection k1 with k1
   injection k1 with k1 k1'
   subst k1; subst k1'
   obtain ⟨hz, hrd⟩ := hM _ _ row e2 e3
   refine ⟨b, o, k2, hz, fun j y hy => ?_⟩
   have hlt : j < hd.n := by rw [h5]; exact (List.getElem?_eq_some_iff.1 hy).1
   obtain ⟨z, hz', hor⟩ := e5 j hlt
   have : z = y := Option.some.inj (hz'.symm.trans hy)
   subst this
   exact ⟨_, hor.len, fun t v ht => hrd _ _ (by rw [Nat.add_assoc] at *; have := seg_get ht; rwa [Nat.add_assoc] at this), ih hor⟩
 | ptr a ih =>
  intro m x p i st vs h
  cases m with
  | zero => exact FR.mono (S := .ptr a) hs h
  | succ m =>
   obtain ⟨v, hd, h1, h2, rfl, h4, h5, h6, hle, hlim, hel⟩ := h
   unfold HVal at h6
   rw [h4] at h6
   simp only [if_true] at h6
   rcases h6 with ⟨hn, rfl⟩ | ⟨b', o', k1, hn, rfl⟩
   ·refine .inl ⟨?_, h1⟩
    cases x with
    | none => rfl
    | some y => rw [h5] at hn; simp at hn
   ·cases x with
    | none => rw [h5] at hn; simp at hn
    | some y =>
     obtain ⟨b, o, row, e1, e2, e3, e4, e5⟩ := hel (by omega)
     rw [e1] at k1
     injection k1 with k1
     injection k1 with k1 k1'
     subst k1; subst k1'
     obtain ⟨hz, hrd⟩ := hM _ _ row e2 e3
     obtain ⟨z, hz', hor⟩ := e5 0 (by omega)
     have : z = y := (Option.some.inj hz').symm
     subst this
     exact .inr ⟨z, b, o, _, rfl, h1, hz, hor.len, fun t v ht => hrd _ _ (by have := seg_get ht; simpa using this), ih hor⟩
end
end Go.BE
namespace Go.BE
def AllP : List Prop → Prop
 | [] => True
 | p :: l => p ∧ AllP l
theorem AllP.append {l m : List Prop} : AllP (l ++ m) ↔ AllP l ∧ AllP m := by
 induction l with
 | nil => simp [AllP]
 | cons p l ih => simp [AllP, ih, and_assoc]
def splice (vs : List Value) (o : Nat) (us : List Value) : List Value := vs.take o ++ us ++ vs.drop (o + us.length)
section
variable {a b vs us row : List Value} {o n so k : Nat}
theorem splice_length (h : o + us.length ≤ vs.length) : (splice vs o us).length = vs.length := by simp [splice]; omega
theorem splice_zero (h : us.length = vs.length) : splice vs 0 us = us := by simp [splice, h]
theorem splice_left (h : o + us.length ≤ a.length) : splice (a ++ b) o us = splice a o us ++ b := by
 unfold splice
 rw [List.take_append_of_le_length (by omega), List.drop_append_of_le_length (by omega)]
 simp
theorem splice_right (h : k = a.length + o) : splice (a ++ b) k us = a ++ splice b o us := by
 subst h
 unfold splice
 rw [List.take_length_add_append, show a.length + o + us.length = a.length + (o + us.length) from by omega, List.drop_length_add_append]
 simp
theorem seg_left (h : o + n ≤ a.length) : seg (a ++ b) o n = seg a o n := by
 unfold seg
 rw [List.drop_append_of_le_length (by omega), List.take_append_of_le_length (by simp; omega)]
theorem seg_right (h : k = a.length + o) : seg (a ++ b) k n = seg b o n := by
 subst h
 unfold seg
 rw [List.drop_length_add_append]
theorem seg_all (h : vs.length = n) : seg vs 0 n = vs := by simp [seg, ← h]
theorem seg_seg {o' n' : Nat} (h : o' + n' ≤ n) : seg (seg row o n) o' n' = seg row (o + o') n' := by
 unfold seg
 rw [List.drop_take, List.take_take, List.drop_drop]
 congr 1
 omega
theorem getElem?_splice (h : o + us.length ≤ vs.length) (j : Nat) : (splice vs o us)[j]? = if o ≤ j ∧ j < o + us.length then us[j - o]? else vs[j]? := by
 unfold splice
 rcases Nat.lt_or_ge j o with h1 | h1
 ·rw [if_neg (by omega), List.append_assoc, List.getElem?_append_left (by simp; omega), List.getElem?_take, if_pos h1]
 ·rcases Nat.lt_or_ge j (o + us.length) with h2 | h2
  ·rw [if_pos ⟨h1, h2⟩, List.getElem?_append_left (by simp; omega), List.getElem?_append_right (by simp; omega)]
   simp only [List.length_take]
   congr 1
   omega
  ·rw [if_neg (by omega), List.getElem?_append_right (by simp; omega), List.getElem?_drop]
   simp only [List.length_append, List.length_take]
   congr 1
   omega
theorem getElem?_seg (j : Nat) : (seg vs o n)[j]? = if j < n then vs[o + j]? else none := by
 unfold seg
 rw [List.getElem?_take, List.getElem?_drop]
theorem seg_splice_in (hso : so + us.length ≤ n) (h : o + n ≤ row.length) : seg (splice row (o + so) us) o n = splice (seg row o n) so us := by
 apply List.ext_getElem?
 intro j
 rw [getElem?_seg, getElem?_splice (by omega), getElem?_splice (by rw [seg_length h]; exact hso), getElem?_seg]
 by_cases h1 : j < n
 ·rw [if_pos h1]
  by_cases h2 : so ≤ j ∧ j < so + us.length
  ·rw [if_pos h2, if_pos (by omega)]
   congr 1
   omega
  ·rw [if_neg h2, if_neg (by omega), if_pos h1]
 ·rw [if_neg h1, if_neg (by omega), if_neg h1]
theorem seg_splice_out {k : Nat} (h : o + us.length ≤ row.length) (hd : k + n ≤ o ∨ o + us.length ≤ k) : seg (splice row o us) k n = seg row k n := by
 apply List.ext_getElem?
 intro j
 rw [getElem?_seg, getElem?_seg]
 by_cases h1 : j < n
 ·rw [if_pos h1, if_pos h1, getElem?_splice h, if_neg (by omega)]
 ·rw [if_neg h1, if_neg h1]
theorem splice_splice {n : Nat} (h : o + n ≤ vs.length) (hso : so + us.length ≤ n) : splice vs o (splice (seg vs o n) so us) = splice vs (o + so) us := by
 have h1 : (seg vs o n).length = n := seg_length h
 have h2 : (splice (seg vs o n) so us).length = n := by rw [splice_length (by omega), h1]
 apply List.ext_getElem?
 intro j
 rw [getElem?_splice (vs := vs) (o := o) (by omega), getElem?_splice (vs := vs) (o := o + so) (by omega), h2]
 by_cases hj : o ≤ j ∧ j < o + n
 ·rw [if_pos hj, getElem?_splice (by omega), getElem?_seg]
  by_cases hj2 : so ≤ j - o ∧ j - o < so + us.length
  ·rw [if_pos hj2, if_pos (by omega)]
   congr 1
   omega
  ·rw [if_neg hj2, if_pos (by omega), if_neg (by omega)]
   congr 1
   omega
 ·rw [if_neg hj, if_neg (by omega)]
end
theorem castD_self (S : Sh) (x : Den S) : castD S S x = some x := by simp [castD]
section
variable {w w' : World} {Z Z' : Nat → Prop} {M M' : Rows} {own own' : Own} {r : Nat} {g g' : Pth → Option Hd}
theorem ORV.at_ {α : Type} {f : α → List St → List Value → Prop} {st : List St} {sz : Nat} (hf : ∀ x s vs, f x s vs → vs.length = sz) (d : α) : ∀ {n i k : Nat} {x : DenV α n} {vs : List Value}, ORV f st n k x vs → i < n →
  f (vget d n x i) (st ++ [.a (k + i)]) (seg vs (i * sz) sz) ∧ ∀ {f' : α → List St → List Value → Prop} {y' : α} {us' : List Value}, (∀ j y us, j ≠ i → f y (st ++ [.a (k + j)]) us → f' y (st ++ [.a (k + j)]) us) → us'.length = sz →
   f' y' (st ++ [.a (k + i)]) us' → ORV f' st n k (vset n x i y') (splice vs (i * sz) us')
 | 0, _, _, _, _, _, hi => by omega
 | n + 1, 0, k, x, vs, ⟨us, ws, h1, h2, h3⟩, _ => by
  have hl := hf _ _ _ h2
  subst h1
  refine ⟨?_, fun {f' y' us'} hf' hl' hy' => ?_⟩
  ·rw [Nat.zero_mul, seg_left (by omega), seg_all hl]
   exact h2
  ·refine ⟨us', ws, ?_, hy', ?_⟩
   ·rw [Nat.zero_mul, splice_left (by omega), splice_zero (by omega)]
   ·have key : ∀ {m t : Nat} {z : DenV α m} {vs : List Value}, ORV f st m (k + (t + 1)) z vs → ORV f' st m (k + (t + 1)) z vs := by
     intro m
     induction m with
     | zero => intro t z vs h; exact h
     | succ m ih =>
      intro t z vs ⟨us, ws, e1, e2, e3⟩
      exact ⟨us, ws, e1, hf' (t + 1) _ _ (by omega) e2, ih (t := t + 1) e3⟩
    exact key (t := 0) h3
 | n + 1, i + 1, k, x, vs, ⟨us, ws, h1, h2, h3⟩, hi => by
  have hl := hf _ _ _ h2
  subst h1
  obtain ⟨k1, k2⟩ := ORV.at_ hf d h3 (i := i) (by omega)
  have ek : k + 1 + i = k + (i + 1) := by omega
  rw [ek] at k1 k2
  refine ⟨?_, fun {f' y' us'} hf' hl' hy' => ?_⟩
  ·rw [seg_right (o := i * sz) (by rw [hl, Nat.succ_mul]; omega)]
   exact k1
  ·refine ⟨us, splice ws (i * sz) us', ?_, hf' 0 _ _ (by omega) h2, k2 (fun j y us hj h => ?_) hl' hy'⟩
   ·rw [splice_right (o := i * sz) (by rw [hl, Nat.succ_mul]; omega)]
   ·have ej : k + 1 + j = k + (j + 1) := by omega
    rw [ej] at h ⊢
    exact hf' (j + 1) y us (by omega) h
theorem OR.static (hs : Stay w Z w' Z') : ∀ (st1 : List St) {S : Sh} {m : Nat} {x : Den S} {p : Pth} {i : Nat} {st : List St} {vs : List Value} {T : Sh} {y : Den T},
  sGet S x st1 = some ⟨T, y⟩ → AllP (sOK S st1) → OR w Z M own r g S m x p i st vs →
  ∃ so, sAt S st1 = some (T, so) ∧ so + T.size ≤ S.size ∧ OR w Z M own r g T m y p i (st ++ st1) (seg vs so T.size) ∧
   ∀ {y' : Den T} {us' : List Value} {x' : Den S},
    (∀ q hd, Under p i st q → ¬ Under p i (st ++ st1) q → g q = some hd → g' q = some hd) →
    (∀ b q row, Under p i st q → ¬ Under p i (st ++ st1) q → own b = some (r, q) → M b = some row → own' b = some (r, q) ∧ M' b = some row) →
    OR w' Z' M' own' r g' T m y' p i (st ++ st1) us' → sSet S x st1 ⟨T, y'⟩ = some x' → OR w' Z' M' own' r g' S m x' p i st (splice vs so us') := by
 intro st1
 induction st1 with
 | nil =>
  intro S m x p i st vs T y hg _ h
  have hg' : some (⟨S, x⟩ : TVal) = some ⟨T, y⟩ := by cases S <;> exact hg
  injection hg' with hg'
  cases hg'
  refine ⟨0, by cases S <;> rfl, by omega, by rw [seg_all h.len, List.append_nil]; exact h, fun {y' us' x'} _ _ hy hset => ?_⟩
  have hset' : castD S S y' = some x' := by cases S <;> exact hset
  rw [castD_self] at hset'
  injection hset' with hset'
  subst hset'
  rw [splice_zero (by rw [hy.len, h.len])]
  rwa [List.append_nil] at hy
 | cons s st1 ih =>
  intro S m x p i st vs T y hg hok h
  cases s with
  | l =>
   cases S with
   | pair a b =>
    obtain ⟨us, ws, h1, h2, h3⟩ := h
    subst h1
    have hla := h2.len
    have hlb := h3.len
    obtain ⟨so, k1, k2, k3, k4⟩ := ih (S := a) (x := x.1) hg hok h2
    rw [show st ++ [St.l] ++ st1 = st ++ St.l :: st1 from by simp] at k3 k4
    refine ⟨so, k1, by simp only [Sh.size]; omega, by rw [seg_left (by omega)]; exact k3, fun {y' us' x'} hgr hbr hy hset => ?_⟩
    simp only [sSet] at hset
    obtain ⟨z, hz, rfl⟩ := Option.map_eq_some_iff.1 hset
    have hly := hy.len
    refine ⟨splice us so us', ws, splice_left (by omega), k4 (fun q hd hu hn => hgr q hd hu.sub hn) (fun b q row hu hn => hbr b q row hu.sub hn) hy hz, ?_⟩
    exact OR.frame hs (fun q hd hu => hgr q hd hu.sub fun hn => Under.comp (st := st) (s := []) (s' := st1) (a := .r) (b := .l) (by simp) hu hn) (fun b q row hu => hbr b q row hu.sub fun hn => Under.comp (st := st) (s := []) (s' := st1) (a := .r) (b := .l) (by simp) hu hn) h3
   | _ => simp [sGet] at hg
  | r =>
   cases S with
   | pair a b =>
    obtain ⟨us, ws, h1, h2, h3⟩ := h
    subst h1
    have hla := h2.len
    have hlb := h3.len
    obtain ⟨so, k1, k2, k3, k4⟩ := ih (S := b) (x := x.2) hg hok h3
    rw [show st ++ [St.r] ++ st1 = st ++ St.r :: st1 from by simp] at k3 k4
    refine ⟨a.size + so, by simp only [sAt, k1, Option.map_some], by simp only [Sh.size]; omega, by rw [seg_right (o := so) (by omega)]; exact k3, fun {y' us' x'} hgr hbr hy hset => ?_⟩
    simp only [sSet] at hset
    obtain ⟨z, hz, rfl⟩ := Option.map_eq_some_iff.1 hset
    have hly := hy.len
    refine ⟨us, splice ws so us', splice_right (by omega), ?_, k4 (fun q hd hu hn => hgr q hd hu.sub hn) (fun b q row hu hn => hbr b q row hu.sub hn) hy hz⟩
    exact OR.frame hs (fun q hd hu => hgr q hd hu.sub fun hn => Under.comp (st := st) (s := []) (s' := st1) (a := .l) (b := .r) (by simp) hu hn) (fun b q row hu => hbr b q row hu.sub fun hn => Under.comp (st := st) (s := []) (s' := st1) (a := .l) (b := .r) (by simp) hu hn) h2
   | _ => simp [sGet] at hg
  | a t =>
   cases S with
   | arr n a =>
    simp only [sOK, AllP] at hok
    have hl := h.len
    obtain ⟨q1, q2⟩ := ORV.at_ (f := fun y st us => OR w Z M own r g a m y p i st us) (fun _ _ _ h => h.len) (dz a) h hok.1
    simp only [Nat.zero_add] at q1 q2
    obtain ⟨so, k1, k2, k3, k4⟩ := ih (S := a) hg hok.2 q1
    rw [show st ++ [St.a t] ++ st1 = st ++ St.a t :: st1 from by simp] at k3 k4
    have hts : t * a.size + a.size ≤ n * a.size := by rw [← Nat.succ_mul]; exact Nat.mul_le_mul_right _ hok.1
    refine ⟨t * a.size + so, by simp only [sAt, k1, Option.map_some], by simp only [Sh.size]; omega, by rw [seg_seg (by omega)] at k3; exact k3, fun {y' us' x'} hgr hbr hy hset => ?_⟩
    simp only [sSet] at hset
    obtain ⟨z, hz, rfl⟩ := Option.map_eq_some_iff.1 hset
    have hly := hy.len
    have hin := k4 (fun q hd hu hn => hgr q hd hu.sub hn) (fun b q row hu hn => hbr b q row hu.sub hn) hy hz
    have hres := q2 (f' := fun y st us => OR w' Z' M' own' r g' a m y p i st us) (y' := z) (us' := splice (seg vs (t * a.size) a.size) so us') (fun j y us hj hor => ?_) hin.len hin
    ·have hsz : vs.length = n * a.size := hl
     have e : splice vs (t * a.size) (splice (seg vs (t * a.size) a.size) so us') = splice vs (t * a.size + so) us' := splice_splice (by omega) (by omega)
     rw [e] at hres
     exact hres
    ·exact OR.frame hs (fun q hd hu => hgr q hd hu.sub fun hn => Under.comp (st := st) (s := []) (s' := st1) (a := .a j) (b := .a t) (by simpa using hj) hu hn) (fun b q row hu => hbr b q row hu.sub fun hn => Under.comp (st := st) (s := []) (s' := st1) (a := .a j) (b := .a t) (by simpa using hj) hu hn) hor
   | _ => simp [sGet] at hg
end
end Go.BE
namespace Go.BE
def qbv (w : World) (Z : Nat → Prop) (M : Rows) (own : Own) (r : Nat) (g : Pth → Option Hd) (n : Node) (m : Nat) (p : Pth) : Prop :=
 ∃ hd, g p = some hd ∧ hd.S = n.S ∧ hd.isPtr = n.isPtr ∧ hd.n = n.xs.length ∧ Body M own r p hd fun j us => ∃ y : Den n.S, lat n.xs j = some y ∧ OR w Z M own r g n.S m y p j [] us
theorem nodeSet_ok {t : TVal} {n : Node} {ys : List (Den n.S)} {x : Den t.S} (h : qco t = some n) (hl : ys.length = n.xs.length) (hs : nodeSet t ⟨n.S, ys, n.isPtr⟩ = some x) : qco ⟨t.S, x⟩ = some ⟨n.S, ys, n.isPtr⟩ := by
 obtain ⟨S, x0⟩ := t
 cases S with
 | sl b a =>
  simp only [qco, Option.some.injEq] at h
  subst h
  have hs' : castD (.sl 0 a) (.sl 0 a) ys = some x := hs
  have hx : ys = x := Option.some.inj ((castD_self (.sl 0 a) ys).symm.trans hs')
  subst hx
  rfl
 | ptr a =>
  simp only [qco, Option.some.injEq] at h
  subst h
  have hs' : castD (.ptr a) (.ptr a) (List.head? ys) = some x := hs
  have hx : List.head? ys = x := Option.some.inj ((castD_self (.ptr a) (List.head? ys)).symm.trans hs')
  subst hx
  have h1 : ys.length ≤ 1 := by
   rw [hl]
   cases x0 <;> simp
  have h2 : Option.toList (List.head? ys) = ys := by
   cases ys with
   | nil => rfl
   | cons y ys =>
    cases ys with
    | nil => rfl
    | cons => simp at h1
  show some (Node.mk a (Option.toList (List.head? ys)) true) = _
  rw [h2]
 | _ => simp [qco] at h
section
variable {w w' : World} {Z Z' : Nat → Prop} {M M' : Rows} {own own' : Own} {r : Nat} {g g' : Pth → Option Hd}
theorem qbv.reroot {r' : Nat} (hs : Stay w Z w' Z') (hg : ∀ q hd, g q = some hd → g' q = some hd) (hb : ∀ b q row, own b = some (r, q) → M b = some row → own' b = some (r', q) ∧ M' b = some row)
  {n : Node} {m : Nat} {p : Pth} (h : qbv w Z M own r g n m p) : qbv w' Z' M' own' r' g' n m p := by
 obtain ⟨hd, h1, h2, h3, h4, hle, hlim, hel⟩ := h
 refine ⟨hd, hg _ _ h1, h2, h3, h4, hle, hlim, fun hc => ?_⟩
 obtain ⟨b, o, row, e1, e2, e3, e4, e5⟩ := hel hc
 obtain ⟨k1, k2⟩ := hb _ _ _ e2 e3
 refine ⟨b, o, row, e1, k1, k2, e4, fun j hj => ?_⟩
 obtain ⟨y, hy, hor⟩ := e5 j hj
 exact ⟨y, hy, OR.move hs [] (fun q hd _ => hg q hd) (fun b q row _ => hb b q row) hor⟩
theorem getD_lat {α : Type} {l : List α} {i : Nat} {y : α} (d : α) (h : lat l i = some y) : l.getD i d = y := by
 unfold lat at h
 rw [List.getD_eq_getElem?_getD, h]
 rfl
theorem lat_lt {α : Type} {l : List α} {i : Nat} (h : i < l.length) (d : α) : lat l i = some (l.getD i d) := by
 unfold lat
 rw [List.getD_eq_getElem?_getD, List.getElem?_eq_getElem h]
 rfl
theorem OR.node {T : Sh} {y : Den T} {n : Node} (hn : qco ⟨T, y⟩ = some n) {m : Nat} {p : Pth} {i : Nat} {st : List St} {vs : List Value} (h : OR w Z M own r g T (m + 1) y p i st vs) : qbv w Z M own r g n m (p ++ [(i, st)]) := by
 cases T with
 | sl b a =>
  simp only [qco, Option.some.injEq] at hn
  subst hn
  obtain ⟨v, hd, h1, h2, h3, h4, h5, h6, h7, h8⟩ := h
  exact ⟨hd, h2, h3, h4, h5, h8⟩
 | ptr a =>
  simp only [qco, Option.some.injEq] at hn
  subst hn
  obtain ⟨v, hd, h1, h2, h3, h4, h5, h6, h8⟩ := h
  exact ⟨hd, h2, h3, h4, h5, h8⟩
 | _ => simp [qco] at hn
theorem OR.renode {T : Sh} {y y' : Den T} {n n' : Node} (hn : qco ⟨T, y⟩ = some n) (hn' : qco ⟨T, y'⟩ = some n') (hl : n'.xs.length = n.xs.length) {m : Nat} {p : Pth} {i : Nat} {st : List St} {vs : List Value} (hg : g' (p ++ [(i, st)]) = g (p ++ [(i, st)]))
  (h : OR w Z M own r g T (m + 1) y p i st vs) (h' : qbv w' Z' M' own' r g' n' m (p ++ [(i, st)])) : OR w' Z' M' own' r g' T (m + 1) y' p i st vs := by
 cases T with
 | sl b a =>
  simp only [qco, Option.some.injEq] at hn hn'
  subst hn; subst hn'
  obtain ⟨v, hd, h1, h2, h3, h4, h5, h6, h7, h8⟩ := h
  obtain ⟨hd', k1, k2, k3, k4, k5⟩ := h'
  rw [hg, h2] at k1
  injection k1 with k1
  subst k1
  exact ⟨v, hd, h1, by rw [hg]; exact h2, h3, h4, k4, h6, by simp only at hl; rw [hl]; exact h7, k5⟩
 | ptr a =>
  simp only [qco, Option.some.injEq] at hn hn'
  subst hn; subst hn'
  obtain ⟨v, hd, h1, h2, h3, h4, h5, h6, h8⟩ := h
  obtain ⟨hd', k1, k2, k3, k4, k5⟩ := h'
  rw [hg, h2] at k1
  injection k1 with k1
  subst k1
  exact ⟨v, hd, h1, by rw [hg]; exact h2, h3, h4, k4, h6, k5⟩
 | _ => simp [qco] at hn
theorem qfs {p : Pth} {j : Nat} {st : List St} : ¬ Under p j st p := by
 rintro ⟨s, rest, h⟩
 have := congrArg List.length h
 simp at this
theorem qbv.elem (hs : Stay w Z w' Z') {n : Node} {m : Nat} {p : Pth} (h : qbv w Z M own r g n m p) {i : Nat} (hi : i < n.xs.length) :
  ∃ hd b o row, g p = some hd ∧ hd.S = n.S ∧ hd.n = n.xs.length ∧ hd.blk = some (b, o) ∧ own b = some (r, p) ∧ M b = some row ∧ o + hd.c * n.S.size ≤ row.length ∧ i * n.S.size + n.S.size ≤ hd.c * n.S.size ∧
   OR w Z M own r g n.S m (n.xs.getD i (dz n.S)) p i [] (seg row (o + i * n.S.size) n.S.size) ∧
   ∀ {z : Den n.S} {row' : List Value}, (∀ q hd, ¬ Under p i [] q → g q = some hd → g' q = some hd) →
    (∀ b' q row0, ¬ Under p i [] q → own b' = some (r, q) → M b' = some row0 → own' b' = some (r, q) ∧ M' b' = if b' = b then some row' else some row0) →
    row'.length = row.length → (∀ j, j ≠ i → j < n.xs.length → seg row' (o + j * n.S.size) n.S.size = seg row (o + j * n.S.size) n.S.size) →
    OR w' Z' M' own' r g' n.S m z p i [] (seg row' (o + i * n.S.size) n.S.size) → qbv w' Z' M' own' r g' ⟨n.S, n.xs.set i z, n.isPtr⟩ m p := by
 obtain ⟨hd, h1, h2, h3, h4, hle, hlim, hel⟩ := h
 obtain ⟨b, o, row, e1, e2, e3, e4, e5⟩ := hel (by omega)
 rw [h2] at e4 e5
 have hic : i * n.S.size + n.S.size ≤ hd.c * n.S.size := by rw [← Nat.succ_mul]; exact Nat.mul_le_mul_right _ (by omega)
 refine ⟨hd, b, o, row, h1, h2, h4, e1, e2, e3, e4, hic, ?_, fun {z row'} hg hb hlen hseg hz => ?_⟩
 ·obtain ⟨y, hy, hor⟩ := e5 i (by omega)
  rw [getD_lat _ hy]
  exact hor
 ·obtain ⟨k1, k2⟩ := hb b p row qfs e2 e3
  rw [if_pos rfl] at k2
  refine ⟨hd, hg p hd qfs h1, h2, h3, by simp [h4], by simpa using hle, hlim, fun _ => ⟨b, o, row', e1, k1, k2, by rw [h2, hlen]; exact e4, fun j hj => ?_⟩⟩
  rw [h2]
  by_cases hji : j = i
  ·subst hji
   exact ⟨z, by unfold lat; rw [List.getElem?_set_self (by omega)], hz⟩
  ·obtain ⟨y, hy, hor⟩ := e5 j hj
   refine ⟨y, by unfold lat at hy ⊢; rw [List.getElem?_set_ne (Ne.symm hji)]; exact hy, ?_⟩
   rw [hseg j hji (by omega)]
   refine OR.frame hs (fun q hd hu hq => hg q hd (fun hn => hji (Under.elem hu hn)) hq) (fun b' q row0 hu ho hM => ?_) hor
   obtain ⟨a1, a2⟩ := hb b' q row0 (fun hn => hji (Under.elem hu hn)) ho hM
   refine ⟨a1, ?_⟩
   rw [a2, if_neg]
   intro e
   subst e
   rw [e2] at ho
   injection ho with ho
   injection ho with _ ho
   subst ho
   exact qfs hu
theorem qbv.place (hs : Stay w Z w' Z') : ∀ (π : Pth) {t : TVal} {n0 n : Node} {m : Nat} {p0 : Pth}, qco t = some n0 → qbv w Z M own r g n0 m p0 → π.length ≤ m → nget t π = some n → AllP (nOK t π) →
  qbv w Z M own r g n (m - π.length) (p0 ++ π) ∧
  ∀ {i : Nat} {st : List St} {T : Sh} {y : Den T}, i < n.xs.length → sGet n.S (n.xs.getD i (dz n.S)) st = some ⟨T, y⟩ → AllP (sOK n.S st) →
   ∃ hd b o row so, g (p0 ++ π) = some hd ∧ hd.S = n.S ∧ hd.n = n.xs.length ∧ hd.blk = some (b, o) ∧ own b = some (r, p0 ++ π) ∧ M b = some row ∧ sAt n.S st = some (T, so) ∧ o + i * n.S.size + so + T.size ≤ row.length ∧
    OR w Z M own r g T (m - π.length) y (p0 ++ π) i st (seg row (o + i * n.S.size + so) T.size) ∧
    ∀ {y' : Den T} {us' : List Value} {x' : Den t.S}, (∀ q hd, ¬ Under (p0 ++ π) i st q → g q = some hd → g' q = some hd) →
     (∀ b' q row0, ¬ Under (p0 ++ π) i st q → own b' = some (r, q) → M b' = some row0 → own' b' = some (r, q) ∧ M' b' = if b' = b then some (splice row (o + i * n.S.size + so) us') else some row0) →
     OR w' Z' M' own' r g' T (m - π.length) y' (p0 ++ π) i st us' → pset t π i st ⟨T, y'⟩ = some x' → ∃ n', qco ⟨t.S, x'⟩ = some n' ∧ n'.S = n0.S ∧ n'.xs.length = n0.xs.length ∧ qbv w' Z' M' own' r g' n' m p0 := by
 intro π
 induction π with
 | nil =>
  intro t n0 n m p0 ht h hm hn _
  have : n0 = n := by
   have hn' : qco t = some n := hn
   rw [ht] at hn'
   exact Option.some.inj hn'
  subst this
  simp only [List.length_nil, Nat.sub_zero, List.append_nil]
  refine ⟨h, fun {i st T y} hi hg hok => ?_⟩
  obtain ⟨hd, b, o, row, e1, e2, e3, e4, e5, e6, e7, e8, e9, e10⟩ := qbv.elem (w' := w') (Z' := Z') (M' := M') (own' := own') (g' := g') hs h hi
  obtain ⟨so, k1, k2, k3, k4⟩ := OR.static (w' := w') (Z' := Z') (M' := M') (own' := own') (g' := g') hs st hg hok e9
  rw [List.nil_append] at k3 k4
  rw [seg_seg k2] at k3
  refine ⟨hd, b, o, row, so, e1, e2, e3, e4, e5, e6, k1, by omega, k3, fun {y' us' x'} hgr hbr hy hset => ?_⟩
  have hly := hy.len
  simp only [pset, ht] at hset
  split at hset
  ·rename_i z hz
   have hnew := nodeSet_ok ht (by simp) hset
   refine ⟨_, hnew, rfl, by simp, e10 (row' := splice row (o + i * n0.S.size + so) us') (fun q hd hu hq => hgr q hd (fun hn => hu (Under.sub (s := st) (st := []) hn)) hq) (fun b' q row0 hu ho hM => hbr b' q row0 (fun hn => hu (Under.sub (s := st) (st := []) hn)) ho hM) (splice_length (by omega)) (fun j hj hjl => ?_) ?_⟩
   ·refine seg_splice_out (by omega) ?_
    rcases Nat.lt_or_gt_of_ne hj with hlt | hgt
    ·left
     have : j * n0.S.size + n0.S.size ≤ i * n0.S.size := by rw [← Nat.succ_mul]; exact Nat.mul_le_mul_right _ hlt
     omega
    ·right
     have : i * n0.S.size + n0.S.size ≤ j * n0.S.size := by rw [← Nat.succ_mul]; exact Nat.mul_le_mul_right _ hgt
     omega
   ·rw [seg_splice_in (by omega) (by omega)]
    refine k4 (fun q hd hu hn hq => hgr q hd hn hq) (fun b' q row0 hu hn ho hM => ?_) hy hz
    obtain ⟨a1, a2⟩ := hbr b' q row0 hn ho hM
    refine ⟨a1, ?_⟩
    rw [a2, if_neg]
    intro e
    subst e
    rw [e5] at ho
    injection ho with ho
    injection ho with _ ho
    subst ho
    exact qfs hu
  ·cases hset
 | cons sg π ih =>
  intro t n0 n m p0 ht h hm hn hok
  obtain ⟨k, s0⟩ := sg
  simp only [List.length_cons] at hm
  simp only [nget, ht] at hn
  split at hn
  ·rename_i u hu
   obtain ⟨U, yu⟩ := u
   simp only [nOK, ht, hu, AllP, AllP.append] at hok
   obtain ⟨hk, hok1, hok2⟩ := hok
   obtain ⟨m', rfl⟩ : ∃ m', m = m' + 1 := ⟨m - 1, by omega⟩
   obtain ⟨hd, b, o, row, e1, e2, e3, e4, e5, e6, e7, e8, e9, e10⟩ := qbv.elem (w' := w') (Z' := Z') (M' := M') (own' := own') (g' := g') hs h hk
   obtain ⟨so, k1, k2, k3, k4⟩ := OR.static (w' := w') (Z' := Z') (M' := M') (own' := own') (g' := g') hs s0 hu hok1 e9
   rw [List.nil_append] at k3 k4
   cases hnu : qco ⟨U, yu⟩ with
   | none => cases π <;> simp [nget, hnu] at hn
   | some nu =>
    have hN := OR.node hnu k3
    obtain ⟨q1, q2⟩ := ih (t := ⟨U, yu⟩) (m := m') hnu hN (by omega) hn hok2
    have ep : p0 ++ [(k, s0)] ++ π = p0 ++ (k, s0) :: π := by simp
    have em : m' + 1 - (π.length + 1) = m' - π.length := by omega
    rw [ep] at q1 q2
    simp only [List.length_cons]
    rw [em]
    refine ⟨q1, fun {i st T y} hi hg hok => ?_⟩
    obtain ⟨hd', b', o', row', so', f1, f2, f3, f4, f5, f6, f7, f8, f9, f10⟩ := q2 hi hg hok
    refine ⟨hd', b', o', row', so', f1, f2, f3, f4, f5, f6, f7, f8, f9, fun {y' us' x'} hgr hbr hy hset => ?_⟩
    simp only [pset, ht, hu] at hset
    split at hset
    ·rename_i xu hxu
     split at hset
     ·rename_i z hz
      obtain ⟨nu', g1, g2, g3, g4⟩ := f10 hgr hbr hy hxu
      have hnew := nodeSet_ok ht (by simp) hset
      have hbb : b ≠ b' := by
       intro e
       subst e
       rw [e5] at f5
       injection f5 with f5
       injection f5 with _ f5
       have := congrArg List.length f5
       simp at this
      have hdeep : ∀ q, Under (p0 ++ (k, s0) :: π) i st q → Under p0 k s0 q := fun q ⟨s, rest, e⟩ => ⟨[], π ++ (i, st ++ s) :: rest, by rw [e]; simp⟩
      have hgk : g' (p0 ++ [(k, s0)]) = g (p0 ++ [(k, s0)]) := by
       obtain ⟨hd0, a1, _⟩ := hN
       rw [a1]
       refine hgr _ _ (fun ⟨s, rest, e⟩ => ?_) a1
       have := congrArg List.length e
       simp at this
      have hren := OR.renode hnu g1 g3 hgk k3 g4
      refine ⟨_, hnew, rfl, by simp, e10 (row' := row) (fun q hd hq hgq => hgr q hd (fun hn => hq (Under.sub (st := []) (s := s0) (hdeep q hn))) hgq) (fun b1 q row0 hq ho hM => ?_) rfl (fun _ _ _ => rfl) ?_⟩
      ·obtain ⟨a1, a2⟩ := hbr b1 q row0 (fun hn => hq (Under.sub (st := []) (s := s0) (hdeep q hn))) ho hM
       refine ⟨a1, ?_⟩
       rw [a2]
       by_cases hb1 : b1 = b'
       ·subst hb1
        rw [f5] at ho
        injection ho with ho
        injection ho with _ ho
        exact absurd ⟨s0, π, by rw [← ho]; simp⟩ hq
       ·rw [if_neg hb1]
        by_cases hb2 : b1 = b
        ·subst hb2
         rw [e6] at hM
         rw [if_pos rfl, hM]
        ·rw [if_neg hb2]
      ·have hfin := k4 (y' := xu) (fun q hd hq hn hgq => hgr q hd (fun hu => hn (hdeep q hu)) hgq) (fun b1 q row0 hq hn ho hM => ?_) hren hz
       ·have hl3 := k3.len
        rw [show splice (seg row (o + k * n0.S.size) n0.S.size) so (seg (seg row (o + k * n0.S.size) n0.S.size) so U.size) = seg row (o + k * n0.S.size) n0.S.size from by
         apply List.ext_getElem?
         intro j
         rw [getElem?_splice (by rw [hl3, seg_length (by omega)]; exact k2), hl3]
         by_cases hj : so ≤ j ∧ j < so + U.size
         ·rw [if_pos hj, getElem?_seg, if_pos (by omega)]
          congr 1
          omega
         ·rw [if_neg hj]] at hfin
        exact hfin
       ·obtain ⟨a1, a2⟩ := hbr b1 q row0 (fun hu => hn (hdeep q hu)) ho hM
        refine ⟨a1, ?_⟩
        rw [a2, if_neg]
        intro e
        subst e
        rw [f5] at ho
        injection ho with ho
        injection ho with _ ho
        exact hn ⟨[], π, by rw [← ho]; simp⟩
     ·cases hset
    ·cases hset
  ·cases hn
end
end Go.BE
namespace Go.BE
def rowsPut (M : Rows) (b o : Nat) (v : Value) : Rows := fun k => if k = b then (M k).map (·.set o v) else M k
def PendR (w : World) (Z : Nat → Prop) (own : Own) (γ : Gst) (r : Nat) (cur : Nat) (n : Node) (m : Nat) (p : Pth) : Prop :=
 ∃ p0 i st hd0 b0 o0 so T hd v row, p = p0 ++ [(i, st)] ∧ γ.G cur p0 = some hd0 ∧ hd0.blk = some (b0, o0) ∧ sAt hd0.S st = some (T, so) ∧ γ.G cur p = some hd ∧ hd.isPtr = false ∧ HVal hd v ∧
  own b0 = some (r, p0) ∧ rows w b0 = some row ∧ o0 + i * hd0.S.size + so < row.length ∧ ∀ v', HVal hd v' → qbv w Z (rowsPut (rows w) b0 (o0 + i * hd0.S.size + so) v') own r (γ.G cur) n m []
def FzR (w : World) (Z : Nat → Prop) (γ : Gst) (cur : Nat) (m : Nat) (S : Sh) (xs : List (Den S)) : Prop :=
 ∃ own0 : Own, (∀ b o, own0 b = some o → Z b) ∧ qbv w Z (rows w) own0 0 (γ.G cur) ⟨S, xs, false⟩ m []
theorem List.reverseRecOn' {α : Type} {motive : List α → Prop} (l : List α) (nil : motive []) (snoc : ∀ l x, motive l → motive (l ++ [x])) : motive l := by
 have : ∀ n (l : List α), l.length = n → motive l := by
  intro n
  induction n with
  | zero => intro l hl; rw [List.eq_nil_of_length_eq_zero hl]; exact nil
  | succ n ih =>
   intro l hl
   have hne : l ≠ [] := by intro e; subst e; cases hl
   rw [← List.dropLast_concat_getLast hne]
   exact snoc _ _ (ih _ (by simp [hl]))
 exact this _ l rfl
def Dom (g : Pth → Option Hd) : Prop := ∀ q j s' hd, g (q ++ [(j, s')]) = some hd → ∃ hd0, g q = some hd0 ∧ j < hd0.n
theorem Dom.elem {g : Pth → Option Hd} (h : Dom g) {p : Pth} {j : Nat} {s' : List St} : ∀ {rest : Pth} {hd : Hd}, g (p ++ (j, s') :: rest) = some hd → ∃ hd0, g p = some hd0 ∧ j < hd0.n := by
 intro rest
 induction rest using List.reverseRecOn' with
 | nil => exact fun hq => h _ _ _ _ hq
 | snoc rest x ih =>
  intro hd hq
  obtain ⟨k, t⟩ := x
  have : p ++ (j, s') :: (rest ++ [(k, t)]) = (p ++ (j, s') :: rest) ++ [(k, t)] := by simp
  rw [this] at hq
  obtain ⟨hd0, h1, _⟩ := h _ _ _ _ hq
  exact ih h1
def EntR (K V : Sh) : List (Den K × Den V) → List MapEntry → Prop
 | [], es => es = []
 | e :: l, es => ∃ m ms, es = m :: ms ∧ m.key = valD K e.1 ∧ m.val = valD V e.2 ∧ okD K e.1 ∧ okD V e.2 ∧ EntR K V l ms
def AObj.rel : AObj → Obj → Prop
 | .map K V l, o => ∃ es clock, o = .map es clock ∧ EntR K V l es.toList
 | .iter s pos, o => o = .stringIter s pos ∧ s.size ≤ roomB
 | .loop R st pend, o => o = .loop { R.base with state := st, pending := pend }
 | .defd, o => o = .deferred (some [])
 | .gone, _ => True
def PinR (γ : Gst) : Pin → Prop
 | .b r v => γ.β r = some v
 | .g _ s hd => γ.G s [] = some hd
 | .dead => True
theorem PinR.mono {γ γ' : Gst} (h : γ.Le γ') {p : Pin} (hp : PinR γ p) : PinR γ' p := by
 cases p with
 | b r v => exact h.β _ _ hp
 | g r s hd => exact h.G _ _ _ hp
 | dead => trivial
def ContR (w : World) (Z : Nat → Prop) (own : Own) (γ : Gst) (r : Nat) (R : Root) : Prop :=
 match R.cont with
 | .cells cs => R.fz = false ∧ R.pend = none ∧ ∃ b arr e, γ.β r = some b ∧ own b = some (r, []) ∧ w.heap[b]? = some (.cells arr e (0, 0)) ∧ VRs w Z γ cs arr.toList
 | .obj x => R.fz = false ∧ R.pend = none ∧ ∃ b o, γ.β r = some b ∧ own b = some (r, []) ∧ w.heap[b]? = some o ∧ x.rel o
 | .arr m by_ S xs => (room by_ xs.length ∧ Dom (γ.G R.cur)) ∧ if R.fz then R.pend = none ∧ FzR w Z γ R.cur m S xs else
  match R.pend with
  | none => qbv w Z (rows w) own r (γ.G R.cur) ⟨S, xs, false⟩ m []
  | some p => PendR w Z own γ r R.cur ⟨S, xs, false⟩ m p
 | .pins l => R.fz = false ∧ R.pend = none ∧ ∀ p ∈ l, PinR γ p
structure RootR (w : World) (Z : Nat → Prop) (own : Own) (γ : Gst) (r : Nat) (R : Root) : Prop where
 old : ∀ e ∈ R.old, ∀ q hd, q.length < e.2.2 → e.2.1.contains q.length = false → γ.G e.1 q = some hd → γ.G R.cur q = some hd
 cont : ContR w Z own γ r R
def Gst.Ext (used : Nat → Prop) (γ γ' : Gst) : Prop := ∀ s, used s → γ'.β s = γ.β s ∧ γ'.G s = γ.G s
structure Kp where
 k : Nat → Prop
 z : Nat → Prop
structure MemR (w0 : World) (K : Kp) (w : World) (Z : Nat → Prop) (own : Own) (γ : Gst) (h : Heap) (used : Nat → Prop) : Prop where
 os : w.os = w0.os
 tape : w.tape = w0.tape
 output : w.output = w0.output
 size : w0.heap.size ≤ w.heap.size
 kept : ∀ b, b < w0.heap.size → K.k b → w.heap[b]? = w0.heap[b]?
 zin : ∀ b, Z b → b < w0.heap.size → K.k b → K.z b
 zlt : ∀ b, Z b → b < w.heap.size
 ownlt : ∀ b o, own b = some o → b < w.heap.size
 ownZ : ∀ b o, own b = some o → ¬ Z b
 ownK : ∀ b o, own b = some o → b < w0.heap.size → ¬ K.k b
 root : ∀ r R, hget h r = some R → RootR w Z own γ r R
 keys : ∀ r R, hget h r = some R → used r ∧ used R.cur ∧ ∀ e ∈ R.old, used e.1
 fresh : ∀ s, ¬ used s → γ.β s = none ∧ ∀ q, γ.G s q = none
theorem Gst.Ext.le {used : Nat → Prop} {γ γ' : Gst} (h : Gst.Ext used γ γ') (hf : ∀ s, ¬ used s → γ.β s = none ∧ ∀ q, γ.G s q = none) : γ.Le γ' := by
 refine ⟨fun r b hb => ?_, fun s p hd hp => ?_⟩
 ·by_cases hu : used r
  ·rw [(h r hu).1]; exact hb
  ·rw [(hf r hu).1] at hb; cases hb
 ·by_cases hu : used s
  ·rw [(h s hu).2]; exact hp
  ·rw [(hf s hu).2] at hp; cases hp
theorem Gst.Ext.refl (used : Nat → Prop) (γ : Gst) : Gst.Ext used γ γ := fun _ _ => ⟨rfl, rfl⟩
theorem Gst.Ext.trans {u u' : Nat → Prop} {a b c : Gst} (h : Gst.Ext u a b) (k : Gst.Ext u' b c) (hu : ∀ s, u s → u' s) : Gst.Ext u a c := fun s hs => ⟨(k s (hu s hs)).1.trans (h s hs).1, (k s (hu s hs)).2.trans (h s hs).2⟩
section
variable {w w' w0 : World} {Z Z' : Nat → Prop} {K : Kp} {own own' : Own} {γ γ' : Gst} {h h' : Heap} {used used' : Nat → Prop} {r : Nat} {R : Root}
theorem qfo {b : Nat} (h : w'.heap[b]? = w.heap[b]?) : rows w' b = rows w b := by unfold rows; rw [h]
theorem qbv.frame {M M' : Rows} {g g' : Pth → Option Hd} {n : Node} {m : Nat} {p : Pth} (hs : Stay w Z w' Z') (hg : ∀ q hd, g q = some hd → g' q = some hd) (hb : ∀ b q row, own b = some (r, q) → M b = some row → own' b = some (r, q) ∧ M' b = some row)
  (h : qbv w Z M own r g n m p) : qbv w' Z' M' own' r g' n m p := by
 obtain ⟨hd, h1, h2, h3, h4, hle, hlim, hel⟩ := h
 refine ⟨hd, hg _ _ h1, h2, h3, h4, hle, hlim, fun hc => ?_⟩
 obtain ⟨b, o, row, e1, e2, e3, e4, e5⟩ := hel hc
 obtain ⟨k1, k2⟩ := hb _ _ _ e2 e3
 refine ⟨b, o, row, e1, k1, k2, e4, fun j hj => ?_⟩
 obtain ⟨y, hy, hor⟩ := e5 j hj
 exact ⟨y, hy, OR.frame hs (fun q hd _ => hg q hd) (fun b q row _ => hb b q row) hor⟩
theorem FzR.mono {cur m : Nat} {S : Sh} {xs : List (Den S)} (hs : Stay w Z w' Z') (hγ : γ.Le γ') (h : FzR w Z γ cur m S xs) : FzR w' Z' γ' cur m S xs := by
 obtain ⟨own0, h1, h2⟩ := h
 exact ⟨own0, fun b o ho => hs.sub _ (h1 b o ho), h2.frame hs (fun q hd hq => hγ.G _ _ _ hq) fun b q row ho hM => ⟨ho, by rw [qfo (hs.heap _ (h1 b _ ho))]; exact hM⟩⟩
theorem RootR.frame (hs : Stay w Z w' Z') (hγ : γ.Le γ') (he : Gst.Ext used γ γ') (hu : used R.cur ∧ ∀ e ∈ R.old, used e.1) (hb : ∀ b q, own b = some (r, q) → own' b = some (r, q) ∧ w'.heap[b]? = w.heap[b]?) (h : RootR w Z own γ r R) : RootR w' Z' own' γ' r R := by
 have hg : ∀ q hd, γ.G R.cur q = some hd → γ'.G R.cur q = some hd := fun q hd hq => hγ.G _ _ _ hq
 refine ⟨fun e hm q hd h1 h2 h3 => ?_, ?_⟩
 ·rw [(he _ (hu.2 e hm)).2] at h3
  exact hg _ _ (h.old e hm q hd h1 h2 h3)
 ·have hc := h.cont
  unfold ContR at hc ⊢
  split
  ·rename_i cs hcs
   simp only [hcs] at hc
   obtain ⟨e1, e2, b, arr, e, k1, k2, k3, k4⟩ := hc
   obtain ⟨q1, q2⟩ := hb _ _ k2
   exact ⟨e1, e2, b, arr, e, hγ.β _ _ k1, q1, q2.trans k3, k4.mono hs hγ⟩
  ·rename_i x hcs
   simp only [hcs] at hc
   obtain ⟨e1, e2, b, o, k1, k2, k3, k4⟩ := hc
   obtain ⟨q1, q2⟩ := hb _ _ k2
   exact ⟨e1, e2, b, o, hγ.β _ _ k1, q1, q2.trans k3, k4⟩
  ·rename_i m by_ S xs hcs
   simp only [hcs] at hc
   refine ⟨⟨hc.1.1, by rw [(he _ hu.1).2]; exact hc.1.2⟩, ?_⟩
   have hc := hc.2
   split at hc
   ·rename_i hf
    rw [if_pos hf]
    exact ⟨hc.1, hc.2.mono hs hγ⟩
   ·rename_i hf
    rw [if_neg hf]
    split at hc
    ·rename_i hp
     try simp only [hp]
     exact hc.frame hs hg fun b q row ho hM => ⟨(hb b q ho).1, by rw [qfo (hb b q ho).2]; exact hM⟩
    ·rename_i p hp
     try simp only [hp]
     obtain ⟨p0, i, st, hd0, b0, o0, so, T, hd, v, row, e1, e2, e3, e4, e5, e6, e7, e8, e9, e10, e11⟩ := hc
     refine ⟨p0, i, st, hd0, b0, o0, so, T, hd, v, row, e1, hg _ _ e2, e3, e4, hg _ _ e5, e6, e7, (hb _ _ e8).1, by rw [qfo (hb _ _ e8).2]; exact e9, e10, fun v' hv' => (e11 v' hv').frame hs hg fun b q row ho hM => ⟨(hb b q ho).1, ?_⟩⟩
     unfold rowsPut at hM ⊢
     rw [qfo (hb b q ho).2]
     exact hM
  ·rename_i l hcs
   simp only [hcs] at hc
   exact ⟨hc.1, hc.2.1, fun p hp => (hc.2.2 p hp).mono hγ⟩
theorem qbr (h : Heap) (r r' : Nat) (R : Root) : hget (hput h r R) r' = if r' = r then some R else hget h r' := by
 induction h with
 | nil =>
  simp only [hput, hget]
  by_cases e : r = r'
  ·subst e; simp
  ·rw [if_neg e, if_neg (fun h => e h.symm)]
 | cons x h ih =>
  obtain ⟨k, c⟩ := x
  simp only [hput]
  by_cases e : k = r
  ·subst e
   simp only [if_true, hget]
   by_cases e2 : k = r'
   ·subst e2; simp
   ·rw [if_neg e2, if_neg e2, if_neg (fun h => e2 h.symm)]
  ·rw [if_neg e]
   simp only [hget]
   by_cases e2 : k = r'
   ·subst e2; simp [e]
   ·rw [if_neg e2, if_neg e2]; exact ih
theorem hget_hdel (h : Heap) (r r' : Nat) : hget (hdel h r) r' = if r' = r then none else hget h r' := by
 induction h with
 | nil => simp [hdel, hget]
 | cons x h ih =>
  obtain ⟨k, c⟩ := x
  simp only [hdel]
  by_cases e : k = r
  ·subst e
   rw [if_pos rfl, ih]
   simp only [hget]
   by_cases e2 : k = r'
   ·subst e2; simp
   ·rw [if_neg (fun h => e2 h.symm), if_neg (fun h => e2 h.symm), if_neg e2]
  ·rw [if_neg e]
   simp only [hget, ih]
   by_cases e2 : k = r'
   ·subst e2; simp [e]
   ·rw [if_neg e2, if_neg e2]
theorem MemR.step (hm : MemR w0 K w Z own γ h used) (hs : Stay w Z w' Z') (he : Gst.Ext used γ γ') (hu : ∀ s, used s → used' s)
  (os : w'.os = w.os) (tape : w'.tape = w.tape) (output : w'.output = w.output) (size : w.heap.size ≤ w'.heap.size)
  (ch : Nat → Prop)
  (hb : ∀ b, b < w.heap.size → (∀ o, own b = some o → ¬ ch o.1) → w'.heap[b]? = w.heap[b]?)
  (ho : ∀ b o, own b = some o → ¬ ch o.1 → own' b = some o)
  (hn : ∀ b o, own' b = some o → (own b = some o ∧ ¬ ch o.1) ∨ (b < w'.heap.size ∧ ¬ Z' b ∧ ((∃ o', own b = some o' ∧ ch o'.1) ∨ w.heap.size ≤ b)))
  (hz : ∀ b, Z' b → b < w'.heap.size ∧ (Z b ∨ (∃ o, own b = some o ∧ ch o.1) ∨ w.heap.size ≤ b))
  (hk : ∀ r R, hget h' r = some R → (hget h r = some R ∧ ¬ ch r) ∨ (RootR w' Z' own' γ' r R ∧ used' r ∧ used' R.cur ∧ ∀ e ∈ R.old, used' e.1))
  (hf : ∀ s, ¬ used' s → γ'.β s = none ∧ ∀ q, γ'.G s q = none) : MemR w0 K w' Z' own' γ' h' used' := by
 have hle := he.le hm.fresh
 have hold : ∀ b, b < w0.heap.size → K.k b → ∀ o, own b = some o → ¬ ch o.1 := fun b hb hK o ho _ => hm.ownK b o ho hb hK
 refine ⟨os.trans hm.os, tape.trans hm.tape, output.trans hm.output, Nat.le_trans hm.size size, fun b hb0 hK => ?_, fun b hbz hb0 hK => ?_, fun b hb => (hz b hb).1, fun b o hob => ?_, fun b o hob hZ => ?_, fun b o hob hb0 hK => ?_, fun r R hr => ?_, fun r R hr => ?_, hf⟩
 ·rw [hb b (Nat.lt_of_lt_of_le hb0 hm.size) (hold b hb0 hK), hm.kept b hb0 hK]
 ·rcases (hz b hbz).2 with h1 | ⟨o, h1, _⟩ | h1
  ·exact hm.zin b h1 hb0 hK
  ·exact absurd hK (hm.ownK b o h1 hb0)
  ·have := hm.size; omega
 ·rcases hn b o hob with h1 | h1
  ·exact Nat.lt_of_lt_of_le (hm.ownlt b o h1.1) size
  ·exact h1.1
 ·rcases hn b o hob with h1 | h1
  ·rcases (hz b hZ).2 with h2 | ⟨o', h2, h3⟩ | h2
   ·exact hm.ownZ b o h1.1 h2
   ·rw [h1.1] at h2; injection h2 with h2; subst h2; exact h1.2 h3
   ·have := hm.ownlt b o h1.1; omega
  ·exact h1.2.1 hZ
 ·rcases hn b o hob with h1 | ⟨_, _, ⟨o', h2, h3⟩ | h2⟩
  ·exact hm.ownK b o h1.1 hb0 hK
  ·exact hm.ownK b o' h2 hb0 hK
  ·have := hm.size; omega
 ·rcases hk r R hr with ⟨h1, h2⟩ | h1
  ·refine RootR.frame hs hle he (hm.keys r R h1).2 (fun b q hob => ⟨ho b _ hob h2, hb b (hm.ownlt b _ hob) fun o ho' => ?_⟩) (hm.root r R h1)
   rw [hob] at ho'
   injection ho' with ho'
   subst ho'
   exact h2
  ·exact h1.1
 ·rcases hk r R hr with ⟨h1, _⟩ | h1
  ·obtain ⟨a, b, c⟩ := hm.keys r R h1
   exact ⟨hu _ a, hu _ b, fun e he => hu _ (c e he)⟩
  ·exact h1.2
end
end Go.BE
namespace Go.BE
def okv (a : AV) : Option (List Prop × AV) := some ([], a)
def ashift (op : BinOp) (k : IntKind) (x y : Int) : Option (List Prop × AV) :=
 match op with
 | .shl => some ([0 ≤ y], aint k (k.wrap (x * 2 ^ min y.toNat k.bits)))
 | .shr => some ([0 ≤ y], aint k (x.fdiv (2 ^ min y.toNat k.bits)))
 | _ => none
def aarith (op : BinOp) (k : IntKind) (a b : Int) : Option (List Prop × AV) :=
 match op with
 | .add => okv (aint k (k.wrap (a + b)))
 | .sub => okv (aint k (k.wrap (a - b)))
 | .mul => okv (aint k (k.wrap (a * b)))
 | .quo => some ([b ≠ 0], aint k (k.wrap (a.tdiv b)))
 | .rem => some ([b ≠ 0], aint k (a.tmod b))
 | .and => okv (aint k (k.wrap ((BitVec.ofInt k.bits a &&& BitVec.ofInt k.bits b).toNat : Int)))
 | .or => okv (aint k (k.wrap ((BitVec.ofInt k.bits a ||| BitVec.ofInt k.bits b).toNat : Int)))
 | .xor => okv (aint k (k.wrap ((BitVec.ofInt k.bits a ^^^ BitVec.ofInt k.bits b).toNat : Int)))
 | .andNot => okv (aint k (k.wrap ((BitVec.ofInt k.bits a &&& ~~~(BitVec.ofInt k.bits b)).toNat : Int)))
 | .eql => okv (abool (a == b))
 | .neq => okv (abool (a != b))
 | .lss => okv (abool (decide (a < b)))
 | .leq => okv (abool (decide (a ≤ b)))
 | .gtr => okv (abool (decide (a > b)))
 | .geq => okv (abool (decide (a ≥ b)))
 | .shl | .shr => none
def astr (op : BinOp) (x y : ByteArray) : Option (List Prop × AV) :=
 match op with
 | .eql => okv (abool (x.toList == y.toList))
 | .neq => okv (abool (!(x.toList == y.toList)))
 | .add => some ([x.size + y.size ≤ roomB], .val (.string (x ++ y)))
 | .lss => okv (abool (Op.bytesLess x.toList y.toList))
 | .leq => okv (abool (Op.bytesLess x.toList y.toList || x.toList == y.toList))
 | .gtr => okv (abool (!(Op.bytesLess x.toList y.toList || x.toList == y.toList)))
 | .geq => okv (abool (!Op.bytesLess x.toList y.toList))
 | _ => none
def isAggD : TypeDesc → Bool
 | .struct _ | .array _ _ => true
 | _ => false
def apart (P : Program) (t : TypeId) (cs : List AV) (off : Nat) : Option AV :=
 match P.underlying t, P.info? t with
 | some d, some ti => if isAggD d then (if off + ti.size ≤ cs.length then some (.agg ((cs.drop off).take ti.size)) else none) else cs[off]?
 | _, _ => none
def aeqPart (eq : TypeId → AV → AV → Option Bool) (P : Program) (t : TypeId) (cs ds : List AV) (off : Nat) : Option Bool :=
 match apart P t cs off, apart P t ds off with
 | some a, some b => eq t a b
 | _, _ => none
def aeqFields (eq : TypeId → AV → AV → Option Bool) (P : Program) (cs ds : List AV) : List Field → Option Bool
 | [] => some true
 | f :: fs => if f.name = "_" then aeqFields eq P cs ds fs else match aeqPart eq P f.type cs ds f.offset, aeqFields eq P cs ds fs with
  | some x, some y => some (x && y)
  | _, _ => none
def aeqElems (eq : TypeId → AV → AV → Option Bool) (P : Program) (e : TypeId) (m : Nat) (cs ds : List AV) : Nat → Nat → Option Bool
 | 0, _ => some true
 | n + 1, i => match aeqPart eq P e cs ds (i * m), aeqElems eq P e m cs ds n (i + 1) with
  | some x, some y => some (x && y)
  | _, _ => none
def aeqT (P : Program) : Nat → TypeId → AV → AV → Option Bool
 | 0, _, _, _ => none
 | d + 1, t, x, y => match P.underlying t, x, y with
  | some .bool, .val (.bool a), .val (.bool b) => some (a == b)
  | some (.int _), .val (.int k a), .val (.int k' b) => if k = k' then some (a == b) else none
  | some .string, .val (.string a), .val (.string b) => some (a == b)
  | some (.struct fs), .agg cs, .agg ds => if P.stoodInHeld t then none else aeqFields (aeqT P d) P cs ds fs.toList
  | some (.array n e), .agg cs, .agg ds => match P.info? e with
   | some ti => aeqElems (aeqT P d) P e ti.size cs ds n 0
   | none => none
  | _, _, _ => none
def aeqAgg (P : Program) (t : TypeId) (x y : AV) : Option Bool := if P.eqGuardType P.depth t then none else aeqT P 8 t x y
def AV.expand : AV → AV
 | .tv S x => if S.isAgg then .agg (qeu S x) else .tv S x
 | a => a
def isShift : BinOp → Bool
 | .shl | .shr => true
 | _ => false
def isAggAV : AV → Bool
 | .agg _ => true
 | _ => false
def abin (E : Ctx) (op : BinOp) (t : TypeId) : AV → AV → Option (List Prop × AV)
 | .val (.int k a), .val (.int k' b) =>
  if isShift op then ashift op k a b else if k = k' then aarith op k a b else none
 | .val (.bool a), .val (.bool b) =>
  match E.ty t, op with
  | some { tk := .bool, .. }, .eql => okv (abool (a == b))
  | some { tk := .bool, .. }, .neq => okv (abool (!(a == b)))
  | _, _ => none
 | .val (.string a), .val (.string b) => astr op a b
 | a, b => if isAggAV a.expand && isAggAV b.expand then match op with
  | .eql => match aeqAgg E.P t a.expand b.expand with | some b => okv (abool b) | none => none
  | .neq => match aeqAgg E.P t a.expand b.expand with | some b => okv (abool (!b)) | none => none
  | _ => none else none
def anil (E : Ctx) (op : BinOp) (t : TypeId) : AV → AV → Option (Bool → Prop)
 | .tv (.sl b S) x, .val (.slice none 0 0) => match E.ty t, op with
  | some { tk := .slice _, .. }, .eql => some fun y => y = true → List.length (α := Den S) x = 0
  | some { tk := .slice _, .. }, .neq => some fun y => y = false → List.length (α := Den S) x = 0
  | _, _ => none
 | _, _ => none
def eqB (op : BinOp) (C : List Prop) (b : Bool) : Option (List Prop × AV) := match op with
 | .eql => some (C, abool b)
 | .neq => some (C, abool (!b))
 | _ => none
def aptr (E : Ctx) (h : Heap) (op : BinOp) (t : TypeId) (x : AV) : AV → Option (List Prop × AV)
 | .val (.pointer none) => match E.ty t with
  | some { tk := .ptr _, .. } => (match x with
   | .optr r s p => (match rnodeA h r s p with
    | some N => eqB op N.C (decide (N.n.xs.length = 0))
    | none => none)
   | .tref .. | .ref .. | .rtp .. | .rop .. => eqB op [] false
   | .tv (.ptr S) z => eqB op [] (Option.isNone (α := Den S) z)
   | _ => none)
  | _ => none
 | _ => none
def aun (op : UnOp) : AV → Option (List Prop × AV)
 | .val (.bool b) => match op with | .not => okv (abool (!b)) | _ => none
 | .val (.int k n) => match op with
  | .neg => okv (aint k (k.wrap (0 - n)))
  | .xor => okv (aint k (k.wrap ((BitVec.ofInt k.bits (if k.signed then -1 else k.max) ^^^ BitVec.ofInt k.bits n).toNat : Int)))
  | _ => none
 | _ => none
def aconv (E : Ctx) (src dst : TypeId) : AV → Option (List Prop × AV)
 | .val (.int _ n) => match E.ty dst, E.ty src with
  | some { tk := .int k, .. }, some _ => okv (aint k (k.wrap n))
  | _, _ => none
 | .val (.string s) => match E.ty dst, E.ty src with
  | some { tk := .str, .. }, some _ => okv (.val (.string s))
  | _, _ => none
 | _ => none
def takeVar (i : TI) (cs : List AV) (off : Nat) : Option AV :=
 if i.isAgg then (if off + i.size ≤ cs.length then some (.agg ((cs.drop off).take i.size)) else none)
 else cs[off]?
def fits (i : TI) (S : Sh) : Bool := i.size == S.size && i.isAgg == S.isAgg
def qgc (r s : Nat) (p : Pth) (i : Nat) : (m : Nat) → (S : Sh) → Den S → List St → List AV
 | m, .pair a b, x, st => qgc r s p i m a x.1 (st ++ [.l]) ++ qgc r s p i m b x.2 (st ++ [.r])
 | 0, S, x, _ => qeu S x
 | _ + 1, .sl _ _, _, st => [.osl r s (p ++ [(i, st)]) none]
 | _ + 1, .ptr _, _, st => [.optr r s (p ++ [(i, st)])]
 | _ + 1, .arr n a, x, _ => if a.flat then qeu (.arr n a) x else List.replicate (n * a.size) .bad
 | _ + 1, S, x, _ => qeu S x
def placeVal (r s : Nat) (p : Pth) (i : Nat) (m : Nat) (S : Sh) (x : Den S) (st : List St) : AV :=
 if m = 0 || S.flat then avOf S x else match S with
  | .pair a b => .agg (qgc r s p i m (.pair a b) x st)
  | .sl _ _ => .osl r s (p ++ [(i, st)]) none
  | .ptr _ => .optr r s (p ++ [(i, st)])
  | _ => .bad
def intsOf (k : IntKind) : List AV → Option (List Int)
 | [] => some []
 | .val (.int k' x) :: l => if k' = k then (match intsOf k l with | some xs => some (x :: xs) | none => none) else none
 | _ => none
def igd (l : List Int) (i : Nat) : Int := l.getD i 0
def isel (i j : Nat) (y x : Int) : Int := if i = j then y else x
def selCells (k : IntKind) (i : Nat) (y : Int) : Nat → List Int → List AV
 | _, [] => []
 | j, x :: l => aint k (isel i j y x) :: selCells k i y (j + 1) l
def aloadX (E : Ctx) (h : Heap) (t : TypeId) (r off n i : Nat) : Option (List Prop × AV) := match E.ty t, hget h r with
 | some ti, some R => (match ti.tk, R.cont with
  | .int k, .cells cs => if ti.size = 1 ∧ off + n ≤ cs.length then (match intsOf k ((cs.drop off).take n) with
   | some l => some ([], aint k (igd l i))
   | none => none) else none
  | _, _ => none)
 | _, _ => none
def aload (E : Ctx) (h : Heap) (t : TypeId) : AV → Option (List Prop × AV)
 | .rop cs off => match E.ty t with | some i => (takeVar i cs off).map fun a => ([], a) | none => none
 | .rtp S x => match E.ty t with | some i => if fits i S then some ([], avOf S x) else none | none => none
 | .ref r off => match E.ty t, hget h r with
  | some i, some R => match R.cont with
   | .cells cs => (takeVar i cs off).map fun a => ([], a)
   | _ => none
  | _, _ => none
 | .tref r s p i st => match E.ty t, rnodeL h r s p with
  | some ti, some N => match sGet N.n.S (N.n.xs.getD i (dz N.n.S)) st with
   | some u => if fits ti u.S then some (N.C ++ (i < N.n.xs.length) :: sOK N.n.S st, placeVal r N.R.cur p i (N.m - p.length) u.S u.x st) else none
   | none => none
  | _, _ => none
 | _ => none
def setCells : List AV → Nat → List AV → List AV
 | cs, _, [] => cs
 | cs, off, v :: vs => setCells (cs.set off v) (off + 1) vs
inductive Out where
 | v (c : List Prop) (a : AV)
 | w (c : List Prop) (a : AV) (ws : List (Nat × Option Root)) (skip : Bool)
 | call (f : FuncId) (args : List AV)
 | any (p : Bool → Prop)
 | no
def qav : Heap → List (Nat × Option Root) → Heap
 | h, [] => h
 | h, (r, some R) :: l => qav (hput h r R) l
 | h, (r, none) :: l => qav (hdel h r) l
def qcy (id : Nat) (c : Cont) : Root := { cont := c, cur := id, old := [], fz := false, pend := none }
def Node.oneV : Node → Option AV
 | ⟨S, xs, _⟩ => match xs with
  | [x] => some (.rtp S x)
  | _ => none
def closeC0 (h : Heap) : AV → Option (List Prop × AV × List (Nat × Option Root))
 | .osl r s p w => match rnodeL h r s p with
  | some N => match ngetT N.d p with
   | some ⟨.sl b S, xs⟩ => some (N.C, .tv (.sl b S) (wins xs w), if N.R.fz then [] else [(r, some { N.R with fz := true })])
   | _ => none
  | none => none
 | .optr r s p => match rnodeL h r s p with
  | some N => match ngetT N.d p with
   | some ⟨.ptr S, x⟩ => some (N.C, .tv (.ptr S) x, if N.R.fz then [] else [(r, some { N.R with fz := true })])
   | _ => none
  | none => none
 | .tref r s [] 0 [] => match rnodeL h r s [] with
  | some N => match N.n.oneV with
   | some a => some (N.C, a, if N.R.fz then [] else [(r, some { N.R with fz := true })])
   | _ => none
  | none => none
 | a => if a.closed then some ([], a, []) else none
def closeL0 (h : Heap) : List AV → Option (List Prop × List AV × List (Nat × Option Root))
 | [] => some ([], [], [])
 | a :: l => match closeC0 h a with
  | some (C, a, ws) => match closeL0 (qav h ws) l with
   | some (C', l, ws') => some (C ++ C', a :: l, ws ++ ws')
   | none => none
  | none => none
def closeC (h : Heap) (a : AV) : Option (List Prop × AV × List (Nat × Option Root)) := match a with
 | .ref r off => match hget h r with
  | some R => match R.cont with
   | .cells cs => match closeL0 h cs with
    | some (C, cs', ws) => if ws.all (fun x => x.1 != r) then some (C, .rop cs' off, ws ++ [(r, none)]) else none
    | none => none
   | _ => none
  | none => none
 | .agg cs => match closeL0 h cs with
  | some (C, cs', ws) => some (C, .agg cs', ws)
  | none => none
 | a => closeC0 h a
def closeL (h : Heap) : List AV → Option (List Prop × List AV × List (Nat × Option Root))
 | [] => some ([], [], [])
 | a :: l => match closeC h a with
  | some (C, a, ws) => match closeL (qav h ws) l with
   | some (C', l, ws') => some (C ++ C', a :: l, ws ++ ws')
   | none => none
  | none => none
structure Mv where
 st : List St
 S : Sh
 r : Option Nat
 ptr : Bool := false
def one1 (a : Sh) : TVal → Option (Den a)
 | ⟨.sl _ S, xs⟩ => match (show List (Den S) from xs) with
  | [y] => castD S a y
  | _ => none
 | _ => none
def moveIn (h : Heap) (m : Nat) : (S : Sh) → List St → List AV → Option (Den S × List AV × List Mv)
 | .pair a b, st, cs => match moveIn h m a (st ++ [.l]) cs with
  | some (x, cs, l) => match moveIn h m b (st ++ [.r]) cs with
   | some (y, cs, l') => some ((x, y), cs, l ++ l')
   | none => none
  | none => none
 | .sl b a, st, c :: cs => match c with
  | .val v => if isNilS v then some ([], cs, [⟨st, a, none, false⟩]) else none
  | .osl r s [] none => match rdata h r s 0 with
   | some (_, m2, t) => if m2 == m || a.flat then (castD t.S (.sl b a) t.x).map fun x => (x, cs, [⟨st, a, some r, false⟩]) else none
   | none => none
  | _ => none
 | .ptr a, st, c :: cs => match c with
  | .val v => if isNilP v then some (none, cs, [⟨st, a, none, true⟩]) else none
  | .tref r s [] 0 [] => match rdata h r s 0 with
   | some (_, m2, t) => if m2 == m || a.flat then (one1 a t).map fun x => (some x, cs, [⟨st, a, some r, true⟩]) else none
   | none => none
  | _ => none
 | S, _, cs => if S.flat then (toDen S cs).map fun x => (x.1, x.2, []) else none
def qcx : List Mv → List Nat
 | [] => []
 | ⟨_, _, some r, _⟩ :: l => r :: qcx l
 | ⟨_, _, none, _⟩ :: l => qcx l
def nodupB {α : Type} [BEq α] : List α → Bool
 | [] => true
 | x :: l => !l.contains x && nodupB l
def mvDel (l : List Nat) : List (Nat × Option Root) := l.map fun r => (r, none)
def stEq : List St → List St → Option (List Prop)
 | [], [] => some []
 | .l :: a, .l :: b => stEq a b
 | .r :: a, .r :: b => stEq a b
 | .a i :: a, .a j :: b => (stEq a b).map fun C => (i = j) :: C
 | _, _ => none
def pthEq : Pth → Pth → Option (List Prop)
 | [], [] => some []
 | (i, s) :: p, (j, t) :: q => match stEq s t, pthEq p q with
  | some C, some D => some ((i = j) :: (C ++ D))
  | _, _ => none
 | _, _ => none
def astorePend (h : Heap) (r s : Nat) (p : Pth) (i : Nat) (st : List St) (v : AV) : Out :=
 match hget h r with
 | some R => match R.pend, v with
  | some P, .osl r' s' P' none => if r' = r ∧ s' = R.cur ∧ R.valid s p.length = true ∧ R.fz = false then (match pthEq P (p ++ [(i, st)]), pthEq P' P with
   | some C, some D => .w (C ++ D) (.val undef) [(r, some { R with pend := none })] true
   | _, _ => .no) else .no
  | _, _ => .no
 | none => .no
def pendB (h : Heap) (r : Nat) : Bool := match hget h r with
 | some R => R.pend.isSome
 | none => false
def astoreX (E : Ctx) (h : Heap) (t : TypeId) (v : AV) (r off n i : Nat) : Out := match E.ty t, hget h r, v with
 | some ti, some R, .val (.int k y) => (match ti.tk, R.cont with
  | .int k', .cells cs => if ti.size = 1 ∧ off + n ≤ cs.length ∧ k = k' then (match intsOf k ((cs.drop off).take n) with
   | some l => .w [] (.val undef) [(r, some { R with cont := .cells (setCells cs off (selCells k i y 0 l)) })] true
   | none => .no) else .no
  | _, _ => .no)
 | _, _, _ => .no
def astore (E : Ctx) (h : Heap) (id : Nat) (t : TypeId) (v : AV) : AV → Out
 | .ref r off => match E.ty t, hget h r with
  | some i, some R => match R.cont with
   | .cells cs => if v.cells.length = i.size ∧ off + i.size ≤ cs.length ∧ v.cells.all AV.one = true then .w [] (.val undef) [(r, some { R with cont := .cells (setCells cs off v.cells) })] true else .no
   | _ => .no
  | _, _ => .no
 | .tref r s p i st => if pendB h r then (match E.ty t with
   | some { tk := .slice _, size := 1, .. } => astorePend h r s p i st v
   | _ => .no) else match E.ty t, rnode h r s p with
  | some ti, some N => match sGet N.n.S (N.n.xs.getD i (dz N.n.S)) st with
   | some u => if fits ti u.S && v.cells.all AV.one then (
    if N.m - p.length == 0 || u.S.flat then (match closeL h v.cells with
    | some (C, cs, ws) => if ws.all (fun x => x.1 != r) then (match toDen u.S cs with
     | some (y, []) => match pset N.d p i st ⟨u.S, y⟩ with
      | some x => match N.R.setD ⟨N.d.S, x⟩ with
       | some c => .w (C ++ (N.C ++ (i < N.n.xs.length) :: sOK N.n.S st)) (.val undef) (ws ++ [(r, some { N.R with cont := c })]) true
       | none => .no
      | none => .no
     | _ => .no) else .no
    | none => .no)
    else (match moveIn h (N.m - p.length - 1) u.S [] v.cells with
    | some (y, [], l) => if nodupB (r :: qcx l) && nodupB (l.map (·.st)) then (match pset N.d p i st ⟨u.S, y⟩ with
     | some x => match N.R.setD ⟨N.d.S, x⟩ with
      | some c => .w (N.C ++ (i < N.n.xs.length) :: sOK N.n.S st) (.val undef) (mvDel (qcx l) ++ [(r, some (N.R.rep (p.length + 1) id c))]) true
      | none => .no
     | none => .no) else .no
    | _ => .no)) else .no
   | none => .no
  | _, _ => .no
 | _ => .no
def afill (place : Nat → Option (Nat × Nat)) (cs : List AV) : List (Nat × AV) → Option (List AV)
 | [] => some cs
 | (i, v) :: rest => match place i with
  | none => none
  | some (off, size) => if v.cells.length = size ∧ off + size ≤ cs.length ∧ v.cells.all AV.one = true then afill place (setCells cs off v.cells) rest else none
def abuild (E : Ctx) (t : TypeId) (parts : List (Nat × AV)) : Option AV :=
 match E.ty t with
 | some { tk := .struct fs, zero := z, .. } => (afill (fun i => (fs[i]?).map fun f => (f.off, f.size)) (cvals z) parts).map .agg
 | some { tk := .arr _ e, zero := z, .. } => match E.ty e with
  | some i => (afill (fun j => some (j * i.size, i.size)) (cvals z) parts).map .agg
  | none => none
 | _ => none
def repCells (z : List Value) : Nat → List AV
 | 0 => []
 | n + 1 => cvals z ++ repCells z n
def elemsOf (S : Sh) : Nat → List AV → Option (List (Den S))
 | 0, cs => if cs.isEmpty then some [] else none
 | n + 1, cs => match toDen S cs with
  | some (x, cs) => (elemsOf S n cs).map fun l => x :: l
  | none => none
def Sh.dep : Sh → Nat
 | .pair a b => max a.dep b.dep
 | .arr _ a => a.dep
 | .sl _ a | .ptr a => a.dep + 1
 | _ => 0
def moveInL (h : Heap) (m : Nat) (S : Sh) : Nat → Nat → List AV → Option (List (Den S) × List (Nat × Mv))
 | 0, _, cs => if cs.isEmpty then some ([], []) else none
 | n + 1, j, cs => match moveIn h m S [] cs with
  | some (x, cs, l) => match moveInL h m S n (j + 1) cs with
   | some (xs, l') => some (x :: xs, l.map (fun e => (j, e)) ++ l')
   | none => none
  | none => none
def abuildSlice (E : Ctx) (h : Heap) (id lv : Nat) (t : TypeId) (len : Nat) (parts : List (Nat × AV)) : Out :=
 match E.ty t with
 | some { tk := .slice e, sh := some (.sl b S), .. } => match E.ty e with
  | some i => if len * i.size ≤ 16777216 ∧ i.zero.length = i.size ∧ 0 < i.size ∧ len * b ≤ roomB ∧ 0 < b ∧ i.size = S.size then (match afill (fun j => some (j * i.size, i.size)) (repCells i.zero len) parts with
   | some cs => if lv == 0 || S.flat then (match closeL h cs with
    | some (C, cs, ws) => match elemsOf S len cs with
     | some xs => .w C (.osl id id [] none) (ws ++ [(id, some (qcy id (.arr 0 b S xs)))]) false
     | none => .no
    | none => .no)
    else (match moveInL h (lv - 1) S len 0 cs with
    | some (xs, l) => if nodupB (qcx (l.map (·.2))) && nodupB (l.map fun e => (e.1, e.2.st)) then .w [] (.osl id id [] none) (mvDel (qcx (l.map (·.2))) ++ [(id, some (qcy id (.arr lv b S xs)))]) false else .no
    | none => .no)
   | none => .no) else .no
  | none => .no
 | _ => .no
def abuildCells (E : Ctx) (id : Nat) (t : TypeId) (len : Nat) (parts : List (Nat × AV)) : Out :=
 match E.ty t with
 | some { tk := .slice e, .. } => match E.ty e with
  | some i => if len * i.size ≤ 16777216 ∧ i.zero.length = i.size ∧ 0 < i.size ∧ 0 < len then (match afill (fun j => some (j * i.size, i.size)) (repCells i.zero len) parts with
   | some cs => .w [] (.csl id 0 len) [(id, some (qcy id (.cells cs)))] false
   | none => .no) else .no
  | none => .no
 | _ => .no
def asI : AV → Option Int
 | .val (.int _ n) => some n
 | _ => none
def asB : AV → Option Bool
 | .val (.bool b) => some b
 | _ => none
def amakeSlice (E : Ctx) (id lv : Nat) (t : TypeId) (n m : Int) : Out :=
 match E.ty t with
 | some { tk := .slice e, sh := some (.sl b S), .. } => match E.ty e with
  | some i => if i.sh = some S ∧ 0 < S.size ∧ i.bytes = b ∧ 0 < b then (match Nat.ble 100 lv with
   | true => .w [n ≤ m, 0 ≤ n, m.toNat * b ≤ roomB] (.osl id id [] none) [(id, some (qcy id (.arr (lv - 100) b S (List.replicate n.toNat (dz S)))))] false
   | false => .w [n = m, 0 ≤ n, n.toNat * b ≤ roomB] (.osl id id [] none) [(id, some (qcy id (.arr lv b S (List.replicate n.toNat (dz S)))))] false) else .no
  | none => .no
 | _ => .no
def sliceData (h : Heap) (b : Nat) (S : Sh) : AV → Option (List Prop × List (Den S) × List (Nat × Option Root))
 | .val (.slice none 0 0) => some ([], [], [])
 | a => match closeC h a with
  | some (C, .tv T x, ws) => (castD T (.sl b S) x).map fun y => (C, y, ws)
  | _ => none
def flatData (h : Heap) (b : Nat) (S : Sh) (a : AV) : Option (List Prop × List (Den S) × List (Nat × Option Root)) := match a with
 | .osl .. => match closeC h a with
  | some (C, .tv T x, _) => (castD T (.sl b S) x).map fun y => (C, y, [])
  | _ => none
 | a => sliceData h b S a
def srcData (h : Heap) (m b : Nat) (S : Sh) (a : AV) : Option (List Prop × List (Den S) × List (Nat × Option Root) × Option Nat) :=
 if S.flat then (flatData h b S a).map fun x => (x.1, x.2.1, x.2.2, none)
 else if m = 0 then (sliceData h b S a).map fun x => (x.1, x.2.1, x.2.2, none)
 else match a with
  | .val v => if isNilS v then some ([], [], [], none) else none
  | .osl r s [] none => match rdata h r s 0 with
   | some (_, m2, ⟨T, x⟩) => if m2 = m then (castD T (.sl b S) x).map fun y => ([], y, [(r, none)], some r) else none
   | none => none
  | _ => none
def plast : Pth → Option (Pth × Nat × List St)
 | [] => none
 | [(i, st)] => some ([], i, st)
 | x :: p => match plast p with | some (q, i, st) => some (x :: q, i, st) | none => none
def aappend (E : Ctx) (h : Heap) (id lv : Nat) (t : TypeId) (x y : AV) : Out :=
 match E.ty t with
 | some { tk := .slice e, sh := some (.sl b S), .. } => match E.ty e with
  | some i => if i.sh = some S ∧ 0 < S.size ∧ i.bytes = b ∧ 0 < b then (match x with
   | .val (.slice none 0 0) => (match srcData h lv b S y with
    | some (C, ys, ws, _) => .w (C ++ [ys.length * b ≤ roomB]) (.osl id id [] none) (ws ++ [(id, some (qcy id (.arr lv b S ys)))]) false
    | none => .no)
   | .osl r s p none => (match rnode h r s p with
    | some N => match (ngetT N.d p).bind fun u => castD u.S (.sl b S) u.x, srcData h (N.m - p.length) b S y with
     | some xs, some (C, ys, ws, _) => if ws.all (fun x => x.1 != r) then (match plast p with
      | none => .w (N.C ++ C ++ [(List.length xs + ys.length) * b ≤ roomB]) (.osl r id [] none) (ws ++ [(r, some (N.R.app 0 id (.arr N.m b S (List.append xs ys)) none))]) false
      | some (p0, i, st) => match pset N.d p0 i st ⟨.sl b S, List.append xs ys⟩ with
       | some x => match N.R.setD ⟨N.d.S, x⟩ with
        | some c => .w (N.C ++ C ++ [(List.length xs + ys.length) * b ≤ roomB]) (.osl r id p none) (ws ++ [(r, some (N.R.app p.length id c (some p)))]) false
        | none => .no
       | none => .no) else .no
     | _, _ => .no
    | none => .no)
   | _ => .no) else .no
  | none => .no
 | _ => .no
def lset {α : Type} (xs ys : List α) (o : Nat) : List α := xs.take o ++ (ys ++ xs.drop (o + ys.length))
def aclear (E : Ctx) (h : Heap) (t : TypeId) (x : AV) : Out := match E.ty t with
 | some { tk := .slice e, .. } => match E.ty e, x with
  | some ie, .osl r s [] win => match rdata h r s 0 with
   | some (R, m, ⟨.sl b S, xs⟩) => if ie.sh = some S ∧ 0 < S.size ∧ S.flat = true then .w [wlo win + wlen (List.length (α := Den S) xs) win ≤ List.length (α := Den S) xs] (.tup []) [(r, some { R with cont := .arr m b S (lset xs (List.replicate (wlen (List.length (α := Den S) xs) win) (dz S)) (wlo win)) })] false else .no
   | _ => .no
  | _, _ => .no
 | _ => .no
def aappIn (E : Ctx) (h : Heap) (t : TypeId) (x y : AV) : Out := match E.ty t with
 | some { tk := .slice e, .. } => match E.ty e, x, y with
  | some ie, .osl r s [] (some (0, i)), .osl r2 s2 [] (some (j, k)) => match rdata h r s 0 with
   | some (R, m, ⟨.sl b S, xs⟩) => if ie.sh = some S ∧ 0 < S.size ∧ S.flat = true ∧ r2 = r ∧ s2 = s then .w [i + k ≤ List.length (α := Den S) xs, j + k ≤ List.length (α := Den S) xs] (.osl r s [] (some (0, i + k))) [(r, some { R with cont := .arr m b S (lset xs ((xs.drop j).take k) i) })] false else .no
   | _ => .no
  | _, _, _ => .no
 | _ => .no
def fieldSt : Nat → List St
 | 0 => [.l]
 | n + 1 => .r :: fieldSt n
def afieldAddr (E : Ctx) (h : Heap) (s : TypeId) (f : Nat) (x : AV) : Option (List Prop × AV) :=
 match E.ty s with
 | some { tk := .struct fs, .. } => match fs[f]? with
  | some i => if i.size = 0 then none else match x with
   | .ref r off => some ([], .ref r (off + i.off))
   | .rop cs off => some ([], .rop cs (off + i.off))
   | .rtp S x => match sGet S x (fieldSt f), sAt S (fieldSt f) with
    | some u, some (_, o) => if o = i.off then some ([], .rtp u.S u.x) else none
    | _, _ => none
   | .tref r s p j st => match rnodeA h r s p with
    | some N => match sSh N.n.S st with
     | some T => match sAt T (fieldSt f) with
      | some (_, o) => if o = i.off then some (N.C, .tref r s p j (st ++ fieldSt f)) else none
      | none => none
     | none => none
    | none => none
   | _ => none
  | none => none
 | _ => none
def afield (E : Ctx) (t : TypeId) (f : Nat) (x : AV) : Option AV :=
 match E.ty t with
 | some { tk := .struct fs, .. } => match fs[f]? with
  | some i => match x with
   | .agg cs => if i.agg then (if i.off + i.size ≤ cs.length then some (.agg ((cs.drop i.off).take i.size)) else none) else cs[i.off]?
   | .tv S x => match sGet S x (fieldSt f), sAt S (fieldSt f) with
    | some u, some (_, o) => if o = i.off ∧ u.S.size = i.size ∧ u.S.isAgg = i.agg then some (avOf u.S u.x) else none
    | _, _ => none
   | _ => none
  | none => none
 | _ => none
def aindexAddr (E : Ctx) (h : Heap) (t : TypeId) (x : AV) (i : Int) : Option (List Prop × AV) :=
 match E.ty t with
 | some { tk := .arr n e, .. } => match E.ty e, x with
  | some ie, .ref r off => some ([0 ≤ i ∧ i < n], .ref r (off + i.toNat * ie.size))
  | some ie, .rop cs off => some ([0 ≤ i ∧ i < n], .rop cs (off + i.toNat * ie.size))
  | some ie, .rtp (.arr n' S) x => if n' = n ∧ S.size = ie.size then some ([0 ≤ i ∧ i < n], .rtp S (vget (dz S) n' x i.toNat)) else none
  | some ie, .tref r s p j st => match rnodeA h r s p with
   | some N => match sSh N.n.S st with
    | some (.arr n' S) => if n' = n ∧ S.size = ie.size then some (N.C ++ [0 ≤ i ∧ i < n], .tref r s p j (st ++ [.a i.toNat])) else none
    | _ => none
   | none => none
  | _, _ => none
 | some { tk := .slice e, .. } => match E.ty e, x with
  | some ie, .tv (.sl _ S) x => if ie.size = S.size then some ([0 ≤ i ∧ i < List.length (α := Den S) x], .rtp S (List.getD (α := Den S) x i.toNat (dz S))) else none
  | some ie, .osl r s p w => match rnodeA h r s p with
   | some N => if ie.size = N.n.S.size then some (N.C ++ [0 ≤ i ∧ i < wlen N.n.xs.length w], .tref r s p (woff w i.toNat) []) else none
   | none => none
  | some ie, .csl r off n => some ([0 ≤ i ∧ i < n], .ref r (off + i.toNat * ie.size))
  | _, _ => none
 | _ => none
def aindexX (E : Ctx) (t : TypeId) (x : AV) (i : Int) : Option (List Prop × AV) := match E.ty t, x with
 | some { tk := .arr n e, .. }, .ref r off => (match E.ty e with
  | some ie => if ie.size = 1 then some ([0 ≤ i ∧ i < n], .refx r off n i.toNat) else none
  | none => none)
 | _, _ => none
def aindex (E : Ctx) (t : TypeId) (x : AV) (i : Int) : Option (List Prop × AV) :=
 match E.ty t with
 | some { tk := .arr n e, .. } => match E.ty e, x with
  | some ie, .agg cs => match takeVar ie cs (i.toNat * ie.size) with
   | some a => some ([0 ≤ i ∧ i < n], a)
   | none => none
  | some ie, .tv (.arr n' S) x => if n' = n ∧ fits ie S then some ([0 ≤ i ∧ i < n], avOf S (vget (dz S) n' x i.toNat)) else none
  | _, _ => none
 | some { tk := .str, .. } => match x with
  | .val (.string s) => some ([0 ≤ i ∧ i < s.size], aint .u8 (((s[i.toNat]?).getD 0).toNat : Int))
  | _ => none
 | _ => none
def scalarK : TK → Sh → Bool
 | .int k, .int k' => decide (k = k')
 | .bool, .bool => true
 | .str, .str => true
 | _, _ => false
def keyD : (K : Sh) → Value → Option (Den K)
 | .int k, .int k' x => if k' = k then some x else none
 | .bool, .bool b => some b
 | .str, .string s => some s
 | _, _ => none
def flatD (V : Sh) : AV → Option (Den V)
 | .tv T x => castD T V x
 | .agg cs => if V.isAgg && qcm cs then (match toDen V cs with | some (x, []) => some x | _ => none) else none
 | .val v => keyD V v
 | _ => none
def zShape (P : Program) (t : TypeId) (S : Sh) : Bool := match P.info? t with
 | some ti => (match ti.zero with
  | some (.agg _) => S.isAgg
  | some _ => !S.isAgg
  | none => false)
 | none => false
structure MapT where
 K : Sh
 V : Sh
def mapT (E : Ctx) (t : TypeId) : Option MapT := match E.ty t with
 | some ti => (match ti.tk with
  | .map kt vt => (match E.ty kt, E.ty vt with
   | some ik, some iv => (match ik.sh, iv.sh with
    | some K, some V => if scalarK ik.tk K && V.flat && zShape E.P vt V then some ⟨K, V⟩ else none
    | _, _ => none)
   | _, _ => none)
  | _ => none)
 | none => none
def lookR (V : Sh) (o : Option (Den V)) (c : Bool) : AV := if c then .tup [avOf V (o.getD (dz V)), abool o.isSome] else avOf V (o.getD (dz V))
def mapAt (h : Heap) (r : Nat) (K V : Sh) : Option (Root × List (Den K × Den V)) := match hget h r with
 | some R => (match R.cont with
  | .obj (.map K' V' l) => (castD (.sl 0 (.pair K' V')) (.sl 0 (.pair K V)) l).map fun l => (R, l)
  | _ => none)
 | none => none
def alookup (E : Ctx) (h : Heap) (t : TypeId) (x y : AV) (c : Bool) : Option (List Prop × AV) := match mapT E t, y with
 | some M, .val k => (match keyD M.K k with
  | some k => (match x with
   | .mp r => (match mapAt h r M.K M.V with
    | some (_, l) => some ([], lookR M.V (mget l k) c)
    | none => none)
   | .val (.map none) => some ([], lookR M.V none c)
   | _ => none)
  | none => none)
 | _, _ => none
def amapUpd (E : Ctx) (h : Heap) (t : TypeId) (x y z : AV) : Out := match mapT E t, x, y with
 | some M, .mp r, .val k => (match keyD M.K k, flatD M.V z, mapAt h r M.K M.V with
  | some k, some v, some (R, l) => .w [] (.val undef) [(r, some { R with cont := .obj (.map M.K M.V (mput l k v)) })] true
  | _, _, _ => .no)
 | _, _, _ => .no
def mapT0 (E : Ctx) (t : TypeId) : Option MapT := match E.ty t with
 | some ti => (match ti.tk with
  | .map kt vt => (match E.ty kt, E.ty vt with
   | some ik, some iv => (match ik.sh, iv.sh with
    | some K, some V => some ⟨K, V⟩
    | _, _ => none)
   | _, _ => none)
  | _ => none)
 | none => none
def amakeMap (E : Ctx) (id : Nat) (t : TypeId) : Out := match mapT0 E t with
 | some M => .w [] (.mp id) [(id, some (qcy id (.obj (.map M.K M.V []))))] false
 | none => .no
def valsOf : List AV → Option (List Value)
 | [] => some []
 | .val v :: l => match valsOf l with | some vs => some (v :: vs) | none => none
 | _ => none
def aiface (E : Ctx) (t : TypeId) (x : AV) : Option AV := match E.ty t with
 | some { tk := .struct _, .. } => match x.expand with
  | .agg cs => match valsOf cs with
   | some vs => some (.val (.iface t (.agg vs.toArray)))
   | none => none
  | _ => none
 | _ => none
def aextract (n : Nat) : AV → Option AV
 | .tup vs => vs[n]?
 | _ => none
def alen (E : Ctx) (h : Heap) (t : TypeId) : AV → Option (List Prop × AV)
 | .tv (.sl _ S) x => match E.ty t with | some { tk := .slice _, .. } => some ([], aint .i64 (List.length (α := Den S) x : Nat)) | _ => none
 | .osl r s p w => match E.ty t, rnodeA h r s p with
  | some { tk := .slice _, .. }, some N => some (N.C, aint .i64 (wlen N.n.xs.length w : Nat))
  | _, _ => none
 | .val (.slice none 0 0) => match E.ty t with | some { tk := .slice _, .. } => some ([], aint .i64 0) | _ => none
 | .csl _ _ n => match E.ty t with | some { tk := .slice _, .. } => some ([], aint .i64 (n : Nat)) | _ => none
 | .val (.string s) => match E.ty t with | some { tk := .str, .. } => some ([], aint .i64 s.size) | _ => none
 | _ => none
def aslice (E : Ctx) (h : Heap) (t : TypeId) (x : AV) (lo hi mx : Option Int) : Option (List Prop × AV) :=
 match E.ty t with
 | some { tk := .str, .. } => match x, mx with
  | .val (.string s), none => some ([0 ≤ lo.getD 0 ∧ lo.getD 0 ≤ hi.getD s.size ∧ hi.getD s.size ≤ s.size], .val (.string (s.extract (lo.getD 0).toNat (hi.getD s.size).toNat)))
  | _, _ => none
 | some { tk := .slice e, .. } => match E.ty e, x with
  | some ie, .tv (.sl b S) x => if ie.size = S.size then (match mx with
   | some m => (match lo, hi with
    | none, some k => some ([k = List.length (α := Den S) x, m = List.length (α := Den S) x], .tv (.sl b S) x)
    | _, _ => none)
   | none => some ([0 ≤ lo.getD 0 ∧ lo.getD 0 ≤ hi.getD (List.length (α := Den S) x) ∧ hi.getD (List.length (α := Den S) x) ≤ List.length (α := Den S) x],
    .tv (.sl b S) (wins (α := Den S) x (some ((lo.getD 0).toNat, (hi.getD (List.length (α := Den S) x)).toNat - (lo.getD 0).toNat))))) else none
  | some ie, .osl r s p w => match rnodeA h r s p with
   | some N => if ie.size = N.n.S.size then (match lo, hi, mx, w with
    | none, some k, some m, none => some (N.C ++ [k = N.n.xs.length, m = N.n.xs.length], .osl r s p none)
    | some l, some k, some m, none => some (N.C ++ [0 ≤ l ∧ l ≤ k ∧ k ≤ m ∧ m ≤ N.n.xs.length], .bad)
    | lo, hi, none, none => some (N.C ++ [0 ≤ lo.getD 0 ∧ lo.getD 0 ≤ hi.getD N.n.xs.length ∧ hi.getD N.n.xs.length ≤ N.n.xs.length], .osl r s p (some ((lo.getD 0).toNat, (hi.getD N.n.xs.length).toNat - (lo.getD 0).toNat)))
    | lo, hi, none, some (l0, n0) => some (N.C ++ [0 ≤ lo.getD 0 ∧ lo.getD 0 ≤ hi.getD n0 ∧ (l0 : Int) + hi.getD n0 ≤ N.n.xs.length], .osl r s p (some (l0 + (lo.getD 0).toNat, (hi.getD n0).toNat - (lo.getD 0).toNat)))
    | _, _, _, _ => none) else none
   | none => none
  | _, _ => none
 | _ => none
def aclip (E : Ctx) (h : Heap) (id : Nat) (t : TypeId) (x : AV) (lo hi mx : Option Int) : Option (List Prop × AV × List (Nat × Option Root)) := match E.ty t with
 | some { tk := .slice e, .. } => match E.ty e, x, lo, hi, mx with
  | some ie, .osl r s [] (some (l0, n0)), none, some k, some m => match rdata h r s 0 with
   | some (R, m', ⟨.sl b S, xs⟩) => if ie.size = S.size ∧ (m' = 0 ∨ S.flat = true) then some ([k = n0, m = n0], .osl r id [] none, [(r, some (R.rep 0 id (.arr m' b S (wins xs (some (l0, n0))))))]) else none
   | _ => none
  | _, _, _, _, _ => none
 | _ => none
def asliceArr (E : Ctx) (h : Heap) (t : TypeId) (x : AV) : Option (List Prop × AV × List (Nat × Option Root)) := match E.ty t with
 | some { tk := .arr n e, .. } => match E.ty e with
  | some ie => match ie.sh with
   | some S => if 0 < n ∧ ie.size = S.size ∧ n * ie.bytes ≤ roomB ∧ n ≤ roomB then (match x with
    | .ref r 0 => (match closeC h (.ref r 0) with
     | some (C, .rop cs 0, ws) => (elemsOf S n cs).map fun xs => (C, .tv (.sl ie.bytes S) xs, ws)
     | _ => none)
    | _ => none) else none
   | none => none
  | none => none
 | _ => none
def amax : AV → List AV → Option AV
 | a, [] => some a
 | .val (.int k x), .val (.int k' y) :: r => if k = k' then amax (aint k (if y > x then y else x)) r else none
 | _, _ => none
def amin : AV → List AV → Option AV
 | a, [] => some a
 | .val (.int k x), .val (.int k' y) :: r => if k = k' then amin (aint k (if y < x then y else x)) r else none
 | _, _ => none
def oV : Option AV → Out
 | some a => .v [] a
 | none => .no
def oC : Option (List Prop × AV) → Out
 | some (c, a) => .v c a
 | none => .no
def optI (ρ : Operand → AV) : Option Operand → Option (Option Int)
 | none => some none
 | some x => (asI (ρ x)).map some
def adata (h : Heap) (id lv : Nat) (i : TI) (cs : List AV) : Out := match i.sh with
 | some S => if i.size = S.size ∧ 0 < S.size ∧ i.bytes ≤ roomB ∧ cs.all AV.one = true then (if lv == 0 then (match closeL h cs with
  | some (C, cs, ws) => match toDen S cs with
   | some (x, []) => .w C (.tref id id [] 0 []) (ws ++ [(id, some (qcy id (.arr 0 i.bytes S [x])))]) false
   | _ => .no
  | none => .no)
  else (match moveIn h (lv - 1) S [] cs with
  | some (x, [], l) => if nodupB (qcx l) && nodupB (l.map (·.st)) then .w [] (.tref id id [] 0 []) (mvDel (qcx l) ++ [(id, some (qcy id (.arr lv i.bytes S [x])))]) false else .no
  | _ => .no)) else .no
 | none => .no
def abox (id : Nat) (ro : Bool) (x : AV) : Out :=
 if ro && x.closed then (match x with
  | .tv S x => .w [] (.rtp S x) [] false
  | .val v => if (AV.val v).one then .w [] (.rop [.val v] 0) [] false else .no
  | .agg cs => if cs.all AV.one then .w [] (.rop cs 0) [] false else .no
  | .fn f cs => .w [] (.rop [.fn f cs] 0) [] false
  | .rop cs off => .w [] (.rop [.rop cs off] 0) [] false
  | .rtp S x => .w [] (.rop [.rtp S x] 0) [] false
  | _ => .no)
 else if x.cells.all AV.one = true then .w [] (.ref id 0) [(id, some (qcy id (.cells x.cells)))] false else .no
def aop1 (E : Ctx) (h : Heap) (id si : Nat) (ρ : Operand → AV) (op : Op) : Out :=
 match op with
 | .move x | .assign x => .v [] (ρ x)
 | .pick .. => .no
 | .alloc t => match E.ty t with | some i => if si == 2 || decide (100 ≤ si) then adata h id (si - 100) i (cvals i.zero) else .w [] (.ref id 0) [(id, some (qcy id (.cells (cvals i.zero))))] false | none => .no
 | .box t x => match E.ty t with | some i => if si == 2 || decide (100 ≤ si) then adata h id (si - 100) i (ρ x).cells else abox id (si == 1) (ρ x) | none => .no
 | .build t parts => oV (abuild E t (parts.toList.map fun (i, x) => (i, ρ x)))
 | .buildSlice t len parts => if si == 3 then abuildCells E id t len (parts.toList.map fun (i, x) => (i, ρ x)) else abuildSlice E h id (si - 10) t len (parts.toList.map fun (i, x) => (i, ρ x))
 | .makeSlice t len cap => match asI (ρ len), asI (ρ cap) with
  | some n, some m => amakeSlice E id (si - 10) t n m
  | _, _ => .no
 | .load t a => (match ρ a with
  | .refx r off n i => oC (aloadX E h t r off n i)
  | A => oC (aload E h t A))
 | .store t a x => (match ρ a with
  | .refx r off n i => astoreX E h t (ρ x) r off n i
  | A => astore E h id t (ρ x) A)
 | .nilCheck x => match ρ x with
  | .ref r o => .v [] (.ref r o)
  | .rop cs o => .v [] (.rop cs o)
  | .rtp S x => .v [] (.rtp S x)
  | .tref r s p i st => .v [] (.tref r s p i st)
  | .optr r s p => (match rnodeA h r s p with
   | some N => .v (N.C ++ [0 < N.n.xs.length]) (.tref r s p 0 [])
   | none => .no)
  | .tv (.ptr S) z => .v [Option.isNone (α := Den S) z = false] (.rtp S (Option.getD (α := Den S) z (dz S)))
  | _ => .no
 | .binOp o t x y _ => match anil E o t (ρ x) (ρ y) with
  | some P => .any P
  | none => match aptr E h o t (ρ x) (ρ y) with
   | some (C, a) => .v C a
   | none => oC (abin E o t (ρ x) (ρ y))
 | .unOp o _ x => oC (aun o (ρ x))
 | .convert s d x => oC (aconv E s d (ρ x))
 | .makeFunc (.func f) first caps => match Nat.blt f bndB with
  | true => if first.isEmpty then .v [] (.fn f (caps.toList.map ρ)) else if caps.isEmpty then .v [] (.fn (f + bndB) (first.toList.map ρ)) else .no
  | false => .no
 | .fieldAddr s x f => oC (afieldAddr E h s f (ρ x))
 | .field t x f => oV (afield E t f (ρ x))
 | .indexAddr t x i => match asI (ρ i) with | some n => if si == 4 then oC (aindexX E t (ρ x) n) else oC (aindexAddr E h t (ρ x) n) | none => .no
 | .lookup t x y c => oC (alookup E h t (ρ x) (ρ y) c)
 | .mapUpdate t x y z | .insert t x y z => amapUpd E h t (ρ x) (ρ y) (ρ z)
 | .makeMap t none => amakeMap E id t
 | .index t x i => match asI (ρ i) with | some n => oC (aindex E t (ρ x) n) | none => .no
 | .slice t x lo hi mx => match optI ρ lo, optI ρ hi, optI ρ mx with
  | some lo, some hi, some mx => (match aclip E h id t (ρ x) lo hi mx with
   | some (C, a, ws) => .w C a ws false
   | none => (match lo.isNone && hi.isNone && mx.isNone, asliceArr E h t (ρ x) with
    | true, some (C, a, ws) => .w C a ws false
    | _, _ => oC (aslice E h t (ρ x) lo hi mx)))
  | _, _, _ => .no
 | .extract t i => oV (aextract i (ρ t))
 | .range t x => match E.ty t, ρ x with
  | some { tk := .str, .. }, .val (.string s) => .w [] (.ref id 0) [(id, some (qcy id (.obj (.iter s 0))))] false
  | _, _ => .no
 | .makeInterface t x => oV (aiface E t (ρ x))
 | .call { callee := .value f, args, .. } => match ρ f with
  | .fn g caps => (match Nat.blt g bndB with
   | true => .call g (args.toList.map ρ ++ caps)
   | false => .call (unB g) (caps ++ args.toList.map ρ))
  | _ => .no
 | .call { callee := .builtin .len, args, argTypes } => match argTypes[0]?, args[0]? with
  | some t, some x => oC (alen E h t (ρ x))
  | _, _ => .no
 | .call { callee := .builtin .append, args, argTypes } => match argTypes[0]?, argTypes[1]?, args.toList with
  | some t, some u, [x, y] => if t = u then (match ρ x with
   | .osl _ _ [] (some _) => aappIn E h t (ρ x) (ρ y)
   | _ => aappend E h id (si - 10) t (ρ x) (ρ y)) else .no
  | _, _, _ => .no
 | .call { callee := .builtin .clear, args, argTypes } => match argTypes[0]?, args.toList with
  | some t, [x] => aclear E h t (ρ x)
  | _, _ => .no
 | .call { callee := .builtin .max, args, .. } => match args.toList with | x :: r => oV (amax (ρ x) (r.map ρ)) | [] => .no
 | .call { callee := .builtin .min, args, .. } => match args.toList with | x :: r => oV (amin (ρ x) (r.map ρ)) | [] => .no
 | _ => .no
def aop (E : Ctx) (h : Heap) (id si : Nat) (ρ : Operand → AV) (op : Op) : Out := aop1 E h id si (fun x => norm h (ρ x)) op
def siteOp (E : Ctx) (f : FuncId) : Option Nat → Nat
 | some d => E.site f d
 | none => 0
end Go.BE
namespace Go.BE
def FIOK (P : Program) (f : FI) (g : Field) : Prop :=
 g.offset = f.off ∧ (∃ ti, P.info? g.type = some ti ∧ ti.size = f.size) ∧ ∃ d, P.underlying g.type = some d ∧ isAggD d = f.agg
def TKOK (P : Program) : TK → TypeDesc → Prop
 | .int k, d => d = .int k
 | .bool, d => d = .bool
 | .str, d => d = .string
 | .ptr e, d => d = .pointer e
 | .slice e, d => d = .slice e
 | .arr n e, d => d = .array n e
 | .struct fs, d => ∃ gs, d = .struct gs ∧ fs.length = gs.size ∧ ∀ (j : Nat) f, fs[j]? = some f → ∃ g, gs[j]? = some g ∧ FIOK P f g
 | .map k e, d => d = .map k e
 | .other, d => isAggD d = false
def zvals : Sh → List Value
 | .int k => [.int k 0]
 | .bool => [.bool false]
 | .str => [.string ByteArray.empty]
 | .unit => []
 | .pair a b => zvals a ++ zvals b
 | .arr n a => (List.replicate n (zvals a)).flatten
 | .sl _ _ => [.slice none 0 0]
 | .ptr _ => [.pointer none]
structure TIOK (P : Program) (t : TypeId) (i : TI) : Prop where
 info : ∃ ti, P.info? t = some ti ∧ ti.size = i.size ∧ ti.bytes = i.bytes ∧ ∃ z, ti.zero = some z ∧ z.cells.toList = i.zero
 desc : ∃ d, P.underlying t = some d ∧ TKOK P i.tk d
 sh : ∀ S, i.sh = some S → S.size = i.size ∧ zvals S = i.zero ∧ S.isAgg = i.isAgg
def TyOK (P : Program) (ty : Ty) : Prop := ∀ t i, ty t = some i → TIOK P t i
theorem TKOK.isAgg {P : Program} {i : TI} {d : TypeDesc} (h : TKOK P i.tk d) : isAggD d = i.isAgg := by
 unfold TI.isAgg
 cases hk : i.tk <;> simp only [hk, TKOK] at h ⊢ <;> first | (subst h; rfl) | (obtain ⟨gs, rfl, _⟩ := h; rfl) | exact h

section
variable {P : Program} {w : World}
theorem run_typeInfo' {t : TypeId} {ti : TypeInfo} (h : P.info? t = some ti) : (typeInfo t).run P w = .ok ti w := by simp [typeInfo, h]
theorem qaw {t : TypeId} {ti : TypeInfo} {n : Nat} (h : P.info? t = some ti) (hn : ti.size = n) : (sizeOf t).run P w = .ok n w := by simp [sizeOf, run_typeInfo' h, hn]
theorem qep {t : TypeId} {ti : TypeInfo} {z : Value} (h : P.info? t = some ti) (hz : ti.zero = some z) : (zeroValue t).run P w = .ok z w := by simp [zeroValue, run_typeInfo' h, hz]
theorem run_isAgg' {t : TypeId} {d : TypeDesc} (h : P.underlying t = some d) : (isAgg t).run P w = .ok (isAggD d) w := by
 simp only [isAgg, Sem.run_bind, run_underlying h, Result.andThen_ok]
 cases d <;> rfl
theorem qee (b o n : Nat) : (⟨b, o, none⟩ : Addr).add n = ⟨b, o + n, none⟩ := by unfold Addr.add; split <;> simp_all
theorem run_loadCellsFrom (b o : Nat) (vs : List Value) : ∀ (i : Nat) (acc : Array Value), (∀ (j : Nat) v, vs[j]? = some v → qfv w b (o + (i + j)) v) →
  (loadCellsFrom ⟨b, o, none⟩ i vs.length acc).run P w = .ok (acc ++ vs.toArray) w := by
 induction vs with
 | nil => intro i acc _; simp [loadCellsFrom]
 | cons v vs ih =>
  intro i acc h
  have h0 := h 0 v rfl
  simp only [Nat.add_zero, qfv] at h0
  simp only [List.length_cons, loadCellsFrom, Sem.run_bind, qee, run_load, h0, Result.andThen_ok]
  rw [ih (i + 1) (acc.push v) (fun j u hj => by have := h (j + 1) u (by simpa using hj); rwa [show i + (j + 1) = i + 1 + j from by omega] at this)]
  simp
theorem run_loadCells (b o : Nat) (vs : List Value) (h : ∀ (j : Nat) v, vs[j]? = some v → qfv w b (o + j) v) :
  (loadCells ⟨b, o, none⟩ vs.length).run P w = .ok vs.toArray w := by
 simp only [loadCells]
 rw [run_loadCellsFrom b o vs 0 #[] (fun j v hj => by simpa using h j v hj)]
 simp
end


theorem has_wrap (k : IntKind) (n : Int) : k.has (k.wrap n) := wrap_within k n
theorem k_min (k : IntKind) : k.min ≤ 0 := by cases k <;> decide
theorem k_max (k : IntKind) : 0 ≤ k.max := by cases k <;> decide
theorem has_tmod {k : IntKind} {a : Int} (b : Int) (h : k.has a) : k.has (a.tmod b) := by
 obtain ⟨h1, h2⟩ := h
 have h3 := k_min k
 have h4 := k_max k
 have key : (a.tmod b).natAbs ≤ a.natAbs := by rw [Int.natAbs_tmod]; exact Nat.mod_le _ _
 rcases Int.le_total 0 a with ha | ha
 ·have := Int.tmod_nonneg b ha
  constructor <;> omega
 ·have : 0 ≤ (-a).tmod b := Int.tmod_nonneg b (by omega)
  rw [Int.neg_tmod] at this
  constructor <;> omega
theorem has_shr {k : IntKind} {a : Int} (n : Nat) (h : k.has a) : k.has (a.fdiv (2 ^ n)) := by
 obtain ⟨h1, h2⟩ := h
 have h3 := k_min k
 have h4 := k_max k
 have hp : (1 : Int) ≤ 2 ^ n := by have : 0 < (2 : Int) ^ n := Int.pow_pos (by decide); omega
 rw [Int.fdiv_eq_ediv_of_nonneg _ (by omega)]
 rcases Int.le_total 0 a with ha | ha
 ·have e1 := Int.ediv_nonneg ha (show (0 : Int) ≤ 2 ^ n by omega)
  have e2 := Int.ediv_le_self (2 ^ n) ha
  constructor <;> omega
 ·have e1 : a ≤ a / 2 ^ n := by
   rw [Int.le_ediv_iff_mul_le (by omega)]
   have := Int.mul_le_mul_of_nonpos_left ha hp
   rwa [Int.mul_one] at this
  have e2 : a / 2 ^ n < 1 := Int.ediv_lt_of_lt_mul (by omega) (by omega)
  constructor <;> omega
section
variable {P : Program} {E : Ctx} {w : World} {Z : Nat → Prop} {γ : Gst} {h : Heap} {a A : AV} {v V : Value}
theorem VR.val_inv {u : Value} (h : VR w Z γ (.val u) v) : v = u := by
 cases h with
 | cr h => cases h; rfl
theorem VR.val_ok {u : Value} (h : VR w Z γ (.val u) v) : okV u := by
 cases h with
 | cr h => cases h; assumption
theorem VR.expand (h : VR w Z γ a v) : VR w Z γ a.expand v := by
 cases a with
 | tv S x =>
  simp only [AV.expand]
  split
  ·rename_i hS
   cases h with
   | cr h =>
    cases h with
    | tva _ _ vs _ h =>
     have hc := h.cells (γ := γ)
     exact .agg _ _ (by have := hc.1; simpa using this) (fun j x y hx hy => hc.2 j x y hx (by simpa using hy))
    | tv1 _ _ _ hS' _ => rw [hS] at hS'; cases hS'
  ·exact h
 | _ => exact h
theorem VR.int_inv {k : IntKind} {n : Int} (h : VR w Z γ (.val (.int k n)) v) : v = .int k n := h.val_inv
theorem ashift_sound {op : BinOp} {k k' : IntKind} {x y : Int} {C : List Prop} (hx : k.has x) (he : ashift op k x y = some (C, a)) (hC : AllP C) :
  ∃ v, (Op.shift op k x k' y).run P w = .ok v w ∧ VR w Z γ a v := by
 unfold ashift at he
 split at he
 ·injection he with he; injection he with h1 h2; subst h1; subst h2
  have hy : ¬ y < 0 := by simp [AllP] at hC; omega
  exact ⟨_, by simp only [Op.shift, hy, if_false, Sem.run_pure], .cr (.val _ (has_wrap _ _))⟩
 ·injection he with he; injection he with h1 h2; subst h1; subst h2
  have hy : ¬ y < 0 := by simp [AllP] at hC; omega
  exact ⟨_, by simp only [Op.shift, hy, if_false, Sem.run_pure], .cr (.val _ (has_shr _ hx))⟩
 ·cases he
theorem qfp {C : List Prop} {x : AV} (he : okv x = some (C, a)) : a = x := by
 unfold okv at he
 injection he with he
 injection he with h1 h2
 exact h2.symm
theorem aarith_sound {op : BinOp} {t : TypeId} {k : IntKind} {x y : Int} {C : List Prop} (hs : isShift op = false) (hx : k.has x) (he : aarith op k x y = some (C, a)) (hC : AllP C) :
  ∃ v, (binOp op t (.int k x) (.int k y)).run P w = .ok v w ∧ VR w Z γ a v := by
 unfold aarith at he
 cases op <;> simp only [isShift, Bool.true_eq_false] at hs <;> simp only at he
 case quo =>
  injection he with he; injection he with h1 h2; subst h1; subst h2
  have hy : ¬ y = 0 := by simpa [AllP] using hC
  exact ⟨_, by simp only [binOp, Op.intDiv, hy, ne_eq, not_true_eq_false, if_false, Sem.run_pure], .cr (.val _ (has_wrap _ _))⟩
 case rem =>
  injection he with he; injection he with h1 h2; subst h1; subst h2
  have hy : ¬ y = 0 := by simpa [AllP] using hC
  exact ⟨_, by simp only [binOp, Op.intDiv, hy, ne_eq, not_true_eq_false, if_false, Sem.run_pure], .cr (.val _ (has_tmod _ hx))⟩
 all_goals
  obtain rfl := qfp he
  exact ⟨_, by simp only [binOp, ne_eq, not_true_eq_false, if_false, Op.intArith, Op.intBits, Op.intCmp, Sem.run_pure], .cr (.val _ (by first | exact has_wrap _ _ | trivial))⟩
theorem eqGuard_int {op : BinOp} {t : TypeId} {x y : Operand} {k k' : IntKind} {m n : Int} : eqGuard op t x y (.int k m) (.int k' n) = pure () := by cases op <;> rfl
theorem eqGuard_bool {op : BinOp} {t : TypeId} {x y : Operand} {m n : Bool} : eqGuard op t x y (.bool m) (.bool n) = pure () := by cases op <;> rfl
theorem eqGuard_string {op : BinOp} {t : TypeId} {x y : Operand} {m n : ByteArray} : eqGuard op t x y (.string m) (.string n) = pure () := by cases op <;> rfl
theorem equalIn_bool (d : Nat) {t : TypeId} {x y : Bool} (h : P.underlying t = some .bool) : (Op.equalIn (d + 1) t (.bool x) (.bool y)).run P w = .ok (x == y) w := by
 simp only [Op.equalIn, Sem.run_bind, run_underlying h, Result.andThen_ok, Sem.run_pure]
theorem equal_bool {t : TypeId} {x y : Bool} (h : P.underlying t = some .bool) : (Op.equal t (.bool x) (.bool y)).run P w = .ok (x == y) w := equalIn_bool 9999 h
theorem run_part' {t : TypeId} {cs : List AV} {arr : Array Value} {off : Nat} (hr : VRs w Z γ cs arr.toList) (he : apart P t cs off = some a) : ∃ v, (part t arr off).run P w = .ok v w ∧ VR w Z γ a v := by
 unfold apart at he
 split at he
 ·rename_i d ti h3 h1
  simp only [part, Sem.run_bind, run_isAgg' h3, Result.andThen_ok]
  cases hg : isAggD d
  ·rw [hg] at he
   simp only [Bool.false_eq_true, if_false] at he ⊢
   obtain ⟨v, hv, hr⟩ := hr.get he
   rw [Array.getElem?_toList] at hv
   exact ⟨v, by simp [hv], hr⟩
  ·rw [hg] at he
   simp only [if_true] at he ⊢
   split at he
   ·injection he with he
    subst he
    refine ⟨.agg (arr.extract off (off + ti.size)), by simp only [Sem.run_bind, qaw h1 rfl, Result.andThen_ok, Sem.run_pure], ?_⟩
    have h5 := (hr.drop off).take ti.size
    have h6 : (arr.extract off (off + ti.size)).toList = (arr.toList.drop off).take ti.size := by simp [List.extract_eq_take_drop]
    exact .agg _ _ (by have := h5.1; rwa [← h6, Array.length_toList] at this) (fun j x y hx hy => h5.2 j x y hx (by rwa [← h6, Array.getElem?_toList]))
   ·cases he
 ·cases he
theorem run_forIn_all {α : Type} (q : α → Bool) (step : α → Option Bool × Unit → Sem (ForInStep (Option Bool × Unit))) : ∀ l : List α, (∀ f ∈ l, ∀ s, (step f s).run P w = .ok (if q f then .yield (none, ()) else .done (some false, ())) w) →
  (forIn l (none, ()) step).run P w = .ok (if l.all q then (none, ()) else (some false, ())) w
 | [], _ => by simp
 | f :: l, h => by
  rw [List.forIn_cons, Sem.run_bind, h f (by simp), Result.andThen_ok]
  cases hq : q f
  ·simp [hq]
  ·simp only [if_true, List.all_cons, hq, Bool.true_and]
   exact run_forIn_all q step l fun g hg s => h g (by simp [hg]) s
theorem aeqPart_sound {eq : TypeId → AV → AV → Option Bool} {d : Nat} (hd : ∀ t A B b V U, eq t A B = some b → VR w Z γ A V → VR w Z γ B U → (Op.equalIn d t V U).run P w = .ok b w) {t : TypeId} {cs ds : List AV} {xs ys : Array Value} {off : Nat} {b : Bool}
  (hx : VRs w Z γ cs xs.toList) (hy : VRs w Z γ ds ys.toList) (he : aeqPart eq P t cs ds off = some b) : ∃ u v, (part t xs off).run P w = .ok u w ∧ (part t ys off).run P w = .ok v w ∧ (Op.equalIn d t u v).run P w = .ok b w := by
 unfold aeqPart at he
 split at he
 ·rename_i A B hA hB
  obtain ⟨u, h1, h2⟩ := run_part' hx hA
  obtain ⟨v, h3, h4⟩ := run_part' hy hB
  exact ⟨u, v, h1, h3, hd t A B b u v he h2 h4⟩
 ·cases he
theorem VR.agg_inv' {cs : List AV} (h : VR w Z γ (.agg cs) v) : ∃ arr, v = .agg arr ∧ VRs w Z γ cs arr.toList := by
 cases h with
 | cr h =>
  cases h with
  | agg cs vs hl hrel => exact ⟨vs, rfl, by simpa using hl, fun j x y hx hy => .cr (hrel j x y hx (by simpa using hy))⟩
 | agg cs vs hl hrel => exact ⟨vs, rfl, by simpa using hl, fun j x y hx hy => hrel j x y hx (by simpa using hy)⟩
theorem fields_sound {eq : TypeId → AV → AV → Option Bool} {d : Nat} (hd : ∀ t A B b V U, eq t A B = some b → VR w Z γ A V → VR w Z γ B U → (Op.equalIn d t V U).run P w = .ok b w) {cs ds : List AV} {xs ys : Array Value}
  (hx : VRs w Z γ cs xs.toList) (hy : VRs w Z γ ds ys.toList) : ∀ {fs : List Field} {b : Bool}, aeqFields eq P cs ds fs = some b → ∃ q : Field → Bool, fs.all q = b ∧ ∀ f ∈ fs, (f.name = "_" ∧ q f = true) ∨
   (f.name ≠ "_" ∧ ∃ u v, (part f.type xs f.offset).run P w = .ok u w ∧ (part f.type ys f.offset).run P w = .ok v w ∧ (Op.equalIn d f.type u v).run P w = .ok (q f) w)
 | [], b, he => ⟨fun _ => true, by simpa [aeqFields] using he, fun f hf => by cases hf⟩
 | f :: fs, b, he => by
  refine ⟨fun g => if g.name = "_" then true else (aeqPart eq P g.type cs ds g.offset).getD true, ?_⟩
  have key : ∀ {fs : List Field} {b : Bool}, aeqFields eq P cs ds fs = some b → fs.all (fun g => if g.name = "_" then true else (aeqPart eq P g.type cs ds g.offset).getD true) = b ∧
    ∀ g ∈ fs, g.name ≠ "_" → ∃ b, aeqPart eq P g.type cs ds g.offset = some b := by
   intro fs
   induction fs with
   | nil => intro b he; exact ⟨by simpa [aeqFields] using he, fun g hg => by cases hg⟩
   | cons g fs ih =>
    intro b he
    simp only [aeqFields] at he
    split at he
    ·rename_i hn
     obtain ⟨h1, h2⟩ := ih he
     refine ⟨by simp only [List.all_cons, hn, if_true, Bool.true_and]; exact h1, fun k hk hkn => ?_⟩
     simp only [List.mem_cons] at hk
     rcases hk with rfl | hk
     ·exact absurd hn hkn
     ·exact h2 k hk hkn
    ·rename_i hn
     split at he
     ·rename_i x y hx' hy'
      injection he with he
      subst he
      obtain ⟨h1, h2⟩ := ih hy'
      refine ⟨by simp only [List.all_cons, hn, if_false, hx', Option.getD_some]; rw [h1], fun k hk hkn => ?_⟩
      simp only [List.mem_cons] at hk
      rcases hk with rfl | hk
      ·exact ⟨x, hx'⟩
      ·exact h2 k hk hkn
     ·cases he
  obtain ⟨h1, h2⟩ := key he
  refine ⟨h1, fun g hg => ?_⟩
  by_cases hn : g.name = "_"
  ·exact .inl ⟨hn, by simp [hn]⟩
  ·obtain ⟨b', hb'⟩ := h2 g hg hn
   obtain ⟨u, v, e1, e2, e3⟩ := aeqPart_sound hd hx hy hb'
   exact .inr ⟨hn, u, v, e1, e2, by simpa [hn, hb'] using e3⟩
theorem elems_sound {eq : TypeId → AV → AV → Option Bool} {d : Nat} (hd : ∀ t A B b V U, eq t A B = some b → VR w Z γ A V → VR w Z γ B U → (Op.equalIn d t V U).run P w = .ok b w) {cs ds : List AV} {xs ys : Array Value} {e m : Nat}
  (hx : VRs w Z γ cs xs.toList) (hy : VRs w Z γ ds ys.toList) : ∀ {n i : Nat} {b : Bool}, aeqElems eq P e m cs ds n i = some b → (List.range' i n).all (fun j => (aeqPart eq P e cs ds (j * m)).getD true) = b ∧
   ∀ j ∈ List.range' i n, ∃ u v, (part e xs (j * m)).run P w = .ok u w ∧ (part e ys (j * m)).run P w = .ok v w ∧ (Op.equalIn d e u v).run P w = .ok ((aeqPart eq P e cs ds (j * m)).getD true) w
 | 0, i, b, he => ⟨by simpa [aeqElems] using he, fun j hj => by simp at hj⟩
 | n + 1, i, b, he => by
  simp only [aeqElems] at he
  split at he
  ·rename_i x y hx' hy'
   injection he with he
   subst he
   obtain ⟨h1, h2⟩ := elems_sound hd hx hy hy'
   rw [List.range'_succ]
   refine ⟨by simp only [List.all_cons, hx', Option.getD_some]; rw [h1], fun j hj => ?_⟩
   simp only [List.mem_cons] at hj
   rcases hj with rfl | hj
   ·obtain ⟨u, v, e1, e2, e3⟩ := aeqPart_sound hd hx hy hx'
    exact ⟨u, v, e1, e2, by rw [hx']; exact e3⟩
   ·exact h2 j hj
  ·cases he
theorem aeqT_sound : ∀ (d D : Nat), d ≤ D → ∀ (t : TypeId) (A B : AV) (b : Bool) (V U : Value), aeqT P d t A B = some b → VR w Z γ A V → VR w Z γ B U → (Op.equalIn D t V U).run P w = .ok b w
 | 0, D, _, t, A, B, b, V, U, he, _, _ => by simp [aeqT] at he
 | d + 1, 0, hD, _, _, _, _, _, _, _, _, _ => by omega
 | d + 1, D + 1, hD, t, A, B, b, V, U, he, hA, hB => by
  have ih := aeqT_sound d D (by omega)
  unfold aeqT at he
  split at he
  ·rename_i hu
   obtain rfl := hA.val_inv
   obtain rfl := hB.val_inv
   injection he with he
   subst he
   simp only [Op.equalIn, Sem.run_bind, run_underlying hu, Result.andThen_ok, Sem.run_pure]
  ·rename_i hu
   obtain rfl := hA.val_inv
   obtain rfl := hB.val_inv
   split at he
   ·rename_i hk
    injection he with he
    subst he
    simp only [Op.equalIn, Sem.run_bind, run_underlying hu, Result.andThen_ok, hk, if_true, Sem.run_pure]
   ·cases he
  ·rename_i hu
   obtain rfl := hA.val_inv
   obtain rfl := hB.val_inv
   injection he with he
   subst he
   simp only [Op.equalIn, Sem.run_bind, run_underlying hu, Result.andThen_ok, Sem.run_pure]
  ·rename_i fs cs ds hu
   obtain ⟨xs, rfl, hx⟩ := hA.agg_inv'
   obtain ⟨ys, rfl, hy⟩ := hB.agg_inv'
   split at he
   ·cases he
   ·rename_i hs
    obtain ⟨q, hq, hall⟩ := fields_sound ih hx hy he
    have hloop := run_forIn_all (P := P) (w := w) q (fun f s => if f.name ≠ "_" then (do
      let a ← part f.type xs f.offset
      let b ← part f.type ys f.offset
      let r ← Op.equalIn D f.type a b
      if (!r) = true then pure (ForInStep.done (some false, ())) else pure (ForInStep.yield (none, ()))) else pure (ForInStep.yield (none, ()))) fs.toList (fun f hf s => by
     rcases hall f hf with ⟨hn, h2⟩ | ⟨hn, u, v, e1, e2, e3⟩
     ·simp [hn, h2]
     ·simp only [ne_eq, hn, not_false_eq_true, if_true, Sem.run_bind, e1, e2, e3, Result.andThen_ok]
      cases q f <;> rfl)
    rw [Array.forIn_toList] at hloop
    have hprog : (program).run P w = .ok P w := rfl
    simp only [Op.equalIn, Sem.run_bind, run_underlying hu, Result.andThen_ok, hprog, hs, Bool.false_eq_true, if_false, hloop, hq]
    cases b <;> rfl
  ·rename_i n e cs ds hu
   obtain ⟨xs, rfl, hx⟩ := hA.agg_inv'
   obtain ⟨ys, rfl, hy⟩ := hB.agg_inv'
   split at he
   ·rename_i ti hti
    obtain ⟨hq, hall⟩ := elems_sound ih hx hy he
    have hloop := run_forIn_all (P := P) (w := w) (fun j => (aeqPart (aeqT P d) P e cs ds (j * ti.size)).getD true) (fun i s => (do
      let a ← part e xs (i * ti.size)
      let b ← part e ys (i * ti.size)
      let r ← Op.equalIn D e a b
      if (!r) = true then pure (ForInStep.done (some false, ())) else pure (ForInStep.yield (none, ())))) (List.range' 0 n) (fun f hf s => by
     obtain ⟨u, v, e1, e2, e3⟩ := hall f hf
     simp only [Sem.run_bind, e1, e2, e3, Result.andThen_ok]
     cases (aeqPart (aeqT P d) P e cs ds (f * ti.size)).getD true <;> rfl)
    simp only [Op.equalIn, Sem.run_bind, run_underlying hu, Result.andThen_ok, qaw hti rfl, Std.Legacy.Range.forIn_eq_forIn_range', Std.Legacy.Range.size, Nat.sub_zero, Nat.add_sub_cancel, Nat.div_one]
    rw [hloop, hq]
    cases b <;> rfl
   ·cases he
  ·cases he
theorem aeqAgg_sound {t : TypeId} {cs ds : List AV} {b : Bool} (he : aeqAgg P t (.agg cs) (.agg ds) = some b) (hA : VR w Z γ (.agg cs) V) (hB : VR w Z γ (.agg ds) v) (op : BinOp) (xo yo : Operand) : (eqGuard op t xo yo V v).run P w = .ok () w ∧ (Op.equal t V v).run P w = .ok b w := by
 unfold aeqAgg at he
 split at he
 ·cases he
 ·rename_i hg
  refine ⟨?_, aeqT_sound 8 10000 (by decide) t _ _ b V v he hA hB⟩
  obtain ⟨xs, rfl, _⟩ := hA.agg_inv'
  obtain ⟨ys, rfl, _⟩ := hB.agg_inv'
  have hprog : (program).run P w = .ok P w := rfl
  unfold eqGuard
  cases op <;> simp [hprog, hg]
theorem abin_sound (hT : TyOK E.P E.ty) {op : BinOp} {t : TypeId} {xo yo : Operand} {B : AV} {U : Value} {C : List Prop} (he : abin E op t A B = some (C, a)) (hC : AllP C) (hA : VR w Z γ A V) (hB : VR w Z γ B U) :
  ∃ v, (do eqGuard op t xo yo V U; binOp op t V U : Sem Value).run E.P w = .ok v w ∧ VR w Z γ a v := by
 unfold abin at he
 split at he
 ·rename_i k x k' y
  have hx : k.has x := hA.val_ok
  obtain rfl := hA.int_inv
  obtain rfl := hB.int_inv
  simp only [eqGuard_int, pure_bind]
  split at he
  ·rename_i hs
   have : binOp op t (.int k x) (.int k' y) = Op.shift op k x k' y := by cases op <;> simp [isShift] at hs <;> rfl
   rw [this]
   exact ashift_sound hx he hC
  ·rename_i hs
   split at he
   ·rename_i hk
    subst hk
    exact aarith_sound (by simpa using hs) hx he hC
   ·cases he
 ·rename_i x y
  obtain rfl := hA.val_inv
  obtain rfl := hB.val_inv
  simp only [eqGuard_bool, pure_bind]
  split at he
  ·rename_i hty
   obtain rfl := qfp he
   obtain ⟨d, hd, hk⟩ := (hT t _ hty).desc
   simp only [TKOK] at hk
   subst hk
   exact ⟨_, by simp only [binOp, Sem.run_bind, equal_bool hd, Result.andThen_ok, Sem.run_pure], .cr (.val _ trivial)⟩
  ·rename_i hty
   obtain rfl := qfp he
   obtain ⟨d, hd, hk⟩ := (hT t _ hty).desc
   simp only [TKOK] at hk
   subst hk
   exact ⟨_, by simp only [binOp, Sem.run_bind, equal_bool hd, Result.andThen_ok, Sem.run_pure], .cr (.val _ trivial)⟩
  ·cases he
 ·rename_i x y
  obtain rfl := hA.val_inv
  obtain rfl := hB.val_inv
  simp only [eqGuard_string, pure_bind]
  unfold astr at he
  split at he
  ·obtain rfl := qfp he
   exact ⟨_, by simp only [binOp, Op.stringOp, Sem.run_pure], .cr (.val _ trivial)⟩
  ·obtain rfl := qfp he
   exact ⟨_, by simp only [binOp, Op.stringOp, Sem.run_pure], .cr (.val _ trivial)⟩
  ·simp only [Option.some.injEq, Prod.mk.injEq] at he
   obtain ⟨rfl, rfl⟩ := he
   have hc : x.size + y.size ≤ roomB := hC.1
   refine ⟨_, ?_, .cr (.val (.string (x ++ y)) (by show (x ++ y).size ≤ roomB; rw [ByteArray.size_append]; exact hc))⟩
   have : ¬ ((x.size + y.size : Nat) : Int) > IntKind.i64.max := by
    have hM : IntKind.i64.max = 9223372036854775807 := by decide
    unfold roomB at hc
    rw [hM]
    omega
   simp only [binOp, Op.stringOp, if_neg this, Sem.run_pure]
  ·obtain rfl := qfp he
   exact ⟨_, by simp only [binOp, Op.stringOp, Sem.run_pure], .cr (.val _ trivial)⟩
  ·obtain rfl := qfp he
   exact ⟨_, by simp only [binOp, Op.stringOp, Sem.run_pure], .cr (.val _ trivial)⟩
  ·obtain rfl := qfp he
   exact ⟨_, by simp only [binOp, Op.stringOp, Sem.run_pure], .cr (.val _ trivial)⟩
  ·obtain rfl := qfp he
   exact ⟨_, by simp only [binOp, Op.stringOp, Sem.run_pure], .cr (.val _ trivial)⟩
  ·cases he
 ·split at he
  ·rename_i hg
   simp only [Bool.and_eq_true] at hg
   have hA' := hA.expand
   have hB' := hB.expand
   generalize A.expand = A' at *
   generalize B.expand = B' at *
   cases A' with
   | agg cs =>
    cases B' with
    | agg ds =>
     obtain ⟨xs, hxs, _⟩ := hA'.agg_inv'
     obtain ⟨ys, hys, _⟩ := hB'.agg_inv'
     split at he
     ·split at he
      ·rename_i b hb
       obtain rfl := qfp he
       obtain ⟨h1, h2⟩ := aeqAgg_sound hb hA' hB' .eql xo yo
       subst hxs; subst hys
       exact ⟨_, by simp only [Sem.run_bind, h1, Result.andThen_ok, binOp, h2, Sem.run_pure], .cr (.val _ trivial)⟩
      ·cases he
     ·split at he
      ·rename_i b hb
       obtain rfl := qfp he
       obtain ⟨h1, h2⟩ := aeqAgg_sound hb hA' hB' .neq xo yo
       subst hxs; subst hys
       exact ⟨_, by simp only [Sem.run_bind, h1, Result.andThen_ok, binOp, h2, Sem.run_pure], .cr (.val _ trivial)⟩
      ·cases he
     ·cases he
    | _ => simp [isAggAV] at hg
   | _ => simp [isAggAV] at hg
  ·cases he
theorem aun_sound {op : UnOp} {C : List Prop} (he : aun op A = some (C, a)) (hA : VR w Z γ A V) : ∃ v, (Op.unary op V).run P w = .ok v w ∧ VR w Z γ a v := by
 unfold aun at he
 split at he
 ·obtain rfl := hA.val_inv
  split at he
  ·obtain rfl := qfp he
   exact ⟨_, by simp only [Op.unary, Sem.run_pure], .cr (.val _ trivial)⟩
  ·cases he
 ·obtain rfl := hA.val_inv
  split at he
  ·obtain rfl := qfp he
   exact ⟨_, by simp only [Op.unary, Op.intArith, Sem.run_pure], .cr (.val _ (has_wrap _ _))⟩
  ·obtain rfl := qfp he
   exact ⟨_, by simp only [Op.unary, Op.intBits, Sem.run_pure], .cr (.val _ (has_wrap _ _))⟩
  ·cases he
 ·cases he
theorem aconv_sound (hT : TyOK E.P E.ty) {s d : TypeId} {C : List Prop} (he : aconv E s d A = some (C, a)) (hA : VR w Z γ A V) : ∃ v, (convert s d V).run E.P w = .ok v w ∧ VR w Z γ a v := by
 unfold aconv at he
 split at he
 ·obtain rfl := hA.val_inv
  split at he
  ·rename_i h1 h2
   obtain rfl := qfp he
   obtain ⟨e, hd, hk⟩ := (hT d _ h1).desc
   obtain ⟨f, hs, _⟩ := (hT s _ h2).desc
   simp only [TKOK] at hk
   subst hk
   refine ⟨_, ?_, .cr (.val _ (has_wrap _ _))⟩
   simp only [convert, Sem.run_bind, run_underlying hs, run_underlying hd, Result.andThen_ok, Conv.intToInt, Sem.run_pure]
  ·cases he
 ·have hv := hA.val_ok
  obtain rfl := hA.val_inv
  split at he
  ·rename_i h1 h2
   obtain rfl := qfp he
   obtain ⟨e, hd, hk⟩ := (hT d _ h1).desc
   obtain ⟨f, hs, _⟩ := (hT s _ h2).desc
   simp only [TKOK] at hk
   subst hk
   refine ⟨_, ?_, .cr (.val _ hv)⟩
   simp only [convert, Sem.run_bind, run_underlying hs, run_underlying hd, Result.andThen_ok, Sem.run_pure]
  ·cases he
 ·cases he
end
end Go.BE
namespace Go.BE
section
variable {P : Program} {E : Ctx} {w w' w0 : World} {Z Z' : Nat → Prop} {K : Kp} {own own' : Own} {γ γ' : Gst} {h h' : Heap} {used used' : Nat → Prop} {r s d : Nat} {R : Root} {a A B : AV} {v V U : Value} {cs ds : List AV} {vs us : List Value}
theorem stampAt_mem : ∀ {l : List (Nat × List Nat × Nat)}, stampAt l s d = true → ∃ e ∈ l, e.1 = s ∧ d < e.2.2 ∧ e.2.1.contains d = false
 | [], h => by simp [stampAt] at h
 | (k, bad, cut) :: l, h => by
  simp only [stampAt] at h
  split at h
  ·rename_i hk
   simp only [Bool.and_eq_true, decide_eq_true_eq, Bool.not_eq_true'] at h
   exact ⟨_, List.mem_cons_self, hk, h.1, h.2⟩
  ·obtain ⟨e, h1, h2⟩ := stampAt_mem h
   exact ⟨e, List.mem_cons_of_mem _ h1, h2⟩
theorem RootR.valid_hd (hr : RootR w Z own γ r R) {q : Pth} (hv : R.valid s q.length = true) {hd : Hd} (h : γ.G s q = some hd) : γ.G R.cur q = some hd := by
 simp only [Root.valid, Bool.or_eq_true, beq_iff_eq] at hv
 rcases hv with rfl | hv
 ·exact h
 ·obtain ⟨e, h1, h2, h3, h4⟩ := stampAt_mem hv
  subst h2
  exact hr.old e h1 q hd h3 h4 h
theorem rwhole_spec {m : Nat} {t : TVal} (he : rwhole h r s = some (R, m, t)) : ∃ b S xs, hget h r = some R ∧ R.cont = .arr m b S xs ∧ t = ⟨.sl b S, xs⟩ ∧ R.valid s 0 = true ∧ R.pend = none := by
 unfold rwhole at he
 split at he
 ·rename_i R' hR
  split at he
  ·rename_i m' b S xs hc
   split at he
   ·rename_i hv
    simp only [Bool.and_eq_true, Option.isNone_iff_eq_none] at hv
    simp only [Option.some.injEq, Prod.mk.injEq] at he
    obtain ⟨rfl, rfl, rfl⟩ := he
    exact ⟨b, S, xs, hR, hc, rfl, hv.1, hv.2⟩
   ·cases he
  ·cases he
 ·cases he
theorem rdata_spec {m : Nat} {t : TVal} (he : rdata h r s d = some (R, m, t)) : ∃ b S xs, hget h r = some R ∧ R.cont = .arr m b S xs ∧ t = ⟨.sl b S, xs⟩ ∧ R.valid s d = true ∧ R.pend = none ∧ R.fz = false := by
 unfold rdata at he
 split at he
 ·rename_i R' hR
  split at he
  ·rename_i m' b S xs hc
   split at he
   ·rename_i hv
    simp only [Bool.and_eq_true, Option.isNone_iff_eq_none, Bool.not_eq_true'] at hv
    simp only [Option.some.injEq, Prod.mk.injEq] at he
    obtain ⟨rfl, rfl, rfl⟩ := he
    exact ⟨b, S, xs, hR, hc, rfl, hv.1.1, hv.1.2, hv.2⟩
   ·cases he
  ·cases he
 ·cases he
theorem MemR.data (hm : MemR w0 K w Z own γ h used) {m : Nat} {t : TVal} (hd : rdata h r s d = some (R, m, t)) : hget h r = some R ∧ RootR w Z own γ r R ∧ R.valid s d = true ∧
  ∃ b S xs, R.cont = .arr m b S xs ∧ t = ⟨.sl b S, xs⟩ ∧ room b xs.length ∧ R.pend = none ∧ R.fz = false ∧ qbv w Z (rows w) own r (γ.G R.cur) ⟨S, xs, false⟩ m [] := by
 obtain ⟨b, S, xs, h1, h2, h3, h4, h5, h6⟩ := rdata_spec hd
 have hr := hm.root r R h1
 have hc := hr.cont
 unfold ContR at hc
 simp only [h2, h6, h5, Bool.false_eq_true, if_false] at hc
 exact ⟨h1, hr, h4, b, S, xs, h2, h3, hc.1.1, h5, h6, hc.2⟩
theorem VAll_vget {α : Type} {q : α → Prop} (d : α) : ∀ {n : Nat} {x : DenV α n} {i : Nat}, VAll q n x → i < n → q (vget d n x i)
 | 0, _, _, _, hi => absurd hi (Nat.not_lt_zero _)
 | _ + 1, _, 0, h, _ => h.1
 | n + 1, x, i + 1, h, hi => VAll_vget (n := n) (x := x.2) d h.2 (Nat.lt_of_succ_lt_succ hi)
theorem sGet_ok : ∀ {st : List St} {S : Sh} {x : Den S} {u : TVal}, sGet S x st = some u → AllP (sOK S st) → okD S x → okD u.S u.x
 | [], S, x, u, h, _, hx => by
  have h' : some (⟨S, x⟩ : TVal) = some u := by cases S <;> exact h
  injection h' with h'
  subst h'
  exact hx
 | .l :: q, .pair a b, x, u, h, hc, hx => sGet_ok (S := a) h hc hx.1
 | .r :: q, .pair a b, x, u, h, hc, hx => sGet_ok (S := b) h hc hx.2
 | .a i :: q, .arr n a, x, u, h, hc, hx => sGet_ok (S := a) h hc.2 (VAll_vget _ hx hc.1)
 | .l :: q, .int k, x, u, h, _, _ => by simp [sGet] at h
 | .l :: q, .bool, x, u, h, _, _ => by simp [sGet] at h
 | .l :: q, .str, x, u, h, _, _ => by simp [sGet] at h
 | .l :: q, .unit, x, u, h, _, _ => by simp [sGet] at h
 | .l :: q, .arr n a, x, u, h, _, _ => by simp [sGet] at h
 | .l :: q, .sl b a, x, u, h, _, _ => by simp [sGet] at h
 | .l :: q, .ptr a, x, u, h, _, _ => by simp [sGet] at h
 | .r :: q, .int k, x, u, h, _, _ => by simp [sGet] at h
 | .r :: q, .bool, x, u, h, _, _ => by simp [sGet] at h
 | .r :: q, .str, x, u, h, _, _ => by simp [sGet] at h
 | .r :: q, .unit, x, u, h, _, _ => by simp [sGet] at h
 | .r :: q, .arr n a, x, u, h, _, _ => by simp [sGet] at h
 | .r :: q, .sl b a, x, u, h, _, _ => by simp [sGet] at h
 | .r :: q, .ptr a, x, u, h, _, _ => by simp [sGet] at h
 | .a i :: q, .int k, x, u, h, _, _ => by simp [sGet] at h
 | .a i :: q, .bool, x, u, h, _, _ => by simp [sGet] at h
 | .a i :: q, .str, x, u, h, _, _ => by simp [sGet] at h
 | .a i :: q, .unit, x, u, h, _, _ => by simp [sGet] at h
 | .a i :: q, .pair a b, x, u, h, _, _ => by simp [sGet] at h
 | .a i :: q, .sl b a, x, u, h, _, _ => by simp [sGet] at h
 | .a i :: q, .ptr a, x, u, h, _, _ => by simp [sGet] at h
theorem nodeOf_ok {t : TVal} {n : Node} (h : qco t = some n) (hx : okD t.S t.x) : ∀ y ∈ n.xs, okD n.S y := by
 obtain ⟨S, x⟩ := t
 cases S with
 | sl b a =>
  simp only [qco, Option.some.injEq] at h
  subst h
  exact hx.2
 | ptr a =>
  simp only [qco, Option.some.injEq] at h
  subst h
  intro y hy
  exact hx y (Option.mem_toList.1 hy)
 | _ => simp [qco] at h
theorem ngetT_ok : ∀ {p : Pth} {t u : TVal}, ngetT t p = some u → AllP (nOK t p) → okD t.S t.x → okD u.S u.x
 | [], t, u, h, _, hx => by injection h with h; subst h; exact hx
 | (i, st) :: p, t, u, h, hc, hx => by
  unfold ngetT at h
  unfold nOK at hc
  split at h
  ·rename_i n hn
   split at h
   ·rename_i v hv
    simp only [hn, hv, AllP, AllP.append] at hc
    exact ngetT_ok h hc.2.2 (sGet_ok hv hc.2.1 (nodeOf_ok hn hx _ (by rw [List.getD_eq_getElem?_getD, List.getElem?_eq_getElem hc.1]; exact List.getElem_mem _)))
   ·cases h
  ·cases h
theorem rdataA_spec {m : Nat} {t : TVal} (he : rdataA h r s d = some (R, m, t)) : ∃ b S xs, hget h r = some R ∧ R.cont = .arr m b S xs ∧ t = ⟨.sl b S, xs⟩ ∧ R.valid s d = true := by
 unfold rdataA at he
 split at he
 ·rename_i R' hR
  split at he
  ·rename_i m' b S xs hc
   split at he
   ·rename_i hv
    simp only [Option.some.injEq, Prod.mk.injEq] at he
    obtain ⟨rfl, rfl, rfl⟩ := he
    exact ⟨b, S, xs, hR, hc, rfl, hv⟩
   ·cases he
  ·cases he
 ·cases he
theorem MemR.arr (hm : MemR w0 K w Z own γ h used) (hR : hget h r = some R) {m b : Nat} {S : Sh} {xs : List (Den S)} (hc : R.cont = .arr m b S xs) : RootR w Z own γ r R ∧ room b xs.length ∧
  ∃ M own0 r0, qbv w Z M own0 r0 (γ.G R.cur) ⟨S, xs, false⟩ m [] ∧ (R.pend = none → M = rows w) ∧ (R.fz = true → R.pend = none ∧ ∀ b o, own0 b = some o → Z b) ∧ (R.fz = false → own0 = own ∧ r0 = r) := by
 have hr := hm.root r R hR
 have hcr := hr.cont
 unfold ContR at hcr
 simp only [hc] at hcr
 refine ⟨hr, hcr.1.1, ?_⟩
 have hcr := hcr.2
 split at hcr
 ·rename_i hf
  obtain ⟨hp, own0, h1, h2⟩ := hcr
  exact ⟨rows w, own0, 0, h2, fun _ => rfl, fun _ => ⟨hp, h1⟩, fun h => by rw [hf] at h; cases h⟩
 ·rename_i hf
  split at hcr
  ·rename_i hp
   exact ⟨rows w, own, r, hcr, fun _ => rfl, fun h => absurd h hf, fun _ => ⟨rfl, rfl⟩⟩
  ·rename_i p hp
   obtain ⟨p0, i, st, hd0, b0, o0, so, T, hd, v, row, e1, e2, e3, e4, e5, e6, e7, e8, e9, e10, e11⟩ := hcr
   refine ⟨_, own, r, e11 v e7, fun h => ?_, fun h => absurd h hf, fun _ => ⟨rfl, rfl⟩⟩
   rw [hp] at h
   cases h
theorem MemR.dom (hm : MemR w0 K w Z own γ h used) (hR : hget h r = some R) {m b : Nat} {S : Sh} {xs : List (Den S)} (hc : R.cont = .arr m b S xs) : Dom (γ.G R.cur) := by
 have hcr := (hm.root r R hR).cont
 unfold ContR at hcr
 simp only [hc] at hcr
 exact hcr.1.2
theorem qbv.ok {m : Nat} {M : Rows} {g : Pth → Option Hd} {n : Node} {p : Pth} (hn : qbv w Z M own r g n m p) : ∀ y ∈ n.xs, okD n.S y := by
 intro y hy
 obtain ⟨i, hi⟩ := List.mem_iff_getElem?.1 hy
 obtain ⟨hd, h1, h2, h3, h4, hle, hlim, hel⟩ := hn
 have hlt : i < hd.n := by rw [h4]; exact (List.getElem?_eq_some_iff.1 hi).1
 obtain ⟨b, o, row, e1, e2, e3, e4, e5⟩ := hel (by omega)
 obtain ⟨z, hz, hor⟩ := e5 i hlt
 have : z = y := Option.some.inj (hz.symm.trans hi)
 subst this
 exact hor.ok
theorem MemR.nodeA (hm : MemR w0 K w Z own γ h used) {p : Pth} {N : NodeA} (he : rnodeA h r s p = some N) (hC : AllP N.C) :
  (hget h r = some N.R ∧ RootR w Z own γ r N.R ∧ N.R.valid s p.length = true ∧ p.length ≤ N.m ∧ N.C = nOK N.d p ∧ nget N.d p = some N.n) ∧
  (∃ b S xs, N.R.cont = .arr N.m b S xs ∧ N.d = ⟨.sl b S, xs⟩ ∧ room b xs.length ∧ okD N.d.S N.d.x) ∧
  ∃ M own0 r0, qbv w Z M own0 r0 (γ.G N.R.cur) N.n (N.m - p.length) p ∧ (N.R.pend = none → M = rows w) ∧ (N.R.fz = true → N.R.pend = none ∧ ∀ b o, own0 b = some o → Z b) ∧ (N.R.fz = false → own0 = own ∧ r0 = r) := by
 unfold rnodeA at he
 split at he
 ·rename_i R m t hd
  split at he
  ·rename_i hle
   split at he
   ·rename_i n hn
    injection he with he
    subst he
    obtain ⟨b, S, xs, h1, h2, h3, h4⟩ := rdataA_spec hd
    obtain ⟨k1, k2, M, own0, r0, k3, k4, k5, k6⟩ := hm.arr h1 h2
    refine ⟨⟨h1, k1, h4, hle, rfl, hn⟩, ⟨b, S, xs, h2, h3, k2, ?_⟩, M, own0, r0, ?_, k4, k5, k6⟩
    ·rw [h3]
     exact ⟨k2, k3.ok⟩
    ·have := (qbv.place (w' := w) (Z' := Z) (M' := M) (own' := own0) (g' := γ.G R.cur) (Stay.refl w Z) p (t := t) (n0 := ⟨S, xs, false⟩) (n := n) (p0 := []) (by rw [h3]; rfl) k3 hle hn hC).1
     simpa using this
   ·cases he
  ·cases he
 ·cases he
theorem MemR.hdA (hm : MemR w0 K w Z own γ h used) {p : Pth} {N : NodeA} (he : rnodeA h r s p = some N) (hC : AllP N.C) {hd : Hd} (hg : γ.G s p = some hd) :
  γ.G N.R.cur p = some hd ∧ hd.S = N.n.S ∧ hd.isPtr = N.n.isPtr ∧ hd.n = N.n.xs.length ∧ hd.n ≤ hd.c ∧ hd.n ≤ roomB := by
 obtain ⟨⟨h1, h2, h3, h4, h5, h6⟩, _, M, own0, r0, ⟨hd0, q1, q2, q3, q4, q5⟩, _⟩ := hm.nodeA he hC
 have := h2.valid_hd h3 hg
 rw [q1] at this
 injection this with this
 subst this
 exact ⟨q1, q2, q3, q4, q5.le, q5.lim⟩
theorem rnodeL_spec {p : Pth} {N : NodeA} (he : rnodeL h r s p = some N) : rnodeA h r s p = some N ∧ N.R.pend = none := by
 unfold rnodeL at he
 split at he
 ·rename_i N' hN
  split at he
  ·rename_i hp
   injection he with he
   subst he
   exact ⟨hN, by simpa using hp⟩
  ·cases he
 ·cases he
theorem wins_length {α : Type} {xs : List α} {w : Option (Nat × Nat)} (h : wlo w + wlen xs.length w ≤ xs.length) : (wins xs w).length = wlen xs.length w := by
 cases w with
 | none => rfl
 | some x => simp only [wins, wlo, wlen] at *; simp; omega
theorem wins_lat {α : Type} {xs : List α} {w : Option (Nat × Nat)} {i : Nat} {y : α} (h : lat (wins xs w) i = some y) : lat xs (wlo w + i) = some y := by
 cases w with
 | none => simpa [wins, wlo, lat] using h
 | some x =>
  simp only [wins, wlo, lat] at *
  rw [List.getElem?_take] at h
  split at h
  ·rwa [List.getElem?_drop] at h
  ·cases h
theorem room_le {b m n : Nat} (h : room b n) (hmn : m ≤ n) : room b m := ⟨Nat.le_trans (Nat.mul_le_mul_right _ hmn) h.1, Nat.le_trans hmn h.2⟩
theorem rows_cell {b j : Nat} {row : List Value} (h : rows w b = some row) (hj : row[j]? = some v) : qfv w b j v := by
 unfold rows at h
 split at h
 ·rename_i c e hb
  injection h with h
  subst h
  unfold qfv World.cell?
  simp only [hb]
  simpa using hj
 ·cases h
theorem freeze_node {n : Node} {m : Nat} {p : Pth} {g : Pth → Option Hd} (hs : Stay w Z w Z') (hZ : ∀ b q, own b = some (r, q) → Z' b) (h : qbv w Z (rows w) own r g n m p) : ∃ hd, g p = some hd ∧ hd.S = n.S ∧ hd.isPtr = n.isPtr ∧ hd.n = n.xs.length ∧ hd.n ≤ hd.c ∧
  (0 < hd.c → ∃ b o, hd.blk = some (b, o) ∧ Z' b ∧ ∀ i y, lat n.xs i = some y → ∃ us, us.length = n.S.size ∧ Run w b (o + i * n.S.size) us ∧ FR w Z' n.S y us) := by
 obtain ⟨hd, h1, h2, h3, h4, hle, hlim, hel⟩ := h
 refine ⟨hd, h1, h2, h3, h4, hle, fun hc => ?_⟩
 obtain ⟨b, o, row, e1, e2, e3, e4, e5⟩ := hel hc
 refine ⟨b, o, e1, hZ b _ e2, fun i y hy => ?_⟩
 have hi : i < hd.n := by rw [h4]; exact (List.getElem?_eq_some_iff.1 hy).1
 obtain ⟨z, hz, hor⟩ := e5 i hi
 have : z = y := Option.some.inj (hz.symm.trans hy)
 subst this
 rw [h2] at hor
 refine ⟨_, hor.len, fun j v hj => ?_, OR.freeze hs (fun b q row ho hM => ⟨hZ b q ho, fun j v hj => rows_cell hM hj⟩) hor⟩
 have := seg_get hj
 exact rows_cell e3 this
theorem fz_win {S : Sh} {b m : Nat} {xs : List (Den S)} {win : Option (Nat × Nat)} {hd : Hd} {g : Pth → Option Hd} {p : Pth} {own0 : Own} {r0 : Nat} (hn : qbv w Z (rows w) own0 r0 g ⟨S, xs, false⟩ m p) (hz : ∀ b o, own0 b = some o → Z b) (hroom : room b xs.length) (hg : g p = some hd) (hv : SVal hd win v) : CR w Z (.tv (.sl b S) (wins xs win)) v := by
 obtain ⟨hd', h1, h2, h3, h4, h5, h6⟩ := freeze_node (Stay.refl w Z) (fun b q ho => hz b _ ho) hn
 rw [hg] at h1
 injection h1 with h1
 subst h1
 simp only at h2 h4 h6
 obtain ⟨_, ad, c, rfl, k1, k2, k3, k4⟩ := hv
 rw [h4] at k1 k2
 have hl : (wins xs win).length = wlen xs.length win := wins_length k2.1
 refine .tv1 _ _ _ rfl ⟨ad, c, by rw [h4]; show [Value.slice ad (wlen xs.length win) c] = [Value.slice ad (wins xs win).length c]; rw [hl], by show (wins xs win).length ≤ c; rw [hl]; exact k1, by show room b (wins xs win).length; rw [hl]; exact room_le hroom (by omega), fun hp => ?_⟩
 have hp' : 0 < (wins xs win).length := hp
 rw [hl] at hp'
 obtain ⟨bb, o, e1, e2⟩ := k4 (by omega)
 obtain ⟨bb', o', e3, e4, e5⟩ := h6 (by omega)
 rw [e1] at e3
 injection e3 with e3
 injection e3 with e3 e3'
 subst e3; subst e3'
 refine ⟨bb, o + wlo win * hd.S.size, e2, e4, fun i y hy => ?_⟩
 obtain ⟨us, q1, q2, q3⟩ := e5 _ y (wins_lat hy)
 rw [h2]
 exact ⟨us, q1, by rw [Nat.add_mul, ← Nat.add_assoc] at q2; exact q2, q3⟩
theorem fz_ptr {S : Sh} {m : Nat} {x : Den (.ptr S)} {hd : Hd} {g : Pth → Option Hd} {p : Pth} {own0 : Own} {r0 : Nat} (hn : qbv w Z (rows w) own0 r0 g ⟨S, Option.toList x, true⟩ m p) (hz : ∀ b o, own0 b = some o → Z b) (hg : g p = some hd) (hp : hd.isPtr = true) (hv : HVal hd V) : CR w Z (.tv (.ptr S) x) V := by
 obtain ⟨hd', h1, h2, h3, h4, h5, h6⟩ := freeze_node (Stay.refl w Z) (fun b q ho => hz b _ ho) hn
 rw [hg] at h1
 injection h1 with h1
 subst h1
 simp only at h2 h4 h6
 unfold HVal at hv
 rw [if_pos hp] at hv
 refine .tv1 _ _ _ rfl ?_
 cases x with
 | none =>
  rcases hv with ⟨_, rfl⟩ | ⟨b, o, _, k2, _⟩
  ·exact .inl ⟨rfl, rfl⟩
  ·simp [k2] at h4
 | some y =>
  rcases hv with ⟨k1, _⟩ | ⟨b, o, k1, k2, rfl⟩
  ·simp [k1] at h4
  ·obtain ⟨bb, oo, g1, g2, g3⟩ := h6 (by omega)
   rw [k1] at g1
   injection g1 with g1
   injection g1 with g1 g1'
   subst g1; subst g1'
   obtain ⟨us, u1, u2, u3⟩ := g3 0 y rfl
   exact .inr ⟨y, b, o, us, rfl, rfl, g2, u1, by simpa using u2, u3⟩
theorem norm_sound (hm : MemR w0 K w Z own γ h used) (hA : VR w Z γ A V) : VR w Z γ (norm h A) V := by
 unfold norm
 split
 ·rename_i r s win
  split
  ·rename_i R m b S xs hw
   split
   ·rename_i hf
    obtain ⟨b', S', xs', h1, h2, h3, h4, h5⟩ := rwhole_spec hw
    have hr := hm.root r R h1
    have hc := hr.cont
    unfold ContR at hc
    simp only [h2, hf, if_true] at hc
    cases h3
    obtain ⟨c1, _, own0, c2, c3⟩ := hc
    cases hA with
    | cr hA => cases hA
    | osl _ _ _ _ _ hd hg hv => exact .cr (fz_win c3 c2 c1.1 (hr.valid_hd (q := []) h4 hg) hv)
   ·exact hA
  ·exact hA
 ·exact hA
def fzZ (Z : Nat → Prop) (own : Own) (r : Nat) : Nat → Prop := fun b => Z b ∨ ∃ p, own b = some (r, p)
def fzO (own : Own) (r : Nat) : Own := fun b => match own b with
 | some (k, p) => if k = r then none else some (k, p)
 | none => none
theorem fzO_some {b k : Nat} {p : Pth} (h : fzO own r b = some (k, p)) : own b = some (k, p) ∧ k ≠ r := by
 unfold fzO at h
 split at h
 ·rename_i k' p' he
  split at h
  ·cases h
  ·rename_i hk
   injection h with h
   injection h with h1 h2
   subst h1; subst h2
   exact ⟨he, hk⟩
 ·cases h
theorem MemR.freeze (hm : MemR w0 K w Z own γ h used) (hR : hget h r = some R) {m b : Nat} {S : Sh} {xs : List (Den S)} (hc : R.cont = .arr m b S xs) (hp : R.pend = none) (hf : R.fz = false) :
  Stay w Z w (fzZ Z own r) ∧ MemR w0 K w (fzZ Z own r) (fzO own r) γ (hput h r { R with fz := true }) used := by
 have hs : Stay w Z w (fzZ Z own r) := ⟨fun _ _ => rfl, fun _ h => .inl h⟩
 have hr := hm.root r R hR
 obtain ⟨k1, k2, k3⟩ := hm.keys r R hR
 refine ⟨hs, hm.step hs (Gst.Ext.refl used γ) (fun _ h => h) rfl rfl rfl (Nat.le_refl _) (fun x => x = r) (fun _ _ _ => rfl) (fun b o ho hn => ?_) (fun b o ho => ?_) (fun b hb => ?_) (fun r' R' hg => ?_) hm.fresh⟩
 ·simp only [fzO, ho]
  rw [if_neg hn]
 ·obtain ⟨e1, e2⟩ := fzO_some (p := o.2) (k := o.1) ho
  exact .inl ⟨e1, e2⟩
 ·rcases hb with hb | ⟨p, hb⟩
  ·exact ⟨hm.zlt b hb, .inl hb⟩
  ·exact ⟨hm.ownlt b _ hb, .inr (.inl ⟨_, hb, rfl⟩)⟩
 ·rw [qbr] at hg
  split at hg
  ·rename_i he
   injection hg with hg
   subst hg
   subst he
   refine .inr ⟨⟨hr.old, ?_⟩, k1, k2, k3⟩
   have hcr := hr.cont
   unfold ContR at hcr ⊢
   simp only [hc, hp, hf, Bool.false_eq_true, if_false, if_true] at hcr ⊢
   refine ⟨hcr.1, trivial, fun b => match own b with | some (k, q) => if k = r' then some (0, q) else none | none => none, fun b o ho => ?_, ?_⟩
   ·simp only at ho
    split at ho
    ·rename_i k q hk
     split at ho
     ·rename_i hkr
      subst hkr
      exact .inr ⟨q, hk⟩
     ·cases ho
    ·cases ho
   ·have := qbv.reroot (r' := 0) (own' := fun b => match own b with | some (k, q) => if k = r' then some (0, q) else none | none => none) (M' := rows w) (g' := γ.G R.cur) hs (fun q hd hq => hq) (fun b q row ho hM => ⟨by simp [ho], hM⟩) hcr.2
    exact this
  ·rename_i hne
   exact .inl ⟨hg, hne⟩
theorem hget_other_ws : ∀ {ws : List (Nat × Option Root)} {h : Heap}, ws.all (fun x => x.1 != r) = true → hget (qav h ws) r = hget h r
 | [], _, _ => rfl
 | (k, R) :: ws, h, hall => by
  simp only [List.all_cons, Bool.and_eq_true, bne_iff_ne, ne_eq] at hall
  cases R with
  | some R => rw [qav, hget_other_ws hall.2, qbr, if_neg (fun e => hall.1 e.symm)]
  | none => rw [qav, hget_other_ws hall.2, hget_hdel, if_neg (fun e => hall.1 e.symm)]
theorem qce : ∀ (ws ws' : List (Nat × Option Root)) (h : Heap), qav h (ws ++ ws') = qav (qav h ws) ws'
 | [], _, _ => rfl
 | (k, some R) :: ws, ws', h => by simp only [List.cons_append, qav]; exact qce ws ws' _
 | (k, none) :: ws, ws', h => by simp only [List.cons_append, qav]; exact qce ws ws' _
structure Closed (w0 : World) (K : Kp) (w : World) (Z : Nat → Prop) (ow : Own) (γ : Gst) (h' : Heap) (used : Nat → Prop) (Z' : Nat → Prop) (own' : Own) : Prop where
 stay : Stay w Z w Z'
 mem : MemR w0 K w Z' own' γ h' used
 own : ∀ b o, own' b = some o → ow b = some o
 blk : ∀ b o, ow b = some o → own' b = some o ∨ Z' b
theorem Closed.blk2 {h1 h2 : Heap} {Z1 Z2 : Nat → Prop} {own1 own2 : Own} (k : Closed w0 K w Z own γ h1 used Z1 own1) (q : Closed w0 K w Z1 own1 γ h2 used Z2 own2) (b : Nat) (o : Nat × Pth) (ho : own b = some o) : own2 b = some o ∨ Z2 b := by
 rcases k.blk b o ho with h | h
 ·exact q.blk b o h
 ·exact .inr (q.stay.sub b h)
theorem fzO_blk {b : Nat} {o : Nat × Pth} (ho : own b = some o) : fzO own r b = some o ∨ fzZ Z own r b := by
 obtain ⟨k, p⟩ := o
 by_cases hk : k = r
 ·subst hk
  exact .inr (.inr ⟨p, ho⟩)
 ·refine .inl ?_
  simp only [fzO, ho]
  rw [if_neg hk]
theorem oneV_eq {n : Node} {a : AV} (h : n.oneV = some a) : ∃ (S : Sh) (x : Den S) (ip : Bool), n = ⟨S, [x], ip⟩ ∧ a = .rtp S x := by
 obtain ⟨S, xs, ip⟩ := n
 cases xs with
 | nil => cases h
 | cons x xs =>
  cases xs with
  | nil => injection h with h; exact ⟨S, x, ip, rfl, h.symm⟩
  | cons => cases h
theorem closeC0_sound (hm : MemR w0 K w Z own γ h used) {C : List Prop} {ws : List (Nat × Option Root)} (he : closeC0 h A = some (C, a, ws)) (hC : AllP C) (hA : VR w Z γ A V) :
  ∃ Z' own', Closed w0 K w Z own γ (qav h ws) used Z' own' ∧ CR w Z' a V := by
 unfold closeC0 at he
 split at he
 ·rename_i r s p win
  split at he
  ·rename_i N hN
   split at he
   ·rename_i b S xs ht
    simp only [Option.some.injEq, Prod.mk.injEq] at he
    obtain ⟨rfl, rfl, rfl⟩ := he
    obtain ⟨hNA, hpn⟩ := rnodeL_spec hN
    obtain ⟨hd, hg, hv⟩ : ∃ hd, γ.G s p = some hd ∧ SVal hd win V := by
     cases hA with
     | cr hA => cases hA
     | osl _ _ _ _ _ hd hg hv => exact ⟨hd, hg, hv⟩
    obtain ⟨hg', _⟩ := hm.hdA hNA hC hg
    obtain ⟨⟨h1, h2, h3, h4, h5, h6⟩, ⟨b0, S0, xs0, k1, k2, k3, k4⟩, M, own0, r0, q1, q2, q3, q4⟩ := hm.nodeA hNA hC
    have hnode := nget_ngetT ht
    rw [h6] at hnode
    simp only [qco, Option.some.injEq] at hnode
    have hroom : room b xs.length := (ngetT_ok ht (by rw [← h5]; exact hC) k4).1
    cases hf : N.R.fz with
    | true =>
     rw [hnode, q2 hpn] at q1
     exact ⟨Z, own, ⟨Stay.refl _ _, hm, fun _ _ h => h, fun _ _ h => .inl h⟩, fz_win q1 (q3 hf).2 hroom hg' hv⟩
    | false =>
     obtain ⟨e1, e2⟩ := hm.freeze h1 k1 hpn hf
     refine ⟨_, _, ⟨e1, e2, fun b o ho => (fzO_some (k := o.1) (p := o.2) ho).1, fun b o ho => fzO_blk ho⟩, ?_⟩
     have hget' : hget (hput h r { N.R with fz := true }) r = some { N.R with fz := true } := by rw [qbr, if_pos rfl]
     obtain ⟨_, _, M', own1, r1, p1, p2, p3, _⟩ := e2.arr (R := { N.R with fz := true }) hget' k1
     have p1 := (qbv.place (w' := w) (M' := M') (own' := own1) (g' := γ.G N.R.cur) (Stay.refl _ _) p (t := N.d) (n0 := ⟨S0, xs0, false⟩) (n := N.n) (p0 := []) (by rw [k2]; rfl) p1 h4 h6 (by rw [← h5]; exact hC)).1
     rw [hnode, p2 hpn, List.nil_append] at p1
     exact fz_win p1 (p3 rfl).2 hroom hg' hv
   ·cases he
  ·cases he
 ·rename_i r s p
  split at he
  ·rename_i N hN
   split at he
   ·rename_i S x ht
    simp only [Option.some.injEq, Prod.mk.injEq] at he
    obtain ⟨rfl, rfl, rfl⟩ := he
    obtain ⟨hNA, hpn⟩ := rnodeL_spec hN
    obtain ⟨hd, hg, hip, hv⟩ : ∃ hd, γ.G s p = some hd ∧ hd.isPtr = true ∧ HVal hd V := by
     cases hA with
     | cr hA => cases hA
     | optr _ _ _ _ hd hg hp hv => exact ⟨hd, hg, hp, hv⟩
    obtain ⟨hg', _⟩ := hm.hdA hNA hC hg
    obtain ⟨⟨h1, h2, h3, h4, h5, h6⟩, ⟨b0, S0, xs0, k1, k2, k3, k4⟩, M, own0, r0, q1, q2, q3, q4⟩ := hm.nodeA hNA hC
    have hnode := nget_ngetT ht
    rw [h6] at hnode
    simp only [qco, Option.some.injEq] at hnode
    cases hf : N.R.fz with
    | true =>
     rw [hnode, q2 hpn] at q1
     exact ⟨Z, own, ⟨Stay.refl _ _, hm, fun _ _ h => h, fun _ _ h => .inl h⟩, fz_ptr q1 (q3 hf).2 hg' hip hv⟩
    | false =>
     obtain ⟨e1, e2⟩ := hm.freeze h1 k1 hpn hf
     refine ⟨_, _, ⟨e1, e2, fun b o ho => (fzO_some (k := o.1) (p := o.2) ho).1, fun b o ho => fzO_blk ho⟩, ?_⟩
     have hget' : hget (hput h r { N.R with fz := true }) r = some { N.R with fz := true } := by rw [qbr, if_pos rfl]
     obtain ⟨_, _, M', own1, r1, p1, p2, p3, _⟩ := e2.arr (R := { N.R with fz := true }) hget' k1
     have p1 := (qbv.place (w' := w) (M' := M') (own' := own1) (g' := γ.G N.R.cur) (Stay.refl _ _) p (t := N.d) (n0 := ⟨S0, xs0, false⟩) (n := N.n) (p0 := []) (by rw [k2]; rfl) p1 h4 h6 (by rw [← h5]; exact hC)).1
     rw [hnode, p2 hpn, List.nil_append] at p1
     exact fz_ptr p1 (p3 rfl).2 hg' hip hv
   ·cases he
  ·cases he
 ·rename_i r s
  split at he
  ·rename_i N hN
   split at he
   ·rename_i ax hx
    simp only [Option.some.injEq, Prod.mk.injEq] at he
    obtain ⟨rfl, rfl, rfl⟩ := he
    obtain ⟨S, x, ip, hnode, rfl⟩ := oneV_eq hx
    obtain ⟨hNA, hpn⟩ := rnodeL_spec hN
    obtain ⟨hd, b, o, so, T, hg, hi, hb, hs, rfl⟩ : ∃ hd b o so T, γ.G s [] = some hd ∧ 0 < hd.n ∧ hd.blk = some (b, o) ∧ sAt hd.S [] = some (T, so) ∧ V = .pointer (some ⟨b, o + 0 * hd.S.size + so, none⟩) := by
     cases hA with
     | cr hA => cases hA
     | tref _ _ _ _ _ hd b o so T h1 h2 h3 h4 => exact ⟨hd, b, o, so, T, h1, h2, h3, h4, rfl⟩
    simp only [sAt, Option.some.injEq, Prod.mk.injEq] at hs
    obtain ⟨_, rfl⟩ := hs
    obtain ⟨hg', _⟩ := hm.hdA hNA hC hg
    obtain ⟨⟨h1, h2, h3, h4, h5, h6⟩, ⟨b0, S0, xs0, k1, k2, k3, k4⟩, M, own0, r0, q1, q2, q3, q4⟩ := hm.nodeA hNA hC
    have fin : ∀ {Z2 : Nat → Prop} {own2 : Own} {r2 m2 : Nat}, qbv w Z2 (rows w) own2 r2 (γ.G N.R.cur) ⟨S, [x], ip⟩ m2 [] → (∀ b o, own2 b = some o → Z2 b) → CR w Z2 (.rtp S x) (.pointer (some ⟨b, o + 0 * hd.S.size + 0, none⟩)) := fun {Z2 own2 r2 m2} hn hz => by
     obtain ⟨hd', f1, f2, f3, f4, f5, f6⟩ := freeze_node (Stay.refl w Z2) (fun b q ho => hz b _ ho) hn
     rw [hg'] at f1
     injection f1 with f1
     subst f1
     obtain ⟨bb, oo, g1, g2, g3⟩ := f6 (Nat.lt_of_lt_of_le hi f5)
     rw [hb] at g1
     injection g1 with g1
     injection g1 with g1 g1'
     subst g1; subst g1'
     obtain ⟨us, u1, u2, u3⟩ := g3 0 x rfl
     refine .rtp S x b _ us g2 ?_ u3
     simpa using u2
    cases hf : N.R.fz with
    | true =>
     rw [hnode, q2 hpn] at q1
     exact ⟨Z, own, ⟨Stay.refl _ _, hm, fun _ _ h => h, fun _ _ h => .inl h⟩, fin q1 (q3 hf).2⟩
    | false =>
     obtain ⟨e1, e2⟩ := hm.freeze h1 k1 hpn hf
     refine ⟨_, _, ⟨e1, e2, fun b o ho => (fzO_some (k := o.1) (p := o.2) ho).1, fun b o ho => fzO_blk ho⟩, ?_⟩
     have hget' : hget (hput h r { N.R with fz := true }) r = some { N.R with fz := true } := by rw [qbr, if_pos rfl]
     obtain ⟨_, _, M', own1, r1, p1, p2, p3, _⟩ := e2.arr (R := { N.R with fz := true }) hget' k1
     have p1 := (qbv.place (w' := w) (M' := M') (own' := own1) (g' := γ.G N.R.cur) (Stay.refl _ _) [] (t := N.d) (n0 := ⟨S0, xs0, false⟩) (n := N.n) (p0 := []) (by rw [k2]; rfl) p1 h4 h6 (by rw [← h5]; exact hC)).1
     rw [hnode, p2 hpn, List.nil_append] at p1
     exact fin p1 (p3 rfl).2
   ·cases he
  ·cases he
 ·split at he
  ·rename_i hcl
   simp only [Option.some.injEq, Prod.mk.injEq] at he
   obtain ⟨rfl, rfl, rfl⟩ := he
   exact ⟨Z, own, ⟨Stay.refl _ _, hm, fun _ _ h => h, fun _ _ h => .inl h⟩, hA.toCR hcl⟩
  ·cases he
theorem closeL0_sound : ∀ {cs : List AV} {vs : List Value} {C : List Prop} {ds : List AV} {ws : List (Nat × Option Root)} {h : Heap} {Z : Nat → Prop} {own : Own}, MemR w0 K w Z own γ h used → closeL0 h cs = some (C, ds, ws) → AllP C → VRs w Z γ cs vs →
  ∃ Z' own', Closed w0 K w Z own γ (qav h ws) used Z' own' ∧ ds.length = vs.length ∧ ∀ (j : Nat) a v, ds[j]? = some a → vs[j]? = some v → CR w Z' a v
 | [], vs, C, ds, ws, h, Z, own, hm, he, _, hv => by
  simp only [closeL0, Option.some.injEq, Prod.mk.injEq] at he
  obtain ⟨rfl, rfl, rfl⟩ := he
  exact ⟨Z, own, ⟨Stay.refl _ _, hm, fun _ _ h => h, fun _ _ h => .inl h⟩, hv.1, fun j a v ha => by simp at ha⟩
 | c :: cs, [], _, _, _, _, _, _, _, _, _, hv => by simp [VRs] at hv
 | c :: cs, v :: vs, C, ds, ws, h, Z, own, hm, he, hC, hv => by
  simp only [closeL0] at he
  split at he
  ·rename_i C1 a1 ws1 h1
   split at he
   ·rename_i C2 l2 ws2 h2
    simp only [Option.some.injEq, Prod.mk.injEq] at he
    obtain ⟨rfl, rfl, rfl⟩ := he
    obtain ⟨Z1, own1, k1, k2⟩ := closeC0_sound hm h1 (AllP.append.1 hC).1 hv.head
    obtain ⟨Z2, own2, q1, q2, q3⟩ := closeL0_sound k1.mem h2 (AllP.append.1 hC).2 (hv.tail.mono k1.stay (Gst.Le.refl γ))
    refine ⟨Z2, own2, ⟨k1.stay.trans q1.stay, by rw [qce]; exact q1.mem, fun b o ho => k1.own b o (q1.own b o ho), k1.blk2 q1⟩, by simp [q2], fun j a u ha hu => ?_⟩
    cases j with
    | zero => simp at ha hu; subst ha; subst hu; exact k2.mono q1.stay
    | succ j => exact q3 j a u (by simpa using ha) (by simpa using hu)
   ·cases he
  ·cases he
theorem MemR.shutC (hm : MemR w0 K w Z own γ h used) (hR : hget h r = some R) (hc : R.cont = .cells cs) :
  Stay w Z w (fzZ Z own r) ∧ MemR w0 K w (fzZ Z own r) (fzO own r) γ (hdel h r) used := by
 have hs : Stay w Z w (fzZ Z own r) := ⟨fun _ _ => rfl, fun _ h => .inl h⟩
 refine ⟨hs, hm.step hs (Gst.Ext.refl used γ) (fun _ h => h) rfl rfl rfl (Nat.le_refl _) (fun x => x = r) (fun _ _ _ => rfl) (fun b o ho hn => ?_) (fun b o ho => ?_) (fun b hb => ?_) (fun r' R' hg => ?_) hm.fresh⟩
 ·simp only [fzO, ho]
  rw [if_neg hn]
 ·obtain ⟨e1, e2⟩ := fzO_some (p := o.2) (k := o.1) ho
  exact .inl ⟨e1, e2⟩
 ·rcases hb with hb | ⟨p, hb⟩
  ·exact ⟨hm.zlt b hb, .inl hb⟩
  ·exact ⟨hm.ownlt b _ hb, .inr (.inl ⟨_, hb, rfl⟩)⟩
 ·rw [hget_hdel] at hg
  split at hg
  ·cases hg
  ·rename_i hne
   exact .inl ⟨hg, hne⟩
theorem qgg (hm : MemR w0 K w Z own γ h used) {C : List Prop} {ws : List (Nat × Option Root)} (he : closeC h A = some (C, a, ws)) (hC : AllP C) (hA : VR w Z γ A V) :
  ∃ Z' own', Closed w0 K w Z own γ (qav h ws) used Z' own' ∧ CR w Z' a V := by
 unfold closeC at he
 split at he
 ·rename_i r off
  split at he
  ·rename_i R hR
   split at he
   ·rename_i cs hc
    split at he
    ·rename_i C1 cs' ws1 hcl
     split at he
     ·rename_i hall
      simp only [Option.some.injEq, Prod.mk.injEq] at he
      obtain ⟨rfl, rfl, rfl⟩ := he
      have hcr := (hm.root r R hR).cont
      unfold ContR at hcr
      simp only [hc] at hcr
      obtain ⟨_, _, b, arr, e, k1, k2, k3, k4⟩ := hcr
      obtain ⟨Z1, own1, j1, j2, j3⟩ := closeL0_sound hm hcl hC k4
      have hR' : hget (qav h ws1) r = some R := by rw [hget_other_ws hall]; exact hR
      have hcr2 := (j1.mem.root r R hR').cont
      unfold ContR at hcr2
      simp only [hc] at hcr2
      obtain ⟨_, _, b', _, _, m1, m2, _, _⟩ := hcr2
      rw [k1] at m1
      injection m1 with m1
      subst m1
      obtain ⟨s1, s2⟩ := j1.mem.shutC hR' hc
      refine ⟨_, _, ⟨j1.stay.trans s1, by rw [qce]; exact s2, fun x o ho => j1.own x o (fzO_some (k := o.1) (p := o.2) ho).1, fun x o ho => (j1.blk x o ho).elim fzO_blk fun hz => .inr (.inl hz)⟩, ?_⟩
      obtain ⟨b2, hb2, rfl⟩ : ∃ b2, γ.β r = some b2 ∧ V = .pointer (some ⟨b2, off, none⟩) := by
       cases hA with
       | cr hA => cases hA
       | ref _ _ b2 hb2 => exact ⟨b2, hb2, rfl⟩
      rw [k1] at hb2
      injection hb2 with hb2
      subst hb2
      have key := CR.rop (w := w) (Z := fzZ Z1 own1 r) cs' off b 0 (fun j => arr.getD j undef) (.inr ⟨_, m2⟩) (fun j x hx => ?_) (fun j x hx => ?_)
      ·rw [Nat.zero_add] at key
       exact key
      ·have hlt : j < arr.size := by
        have := (List.getElem?_eq_some_iff.1 hx).1
        rw [j2] at this
        simpa using this
       unfold qfv World.cell?
       simp only [k3, Nat.zero_add]
       simp [hlt]
      ·have hlt : j < arr.size := by
        have := (List.getElem?_eq_some_iff.1 hx).1
        rw [j2] at this
        simpa using this
       have := j3 j x (arr.getD j undef) hx (by simp [hlt])
       exact this.mono s1
     ·cases he
    ·cases he
   ·cases he
  ·cases he
 ·rename_i cs
  split at he
  ·rename_i C1 cs' ws1 hcl
   simp only [Option.some.injEq, Prod.mk.injEq] at he
   obtain ⟨rfl, rfl, rfl⟩ := he
   obtain ⟨arr, rfl, hvs⟩ := hA.agg_inv'
   obtain ⟨Z1, own1, j1, j2, j3⟩ := closeL0_sound hm hcl hC hvs
   exact ⟨Z1, own1, j1, .agg _ _ (by simpa using j2) fun j x y hx hy => j3 j x y hx (by simpa using hy)⟩
  ·cases he
 ·exact closeC0_sound hm he hC hA
theorem qfh : ∀ {cs : List AV} {vs : List Value} {C : List Prop} {ds : List AV} {ws : List (Nat × Option Root)} {h : Heap} {Z : Nat → Prop} {own : Own}, MemR w0 K w Z own γ h used → closeL h cs = some (C, ds, ws) → AllP C → VRs w Z γ cs vs →
  ∃ Z' own', Closed w0 K w Z own γ (qav h ws) used Z' own' ∧ ds.length = vs.length ∧ ∀ (j : Nat) a v, ds[j]? = some a → vs[j]? = some v → CR w Z' a v
 | [], vs, C, ds, ws, h, Z, own, hm, he, _, hv => by
  simp only [closeL, Option.some.injEq, Prod.mk.injEq] at he
  obtain ⟨rfl, rfl, rfl⟩ := he
  exact ⟨Z, own, ⟨Stay.refl _ _, hm, fun _ _ h => h, fun _ _ h => .inl h⟩, hv.1, fun j a v ha => by simp at ha⟩
 | c :: cs, [], _, _, _, _, _, _, _, _, _, hv => by simp [VRs] at hv
 | c :: cs, v :: vs, C, ds, ws, h, Z, own, hm, he, hC, hv => by
  simp only [closeL] at he
  split at he
  ·rename_i C1 a1 ws1 h1
   split at he
   ·rename_i C2 l2 ws2 h2
    simp only [Option.some.injEq, Prod.mk.injEq] at he
    obtain ⟨rfl, rfl, rfl⟩ := he
    obtain ⟨Z1, own1, k1, k2⟩ := qgg hm h1 (AllP.append.1 hC).1 hv.head
    obtain ⟨Z2, own2, q1, q2, q3⟩ := qfh k1.mem h2 (AllP.append.1 hC).2 (hv.tail.mono k1.stay (Gst.Le.refl γ))
    refine ⟨Z2, own2, ⟨k1.stay.trans q1.stay, by rw [qce]; exact q1.mem, fun b o ho => k1.own b o (q1.own b o ho), k1.blk2 q1⟩, by simp [q2], fun j a u ha hu => ?_⟩
    cases j with
    | zero => simp at ha hu; subst ha; subst hu; exact k2.mono q1.stay
    | succ j => exact q3 j a u (by simpa using ha) (by simpa using hu)
   ·cases he
  ·cases he
end
end Go.BE
namespace Go.BE
section
variable {P : Program} {E : Ctx} {w w' w0 : World} {Z Z' : Nat → Prop} {K : Kp} {own own' : Own} {γ γ' : Gst} {h h' : Heap} {used used' : Nat → Prop} {r s d : Nat} {R : Root} {a A B : AV} {v V U : Value} {cs ds : List AV} {vs us : List Value}
theorem rnode_spec {p : Pth} {N : NodeA} (he : rnode h r s p = some N) : rnodeA h r s p = some N ∧ N.R.pend = none ∧ N.R.fz = false := by
 unfold rnode at he
 split at he
 ·rename_i R m t hd
  obtain ⟨b, S, xs, h1, h2, h3, h4, h5, h6⟩ := rdata_spec hd
  have hA : rdataA h r s p.length = some (R, m, t) := by
   unfold rdataA
   simp only [h1, h2, h4, if_true, h3]
  split at he
  ·rename_i hle
   split at he
   ·rename_i n hn
    injection he with he
    subst he
    exact ⟨by unfold rnodeA; simp only [hA, hle, if_true, hn], h5, h6⟩
   ·cases he
  ·cases he
 ·cases he
theorem MemR.node (hm : MemR w0 K w Z own γ h used) {p : Pth} {N : NodeA} (he : rnode h r s p = some N) (hC : AllP N.C) :
  (hget h r = some N.R ∧ RootR w Z own γ r N.R ∧ N.R.valid s p.length = true ∧ p.length ≤ N.m ∧ N.C = nOK N.d p ∧ nget N.d p = some N.n) ∧
  (∃ b S xs, N.R.cont = .arr N.m b S xs ∧ N.d = ⟨.sl b S, xs⟩ ∧ room b xs.length ∧ N.R.pend = none ∧ N.R.fz = false ∧ qbv w Z (rows w) own r (γ.G N.R.cur) ⟨S, xs, false⟩ N.m []) ∧
  qbv w Z (rows w) own r (γ.G N.R.cur) N.n (N.m - p.length) p := by
 obtain ⟨hA, hp, hf⟩ := rnode_spec he
 obtain ⟨⟨h1, h2, h3, h4, h5, h6⟩, ⟨b, S, xs, k1, k2, k3, k4⟩, M, own0, r0, q1, q2, q3, q4⟩ := hm.nodeA hA hC
 obtain ⟨rfl, rfl⟩ := q4 hf
 have hM := q2 hp
 subst hM
 obtain ⟨_, _, M', own1, r1, p1, p2, _, p4⟩ := hm.arr h1 k1
 obtain ⟨rfl, rfl⟩ := p4 hf
 have hM := p2 hp
 subst hM
 exact ⟨⟨h1, h2, h3, h4, h5, h6⟩, ⟨b, S, xs, k1, k2, k3, hp, hf, p1⟩, q1⟩
theorem Sh.size_one {S : Sh} (h : S.isAgg = false) : S.size = 1 := by cases S <;> first | rfl | cases h
theorem load_run {t : TypeId} {i : TI} (hi : TIOK P t i) {S : Sh} (hf : fits i S = true) {b o : Nat} (hl : us.length = S.size) (hr : Run w b o us) :
  ∃ v, (loadVar t ⟨b, o, none⟩).run P w = .ok v w ∧ if S.isAgg then v = .agg us.toArray else us = [v] := by
 simp only [fits, Bool.and_eq_true, beq_iff_eq] at hf
 obtain ⟨ti, h1, h2, _, _⟩ := hi.info
 obtain ⟨d, hd, hk⟩ := hi.desc
 have hg := hk.isAgg
 simp only [loadVar, Sem.run_bind, run_isAgg' hd, Result.andThen_ok, hg, hf.2]
 cases hb : S.isAgg
 ·simp only [Bool.false_eq_true, if_false]
  rw [Sh.size_one hb] at hl
  match us, hl with
  | [u], _ =>
   have := hr 0 u rfl
   unfold qfv at this
   rw [Nat.add_zero] at this
   exact ⟨u, by simp [this], rfl⟩
 ·simp only [if_true]
  refine ⟨_, ?_, rfl⟩
  simp only [Sem.run_bind, qaw h1 h2, Result.andThen_ok, hf.1, ← hl, run_loadCells b o us hr, Sem.run_pure]
theorem Run.seg_rows {b : Nat} {row : List Value} {o n : Nat} (h : rows w b = some row) : Run w b o (seg row o n) := fun _ _ hj => rows_cell h (seg_get hj)
theorem placeCells_rel {p : Pth} {i r' : Nat} : ∀ {S : Sh} {m : Nat} {x : Den S} {st : List St} {us : List Value}, OR w Z (rows w) own r (γ.G s) S m x p i st us → VRs w Z γ (qgc r' s p i m S x st) us := by
 intro S
 induction S with
 | int k => intro m x st us h; cases m <;> exact FR.cells (S := .int k) h
 | bool => intro m x st us h; cases m <;> exact FR.cells (S := .bool) h
 | str => intro m x st us h; cases m <;> exact FR.cells (S := .str) h
 | unit => intro m x st us h; cases m <;> exact FR.cells (S := .unit) h
 | pair a b iha ihb =>
  intro m x st us h
  obtain ⟨u1, u2, rfl, h2, h3⟩ := h
  have e : qgc r' s p i m (.pair a b) x st = qgc r' s p i m a x.1 (st ++ [.l]) ++ qgc r' s p i m b x.2 (st ++ [.r]) := by cases m <;> rfl
  rw [e]
  exact (iha h2).append (ihb h3)
 | arr n a ih =>
  intro m x st us h
  cases m with
  | zero => exact (OR.to_FR (S := .arr n a) (.inl rfl) h).cells
  | succ m =>
   simp only [qgc]
   split
   ·rename_i hf
    exact (OR.to_FR (S := .arr n a) (.inr hf) h).cells
   ·refine ⟨by rw [List.length_replicate]; exact h.len.symm, fun j a v ha _ => ?_⟩
    rw [List.getElem?_replicate] at ha
    split at ha
    ·injection ha with ha; subst ha; exact .bad _
    ·cases ha
 | sl by_ a ih =>
  intro m x st us h
  cases m with
  | zero => exact FR.cells (S := .sl by_ a) h
  | succ m =>
   obtain ⟨v, hd, rfl, h2, h3, h4, h5, h6, h7, h8⟩ := h
   unfold HVal at h6
   rw [h4] at h6
   simp only [Bool.false_eq_true, if_false] at h6
   obtain ⟨ad, cv, rfl, hnc, hcc, had⟩ := h6
   refine VRs.cons (.osl r' s _ none _ hd h2 ⟨h4, ad, cv, rfl, hnc, ⟨by simp [wlo, wlen], by simp only [wlo]; omega⟩, by simpa [wlo] using hcc, fun hc => ?_⟩) VRs.nil
   obtain ⟨b, o, e1, e2⟩ := had hc
   exact ⟨b, o, e1, by simp [e2, wlo]⟩
 | ptr a ih =>
  intro m x st us h
  cases m with
  | zero => exact FR.cells (S := .ptr a) h
  | succ m =>
   obtain ⟨v, hd, rfl, h2, h3, h4, h5, h6, h8⟩ := h
   exact VRs.cons (.optr r' s _ _ hd h2 h4 h6) VRs.nil
theorem placeVal_rel {p : Pth} {i r' : Nat} {S : Sh} {m : Nat} {x : Den S} {st : List St} {us : List Value} (h : OR w Z (rows w) own r (γ.G s) S m x p i st us) (hv : if S.isAgg then v = .agg us.toArray else us = [v]) :
  VR w Z γ (placeVal r' s p i m S x st) v := by
 unfold placeVal
 split
 ·rename_i hm
  simp only [Bool.or_eq_true, decide_eq_true_eq] at hm
  have hfr := OR.to_FR hm h
  have := hfr.avOf
  split at this
  ·rename_i hS
   rw [if_pos hS] at hv
   subst hv
   exact .cr this
  ·rename_i hS
   rw [if_neg hS] at hv
   obtain ⟨v', e1, e2⟩ := this
   rw [hv] at e1
   injection e1 with e1
   subst e1
   exact .cr e2
 ·split
  ·have hc := placeCells_rel (r' := r') h
   simp only [Sh.isAgg, if_true] at hv
   subst hv
   exact .agg _ _ (by simpa using hc.1) (fun j x y hx hy => hc.2 j x y hx (by simpa using hy))
  ·rename_i hm
   have hm : m ≠ 0 := by simp only [Bool.or_eq_true, decide_eq_true_eq, not_or] at hm; exact hm.1
   obtain ⟨m', rfl⟩ : ∃ m', m = m' + 1 := ⟨m - 1, by omega⟩
   have hc := placeCells_rel (r' := r') h
   simp only [Sh.isAgg, Bool.false_eq_true, if_false] at hv
   rw [hv] at hc
   exact hc.head
  ·rename_i hm
   have hm : m ≠ 0 := by simp only [Bool.or_eq_true, decide_eq_true_eq, not_or] at hm; exact hm.1
   obtain ⟨m', rfl⟩ : ∃ m', m = m' + 1 := ⟨m - 1, by omega⟩
   have hc := placeCells_rel (r' := r') h
   simp only [Sh.isAgg, Bool.false_eq_true, if_false] at hv
   rw [hv] at hc
   exact hc.head
  ·exact .bad _
end
end Go.BE
