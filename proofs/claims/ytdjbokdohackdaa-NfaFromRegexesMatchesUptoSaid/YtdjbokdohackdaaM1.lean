import Derived.Calls
import Derived.Orders
import Derived.CheckFast
import Derived.KernelRfl
import Derived.Laws.OwnMore
import Derived.Laws.MakeOwn
import Derived.Laws.Entries
import Derived.Laws.World
import Derived.Laws.CopyRow
import Derived.MapKept
import Derived.Laws.StructEq
import Derived.ChangeKeysEq
/- The abstract machine: kinds, abstract values, heap accesses, operations, execution. No proof here. -/
namespace Go.AM

/-- A tree: {Kind int; Set [4]uint64; Kids []the same}. -/
inductive Rx where
  | mk (kind : Int) (set : List Int) (kids : List Rx)
  deriving Inhabited

def Rx.kind : Rx → Int | .mk k _ _ => k
def Rx.set : Rx → List Int | .mk _ s _ => s
def Rx.kids : Rx → List Rx | .mk _ _ l => l

/-- The data kinds ('rx': the tree). 'dyn': one cell that holds no plain data (0 pointer, 1 map, 2 func, 3 interface). -/
inductive Kind where
  | bool | int (k : IntKind) | str | dyn (d : Nat)
  | slice (e : Kind) | unit | pair (a b : Kind) | arr (n : Nat) (e : Kind)
  | rx
  | fnk   -- a function value that is a function of the program, or nil
  deriving DecidableEq, Inhabited

@[reducible] def Kind.T : Kind → Type
  | .bool => Bool
  | .int _ => Int
  | .str => List UInt8
  | .dyn _ => Unit
  | .slice e => List e.T
  | .unit => Unit
  | .pair a b => a.T × b.T
  | .arr _ e => List e.T
  | .rx => Rx
  | .fnk => Option Nat

def Kind.size : Kind → Nat
  | .unit => 0
  | .pair a b => a.size + b.size
  | .arr n e => n * e.size
  | .rx => 6
  | _ => 1

def Kind.isAgg : Kind → Bool
  | .unit | .pair _ _ | .arr _ _ | .rx => true
  | _ => false

def Kind.isSlice : Kind → Bool
  | .slice _ => true
  | _ => false

def Kind.dflt : (k : Kind) → k.T
  | .bool => false
  | .int _ => (0 : Int)
  | .str => ([] : List UInt8)
  | .dyn _ => ()
  | .slice _ => []
  | .unit => ()
  | .pair a b => (a.dflt, b.dflt)
  | .arr n e => List.replicate n e.dflt
  | .rx => Rx.mk 0 [0, 0, 0, 0] []
  | .fnk => (none : Option Nat)

/-- no cell without plain data -/
def Kind.plain : Kind → Bool
  | .dyn _ => false
  | .slice e => e.plain
  | .pair a b => a.plain && b.plain
  | .arr _ e => e.plain
  | _ => true

def listEqB {α : Type} (f : α → α → Bool) : List α → List α → Bool
  | [], [] => true
  | a :: r, b :: s => f a b && listEqB f r s
  | _, _ => false

def Kind.deep : Kind → Nat
  | .pair a b => max (a.deep + 1) b.deep
  | .arr _ e => e.deep + 1
  | _ => 1

def Kind.eqB : (k : Kind) → k.T → k.T → Bool
  | .bool, a, b => a == b
  | .int _, a, b => decide ((a : Int) = b)
  | .str, a, b => decide ((a : List UInt8) = b)
  | .unit, _, _ => true
  | .pair k l, a, b => k.eqB a.1 b.1 && l.eqB a.2 b.2
  | .arr _ e, a, b => listEqB e.eqB a b
  | _, _, _ => false

inductive AV where
  | undef
  | bool (b : Bool)
  | int (k : IntKind) (n : Int)
  | str (s : List UInt8)
  | sl (e : Kind) (xs : List e.T)
  | nilsl
  | ref (n : Nat)
  | pref (n k : Nat)
  | ptr (n off : Nat)
  | eptr (n i sub : Nat)
  | aptr (n off cnt i : Nat)
  | iptr (cs : List AV)
  | mapr (n : Nat)
  | mref (n i : Nat)      -- map number i of the row of maps n
  | keys (c n i : Nat)    -- the iterator (closure c) over its keys
  | fn (f : Nat) (cap : List AV)
  | agg (cs : List AV)
  | tup (vs : List AV)
  | nilp | nilfn | nilmap | nilif
  deriving Inhabited

inductive Cell where
  | free | dead
  | box (cs : List AV)
  | row (e : Kind) (xs : List e.T)
  | map (k v : Kind) (es : List (k.T × v.T))
  | mrow (k v : Kind) (ess : List (List (k.T × v.T)))   -- a slice of maps, with them
  deriving Inhabited

abbrev Hp := Nat → Cell

def upd {α : Type} (f : Nat → α) (n : Nat) (x : α) : Nat → α := fun m => if m = n then x else f m

structure St where
  fr : Nat → AV
  hp : Hp

def look {α : Type} (d : α) : List (Nat × α) → Nat → α
  | [], _ => d
  | (k, v) :: r, n => if n = k then v else look d r n

structure TEnv where
  kinds : List (Nat × Kind)
  maps : List (Nat × (Kind × Kind))
  imm : List Nat := []   -- the names whose literal is immutable from the start
  procs : List ((Nat × Nat) × ((List (Nat × Nat)) × (List (Nat × Nat)))) := []   -- at the call named nm of function g: (name here, name there) of what it is given, of what it leaves
  keysOf : Option (Nat × Nat) := none   -- maps.Keys over int keys, and the closure that it hands back
  sorted : Option Nat := none           -- slices.Sorted of ints

def TEnv.kind (Γ : TEnv) (t : Nat) : Option Kind := look none (Γ.kinds.map fun p => (p.1, some p.2)) t
def TEnv.map (Γ : TEnv) (t : Nat) : Option (Kind × Kind) := look none (Γ.maps.map fun p => (p.1, some p.2)) t

def dynZero : Nat → AV
  | 0 => .nilp
  | 1 => .nilmap
  | 2 => .nilfn
  | _ => .nilif

def Kind.zero : Kind → List AV
  | .bool => [.bool false]
  | .int k => [.int k 0]
  | .str => [.str []]
  | .dyn d => [dynZero d]
  | .slice _ => [.nilsl]
  | .unit => []
  | .pair a b => a.zero ++ b.zero
  | .arr n e => (List.replicate n e.zero).flatten
  | .rx => [.int .i64 0, .int .u64 0, .int .u64 0, .int .u64 0, .int .u64 0, .nilsl]
  | .fnk => [.nilfn]

def fnAV : Option Nat → AV
  | none => .nilfn
  | some f => .fn f []

def Kind.flat : (k : Kind) → k.T → List AV
  | .bool, b => [.bool b]
  | .int k, n => [.int k n]
  | .str, s => [.str s]
  | .dyn _, _ => [.undef]
  | .slice e, xs => [.sl e xs]
  | .unit, _ => []
  | .pair a b, x => a.flat x.1 ++ b.flat x.2
  | .arr n e, xs => (List.range n).flatMap fun i => e.flat (xs.getD i e.dflt)
  | .rx, x => [.int .i64 x.kind, .int .u64 (x.set.getD 0 0), .int .u64 (x.set.getD 1 0), .int .u64 (x.set.getD 2 0), .int .u64 (x.set.getD 3 0), .sl .rx x.kids]
  | .fnk, f => [fnAV f]

def manyOf {α : Type} (f : List AV → Option (α × List AV)) : Nat → List AV → Option (List α × List AV)
  | 0, l => some ([], l)
  | n + 1, l => (f l).bind fun p => (manyOf f n p.2).bind fun q => some (p.1 :: q.1, q.2)

def unBool : List AV → Option (Bool × List AV)
  | .bool b :: r => some (b, r)
  | _ => none

def unInt (k : IntKind) : List AV → Option (Int × List AV)
  | .int k' n :: r => if k = k' then some (n, r) else none
  | _ => none

def unStr : List AV → Option (List UInt8 × List AV)
  | .str s :: r => some (s, r)
  | _ => none

def unSl (e : Kind) : List AV → Option (List e.T × List AV)
  | .sl e' xs :: r => if h : e' = e then some ((h ▸ xs : List e.T), r) else none
  | .nilsl :: r => some ([], r)
  | _ => none

def unRx (l : List AV) : Option (Rx × List AV) :=
  (unInt .i64 l).bind fun p => (unInt .u64 p.2).bind fun a => (unInt .u64 a.2).bind fun b => (unInt .u64 b.2).bind fun c => (unInt .u64 c.2).bind fun d =>
    (unSl .rx d.2).bind fun q => some (.mk p.1 [a.1, b.1, c.1, d.1] q.1, q.2)

def unFn : List AV → Option (Option Nat × List AV)
  | .fn f [] :: r => some (some f, r)
  | .nilfn :: r => some (none, r)
  | _ => none

def Kind.unflat : (k : Kind) → List AV → Option (k.T × List AV)
  | .bool, l => unBool l
  | .int k, l => unInt k l
  | .str, l => unStr l
  | .dyn _, _ => none
  | .slice e, l => unSl e l
  | .unit, r => some ((), r)
  | .pair a b, l => (a.unflat l).bind fun p => (b.unflat p.2).bind fun q => some ((p.1, q.1), q.2)
  | .arr n e, l => (manyOf e.unflat n l).bind fun q => some (q.1, q.2)
  | .rx, l => unRx l
  | .fnk, l => unFn l

/-- field i of a struct kind: its offset in cells and its kind -/
def Kind.fieldAt : Kind → Nat → Option (Nat × Kind)
  | .pair a _, 0 => some (0, a)
  | .pair a b, n + 1 => (b.fieldAt n).bind fun p => some (a.size + p.1, p.2)
  | .rx, 0 => some (0, .int .i64)
  | .rx, 1 => some (1, .arr 4 (.int .u64))
  | .rx, 2 => some (5, .slice .rx)
  | _, _ => none

def AV.leaves : AV → Option (List AV)
  | .agg cs => some cs
  | .undef | .tup _ => none
  | v => some [v]

def Kind.res (k : Kind) (cs : List AV) : Option AV :=
  if cs.length = k.size then
    if k.isAgg then some (.agg cs) else match cs with | [c] => some c | _ => none
  else none

mutual
def AV.closed : AV → Bool
  | .undef | .bool _ | .int _ _ | .str _ | .sl _ _ | .nilsl | .nilp | .nilfn | .nilmap | .nilif => true
  | .fn _ cap => AV.closedL cap
  | .agg cs => AV.closedL cs
  | .tup cs => AV.closedL cs
  | .ref _ | .pref _ _ | .ptr _ _ | .eptr _ _ _ | .aptr _ _ _ _ | .iptr _ | .mapr _ | .mref _ _ | .keys _ _ _ => false
def AV.closedL : List AV → Bool
  | [] => true
  | v :: r => v.closed && AV.closedL r
end

def oneL (k : Kind) (cs : List AV) : Option k.T := (k.unflat cs).bind fun p => match p.2 with | [] => some p.1 | _ => none

def AV.isAgg : AV → Bool
  | .agg _ => true
  | _ => false

def one (k : Kind) (v : AV) : Option k.T := if k.isAgg = v.isAgg then v.leaves.bind (oneL k) else none

def ofK (k : Kind) (x : k.T) : AV := if k.isAgg then .agg (k.flat x) else match k.flat x with | [c] => c | _ => .undef

/-! ### canonical states -/

inductive Sh where
  | kd (k : Kind) | ref (n : Nat) | ptr (n off : Nat) | mapr (n : Nat) | junk | fnp (f : Nat) (ps : List Nat)
  deriving DecidableEq, Inhabited

@[reducible] def Sh.T : Sh → Type
  | .kd k => k.T
  | _ => Unit

/-- pointers to the boxes of those names -/
def ptrsAre : List Nat → List AV → Bool
  | [], [] => true
  | n :: r, .ptr m o :: vs => m == n && o == 0 && ptrsAre r vs
  | _, _ => false

def Sh.dec : (s : Sh) → AV → Option s.T
  | .kd k, v => one k v
  | .ref n, .ref m => if m = n then some () else none
  | .ptr n o, .ptr m p => if m = n then (if p = o then some () else none) else none
  | .mapr n, .mapr m => if m = n then some () else none
  | .junk, _ => some ()
  | .ref _, _ => none
  | .ptr _ _, _ => none
  | .mapr _, _ => none
  | .fnp f ps, .fn g cap => if g = f then (if ptrsAre ps cap = true then some () else none) else none
  | .fnp _ _, _ => none

def Sh.can : (s : Sh) → s.T → AV
  | .kd k, x => ofK k x
  | .ref n, _ => .ref n
  | .ptr n o, _ => .ptr n o
  | .mapr n, _ => .mapr n
  | .junk, _ => .undef
  | .fnp f ps, _ => .fn f (ps.map fun n => .ptr n 0)

@[reducible] def ShL : List Sh → Type
  | [] => Unit
  | s :: r => s.T × ShL r

def decL : (l : List Sh) → List AV → Option (ShL l)
  | [], [] => some ()
  | s :: r, v :: vs => (s.dec v).bind fun x => (decL r vs).bind fun y => some (x, y)
  | _ :: _, [] => none
  | [], _ :: _ => none

def canL : (l : List Sh) → ShL l → List AV
  | [], _ => []
  | s :: r, x => s.can x.1 :: canL r x.2

inductive CSh where
  | box (l : List Sh) | row (e : Kind) | map (k v : Kind) | mrow (k v : Kind) | dead | free
  deriving DecidableEq, Inhabited

@[reducible] def CSh.T : CSh → Type
  | .box l => ShL l
  | .row e => List e.T
  | .map k v => List (k.T × v.T)
  | .mrow k v => List (List (k.T × v.T))
  | _ => Unit

def CSh.dec : (s : CSh) → Cell → Option s.T
  | .box l, .box cs => decL l cs
  | .row e, .row e' xs => if h : e' = e then some (h ▸ xs : List e.T) else none
  | .map k v, .map k' v' es => if h : k' = k ∧ v' = v then some (h.1 ▸ h.2 ▸ es : List (k.T × v.T)) else none
  | .mrow k v, .mrow k' v' es => if h : k' = k ∧ v' = v then some (h.1 ▸ h.2 ▸ es : List (List (k.T × v.T))) else none
  | .dead, .dead => some ()
  | .free, .free => some ()
  | .box _, _ => none
  | .row _, _ => none
  | .map _ _, _ => none
  | .mrow _ _, _ => none
  | .dead, _ => none
  | .free, _ => none

def CSh.can : (s : CSh) → s.T → Cell
  | .box l, x => .box (canL l x)
  | .row e, x => .row e x
  | .map k v, x => .map k v x
  | .mrow k v, x => .mrow k v x
  | .dead, _ => .dead
  | .free, _ => .free

@[reducible] def CShL : List CSh → Type
  | [] => Unit
  | s :: r => s.T × CShL r

def decCL : (l : List CSh) → List Cell → Option (CShL l)
  | [], [] => some ()
  | s :: r, v :: vs => (s.dec v).bind fun x => (decCL r vs).bind fun y => some (x, y)
  | _ :: _, [] => none
  | [], _ :: _ => none

def canCL : (l : List CSh) → CShL l → List Cell
  | [], _ => []
  | s :: r, x => s.can x.1 :: canCL r x.2

/-- what a function hands back: one value or several -/
inductive RSh where
  | one (k : Kind) | tup (ks : List Kind)
  deriving Inhabited

@[reducible] def RSh.T : RSh → Type
  | .one k => k.T
  | .tup ks => ShL (ks.map Sh.kd)

def RSh.can : (r : RSh) → r.T → AV
  | .one k, x => ofK k x
  | .tup ks, x => .tup (canL (ks.map Sh.kd) x)

def RSh.dec : (r : RSh) → AV → Option r.T
  | .one k, v => Go.AM.one k v
  | .tup ks, .tup vs => decL (ks.map Sh.kd) vs
  | .tup _, _ => none

/-- heap accesses of one operation -/
inductive M where
  | pure (v : AV)
  | fail
  | br (b : Bool) (x y : M)
  | rd (n : Nat) (k : Cell → M)
  | wr (n : Nat) (c : Cell) (x : M)
  | call (f : Nat) (args : List AV) (k : AV → M)
  | pcall (f : Nat) (args : List AV) (cells : List Cell) (k : AV → List Cell → M)

/-- f's answer, typed: what shape, and the value once there is one; of a procedure: its answer and what it leaves in the cells that it is given -/
structure Call where
  fn : Nat → List AV → Option ((r : RSh) × Option r.T)
  proc : Nat → List AV → List Cell → Option ((o : RSh × List CSh) × Option (o.1.T × CShL o.2)) := fun _ _ _ => none
def Call.av (c : Call) (f : Nat) (args : List AV) : Option AV := (c.fn f args).bind fun p => p.2.map p.1.can
def Call.pv (c : Call) (f : Nat) (args : List AV) (cells : List Cell) : Option (AV × List Cell) := (c.proc f args cells).bind fun p => p.2.map fun x => (p.1.1.can x.1, canCL p.1.2 x.2)

noncomputable def M.run (call : Call) {R : Type} (K : AV → Hp → Option R) (m : M) : Hp → Option R :=
  M.rec (motive := fun _ => Hp → Option R)
    (fun v h => K v h)
    (fun _ => none)
    (fun b _ _ x y h => if b = true then x h else y h)
    (fun n _ k h => k (h n) h)
    (fun n c _ x h => x (upd h n c))
    (fun f args _ k h => (call.fn f args).bind fun p => p.2.bind fun x => k (p.1.can x) h)
    (fun f args cells _ k h => (call.proc f args cells).bind fun p => p.2.bind fun x => k (p.1.1.can x.1) (canCL p.1.2 x.2) h)
    m

def M.ofOpt {α : Type} (o : Option α) (k : α → M) : M := match o with | some x => k x | none => .fail

/-- a new object under the name n -/
def M.new (n : Nat) (c : Cell) (v : AV) : M := .rd n fun | .free => .wr n c (.pure v) | _ => .fail

def lim : Nat := 68719476736

def cval : Value → AV
  | .bool b => .bool b
  | .int k n => .int k n
  | .string s => .str s.data.toList
  | .slice none 0 0 => .nilsl
  | .pointer none => .nilp
  | .nilFunc => .nilfn
  | .map none => .nilmap
  | .nilIface => .nilif
  | _ => .undef

def ev (fr : Nat → AV) : Operand → AV
  | .tmp t => fr t
  | .const v => cval v
  | .func f => .fn f []
  | .global _ => .undef

def splice (l : List AV) (off : Nat) (cs : List AV) : List AV := l.take off ++ cs ++ l.drop (off + cs.length)

/-- the parts of a composite literal, each at its place -/
def putParts (at_ : Nat → Option (Nat × Nat)) : List (Nat × AV) → List AV → Option (List AV)
  | [], z => some z
  | (i, v) :: r, z => (at_ i).bind fun p => v.leaves.bind fun cs =>
      if cs.length = p.2 ∧ p.1 + p.2 ≤ z.length then putParts at_ r (splice z p.1 cs) else none

def listOf (e : Kind) : Nat → List AV → Option (List e.T)
  | 0, [] => some []
  | n + 1, l => (e.unflat l).bind fun p => (listOf e n p.2).bind fun r => some (p.1 :: r)
  | _, _ => none

def intsOf (k : IntKind) : List AV → Option (List Int)
  | [] => some []
  | .int k' n :: r => if k' = k then (intsOf k r).bind fun l => some (n :: l) else none
  | _ => none

/-- the elements that a slice value covers, as a list of the kind's type (a row is read out of the heap) -/
def M.elems (e : Kind) (v : AV) (k : List e.T → M) : M :=
  match v with
  | .nilsl => k []
  | .sl e' xs => if h : e' = e then k (h ▸ xs) else .fail
  | .ref n => .rd n fun
    | .row e' xs => if h : e' = e then k (h ▸ xs) else .fail
    | _ => .fail
  | .pref n j => .rd n fun
    | .row e' xs => if h : e' = e then k ((h ▸ xs : List e.T).take j) else .fail
    | _ => .fail
  | _ => .fail

def icmp (op : BinOp) (a b : Int) : Option Bool :=
  match op with
  | .eql => some (decide (a = b))
  | .neq => some (!decide (a = b))
  | .lss => some (decide (a < b))
  | .leq => some (decide (a ≤ b))
  | .gtr => some (decide (a > b))
  | .geq => some (decide (a ≥ b))
  | _ => none

def ibits (op : BinOp) (k : IntKind) (a b : Int) : Option Int :=
  match op with
  | .and => some (k.wrap (BitVec.ofInt k.bits a &&& BitVec.ofInt k.bits b).toNat)
  | .or => some (k.wrap (BitVec.ofInt k.bits a ||| BitVec.ofInt k.bits b).toNat)
  | .xor => some (k.wrap (BitVec.ofInt k.bits a ^^^ BitVec.ofInt k.bits b).toNat)
  | .andNot => some (k.wrap (BitVec.ofInt k.bits a &&& ~~~BitVec.ofInt k.bits b).toNat)
  | _ => none

def iarith (op : BinOp) (k : IntKind) (a b : Int) : Option Int :=
  match op with
  | .add => some (k.wrap (a + b))
  | .sub => some (k.wrap (a - b))
  | .mul => some (k.wrap (a * b))
  | _ => none

def isEq : BinOp → Option Bool
  | .eql => some true
  | .neq => some false
  | _ => none

/-- the type's '==' needs no look at interfaces: plain kinds without slices -/
def Kind.eqOk : Kind → Bool
  | .bool | .int _ | .str => true
  | .pair a b => a.eqOk && b.eqOk
  | .unit => true
  | .arr _ e => e.eqOk
  | _ => false

/-- keys of maps -/
def Kind.keyOk : Kind → Bool
  | .bool | .int _ | .str => true
  | .pair a b => a.keyOk && b.keyOk
  | .unit => true
  | _ => false

def binM (Γ : TEnv) (op : BinOp) (t : Nat) (x y : AV) : M :=
  match op, x, y with
  | .shl, .int k a, .int _ b => .br (decide (0 ≤ b)) (.pure (.int k (k.wrap (a * 2 ^ (min b.toNat k.bits))))) .fail
  | .shr, .int k a, .int _ b => .br (decide (0 ≤ b)) (.pure (.int k (a.fdiv (2 ^ (min b.toNat k.bits))))) .fail
  | .quo, .int k a, .int k' b => if k = k' then .br (decide (b = 0)) .fail (.pure (.int k (k.wrap (a.tdiv b)))) else .fail
  | .rem, .int k a, .int k' b => if k = k' then .br (decide (b = 0)) .fail (.pure (.int k (a.tmod b))) else .fail
  | op, .int k a, .int k' b => if k = k' then
      match iarith op k a b with
      | some c => .pure (.int k c)
      | none => match ibits op k a b with
        | some c => .pure (.int k c)
        | none => match icmp op a b with
          | some c => .pure (.bool c)
          | none => .fail
    else .fail
  | .add, .str a, .str b => .br (decide (a.length + b.length ≤ lim)) (.pure (.str (a ++ b))) .fail
  | .eql, .str a, .str b => .pure (.bool (decide (a = b)))
  | .neq, .str a, .str b => .pure (.bool (!decide (a = b)))
  | .lss, .str a, .str b => .pure (.bool (Op.bytesLess a b))
  | .leq, .str a, .str b => .pure (.bool (Op.bytesLess a b || decide (a = b)))
  | .gtr, .str a, .str b => .pure (.bool (!(Op.bytesLess a b || decide (a = b))))
  | .geq, .str a, .str b => .pure (.bool (!Op.bytesLess a b))
  | .eql, .bool a, .bool b => if Γ.kind t = some .bool then .pure (.bool (a == b)) else .fail
  | .neq, .bool a, .bool b => if Γ.kind t = some .bool then .pure (.bool (!(a == b))) else .fail
  | op, .agg a, .agg b => .ofOpt (isEq op) fun e => .ofOpt (Γ.kind t) fun k =>
      if k.eqOk && k.isAgg then
        .ofOpt (oneL k a) fun x => .ofOpt (oneL k b) fun y => .pure (.bool (if e then k.eqB x y else !(k.eqB x y))) else .fail
  | _, _, _ => .fail

def mget (k : Kind) {v : Type} (x : k.T) : List (k.T × v) → Option v
  | [] => none
  | p :: r => if k.eqB x p.1 = true then some p.2 else mget k x r

def mput (k : Kind) {v : Type} (x : k.T) (y : v) : List (k.T × v) → List (k.T × v)
  | [] => [(x, y)]
  | p :: r => if k.eqB x p.1 = true then (x, y) :: r else p :: mput k x y r

def Kind.isFnk : Kind → Bool
  | .fnk => true
  | _ => false

/-- a lookup that branches: each way out has its own value -/
def fnChain (k v : Kind) (x : k.T) : List (k.T × v.T) → M
  | [] => .pure (ofK v v.dflt)
  | p :: r => .br (k.eqB x p.1) (.pure (ofK v p.2)) (fnChain k v x r)

def optInt (e : Operand → AV) : Option Operand → Option (Option Int)
  | none => some none
  | some x => match e x with
    | .int _ z => some (some z)
    | _ => none

def TEnv.proc (Γ : TEnv) (nm g : Nat) : Option ((List (Nat × Nat)) × (List (Nat × Nat))) := (Γ.procs.find? fun p => p.1.1 == nm && p.1.2 == g).map (·.2)

/-- maps.Keys of a map in a row of maps; slices.Sorted of what it hands back -/
def TEnv.special (Γ : TEnv) (g : Nat) : List AV → Option ((Nat × Nat × Nat) ⊕ (Nat × Nat))
  | [.mref n i] => match Γ.keysOf with
    | some (f, c) => if g = f then some (.inl (c, n, i)) else none
    | none => none
  | [.keys c n i] => match Γ.keysOf with
    | some (_, c') => if c = c' ∧ Γ.sorted = some g then some (.inr (n, i)) else none
    | none => none
  | _ => none

def i64ok (l : List Int) : Bool := l.all fun k => decide (-9223372036854775808 ≤ k ∧ k ≤ 9223372036854775807)

def insInt (x : Int) : List Int → List Int
  | [] => [x]
  | y :: r => if x ≤ y then x :: y :: r else y :: insInt x r
def sortedInts : List Int → List Int
  | [] => []
  | x :: r => insInt x (sortedInts r)

mutual
/-- names as the procedure knows them -/
def AV.ren (π : Nat → Option Nat) : AV → AV
  | .ref n => match π n with | some m => .ref m | none => .undef
  | .pref n k => match π n with | some m => .pref m k | none => .undef
  | .ptr n o => match π n with | some m => .ptr m o | none => .undef
  | .eptr n i s => match π n with | some m => .eptr m i s | none => .undef
  | .aptr n o c i => match π n with | some m => .aptr m o c i | none => .undef
  | .mapr n => match π n with | some m => .mapr m | none => .undef
  | .mref n i => match π n with | some m => .mref m i | none => .undef
  | .keys c n i => match π n with | some m => .keys c m i | none => .undef
  | .iptr cs => .iptr (AV.renL π cs)
  | .fn f cap => .fn f (AV.renL π cap)
  | .agg cs => .agg (AV.renL π cs)
  | .tup cs => .tup (AV.renL π cs)
  | v => v
def AV.renL (π : Nat → Option Nat) : List AV → List AV
  | [] => []
  | v :: r => v.ren π :: AV.renL π r
end

def Cell.ren (π : Nat → Option Nat) : Cell → Cell
  | .box cs => .box (AV.renL π cs)
  | c => c

def Cell.live : Cell → Bool
  | .free | .dead => false
  | _ => true

def rdAll : List Nat → (List Cell → M) → M
  | [], k => k []
  | n :: r, k => .rd n fun c => if c.live then rdAll r fun cs => k (c :: cs) else .fail

def wrDead : List Nat → M → M
  | [], x => x
  | n :: r, x => .wr n .dead (wrDead r x)

/-- a name that is new must be free -/
def wrNew (old : List (Nat × Nat)) : List ((Nat × Nat) × Cell) → M → M
  | [], x => x
  | (p, c) :: r, x => if old.contains p then .wr p.1 c (wrNew old r x) else .rd p.1 fun | .free => .wr p.1 c (wrNew old r x) | _ => .fail

def pmap (l : List (Nat × Nat)) (n : Nat) : Option Nat := look none (l.map fun p => (p.1, some p.2)) n
def pinv (l : List (Nat × Nat)) (n : Nat) : Option Nat := look none (l.map fun p => (p.2, some p.1)) n

def nodupB : List Nat → Bool
  | [] => true
  | n :: r => !r.contains n && nodupB r

def procOk (ns ms : List (Nat × Nat)) : Bool :=
  nodupB (ns.map (·.1)) && nodupB (ns.map (·.2)) && nodupB (ms.map (·.1)) && nodupB (ms.map (·.2)) && (ms.all fun p => (ns.all fun q => (p.1 == q.1) == (p.2 == q.2)))

/-- a call of a procedure: ns: what it is given (the name here, the name there), ms: what it leaves -/
def procM (g : Nat) (ns ms : List (Nat × Nat)) (args : List AV) : M :=
  if procOk ns ms then
    rdAll (ns.map (·.1)) fun cells => .pcall g (AV.renL (pmap ns) args) (cells.map (Cell.ren (pmap ns))) fun v cells' =>
      if cells'.length = ms.length && cells'.all Cell.live then
        wrDead ((ns.filter fun p => !ms.contains p).map (·.1)) (wrNew ns (ms.zip (cells'.map (Cell.ren (pinv ms)))) (.pure v))
      else .fail
  else .fail

def aop (Γ : TEnv) (nm : Nat) (e : Operand → AV) : Op → M
  | .move x | .assign x => .pure (e x)
  | .nilCheck x => match e x with
    | .ptr n off => .rd n fun
      | .box _ => .pure (.ptr n off)
      | _ => .fail
    | _ => .fail
  | .pick c a b => match e c with
    | .bool t => .br t (.pure (e a)) (.pure (e b))
    | _ => .fail
  | .alloc t => .ofOpt (Γ.kind t) fun k => .new nm (.box k.zero) (.ptr nm 0)
  | .box t x => .ofOpt (Γ.kind t) fun k => .ofOpt (e x).leaves fun cs =>
      if cs.length = k.size then .new nm (.box cs) (.ptr nm 0) else .fail
  | .build t parts => .ofOpt (Γ.kind t) fun k => match k with
    | .arr _ el => .ofOpt (putParts (fun i => some (i * el.size, el.size)) (parts.toList.map fun p => (p.1, e p.2)) k.zero) fun z => .pure (.agg z)
    | .pair _ _ | .unit | .rx => .ofOpt (putParts (fun i => (k.fieldAt i).map fun p => (p.1, p.2.size)) (parts.toList.map fun p => (p.1, e p.2)) k.zero) fun z => .pure (.agg z)
    | _ => .fail
  | .buildSlice t n parts => .ofOpt (Γ.kind t) fun k => match k with
    | .slice (.dyn 1) => match n, parts.toList.map fun p => (p.1, e p.2) with
      | 1, [(0, .mapr m)] => .rd m fun
        | .map k v es => .wr m .dead (.new nm (.mrow k v [es]) (.ref nm))
        | _ => .fail
      | _, _ => .fail
    | .slice el => if n ≤ 16777216 ∧ n * el.size ≤ 16777216 then
        .ofOpt (putParts (fun i => some (i * el.size, el.size)) (parts.toList.map fun p => (p.1, e p.2)) ((List.replicate n el.zero).flatten)) fun z =>
          .ofOpt (listOf el n z) fun xs => if Γ.imm.contains nm = true then .pure (.sl el xs) else .new nm (.row el xs) (.ref nm)
      else .fail
    | _ => .fail
  | .load t a => .ofOpt (Γ.kind t) fun k => match e a with
    | .ptr n off => .rd n fun
      | .box cs => .ofOpt (k.res ((cs.drop off).take k.size)) .pure
      | _ => .fail
    | .eptr n i sub => .rd n fun
      | .row el xs => .ofOpt (k.res (((el.flat (xs.getD i el.dflt)).drop sub).take k.size)) .pure
      | .mrow _ _ _ => if k = .dyn 1 ∧ sub = 0 then .pure (.mref n i) else .fail
      | _ => .fail
    | .iptr cs => .ofOpt (k.res (cs.take k.size)) .pure
    | .aptr n off cnt i => .rd n fun
      | .box cs => match k with
        | .int ik => .ofOpt (intsOf ik ((cs.drop off).take cnt)) fun l => .pure (.int ik (l.getD i 0))
        | _ => .fail
      | _ => .fail
    | _ => .fail
  | .store t a x => .ofOpt (Γ.kind t) fun k => .ofOpt (e x).leaves fun ls =>
      if ls.length = k.size then
      match e a with
      | .ptr n off => .rd n fun
        | .box cs => if off + k.size ≤ cs.length then .wr n (.box (splice cs off ls)) (.pure .undef) else .fail
        | _ => .fail
      | .eptr n i sub => .rd n fun
        | .row el xs => if sub + k.size ≤ el.size then
            .ofOpt (oneL el (splice (el.flat (xs.getD i el.dflt)) sub ls)) fun y => .wr n (.row el (xs.set i y)) (.pure .undef) else .fail
        | _ => .fail
      | .aptr n off cnt i => .rd n fun
        | .box cs => match k, e x with
          | .int ik, .int ik' v => if ik' = ik then .ofOpt (intsOf ik ((cs.drop off).take cnt)) fun l =>
              .wr n (.box (splice cs off ((List.range cnt).map fun j => .int ik ((l.set i v).getD j 0)))) (.pure .undef) else .fail
          | _, _ => .fail
        | _ => .fail
      | _ => .fail
      else .fail
  | .fieldAddr t x f => .ofOpt (Γ.kind t) fun k => .ofOpt (k.fieldAt f) fun p =>
      if p.2.size = 0 then .fail else
      match e x with
      | .ptr n off => .rd n fun
        | .box _ => .pure (.ptr n (off + p.1))
        | _ => .fail
      | .eptr n i sub => .rd n fun
        | .row _ _ => .pure (.eptr n i (sub + p.1))
        | _ => .fail
      | .iptr cs => .pure (.iptr (cs.drop p.1))
      | _ => .fail
  | .field t x f => .ofOpt (Γ.kind t) fun k => .ofOpt (k.fieldAt f) fun p => match e x with
      | .agg cs => if cs.length = k.size then .ofOpt (p.2.res ((cs.drop p.1).take p.2.size)) .pure else .fail
      | _ => .fail
  | .indexAddr t x i => .ofOpt (Γ.kind t) fun k => match k, e i with
    | .slice ke, .int _ z => match e x with
      | .sl el xs => if el = ke then .br (decide (0 ≤ z ∧ z < (xs.length : Int))) (.pure (.iptr (el.flat (xs.getD z.toNat el.dflt)))) .fail else .fail
      | .ref n => .rd n fun
        | .row el xs => if el = ke then .br (decide (0 ≤ z ∧ z < (xs.length : Int))) (.pure (.eptr n z.toNat 0)) .fail else .fail
        | .mrow _ _ ess => if ke = .dyn 1 then .br (decide (0 ≤ z ∧ z < (ess.length : Int))) (.pure (.eptr n z.toNat 0)) .fail else .fail
        | _ => .fail
      | .pref n j => .rd n fun
        | .row el _ => if el = ke then .br (decide (0 ≤ z ∧ z < (j : Int))) (.pure (.eptr n z.toNat 0)) .fail else .fail
        | _ => .fail
      | _ => .fail
    | .arr cnt (.int _), .int _ z => match e x with
      | .ptr n off => .rd n fun
        | .box cs => if off + cnt ≤ cs.length then .br (decide (0 ≤ z ∧ z < (cnt : Int))) (.pure (.aptr n off cnt z.toNat)) .fail else .fail
        | _ => .fail
      | .eptr n i sub => .rd n fun
        | .row _ _ => .br (decide (0 ≤ z ∧ z < (cnt : Int))) (.pure (.eptr n i (sub + z.toNat))) .fail
        | _ => .fail
      | _ => .fail
    | _, _ => .fail
  | .index t x i => .ofOpt (Γ.kind t) fun k => match k, e x, e i with
    | .str, .str s, .int _ z => .br (decide (0 ≤ z ∧ z < (s.length : Int))) (.pure (.int .u8 ((s.getD z.toNat 0).toNat : Int))) .fail
    | .arr n (.int ik), .agg cs, .int _ z => .ofOpt (intsOf ik cs) fun l =>
        if l.length = n then .br (decide (0 ≤ z ∧ z < (n : Int))) (.pure (.int ik (l.getD z.toNat 0))) .fail else .fail
    | _, _, _ => .fail
  | .makeMap t none => .ofOpt (Γ.map t) fun kv => .new nm (.map kv.1 kv.2 []) (.mapr nm)
  | .makeSlice t l c => .ofOpt (Γ.kind t) fun k => match k, e l, e c with
    | .slice el, .int .i64 z, .int .i64 z' => .br (decide (z = z' ∧ 0 ≤ z ∧ z ≤ (lim : Int))) (.new nm (.row el (List.replicate z.toNat el.dflt)) (.ref nm)) .fail
    | _, _, _ => .fail
  | .slice t x lo hi none => .ofOpt (Γ.kind t) fun k => .ofOpt (optInt e lo) fun l => .ofOpt (optInt e hi) fun h => match k, e x with
    | .slice ke, .sl el xs => if el = ke then
        .br (decide (0 ≤ l.getD 0 ∧ l.getD 0 ≤ h.getD (xs.length : Int) ∧ h.getD (xs.length : Int) ≤ (xs.length : Int)))
          (.pure (.sl el ((xs.take (h.getD (xs.length : Int)).toNat).drop (l.getD 0).toNat))) .fail
      else .fail
    | .slice ke, .ref n => .rd n fun
      | .row el xs => if el = ke ∧ l = none then
          .br (decide (0 ≤ h.getD (xs.length : Int) ∧ h.getD (xs.length : Int) ≤ (xs.length : Int))) (.pure (.pref n (h.getD (xs.length : Int)).toNat)) .fail
        else .fail
      | _ => .fail
    | .str, .str s =>
        .br (decide (0 ≤ l.getD 0 ∧ l.getD 0 ≤ h.getD (s.length : Int) ∧ h.getD (s.length : Int) ≤ (s.length : Int)))
          (.pure (.str ((s.take (h.getD (s.length : Int)).toNat).drop (l.getD 0).toNat))) .fail
    | _, _ => .fail
  | .lookup t x i ok => .ofOpt (Γ.map t) fun kv => if kv.1.keyOk then .ofOpt (one kv.1 (e i)) fun key => match e x with
    | .mapr n => .rd n fun
      | .map k v es => if h : k = kv.1 then
          let r := mget kv.1 key (h ▸ es : List (kv.1.T × v.T))
          if v = kv.2 then
          if ok then .pure (.tup [ofK v (r.getD v.dflt), .bool r.isSome]) else
            if v.isFnk then fnChain kv.1 v key (h ▸ es : List (kv.1.T × v.T)) else .pure (ofK v (r.getD v.dflt))
          else .fail
        else .fail
      | _ => .fail
    | _ => .fail
    else .fail
  | .mapUpdate t m i x | .insert t m i x => .ofOpt (Γ.map t) fun kv => if kv.1.keyOk then .ofOpt (one kv.1 (e i)) fun key => .ofOpt (one kv.2 (e x)) fun y => match e m with
    | .mapr n => .rd n fun
      | .map k v es => if h : k = kv.1 ∧ v = kv.2 then
          .wr n (.map kv.1 kv.2 (mput kv.1 key y (h.1 ▸ h.2 ▸ es : List (kv.1.T × kv.2.T)))) (.pure .undef)
        else .fail
      | _ => .fail
    | .mref n i => .rd n fun
      | .mrow k v ess => if h : k = kv.1 ∧ v = kv.2 then
          .wr n (.mrow kv.1 kv.2 ((h.1 ▸ h.2 ▸ ess : List (List (kv.1.T × kv.2.T))).set i (mput kv.1 key y ((h.1 ▸ h.2 ▸ ess : List (List (kv.1.T × kv.2.T))).getD i [])))) (.pure .undef)
        else .fail
      | _ => .fail
    | _ => .fail
    else .fail
  | .convert s d x => match Γ.kind s, Γ.kind d, e x with
    | some (.int _), some (.int k), .int _ n => .pure (.int k (k.wrap n))
    | some .str, some .str, .str s => .pure (.str s)
    | some (.slice (.int .u8)), some .str, v => .elems (.int .u8) v fun l => .pure (.str (l.map fun n => UInt8.ofNat n.toNat))
    | some .str, some (.slice (.int .u8)), .str s => .pure (.sl (.int .u8) (s.map fun b => (b.toNat : Int)))
    | _, _, _ => .fail
  | .binOp op t x y _ => binM Γ op t (e x) (e y)
  | .unOp op _ x => match op, e x with
    | .not, .bool b => .pure (.bool (!b))
    | .neg, .int k n => .pure (.int k (k.wrap (0 - n)))
    | .xor, .int k n => .ofOpt (ibits .xor k (if k.signed then -1 else k.max) n) fun c => .pure (.int k c)
    | _, _ => .fail
  | .extract x i => match e x with
    | .tup vs => match vs[i]? with
      | some v => .pure v
      | none => .fail
    | _ => .fail
  | .makeFunc (.func f) first cap => if first.size = 0 then .pure (.fn f (cap.toList.map e)) else .fail
  | .call { callee := .builtin .len, args, argTypes } => match args.toList, argTypes.toList with
    | [x], [t] => match e x with
      | .str s => if Γ.kind t = some .str then .pure (.int .i64 (s.length : Int)) else .fail
      | .mapr n => if (Γ.map t).isSome then .rd n fun
        | .map _ _ es => .pure (.int .i64 (es.length : Int))
        | _ => .fail else .fail
      | .sl _ xs => .ofOpt (Γ.kind t) fun k => if k.isSlice then .pure (.int .i64 (xs.length : Int)) else .fail
      | .nilsl => .ofOpt (Γ.kind t) fun k => if k.isSlice then .pure (.int .i64 0) else .fail
      | .ref n => .ofOpt (Γ.kind t) fun k => if k.isSlice then .rd n fun
        | .row _ xs => .pure (.int .i64 (xs.length : Int))
        | .mrow _ _ ess => .pure (.int .i64 (ess.length : Int))
        | _ => .fail else .fail
      | .pref n j => .ofOpt (Γ.kind t) fun k => if k.isSlice then .rd n fun
        | .row _ _ => .pure (.int .i64 (j : Int))
        | _ => .fail else .fail
      | _ => .fail
    | _, _ => .fail
  | .call { callee := .builtin .append, args, argTypes } => match args.toList, argTypes.toList with
    | [s, x], [t, u] => match Γ.kind t, Γ.kind u with
      | some (.slice (.dyn 1)), some (.slice _) => if t = u then match e s, e x with
        | .ref n, .ref m => if n = m then .fail else .rd n fun
          | .mrow k v ess => .rd m fun
            | .mrow k' v' ess' => if h : k' = k ∧ v' = v then
                .br (decide (ess.length + ess'.length ≤ lim)) (.wr n .dead (.wr m .dead (.new nm (.mrow k v (ess ++ (h.1 ▸ h.2 ▸ ess' : List (List (k.T × v.T))))) (.ref nm)))) .fail
              else .fail
            | _ => .fail
          | _ => .fail
        | _, _ => .fail
        else .fail
      | some (.slice el), some (.slice _) => if t = u then .elems el (e x) fun ys => match e s with
        | .nilsl => .br (decide (ys.length ≤ lim)) (.new nm (.row el ys) (.ref nm)) .fail
        | .ref n => .rd n fun
          | .row el' xs => if h : el' = el then
              .br (decide (xs.length + ys.length ≤ lim)) (.wr n .dead (.new nm (.row el ((h ▸ xs : List el.T) ++ ys)) (.ref nm))) .fail
            else .fail
          | _ => .fail
        | _ => .fail
        else .fail
      | _, _ => .fail
    | _, _ => .fail
  | .call { callee := .builtin .copy, args, argTypes } => match args.toList, argTypes.toList with
    | [d, s], [t, _] => match Γ.kind t with
      | some (.slice el) => .elems el (e s) fun ys => match e d with
        | .ref n => .rd n fun
          | .row el' xs => if h : el' = el then
              .br (decide (ys.length ≤ xs.length ∧ 0 < xs.length)) (.wr n (.row el (ys ++ (h ▸ xs : List el.T).drop ys.length)) (.pure (.int .i64 (ys.length : Int)))) .fail
            else .fail
          | _ => .fail
        | _ => .fail
      | _ => .fail
    | _, _ => .fail
  | .call { callee := .value f, args, argTypes := _ } => match e f with
    | .fn g cap => if AV.closedL ((args.toList.map e) ++ cap) then .call g ((args.toList.map e) ++ cap) .pure else
        match Γ.proc nm g with
        | some pd => procM g pd.1 pd.2 ((args.toList.map e) ++ cap)
        | none => match Γ.special g ((args.toList.map e) ++ cap) with
          | some (.inl (c, n, i)) => .rd n fun
            | .mrow (.int .i64) _ _ => .pure (.keys c n i)
            | _ => .fail
          | some (.inr (n, i)) => .rd n fun
            | .mrow (.int .i64) _ ess => .br (decide ((ess.getD i []).length ≤ lim) && i64ok ((ess.getD i []).map (·.1))) (.new nm (.row (.int .i64) (sortedInts ((ess.getD i []).map (·.1)))) (.ref nm)) .fail
            | _ => .fail
          | none => .fail
    | _ => .fail
  | _ => .fail

/-- slots and names -/
structure Fp where
  rn : List Nat
  wn : List Nat
  deriving Inhabited

/-- the same run, with the names that it reads and writes -/
noncomputable def M.runF (call : Call) {R : Type} (K : AV → Hp → Fp → Option R) (m : M) : Hp → Fp → Option R :=
  M.rec (motive := fun _ => Hp → Fp → Option R)
    (fun v h f => K v h f)
    (fun _ _ => none)
    (fun b _ _ x y h f => if b = true then x h f else y h f)
    (fun n _ k h f => k (h n) h { f with rn := n :: f.rn })
    (fun n c _ x h f => x (upd h n c) { f with wn := n :: f.wn })
    (fun g args _ k h f => (call.fn g args).bind fun p => p.2.bind fun x => k (p.1.can x) h f)
    (fun g args cells _ k h f => (call.proc g args cells).bind fun p => p.2.bind fun x => k (p.1.1.can x.1) (canCL p.1.2 x.2) h f)
    m

inductive Ex where
  | normal | exit (id : Nat) | ret
  deriving Inhabited

/-- what is done ahead of a region: naming, freezing, forgetting -/
inductive Cmd where
  | adopt (s : Nat) (e : Kind) (n : Nat)        -- slot s (nil, a row, a row's head) becomes the row named n
  | adoptCell (m c : Nat) (e : Kind) (n : Nat)  -- the same at cell c of box m
  | adoptM (m c n : Nat)                        -- cell c of box m (a row of maps) becomes the one named n
  | freeze (s : Nat)                            -- slot s (a row) becomes an immutable slice
  | freezeCell (m c : Nat)
  | keep (slots names : List Nat)               -- all other slots are forgotten, all other names of this frame are free again

mutual
/-- a reference to a name that p does not hold for is forgotten -/
def AV.only (p : Nat → Bool) : AV → AV
  | .ref n => if p n then .ref n else .undef
  | .pref n k => if p n then .pref n k else .undef
  | .ptr n o => if p n then .ptr n o else .undef
  | .eptr n i s => if p n then .eptr n i s else .undef
  | .aptr n o c i => if p n then .aptr n o c i else .undef
  | .mapr n => if p n then .mapr n else .undef
  | .mref n i => if p n then .mref n i else .undef
  | .keys c n i => if p n then .keys c n i else .undef
  | .iptr cs => .iptr (AV.onlyL p cs)
  | .fn f cap => .fn f (AV.onlyL p cap)
  | .agg cs => .agg (AV.onlyL p cs)
  | .tup cs => .tup (AV.onlyL p cs)
  | v => v
def AV.onlyL (p : Nat → Bool) : List AV → List AV
  | [] => []
  | v :: r => v.only p :: AV.onlyL p r
end

def Cell.only (p : Nat → Bool) : Cell → Cell
  | .box cs => .box (AV.onlyL p cs)
  | c => c

/-- the row behind a slice value: its elements, and the name that is used up -/
def rowAt (hp : Hp) (e : Kind) : AV → Option (List e.T × Option Nat)
  | .nilsl => some ([], none)
  | .ref n => match hp n with
    | .row e' xs => if h : e' = e then some ((h ▸ xs : List e.T), some n) else none
    | _ => none
  | .pref n k => match hp n with
    | .row e' xs => if h : e' = e then some ((h ▸ xs : List e.T).take k, some n) else none
    | _ => none
  | _ => none

def notName (o : Option Nat) (m : Nat) : Bool := match o with | some n => m != n | none => true

/-- the name of o is dead from now on, and n is the object c -/
def renameC (st : St) (o : Option Nat) (n : Nat) (c : Cell) : Option St :=
  let hp := match o with | some m => upd st.hp m .dead | none => st.hp
  match (if o = some n then Cell.free else hp n) with
  | .free => some { fr := fun i => (st.fr i).only (notName o), hp := upd (fun i => (hp i).only (notName o)) n c }
  | _ => none

/-- the name of o is dead from now on, and n is the row xs -/
abbrev rename (st : St) (o : Option Nat) (n : Nat) (e : Kind) (xs : List e.T) : Option St := renameC st o n (.row e xs)

def frozenAt (hp : Hp) : AV → Option (AV × Option Nat)
  | .nilsl => some (.nilsl, none)
  | .sl e xs => some (.sl e xs, none)
  | .ref n => match hp n with
    | .row e xs => some (.sl e xs, some n)
    | _ => none
  | .pref n k => match hp n with
    | .row e xs => some (.sl e (xs.take k), some n)
    | _ => none
  | _ => none

def bury (st : St) (o : Option Nat) : St :=
  match o with
  | none => st
  | some n => { fr := fun i => (st.fr i).only (notName (some n)), hp := upd (fun i => (st.hp i).only (notName (some n))) n .dead }

def setCellAt (st : St) (m c : Nat) (v : AV) : Option St :=
  match st.hp m with
  | .box cs => if c < cs.length then some { st with hp := upd st.hp m (.box (cs.set c v)) } else none
  | _ => none

def cellAt (st : St) (m c : Nat) : AV := match st.hp m with | .box cs => cs.getD c .undef | _ => .undef

/-- the names that stay: all below base, and of this frame's those that are named and live -/
def keepP (base : Nat) (names : List Nat) (hp : Hp) (n : Nat) : Bool := n < base || (names.contains n && (hp n).live)

def keepSt (base : Nat) (slots names : List Nat) (st : St) : St :=
  { fr := look .undef (slots.map fun i => (i, (st.fr i).only (keepP base names st.hp)))
    hp := fun n => if n < base then (st.hp n).only (keepP base names st.hp)
      else look .free (names.map fun n => (n, if (st.hp n).live then (st.hp n).only (keepP base names st.hp) else .free)) n }

def Cmd.run (base : Nat) : Cmd → St → Option St
  | .adopt s e n, st => (rowAt st.hp e (st.fr s)).bind fun p =>
      if base ≤ n then (rename st p.2 n e p.1).map fun st => { st with fr := upd st.fr s (.ref n) } else none
  | .adoptCell m c e n, st => (rowAt st.hp e (cellAt st m c)).bind fun p =>
      if m = n ∨ (p.2 = some n ∧ n < base) then none else (rename st p.2 n e p.1).bind fun st => setCellAt st m c (.ref n)
  | .adoptM m c n, st => match cellAt st m c with
    | .ref o => match st.hp o with
      | .mrow k v ess => if m = n ∨ m = o ∨ (o = n ∧ n < base) then none else (renameC st (some o) n (.mrow k v ess)).bind fun st => setCellAt st m c (.ref n)
      | _ => none
    | _ => none
  | .freeze s, st => (frozenAt st.hp (st.fr s)).map fun p => { bury st p.2 with fr := upd (bury st p.2).fr s p.1 }
  | .freezeCell m c, st => (frozenAt st.hp (cellAt st m c)).bind fun p => setCellAt (bury st p.2) m c p.1
  | .keep slots names, st => some (keepSt base slots names st)

def runCmds (base : Nat) : List Cmd → St → Option St
  | [], st => some st
  | c :: r, st => (c.run base st).bind (runCmds base r)

-- a value without references: rows are read out of the heap
mutual
def purify (base : Nat) (hp : Hp) : AV → Option AV
  | .ref n => if base ≤ n then match hp n with | .row e xs => some (.sl e xs) | _ => none else none
  | .pref n k => if base ≤ n then match hp n with | .row e xs => some (.sl e (xs.take k)) | _ => none else none
  | .agg cs => (purifyL base hp cs).map .agg
  | .tup cs => (purifyL base hp cs).map .tup
  | .bool b => some (.bool b)
  | .int k n => some (.int k n)
  | .str s => some (.str s)
  | .sl e xs => some (.sl e xs)
  | .nilsl => some .nilsl
  | .nilp => some .nilp
  | .nilmap => some .nilmap
  | .nilfn => some .nilfn
  | .nilif => some .nilif
  | _ => none
def purifyL (base : Nat) (hp : Hp) : List AV → Option (List AV)
  | [] => some []
  | v :: r => (purify base hp v).bind fun x => (purifyL base hp r).map fun y => x :: y
end

/-- a loop's head: what is done there, the slots and names that stay -/
structure LoopIn where
  cmds : List Cmd
  slots : List Nat
  names : List Nat
  deriving Inhabited

/-- a way out of a loop: what stays -/
structure OutSh where
  ex : Ex
  slots : List Nat
  ss : List Sh
  names : List Nat
  cs : List CSh

@[reducible] def OutSh.T (o : OutSh) : Type := ShL o.ss × CShL o.cs

@[reducible] def Outs : List OutSh → Type
  | [] => Empty
  | [o] => o.T
  | o :: p :: r => o.T ⊕ Outs (p :: r)

def outElim {R : Type} (f : Ex → List (Nat × AV) → List (Nat × Cell) → R) : (l : List OutSh) → Outs l → R
  | [], x => nomatch x
  | [o], x => f o.ex (o.slots.zip (canL o.ss x.1)) (o.names.zip (canCL o.cs x.2))
  | o :: p :: r, x => Sum.elim (fun x => f o.ex (o.slots.zip (canL o.ss x.1)) (o.names.zip (canCL o.cs x.2))) (fun x => outElim f (p :: r) x) x

structure LoopEnt where
  ctx : List Nat
  id : Nat
  head : LoopIn
  ss : List Sh
  cs : List CSh
  outs : List OutSh
  fn : ShL ss × CShL cs → Option (Outs outs)

/-- what the execution asks: pure functions, loops, commands -/
structure Orc where
  call : Call
  loop : List Nat → Nat → Option LoopEnt
  cmds : List Nat → Nat → List Cmd
  leave : List Nat → List Cmd
  fresh : Nat → List AV → Option ((e : Kind) × Option (List e.T)) := fun _ _ => none   -- functions that hand back a new slice

def stOf (base : Nat) (old : Hp) (avs : List (Nat × AV)) (cells : List (Nat × Cell)) : St :=
  { fr := look .undef avs
    hp := fun n => look (if n < base then (match old n with | .free => .free | _ => .dead) else .free) cells n }

/-- the first region of a piece of code -/
noncomputable def firstRegion (c : Code) : Nat :=
  Code.rec (motive := fun _ => Option Nat)
    none (fun id _ _ => some id) (fun _ _ x y => x.or y) (fun _ _ _ x y => x.or y) (fun _ _ x => x) (fun _ x => x)
    (fun _ _ _ _ x y => x.or y) (fun _ => none) (fun _ x => x) (fun _ => none) (fun _ => none) none (fun _ => none) c |>.getD 0

def argVals (e : Operand → AV) (args : Array Operand) : List AV := args.toList.map e

def putDst (sz : Nat) (o : Oper) (v : AV) (st : St) : Option St :=
  match o.dst with
  | none => some st
  | some d => if d < sz then some { st with fr := upd st.fr d v } else none

def resultOf (Γ : TEnv) (st : St) : ResultVar → Option AV
  | .tmp t => some (st.fr t)
  | .cell a t => (Γ.kind t).bind fun k => match st.fr a with
    | .ptr n off => match st.hp n with
      | .box cs => k.res ((cs.drop off).take k.size)
      | _ => none
    | _ => none

def allSome {α β : Type} (f : α → Option β) : List α → Option (List β)
  | [] => some []
  | x :: r => (f x).bind fun y => (allSome f r).map fun z => y :: z

def resultsOf (Γ : TEnv) (fn : Func) (st : St) : Option AV :=
  (allSome (resultOf Γ st) fn.results.toList).map fun | [v] => v | vs => .tup vs

def argsFr (args : List AV) : Nat → AV := fun i => args.getD i .undef

/-- a call whose arguments hold references: f is entered; its frame's names begin at base -/
abbrev Enter (R : Type) := List Nat → Nat → Nat → List AV → (AV → Hp → Option R) → Hp → Option R

def AV.isFn : AV → Bool
  | .fn _ _ => true
  | _ => false

def isShared (Γ : TEnv) (nm : Nat) (e : Operand → AV) : Op → Option (Nat × List AV)
  | .call { callee := .value f, args, argTypes := _ } => match e f with
    | .fn g cap => if (AV.closedL ((args.toList.map e) ++ cap) && !((args.toList.map e).any AV.isFn)) = true then none else
        if (Γ.proc nm g).isSome || (Γ.special g ((args.toList.map e) ++ cap)).isSome then none else some (g, (args.toList.map e) ++ cap)
    | _ => none
  | _ => none

/-- a call of a function that hands back a new slice -/
def freshOf (O : Orc) (e : Operand → AV) : Op → Option ((e : Kind) × Option (List e.T))
  | .call { callee := .value f, args, argTypes := _ } => match e f with
    | .fn g cap => if AV.closedL ((args.toList.map e) ++ cap) = true then O.fresh g ((args.toList.map e) ++ cap) else none
    | _ => none
  | _ => none

structure Fn where
  ctx : List Nat
  base : Nat
  sz : Nat

noncomputable def opRun {R : Type} (O : Orc) (Γ : TEnv) (enter : Enter R) (F : Fn) (o : Oper) (K : St → Option R) (st : St) : Option R :=
  match isShared Γ (F.base + o.dst.getD 0) (ev st.fr) o.op with
  | some (g, args) => enter (g :: F.ctx) (F.base + 1000) g (AV.onlyL (fun n => n < F.base + 1000) args)
      (fun v h => (putDst F.sz o v { fr := fun i => (st.fr i).only (fun n => n < F.base + 1000), hp := h }).bind K)
      (fun n => if n < F.base + 1000 then (st.hp n).only (fun n => n < F.base + 1000) else .free)
  | none => match freshOf O (ev st.fr) o.op with
    | some g => g.2.bind fun xs => match st.hp (F.base + o.dst.getD 0) with
      | .free => (putDst F.sz o (.ref (F.base + o.dst.getD 0)) { st with hp := upd st.hp (F.base + o.dst.getD 0) (.row g.1 xs) }).bind K
      | _ => none
    | none => (aop Γ (F.base + o.dst.getD 0) (ev st.fr) o.op).run O.call (fun v h => (putDst F.sz o v { st with hp := h }).bind K) st.hp

def guardSlot (ops : Array Oper) (j : Nat) : Option Nat := (ops[j]?).bind (·.dst)

noncomputable def opsRun {R : Type} (O : Orc) (Γ : TEnv) (enter : Enter R) (F : Fn) (ops : Array Oper) (K : St → Option R) : List Oper → St → Option R
  | [], st => K st
  | o :: rest, st => match o.guard with
    | none => opRun O Γ enter F o (opsRun O Γ enter F ops K rest) st
    | some (j, want) => match guardSlot ops j with
      | none => none
      | some d => match st.fr d with
        | .bool b =>
          if b = true then
            (if want = true then opRun O Γ enter F o (opsRun O Γ enter F ops K rest) { st with fr := upd st.fr d (.bool true) }
             else (putDst F.sz o (.tup []) { st with fr := upd st.fr d (.bool true) }).bind (opsRun O Γ enter F ops K rest))
          else
            (if want = true then (putDst F.sz o (.tup []) { st with fr := upd st.fr d (.bool false) }).bind (opsRun O Γ enter F ops K rest)
             else opRun O Γ enter F o (opsRun O Γ enter F ops K rest) { st with fr := upd st.fr d (.bool false) })
        | .tup [] => (putDst F.sz o (.tup []) st).bind (opsRun O Γ enter F ops K rest)
        | _ => none

/-- a region that draws its order: the order of the text, with each operation's footprint -/
noncomputable def opsRunF {R : Type} (O : Orc) (Γ : TEnv) (F : Fn) (ops : Array Oper) (K : List Fp → St → Option R) : List Oper → List Fp → St → Option R
  | [], fs, st => K fs st
  | o :: rest, fs, st =>
    let go (st : St) : Option R := match isShared Γ (F.base + o.dst.getD 0) (ev st.fr) o.op with
      | some _ => none
      | none => (aop Γ (F.base + o.dst.getD 0) (ev st.fr) o.op).runF O.call (fun v h f => (putDst F.sz o v { st with hp := h }).bind (opsRunF O Γ F ops K rest (f :: fs))) st.hp ⟨[], []⟩
    let skip (st : St) : Option R := (putDst F.sz o (.tup []) st).bind (opsRunF O Γ F ops K rest (⟨[], []⟩ :: fs))
    match o.guard with
    | none => go st
    | some (j, want) => match guardSlot ops j with
      | none => none
      | some d => match st.fr d with
        | .bool b =>
          if b = true then (if want = true then go { st with fr := upd st.fr d (.bool true) } else skip { st with fr := upd st.fr d (.bool true) })
          else (if want = true then skip { st with fr := upd st.fr d (.bool false) } else go { st with fr := upd st.fr d (.bool false) })
        | .tup [] => skip st
        | _ => none

def disjoint (a b : List Nat) : Bool := a.all fun x => !b.contains x

def Fp.indep (f g : Fp) : Bool := disjoint f.wn (g.rn ++ g.wn) && disjoint g.wn (f.rn ++ f.wn)

/-- each two operations that the text orders and no edge does: apart in slots and names (fs: the last operation's first) -/
def orderOk (ops : Array Oper) (fs : List Fp) : Bool :=
  let b := CheckFast.beforeF ops
  let fl := fs.reverse
  (List.range ops.size).all fun i => ((ops.getD i default).after.toList.all fun e => !Region.binds .any e || decide (e.on < i)) && (List.range i).all fun j =>
    (b.getD i 0).testBit j ||
    ((ops.getD j default).apart ops (ops.getD i default) && (ops.getD i default).apart ops (ops.getD j default) &&
     (fl.getD j ⟨[], []⟩).indep (fl.getD i ⟨[], []⟩))

/-- slots and names as they stand, all else forgotten -/
def listed (slots names : List Nat) (st : St) : List (Nat × AV) × List (Nat × Cell) :=
  (slots.map fun i => (i, (st.fr i).only (fun n => names.contains n)), names.map fun n => (n, (st.hp n).only (fun n => names.contains n)))

def loopState (base : Nat) (h : LoopIn) (st : St) : Option (List AV × List Cell) :=
  (runCmds base h.cmds st).map fun st =>
    (h.slots.map fun i => (st.fr i).only (fun n => h.names.contains n), h.names.map fun n => (st.hp n).only (fun n => h.names.contains n))

/-- where a loop begins -/
def loopSt (base : Nat) (h : LoopIn) (old : Hp) (avs : List AV) (cells : List Cell) : St :=
  stOf base old (h.slots.zip avs) (h.names.zip cells)

def Ex.same : Ex → Ex → Bool
  | .normal, .normal => true
  | .exit i, .exit j => i == j
  | .ret, .ret => true
  | _, _ => false

def outOf (o : OutSh) (st : St) : Option o.T :=
  (decL o.ss (o.slots.map fun i => (st.fr i).only (fun n => o.names.contains n))).bind fun x =>
    (decCL o.cs (o.names.map fun n => (st.hp n).only (fun n => o.names.contains n))).bind fun y => some (x, y)

/-- the way out that is taken -/
def outInj : (l : List OutSh) → Ex → St → Option (Outs l)
  | [], _, _ => none
  | [o], e, st => if o.ex.same e = true then outOf o st else none
  | o :: p :: r, e, st => if o.ex.same e = true then (outOf o st).bind fun x => some (.inl x) else (outInj (p :: r) e st).bind fun x => some (.inr x)

/-- what a round hands on: the next round, or the way out -/
def loopK (base : Nat) (h : LoopIn) (ss : List Sh) (cs : List CSh) (outs : List OutSh) (L : ShL ss × CShL cs → Option (Outs outs)) (e : Ex) (st : St) : Option (Outs outs) :=
  match e with
  | .normal => (loopState base h st).bind fun p => (decL ss p.1).bind fun x => (decCL cs p.2).bind fun y => L (x, y)
  | e => outInj outs e st

noncomputable def execC {R : Type} (O : Orc) (Γ : TEnv) (enter : Enter R) (F : Fn) (c : Code) : (Ex → St → Option R) → St → Option R :=
  Code.rec (motive := fun _ => (Ex → St → Option R) → St → Option R)
    (fun K st => K .normal st)
    (fun id ops draw K st => (runCmds F.base (O.cmds F.ctx id) st).bind fun st =>
      if draw = true then opsRunF O Γ F ops (fun fs st => if orderOk ops fs = true then K .normal st else none) ops.toList [] st
      else opsRun O Γ enter F ops (K .normal) ops.toList st)
    (fun _ _ x y K st => x (fun e st => match e with | .normal => y K st | e => K e st) st)
    (fun c _ _ x y K st => match c with
      | .tmp d => match st.fr d with
        | .bool b => if b = true then x K { st with fr := upd st.fr d (.bool true) } else y K { st with fr := upd st.fr d (.bool false) }
        | _ => none
      | .const (.bool b) => if b = true then x K st else y K st
      | _ => none)
    (fun id _ x K st => x (fun e st => match e with | .exit i => if i = id then K .normal st else K (.exit i) st | e => K e st) st)
    (fun body _ K st => match O.loop F.ctx (firstRegion body) with
      | some g => (loopState F.base g.head st).bind fun p => (decL g.ss p.1).bind fun x => (decCL g.cs p.2).bind fun y =>
          (g.fn (x, y)).bind fun r => outElim (fun e avs cells => K e (stOf F.base st.hp avs cells)) g.outs r
      | none => none)
    (fun _ _ _ _ _ _ _ _ => none)
    (fun id K st => K (.exit id) st)
    (fun _ _ _ _ => none)
    (fun _ _ _ => none)
    (fun _ _ _ => none)
    (fun K st => K .ret st)
    (fun _ _ _ => none)
    c

/-- entered functions, d deep (D: how deep in all) -/
noncomputable def enterD {R : Type} (P : Program) (O : Orc) (Γ : TEnv) (D : Nat) : Nat → Enter R
  | 0 => fun _ _ _ _ _ _ => none
  | d + 1 => fun ctx base g args K hp => match P.funcs[g]? with
    | none => none
    | some fn => match fn.body with
      | none => none
      | some c => if base = 1000 * (ctx.length - 1) ∧ ctx.head? = some g ∧ ctx.length + d = D ∧ args.length ≤ fn.ntmps then
          execC O Γ (enterD P O Γ D d) ⟨ctx, base, fn.ntmps⟩ c
          (fun e st => match e with
            | .exit _ => none
            | _ => (runCmds base (O.leave ctx) st).bind fun st => (resultsOf Γ fn st).bind fun v => (purify base st.hp v).bind fun v =>
                K v (fun n => if n < base then (st.hp n).only (fun n => n < base) else .free))
          { fr := argsFr args, hp := hp }
        else none

/-- a whole function: its arguments hold no references -/
noncomputable def fexec (P : Program) (O : Orc) (Γ : TEnv) (D : Nat) (g : Nat) (r : RSh) (args : List AV) : Option r.T :=
  enterD P O Γ D D [g] 0 g args (fun v _ => r.dec v) (fun _ => .free)

abbrev Tbl := List (Nat × (List AV → Option ((r : RSh) × Option r.T)))
abbrev PTbl := List (Nat × (List AV → List Cell → Option ((o : RSh × List CSh) × Option (o.1.T × CShL o.2))))
def callOf (t : Tbl) (pt : PTbl := []) : Call := ⟨fun f args => look (fun _ => none) t f args, fun f args cells => look (fun _ _ => none) pt f args cells⟩

abbrev FTbl := List (Nat × (List AV → Option ((e : Kind) × Option (List e.T))))

def mkOrc (t : Tbl) (ls : List LoopEnt) (cmds : List (List Nat × Nat × List Cmd)) (leaves : List (List Nat × List Cmd)) (fr : FTbl := []) (pt : PTbl := []) : Orc where
  fresh := fun f args => look (fun _ => none) fr f args
  call := callOf t pt
  loop := fun ctx id => ls.find? fun e => e.id == id && e.ctx == ctx
  cmds := fun ctx id => match cmds.find? fun e => e.2.1 == id && e.1 == ctx with | some e => e.2.2 | none => []
  leave := fun ctx => match leaves.find? fun e => e.1 == ctx with | some e => e.2 | none => []

/-- a function that is known by a typed F -/
def fnOf (ks : List Kind) (r : RSh) (F : ShL (ks.map Sh.kd) → Option r.T) (args : List AV) : Option ((r : RSh) × Option r.T) := (decL (ks.map Sh.kd) args).bind fun x => some ⟨r, F x⟩

/-- a procedure that is known by a typed F: arguments and cells, in the shapes ss and cs; it leaves cells of the shapes cs' -/
def procOf (ss : List Sh) (cs : List CSh) (r : RSh) (cs' : List CSh) (F : ShL ss × CShL cs → Option (r.T × CShL cs')) (args : List AV) (cells : List Cell) : Option ((o : RSh × List CSh) × Option (o.1.T × CShL o.2)) :=
  (decL ss args).bind fun x => (decCL cs cells).bind fun y => some ⟨(r, cs'), F (x, y)⟩

/-- a function that hands back a new slice, known by a typed F -/
def newOf (ks : List Kind) (e : Kind) (F : ShL (ks.map Sh.kd) → Option (List e.T)) (args : List AV) : Option ((e : Kind) × Option (List e.T)) := (decL (ks.map Sh.kd) args).bind fun x => some ⟨e, F x⟩

end Go.AM

/- The relation between abstract states and the model's worlds. -/
namespace Go.AM
open Go

/-- pointwise, in sequence -/
def RelL {α : Type} (R : α → List Value → Prop) : List α → List Value → Prop
  | [], vs => vs = []
  | x :: xs, vs => ∃ l r, vs = l ++ r ∧ R x l ∧ RelL R xs r

/-- the cells from o on of block b hold us -/
def CellsAt (w : World) (b o : Nat) (us : List Value) : Prop := ∀ j u, us[j]? = some u → w.cell? ⟨b, o + j, none⟩ = some u

/-- n elements of that many cells each lie at the address a, each related by its place -/
def SliceAt (w : World) (I : Nat → Prop) (size n : Nat) (R : Nat → List Value → Prop) (a : Option Addr) : Prop :=
  n = 0 ∨ ∃ b o, a = some ⟨b, o, none⟩ ∧ I b ∧ ∀ i, i < n → ∃ us, R i us ∧ CellsAt w b (o + i * size) us

def strOf (s : List UInt8) : Value := .string ⟨s.toArray⟩

/-- depth-bounded: the tree x stands in the cells vs -/
def RelRx (w : World) (I : Nat → Prop) : Rx → List Value → Prop
  | .mk k s kids, vs => s.length = 4 ∧ ∃ a len cap, vs = [.int .i64 k, .int .u64 (s.getD 0 0), .int .u64 (s.getD 1 0), .int .u64 (s.getD 2 0), .int .u64 (s.getD 3 0), .slice a len cap] ∧
      len = kids.length ∧ len ≤ cap ∧ (kids.length = 0 ∨ ∃ b o, a = some ⟨b, o, none⟩ ∧ I b ∧ go w I b kids o)
where
  go (w : World) (I : Nat → Prop) (b : Nat) : List Rx → Nat → Prop
    | [], _ => True
    | x :: r, o => (∃ us, RelRx w I x us ∧ CellsAt w b o us) ∧ go w I b r (o + 6)

def fnV : Option Nat → Value
  | none => .nilFunc
  | some f => .func (.func f) #[] #[]

def RelK (w : World) (I : Nat → Prop) : (k : Kind) → k.T → List Value → Prop
  | .bool, b, vs => vs = [.bool b]
  | .int ik, n, vs => vs = [.int ik n]
  | .str, s, vs => vs = [strOf s]
  | .dyn _, _, vs => ∃ v : Value, vs = [v] ∧ v.oneCell' = true
  | .slice e, xs, vs => ∃ a len cap, vs = [.slice a len cap] ∧ len = List.length (xs : List e.T) ∧ len ≤ cap ∧
      SliceAt w I e.size len (fun i us => RelK w I e ((xs : List e.T).getD i e.dflt) us) a
  | .unit, _, vs => vs = []
  | .pair a b, x, vs => ∃ l r, vs = l ++ r ∧ RelK w I a x.1 l ∧ RelK w I b x.2 r
  | .arr n e, xs, vs => List.length (xs : List e.T) = n ∧ RelL (RelK w I e) (xs : List e.T) vs
  | .rx, x, vs => RelRx w I x vs
  | .fnk, f, vs => vs = [fnV f]

/-- a situation: the world, the immutable blocks, where the names lie (of a row of maps: the slice and the maps), the abstract heap; B: the blocks that are not to be touched -/
structure Sit where
  w : World
  I : Nat → Prop
  ρ : Nat → Value
  hp : Hp
  B : Nat → Prop

def blockAt (v : Value) (b : Nat) : Prop := v = .pointer (some ⟨b, 0, none⟩)
def rowAtV (v : Value) (b len cap : Nat) : Prop := v = .slice (some ⟨b, 0, none⟩) len cap

mutual
def VRel (S : Sit) : AV → Value → Prop
  | .undef, _ => True
  | .bool b, v => v = .bool b
  | .int k n, v => v = .int k n
  | .str s, v => v = strOf s
  | .sl e xs, v => RelK S.w S.I (.slice e) xs [v]
  | .nilsl, v => v = .slice none 0 0
  | .ref n, v => v.oneCell' = true ∧ match S.hp n with
    | .row _ _ => v = S.ρ n
    | .mrow _ _ _ => ∃ ms : List Value, S.ρ n = .tuple (v :: ms).toArray
    | _ => True
  | .pref n k, v => v.oneCell' = true ∧ match S.hp n with
    | .row _ xs => ∃ a cap, S.ρ n = .slice a xs.length cap ∧ k ≤ xs.length ∧ v = .slice a k cap
    | _ => True
  | .ptr n off, v => v.oneCell' = true ∧ match S.hp n with
    | .box _ => ∃ b, blockAt (S.ρ n) b ∧ v = .pointer (some ⟨b, off, none⟩)
    | _ => True
  | .eptr n i sub, v => v.oneCell' = true ∧ match S.hp n with
    | .row e xs => i < xs.length ∧ ∃ b cap, rowAtV (S.ρ n) b xs.length cap ∧ v = .pointer (some ⟨b, i * e.size + sub, none⟩)
    | .mrow _ _ ess => i < ess.length ∧ ∃ (b cap : Nat) (ms : List Value), S.ρ n = .tuple (.slice (some ⟨b, 0, none⟩) ess.length cap :: ms).toArray ∧ v = .pointer (some ⟨b, i, none⟩)
    | _ => True
  | .aptr n off cnt i, v => v.oneCell' = true ∧ match S.hp n with
    | .box cs => i < cnt ∧ off + cnt ≤ cs.length ∧ ∃ b, blockAt (S.ρ n) b ∧ v = .pointer (some ⟨b, off + i, none⟩)
    | _ => True
  | .iptr cs, v => ∃ b o us, v = .pointer (some ⟨b, o, none⟩) ∧ S.I b ∧ VRelL S cs us ∧ CellsAt S.w b o us ∧ ∀ u ∈ us, u.oneCell' = true
  | .mapr n, v => v.oneCell' = true ∧ match S.hp n with
    | .map _ _ _ => v = S.ρ n
    | _ => True
  | .mref n i, v => v.oneCell' = true ∧ match S.hp n with
    | .mrow _ _ ess => i < ess.length ∧ ∃ (u : Value) (ms : List Value), S.ρ n = .tuple (u :: ms).toArray ∧ ms[i]? = some v
    | _ => True
  | .keys c n i, v => v.oneCell' = true ∧ ∃ (b : Nat) (m : Value), v = .func (.func c) #[] #[.pointer (some ⟨b, 0, none⟩)] ∧ S.I b ∧ CellsAt S.w b 0 [m] ∧ match S.hp n with
    | .mrow _ _ ess => i < ess.length ∧ ∃ (u : Value) (ms : List Value), S.ρ n = .tuple (u :: ms).toArray ∧ ms[i]? = some m
    | _ => True
  | .fn f cap, v => ∃ vs : List Value, v = .func (.func f) #[] vs.toArray ∧ VRelL S cap vs
  | .agg cs, v => ∃ vs : List Value, v = .agg vs.toArray ∧ VRelL S cs vs ∧ ∀ u ∈ vs, u.oneCell' = true
  | .tup cs, v => ∃ vs : List Value, v = .tuple vs.toArray ∧ VRelL S cs vs
  | .nilp, v => v = .pointer none
  | .nilfn, v => v = .nilFunc
  | .nilmap, v => v = .map none
  | .nilif, v => v = .nilIface
def VRelL (S : Sit) : List AV → List Value → Prop
  | [], vs => vs = []
  | a :: r, vs => ∃ v s, vs = v :: s ∧ VRel S a v ∧ VRelL S r s
end

-- the names of a value
mutual
def AV.names (p : Nat → Prop) : AV → Prop
  | .ref n | .pref n _ | .ptr n _ | .eptr n _ _ | .aptr n _ _ _ | .mapr n | .mref n _ | .keys _ n _ => p n
  | .fn _ cap => AV.namesL p cap
  | .agg cs => AV.namesL p cs
  | .tup cs => AV.namesL p cs
  | .iptr cs => AV.namesL p cs
  | _ => True
def AV.namesL (p : Nat → Prop) : List AV → Prop
  | [] => True
  | v :: r => v.names p ∧ AV.namesL p r
end

/-- a map's key or element as one value -/
def VK (w : World) (I : Nat → Prop) (k : Kind) (x : k.T) (v : Value) : Prop :=
  if k.isAgg = true then ∃ vs : List Value, v = .agg vs.toArray ∧ RelK w I k x vs else RelK w I k x [v]

def EntriesAt (w : World) (I : Nat → Prop) (k v : Kind) : List (k.T × v.T) → List MapEntry → Prop
  | [], l => l = []
  | p :: r, l => ∃ m s, l = m :: s ∧ VK w I k p.1 m.key ∧ VK w I v p.2 m.val ∧ EntriesAt w I k v r s

def blockOf : Value → Option Nat
  | .pointer (some a) => some a.block
  | .slice (some a) _ _ => some a.block
  | .map (some r) => some r
  | _ => none

/-- a map, not shared -/
def MapAt (S : Sit) (k v : Kind) (es : List (k.T × v.T)) (m : Value) : Prop :=
  ∃ (r : Nat) (ents : Array MapEntry) (clock : Nat), m = .map (some r) ∧ S.w.heap[r]? = some (Obj.map ents clock) ∧ ¬ S.I r ∧ ¬ S.B r ∧ EntriesAt S.w S.I k v es ents.toList ∧ MapKept.Stamped ents clock

/-- the object of name n, and its block -/
def ObjAt (S : Sit) (n : Nat) : Cell → Prop
  | .free | .dead => True
  | .box cs => ∃ b c E, blockAt (S.ρ n) b ∧ S.w.heap[b]? = some (.cells c E (0, 0)) ∧ ¬ S.I b ∧ ¬ S.B b ∧ VRelL S cs c.toList ∧ ∀ u ∈ c.toList, u.oneCell' = true
  | .row e xs => (S.ρ n = .slice none 0 0 ∧ xs.length = 0) ∨
      ∃ b cap c E, rowAtV (S.ρ n) b xs.length cap ∧ S.w.heap[b]? = some (.cells c E (0, 0)) ∧ ¬ S.I b ∧ ¬ S.B b ∧ xs.length ≤ cap ∧ cap ≤ maxLen ∧ c.size = cap * e.size ∧
        ∀ i, i < xs.length → ∃ us, RelK S.w S.I e (xs.getD i e.dflt) us ∧ ∀ j u, us[j]? = some u → c[i * e.size + j]? = some u
  | .map k v es => ∃ r ms clock, S.ρ n = .map (some r) ∧ S.w.heap[r]? = some (.map ms clock) ∧ ¬ S.I r ∧ ¬ S.B r ∧ EntriesAt S.w S.I k v es ms.toList ∧ MapKept.Stamped ms clock
  | .mrow k v ess => ∃ (b cap : Nat) (c : Array Value) (E : TypeId) (ms : List Value), S.ρ n = .tuple (.slice (some ⟨b, 0, none⟩) ess.length cap :: ms).toArray ∧ S.w.heap[b]? = some (.cells c E (0, 0)) ∧ ¬ S.I b ∧ ¬ S.B b ∧ ess.length ≤ cap ∧ cap ≤ maxLen ∧ c.size = cap ∧
      ms.length = ess.length ∧ (∀ (i j : Nat) (m m' : Value), i ≠ j → ms[i]? = some m → ms[j]? = some m' → blockOf m ≠ blockOf m') ∧ (∀ (i : Nat) (m : Value), ms[i]? = some m → c[i]? = some m ∧ blockOf m ≠ some b) ∧
      ∀ (i : Nat) (es : List (k.T × v.T)), ess[i]? = some es → ∃ m, ms[i]? = some m ∧ MapAt S k v es m

/-- the blocks of an object -/
def hasBlk : Value → Nat → Prop
  | .tuple vs, b => ∃ u ∈ vs.toList, blockOf u = some b
  | v, b => blockOf v = some b

def cellLive (c : Cell) : Prop := c.live = true

structure HRel (S : Sit) : Prop where
  ob : ∀ n, ObjAt S n (S.hp n)
  ds : ∀ n m b, n ≠ m → cellLive (S.hp n) → cellLive (S.hp m) → hasBlk (S.ρ n) b → ¬ hasBlk (S.ρ m) b
  il : ∀ b, S.I b → b < S.w.heap.size
  bl : ∀ b, S.B b → b < S.w.heap.size
  nb : ∀ n cs, S.hp n = .box cs → AV.namesL (fun m => S.hp m ≠ .free) cs

structure FRel (S : Sit) (fr : Nat → AV) (a : Act) : Prop where
  v : ∀ i, VRel S (fr i) (a.tmps.getD i undef)
  n : ∀ i, (fr i).names (fun m => S.hp m ≠ .free)
  d : a.defers = []

/-- what an object keeps as long as its name lives -/
def sameShape : Cell → Cell → Prop
  | .box cs, .box ds => ds.length = cs.length
  | .row e xs, .row e' ys => e' = e ∧ ys.length = xs.length
  | .map k v _, .map k' v' _ => k' = k ∧ v' = v
  | .mrow k v es, .mrow k' v' es' => k' = k ∧ v' = v ∧ es'.length = es.length
  | _, _ => False

/-- what the world shows outside is the same -/
def SameOut (w w' : World) : Prop := w'.os = w.os ∧ w'.output = w.output

structure Ext (p : Nat → Prop) (S T : Sit) : Prop where
  i : ∀ b, S.I b → T.I b ∧ T.w.heap[b]? = S.w.heap[b]?
  s : S.w.heap.size ≤ T.w.heap.size
  b : T.B = S.B
  o : ∀ b, S.B b → T.w.heap[b]? = S.w.heap[b]?
  f : ∀ n, p n → S.hp n ≠ .free → T.hp n = .dead ∨ (T.ρ n = S.ρ n ∧ sameShape (S.hp n) (T.hp n))
  g : ∀ n, p n → S.hp n = .dead → T.hp n = .dead
  j : ∀ b, T.I b → S.B b → S.I b
  q : SameOut S.w T.w

end Go.AM

/- Laws of the relation: lengths, later worlds, literals taken apart and put together. -/
namespace Go.AM
open Go

theorem cell_of_same {w w' : World} {b o : Nat} (h : w'.heap[b]? = w.heap[b]?) : w'.cell? ⟨b, o, none⟩ = w.cell? ⟨b, o, none⟩ := by
  simp [World.cell?, h]

theorem CellsAt.same {w w' : World} {b o : Nat} {us : List Value} (h : CellsAt w b o us) (e : w'.heap[b]? = w.heap[b]?) : CellsAt w' b o us :=
  fun j u hu => (cell_of_same e).trans (h j u hu)

theorem RelL.imp {α : Type} {R R' : α → List Value → Prop} (h : ∀ x vs, R x vs → R' x vs) : ∀ {xs : List α} {vs : List Value}, RelL R xs vs → RelL R' xs vs
  | [], _, hh => hh
  | _ :: _, _, ⟨l, r, e, h1, h2⟩ => ⟨l, r, e, h _ _ h1, RelL.imp h h2⟩

section later
variable {w w' : World} {I I' : Nat → Prop} (hI : ∀ b, I b → I' b ∧ w'.heap[b]? = w.heap[b]?)
include hI

theorem SliceAt.later {size n : Nat} {R R' : Nat → List Value → Prop} (hR : ∀ i us, R i us → R' i us) {a : Option Addr} (h : SliceAt w I size n R a) : SliceAt w' I' size n R' a := by
  rcases h with h | ⟨b, o, rfl, hb, h⟩
  · exact .inl h
  · refine .inr ⟨b, o, rfl, (hI b hb).1, fun i hi => ?_⟩
    obtain ⟨us, h1, h2⟩ := h i hi
    exact ⟨us, hR i us h1, h2.same (hI b hb).2⟩

mutual
theorem RelRx.later : ∀ (x : Rx) {vs : List Value}, RelRx w I x vs → RelRx w' I' x vs
  | .mk k s kids, vs, h => by
    unfold RelRx at h ⊢
    obtain ⟨hs, a, len, cap, hv, hl, hc, h⟩ := h
    refine ⟨hs, a, len, cap, hv, hl, hc, ?_⟩
    rcases h with h | ⟨b, o, ha, hb, h⟩
    · exact .inl h
    · exact .inr ⟨b, o, ha, (hI b hb).1, RelRx.go_later kids hb h⟩
theorem RelRx.go_later : ∀ (l : List Rx) {b o : Nat}, I b → RelRx.go w I b l o → RelRx.go w' I' b l o
  | [], _, _, _, _ => by unfold RelRx.go; trivial
  | x :: r, b, o, hb, h => by
    unfold RelRx.go at h ⊢
    obtain ⟨⟨us, h1, h2⟩, h3⟩ := h
    exact ⟨⟨us, RelRx.later x h1, h2.same (hI b hb).2⟩, RelRx.go_later r hb h3⟩
end

theorem RelK.later : ∀ (k : Kind) {x : k.T} {vs : List Value}, RelK w I k x vs → RelK w' I' k x vs
  | .bool, _, _, h => h
  | .int _, _, _, h => h
  | .str, _, _, h => h
  | .dyn _, _, _, h => h
  | .unit, _, _, h => h
  | .slice e, xs, vs, h => by
    obtain ⟨a, len, cap, h1, h2, h3, h4⟩ := h
    exact ⟨a, len, cap, h1, h2, h3, SliceAt.later hI (fun i us hh => RelK.later e hh) h4⟩
  | .pair a b, x, vs, ⟨l, r, e, h1, h2⟩ => ⟨l, r, e, RelK.later a h1, RelK.later b h2⟩
  | .arr n e, xs, vs, ⟨h1, h2⟩ => ⟨h1, h2.imp (fun x vs hh => RelK.later e hh)⟩
  | .rx, x, vs, h => RelRx.later hI x h
  | .fnk, _, _, h => h
end later

theorem fnV_one (f : Option Nat) : (fnV f).oneCell' = true := by cases f <;> rfl

theorem RelL.length {α : Type} {R : α → List Value → Prop} {n : Nat} (h : ∀ x vs, R x vs → vs.length = n) : ∀ {xs : List α} {vs : List Value}, RelL R xs vs → vs.length = xs.length * n
  | [], _, hh => by rw [show _ = [] from hh]; simp
  | _ :: xs, _, ⟨l, r, e, h1, h2⟩ => by rw [e, List.length_append, h _ _ h1, RelL.length h h2, List.length_cons, Nat.succ_mul]; omega

theorem RelL.all {α : Type} {R : α → List Value → Prop} {p : Value → Prop} (h : ∀ x vs, R x vs → ∀ u ∈ vs, p u) : ∀ {xs : List α} {vs : List Value}, RelL R xs vs → ∀ u ∈ vs, p u
  | [], _, hh, u, hu => by rw [show _ = [] from hh] at hu; cases hu
  | _ :: xs, _, ⟨l, r, e, h1, h2⟩, u, hu => by
    rw [e] at hu
    rcases List.mem_append.1 hu with hu | hu
    · exact h _ _ h1 u hu
    · exact RelL.all h h2 u hu

theorem RelRx.length {w : World} {I : Nat → Prop} : ∀ (x : Rx) {vs : List Value}, RelRx w I x vs → vs.length = 6
  | .mk k s kids, vs, h => by unfold RelRx at h; obtain ⟨_, a, len, cap, rfl, _⟩ := h; rfl

theorem RelRx.ones {w : World} {I : Nat → Prop} : ∀ (x : Rx) {vs : List Value}, RelRx w I x vs → ∀ u ∈ vs, u.oneCell' = true
  | .mk k s kids, vs, h, u, hu => by
    unfold RelRx at h
    obtain ⟨_, a, len, cap, rfl, _⟩ := h
    simp at hu
    rcases hu with rfl | rfl | rfl | rfl | rfl | rfl <;> rfl

theorem RelK.length {w : World} {I : Nat → Prop} : ∀ (k : Kind) {x : k.T} {vs : List Value}, RelK w I k x vs → vs.length = k.size
  | .bool, _, _, h => by rw [show _ = _ from h]; rfl
  | .int _, _, _, h => by rw [show _ = _ from h]; rfl
  | .str, _, _, h => by rw [show _ = _ from h]; rfl
  | .dyn _, _, _, ⟨v, h, _⟩ => by rw [h]; rfl
  | .unit, _, _, h => by rw [show _ = _ from h]; rfl
  | .slice e, xs, vs, ⟨a, len, cap, h, _⟩ => by rw [h]; rfl
  | .pair a b, x, vs, ⟨l, r, e, h1, h2⟩ => by rw [e, List.length_append, RelK.length a h1, RelK.length b h2]; rfl
  | .arr n e, xs, vs, ⟨h1, h2⟩ => by rw [h2.length (fun x vs hh => RelK.length e hh), h1]; rfl
  | .rx, x, vs, h => RelRx.length x h
  | .fnk, _, _, h => by rw [show _ = _ from h]; rfl

theorem RelK.ones {w : World} {I : Nat → Prop} : ∀ (k : Kind) {x : k.T} {vs : List Value}, RelK w I k x vs → ∀ u ∈ vs, u.oneCell' = true
  | .bool, _, _, h, u, hu => by rw [show _ = _ from h] at hu; simp at hu; rw [hu]; rfl
  | .int _, _, _, h, u, hu => by rw [show _ = _ from h] at hu; simp at hu; rw [hu]; rfl
  | .str, _, _, h, u, hu => by rw [show _ = _ from h] at hu; simp at hu; rw [hu]; rfl
  | .dyn _, _, _, ⟨v, h, h'⟩, u, hu => by rw [h] at hu; simp at hu; rw [hu]; exact h'
  | .unit, _, _, h, u, hu => by rw [show _ = _ from h] at hu; cases hu
  | .slice e, xs, vs, ⟨a, len, cap, h, _⟩, u, hu => by rw [h] at hu; simp at hu; rw [hu]; rfl
  | .pair a b, x, vs, ⟨l, r, e, h1, h2⟩, u, hu => by
    rw [e] at hu
    rcases List.mem_append.1 hu with hu | hu
    · exact RelK.ones a h1 u hu
    · exact RelK.ones b h2 u hu
  | .arr n e, xs, vs, ⟨h1, h2⟩, u, hu => h2.all (fun x vs hh => RelK.ones e hh) u hu
  | .rx, x, vs, h, u, hu => RelRx.ones x h u hu
  | .fnk, f, _, h, u, hu => by rw [show _ = _ from h] at hu; simp at hu; rw [hu]; exact fnV_one f

section lists
variable {S : Sit}

theorem VRelL.length : ∀ {cs : List AV} {vs : List Value}, VRelL S cs vs → vs.length = cs.length
  | [], _, h => by unfold VRelL at h; rw [h]; rfl
  | _ :: _, _, h => by unfold VRelL at h; obtain ⟨v, s, rfl, _, h2⟩ := h; simp [VRelL.length h2]

theorem VRelL.nil : VRelL S [] [] := by unfold VRelL; rfl
theorem VRelL.cons {a : AV} {v : Value} {cs : List AV} {vs : List Value} (h : VRel S a v) (h2 : VRelL S cs vs) : VRelL S (a :: cs) (v :: vs) := by
  unfold VRelL; exact ⟨v, vs, rfl, h, h2⟩
theorem VRelL.one {a : AV} {v : Value} (h : VRel S a v) : VRelL S [a] [v] := .cons h .nil
theorem VRelL.cons_inv {a : AV} {cs : List AV} {vs : List Value} (h : VRelL S (a :: cs) vs) : ∃ v s, vs = v :: s ∧ VRel S a v ∧ VRelL S cs s := by
  unfold VRelL at h; exact h
theorem VRelL.nil_inv {vs : List Value} (h : VRelL S [] vs) : vs = [] := by unfold VRelL at h; exact h

theorem VRelL.append : ∀ {cs ds : List AV} {vs us : List Value}, VRelL S cs vs → VRelL S ds us → VRelL S (cs ++ ds) (vs ++ us)
  | [], _, _, _, h, h2 => by rw [h.nil_inv]; exact h2
  | _ :: _, _, _, _, h, h2 => by obtain ⟨v, s, rfl, h1, h3⟩ := h.cons_inv; exact .cons h1 (VRelL.append h3 h2)

theorem VRelL.split : ∀ {cs ds : List AV} {vs : List Value}, VRelL S (cs ++ ds) vs → ∃ l r, vs = l ++ r ∧ VRelL S cs l ∧ VRelL S ds r
  | [], _, vs, h => ⟨[], vs, rfl, .nil, h⟩
  | _ :: _, _, _, h => by
    obtain ⟨v, s, rfl, h1, h3⟩ := VRelL.cons_inv h
    obtain ⟨l, r, rfl, h4, h5⟩ := VRelL.split h3
    exact ⟨v :: l, r, rfl, .cons h1 h4, h5⟩

theorem VRelL.take {cs : List AV} {vs : List Value} (n : Nat) (h : VRelL S cs vs) : VRelL S (cs.take n) (vs.take n) := by
  induction n generalizing cs vs with
  | zero => simpa using VRelL.nil
  | succ n ih =>
    cases cs with
    | nil => rw [h.nil_inv]; simpa using VRelL.nil
    | cons c cs => obtain ⟨v, s, rfl, h1, h2⟩ := h.cons_inv; exact .cons h1 (ih h2)

theorem VRelL.drop {cs : List AV} {vs : List Value} (n : Nat) (h : VRelL S cs vs) : VRelL S (cs.drop n) (vs.drop n) := by
  induction n generalizing cs vs with
  | zero => simpa using h
  | succ n ih =>
    cases cs with
    | nil => rw [h.nil_inv]; simpa using VRelL.nil
    | cons c cs => obtain ⟨v, s, rfl, h1, h2⟩ := h.cons_inv; exact ih h2

theorem VRelL.get {cs : List AV} {vs : List Value} {i : Nat} {c : AV} (h : VRelL S cs vs) (hc : cs[i]? = some c) : ∃ v, vs[i]? = some v ∧ VRel S c v := by
  induction i generalizing cs vs with
  | zero =>
    cases cs with
    | nil => simp at hc
    | cons d cs => obtain ⟨v, s, rfl, h1, h2⟩ := h.cons_inv; simp at hc; subst hc; exact ⟨v, rfl, h1⟩
  | succ n ih =>
    cases cs with
    | nil => simp at hc
    | cons d cs => obtain ⟨v, s, rfl, h1, h2⟩ := h.cons_inv; simp at hc; exact ih h2 hc

theorem VRelL.set {cs : List AV} {vs : List Value} {i : Nat} {c : AV} {v : Value} (h : VRelL S cs vs) (hc : VRel S c v) : VRelL S (cs.set i c) (vs.set i v) := by
  induction i generalizing cs vs with
  | zero =>
    cases cs with
    | nil => rw [h.nil_inv]; simpa using VRelL.nil
    | cons d cs => obtain ⟨v, s, rfl, h1, h2⟩ := h.cons_inv; exact .cons hc h2
  | succ n ih =>
    cases cs with
    | nil => rw [h.nil_inv]; simpa using VRelL.nil
    | cons d cs => obtain ⟨v, s, rfl, h1, h2⟩ := h.cons_inv; exact .cons h1 (ih h2)

theorem VRelL.splice {cs ds : List AV} {vs us : List Value} (off : Nat) (h : VRelL S cs vs) (h2 : VRelL S ds us) :
    VRelL S (splice cs off ds) (vs.take off ++ us ++ vs.drop (off + us.length)) := by
  unfold Go.AM.splice
  rw [h2.length]
  exact ((h.take off).append h2).append (h.drop _)
end lists

theorem CellsAt.split {w : World} {b o : Nat} {us vs : List Value} (h : CellsAt w b o (us ++ vs)) : CellsAt w b o us ∧ CellsAt w b (o + us.length) vs := by
  refine ⟨fun j u hu => h j u ?_, fun j u hu => ?_⟩
  · rw [List.getElem?_append_left (by exact (List.getElem?_eq_some_iff.1 hu).1)]; exact hu
  · have := h (us.length + j) u (by rw [List.getElem?_append_right (by omega)]; simpa using hu)
    rwa [show o + us.length + j = o + (us.length + j) from by omega]

theorem CellsAt.drop {w : World} {b o : Nat} {us : List Value} (n : Nat) (h : CellsAt w b o us) : CellsAt w b (o + n) (us.drop n) := by
  intro j u hu
  rw [List.getElem?_drop] at hu
  have := h _ _ hu
  rwa [show o + n + j = o + (n + j) from by omega]

theorem CellsAt.take {w : World} {b o : Nat} {us : List Value} (n : Nat) (h : CellsAt w b o us) : CellsAt w b o (us.take n) := by
  intro j u hu
  rw [List.getElem?_take] at hu
  split at hu
  · exact h _ _ hu
  · cases hu

theorem RelRx.go_iff {w : World} {I : Nat → Prop} {b : Nat} : ∀ (l : List Rx) (o : Nat), RelRx.go w I b l o ↔ ∀ i, i < l.length → ∃ us, RelRx w I (l.getD i (Kind.rx).dflt) us ∧ CellsAt w b (o + i * 6) us
  | [], o => by unfold RelRx.go; simp
  | x :: r, o => by
    unfold RelRx.go
    rw [RelRx.go_iff r (o + 6)]
    constructor
    · rintro ⟨h1, h2⟩ i hi
      cases i with
      | zero => simpa using h1
      | succ i =>
        obtain ⟨us, h3, h4⟩ := h2 i (by simpa using hi)
        exact ⟨us, by simpa using h3, by rwa [show o + (i + 1) * 6 = o + 6 + i * 6 from by omega]⟩
    · intro h
      refine ⟨by simpa using h 0 (by simp), fun i hi => ?_⟩
      obtain ⟨us, h3, h4⟩ := h (i + 1) (by simpa using hi)
      exact ⟨us, by simpa using h3, by rwa [show o + (i + 1) * 6 = o + 6 + i * 6 from by omega] at h4⟩

theorem RelRx.kids {w : World} {I : Nat → Prop} {k : Int} {s : List Int} {kids : List Rx} {vs : List Value} (h : RelRx w I (.mk k s kids) vs) :
    s.length = 4 ∧ ∃ v, vs = [.int .i64 k, .int .u64 (s.getD 0 0), .int .u64 (s.getD 1 0), .int .u64 (s.getD 2 0), .int .u64 (s.getD 3 0), v] ∧ RelK w I (.slice .rx) kids [v] := by
  unfold RelRx at h
  obtain ⟨hs, a, len, cap, rfl, hl, hc, h⟩ := h
  refine ⟨hs, _, rfl, a, len, cap, rfl, hl, hc, ?_⟩
  rcases h with h | ⟨b, o, ha, hb, h⟩
  · exact .inl (hl.trans h)
  · refine .inr ⟨b, o, ha, hb, fun i hi => ?_⟩
    exact (RelRx.go_iff kids o).1 h i (hl ▸ hi)

theorem RelRx.of_kids {w : World} {I : Nat → Prop} {k : Int} {s : List Int} {kids : List Rx} {v : Value} (hs : s.length = 4) (h : RelK w I (.slice .rx) kids [v]) :
    RelRx w I (.mk k s kids) [.int .i64 k, .int .u64 (s.getD 0 0), .int .u64 (s.getD 1 0), .int .u64 (s.getD 2 0), .int .u64 (s.getD 3 0), v] := by
  obtain ⟨a, len, cap, h1, hl, hc, h⟩ := h
  obtain rfl : v = .slice a len cap := by simpa using h1
  unfold RelRx
  refine ⟨hs, a, len, cap, rfl, hl, hc, ?_⟩
  rcases h with h | ⟨b, o, ha, hb, h⟩
  · exact .inl (hl.symm.trans h)
  · exact .inr ⟨b, o, ha, hb, (RelRx.go_iff kids o).2 fun i hi => h i (hl ▸ hi)⟩

end Go.AM

/- Literals taken apart and put together; values in later situations. -/
namespace Go.AM
open Go

theorem Value.cells_of_one {v : Value} (h : v.oneCell' = true) : v.cells = #[v] := by
  cases v <;> first | rfl | (simp [Value.oneCell'] at h)

theorem range_getD {α : Type} (l : List α) (d : α) : (List.range l.length).map (fun i => l.getD i d) = l := by
  apply List.ext_getElem
  · simp
  · intro i h1 h2
    simp at h1 h2
    simp [List.getD_eq_getElem?_getD, List.getElem?_eq_getElem h2]

theorem range_flatMap {α β : Type} (l : List α) (d : α) (f : α → List β) : (List.range l.length).flatMap (fun i => f (l.getD i d)) = l.flatMap f := by
  rw [← List.flatMap_map (f := fun i => l.getD i d), range_getD]

theorem RelL.flat {S : Sit} {α : Type} {R : α → List Value → Prop} {f : α → List AV} (h : ∀ x vs, R x vs → VRelL S (f x) vs) :
    ∀ {xs : List α} {vs : List Value}, RelL R xs vs → VRelL S (xs.flatMap f) vs
  | [], _, hh => by rw [show _ = [] from hh]; exact .nil
  | _ :: _, _, ⟨l, r, e, h1, h2⟩ => by rw [e, List.flatMap_cons]; exact (h _ _ h1).append (RelL.flat h h2)

section
variable {S : Sit}

theorem VRel.bool_inv {b : Bool} {v : Value} (h : VRel S (.bool b) v) : v = .bool b := by unfold VRel at h; exact h
theorem VRel.int_inv {k : IntKind} {n : Int} {v : Value} (h : VRel S (.int k n) v) : v = .int k n := by unfold VRel at h; exact h
theorem VRel.str_inv {s : List UInt8} {v : Value} (h : VRel S (.str s) v) : v = strOf s := by unfold VRel at h; exact h
theorem VRel.sl_inv {e : Kind} {xs : List e.T} {v : Value} (h : VRel S (.sl e xs) v) : RelK S.w S.I (.slice e) xs [v] := by unfold VRel at h; exact h
theorem VRel.nilsl_inv {v : Value} (h : VRel S .nilsl v) : v = .slice none 0 0 := by unfold VRel at h; exact h
theorem VRel.bool_mk {b : Bool} : VRel S (.bool b) (.bool b) := by unfold VRel; rfl
theorem VRel.int_mk {k : IntKind} {n : Int} : VRel S (.int k n) (.int k n) := by unfold VRel; rfl
theorem VRel.str_mk {s : List UInt8} : VRel S (.str s) (strOf s) := by unfold VRel; rfl
theorem VRel.sl_mk {e : Kind} {xs : List e.T} {v : Value} (h : RelK S.w S.I (.slice e) xs [v]) : VRel S (.sl e xs) v := by unfold VRel; exact h
theorem VRel.undef_mk {v : Value} : VRel S .undef v := by unfold VRel; trivial

theorem RelK.nilsl {w : World} {I : Nat → Prop} (e : Kind) : RelK w I (.slice e) ([] : List e.T) [.slice none 0 0] :=
  ⟨none, 0, 0, rfl, rfl, Nat.le_refl _, .inl rfl⟩

theorem flat_rel : ∀ (k : Kind) {x : k.T} {vs : List Value}, RelK S.w S.I k x vs → VRelL S (k.flat x) vs
  | .bool, _, _, h => by rw [show _ = _ from h]; exact .one .bool_mk
  | .int _, _, _, h => by rw [show _ = _ from h]; exact .one .int_mk
  | .str, _, _, h => by rw [show _ = _ from h]; exact .one .str_mk
  | .dyn _, _, _, ⟨v, h, _⟩ => by rw [h]; exact .one .undef_mk
  | .unit, _, _, h => by rw [show _ = _ from h]; exact .nil
  | .slice e, xs, vs, h => by
    obtain ⟨a, len, cap, rfl, h2⟩ := id h
    exact .one (.sl_mk h)
  | .pair a b, x, vs, ⟨l, r, e, h1, h2⟩ => by rw [e]; exact (flat_rel a h1).append (flat_rel b h2)
  | .arr n e, xs, vs, ⟨h1, h2⟩ => by
    unfold Kind.flat
    rw [← h1, range_flatMap]
    exact h2.flat (fun x vs hh => flat_rel e hh)
  | .rx, .mk k s kids, vs, h => by
    obtain ⟨hs, v, rfl, hk⟩ := RelRx.kids (show RelRx S.w S.I (.mk k s kids) vs from h)
    exact .cons .int_mk (.cons .int_mk (.cons .int_mk (.cons .int_mk (.cons .int_mk (.one (VRel.sl_mk (e := .rx) (xs := kids) hk))))))
  | .fnk, none, _, h => by rw [show _ = _ from h]; refine .one ?_; show VRel S .nilfn .nilFunc; unfold VRel; rfl
  | .fnk, some f, _, h => by rw [show _ = _ from h]; refine .one ?_; show VRel S (.fn f []) (.func (.func f) #[] #[]); unfold VRel; exact ⟨[], rfl, .nil⟩

theorem manyOf_rel {α : Type} {R : α → List Value → Prop} {f : List AV → Option (α × List AV)}
    (hf : ∀ cs vs x rest, VRelL S cs vs → f cs = some (x, rest) → ∃ l r, vs = l ++ r ∧ R x l ∧ VRelL S rest r) :
    ∀ (n : Nat) {cs : List AV} {vs : List Value} {xs : List α} {rest : List AV}, VRelL S cs vs → manyOf f n cs = some (xs, rest) →
      xs.length = n ∧ ∃ l r, vs = l ++ r ∧ RelL R xs l ∧ VRelL S rest r
  | 0, cs, vs, xs, rest, h, he => by
    simp only [manyOf, Option.some.injEq, Prod.mk.injEq] at he
    obtain ⟨rfl, rfl⟩ := he
    exact ⟨rfl, [], vs, rfl, rfl, h⟩
  | n + 1, cs, vs, xs, rest, h, he => by
    simp only [manyOf, Option.bind_eq_some_iff] at he
    obtain ⟨⟨x, r1⟩, h1, ⟨xs', r2⟩, h2, he⟩ := he
    simp only [Option.some.injEq, Prod.mk.injEq] at he
    obtain ⟨rfl, rfl⟩ := he
    obtain ⟨l, r, rfl, hx, hr⟩ := hf _ _ _ _ h h1
    obtain ⟨hn, l2, r2', rfl, hxs, hr2⟩ := manyOf_rel hf n hr h2
    exact ⟨by simp [hn], l ++ l2, r2', by simp, ⟨l, l2, rfl, hx, hxs⟩, hr2⟩

theorem unBool_rel {cs : List AV} {vs : List Value} {x : Bool} {rest : List AV} (h : VRelL S cs vs) (he : unBool cs = some (x, rest)) : ∃ r, vs = .bool x :: r ∧ VRelL S rest r := by
  unfold unBool at he
  split at he
  · obtain ⟨v, s, rfl, h1, h2⟩ := h.cons_inv
    simp only [Option.some.injEq, Prod.mk.injEq] at he
    obtain ⟨rfl, rfl⟩ := he
    exact ⟨s, by rw [h1.bool_inv], h2⟩
  · cases he

theorem unInt_rel {k : IntKind} {cs : List AV} {vs : List Value} {x : Int} {rest : List AV} (h : VRelL S cs vs) (he : unInt k cs = some (x, rest)) : ∃ r, vs = .int k x :: r ∧ VRelL S rest r := by
  unfold unInt at he
  split at he
  · split at he
    · rename_i hk
      subst hk
      obtain ⟨v, s, rfl, h1, h2⟩ := h.cons_inv
      simp only [Option.some.injEq, Prod.mk.injEq] at he
      obtain ⟨rfl, rfl⟩ := he
      exact ⟨s, by rw [h1.int_inv], h2⟩
    · cases he
  · cases he

theorem unStr_rel {cs : List AV} {vs : List Value} {x : List UInt8} {rest : List AV} (h : VRelL S cs vs) (he : unStr cs = some (x, rest)) : ∃ r, vs = strOf x :: r ∧ VRelL S rest r := by
  unfold unStr at he
  split at he
  · obtain ⟨v, s, rfl, h1, h2⟩ := h.cons_inv
    simp only [Option.some.injEq, Prod.mk.injEq] at he
    obtain ⟨rfl, rfl⟩ := he
    exact ⟨s, by rw [h1.str_inv], h2⟩
  · cases he

theorem unSl_rel {e : Kind} {cs : List AV} {vs : List Value} {x : List e.T} {rest : List AV} (h : VRelL S cs vs) (he : unSl e cs = some (x, rest)) :
    ∃ v r, vs = v :: r ∧ RelK S.w S.I (.slice e) x [v] ∧ VRelL S rest r := by
  unfold unSl at he
  split at he
  · split at he
    · rename_i hee
      subst hee
      obtain ⟨v, s, rfl, h1, h2⟩ := h.cons_inv
      simp only [Option.some.injEq, Prod.mk.injEq] at he
      obtain ⟨rfl, rfl⟩ := he
      exact ⟨v, s, rfl, h1.sl_inv, h2⟩
    · cases he
  · obtain ⟨v, s, rfl, h1, h2⟩ := h.cons_inv
    simp only [Option.some.injEq, Prod.mk.injEq] at he
    obtain ⟨rfl, rfl⟩ := he
    exact ⟨v, s, rfl, by rw [h1.nilsl_inv]; exact RelK.nilsl e, h2⟩
  · cases he

theorem unRx_rel {cs : List AV} {vs : List Value} {x : Rx} {rest : List AV} (h : VRelL S cs vs) (he : unRx cs = some (x, rest)) :
    ∃ l r, vs = l ++ r ∧ RelRx S.w S.I x l ∧ VRelL S rest r := by
  unfold unRx at he
  simp only [Option.bind_eq_some_iff] at he
  obtain ⟨⟨k, r0⟩, h0, ⟨a, r1⟩, h1, ⟨b, r2⟩, h2, ⟨c, r3⟩, h3, ⟨d, r4⟩, h4, ⟨q, r5⟩, h5, he⟩ := he
  simp only [Option.some.injEq, Prod.mk.injEq] at he
  obtain ⟨rfl, rfl⟩ := he
  obtain ⟨s0, rfl, g0⟩ := unInt_rel h h0
  obtain ⟨s1, rfl, g1⟩ := unInt_rel g0 h1
  obtain ⟨s2, rfl, g2⟩ := unInt_rel g1 h2
  obtain ⟨s3, rfl, g3⟩ := unInt_rel g2 h3
  obtain ⟨s4, rfl, g4⟩ := unInt_rel g3 h4
  obtain ⟨v, s5, rfl, hk, g5⟩ := unSl_rel g4 h5
  exact ⟨[.int .i64 k, .int .u64 a, .int .u64 b, .int .u64 c, .int .u64 d, v], s5, rfl, RelRx.of_kids (s := [a, b, c, d]) rfl hk, g5⟩

theorem unFn_rel {cs : List AV} {vs : List Value} {x : Option Nat} {rest : List AV} (h : VRelL S cs vs) (he : unFn cs = some (x, rest)) :
    ∃ l r, vs = l ++ r ∧ RelK S.w S.I .fnk x l ∧ VRelL S rest r := by
  unfold unFn at he
  split at he
  · simp only [Option.some.injEq, Prod.mk.injEq] at he
    obtain ⟨rfl, rfl⟩ := he
    obtain ⟨v, s, rfl, h1, h2⟩ := h.cons_inv
    unfold VRel at h1
    obtain ⟨us, rfl, h3⟩ := h1
    have := h3.nil_inv
    subst this
    exact ⟨[_], s, rfl, rfl, h2⟩
  · simp only [Option.some.injEq, Prod.mk.injEq] at he
    obtain ⟨rfl, rfl⟩ := he
    obtain ⟨v, s, rfl, h1, h2⟩ := h.cons_inv
    unfold VRel at h1
    subst h1
    exact ⟨[_], s, rfl, rfl, h2⟩
  · cases he

theorem unflat_rel : ∀ (k : Kind) {cs : List AV} {vs : List Value} {x : k.T} {rest : List AV}, VRelL S cs vs → k.unflat cs = some (x, rest) →
      ∃ l r, vs = l ++ r ∧ RelK S.w S.I k x l ∧ VRelL S rest r
  | .bool, cs, vs, x, rest, h, he => by obtain ⟨r, rfl, h2⟩ := unBool_rel h he; exact ⟨[.bool x], r, rfl, rfl, h2⟩
  | .int ik, cs, vs, x, rest, h, he => by obtain ⟨r, rfl, h2⟩ := unInt_rel h he; exact ⟨[.int ik x], r, rfl, rfl, h2⟩
  | .str, cs, vs, x, rest, h, he => by obtain ⟨r, rfl, h2⟩ := unStr_rel h he; exact ⟨[strOf x], r, rfl, rfl, h2⟩
  | .dyn _, cs, vs, x, rest, h, he => by cases he
  | .unit, cs, vs, x, rest, h, he => by
    simp only [Kind.unflat, Option.some.injEq, Prod.mk.injEq] at he
    obtain ⟨_, rfl⟩ := he
    exact ⟨[], vs, rfl, rfl, h⟩
  | .slice e, cs, vs, x, rest, h, he => by obtain ⟨v, r, rfl, h1, h2⟩ := unSl_rel h he; exact ⟨[v], r, rfl, h1, h2⟩
  | .pair a b, cs, vs, x, rest, h, he => by
    unfold Kind.unflat at he
    simp only [Option.bind_eq_some_iff] at he
    obtain ⟨⟨x1, r1⟩, h1, ⟨x2, r2⟩, h2, he⟩ := he
    simp only [Option.some.injEq, Prod.mk.injEq] at he
    obtain ⟨rfl, rfl⟩ := he
    obtain ⟨l, r, rfl, hx, hr⟩ := unflat_rel a h h1
    obtain ⟨l2, r2', rfl, hx2, hr2⟩ := unflat_rel b hr h2
    exact ⟨l ++ l2, r2', by simp, ⟨l, l2, rfl, hx, hx2⟩, hr2⟩
  | .arr n e, cs, vs, x, rest, h, he => by
    unfold Kind.unflat at he
    simp only [Option.bind_eq_some_iff] at he
    obtain ⟨⟨xs, r1⟩, h1, he⟩ := he
    simp only [Option.some.injEq, Prod.mk.injEq] at he
    obtain ⟨rfl, rfl⟩ := he
    obtain ⟨hn, l, r, rfl, hx, hr⟩ := manyOf_rel (R := RelK S.w S.I e) (fun cs vs x rest hh hx => unflat_rel e hh hx) n h h1
    exact ⟨l, r, rfl, ⟨hn, hx⟩, hr⟩
  | .rx, cs, vs, x, rest, h, he => unRx_rel h he
  | .fnk, cs, vs, x, rest, h, he => unFn_rel h he

theorem oneL_rel {k : Kind} {cs : List AV} {vs : List Value} {x : k.T} (h : VRelL S cs vs) (he : oneL k cs = some x) : RelK S.w S.I k x vs := by
  unfold oneL at he
  simp only [Option.bind_eq_some_iff] at he
  obtain ⟨⟨y, rest⟩, h1, h2⟩ := he
  obtain ⟨l, r, rfl, hx, hr⟩ := unflat_rel k h h1
  split at h2
  · rename_i hnil
    simp only at hnil
    subst hnil
    simp only [Option.some.injEq] at h2
    subst h2
    rw [hr.nil_inv]; simpa using hx
  · cases h2

theorem listOf_rel {e : Kind} : ∀ {n : Nat} {cs : List AV} {vs : List Value} {xs : List e.T}, VRelL S cs vs → listOf e n cs = some xs → xs.length = n ∧ RelL (RelK S.w S.I e) xs vs
  | 0, [], vs, xs, h, he => by simp only [listOf, Option.some.injEq] at he; subst he; exact ⟨rfl, h.nil_inv⟩
  | 0, _ :: _, vs, xs, h, he => by simp [listOf] at he
  | n + 1, cs, vs, xs, h, he => by
    simp only [listOf, Option.bind_eq_some_iff] at he
    obtain ⟨⟨x, r⟩, h1, ys, h2, he⟩ := he
    simp only [Option.some.injEq] at he
    subst he
    obtain ⟨l, r', rfl, hx, hr⟩ := unflat_rel e h h1
    obtain ⟨hn, hys⟩ := listOf_rel hr h2
    exact ⟨by simp [hn], l, r', rfl, hx, hys⟩

theorem leaves_rel {c : AV} {cs : List AV} {v : Value} (h : VRel S c v) (he : c.leaves = some cs) : VRelL S cs v.cells.toList ∧ ∀ u ∈ v.cells.toList, u.oneCell' = true := by
  cases c <;> simp only [AV.leaves, Option.some.injEq, reduceCtorEq] at he
  case agg ds =>
    subst he
    unfold VRel at h
    obtain ⟨vs, rfl, h1, h2⟩ := h
    exact ⟨by simpa [Value.cells] using h1, by simpa [Value.cells] using h2⟩
  all_goals
    subst he
    have h' := h
    unfold VRel at h'
  case bool => subst h'; exact ⟨.one h, by simp [Value.cells, Value.oneCell']⟩
  case int => subst h'; exact ⟨.one h, by simp [Value.cells, Value.oneCell']⟩
  case str => subst h'; exact ⟨.one h, by simp [Value.cells, Value.oneCell', strOf]⟩
  case sl e xs => obtain ⟨a, len, cap, h1, _⟩ := h'; simp at h1; subst h1; exact ⟨.one h, by simp [Value.cells, Value.oneCell']⟩
  case nilsl => subst h'; exact ⟨.one h, by simp [Value.cells, Value.oneCell']⟩
  case nilp => subst h'; exact ⟨.one h, by simp [Value.cells, Value.oneCell']⟩
  case nilfn => subst h'; exact ⟨.one h, by simp [Value.cells, Value.oneCell']⟩
  case nilmap => subst h'; exact ⟨.one h, by simp [Value.cells, Value.oneCell']⟩
  case nilif => subst h'; exact ⟨.one h, by simp [Value.cells, Value.oneCell']⟩
  case fn => obtain ⟨vs, rfl, _⟩ := h'; exact ⟨.one h, by simp [Value.cells, Value.oneCell']⟩
  case iptr => obtain ⟨b, o, us, rfl, _⟩ := h'; exact ⟨.one h, by simp [Value.cells, Value.oneCell']⟩
  case ref => rw [Value.cells_of_one h'.1]; exact ⟨.one h, by simpa using h'.1⟩
  case pref => rw [Value.cells_of_one h'.1]; exact ⟨.one h, by simpa using h'.1⟩
  case ptr => rw [Value.cells_of_one h'.1]; exact ⟨.one h, by simpa using h'.1⟩
  case eptr => rw [Value.cells_of_one h'.1]; exact ⟨.one h, by simpa using h'.1⟩
  case aptr => rw [Value.cells_of_one h'.1]; exact ⟨.one h, by simpa using h'.1⟩
  case mapr => rw [Value.cells_of_one h'.1]; exact ⟨.one h, by simpa using h'.1⟩
  case mref => rw [Value.cells_of_one h'.1]; exact ⟨.one h, by simpa using h'.1⟩
  case keys => rw [Value.cells_of_one h'.1]; exact ⟨.one h, by simpa using h'.1⟩
end

section later
variable {p : Nat → Prop} {S T : Sit}

theorem RelK.ext (hE : Ext p S T) {k : Kind} {x : k.T} {vs : List Value} (h : RelK S.w S.I k x vs) : RelK T.w T.I k x vs := RelK.later hE.i k h

mutual
theorem VRel.ext (hE : Ext p S T) : ∀ (c : AV) {v : Value}, c.names (fun n => p n ∧ S.hp n ≠ .free) → VRel S c v → VRel T c v
  | .undef, v, _, _ => by unfold VRel; trivial
  | .bool _, v, _, h => by unfold VRel at h ⊢; exact h
  | .int _ _, v, _, h => by unfold VRel at h ⊢; exact h
  | .str _, v, _, h => by unfold VRel at h ⊢; exact h
  | .sl e xs, v, _, h => by unfold VRel at h ⊢; exact RelK.ext hE h
  | .nilsl, v, _, h => by unfold VRel at h ⊢; exact h
  | .nilp, v, _, h => by unfold VRel at h ⊢; exact h
  | .nilfn, v, _, h => by unfold VRel at h ⊢; exact h
  | .nilmap, v, _, h => by unfold VRel at h ⊢; exact h
  | .nilif, v, _, h => by unfold VRel at h ⊢; exact h
  | .ref n, v, hn, h => by
    unfold AV.names at hn
    unfold VRel at h ⊢
    refine ⟨h.1, ?_⟩
    rcases hE.f n hn.1 hn.2 with e | ⟨e1, e2⟩
    · rw [e]; trivial
    · have h2 := h.2
      cases hs : S.hp n <;> cases ht : T.hp n <;> simp only [hs, ht, sameShape] at e2 h2 ⊢ <;> first | trivial | (rw [e1]; exact h2) | exact e2.elim
  | .pref n k, v, hn, h => by
    unfold AV.names at hn
    unfold VRel at h ⊢
    refine ⟨h.1, ?_⟩
    rcases hE.f n hn.1 hn.2 with e | ⟨e1, e2⟩
    · rw [e]; trivial
    · have h2 := h.2
      cases hs : S.hp n <;> cases ht : T.hp n <;> simp only [hs, ht, sameShape] at e2 h2 ⊢ <;> first | trivial | (rw [e1, e2.2]; exact h2) | exact e2.elim
  | .ptr n off, v, hn, h => by
    unfold AV.names at hn
    unfold VRel at h ⊢
    refine ⟨h.1, ?_⟩
    rcases hE.f n hn.1 hn.2 with e | ⟨e1, e2⟩
    · rw [e]; trivial
    · have h2 := h.2
      cases hs : S.hp n <;> cases ht : T.hp n <;> simp only [hs, ht, sameShape] at e2 h2 ⊢ <;> first | trivial | (rw [e1]; exact h2) | exact e2.elim
  | .eptr n i sub, v, hn, h => by
    unfold AV.names at hn
    unfold VRel at h ⊢
    refine ⟨h.1, ?_⟩
    rcases hE.f n hn.1 hn.2 with e | ⟨e1, e2⟩
    · rw [e]; trivial
    · have h2 := h.2
      cases hs : S.hp n <;> cases ht : T.hp n <;> simp only [hs, ht, sameShape] at e2 h2 ⊢ <;> first | trivial | exact e2.elim | skip
      · obtain ⟨rfl, e3⟩ := e2
        rw [e1, e3]; exact h2
      · rw [e1, e2.2.2]; exact h2
  | .aptr n off cnt i, v, hn, h => by
    unfold AV.names at hn
    unfold VRel at h ⊢
    refine ⟨h.1, ?_⟩
    rcases hE.f n hn.1 hn.2 with e | ⟨e1, e2⟩
    · rw [e]; trivial
    · have h2 := h.2
      cases hs : S.hp n <;> cases ht : T.hp n <;> simp only [hs, ht, sameShape] at e2 h2 ⊢ <;> first | trivial | (rw [e1, e2]; exact h2) | exact e2.elim
  | .mapr n, v, hn, h => by
    unfold AV.names at hn
    unfold VRel at h ⊢
    refine ⟨h.1, ?_⟩
    rcases hE.f n hn.1 hn.2 with e | ⟨e1, e2⟩
    · rw [e]; trivial
    · have h2 := h.2
      cases hs : S.hp n <;> cases ht : T.hp n <;> simp only [hs, ht, sameShape] at e2 h2 ⊢ <;> first | trivial | (rw [e1]; exact h2) | exact e2.elim
  | .mref n i, v, hn, h => by
    unfold AV.names at hn
    unfold VRel at h ⊢
    refine ⟨h.1, ?_⟩
    rcases hE.f n hn.1 hn.2 with e | ⟨e1, e2⟩
    · rw [e]; trivial
    · have h2 := h.2
      cases hs : S.hp n <;> cases ht : T.hp n <;> simp only [hs, ht, sameShape] at e2 h2 ⊢ <;> first | trivial | (rw [e1, e2.2.2]; exact h2) | exact e2.elim
  | .keys c n i, v, hn, h => by
    unfold AV.names at hn
    unfold VRel at h ⊢
    obtain ⟨h0, b, m, h1, h3, h4, h2⟩ := h
    refine ⟨h0, b, m, h1, (hE.i b h3).1, h4.same (hE.i b h3).2, ?_⟩
    rcases hE.f n hn.1 hn.2 with e | ⟨e1, e2⟩
    · rw [e]; trivial
    · cases hs : S.hp n <;> cases ht : T.hp n <;> simp only [hs, ht, sameShape] at e2 h2 ⊢ <;> first | trivial | (rw [e1, e2.2.2]; exact h2) | exact e2.elim
  | .iptr cs, v, hn, h => by
    unfold AV.names at hn
    unfold VRel at h ⊢
    obtain ⟨b, o, us, h1, h2, h3, h4, h5⟩ := h
    exact ⟨b, o, us, h1, (hE.i b h2).1, VRelL.ext hE cs hn h3, h4.same (hE.i b h2).2, h5⟩
  | .fn f cap, v, hn, h => by
    unfold AV.names at hn
    unfold VRel at h ⊢
    obtain ⟨vs, h1, h2⟩ := h
    exact ⟨vs, h1, VRelL.ext hE cap hn h2⟩
  | .agg cs, v, hn, h => by
    unfold AV.names at hn
    unfold VRel at h ⊢
    obtain ⟨vs, h1, h2, h3⟩ := h
    exact ⟨vs, h1, VRelL.ext hE cs hn h2, h3⟩
  | .tup cs, v, hn, h => by
    unfold AV.names at hn
    unfold VRel at h ⊢
    obtain ⟨vs, h1, h2⟩ := h
    exact ⟨vs, h1, VRelL.ext hE cs hn h2⟩
theorem VRelL.ext (hE : Ext p S T) : ∀ (cs : List AV) {vs : List Value}, AV.namesL (fun n => p n ∧ S.hp n ≠ .free) cs → VRelL S cs vs → VRelL T cs vs
  | [], vs, _, h => by rw [h.nil_inv]; exact .nil
  | c :: cs, vs, hn, h => by
    unfold AV.namesL at hn
    obtain ⟨v, s, rfl, h1, h2⟩ := h.cons_inv
    exact .cons (VRel.ext hE c hn.1 h1) (VRelL.ext hE cs hn.2 h2)
end
end later

mutual
theorem AV.names_imp {p q : Nat → Prop} (h : ∀ n, p n → q n) : ∀ (c : AV), c.names p → c.names q
  | .ref n, hn => by unfold AV.names at hn ⊢; exact h n hn
  | .pref n _, hn => by unfold AV.names at hn ⊢; exact h n hn
  | .ptr n _, hn => by unfold AV.names at hn ⊢; exact h n hn
  | .eptr n _ _, hn => by unfold AV.names at hn ⊢; exact h n hn
  | .aptr n _ _ _, hn => by unfold AV.names at hn ⊢; exact h n hn
  | .mapr n, hn => by unfold AV.names at hn ⊢; exact h n hn
  | .mref n _, hn => by unfold AV.names at hn ⊢; exact h n hn
  | .keys _ n _, hn => by unfold AV.names at hn ⊢; exact h n hn
  | .fn _ cap, hn => by unfold AV.names at hn ⊢; exact AV.namesL_imp h cap hn
  | .agg cs, hn => by unfold AV.names at hn ⊢; exact AV.namesL_imp h cs hn
  | .tup cs, hn => by unfold AV.names at hn ⊢; exact AV.namesL_imp h cs hn
  | .iptr cs, hn => by unfold AV.names at hn ⊢; exact AV.namesL_imp h cs hn
  | .undef, _ => by unfold AV.names; trivial
  | .bool _, _ => by unfold AV.names; trivial
  | .int _ _, _ => by unfold AV.names; trivial
  | .str _, _ => by unfold AV.names; trivial
  | .sl _ _, _ => by unfold AV.names; trivial
  | .nilsl, _ => by unfold AV.names; trivial
  | .nilp, _ => by unfold AV.names; trivial
  | .nilfn, _ => by unfold AV.names; trivial
  | .nilmap, _ => by unfold AV.names; trivial
  | .nilif, _ => by unfold AV.names; trivial
theorem AV.namesL_imp {p q : Nat → Prop} (h : ∀ n, p n → q n) : ∀ (cs : List AV), AV.namesL p cs → AV.namesL q cs
  | [], _ => by unfold AV.namesL; trivial
  | c :: cs, hn => by unfold AV.namesL at hn ⊢; exact ⟨AV.names_imp h c hn.1, AV.namesL_imp h cs hn.2⟩
end

mutual
theorem AV.names_closed {p : Nat → Prop} : ∀ (c : AV), c.closed = true → c.names p
  | .ref n, hn => by simp [AV.closed] at hn
  | .pref n _, hn => by simp [AV.closed] at hn
  | .ptr n _, hn => by simp [AV.closed] at hn
  | .eptr n _ _, hn => by simp [AV.closed] at hn
  | .aptr n _ _ _, hn => by simp [AV.closed] at hn
  | .mapr n, hn => by simp [AV.closed] at hn
  | .mref n _, hn => by simp [AV.closed] at hn
  | .keys _ n _, hn => by simp [AV.closed] at hn
  | .iptr cs, hn => by simp [AV.closed] at hn
  | .fn _ cap, hn => by unfold AV.closed at hn; unfold AV.names; exact AV.namesL_closed cap hn
  | .agg cs, hn => by unfold AV.closed at hn; unfold AV.names; exact AV.namesL_closed cs hn
  | .tup cs, hn => by unfold AV.closed at hn; unfold AV.names; exact AV.namesL_closed cs hn
  | .undef, _ => by unfold AV.names; trivial
  | .bool _, _ => by unfold AV.names; trivial
  | .int _ _, _ => by unfold AV.names; trivial
  | .str _, _ => by unfold AV.names; trivial
  | .sl _ _, _ => by unfold AV.names; trivial
  | .nilsl, _ => by unfold AV.names; trivial
  | .nilp, _ => by unfold AV.names; trivial
  | .nilfn, _ => by unfold AV.names; trivial
  | .nilmap, _ => by unfold AV.names; trivial
  | .nilif, _ => by unfold AV.names; trivial
theorem AV.namesL_closed {p : Nat → Prop} : ∀ (cs : List AV), AV.closedL cs = true → AV.namesL p cs
  | [], _ => by unfold AV.namesL; trivial
  | c :: cs, hn => by
    unfold AV.closedL at hn
    simp only [Bool.and_eq_true] at hn
    unfold AV.namesL; exact ⟨AV.names_closed c hn.1, AV.namesL_closed cs hn.2⟩
end

theorem AV.closedL_append : ∀ (l m : List AV), AV.closedL (l ++ m) = (AV.closedL l && AV.closedL m)
  | [], m => by simp [AV.closedL]
  | c :: l, m => by simp [AV.closedL, AV.closedL_append l m, Bool.and_assoc]

theorem flat_closed : ∀ (k : Kind) (x : k.T), AV.closedL (k.flat x) = true
  | .bool, _ => rfl
  | .int _, _ => rfl
  | .str, _ => rfl
  | .dyn _, _ => rfl
  | .unit, _ => rfl
  | .slice _, _ => rfl
  | .pair a b, x => by unfold Kind.flat; rw [AV.closedL_append, flat_closed a, flat_closed b]; rfl
  | .arr n e, xs => by
    unfold Kind.flat
    generalize List.range n = l
    induction l with
    | nil => rfl
    | cons i l ih => rw [List.flatMap_cons, AV.closedL_append, flat_closed e, ih]; rfl
  | .rx, _ => rfl
  | .fnk, none => rfl
  | .fnk, some _ => rfl

theorem flat_names {p : Nat → Prop} (k : Kind) (x : k.T) : AV.namesL p (k.flat x) := AV.namesL_closed _ (flat_closed k x)

theorem AV.namesL_append {p : Nat → Prop} : ∀ (l m : List AV), AV.namesL p (l ++ m) ↔ AV.namesL p l ∧ AV.namesL p m
  | [], m => by simp [AV.namesL]
  | c :: l, m => by simp [AV.namesL, AV.namesL_append l m, and_assoc]

theorem AV.namesL_mem {p : Nat → Prop} {c : AV} : ∀ {l : List AV}, AV.namesL p l → c ∈ l → c.names p
  | [], _, h => by cases h
  | d :: l, hn, h => by
    unfold AV.namesL at hn
    cases h with
    | head => exact hn.1
    | tail _ h => exact AV.namesL_mem hn.2 h

theorem AV.namesL_of {p : Nat → Prop} : ∀ {l : List AV}, (∀ c ∈ l, c.names p) → AV.namesL p l
  | [], _ => by unfold AV.namesL; trivial
  | d :: l, h => by unfold AV.namesL; exact ⟨h d (List.mem_cons_self ..), AV.namesL_of fun c hc => h c (List.mem_cons_of_mem _ hc)⟩

theorem AV.leaves_names {p : Nat → Prop} {c : AV} {cs : List AV} (h : c.names p) (he : c.leaves = some cs) : AV.namesL p cs := by
  cases c <;> simp only [AV.leaves, Option.some.injEq, reduceCtorEq] at he
  case agg => subst he; unfold AV.names at h; exact h
  all_goals
    subst he
    exact AV.namesL_of fun c hc => by simp at hc; subst hc; exact h

end Go.AM

/- Steps of the heap: one name changes. -/
namespace Go.AM
open Go

theorem live_iff {c : Cell} : cellLive c ↔ c ≠ .free ∧ c ≠ .dead := by
  unfold cellLive
  cases c <;> simp [Cell.live]

theorem Ext.nonfree {p : Nat → Prop} {S T : Sit} (E : Ext p S T) {n : Nat} (hp : p n) (h : S.hp n ≠ .free) : T.hp n ≠ .free := by
  rcases E.f n hp h with e | ⟨_, e⟩
  · rw [e]; simp
  · intro hc
    rw [hc] at e
    cases hs : S.hp n <;> rw [hs] at e <;> exact e.elim

theorem EntriesAt.ext {p : Nat → Prop} {S T : Sit} (E : Ext p S T) {k v : Kind} : ∀ {es : List (k.T × v.T)} {l : List MapEntry}, EntriesAt S.w S.I k v es l → EntriesAt T.w T.I k v es l
  | [], _, h => h
  | p :: r, l, h => by
    obtain ⟨m, s, rfl, g1, g2, g3⟩ := h
    refine ⟨m, s, rfl, ?_, ?_, g3.ext E⟩
    · unfold VK at g1 ⊢
      split
      · rename_i hk; rw [if_pos hk] at g1; obtain ⟨vs, a1, a2⟩ := g1; exact ⟨vs, a1, RelK.ext E a2⟩
      · rename_i hk; rw [if_neg hk] at g1; exact RelK.ext E g1
    · unfold VK at g2 ⊢
      split
      · rename_i hk; rw [if_pos hk] at g2; obtain ⟨vs, a1, a2⟩ := g2; exact ⟨vs, a1, RelK.ext E a2⟩
      · rename_i hk; rw [if_neg hk] at g2; exact RelK.ext E g2

/-- the blocks of an object are its own -/
theorem ObjAt.blk {S : Sit} {n : Nat} {c : Cell} (h : ObjAt S n c) (hl : cellLive c) {b : Nat} (hb : hasBlk (S.ρ n) b) : b < S.w.heap.size ∧ ¬ S.I b ∧ ¬ S.B b := by
  cases c with
  | free => simp [cellLive, Cell.live] at hl
  | dead => simp [cellLive, Cell.live] at hl
  | box cs =>
    obtain ⟨b', d, e, h1, h2, h3, h4, _⟩ := h
    rw [show S.ρ n = _ from h1] at hb
    replace hb : some b' = some b := hb
    cases hb
    exact ⟨(Array.getElem?_eq_some_iff.1 h2).1, h3, h4⟩
  | row e xs =>
    rcases h with ⟨h1, _⟩ | ⟨b', cap, d, el, h1, h2, h3, h4, _⟩
    · rw [h1] at hb; replace hb : none = some b := hb; cases hb
    · rw [show S.ρ n = _ from h1] at hb
      replace hb : some b' = some b := hb
      cases hb
      exact ⟨(Array.getElem?_eq_some_iff.1 h2).1, h3, h4⟩
  | map k v es =>
    obtain ⟨r, ms, cl, h1, h2, h3, h4, _⟩ := h
    rw [h1] at hb
    replace hb : some r = some b := hb
    cases hb
    exact ⟨(Array.getElem?_eq_some_iff.1 h2).1, h3, h4⟩
  | mrow k v ess =>
    obtain ⟨b', cap, d, el, ms, h1, h2, h3, hB, h4, h5, h6, h7, h8, h9, h10⟩ := h
    rw [h1] at hb
    obtain ⟨u, hu, hb⟩ := hb
    rcases List.mem_cons.1 hu with rfl | hu
    · replace hb : some b' = some b := hb
      cases hb
      exact ⟨(Array.getElem?_eq_some_iff.1 h2).1, h3, hB⟩
    · obtain ⟨i, hi, e⟩ := List.mem_iff_getElem.1 hu
      obtain ⟨m, g1, r, ents, cl, g2, g3, g4, g5, g6⟩ := h10 i _ (List.getElem?_eq_getElem (by omega))
      rw [List.getElem?_eq_getElem hi, Option.some.injEq, e] at g1
      subst g1
      rw [g2] at hb
      replace hb : some r = some b := hb
      cases hb
      exact ⟨(Array.getElem?_eq_some_iff.1 g3).1, g4, g5⟩

theorem ObjAt.later {S T : Sit} (E : Ext (fun _ => True) S T) {n : Nat} {c : Cell} (h : ObjAt S n c) (hn : ∀ cs, c = .box cs → AV.namesL (fun m => S.hp m ≠ .free) cs)
    (hρ : T.ρ n = S.ρ n) (hb : ∀ b, hasBlk (S.ρ n) b → T.w.heap[b]? = S.w.heap[b]? ∧ (T.I b → S.I b)) : ObjAt T n c := by
  cases c with
  | free => trivial
  | dead => trivial
  | box cs =>
    obtain ⟨b, d, e, h1, h2, h3, hB, h4, h5⟩ := h
    have hbb := hb b (by rw [show S.ρ n = _ from h1]; exact rfl)
    refine ⟨b, d, e, by unfold blockAt; rw [hρ]; exact h1, hbb.1.trans h2, fun hI => h3 (hbb.2 hI), by rw [E.b]; exact hB, ?_⟩
    exact ⟨VRelL.ext E cs (AV.namesL_imp (fun m hm => ⟨trivial, hm⟩) cs (hn cs rfl)) h4, h5⟩
  | row e xs =>
    rcases h with ⟨h1, h2⟩ | ⟨b, cap, d, el, h1, h2, h3, hB, h4, h5, h6, h7⟩
    · exact .inl ⟨hρ.trans h1, h2⟩
    · have hbb := hb b (by rw [show S.ρ n = _ from h1]; exact rfl)
      refine .inr ⟨b, cap, d, el, by unfold rowAtV; rw [hρ]; exact h1, hbb.1.trans h2, fun hI => h3 (hbb.2 hI), by rw [E.b]; exact hB, h4, h5, h6, fun i hi => ?_⟩
      obtain ⟨us, g1, g2⟩ := h7 i hi
      exact ⟨us, RelK.ext E g1, g2⟩
  | map k v es =>
    obtain ⟨r, ms, cl, h1, h2, h3, hB, h4⟩ := h
    have hbb := hb r (by rw [h1]; exact rfl)
    exact ⟨r, ms, cl, hρ.trans h1, hbb.1.trans h2, fun hI => h3 (hbb.2 hI), by rw [E.b]; exact hB, h4.1.ext E, h4.2⟩
  | mrow k v ess =>
    obtain ⟨b, cap, d, el, ms, h1, h2, h3, hB, h4, h5, h6, h7, h8, h9, h10⟩ := h
    have hbb := hb b (by rw [h1]; exact ⟨_, List.mem_cons_self .., rfl⟩)
    refine ⟨b, cap, d, el, ms, hρ.trans h1, hbb.1.trans h2, fun hI => h3 (hbb.2 hI), by rw [E.b]; exact hB, h4, h5, h6, h7, h8, h9, fun i es hi => ?_⟩
    obtain ⟨m, g1, r, ents, cl, g2, g3, g4, g5, g6⟩ := h10 i es hi
    have hbr := hb r (by rw [h1]; exact ⟨m, List.mem_cons_of_mem _ (List.mem_of_getElem? g1), by rw [g2]; rfl⟩)
    exact ⟨m, g1, r, ents, cl, g2, hbr.1.trans g3, fun hI => g4 (hbr.2 hI), by rw [E.b]; exact g5, g6.1.ext E, g6.2⟩

theorem HRel.step {S T : Sit} (H : HRel S) (N : Nat) (E : Ext (fun _ => True) S T)
    (hhp : ∀ m, m ≠ N → T.hp m = S.hp m) (hρ : ∀ m, m ≠ N → T.ρ m = S.ρ m)
    (hw : ∀ m, m ≠ N → cellLive (S.hp m) → ∀ b, hasBlk (S.ρ m) b → T.w.heap[b]? = S.w.heap[b]? ∧ (T.I b → S.I b))
    (hob : ObjAt T N (T.hp N))
    (hds : ∀ m b, m ≠ N → cellLive (S.hp m) → cellLive (T.hp N) → hasBlk (T.ρ N) b → ¬ hasBlk (S.ρ m) b)
    (hil : ∀ b, T.I b → b < T.w.heap.size)
    (hnb : ∀ cs, T.hp N = .box cs → AV.namesL (fun m => T.hp m ≠ .free) cs) : HRel T where
  ob := fun n => by
    by_cases hn : n = N
    · subst hn; exact hob
    · rw [hhp n hn]
      by_cases hl : cellLive (S.hp n)
      · exact (H.ob n).later E (fun cs hcs => H.nb n cs hcs) (hρ n hn) (hw n hn hl)
      · have : S.hp n = .free ∨ S.hp n = .dead := by
          cases hc : S.hp n <;> rw [hc] at hl <;> simp [cellLive, Cell.live] at hl <;> simp
        rcases this with e | e <;> rw [e] <;> trivial
  ds := fun n m b hnm hn hm hb => by
    by_cases h1 : n = N
    · subst h1
      have hm' : m ≠ n := fun e => hnm e.symm
      rw [hhp m hm'] at hm
      rw [hρ m hm']
      exact hds m b hm' hm hn hb
    · rw [hhp n h1] at hn
      rw [hρ n h1] at hb
      by_cases h2 : m = N
      · subst h2
        intro hc
        exact hds n b h1 hn hm hc hb
      · rw [hhp m h2] at hm
        rw [hρ m h2]
        exact H.ds n m b hnm hn hm hb
  il := hil
  bl := fun b hb => by rw [E.b] at hb; exact Nat.lt_of_lt_of_le (H.bl b hb) E.s
  nb := fun n cs hcs => by
    by_cases hn : n = N
    · subst hn; exact hnb cs hcs
    · rw [hhp n hn] at hcs
      exact AV.namesL_imp (fun m hm => E.nonfree trivial hm) cs (H.nb n cs hcs)

/-- the world has changed at immutable or foreign blocks only (draws, new blocks) -/
theorem HRel.world {S T : Sit} (H : HRel S) (E : Ext (fun _ => True) S T) (hhp : T.hp = S.hp) (hρ : T.ρ = S.ρ)
    (hw : ∀ b, b < S.w.heap.size → T.w.heap[b]? = S.w.heap[b]?) (hI : ∀ b, b < S.w.heap.size → T.I b → S.I b) (hil : ∀ b, T.I b → b < T.w.heap.size) : HRel T where
  ob := fun n => by
    rw [hhp]
    by_cases hl : cellLive (S.hp n)
    · refine (H.ob n).later E (fun cs hcs => H.nb n cs hcs) (by rw [hρ]) fun b hb => ?_
      have hlt : b < S.w.heap.size := ((H.ob n).blk hl hb).1
      exact ⟨hw b hlt, hI b hlt⟩
    · have : S.hp n = .free ∨ S.hp n = .dead := by
        cases hc : S.hp n <;> rw [hc] at hl <;> simp [cellLive, Cell.live] at hl <;> simp
      rcases this with e | e <;> rw [e] <;> trivial
  ds := by rw [hhp, hρ]; exact H.ds
  il := hil
  bl := fun b hb => by rw [E.b] at hb; exact Nat.lt_of_lt_of_le (H.bl b hb) E.s
  nb := fun n cs hcs => by rw [hhp] at hcs ⊢; exact H.nb n cs hcs

theorem HRel.lt {S : Sit} (H : HRel S) {n b : Nat} (hl : cellLive (S.hp n)) (hb : hasBlk (S.ρ n) b) : b < S.w.heap.size := ((H.ob n).blk hl hb).1
theorem HRel.notI {S : Sit} (H : HRel S) {n b : Nat} (hl : cellLive (S.hp n)) (hb : hasBlk (S.ρ n) b) : ¬ S.I b := ((H.ob n).blk hl hb).2.1
theorem HRel.geB {S : Sit} (H : HRel S) {n b : Nat} (hl : cellLive (S.hp n)) (hb : hasBlk (S.ρ n) b) : ¬ S.B b := ((H.ob n).blk hl hb).2.2

theorem tuple_inj {u u' : Value} {ms ms' : List Value} (e : Value.tuple (u :: ms).toArray = Value.tuple (u' :: ms').toArray) : u = u' ∧ ms = ms' := by
  injection e with e
  have := congrArg Array.toList e
  exact List.cons.inj this
theorem slice_inj {b b' l l' c c' : Nat} (e : Value.slice (some ⟨b, 0, none⟩) l c = Value.slice (some ⟨b', 0, none⟩) l' c') : b = b' ∧ l = l' ∧ c = c' := by
  injection e with e1 e2 e3
  injection e1 with e1
  injection e1 with e1
  exact ⟨e1, e2, e3⟩

theorem HRel.newB {S : Sit} (H : HRel S) : ¬ S.B S.w.heap.size := fun hb => Nat.lt_irrefl _ (H.bl _ hb)

theorem upd_same {α : Type} (f : Nat → α) (n : Nat) (x : α) : upd f n x n = x := by simp [upd]
theorem upd_other {α : Type} {f : Nat → α} {n m : Nat} {x : α} (h : m ≠ n) : upd f n x m = f m := by simp [upd, h]

theorem sameShape_refl {c : Cell} (h : cellLive c) : sameShape c c := by
  cases c <;> simp [cellLive, Cell.live] at h <;> simp [sameShape]

theorem Ext.refl {p : Nat → Prop} (S : Sit) : Ext p S S where
  i := fun _ h => ⟨h, rfl⟩
  s := Nat.le_refl _
  b := rfl
  o := fun _ _ => rfl
  f := fun n _ h => by
    by_cases hl : cellLive (S.hp n)
    · exact .inr ⟨rfl, sameShape_refl hl⟩
    · left
      cases hc : S.hp n <;> rw [hc] at hl h <;> simp [cellLive, Cell.live] at hl h ⊢
  g := fun _ _ h => h
  j := fun _ h _ => h
  q := ⟨rfl, rfl⟩

theorem sameShape_trans {a b c : Cell} (h : sameShape a b) (h' : sameShape b c) : sameShape a c := by
  cases a <;> cases b <;> simp only [sameShape] at h <;> cases c <;> simp only [sameShape] at h' ⊢
  · exact h'.trans h
  · exact ⟨h'.1.trans h.1, h'.2.trans h.2⟩
  · exact ⟨h'.1.trans h.1, h'.2.trans h.2⟩
  · exact ⟨h'.1.trans h.1, h'.2.1.trans h.2.1, h'.2.2.trans h.2.2⟩

theorem Ext.trans {p : Nat → Prop} {S T U : Sit} (h : Ext p S T) (h' : Ext p T U) : Ext p S U where
  i := fun b hb => ⟨(h'.i b (h.i b hb).1).1, (h'.i b (h.i b hb).1).2.trans (h.i b hb).2⟩
  s := Nat.le_trans h.s h'.s
  b := h'.b.trans h.b
  o := fun b hb => (h'.o b (by rw [h.b]; exact hb)).trans (h.o b hb)
  f := fun n hp hn => by
    rcases h.f n hp hn with e | ⟨e1, e2⟩
    · exact .inl (h'.g n hp e)
    · rcases h'.f n hp (h.nonfree hp hn) with e | ⟨e3, e4⟩
      · exact .inl e
      · exact .inr ⟨e3.trans e1, sameShape_trans e2 e4⟩
  g := fun n hp hn => h'.g n hp (h.g n hp hn)
  j := fun b hb hlt => h.j b (h'.j b hb (by rw [h.b]; exact hlt)) hlt
  q := ⟨h'.q.1.trans h.q.1, h'.q.2.trans h.q.2⟩

theorem Ext.weaken {p q : Nat → Prop} {S T : Sit} (h : Ext p S T) (hq : ∀ n, q n → p n) : Ext q S T :=
  ⟨h.i, h.s, h.b, h.o, fun n hn => h.f n (hq n hn), fun n hn => h.g n (hq n hn), h.j, h.q⟩

theorem FRel.ext {S T : Sit} {fr : Nat → AV} {a : Act} (E : Ext (fun _ => True) S T) (h : FRel S fr a) : FRel T fr a where
  v := fun i => VRel.ext E _ (AV.names_imp (fun _ hn => ⟨trivial, hn⟩) _ (h.n i)) (h.v i)
  n := fun i => AV.names_imp (fun _ hn => E.nonfree trivial hn) _ (h.n i)
  d := h.d

/-- one name's block is written: the rest stands -/
theorem HRel.write {S : Sit} (H : HRel S) {n : Nat} (hl : cellLive (S.hp n)) (c : Cell) (w' : World) (hs : sameShape (S.hp n) c)
    (hw : ∀ b, ¬ hasBlk (S.ρ n) b → w'.heap[b]? = S.w.heap[b]?) (hsz : w'.heap.size = S.w.heap.size)
    (hob : Ext (fun _ => True) S { S with w := w', hp := upd S.hp n c } → ObjAt { S with w := w', hp := upd S.hp n c } n c)
    (hnb : ∀ cs, c = .box cs → AV.namesL (fun m => S.hp m ≠ .free) cs) (hq : SameOut S.w w' := by first | exact ⟨rfl, rfl⟩ | (simp only [SameOut, *]; first | done | exact ⟨rfl, rfl⟩ | exact ⟨trivial, trivial⟩)) :
    HRel { S with w := w', hp := upd S.hp n c } ∧ Ext (fun _ => True) S { S with w := w', hp := upd S.hp n c } := by
  have hc : cellLive c := by
    cases hcc : S.hp n <;> rw [hcc] at hs <;> cases c <;> first | exact hs.elim | rfl
  have E : Ext (fun _ => True) S { S with w := w', hp := upd S.hp n c } := by
    refine ⟨fun b hb => ⟨hb, hw b fun e => H.notI hl e hb⟩, Nat.le_of_eq hsz.symm, rfl, fun b hb => hw b fun e => ?_, fun m _ hm => ?_, fun m _ hm => ?_, fun _ h _ => h, hq⟩
    · exact H.geB hl e hb
    · by_cases e : m = n
      · subst e; right; exact ⟨rfl, by simp only [upd_same]; exact hs⟩
      · simp only [upd_other e]
        by_cases hlm : cellLive (S.hp m)
        · exact .inr ⟨trivial, sameShape_refl hlm⟩
        · left
          cases hcm : S.hp m <;> rw [hcm] at hlm hm <;> simp [cellLive, Cell.live] at hlm hm ⊢
    · have e : m ≠ n := fun e => by subst e; rw [hm] at hl; simp [cellLive, Cell.live] at hl
      simp only [upd_other e]; exact hm
  refine ⟨H.step n E (fun m hm => upd_other hm) (fun _ _ => rfl) (fun m hm hlm b hb => ⟨hw b fun e => H.ds n m b (fun e => hm e.symm) hl hlm e hb, id⟩) ?_ ?_ ?_ ?_, E⟩
  · simp only [upd_same]; exact hob E
  · intro m b hm hlm _ hb; exact H.ds n m b (fun e => hm e.symm) hl hlm hb
  · intro b hb; rw [hsz]; exact H.il b hb
  · intro cs hcs
    simp only [upd_same] at hcs
    refine AV.namesL_imp (fun m hm => ?_) cs (hnb cs hcs)
    exact E.nonfree trivial hm

theorem getElem?_push_lt {α : Type} {xs : Array α} {x : α} {b : Nat} (h : b < xs.size) : (xs.push x)[b]? = xs[b]? := by
  simp [Array.getElem?_push, Nat.ne_of_lt h]

/-- a new block under a free name -/
theorem HRel.alloc {S : Sit} (H : HRel S) {n : Nat} (hf : S.hp n = .free) (c : Cell) (v : Value) (w' : World) (x : Obj) (hw : w'.heap = S.w.heap.push x)
    (hb : blockOf v = some S.w.heap.size) (hnb : ∀ cs, c = .box cs → AV.namesL (fun m => S.hp m ≠ .free) cs)
    (hob : Ext (fun _ => True) S { S with w := w', ρ := upd S.ρ n v, hp := upd S.hp n c } → ObjAt { S with w := w', ρ := upd S.ρ n v, hp := upd S.hp n c } n c) (hq : SameOut S.w w' := by first | exact ⟨rfl, rfl⟩ | (simp only [SameOut, *]; first | done | exact ⟨rfl, rfl⟩ | exact ⟨trivial, trivial⟩))
    (hnt : ∀ b, hasBlk v b → blockOf v = some b := by exact fun _ h => h) :
    HRel { S with w := w', ρ := upd S.ρ n v, hp := upd S.hp n c } ∧ Ext (fun _ => True) S { S with w := w', ρ := upd S.ρ n v, hp := upd S.hp n c } := by
  have E : Ext (fun _ => True) S { S with w := w', ρ := upd S.ρ n v, hp := upd S.hp n c } := by
    refine ⟨fun b hb => ⟨hb, ?_⟩, by simp [hw], rfl, fun b hb => ?_, fun m _ hm => ?_, fun m _ hm => ?_, fun _ h _ => h, hq⟩
    · rw [hw]; exact getElem?_push_lt (H.il b hb)
    · rw [hw]; exact getElem?_push_lt (H.bl b hb)
    · have e : m ≠ n := fun e => hm (e ▸ hf)
      simp only [upd_other e]
      by_cases hlm : cellLive (S.hp m)
      · exact .inr ⟨trivial, sameShape_refl hlm⟩
      · left
        cases hcm : S.hp m <;> rw [hcm] at hlm hm <;> simp [cellLive, Cell.live] at hlm hm ⊢
    · have e : m ≠ n := fun e => by rw [e, hf] at hm; cases hm
      simp only [upd_other e]; exact hm
  refine ⟨H.step n E (fun m hm => upd_other hm) (fun m hm => upd_other hm) (fun m hm hlm b hb => ⟨?_, id⟩) ?_ ?_ ?_ ?_, E⟩
  · simp only [hw]; exact getElem?_push_lt (H.lt hlm hb)
  · simp only [upd_same]; exact hob E
  · intro m b hm hlm _ hb' hc
    simp only [upd_same] at hb'
    replace hb' := hnt b hb'
    rw [hb] at hb'
    cases hb'
    exact Nat.lt_irrefl _ (H.lt hlm hc)
  · intro b hb; have := H.il b hb; simp [hw]; omega
  · intro cs hcs
    simp only [upd_same] at hcs
    exact AV.namesL_imp (fun m hm => E.nonfree trivial hm) cs (hnb cs hcs)

/-- a name is used up; its block may become immutable -/
theorem HRel.bury {S : Sit} (H : HRel S) {n : Nat} (hl : cellLive (S.hp n)) (J : Nat → Prop) (hJ : ∀ b, J b → hasBlk (S.ρ n) b) :
    HRel { S with I := fun b => S.I b ∨ J b, hp := upd S.hp n .dead } ∧ Ext (fun _ => True) S { S with I := fun b => S.I b ∨ J b, hp := upd S.hp n .dead } := by
  have E : Ext (fun _ => True) S { S with I := fun b => S.I b ∨ J b, hp := upd S.hp n .dead } := by
    refine ⟨fun b hb => ⟨.inl hb, rfl⟩, Nat.le_refl _, rfl, fun b hb => rfl, fun m _ hm => ?_, fun m _ hm => ?_, fun b hb hlt => hb.elim id fun hj => absurd hlt (H.geB hl (hJ b hj)), ⟨rfl, rfl⟩⟩
    · by_cases e : m = n
      · subst e; left; simp only [upd_same]
      · simp only [upd_other e]
        by_cases hlm : cellLive (S.hp m)
        · exact .inr ⟨trivial, sameShape_refl hlm⟩
        · left
          cases hcm : S.hp m <;> rw [hcm] at hlm hm <;> simp [cellLive, Cell.live] at hlm hm ⊢
    · by_cases e : m = n
      · subst e; simp only [upd_same]
      · simp only [upd_other e]; exact hm
  refine ⟨H.step n E (fun m hm => upd_other hm) (fun _ _ => rfl) (fun m hm hlm b hb => ⟨rfl, fun h => h.elim id fun hj => ?_⟩) ?_ ?_ ?_ ?_, E⟩
  · exact absurd hb (H.ds n m b (fun e => hm e.symm) hl hlm (hJ b hj))
  · simp only [upd_same]; trivial
  · intro m b _ _ hd; simp only [upd_same] at hd; simp [cellLive, Cell.live] at hd
  · intro b hb
    rcases hb with hb | hb
    · exact H.il b hb
    · exact H.lt hl (hJ b hb)
  · intro cs hcs; simp only [upd_same] at hcs; cases hcs

/-- a free name takes a block that nobody owns -/
theorem HRel.fresh {S : Sit} (H : HRel S) {n : Nat} (hf : S.hp n = .free) (c : Cell) (v : Value) (w' : World) (hsz : S.w.heap.size ≤ w'.heap.size)
    (hw : ∀ b, b < S.w.heap.size → ¬ hasBlk v b → w'.heap[b]? = S.w.heap[b]?)
    (hv : ∀ b, hasBlk v b → ¬ S.I b ∧ ¬ S.B b ∧ ∀ m, cellLive (S.hp m) → ¬ hasBlk (S.ρ m) b)
    (hnb : ∀ cs, c = .box cs → AV.namesL (fun m => S.hp m ≠ .free) cs)
    (hob : Ext (fun _ => True) S { S with w := w', ρ := upd S.ρ n v, hp := upd S.hp n c } → ObjAt { S with w := w', ρ := upd S.ρ n v, hp := upd S.hp n c } n c) (hq : SameOut S.w w' := by first | exact ⟨rfl, rfl⟩ | (simp only [SameOut, *]; first | done | exact ⟨rfl, rfl⟩ | exact ⟨trivial, trivial⟩)) :
    HRel { S with w := w', ρ := upd S.ρ n v, hp := upd S.hp n c } ∧ Ext (fun _ => True) S { S with w := w', ρ := upd S.ρ n v, hp := upd S.hp n c } := by
  have E : Ext (fun _ => True) S { S with w := w', ρ := upd S.ρ n v, hp := upd S.hp n c } := by
    refine ⟨fun b hb => ⟨hb, hw b (H.il b hb) fun e => (hv b e).1 hb⟩, hsz, rfl, fun b hb => hw b (H.bl b hb) fun e => ?_, fun m _ hm => ?_, fun m _ hm => ?_, fun _ h _ => h, hq⟩
    · exact (hv b e).2.1 hb
    · have e : m ≠ n := fun e => hm (e ▸ hf)
      simp only [upd_other e]
      by_cases hlm : cellLive (S.hp m)
      · exact .inr ⟨trivial, sameShape_refl hlm⟩
      · left
        cases hcm : S.hp m <;> rw [hcm] at hlm hm <;> simp [cellLive, Cell.live] at hlm hm ⊢
    · have e : m ≠ n := fun e => by rw [e, hf] at hm; cases hm
      simp only [upd_other e]; exact hm
  refine ⟨H.step n E (fun m hm => upd_other hm) (fun m hm => upd_other hm) (fun m hm hlm b hb => ⟨?_, id⟩) ?_ ?_ ?_ ?_, E⟩
  · exact hw b (H.lt hlm hb) fun e => (hv b e).2.2 m hlm hb
  · simp only [upd_same]; exact hob E
  · intro m b hm hlm _ hb'
    simp only [upd_same] at hb'
    exact (hv b hb').2.2 m hlm
  · intro b hb; exact Nat.lt_of_lt_of_le (H.il b hb) hsz
  · intro cs hcs
    simp only [upd_same] at hcs
    exact AV.namesL_imp (fun m hm => E.nonfree trivial hm) cs (hnb cs hcs)

end Go.AM

/- The types: what the kinds say of the program's table; loads and stores of whole variables. -/
namespace Go.AM
open Go

def isZero : AV → Value → Bool
  | .bool a, .bool b => a == b
  | .int k n, .int k' m => decide (k = k') && decide (n = m)
  | .str s, .string t => decide (t.data.toList = s)
  | .nilsl, .slice none 0 0 => true
  | .nilp, .pointer none => true
  | .nilmap, .map none => true
  | .nilfn, .nilFunc => true
  | .nilif, .nilIface => true
  | _, _ => false

def areZero : List AV → List Value → Bool
  | [], [] => true
  | a :: r, v :: s => isZero a v && areZero r s
  | _, _ => false

def aggV : Value → Bool
  | .agg _ => true
  | _ => false

def infoOk (P : Program) (k : Kind) (t : TypeId) : Bool :=
  match P.info? t with
  | some i => i.size == k.size && decide (i.bytes ≤ 128) && (match i.zero with | some z => areZero k.zero z.cells.toList && aggV z == k.isAgg | none => false)
  | none => false

mutual
def kOk (P : Program) : Kind → TypeId → Bool
  | .bool, t => infoOk P .bool t && (match P.underlying t with | some .bool => true | _ => false)
  | .int k, t => infoOk P (.int k) t && (match P.underlying t with | some (.int k') => decide (k = k') | _ => false)
  | .str, t => infoOk P .str t && (match P.underlying t with | some .string => true | _ => false)
  | .dyn d, t => infoOk P (.dyn d) t && (match P.underlying t with | some (.pointer _) => d == 0 | some (.map _ _) => d == 1 | some (.func _ _ _) => d == 2 | some (.interface _) => d == 3 | _ => false)
  | .slice e, t => infoOk P (.slice e) t && (match P.underlying t with | some (.slice E) => kOk P e E | _ => false)
  | .unit, t => infoOk P .unit t && !P.stoodInHeld t && (match P.underlying t with | some (.struct fs) => fs.toList.isEmpty | _ => false)
  | .pair a b, t => infoOk P (.pair a b) t && (!(Kind.pair a b).eqOk || !P.stoodInHeld t) && (match P.underlying t with
    | some (.struct fs) => (match fs.toList with
      | f :: r => f.offset == 0 && f.name != "_" && kOk P a f.type && fieldsOk P b r a.size
      | [] => false)
    | _ => false)
  | .arr n e, t => infoOk P (.arr n e) t && (match P.underlying t with | some (.array m E) => m == n && kOk P e E | _ => false)
  | .rx, t => infoOk P .rx t && (match P.underlying t with
    | some (.struct fs) => (match fs.toList with
      | [f, g, h] => f.offset == 0 && g.offset == 1 && h.offset == 5 && infoOk P (.int .i64) f.type && infoOk P (.arr 4 (.int .u64)) g.type && infoOk P (.slice .rx) h.type &&
          (match P.underlying f.type with | some (.int .i64) => true | _ => false) && (match P.underlying g.type with | some (.array _ _) => true | _ => false) &&
          (match P.underlying h.type with | some (.slice _) => true | _ => false)
      | _ => false)
    | _ => false)
  | .fnk, t => infoOk P .fnk t && (match P.underlying t with | some (.func _ _ _) => true | _ => false)
def fieldsOk (P : Program) : Kind → List Field → Nat → Bool
  | .unit, [], _ => true
  | .pair a b, f :: r, off => f.offset == off && f.name != "_" && kOk P a f.type && fieldsOk P b r (off + a.size)
  | _, _, _ => false
end

def TEnv.ok (Γ : TEnv) (P : Program) : Bool :=
  Γ.kinds.all (fun p => kOk P p.2 p.1 && decide (p.2.deep ≤ 50)) && decide (50 ≤ P.depth) &&
  Γ.maps.all (fun p => match P.underlying p.1 with | some (.map K V) => kOk P p.2.1 K && kOk P p.2.2 V && decide (p.2.1.deep ≤ 50) | _ => false)

/-- what is needed of one type: its row, and whether it is a struct or an array -/
structure TyIs (P : Program) (k : Kind) (t : TypeId) where
  i : TypeInfo
  z : Value
  hi : P.info? t = some i
  hz : i.zero = some z
  size : i.size = k.size
  bytes : i.bytes ≤ 128
  zero : areZero k.zero z.cells.toList = true
  zagg : aggV z = k.isAgg
  agg : ∀ w, (isAgg t).run P w = .ok k.isAgg w

theorem infoOk_get {P : Program} {k : Kind} {t : TypeId} (h : infoOk P k t = true) :
    ∃ i z, P.info? t = some i ∧ i.zero = some z ∧ i.size = k.size ∧ i.bytes ≤ 128 ∧ areZero k.zero z.cells.toList = true ∧ aggV z = k.isAgg := by
  unfold infoOk at h
  cases hi : P.info? t with
  | none => rw [hi] at h; simp at h
  | some i =>
    rw [hi] at h
    simp only [Bool.and_eq_true, beq_iff_eq, decide_eq_true_eq] at h
    cases hz : i.zero with
    | none => rw [hz] at h; simp at h
    | some z =>
      rw [hz] at h
      simp only [Bool.and_eq_true, beq_iff_eq] at h
      exact ⟨i, z, rfl, hz, h.1.1, h.1.2, h.2.1, h.2.2⟩

theorem run_isAgg {P : Program} {t : TypeId} {d : TypeDesc} (h : P.underlying t = some d) (w : World) :
    (isAgg t).run P w = .ok (match d with | .struct _ | .array _ _ => true | _ => false) w := by
  simp only [isAgg, Sem.run_bind, run_underlying h, Result.andThen_ok]
  cases d <;> rfl

theorem TyIs.mk' {P : Program} {k : Kind} {t : TypeId} (h : infoOk P k t = true) {d : TypeDesc} (hd : P.underlying t = some d)
    (ha : (match d with | .struct _ | .array _ _ => true | _ => false) = k.isAgg) : Nonempty (TyIs P k t) := by
  obtain ⟨i, z, h1, h2, h3, h4, h5, h6⟩ := infoOk_get h
  exact ⟨⟨i, z, h1, h2, h3, h4, h5, h6, fun w => by rw [run_isAgg hd, ha]⟩⟩

theorem kOk_ty {P : Program} : ∀ {k : Kind} {t : TypeId}, kOk P k t = true → Nonempty (TyIs P k t)
  | .bool, t, h => by
    unfold kOk at h
    simp only [Bool.and_eq_true] at h
    split at h
    · exact TyIs.mk' h.1 ‹_› rfl
    · simp at h
  | .int k, t, h => by
    unfold kOk at h
    simp only [Bool.and_eq_true] at h
    split at h
    · exact TyIs.mk' h.1 ‹_› rfl
    · simp at h
  | .str, t, h => by
    unfold kOk at h
    simp only [Bool.and_eq_true] at h
    split at h
    · exact TyIs.mk' h.1 ‹_› rfl
    · simp at h
  | .dyn d, t, h => by
    unfold kOk at h
    simp only [Bool.and_eq_true] at h
    split at h
    · exact TyIs.mk' h.1 ‹_› rfl
    · exact TyIs.mk' h.1 ‹_› rfl
    · exact TyIs.mk' h.1 ‹_› rfl
    · exact TyIs.mk' h.1 ‹_› rfl
    · simp at h
  | .slice e, t, h => by
    unfold kOk at h
    simp only [Bool.and_eq_true] at h
    split at h
    · exact TyIs.mk' h.1 ‹_› rfl
    · simp at h
  | .unit, t, h => by
    unfold kOk at h
    simp only [Bool.and_eq_true] at h
    split at h
    · exact TyIs.mk' h.1.1 ‹_› rfl
    · simp at h
  | .pair a b, t, h => by
    unfold kOk at h
    simp only [Bool.and_eq_true] at h
    split at h
    · exact TyIs.mk' h.1.1 ‹_› rfl
    · simp at h
  | .arr n e, t, h => by
    unfold kOk at h
    simp only [Bool.and_eq_true] at h
    split at h
    · exact TyIs.mk' h.1 ‹_› rfl
    · simp at h
  | .rx, t, h => by
    unfold kOk at h
    simp only [Bool.and_eq_true] at h
    split at h
    · exact TyIs.mk' h.1 ‹_› rfl
    · simp at h
  | .fnk, t, h => by
    unfold kOk at h
    simp only [Bool.and_eq_true] at h
    split at h
    · exact TyIs.mk' h.1 ‹_› rfl
    · simp at h

theorem kOk_slice {P : Program} {e : Kind} {t : TypeId} (h : kOk P (.slice e) t = true) : ∃ E, P.underlying t = some (.slice E) ∧ kOk P e E = true := by
  unfold kOk at h
  simp only [Bool.and_eq_true] at h
  split at h
  · exact ⟨_, ‹_›, h.2⟩
  · simp at h

theorem kOk_arr {P : Program} {n : Nat} {e : Kind} {t : TypeId} (h : kOk P (.arr n e) t = true) : ∃ E, P.underlying t = some (.array n E) ∧ kOk P e E = true := by
  unfold kOk at h
  simp only [Bool.and_eq_true] at h
  split at h
  · simp only [Bool.and_eq_true, beq_iff_eq] at h
    obtain ⟨_, rfl, h⟩ := h
    exact ⟨_, ‹_›, h⟩
  · simp at h

theorem kOk_int {P : Program} {k : IntKind} {t : TypeId} (h : kOk P (.int k) t = true) : P.underlying t = some (.int k) := by
  unfold kOk at h
  simp only [Bool.and_eq_true] at h
  split at h
  · simp only [decide_eq_true_eq] at h
    obtain ⟨_, rfl⟩ := h
    exact ‹_›
  · simp at h

theorem kOk_str {P : Program} {t : TypeId} (h : kOk P .str t = true) : P.underlying t = some .string := by
  unfold kOk at h
  simp only [Bool.and_eq_true] at h
  split at h
  · rename_i hu; exact hu
  · simp at h

theorem kOk_bool {P : Program} {t : TypeId} (h : kOk P .bool t = true) : P.underlying t = some .bool := by
  unfold kOk at h
  simp only [Bool.and_eq_true] at h
  split at h
  · rename_i hu; exact hu
  · simp at h

theorem fieldsOk_at {P : Program} : ∀ {k : Kind} {fs : List Field} {off f : Nat} {o : Nat} {fk : Kind}, fieldsOk P k fs off = true → k.fieldAt f = some (o, fk) →
    ∃ fld, fs[f]? = some fld ∧ fld.offset = off + o ∧ Nonempty (TyIs P fk fld.type) ∧ o + fk.size ≤ k.size
  | .pair a b, fs, off, 0, o, fk, h, he => by
    cases fs with
    | nil => simp [fieldsOk] at h
    | cons f r =>
      simp only [fieldsOk, Bool.and_eq_true, beq_iff_eq] at h
      simp only [Kind.fieldAt, Option.some.injEq, Prod.mk.injEq] at he
      obtain ⟨rfl, rfl⟩ := he
      exact ⟨f, rfl, by rw [h.1.1.1]; rfl, kOk_ty h.1.2, by simp [Kind.size]⟩
  | .pair a b, fs, off, f + 1, o, fk, h, he => by
    cases fs with
    | nil => simp [fieldsOk] at h
    | cons g r =>
      simp only [fieldsOk, Bool.and_eq_true, beq_iff_eq] at h
      simp only [Kind.fieldAt, Option.bind_eq_some_iff] at he
      obtain ⟨⟨o', k'⟩, h1, he⟩ := he
      simp only [Option.some.injEq, Prod.mk.injEq] at he
      obtain ⟨rfl, rfl⟩ := he
      obtain ⟨fld, g1, g2, g3, g4⟩ := fieldsOk_at h.2 h1
      exact ⟨fld, by simpa using g1, by rw [g2]; omega, g3, by simp [Kind.size]; omega⟩
  | .unit, fs, off, f, o, fk, h, he => by simp [Kind.fieldAt] at he
  | .bool, fs, off, f, o, fk, h, he => by simp [Kind.fieldAt] at he
  | .int _, fs, off, f, o, fk, h, he => by simp [Kind.fieldAt] at he
  | .str, fs, off, f, o, fk, h, he => by simp [Kind.fieldAt] at he
  | .dyn _, fs, off, f, o, fk, h, he => by simp [Kind.fieldAt] at he
  | .slice _, fs, off, f, o, fk, h, he => by simp [Kind.fieldAt] at he
  | .arr _ _, fs, off, f, o, fk, h, he => by simp [Kind.fieldAt] at he
  | .rx, fs, off, f, o, fk, h, he => by simp [fieldsOk] at h

theorem kOk_field {P : Program} {k : Kind} {t f o : Nat} {fk : Kind} (h : kOk P k t = true) (he : k.fieldAt f = some (o, fk)) :
    ∃ fs fld, P.underlying t = some (.struct fs) ∧ fs[f]? = some fld ∧ fld.offset = o ∧ Nonempty (TyIs P fk fld.type) ∧ o + fk.size ≤ k.size := by
  cases k with
  | pair a b =>
    unfold kOk at h
    simp only [Bool.and_eq_true] at h
    split at h
    · rename_i fs hu
      have h2 : fieldsOk P (.pair a b) fs.toList 0 = true := by
        unfold fieldsOk
        split at h
        · rename_i f r hl
          rw [hl]
          simp only [Bool.and_eq_true] at h ⊢
          simp only [Nat.zero_add]
          exact h.2
        · simp at h
      obtain ⟨fld, g1, g2, g3, g4⟩ := fieldsOk_at h2 he
      exact ⟨fs, fld, hu, by simpa using g1, by simpa using g2, g3, g4⟩
    · simp at h
  | rx =>
    unfold kOk at h
    simp only [Bool.and_eq_true] at h
    split at h
    · rename_i fs hu
      split at h
      · rename_i f0 f1 f2 hl
        simp only [Bool.and_eq_true, beq_iff_eq] at h
        obtain ⟨_, ⟨⟨⟨⟨⟨⟨⟨o0, o1⟩, o2⟩, i0⟩, i1⟩, i2⟩, u0⟩, u1⟩, u2⟩ := h
        have hget : ∀ n : Nat, fs[n]? = fs.toList[n]? := fun n => by simp
        match f, he with
        | 0, he =>
          simp only [Kind.fieldAt, Option.some.injEq, Prod.mk.injEq] at he
          obtain ⟨rfl, rfl⟩ := he
          split at u0
          · exact ⟨fs, f0, hu, by rw [hget, hl]; rfl, o0, TyIs.mk' i0 ‹_› rfl, by simp [Kind.size]⟩
          · cases u0
        | 1, he =>
          simp only [Kind.fieldAt, Option.some.injEq, Prod.mk.injEq] at he
          obtain ⟨rfl, rfl⟩ := he
          split at u1
          · exact ⟨fs, f1, hu, by rw [hget, hl]; rfl, o1, TyIs.mk' i1 ‹_› rfl, by simp [Kind.size]⟩
          · cases u1
        | 2, he =>
          simp only [Kind.fieldAt, Option.some.injEq, Prod.mk.injEq] at he
          obtain ⟨rfl, rfl⟩ := he
          split at u2
          · exact ⟨fs, f2, hu, by rw [hget, hl]; rfl, o2, TyIs.mk' i2 ‹_› rfl, by simp [Kind.size]⟩
          · cases u2
        | n + 3, he => simp [Kind.fieldAt] at he
      · simp at h
    · simp at h
  | _ => simp [Kind.fieldAt] at he

theorem look_mem {α : Type} : ∀ {l : List (Nat × α)} {n : Nat} {x : α}, look none (l.map fun p => (p.1, some p.2)) n = some x → (n, x) ∈ l
  | [], n, x, h => by simp [look] at h
  | (k, v) :: r, n, x, h => by
    simp only [List.map_cons, look] at h
    split at h
    · rename_i he
      cases h
      subst he
      exact List.mem_cons_self ..
    · exact List.mem_cons_of_mem _ (look_mem h)

theorem TEnv.kind_ok {Γ : TEnv} {P : Program} (h : Γ.ok P = true) {t : Nat} {k : Kind} (hk : Γ.kind t = some k) : kOk P k t = true := by
  unfold TEnv.ok at h
  simp only [Bool.and_eq_true, List.all_eq_true] at h
  exact (h.1.1 (t, k) (look_mem hk)).1

theorem TEnv.kind_deep {Γ : TEnv} {P : Program} (h : Γ.ok P = true) {t : Nat} {k : Kind} (hk : Γ.kind t = some k) : k.deep ≤ 50 ∧ 50 ≤ P.depth := by
  unfold TEnv.ok at h
  simp only [Bool.and_eq_true, List.all_eq_true, decide_eq_true_eq] at h
  exact ⟨(h.1.1 (t, k) (look_mem hk)).2, h.1.2⟩

theorem TEnv.map_ok {Γ : TEnv} {P : Program} (h : Γ.ok P = true) {t : Nat} {k : Kind × Kind} (hk : Γ.map t = some k) :
    ∃ K V, P.underlying t = some (.map K V) ∧ kOk P k.1 K = true ∧ kOk P k.2 V = true ∧ k.1.deep ≤ 50 := by
  unfold TEnv.ok at h
  simp only [Bool.and_eq_true, List.all_eq_true] at h
  have := h.2 (t, k) (look_mem hk)
  simp only at this
  split at this
  · simp only [Bool.and_eq_true, decide_eq_true_eq] at this; exact ⟨_, _, ‹_›, this.1.1, this.1.2, this.2⟩
  · simp at this

theorem areZero_rel {S : Sit} : ∀ {cs : List AV} {vs : List Value}, areZero cs vs = true → VRelL S cs vs ∧ ∀ u ∈ vs, u.oneCell' = true
  | [], [], _ => ⟨.nil, by simp⟩
  | a :: r, v :: s, h => by
    simp only [areZero, Bool.and_eq_true] at h
    obtain ⟨h2, h3⟩ := areZero_rel h.2
    have : VRel S a v ∧ v.oneCell' = true := by
      have h1 := h.1
      unfold isZero at h1
      split at h1
      · simp only [beq_iff_eq] at h1; subst h1; exact ⟨.bool_mk, rfl⟩
      · simp only [Bool.and_eq_true, decide_eq_true_eq] at h1; obtain ⟨rfl, rfl⟩ := h1; exact ⟨.int_mk, rfl⟩
      · rename_i s t
        simp only [decide_eq_true_eq] at h1
        subst h1
        refine ⟨?_, rfl⟩
        unfold VRel strOf
        rfl
      all_goals first | (refine ⟨?_, rfl⟩; unfold VRel; rfl) | (simp at h1; done)
    exact ⟨.cons this.1 h2, fun u hu => by
      cases hu with
      | head => exact this.2
      | tail _ hu => exact h3 u hu⟩
  | [], _ :: _, h => by simp [areZero] at h
  | _ :: _, [], h => by simp [areZero] at h

section
variable {P : Program} {k : Kind} {t : TypeId} (T : TyIs P k t) (w : World)
include T

theorem TyIs.run_size : (sizeOf t).run P w = .ok k.size w := by simp [sizeOf, typeInfo, T.hi, T.size]
theorem TyIs.run_zero : (zeroValue t).run P w = .ok T.z w := by simp [zeroValue, typeInfo, T.hi, T.hz]

theorem TyIs.run_load {b o : Nat} {us : List Value} (h : CellsAt w b o us) (hl : us.length = k.size) (hone : k.isAgg = false → k.size = 1) :
    (loadVar t ⟨b, o, none⟩).run P w = .ok (if k.isAgg = true then .agg us.toArray else us.headD undef) w := by
  unfold loadVar
  simp only [Sem.run_bind, T.agg w, Result.andThen_ok]
  cases ha : k.isAgg with
  | true =>
    have := run_loadCells_list (P := P) w ⟨b, o, none⟩ us (fun j v hv => by rw [Addr.add_lit]; exact h j v hv)
    rw [hl] at this
    simp [T.run_size w, this]
  | false =>
    have h1 := hone ha
    match us, hl.trans h1 with
    | [u], _ =>
      have := h 0 u rfl
      simp at this
      simp [this]

theorem TyIs.run_store {b o : Nat} {v : Value} {c : Array Value} {E : TypeId} (hg : w.heap[b]? = some (.cells c E (0, 0))) (hl : v.cells.toList.length = k.size)
    (hfit : o + k.size ≤ c.size) (h1 : ∀ u ∈ v.cells.toList, u.oneCell' = true) :
    (storeVar t ⟨b, o, none⟩ v).run P w = .ok () (w.setRow b (c.toList.take o ++ v.cells.toList ++ c.toList.drop (o + k.size)).toArray) := by
  unfold storeVar
  have hs : v.cells.size = k.size := by simpa using hl
  have := run_storeCells_at P b o E v.cells.toList 0 c w hg (by simpa [hl] using hfit) h1
  simp only [Nat.add_zero] at this
  simp only [Sem.run_bind, T.run_size w, Result.andThen_ok, hs, ne_eq, not_true, if_false, hl] at this ⊢
  exact this
end

theorem Kind.size_leaf {k : Kind} (h : k.isAgg = false) : k.size = 1 := by
  cases k <;> simp [Kind.isAgg] at h <;> rfl

end Go.AM

/- Each operation: what the abstract machine says of it the model does. First part. -/
namespace Go.AM
open Go

abbrev Top : Nat → Prop := fun _ => True

/-- what follows an operation: every value and situation that the abstract run allows -/
def Post {R : Type} (S : Sit) (K : AV → Hp → Option R) (r : R) (next : Value → World → Prop) : Prop :=
  ∀ (av : AV) (v : Value) (T : Sit), K av T.hp = some r → HRel T → Ext Top S T → VRel T av v → av.names (fun m => T.hp m ≠ .free) → next v T.w

theorem wp_value {P : Program} {o : Oper} {a : Act} {w w' : World} {next : Act → World → Prop} {Q : Exit → Act → World → Prop} {v : Value}
    (h : (execOp a.eval o).run P w = .ok (.value v) w') (hn : next (a.put o.dst v) w') : o.wp P a w next Q := by
  unfold Oper.wp; rw [h]; exact hn

theorem wp_skipped {P : Program} {o : Oper} {a : Act} {w w' : World} {next : Act → World → Prop} {Q : Exit → Act → World → Prop}
    (h : (execOp a.eval o).run P w = .ok .skip w') (hn : next (a.put o.dst undef) w') : o.wp P a w next Q := by
  unfold Oper.wp; rw [h]; exact hn

theorem cval_rel {S : Sit} (v : Value) : VRel S (cval v) v := by
  unfold cval
  split <;> first | (unfold VRel; rfl) | (unfold VRel; trivial)

theorem cval_closed (v : Value) : (cval v).closed = true := by
  unfold cval
  split <;> rfl

theorem ev_rel {S : Sit} {fr : Nat → AV} {a : Act} (F : FRel S fr a) (x : Operand) : VRel S (ev fr x) (a.eval x) := by
  cases x with
  | tmp t => exact F.v t
  | const v => exact cval_rel v
  | func f => unfold VRel ev; exact ⟨[], rfl, .nil⟩
  | global g => exact .undef_mk

theorem ev_names {S : Sit} {fr : Nat → AV} {a : Act} (F : FRel S fr a) (x : Operand) : (ev fr x).names (fun m => S.hp m ≠ .free) := by
  cases x with
  | tmp t => exact F.n t
  | const v => exact AV.names_closed _ (cval_closed v)
  | func f => unfold ev; exact AV.names_closed _ rfl
  | global g => unfold ev; exact AV.names_closed _ rfl

theorem callBind {call : Call} {R : Type} {f : Nat} {args : List AV} {G : AV → Option R} : ((call.fn f args).bind fun p => p.2.bind fun x => G (p.1.can x)) = (call.av f args).bind G := by
  unfold Call.av
  cases call.fn f args with
  | none => rfl
  | some p =>
    obtain ⟨s, o⟩ := p
    cases o <;> rfl

theorem pcallBind {call : Call} {R : Type} {f : Nat} {args : List AV} {cells : List Cell} {G : AV → List Cell → Option R} : ((call.proc f args cells).bind fun p => p.2.bind fun x => G (p.1.1.can x.1) (canCL p.1.2 x.2)) = (call.pv f args cells).bind fun p => G p.1 p.2 := by
  unfold Call.pv
  cases call.proc f args cells with
  | none => rfl
  | some p =>
    obtain ⟨s, o⟩ := p
    cases o <;> rfl

section run
variable {call : Call} {R : Type} {K : AV → Hp → Option R} {h : Hp} {r : R}

theorem run_pure_inv {v : AV} (e : (M.pure v).run call K h = some r) : K v h = some r := e
theorem run_fail_inv (e : M.fail.run call K h = some r) : False := by cases e
theorem run_br_inv {b : Bool} {x y : M} (e : (M.br b x y).run call K h = some r) : (b = true ∧ x.run call K h = some r) ∨ (b = false ∧ y.run call K h = some r) := by
  cases b
  · exact .inr ⟨rfl, e⟩
  · exact .inl ⟨rfl, e⟩
theorem run_brf_inv {b : Bool} {x : M} (e : (M.br b x .fail).run call K h = some r) : b = true ∧ x.run call K h = some r := by
  rcases run_br_inv e with e | ⟨_, e⟩
  · exact e
  · exact (run_fail_inv e).elim
theorem run_rd_inv {n : Nat} {k : Cell → M} (e : (M.rd n k).run call K h = some r) : (k (h n)).run call K h = some r := e
theorem run_wr_inv {n : Nat} {c : Cell} {x : M} (e : (M.wr n c x).run call K h = some r) : x.run call K (upd h n c) = some r := e
theorem run_call_inv {f : Nat} {args : List AV} {k : AV → M} (e : (M.call f args k).run call K h = some r) : ∃ v, call.av f args = some v ∧ (k v).run call K h = some r := by
  replace e : ((call.fn f args).bind fun p => p.2.bind fun x => (k (p.1.can x)).run call K h) = some r := e
  rw [callBind (G := fun v => (k v).run call K h), Option.bind_eq_some_iff] at e
  exact e
theorem run_pcall_inv {f : Nat} {args : List AV} {cells : List Cell} {k : AV → List Cell → M} (e : (M.pcall f args cells k).run call K h = some r) :
    ∃ v cells', call.pv f args cells = some (v, cells') ∧ (k v cells').run call K h = some r := by
  replace e : ((call.proc f args cells).bind fun p => p.2.bind fun x => (k (p.1.1.can x.1) (canCL p.1.2 x.2)).run call K h) = some r := e
  rw [pcallBind (G := fun v cs => (k v cs).run call K h), Option.bind_eq_some_iff] at e
  obtain ⟨⟨v, cs⟩, h1, h2⟩ := e
  exact ⟨v, cs, h1, h2⟩
theorem run_opt_inv {α : Type} {o : Option α} {k : α → M} (e : (M.ofOpt o k).run call K h = some r) : ∃ x, o = some x ∧ (k x).run call K h = some r := by
  cases o with
  | none => cases e
  | some x => exact ⟨x, rfl, e⟩
theorem run_new_inv {n : Nat} {c : Cell} {v : AV} (e : (M.new n c v).run call K h = some r) : h n = .free ∧ K v (upd h n c) = some r := by
  unfold M.new at e
  have e := run_rd_inv e
  cases hn : h n <;> rw [hn] at e
  case free => exact ⟨rfl, e⟩
  all_goals cases e
end run

theorem zero_closed : ∀ (k : Kind), AV.closedL k.zero = true
  | .bool => rfl
  | .int _ => rfl
  | .str => rfl
  | .dyn d => by unfold Kind.zero dynZero; split <;> rfl
  | .unit => rfl
  | .slice _ => rfl
  | .pair a b => by unfold Kind.zero; rw [AV.closedL_append, zero_closed a, zero_closed b]; rfl
  | .arr n e => by
    unfold Kind.zero
    induction n with
    | zero => rfl
    | succ n ih => rw [List.replicate_succ, List.flatten_cons, AV.closedL_append, zero_closed e, ih]; rfl
  | .rx => rfl
  | .fnk => rfl

theorem areZero_append : ∀ {cs ds : List AV} {vs : List Value}, areZero (cs ++ ds) vs = true → ∃ l r, vs = l ++ r ∧ areZero cs l = true ∧ areZero ds r = true
  | [], _, vs, h => ⟨[], vs, rfl, rfl, h⟩
  | c :: cs, ds, [], h => by simp [areZero] at h
  | c :: cs, ds, v :: vs, h => by
    simp only [List.cons_append, areZero, Bool.and_eq_true] at h
    obtain ⟨l, r, rfl, h1, h2⟩ := areZero_append h.2
    exact ⟨v :: l, r, rfl, by simp [areZero, h.1, h1], h2⟩

theorem areZero_one {c : AV} {vs : List Value} (h : areZero [c] vs = true) : ∃ v, vs = [v] ∧ isZero c v = true := by
  cases vs with
  | nil => simp [areZero] at h
  | cons v r =>
    cases r with
    | nil => simp [areZero] at h; exact ⟨v, rfl, h⟩
    | cons _ _ => simp [areZero] at h

theorem int_zero {k : IntKind} {l : List Value} (h : areZero [.int k 0] l = true) : l = [.int k 0] := by
  obtain ⟨v, rfl, h'⟩ := areZero_one h
  unfold isZero at h'
  split at h' <;> simp_all

theorem zeros_rel {α : Type} {R : α → List Value → Prop} {d : α} {zs : List AV} (hR : ∀ vs, areZero zs vs = true → R d vs) :
    ∀ (n : Nat) {vs : List Value}, areZero (List.replicate n zs).flatten vs = true → RelL R (List.replicate n d) vs
  | 0, [], _ => rfl
  | 0, _ :: _, h => by simp [areZero] at h
  | n + 1, vs, h => by
    rw [List.replicate_succ, List.flatten_cons] at h
    obtain ⟨l, r, rfl, h1, h2⟩ := areZero_append h
    exact ⟨l, r, rfl, hR l h1, zeros_rel hR n h2⟩

theorem zero_rel {w : World} {I : Nat → Prop} : ∀ (k : Kind) {vs : List Value}, areZero k.zero vs = true → RelK w I k k.dflt vs
  | .bool, vs, h => by
    obtain ⟨v, rfl, h'⟩ := areZero_one h
    unfold isZero at h'
    split at h' <;> simp_all [RelK, Kind.dflt]
  | .int k, vs, h => by
    obtain ⟨v, rfl, h'⟩ := areZero_one h
    unfold isZero at h'
    split at h' <;> simp_all [RelK, Kind.dflt]
  | .str, vs, h => by
    obtain ⟨v, rfl, h'⟩ := areZero_one h
    unfold isZero at h'
    split at h'
    all_goals try (simp_all; done)
    rename_i s t hs
    cases hs
    simp only [decide_eq_true_eq] at h'
    show [Value.string t] = [strOf []]
    rw [← h']
    rfl
  | .dyn d, vs, h => by
    obtain ⟨v, rfl, _⟩ := areZero_one h
    have := (areZero_rel (S := ⟨w, I, fun _ => .nilIface, fun _ => .free, fun _ => False⟩) h).2 v (by simp)
    exact ⟨v, rfl, this⟩
  | .slice e, vs, h => by
    obtain ⟨v, rfl, h'⟩ := areZero_one h
    unfold isZero at h'
    split at h'
    all_goals try (simp_all; done)
    exact RelK.nilsl e
  | .fnk, vs, h => by
    obtain ⟨v, rfl, h'⟩ := areZero_one h
    unfold isZero at h'
    split at h'
    all_goals try (simp_all; done)
    exact rfl
  | .unit, vs, h => by
    cases vs with
    | nil => rfl
    | cons _ _ => simp [areZero, Kind.zero] at h
  | .pair a b, vs, h => by
    obtain ⟨l, r, rfl, h1, h2⟩ := areZero_append h
    exact ⟨l, r, rfl, zero_rel a h1, zero_rel b h2⟩
  | .arr n e, vs, h => by
    refine ⟨by simp [Kind.dflt], ?_⟩
    unfold Kind.zero at h
    show RelL (RelK w I e) (List.replicate n e.dflt) vs
    exact zeros_rel (fun vs hh => zero_rel e hh) n h
  | .rx, vs, h => by
    obtain ⟨l0, r0, rfl, h0, h⟩ := areZero_append (cs := [.int .i64 0]) h
    obtain ⟨l1, r1, rfl, h1, h⟩ := areZero_append (cs := [.int .u64 0]) h
    obtain ⟨l2, r2, rfl, h2, h⟩ := areZero_append (cs := [.int .u64 0]) h
    obtain ⟨l3, r3, rfl, h3, h⟩ := areZero_append (cs := [.int .u64 0]) h
    obtain ⟨l4, r4, rfl, h4, h⟩ := areZero_append (cs := [.int .u64 0]) h
    obtain rfl := int_zero h0
    obtain rfl := int_zero h1
    obtain rfl := int_zero h2
    obtain rfl := int_zero h3
    obtain rfl := int_zero h4
    obtain ⟨v, rfl, h'⟩ := areZero_one h
    unfold isZero at h'
    split at h'
    all_goals try (simp_all; done)
    exact RelRx.of_kids (s := [0, 0, 0, 0]) rfl (RelK.nilsl .rx)

theorem madeCells_list (z : Array Value) : ∀ (n : Nat), (madeCells z (n * z.size)).toList = (List.replicate n z.toList).flatten := by
  intro n
  induction n with
  | zero => simp [madeCells]
  | succ n ih =>
    rw [List.replicate_succ', List.flatten_append, ← ih]
    simp only [madeCells, Array.toList_map, Array.toList_range, Nat.succ_mul, List.range_add, List.map_append, List.map_map, List.flatten_cons, List.flatten_nil, List.append_nil]
    congr 1
    apply List.ext_getElem
    · simp
    · intro j h1 h2
      simp at h1 h2
      have : (n * z.size + j) % z.size = j := by rw [Nat.mul_comm, Nat.mul_add_mod]; exact Nat.mod_eq_of_lt h2
      simp [this, h2]

theorem foldl_put (off : Nat) : ∀ (l : List Value) (k : Nat) (cells : Array Value), off + k + l.length ≤ cells.size →
    ((l.zipIdx k).foldl (fun cs (c : Value × Nat) => cs.setIfInBounds (off + c.2) c.1) cells).toList = cells.toList.take (off + k) ++ l ++ cells.toList.drop (off + k + l.length)
  | [], k, cells, _ => by simp
  | c :: l, k, cells, h => by
    simp only [List.length_cons] at h
    rw [List.zipIdx_cons, List.foldl_cons, foldl_put off l (k + 1) _ (by simp; omega)]
    have e := list_seg_step cells.toList (off + k) c l (by simp; omega)
    simpa [Array.toList_setIfInBounds, Nat.add_assoc] using e

theorem fill_rel {S : Sit} {at_ place : Nat → Option (Nat × Nat)} (hAt : ∀ i p, at_ i = some p → place i = some p) :
    ∀ {ps : List (Nat × AV)} {vs : List (Nat × Value)} {z z' : List AV} {cells : Array Value}, ps.length = vs.length →
      (∀ (i : Nat) (p : Nat × AV) (v : Nat × Value), ps[i]? = some p → vs[i]? = some v → p.1 = v.1 ∧ VRel S p.2 v.2) → VRelL S z cells.toList → (∀ u ∈ cells.toList, u.oneCell' = true) → putParts at_ ps z = some z' →
      ∃ cells', Instr.fill place cells vs = some cells' ∧ VRelL S z' cells'.toList ∧ (∀ u ∈ cells'.toList, u.oneCell' = true)
  | [], [], z, z', cells, _, _, hz, h1, he => by
    simp only [putParts, Option.some.injEq] at he
    subst he
    exact ⟨cells, rfl, hz, h1⟩
  | [], _ :: _, _, _, _, hl, _, _, _, _ => by simp at hl
  | _ :: _, [], _, _, _, hl, _, _, _, _ => by simp at hl
  | (i, c) :: ps, (i', v) :: vs, z, z', cells, hl, hps, hz, h1, he => by
    simp only [putParts, Option.bind_eq_some_iff] at he
    obtain ⟨⟨off, size⟩, ha, cs, hcs, he⟩ := he
    split at he
    · rename_i hc
      obtain ⟨rfl, hv⟩ := hps 0 (i, c) (i', v) rfl rfl
      simp only at hc hv
      obtain ⟨hr, hone⟩ := leaves_rel hv hcs
      have hlen : v.cells.size = size := by rw [← hc.1]; simpa using hr.length
      have hzl : cells.size = z.length := by simpa using hz.length
      have hput := foldl_put off v.cells.toList 0 cells (by simp [hlen]; omega)
      simp only [Nat.add_zero] at hput
      have hr' := hz.splice off hr
      rw [← hput] at hr'
      obtain ⟨cells', g1, g2, g3⟩ := fill_rel hAt (ps := ps) (vs := vs) (by simpa using hl) (fun j p u h1 h2 => hps (j + 1) p u (by simpa using h1) (by simpa using h2)) hr'
        (fun u hu => by
          rw [hput] at hu
          rcases List.mem_append.1 hu with hu | hu
          · rcases List.mem_append.1 hu with hu | hu
            · exact h1 u (List.mem_of_mem_take hu)
            · exact hone u hu
          · exact h1 u (List.mem_of_mem_drop hu)) he
      refine ⟨cells', ?_, g2, g3⟩
      have hp := hAt i (off, size) ha
      have hcond : (decide (v.cells.size ≠ size) || decide (off + v.cells.size > cells.size)) = false := by
        have h1 : ¬ (off + v.cells.size > cells.size) := by omega
        simp [hlen]; omega
      simp only [Instr.fill, hp]
      simp only [hcond, Bool.false_eq_true, if_false]
      rw [← g1]
      congr 1
      rw [← Array.foldl_toList]
      simp
    · cases he

section ops
variable {P : Program} {Γ : TEnv} {call : Call} {S : Sit} {fr : Nat → AV} {a : Act} {R : Type} {K : AV → Hp → Option R} {r : R}
  {next : Act → World → Prop} {Q : Exit → Act → World → Prop} {nm : Nat}

/-- an operation that leaves the heap alone and yields v -/
theorem Post.stay {next' : Value → World → Prop} (hP : Post S K r next') (H : HRel S) {av : AV} {v : Value} (hk : K av S.hp = some r) (hv : VRel S av v)
    (hn : av.names (fun m => S.hp m ≠ .free)) : next' v S.w := hP av v S hk H (Ext.refl S) hv hn

theorem sound_move {o : Oper} {x : Operand} (ho : o.op = .move x ∨ o.op = .assign x) (H : HRel S) (F : FRel S fr a)
    (h : (M.pure (ev fr x)).run call K S.hp = some r) (hP : Post S K r fun v w => next (a.put o.dst v) w) : o.wp P a S.w next Q := by
  have hk := run_pure_inv h
  refine wp_value (v := a.eval x) ?_ (hP.stay H hk (ev_rel F x) (ev_names F x))
  rcases ho with ho | ho <;> simp [execOp, ho]

theorem sound_pick {o : Oper} {c x y : Operand} (ho : o.op = .pick c x y) (H : HRel S) (F : FRel S fr a)
    (h : (aop Γ nm (ev fr) (.pick c x y)).run call K S.hp = some r) (hP : Post S K r fun v w => next (a.put o.dst v) w) : o.wp P a S.w next Q := by
  simp only [aop] at h
  split at h
  · rename_i t ht
    have hc := ev_rel F c
    rw [ht] at hc
    have hc := hc.bool_inv
    rcases run_br_inv h with ⟨rfl, h⟩ | ⟨rfl, h⟩
    · refine wp_value (v := a.eval x) ?_ (hP.stay H (run_pure_inv (call := call) h) (ev_rel F x) (ev_names F x))
      simp [execOp, ho, hc, asBool]
    · refine wp_value (v := a.eval y) ?_ (hP.stay H (run_pure_inv (call := call) h) (ev_rel F y) (ev_names F y))
      simp [execOp, ho, hc, asBool]
  · cases h

theorem box_obj {n b : Nat} {cs : List AV} {vs : List Value} {E : TypeId} {T : Sit} (hρ : blockAt (T.ρ n) b) (hw : T.w.heap[b]? = some (.cells vs.toArray E (0, 0)))
    (hI : ¬ T.I b) (hB : ¬ T.B b) (hv : VRelL T cs vs) (h1 : ∀ u ∈ vs, u.oneCell' = true) : ObjAt T n (.box cs) :=
  ⟨b, vs.toArray, E, hρ, hw, hI, hB, by simpa using hv, by simpa using h1⟩

theorem sound_alloc (hΓ : Γ.ok P = true) {o : Oper} {t : Nat} (ho : o.op = .alloc t) (H : HRel S) 
    (h : (aop Γ nm (ev fr) (.alloc t)).run call K S.hp = some r) (hP : Post S K r fun v w => next (a.put o.dst v) w) : o.wp P a S.w next Q := by
  simp only [aop] at h
  obtain ⟨k, hk, h⟩ := run_opt_inv h
  obtain ⟨hf, h⟩ := run_new_inv h
  obtain ⟨T⟩ := kOk_ty (TEnv.kind_ok hΓ hk)
  obtain ⟨hz, hone⟩ := areZero_rel (S := S) T.zero
  have hcl := zero_closed k
  obtain ⟨H', E'⟩ := H.alloc hf (.box k.zero) (.pointer (some ⟨S.w.heap.size, 0, none⟩)) (S.w.alloc (.cells T.z.cells t)) _ rfl rfl
    (fun cs hcs => by cases hcs; exact AV.namesL_closed _ hcl)
    (fun E => ⟨S.w.heap.size, T.z.cells, t, by simp [blockAt, upd_same], heap_alloc_new _ _, fun hI => Nat.lt_irrefl _ (H.il _ hI), H.newB,
      VRelL.ext E _ (AV.namesL_closed _ hcl) hz, hone⟩)
  refine wp_value (v := .pointer (some ⟨S.w.heap.size, 0, none⟩)) (w' := S.w.alloc (.cells T.z.cells t)) ?_ (hP (.ptr nm 0) _ _ h H' E' ?_ ?_)
  · simp [execOp, ho, Instr.alloc, T.run_zero, newVar, newRow]
  · unfold VRel
    refine ⟨rfl, ?_⟩
    simp only [upd_same]
    exact ⟨S.w.heap.size, rfl, rfl⟩
  · unfold AV.names; simp [upd_same]

end ops
end Go.AM

/- Each operation: what the abstract machine says of it the model does. Second part: memory. -/
namespace Go.AM
open Go

theorem res_rel {S : Sit} {k : Kind} {cs : List AV} {us : List Value} {v : AV} (h : VRelL S cs us) (h1 : ∀ u ∈ us, u.oneCell' = true) (he : k.res cs = some v) :
    us.length = k.size ∧ VRel S v (if k.isAgg = true then .agg us.toArray else us.headD undef) := by
  unfold Kind.res at he
  split at he
  · rename_i hl
    refine ⟨h.length.trans hl, ?_⟩
    split at he
    · rename_i ha
      simp only [Option.some.injEq] at he
      subst he
      rw [if_pos ha]
      unfold VRel
      exact ⟨us, rfl, h, h1⟩
    · rename_i ha
      rw [if_neg ha]
      split at he
      · simp only [Option.some.injEq] at he
        subst he
        obtain ⟨u, s, rfl, h2, h3⟩ := h.cons_inv
        exact h2
      · cases he
  · cases he

theorem res_names {p : Nat → Prop} {k : Kind} {cs : List AV} {v : AV} (h : AV.namesL p cs) (he : k.res cs = some v) : v.names p := by
  unfold Kind.res at he
  split at he
  · split at he
    · simp only [Option.some.injEq] at he; subst he; unfold AV.names; exact h
    · split at he
      · simp only [Option.some.injEq] at he; subst he; unfold AV.namesL at h; exact h.1
      · cases he
  · cases he

theorem namesL_drop {p : Nat → Prop} {cs : List AV} (n : Nat) (h : AV.namesL p cs) : AV.namesL p (cs.drop n) :=
  AV.namesL_of fun _ hc => AV.namesL_mem h (List.mem_of_mem_drop hc)
theorem namesL_take {p : Nat → Prop} {cs : List AV} (n : Nat) (h : AV.namesL p cs) : AV.namesL p (cs.take n) :=
  AV.namesL_of fun _ hc => AV.namesL_mem h (List.mem_of_mem_take hc)

/-- an oper's operands -/
theorem evs_rel {S : Sit} {fr : Nat → AV} {a : Act} (F : FRel S fr a) (parts : Array (Nat × Operand)) :
    ∀ (i : Nat) (p : Nat × AV) (v : Nat × Value), (parts.toList.map fun p => (p.1, ev fr p.2))[i]? = some p → (parts.toList.map fun p => (p.1, a.eval p.2))[i]? = some v →
      p.1 = v.1 ∧ VRel S p.2 v.2 := by
  intro i p v h1 h2
  rw [List.getElem?_map] at h1 h2
  cases hp : parts.toList[i]? with
  | none => rw [hp] at h1; cases h1
  | some q =>
    rw [hp] at h1 h2
    simp only [Option.map_some, Option.some.injEq] at h1 h2
    subst h1 h2
    exact ⟨rfl, ev_rel F _⟩

theorem intsOf_rel {S : Sit} {k : IntKind} : ∀ {cs : List AV} {us : List Value} {l : List Int}, VRelL S cs us → intsOf k cs = some l → us = l.map (Value.int k) ∧ l.length = cs.length
  | [], us, l, h, he => by simp only [intsOf, Option.some.injEq] at he; subst he; exact ⟨h.nil_inv, rfl⟩
  | c :: cs, us, l, h, he => by
    unfold intsOf at he
    split at he
    · rename_i hc; cases hc
    · rename_i k' n r hc
      cases hc
      split at he
      · rename_i hk
        subst hk
        simp only [Option.bind_eq_some_iff] at he
        obtain ⟨l', h1, he⟩ := he
        simp only [Option.some.injEq] at he
        subst he
        obtain ⟨u, s, rfl, h2, h3⟩ := h.cons_inv
        obtain ⟨e1, e2⟩ := intsOf_rel h3 h1
        exact ⟨by rw [h2.int_inv, e1]; rfl, by simp [e2]⟩
      · cases he
    · cases he

section ops
variable {P : Program} {Γ : TEnv} {call : Call} {S : Sit} {fr : Nat → AV} {a : Act} {R : Type} {K : AV → Hp → Option R} {r : R}
  {next : Act → World → Prop} {Q : Exit → Act → World → Prop} {nm : Nat}

theorem sound_box {o : Oper} {t : Nat} {x : Operand} (ho : o.op = .box t x) (H : HRel S) (F : FRel S fr a)
    (h : (aop Γ nm (ev fr) (.box t x)).run call K S.hp = some r) (hP : Post S K r fun v w => next (a.put o.dst v) w) : o.wp P a S.w next Q := by
  simp only [aop] at h
  obtain ⟨k, hk, h⟩ := run_opt_inv h
  obtain ⟨cs, hcs, h⟩ := run_opt_inv h
  split at h
  · obtain ⟨hf, h⟩ := run_new_inv h
    obtain ⟨hv, hone⟩ := leaves_rel (ev_rel F x) hcs
    have hnm := AV.leaves_names (ev_names F x) hcs
    obtain ⟨H', E'⟩ := H.alloc hf (.box cs) (.pointer (some ⟨S.w.heap.size, 0, none⟩)) (S.w.alloc (.cells (a.eval x).cells t)) _ rfl rfl
      (fun ds hds => by cases hds; exact hnm)
      (fun E => ⟨S.w.heap.size, (a.eval x).cells, t, by simp [blockAt, upd_same], heap_alloc_new _ _, fun hI => Nat.lt_irrefl _ (H.il _ hI), H.newB,
        VRelL.ext E _ (AV.namesL_imp (fun m hm => ⟨trivial, hm⟩) _ hnm) hv, hone⟩)
    refine wp_value (v := .pointer (some ⟨S.w.heap.size, 0, none⟩)) (w' := S.w.alloc (.cells (a.eval x).cells t)) ?_ (hP (.ptr nm 0) _ _ h H' E' ?_ ?_)
    · simp [execOp, ho, Instr.box, newVar, newRow]
    · unfold VRel
      refine ⟨rfl, ?_⟩
      simp only [upd_same]
      exact ⟨S.w.heap.size, rfl, rfl⟩
    · unfold AV.names; simp [upd_same]
  · cases h

theorem sound_load (hΓ : Γ.ok P = true) {o : Oper} {t : Nat} {x : Operand} (ho : o.op = .load t x) (H : HRel S) (F : FRel S fr a)
    (h : (aop Γ nm (ev fr) (.load t x)).run call K S.hp = some r) (hP : Post S K r fun v w => next (a.put o.dst v) w) : o.wp P a S.w next Q := by
  simp only [aop] at h
  obtain ⟨k, hk, h⟩ := run_opt_inv h
  obtain ⟨T⟩ := kOk_ty (TEnv.kind_ok hΓ hk)
  have hx := ev_rel F x
  have hn := ev_names F x
  have fin : ∀ (b oo : Nat) (us : List Value) (cs : List AV) (v : AV), a.eval x = .pointer (some ⟨b, oo, none⟩) → CellsAt S.w b oo us → VRelL S cs us → (∀ u ∈ us, u.oneCell' = true) →
      AV.namesL (fun m => S.hp m ≠ .free) cs → k.res cs = some v → K v S.hp = some r → o.wp P a S.w next Q := by
    intro b oo us cs v hp hc hv h1 hnn he hkk
    obtain ⟨hl, hr⟩ := res_rel hv h1 he
    refine wp_value ?_ (hP.stay H hkk hr (res_names hnn he))
    simp only [execOp, ho, hp, Instr.loadAt, Instr.sureAddr, Sem.run_bind, Sem.run_pure, Result.andThen_ok, T.run_load S.w hc hl Kind.size_leaf]
  split at h
  · rename_i n off he
    rw [he] at hx hn
    have h := run_rd_inv h
    split at h
    · rename_i cs hcs
      obtain ⟨v, hv, h⟩ := run_opt_inv h
      unfold VRel at hx
      rw [hcs] at hx
      obtain ⟨_, b, hb, hp⟩ := hx
      have ho' := H.ob n
      rw [hcs] at ho'
      obtain ⟨b', c, E, g1, g2, g3, g4, g5, g6⟩ := ho'
      have : b' = b := by unfold blockAt at g1 hb; rw [g1] at hb; simpa using hb
      subst this
      have hc : CellsAt S.w b' 0 c.toList := fun j u hu => by rw [Nat.zero_add, cell_of_row S.w b' j c E (0, 0) g2]; simpa using hu
      have hd := (hc.drop off).take k.size
      rw [Nat.zero_add] at hd
      exact fin b' off _ _ v hp hd ((g5.drop off).take k.size) (fun u hu => g6 u (List.mem_of_mem_drop (List.mem_of_mem_take hu)))
        (namesL_take _ (namesL_drop _ (H.nb n cs hcs))) hv (run_pure_inv h)
    · cases h
  · rename_i n i sub he
    rw [he] at hx hn
    have h := run_rd_inv h
    split at h
    · rename_i el xs hcs
      obtain ⟨v, hv, h⟩ := run_opt_inv h
      unfold VRel at hx
      rw [hcs] at hx
      obtain ⟨_, hi, b, cap, hb, hp⟩ := hx
      have ho' := H.ob n
      rw [hcs] at ho'
      rcases ho' with ⟨g1, g2⟩ | ⟨b', cap', c, E, g1, g2, g3, g4, g5, g6, g7, g8⟩
      · omega
      · have : b' = b := by unfold rowAtV at g1 hb; rw [g1] at hb; simp at hb; exact hb.1
        subst this
        obtain ⟨us, g9, g10⟩ := g8 i hi
        have hc : CellsAt S.w b' (i * el.size) us := fun j u hu => by rw [cell_of_row S.w b' _ c E (0, 0) g2]; exact g10 j u hu
        exact fin b' (i * el.size + sub) _ _ v hp ((hc.drop sub).take k.size) (((flat_rel el g9).drop sub).take k.size)
          (fun u hu => RelK.ones el g9 u (List.mem_of_mem_drop (List.mem_of_mem_take hu)))
          (namesL_take _ (namesL_drop _ (flat_names el _))) hv (run_pure_inv h)
    · rename_i k' v' ess hcs
      split at h
      · rename_i hk1
        obtain ⟨hk1, hs⟩ := hk1
        unfold VRel at hx
        rw [hcs] at hx
        obtain ⟨_, hi, b, cap, ms, hρ, hp⟩ := hx
        have ho' := H.ob n
        rw [hcs] at ho'
        obtain ⟨b', cap', c, E, ms', g1, g2, g3, g4, g5, g6, g7, g8, g9, g10, g11⟩ := ho'
        obtain ⟨e1, rfl⟩ := tuple_inj (g1.symm.trans hρ)
        obtain ⟨rfl, _, rfl⟩ := slice_inj e1
        obtain ⟨m, q1, r', ents, cl, q2, _⟩ := g11 i _ (List.getElem?_eq_getElem hi)
        have hone : m.oneCell' = true := by rw [q2]; rfl
        have hv : VRel S (.mref n i) m := by
          unfold VRel
          rw [hcs]
          exact ⟨hone, hi, _, ms', g1, q1⟩
        refine fin b' i [m] [.mref n i] (.mref n i) hp (fun j u hu => ?_) (.one hv) (fun u hu => by simp at hu; rw [hu]; exact hone) ?_ (by rw [hk1]; rfl) (run_pure_inv h)
        · cases j with
          | zero =>
            simp only [List.getElem?_cons_zero, Option.some.injEq] at hu
            subst hu
            rw [Nat.add_zero, cell_of_row S.w b' i c E (0, 0) g2]
            exact (g10 i m q1).1
          | succ j => simp at hu
        · unfold AV.namesL AV.names AV.namesL
          exact ⟨by rw [hcs]; simp, trivial⟩
      · cases h
    · cases h
  · rename_i cs he
    rw [he] at hx hn
    obtain ⟨v, hv, h⟩ := run_opt_inv h
    unfold VRel at hx
    obtain ⟨b, oo, us, hp, hI, h1, h2, h3⟩ := hx
    unfold AV.names at hn
    exact fin b oo _ _ v hp (h2.take k.size) (h1.take k.size) (fun u hu => h3 u (List.mem_of_mem_take hu)) (namesL_take _ hn) hv (run_pure_inv h)
  · rename_i n off cnt i he
    rw [he] at hx hn
    have h := run_rd_inv h
    split at h
    · rename_i cs hcs
      split at h
      · rename_i ik _
        obtain ⟨l, hl, h⟩ := run_opt_inv h
        unfold VRel at hx
        rw [hcs] at hx
        obtain ⟨_, hi, hoff, b, hb, hp⟩ := hx
        have ho' := H.ob n
        rw [hcs] at ho'
        obtain ⟨b', c, E, g1, g2, g3, g4, g5, g6⟩ := ho'
        have : b' = b := by unfold blockAt at g1 hb; rw [g1] at hb; simpa using hb
        subst this
        have hc : CellsAt S.w b' 0 c.toList := fun j u hu => by rw [Nat.zero_add, cell_of_row S.w b' j c E (0, 0) g2]; simpa using hu
        obtain ⟨e1, e2⟩ := intsOf_rel ((g5.drop off).take cnt) hl
        have hlen : l.length = cnt := by rw [e2]; simp; omega
        have hget : (c.toList.drop off)[i]? = some (.int ik (l.getD i 0)) := by
          have h3 : ((c.toList.drop off).take cnt)[i]? = (l.map (Value.int ik))[i]? := by rw [e1]
          rw [List.getElem?_take, if_pos hi, List.getElem?_map] at h3
          rw [h3, List.getElem?_eq_getElem (by omega)]
          simp [List.getD_eq_getElem?_getD, List.getElem?_eq_getElem (show i < l.length by omega)]
        refine fin b' (off + i) [.int ik (l.getD i 0)] [.int ik (l.getD i 0)] _ hp ?_ (.one .int_mk) (by simp [Value.oneCell']) (by simp [AV.namesL, AV.names]) rfl (run_pure_inv h)
        intro j u hu
        cases j with
        | zero =>
          simp only [List.getElem?_cons_zero, Option.some.injEq] at hu
          subst hu
          rw [List.getElem?_drop] at hget
          have := hc _ _ hget
          simpa using this
        | succ j => simp at hu
      · cases h
    · cases h
  · cases h

theorem splice_length {cs ls : List AV} {off : Nat} (h : off + ls.length ≤ cs.length) : (splice cs off ls).length = cs.length := by
  unfold splice; simp; omega

theorem splice_names {p : Nat → Prop} {cs ls : List AV} {off : Nat} (h : AV.namesL p cs) (h2 : AV.namesL p ls) : AV.namesL p (splice cs off ls) := by
  unfold splice
  rw [AV.namesL_append, AV.namesL_append]
  exact ⟨⟨namesL_take _ h, h2⟩, namesL_drop _ h⟩

theorem seg_get {α : Type} {l vs : List α} {o m : Nat} (h : o + vs.length ≤ l.length) :
    (l.take o ++ vs ++ l.drop (o + vs.length))[m]? = if o ≤ m ∧ m < o + vs.length then vs[m - o]? else l[m]? := by
  have hto : (l.take o).length = o := by simp; omega
  by_cases h1 : m < o
  · rw [if_neg (by omega), List.append_assoc, List.getElem?_append_left (by omega), List.getElem?_take, if_pos h1]
  · by_cases h2 : m < o + vs.length
    · rw [if_pos ⟨by omega, h2⟩, List.append_assoc, List.getElem?_append_right (by omega), hto, List.getElem?_append_left (by omega)]
    · rw [if_neg (by omega), List.getElem?_append_right (by simp; omega), List.getElem?_drop]
      congr 1
      simp
      omega

theorem setRow_size (w : World) (b : Nat) (c : Array Value) : (w.setRow b c).heap.size = w.heap.size := by simp [World.setRow]

theorem sound_store (hΓ : Γ.ok P = true) {o : Oper} {t : Nat} {x y : Operand} (ho : o.op = .store t x y) (H : HRel S) (F : FRel S fr a)
    (h : (aop Γ nm (ev fr) (.store t x y)).run call K S.hp = some r) (hP : Post S K r fun v w => next (a.put o.dst v) w) : o.wp P a S.w next Q := by
  simp only [aop] at h
  obtain ⟨k, hk, h⟩ := run_opt_inv h
  obtain ⟨T⟩ := kOk_ty (TEnv.kind_ok hΓ hk)
  have hx := ev_rel F x
  obtain ⟨ls, hls, h⟩ := run_opt_inv h
  obtain ⟨hv, hone⟩ := leaves_rel (ev_rel F y) hls
  have hnm := AV.leaves_names (ev_names F y) hls
  split at h
  · rename_i hlen
    have hvl : (a.eval y).cells.toList.length = k.size := by rw [hv.length, hlen]
    have fin : ∀ (n b off : Nat) (c : Array Value) (E : TypeId) (c' : Cell), a.eval x = .pointer (some ⟨b, off, none⟩) → cellLive (S.hp n) → hasBlk (S.ρ n) b →
        S.w.heap[b]? = some (.cells c E (0, 0)) → off + k.size ≤ c.size → sameShape (S.hp n) c' →
        (∀ S' : Sit, S'.ρ = S.ρ → S'.I = S.I → S'.B = S.B → Ext Top S S' → S'.w.heap[b]? = some (.cells (c.toList.take off ++ (a.eval y).cells.toList ++ c.toList.drop (off + k.size)).toArray E (0, 0)) → ObjAt S' n c') →
        (∀ cs, c' = .box cs → AV.namesL (fun m => S.hp m ≠ .free) cs) →
        K .undef (upd S.hp n c') = some r → o.wp P a S.w next Q := by
      intro n b off c E c' hp hl hb hg hfit hs hob hnb hkk
      have hrun := T.run_store S.w hg hvl hfit hone
      obtain ⟨H', E'⟩ := H.write hl c' (S.w.setRow b (c.toList.take off ++ (a.eval y).cells.toList ++ c.toList.drop (off + k.size)).toArray) hs
        (fun b' hb' => setRow_other _ _ _ _ (fun e => hb' (e ▸ hb))) (setRow_size _ _ _)
        (fun E' => hob _ rfl rfl rfl E' (setRow_heap S.w b c _ E (0, 0) hg)) hnb
      refine wp_skipped (w' := S.w.setRow b (c.toList.take off ++ (a.eval y).cells.toList ++ c.toList.drop (off + k.size)).toArray) ?_
        (hP .undef undef _ hkk H' E' .undef_mk (by unfold AV.names; trivial))
      simp only [execOp, ho, hp, Instr.storeAt, Instr.sureAddr, Sem.run_bind, Sem.run_pure, Result.andThen_ok, hrun]
    split at h
    · rename_i n off he
      rw [he] at hx
      have h := run_rd_inv h
      split at h
      · rename_i cs hcs
        split at h
        · rename_i hfit
          unfold VRel at hx
          rw [hcs] at hx
          obtain ⟨_, b, hb, hp⟩ := hx
          have ho' := H.ob n
          rw [hcs] at ho'
          obtain ⟨b', c, E, g1, g2, g3, g4, g5, g6⟩ := ho'
          have : b' = b := by unfold blockAt at g1 hb; rw [g1] at hb; simpa using hb
          subst this
          have hcl : c.toList.length = cs.length := g5.length
          refine fin n b' off c E _ hp (by rw [hcs]; rfl) (by rw [show S.ρ n = _ from hb]; rfl) g2 (by simp at hcl; omega)
            (by rw [hcs]; exact splice_length (by omega)) ?_ ?_ (run_pure_inv (run_wr_inv h))
          · intro S' e1 e2 e3 E' hw
            refine box_obj (b := b') (by rw [e1]; exact hb) hw (by rw [e2]; exact g3) (by rw [e3]; exact g4) ?_ ?_
            · have h5 := VRelL.ext E' cs (AV.namesL_imp (fun m hm => ⟨trivial, hm⟩) _ (H.nb n cs hcs)) g5
              have h6 := VRelL.ext E' ls (AV.namesL_imp (fun m hm => ⟨trivial, hm⟩) _ hnm) hv
              have := h5.splice off h6
              rwa [hvl] at this
            · intro u hu
              rcases List.mem_append.1 hu with hu | hu
              · rcases List.mem_append.1 hu with hu | hu
                · exact g6 u (List.mem_of_mem_take hu)
                · exact hone u hu
              · exact g6 u (List.mem_of_mem_drop hu)
          · intro ds hds
            cases hds
            exact splice_names (H.nb n cs hcs) hnm
        · cases h
      · cases h
    · rename_i n i sub he
      rw [he] at hx
      have h := run_rd_inv h
      split at h
      · rename_i el xs hcs
        split at h
        · rename_i hfit
          obtain ⟨z, hz, h⟩ := run_opt_inv h
          unfold VRel at hx
          rw [hcs] at hx
          obtain ⟨_, hi, b, cap, hb, hp⟩ := hx
          have ho' := H.ob n
          rw [hcs] at ho'
          rcases ho' with ⟨g1, g2⟩ | ⟨b', cap', c, E, g1, g2, g3, g4, g5, g6, g7, g8⟩
          · omega
          · have : b' = b := by unfold rowAtV at g1 hb; rw [g1] at hb; simp at hb; exact hb.1
            subst this
            obtain ⟨us, g9, g10⟩ := g8 i hi
            have hus := RelK.length el g9
            have hrow : (i + 1) * el.size ≤ c.size := by rw [g7]; exact Nat.mul_le_mul_right _ (by omega)
            rw [Nat.succ_mul] at hrow
            refine fin n b' (i * el.size + sub) c E (.row el (xs.set i z)) hp (by rw [hcs]; rfl) (by rw [show S.ρ n = _ from g1]; rfl) g2 (by omega)
              (by rw [hcs]; exact ⟨rfl, by simp⟩) ?_ (fun cs hcs => by cases hcs) (run_pure_inv (run_wr_inv h))
            intro S' e1 e2 e3 E' hw
            refine .inr ⟨b', cap', _, E, by unfold rowAtV; rw [e1, List.length_set]; exact g1, hw, by rw [e2]; exact g3, by rw [e3]; exact g4, by rw [List.length_set]; exact g5, g6, ?_, ?_⟩
            · have hvs : (a.eval y).cells.size = k.size := by simpa using hvl
              simp; omega
            · intro j hj
              rw [List.length_set] at hj
              by_cases hji : j = i
              · subst hji
                have h7 := oneL_rel ((flat_rel el g9).splice sub hv) hz
                refine ⟨_, by rw [List.getD_eq_getElem?_getD, List.getElem?_set_self hj]; exact RelK.ext E' h7, ?_⟩
                intro m u hm
                have hml := (List.getElem?_eq_some_iff.1 hm).1
                rw [seg_get (by omega)] at hm
                simp only [List.getElem?_toArray]
                rw [show j * el.size + sub + k.size = j * el.size + sub + (a.eval y).cells.toList.length from by rw [hvl], seg_get (by simp [hvl]; omega)]
                split at hm
                · rename_i hc
                  rw [if_pos (by omega)]
                  rwa [show j * el.size + m - (j * el.size + sub) = m - sub from by omega]
                · rename_i hc
                  rw [if_neg (by omega)]
                  have := g10 m u hm
                  simpa using this
              · obtain ⟨us', h8, h9⟩ := g8 j hj
                have hus' := RelK.length el h8
                refine ⟨us', by rw [List.getD_eq_getElem?_getD, List.getElem?_set_ne (fun e => hji e.symm), ← List.getD_eq_getElem?_getD]; exact RelK.ext E' h8, ?_⟩
                intro m u hm
                have hml := (List.getElem?_eq_some_iff.1 hm).1
                simp only [List.getElem?_toArray]
                rw [show i * el.size + sub + k.size = i * el.size + sub + (a.eval y).cells.toList.length from by rw [hvl], seg_get (by simp [hvl]; omega)]
                have hne : ¬ (i * el.size + sub ≤ j * el.size + m ∧ j * el.size + m < i * el.size + sub + (a.eval y).cells.toList.length) := by
                  rcases Nat.lt_or_gt_of_ne hji with hlt | hgt
                  · have := Nat.mul_le_mul_right el.size (show j + 1 ≤ i from hlt)
                    rw [Nat.succ_mul] at this
                    omega
                  · have := Nat.mul_le_mul_right el.size (show i + 1 ≤ j from hgt)
                    rw [Nat.succ_mul] at this
                    rw [hvl]
                    omega
                rw [if_neg hne]
                have := h9 m u hm
                simpa using this
        · cases h
      · cases h
    · rename_i n off cnt i he
      rw [he] at hx
      have h := run_rd_inv h
      split at h
      · rename_i cs hcs
        split at h
        · rename_i ik ik' v hyv _ _
          split at h
          · rename_i hik
            subst hik
            obtain ⟨l, hl, h⟩ := run_opt_inv h
            unfold VRel at hx
            rw [hcs] at hx
            obtain ⟨_, hi, hoff, b, hb, hp⟩ := hx
            have ho' := H.ob n
            rw [hcs] at ho'
            obtain ⟨b', c, E, g1, g2, g3, g4, g5, g6⟩ := ho'
            have : b' = b := by unfold blockAt at g1 hb; rw [g1] at hb; simpa using hb
            subst this
            have hcl : c.toList.length = cs.length := g5.length
            obtain ⟨e1, e2⟩ := intsOf_rel ((g5.drop off).take cnt) hl
            have hlen : l.length = cnt := by rw [e2]; simp; omega
            have hyv' := ev_rel F y
            rw [hyv] at hyv'
            have hyv' := hyv'.int_inv
            have hnew : (List.range cnt).map (fun j => AV.int ik' ((l.set i v).getD j 0)) = (l.set i v).map (AV.int ik') := by
              have := range_getD (l.set i v) 0
              rw [List.length_set, hlen] at this
              conv => rhs; rw [← this]
              rw [List.map_map]
              rfl
            have hints : ∀ (m : List Int) (S : Sit), VRelL S (m.map (AV.int ik')) (m.map (Value.int ik')) := by
              intro m S
              induction m with
              | nil => exact .nil
              | cons z m ih => exact .cons .int_mk ih
            have hk1 : Kind.size (.int ik') = 1 := rfl
            have hcells : (c.toList.take (off + i) ++ (a.eval y).cells.toList ++ c.toList.drop (off + i + (Kind.int ik').size)) =
                c.toList.take off ++ (l.set i v).map (Value.int ik') ++ c.toList.drop (off + cnt) := by
              rw [hyv', hk1]
              apply List.ext_getElem?
              intro m
              have q1 := seg_get (l := c.toList) (vs := [Value.int ik' v]) (o := off + i) (m := m) (by simp at hcl ⊢; omega)
              have q2 := seg_get (l := c.toList) (vs := (l.set i v).map (Value.int ik')) (o := off) (m := m) (by simp at hcl ⊢; omega)
              simp only [List.length_map, List.length_set, hlen] at q2
              simp only [List.length_cons, List.length_nil, Nat.zero_add] at q1
              rw [show (Value.int ik' v).cells.toList = [Value.int ik' v] from rfl, q1, q2]
              by_cases c1 : off ≤ m ∧ m < off + cnt
              · rw [if_pos c1]
                by_cases c2 : m = off + i
                · subst c2
                  rw [if_pos (by omega), Nat.sub_self, show off + i - off = i from by omega, List.getElem?_map, List.getElem?_set_self (by omega)]
                  rfl
                · rw [if_neg (by omega), List.getElem?_map, List.getElem?_set_ne (by omega)]
                  have h3 : ((c.toList.drop off).take cnt)[m - off]? = (l.map (Value.int ik'))[m - off]? := by rw [e1]
                  rw [List.getElem?_take, if_pos (by omega), List.getElem?_drop, List.getElem?_map] at h3
                  rw [← h3]
                  congr 1
                  omega
              · rw [if_neg c1, if_neg (by omega)]
            refine fin n b' (off + i) c E _ hp (by rw [hcs]; rfl) (by rw [show S.ρ n = _ from hb]; rfl) g2 (by rw [hk1]; simp at hcl; omega)
              (by rw [hcs]; exact splice_length (by simp; omega)) ?_ ?_ (run_pure_inv (run_wr_inv h))
            · intro S' q1 q2 q3 E' hw
              rw [hcells] at hw
              refine box_obj (b := b') (by rw [q1]; exact hb) hw (by rw [q2]; exact g3) (by rw [q3]; exact g4) ?_ ?_
              · have h5 := VRelL.ext E' cs (AV.namesL_imp (fun m hm => ⟨trivial, hm⟩) _ (H.nb n cs hcs)) g5
                have := h5.splice off (hints (l.set i v) S')
                rw [hnew]
                simpa [hlen] using this
              · intro u hu
                rcases List.mem_append.1 hu with hu | hu
                · rcases List.mem_append.1 hu with hu | hu
                  · exact g6 u (List.mem_of_mem_take hu)
                  · obtain ⟨z, _, rfl⟩ := List.mem_map.1 hu; rfl
                · exact g6 u (List.mem_of_mem_drop hu)
            · intro ds hds
              cases hds
              refine splice_names (H.nb n cs hcs) (AV.namesL_of fun c hc => ?_)
              obtain ⟨j, _, rfl⟩ := List.mem_map.1 hc
              unfold AV.names; trivial
          · cases h
        · cases h
      · cases h
    · cases h
  · cases h

end ops
end Go.AM

/- Each operation, third part: composite literals, addresses of fields and elements. -/
namespace Go.AM
open Go

theorem mapM_cons_some {α β : Type} {f : α → Option β} {x : α} {l : List α} {y : β} {r : List β} (h1 : f x = some y) (h2 : l.mapM f = some r) : (x :: l).mapM f = some (y :: r) := by
  simp [List.mapM_cons, h1, h2]

abbrev placeOf (P : Program) (f : Field) : Option (Nat × Nat) := (P.info? f.type).map fun i => (f.offset, i.size)

theorem TyIs.place {P : Program} {k : Kind} {f : Field} (T : TyIs P k f.type) : placeOf P f = some (f.offset, k.size) := by
  simp [placeOf, T.hi, T.size]

theorem fieldsOk_places {P : Program} : ∀ {k : Kind} {fs : List Field} {off : Nat}, fieldsOk P k fs off = true →
    ∃ places, fs.mapM (placeOf P) = some places ∧ ∀ i o fk, k.fieldAt i = some (o, fk) → places[i]? = some (off + o, fk.size)
  | .unit, [], off, _ => ⟨[], by simp, fun i o fk h => by simp [Kind.fieldAt] at h⟩
  | .unit, _ :: _, off, h => by simp [fieldsOk] at h
  | .pair a b, [], off, h => by simp [fieldsOk] at h
  | .pair a b, f :: r, off, h => by
    simp only [fieldsOk, Bool.and_eq_true, beq_iff_eq] at h
    obtain ⟨T⟩ := kOk_ty h.1.2
    obtain ⟨places, h1, h2⟩ := fieldsOk_places h.2
    refine ⟨(f.offset, a.size) :: places, mapM_cons_some T.place h1, fun i o fk he => ?_⟩
    cases i with
    | zero =>
      simp only [Kind.fieldAt, Option.some.injEq, Prod.mk.injEq] at he
      obtain ⟨rfl, rfl⟩ := he
      simp [h.1.1.1]
    | succ i =>
      simp only [Kind.fieldAt, Option.bind_eq_some_iff] at he
      obtain ⟨⟨o', k'⟩, h3, he⟩ := he
      simp only [Option.some.injEq, Prod.mk.injEq] at he
      obtain ⟨rfl, rfl⟩ := he
      have := h2 i o' k' h3
      simp only [List.getElem?_cons_succ, this, Option.some.injEq, Prod.mk.injEq, and_true]
      omega
  | .bool, _, _, h => by simp [fieldsOk] at h
  | .int _, _, _, h => by simp [fieldsOk] at h
  | .str, _, _, h => by simp [fieldsOk] at h
  | .dyn _, _, _, h => by simp [fieldsOk] at h
  | .slice _, _, _, h => by simp [fieldsOk] at h
  | .arr _ _, _, _, h => by simp [fieldsOk] at h
  | .rx, _, _, h => by simp [fieldsOk] at h

theorem kOk_places {P : Program} {k : Kind} {t : Nat} (h : kOk P k t = true) (hk : (match k with | .pair _ _ | .unit | .rx => true | _ => false) = true) :
    ∃ fs places, P.underlying t = some (.struct fs) ∧ fs.toList.mapM (placeOf P) = some places ∧ ∀ i o fk, k.fieldAt i = some (o, fk) → places[i]? = some (o, fk.size) := by
  cases k with
  | unit =>
    unfold kOk at h
    simp only [Bool.and_eq_true] at h
    split at h
    · rename_i fs hu
      have : fs.toList = [] := by simpa using h.2
      exact ⟨fs, [], hu, by rw [this]; simp, fun i o fk h => by simp [Kind.fieldAt] at h⟩
    · simp at h
  | pair a b =>
    unfold kOk at h
    simp only [Bool.and_eq_true] at h
    split at h
    · rename_i fs hu
      have h2 : fieldsOk P (.pair a b) fs.toList 0 = true := by
        unfold fieldsOk
        split at h
        · rename_i f r hl
          rw [hl]
          simp only [Bool.and_eq_true] at h ⊢
          simp only [Nat.zero_add]
          exact h.2
        · simp at h
      obtain ⟨places, g1, g2⟩ := fieldsOk_places h2
      exact ⟨fs, places, hu, g1, fun i o fk he => by rw [g2 i o fk he, Nat.zero_add]⟩
    · simp at h
  | rx =>
    unfold kOk at h
    simp only [Bool.and_eq_true] at h
    split at h
    · rename_i fs hu
      split at h
      · rename_i f0 f1 f2 hl
        simp only [Bool.and_eq_true, beq_iff_eq] at h
        obtain ⟨_, ⟨⟨⟨⟨⟨⟨⟨o0, o1⟩, o2⟩, i0⟩, i1⟩, i2⟩, u0⟩, u1⟩, u2⟩ := h
        obtain ⟨x0, _, j0, _, s0, _⟩ := infoOk_get i0
        obtain ⟨x1, _, j1, _, s1, _⟩ := infoOk_get i1
        obtain ⟨x2, _, j2, _, s2, _⟩ := infoOk_get i2
        refine ⟨fs, [(0, 1), (1, 4), (5, 1)], hu, ?_, ?_⟩
        · rw [hl]
          refine mapM_cons_some ?_ (mapM_cons_some ?_ (mapM_cons_some ?_ (by simp)))
          · simp [placeOf, j0, o0, s0, Kind.size]
          · simp [placeOf, j1, o1, s1, Kind.size]
          · simp [placeOf, j2, o2, s2, Kind.size]
        · intro i o fk he
          match i, he with
          | 0, he => simp only [Kind.fieldAt, Option.some.injEq, Prod.mk.injEq] at he; obtain ⟨rfl, rfl⟩ := he; rfl
          | 1, he => simp only [Kind.fieldAt, Option.some.injEq, Prod.mk.injEq] at he; obtain ⟨rfl, rfl⟩ := he; rfl
          | 2, he => simp only [Kind.fieldAt, Option.some.injEq, Prod.mk.injEq] at he; obtain ⟨rfl, rfl⟩ := he; rfl
          | n + 3, he => simp [Kind.fieldAt] at he
      · simp at h
    · simp at h
  | _ => simp at hk

theorem RelL.get {α : Type} {R : α → List Value → Prop} {sz : Nat} {d : α} (hsz : ∀ x vs, R x vs → vs.length = sz) : ∀ {xs : List α} {vs : List Value}, RelL R xs vs → ∀ i, i < xs.length →
    ∃ us, R (xs.getD i d) us ∧ ∀ j u, us[j]? = some u → vs[i * sz + j]? = some u
  | [], _, _, i, hi => by simp at hi
  | x :: xs, vs, ⟨l, r, e, h1, h2⟩, i, hi => by
    subst e
    cases i with
    | zero =>
      refine ⟨l, by simpa using h1, fun j u hu => ?_⟩
      rw [Nat.zero_mul, Nat.zero_add, List.getElem?_append_left (List.getElem?_eq_some_iff.1 hu).1]
      exact hu
    | succ i =>
      obtain ⟨us, h3, h4⟩ := RelL.get hsz h2 i (by simpa using hi)
      refine ⟨us, by simpa using h3, fun j u hu => ?_⟩
      rw [List.getElem?_append_right (by rw [hsz _ _ h1, Nat.succ_mul]; omega), hsz _ _ h1]
      have := h4 j u hu
      rwa [show (i + 1) * sz + j - sz = i * sz + j from by rw [Nat.succ_mul]; omega]

section ops
variable {P : Program} {Γ : TEnv} {call : Call} {S : Sit} {fr : Nat → AV} {a : Act} {R : Type} {K : AV → Hp → Option R} {r : R}
  {next : Act → World → Prop} {Q : Exit → Act → World → Prop} {nm : Nat}

theorem putParts_names {p : Nat → Prop} {at_ : Nat → Option (Nat × Nat)} : ∀ {ps : List (Nat × AV)} {z z' : List AV}, (∀ q ∈ ps, q.2.names p) → AV.namesL p z → putParts at_ ps z = some z' → AV.namesL p z'
  | [], z, z', _, hz, he => by simp only [putParts, Option.some.injEq] at he; subst he; exact hz
  | (i, v) :: ps, z, z', hp, hz, he => by
    simp only [putParts, Option.bind_eq_some_iff] at he
    obtain ⟨q, _, cs, hcs, he⟩ := he
    split at he
    · exact putParts_names (fun q hq => hp q (List.mem_cons_of_mem _ hq)) (splice_names hz (AV.leaves_names (hp (i, v) (List.mem_cons_self ..)) hcs)) he
    · cases he

theorem parts_names {S : Sit} {fr : Nat → AV} {a : Act} (F : FRel S fr a) (parts : Array (Nat × Operand)) : ∀ q ∈ parts.toList.map (fun p => (p.1, ev fr p.2)), q.2.names (fun m => S.hp m ≠ .free) := by
  intro q hq
  obtain ⟨p, _, rfl⟩ := List.mem_map.1 hq
  exact ev_names F _

theorem sound_build (hΓ : Γ.ok P = true) {o : Oper} {t : Nat} {parts : Array (Nat × Operand)} (ho : o.op = .build t parts) (H : HRel S) (F : FRel S fr a)
    (h : (aop Γ nm (ev fr) (.build t parts)).run call K S.hp = some r) (hP : Post S K r fun v w => next (a.put o.dst v) w) : o.wp P a S.w next Q := by
  simp only [aop] at h
  obtain ⟨k, hk, h⟩ := run_opt_inv h
  have hok := TEnv.kind_ok hΓ hk
  obtain ⟨T⟩ := kOk_ty hok
  obtain ⟨hz, hz1⟩ := areZero_rel (S := S) T.zero
  have fin : ∀ (at_ place : Nat → Option (Nat × Nat)) (z : List AV), (∀ i p, at_ i = some p → place i = some p) →
      putParts at_ (parts.toList.map fun p => (p.1, ev fr p.2)) k.zero = some z →
      (∀ cells, Instr.fill place T.z.cells (parts.toList.map fun p => (p.1, a.eval p.2)) = some cells → P.built t (parts.toList.map fun p => (p.1, a.eval p.2)) = some cells) →
      K (.agg z) S.hp = some r → o.wp P a S.w next Q := by
    intro at_ place z hat hput hb hkk
    obtain ⟨cells, g1, g2, g3⟩ := fill_rel hat (by simp) (evs_rel F parts) hz hz1 hput
    have hrun := run_build S.w t (parts.map fun p => (p.1, a.eval p.2)) cells (by simpa using hb cells g1)
    refine wp_value (v := .agg cells) ?_ (hP.stay H hkk ?_ ?_)
    · simp only [execOp, ho, hrun, Sem.run_bind, Sem.run_pure, Result.andThen_ok]
    · unfold VRel; exact ⟨cells.toList, by simp, g2, g3⟩
    · unfold AV.names; exact putParts_names (parts_names F parts) (AV.namesL_closed _ (zero_closed k)) hput
  split at h
  · rename_i n el
    obtain ⟨z, hz, h⟩ := run_opt_inv h
    obtain ⟨E, hu, hE⟩ := kOk_arr hok
    obtain ⟨TE⟩ := kOk_ty hE
    refine fin _ (fun i => some (i * el.size, el.size)) z (fun i p hp => hp) hz ?_ (run_pure_inv h)
    intro cells hc
    simp only [Program.built, T.hi, hu, T.hz, TE.hi, TE.size]
    exact hc
  · obtain ⟨z, hz, h⟩ := run_opt_inv h
    obtain ⟨fs, places, hu, hm, hp⟩ := kOk_places hok rfl
    refine fin _ (places.toArray[·]?) z (fun i p hip => ?_) hz ?_ (run_pure_inv h)
    · simp only [Option.map_eq_some_iff] at hip
      obtain ⟨⟨o', fk⟩, h1, h2⟩ := hip
      subst h2
      simpa using hp i o' fk h1
    · intro cells hc
      have hm' : fs.toList.mapM (fun f => (P.info? f.type).map fun i => (f.offset, i.size)) = some places := hm
      simp only [Program.built, T.hi, hu, T.hz, hm']
      exact hc
  · obtain ⟨z, hz, h⟩ := run_opt_inv h
    obtain ⟨fs, places, hu, hm, hp⟩ := kOk_places hok rfl
    refine fin _ (places.toArray[·]?) z (fun i p hip => ?_) hz ?_ (run_pure_inv h)
    · simp only [Option.map_eq_some_iff] at hip
      obtain ⟨⟨o', fk⟩, h1, h2⟩ := hip
      subst h2
      simpa using hp i o' fk h1
    · intro cells hc
      have hm' : fs.toList.mapM (fun f => (P.info? f.type).map fun i => (f.offset, i.size)) = some places := hm
      simp only [Program.built, T.hi, hu, T.hz, hm']
      exact hc
  · obtain ⟨z, hz, h⟩ := run_opt_inv h
    obtain ⟨fs, places, hu, hm, hp⟩ := kOk_places hok rfl
    refine fin _ (places.toArray[·]?) z (fun i p hip => ?_) hz ?_ (run_pure_inv h)
    · simp only [Option.map_eq_some_iff] at hip
      obtain ⟨⟨o', fk⟩, h1, h2⟩ := hip
      subst h2
      simpa using hp i o' fk h1
    · intro cells hc
      have hm' : fs.toList.mapM (fun f => (P.info? f.type).map fun i => (f.offset, i.size)) = some places := hm
      simp only [Program.built, T.hi, hu, T.hz, hm']
      exact hc
  · cases h

theorem maxLen_val : maxLen = 9223372036854775807 := rfl

/-- a new row -/
theorem HRel.newRow {S : Sit} (H : HRel S) {n : Nat} (hf : S.hp n = .free) (el : Kind) (xs : List el.T) (cap : Nat) (c : Array Value) (E : TypeId) (w' : World) (hw : w'.heap = S.w.heap.push (.cells c E))
    (hlc : xs.length ≤ cap) (hcap : cap ≤ maxLen) (hc : c.size = cap * el.size)
    (hel : ∀ i, i < xs.length → ∃ us, RelK S.w S.I el (xs.getD i el.dflt) us ∧ ∀ j u, us[j]? = some u → c[i * el.size + j]? = some u) (hq : SameOut S.w w' := by first | exact ⟨rfl, rfl⟩ | (simp only [SameOut, *]; first | done | exact ⟨rfl, rfl⟩ | exact ⟨trivial, trivial⟩)) :
    let T : Sit := { S with w := w', ρ := upd S.ρ n (.slice (some ⟨S.w.heap.size, 0, none⟩) xs.length cap), hp := upd S.hp n (.row el xs) }
    HRel T ∧ Ext Top S T ∧ VRel T (.ref n) (.slice (some ⟨S.w.heap.size, 0, none⟩) xs.length cap) ∧ (AV.ref n).names (fun m => T.hp m ≠ .free) := by
  intro T
  obtain ⟨H', E'⟩ := H.alloc hf (.row el xs) (.slice (some ⟨S.w.heap.size, 0, none⟩) xs.length cap) w' _ hw rfl
    (fun cs hcs => by cases hcs)
    (fun E' => .inr ⟨S.w.heap.size, cap, c, E, by simp [rowAtV, upd_same], by simp [hw], fun hI => Nat.lt_irrefl _ (H.il _ hI), H.newB, hlc, hcap, hc, fun i hi => by
      obtain ⟨us, h1, h2⟩ := hel i hi
      exact ⟨us, RelK.ext E' h1, h2⟩⟩) hq
  refine ⟨H', E', ?_, ?_⟩
  · unfold VRel
    refine ⟨rfl, ?_⟩
    simp only [T, upd_same]
  · unfold AV.names; simp [T, upd_same]

/-- a slice literal's cells -/
theorem buildSlice_run {o : Oper} {t n : Nat} {parts : Array (Nat × Operand)} (ho : o.op = .buildSlice t n parts) (F : FRel S fr a) {el : Kind} {E : TypeId} (hu : P.underlying t = some (.slice E)) (TE : TyIs P el E)
    (hlim : n ≤ 16777216 ∧ n * el.size ≤ 16777216) {z : List AV} (hz : putParts (fun i => some (i * el.size, el.size)) (parts.toList.map fun p => (p.1, ev fr p.2)) ((List.replicate n el.zero).flatten) = some z) :
    ∃ cells : Array Value, VRelL S z cells.toList ∧ (∀ u ∈ cells.toList, u.oneCell' = true) ∧ (execOp a.eval o).run P S.w = .ok (.value (.slice (some ⟨S.w.heap.size, 0, none⟩) n n)) (S.w.alloc (.cells cells E)) := by
  obtain ⟨hz0, hz1⟩ := areZero_rel (S := S) TE.zero
  have hzl : TE.z.cells.size = el.size := by
    have := RelK.length el (zero_rel (w := S.w) (I := S.I) el TE.zero)
    simpa using this
  have hrep : ∀ m, VRelL S ((List.replicate m el.zero).flatten) ((List.replicate m TE.z.cells.toList).flatten) ∧ ∀ u ∈ (List.replicate m TE.z.cells.toList).flatten, u.oneCell' = true := by
    intro m
    induction m with
    | zero => exact ⟨.nil, by simp⟩
    | succ m ih =>
      rw [List.replicate_succ, List.replicate_succ, List.flatten_cons, List.flatten_cons]
      exact ⟨hz0.append ih.1, fun u hu => (List.mem_append.1 hu).elim (hz1 u) (ih.2 u)⟩
  have hmade := madeCells_list TE.z.cells n
  obtain ⟨cells, g1, g2, g3⟩ := fill_rel (at_ := fun i => some (i * el.size, el.size)) (place := fun i => some (i * el.size, el.size)) (cells := madeCells TE.z.cells (n * TE.z.cells.size))
    (fun i p hp => hp) (by simp) (evs_rel F parts) (by rw [hmade]; exact (hrep n).1) (by rw [hmade]; exact (hrep n).2) hz
  refine ⟨cells, g2, g3, ?_⟩
  have hfill : Instr.fill (fun i => some (i * el.size, el.size)) ((Array.range (n * el.size)).map (TE.z.cells[· % TE.z.cells.size]!)) (parts.toList.map fun p => (p.1, a.eval p.2)) = some cells := by
    rw [hzl] at g1; exact g1
  have hsz2 := TE.run_size S.w
  simp only [execOp, ho, Instr.buildSlice, Sem.run_bind, run_underlying hu, Result.andThen_ok, hsz2]
  rw [if_neg (by omega)]
  by_cases h0 : n * el.size = 0
  · rw [if_pos h0]
    have hfill0 : Instr.fill (fun i => some (i * el.size, el.size)) ((Array.range (n * el.size)).map ((#[] : Array Value)[· % (#[] : Array Value).size]!)) (parts.toList.map fun p => (p.1, a.eval p.2)) = some cells := by
      have e0 : ∀ f : Nat → Value, (Array.range 0).map f = #[] := fun f => by apply Array.ext'; simp
      rw [← hfill, h0, e0, e0]
    simp only [Sem.run_bind, Sem.run_pure, Result.andThen_ok, Array.toList_map]
    rw [hfill0]
    simp [Go.newRow]
  · rw [if_neg h0]
    simp only [Sem.run_bind, Sem.run_pure, Result.andThen_ok, TE.run_zero, Array.toList_map]
    rw [hfill]
    simp [Go.newRow]

theorem mrow_mk {n : Nat} {T : Sit} {v : Value} {k v' : Kind} {ess : List (List (k.T × v'.T))} {ms : List Value} (h1 : v.oneCell' = true) (h : T.hp n = .mrow k v' ess) (hv : T.ρ n = .tuple (v :: ms).toArray) : VRel T (.ref n) v := by
  unfold VRel
  rw [h]
  exact ⟨h1, ms, hv⟩

theorem sound_buildSlice (hΓ : Γ.ok P = true) {o : Oper} {t n : Nat} {parts : Array (Nat × Operand)} (ho : o.op = .buildSlice t n parts) (H : HRel S) (F : FRel S fr a)
    (h : (aop Γ nm (ev fr) (.buildSlice t n parts)).run call K S.hp = some r) (hP : Post S K r fun v w => next (a.put o.dst v) w) : o.wp P a S.w next Q := by
  simp only [aop] at h
  obtain ⟨k, hk, h⟩ := run_opt_inv h
  have hok := TEnv.kind_ok hΓ hk
  split at h
  · split at h
    · rename_i m hparts _
      · replace h := run_rd_inv h
        split at h
        · rename_i k v es hm
          obtain ⟨hf, h⟩ := run_new_inv (run_wr_inv h)
          obtain ⟨E, hu, hE⟩ := kOk_slice hok
          obtain ⟨TE⟩ := kOk_ty hE
          have hz : putParts (fun i => some (i * (Kind.dyn 1).size, (Kind.dyn 1).size)) (parts.toList.map fun p => (p.1, ev fr p.2)) ((List.replicate 1 (Kind.dyn 1).zero).flatten) = some [.mapr m] := by
            rw [hparts]
            rfl
          obtain ⟨cells, g1, g2, hrun⟩ := buildSlice_run ho F hu TE ⟨by omega, by show 1 * 1 ≤ _; omega⟩ hz
          obtain ⟨mv, s, e, g3, g4⟩ := g1.cons_inv
          have := g4.nil_inv
          subst this
          have hmlive : cellLive (S.hp m) := by rw [hm]; rfl
          have hmn : m ≠ nm := fun e => by subst e; rw [upd_same] at hf; cases hf
          have hf' : S.hp nm = .free := by rw [upd_other (fun e => hmn e.symm)] at hf; exact hf
          obtain ⟨H1, E1⟩ := H.bury hmlive (fun _ => False) (fun b hb => hb.elim)
          have hI1 : (fun b => S.I b ∨ False) = S.I := by funext b; simp
          rw [hI1] at H1 E1
          have hob := H.ob m
          rw [hm] at hob
          obtain ⟨r', ents, cl, o1, o2, o3, o4, o5⟩ := hob
          unfold VRel at g3
          rw [hm] at g3
          have emv : mv = .map (some r') := g3.2.trans o1
          have ecells : cells = #[.map (some r')] := by apply Array.ext'; rw [e, emv]
          have hr'lt := (Array.getElem?_eq_some_iff.1 o2).1
          obtain ⟨H2, E2⟩ := H1.fresh hf (.mrow k v [es]) (.tuple (.slice (some ⟨S.w.heap.size, 0, none⟩) 1 1 :: [.map (some r')]).toArray) (S.w.alloc (.cells cells E)) (by simp)
            (fun b hb _ => getElem?_push_lt hb)
            (fun b hb => by
              obtain ⟨u, hu, hb⟩ := hb
              simp only [List.mem_cons, List.not_mem_nil, or_false] at hu
              rcases hu with rfl | rfl
              · replace hb : some S.w.heap.size = some b := hb
                cases hb
                exact ⟨fun hI => Nat.lt_irrefl _ (H.il _ hI), H.newB, fun q hq hbq => Nat.lt_irrefl _ (H1.lt hq hbq)⟩
              · replace hb : some r' = some b := hb
                cases hb
                refine ⟨o3, o4, fun q hq hbq => ?_⟩
                by_cases hqm : q = m
                · subst hqm; simp only [upd_same] at hq; cases hq
                · simp only [upd_other hqm] at hq
                  exact H.ds m q r' (fun e => hqm e.symm) hmlive hq (by rw [o1]; exact rfl) hbq)
            (fun cs hcs => by cases hcs)
            (fun E2 => ⟨S.w.heap.size, 1, cells, E, [.map (some r')], by simp only [upd_same]; rfl, heap_alloc_new _ _, fun hI => Nat.lt_irrefl _ (H.il _ hI), H.newB, by simp, by rw [maxLen_val]; omega, by rw [ecells]; rfl, rfl, fun i j u u' hij hi hj => by (cases i <;> cases j <;> simp at hij hi hj),
              fun i u hu => by
                cases i with
                | zero =>
                  simp only [List.getElem?_cons_zero, Option.some.injEq] at hu
                  subst hu
                  refine ⟨by rw [ecells]; rfl, fun e => ?_⟩
                  replace e : some r' = some S.w.heap.size := e
                  cases e
                  exact Nat.lt_irrefl _ hr'lt
                | succ i => simp at hu,
              fun i es' hes => by
                cases i with
                | zero =>
                  simp only [List.getElem?_cons_zero, Option.some.injEq] at hes
                  subst hes
                  exact ⟨_, rfl, r', ents, cl, rfl, (getElem?_push_lt hr'lt).trans o2, o3, o4, (o5.1.ext E1).ext E2, o5.2⟩
                | succ i => simp at hes⟩)
          refine wp_value hrun (hP (.ref nm) _ _ h H2 (E1.trans E2) (mrow_mk rfl (by simp only [upd_same]; rfl) (by simp only [upd_same]; rfl)) ?_)
          unfold AV.names; simp [upd_same]
        · cases h
    · cases h
  · rename_i el _
    split at h
    · rename_i hlim
      obtain ⟨z, hz, h⟩ := run_opt_inv h
      obtain ⟨xs, hxs, h⟩ := run_opt_inv h
      obtain ⟨E, hu, hE⟩ := kOk_slice hok
      obtain ⟨TE⟩ := kOk_ty hE
      obtain ⟨cells, g2, g3, hrun⟩ := buildSlice_run ho F hu TE hlim hz
      obtain ⟨hn, hrel⟩ := listOf_rel g2 hxs
      have hsz : cells.size = n * el.size := by
        have := hrel.length (fun x vs hh => RelK.length el hh)
        rw [hn] at this
        simpa using this
      replace hrun : (execOp a.eval o).run P S.w = .ok (.value (.slice (some ⟨S.w.heap.size, 0, none⟩) xs.length n)) (S.w.alloc (.cells cells E)) := by rw [hn]; exact hrun
      split at h
      · rename_i himm
        have halloc : (S.w.alloc (.cells cells E)).heap = S.w.heap.push (.cells cells E) := rfl
        have E1 : Ext Top S { S with w := S.w.alloc (.cells cells E), I := fun b => S.I b ∨ b = S.w.heap.size } := by
          refine ⟨fun b hb => ⟨.inl hb, getElem?_push_lt (H.il b hb)⟩, by rw [halloc]; simp, rfl, fun b hb => getElem?_push_lt (H.bl b hb), fun m _ hm => ?_, fun m _ hm => hm, fun b hb hlt => hb.elim id fun e => absurd hlt (e ▸ H.newB), ⟨rfl, rfl⟩⟩
          by_cases hl : cellLive (S.hp m)
          · exact .inr ⟨rfl, sameShape_refl hl⟩
          · left
            cases hcc : S.hp m <;> rw [hcc] at hl hm <;> simp [cellLive, Cell.live] at hl hm ⊢
        have H1 : HRel { S with w := S.w.alloc (.cells cells E), I := fun b => S.I b ∨ b = S.w.heap.size } :=
          H.world E1 rfl rfl (fun b hb => getElem?_push_lt hb) (fun b hb hI => hI.elim id fun e => by omega)
            (fun b hb => by
              have e : (S.w.alloc (.cells cells E)).heap.size = S.w.heap.size + 1 := by rw [halloc]; simp
              rcases hb with hb | hb
              · have := H.il b hb; simp only [e]; omega
              · simp only [e]; omega)
        refine wp_value hrun (hP (.sl el xs) _ { S with w := S.w.alloc (.cells cells E), I := fun b => S.I b ∨ b = S.w.heap.size } (run_pure_inv h) H1 E1 ?_ (AV.names_closed _ rfl))
        refine .sl_mk ⟨_, _, _, rfl, rfl, by omega, .inr ⟨S.w.heap.size, 0, rfl, .inr rfl, fun i hi => ?_⟩⟩
        obtain ⟨us, h1, h2⟩ := hrel.get (d := el.dflt) (fun x vs hh => RelK.length el hh) i (by simpa using hi)
        refine ⟨us, RelK.ext E1 h1, fun j u hu => ?_⟩
        rw [cell_of_row (S.w.alloc (.cells cells E)) S.w.heap.size _ cells E (0, 0) (by rw [halloc]; simp), Nat.zero_add]
        have := h2 j u hu
        simpa using this
      · obtain ⟨hf, h⟩ := run_new_inv h
        obtain ⟨H', E', hv, hnm⟩ := H.newRow hf el xs n cells E (S.w.alloc (.cells cells E)) rfl (by omega) (by rw [maxLen_val]; omega) (by rw [hsz])
          (fun i hi => by
            obtain ⟨us, h1, h2⟩ := hrel.get (d := el.dflt) (fun x vs hh => RelK.length el hh) i hi
            exact ⟨us, h1, fun j u hu => by have := h2 j u hu; simpa using this⟩)
        exact wp_value hrun (hP (.ref nm) _ _ h H' E' hv hnm)
    · cases h
  · cases h

theorem sound_fieldAddr (hΓ : Γ.ok P = true) {o : Oper} {t f : Nat} {x : Operand} (ho : o.op = .fieldAddr t x f) (H : HRel S) (F : FRel S fr a)
    (h : (aop Γ nm (ev fr) (.fieldAddr t x f)).run call K S.hp = some r) (hP : Post S K r fun v w => next (a.put o.dst v) w) : o.wp P a S.w next Q := by
  simp only [aop] at h
  obtain ⟨k, hk, h⟩ := run_opt_inv h
  have hok := TEnv.kind_ok hΓ hk
  obtain ⟨⟨off, fk⟩, hfa, h⟩ := run_opt_inv h
  obtain ⟨fs, fld, hu, hfs, hoff, ⟨T⟩, hsz⟩ := kOk_field hok hfa
  have hx := ev_rel F x
  have hn := ev_names F x
  split at h
  · cases h
  · rename_i hne
    have fin : ∀ (b oo : Nat) (v : AV), a.eval x = .pointer (some ⟨b, oo, none⟩) → K v S.hp = some r → VRel S v (.pointer (some ⟨b, oo + off, none⟩)) → v.names (fun m => S.hp m ≠ .free) → o.wp P a S.w next Q := by
      intro b oo v hp hkk hv hnn
      refine wp_value (v := .pointer (some ⟨b, oo + off, none⟩)) ?_ (hP.stay H hkk hv hnn)
      simp only [execOp, ho, hp, Instr.fieldAt, Sem.run_bind, run_underlying hu, Result.andThen_ok, hfs, Instr.sureAddr, Sem.run_pure, fieldPlace, T.run_size]
      rw [if_neg hne]
      simp [Addr.add_lit, hoff]
    split at h
    · rename_i n oo he
      rw [he] at hx hn
      unfold VRel at hx
      obtain ⟨h1, h2⟩ := hx
      replace h := run_rd_inv h
      split at h
      · rename_i cs hc
        rw [hc] at h2
        obtain ⟨b, hb, hp⟩ := h2
        exact fin b oo _ hp (run_pure_inv h) (by unfold VRel; refine ⟨rfl, ?_⟩; rw [hc]; exact ⟨b, hb, rfl⟩) hn
      · cases h
    · rename_i n i sub he
      rw [he] at hx hn
      unfold VRel at hx
      obtain ⟨h1, h2⟩ := hx
      replace h := run_rd_inv h
      split at h
      · rename_i el xs hc
        rw [hc] at h2
        obtain ⟨hi, b, cap, hb, hp⟩ := h2
        exact fin b _ _ hp (run_pure_inv h) (by unfold VRel; refine ⟨rfl, ?_⟩; rw [hc]; exact ⟨hi, b, cap, hb, by rw [Nat.add_assoc]⟩) hn
      · cases h
    · rename_i cs he
      rw [he] at hx hn
      unfold VRel at hx
      obtain ⟨b, oo, us, hp, hI, h1, h2, h3⟩ := hx
      unfold AV.names at hn
      refine fin b oo _ hp (run_pure_inv h) ?_ (by unfold AV.names; exact namesL_drop _ hn)
      unfold VRel
      exact ⟨b, oo + off, us.drop off, rfl, hI, h1.drop off, h2.drop off, fun u hu => h3 u (List.mem_of_mem_drop hu)⟩
    · cases h

theorem sound_field (hΓ : Γ.ok P = true) {o : Oper} {t f : Nat} {x : Operand} (ho : o.op = .field t x f) (H : HRel S) (F : FRel S fr a)
    (h : (aop Γ nm (ev fr) (.field t x f)).run call K S.hp = some r) (hP : Post S K r fun v w => next (a.put o.dst v) w) : o.wp P a S.w next Q := by
  simp only [aop] at h
  obtain ⟨k, hk, h⟩ := run_opt_inv h
  have hok := TEnv.kind_ok hΓ hk
  obtain ⟨⟨off, fk⟩, hfa, h⟩ := run_opt_inv h
  obtain ⟨fs, fld, hu, hfs, hoff, ⟨T⟩, hsz⟩ := kOk_field hok hfa
  have hx := ev_rel F x
  have hn := ev_names F x
  split at h
  · rename_i cs he
    rw [he] at hx hn
    split at h
    · rename_i hlen
      obtain ⟨v, hv, h⟩ := run_opt_inv h
      unfold VRel at hx
      obtain ⟨vs, hp, h1, h2⟩ := hx
      unfold AV.names at hn
      have hvl := h1.length
      obtain ⟨hl, hr⟩ := res_rel ((h1.drop off).take fk.size) (fun u hu => h2 u (List.mem_of_mem_drop (List.mem_of_mem_take hu))) hv
      refine wp_value ?_ (hP.stay H (run_pure_inv h) hr (res_names (namesL_take _ (namesL_drop _ hn)) hv))
      simp only [execOp, ho, hp, Instr.field, Sem.run_bind, run_underlying hu, Result.andThen_ok, hfs, asAgg, Sem.run_pure, part, T.agg S.w, hoff]
      cases ha : fk.isAgg with
      | true =>
        simp only [if_true, Sem.run_bind, T.run_size, Result.andThen_ok, Sem.run_pure]
        congr 3
        apply Array.ext'
        simp [List.extract_eq_take_drop]
      | false =>
        have h1' := Kind.size_leaf ha
        simp only [Bool.false_eq_true, if_false]
        have hlt : off < vs.length := by omega
        simp [h1', hlt, List.headD_eq_head?_getD, List.head?_take, List.head?_drop]
    · cases h
  · cases h

theorem run_indexAt_slice {t E : TypeId} {es : Nat} {b oo len cap : Nat} {k : IntKind} {z : Int} {w : World} (hu : P.underlying t = some (.slice E)) (hs : (sizeOf E).run P w = .ok es w)
    (h0 : 0 ≤ z) (h1 : z < (len : Int)) : (Instr.indexAt t (.slice (some ⟨b, oo, none⟩) len cap) (.int k z)).run P w = .ok (.pointer (some ⟨b, oo + z.toNat * es, none⟩)) w := by
  simp [Instr.indexAt, asIntOf, run_underlying hu, h0, h1, hs, Addr.add_lit]

theorem sound_indexAddr (hΓ : Γ.ok P = true) {o : Oper} {t : Nat} {x i : Operand} (ho : o.op = .indexAddr t x i) (H : HRel S) (F : FRel S fr a)
    (h : (aop Γ nm (ev fr) (.indexAddr t x i)).run call K S.hp = some r) (hP : Post S K r fun v w => next (a.put o.dst v) w) : o.wp P a S.w next Q := by
  simp only [aop] at h
  obtain ⟨k, hk, h⟩ := run_opt_inv h
  have hok := TEnv.kind_ok hΓ hk
  have hx := ev_rel F x
  have hn := ev_names F x
  have hi := ev_rel F i
  split at h
  · rename_i ke ik z hz
    obtain ⟨E, hu, hE⟩ := kOk_slice hok
    obtain ⟨TE⟩ := kOk_ty hE
    rw [hz] at hi
    have hi := hi.int_inv
    have fin : ∀ (b oo len cap : Nat) (v : AV), a.eval x = .slice (some ⟨b, oo, none⟩) len cap → 0 ≤ z → z < (len : Int) → K v S.hp = some r →
        VRel S v (.pointer (some ⟨b, oo + z.toNat * ke.size, none⟩)) → v.names (fun m => S.hp m ≠ .free) → o.wp P a S.w next Q := by
      intro b oo len cap v hp h0 h1 hkk hv hnn
      refine wp_value ?_ (hP.stay H hkk hv hnn)
      simp only [execOp, ho, hp, hi, Sem.run_bind, run_indexAt_slice hu (TE.run_size S.w) h0 h1, Result.andThen_ok, Sem.run_pure]
    split at h
    · rename_i el xs hxs
      split at h
      · rename_i hke
        subst hke
        obtain ⟨hc, h⟩ := run_brf_inv h
        simp only [decide_eq_true_eq] at hc
        rw [hxs] at hx
        obtain ⟨ad, len, cap, hp, hl, hcap, hs⟩ := hx.sl_inv
        have hp : a.eval x = .slice ad len cap := by simpa using hp
        rcases hs with hs | ⟨b, oo, rfl, hI, hs⟩
        · omega
        · obtain ⟨us, h1, h2⟩ := hs z.toNat (by omega)
          refine fin b oo len cap _ hp hc.1 (by omega) (run_pure_inv h) ?_ (by unfold AV.names; exact flat_names el _)
          unfold VRel
          exact ⟨b, _, us, rfl, hI, flat_rel el h1, h2, RelK.ones el h1⟩
      · cases h
    · rename_i n hxs
      replace h := run_rd_inv h
      rw [hxs] at hx hn
      unfold VRel at hx
      split at h
      · rename_i el xs hcs
        split at h
        · rename_i hke
          subst hke
          obtain ⟨hc, h⟩ := run_brf_inv h
          simp only [decide_eq_true_eq] at hc
          rw [hcs] at hx
          obtain ⟨_, hp⟩ := hx
          have ho' := H.ob n
          rw [hcs] at ho'
          rcases ho' with ⟨g1, g2⟩ | ⟨b, cap, c, E', g1, g2, g3, g4, g5, g6, g7, g8⟩
          · omega
          · refine fin b 0 xs.length cap _ (by rw [hp]; exact g1) hc.1 hc.2 (run_pure_inv h) ?_ hn
            unfold VRel
            refine ⟨rfl, ?_⟩
            rw [hcs]
            exact ⟨by omega, b, cap, g1, by simp⟩
        · cases h
      · rename_i k' v' ess hcs
        split at h
        · rename_i hke
          subst hke
          obtain ⟨hc, h⟩ := run_brf_inv h
          simp only [decide_eq_true_eq] at hc
          rw [hcs] at hx
          obtain ⟨_, ms0, hp⟩ := hx
          have ho' := H.ob n
          rw [hcs] at ho'
          obtain ⟨b, cap, c, E', ms, g1, _⟩ := ho'
          obtain ⟨e1, _⟩ := tuple_inj (g1.symm.trans hp)
          refine fin b 0 ess.length cap _ e1.symm hc.1 hc.2 (run_pure_inv h) ?_ hn
          unfold VRel
          refine ⟨rfl, ?_⟩
          rw [hcs]
          exact ⟨by omega, b, cap, ms, g1, by simp [Kind.size]⟩
        · cases h
      · cases h
    · rename_i n j hxs
      replace h := run_rd_inv h
      rw [hxs] at hx hn
      unfold VRel at hx
      split at h
      · rename_i el xs hcs
        split at h
        · rename_i hke
          subst hke
          obtain ⟨hc, h⟩ := run_brf_inv h
          simp only [decide_eq_true_eq] at hc
          rw [hcs] at hx
          obtain ⟨_, ad, cap, hp1, hj, hp⟩ := hx
          have ho' := H.ob n
          rw [hcs] at ho'
          rcases ho' with ⟨g1, g2⟩ | ⟨b, cap', c, E', g1, g2, g3, g4, g5, g6, g7, g8⟩
          · omega
          · have : ad = some ⟨b, 0, none⟩ ∧ cap = cap' := by unfold rowAtV at g1; rw [g1] at hp1; simp at hp1; exact ⟨hp1.1.symm, hp1.2.symm⟩
            obtain ⟨rfl, rfl⟩ := this
            refine fin b 0 j cap _ hp hc.1 hc.2 (run_pure_inv h) ?_ hn
            unfold VRel
            refine ⟨rfl, ?_⟩
            rw [hcs]
            exact ⟨by omega, b, cap, g1, by simp⟩
        · cases h
      · cases h
    · cases h
  · rename_i cnt ike ik z hz
    obtain ⟨E, hu, hE⟩ := kOk_arr hok
    obtain ⟨TE⟩ := kOk_ty hE
    rw [hz] at hi
    have hi := hi.int_inv
    split at h
    · rename_i n off hxs
      replace h := run_rd_inv h
      rw [hxs] at hx hn
      unfold VRel at hx
      split at h
      · rename_i cs hcs
        split at h
        · rename_i hfit
          obtain ⟨hc, h⟩ := run_brf_inv h
          simp only [decide_eq_true_eq] at hc
          rw [hcs] at hx
          obtain ⟨_, b, hb, hp⟩ := hx
          refine wp_value (v := .pointer (some ⟨b, off + z.toNat, none⟩)) ?_ (hP.stay H (run_pure_inv h) ?_ hn)
          · have hsz := TE.run_size S.w
            rw [show Kind.size (.int ike) = 1 from rfl] at hsz
            simp [execOp, ho, hp, hi, Instr.indexAt, asIntOf, run_underlying hu, Instr.sureAddr, hc.1, hc.2, hsz, Addr.add_lit]
          · unfold VRel
            refine ⟨rfl, ?_⟩
            rw [hcs]
            exact ⟨by omega, hfit, b, hb, rfl⟩
        · cases h
      · cases h
    · rename_i n i0 sub hxs
      replace h := run_rd_inv h
      rw [hxs] at hx hn
      unfold VRel at hx
      split at h
      · rename_i el xs hcs
        obtain ⟨hc, h⟩ := run_brf_inv h
        simp only [decide_eq_true_eq] at hc
        rw [hcs] at hx
        obtain ⟨_, hi0, b, cap, hb, hp⟩ := hx
        refine wp_value (v := .pointer (some ⟨b, i0 * el.size + sub + z.toNat, none⟩)) ?_ (hP.stay H (run_pure_inv h) ?_ hn)
        · have hsz := TE.run_size S.w
          rw [show Kind.size (.int ike) = 1 from rfl] at hsz
          simp [execOp, ho, hp, hi, Instr.indexAt, asIntOf, run_underlying hu, Instr.sureAddr, hc.1, hc.2, hsz, Addr.add_lit]
        · unfold VRel
          refine ⟨rfl, ?_⟩
          rw [hcs]
          exact ⟨hi0, b, cap, hb, by rw [Nat.add_assoc]⟩
      · cases h
    · cases h
  · cases h

theorem sound_index (hΓ : Γ.ok P = true) {o : Oper} {t : Nat} {x i : Operand} (ho : o.op = .index t x i) (H : HRel S) (F : FRel S fr a)
    (h : (aop Γ nm (ev fr) (.index t x i)).run call K S.hp = some r) (hP : Post S K r fun v w => next (a.put o.dst v) w) : o.wp P a S.w next Q := by
  simp only [aop] at h
  obtain ⟨k, hk, h⟩ := run_opt_inv h
  have hok := TEnv.kind_ok hΓ hk
  have hx := ev_rel F x
  have hi := ev_rel F i
  split at h
  · rename_i s ik z hs hz
    obtain ⟨hc, h⟩ := run_brf_inv h
    simp only [decide_eq_true_eq] at hc
    rw [hs] at hx
    rw [hz] at hi
    have hp := hx.str_inv
    have hi := hi.int_inv
    have hlt : z.toNat < s.length := by omega
    refine wp_value (v := .int .u8 ((s.getD z.toNat 0).toNat : Int)) ?_ (hP.stay H (run_pure_inv h) .int_mk (by unfold AV.names; trivial))
    have hg : (ByteArray.mk s.toArray)[z.toNat]? = some (s.getD z.toNat 0) := by
      rw [getElem?_pos _ _ (by simpa [ByteArray.size] using hlt)]
      simp [List.getD_eq_getElem?_getD, List.getElem?_eq_getElem hlt, ByteArray.getElem_eq_getElem_data]
    simp [execOp, ho, hp, hi, Instr.index, asIntOf, run_underlying (kOk_str hok), strOf, hc.1, hg]
  · rename_i n ike cs ik z hcs hz
    obtain ⟨l, hl, h⟩ := run_opt_inv h
    split at h
    · rename_i hn
      obtain ⟨hc, h⟩ := run_brf_inv h
      simp only [decide_eq_true_eq] at hc
      obtain ⟨E, hu, hE⟩ := kOk_arr hok
      obtain ⟨TE⟩ := kOk_ty hE
      have hsz := TE.run_size S.w
      rw [show Kind.size (.int ike) = 1 from rfl] at hsz
      rw [hcs] at hx
      rw [hz] at hi
      have hi := hi.int_inv
      unfold VRel at hx
      obtain ⟨vs, hp, h1, h2⟩ := hx
      obtain ⟨e1, e2⟩ := intsOf_rel h1 hl
      have hlt : z.toNat < l.length := by omega
      refine wp_value (v := .int ike (l.getD z.toNat 0)) ?_ (hP.stay H (run_pure_inv h) .int_mk (by unfold AV.names; trivial))
      have hag := TE.agg S.w
      simp [execOp, ho, hp, hi, Instr.index, asIntOf, run_underlying hu, hc.1, hc.2, hsz, part, hag, Kind.isAgg, e1, hlt]
    · cases h
  · cases h

end ops
end Go.AM

/- Equality of plain values, keys of maps. -/
namespace Go.AM
open Go

theorem run_part {P : Program} {k : Kind} {t : TypeId} (T : TyIs P k t) {w : World} {I : Nat → Prop} {x : k.T} {l pre post : List Value} {cs : Array Value} {off : Nat}
    (hc : cs.toList = pre ++ l ++ post) (hp : pre.length = off) (h : RelK w I k x l) : ∃ v, (part t cs off).run P w = .ok v w ∧ VK w I k x v := by
  have hl := RelK.length k h
  cases ha : k.isAgg with
  | true =>
    refine ⟨.agg l.toArray, ?_, by unfold VK; rw [if_pos ha]; exact ⟨l, rfl, h⟩⟩
    simp only [part, Sem.run_bind, T.agg w, Result.andThen_ok, ha, if_true, T.run_size, Sem.run_pure]
    congr 3
    apply Array.ext'
    subst hp
    rw [Array.toList_extract, hc, ← hl]
    simp [List.extract_eq_take_drop]
  | false =>
    have h1 := Kind.size_leaf ha
    rw [h1] at hl
    match l, hl with
    | [u], _ =>
      refine ⟨u, ?_, by unfold VK; rw [if_neg (by simp [ha])]; exact h⟩
      have : cs[off]? = some u := by
        rw [← Array.getElem?_toList, hc]
        subst hp
        simp
      simp [part, T.agg w, ha, this]

theorem VK.leaf {w : World} {I : Nat → Prop} {k : Kind} {x : k.T} {v : Value} (h : VK w I k x v) (ha : k.isAgg = false) : RelK w I k x [v] := by
  unfold VK at h; rw [if_neg (by simp [ha])] at h; exact h
theorem VK.agg {w : World} {I : Nat → Prop} {k : Kind} {x : k.T} {v : Value} (h : VK w I k x v) (ha : k.isAgg = true) : ∃ vs : List Value, v = .agg vs.toArray ∧ RelK w I k x vs := by
  unfold VK at h; rw [if_pos ha] at h; exact h

theorem strOf_eq (a b : List UInt8) : (ByteArray.mk a.toArray == ByteArray.mk b.toArray) = decide (a = b) := by
  have h1 : (ByteArray.mk a.toArray == ByteArray.mk b.toArray) = (a == b) := by
    show ((a.toArray : Array UInt8) == b.toArray) = (a == b)
    simp
  rw [h1]
  cases h : decide (a = b) with
  | true => simp only [decide_eq_true_eq] at h; subst h; simp
  | false => simp only [decide_eq_false_iff_not] at h; simp [h]

theorem toList_mk (a : List UInt8) : (ByteArray.mk a.toArray).toList = a := by
  rw [ByteArray.toList_eq]

section eq
variable {P : Program} {w : World} {I : Nat → Prop}

mutual
theorem equalIn_rel : ∀ {k : Kind} {t : TypeId}, kOk P k t = true → k.eqOk = true → ∀ d, k.deep ≤ d → ∀ {x y : k.T} {v u : Value}, VK w I k x v → VK w I k y u →
    (Op.equalIn d t v u).run P w = .ok (k.eqB x y) w
  | .bool, t, h, he, d, hd, x, y, v, u, hv, hu => by
    obtain ⟨d, rfl⟩ : ∃ e, d = e + 1 := ⟨d - 1, by simp [Kind.deep] at hd; omega⟩
    have e1 : v = .bool x := by simpa [RelK] using hv.leaf rfl
    have e2 : u = .bool y := by simpa [RelK] using hu.leaf rfl
    subst e1 e2
    simp [Op.equalIn, run_underlying (kOk_bool h), Kind.eqB]
  | .int k, t, h, he, d, hd, x, y, v, u, hv, hu => by
    obtain ⟨d, rfl⟩ : ∃ e, d = e + 1 := ⟨d - 1, by simp [Kind.deep] at hd; omega⟩
    have e1 : v = .int k x := by simpa [RelK] using hv.leaf rfl
    have e2 : u = .int k y := by simpa [RelK] using hu.leaf rfl
    subst e1 e2
    rw [run_equalIn_int w d t k k x y (kOk_int h)]
    congr 1
  | .str, t, h, he, d, hd, x, y, v, u, hv, hu => by
    obtain ⟨d, rfl⟩ : ∃ e, d = e + 1 := ⟨d - 1, by simp [Kind.deep] at hd; omega⟩
    have e1 : v = strOf x := by simpa [RelK] using hv.leaf rfl
    have e2 : u = strOf y := by simpa [RelK] using hu.leaf rfl
    subst e1 e2
    unfold strOf
    rw [run_equalIn_string w d t _ _ (kOk_str h), toList_mk, toList_mk]
    congr 1
    unfold Kind.eqB
    cases hh : decide ((x : List UInt8) = y) with
    | true => simp only [decide_eq_true_eq] at hh; rw [hh]; simp
    | false => simp only [decide_eq_false_iff_not] at hh; simp [hh]
  | .dyn _, t, h, he, _, _, _, _, _, _, _, _ => by simp [Kind.eqOk] at he
  | .slice _, t, h, he, _, _, _, _, _, _, _, _ => by simp [Kind.eqOk] at he
  | .rx, t, h, he, _, _, _, _, _, _, _, _ => by simp [Kind.eqOk] at he
  | .unit, t, h, he, d, hd, x, y, v, u, hv, hu => by
    obtain ⟨d, rfl⟩ : ∃ e, d = e + 1 := ⟨d - 1, by simp [Kind.deep] at hd; omega⟩
    unfold kOk at h
    simp only [Bool.and_eq_true, Bool.not_eq_true'] at h
    split at h
    · rename_i fs hut
      have hfs : P.fieldsOf t = fs := by simp [Program.fieldsOf, hut]
      have hnil : fs.toList = [] := by simpa using h.2
      obtain ⟨l, rfl, hl⟩ := hv.agg rfl
      obtain ⟨m, rfl, hm⟩ := hu.agg rfl
      rw [run_equalIn_struct w d t _ _ (by rw [hfs]; exact hut) h.1.2, hfs, hnil]
      rfl
    · simp at h
  | .pair a b, t, h, he, d, hd, x, y, v, u, hv, hu => by
    obtain ⟨d, rfl⟩ : ∃ e, d = e + 1 := ⟨d - 1, by simp [Kind.deep] at hd; omega⟩
    unfold kOk at h
    simp only [Bool.and_eq_true] at h
    split at h
    · rename_i fs hut
      have hfs : P.fieldsOf t = fs := by simp [Program.fieldsOf, hut]
      have hst : P.stoodInHeld t = false := by
        have := h.1.2
        rw [he] at this
        simpa using this
      obtain ⟨l, rfl, hl⟩ := hv.agg rfl
      obtain ⟨m, rfl, hm⟩ := hu.agg rfl
      rw [run_equalIn_struct w d t _ _ (by rw [hfs]; exact hut) hst, hfs]
      split at h
      · rename_i f r hlst
        simp only [Bool.and_eq_true, beq_iff_eq, bne_iff_ne, ne_eq] at h
        obtain ⟨_, ⟨⟨ho, hn⟩, hf⟩, hr⟩ := h
        rw [hlst]
        simp only [Kind.eqOk, Bool.and_eq_true] at he
        simp only [Kind.deep] at hd
        obtain ⟨l1, l2, rfl, h1, h2⟩ := hl
        obtain ⟨m1, m2, rfl, h3, h4⟩ := hm
        obtain ⟨T⟩ := kOk_ty hf
        obtain ⟨p, hp, hpv⟩ := run_part T (cs := (l1 ++ l2).toArray) (pre := []) (post := l2) (off := f.offset) (by simp) (by simp [ho]) h1
        obtain ⟨q, hq, hqv⟩ := run_part T (cs := (m1 ++ m2).toArray) (pre := []) (post := m2) (off := f.offset) (by simp) (by simp [ho]) h3
        have e1 := equalIn_rel hf he.1 d (by omega) hpv hqv
        simp only [Op.eqFields, hn, ne_eq, not_false_eq_true, if_true, Sem.run_bind, hp, hq, e1, Result.andThen_ok]
        rw [show Kind.eqB (.pair a b) x y = (a.eqB x.1 y.1 && b.eqB x.2 y.2) from rfl]
        cases a.eqB x.1 y.1 with
        | false => simp
        | true =>
          have hl1 := RelK.length a h1
          have hm1 := RelK.length a h3
          have := eqFields_rel (k := b) hr he.2 d (by omega) (pre := l1) (pre' := m1) (l := l2) (m := m2) (x := x.2) (y := y.2) hl1 hm1 h2 h4
          simpa using this
      · simp at h
    · simp at h
  | .arr n e, t, h, he, d, hd, x, y, v, u, hv, hu => by
    obtain ⟨d, rfl⟩ : ∃ e, d = e + 1 := ⟨d - 1, by simp [Kind.deep] at hd; omega⟩
    obtain ⟨E, hut, hE⟩ := kOk_arr h
    obtain ⟨T⟩ := kOk_ty hE
    obtain ⟨l, rfl, hlen, hl⟩ := hv.agg rfl
    obtain ⟨m, rfl, hlen', hm⟩ := hu.agg rfl
    rw [run_equalIn_array w d _ _ hut T.hi]
    have hcs : P.cellsOf E = e.size := by simp [Program.cellsOf, T.hi, T.size]
    simp only [Kind.eqOk] at he
    simp only [Kind.deep] at hd
    rw [hcs]
    have key : ∀ (xs ys : List e.T) (pre pre' l m : List Value) (i : Nat), xs.length = ys.length → pre.length = i * e.size → pre'.length = i * e.size → RelL (RelK w I e) xs l → RelL (RelK w I e) ys m →
        (Op.eqItems d E e.size (pre ++ l).toArray (pre' ++ m).toArray (List.range' i xs.length)).run P w = .ok (listEqB e.eqB xs ys) w := by
      intro xs
      induction xs with
      | nil =>
        intro ys pre pre' l m i hlen _ _ _ _
        match ys, hlen with
        | [], _ => rfl
      | cons z xs ih =>
        intro ys pre pre' l m i hlen hp hp' h1 h2
        match ys, hlen with
        | z' :: ys, hlen =>
          obtain ⟨l1, l2, rfl, g1, g2⟩ := h1
          obtain ⟨m1, m2, rfl, g3, g4⟩ := h2
          obtain ⟨p, hpp, hpv⟩ := run_part T (cs := (pre ++ (l1 ++ l2)).toArray) (pre := pre) (post := l2) (off := i * e.size) (by simp) hp g1
          obtain ⟨q, hqq, hqv⟩ := run_part T (cs := (pre' ++ (m1 ++ m2)).toArray) (pre := pre') (post := m2) (off := i * e.size) (by simp) hp' g3
          have e1 := equalIn_rel hE he d (by omega) hpv hqv
          rw [List.length_cons, List.range'_succ]
          simp only [Op.eqItems, Sem.run_bind, hpp, hqq, e1, Result.andThen_ok]
          unfold listEqB
          cases e.eqB z z' with
          | false => simp
          | true =>
            have := ih ys (pre ++ l1) (pre' ++ m1) l2 m2 (i + 1) (by simpa using hlen) (by rw [List.length_append, hp, RelK.length e g1, Nat.succ_mul]) (by rw [List.length_append, hp', RelK.length e g3, Nat.succ_mul]) g2 g4
            simpa using this
    have := key x y [] [] l m 0 (by rw [hlen, hlen']) (by simp) (by simp) hl hm
    rw [List.range_eq_range']
    rw [hlen] at this
    rw [show Kind.eqB (.arr n e) x y = listEqB e.eqB x y from rfl]
    simpa using this
theorem eqFields_rel : ∀ {k : Kind} {fs : List Field} {off : Nat}, fieldsOk P k fs off = true → k.eqOk = true → ∀ d, k.deep ≤ d + 1 → ∀ {x y : k.T} {pre pre' l m : List Value}, pre.length = off → pre'.length = off →
    RelK w I k x l → RelK w I k y m → (Op.eqFields d (pre ++ l).toArray (pre' ++ m).toArray fs).run P w = .ok (k.eqB x y) w
  | .unit, fs, off, h, he, d, hd, x, y, pre, pre', l, m, hp, hp', hl, hm => by
    cases fs with
    | nil => rfl
    | cons _ _ => simp [fieldsOk] at h
  | .pair a b, fs, off, h, he, d, hd, x, y, pre, pre', l, m, hp, hp', hl, hm => by
    cases fs with
    | nil => simp [fieldsOk] at h
    | cons f r =>
      simp only [fieldsOk, Bool.and_eq_true, beq_iff_eq, bne_iff_ne, ne_eq] at h
      obtain ⟨⟨⟨ho, hn⟩, hf⟩, hr⟩ := h
      simp only [Kind.eqOk, Bool.and_eq_true] at he
      simp only [Kind.deep] at hd
      obtain ⟨l1, l2, rfl, h1, h2⟩ := hl
      obtain ⟨m1, m2, rfl, h3, h4⟩ := hm
      obtain ⟨T⟩ := kOk_ty hf
      obtain ⟨p, hpp, hpv⟩ := run_part T (cs := (pre ++ (l1 ++ l2)).toArray) (pre := pre) (post := l2) (off := f.offset) (by simp) (by rw [ho]; exact hp) h1
      obtain ⟨q, hqq, hqv⟩ := run_part T (cs := (pre' ++ (m1 ++ m2)).toArray) (pre := pre') (post := m2) (off := f.offset) (by simp) (by rw [ho]; exact hp') h3
      have e1 := equalIn_rel hf he.1 d (by omega) hpv hqv
      simp only [Op.eqFields, hn, ne_eq, not_false_eq_true, if_true, Sem.run_bind, hpp, hqq, e1, Result.andThen_ok]
      rw [show Kind.eqB (.pair a b) x y = (a.eqB x.1 y.1 && b.eqB x.2 y.2) from rfl]
      cases a.eqB x.1 y.1 with
      | false => simp
      | true =>
        have := eqFields_rel (k := b) hr he.2 d (by omega) (pre := pre ++ l1) (pre' := pre' ++ m1) (l := l2) (m := m2) (x := x.2) (y := y.2)
          (by rw [List.length_append, hp, RelK.length a h1]) (by rw [List.length_append, hp', RelK.length a h3]) h2 h4
        simpa using this
  | .bool, fs, off, h, _, _, _, _, _, _, _, _, _, _, _, _, _ => by simp [fieldsOk] at h
  | .int _, fs, off, h, _, _, _, _, _, _, _, _, _, _, _, _, _ => by simp [fieldsOk] at h
  | .str, fs, off, h, _, _, _, _, _, _, _, _, _, _, _, _, _ => by simp [fieldsOk] at h
  | .dyn _, fs, off, h, _, _, _, _, _, _, _, _, _, _, _, _, _ => by simp [fieldsOk] at h
  | .slice _, fs, off, h, _, _, _, _, _, _, _, _, _, _, _, _, _ => by simp [fieldsOk] at h
  | .arr _ _, fs, off, h, _, _, _, _, _, _, _, _, _, _, _, _, _ => by simp [fieldsOk] at h
  | .rx, fs, off, h, _, _, _, _, _, _, _, _, _, _, _, _, _ => by simp [fieldsOk] at h
end
end eq
end Go.AM
