/- The abstract machine: kinds, abstract values, heap accesses, operations, execution. No proof here. -/
import Derived.Calls
import Derived.Orders
import Derived.CheckFast
import Derived.KernelRfl
namespace Go.AM

/-- A tree: {Kind int; Set [4]uint64; Kids []the same}. -/
inductive Rx where
  | mk (kind : Int) (set : List Int) (kids : List Rx)
  deriving Inhabited

def Rx.kind : Rx → Int | .mk k _ _ => k
def Rx.set : Rx → List Int | .mk _ s _ => s
def Rx.kids : Rx → List Rx | .mk _ _ l => l

/-- The data kinds ('rx': the tree). 'dyn': one cell that holds no plain data (0 pointer, 1 map, 2 func, 3 interface). -/
inductive Kind where
  | bool | int (k : IntKind) | str | dyn (d : Nat)
  | slice (e : Kind) | unit | pair (a b : Kind) | arr (n : Nat) (e : Kind)
  | rx
  | fnk   -- a function value that is a function of the program, or nil
  deriving DecidableEq, Inhabited

@[reducible] def Kind.T : Kind → Type
  | .bool => Bool
  | .int _ => Int
  | .str => List UInt8
  | .dyn _ => Unit
  | .slice e => List e.T
  | .unit => Unit
  | .pair a b => a.T × b.T
  | .arr _ e => List e.T
  | .rx => Rx
  | .fnk => Option Nat

def Kind.size : Kind → Nat
  | .unit => 0
  | .pair a b => a.size + b.size
  | .arr n e => n * e.size
  | .rx => 6
  | _ => 1

def Kind.isAgg : Kind → Bool
  | .unit | .pair _ _ | .arr _ _ | .rx => true
  | _ => false

def Kind.isSlice : Kind → Bool
  | .slice _ => true
  | _ => false

def Kind.dflt : (k : Kind) → k.T
  | .bool => false
  | .int _ => (0 : Int)
  | .str => ([] : List UInt8)
  | .dyn _ => ()
  | .slice _ => []
  | .unit => ()
  | .pair a b => (a.dflt, b.dflt)
  | .arr n e => List.replicate n e.dflt
  | .rx => Rx.mk 0 [0, 0, 0, 0] []
  | .fnk => (none : Option Nat)

/-- no cell without plain data -/
def Kind.plain : Kind → Bool
  | .dyn _ => false
  | .slice e => e.plain
  | .pair a b => a.plain && b.plain
  | .arr _ e => e.plain
  | _ => true

def listEqB {α : Type} (f : α → α → Bool) : List α → List α → Bool
  | [], [] => true
  | a :: r, b :: s => f a b && listEqB f r s
  | _, _ => false

def Kind.deep : Kind → Nat
  | .pair a b => max (a.deep + 1) b.deep
  | .arr _ e => e.deep + 1
  | _ => 1

def Kind.eqB : (k : Kind) → k.T → k.T → Bool
  | .bool, a, b => a == b
  | .int _, a, b => decide ((a : Int) = b)
  | .str, a, b => decide ((a : List UInt8) = b)
  | .unit, _, _ => true
  | .pair k l, a, b => k.eqB a.1 b.1 && l.eqB a.2 b.2
  | .arr _ e, a, b => listEqB e.eqB a b
  | _, _, _ => false

inductive AV where
  | undef
  | bool (b : Bool)
  | int (k : IntKind) (n : Int)
  | str (s : List UInt8)
  | sl (e : Kind) (xs : List e.T)
  | nilsl
  | ref (n : Nat)
  | pref (n k : Nat)
  | ptr (n off : Nat)
  | eptr (n i sub : Nat)
  | aptr (n off cnt i : Nat)
  | iptr (cs : List AV)
  | mapr (n : Nat)
  | mref (n i : Nat)      -- map number i of the row of maps n
  | keys (c n i : Nat)    -- the iterator (closure c) over its keys
  | fn (f : Nat) (cap : List AV)
  | agg (cs : List AV)
  | tup (vs : List AV)
  | nilp | nilfn | nilmap | nilif
  deriving Inhabited

inductive Cell where
  | free | dead
  | box (cs : List AV)
  | row (e : Kind) (xs : List e.T)
  | map (k v : Kind) (es : List (k.T × v.T))
  | mrow (k v : Kind) (ess : List (List (k.T × v.T)))   -- a slice of maps, with them
  deriving Inhabited

abbrev Hp := Nat → Cell

def upd {α : Type} (f : Nat → α) (n : Nat) (x : α) : Nat → α := fun m => if m = n then x else f m

structure St where
  fr : Nat → AV
  hp : Hp

def look {α : Type} (d : α) : List (Nat × α) → Nat → α
  | [], _ => d
  | (k, v) :: r, n => if n = k then v else look d r n

structure TEnv where
  kinds : List (Nat × Kind)
  maps : List (Nat × (Kind × Kind))
  imm : List Nat := []   -- the names whose literal is immutable from the start
  procs : List ((Nat × Nat) × ((List (Nat × Nat)) × (List (Nat × Nat)))) := []   -- at the call named nm of function g: (name here, name there) of what it is given, of what it leaves
  keysOf : Option (Nat × Nat) := none   -- maps.Keys over int keys, and the closure that it hands back
  sorted : Option Nat := none           -- slices.Sorted of ints

def TEnv.kind (Γ : TEnv) (t : Nat) : Option Kind := look none (Γ.kinds.map fun p => (p.1, some p.2)) t
def TEnv.map (Γ : TEnv) (t : Nat) : Option (Kind × Kind) := look none (Γ.maps.map fun p => (p.1, some p.2)) t

def dynZero : Nat → AV
  | 0 => .nilp
  | 1 => .nilmap
  | 2 => .nilfn
  | _ => .nilif

def Kind.zero : Kind → List AV
  | .bool => [.bool false]
  | .int k => [.int k 0]
  | .str => [.str []]
  | .dyn d => [dynZero d]
  | .slice _ => [.nilsl]
  | .unit => []
  | .pair a b => a.zero ++ b.zero
  | .arr n e => (List.replicate n e.zero).flatten
  | .rx => [.int .i64 0, .int .u64 0, .int .u64 0, .int .u64 0, .int .u64 0, .nilsl]
  | .fnk => [.nilfn]

def fnAV : Option Nat → AV
  | none => .nilfn
  | some f => .fn f []

def Kind.flat : (k : Kind) → k.T → List AV
  | .bool, b => [.bool b]
  | .int k, n => [.int k n]
  | .str, s => [.str s]
  | .dyn _, _ => [.undef]
  | .slice e, xs => [.sl e xs]
  | .unit, _ => []
  | .pair a b, x => a.flat x.1 ++ b.flat x.2
  | .arr n e, xs => (List.range n).flatMap fun i => e.flat (xs.getD i e.dflt)
  | .rx, x => [.int .i64 x.kind, .int .u64 (x.set.getD 0 0), .int .u64 (x.set.getD 1 0), .int .u64 (x.set.getD 2 0), .int .u64 (x.set.getD 3 0), .sl .rx x.kids]
  | .fnk, f => [fnAV f]

def manyOf {α : Type} (f : List AV → Option (α × List AV)) : Nat → List AV → Option (List α × List AV)
  | 0, l => some ([], l)
  | n + 1, l => (f l).bind fun p => (manyOf f n p.2).bind fun q => some (p.1 :: q.1, q.2)

def unBool : List AV → Option (Bool × List AV)
  | .bool b :: r => some (b, r)
  | _ => none

def unInt (k : IntKind) : List AV → Option (Int × List AV)
  | .int k' n :: r => if k = k' then some (n, r) else none
  | _ => none

def unStr : List AV → Option (List UInt8 × List AV)
  | .str s :: r => some (s, r)
  | _ => none

def unSl (e : Kind) : List AV → Option (List e.T × List AV)
  | .sl e' xs :: r => if h : e' = e then some ((h ▸ xs : List e.T), r) else none
  | .nilsl :: r => some ([], r)
  | _ => none

def unRx (l : List AV) : Option (Rx × List AV) :=
  (unInt .i64 l).bind fun p => (unInt .u64 p.2).bind fun a => (unInt .u64 a.2).bind fun b => (unInt .u64 b.2).bind fun c => (unInt .u64 c.2).bind fun d =>
    (unSl .rx d.2).bind fun q => some (.mk p.1 [a.1, b.1, c.1, d.1] q.1, q.2)

def unFn : List AV → Option (Option Nat × List AV)
  | .fn f [] :: r => some (some f, r)
  | .nilfn :: r => some (none, r)
  | _ => none

def Kind.unflat : (k : Kind) → List AV → Option (k.T × List AV)
  | .bool, l => unBool l
  | .int k, l => unInt k l
  | .str, l => unStr l
  | .dyn _, _ => none
  | .slice e, l => unSl e l
  | .unit, r => some ((), r)
  | .pair a b, l => (a.unflat l).bind fun p => (b.unflat p.2).bind fun q => some ((p.1, q.1), q.2)
  | .arr n e, l => (manyOf e.unflat n l).bind fun q => some (q.1, q.2)
  | .rx, l => unRx l
  | .fnk, l => unFn l

/-- field i of a struct kind: its offset in cells and its kind -/
def Kind.fieldAt : Kind → Nat → Option (Nat × Kind)
  | .pair a _, 0 => some (0, a)
  | .pair a b, n + 1 => (b.fieldAt n).bind fun p => some (a.size + p.1, p.2)
  | .rx, 0 => some (0, .int .i64)
  | .rx, 1 => some (1, .arr 4 (.int .u64))
  | .rx, 2 => some (5, .slice .rx)
  | _, _ => none

def AV.leaves : AV → Option (List AV)
  | .agg cs => some cs
  | .undef | .tup _ => none
  | v => some [v]

def Kind.res (k : Kind) (cs : List AV) : Option AV :=
  if cs.length = k.size then
    if k.isAgg then some (.agg cs) else match cs with | [c] => some c | _ => none
  else none

mutual
def AV.closed : AV → Bool
  | .undef | .bool _ | .int _ _ | .str _ | .sl _ _ | .nilsl | .nilp | .nilfn | .nilmap | .nilif => true
  | .fn _ cap => AV.closedL cap
  | .agg cs => AV.closedL cs
  | .tup cs => AV.closedL cs
  | .ref _ | .pref _ _ | .ptr _ _ | .eptr _ _ _ | .aptr _ _ _ _ | .iptr _ | .mapr _ | .mref _ _ | .keys _ _ _ => false
def AV.closedL : List AV → Bool
  | [] => true
  | v :: r => v.closed && AV.closedL r
end

def oneL (k : Kind) (cs : List AV) : Option k.T := (k.unflat cs).bind fun p => match p.2 with | [] => some p.1 | _ => none

def AV.isAgg : AV → Bool
  | .agg _ => true
  | _ => false

def one (k : Kind) (v : AV) : Option k.T := if k.isAgg = v.isAgg then v.leaves.bind (oneL k) else none

def ofK (k : Kind) (x : k.T) : AV := if k.isAgg then .agg (k.flat x) else match k.flat x with | [c] => c | _ => .undef

/-! ### canonical states -/

inductive Sh where
  | kd (k : Kind) | ref (n : Nat) | ptr (n off : Nat) | mapr (n : Nat) | junk | fnp (f : Nat) (ps : List Nat)
  deriving DecidableEq, Inhabited

@[reducible] def Sh.T : Sh → Type
  | .kd k => k.T
  | _ => Unit

/-- pointers to the boxes of those names -/
def ptrsAre : List Nat → List AV → Bool
  | [], [] => true
  | n :: r, .ptr m o :: vs => m == n && o == 0 && ptrsAre r vs
  | _, _ => false

def Sh.dec : (s : Sh) → AV → Option s.T
  | .kd k, v => one k v
  | .ref n, .ref m => if m = n then some () else none
  | .ptr n o, .ptr m p => if m = n then (if p = o then some () else none) else none
  | .mapr n, .mapr m => if m = n then some () else none
  | .junk, _ => some ()
  | .ref _, _ => none
  | .ptr _ _, _ => none
  | .mapr _, _ => none
  | .fnp f ps, .fn g cap => if g = f then (if ptrsAre ps cap = true then some () else none) else none
  | .fnp _ _, _ => none

def Sh.can : (s : Sh) → s.T → AV
  | .kd k, x => ofK k x
  | .ref n, _ => .ref n
  | .ptr n o, _ => .ptr n o
  | .mapr n, _ => .mapr n
  | .junk, _ => .undef
  | .fnp f ps, _ => .fn f (ps.map fun n => .ptr n 0)

@[reducible] def ShL : List Sh → Type
  | [] => Unit
  | s :: r => s.T × ShL r

def decL : (l : List Sh) → List AV → Option (ShL l)
  | [], [] => some ()
  | s :: r, v :: vs => (s.dec v).bind fun x => (decL r vs).bind fun y => some (x, y)
  | _ :: _, [] => none
  | [], _ :: _ => none

def canL : (l : List Sh) → ShL l → List AV
  | [], _ => []
  | s :: r, x => s.can x.1 :: canL r x.2

inductive CSh where
  | box (l : List Sh) | row (e : Kind) | map (k v : Kind) | mrow (k v : Kind) | dead | free
  deriving DecidableEq, Inhabited

@[reducible] def CSh.T : CSh → Type
  | .box l => ShL l
  | .row e => List e.T
  | .map k v => List (k.T × v.T)
  | .mrow k v => List (List (k.T × v.T))
  | _ => Unit

def CSh.dec : (s : CSh) → Cell → Option s.T
  | .box l, .box cs => decL l cs
  | .row e, .row e' xs => if h : e' = e then some (h ▸ xs : List e.T) else none
  | .map k v, .map k' v' es => if h : k' = k ∧ v' = v then some (h.1 ▸ h.2 ▸ es : List (k.T × v.T)) else none
  | .mrow k v, .mrow k' v' es => if h : k' = k ∧ v' = v then some (h.1 ▸ h.2 ▸ es : List (List (k.T × v.T))) else none
  | .dead, .dead => some ()
  | .free, .free => some ()
  | .box _, _ => none
  | .row _, _ => none
  | .map _ _, _ => none
  | .mrow _ _, _ => none
  | .dead, _ => none
  | .free, _ => none

def CSh.can : (s : CSh) → s.T → Cell
  | .box l, x => .box (canL l x)
  | .row e, x => .row e x
  | .map k v, x => .map k v x
  | .mrow k v, x => .mrow k v x
  | .dead, _ => .dead
  | .free, _ => .free

@[reducible] def CShL : List CSh → Type
  | [] => Unit
  | s :: r => s.T × CShL r

def decCL : (l : List CSh) → List Cell → Option (CShL l)
  | [], [] => some ()
  | s :: r, v :: vs => (s.dec v).bind fun x => (decCL r vs).bind fun y => some (x, y)
  | _ :: _, [] => none
  | [], _ :: _ => none

def canCL : (l : List CSh) → CShL l → List Cell
  | [], _ => []
  | s :: r, x => s.can x.1 :: canCL r x.2

/-- what a function hands back: one value or several -/
inductive RSh where
  | one (k : Kind) | tup (ks : List Kind)
  deriving Inhabited

@[reducible] def RSh.T : RSh → Type
  | .one k => k.T
  | .tup ks => ShL (ks.map Sh.kd)

def RSh.can : (r : RSh) → r.T → AV
  | .one k, x => ofK k x
  | .tup ks, x => .tup (canL (ks.map Sh.kd) x)

def RSh.dec : (r : RSh) → AV → Option r.T
  | .one k, v => Go.AM.one k v
  | .tup ks, .tup vs => decL (ks.map Sh.kd) vs
  | .tup _, _ => none

/-- heap accesses of one operation -/
inductive M where
  | pure (v : AV)
  | fail
  | br (b : Bool) (x y : M)
  | rd (n : Nat) (k : Cell → M)
  | wr (n : Nat) (c : Cell) (x : M)
  | call (f : Nat) (args : List AV) (k : AV → M)
  | pcall (f : Nat) (args : List AV) (cells : List Cell) (k : AV → List Cell → M)

/-- f's answer, typed: what shape, and the value once there is one; of a procedure: its answer and what it leaves in the cells that it is given -/
structure Call where
  fn : Nat → List AV → Option ((r : RSh) × Option r.T)
  proc : Nat → List AV → List Cell → Option ((o : RSh × List CSh) × Option (o.1.T × CShL o.2)) := fun _ _ _ => none
def Call.av (c : Call) (f : Nat) (args : List AV) : Option AV := (c.fn f args).bind fun p => p.2.map p.1.can
def Call.pv (c : Call) (f : Nat) (args : List AV) (cells : List Cell) : Option (AV × List Cell) := (c.proc f args cells).bind fun p => p.2.map fun x => (p.1.1.can x.1, canCL p.1.2 x.2)

noncomputable def M.run (call : Call) {R : Type} (K : AV → Hp → Option R) (m : M) : Hp → Option R :=
  M.rec (motive := fun _ => Hp → Option R)
    (fun v h => K v h)
    (fun _ => none)
    (fun b _ _ x y h => if b = true then x h else y h)
    (fun n _ k h => k (h n) h)
    (fun n c _ x h => x (upd h n c))
    (fun f args _ k h => (call.fn f args).bind fun p => p.2.bind fun x => k (p.1.can x) h)
    (fun f args cells _ k h => (call.proc f args cells).bind fun p => p.2.bind fun x => k (p.1.1.can x.1) (canCL p.1.2 x.2) h)
    m

def M.ofOpt {α : Type} (o : Option α) (k : α → M) : M := match o with | some x => k x | none => .fail

/-- a new object under the name n -/
def M.new (n : Nat) (c : Cell) (v : AV) : M := .rd n fun | .free => .wr n c (.pure v) | _ => .fail

def lim : Nat := 68719476736

def cval : Value → AV
  | .bool b => .bool b
  | .int k n => .int k n
  | .string s => .str s.data.toList
  | .slice none 0 0 => .nilsl
  | .pointer none => .nilp
  | .nilFunc => .nilfn
  | .map none => .nilmap
  | .nilIface => .nilif
  | _ => .undef

def ev (fr : Nat → AV) : Operand → AV
  | .tmp t => fr t
  | .const v => cval v
  | .func f => .fn f []
  | .global _ => .undef

def splice (l : List AV) (off : Nat) (cs : List AV) : List AV := l.take off ++ cs ++ l.drop (off + cs.length)

/-- the parts of a composite literal, each at its place -/
def putParts (at_ : Nat → Option (Nat × Nat)) : List (Nat × AV) → List AV → Option (List AV)
  | [], z => some z
  | (i, v) :: r, z => (at_ i).bind fun p => v.leaves.bind fun cs =>
      if cs.length = p.2 ∧ p.1 + p.2 ≤ z.length then putParts at_ r (splice z p.1 cs) else none

def listOf (e : Kind) : Nat → List AV → Option (List e.T)
  | 0, [] => some []
  | n + 1, l => (e.unflat l).bind fun p => (listOf e n p.2).bind fun r => some (p.1 :: r)
  | _, _ => none

def intsOf (k : IntKind) : List AV → Option (List Int)
  | [] => some []
  | .int k' n :: r => if k' = k then (intsOf k r).bind fun l => some (n :: l) else none
  | _ => none

/-- the elements that a slice value covers, as a list of the kind's type (a row is read out of the heap) -/
def M.elems (e : Kind) (v : AV) (k : List e.T → M) : M :=
  match v with
  | .nilsl => k []
  | .sl e' xs => if h : e' = e then k (h ▸ xs) else .fail
  | .ref n => .rd n fun
    | .row e' xs => if h : e' = e then k (h ▸ xs) else .fail
    | _ => .fail
  | .pref n j => .rd n fun
    | .row e' xs => if h : e' = e then k ((h ▸ xs : List e.T).take j) else .fail
    | _ => .fail
  | _ => .fail

def icmp (op : BinOp) (a b : Int) : Option Bool :=
  match op with
  | .eql => some (decide (a = b))
  | .neq => some (!decide (a = b))
  | .lss => some (decide (a < b))
  | .leq => some (decide (a ≤ b))
  | .gtr => some (decide (a > b))
  | .geq => some (decide (a ≥ b))
  | _ => none

def ibits (op : BinOp) (k : IntKind) (a b : Int) : Option Int :=
  match op with
  | .and => some (k.wrap (BitVec.ofInt k.bits a &&& BitVec.ofInt k.bits b).toNat)
  | .or => some (k.wrap (BitVec.ofInt k.bits a ||| BitVec.ofInt k.bits b).toNat)
  | .xor => some (k.wrap (BitVec.ofInt k.bits a ^^^ BitVec.ofInt k.bits b).toNat)
  | .andNot => some (k.wrap (BitVec.ofInt k.bits a &&& ~~~BitVec.ofInt k.bits b).toNat)
  | _ => none

def iarith (op : BinOp) (k : IntKind) (a b : Int) : Option Int :=
  match op with
  | .add => some (k.wrap (a + b))
  | .sub => some (k.wrap (a - b))
  | .mul => some (k.wrap (a * b))
  | _ => none

def isEq : BinOp → Option Bool
  | .eql => some true
  | .neq => some false
  | _ => none

/-- the type's '==' needs no look at interfaces: plain kinds without slices -/
def Kind.eqOk : Kind → Bool
  | .bool | .int _ | .str => true
  | .pair a b => a.eqOk && b.eqOk
  | .unit => true
  | .arr _ e => e.eqOk
  | _ => false

/-- keys of maps -/
def Kind.keyOk : Kind → Bool
  | .bool | .int _ | .str => true
  | .pair a b => a.keyOk && b.keyOk
  | .unit => true
  | _ => false

def binM (Γ : TEnv) (op : BinOp) (t : Nat) (x y : AV) : M :=
  match op, x, y with
  | .shl, .int k a, .int _ b => .br (decide (0 ≤ b)) (.pure (.int k (k.wrap (a * 2 ^ (min b.toNat k.bits))))) .fail
  | .shr, .int k a, .int _ b => .br (decide (0 ≤ b)) (.pure (.int k (a.fdiv (2 ^ (min b.toNat k.bits))))) .fail
  | .quo, .int k a, .int k' b => if k = k' then .br (decide (b = 0)) .fail (.pure (.int k (k.wrap (a.tdiv b)))) else .fail
  | .rem, .int k a, .int k' b => if k = k' then .br (decide (b = 0)) .fail (.pure (.int k (a.tmod b))) else .fail
  | op, .int k a, .int k' b => if k = k' then
      match iarith op k a b with
      | some c => .pure (.int k c)
      | none => match ibits op k a b with
        | some c => .pure (.int k c)
        | none => match icmp op a b with
          | some c => .pure (.bool c)
          | none => .fail
    else .fail
  | .add, .str a, .str b => .br (decide (a.length + b.length ≤ lim)) (.pure (.str (a ++ b))) .fail
  | .eql, .str a, .str b => .pure (.bool (decide (a = b)))
  | .neq, .str a, .str b => .pure (.bool (!decide (a = b)))
  | .lss, .str a, .str b => .pure (.bool (Op.bytesLess a b))
  | .leq, .str a, .str b => .pure (.bool (Op.bytesLess a b || decide (a = b)))
  | .gtr, .str a, .str b => .pure (.bool (!(Op.bytesLess a b || decide (a = b))))
  | .geq, .str a, .str b => .pure (.bool (!Op.bytesLess a b))
  | .eql, .bool a, .bool b => if Γ.kind t = some .bool then .pure (.bool (a == b)) else .fail
  | .neq, .bool a, .bool b => if Γ.kind t = some .bool then .pure (.bool (!(a == b))) else .fail
  | op, .agg a, .agg b => .ofOpt (isEq op) fun e => .ofOpt (Γ.kind t) fun k =>
      if k.eqOk && k.isAgg then
        .ofOpt (oneL k a) fun x => .ofOpt (oneL k b) fun y => .pure (.bool (if e then k.eqB x y else !(k.eqB x y))) else .fail
  | _, _, _ => .fail

def mget (k : Kind) {v : Type} (x : k.T) : List (k.T × v) → Option v
  | [] => none
  | p :: r => if k.eqB x p.1 = true then some p.2 else mget k x r

def mput (k : Kind) {v : Type} (x : k.T) (y : v) : List (k.T × v) → List (k.T × v)
  | [] => [(x, y)]
  | p :: r => if k.eqB x p.1 = true then (x, y) :: r else p :: mput k x y r

def Kind.isFnk : Kind → Bool
  | .fnk => true
  | _ => false

/-- a lookup that branches: each way out has its own value -/
def fnChain (k v : Kind) (x : k.T) : List (k.T × v.T) → M
  | [] => .pure (ofK v v.dflt)
  | p :: r => .br (k.eqB x p.1) (.pure (ofK v p.2)) (fnChain k v x r)

def optInt (e : Operand → AV) : Option Operand → Option (Option Int)
  | none => some none
  | some x => match e x with
    | .int _ z => some (some z)
    | _ => none

def TEnv.proc (Γ : TEnv) (nm g : Nat) : Option ((List (Nat × Nat)) × (List (Nat × Nat))) := (Γ.procs.find? fun p => p.1.1 == nm && p.1.2 == g).map (·.2)

/-- maps.Keys of a map in a row of maps; slices.Sorted of what it hands back -/
def TEnv.special (Γ : TEnv) (g : Nat) : List AV → Option ((Nat × Nat × Nat) ⊕ (Nat × Nat))
  | [.mref n i] => match Γ.keysOf with
    | some (f, c) => if g = f then some (.inl (c, n, i)) else none
    | none => none
  | [.keys c n i] => match Γ.keysOf with
    | some (_, c') => if c = c' ∧ Γ.sorted = some g then some (.inr (n, i)) else none
    | none => none
  | _ => none

def i64ok (l : List Int) : Bool := l.all fun k => decide (-9223372036854775808 ≤ k ∧ k ≤ 9223372036854775807)

def insInt (x : Int) : List Int → List Int
  | [] => [x]
  | y :: r => if x ≤ y then x :: y :: r else y :: insInt x r
def sortedInts : List Int → List Int
  | [] => []
  | x :: r => insInt x (sortedInts r)

mutual
/-- names as the procedure knows them -/
def AV.ren (π : Nat → Option Nat) : AV → AV
  | .ref n => match π n with | some m => .ref m | none => .undef
  | .pref n k => match π n with | some m => .pref m k | none => .undef
  | .ptr n o => match π n with | some m => .ptr m o | none => .undef
  | .eptr n i s => match π n with | some m => .eptr m i s | none => .undef
  | .aptr n o c i => match π n with | some m => .aptr m o c i | none => .undef
  | .mapr n => match π n with | some m => .mapr m | none => .undef
  | .mref n i => match π n with | some m => .mref m i | none => .undef
  | .keys c n i => match π n with | some m => .keys c m i | none => .undef
  | .iptr cs => .iptr (AV.renL π cs)
  | .fn f cap => .fn f (AV.renL π cap)
  | .agg cs => .agg (AV.renL π cs)
  | .tup cs => .tup (AV.renL π cs)
  | v => v
def AV.renL (π : Nat → Option Nat) : List AV → List AV
  | [] => []
  | v :: r => v.ren π :: AV.renL π r
end

def Cell.ren (π : Nat → Option Nat) : Cell → Cell
  | .box cs => .box (AV.renL π cs)
  | c => c

def Cell.live : Cell → Bool
  | .free | .dead => false
  | _ => true

def rdAll : List Nat → (List Cell → M) → M
  | [], k => k []
  | n :: r, k => .rd n fun c => if c.live then rdAll r fun cs => k (c :: cs) else .fail

def wrDead : List Nat → M → M
  | [], x => x
  | n :: r, x => .wr n .dead (wrDead r x)

/-- a name that is new must be free -/
def wrNew (old : List (Nat × Nat)) : List ((Nat × Nat) × Cell) → M → M
  | [], x => x
  | (p, c) :: r, x => if old.contains p then .wr p.1 c (wrNew old r x) else .rd p.1 fun | .free => .wr p.1 c (wrNew old r x) | _ => .fail

def pmap (l : List (Nat × Nat)) (n : Nat) : Option Nat := look none (l.map fun p => (p.1, some p.2)) n
def pinv (l : List (Nat × Nat)) (n : Nat) : Option Nat := look none (l.map fun p => (p.2, some p.1)) n

def nodupB : List Nat → Bool
  | [] => true
  | n :: r => !r.contains n && nodupB r

def procOk (ns ms : List (Nat × Nat)) : Bool :=
  nodupB (ns.map (·.1)) && nodupB (ns.map (·.2)) && nodupB (ms.map (·.1)) && nodupB (ms.map (·.2)) && (ms.all fun p => (ns.all fun q => (p.1 == q.1) == (p.2 == q.2)))

/-- a call of a procedure: ns: what it is given (the name here, the name there), ms: what it leaves -/
def procM (g : Nat) (ns ms : List (Nat × Nat)) (args : List AV) : M :=
  if procOk ns ms then
    rdAll (ns.map (·.1)) fun cells => .pcall g (AV.renL (pmap ns) args) (cells.map (Cell.ren (pmap ns))) fun v cells' =>
      if cells'.length = ms.length && cells'.all Cell.live then
        wrDead ((ns.filter fun p => !ms.contains p).map (·.1)) (wrNew ns (ms.zip (cells'.map (Cell.ren (pinv ms)))) (.pure v))
      else .fail
  else .fail

def aop (Γ : TEnv) (nm : Nat) (e : Operand → AV) : Op → M
  | .move x | .assign x => .pure (e x)
  | .nilCheck x => match e x with
    | .ptr n off => .rd n fun
      | .box _ => .pure (.ptr n off)
      | _ => .fail
    | _ => .fail
  | .pick c a b => match e c with
    | .bool t => .br t (.pure (e a)) (.pure (e b))
    | _ => .fail
  | .alloc t => .ofOpt (Γ.kind t) fun k => .new nm (.box k.zero) (.ptr nm 0)
  | .box t x => .ofOpt (Γ.kind t) fun k => .ofOpt (e x).leaves fun cs =>
      if cs.length = k.size then .new nm (.box cs) (.ptr nm 0) else .fail
  | .build t parts => .ofOpt (Γ.kind t) fun k => match k with
    | .arr _ el => .ofOpt (putParts (fun i => some (i * el.size, el.size)) (parts.toList.map fun p => (p.1, e p.2)) k.zero) fun z => .pure (.agg z)
    | .pair _ _ | .unit | .rx => .ofOpt (putParts (fun i => (k.fieldAt i).map fun p => (p.1, p.2.size)) (parts.toList.map fun p => (p.1, e p.2)) k.zero) fun z => .pure (.agg z)
    | _ => .fail
  | .buildSlice t n parts => .ofOpt (Γ.kind t) fun k => match k with
    | .slice (.dyn 1) => match n, parts.toList.map fun p => (p.1, e p.2) with
      | 1, [(0, .mapr m)] => .rd m fun
        | .map k v es => .wr m .dead (.new nm (.mrow k v [es]) (.ref nm))
        | _ => .fail
      | _, _ => .fail
    | .slice el => if n ≤ 16777216 ∧ n * el.size ≤ 16777216 then
        .ofOpt (putParts (fun i => some (i * el.size, el.size)) (parts.toList.map fun p => (p.1, e p.2)) ((List.replicate n el.zero).flatten)) fun z =>
          .ofOpt (listOf el n z) fun xs => if Γ.imm.contains nm = true then .pure (.sl el xs) else .new nm (.row el xs) (.ref nm)
      else .fail
    | _ => .fail
  | .load t a => .ofOpt (Γ.kind t) fun k => match e a with
    | .ptr n off => .rd n fun
      | .box cs => .ofOpt (k.res ((cs.drop off).take k.size)) .pure
      | _ => .fail
    | .eptr n i sub => .rd n fun
      | .row el xs => .ofOpt (k.res (((el.flat (xs.getD i el.dflt)).drop sub).take k.size)) .pure
      | .mrow _ _ _ => if k = .dyn 1 ∧ sub = 0 then .pure (.mref n i) else .fail
      | _ => .fail
    | .iptr cs => .ofOpt (k.res (cs.take k.size)) .pure
    | .aptr n off cnt i => .rd n fun
      | .box cs => match k with
        | .int ik => .ofOpt (intsOf ik ((cs.drop off).take cnt)) fun l => .pure (.int ik (l.getD i 0))
        | _ => .fail
      | _ => .fail
    | _ => .fail
  | .store t a x => .ofOpt (Γ.kind t) fun k => .ofOpt (e x).leaves fun ls =>
      if ls.length = k.size then
      match e a with
      | .ptr n off => .rd n fun
        | .box cs => if off + k.size ≤ cs.length then .wr n (.box (splice cs off ls)) (.pure .undef) else .fail
        | _ => .fail
      | .eptr n i sub => .rd n fun
        | .row el xs => if sub + k.size ≤ el.size then
            .ofOpt (oneL el (splice (el.flat (xs.getD i el.dflt)) sub ls)) fun y => .wr n (.row el (xs.set i y)) (.pure .undef) else .fail
        | _ => .fail
      | .aptr n off cnt i => .rd n fun
        | .box cs => match k, e x with
          | .int ik, .int ik' v => if ik' = ik then .ofOpt (intsOf ik ((cs.drop off).take cnt)) fun l =>
              .wr n (.box (splice cs off ((List.range cnt).map fun j => .int ik ((l.set i v).getD j 0)))) (.pure .undef) else .fail
          | _, _ => .fail
        | _ => .fail
      | _ => .fail
      else .fail
  | .fieldAddr t x f => .ofOpt (Γ.kind t) fun k => .ofOpt (k.fieldAt f) fun p =>
      if p.2.size = 0 then .fail else
      match e x with
      | .ptr n off => .rd n fun
        | .box _ => .pure (.ptr n (off + p.1))
        | _ => .fail
      | .eptr n i sub => .rd n fun
        | .row _ _ => .pure (.eptr n i (sub + p.1))
        | _ => .fail
      | .iptr cs => .pure (.iptr (cs.drop p.1))
      | _ => .fail
  | .field t x f => .ofOpt (Γ.kind t) fun k => .ofOpt (k.fieldAt f) fun p => match e x with
      | .agg cs => if cs.length = k.size then .ofOpt (p.2.res ((cs.drop p.1).take p.2.size)) .pure else .fail
      | _ => .fail
  | .indexAddr t x i => .ofOpt (Γ.kind t) fun k => match k, e i with
    | .slice ke, .int _ z => match e x with
      | .sl el xs => if el = ke then .br (decide (0 ≤ z ∧ z < (xs.length : Int))) (.pure (.iptr (el.flat (xs.getD z.toNat el.dflt)))) .fail else .fail
      | .ref n => .rd n fun
        | .row el xs => if el = ke then .br (decide (0 ≤ z ∧ z < (xs.length : Int))) (.pure (.eptr n z.toNat 0)) .fail else .fail
        | .mrow _ _ ess => if ke = .dyn 1 then .br (decide (0 ≤ z ∧ z < (ess.length : Int))) (.pure (.eptr n z.toNat 0)) .fail else .fail
        | _ => .fail
      | .pref n j => .rd n fun
        | .row el _ => if el = ke then .br (decide (0 ≤ z ∧ z < (j : Int))) (.pure (.eptr n z.toNat 0)) .fail else .fail
        | _ => .fail
      | _ => .fail
    | .arr cnt (.int _), .int _ z => match e x with
      | .ptr n off => .rd n fun
        | .box cs => if off + cnt ≤ cs.length then .br (decide (0 ≤ z ∧ z < (cnt : Int))) (.pure (.aptr n off cnt z.toNat)) .fail else .fail
        | _ => .fail
      | .eptr n i sub => .rd n fun
        | .row _ _ => .br (decide (0 ≤ z ∧ z < (cnt : Int))) (.pure (.eptr n i (sub + z.toNat))) .fail
        | _ => .fail
      | _ => .fail
    | _, _ => .fail
  | .index t x i => .ofOpt (Γ.kind t) fun k => match k, e x, e i with
    | .str, .str s, .int _ z => .br (decide (0 ≤ z ∧ z < (s.length : Int))) (.pure (.int .u8 ((s.getD z.toNat 0).toNat : Int))) .fail
    | .arr n (.int ik), .agg cs, .int _ z => .ofOpt (intsOf ik cs) fun l =>
        if l.length = n then .br (decide (0 ≤ z ∧ z < (n : Int))) (.pure (.int ik (l.getD z.toNat 0))) .fail else .fail
    | _, _, _ => .fail
  | .makeMap t none => .ofOpt (Γ.map t) fun kv => .new nm (.map kv.1 kv.2 []) (.mapr nm)
  | .makeSlice t l c => .ofOpt (Γ.kind t) fun k => match k, e l, e c with
    | .slice el, .int .i64 z, .int .i64 z' => .br (decide (z = z' ∧ 0 ≤ z ∧ z ≤ (lim : Int))) (.new nm (.row el (List.replicate z.toNat el.dflt)) (.ref nm)) .fail
    | _, _, _ => .fail
  | .slice t x lo hi none => .ofOpt (Γ.kind t) fun k => .ofOpt (optInt e lo) fun l => .ofOpt (optInt e hi) fun h => match k, e x with
    | .slice ke, .sl el xs => if el = ke then
        .br (decide (0 ≤ l.getD 0 ∧ l.getD 0 ≤ h.getD (xs.length : Int) ∧ h.getD (xs.length : Int) ≤ (xs.length : Int)))
          (.pure (.sl el ((xs.take (h.getD (xs.length : Int)).toNat).drop (l.getD 0).toNat))) .fail
      else .fail
    | .slice ke, .ref n => .rd n fun
      | .row el xs => if el = ke ∧ l = none then
          .br (decide (0 ≤ h.getD (xs.length : Int) ∧ h.getD (xs.length : Int) ≤ (xs.length : Int))) (.pure (.pref n (h.getD (xs.length : Int)).toNat)) .fail
        else .fail
      | _ => .fail
    | .str, .str s =>
        .br (decide (0 ≤ l.getD 0 ∧ l.getD 0 ≤ h.getD (s.length : Int) ∧ h.getD (s.length : Int) ≤ (s.length : Int)))
          (.pure (.str ((s.take (h.getD (s.length : Int)).toNat).drop (l.getD 0).toNat))) .fail
    | _, _ => .fail
  | .lookup t x i ok => .ofOpt (Γ.map t) fun kv => if kv.1.keyOk then .ofOpt (one kv.1 (e i)) fun key => match e x with
    | .mapr n => .rd n fun
      | .map k v es => if h : k = kv.1 then
          let r := mget kv.1 key (h ▸ es : List (kv.1.T × v.T))
          if v = kv.2 then
          if ok then .pure (.tup [ofK v (r.getD v.dflt), .bool r.isSome]) else
            if v.isFnk then fnChain kv.1 v key (h ▸ es : List (kv.1.T × v.T)) else .pure (ofK v (r.getD v.dflt))
          else .fail
        else .fail
      | _ => .fail
    | _ => .fail
    else .fail
  | .mapUpdate t m i x | .insert t m i x => .ofOpt (Γ.map t) fun kv => if kv.1.keyOk then .ofOpt (one kv.1 (e i)) fun key => .ofOpt (one kv.2 (e x)) fun y => match e m with
    | .mapr n => .rd n fun
      | .map k v es => if h : k = kv.1 ∧ v = kv.2 then
          .wr n (.map kv.1 kv.2 (mput kv.1 key y (h.1 ▸ h.2 ▸ es : List (kv.1.T × kv.2.T)))) (.pure .undef)
        else .fail
      | _ => .fail
    | .mref n i => .rd n fun
      | .mrow k v ess => if h : k = kv.1 ∧ v = kv.2 then
          .wr n (.mrow kv.1 kv.2 ((h.1 ▸ h.2 ▸ ess : List (List (kv.1.T × kv.2.T))).set i (mput kv.1 key y ((h.1 ▸ h.2 ▸ ess : List (List (kv.1.T × kv.2.T))).getD i [])))) (.pure .undef)
        else .fail
      | _ => .fail
    | _ => .fail
    else .fail
  | .convert s d x => match Γ.kind s, Γ.kind d, e x with
    | some (.int _), some (.int k), .int _ n => .pure (.int k (k.wrap n))
    | some .str, some .str, .str s => .pure (.str s)
    | some (.slice (.int .u8)), some .str, v => .elems (.int .u8) v fun l => .pure (.str (l.map fun n => UInt8.ofNat n.toNat))
    | some .str, some (.slice (.int .u8)), .str s => .pure (.sl (.int .u8) (s.map fun b => (b.toNat : Int)))
    | _, _, _ => .fail
  | .binOp op t x y _ => binM Γ op t (e x) (e y)
  | .unOp op _ x => match op, e x with
    | .not, .bool b => .pure (.bool (!b))
    | .neg, .int k n => .pure (.int k (k.wrap (0 - n)))
    | .xor, .int k n => .ofOpt (ibits .xor k (if k.signed then -1 else k.max) n) fun c => .pure (.int k c)
    | _, _ => .fail
  | .extract x i => match e x with
    | .tup vs => match vs[i]? with
      | some v => .pure v
      | none => .fail
    | _ => .fail
  | .makeFunc (.func f) first cap => if first.size = 0 then .pure (.fn f (cap.toList.map e)) else .fail
  | .call { callee := .builtin .len, args, argTypes } => match args.toList, argTypes.toList with
    | [x], [t] => match e x with
      | .str s => if Γ.kind t = some .str then .pure (.int .i64 (s.length : Int)) else .fail
      | .mapr n => if (Γ.map t).isSome then .rd n fun
        | .map _ _ es => .pure (.int .i64 (es.length : Int))
        | _ => .fail else .fail
      | .sl _ xs => .ofOpt (Γ.kind t) fun k => if k.isSlice then .pure (.int .i64 (xs.length : Int)) else .fail
      | .nilsl => .ofOpt (Γ.kind t) fun k => if k.isSlice then .pure (.int .i64 0) else .fail
      | .ref n => .ofOpt (Γ.kind t) fun k => if k.isSlice then .rd n fun
        | .row _ xs => .pure (.int .i64 (xs.length : Int))
        | .mrow _ _ ess => .pure (.int .i64 (ess.length : Int))
        | _ => .fail else .fail
      | .pref n j => .ofOpt (Γ.kind t) fun k => if k.isSlice then .rd n fun
        | .row _ _ => .pure (.int .i64 (j : Int))
        | _ => .fail else .fail
      | _ => .fail
    | _, _ => .fail
  | .call { callee := .builtin .append, args, argTypes } => match args.toList, argTypes.toList with
    | [s, x], [t, u] => match Γ.kind t, Γ.kind u with
      | some (.slice (.dyn 1)), some (.slice _) => if t = u then match e s, e x with
        | .ref n, .ref m => if n = m then .fail else .rd n fun
          | .mrow k v ess => .rd m fun
            | .mrow k' v' ess' => if h : k' = k ∧ v' = v then
                .br (decide (ess.length + ess'.length ≤ lim)) (.wr n .dead (.wr m .dead (.new nm (.mrow k v (ess ++ (h.1 ▸ h.2 ▸ ess' : List (List (k.T × v.T))))) (.ref nm)))) .fail
              else .fail
            | _ => .fail
          | _ => .fail
        | _, _ => .fail
        else .fail
      | some (.slice el), some (.slice _) => if t = u then .elems el (e x) fun ys => match e s with
        | .nilsl => .br (decide (ys.length ≤ lim)) (.new nm (.row el ys) (.ref nm)) .fail
        | .ref n => .rd n fun
          | .row el' xs => if h : el' = el then
              .br (decide (xs.length + ys.length ≤ lim)) (.wr n .dead (.new nm (.row el ((h ▸ xs : List el.T) ++ ys)) (.ref nm))) .fail
            else .fail
          | _ => .fail
        | _ => .fail
        else .fail
      | _, _ => .fail
    | _, _ => .fail
  | .call { callee := .builtin .copy, args, argTypes } => match args.toList, argTypes.toList with
    | [d, s], [t, _] => match Γ.kind t with
      | some (.slice el) => .elems el (e s) fun ys => match e d with
        | .ref n => .rd n fun
          | .row el' xs => if h : el' = el then
              .br (decide (ys.length ≤ xs.length ∧ 0 < xs.length)) (.wr n (.row el (ys ++ (h ▸ xs : List el.T).drop ys.length)) (.pure (.int .i64 (ys.length : Int)))) .fail
            else .fail
          | _ => .fail
        | _ => .fail
      | _ => .fail
    | _, _ => .fail
  | .call { callee := .value f, args, argTypes := _ } => match e f with
    | .fn g cap => if AV.closedL ((args.toList.map e) ++ cap) then .call g ((args.toList.map e) ++ cap) .pure else
        match Γ.proc nm g with
        | some pd => procM g pd.1 pd.2 ((args.toList.map e) ++ cap)
        | none => match Γ.special g ((args.toList.map e) ++ cap) with
          | some (.inl (c, n, i)) => .rd n fun
            | .mrow (.int .i64) _ _ => .pure (.keys c n i)
            | _ => .fail
          | some (.inr (n, i)) => .rd n fun
            | .mrow (.int .i64) _ ess => .br (decide ((ess.getD i []).length ≤ lim) && i64ok ((ess.getD i []).map (·.1))) (.new nm (.row (.int .i64) (sortedInts ((ess.getD i []).map (·.1)))) (.ref nm)) .fail
            | _ => .fail
          | none => .fail
    | _ => .fail
  | _ => .fail

/-- slots and names -/
structure Fp where
  rn : List Nat
  wn : List Nat
  deriving Inhabited

/-- the same run, with the names that it reads and writes -/
noncomputable def M.runF (call : Call) {R : Type} (K : AV → Hp → Fp → Option R) (m : M) : Hp → Fp → Option R :=
  M.rec (motive := fun _ => Hp → Fp → Option R)
    (fun v h f => K v h f)
    (fun _ _ => none)
    (fun b _ _ x y h f => if b = true then x h f else y h f)
    (fun n _ k h f => k (h n) h { f with rn := n :: f.rn })
    (fun n c _ x h f => x (upd h n c) { f with wn := n :: f.wn })
    (fun g args _ k h f => (call.fn g args).bind fun p => p.2.bind fun x => k (p.1.can x) h f)
    (fun g args cells _ k h f => (call.proc g args cells).bind fun p => p.2.bind fun x => k (p.1.1.can x.1) (canCL p.1.2 x.2) h f)
    m

inductive Ex where
  | normal | exit (id : Nat) | ret
  deriving Inhabited

/-- what is done ahead of a region: naming, freezing, forgetting -/
inductive Cmd where
  | adopt (s : Nat) (e : Kind) (n : Nat)        -- slot s (nil, a row, a row's head) becomes the row named n
  | adoptCell (m c : Nat) (e : Kind) (n : Nat)  -- the same at cell c of box m
  | adoptM (m c n : Nat)                        -- cell c of box m (a row of maps) becomes the one named n
  | freeze (s : Nat)                            -- slot s (a row) becomes an immutable slice
  | freezeCell (m c : Nat)
  | keep (slots names : List Nat)               -- all other slots are forgotten, all other names of this frame are free again

mutual
/-- a reference to a name that p does not hold for is forgotten -/
def AV.only (p : Nat → Bool) : AV → AV
  | .ref n => if p n then .ref n else .undef
  | .pref n k => if p n then .pref n k else .undef
  | .ptr n o => if p n then .ptr n o else .undef
  | .eptr n i s => if p n then .eptr n i s else .undef
  | .aptr n o c i => if p n then .aptr n o c i else .undef
  | .mapr n => if p n then .mapr n else .undef
  | .mref n i => if p n then .mref n i else .undef
  | .keys c n i => if p n then .keys c n i else .undef
  | .iptr cs => .iptr (AV.onlyL p cs)
  | .fn f cap => .fn f (AV.onlyL p cap)
  | .agg cs => .agg (AV.onlyL p cs)
  | .tup cs => .tup (AV.onlyL p cs)
  | v => v
def AV.onlyL (p : Nat → Bool) : List AV → List AV
  | [] => []
  | v :: r => v.only p :: AV.onlyL p r
end

def Cell.only (p : Nat → Bool) : Cell → Cell
  | .box cs => .box (AV.onlyL p cs)
  | c => c

/-- the row behind a slice value: its elements, and the name that is used up -/
def rowAt (hp : Hp) (e : Kind) : AV → Option (List e.T × Option Nat)
  | .nilsl => some ([], none)
  | .ref n => match hp n with
    | .row e' xs => if h : e' = e then some ((h ▸ xs : List e.T), some n) else none
    | _ => none
  | .pref n k => match hp n with
    | .row e' xs => if h : e' = e then some ((h ▸ xs : List e.T).take k, some n) else none
    | _ => none
  | _ => none

def notName (o : Option Nat) (m : Nat) : Bool := match o with | some n => m != n | none => true

/-- the name of o is dead from now on, and n is the object c -/
def renameC (st : St) (o : Option Nat) (n : Nat) (c : Cell) : Option St :=
  let hp := match o with | some m => upd st.hp m .dead | none => st.hp
  match (if o = some n then Cell.free else hp n) with
  | .free => some { fr := fun i => (st.fr i).only (notName o), hp := upd (fun i => (hp i).only (notName o)) n c }
  | _ => none

/-- the name of o is dead from now on, and n is the row xs -/
abbrev rename (st : St) (o : Option Nat) (n : Nat) (e : Kind) (xs : List e.T) : Option St := renameC st o n (.row e xs)

def frozenAt (hp : Hp) : AV → Option (AV × Option Nat)
  | .nilsl => some (.nilsl, none)
  | .sl e xs => some (.sl e xs, none)
  | .ref n => match hp n with
    | .row e xs => some (.sl e xs, some n)
    | _ => none
  | .pref n k => match hp n with
    | .row e xs => some (.sl e (xs.take k), some n)
    | _ => none
  | _ => none

def bury (st : St) (o : Option Nat) : St :=
  match o with
  | none => st
  | some n => { fr := fun i => (st.fr i).only (notName (some n)), hp := upd (fun i => (st.hp i).only (notName (some n))) n .dead }

def setCellAt (st : St) (m c : Nat) (v : AV) : Option St :=
  match st.hp m with
  | .box cs => if c < cs.length then some { st with hp := upd st.hp m (.box (cs.set c v)) } else none
  | _ => none

def cellAt (st : St) (m c : Nat) : AV := match st.hp m with | .box cs => cs.getD c .undef | _ => .undef

/-- the names that stay: all below base, and of this frame's those that are named and live -/
def keepP (base : Nat) (names : List Nat) (hp : Hp) (n : Nat) : Bool := n < base || (names.contains n && (hp n).live)

def keepSt (base : Nat) (slots names : List Nat) (st : St) : St :=
  { fr := look .undef (slots.map fun i => (i, (st.fr i).only (keepP base names st.hp)))
    hp := fun n => if n < base then (st.hp n).only (keepP base names st.hp)
      else look .free (names.map fun n => (n, if (st.hp n).live then (st.hp n).only (keepP base names st.hp) else .free)) n }

def Cmd.run (base : Nat) : Cmd → St → Option St
  | .adopt s e n, st => (rowAt st.hp e (st.fr s)).bind fun p =>
      if base ≤ n then (rename st p.2 n e p.1).map fun st => { st with fr := upd st.fr s (.ref n) } else none
  | .adoptCell m c e n, st => (rowAt st.hp e (cellAt st m c)).bind fun p =>
      if m = n ∨ (p.2 = some n ∧ n < base) then none else (rename st p.2 n e p.1).bind fun st => setCellAt st m c (.ref n)
  | .adoptM m c n, st => match cellAt st m c with
    | .ref o => match st.hp o with
      | .mrow k v ess => if m = n ∨ m = o ∨ (o = n ∧ n < base) then none else (renameC st (some o) n (.mrow k v ess)).bind fun st => setCellAt st m c (.ref n)
      | _ => none
    | _ => none
  | .freeze s, st => (frozenAt st.hp (st.fr s)).map fun p => { bury st p.2 with fr := upd (bury st p.2).fr s p.1 }
  | .freezeCell m c, st => (frozenAt st.hp (cellAt st m c)).bind fun p => setCellAt (bury st p.2) m c p.1
  | .keep slots names, st => some (keepSt base slots names st)

def runCmds (base : Nat) : List Cmd → St → Option St
  | [], st => some st
  | c :: r, st => (c.run base st).bind (runCmds base r)

-- a value without references: rows are read out of the heap
mutual
def purify (base : Nat) (hp : Hp) : AV → Option AV
  | .ref n => if base ≤ n then match hp n with | .row e xs => some (.sl e xs) | _ => none else none
  | .pref n k => if base ≤ n then match hp n with | .row e xs => some (.sl e (xs.take k)) | _ => none else none
  | .agg cs => (purifyL base hp cs).map .agg
  | .tup cs => (purifyL base hp cs).map .tup
  | .bool b => some (.bool b)
  | .int k n => some (.int k n)
  | .str s => some (.str s)
  | .sl e xs => some (.sl e xs)
  | .nilsl => some .nilsl
  | .nilp => some .nilp
  | .nilmap => some .nilmap
  | .nilfn => some .nilfn
  | .nilif => some .nilif
  | _ => none
def purifyL (base : Nat) (hp : Hp) : List AV → Option (List AV)
  | [] => some []
  | v :: r => (purify base hp v).bind fun x => (purifyL base hp r).map fun y => x :: y
end

/-- a loop's head: what is done there, the slots and names that stay -/
structure LoopIn where
  cmds : List Cmd
  slots : List Nat
  names : List Nat
  deriving Inhabited

/-- a way out of a loop: what stays -/
structure OutSh where
  ex : Ex
  slots : List Nat
  ss : List Sh
  names : List Nat
  cs : List CSh

@[reducible] def OutSh.T (o : OutSh) : Type := ShL o.ss × CShL o.cs

@[reducible] def Outs : List OutSh → Type
  | [] => Empty
  | [o] => o.T
  | o :: p :: r => o.T ⊕ Outs (p :: r)

def outElim {R : Type} (f : Ex → List (Nat × AV) → List (Nat × Cell) → R) : (l : List OutSh) → Outs l → R
  | [], x => nomatch x
  | [o], x => f o.ex (o.slots.zip (canL o.ss x.1)) (o.names.zip (canCL o.cs x.2))
  | o :: p :: r, x => Sum.elim (fun x => f o.ex (o.slots.zip (canL o.ss x.1)) (o.names.zip (canCL o.cs x.2))) (fun x => outElim f (p :: r) x) x

structure LoopEnt where
  ctx : List Nat
  id : Nat
  head : LoopIn
  ss : List Sh
  cs : List CSh
  outs : List OutSh
  fn : ShL ss × CShL cs → Option (Outs outs)

/-- what the execution asks: pure functions, loops, commands -/
structure Orc where
  call : Call
  loop : List Nat → Nat → Option LoopEnt
  cmds : List Nat → Nat → List Cmd
  leave : List Nat → List Cmd
  fresh : Nat → List AV → Option ((e : Kind) × Option (List e.T)) := fun _ _ => none   -- functions that hand back a new slice

def stOf (base : Nat) (old : Hp) (avs : List (Nat × AV)) (cells : List (Nat × Cell)) : St :=
  { fr := look .undef avs
    hp := fun n => look (if n < base then (match old n with | .free => .free | _ => .dead) else .free) cells n }

/-- the first region of a piece of code -/
noncomputable def firstRegion (c : Code) : Nat :=
  Code.rec (motive := fun _ => Option Nat)
    none (fun id _ _ => some id) (fun _ _ x y => x.or y) (fun _ _ _ x y => x.or y) (fun _ _ x => x) (fun _ x => x)
    (fun _ _ _ _ x y => x.or y) (fun _ => none) (fun _ x => x) (fun _ => none) (fun _ => none) none (fun _ => none) c |>.getD 0

def argVals (e : Operand → AV) (args : Array Operand) : List AV := args.toList.map e

def putDst (sz : Nat) (o : Oper) (v : AV) (st : St) : Option St :=
  match o.dst with
  | none => some st
  | some d => if d < sz then some { st with fr := upd st.fr d v } else none

def resultOf (Γ : TEnv) (st : St) : ResultVar → Option AV
  | .tmp t => some (st.fr t)
  | .cell a t => (Γ.kind t).bind fun k => match st.fr a with
    | .ptr n off => match st.hp n with
      | .box cs => k.res ((cs.drop off).take k.size)
      | _ => none
    | _ => none

def allSome {α β : Type} (f : α → Option β) : List α → Option (List β)
  | [] => some []
  | x :: r => (f x).bind fun y => (allSome f r).map fun z => y :: z

def resultsOf (Γ : TEnv) (fn : Func) (st : St) : Option AV :=
  (allSome (resultOf Γ st) fn.results.toList).map fun | [v] => v | vs => .tup vs

def argsFr (args : List AV) : Nat → AV := fun i => args.getD i .undef

/-- a call whose arguments hold references: f is entered; its frame's names begin at base -/
abbrev Enter (R : Type) := List Nat → Nat → Nat → List AV → (AV → Hp → Option R) → Hp → Option R

def AV.isFn : AV → Bool
  | .fn _ _ => true
  | _ => false

def isShared (Γ : TEnv) (nm : Nat) (e : Operand → AV) : Op → Option (Nat × List AV)
  | .call { callee := .value f, args, argTypes := _ } => match e f with
    | .fn g cap => if (AV.closedL ((args.toList.map e) ++ cap) && !((args.toList.map e).any AV.isFn)) = true then none else
        if (Γ.proc nm g).isSome || (Γ.special g ((args.toList.map e) ++ cap)).isSome then none else some (g, (args.toList.map e) ++ cap)
    | _ => none
  | _ => none

/-- a call of a function that hands back a new slice -/
def freshOf (O : Orc) (e : Operand → AV) : Op → Option ((e : Kind) × Option (List e.T))
  | .call { callee := .value f, args, argTypes := _ } => match e f with
    | .fn g cap => if AV.closedL ((args.toList.map e) ++ cap) = true then O.fresh g ((args.toList.map e) ++ cap) else none
    | _ => none
  | _ => none

structure Fn where
  ctx : List Nat
  base : Nat
  sz : Nat

noncomputable def opRun {R : Type} (O : Orc) (Γ : TEnv) (enter : Enter R) (F : Fn) (o : Oper) (K : St → Option R) (st : St) : Option R :=
  match isShared Γ (F.base + o.dst.getD 0) (ev st.fr) o.op with
  | some (g, args) => enter (g :: F.ctx) (F.base + 1000) g (AV.onlyL (fun n => n < F.base + 1000) args)
      (fun v h => (putDst F.sz o v { fr := fun i => (st.fr i).only (fun n => n < F.base + 1000), hp := h }).bind K)
      (fun n => if n < F.base + 1000 then (st.hp n).only (fun n => n < F.base + 1000) else .free)
  | none => match freshOf O (ev st.fr) o.op with
    | some g => g.2.bind fun xs => match st.hp (F.base + o.dst.getD 0) with
      | .free => (putDst F.sz o (.ref (F.base + o.dst.getD 0)) { st with hp := upd st.hp (F.base + o.dst.getD 0) (.row g.1 xs) }).bind K
      | _ => none
    | none => (aop Γ (F.base + o.dst.getD 0) (ev st.fr) o.op).run O.call (fun v h => (putDst F.sz o v { st with hp := h }).bind K) st.hp

def guardSlot (ops : Array Oper) (j : Nat) : Option Nat := (ops[j]?).bind (·.dst)

noncomputable def opsRun {R : Type} (O : Orc) (Γ : TEnv) (enter : Enter R) (F : Fn) (ops : Array Oper) (K : St → Option R) : List Oper → St → Option R
  | [], st => K st
  | o :: rest, st => match o.guard with
    | none => opRun O Γ enter F o (opsRun O Γ enter F ops K rest) st
    | some (j, want) => match guardSlot ops j with
      | none => none
      | some d => match st.fr d with
        | .bool b =>
          if b = true then
            (if want = true then opRun O Γ enter F o (opsRun O Γ enter F ops K rest) { st with fr := upd st.fr d (.bool true) }
             else (putDst F.sz o (.tup []) { st with fr := upd st.fr d (.bool true) }).bind (opsRun O Γ enter F ops K rest))
          else
            (if want = true then (putDst F.sz o (.tup []) { st with fr := upd st.fr d (.bool false) }).bind (opsRun O Γ enter F ops K rest)
             else opRun O Γ enter F o (opsRun O Γ enter F ops K rest) { st with fr := upd st.fr d (.bool false) })
        | .tup [] => (putDst F.sz o (.tup []) st).bind (opsRun O Γ enter F ops K rest)
        | _ => none

/-- a region that draws its order: the order of the text, with each operation's footprint -/
noncomputable def opsRunF {R : Type} (O : Orc) (Γ : TEnv) (F : Fn) (ops : Array Oper) (K : List Fp → St → Option R) : List Oper → List Fp → St → Option R
  | [], fs, st => K fs st
  | o :: rest, fs, st =>
    let go (st : St) : Option R := match isShared Γ (F.base + o.dst.getD 0) (ev st.fr) o.op with
      | some _ => none
      | none => (aop Γ (F.base + o.dst.getD 0) (ev st.fr) o.op).runF O.call (fun v h f => (putDst F.sz o v { st with hp := h }).bind (opsRunF O Γ F ops K rest (f :: fs))) st.hp ⟨[], []⟩
    let skip (st : St) : Option R := (putDst F.sz o (.tup []) st).bind (opsRunF O Γ F ops K rest (⟨[], []⟩ :: fs))
    match o.guard with
    | none => go st
    | some (j, want) => match guardSlot ops j with
      | none => none
      | some d => match st.fr d with
        | .bool b =>
          if b = true then (if want = true then go { st with fr := upd st.fr d (.bool true) } else skip { st with fr := upd st.fr d (.bool true) })
          else (if want = true then skip { st with fr := upd st.fr d (.bool false) } else go { st with fr := upd st.fr d (.bool false) })
        | .tup [] => skip st
        | _ => none

def disjoint (a b : List Nat) : Bool := a.all fun x => !b.contains x

def Fp.indep (f g : Fp) : Bool := disjoint f.wn (g.rn ++ g.wn) && disjoint g.wn (f.rn ++ f.wn)

/-- each two operations that the text orders and no edge does: apart in slots and names (fs: the last operation's first) -/
def orderOk (ops : Array Oper) (fs : List Fp) : Bool :=
  let b := CheckFast.beforeF ops
  let fl := fs.reverse
  (List.range ops.size).all fun i => ((ops.getD i default).after.toList.all fun e => !Region.binds .any e || decide (e.on < i)) && (List.range i).all fun j =>
    (b.getD i 0).testBit j ||
    ((ops.getD j default).apart ops (ops.getD i default) && (ops.getD i default).apart ops (ops.getD j default) &&
     (fl.getD j ⟨[], []⟩).indep (fl.getD i ⟨[], []⟩))

/-- slots and names as they stand, all else forgotten -/
def listed (slots names : List Nat) (st : St) : List (Nat × AV) × List (Nat × Cell) :=
  (slots.map fun i => (i, (st.fr i).only (fun n => names.contains n)), names.map fun n => (n, (st.hp n).only (fun n => names.contains n)))

def loopState (base : Nat) (h : LoopIn) (st : St) : Option (List AV × List Cell) :=
  (runCmds base h.cmds st).map fun st =>
    (h.slots.map fun i => (st.fr i).only (fun n => h.names.contains n), h.names.map fun n => (st.hp n).only (fun n => h.names.contains n))

/-- where a loop begins -/
def loopSt (base : Nat) (h : LoopIn) (old : Hp) (avs : List AV) (cells : List Cell) : St :=
  stOf base old (h.slots.zip avs) (h.names.zip cells)

def Ex.same : Ex → Ex → Bool
  | .normal, .normal => true
  | .exit i, .exit j => i == j
  | .ret, .ret => true
  | _, _ => false

def outOf (o : OutSh) (st : St) : Option o.T :=
  (decL o.ss (o.slots.map fun i => (st.fr i).only (fun n => o.names.contains n))).bind fun x =>
    (decCL o.cs (o.names.map fun n => (st.hp n).only (fun n => o.names.contains n))).bind fun y => some (x, y)

/-- the way out that is taken -/
def outInj : (l : List OutSh) → Ex → St → Option (Outs l)
  | [], _, _ => none
  | [o], e, st => if o.ex.same e = true then outOf o st else none
  | o :: p :: r, e, st => if o.ex.same e = true then (outOf o st).bind fun x => some (.inl x) else (outInj (p :: r) e st).bind fun x => some (.inr x)

/-- what a round hands on: the next round, or the way out -/
def loopK (base : Nat) (h : LoopIn) (ss : List Sh) (cs : List CSh) (outs : List OutSh) (L : ShL ss × CShL cs → Option (Outs outs)) (e : Ex) (st : St) : Option (Outs outs) :=
  match e with
  | .normal => (loopState base h st).bind fun p => (decL ss p.1).bind fun x => (decCL cs p.2).bind fun y => L (x, y)
  | e => outInj outs e st

noncomputable def execC {R : Type} (O : Orc) (Γ : TEnv) (enter : Enter R) (F : Fn) (c : Code) : (Ex → St → Option R) → St → Option R :=
  Code.rec (motive := fun _ => (Ex → St → Option R) → St → Option R)
    (fun K st => K .normal st)
    (fun id ops draw K st => (runCmds F.base (O.cmds F.ctx id) st).bind fun st =>
      if draw = true then opsRunF O Γ F ops (fun fs st => if orderOk ops fs = true then K .normal st else none) ops.toList [] st
      else opsRun O Γ enter F ops (K .normal) ops.toList st)
    (fun _ _ x y K st => x (fun e st => match e with | .normal => y K st | e => K e st) st)
    (fun c _ _ x y K st => match c with
      | .tmp d => match st.fr d with
        | .bool b => if b = true then x K { st with fr := upd st.fr d (.bool true) } else y K { st with fr := upd st.fr d (.bool false) }
        | _ => none
      | .const (.bool b) => if b = true then x K st else y K st
      | _ => none)
    (fun id _ x K st => x (fun e st => match e with | .exit i => if i = id then K .normal st else K (.exit i) st | e => K e st) st)
    (fun body _ K st => match O.loop F.ctx (firstRegion body) with
      | some g => (loopState F.base g.head st).bind fun p => (decL g.ss p.1).bind fun x => (decCL g.cs p.2).bind fun y =>
          (g.fn (x, y)).bind fun r => outElim (fun e avs cells => K e (stOf F.base st.hp avs cells)) g.outs r
      | none => none)
    (fun _ _ _ _ _ _ _ _ => none)
    (fun id K st => K (.exit id) st)
    (fun _ _ _ _ => none)
    (fun _ _ _ => none)
    (fun _ _ _ => none)
    (fun K st => K .ret st)
    (fun _ _ _ => none)
    c

/-- entered functions, d deep (D: how deep in all) -/
noncomputable def enterD {R : Type} (P : Program) (O : Orc) (Γ : TEnv) (D : Nat) : Nat → Enter R
  | 0 => fun _ _ _ _ _ _ => none
  | d + 1 => fun ctx base g args K hp => match P.funcs[g]? with
    | none => none
    | some fn => match fn.body with
      | none => none
      | some c => if base = 1000 * (ctx.length - 1) ∧ ctx.head? = some g ∧ ctx.length + d = D ∧ args.length ≤ fn.ntmps then
          execC O Γ (enterD P O Γ D d) ⟨ctx, base, fn.ntmps⟩ c
          (fun e st => match e with
            | .exit _ => none
            | _ => (runCmds base (O.leave ctx) st).bind fun st => (resultsOf Γ fn st).bind fun v => (purify base st.hp v).bind fun v =>
                K v (fun n => if n < base then (st.hp n).only (fun n => n < base) else .free))
          { fr := argsFr args, hp := hp }
        else none

/-- a whole function: its arguments hold no references -/
noncomputable def fexec (P : Program) (O : Orc) (Γ : TEnv) (D : Nat) (g : Nat) (r : RSh) (args : List AV) : Option r.T :=
  enterD P O Γ D D [g] 0 g args (fun v _ => r.dec v) (fun _ => .free)

abbrev Tbl := List (Nat × (List AV → Option ((r : RSh) × Option r.T)))
abbrev PTbl := List (Nat × (List AV → List Cell → Option ((o : RSh × List CSh) × Option (o.1.T × CShL o.2))))
def callOf (t : Tbl) (pt : PTbl := []) : Call := ⟨fun f args => look (fun _ => none) t f args, fun f args cells => look (fun _ _ => none) pt f args cells⟩

abbrev FTbl := List (Nat × (List AV → Option ((e : Kind) × Option (List e.T))))

def mkOrc (t : Tbl) (ls : List LoopEnt) (cmds : List (List Nat × Nat × List Cmd)) (leaves : List (List Nat × List Cmd)) (fr : FTbl := []) (pt : PTbl := []) : Orc where
  fresh := fun f args => look (fun _ => none) fr f args
  call := callOf t pt
  loop := fun ctx id => ls.find? fun e => e.id == id && e.ctx == ctx
  cmds := fun ctx id => match cmds.find? fun e => e.2.1 == id && e.1 == ctx with | some e => e.2.2 | none => []
  leave := fun ctx => match leaves.find? fun e => e.1 == ctx with | some e => e.2 | none => []

/-- a function that is known by a typed F -/
def fnOf (ks : List Kind) (r : RSh) (F : ShL (ks.map Sh.kd) → Option r.T) (args : List AV) : Option ((r : RSh) × Option r.T) := (decL (ks.map Sh.kd) args).bind fun x => some ⟨r, F x⟩

/-- a procedure that is known by a typed F: arguments and cells, in the shapes ss and cs; it leaves cells of the shapes cs' -/
def procOf (ss : List Sh) (cs : List CSh) (r : RSh) (cs' : List CSh) (F : ShL ss × CShL cs → Option (r.T × CShL cs')) (args : List AV) (cells : List Cell) : Option ((o : RSh × List CSh) × Option (o.1.T × CShL o.2)) :=
  (decL ss args).bind fun x => (decCL cs cells).bind fun y => some ⟨(r, cs'), F (x, y)⟩

/-- a function that hands back a new slice, known by a typed F -/
def newOf (ks : List Kind) (e : Kind) (F : ShL (ks.map Sh.kd) → Option (List e.T)) (args : List AV) : Option ((e : Kind) × Option (List e.T)) := (decL (ks.map Sh.kd) args).bind fun x => some ⟨e, F x⟩

end Go.AM
