/- The relation between abstract states and the model's worlds. -/
import Derived.Test.YtdjbokdohackdaaA1
import Derived.Laws.OwnMore
import Derived.Laws.MakeOwn
import Derived.Laws.Entries
import Derived.Laws.World
import Derived.Laws.CopyRow
import Derived.MapKept
namespace Go.AM
open Go

/-- pointwise, in sequence -/
def RelL {α : Type} (R : α → List Value → Prop) : List α → List Value → Prop
  | [], vs => vs = []
  | x :: xs, vs => ∃ l r, vs = l ++ r ∧ R x l ∧ RelL R xs r

/-- the cells from o on of block b hold us -/
def CellsAt (w : World) (b o : Nat) (us : List Value) : Prop := ∀ j u, us[j]? = some u → w.cell? ⟨b, o + j, none⟩ = some u

/-- n elements of that many cells each lie at the address a, each related by its place -/
def SliceAt (w : World) (I : Nat → Prop) (size n : Nat) (R : Nat → List Value → Prop) (a : Option Addr) : Prop :=
  n = 0 ∨ ∃ b o, a = some ⟨b, o, none⟩ ∧ I b ∧ ∀ i, i < n → ∃ us, R i us ∧ CellsAt w b (o + i * size) us

def strOf (s : List UInt8) : Value := .string ⟨s.toArray⟩

/-- depth-bounded: the tree x stands in the cells vs -/
def RelRx (w : World) (I : Nat → Prop) : Rx → List Value → Prop
  | .mk k s kids, vs => s.length = 4 ∧ ∃ a len cap, vs = [.int .i64 k, .int .u64 (s.getD 0 0), .int .u64 (s.getD 1 0), .int .u64 (s.getD 2 0), .int .u64 (s.getD 3 0), .slice a len cap] ∧
      len = kids.length ∧ len ≤ cap ∧ (kids.length = 0 ∨ ∃ b o, a = some ⟨b, o, none⟩ ∧ I b ∧ go w I b kids o)
where
  go (w : World) (I : Nat → Prop) (b : Nat) : List Rx → Nat → Prop
    | [], _ => True
    | x :: r, o => (∃ us, RelRx w I x us ∧ CellsAt w b o us) ∧ go w I b r (o + 6)

def fnV : Option Nat → Value
  | none => .nilFunc
  | some f => .func (.func f) #[] #[]

def RelK (w : World) (I : Nat → Prop) : (k : Kind) → k.T → List Value → Prop
  | .bool, b, vs => vs = [.bool b]
  | .int ik, n, vs => vs = [.int ik n]
  | .str, s, vs => vs = [strOf s]
  | .dyn _, _, vs => ∃ v : Value, vs = [v] ∧ v.oneCell' = true
  | .slice e, xs, vs => ∃ a len cap, vs = [.slice a len cap] ∧ len = List.length (xs : List e.T) ∧ len ≤ cap ∧
      SliceAt w I e.size len (fun i us => RelK w I e ((xs : List e.T).getD i e.dflt) us) a
  | .unit, _, vs => vs = []
  | .pair a b, x, vs => ∃ l r, vs = l ++ r ∧ RelK w I a x.1 l ∧ RelK w I b x.2 r
  | .arr n e, xs, vs => List.length (xs : List e.T) = n ∧ RelL (RelK w I e) (xs : List e.T) vs
  | .rx, x, vs => RelRx w I x vs
  | .fnk, f, vs => vs = [fnV f]

/-- a situation: the world, the immutable blocks, where the names lie (of a row of maps: the slice and the maps), the abstract heap; B: the blocks that are not to be touched -/
structure Sit where
  w : World
  I : Nat → Prop
  ρ : Nat → Value
  hp : Hp
  B : Nat → Prop

def blockAt (v : Value) (b : Nat) : Prop := v = .pointer (some ⟨b, 0, none⟩)
def rowAtV (v : Value) (b len cap : Nat) : Prop := v = .slice (some ⟨b, 0, none⟩) len cap

mutual
def VRel (S : Sit) : AV → Value → Prop
  | .undef, _ => True
  | .bool b, v => v = .bool b
  | .int k n, v => v = .int k n
  | .str s, v => v = strOf s
  | .sl e xs, v => RelK S.w S.I (.slice e) xs [v]
  | .nilsl, v => v = .slice none 0 0
  | .ref n, v => v.oneCell' = true ∧ match S.hp n with
    | .row _ _ => v = S.ρ n
    | .mrow _ _ _ => ∃ ms : List Value, S.ρ n = .tuple (v :: ms).toArray
    | _ => True
  | .pref n k, v => v.oneCell' = true ∧ match S.hp n with
    | .row _ xs => ∃ a cap, S.ρ n = .slice a xs.length cap ∧ k ≤ xs.length ∧ v = .slice a k cap
    | _ => True
  | .ptr n off, v => v.oneCell' = true ∧ match S.hp n with
    | .box _ => ∃ b, blockAt (S.ρ n) b ∧ v = .pointer (some ⟨b, off, none⟩)
    | _ => True
  | .eptr n i sub, v => v.oneCell' = true ∧ match S.hp n with
    | .row e xs => i < xs.length ∧ ∃ b cap, rowAtV (S.ρ n) b xs.length cap ∧ v = .pointer (some ⟨b, i * e.size + sub, none⟩)
    | .mrow _ _ ess => i < ess.length ∧ ∃ (b cap : Nat) (ms : List Value), S.ρ n = .tuple (.slice (some ⟨b, 0, none⟩) ess.length cap :: ms).toArray ∧ v = .pointer (some ⟨b, i, none⟩)
    | _ => True
  | .aptr n off cnt i, v => v.oneCell' = true ∧ match S.hp n with
    | .box cs => i < cnt ∧ off + cnt ≤ cs.length ∧ ∃ b, blockAt (S.ρ n) b ∧ v = .pointer (some ⟨b, off + i, none⟩)
    | _ => True
  | .iptr cs, v => ∃ b o us, v = .pointer (some ⟨b, o, none⟩) ∧ S.I b ∧ VRelL S cs us ∧ CellsAt S.w b o us ∧ ∀ u ∈ us, u.oneCell' = true
  | .mapr n, v => v.oneCell' = true ∧ match S.hp n with
    | .map _ _ _ => v = S.ρ n
    | _ => True
  | .mref n i, v => v.oneCell' = true ∧ match S.hp n with
    | .mrow _ _ ess => i < ess.length ∧ ∃ (u : Value) (ms : List Value), S.ρ n = .tuple (u :: ms).toArray ∧ ms[i]? = some v
    | _ => True
  | .keys c n i, v => v.oneCell' = true ∧ ∃ (b : Nat) (m : Value), v = .func (.func c) #[] #[.pointer (some ⟨b, 0, none⟩)] ∧ S.I b ∧ CellsAt S.w b 0 [m] ∧ match S.hp n with
    | .mrow _ _ ess => i < ess.length ∧ ∃ (u : Value) (ms : List Value), S.ρ n = .tuple (u :: ms).toArray ∧ ms[i]? = some m
    | _ => True
  | .fn f cap, v => ∃ vs : List Value, v = .func (.func f) #[] vs.toArray ∧ VRelL S cap vs
  | .agg cs, v => ∃ vs : List Value, v = .agg vs.toArray ∧ VRelL S cs vs ∧ ∀ u ∈ vs, u.oneCell' = true
  | .tup cs, v => ∃ vs : List Value, v = .tuple vs.toArray ∧ VRelL S cs vs
  | .nilp, v => v = .pointer none
  | .nilfn, v => v = .nilFunc
  | .nilmap, v => v = .map none
  | .nilif, v => v = .nilIface
def VRelL (S : Sit) : List AV → List Value → Prop
  | [], vs => vs = []
  | a :: r, vs => ∃ v s, vs = v :: s ∧ VRel S a v ∧ VRelL S r s
end

-- the names of a value
mutual
def AV.names (p : Nat → Prop) : AV → Prop
  | .ref n | .pref n _ | .ptr n _ | .eptr n _ _ | .aptr n _ _ _ | .mapr n | .mref n _ | .keys _ n _ => p n
  | .fn _ cap => AV.namesL p cap
  | .agg cs => AV.namesL p cs
  | .tup cs => AV.namesL p cs
  | .iptr cs => AV.namesL p cs
  | _ => True
def AV.namesL (p : Nat → Prop) : List AV → Prop
  | [] => True
  | v :: r => v.names p ∧ AV.namesL p r
end

/-- a map's key or element as one value -/
def VK (w : World) (I : Nat → Prop) (k : Kind) (x : k.T) (v : Value) : Prop :=
  if k.isAgg = true then ∃ vs : List Value, v = .agg vs.toArray ∧ RelK w I k x vs else RelK w I k x [v]

def EntriesAt (w : World) (I : Nat → Prop) (k v : Kind) : List (k.T × v.T) → List MapEntry → Prop
  | [], l => l = []
  | p :: r, l => ∃ m s, l = m :: s ∧ VK w I k p.1 m.key ∧ VK w I v p.2 m.val ∧ EntriesAt w I k v r s

def blockOf : Value → Option Nat
  | .pointer (some a) => some a.block
  | .slice (some a) _ _ => some a.block
  | .map (some r) => some r
  | _ => none

/-- a map, not shared -/
def MapAt (S : Sit) (k v : Kind) (es : List (k.T × v.T)) (m : Value) : Prop :=
  ∃ (r : Nat) (ents : Array MapEntry) (clock : Nat), m = .map (some r) ∧ S.w.heap[r]? = some (Obj.map ents clock) ∧ ¬ S.I r ∧ ¬ S.B r ∧ EntriesAt S.w S.I k v es ents.toList ∧ MapKept.Stamped ents clock

/-- the object of name n, and its block -/
def ObjAt (S : Sit) (n : Nat) : Cell → Prop
  | .free | .dead => True
  | .box cs => ∃ b c E, blockAt (S.ρ n) b ∧ S.w.heap[b]? = some (.cells c E (0, 0)) ∧ ¬ S.I b ∧ ¬ S.B b ∧ VRelL S cs c.toList ∧ ∀ u ∈ c.toList, u.oneCell' = true
  | .row e xs => (S.ρ n = .slice none 0 0 ∧ xs.length = 0) ∨
      ∃ b cap c E, rowAtV (S.ρ n) b xs.length cap ∧ S.w.heap[b]? = some (.cells c E (0, 0)) ∧ ¬ S.I b ∧ ¬ S.B b ∧ xs.length ≤ cap ∧ cap ≤ maxLen ∧ c.size = cap * e.size ∧
        ∀ i, i < xs.length → ∃ us, RelK S.w S.I e (xs.getD i e.dflt) us ∧ ∀ j u, us[j]? = some u → c[i * e.size + j]? = some u
  | .map k v es => ∃ r ms clock, S.ρ n = .map (some r) ∧ S.w.heap[r]? = some (.map ms clock) ∧ ¬ S.I r ∧ ¬ S.B r ∧ EntriesAt S.w S.I k v es ms.toList ∧ MapKept.Stamped ms clock
  | .mrow k v ess => ∃ (b cap : Nat) (c : Array Value) (E : TypeId) (ms : List Value), S.ρ n = .tuple (.slice (some ⟨b, 0, none⟩) ess.length cap :: ms).toArray ∧ S.w.heap[b]? = some (.cells c E (0, 0)) ∧ ¬ S.I b ∧ ¬ S.B b ∧ ess.length ≤ cap ∧ cap ≤ maxLen ∧ c.size = cap ∧
      ms.length = ess.length ∧ (∀ (i j : Nat) (m m' : Value), i ≠ j → ms[i]? = some m → ms[j]? = some m' → blockOf m ≠ blockOf m') ∧ (∀ (i : Nat) (m : Value), ms[i]? = some m → c[i]? = some m ∧ blockOf m ≠ some b) ∧
      ∀ (i : Nat) (es : List (k.T × v.T)), ess[i]? = some es → ∃ m, ms[i]? = some m ∧ MapAt S k v es m

/-- the blocks of an object -/
def hasBlk : Value → Nat → Prop
  | .tuple vs, b => ∃ u ∈ vs.toList, blockOf u = some b
  | v, b => blockOf v = some b

def cellLive (c : Cell) : Prop := c.live = true

structure HRel (S : Sit) : Prop where
  ob : ∀ n, ObjAt S n (S.hp n)
  ds : ∀ n m b, n ≠ m → cellLive (S.hp n) → cellLive (S.hp m) → hasBlk (S.ρ n) b → ¬ hasBlk (S.ρ m) b
  il : ∀ b, S.I b → b < S.w.heap.size
  bl : ∀ b, S.B b → b < S.w.heap.size
  nb : ∀ n cs, S.hp n = .box cs → AV.namesL (fun m => S.hp m ≠ .free) cs

structure FRel (S : Sit) (fr : Nat → AV) (a : Act) : Prop where
  v : ∀ i, VRel S (fr i) (a.tmps.getD i undef)
  n : ∀ i, (fr i).names (fun m => S.hp m ≠ .free)
  d : a.defers = []

/-- what an object keeps as long as its name lives -/
def sameShape : Cell → Cell → Prop
  | .box cs, .box ds => ds.length = cs.length
  | .row e xs, .row e' ys => e' = e ∧ ys.length = xs.length
  | .map k v _, .map k' v' _ => k' = k ∧ v' = v
  | .mrow k v es, .mrow k' v' es' => k' = k ∧ v' = v ∧ es'.length = es.length
  | _, _ => False

/-- what the world shows outside is the same -/
def SameOut (w w' : World) : Prop := w'.os = w.os ∧ w'.output = w.output

structure Ext (p : Nat → Prop) (S T : Sit) : Prop where
  i : ∀ b, S.I b → T.I b ∧ T.w.heap[b]? = S.w.heap[b]?
  s : S.w.heap.size ≤ T.w.heap.size
  b : T.B = S.B
  o : ∀ b, S.B b → T.w.heap[b]? = S.w.heap[b]?
  f : ∀ n, p n → S.hp n ≠ .free → T.hp n = .dead ∨ (T.ρ n = S.ρ n ∧ sameShape (S.hp n) (T.hp n))
  g : ∀ n, p n → S.hp n = .dead → T.hp n = .dead
  j : ∀ b, T.I b → S.B b → S.I b
  q : SameOut S.w T.w

end Go.AM
