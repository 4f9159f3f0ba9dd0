/- maps.Keys of a map and slices.Sorted of what it hands back: what is asked of them. -/
import Derived.Test.YtdjbokdohackdaaB2
namespace Go.AM
open Go

/-- f is maps.Keys: it hands back the closure c over the map -/
def KeysOk (P : Program) (f c : Nat) : Prop :=
  (∃ fn, P.funcs[f]? = some fn ∧ fn.body.isSome = true ∧ fn.name ≠ "runtime.NumGoroutine") ∧
  ∃ E : TypeId, ∀ (w : World) (m : Option Nat), Calls P f #[.map m] w fun e w' => e = .returned (.func (.func c) #[] #[.pointer (some ⟨w.heap.size, 0, none⟩)]) ∧ w' = w.alloc (.cells #[.map m] E)

/-- g is slices.Sorted: over that closure it hands back the keys, sorted, in a new slice -/
def SortedOk (P : Program) (g c : Nat) : Prop :=
  (∃ fn, P.funcs[g]? = some fn ∧ fn.body.isSome = true ∧ fn.name ≠ "runtime.NumGoroutine") ∧
  ∀ (w : World) (I : Nat → Prop) (b r : Nat) (ents : Array MapEntry) (clock : Nat) (ks : List Int), (∀ b, I b → b < w.heap.size) → w.cell? ⟨b, 0, none⟩ = some (.map (some r)) → w.heap[r]? = some (.map ents clock) → MapKept.Stamped ents clock →
    ents.size ≤ lim → ents.toList.map (·.key) = ks.map (Value.int .i64) → i64ok ks = true →
      Calls P g #[.func (.func c) #[] #[.pointer (some ⟨b, 0, none⟩)]] w fun en w' => ∃ v, en = .returned v ∧ w.heap.size ≤ w'.heap.size ∧ (∀ b, b < w.heap.size → w'.heap[b]? = w.heap[b]?) ∧ SameOut w w' ∧
        v.oneCell' = true ∧ ObjAt ⟨w', I, fun _ => v, fun _ => .free, fun b => b < w.heap.size⟩ 0 (.row (.int .i64) (sortedInts ks))
end Go.AM
