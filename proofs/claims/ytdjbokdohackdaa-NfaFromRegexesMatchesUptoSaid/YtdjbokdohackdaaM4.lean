import Derived.Test.YtdjbokdohackdaaM3
import Derived.Test.YtdjbokdohackdaaProg
import Derived.Shelf.Spec.SlicesGrow
import Derived.Shelf.SlIterI.Nil
import Derived.Shelf.SortM.Plain
import Derived.Shelf.SortM.SortNone
import Derived.Ground.GgzProg
import Derived.Ground.SlgmProg
import Derived.Ground.Names8Prog
/- The types' kinds, checked against the program's table. -/
namespace Go.AM
open Go Go.Proofs

def Γ0 : TEnv := { kinds := [(3, (.int .i64)), (4, .bool), (5, (.int .u8)), (9, .str), (22, (.slice (.pair (.int .i64) (.pair (.int .i64) (.pair .bool (.pair (.arr 4 (.int .u64)) .unit)))))), (23, (.slice (.int .i64))), (25, (.pair (.int .i64) (.pair (.int .i64) (.pair (.slice (.pair (.int .i64) (.pair (.int .i64) (.pair .bool (.pair (.arr 4 (.int .u64)) .unit))))) (.pair (.slice (.int .i64)) .unit))))), (46, (.int .u64)), (48, (.arr 4 (.int .u64))), (54, (.pair (.int .i64) (.pair (.int .i64) (.pair .bool (.pair (.arr 4 (.int .u64)) .unit))))), (56, (.slice .bool)), (60, (.slice (.int .u8))), (66, (.slice (.arr 4 (.int .u64)))), (70, (.pair .bool (.pair (.slice (.int .i64)) (.pair (.slice (.int .i64)) .unit)))), (78, (.slice (.arr 2 (.int .i64)))), (82, (.pair .bool (.pair (.slice (.int .i64)) (.pair (.slice (.int .i64)) .unit)))), (84, (.arr 2 (.int .i64))), (97, (.int .u64)), (99, (.slice (.slice (.int .i64)))), (50, .rx), (37, (.slice .rx)), (65, (.slice (.dyn 1))), (64, (.dyn 1)), (68, (.pair (.slice (.arr 4 (.int .u64))) (.pair (.slice (.dyn 1)) .unit))), (80, (.pair (.slice (.arr 4 (.int .u64))) (.pair (.slice (.arr 2 (.int .i64))) .unit))), (39, (.int .i64))], maps := [(64, ((.int .i64), .bool)), (89, ((.int .i64), .fnk))] }
theorem hm0 : Try.prog.follows .mixedOrders = true := by kernel_rfl
theorem hng0 : ∀ fn ∈ Try.prog.funcs, fn.name ≠ "runtime.NumGoroutine" := names_ok (by kernel_rfl)
theorem hΓ0 : Γ0.ok Try.prog = true := by kernel_rfl

end Go.AM

/- slices.Grow from nil; maps.Keys and slices.Sorted over int keys. -/
namespace Go.Proofs
open Go.RowKit Go.Maps Go.Sort Go.Shelf

def Try.keysA_ren : Go.Shelf.Ren := ⟨fun | 7 => 45 | 10 => 60 | n => n, fun | 23 => 64 | 26 => 3 | 3 => 4 | 28 => 75 | 0 => 0 | 27 => 74 | 33 => 52 | 4 => 4 | n => n, fun | n => n⟩
theorem Try.keysA : Go.Proofs.SlLaysZI.n7 Try.prog Try.keysA_ren := {
  mixed := by kernel_rfl
  f7 := ⟨Try.f45.name, by decide, Try.func45.trans (congrArg some (by kernel_rfl))⟩
  f10 := ⟨Try.f60.name, by decide, Try.func60.trans (congrArg some (by kernel_rfl))⟩
  t0 := Try.underlying0
  a0 := Try.isAgg0
  z0 := Try.sizeOf0
  v0 := Try.zeroValue0
  t4 := Try.underlying4
  a4 := Try.isAgg4
  z4 := Try.sizeOf4
  v4 := Try.zeroValue4
  t23 := Try.underlying64
  a23 := Try.isAgg64
  z23 := Try.sizeOf64
  v23 := Try.zeroValue64
  t26 := Try.underlying3
  a26 := Try.isAgg3
  z26 := Try.sizeOf3
  v26 := Try.zeroValue3
  t27 := Try.underlying74
  a27 := Try.isAgg74
  z27 := Try.sizeOf74
  v27 := Try.zeroValue74
  t28 := Try.underlying75
  a28 := Try.isAgg75
  z28 := Try.sizeOf75
  v28 := Try.zeroValue75
  t33 := Try.underlying52
  a33 := Try.isAgg52
  z33 := Try.sizeOf52
  v33 := Try.zeroValue52 }
def Try.sortedA_ren : Go.Shelf.Ren := ⟨fun | 6 => 44 | 8 => 58 | 9 => 59 | 11 => 64 | 13 => 66 | 12 => 65 | 23 => 78 | 24 => 79 | 14 => 69 | 15 => 70 | 16 => 71 | 17 => 72 | 18 => 73 | 19 => 74 | 20 => 75 | 21 => 76 | 22 => 77 | 25 => 80 | 26 => 81 | 27 => 82 | 28 => 83 | 29 => 84 | 30 => 85 | 31 => 86 | n => n, fun | 26 => 3 | 28 => 75 | 24 => 23 | 0 => 0 | 3 => 3 | 37 => 97 | 48 => 111 | 50 => 46 | 4 => 4 | 40 => 103 | 39 => 102 | 45 => 108 | 5 => 5 | 9 => 9 | 51 => 113 | 55 => 117 | 57 => 119 | 58 => 120 | 33 => 52 | n => n, fun | n => n⟩
theorem Try.sortedA : Go.Proofs.SlLaysZI.n6 Try.prog Try.sortedA_ren := {
  mixed := by kernel_rfl
  f6 := ⟨Try.f44.name, by decide, Try.func44.trans (congrArg some (by kernel_rfl))⟩
  f8 := ⟨Try.f58.name, by decide, Try.func58.trans (congrArg some (by kernel_rfl))⟩
  f11 := ⟨Try.f64.name, by decide, Try.func64.trans (congrArg some (by kernel_rfl))⟩
  t0 := Try.underlying0
  a0 := Try.isAgg0
  z0 := Try.sizeOf0
  v0 := Try.zeroValue0
  t24 := Try.underlying23
  a24 := Try.isAgg23
  z24 := Try.sizeOf23
  v24 := Try.zeroValue23
  t26 := Try.underlying3
  a26 := Try.isAgg3
  z26 := Try.sizeOf3
  v26 := Try.zeroValue3
  t28 := Try.underlying75
  a28 := Try.isAgg75
  z28 := Try.sizeOf75
  v28 := Try.zeroValue75
  i26 := by kernel_rfl }
def Try.sortA_ren : Go.Shelf.Ren := ⟨fun | 5 => 59 | 8 => 66 | 7 => 65 | 19 => 78 | 20 => 79 | 10 => 69 | 11 => 70 | 12 => 71 | 13 => 72 | 14 => 73 | 15 => 74 | 16 => 75 | 17 => 76 | 18 => 77 | 30 => 80 | 31 => 81 | 32 => 82 | 33 => 83 | 34 => 84 | 35 => 85 | 40 => 86 | n => n, fun | 23 => 23 | 25 => 3 | 3 => 3 | 32 => 97 | 22 => 23 | 0 => 0 | 44 => 111 | 46 => 46 | 4 => 4 | 36 => 103 | 35 => 102 | 41 => 108 | 5 => 5 | 9 => 9 | 53 => 113 | 57 => 117 | 63 => 119 | 64 => 120 | n => n, fun | n => n⟩
theorem Try.sortA : Go.Proofs.SlLaysM.n5 Try.prog Try.sortA_ren := {
  mixed := by kernel_rfl
  f5 := ⟨Try.f59.name, by decide, Try.func59.trans (congrArg some (by kernel_rfl))⟩
  f7 := ⟨Try.f65.name, by decide, Try.func65.trans (congrArg some (by kernel_rfl))⟩
  f8 := Try.func66.trans (congrArg some (by kernel_rfl))
  f10 := ⟨Try.f69.name, by decide, Try.func69.trans (congrArg some (by kernel_rfl))⟩
  f11 := ⟨Try.f70.name, by decide, Try.func70.trans (congrArg some (by kernel_rfl))⟩
  f12 := ⟨Try.f71.name, by decide, Try.func71.trans (congrArg some (by kernel_rfl))⟩
  f13 := ⟨Try.f72.name, by decide, Try.func72.trans (congrArg some (by kernel_rfl))⟩
  f14 := ⟨Try.f73.name, by decide, Try.func73.trans (congrArg some (by kernel_rfl))⟩
  f15 := ⟨Try.f74.name, by decide, Try.func74.trans (congrArg some (by kernel_rfl))⟩
  f16 := ⟨Try.f75.name, by decide, Try.func75.trans (congrArg some (by kernel_rfl))⟩
  f17 := ⟨Try.f76.name, by decide, Try.func76.trans (congrArg some (by kernel_rfl))⟩
  f18 := ⟨Try.f77.name, by decide, Try.func77.trans (congrArg some (by kernel_rfl))⟩
  f19 := Try.func78.trans (congrArg some (by kernel_rfl))
  f20 := Try.func79.trans (congrArg some (by kernel_rfl))
  f30 := ⟨Try.f80.name, by decide, Try.func80.trans (congrArg some (by kernel_rfl))⟩
  f31 := Try.func81.trans (congrArg some (by kernel_rfl))
  f32 := Try.func82.trans (congrArg some (by kernel_rfl))
  f33 := ⟨Try.f83.name, by decide, Try.func83.trans (congrArg some (by kernel_rfl))⟩
  f34 := ⟨Try.f84.name, by decide, Try.func84.trans (congrArg some (by kernel_rfl))⟩
  f35 := ⟨Try.f85.name, by decide, Try.func85.trans (congrArg some (by kernel_rfl))⟩
  f40 := ⟨Try.f86.name, by decide, Try.func86.trans (congrArg some (by kernel_rfl))⟩
  t0 := Try.underlying0
  a0 := Try.isAgg0
  z0 := Try.sizeOf0
  v0 := Try.zeroValue0
  t3 := Try.underlying3
  a3 := Try.isAgg3
  z3 := Try.sizeOf3
  v3 := Try.zeroValue3
  t4 := Try.underlying4
  a4 := Try.isAgg4
  z4 := Try.sizeOf4
  v4 := Try.zeroValue4
  t5 := Try.underlying5
  a5 := Try.isAgg5
  z5 := Try.sizeOf5
  v5 := Try.zeroValue5
  t9 := Try.underlying9
  a9 := Try.isAgg9
  z9 := Try.sizeOf9
  v9 := Try.zeroValue9
  t22 := Try.underlying23
  a22 := Try.isAgg23
  z22 := Try.sizeOf23
  v22 := Try.zeroValue23
  t23 := Try.underlying23
  a23 := Try.isAgg23
  z23 := Try.sizeOf23
  v23 := Try.zeroValue23
  t25 := Try.underlying3
  a25 := Try.isAgg3
  z25 := Try.sizeOf3
  v25 := Try.zeroValue3
  t32 := Try.underlying97
  a32 := Try.isAgg97
  z32 := Try.sizeOf97
  v32 := Try.zeroValue97
  t35 := Try.underlying102
  a35 := Try.isAgg102
  z35 := Try.sizeOf102
  v35 := Try.zeroValue102
  t36 := Try.underlying103
  a36 := Try.isAgg103
  z36 := Try.sizeOf103
  v36 := Try.zeroValue103
  t41 := Try.underlying108
  a41 := Try.isAgg108
  z41 := Try.sizeOf108
  v41 := Try.zeroValue108
  t44 := Try.underlying111
  a44 := Try.isAgg111
  z44 := Try.sizeOf111
  v44 := Try.zeroValue111
  t46 := Try.underlying46
  a46 := Try.isAgg46
  z46 := Try.sizeOf46
  v46 := Try.zeroValue46
  t53 := Try.underlying113
  a53 := Try.isAgg113
  z53 := Try.sizeOf113
  v53 := Try.zeroValue113
  t57 := Try.underlying117
  a57 := Try.isAgg117
  z57 := Try.sizeOf117
  v57 := Try.zeroValue117
  t63 := Try.underlying119
  a63 := Try.isAgg119
  z63 := Try.sizeOf119
  v63 := Try.zeroValue119
  t64 := Try.underlying120
  a64 := Try.isAgg120
  z64 := Try.sizeOf120
  v64 := Try.zeroValue120 }
def Try.growI_ren : Go.Shelf.Ren := ⟨fun | 4 => 68 | n => n, fun | 22 => 23 | 25 => 3 | 3 => 3 | 4 => 4 | 9 => 9 | 20 => 20 | 0 => 0 | n => n, fun | n => n⟩
theorem Try.growI : Go.Proofs.Lays8.n4 Try.prog Try.growI_ren := {
  mixed := by kernel_rfl
  f4 := ⟨Try.f68.name, by decide, Try.func68.trans (congrArg some (by kernel_rfl))⟩
  t0 := Try.underlying0
  a0 := Try.isAgg0
  z0 := Try.sizeOf0
  v0 := Try.zeroValue0
  t3 := Try.underlying3
  a3 := Try.isAgg3
  z3 := Try.sizeOf3
  v3 := Try.zeroValue3
  t4 := Try.underlying4
  a4 := Try.isAgg4
  z4 := Try.sizeOf4
  v4 := Try.zeroValue4
  t9 := Try.underlying9
  a9 := Try.isAgg9
  z9 := Try.sizeOf9
  v9 := Try.zeroValue9
  t20 := Try.underlying20
  a20 := Try.isAgg20
  z20 := Try.sizeOf20
  v20 := Try.zeroValue20
  t22 := Try.underlying23
  a22 := Try.isAgg23
  z22 := Try.sizeOf23
  v22 := Try.zeroValue23 }

/-- slices.Sort's two contracts at this dump -/
theorem Try.sortsA (m : Nat) : AnyZI.SortsIn Try.prog Try.sortedA_ren Fence.wide m :=
  ⟨fun blk off cap ss W hH hblk hsz => callsIn_wide.2 (AnyM.slices_Sort_int Try.sortA blk off cap ss W hH hblk hsz),
   fun p cap W => callsIn_wide.2 (AnyM.slices_Sort_int_none Try.sortA p cap W)⟩
end Go.Proofs

namespace Go.AM
open Go Go.Proofs Go.Shelf Go.Maps Go.Sort

noncomputable def p368 (n : Int) : Option (List Int) := if decide (0 ≤ n ∧ n ≤ (lim : Int)) = true then some [] else none

noncomputable def growNew : List AV → Option ((e : Kind) × Option (List e.T))
  | [.nilsl, .int .i64 n] => some ⟨.int .i64, p368 n⟩
  | _ => none

theorem growNew_inv {args : List AV} {r : (e : Kind) × Option (List e.T)} (h : growNew args = some r) : ∃ n : Int, args = [.nilsl, .int .i64 n] ∧ r = ⟨.int .i64, p368 n⟩ := by
  unfold growNew at h
  split at h
  · rename_i n
    simp only [Option.some.injEq] at h
    exact ⟨n, rfl, h.symm⟩
  · cases h

theorem s368 : SoundNew Try.prog 68 growNew := by
  refine ⟨⟨Try.f68, Try.func68, by kernel_rfl, hng0 _ (Array.mem_of_getElem? Try.func68)⟩, fun args r xs hr hx w I vs hI hv => ?_⟩
  obtain ⟨n, rfl, rfl⟩ := growNew_inv hr
  replace hx : p368 n = some xs := hx
  unfold p368 at hx
  split at hx
  · rename_i hn
    simp only [decide_eq_true_eq] at hn
    simp only [Option.some.injEq] at hx
    subst hx
    obtain ⟨v1, s1, rfl, h1, h2⟩ := hv.cons_inv
    obtain ⟨v2, s2, rfl, h3, h4⟩ := h2.cons_inv
    have := h4.nil_inv
    subst this
    have h1 := h1.nilsl_inv
    have h3 := h3.int_inv
    subst h1 h3
    obtain ⟨m, rfl⟩ : ∃ m : Nat, n = (m : Int) := ⟨n.toNat, by omega⟩
    have hm : m ≤ 68719476736 := by have := hn.2; simp only [lim] at this; omega
    rcases Nat.eq_zero_or_pos m with h0 | hpos
    · subst h0
      have hc := Any8.slices_Grow_room Try.growI none 0 0 0 w (by omega) (by omega) (by omega) (by omega)
      refine Calls.mono hc fun en w' he => ?_
      obtain ⟨rfl, rfl⟩ := he
      exact ⟨_, rfl, Nat.le_refl _, fun _ _ => rfl, ⟨rfl, rfl⟩, rfl, .inl ⟨rfl, rfl⟩⟩
    · have hi1 : Try.prog.info? 3 = some Try.t3 := by kernel_rfl
      have hi2 : Try.t3.zero = some (.int .i64 0) := by kernel_rfl
      have hi3 : Try.t3.size = 1 := by kernel_rfl
      have hi4 : Try.t3.bytes = 8 := by kernel_rfl
      have hc := Any8.slices_Grow_grow Try.growI Try.t3 (.int .i64 0) hi1 hi2 (by omega) none 0 0 m [] w (by omega) (by omega) (by rw [hi4]; omega) (by omega) (by rw [hi3]; rfl) (fun _ => rfl) (fun a h => by cases h)
      have hge : 0 + m ≤ grownCap w (0 + m) 0 (Try.growI_ren.t 25) := grownCap_ge w _ _ _
      have hle : grownCap w (0 + m) 0 (Try.growI_ren.t 25) ≤ maxLen := grownCap_le_maxLen w (0 + m) 0 _ (by unfold maxLen; omega)
      obtain ⟨G, hG⟩ : ∃ G, G = grownCap w (0 + m) 0 (Try.growI_ren.t 25) := ⟨_, rfl⟩
      rw [← hG] at hc hge hle
      clear hG
      refine Calls.mono hc fun en w' he => ?_
      obtain ⟨rfl, rfl⟩ := he
      refine ⟨.slice (some ⟨w.heap.size, 0, none⟩) 0 G, rfl, ?_, fun b hb => ?_, ⟨rfl, rfl⟩, rfl, .inr ⟨w.heap.size, G, (([] : List Value).toArray ++ Builtin.zeroCells (Value.int .i64 0).cells (0 + m - 0) ++ Builtin.zeroCells (Value.int .i64 0).cells (G - (0 + m))), Try.growI_ren.t 25, rfl, ?_, fun h => Nat.lt_irrefl _ (hI _ h), Nat.lt_irrefl _, Nat.zero_le _, hle, ?_, fun i hi => absurd hi (Nat.not_lt_zero _)⟩⟩
      rotate_left
      rotate_left
      · show ((w.drew).heap.push _)[w.heap.size]? = _
        exact Array.getElem?_push_size
      · simp [Builtin.zeroCells, Kind.size, Value.cells]
        omega
      · show w.heap.size ≤ (w.drew.heap.push _).size
        rw [Array.size_push]
        exact Nat.le_succ _
      · show ((w.drew).heap.push _)[b]? = _
        rw [getElem?_push_lt (show b < w.drew.heap.size from hb)]
        rfl
  · cases hx

theorem keysOk : KeysOk Try.prog 45 60 :=
  ⟨⟨Try.f45, Try.func45, by kernel_rfl, hng0 _ (Array.mem_of_getElem? Try.func45)⟩, _, fun w m => callsIn_wide.1 (AnyZI.keys_in Try.keysA Fence.wide 5 trivial rfl m w)⟩

theorem insInt_perm (x : Int) : ∀ l : List Int, (insInt x l).Perm (x :: l)
  | [] => .refl _
  | y :: r => by
    unfold insInt
    split
    · exact .refl _
    · exact ((insInt_perm x r).cons y).trans (.swap x y r)
theorem sortedInts_perm : ∀ l : List Int, (sortedInts l).Perm l
  | [] => .refl _
  | x :: l => (insInt_perm x _).trans ((sortedInts_perm l).cons x)
theorem insInt_sorted (x : Int) : ∀ {l : List Int}, l.Pairwise (· ≤ ·) → (insInt x l).Pairwise (· ≤ ·)
  | [], _ => by simp [insInt]
  | y :: r, h => by
    obtain ⟨h1, h2⟩ := List.pairwise_cons.1 h
    unfold insInt
    split
    · rename_i hxy
      exact List.pairwise_cons.2 ⟨fun z hz => by rcases List.mem_cons.1 hz with rfl | hz; exact hxy; exact Int.le_trans hxy (h1 z hz), h⟩
    · rename_i hxy
      refine List.pairwise_cons.2 ⟨fun z hz => ?_, insInt_sorted x h2⟩
      rcases List.mem_cons.1 ((insInt_perm x r).mem_iff.1 hz) with rfl | hz
      · omega
      · exact h1 z hz
theorem sortedInts_sorted : ∀ l : List Int, (sortedInts l).Pairwise (· ≤ ·)
  | [] => by simp [sortedInts]
  | x :: l => insInt_sorted x (sortedInts_sorted l)

theorem mergeSort_eq {ss ks : List Int} (h : ss.Perm ks) : ss.mergeSort (fun x y => decide (x ≤ y)) = sortedInts ks := by
  have tr : ∀ a b c : Int, decide (a ≤ b) = true → decide (b ≤ c) = true → decide (a ≤ c) = true := fun a b c h1 h2 => by simp only [decide_eq_true_eq] at *; exact Int.le_trans h1 h2
  have to : ∀ a b : Int, (decide (a ≤ b) || decide (b ≤ a)) = true := fun a b => by simp only [Bool.or_eq_true, decide_eq_true_eq]; exact Int.le_total a b
  refine List.Perm.eq_of_pairwise (le := fun a b : Int => a ≤ b) (fun a b _ _ h1 h2 => Int.le_antisymm h1 h2) ?_ (sortedInts_sorted ks) (((List.mergeSort_perm ss _).trans h).trans (sortedInts_perm ks).symm)
  exact (List.pairwise_mergeSort tr to ss).imp fun h => by simpa using h

/-- how an element of the map reads: it is not looked at -/
def anyR : Value → Option (DataW Unit × List MemPlace) := fun _ => some (.lit (.bool true), [])

theorem sortedOk : SortedOk Try.prog 44 60 := by
  refine ⟨⟨Try.f44, Try.func44, by kernel_rfl, hng0 _ (Array.mem_of_getElem? Try.func44)⟩, fun w I b r ents clock ks hI hcell hmap hst hsz hks hok => ?_⟩
  have hlim : lim ≤ maxLen := by unfold lim maxLen; omega
  have hu : Try.prog.underlying 3 = some (.int .i64) := by kernel_rfl
  have hwf : ∀ k ∈ ks, (Lit.int .i64 k).wf = true := fun k hk => by
    have h := List.all_eq_true.1 hok k hk
    simp only [decide_eq_true_eq] at h
    simp only [Lit.wf, Bool.and_eq_true, decide_eq_true_eq]
    exact h
  have hrd : ∀ x ∈ ents.toList, ∃ k : Int, k ∈ ks ∧ x.key = .int .i64 k ∧ WideElems.rd Try.prog 3 anyR x = some (.int .i64 k, .lit (.bool true)) := fun x hx => by
    have hm : x.key ∈ ks.map (Value.int .i64) := by rw [← hks]; exact List.mem_map.2 ⟨x, hx, rfl⟩
    obtain ⟨k, hk, e⟩ := List.mem_map.1 hm
    refine ⟨k, hk, e.symm, ?_⟩
    unfold WideElems.rd
    rw [← e, keyOf_int_mk hu (hwf k hk)]
    rfl
  have hown : w.ownsMap Try.prog 3 anyR r ents.size (.map ((ents.toList.map (WideElems.rg Try.prog 3 anyR)).foldr DataW.insert [])) :=
    ⟨ents, clock, hmap, ⟨Nat.le_trans hsz hlim, hst, fun x hx => by obtain ⟨k, _, _, h⟩ := hrd x hx; exact ⟨_, h⟩⟩, Nat.le_refl _, rfl⟩
  have hperm : (intKeys (.map ((ents.toList.map (WideElems.rg Try.prog 3 anyR)).foldr DataW.insert []))).Perm ks := by
    show (((ents.toList.map (WideElems.rg Try.prog 3 anyR)).foldr DataW.insert []).map fun p => Go.intOf p.1).Perm ks
    refine ((WideShapes.sorted_perm _).map _).trans ?_
    rw [List.map_map]
    have : ents.toList.map ((fun p : Lit × DataW Unit => Go.intOf p.1) ∘ WideElems.rg Try.prog 3 anyR) = ks := by
      have key : ∀ (l : List MapEntry) (ks : List Int), l.map (·.key) = ks.map (Value.int .i64) → (∀ x ∈ l, ∃ k : Int, x.key = .int .i64 k ∧ WideElems.rd Try.prog 3 anyR x = some (.int .i64 k, .lit (.bool true))) →
          l.map ((fun p : Lit × DataW Unit => Go.intOf p.1) ∘ WideElems.rg Try.prog 3 anyR) = ks := by
        intro l
        induction l with
        | nil => intro ks h _; cases ks <;> simp at h ⊢
        | cons x l ih =>
          intro ks h hx
          cases ks with
          | nil => simp at h
          | cons k ks =>
            simp only [List.map_cons, List.cons.injEq] at h ⊢
            refine ⟨?_, ih ks h.2 fun y hy => hx y (by simp [hy])⟩
            obtain ⟨k', h1, h2⟩ := hx x (by simp)
            rw [h.1] at h1
            simp only [Value.int.injEq, true_and] at h1
            subst h1
            have h3 : WideElems.rg (H := Unit) Try.prog 3 anyR x = (.int .i64 k, .lit (.bool true)) := by
              unfold WideElems.rg
              rw [h2, Option.getD_some]
            rw [Function.comp_apply, h3]
            rfl
      exact key _ _ hks fun x hx => by obtain ⟨k, _, h1, h2⟩ := hrd x hx; exact ⟨k, h1, h2⟩
    rw [this]
  have hb : b < w.heap.size := by
    unfold World.cell? at hcell
    split at hcell
    · rename_i h; exact (Array.getElem?_eq_some_iff.1 h).1
    · cases hcell
  have hseq := AnyZI.keys_gives (ρ := Try.keysA_ren) { Try.keysA with } Fence.wide 2 trivial rfl (by omega) b r ents.size (.map ((ents.toList.map (WideElems.rg Try.prog 3 anyR)).foldr DataW.insert [])) w hb hcell hown
  have hsize : Maps.size (.map ((ents.toList.map (WideElems.rg Try.prog 3 anyR)).foldr DataW.insert []) : DataW Unit) ≤ lim := by
    show ((ents.toList.map (WideElems.rg Try.prog 3 anyR)).foldr DataW.insert []).length ≤ lim
    rw [(WideShapes.sorted_perm _).length_eq, List.length_map, Array.length_toList]
    exact hsz
  have cS := AnyZI.sorted_in Try.sortedA Fence.wide 5 trivial trivial trivial trivial rfl (by omega) (Try.sortsA _) (enters_of Try.func59 (by kernel_rfl) rfl) 60 #[.pointer (some ⟨b, 0, none⟩)] trivial (enters_of Try.func60 (by kernel_rfl) rfl) _ _ (Nat.le_trans hsize hlim) (by have := hsize; unfold lim at this; omega) _ hseq
  refine Calls.mono (callsIn_wide.1 cS) fun en w' he => ?_
  obtain ⟨v, ss, rfl, hS, ⟨hl, hrow⟩, _, hbel⟩ := he
  have hss : ss.mergeSort (fun x y => decide (x ≤ y)) = sortedInts ks := mergeSort_eq (hS.trans hperm)
  have hlen : (sortedInts ks).length = ss.length := by rw [← hss]; simp
  rw [hss] at hrow
  refine ⟨v, rfl, hbel.size, fun c hc => hbel.block c hc, ⟨hbel.os, hbel.output⟩, ?_, ?_⟩
  · rcases hrow with ⟨rfl, _⟩ | ⟨g, cap, cur, rfl, _⟩ <;> rfl
  · rcases hrow with ⟨rfl, h0⟩ | ⟨g, cap, cur, rfl, h1, h2, h3, h4, h5, h6⟩
    · exact .inl ⟨rfl, by rw [hlen]; exact h0⟩
    · refine .inr ⟨g, cap, cur, _, by rw [hlen]; rfl, h2, fun h => by have := hI g h; omega, fun h => by have h : g < w.heap.size := h; omega, by rw [hlen]; exact h3, h4, h5, fun i hi => ⟨[.int .i64 ((sortedInts ks).getD i 0)], rfl, fun j u hu => ?_⟩⟩
      cases j with
      | succ j => simp at hu
      | zero =>
        simp only [List.getElem?_cons_zero, Option.some.injEq] at hu
        subst hu
        have e1 : i * Kind.size (.int .i64) + 0 = i := by simp [Kind.size]
        rw [e1]
        have h7 : (cur.toList.take (ss.length * 1))[i]? = some (Value.int .i64 ((sortedInts ks).getD i 0)) := by
          rw [h6, List.getElem?_map, List.getD_eq_getElem?_getD, List.getElem?_eq_getElem hi]
          rfl
        rw [List.getElem?_take_of_lt (by omega)] at h7
        simpa using h7
end Go.AM
