/- The position automaton of a list, plain: its arcs, the whole. -/
import Derived.Test.YtdjbokdohackdaaP55
namespace Go.AM
open Go

abbrev Arc' : Type := (Int) × ((Int) × ((Bool) × ((List (Int)) × (Unit))))
def nrm4 (s : List Int) : List Int := [s.getD 0 0, s.getD 1 0, s.getD 2 0, s.getD 3 0]
def arcOf (S : List (List Int)) (p q : Int) : Arc' := (p, (q, (false, (nrm4 (S.getD (q - 1).toNat (List.replicate 4 0)), ()))))
def rowOf (S : List (List Int)) (B : List (List (Int × Bool))) (p : Nat) : List Arc' := (sortedInts (kys (B.getD p []))).map (arcOf S p)
def arcsTo (S : List (List Int)) (B : List (List (Int × Bool))) (i : Nat) : List Arc' := (List.range i).flatMap (rowOf S B)

theorem arcsTo_succ (S : List (List Int)) (B : List (List (Int × Bool))) (i : Nat) : arcsTo S B (i + 1) = arcsTo S B i ++ rowOf S B i := by
  unfold arcsTo; rw [List.range_succ, List.flatMap_append]; simp

theorem l324_33 (N : Int) (acc : List Int) (S : List (List Int)) (B : List (List (Int × Bool))) (p x100 x101 : Int) (qs : List Int) (arcs : List Arc') (hq : ∀ q ∈ qs, 1 ≤ q ∧ q ≤ (S.length : Int)) (hS : S.length ≤ 1000000)
    (hl : arcs.length + qs.length ≤ 1000000000) :
    limit L324_33 (((), (), (), p, (), x100, x101, (), (qs.length : Int), (0 : Int), ()), (nf0, acc, (N, (0 : Int), (), (), ()), ((), (), ()), qs, arcs, S, B, ())) =
      some (((), (), (), (), x100, x101, ()), (nf0, acc, (N, (0 : Int), (), (), ()), ((), (), ()), arcs ++ qs.map (arcOf S p), S, B, ())) := by
  have h := for_rule (L := L324_33) (N := qs.length)
    (S := fun j => (((), (), (), p, (), x100, x101, (), (qs.length : Int), (j : Int), ()), (nf0, acc, (N, (0 : Int), (), (), ()), ((), (), ()), qs, arcs ++ (qs.take j).map (arcOf S p), S, B, ())))
    (r := (((), (), (), (), x100, x101, ()), (nf0, acc, (N, (0 : Int), (), (), ()), ((), (), ()), arcs ++ qs.map (arcOf S p), S, B, ())))
    (fun j hj n => by
      have h1 := hq _ (getD_mem (d := 0) hj)
      have hw : IntKind.i64.wrap (qs.getD j 0 - 1) = qs.getD j 0 - 1 := wrap_i64 (by omega) (by omega)
      simp only [L324_33, Int.toNat_natCast, hw]
      rw [if_pos (lt_nat hj), if_pos (in_range hj), if_pos (ct (by omega)), if_pos (ct (by rw [List.length_append, List.length_map, List.length_take]; simp; unfold lim; omega)), wrap_nat (by omega), take_snoc (d := 0) hj, List.map_append, List.append_assoc]
      rfl)
    (fun n => by simp only [L324_33]; rw [if_neg nlt_nat, List.take_length]) (by omega)
  simpa using h

/-- what the maps hold: keys of states, each once -/
def KB (S : List (List Int)) (B : List (List (Int × Bool))) : Prop := ∀ p, p < B.length → (kys (B.getD p [])).Nodup ∧ ∀ q ∈ kys (B.getD p []), 1 ≤ q ∧ q ≤ (S.length : Int)

theorem sorted_strict {l : List Int} (h : l.Nodup) : (sortedInts l).Pairwise (· < ·) := by
  have h1 := sortedInts_sorted l
  have h2 : (sortedInts l).Nodup := (sortedInts_perm l).nodup_iff.2 h
  have := List.pairwise_and_iff.2 ⟨h1, h2⟩
  exact this.imp fun h => by have := h.1; have := h.2; omega

theorem srt_mem {l : List Int} {x : Int} : x ∈ sortedInts l ↔ x ∈ l := (sortedInts_perm l).mem_iff

theorem KB.len {S : List (List Int)} {B : List (List (Int × Bool))} (h : KB S B) {p : Nat} (hp : p < B.length) : (kys (B.getD p [])).length ≤ S.length := by
  have h1 := strict_len (sortedInts (kys (B.getD p []))) 1 S.length (sorted_strict (h p hp).1) (fun x hx => by have := (h p hp).2 x (srt_mem.1 hx); omega)
  rw [(sortedInts_perm _).length_eq] at h1
  exact h1

theorem rowOf_len {S : List (List Int)} {B : List (List (Int × Bool))} (h : KB S B) {p : Nat} (hp : p < B.length) : (rowOf S B p).length ≤ S.length := by
  unfold rowOf
  rw [List.length_map, (sortedInts_perm _).length_eq]
  exact h.len hp

theorem arcsTo_len {S : List (List Int)} {B : List (List (Int × Bool))} (h : KB S B) : ∀ i, i ≤ B.length → (arcsTo S B i).length ≤ i * S.length
  | 0, _ => by simp [arcsTo]
  | i + 1, hi => by
    rw [arcsTo_succ, List.length_append, Nat.add_mul, Nat.one_mul]
    have := arcsTo_len h i (by omega)
    have := rowOf_len h (p := i) (by omega)
    omega

theorem l324_30 (N : Int) (acc : List Int) (S : List (List Int)) (B : List (List (Int × Bool))) (hK : KB S B) (hS : S.length ≤ 1000) (hB : B.length ≤ 1001) :
    limit L324_30 (((), (), (), (), (B.length : Int), (0 : Int), ()), (nf0, acc, (N, (0 : Int), (), (), ()), ((), (), ()), ([] : List Arc'), S, B, ())) = some (((), (), ()), (nf0, acc, (N, (0 : Int), (), (), ()), arcsTo S B B.length, ())) := by
  have h := for_rule (L := L324_30) (N := B.length) (S := fun i => (((), (), (), (), (B.length : Int), (i : Int), ()), (nf0, acc, (N, (0 : Int), (), (), ()), ((), (), ()), arcsTo S B i, S, B, ())))
    (r := (((), (), ()), (nf0, acc, (N, (0 : Int), (), (), ()), arcsTo S B B.length, ())))
    (fun i hi n => by
      have hk := hK i hi
      have hkl := hK.len hi
      have hal := arcsTo_len hK i (by omega)
      have hmul : i * S.length ≤ 1001 * 1000 := Nat.mul_le_mul (by omega) hS
      have hsl : (sortedInts (kys (B.getD i []))).length = (kys (B.getD i [])).length := (sortedInts_perm _).length_eq
      have e := l324_33 N acc S B (i : Int) (B.length : Int) (i : Int) (sortedInts (kys (B.getD i []))) (arcsTo S B i) (fun q hq => hk.2 q (srt_mem.1 hq)) (by omega) (by omega)
      have hok : (decide ((B.getD i []).length ≤ lim) && i64ok (kys (B.getD i []))) = true := by
        rw [Bool.and_eq_true]
        refine ⟨ct (by have : (B.getD i []).length = (kys (B.getD i [])).length := (List.length_map _).symm; unfold lim; omega), List.all_eq_true.2 fun q hq => ct (by have := hk.2 q hq; omega)⟩
      simp only [L324_30, Int.toNat_natCast]
      rw [if_pos (lt_nat hi), if_pos (in_range hi), if_pos hok, e]
      simp only [Option.bind_some]
      rw [wrap_nat (by omega), arcsTo_succ]
      rfl)
    (fun n => by simp only [L324_30]; rw [if_neg nlt_nat]) (by omega)
  exact h

/-- the maps of a list's automaton -/
def mapsA (l : List Rx) : List (List (Int × Bool)) := appP (flA l 0) (List.replicate ((lvL l).length + 1) [])

theorem mapsA_length (l : List Rx) : (mapsA l).length = (lvL l).length + 1 := by unfold mapsA; rw [appP_length, List.length_replicate]

theorem mapsA_keys (l : List Rx) {p : Nat} (hp : p < (lvL l).length + 1) : (kys ((mapsA l).getD p [])).Nodup ∧ ∀ q, q ∈ kys ((mapsA l).getD p []) ↔ ((p : Int), q) ∈ flA l 0 := by
  have hf := flA_in l 0
  have e0 : (List.replicate ((lvL l).length + 1) ([] : List (Int × Bool))).getD p [] = [] := by
    rw [List.getD_eq_getElem?_getD, List.getElem?_replicate]; split <;> rfl
  obtain ⟨h1, h2⟩ := appP_keys (flA l 0) (List.replicate ((lvL l).length + 1) []) p (by rw [List.length_replicate]; exact hp) (fun x hx => by have := hf x hx; rw [List.length_replicate]; omega) (by rw [e0]; simp [kys])
  refine ⟨h1, fun q => ?_⟩
  unfold mapsA
  rw [h2 q, e0]
  simp [kys]

theorem mapsA_KB (l : List Rx) : KB (lvL l) (mapsA l) := fun p hp => by
  rw [mapsA_length] at hp
  obtain ⟨h1, h2⟩ := mapsA_keys l hp
  refine ⟨h1, fun q hq => ?_⟩
  have := flA_in l 0 _ ((h2 q).1 hq)
  omega

/-- the automaton that the program builds -/
def nfaA (l : List Rx) : (Int) × ((Int) × ((List Arc') × ((List (Int)) × (Unit)))) := ((((lvL l).length + 1 : Nat) : Int), ((0 : Int), (arcsTo (lvL l) (mapsA l) ((lvL l).length + 1), (acA l 0 0 [-1], ()))))

theorem p324_spec {l : List Rx} (hw : ∀ r ∈ l, wfR r) (hl : l.length ≤ 1000000) (hn : nnL l ≤ 1152921504606846976) :
    (¬ AllV l → p324 (l, ()) = some ((0, (0, ([], ([], ())))), 1, ())) ∧ (AllV l → nnL l > 500 → p324 (l, ()) = some ((0, (0, ([], ([], ())))), 11, ())) ∧ (AllV l → nnL l ≤ 500 → p324 (l, ()) = some (nfaA l, 0, ())) := by
  obtain ⟨r, e, h⟩ := l324_3 hw (by omega) hn
  simp only [p324]
  rw [e]
  rcases h with ⟨h1, rfl⟩ | ⟨h1, rfl⟩
  · refine ⟨fun h => absurd h1 h, fun _ h5 => ?_, fun _ h5 => ?_⟩
    · simp only [Option.bind_some, Sum.elim_inr]
      rw [if_pos (ct (by omega))]
    · have hlv := lvL_le l
      have e14 := l324_14 hw h1 hl (by omega)
      simp only [Option.bind_some, Sum.elim_inr]
      rw [if_neg (cf (by omega))]
      have e14' : limit L324_14 (((), (), (), l, (l.length : Int), (0 : Int), ()), (nf0, [-1], ((), (), ()), [], [[]], ())) = _ := e14
      rw [e14']
      simp only [Option.bind_some]
      have e30 := l324_30 (((acA l 0 0 [-1]).length : Nat) : Int) (acA l 0 0 [-1]) (lvL l) (mapsA l) (mapsA_KB l) (by omega) (by rw [mapsA_length]; omega)
      have e30' : limit L324_30 (((), (), (), (), ((appP (flA l 0) (List.replicate ((lvL l).length + 1) [])).length : Int), (0 : Int), ()), (nf0, acA l 0 0 [-1], ((((acA l 0 0 [-1]).length : Nat) : Int), (0 : Int), (), (), ()), ((), (), ()), ([] : List Arc'), lvL l, appP (flA l 0) (List.replicate ((lvL l).length + 1) []), ())) = _ := e30
      rw [e30']
      simp only [Option.bind_some]
      rw [mapsA_length, acA_length]
      unfold nfaA
      rw [show ([(-1 : Int)] : List Int).length + (lvL l).length = (lvL l).length + 1 by simp [Nat.add_comm]]
  · exact ⟨fun _ => rfl, fun h => absurd h h1, fun h => absurd h h1⟩
end Go.AM
