/- Nondeterministic automata: valid, by the program and by the reference. -/
import Derived.Test.YtdjbokdohackdaaP1
import Derived.Test.YtdjbokdohackdaaH1
namespace Go.AM
open Go

abbrev Arc : Type := Int × (Int × (Bool × (List Int × Unit)))
def ad : Arc := (0, (0, (false, ((List.replicate 4 0), ()))))
theorem e_ad : ((0, (0, (false, ((List.replicate 4 0), ())))) : Int × (Int × (Bool × (List Int × Unit)))) = ad := rfl
abbrev setOf (a : Arc) : List Int := [a.2.2.2.1.getD 0 0, a.2.2.2.1.getD 1 0, a.2.2.2.1.getD 2 0, a.2.2.2.1.getD 3 0]
abbrev isZero4 (l : List Int) : Bool := Kind.eqB (.arr 4 (.int .u64)) l [(0 : Int), (0 : Int), (0 : Int), (0 : Int)]

def ArcOk (st : Int) (a : Arc) : Prop := 0 ≤ a.1 ∧ a.1 < st ∧ 0 ≤ a.2.1 ∧ a.2.1 < st ∧ (a.2.2.1 = true → isZero4 (setOf a) = true)

structure VNfa (st start : Int) (arcs : List Arc) (acc : List Int) : Prop where
  s1 : 1 ≤ st
  s2 : st ≤ 2000
  b0 : 0 ≤ start
  b1 : start < st
  al : (acc.length : Int) = st
  ar : ∀ i, i < arcs.length → ArcOk st (arcs.getD i ad)
  ac : ∀ i, i < acc.length → -1 ≤ acc.getD i 0

theorem p45_spec {st start : Int} {arcs : List Arc} {acc : List Int} (hl : arcs.length ≤ 9223372036854775807) :
    ∃ b, p45 ((st, (start, (arcs, (acc, ())))), ()) = some b ∧ (b = true ↔ VNfa st start arcs acc) := by
  simp only [p45]
  by_cases h1 : st < 1
  · rw [if_pos (ct h1)]; exact ⟨false, rfl, fun h => (by cases h), fun h => absurd h.s1 (by omega)⟩
  rw [if_neg (cf h1)]
  by_cases h2 : st > 2000
  · rw [if_pos (ct h2)]; exact ⟨false, rfl, fun h => (by cases h), fun h => absurd h.s2 (by omega)⟩
  rw [if_neg (cf h2)]
  by_cases h3 : start < 0
  · rw [if_pos (ct h3)]; exact ⟨false, rfl, fun h => (by cases h), fun h => absurd h.b0 (by omega)⟩
  rw [if_neg (cf h3)]
  by_cases h4 : start ≥ st
  · rw [if_pos (ct h4)]; exact ⟨false, rfl, fun h => (by cases h), fun h => absurd h.b1 (by omega)⟩
  rw [if_neg (cf h4)]
  by_cases h5 : ¬ (acc.length : Int) = st
  · rw [if_pos (cnt h5)]; exact ⟨false, rfl, fun h => (by cases h), fun h => absurd h.al h5⟩
  replace h5 := Classical.not_not.1 h5
  rw [if_neg (cnf h5)]
  -- the accepted numbers
  let S4 : Nat → ((Unit × (Int) × Unit) × (((Int) × (Int) × (List ((Int) × ((Int) × ((Bool) × ((List (Int)) × (Unit)))))) × (List (Int)) × Unit) × Unit)) := fun i => (((), (i : Int), ()), ((st, start, arcs, acc, ()), ()))
  have hs4 : ∀ i, i < acc.length → -1 ≤ acc.getD i 0 → ∀ n, L45_4 (n + 1) (S4 i) = L45_4 n (S4 (i + 1)) := by
    intro i hi h n
    simp only [S4, L45_4, Int.toNat_natCast]
    rw [if_pos (lt_nat hi), if_pos (in_range hi), if_neg (cf (by omega)), wrap_nat (by omega)]
  rcases (all_or_first acc.length (fun i => -1 ≤ acc.getD i 0)).symm with ⟨i, hi, g1, g2⟩ | hac
  · have hlim := for_rule (L := L45_4) (N := i) (S := S4) (r := .inl ((false, ()), ())) (fun j hj => hs4 j (by omega) (g2 j hj)) (fun n => by
      simp only [S4, L45_4, Int.toNat_natCast]
      rw [if_pos (lt_nat hi), if_pos (in_range hi), if_pos (ct (by omega))]) (by omega)
    simp only [S4] at hlim
    rw [show ((0 : Nat) : Int) = 0 from rfl] at hlim
    rw [hlim]
    exact ⟨false, rfl, fun h => (by cases h), fun h => absurd (h.ac i hi) g1⟩
  have hlim := for_rule (L := L45_4) (N := acc.length) (S := S4) (r := .inr (((), ()), ((st, start, arcs, acc, ()), ()))) (fun j hj => hs4 j hj (hac j hj)) (fun n => by
    simp only [S4, L45_4]; rw [if_neg nlt_nat]) (by omega)
  simp only [S4] at hlim
  rw [show ((0 : Nat) : Int) = 0 from rfl] at hlim
  rw [hlim]
  simp only [Option.bind_some, Sum.elim_inr]
  -- the arcs
  let S9 : Nat → ((Unit × (Int) × Unit) × (((Int) × (Int) × (List ((Int) × ((Int) × ((Bool) × ((List (Int)) × (Unit)))))) × (List (Int)) × Unit) × Unit)) := fun i => (((), (i : Int), ()), ((st, start, arcs, acc, ()), ()))
  have hs9 : ∀ i, i < arcs.length → ArcOk st (arcs.getD i ad) → ∀ n, L45_9 (n + 1) (S9 i) = L45_9 n (S9 (i + 1)) := by
    intro i hi ⟨a1, a2, a3, a4, a5⟩ n
    simp only [S9, L45_9, Int.toNat_natCast]
    rw [e_ad]
    rw [if_pos (lt_nat hi), if_pos (in_range hi), if_neg (cf (by omega)), if_neg (cf (by omega)), if_neg (cf (by omega)), if_neg (cf (by omega)), wrap_nat (by omega)]
    by_cases he : (arcs.getD i ad).2.2.1 = true
    · rw [if_pos he, if_neg (show ¬ (!isZero4 (setOf (arcs.getD i ad))) = true by rw [a5 he]; exact ntf)]
    · rw [if_neg he]
  rcases all_or_first arcs.length (fun i => ArcOk st (arcs.getD i ad)) with har | ⟨i, hi, g1, g2⟩
  · have hlim := for_rule (L := L45_9) (N := arcs.length) (S := S9) (r := .inr ((), ())) (fun j hj => hs9 j hj (har j hj)) (fun n => by simp only [S9, L45_9]; rw [if_neg nlt_nat]) (by omega)
    simp only [S9] at hlim
    rw [show ((0 : Nat) : Int) = 0 from rfl] at hlim
    rw [hlim]
    exact ⟨true, rfl, fun _ => ⟨by omega, by omega, by omega, by omega, h5, har, hac⟩, fun _ => rfl⟩
  · have hlim := for_rule (L := L45_9) (N := i) (S := S9) (r := .inl ((false, ()), ())) (fun j hj => hs9 j (by omega) (g2 j hj)) (fun n => by
      simp only [S9, L45_9, Int.toNat_natCast]
      rw [e_ad]
      rw [if_pos (lt_nat hi), if_pos (in_range hi)]
      by_cases a1 : (arcs.getD i ad).1 < 0
      · rw [if_pos (ct a1)]
      rw [if_neg (cf a1)]
      by_cases a2 : (arcs.getD i ad).1 ≥ st
      · rw [if_pos (ct a2)]
      rw [if_neg (cf a2)]
      by_cases a3 : (arcs.getD i ad).2.1 < 0
      · rw [if_pos (ct a3)]
      rw [if_neg (cf a3)]
      by_cases a4 : (arcs.getD i ad).2.1 ≥ st
      · rw [if_pos (ct a4)]
      rw [if_neg (cf a4)]
      by_cases he : (arcs.getD i ad).2.2.1 = true
      · rw [if_pos he]
        cases hz : isZero4 (setOf (arcs.getD i ad)) with
        | true => exact absurd ⟨by omega, by omega, by omega, by omega, fun _ => hz⟩ g1
        | false => rw [if_pos (show (!isZero4 (setOf (arcs.getD i ad))) = true by rw [hz]; rfl)]
      · exact absurd ⟨by omega, by omega, by omega, by omega, fun h => absurd h he⟩ g1) (by omega)
    simp only [S9] at hlim
    rw [show ((0 : Nat) : Int) = 0 from rfl] at hlim
    rw [hlim]
    exact ⟨false, rfl, fun h => (by cases h), fun h => absurd (h.ar i hi) g1⟩

theorem p39_spec {st start : Int} {arcs : List Arc} {acc : List Int} (hl : arcs.length ≤ 9223372036854775807) :
    ∃ b, p39 ((st, (start, (arcs, (acc, ())))), ()) = some b ∧ (b = true ↔ VNfa st start arcs acc) := by
  simp only [p39]
  by_cases h1 : st < 1
  · rw [if_pos (ct h1)]; exact ⟨false, rfl, fun h => (by cases h), fun h => absurd h.s1 (by omega)⟩
  rw [if_neg (cf h1)]
  by_cases h2 : st > 2000
  · rw [if_pos (ct h2)]; exact ⟨false, rfl, fun h => (by cases h), fun h => absurd h.s2 (by omega)⟩
  rw [if_neg (cf h2)]
  by_cases h3 : ¬ start ≥ 0
  · rw [if_neg (cf h3)]; exact ⟨false, rfl, fun h => (by cases h), fun h => absurd h.b0 (by omega)⟩
  replace h3 := Classical.not_not.1 h3
  rw [if_pos (ct h3)]
  by_cases h4 : ¬ start < st
  · rw [if_pos (cnt h4)]; exact ⟨false, rfl, fun h => (by cases h), fun h => absurd h.b1 (by omega)⟩
  replace h4 := Classical.not_not.1 h4
  rw [if_neg (cnf h4)]
  by_cases h5 : ¬ (acc.length : Int) = st
  · rw [if_pos (cnt h5)]; exact ⟨false, rfl, fun h => (by cases h), fun h => absurd h.al h5⟩
  replace h5 := Classical.not_not.1 h5
  rw [if_neg (cnf h5)]
  -- the arcs
  let S9 : Nat → ((Unit × Unit × (List ((Int) × ((Int) × ((Bool) × ((List (Int)) × (Unit)))))) × (Int) × (Int) × Unit) × (((Int) × (Int) × (List ((Int) × ((Int) × ((Bool) × ((List (Int)) × (Unit)))))) × (List (Int)) × Unit) × Unit)) := fun i => (((), (), arcs, (arcs.length : Int), (i : Int), ()), ((st, start, arcs, acc, ()), ()))
  have hs9 : ∀ i, i < arcs.length → ArcOk st (arcs.getD i ad) → ∀ n, L39_5 (n + 1) (S9 i) = L39_5 n (S9 (i + 1)) := by
    intro i hi ⟨a1, a2, a3, a4, a5⟩ n
    simp only [S9, L39_5, Int.toNat_natCast]
    rw [e_ad]
    rw [if_pos (lt_nat hi), if_pos (in_range hi), if_pos (ct (by omega)), if_neg (cnf (by omega)), if_pos (ct (by omega)), if_neg (cnf (by omega)), wrap_nat (by omega)]
    by_cases he : (arcs.getD i ad).2.2.1 = true
    · rw [if_pos he, if_neg (show ¬ (!isZero4 (setOf (arcs.getD i ad))) = true by rw [a5 he]; exact ntf)]
    · rw [if_neg he]
  rcases (all_or_first arcs.length (fun i => ArcOk st (arcs.getD i ad))).symm with ⟨i, hi, g1, g2⟩ | har
  · have hlim := for_rule (L := L39_5) (N := i) (S := S9) (r := .inl ((false, ()), ())) (fun j hj => hs9 j (by omega) (g2 j hj)) (fun n => by
      simp only [S9, L39_5, Int.toNat_natCast]
      rw [e_ad]
      rw [if_pos (lt_nat hi), if_pos (in_range hi)]
      by_cases a1 : (arcs.getD i ad).1 ≥ 0
      · rw [if_pos (ct a1)]
        by_cases a2 : (arcs.getD i ad).1 < st
        · rw [if_neg (cnf a2)]
          by_cases a3 : (arcs.getD i ad).2.1 ≥ 0
          · rw [if_pos (ct a3)]
            by_cases a4 : (arcs.getD i ad).2.1 < st
            · rw [if_neg (cnf a4)]
              by_cases he : (arcs.getD i ad).2.2.1 = true
              · rw [if_pos he]
                cases hz : isZero4 (setOf (arcs.getD i ad)) with
                | true => exact absurd ⟨by omega, by omega, by omega, by omega, fun _ => hz⟩ g1
                | false => rw [if_pos (show (!isZero4 (setOf (arcs.getD i ad))) = true by rw [hz]; rfl)]
              · exact absurd ⟨by omega, by omega, by omega, by omega, fun h => absurd h he⟩ g1
            · rw [if_pos (cnt a4)]
          · rw [if_neg (cf a3)]
        · rw [if_pos (cnt a2)]
      · rw [if_neg (cf a1)]) (by omega)
    simp only [S9] at hlim
    rw [show ((0 : Nat) : Int) = 0 from rfl] at hlim
    rw [hlim]
    exact ⟨false, rfl, fun h => (by cases h), fun h => absurd (h.ar i hi) g1⟩
  have hlim := for_rule (L := L39_5) (N := arcs.length) (S := S9) (r := .inr (((), ()), ((st, start, arcs, acc, ()), ()))) (fun j hj => hs9 j hj (har j hj)) (fun n => by simp only [S9, L39_5]; rw [if_neg nlt_nat]) (by omega)
  simp only [S9] at hlim
  rw [show ((0 : Nat) : Int) = 0 from rfl] at hlim
  rw [hlim]
  simp only [Option.bind_some, Sum.elim_inr]
  -- the accepted numbers
  let S4 : Nat → (((List (Int)) × Unit × (Int) × (Int) × Unit) × (((Int) × (Int) × (List ((Int) × ((Int) × ((Bool) × ((List (Int)) × (Unit)))))) × (List (Int)) × Unit) × Unit)) := fun i => ((acc, (), (acc.length : Int), (i : Int), ()), ((st, start, arcs, acc, ()), ()))
  have hs4 : ∀ i, i < acc.length → -1 ≤ acc.getD i 0 → ∀ n, L54_27_39_2 (n + 1) (S4 i) = L54_27_39_2 n (S4 (i + 1)) := by
    intro i hi h n
    simp only [S4, L54_27_39_2, Int.toNat_natCast, p59, Option.bind_some]
    rw [if_pos (lt_nat hi), if_pos (in_range hi), if_neg (cf (by omega)), wrap_nat (by omega)]
  rcases all_or_first acc.length (fun i => -1 ≤ acc.getD i 0) with hac | ⟨i, hi, g1, g2⟩
  · have hlim := for_rule (L := L54_27_39_2) (N := acc.length) (S := S4) (r := .inr ((), ((st, start, arcs, acc, ()), ()))) (fun j hj => hs4 j hj (hac j hj)) (fun n => by
      simp only [S4, L54_27_39_2]; rw [if_neg nlt_nat]) (by omega)
    simp only [S4] at hlim
    rw [show ((0 : Nat) : Int) = 0 from rfl] at hlim
    rw [hlim]
    exact ⟨true, rfl, fun _ => ⟨by omega, by omega, by omega, by omega, h5, har, hac⟩, fun _ => rfl⟩
  · have hlim := for_rule (L := L54_27_39_2) (N := i) (S := S4) (r := .inl (((i : Int), ()), ((st, start, arcs, acc, ()), ()))) (fun j hj => hs4 j (by omega) (g2 j hj)) (fun n => by
      simp only [S4, L54_27_39_2, Int.toNat_natCast, p59, Option.bind_some]
      rw [if_pos (lt_nat hi), if_pos (in_range hi), if_pos (ct (by omega))]) (by omega)
    simp only [S4] at hlim
    rw [show ((0 : Nat) : Int) = 0 from rfl] at hlim
    rw [hlim]
    refine ⟨false, ?_, fun h => (by cases h), fun h => absurd (h.ac i hi) g1⟩
    simp
end Go.AM
