/- Classes of bytes out of the arcs' sets, by the program and by the reference. -/
import Derived.Test.YtagllmgnmkdogaaP28
import Derived.Test.YtagllmgnmkdogaaP13
namespace Go.AM
open Go

abbrev four (s : List Int) : List Int := [s.getD 0 0, s.getD 1 0, s.getD 2 0, s.getD 3 0]
noncomputable def bitAt (sets : List (List Int)) (b i : Nat) : Int := if hasB (four (sets.getD i (List.replicate 4 0))) b = true then 1 else 0
noncomputable def mkS (sets : List (List Int)) (b : Nat) : List UInt8 := ((List.range sets.length).map (bitAt sets b)).map fun n => UInt8.ofNat n.toNat

theorem mkS_eq {sets : List (List Int)} {a b : Nat} : mkS sets a = mkS sets b ↔ ∀ i, i < sets.length → hasB (four (sets.getD i (List.replicate 4 0))) a = hasB (four (sets.getD i (List.replicate 4 0))) b := by
  constructor
  · intro h i hi
    have e := congrArg (fun l => l.getD i 0) h
    unfold mkS at e
    rw [map_getD (l := (List.range sets.length).map (bitAt sets a)) (d := 0) (by simp; exact hi), map_getD (l := (List.range sets.length).map (bitAt sets b)) (d := 0) (by simp; exact hi), map_range_getD hi, map_range_getD hi] at e
    unfold bitAt at e
    cases h1 : hasB (four (sets.getD i (List.replicate 4 0))) a <;> cases h2 : hasB (four (sets.getD i (List.replicate 4 0))) b <;> rw [h1, h2] at e <;> first | rfl | (revert e; decide)
  · intro h
    unfold mkS
    congr 1
    apply List.map_congr_left
    intro i hi
    unfold bitAt
    rw [h i (List.mem_range.1 hi)]

section
variable {st start : Int} {arcs : List Arc} {acc : List Int} {sets : List (List Int)}

abbrev D0 : (List (Int)) × (List (List (Int))) × (List (Int)) × Unit := (([] : List (Int)), ([] : List (List (Int))), ([] : List (Int)), ())

theorem l40_8 (hsl : sets.length ≤ 2000) {b : Nat} (hb : b < 256) (tot : Int) (out : List Int) (es : List ((List UInt8) × (Int))) :
    limit L40_21_8 (((), (), (), (b : Int), (), tot, (b : Int), (), (sets.length : Int), (0 : Int), ()), ((st, start, arcs, acc, ()), D0, sets, out, es, (List.replicate (sets.length : Int).toNat (0 : Int)), ())) =
      some (((), (), (), (b : Int), (), tot, (b : Int), ()), ((st, start, arcs, acc, ()), D0, sets, out, es, (List.range sets.length).map (bitAt sets b), ())) := by
  have h := for_rule (L := L40_21_8) (N := sets.length)
    (S := fun i => (((), (), (), (b : Int), (), tot, (b : Int), (), (sets.length : Int), (i : Int), ()), ((st, start, arcs, acc, ()), D0, sets, out, es, fillF (bitAt sets b) 0 sets.length i, ())))
    (r := (((), (), (), (b : Int), (), tot, (b : Int), ()), ((st, start, arcs, acc, ()), D0, sets, out, es, (List.range sets.length).map (bitAt sets b), ())))
    (fun i hi n => by
      have e60 := p60_spec (four (sets.getD i (List.replicate 4 0))) hb
      simp only [L40_21_8, Int.toNat_natCast]
      rw [if_pos (lt_nat hi), if_pos (in_range hi), wrap_u8 hb, e60, Option.bind_some, wrap_nat (by omega)]
      cases h1 : hasB (four (sets.getD i (List.replicate 4 0))) b with
      | true =>
        have e : bitAt sets b i = 1 := by unfold bitAt; rw [if_pos h1]
        have es := fillF_set (f := bitAt sets b) (d := 0) (n := sets.length) (i := i)
        rw [e] at es
        rw [if_pos rfl, if_pos (ct (by rw [fillF_length]; omega)), es]
      | false =>
        have e : bitAt sets b i = 0 := by unfold bitAt; rw [if_neg (by rw [h1]; simp)]
        have es : fillF (bitAt sets b) 0 sets.length (i + 1) = fillF (bitAt sets b) 0 sets.length i := mixF_same (f := bitAt sets b) (h := fun _ => 0) e
        rw [if_neg ff, es])
    (fun n => by simp only [L40_21_8]; rw [if_neg nlt_nat, fillF_full]) (by omega)
  have e : List.replicate (sets.length : Int).toNat (0 : Int) = fillF (bitAt sets b) 0 sets.length 0 := by rw [Int.toNat_natCast]; exact fillF_zero
  rw [e]
  exact h

theorem l40_4 (hsl : sets.length ≤ 2000) :
    limit L40_21_4 (((), (), (), ((List.replicate (256 : Int).toNat (0 : Int)).length : Int), (0 : Int), ()), ((st, start, arcs, acc, ()), D0, sets, (List.replicate (256 : Int).toNat (0 : Int)), ([] : List ((List UInt8) × (Int))), ())) =
      some (((), ()), ((st, start, arcs, acc, ()), D0, sets, (List.range 256).map (numv .str (mkS sets)), ())) := by
  have h := for_rule (L := L40_21_4) (N := 256)
    (S := fun b => (((), (), (), (256 : Int), (b : Int), ()), ((st, start, arcs, acc, ()), D0, sets, fillF (numv .str (mkS sets)) 0 256 b, (esF .str (mkS sets) b : List (List UInt8 × Int)), ())))
    (r := (((), ()), ((st, start, arcs, acc, ()), D0, sets, (List.range 256).map (numv .str (mkS sets)), ())))
    (fun b hb n => by
      have e8 := l40_8 (st := st) (start := start) (arcs := arcs) (acc := acc) hsl hb (256 : Int) (fillF (numv .str (mkS sets)) 0 256 b) (esF .str (mkS sets) b)
      simp only [L40_21_4]
      rw [if_pos (ct (by omega)), if_pos (ct ⟨trivial, by omega, by simp only [lim]; omega⟩), e8]
      simp only [Option.bind_some]
      have e4 : ((List.range sets.length).map (bitAt sets b)).map (fun n => UInt8.ofNat n.toNat) = mkS sets b := rfl
      rw [e4]
      by_cases hn : (mget .str (mkS sets b) (esF .str (mkS sets) b)).isSome = true
      · obtain ⟨q1, q2⟩ := esF_old (K := .str) (key := mkS sets) hn
        rw [if_neg (by rw [hn]; exact ntf), if_pos (ct (by rw [fillF_length]; omega)), Int.toNat_natCast, wrap_nat (by omega), ← q2, fillF_set, q1]
      · obtain ⟨q1, q2, q3⟩ := esF_new (K := .str) eqOk_str (key := mkS sets) hn
        have hn' : (mget .str (mkS sets b) (esF .str (mkS sets) b)).isSome = false := by simpa using hn
        rw [if_pos (by rw [hn']; rfl), if_pos (ct (by rw [fillF_length]; omega)), Int.toNat_natCast, wrap_nat (by omega), ← q2, fillF_set, q2, ← q1])
    (fun n => by simp only [L40_21_4]; rw [if_neg (cf (by omega)), fillF_full]) (by omega)
  have e : List.replicate (256 : Int).toNat (0 : Int) = fillF (numv .str (mkS sets)) 0 256 0 := by rw [show (256 : Int).toNat = 256 from rfl]; exact fillF_zero
  have e' : ((List.replicate (256 : Int).toNat (0 : Int)).length : Int) = 256 := by rw [List.length_replicate]; rfl
  rw [e', e]
  exact h

/-! ### the reference -/

theorem l63_2 (hsl : sets.length ≤ 2000) {a b : Nat} (ha : a < 256) (hb : b < 256) (out : List Int) :
    (mkS sets a = mkS sets b → limit L63_46_22_2 (((), (a : Int), (b : Int), (0 : Int), ()), ((st, start, arcs, acc, ()), D0, sets, out, ())) = some (.inr ((), ((st, start, arcs, acc, ()), D0, sets, out, ())))) ∧
    (mkS sets a ≠ mkS sets b → limit L63_46_22_2 (((), (a : Int), (b : Int), (0 : Int), ()), ((st, start, arcs, acc, ()), D0, sets, out, ())) = some (.inl ((false, ()), ((st, start, arcs, acc, ()), D0, sets, out, ())))) := by
  let S : Nat → ((Unit × (Int) × (Int) × (Int) × Unit) × (((Int) × (Int) × (List ((Int) × ((Int) × ((Bool) × ((List (Int)) × (Unit)))))) × (List (Int)) × Unit) × ((List (Int)) × (List (List (Int))) × (List (Int)) × Unit) × (List (List (Int))) × (List (Int)) × Unit)) := fun i => (((), (a : Int), (b : Int), (i : Int), ()), ((st, start, arcs, acc, ()), D0, sets, out, ()))
  have hst : ∀ i, i < sets.length → hasB (four (sets.getD i (List.replicate 4 0))) a = hasB (four (sets.getD i (List.replicate 4 0))) b → ∀ n, L63_46_22_2 (n + 1) (S i) = L63_46_22_2 n (S (i + 1)) := by
    intro i hi he n
    simp only [S, L63_46_22_2, Int.toNat_natCast]
    rw [if_pos (lt_nat hi), if_pos (in_range hi), p65_spec _ ha, Option.bind_some, if_pos (in_range hi), p65_spec _ hb, Option.bind_some, if_neg (show ¬ (!(hasB (four (sets.getD i (List.replicate 4 0))) a == hasB (four (sets.getD i (List.replicate 4 0))) b)) = true by rw [he, beq_self_eq_true]; exact ntf), wrap_nat (by omega)]
  rcases all_or_first sets.length (fun i => hasB (four (sets.getD i (List.replicate 4 0))) a = hasB (four (sets.getD i (List.replicate 4 0))) b) with h | ⟨i, hi, g1, g2⟩
  · have e : mkS sets a = mkS sets b := mkS_eq.2 h
    refine ⟨fun _ => ?_, fun hh => absurd e hh⟩
    exact for_rule (L := L63_46_22_2) (N := sets.length) (S := S) (fun i hi => hst i hi (h i hi)) (fun n => by simp only [S, L63_46_22_2]; rw [if_neg nlt_nat]) (by omega)
  · have e : mkS sets a ≠ mkS sets b := fun h => g1 (mkS_eq.1 h i hi)
    refine ⟨fun hh => absurd hh e, fun _ => ?_⟩
    exact for_rule (L := L63_46_22_2) (N := i) (S := S) (fun j hj => hst j (by omega) (g2 j hj)) (fun n => by
      simp only [S, L63_46_22_2, Int.toNat_natCast]
      rw [if_pos (lt_nat hi), if_pos (in_range hi), p65_spec _ ha, Option.bind_some, if_pos (in_range hi), p65_spec _ hb, Option.bind_some, if_pos (show (!(hasB (four (sets.getD i (List.replicate 4 0))) a == hasB (four (sets.getD i (List.replicate 4 0))) b)) = true by rw [beq_eq_false_iff_ne.2 g1]; rfl)]) (by omega)

theorem l46_8 (hsl : sets.length ≤ 2000) {b : Nat} (hb : b < 256) (cnt : Int) (out : List Int) (ho : out.length = 256) :
    limit L46_22_8 (((), (), cnt, (b : Int), (0 : Int), ()), ((st, start, arcs, acc, ()), D0, sets, out, ())) =
      some (((), (), cnt, (b : Int), ()), ((st, start, arcs, acc, ()), D0, sets, (if (∃ a, a < b ∧ mkS sets a = mkS sets b) then out.set b (numv .str (mkS sets) b) else out), ())) ∨
    ∃ a, a < b ∧ mkS sets a = mkS sets b ∧ out.getD a 0 ≠ numv .str (mkS sets) b := by
  let S : Nat → ((Unit × Unit × (Int) × (Int) × (Int) × Unit) × (((Int) × (Int) × (List ((Int) × ((Int) × ((Bool) × ((List (Int)) × (Unit)))))) × (List (Int)) × Unit) × ((List (Int)) × (List (List (Int))) × (List (Int)) × Unit) × (List (List (Int))) × (List (Int)) × Unit)) := fun a => (((), (), cnt, (b : Int), (a : Int), ()), ((st, start, arcs, acc, ()), D0, sets, out, ()))
  have hst : ∀ a, a < b → mkS sets a ≠ mkS sets b → ∀ n, L46_22_8 (n + 1) (S a) = L46_22_8 n (S (a + 1)) := by
    intro a ha hne n
    simp only [S, L46_22_8]
    rw [if_pos (lt_nat ha), wrap_u8 (by omega), wrap_u8 hb, (l63_2 hsl (by omega) hb out).2 hne, Option.bind_some, Sum.elim_inl, if_neg ff, wrap_nat (by omega)]
  rcases all_or_first b (fun a => mkS sets a ≠ mkS sets b) with h | ⟨a, ha, g1, g2⟩
  · left
    rw [if_neg fun ⟨a, ha, e⟩ => h a ha e]
    exact for_rule (L := L46_22_8) (N := b) (S := S) (fun a ha => hst a ha (h a ha)) (fun n => by simp only [S, L46_22_8]; rw [if_neg nlt_nat]) (by omega)
  · replace g1 := Classical.not_not.1 g1
    by_cases hv : out.getD a 0 = numv .str (mkS sets) b
    · left
      rw [if_pos ⟨a, ha, g1⟩]
      exact for_rule (L := L46_22_8) (N := a) (S := S) (fun a' ha' => hst a' (by omega) (g2 a' ha')) (fun n => by
        simp only [S, L46_22_8]
        rw [if_pos (lt_nat ha), wrap_u8 (by omega), wrap_u8 hb, (l63_2 hsl (by omega) hb out).1 g1, Option.bind_some, Sum.elim_inr, if_pos (ct (by dsimp only; omega)), if_pos (ct (by dsimp only; omega)), Int.toNat_natCast, Int.toNat_natCast, hv]) (by omega)
    · exact .inr ⟨a, ha, g1, hv⟩

theorem l46_4 (hsl : sets.length ≤ 2000) :
    limit L46_22_4 (((), (), (0 : Int), (0 : Int), ()), ((st, start, arcs, acc, ()), D0, sets, (List.replicate (256 : Int).toNat (0 : Int)), ())) =
      some (((), ()), ((st, start, arcs, acc, ()), D0, sets, (List.range 256).map (numv .str (mkS sets)), ())) := by
  have h := for_rule (L := L46_22_4) (N := 256)
    (S := fun b => (((), (), (((esF .str (mkS sets) b).length : Nat) : Int), (b : Int), ()), ((st, start, arcs, acc, ()), D0, sets, fillF (numv .str (mkS sets)) 0 256 b, ())))
    (r := (((), ()), ((st, start, arcs, acc, ()), D0, sets, (List.range 256).map (numv .str (mkS sets)), ())))
    (fun b hb n => by
      have hel := esF_len (K := .str) eqOk_str (key := mkS sets) b
      have e8 := l46_8 (st := st) (start := start) (arcs := arcs) (acc := acc) hsl hb (((esF .str (mkS sets) b).length : Nat) : Int) ((fillF (numv .str (mkS sets)) 0 256 b).set b (((esF .str (mkS sets) b).length : Nat) : Int)) (by rw [List.length_set, fillF_length])
      simp only [L46_22_4, Int.toNat_natCast]
      rw [if_pos (ct (by omega)), if_pos (ct (by rw [fillF_length]; omega))]
      rcases e8 with e8 | ⟨a, ha, q1, q2⟩
      · rw [e8]
        simp only [Option.bind_some, Int.toNat_natCast]
        by_cases hex : ∃ a, a < b ∧ mkS sets a = mkS sets b
        · rw [if_pos hex]
          obtain ⟨a, ha, ea⟩ := hex
          have hs : (mget .str (mkS sets b) (esF .str (mkS sets) b)).isSome = true := (esF_some (K := .str) eqOk_str b _).2 ⟨a, ha, ea⟩
          obtain ⟨r1, r2⟩ := esF_old (K := .str) (key := mkS sets) hs
          have hlt := numv_bounds (K := .str) eqOk_str (key := mkS sets) (b + 1) b (by omega)
          rw [r1] at hlt
          rw [List.set_set, if_pos (ct (by rw [List.length_set, fillF_length]; omega)), if_neg (cf (by rw [getD_set (by rw [fillF_length]; omega), if_pos rfl]; omega)), wrap_nat (by omega), fillF_set, r1]
        · rw [if_neg hex]
          have hs : ¬ (mget .str (mkS sets b) (esF .str (mkS sets) b)).isSome = true := fun h => hex ((esF_some (K := .str) eqOk_str b _).1 h)
          obtain ⟨r1, r2, r3⟩ := esF_new (K := .str) eqOk_str (key := mkS sets) hs
          rw [if_pos (ct (by rw [List.length_set, fillF_length]; omega)), if_pos (ct (by rw [getD_set (by rw [fillF_length]; omega), if_pos rfl])), wrap_nat (by omega), wrap_nat (by omega), ← r2, fillF_set, r3]
      · exfalso
        apply q2
        rw [getD_set (by rw [fillF_length]; omega), if_neg (by omega), fillF_getD (by omega), if_pos ha]
        exact (numv_inj (K := .str) eqOk_str (b + 1) a b (by omega) (by omega)).2 q1)
    (fun n => by simp only [L46_22_4]; rw [if_neg (cf (by omega)), fillF_full]) (by omega)
  have e : List.replicate (256 : Int).toNat (0 : Int) = fillF (numv .str (mkS sets)) 0 256 0 := by rw [show (256 : Int).toNat = 256 from rfl]; exact fillF_zero
  rw [e]
  exact h
end
end Go.AM
