/- Closures: the states that epsilon arcs reach, by the program and by the reference. Printed by clo.py. -/
import Derived.Test.YtdjbokdohackdaaP25
import Derived.Test.YtdjbokdohackdaaP0
namespace Go.AM
open Go

/-- reached from l by epsilon arcs -/
inductive RC (arcs : List Arc) (N : Nat) (l : List Int) : Nat → Prop
  | base (q : Nat) : q < N → (q : Int) ∈ l → RC arcs N l q
  | step (i p q : Nat) : i < arcs.length → (arcs.getD i ad).2.2.1 = true → (arcs.getD i ad).1 = (p : Int) → (arcs.getD i ad).2.1 = (q : Int) → RC arcs N l p → RC arcs N l q

open Classical in
noncomputable def clo (arcs : List Arc) (N : Nat) (l : List Int) : List Int := ((List.range N).filter fun q => decide (RC arcs N l q)).map fun q : Nat => (q : Int)

abbrev NfaC : Type := (Int) × (Int) × (List ((Int) × ((Int) × ((Bool) × ((List (Int)) × (Unit)))))) × (List (Int)) × Unit

open Classical in
theorem marks_clo {arcs : List Arc} {N : Nat} {l : List Int} {M : List Bool} (h : ∀ q, q < N → (M.getD q false = true ↔ RC arcs N l q)) :
    ((List.range N).filter fun q => M.getD q false).map (fun q : Nat => (q : Int)) = clo arcs N l := by
  unfold clo
  congr 1
  apply List.filter_congr
  intro q hq
  have := h q (List.mem_range.1 hq)
  cases hc : M.getD q false with
  | true => rw [hc] at this; exact (decide_eq_true (this.1 rfl)).symm
  | false =>
    rw [hc] at this
    exact (decide_eq_false fun hh => by have := this.2 hh; cases this).symm

section
variable {N : Nat} {st start : Int} {arcs : List Arc} {acc : List Int} {l : List Int}

theorem rc_lt (hN : st = (N : Int)) (har : ∀ i, i < arcs.length → ArcOk st (arcs.getD i ad)) {q : Nat} (h : RC arcs N l q) : q < N := by
  cases h with
  | base _ h1 _ => exact h1
  | step i p _ hi _ _ h4 _ =>
    have := har i hi
    obtain ⟨_, _, a3, a4, _⟩ := this
    omega

theorem base_p (hN : st = (N : Int)) (hl : l.length ≤ 9223372036854775807) :
    ∃ r, limit L48_3 ((l, (), (), (0 : Int), ()), ((st, start, arcs, acc, ()), (List.replicate st.toNat false), ())) = some r ∧ ∃ M : List Bool, r = (((), (), ()), ((st, start, arcs, acc, ()), M, ())) ∧ M.length = N ∧ ∀ q, q < N → (M.getD q false = true ↔ (q : Int) ∈ l) := by
  let S : List Bool × Nat → ((List (Int)) × Unit × Unit × (Int) × Unit) × (NfaC × (List (Bool)) × Unit) := fun s => ((l, (), (), (s.2 : Int), ()), ((st, start, arcs, acc, ()), s.1, ()))
  have rep : ∀ p, (List.replicate st.toNat false).getD p false = false := fun p => by rw [List.getD_eq_getElem?_getD, List.getElem?_replicate]; split <;> rfl
  refine state_rule (L := L48_3) S (fun s => s.2 ≤ l.length ∧ s.1.length = N ∧ ∀ q, q < N → (s.1.getD q false = true ↔ ∃ j, j < s.2 ∧ l.getD j 0 = (q : Int))) (fun s => l.length - s.2) _ (List.replicate st.toNat false, 0)
    ⟨by simp, by simp only [List.length_replicate]; omega, fun q _ => by simp only; rw [rep]; exact ⟨fun h => (by cases h), fun ⟨j, hj, _⟩ => (by omega)⟩⟩ (by simp only; omega) ?_
  rintro ⟨M, i⟩ ⟨hi, hM, h⟩
  simp only at hi hM h
  by_cases hi' : i = l.length
  · left
    subst hi'
    refine ⟨_, ⟨M, rfl, hM, fun q hq => ?_⟩, fun n => ?_⟩
    · rw [h q hq]
      constructor
      · rintro ⟨j, hj, e⟩; rw [← e]; exact getD_mem hj
      · intro hm
        obtain ⟨j, hj, e⟩ := List.mem_iff_getElem.1 hm
        exact ⟨j, hj, by rw [List.getD_eq_getElem?_getD, List.getElem?_eq_getElem hj]; exact e⟩
    · simp only [S, L48_3]
      rw [if_neg nlt_nat]
  · have hil : i < l.length := by omega
    right
    by_cases hx : 0 ≤ l.getD i 0 ∧ l.getD i 0 < st
    · refine ⟨(M.set (l.getD i 0).toNat true, i + 1), ⟨by simp only; omega, by simp only [List.length_set]; exact hM, fun q hq => ?_⟩, by simp only; omega, fun n => ?_⟩
      · simp only
        rw [getD_set (by omega)]
        by_cases e : (l.getD i 0).toNat = q
        · rw [if_pos e]
          exact ⟨fun _ => ⟨i, by omega, by omega⟩, fun _ => rfl⟩
        · rw [if_neg e, h q hq]
          constructor
          · rintro ⟨j, hj, e'⟩; exact ⟨j, by omega, e'⟩
          · rintro ⟨j, hj, e'⟩
            by_cases ej : j = i
            · subst ej; omega
            · exact ⟨j, by omega, e'⟩
      · simp only [S, L48_3, Int.toNat_natCast]
        rw [if_pos (lt_nat hil), if_pos (in_range hil), if_pos (ct hx.1), if_pos (in_range hil), if_pos (ct hx.2), if_pos (in_range hil), if_pos (ct (by omega)), wrap_nat (by omega)]
    · refine ⟨(M, i + 1), ⟨by simp only; omega, hM, fun q hq => ?_⟩, by simp only; omega, fun n => ?_⟩
      · simp only
        rw [h q hq]
        constructor
        · rintro ⟨j, hj, e'⟩; exact ⟨j, by omega, e'⟩
        · rintro ⟨j, hj, e'⟩
          by_cases ej : j = i
          · subst ej; omega
          · exact ⟨j, by omega, e'⟩
      · simp only [S, L48_3, Int.toNat_natCast]
        by_cases h0 : l.getD i 0 ≥ 0
        · rw [if_pos (lt_nat hil), if_pos (in_range hil), if_pos (ct h0), if_pos (in_range hil), if_neg (cf (by omega)), wrap_nat (by omega)]
        · rw [if_pos (lt_nat hil), if_pos (in_range hil), if_neg (cf h0), wrap_nat (by omega)]

theorem pass_p (hN : st = (N : Int)) (har : ∀ i, i < arcs.length → ArcOk st (arcs.getD i ad)) (hal : arcs.length ≤ 9223372036854775807) (M0 : List Bool) (hM0 : M0.length = N) (hs0 : ∀ q, q < N → M0.getD q false = true → RC arcs N l q) :
    ∃ r, limit L48_11 (((), (), false, (0 : Int), ()), ((st, start, arcs, acc, ()), M0, ())) = some r ∧ ∃ more M, r = (((), (), more, ()), ((st, start, arcs, acc, ()), M, ())) ∧ M.length = N ∧ (∀ q, q < N → M.getD q false = true → RC arcs N l q) ∧ (∀ q, q < N → M0.getD q false = true → M.getD q false = true) ∧
      (more = false → M = M0 ∧ ∀ i, i < arcs.length → (arcs.getD i ad).2.2.1 = true → M0.getD (arcs.getD i ad).1.toNat false = true → M0.getD (arcs.getD i ad).2.1.toNat false = true) ∧ (more = true → M0.count true < M.count true) := by
  let S : Bool × List Bool × Nat → (Unit × Unit × (Bool) × (Int) × Unit) × (NfaC × (List (Bool)) × Unit) := fun s => (((), (), s.1, (s.2.2 : Int), ()), ((st, start, arcs, acc, ()), s.2.1, ()))
  refine state_rule (L := L48_11) S (fun s => s.2.2 ≤ arcs.length ∧ s.2.1.length = N ∧ (∀ q, q < N → s.2.1.getD q false = true → RC arcs N l q) ∧ (∀ q, q < N → M0.getD q false = true → s.2.1.getD q false = true) ∧
      (s.1 = false → s.2.1 = M0 ∧ ∀ i, i < s.2.2 → (arcs.getD i ad).2.2.1 = true → M0.getD (arcs.getD i ad).1.toNat false = true → M0.getD (arcs.getD i ad).2.1.toNat false = true) ∧ (s.1 = true → M0.count true < s.2.1.count true))
    (fun s => arcs.length - s.2.2) _ (false, M0, 0) ⟨by simp, hM0, hs0, fun _ _ h => h, fun _ => ⟨rfl, fun i hi => by simp only at hi; omega⟩, fun h => (by cases h)⟩ (by simp only; omega) ?_
  rintro ⟨more, M, i⟩ ⟨hi, hM, h3, h4, h5, h6⟩
  simp only at hi hM h3 h4 h5 h6
  by_cases hi' : i = arcs.length
  · left
    subst hi'
    refine ⟨_, ⟨more, M, rfl, hM, h3, h4, h5, h6⟩, fun n => ?_⟩
    simp only [S, L48_11]
    rw [if_neg nlt_nat]
  · have hil : i < arcs.length := by omega
    obtain ⟨a1, a2, a3, a4, _⟩ := har i hil
    right
    by_cases he : (arcs.getD i ad).2.2.1 = true
    · by_cases hp : M.getD (arcs.getD i ad).1.toNat false = true
      · by_cases hq : M.getD (arcs.getD i ad).2.1.toNat false = true
        · refine ⟨(more, M, i + 1), ⟨by simp only; omega, hM, h3, h4, fun hm => ⟨(h5 hm).1, fun j hj e1 e2 => ?_⟩, h6⟩, by simp only; omega, fun n => ?_⟩
          · have hj' : j < i + 1 := hj
            by_cases ej : j = i
            · subst ej; rw [← (h5 hm).1]; exact hq
            · exact (h5 hm).2 j (by omega) e1 e2
          · simp only [S, L48_11, Int.toNat_natCast]
            rw [e_ad, if_pos (lt_nat hil), if_pos (in_range hil), if_pos he, if_pos (ct (by omega)), if_pos hp, if_pos (ct (by omega)), if_neg (by rw [hq]; exact ntf), wrap_nat (by omega)]
        · have hq' : M.getD (arcs.getD i ad).2.1.toNat false = false := by simpa using hq
          refine ⟨(true, M.set (arcs.getD i ad).2.1.toNat true, i + 1), ⟨by simp only; omega, by simp only [List.length_set]; exact hM, fun q hqn hh => ?_, fun q hqn hh => ?_, fun h => (by cases h), fun _ => ?_⟩, by simp only; omega, fun n => ?_⟩
          · simp only at hh
            rw [getD_set (by omega)] at hh
            by_cases e : (arcs.getD i ad).2.1.toNat = q
            · exact .step i (arcs.getD i ad).1.toNat q hil he (by omega) (by omega) (h3 _ (by omega) hp)
            · rw [if_neg e] at hh; exact h3 q hqn hh
          · simp only
            rw [getD_set (by omega)]
            by_cases e : (arcs.getD i ad).2.1.toNat = q
            · rw [if_pos e]
            · rw [if_neg e]; exact h4 q hqn hh
          · simp only
            rw [count_set (by omega) hq']
            cases hm : more with
            | true => have := h6 hm; omega
            | false => rw [(h5 hm).1]; omega
          · simp only [S, L48_11, Int.toNat_natCast]
            rw [e_ad, if_pos (lt_nat hil), if_pos (in_range hil), if_pos he, if_pos (ct (by omega)), if_pos hp, if_pos (ct (by omega)), if_pos (by rw [hq']; rfl), if_pos (ct (by omega)), wrap_nat (by omega)]
      · refine ⟨(more, M, i + 1), ⟨by simp only; omega, hM, h3, h4, fun hm => ⟨(h5 hm).1, fun j hj e1 e2 => ?_⟩, h6⟩, by simp only; omega, fun n => ?_⟩
        · have hj' : j < i + 1 := hj
          by_cases ej : j = i
          · subst ej; rw [← (h5 hm).1] at e2; exact absurd e2 hp
          · exact (h5 hm).2 j (by omega) e1 e2
        · simp only [S, L48_11, Int.toNat_natCast]
          rw [e_ad, if_pos (lt_nat hil), if_pos (in_range hil), if_pos he, if_pos (ct (by omega)), if_neg hp, wrap_nat (by omega)]
    · refine ⟨(more, M, i + 1), ⟨by simp only; omega, hM, h3, h4, fun hm => ⟨(h5 hm).1, fun j hj e1 e2 => ?_⟩, h6⟩, by simp only; omega, fun n => ?_⟩
      · have hj' : j < i + 1 := hj
        by_cases ej : j = i
        · subst ej; exact absurd e1 he
        · exact (h5 hm).2 j (by omega) e1 e2
      · simp only [S, L48_11, Int.toNat_natCast]
        rw [e_ad, if_pos (lt_nat hil), if_pos (in_range hil), if_neg he, wrap_nat (by omega)]

theorem fix_p (hN : st = (N : Int)) (hN2 : N ≤ 2000) (har : ∀ i, i < arcs.length → ArcOk st (arcs.getD i ad)) (hal : arcs.length ≤ 9223372036854775807) (M0 : List Bool) (hM0 : M0.length = N) (hs0 : ∀ q, q < N → (M0.getD q false = true ↔ (q : Int) ∈ l)) :
    ∃ r, limit L48_8 (((), (), true, ()), ((st, start, arcs, acc, ()), M0, ())) = some r ∧ ∃ M : List Bool, r = (((), ()), (M, ())) ∧ M.length = N ∧ ∀ q, q < N → (M.getD q false = true ↔ RC arcs N l q) := by
  let S : Bool × List Bool → (Unit × Unit × (Bool) × Unit) × (NfaC × (List (Bool)) × Unit) := fun s => (((), (), s.1, ()), ((st, start, arcs, acc, ()), s.2, ()))
  have main := state_rule (L := L48_8) S (fun s => s.2.length = N ∧ (∀ q, q < N → s.2.getD q false = true → RC arcs N l q) ∧ (∀ q, q < N → (q : Int) ∈ l → s.2.getD q false = true) ∧
      (s.1 = false → ∀ i, i < arcs.length → (arcs.getD i ad).2.2.1 = true → s.2.getD (arcs.getD i ad).1.toNat false = true → s.2.getD (arcs.getD i ad).2.1.toNat false = true)) (fun s => 2 * (N - s.2.count true) + (if s.1 = true then 1 else 0))
    (fun r => ∃ M : List Bool, r = (((), ()), (M, ())) ∧ M.length = N ∧ ∀ q, q < N → (M.getD q false = true ↔ RC arcs N l q)) (true, M0)
    ⟨hM0, fun q hq h => .base q hq ((hs0 q hq).1 h), fun q hq h => (hs0 q hq).2 h, fun h => (by cases h)⟩ (by simp only; split <;> omega) (by
    rintro ⟨more, M⟩ ⟨h1, h2, h3, h4⟩
    simp only at h1 h2 h3 h4
    cases more with
    | false =>
      left
      refine ⟨_, ⟨M, rfl, h1, fun q hq => ⟨h2 q hq, fun hr => ?_⟩⟩, fun n => ?_⟩
      · clear hq
        induction hr with
        | base q hq hm => exact h3 q hq hm
        | step i p q hi e1 e2 e3 hp ih =>
          have := h4 rfl i hi e1
          rw [e2, e3, Int.toNat_natCast, Int.toNat_natCast] at this
          exact this ih
      · simp only [S, L48_8]
        rw [if_neg ff]
    | true =>
      right
      obtain ⟨r, hlim, more', M', rfl, g1, g2, g3, g4, g5⟩ := pass_p (start := start) (acc := acc) hN har hal M h1 h2
      refine ⟨(more', M'), ⟨g1, g2, fun q hq h => g3 q hq (h3 q hq h), fun hm => ?_⟩, ?_, fun n => ?_⟩
      · obtain ⟨rfl, h⟩ := g4 hm; exact h
      · simp only
        have hc : M'.count true ≤ N := by rw [← g1]; exact List.count_le_length
        cases more' with
        | true => have := g5 rfl; simp only [if_true]; omega
        | false => rw [(g4 rfl).1]; simp
      · simp only [S, L48_8, if_true]
        rw [hlim, Option.bind_some])
  exact main

theorem list_p (M : List Bool) (hM : M.length = N) (hN2 : N ≤ 2000) (hm : ∀ q, q < N → (M.getD q false = true ↔ RC arcs N l q)) :
    limit L64_48_3 (((), (), (0 : Int), ()), (M, ([] : List (Int)), ())) = some (((), ()), (M, (clo arcs N l), ())) := by
  have h := for_rule (L := L64_48_3) (N := N) (S := fun i => (((), (), (i : Int), ()), (M, (((List.range i).filter fun q => M.getD q false).map fun q : Nat => (q : Int)), ())))
    (r := (((), ()), (M, (clo arcs N l), ())))
    (fun i hi n => by
      have hlen : (((List.range i).filter fun q => M.getD q false).map fun q : Nat => (q : Int)).length ≤ i := by
        rw [List.length_map]
        exact Nat.le_trans (List.length_filter_le _ _) (by simp)
      simp only [L64_48_3, Int.toNat_natCast]
      rw [if_pos (ct (by omega)), if_pos (in_range (by omega)), wrap_nat (by omega), List.range_succ, List.filter_append, List.map_append]
      by_cases h : M.getD i false = true
      · rw [if_pos h, if_pos (ct (by simp only [List.length_singleton, lim]; omega))]
        simp only [List.filter_cons, h, if_true, List.filter_nil, List.map_cons, List.map_nil]
      · rw [if_neg h]
        have h' : M.getD i false = false := by simpa using h
        simp only [List.filter_cons, h', Bool.false_eq_true, if_false, List.filter_nil, List.map_nil, List.append_nil])
    (fun n => by
      simp only [L64_48_3]
      rw [if_neg (cf (by omega)), marks_clo hm]) (by omega)
  exact h

theorem base_i (hN : st = (N : Int)) (hl : l.length ≤ 9223372036854775807) :
    ∃ r, limit L48_49_3 (((), (), (), (0 : Int), ()), ((st, start, arcs, acc, ()), l, (st, start, arcs, acc, ()), (List.replicate st.toNat false), ())) = some r ∧ ∃ M : List Bool, r = (((), (), ()), ((st, start, arcs, acc, ()), l, (st, start, arcs, acc, ()), M, ())) ∧ M.length = N ∧ ∀ q, q < N → (M.getD q false = true ↔ (q : Int) ∈ l) := by
  let S : List Bool × Nat → (Unit × Unit × Unit × (Int) × Unit) × (NfaC × (List (Int)) × NfaC × (List (Bool)) × Unit) := fun s => (((), (), (), (s.2 : Int), ()), ((st, start, arcs, acc, ()), l, (st, start, arcs, acc, ()), s.1, ()))
  have rep : ∀ p, (List.replicate st.toNat false).getD p false = false := fun p => by rw [List.getD_eq_getElem?_getD, List.getElem?_replicate]; split <;> rfl
  refine state_rule (L := L48_49_3) S (fun s => s.2 ≤ l.length ∧ s.1.length = N ∧ ∀ q, q < N → (s.1.getD q false = true ↔ ∃ j, j < s.2 ∧ l.getD j 0 = (q : Int))) (fun s => l.length - s.2) _ (List.replicate st.toNat false, 0)
    ⟨by simp, by simp only [List.length_replicate]; omega, fun q _ => by simp only; rw [rep]; exact ⟨fun h => (by cases h), fun ⟨j, hj, _⟩ => (by omega)⟩⟩ (by simp only; omega) ?_
  rintro ⟨M, i⟩ ⟨hi, hM, h⟩
  simp only at hi hM h
  by_cases hi' : i = l.length
  · left
    subst hi'
    refine ⟨_, ⟨M, rfl, hM, fun q hq => ?_⟩, fun n => ?_⟩
    · rw [h q hq]
      constructor
      · rintro ⟨j, hj, e⟩; rw [← e]; exact getD_mem hj
      · intro hm
        obtain ⟨j, hj, e⟩ := List.mem_iff_getElem.1 hm
        exact ⟨j, hj, by rw [List.getD_eq_getElem?_getD, List.getElem?_eq_getElem hj]; exact e⟩
    · simp only [S, L48_49_3]
      rw [if_neg nlt_nat]
  · have hil : i < l.length := by omega
    right
    by_cases hx : 0 ≤ l.getD i 0 ∧ l.getD i 0 < st
    · refine ⟨(M.set (l.getD i 0).toNat true, i + 1), ⟨by simp only; omega, by simp only [List.length_set]; exact hM, fun q hq => ?_⟩, by simp only; omega, fun n => ?_⟩
      · simp only
        rw [getD_set (by omega)]
        by_cases e : (l.getD i 0).toNat = q
        · rw [if_pos e]
          exact ⟨fun _ => ⟨i, by omega, by omega⟩, fun _ => rfl⟩
        · rw [if_neg e, h q hq]
          constructor
          · rintro ⟨j, hj, e'⟩; exact ⟨j, by omega, e'⟩
          · rintro ⟨j, hj, e'⟩
            by_cases ej : j = i
            · subst ej; omega
            · exact ⟨j, by omega, e'⟩
      · simp only [S, L48_49_3, Int.toNat_natCast]
        rw [if_pos (lt_nat hil), if_pos (in_range hil), if_pos (ct hx.1), if_pos (in_range hil), if_pos (ct hx.2), if_pos (in_range hil), if_pos (ct (by omega)), wrap_nat (by omega)]
    · refine ⟨(M, i + 1), ⟨by simp only; omega, hM, fun q hq => ?_⟩, by simp only; omega, fun n => ?_⟩
      · simp only
        rw [h q hq]
        constructor
        · rintro ⟨j, hj, e'⟩; exact ⟨j, by omega, e'⟩
        · rintro ⟨j, hj, e'⟩
          by_cases ej : j = i
          · subst ej; omega
          · exact ⟨j, by omega, e'⟩
      · simp only [S, L48_49_3, Int.toNat_natCast]
        by_cases h0 : l.getD i 0 ≥ 0
        · rw [if_pos (lt_nat hil), if_pos (in_range hil), if_pos (ct h0), if_pos (in_range hil), if_neg (cf (by omega)), wrap_nat (by omega)]
        · rw [if_pos (lt_nat hil), if_pos (in_range hil), if_neg (cf h0), wrap_nat (by omega)]

theorem pass_i (hN : st = (N : Int)) (har : ∀ i, i < arcs.length → ArcOk st (arcs.getD i ad)) (hal : arcs.length ≤ 9223372036854775807) (M0 : List Bool) (hM0 : M0.length = N) (hs0 : ∀ q, q < N → M0.getD q false = true → RC arcs N l q) :
    ∃ r, limit L48_49_11 (((), (), false, (0 : Int), ()), ((st, start, arcs, acc, ()), l, (st, start, arcs, acc, ()), M0, ())) = some r ∧ ∃ more M, r = (((), (), more, ()), ((st, start, arcs, acc, ()), l, (st, start, arcs, acc, ()), M, ())) ∧ M.length = N ∧ (∀ q, q < N → M.getD q false = true → RC arcs N l q) ∧ (∀ q, q < N → M0.getD q false = true → M.getD q false = true) ∧
      (more = false → M = M0 ∧ ∀ i, i < arcs.length → (arcs.getD i ad).2.2.1 = true → M0.getD (arcs.getD i ad).1.toNat false = true → M0.getD (arcs.getD i ad).2.1.toNat false = true) ∧ (more = true → M0.count true < M.count true) := by
  let S : Bool × List Bool × Nat → (Unit × Unit × (Bool) × (Int) × Unit) × (NfaC × (List (Int)) × NfaC × (List (Bool)) × Unit) := fun s => (((), (), s.1, (s.2.2 : Int), ()), ((st, start, arcs, acc, ()), l, (st, start, arcs, acc, ()), s.2.1, ()))
  refine state_rule (L := L48_49_11) S (fun s => s.2.2 ≤ arcs.length ∧ s.2.1.length = N ∧ (∀ q, q < N → s.2.1.getD q false = true → RC arcs N l q) ∧ (∀ q, q < N → M0.getD q false = true → s.2.1.getD q false = true) ∧
      (s.1 = false → s.2.1 = M0 ∧ ∀ i, i < s.2.2 → (arcs.getD i ad).2.2.1 = true → M0.getD (arcs.getD i ad).1.toNat false = true → M0.getD (arcs.getD i ad).2.1.toNat false = true) ∧ (s.1 = true → M0.count true < s.2.1.count true))
    (fun s => arcs.length - s.2.2) _ (false, M0, 0) ⟨by simp, hM0, hs0, fun _ _ h => h, fun _ => ⟨rfl, fun i hi => by simp only at hi; omega⟩, fun h => (by cases h)⟩ (by simp only; omega) ?_
  rintro ⟨more, M, i⟩ ⟨hi, hM, h3, h4, h5, h6⟩
  simp only at hi hM h3 h4 h5 h6
  by_cases hi' : i = arcs.length
  · left
    subst hi'
    refine ⟨_, ⟨more, M, rfl, hM, h3, h4, h5, h6⟩, fun n => ?_⟩
    simp only [S, L48_49_11]
    rw [if_neg nlt_nat]
  · have hil : i < arcs.length := by omega
    obtain ⟨a1, a2, a3, a4, _⟩ := har i hil
    right
    by_cases he : (arcs.getD i ad).2.2.1 = true
    · by_cases hp : M.getD (arcs.getD i ad).1.toNat false = true
      · by_cases hq : M.getD (arcs.getD i ad).2.1.toNat false = true
        · refine ⟨(more, M, i + 1), ⟨by simp only; omega, hM, h3, h4, fun hm => ⟨(h5 hm).1, fun j hj e1 e2 => ?_⟩, h6⟩, by simp only; omega, fun n => ?_⟩
          · have hj' : j < i + 1 := hj
            by_cases ej : j = i
            · subst ej; rw [← (h5 hm).1]; exact hq
            · exact (h5 hm).2 j (by omega) e1 e2
          · simp only [S, L48_49_11, Int.toNat_natCast]
            rw [e_ad, if_pos (lt_nat hil), if_pos (in_range hil), if_pos he, if_pos (ct (by omega)), if_pos hp, if_pos (ct (by omega)), if_neg (by rw [hq]; exact ntf), wrap_nat (by omega)]
        · have hq' : M.getD (arcs.getD i ad).2.1.toNat false = false := by simpa using hq
          refine ⟨(true, M.set (arcs.getD i ad).2.1.toNat true, i + 1), ⟨by simp only; omega, by simp only [List.length_set]; exact hM, fun q hqn hh => ?_, fun q hqn hh => ?_, fun h => (by cases h), fun _ => ?_⟩, by simp only; omega, fun n => ?_⟩
          · simp only at hh
            rw [getD_set (by omega)] at hh
            by_cases e : (arcs.getD i ad).2.1.toNat = q
            · exact .step i (arcs.getD i ad).1.toNat q hil he (by omega) (by omega) (h3 _ (by omega) hp)
            · rw [if_neg e] at hh; exact h3 q hqn hh
          · simp only
            rw [getD_set (by omega)]
            by_cases e : (arcs.getD i ad).2.1.toNat = q
            · rw [if_pos e]
            · rw [if_neg e]; exact h4 q hqn hh
          · simp only
            rw [count_set (by omega) hq']
            cases hm : more with
            | true => have := h6 hm; omega
            | false => rw [(h5 hm).1]; omega
          · simp only [S, L48_49_11, Int.toNat_natCast]
            rw [e_ad, if_pos (lt_nat hil), if_pos (in_range hil), if_pos he, if_pos (ct (by omega)), if_pos hp, if_pos (ct (by omega)), if_pos (by rw [hq']; rfl), if_pos (ct (by omega)), wrap_nat (by omega)]
      · refine ⟨(more, M, i + 1), ⟨by simp only; omega, hM, h3, h4, fun hm => ⟨(h5 hm).1, fun j hj e1 e2 => ?_⟩, h6⟩, by simp only; omega, fun n => ?_⟩
        · have hj' : j < i + 1 := hj
          by_cases ej : j = i
          · subst ej; rw [← (h5 hm).1] at e2; exact absurd e2 hp
          · exact (h5 hm).2 j (by omega) e1 e2
        · simp only [S, L48_49_11, Int.toNat_natCast]
          rw [e_ad, if_pos (lt_nat hil), if_pos (in_range hil), if_pos he, if_pos (ct (by omega)), if_neg hp, wrap_nat (by omega)]
    · refine ⟨(more, M, i + 1), ⟨by simp only; omega, hM, h3, h4, fun hm => ⟨(h5 hm).1, fun j hj e1 e2 => ?_⟩, h6⟩, by simp only; omega, fun n => ?_⟩
      · have hj' : j < i + 1 := hj
        by_cases ej : j = i
        · subst ej; exact absurd e1 he
        · exact (h5 hm).2 j (by omega) e1 e2
      · simp only [S, L48_49_11, Int.toNat_natCast]
        rw [e_ad, if_pos (lt_nat hil), if_pos (in_range hil), if_neg he, wrap_nat (by omega)]

theorem fix_i (hN : st = (N : Int)) (hN2 : N ≤ 2000) (har : ∀ i, i < arcs.length → ArcOk st (arcs.getD i ad)) (hal : arcs.length ≤ 9223372036854775807) (M0 : List Bool) (hM0 : M0.length = N) (hs0 : ∀ q, q < N → (M0.getD q false = true ↔ (q : Int) ∈ l)) :
    ∃ r, limit L48_49_8 (((), (), true, ()), ((st, start, arcs, acc, ()), l, (st, start, arcs, acc, ()), M0, ())) = some r ∧ ∃ M : List Bool, r = (((), ()), ((st, start, arcs, acc, ()), l, M, ())) ∧ M.length = N ∧ ∀ q, q < N → (M.getD q false = true ↔ RC arcs N l q) := by
  let S : Bool × List Bool → (Unit × Unit × (Bool) × Unit) × (NfaC × (List (Int)) × NfaC × (List (Bool)) × Unit) := fun s => (((), (), s.1, ()), ((st, start, arcs, acc, ()), l, (st, start, arcs, acc, ()), s.2, ()))
  have main := state_rule (L := L48_49_8) S (fun s => s.2.length = N ∧ (∀ q, q < N → s.2.getD q false = true → RC arcs N l q) ∧ (∀ q, q < N → (q : Int) ∈ l → s.2.getD q false = true) ∧
      (s.1 = false → ∀ i, i < arcs.length → (arcs.getD i ad).2.2.1 = true → s.2.getD (arcs.getD i ad).1.toNat false = true → s.2.getD (arcs.getD i ad).2.1.toNat false = true)) (fun s => 2 * (N - s.2.count true) + (if s.1 = true then 1 else 0))
    (fun r => ∃ M : List Bool, r = (((), ()), ((st, start, arcs, acc, ()), l, M, ())) ∧ M.length = N ∧ ∀ q, q < N → (M.getD q false = true ↔ RC arcs N l q)) (true, M0)
    ⟨hM0, fun q hq h => .base q hq ((hs0 q hq).1 h), fun q hq h => (hs0 q hq).2 h, fun h => (by cases h)⟩ (by simp only; split <;> omega) (by
    rintro ⟨more, M⟩ ⟨h1, h2, h3, h4⟩
    simp only at h1 h2 h3 h4
    cases more with
    | false =>
      left
      refine ⟨_, ⟨M, rfl, h1, fun q hq => ⟨h2 q hq, fun hr => ?_⟩⟩, fun n => ?_⟩
      · clear hq
        induction hr with
        | base q hq hm => exact h3 q hq hm
        | step i p q hi e1 e2 e3 hp ih =>
          have := h4 rfl i hi e1
          rw [e2, e3, Int.toNat_natCast, Int.toNat_natCast] at this
          exact this ih
      · simp only [S, L48_49_8]
        rw [if_neg ff]
    | true =>
      right
      obtain ⟨r, hlim, more', M', rfl, g1, g2, g3, g4, g5⟩ := pass_i (start := start) (acc := acc) hN har hal M h1 h2
      refine ⟨(more', M'), ⟨g1, g2, fun q hq h => g3 q hq (h3 q hq h), fun hm => ?_⟩, ?_, fun n => ?_⟩
      · obtain ⟨rfl, h⟩ := g4 hm; exact h
      · simp only
        have hc : M'.count true ≤ N := by rw [← g1]; exact List.count_le_length
        cases more' with
        | true => have := g5 rfl; simp only [if_true]; omega
        | false => rw [(g4 rfl).1]; simp
      · simp only [S, L48_49_8, if_true]
        rw [hlim, Option.bind_some])
  exact main

theorem list_i (M : List Bool) (hM : M.length = N) (hN2 : N ≤ 2000) (hm : ∀ q, q < N → (M.getD q false = true ↔ RC arcs N l q)) :
    limit L64_48_49_3 (((), (), (0 : Int), ()), ((st, start, arcs, acc, ()), l, M, ([] : List (Int)), ())) = some (((), ()), ((st, start, arcs, acc, ()), l, M, (clo arcs N l), ())) := by
  have h := for_rule (L := L64_48_49_3) (N := N) (S := fun i => (((), (), (i : Int), ()), ((st, start, arcs, acc, ()), l, M, (((List.range i).filter fun q => M.getD q false).map fun q : Nat => (q : Int)), ())))
    (r := (((), ()), ((st, start, arcs, acc, ()), l, M, (clo arcs N l), ())))
    (fun i hi n => by
      have hlen : (((List.range i).filter fun q => M.getD q false).map fun q : Nat => (q : Int)).length ≤ i := by
        rw [List.length_map]
        exact Nat.le_trans (List.length_filter_le _ _) (by simp)
      simp only [L64_48_49_3, Int.toNat_natCast]
      rw [if_pos (ct (by omega)), if_pos (in_range (by omega)), wrap_nat (by omega), List.range_succ, List.filter_append, List.map_append]
      by_cases h : M.getD i false = true
      · rw [if_pos h, if_pos (ct (by simp only [List.length_singleton, lim]; omega))]
        simp only [List.filter_cons, h, if_true, List.filter_nil, List.map_cons, List.map_nil]
      · rw [if_neg h]
        have h' : M.getD i false = false := by simpa using h
        simp only [List.filter_cons, h', Bool.false_eq_true, if_false, List.filter_nil, List.map_nil, List.append_nil])
    (fun n => by
      simp only [L64_48_49_3]
      rw [if_neg (cf (by omega)), marks_clo hm]) (by omega)
  exact h

theorem p48_spec (hN : st = (N : Int)) (hN2 : N ≤ 2000) (har : ∀ i, i < arcs.length → ArcOk st (arcs.getD i ad)) (hal : arcs.length ≤ 9223372036854775807) (hl : l.length ≤ 9223372036854775807) :
    p48 ((st, (start, (arcs, (acc, ())))), l, ()) = some (clo arcs N l) := by
  obtain ⟨r1, e1, M1, rfl, m1, m2⟩ := base_p (start := start) (arcs := arcs) (acc := acc) hN hl
  obtain ⟨r2, e2, M2, rfl, m3, m4⟩ := fix_p (start := start) (acc := acc) (l := l) hN hN2 har hal M1 m1 m2
  have e3 := list_p M2 m3 hN2 m4
  simp only [p48]
  rw [if_pos (ct ⟨trivial, by omega, by simp only [lim]; omega⟩), e1]
  simp only [Option.bind_some]
  rw [e2]
  simp only [Option.bind_some]
  rw [e3]
  rfl
end
end Go.AM
