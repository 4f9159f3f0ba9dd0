/- Closures: the program's worklist. -/
import Derived.Test.YtdjbokdohackdaaP26
namespace Go.AM
open Go

section
variable {N : Nat} {st start : Int} {arcs : List Arc} {acc : List Int} {l : List Int}

/-- marks and worklist -/
structure WI (N : Nat) (arcs : List Arc) (l : List Int) (M : List Bool) (todo : List Int) : Prop where
  ml : M.length = N
  so : ∀ q, q < N → M.getD q false = true → RC arcs N l q
  td : ∀ t ∈ todo, 0 ≤ t ∧ t < N ∧ M.getD t.toNat false = true
  tl : todo.length ≤ M.count true

theorem WI.add {M : List Bool} {todo : List Int} (W : WI N arcs l M todo) {s : Int} (h0 : 0 ≤ s) (h1 : s < N) (hn : M.getD s.toNat false = false) (hr : RC arcs N l s.toNat) : WI N arcs l (M.set s.toNat true) (todo ++ [s]) := by
  have hml := W.ml
  refine ⟨by simp only [List.length_set]; exact hml, fun q hq h => ?_, fun t ht => ?_, ?_⟩
  · rw [getD_set (by omega)] at h
    by_cases e : s.toNat = q
    · subst e; exact hr
    · rw [if_neg e] at h; exact W.so q hq h
  · rcases List.mem_append.1 ht with ht | ht
    · obtain ⟨a, b, c⟩ := W.td t ht
      refine ⟨a, b, ?_⟩
      rw [getD_set (by omega)]
      split
      · rfl
      · exact c
    · have := List.mem_singleton.1 ht
      subst this
      refine ⟨h0, h1, ?_⟩
      rw [getD_set (by omega), if_pos rfl]
  · rw [count_set (by omega) hn, List.length_append, List.length_singleton]
    have := W.tl
    omega

theorem l41_5 (hN : st = (N : Int)) (hN2 : N ≤ 2000) (hl : l.length ≤ 9223372036854775807) :
    ∃ r, limit L41_5 (((), (), (), (), l, (l.length : Int), (0 : Int), ()), ((st, start, arcs, acc, ()), ((), ()), ((), ()), (List.replicate st.toNat false), ([] : List (Int)), ())) = some r ∧
      ∃ M todo, r = (((), (), (), (), ()), ((st, start, arcs, acc, ()), ((), ()), ((), ()), M, todo, ())) ∧ WI N arcs l M todo ∧ (∀ q, q < N → (q : Int) ∈ l → M.getD q false = true) ∧ (∀ q, q < N → M.getD q false = true → (q : Int) ∈ todo) := by
  have rep : ∀ p, (List.replicate st.toNat false).getD p false = false := fun p => by rw [List.getD_eq_getElem?_getD, List.getElem?_replicate]; split <;> rfl
  let S : List Bool × List Int × Nat → ((Unit × Unit × Unit × Unit × (List (Int)) × (Int) × (Int) × Unit) × (((Int) × (Int) × (List ((Int) × ((Int) × ((Bool) × ((List (Int)) × (Unit)))))) × (List (Int)) × Unit) × (Unit × Unit) × (Unit × Unit) × (List (Bool)) × (List (Int)) × Unit)) :=
    fun s => (((), (), (), (), l, (l.length : Int), (s.2.2 : Int), ()), ((st, start, arcs, acc, ()), ((), ()), ((), ()), s.1, s.2.1, ()))
  refine state_rule (L := L41_5) S (fun s => s.2.2 ≤ l.length ∧ WI N arcs l s.1 s.2.1 ∧ (∀ q, q < N → (∃ j, j < s.2.2 ∧ l.getD j 0 = (q : Int)) → s.1.getD q false = true) ∧ (∀ q, q < N → s.1.getD q false = true → (q : Int) ∈ s.2.1)) (fun s => l.length - s.2.2) _ (List.replicate st.toNat false, [], 0)
    ⟨by simp, ⟨by simp only [List.length_replicate]; omega, fun q _ h => (by simp only at h; rw [rep] at h; cases h), fun t ht => (by cases ht), by simp⟩, fun q _ ⟨j, hj, _⟩ => (by simp only at hj; omega), fun q _ h => (by simp only at h; rw [rep] at h; cases h)⟩ (by simp only; omega) ?_
  rintro ⟨M, todo, i⟩ ⟨hi, W, h3, h4⟩
  simp only at hi W h3 h4
  have hml := W.ml
  have htl := W.tl
  have hcnt : M.count true ≤ N := by rw [← hml]; exact List.count_le_length
  by_cases hi' : i = l.length
  · left
    subst hi'
    refine ⟨_, ⟨M, todo, rfl, W, fun q hq hm => ?_, h4⟩, fun n => ?_⟩
    · obtain ⟨j, hj, e⟩ := List.mem_iff_getElem.1 hm
      exact h3 q hq ⟨j, hj, by rw [List.getD_eq_getElem?_getD, List.getElem?_eq_getElem hj]; exact e⟩
    · simp only [S, L41_5]
      rw [if_neg nlt_nat]
  · have hil : i < l.length := by omega
    right
    have skip : (∀ q, q < N → l.getD i 0 = (q : Int) → M.getD q false = true) → ∀ q, q < N → (∃ j, j < i + 1 ∧ l.getD j 0 = (q : Int)) → M.getD q false = true := by
      intro h q hq ⟨j, hj, e⟩
      by_cases ej : j = i
      · subst ej; exact h q hq e
      · exact h3 q hq ⟨j, by omega, e⟩
    by_cases h0 : l.getD i 0 ≥ 0
    · by_cases h1 : l.getD i 0 < st
      · by_cases hm : M.getD (l.getD i 0).toNat false = true
        · refine ⟨(M, todo, i + 1), ⟨by simp only; omega, W, skip (fun q _ e => by
            have : q = (l.getD i 0).toNat := by omega
            rw [this]; exact hm), h4⟩, by simp only; omega, fun n => ?_⟩
          simp only [S, L41_5, Int.toNat_natCast]
          rw [if_pos (lt_nat hil), if_pos (in_range hil), if_pos (ct h0), if_pos (ct h1), if_pos (ct (by omega)), if_neg (by rw [hm]; exact ntf), wrap_nat (by omega)]
        · have hm' : M.getD (l.getD i 0).toNat false = false := by simpa using hm
          have hr : RC arcs N l (l.getD i 0).toNat := .base _ (by omega) (by
            have e : (((l.getD i 0).toNat : Nat) : Int) = l.getD i 0 := by omega
            rw [e]; exact getD_mem hil)
          refine ⟨(M.set (l.getD i 0).toNat true, todo ++ [l.getD i 0], i + 1), ⟨by simp only; omega, W.add h0 (by omega) hm' hr, fun q hq ⟨j, hj, e⟩ => ?_, fun q hq h => ?_⟩, by simp only; omega, fun n => ?_⟩
          · simp only at hj ⊢
            rw [getD_set (by omega)]
            by_cases eq : (l.getD i 0).toNat = q
            · rw [if_pos eq]
            · rw [if_neg eq]
              by_cases ej : j = i
              · subst ej; omega
              · exact h3 q hq ⟨j, by omega, e⟩
          · simp only at h ⊢
            rw [getD_set (by omega)] at h
            by_cases eq : (l.getD i 0).toNat = q
            · have e : (q : Int) = l.getD i 0 := by omega
              rw [e]; simp
            · rw [if_neg eq] at h
              exact List.mem_append_left _ (h4 q hq h)
          · simp only [S, L41_5, Int.toNat_natCast]
            rw [if_pos (lt_nat hil), if_pos (in_range hil), if_pos (ct h0), if_pos (ct h1), if_pos (ct (by omega)), if_pos (by rw [hm']; rfl), if_pos (ct (by omega)), if_pos (ct (by simp only [List.length_singleton, lim]; omega)), wrap_nat (by omega)]
      · refine ⟨(M, todo, i + 1), ⟨by simp only; omega, W, skip (fun q _ e => by omega), h4⟩, by simp only; omega, fun n => ?_⟩
        simp only [S, L41_5, Int.toNat_natCast]
        rw [if_pos (lt_nat hil), if_pos (in_range hil), if_pos (ct h0), if_neg (cf h1), wrap_nat (by omega)]
    · refine ⟨(M, todo, i + 1), ⟨by simp only; omega, W, skip (fun q _ e => by omega), h4⟩, by simp only; omega, fun n => ?_⟩
      simp only [S, L41_5, Int.toNat_natCast]
      rw [if_pos (lt_nat hil), if_pos (in_range hil), if_neg (cf h0), wrap_nat (by omega)]

theorem l41_13 (hN : st = (N : Int)) (hN2 : N ≤ 2000) (har : ∀ i, i < arcs.length → ArcOk st (arcs.getD i ad)) (hal : arcs.length ≤ 9223372036854775807) {M0 : List Bool} {todo0 : List Int} {s : Int} (W0 : WI N arcs l M0 todo0)
    (hs : 0 ≤ s ∧ s < N ∧ M0.getD s.toNat false = true) (hc0 : ∀ i, i < arcs.length → (arcs.getD i ad).2.2.1 = true → M0.getD (arcs.getD i ad).1.toNat false = true → (arcs.getD i ad).1 ∉ todo0 → (arcs.getD i ad).1 ≠ s → M0.getD (arcs.getD i ad).2.1.toNat false = true) :
    ∃ r, limit L41_13 (((), (), (), (), s, arcs, (arcs.length : Int), (0 : Int), ()), ((st, start, arcs, acc, ()), ((), ()), ((), ()), M0, todo0, ())) = some r ∧
      ∃ M todo, r = (((), (), (), (), ()), ((st, start, arcs, acc, ()), ((), ()), ((), ()), M, todo, ())) ∧ WI N arcs l M todo ∧ (∀ q, q < N → M0.getD q false = true → M.getD q false = true) ∧ todo.length + M0.count true = todo0.length + M.count true ∧ M0.count true ≤ M.count true ∧
        ∀ i, i < arcs.length → (arcs.getD i ad).2.2.1 = true → M.getD (arcs.getD i ad).1.toNat false = true → (arcs.getD i ad).1 ∉ todo → M.getD (arcs.getD i ad).2.1.toNat false = true := by
  let S : List Bool × List Int × Nat → ((Unit × Unit × Unit × Unit × (Int) × (List ((Int) × ((Int) × ((Bool) × ((List (Int)) × (Unit)))))) × (Int) × (Int) × Unit) × (((Int) × (Int) × (List ((Int) × ((Int) × ((Bool) × ((List (Int)) × (Unit)))))) × (List (Int)) × Unit) × (Unit × Unit) × (Unit × Unit) × (List (Bool)) × (List (Int)) × Unit)) :=
    fun t => (((), (), (), (), s, arcs, (arcs.length : Int), (t.2.2 : Int), ()), ((st, start, arcs, acc, ()), ((), ()), ((), ()), t.1, t.2.1, ()))
  refine state_rule (L := L41_13) S (fun t => t.2.2 ≤ arcs.length ∧ WI N arcs l t.1 t.2.1 ∧ (∀ q, q < N → M0.getD q false = true → t.1.getD q false = true) ∧ (t.2.1.length + M0.count true = todo0.length + t.1.count true ∧ M0.count true ≤ t.1.count true) ∧
      ∀ i, i < arcs.length → (arcs.getD i ad).2.2.1 = true → t.1.getD (arcs.getD i ad).1.toNat false = true → (arcs.getD i ad).1 ∉ t.2.1 → ((arcs.getD i ad).1 ≠ s ∨ i < t.2.2) → t.1.getD (arcs.getD i ad).2.1.toNat false = true) (fun t => arcs.length - t.2.2) _ (M0, todo0, 0)
    ⟨by simp, W0, fun _ _ h => h, ⟨rfl, Nat.le_refl _⟩, fun i hi e1 e2 e3 e4 => hc0 i hi e1 e2 e3 (e4.elim id fun h => absurd h (by simp only; omega))⟩ (by simp only; omega) ?_
  rintro ⟨M, todo, j⟩ ⟨hj, W, h3, h4, h5⟩
  simp only at hj W h3 h4 h5
  have hml := W.ml
  have htl := W.tl
  have hcnt : M.count true ≤ N := by rw [← hml]; exact List.count_le_length
  by_cases hj' : j = arcs.length
  · left
    subst hj'
    refine ⟨_, ⟨M, todo, rfl, W, h3, h4.1, h4.2, fun i hi e1 e2 e3 => h5 i hi e1 e2 e3 (.inr hi)⟩, fun n => ?_⟩
    simp only [S, L41_13]
    rw [if_neg nlt_nat]
  · have hjl : j < arcs.length := by omega
    obtain ⟨a1, a2, a3, a4, _⟩ := har j hjl
    right
    have skip : ((arcs.getD j ad).2.2.1 = true → (arcs.getD j ad).1 = s → M.getD (arcs.getD j ad).2.1.toNat false = true) →
        ∀ i, i < arcs.length → (arcs.getD i ad).2.2.1 = true → M.getD (arcs.getD i ad).1.toNat false = true → (arcs.getD i ad).1 ∉ todo → ((arcs.getD i ad).1 ≠ s ∨ i < j + 1) → M.getD (arcs.getD i ad).2.1.toNat false = true := by
      intro h i hi e1 e2 e3 e4
      by_cases ei : i = j
      · subst ei
        by_cases es : (arcs.getD i ad).1 = s
        · exact h e1 es
        · exact h5 i hi e1 e2 e3 (.inl es)
      · exact h5 i hi e1 e2 e3 (e4.imp id fun h => by omega)
    by_cases he : (arcs.getD j ad).2.2.1 = true
    · by_cases hfs : (arcs.getD j ad).1 = s
      · by_cases hm : M.getD (arcs.getD j ad).2.1.toNat false = true
        · refine ⟨(M, todo, j + 1), ⟨by simp only; omega, W, h3, h4, skip fun _ _ => hm⟩, by simp only; omega, fun n => ?_⟩
          simp only [S, L41_13, Int.toNat_natCast]
          rw [e_ad, if_pos (lt_nat hjl), if_pos (in_range hjl), if_pos he, if_pos (ct hfs), if_pos (ct (by omega)), if_pos (ct (by omega)), if_pos (ct (by omega)), if_neg (by rw [hm]; exact ntf), wrap_nat (by omega)]
        · have hm' : M.getD (arcs.getD j ad).2.1.toNat false = false := by simpa using hm
          have hr : RC arcs N l (arcs.getD j ad).2.1.toNat := by
            have hsm := h3 s.toNat (by omega) hs.2.2
            exact .step j s.toNat _ hjl he (by omega) (by omega) (W.so _ (by omega) hsm)
          refine ⟨(M.set (arcs.getD j ad).2.1.toNat true, todo ++ [(arcs.getD j ad).2.1], j + 1), ⟨by simp only; omega, W.add a3 (by omega) hm' hr, fun q hq h => ?_, ?_, fun i hi e1 e2 e3 e4 => ?_⟩, by simp only; omega, fun n => ?_⟩
          · simp only
            rw [getD_set (by omega)]
            split
            · rfl
            · exact h3 q hq h
          · simp only
            rw [count_set (by omega) hm', List.length_append, List.length_singleton]
            exact ⟨by omega, by omega⟩
          · simp only at e2 e3 e4 ⊢
            obtain ⟨b1, b2, b3, b4, _⟩ := har i hi
            rw [getD_set (by omega)] at e2 ⊢
            by_cases et : (arcs.getD j ad).2.1.toNat = (arcs.getD i ad).2.1.toNat
            · rw [if_pos et]
            · rw [if_neg et]
              have ef : ¬ (arcs.getD j ad).2.1.toNat = (arcs.getD i ad).1.toNat := fun h => e3 (List.mem_append_right _ (by
                have : (arcs.getD i ad).1 = (arcs.getD j ad).2.1 := by omega
                rw [this]; exact List.mem_singleton.2 rfl))
              rw [if_neg ef] at e2
              have e3' : (arcs.getD i ad).1 ∉ todo := fun h => e3 (List.mem_append_left _ h)
              have hij : i ≠ j := fun h => by subst h; exact et rfl
              exact h5 i hi e1 e2 e3' (e4.imp id fun h => by omega)
          · simp only [S, L41_13, Int.toNat_natCast]
            rw [e_ad, if_pos (lt_nat hjl), if_pos (in_range hjl), if_pos he, if_pos (ct hfs), if_pos (ct (by omega)), if_pos (ct (by omega)), if_pos (ct (by omega)), if_pos (by rw [hm']; rfl), if_pos (ct (by omega)),
              if_pos (ct (by simp only [List.length_singleton, lim]; omega)), wrap_nat (by omega)]
      · refine ⟨(M, todo, j + 1), ⟨by simp only; omega, W, h3, h4, skip fun _ h => absurd h hfs⟩, by simp only; omega, fun n => ?_⟩
        simp only [S, L41_13, Int.toNat_natCast]
        rw [e_ad, if_pos (lt_nat hjl), if_pos (in_range hjl), if_pos he, if_neg (cf hfs), wrap_nat (by omega)]
    · refine ⟨(M, todo, j + 1), ⟨by simp only; omega, W, h3, h4, skip fun h => absurd h he⟩, by simp only; omega, fun n => ?_⟩
      simp only [S, L41_13, Int.toNat_natCast]
      rw [e_ad, if_pos (lt_nat hjl), if_pos (in_range hjl), if_neg he, wrap_nat (by omega)]

theorem l62_41 (M : List Bool) (hM : M.length = N) (hN2 : N ≤ 2000) (hm : ∀ q, q < N → (M.getD q false = true ↔ RC arcs N l q)) :
    limit L62_41_3 (((), (), (M.length : Int), (0 : Int), ()), (((), ()), M, ([] : List (Int)), ())) = some (((), ()), (((), ()), M, (clo arcs N l), ())) := by
  have h := for_rule (L := L62_41_3) (N := N) (S := fun i => (((), (), (M.length : Int), (i : Int), ()), (((), ()), M, (((List.range i).filter fun q => M.getD q false).map fun q : Nat => (q : Int)), ())))
    (r := (((), ()), (((), ()), M, (clo arcs N l), ())))
    (fun i hi n => by
      have hlen : (((List.range i).filter fun q => M.getD q false).map fun q : Nat => (q : Int)).length ≤ i := by
        rw [List.length_map]
        exact Nat.le_trans (List.length_filter_le _ _) (by simp)
      simp only [L62_41_3, Int.toNat_natCast]
      rw [if_pos (ct (by omega)), if_pos (in_range (by omega)), wrap_nat (by omega), List.range_succ, List.filter_append, List.map_append]
      by_cases h : M.getD i false = true
      · rw [if_pos h, if_pos (ct (by simp only [List.length_singleton, lim]; omega))]
        simp only [List.filter_cons, h, if_true, List.filter_nil, List.map_cons, List.map_nil]
      · rw [if_neg h]
        have h' : M.getD i false = false := by simpa using h
        simp only [List.filter_cons, h', Bool.false_eq_true, if_false, List.filter_nil, List.map_nil, List.append_nil])
    (fun n => by
      simp only [L62_41_3]
      rw [if_neg (cf (by omega)), marks_clo hm]) (by omega)
  exact h

theorem p41_spec (hN : st = (N : Int)) (hN2 : N ≤ 2000) (har : ∀ i, i < arcs.length → ArcOk st (arcs.getD i ad)) (hal : arcs.length ≤ 9223372036854775807) (hl : l.length ≤ 9223372036854775807) :
    p41 ((st, (start, (arcs, (acc, ())))), l, ()) = some (clo arcs N l) := by
  obtain ⟨r1, e1, M1, todo1, rfl, W1, b1, b2⟩ := l41_5 (start := start) (arcs := arcs) (acc := acc) hN hN2 hl
  let S : List Bool × List Int → ((Unit × Unit × Unit × Unit × Unit) × (((Int) × (Int) × (List ((Int) × ((Int) × ((Bool) × ((List (Int)) × (Unit)))))) × (List (Int)) × Unit) × (Unit × Unit) × (Unit × Unit) × (List (Bool)) × (List (Int)) × Unit)) :=
    fun t => (((), (), (), (), ()), ((st, start, arcs, acc, ()), ((), ()), ((), ()), t.1, t.2, ()))
  have main := state_rule (L := L41_9) S (fun t => WI N arcs l t.1 t.2 ∧ (∀ q, q < N → (q : Int) ∈ l → t.1.getD q false = true) ∧
      ∀ i, i < arcs.length → (arcs.getD i ad).2.2.1 = true → t.1.getD (arcs.getD i ad).1.toNat false = true → (arcs.getD i ad).1 ∉ t.2 → t.1.getD (arcs.getD i ad).2.1.toNat false = true) (fun t => 2 * (N - t.1.count true) + t.2.length)
    (fun r => ∃ M : List Bool, r = (((), ()), (((), ()), M, ())) ∧ M.length = N ∧ ∀ q, q < N → (M.getD q false = true ↔ RC arcs N l q)) (M1, todo1)
    ⟨W1, b1, fun i hi e1 e2 e3 => by
      obtain ⟨a1, a2, _⟩ := har i hi
      have := b2 (arcs.getD i ad).1.toNat (by omega) e2
      have e : (((arcs.getD i ad).1.toNat : Nat) : Int) = (arcs.getD i ad).1 := by omega
      rw [e] at this
      exact absurd this e3⟩ (by
      have := W1.tl
      have hc : M1.count true ≤ N := by rw [← W1.ml]; exact List.count_le_length
      simp only; omega) (by
    rintro ⟨M, todo⟩ ⟨W, h2, h3⟩
    simp only at W h2 h3
    have hml := W.ml
    have htl := W.tl
    have hcnt : M.count true ≤ N := by rw [← hml]; exact List.count_le_length
    by_cases ht : todo.length = 0
    · left
      have : todo = [] := List.eq_nil_of_length_eq_zero ht
      subst this
      refine ⟨_, ⟨M, rfl, hml, fun q hq => ⟨W.so q hq, fun hr => ?_⟩⟩, fun n => ?_⟩
      · clear hq
        induction hr with
        | base q hq hm => exact h2 q hq hm
        | step i p q hi e1 e2 e3 hp ih =>
          have := h3 i hi e1
          rw [e2, e3, Int.toNat_natCast, Int.toNat_natCast] at this
          exact this ih (by simp)
      · simp only [S, L41_9]
        rw [if_neg (cf (by simp))]
    · right
      have ew : IntKind.i64.wrap ((todo.length : Int) - 1) = ((todo.length - 1 : Nat) : Int) := by rw [wrap_i64 (by omega) (by omega)]; omega
      have hlast : todo.getD (todo.length - 1) 0 ∈ todo := getD_mem (by omega)
      have hs := W.td _ hlast
      have hsplit : todo = todo.take (todo.length - 1) ++ [todo.getD (todo.length - 1) 0] := by
        have := take_snoc (l := todo) (d := 0) (i := todo.length - 1) (by omega)
        rw [show todo.length - 1 + 1 = todo.length by omega, List.take_length] at this
        exact this
      have W' : WI N arcs l M (todo.take (todo.length - 1)) := ⟨W.ml, W.so, fun t ht => W.td t (List.mem_of_mem_take ht), by rw [List.length_take]; omega⟩
      obtain ⟨r, hlim, M', todo', rfl, V, v1, v2, v4, v3⟩ := l41_13 (start := start) (acc := acc) hN hN2 har hal W' hs (fun i hi e1 e2 e3 e4 => h3 i hi e1 e2 (fun h => by
        rw [hsplit] at h
        rcases List.mem_append.1 h with h | h
        · exact e3 h
        · exact e4 (List.mem_singleton.1 h)))
      have hcnt' : M'.count true ≤ N := by rw [← V.ml]; exact List.count_le_length
      refine ⟨(M', todo'), ⟨V, fun q hq hm => v1 q hq (h2 q hq hm), v3⟩, ?_, fun n => ?_⟩
      · simp only
        rw [List.length_take] at v2
        omega
      · simp only [S, L41_9]
        rw [ew, Int.toNat_natCast, if_pos (ct (by omega)), if_pos (ct (by omega)), if_pos (ct (by omega)), hlim, Option.bind_some])
  obtain ⟨r2, e2, M, rfl, m1, m2⟩ := main
  have e2' : limit L41_9 (((), (), (), (), ()), ((st, start, arcs, acc, ()), ((), ()), ((), ()), M1, todo1, ())) = some (((), ()), (((), ()), M, ())) := e2
  have e3 := l62_41 M m1 hN2 m2
  simp only [p41]
  rw [if_pos (ct ⟨trivial, by omega, by simp only [lim]; omega⟩), e1]
  simp only [Option.bind_some]
  rw [e2']
  simp only [Option.bind_some]
  rw [e3]
  rfl
end
end Go.AM
