/- Plain laws of automata: the reference's valid, both runs. -/
import Derived.Test.YtagllmgnmkdogaaP2
namespace Go.AM
open Go

theorem p10_spec {c : List Int} {nx : List (List Int)} {ac : List Int} (hr : ∀ r ∈ nx, r.length ≤ maxLen) :
    ∃ b, p10 ((c, (nx, (ac, ()))), ()) = some b ∧ (b = true ↔ VDfa c nx ac) := by
  have hr' : ∀ s, s < nx.length → (nx.getD s []).length ≤ maxLen := fun s hs => hr _ (getD_mem hs)
  simp only [maxLen_val] at hr'
  simp only [p10]
  by_cases h1 : ¬ ((c.length : Int) = 256)
  · rw [if_pos (cnt h1)]
    exact ⟨false, rfl, fun h => (by cases h), fun h => absurd (by have := h.c256; omega) h1⟩
  replace h1 := Classical.not_not.1 h1
  rw [if_neg (cnf h1)]
  by_cases h2 : (nx.length : Int) < 1
  · rw [if_pos (ct h2)]
    exact ⟨false, rfl, fun h => (by cases h), fun h => absurd h.n1 (by omega)⟩
  rw [if_neg (cf h2)]
  by_cases h3 : (nx.length : Int) > 500
  · rw [if_pos (ct h3)]
    exact ⟨false, rfl, fun h => (by cases h), fun h => absurd h.n500 (by omega)⟩
  rw [if_neg (cf h3)]
  by_cases h4 : ¬ ((ac.length : Int) = nx.length)
  · rw [if_pos (cnt h4)]
    exact ⟨false, rfl, fun h => (by cases h), fun h => absurd (by have := h.al; omega) h4⟩
  replace h4 := Classical.not_not.1 h4
  rw [if_neg (cnf h4)]
  rw [if_pos (ct (by omega))]
  have e0 : (0 : Int).toNat = 0 := rfl
  rw [e0]
  generalize hk : (nx.getD 0 []).length = k
  have hkl : k ≤ 9223372036854775807 := by rw [← hk]; exact hr' 0 (by omega)
  by_cases h5 : (k : Int) < 1
  · rw [if_pos (ct h5)]
    exact ⟨false, rfl, fun h => (by cases h), fun h => absurd h.k1 (by omega)⟩
  rw [if_neg (cf h5)]
  -- the classes
  let S8 : Nat → ((Unit × (Int) × (Int) × (Int) × Unit) × (((List (Int)) × (List (List (Int))) × (List (Int)) × Unit) × Unit)) :=
    fun i => (((), (nx.length : Int), (k : Int), (i : Int), ()), ((c, nx, ac, ()), ()))
  have hstep : ∀ i, i < 256 → (0 ≤ c.getD i 0 ∧ c.getD i 0 < k) → ∀ n, L10_8 (n + 1) (S8 i) = L10_8 n (S8 (i + 1)) := by
    intro i hi ⟨g1, g2⟩ n
    simp only [S8, L10_8, Int.toNat_natCast]
    rw [if_pos (ct (by omega)), if_pos (in_range (by omega)), if_neg (cf (by omega)), if_pos (in_range (by omega)), if_neg (cf (by omega)), wrap_nat (by omega)]
  rcases (all_or_first 256 (fun i => 0 ≤ c.getD i 0 ∧ c.getD i 0 < k)).symm with ⟨i, hi, g1, g2⟩ | hcr
  · have hlim := for_rule (L := L10_8) (N := i) (S := S8) (r := .inl ((false, ()), ()))
      (fun j hj => hstep j (by omega) (g2 j hj)) (fun n => by
        simp only [S8, L10_8, Int.toNat_natCast]
        rw [if_pos (ct (by omega)), if_pos (in_range (by omega))]
        by_cases h7 : c.getD i 0 < 0
        · rw [if_pos (ct h7)]
        · rw [if_neg (cf h7), if_pos (in_range (by omega)), if_pos (ct (by omega))]) (by omega)
    simp only [S8] at hlim
    rw [show ((0 : Nat) : Int) = 0 from rfl] at hlim
    rw [hlim]
    exact ⟨false, rfl, fun h => (by cases h), fun h => absurd (by rw [← hk]; exact h.cr i hi) g1⟩
  have hlim := for_rule (L := L10_8) (N := 256) (S := S8) (r := .inr (((), (nx.length : Int), (k : Int), ()), ((c, nx, ac, ()), ())))
      (fun i hi => hstep i hi (hcr i hi)) (fun n => by simp only [S8, L10_8]; rw [if_neg (cf (by omega))]) (by omega)
  simp only [S8] at hlim
  rw [show ((0 : Nat) : Int) = 0 from rfl] at hlim
  rw [hlim, Option.bind_some]
  simp only [Sum.elim_inr]
  -- a row
  have row : ∀ s, s < nx.length → (nx.getD s []).length = k →
      ((∀ j, j < k → -1 ≤ (nx.getD s []).getD j 0 ∧ (nx.getD s []).getD j 0 < nx.length) ∧ limit L10_18 (((), (nx.length : Int), (k : Int), (s : Int), (0 : Int), ()), ((c, nx, ac, ()), ())) = some (.inr (((), (nx.length : Int), (k : Int), (s : Int), ()), ((c, nx, ac, ()), ())))) ∨
      ((∃ j, j < k ∧ ¬ (-1 ≤ (nx.getD s []).getD j 0 ∧ (nx.getD s []).getD j 0 < nx.length)) ∧ limit L10_18 (((), (nx.length : Int), (k : Int), (s : Int), (0 : Int), ()), ((c, nx, ac, ()), ())) = some (.inl ((false, ()), ()))) := by
    intro s hs hlen
    let T : Nat → ((Unit × (Int) × (Int) × (Int) × (Int) × Unit) × (((List (Int)) × (List (List (Int))) × (List (Int)) × Unit) × Unit)) :=
      fun j => (((), (nx.length : Int), (k : Int), (s : Int), (j : Int), ()), ((c, nx, ac, ()), ()))
    have hst : ∀ j, j < k → (-1 ≤ (nx.getD s []).getD j 0 ∧ (nx.getD s []).getD j 0 < nx.length) → ∀ n, L10_18 (n + 1) (T j) = L10_18 n (T (j + 1)) := by
      intro j hj ⟨g1, g2⟩ n
      simp only [T, L10_18, Int.toNat_natCast]
      rw [if_pos (lt_nat hj), if_pos (in_range hs), if_pos (in_range (by omega)), if_neg (cf (by omega)), if_pos (in_range hs), if_pos (in_range (by omega)), if_neg (cf (by omega)), wrap_nat (by omega)]
    rcases all_or_first k (fun j => -1 ≤ (nx.getD s []).getD j 0 ∧ (nx.getD s []).getD j 0 < nx.length) with h | ⟨j, hj, g1, g2⟩
    · left
      refine ⟨h, ?_⟩
      have hl := for_rule (L := L10_18) (N := k) (S := T) (r := .inr (((), (nx.length : Int), (k : Int), (s : Int), ()), ((c, nx, ac, ()), ()))) (fun j hj => hst j hj (h j hj))
        (fun n => by simp only [T, L10_18]; rw [if_neg nlt_nat]) (by omega)
      exact hl
    · right
      refine ⟨⟨j, hj, g1⟩, ?_⟩
      have hl := for_rule (L := L10_18) (N := j) (S := T) (r := .inl ((false, ()), ())) (fun i hi => hst i (by omega) (g2 i hi))
        (fun n => by
          simp only [T, L10_18, Int.toNat_natCast]
          rw [if_pos (lt_nat hj), if_pos (in_range hs), if_pos (in_range (by omega))]
          by_cases h7 : (nx.getD s []).getD j 0 < -1
          · rw [if_pos (ct h7)]
          · rw [if_neg (cf h7), if_pos (in_range hs), if_pos (in_range (by omega)), if_pos (ct (by omega))]) (by omega)
      exact hl
  -- the rows
  let S13 : Nat → ((Unit × (Int) × (Int) × (Int) × Unit) × (((List (Int)) × (List (List (Int))) × (List (Int)) × Unit) × Unit)) :=
    fun s => (((), (nx.length : Int), (k : Int), (s : Int), ()), ((c, nx, ac, ()), ()))
  have hok : ∀ s, s < nx.length → ((nx.getD s []).length = k ∧ -1 ≤ ac.getD s 0 ∧ ∀ j, j < k → -1 ≤ (nx.getD s []).getD j 0 ∧ (nx.getD s []).getD j 0 < nx.length) → ∀ n, L10_13 (n + 1) (S13 s) = L10_13 n (S13 (s + 1)) := by
    intro s hs ⟨g1, g2, g3⟩ n
    simp only [S13, L10_13, Int.toNat_natCast]
    rcases row s hs g1 with ⟨_, hl⟩ | ⟨⟨j, hj, hb⟩, _⟩
    · rw [if_pos (lt_nat hs), if_pos (in_range hs), if_neg (cnf (by omega)), if_pos (in_range (by omega)), if_neg (cf (by omega)), hl, Option.bind_some, Sum.elim_inr, wrap_nat (by omega)]
    · exact absurd (g3 j hj) hb
  rcases all_or_first nx.length (fun s => (nx.getD s []).length = k ∧ -1 ≤ ac.getD s 0 ∧ ∀ j, j < k → -1 ≤ (nx.getD s []).getD j 0 ∧ (nx.getD s []).getD j 0 < nx.length) with h6 | ⟨s, hs, g1, g2⟩
  · have hl := for_rule (L := L10_13) (N := nx.length) (S := S13) (r := .inr ((), ())) (fun s hs => hok s hs (h6 s hs)) (fun n => by simp only [S13, L10_13]; rw [if_neg nlt_nat]) (by omega)
    simp only [S13] at hl
    rw [show ((0 : Nat) : Int) = 0 from rfl] at hl
    rw [hl]
    exact ⟨true, rfl, fun _ => ⟨by omega, by omega, by omega, by omega, by omega, by rw [hk]; exact hcr, fun s hs => by rw [hk]; exact (h6 s hs).1, fun s hs j hj => (h6 s hs).2.2 j (by rw [← hk]; exact hj), fun s hs => (h6 s hs).2.1⟩, fun _ => rfl⟩
  · have hl := for_rule (L := L10_13) (N := s) (S := S13) (r := .inl ((false, ()), ())) (fun i hi => hok i (by omega) (g2 i hi)) (fun n => by
      simp only [S13, L10_13, Int.toNat_natCast]
      rw [if_pos (lt_nat hs), if_pos (in_range hs)]
      by_cases h7 : ¬ (((nx.getD s []).length : Int) = k)
      · rw [if_pos (cnt h7)]
      · replace h7 := Classical.not_not.1 h7
        rw [if_neg (cnf h7), if_pos (in_range (by omega))]
        by_cases h8 : ac.getD s 0 < -1
        · rw [if_pos (ct h8)]
        · rw [if_neg (cf h8)]
          rcases row s hs (by omega) with ⟨ha, _⟩ | ⟨_, hl⟩
          · exact absurd ⟨by omega, by omega, ha⟩ g1
          · rw [hl]; rfl) (by omega)
    simp only [S13] at hl
    rw [show ((0 : Nat) : Int) = 0 from rfl] at hl
    rw [hl]
    exact ⟨false, rfl, fun h => (by cases h), fun h => absurd ⟨by rw [h.rl s hs, hk], h.ar s hs, fun j hj => h.tr s hs j (by rw [hk]; exact hj)⟩ g1⟩

/-! ### a run -/

def stepZ (c : List Int) (nx : List (List Int)) (s : Int) (b : Nat) : Int := if s < 0 then -1 else (nx.getD s.toNat []).getD (c.getD b 0).toNat 0
def accZ (ac : List Int) (s : Int) : Int := if s < 0 then -1 else ac.getD s.toNat 0
def runZ (c : List Int) (nx : List (List Int)) (s : Int) : List UInt8 → Int
  | [] => s
  | b :: l => runZ c nx (stepZ c nx s b.toNat) l

theorem runZ_append (c : List Int) (nx : List (List Int)) : ∀ (l m : List UInt8) (s : Int), runZ c nx s (l ++ m) = runZ c nx (runZ c nx s l) m
  | [], _, _ => rfl
  | _ :: l, m, _ => runZ_append c nx l m _

variable {c : List Int} {nx : List (List Int)} {ac : List Int}

theorem VDfa.step (V : VDfa c nx ac) {s : Int} (h1 : s < nx.length) {b : Nat} (hb : b < 256) : -1 ≤ stepZ c nx s b ∧ stepZ c nx s b < nx.length := by
  unfold stepZ
  split
  · have := V.n1; omega
  · have hc := V.cr b hb
    exact V.tr s.toNat (by omega) _ (by omega)

theorem VDfa.run (V : VDfa c nx ac) : ∀ (l : List UInt8) {s : Int}, -1 ≤ s → s < nx.length → -1 ≤ runZ c nx s l ∧ runZ c nx s l < nx.length
  | [], _, h0, h1 => ⟨h0, h1⟩
  | b :: l, s, h0, h1 => by
    have h := V.step h1 (b := b.toNat) (UInt8.toNat_lt b)
    exact V.run l h.1 h.2

theorem p29_spec (V : VDfa c nx ac) {s : Int} (h1 : s < nx.length) {b : Nat} (hb : b < 256) : p29 ((c, (nx, (ac, ()))), s, (b : Int), ()) = some (stepZ c nx s b) := by
  simp only [p29]
  unfold stepZ
  have hc := V.cr b hb
  have h256 := V.c256
  by_cases h : s < 0
  · rw [if_pos (ct h), if_pos h]
  · have hr := V.rl s.toNat (by omega)
    rw [if_neg (cf h), if_pos (ct (by omega)), if_pos (in_range (by omega)), Int.toNat_natCast, if_pos (ct (by omega)), if_neg h]

theorem p31_spec (V : VDfa c nx ac) {s : Int} (h1 : s < nx.length) {b : Nat} (hb : b < 256) : p31 ((c, (nx, (ac, ()))), s, (b : Int), ()) = some (stepZ c nx s b) := by
  have e : p31 = p29 := rfl
  rw [e]
  exact p29_spec V h1 hb

theorem p30_spec (V : VDfa c nx ac) {s : Int} (h1 : s < nx.length) : p30 ((c, (nx, (ac, ()))), s, ()) = some (accZ ac s) := by
  simp only [p30]
  unfold accZ
  have := V.al
  by_cases h : s < 0
  · rw [if_pos (ct h), if_pos h]
  · rw [if_neg (cf h), if_pos (ct (by omega)), if_neg h]

theorem p32_spec (V : VDfa c nx ac) {s : Int} (h1 : s < nx.length) : p32 ((c, (nx, (ac, ()))), s, ()) = some (accZ ac s) := by
  have e : p32 = p30 := rfl
  rw [e]
  exact p30_spec V h1

theorem run_take {l : List UInt8} {i : Nat} (hi : i < l.length) (s : Int) : runZ c nx s (l.take (i + 1)) = stepZ c nx (runZ c nx s (l.take i)) (l.getD i 0).toNat := by
  rw [List.take_succ_eq_append_getElem hi, runZ_append, List.getD_eq_getElem?_getD, List.getElem?_eq_getElem hi]
  rfl

theorem p12_spec (V : VDfa c nx ac) {l : List UInt8} (hl : l.length ≤ maxLen) : p12 ((c, (nx, (ac, ()))), l, ()) = some (accZ ac (runZ c nx 0 l)) := by
  rw [maxLen_val] at hl
  have hn := V.n1
  have hlim := for_rule (L := L12_3) (N := l.length) (S := fun i => ((l, (), runZ c nx 0 (l.take i), (l.length : Int), (i : Int), ()), ((c, nx, ac, ()), ()))) (r := (((), runZ c nx 0 l, ()), ((c, nx, ac, ()), ())))
    (fun i hi n => by
      have hr := V.run (l.take i) (s := 0) (by omega) (by omega)
      simp only [L12_3, Int.toNat_natCast]
      rw [if_pos (lt_nat hi), if_pos (in_range hi), p29_spec V hr.2 (UInt8.toNat_lt _), Option.bind_some, run_take hi, wrap_nat (by omega)])
    (fun n => by simp only [L12_3]; rw [if_neg nlt_nat, List.take_length]) (by omega)
  simp only [List.take_zero, runZ] at hlim
  rw [show ((0 : Nat) : Int) = 0 from rfl] at hlim
  have hr := V.run l (s := 0) (by omega) (by omega)
  simp only [p12]
  rw [hlim, Option.bind_some, p30_spec V hr.2]
  rfl

theorem p13_spec (V : VDfa c nx ac) {l : List UInt8} (hl : l.length ≤ maxLen) : p13 ((c, (nx, (ac, ()))), l, ()) = some (accZ ac (runZ c nx 0 l)) := by
  rw [maxLen_val] at hl
  have hn := V.n1
  have hlim := for_rule (L := L13_3) (N := l.length) (S := fun i => ((l, (), runZ c nx 0 (l.take i), (i : Int), ()), ((c, nx, ac, ()), ()))) (r := (((), runZ c nx 0 l, ()), ((c, nx, ac, ()), ())))
    (fun i hi n => by
      have hr := V.run (l.take i) (s := 0) (by omega) (by omega)
      simp only [L13_3, Int.toNat_natCast]
      rw [if_pos (lt_nat hi), if_pos (in_range hi), p31_spec V hr.2 (UInt8.toNat_lt _), Option.bind_some, run_take hi, wrap_nat (by omega)])
    (fun n => by simp only [L13_3]; rw [if_neg nlt_nat, List.take_length]) (by omega)
  simp only [List.take_zero, runZ] at hlim
  rw [show ((0 : Nat) : Int) = 0 from rfl] at hlim
  have hr := V.run l (s := 0) (by omega) (by omega)
  simp only [p13]
  rw [hlim, Option.bind_some, p32_spec V hr.2]
  rfl
end Go.AM
