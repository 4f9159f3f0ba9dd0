/- Plain laws of automata: valid, run. -/
import Derived.Test.YtagllmgnmkdogaaP1
import Derived.Test.YtagllmgnmkdogaaG1
namespace Go.AM
open Go

structure VDfa (c : List Int) (nx : List (List Int)) (ac : List Int) : Prop where
  c256 : c.length = 256
  n1 : 1 ≤ nx.length
  n500 : nx.length ≤ 500
  al : ac.length = nx.length
  k1 : 1 ≤ (nx.getD 0 []).length
  cr : ∀ i, i < 256 → 0 ≤ c.getD i 0 ∧ c.getD i 0 < (nx.getD 0 []).length
  rl : ∀ s, s < nx.length → (nx.getD s []).length = (nx.getD 0 []).length
  tr : ∀ s, s < nx.length → ∀ j, j < (nx.getD 0 []).length → -1 ≤ (nx.getD s []).getD j 0 ∧ (nx.getD s []).getD j 0 < nx.length
  ar : ∀ s, s < nx.length → -1 ≤ ac.getD s 0

theorem p26_spec {xs : List Int} (lo hi : Int) (hl : xs.length ≤ maxLen) : ∃ b, p26 (xs, lo, hi, ()) = some b ∧ (b = true ↔ ∀ i, i < xs.length → lo ≤ xs.getD i 0 ∧ xs.getD i 0 ≤ hi) := by
  rw [maxLen_val] at hl
  have hstep : ∀ i, i < xs.length → (lo ≤ xs.getD i 0 ∧ xs.getD i 0 ≤ hi) → ∀ n, L54_27_26_2 (n + 1) ((xs, (), (xs.length : Int), (i : Int), ()), ((lo, ()), (hi, ()), ())) = L54_27_26_2 n ((xs, (), (xs.length : Int), ((i + 1 : Nat) : Int), ()), ((lo, ()), (hi, ()), ())) := by
    intro i h ⟨h1, h2⟩ n
    simp only [L54_27_26_2, Int.toNat_natCast]
    rw [if_pos (lt_nat h), if_pos (in_range h), if_neg (by simpa using h1), if_neg (by simpa using h2), wrap_nat (by omega)]
  rcases all_or_first xs.length (fun i => lo ≤ xs.getD i 0 ∧ xs.getD i 0 ≤ hi) with h | ⟨k, hk, h1, h2⟩
  · have hlim := for_rule (L := L54_27_26_2) (N := xs.length) (S := fun i => ((xs, (), (xs.length : Int), (i : Int), ()), ((lo, ()), (hi, ()), ()))) (r := .inr ((), ((lo, ()), (hi, ()), ())))
      (fun i hi => hstep i hi (h i hi)) (fun n => by simp [L54_27_26_2]) (by omega)
    refine ⟨true, ?_, by simpa using h⟩
    simp only [p26]
    rw [show ((0 : Nat) : Int) = 0 from rfl] at hlim
    rw [hlim]
    rfl
  · have hlim := for_rule (L := L54_27_26_2) (N := k) (S := fun i => ((xs, (), (xs.length : Int), (i : Int), ()), ((lo, ()), (hi, ()), ()))) (r := .inl (((k : Int), ()), ((lo, ()), (hi, ()), ())))
      (fun i hi => hstep i (by omega) (h2 i hi)) (fun n => by
        simp only [L54_27_26_2, Int.toNat_natCast]
        rw [if_pos (lt_nat hk), if_pos (in_range hk)]
        by_cases h3 : xs.getD k 0 < lo
        · rw [if_pos (by simpa using h3)]
        · rw [if_neg (by simpa using h3), if_pos (by simp only [decide_eq_true_eq]; omega)]) (by omega)
    refine ⟨false, ?_, ⟨fun h => (by cases h), fun h => absurd (h k hk) h1⟩⟩
    simp only [p26]
    rw [show ((0 : Nat) : Int) = 0 from rfl] at hlim
    rw [hlim]
    simp

theorem p11_spec {c : List Int} {nx : List (List Int)} {ac : List Int} (hc : c.length ≤ maxLen) (hn : nx.length ≤ maxLen) (hr : ∀ r ∈ nx, r.length ≤ maxLen) :
    ∃ b, p11 ((c, (nx, (ac, ()))), ()) = some b ∧ (b = true ↔ VDfa c nx ac) := by
  have hr' : ∀ s, s < nx.length → (nx.getD s []).length ≤ maxLen := fun s hs => hr _ (getD_mem hs)
  rw [maxLen_val] at hc hn
  simp only [maxLen_val] at hr'
  simp only [p11]
  by_cases h1 : ¬ ((c.length : Int) = 256)
  · rw [if_pos (cnt h1)]
    exact ⟨false, rfl, fun h => (by cases h), fun h => absurd (by have := h.c256; omega) h1⟩
  replace h1 := Classical.not_not.1 h1
  rw [if_neg (cnf h1)]
  by_cases h2 : (nx.length : Int) < 1
  · rw [if_pos (ct h2)]
    exact ⟨false, rfl, fun h => (by cases h), fun h => absurd h.n1 (by omega)⟩
  rw [if_neg (cf h2)]
  by_cases h3 : (nx.length : Int) > 500
  · rw [if_pos (ct h3)]
    exact ⟨false, rfl, fun h => (by cases h), fun h => absurd h.n500 (by omega)⟩
  rw [if_neg (cf h3)]
  by_cases h4 : ¬ ((ac.length : Int) = nx.length)
  · rw [if_pos (cnt h4)]
    exact ⟨false, rfl, fun h => (by cases h), fun h => absurd (by have := h.al; omega) h4⟩
  replace h4 := Classical.not_not.1 h4
  rw [if_neg (cnf h4)]
  rw [if_pos (by simp; omega)]
  have e0 : (0 : Int).toNat = 0 := rfl
  rw [e0]
  generalize hk : (nx.getD 0 []).length = k
  have hkl : k ≤ 9223372036854775807 := by rw [← hk]; exact hr' 0 (by omega)
  by_cases h5 : (k : Int) < 1
  · rw [if_pos (ct h5)]
    exact ⟨false, rfl, fun h => (by cases h), fun h => absurd h.k1 (by omega)⟩
  rw [if_neg (cf h5)]
  obtain ⟨b1, e1, hb1⟩ := p26_spec (xs := c) 0 (IntKind.i64.wrap ((k : Int) - 1)) (by rw [maxLen_val]; omega)
  rw [e1, Option.bind_some]
  rw [wrap_i64 (by omega) (by omega)] at hb1
  have hcr : b1 = true ↔ ∀ i, i < 256 → 0 ≤ c.getD i 0 ∧ c.getD i 0 < k := by
    rw [hb1]
    have : c.length = 256 := by omega
    rw [this]
    constructor
    · intro h i hi; have := h i hi; omega
    · intro h i hi; have := h i hi; omega
  cases b1 with
  | false =>
    rw [if_pos nft]
    exact ⟨false, rfl, fun h => (by cases h), fun h => absurd (hcr.2 (by rw [← hk]; exact h.cr)) (by simp)⟩
  | true =>
  rw [if_neg ntf]
  have hcr := hcr.1 rfl
  -- the rows
  have row : ∀ s, s < nx.length → ∃ b, p26 ((nx.getD s []), (-1 : Int), (IntKind.i64.wrap ((nx.length : Int) - (1 : Int))), ()) = some b ∧ (b = true ↔ ∀ j, j < (nx.getD s []).length → -1 ≤ (nx.getD s []).getD j 0 ∧ (nx.getD s []).getD j 0 < nx.length) := by
    intro s hs
    obtain ⟨b, e, hb⟩ := p26_spec (xs := nx.getD s []) (-1) (IntKind.i64.wrap ((nx.length : Int) - 1)) (by rw [maxLen_val]; exact hr' s hs)
    refine ⟨b, e, ?_⟩
    rw [hb, wrap_i64 (by omega) (by omega)]
    constructor
    · intro h j hj; have := h j hj; omega
    · intro h j hj; have := h j hj; omega
  let S8 : Nat → ((Unit × (Int) × (Int) × (List (List (Int))) × (Int) × (Int) × Unit) × (((List (Int)) × (List (List (Int))) × (List (Int)) × Unit) × Unit)) :=
    fun i => (((), (nx.length : Int), (k : Int), nx, (nx.length : Int), (i : Int), ()), ((c, nx, ac, ()), ()))
  have hstep : ∀ s, s < nx.length → ((nx.getD s []).length = k ∧ ∀ j, j < (nx.getD s []).length → -1 ≤ (nx.getD s []).getD j 0 ∧ (nx.getD s []).getD j 0 < nx.length) → ∀ n, L11_8 (n + 1) (S8 s) = L11_8 n (S8 (s + 1)) := by
    intro s hs ⟨g1, g2⟩ n
    obtain ⟨b, e, hb⟩ := row s hs
    simp only [S8, L11_8, Int.toNat_natCast]
    rw [if_pos (lt_nat hs), if_pos (in_range hs), if_neg (cnf (by omega)), e, hb.2 g2, Option.bind_some, if_neg ntf, wrap_nat (by omega)]
  rcases (all_or_first nx.length (fun s => (nx.getD s []).length = k ∧ ∀ j, j < (nx.getD s []).length → -1 ≤ (nx.getD s []).getD j 0 ∧ (nx.getD s []).getD j 0 < nx.length)).symm with ⟨s, hs, g1, g2⟩ | h6
  · have hlim := for_rule (L := L11_8) (N := s) (S := S8) (r := .inl ((false, ()), ()))
      (fun i hi => hstep i (by omega) (g2 i hi)) (fun n => by
        simp only [S8, L11_8, Int.toNat_natCast]
        rw [if_pos (lt_nat hs), if_pos (in_range hs)]
        by_cases h7 : (nx.getD s []).length = k
        · obtain ⟨b, e, hb⟩ := row s hs
          rw [if_neg (cnf (by omega)), e, Option.bind_some]
          cases b with
          | true => exact absurd ⟨h7, hb.1 rfl⟩ g1
          | false => rw [if_pos nft]
        · rw [if_pos (cnt (by omega))]) (by omega)
    refine ⟨false, ?_, fun h => (by cases h), fun h => absurd ⟨by rw [← hk]; exact h.rl s hs, fun j hj => h.tr s hs j (by rw [h.rl s hs] at hj; exact hj)⟩ g1⟩
    simp only [S8] at hlim
    rw [show ((0 : Nat) : Int) = 0 from rfl] at hlim
    rw [hlim]
    rfl
  have hlim := for_rule (L := L11_8) (N := nx.length) (S := S8) (r := .inr (((), ()), ((c, nx, ac, ()), ())))
      (fun i hi => hstep i hi (h6 i hi)) (fun n => by simp [S8, L11_8]) (by omega)
  simp only [S8] at hlim
  rw [show ((0 : Nat) : Int) = 0 from rfl] at hlim
  rw [hlim, Option.bind_some]
  simp only [Sum.elim_inr]
  -- the accepted numbers
  let SA : Nat → (((List (Int)) × Unit × (Int) × (Int) × Unit) × (((List (Int)) × (List (List (Int))) × (List (Int)) × Unit) × Unit)) := fun i => ((ac, (), (ac.length : Int), (i : Int), ()), ((c, nx, ac, ()), ()))
  have hstepA : ∀ i, i < ac.length → -1 ≤ ac.getD i 0 → ∀ n, L54_27_11_2 (n + 1) (SA i) = L54_27_11_2 n (SA (i + 1)) := by
    intro i hi g n
    simp only [SA, L54_27_11_2, Int.toNat_natCast, p28, Option.bind_some]
    rw [if_pos (lt_nat hi), if_pos (in_range hi), if_neg (cf (by omega)), wrap_nat (by omega)]
  rcases all_or_first ac.length (fun i => -1 ≤ ac.getD i 0) with h7 | ⟨i, hi, g1, g2⟩
  · have hlimA := for_rule (L := L54_27_11_2) (N := ac.length) (S := SA) (r := .inr ((), ((c, nx, ac, ()), ())))
      (fun i hi => hstepA i hi (h7 i hi)) (fun n => by simp [SA, L54_27_11_2]) (by omega)
    simp only [SA] at hlimA
    rw [show ((0 : Nat) : Int) = 0 from rfl] at hlimA
    rw [hlimA]
    refine ⟨true, rfl, fun _ => ⟨by omega, by omega, by omega, by omega, by omega, by rw [hk]; exact hcr, fun s hs => by rw [hk]; exact (h6 s hs).1, fun s hs j hj => (h6 s hs).2 j (by rw [(h6 s hs).1, ← hk]; exact hj), fun s hs => h7 s (by omega)⟩, fun _ => rfl⟩
  · have hlimA := for_rule (L := L54_27_11_2) (N := i) (S := SA) (r := .inl (((i : Int), ()), ((c, nx, ac, ()), ())))
      (fun j hj => hstepA j (by omega) (g2 j hj)) (fun n => by
        simp only [SA, L54_27_11_2, Int.toNat_natCast, p28, Option.bind_some]
        rw [if_pos (lt_nat hi), if_pos (in_range hi), if_pos (ct (by omega))]) (by omega)
    simp only [SA] at hlimA
    rw [show ((0 : Nat) : Int) = 0 from rfl] at hlimA
    rw [hlimA]
    refine ⟨false, by simp, fun h => (by cases h), fun h => absurd (h.ar i (by omega)) g1⟩
end Go.AM
