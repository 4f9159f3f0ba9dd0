/- Plain laws: loops. -/
import Derived.Test.YtagllmgnmkdogaaA27
namespace Go.AM
open Go

theorem wrap_i64 {z : Int} (h1 : -9223372036854775808 ≤ z) (h2 : z ≤ 9223372036854775807) : IntKind.i64.wrap z = z := by
  rw [IntKind.wrap_i64]; omega

theorem wrap_nat {i : Nat} (h : i < 9223372036854775807) : IntKind.i64.wrap ((i : Int) + 1) = ((i + 1 : Nat) : Int) := by
  rw [wrap_i64 (by omega) (by omega)]
  exact (Int.natCast_add i 1).symm

section
variable {α β : Type} {L : Nat → α → Option β}

/-- N rounds, then the way out -/
theorem for_rule {N : Nat} {S : Nat → α} {r : β} (hstep : ∀ i, i < N → ∀ n, L (n + 1) (S i) = L n (S (i + 1))) (hend : ∀ n, L (n + 1) (S N) = some r) (hN : N < 2 ^ 70) : limit L (S 0) = some r := by
  have key : ∀ k, k ≤ N → ∀ n, N - k + 1 ≤ n → L n (S k) = some r := by
    intro k hk
    induction hd : N - k generalizing k with
    | zero =>
      intro n hn
      have : k = N := by omega
      subst this
      obtain ⟨m, rfl⟩ : ∃ m, n = m + 1 := ⟨n - 1, by omega⟩
      exact hend m
    | succ d ih =>
      intro n hn
      obtain ⟨m, rfl⟩ : ∃ m, n = m + 1 := ⟨n - 1, by omega⟩
      rw [hstep k (by omega)]
      exact ih (k + 1) (by omega) (by omega) m (by omega)
  exact limit_eq (N := N + 1) (fun n hn => key 0 (by omega) n (by omega)) (by omega)

/-- rounds that keep Inv and lower m, until a way out that Q fits -/
theorem loop_rule {x0 : α} (Inv : α → Prop) (m : α → Nat) (Q : β → Prop) (h0 : Inv x0) (hm : m x0 < 2 ^ 70)
    (step : ∀ x, Inv x → (∃ r, Q r ∧ ∀ n, L (n + 1) x = some r) ∨ ∃ x', Inv x' ∧ m x' < m x ∧ ∀ n, L (n + 1) x = L n x') : ∃ r, limit L x0 = some r ∧ Q r := by
  have key : ∀ k x, Inv x → m x ≤ k → ∃ r, Q r ∧ ∀ n, k + 1 ≤ n → L n x = some r := by
    intro k
    induction k with
    | zero =>
      intro x hx hk
      rcases step x hx with ⟨r, h1, h2⟩ | ⟨x', _, h2, _⟩
      · exact ⟨r, h1, fun n hn => by obtain ⟨j, rfl⟩ : ∃ j, n = j + 1 := ⟨n - 1, by omega⟩; exact h2 j⟩
      · omega
    | succ k ih =>
      intro x hx hk
      rcases step x hx with ⟨r, h1, h2⟩ | ⟨x', h1, h2, h3⟩
      · exact ⟨r, h1, fun n hn => by obtain ⟨j, rfl⟩ : ∃ j, n = j + 1 := ⟨n - 1, by omega⟩; exact h2 j⟩
      · obtain ⟨r, h4, h5⟩ := ih x' h1 (by omega)
        exact ⟨r, h4, fun n hn => by obtain ⟨j, rfl⟩ : ∃ j, n = j + 1 := ⟨n - 1, by omega⟩; rw [h3]; exact h5 j (by omega)⟩
  obtain ⟨r, h1, h2⟩ := key (m x0) x0 h0 (Nat.le_refl _)
  exact ⟨r, limit_eq h2 (by omega), h1⟩
end

/-- all, or the first that is not -/
theorem all_or_first (N : Nat) (p : Nat → Prop) : (∀ i, i < N → p i) ∨ ∃ k, k < N ∧ ¬ p k ∧ ∀ i, i < k → p i := by
  induction N with
  | zero => left; intro i hi; omega
  | succ N ih =>
    rcases ih with h | ⟨k, h1, h2, h3⟩
    · by_cases hp : p N
      · left
        intro i hi
        by_cases e : i = N
        · subst e; exact hp
        · exact h i (by omega)
      · right; exact ⟨N, by omega, hp, h⟩
    · right; exact ⟨k, by omega, h2, h3⟩

theorem getD_mem {α : Type} {l : List α} {d : α} {i : Nat} (h : i < l.length) : l.getD i d ∈ l := by
  rw [List.getD_eq_getElem?_getD, List.getElem?_eq_getElem h]
  exact List.getElem_mem h

theorem all_getD {α : Type} {l : List α} {d : α} {p : α → Prop} : (∀ x ∈ l, p x) ↔ ∀ i, i < l.length → p (l.getD i d) := by
  constructor
  · intro h i hi; exact h _ (getD_mem hi)
  · intro h x hx
    obtain ⟨i, hi, rfl⟩ := List.mem_iff_getElem.1 hx
    have := h i hi
    rwa [List.getD_eq_getElem?_getD, List.getElem?_eq_getElem hi] at this

theorem ct {p : Prop} [Decidable p] (h : p) : decide p = true := decide_eq_true h
theorem cf {p : Prop} [Decidable p] (h : ¬ p) : ¬ decide p = true := by simp [h]
theorem cnt {p : Prop} [Decidable p] (h : ¬ p) : (!decide p) = true := by simp [h]
theorem cnf {p : Prop} [Decidable p] (h : p) : ¬ (!decide p) = true := by simp [h]
theorem ff : ¬ (false = true) := by simp
theorem nft : (!false) = true := rfl
theorem ntf : ¬ ((!true) = true) := by simp
theorem lt_nat {i n : Nat} (h : i < n) : decide ((i : Int) < (n : Int)) = true := ct (by omega)
theorem nlt_nat {n : Nat} : ¬ decide ((n : Int) < (n : Int)) = true := cf (by omega)

theorem in_range {i n : Nat} (h : i < n) : decide (0 ≤ (i : Int) ∧ (i : Int) < (n : Int)) = true := by simp; omega

end Go.AM
