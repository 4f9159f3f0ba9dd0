/- Plain laws: loops. -/
import Derived.Test.YtdjbokdohackdaaA27
namespace Go.AM
open Go

theorem wrap_i64 {z : Int} (h1 : -9223372036854775808 ≤ z) (h2 : z ≤ 9223372036854775807) : IntKind.i64.wrap z = z := by
  rw [IntKind.wrap_i64]; omega

theorem wrap_nat {i : Nat} (h : i < 9223372036854775807) : IntKind.i64.wrap ((i : Int) + 1) = ((i + 1 : Nat) : Int) := by
  rw [wrap_i64 (by omega) (by omega)]
  exact (Int.natCast_add i 1).symm

section
variable {α β : Type} {L : Nat → α → Option β}

/-- N rounds, then the way out -/
theorem for_rule {N : Nat} {S : Nat → α} {r : β} (hstep : ∀ i, i < N → ∀ n, L (n + 1) (S i) = L n (S (i + 1))) (hend : ∀ n, L (n + 1) (S N) = some r) (hN : N < 2 ^ 70) : limit L (S 0) = some r := by
  have key : ∀ k, k ≤ N → ∀ n, N - k + 1 ≤ n → L n (S k) = some r := by
    intro k hk
    induction hd : N - k generalizing k with
    | zero =>
      intro n hn
      have : k = N := by omega
      subst this
      obtain ⟨m, rfl⟩ : ∃ m, n = m + 1 := ⟨n - 1, by omega⟩
      exact hend m
    | succ d ih =>
      intro n hn
      obtain ⟨m, rfl⟩ : ∃ m, n = m + 1 := ⟨n - 1, by omega⟩
      rw [hstep k (by omega)]
      exact ih (k + 1) (by omega) (by omega) m (by omega)
  exact limit_eq (N := N + 1) (fun n hn => key 0 (by omega) n (by omega)) (by omega)

/-- rounds that keep Inv and lower m, until a way out that Q fits -/
theorem loop_rule {x0 : α} (Inv : α → Prop) (m : α → Nat) (Q : β → Prop) (h0 : Inv x0) (hm : m x0 < 2 ^ 70)
    (step : ∀ x, Inv x → (∃ r, Q r ∧ ∀ n, L (n + 1) x = some r) ∨ ∃ x', Inv x' ∧ m x' < m x ∧ ∀ n, L (n + 1) x = L n x') : ∃ r, limit L x0 = some r ∧ Q r := by
  have key : ∀ k x, Inv x → m x ≤ k → ∃ r, Q r ∧ ∀ n, k + 1 ≤ n → L n x = some r := by
    intro k
    induction k with
    | zero =>
      intro x hx hk
      rcases step x hx with ⟨r, h1, h2⟩ | ⟨x', _, h2, _⟩
      · exact ⟨r, h1, fun n hn => by obtain ⟨j, rfl⟩ : ∃ j, n = j + 1 := ⟨n - 1, by omega⟩; exact h2 j⟩
      · omega
    | succ k ih =>
      intro x hx hk
      rcases step x hx with ⟨r, h1, h2⟩ | ⟨x', h1, h2, h3⟩
      · exact ⟨r, h1, fun n hn => by obtain ⟨j, rfl⟩ : ∃ j, n = j + 1 := ⟨n - 1, by omega⟩; exact h2 j⟩
      · obtain ⟨r, h4, h5⟩ := ih x' h1 (by omega)
        exact ⟨r, h4, fun n hn => by obtain ⟨j, rfl⟩ : ∃ j, n = j + 1 := ⟨n - 1, by omega⟩; rw [h3]; exact h5 j (by omega)⟩
  obtain ⟨r, h1, h2⟩ := key (m x0) x0 h0 (Nat.le_refl _)
  exact ⟨r, limit_eq h2 (by omega), h1⟩

/-- the same, over a description of the states -/
theorem state_rule {σ : Type} (S : σ → α) (Inv : σ → Prop) (m : σ → Nat) (Q : β → Prop) (s0 : σ) (h0 : Inv s0) (hm : m s0 < 2 ^ 70)
    (step : ∀ s, Inv s → (∃ r, Q r ∧ ∀ n, L (n + 1) (S s) = some r) ∨ ∃ s', Inv s' ∧ m s' < m s ∧ ∀ n, L (n + 1) (S s) = L n (S s')) : ∃ r, limit L (S s0) = some r ∧ Q r := by
  have key : ∀ k s, Inv s → m s ≤ k → ∃ r, Q r ∧ ∀ n, k + 1 ≤ n → L n (S s) = some r := by
    intro k
    induction k with
    | zero =>
      intro x hx hk
      rcases step x hx with ⟨r, h1, h2⟩ | ⟨x', _, h2, _⟩
      · exact ⟨r, h1, fun n hn => by obtain ⟨j, rfl⟩ : ∃ j, n = j + 1 := ⟨n - 1, by omega⟩; exact h2 j⟩
      · omega
    | succ k ih =>
      intro x hx hk
      rcases step x hx with ⟨r, h1, h2⟩ | ⟨x', h1, h2, h3⟩
      · exact ⟨r, h1, fun n hn => by obtain ⟨j, rfl⟩ : ∃ j, n = j + 1 := ⟨n - 1, by omega⟩; exact h2 j⟩
      · obtain ⟨r, h4, h5⟩ := ih x' h1 (by omega)
        exact ⟨r, h4, fun n hn => by obtain ⟨j, rfl⟩ : ∃ j, n = j + 1 := ⟨n - 1, by omega⟩; rw [h3]; exact h5 j (by omega)⟩
  obtain ⟨r, h1, h2⟩ := key (m s0) s0 h0 (Nat.le_refl _)
  exact ⟨r, limit_eq h2 (by omega), h1⟩
end

/-- all, or the first that is not -/
theorem all_or_first (N : Nat) (p : Nat → Prop) : (∀ i, i < N → p i) ∨ ∃ k, k < N ∧ ¬ p k ∧ ∀ i, i < k → p i := by
  induction N with
  | zero => left; intro i hi; omega
  | succ N ih =>
    rcases ih with h | ⟨k, h1, h2, h3⟩
    · by_cases hp : p N
      · left
        intro i hi
        by_cases e : i = N
        · subst e; exact hp
        · exact h i (by omega)
      · right; exact ⟨N, by omega, hp, h⟩
    · right; exact ⟨k, by omega, h2, h3⟩

theorem getD_mem {α : Type} {l : List α} {d : α} {i : Nat} (h : i < l.length) : l.getD i d ∈ l := by
  rw [List.getD_eq_getElem?_getD, List.getElem?_eq_getElem h]
  exact List.getElem_mem h

theorem all_getD {α : Type} {l : List α} {d : α} {p : α → Prop} : (∀ x ∈ l, p x) ↔ ∀ i, i < l.length → p (l.getD i d) := by
  constructor
  · intro h i hi; exact h _ (getD_mem hi)
  · intro h x hx
    obtain ⟨i, hi, rfl⟩ := List.mem_iff_getElem.1 hx
    have := h i hi
    rwa [List.getD_eq_getElem?_getD, List.getElem?_eq_getElem hi] at this

theorem ct {p : Prop} [Decidable p] (h : p) : decide p = true := decide_eq_true h
theorem cf {p : Prop} [Decidable p] (h : ¬ p) : ¬ decide p = true := by simp [h]
theorem cnt {p : Prop} [Decidable p] (h : ¬ p) : (!decide p) = true := by simp [h]
theorem cnf {p : Prop} [Decidable p] (h : p) : ¬ (!decide p) = true := by simp [h]
theorem ff : ¬ (false = true) := by simp
theorem nft : (!false) = true := rfl
theorem ntf : ¬ ((!true) = true) := by simp
theorem lt_nat {i n : Nat} (h : i < n) : decide ((i : Int) < (n : Int)) = true := ct (by omega)
theorem nlt_nat {n : Nat} : ¬ decide ((n : Int) < (n : Int)) = true := cf (by omega)

theorem wrap_u8 {i : Nat} (h : i < 256) : IntKind.u8.wrap (i : Int) = (i : Int) := by
  have e : ∀ i : Fin 256, IntKind.u8.wrap ((i.val : Nat) : Int) = ((i.val : Nat) : Int) := by decide +kernel
  exact e ⟨i, h⟩

theorem byte_one {i : Nat} : ([((i : Nat) : Int)] : List Int).map (fun n => UInt8.ofNat n.toNat) = [UInt8.ofNat i] := by simp

theorem getD_map {α β : Type} {f : α → β} {l : List α} {d : α} {i : Nat} : (l.map f).getD i (f d) = f (l.getD i d) := by
  rw [List.getD_eq_getElem?_getD, List.getD_eq_getElem?_getD, List.getElem?_map]
  cases l[i]? <;> rfl

/-! ### maps -/

def EqOk (k : Kind) : Prop := ∀ x y : k.T, k.eqB x y = true ↔ x = y
theorem eqOk_int (k : IntKind) : EqOk (.int k) := fun x y => by show decide (x = y) = true ↔ x = y; simp
theorem eqOk_str : EqOk .str := fun x y => by show decide (x = y) = true ↔ x = y; simp
theorem eqOk_unit : EqOk .unit := fun x y => by cases x; cases y; exact ⟨fun _ => rfl, fun _ => rfl⟩
theorem eqOk_pair {a b : Kind} (ha : EqOk a) (hb : EqOk b) : EqOk (.pair a b) := fun x y => by
  show (a.eqB x.1 y.1 && b.eqB x.2 y.2) = true ↔ x = y
  rw [Bool.and_eq_true, ha, hb]
  exact ⟨fun h => Prod.ext h.1 h.2, fun h => by rw [h]; exact ⟨rfl, rfl⟩⟩

theorem mget_mput_same {k : Kind} (hk : EqOk k) {v : Type} (x : k.T) (y : v) : ∀ es : List (k.T × v), mget k x (mput k x y es) = some y
  | [] => by simp [mput, mget, (hk x x).2 rfl]
  | p :: r => by
    unfold mput
    split
    · simp [mget, (hk x x).2 rfl]
    · rename_i h
      unfold mget
      rw [if_neg h]
      exact mget_mput_same hk x y r

theorem mget_mput_other {k : Kind} (hk : EqOk k) {v : Type} {x z : k.T} (hxz : z ≠ x) (y : v) : ∀ es : List (k.T × v), mget k z (mput k x y es) = mget k z es
  | [] => by
    show (if k.eqB z x = true then some y else none) = none
    rw [if_neg fun h => hxz ((hk _ _).1 h)]
  | p :: r => by
    unfold mput
    split
    · rename_i h
      have e := (hk _ _).1 h
      show (if k.eqB z x = true then some y else mget k z r) = if k.eqB z p.1 = true then some p.2 else mget k z r
      rw [← e, if_neg (fun h => hxz ((hk _ _).1 h)), if_neg (fun h => hxz ((hk _ _).1 h))]
    · unfold mget
      split
      · rfl
      · exact mget_mput_other hk hxz y r

theorem mput_length {k : Kind} {v : Type} (x : k.T) (y : v) : ∀ es : List (k.T × v), (mput k x y es).length = es.length + (if (mget k x es).isSome = true then 0 else 1)
  | [] => rfl
  | p :: r => by
    unfold mput mget
    split
    · simp
    · simp only [List.length_cons, mput_length x y r]
      split <;> omega

theorem in_range {i n : Nat} (h : i < n) : decide (0 ≤ (i : Int) ∧ (i : Int) < (n : Int)) = true := by simp; omega

end Go.AM
