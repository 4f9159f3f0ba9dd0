/- The law DfaClasses, plain. -/
import Derived.Test.YtagllmgnmkdogaaP22
import Derived.Test.YtagllmgnmkdogaaW7
namespace Go.AM
open Go

section
variable {c : List Int} {nx : List (List Int)} {ac : List Int}

theorem l7_9 (V : VDfa c nx ac) {a b : Nat} (ha : a < 256) (hb : b < 256) :
    ∃ r, limit L7_9 (((), c.getD a 0, c.getD b 0, true, (0 : Int), ()), ((c, nx, ac, ()), ())) = some r ∧
      ∃ same, r = (((), c.getD a 0, c.getD b 0, same, ()), ((c, nx, ac, ()), ())) ∧ (same = true ↔ ∀ i : Nat, i < nx.length → stepZ c nx i a = stepZ c nx i b) := by
  have n5 := V.n500
  have ca := V.cr a ha
  have cb := V.cr b hb
  have es : ∀ (i : Nat) (a : Nat), stepZ c nx (i : Int) a = (nx.getD i []).getD (c.getD a 0).toNat 0 := fun i a => by unfold stepZ; rw [if_neg (by omega), Int.toNat_natCast]
  let S : Bool × Nat → ((Unit × (Int) × (Int) × (Bool) × (Int) × Unit) × (((List (Int)) × (List (List (Int))) × (List (Int)) × Unit) × Unit)) := fun s => (((), c.getD a 0, c.getD b 0, s.1, (s.2 : Int), ()), ((c, nx, ac, ()), ()))
  refine state_rule (L := L7_9) S (fun s => s.2 ≤ nx.length ∧ (s.1 = true ↔ ∀ i : Nat, i < s.2 → stepZ c nx i a = stepZ c nx i b)) (fun s => nx.length - s.2) _ (true, 0) ⟨by simp, by simp⟩ (by simp only; omega) ?_
  rintro ⟨same, i⟩ ⟨hi, h⟩
  simp only at hi h
  by_cases hi' : i = nx.length
  · subst hi'
    left
    refine ⟨_, ⟨same, rfl, h⟩, fun n => ?_⟩
    simp only [S, L7_9]
    rw [if_neg nlt_nat]
  · have hil : i < nx.length := by omega
    have hrl := V.rl i hil
    right
    cases same with
    | true =>
      refine ⟨(decide ((nx.getD i []).getD (c.getD a 0).toNat 0 = (nx.getD i []).getD (c.getD b 0).toNat 0), i + 1), ⟨by simp only; omega, ?_⟩, by simp only; omega, fun n => ?_⟩
      · simp only [decide_eq_true_eq]
        rw [← es, ← es]
        constructor
        · intro he j hj
          by_cases e : j = i
          · subst e; exact he
          · exact h.1 rfl j (by omega)
        · intro hh; exact hh i (by omega)
      · simp only [S, L7_9, Int.toNat_natCast, if_true]
        rw [if_pos (lt_nat hil), if_pos (in_range hil), if_pos (ct (by omega)), if_pos (in_range hil), if_pos (ct (by omega)), wrap_nat (by omega)]
    | false =>
      refine ⟨(false, i + 1), ⟨by simp only; omega, ?_⟩, by simp only; omega, fun n => ?_⟩
      · constructor
        · intro hh; cases hh
        · intro hh; exact h.2 fun j hj => hh j (by simp only; omega)
      · simp only [S, L7_9]
        rw [if_pos (lt_nat hil), if_neg ff, wrap_nat (by omega)]

theorem l7_14 (h256 : c.length = 256) {k : Nat} (F : Fon c k) (a b : Int) (same : Bool) :
    limit L7_14 (((), a, b, same, (0 : Int), (0 : Int), ()), ((c, nx, ac, ()), ())) = some (.inr (((), a, b, same, (k : Int), ()), ((c, nx, ac, ()), ()))) := by
  obtain ⟨cnt, f0, f1, f2⟩ := F
  have hcnt : ∀ b, b ≤ 256 → cnt b ≤ b := by
    intro b
    induction b with
    | zero => intro _; omega
    | succ b ih => intro hb; have := ih (by omega); rcases f2 b (by omega) with h | h <;> omega
  have h := for_rule (L := L7_14) (N := 256) (S := fun i => (((), a, b, same, (cnt i : Int), (i : Int), ()), ((c, nx, ac, ()), ()))) (r := .inr (((), a, b, same, (k : Int), ()), ((c, nx, ac, ()), ())))
    (fun i hi n => by
      have := hcnt i (by omega)
      simp only [L7_14, Int.toNat_natCast]
      rcases f2 i hi with ⟨g1, g2, g3⟩ | ⟨g1, g2⟩
      · rw [if_pos (ct (by omega)), if_pos (in_range (by omega)), if_neg (cf (by omega)), if_pos (in_range (by omega)), if_neg (cf (by omega)), wrap_nat (by omega), g3]
      · rw [if_pos (ct (by omega)), if_pos (in_range (by omega)), if_neg (cf (by omega)), if_pos (in_range (by omega)), if_pos (ct (by omega)), wrap_nat (by omega), wrap_nat (by omega), g2])
    (fun n => by simp only [L7_14]; rw [if_neg (cf (by omega)), f1]) (by omega)
  rw [f0] at h
  exact h
end

theorem pure7' (c : List Int) (nx : List (List Int)) (ac two : List Int) (hr : ∀ r ∈ nx, r.length ≤ maxLen) (ha : ∀ a ∈ ac, a ≤ 9223372036854775807) (htl : two.length = 2) (ht : ∀ x ∈ two, 0 ≤ x ∧ x ≤ 255) :
    p7 ((c, (nx, (ac, ()))), two, ()) = some true := by
  have hb : ∀ i, i < 2 → 0 ≤ two.getD i 0 ∧ two.getD i 0 < 256 := by
    intro i hi
    have h := ht (two.getD i 0) (getD_mem (by omega))
    omega
  obtain ⟨r2, e2, h2⟩ := p14_spec (c := c) (nx := nx) (ac := ac) 12 8 hr
  have b0 := hb 0 (by omega)
  have b1 := hb 1 (by omega)
  simp only [p7, awake_true, Option.bind_some, e2]
  cases r2 with
  | false => rfl
  | true =>
    rw [if_neg ntf]
    have V := (h2.1 rfl).1
    have hac : ∀ s, s < nx.length → ac.getD s 0 ≤ 9223372036854775807 := fun s hs => ha _ (getD_mem (by rw [V.al]; exact hs))
    obtain ⟨c', nx', ac', e3, C, hl, e4⟩ := p15_twice V hac
    have l1 := C.V.c256
    have l2 := C.V.n1
    rw [e3]
    simp only [Option.bind_some]
    rw [p10_true C]
    simp only [Option.bind_some]
    rw [if_neg ntf]
    generalize hx0 : two.getD 0 0 = x0 at b0
    generalize hx1 : two.getD 1 0 = x1 at b1
    have g0 : [x0, x1].getD (0 : Int).toNat 0 = x0 := rfl
    have g1 : [x0, x1].getD (1 : Int).toNat 0 = x1 := rfl
    obtain ⟨r, e5, same, rfl, hsame⟩ := l7_9 C.V (a := x0.toNat) (b := x1.toNat) (by omega) (by omega)
    have e6 := l7_14 (nx := nx') (ac := ac') l1 C.fon (c'.getD x0.toNat 0) (c'.getD x1.toNat 0) same
    rw [if_pos (ct (by omega)), g0, g1, if_pos (ct (by omega)), if_pos (ct (by omega)), if_pos (ct (by omega)), e5]
    simp only [Option.bind_some]
    rw [e6]
    simp only [Option.bind_some, Sum.elim_inr, if_true]
    have hiff : (decide (c'.getD x0.toNat 0 = c'.getD x1.toNat 0) == same) = true := by
      have : c'.getD x0.toNat 0 = c'.getD x1.toNat 0 ↔ same = true := by
        rw [hsame]
        constructor
        · intro h i _
          unfold stepZ
          rw [h]
        · intro h
          exact C.cls _ _ (by omega) (by omega) h
      cases same with
      | true => rw [beq_iff_eq, decide_eq_true_eq]; exact this.2 rfl
      | false =>
        have hn : ¬ c'.getD x0.toNat 0 = c'.getD x1.toNat 0 := fun h => by have := this.1 h; cases this
        rw [beq_iff_eq, decide_eq_false_iff_not]
        exact hn
    rw [if_pos hiff, if_pos (ct (by omega))]
    have e0 : (0 : Int).toNat = 0 := rfl
    rw [e0, if_pos (ct rfl), e4]
    simp only [Option.bind_some]
    rw [p19_same c' (by omega)]
    rfl

theorem pure7 : ∀ x, wfL [KDfa, .arr 2 (.int .u8)] x → p7 x = some true := by
  rintro ⟨⟨c, nx, ac, ⟨⟩⟩, two, ⟨⟩⟩ ⟨⟨_, ⟨_, hr⟩, ⟨_, ha⟩, _⟩, ⟨htl, ht⟩, _⟩
  exact pure7' c nx ac two (fun r hr' => (hr r hr').1) (fun a ha' => (ha a ha').2) htl ht
end Go.AM
