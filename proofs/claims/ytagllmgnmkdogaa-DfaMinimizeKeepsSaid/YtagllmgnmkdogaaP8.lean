/- The law DfaDifference, plain. -/
import Derived.Test.YtagllmgnmkdogaaP7
import Derived.Test.YtagllmgnmkdogaaQ2
import Derived.Test.YtagllmgnmkdogaaW5
namespace Go.AM
open Go

abbrev KDfa : Kind := .pair (.slice (.int .i64)) (.pair (.slice (.slice (.int .i64))) (.pair (.slice (.int .i64)) .unit))

theorem p14_spec {c : List Int} {nx : List (List Int)} {ac : List Int} (a b : Int) (hr : ∀ r ∈ nx, r.length ≤ maxLen) :
    ∃ r, p14 ((c, (nx, (ac, ()))), a, b, ()) = some r ∧ (r = true ↔ VDfa c nx ac ∧ (nx.length : Int) ≤ a ∧ ((nx.getD 0 []).length : Int) ≤ b) := by
  obtain ⟨v, e, hv⟩ := p10_spec (c := c) (nx := nx) (ac := ac) hr
  simp only [p14, e, Option.bind_some]
  cases v with
  | false =>
    rw [if_neg ff]
    exact ⟨false, rfl, fun h => (by cases h), fun h => hv.2 h.1⟩
  | true =>
    have V := hv.1 rfl
    rw [if_pos rfl]
    by_cases h : (nx.length : Int) ≤ a
    · have hn := V.n1
      rw [if_pos (ct h), if_pos (ct (by omega))]
      refine ⟨_, rfl, ?_⟩
      simp only [decide_eq_true_eq]
      exact ⟨fun h2 => ⟨V, h, h2⟩, fun h2 => h2.2.2⟩
    · rw [if_neg (cf h)]
      exact ⟨false, rfl, fun h => (by cases h), fun h2 => absurd h2.2.1 h⟩

theorem pure5 : ∀ x, wfL [KDfa, KDfa] x → p5 x = some true := by
  rintro ⟨⟨ca, na, aa, ⟨⟩⟩, ⟨cb, nb, ab, ⟨⟩⟩, ⟨⟩⟩ ⟨⟨_, ⟨_, hra⟩, _, _⟩, ⟨_, ⟨_, hrb⟩, _, _⟩, _⟩
  obtain ⟨r1, e1, h1⟩ := p14_spec (c := ca) (nx := na) (ac := aa) 8 5 (fun r hr' => (hra r hr').1)
  obtain ⟨r2, e2, h2⟩ := p14_spec (c := cb) (nx := nb) (ac := ab) 8 5 (fun r hr' => (hrb r hr').1)
  simp only [p5, awake_true, Option.bind_some, e1, e2]
  cases r1 with
  | false => rfl
  | true =>
    rw [if_neg ntf]
    cases r2 with
    | false => rfl
    | true =>
      rw [if_neg ntf]
      obtain ⟨t, f, e3, h3⟩ := p17_spec (h1.1 rfl).1 (h2.1 rfl).1
      obtain ⟨t', f', e4, h4⟩ := p18_spec (h1.1 rfl).1 (h2.1 rfl).1
      obtain ⟨rfl, rfl⟩ := h3.unique _ _ _ _ _ _ h4
      simp only [e3, e4, Option.bind_some]
      simp
end Go.AM
