/- The law DfaRun, plain. -/
import Derived.Test.YtagllmgnmkdogaaP3
import Derived.Test.YtagllmgnmkdogaaQ2
import Derived.Test.YtagllmgnmkdogaaW3
namespace Go.AM
open Go

abbrev KDfa : Kind := .pair (.slice (.int .i64)) (.pair (.slice (.slice (.int .i64))) (.pair (.slice (.int .i64)) .unit))

theorem pure3 : ∀ x, wfL [KDfa, .str] x → p3 x = some true := by
  rintro ⟨⟨c, nx, ac, ⟨⟩⟩, l, ⟨⟩⟩ ⟨⟨⟨hc, _⟩, ⟨hn, hr⟩, ⟨_, _⟩, _⟩, hl, _⟩
  simp only [p3, awake_true, Option.bind_some]
  split; · rfl
  split; · rfl
  split; · rfl
  split; · rfl
  obtain ⟨b, e1, h1⟩ := p10_spec (c := c) (nx := nx) (ac := ac) (fun r hr' => (hr r hr').1)
  obtain ⟨b', e2, h2⟩ := p11_spec (c := c) (nx := nx) (ac := ac) hc hn (fun r hr' => (hr r hr').1)
  have hb : b' = b := by
    cases b <;> cases b' <;> simp_all
  subst hb
  rw [e1, e2]
  simp only [Option.bind_some, beq_self_eq_true, if_true]
  cases b' with
  | false => rfl
  | true =>
    have V := h1.1 rfl
    rw [p12_spec V hl, p13_spec V hl]
    simp
end Go.AM
