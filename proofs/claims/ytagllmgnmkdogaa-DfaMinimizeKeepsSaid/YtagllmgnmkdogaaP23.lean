/- The law DfaMinimizeKeeps, plain. -/
import Derived.Test.YtagllmgnmkdogaaP22
import Derived.Test.YtagllmgnmkdogaaW4
namespace Go.AM
open Go

theorem pure4 : ∀ x, wfL [KDfa, .str] x → p4 x = some true := by
  rintro ⟨⟨c, nx, ac, ⟨⟩⟩, s, ⟨⟩⟩ ⟨⟨⟨hc, _⟩, ⟨hn, hr⟩, ⟨_, ha⟩, _⟩, hs, _⟩
  obtain ⟨b, e1, h1⟩ := p11_spec (c := c) (nx := nx) (ac := ac) hc hn (fun r hr' => (hr r hr').1)
  obtain ⟨r2, e2, h2⟩ := p14_spec (c := c) (nx := nx) (ac := ac) 12 8 (fun r hr' => (hr r hr').1)
  simp only [p4, awake_true, Option.bind_some, e1, e2]
  cases b with
  | false => rfl
  | true =>
    rw [if_neg ntf]
    cases r2 with
    | false => rfl
    | true =>
      rw [if_neg ntf]
      by_cases h50 : (s.length : Int) > 50
      · rw [if_pos (ct h50)]
      · rw [if_neg (cf h50)]
        have V := h1.1 rfl
        have hac : ∀ s, s < nx.length → ac.getD s 0 ≤ 9223372036854775807 := fun s hs => (ha _ (getD_mem (by rw [V.al]; exact hs))).2
        obtain ⟨c', nx', ac', e3, C, hl, e4⟩ := p15_twice V hac
        have l1 := C.V.c256
        have l2 := C.V.n500
        have l3 := C.V.al
        rw [e3]
        simp only [Option.bind_some]
        rw [p10_true C]
        simp only [Option.bind_some]
        rw [if_neg ntf, if_neg (cf (by omega)), p12_spec C.V hs, p12_spec V hs]
        simp only [Option.bind_some, if_true]
        rw [C.lang s, if_pos (ct rfl), e4]
        simp only [Option.bind_some]
        rw [p16_same (by omega) (by omega) (by omega) (fun s hs => by have := C.rows _ (getD_mem (d := []) hs); rw [maxLen_val] at this; exact this)]
        rfl
end Go.AM
