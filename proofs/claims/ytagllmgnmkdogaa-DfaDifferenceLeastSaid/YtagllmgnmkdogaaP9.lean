/- The law DfaDifferenceLeast, plain. -/
import Derived.Test.YtagllmgnmkdogaaP8
import Derived.Test.YtagllmgnmkdogaaW6
namespace Go.AM
open Go

theorem pure6 : ∀ x, wfL [KDfa, KDfa, .str] x → p6 x = some true := by
  rintro ⟨⟨ca, na, aa, ⟨⟩⟩, ⟨cb, nb, ab, ⟨⟩⟩, s, ⟨⟩⟩ ⟨⟨_, ⟨_, hra⟩, _, _⟩, ⟨_, ⟨_, hrb⟩, _, _⟩, hs, _⟩
  obtain ⟨r1, e1, h1⟩ := p14_spec (c := ca) (nx := na) (ac := aa) 10 6 (fun r hr' => (hra r hr').1)
  obtain ⟨r2, e2, h2⟩ := p14_spec (c := cb) (nx := nb) (ac := ab) 10 6 (fun r hr' => (hrb r hr').1)
  simp only [p6, awake_true, Option.bind_some, e1, e2]
  cases r1 with
  | false => rfl
  | true =>
    rw [if_neg ntf]
    cases r2 with
    | false => rfl
    | true =>
      rw [if_neg ntf]
      by_cases h60 : (s.length : Int) > 60
      · rw [if_pos (ct h60)]
      · rw [if_neg (cf h60)]
        have Va := (h1.1 rfl).1
        have Vb := (h2.1 rfl).1
        rw [p12_spec Va hs, p12_spec Vb hs, Option.bind_some, Option.bind_some]
        by_cases hd : accZ aa (runZ ca na 0 s) = accZ ab (runZ cb nb 0 s)
        · rw [if_pos (ct hd)]
        · rw [if_neg (cf hd)]
          obtain ⟨t, f, e3, h3⟩ := p17_spec Va Vb
          rcases h3 with ⟨rfl, h4, h5⟩ | ⟨rfl, rfl, h4⟩
          · have hle := h5 s hd
            have hmax : t.length ≤ maxLen := by
              have : t.length ≤ s.length := by
                rcases hle with rfl | h | h
                · omega
                · omega
                · omega
              exact Nat.le_trans this hs
            rw [e3, Option.bind_some]
            simp only [if_true, p12_spec Va hmax, p12_spec Vb hmax, Option.bind_some]
            rw [if_pos (cnt h4)]
            rcases hle with rfl | h | ⟨h, h'⟩
            · rw [if_neg (cf (by omega)), if_pos (ct rfl)]
              simp
            · rw [if_pos (ct (by omega))]
            · rw [if_neg (cf (by omega)), if_pos (ct (by omega)), h']
              rfl
          · exact absurd hd (h4 s)
end Go.AM
