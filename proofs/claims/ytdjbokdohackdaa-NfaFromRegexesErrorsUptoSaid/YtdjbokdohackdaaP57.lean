/- The law on errors, plain. -/
import Derived.Test.YtdjbokdohackdaaP56
import Derived.Test.YtdjbokdohackdaaP25
import Derived.Test.YtdjbokdohackdaaQ3
namespace Go.AM
open Go

theorem mem_arcsTo {S : List (List Int)} {B : List (List (Int × Bool))} {n : Nat} {a : Arc'} : a ∈ arcsTo S B n ↔ ∃ p q, p < n ∧ q ∈ kys (B.getD p []) ∧ a = arcOf S (p : Int) q := by
  unfold arcsTo
  rw [List.mem_flatMap]
  constructor
  · rintro ⟨p, hp, ha⟩
    unfold rowOf at ha
    obtain ⟨q, hq, rfl⟩ := List.mem_map.1 ha
    exact ⟨p, q, List.mem_range.1 hp, srt_mem.1 hq, rfl⟩
  · rintro ⟨p, q, hp, hq, rfl⟩
    exact ⟨p, List.mem_range.2 hp, List.mem_map.2 ⟨q, srt_mem.2 hq, rfl⟩⟩

def Ge (a : List Int) : Prop := ∀ x ∈ a, -1 ≤ x
theorem Ge.set {a : List Int} (h : Ge a) {p : Nat} {i : Int} (hi : -1 ≤ i) : Ge (a.set p i) := fun x hx => by
  rcases List.mem_or_eq_of_mem_set hx with h1 | h1
  · exact h x h1
  · omega
theorem Ge.setAll {i : Int} (hi : -1 ≤ i) : ∀ (ps : List Int) {a : List Int}, Ge a → Ge (setAll i a ps)
  | [], _, h => h
  | p :: ps, a, h => Ge.setAll hi ps (h.set hi)
theorem Ge.acS {r : Rx} {o : Nat} {i : Int} {acc : List Int} (h : Ge acc) (hi : -1 ≤ i) : Ge (acS r o i acc) := by
  unfold Go.AM.acS
  have h1 : Ge (acc ++ List.replicate (lv r).length (-1)) := fun x hx => by
    rcases List.mem_append.1 hx with h1 | h1
    · exact h x h1
    · have := (List.mem_replicate.1 h1).2; omega
  simp only
  split
  · exact (Ge.setAll hi _ h1).set hi
  · exact Ge.setAll hi _ h1
theorem Ge.acA : ∀ (l : List Rx) (o i : Nat) {acc : List Int}, Ge acc → Ge (acA l o i acc)
  | [], _, _, _, h => h
  | r :: l, o, i, acc, h => Ge.acA l _ _ (h.acS (by omega))

theorem nfaA_valid {l : List Rx} (hn : (lvL l).length ≤ 1999) : VNfa (nfaA l).1 (nfaA l).2.1 (nfaA l).2.2.1 (nfaA l).2.2.2.1 := by
  refine ⟨?_, ?_, Int.le_refl _, ?_, ?_, fun i hi => ?_, fun i hi => ?_⟩
  · show (1 : Int) ≤ (((lvL l).length + 1 : Nat) : Int); omega
  · show (((lvL l).length + 1 : Nat) : Int) ≤ 2000; omega
  · show (0 : Int) < (((lvL l).length + 1 : Nat) : Int); omega
  · show (((acA l 0 0 [-1]).length : Nat) : Int) = (((lvL l).length + 1 : Nat) : Int)
    rw [acA_length]; simp; omega
  · have hm : (nfaA l).2.2.1.getD i ad ∈ arcsTo (lvL l) (mapsA l) ((lvL l).length + 1) := getD_mem hi
    obtain ⟨p, q, hp, hq, e⟩ := mem_arcsTo.1 hm
    have hk := (mapsA_KB l p (by rw [mapsA_length]; exact hp)).2 q hq
    rw [e]
    refine ⟨?_, ?_, ?_, ?_, fun h => by cases h⟩
    · show (0 : Int) ≤ (p : Int); omega
    · show (p : Int) < (((lvL l).length + 1 : Nat) : Int); omega
    · show (0 : Int) ≤ q; omega
    · show q < (((lvL l).length + 1 : Nat) : Int); omega
  · have hg : Ge (acA l 0 0 [-1]) := Ge.acA l 0 0 (fun x hx => by simp at hx; omega)
    exact hg _ (getD_mem hi)

theorem p39_nfaA {l : List Rx} (hn : (lvL l).length ≤ 1999) : p39 (((nfaA l).1, ((nfaA l).2.1, ((nfaA l).2.2.1, ((nfaA l).2.2.2.1, ())))), ()) = some true := by
  have hal : (nfaA l).2.2.1.length ≤ 9223372036854775807 := by
    have h1 := arcsTo_len (mapsA_KB l) ((lvL l).length + 1) (by rw [mapsA_length]; exact Nat.le_refl _)
    have h2 : ((lvL l).length + 1) * (lvL l).length ≤ 2000 * 2000 := Nat.mul_le_mul (by omega) (by omega)
    show (arcsTo _ _ _).length ≤ _
    omega
  obtain ⟨b, h1, h2⟩ := p39_spec (st := (nfaA l).1) (start := (nfaA l).2.1) (arcs := (nfaA l).2.2.1) (acc := (nfaA l).2.2.2.1) hal
  rw [h1, h2.2 (nfaA_valid hn)]

theorem p39_zero : p39 (((0 : Int), ((0 : Int), (([] : List Arc'), (([] : List Int), ())))), ()) = some false := by
  obtain ⟨b, h1, h2⟩ := p39_spec (st := 0) (start := 0) (arcs := []) (acc := []) (by simp)
  cases b with
  | false => exact h1
  | true => have := (h2.1 rfl).s1; omega

theorem plain310 {l : List Rx} (hw : ∀ r ∈ l, wfR r) (hn : nnL l ≤ 1152921504606846976) : p310 (l, ()) = some true := by
  simp only [p310]
  rw [awake_true, Option.bind_some, if_neg (by decide)]
  by_cases h1 : (l.length : Int) > 40
  · rw [if_pos (ct h1)]
  · rw [if_neg (cf h1)]
    obtain ⟨a1, a2, a3⟩ := p324_spec hw (by omega) hn
    obtain ⟨b1, b2⟩ := p328_spec hw (by omega) hn
    by_cases hv : AllV l
    · by_cases h5 : nnL l > 500
      · rw [a2 hv h5, b1 hv, if_pos h5]
        simp only [Option.bind_some]
        rw [if_pos (ct trivial), p39_zero]
        rfl
      · have hlv := lvL_le l
        rw [a3 hv (by omega), b1 hv, if_neg h5]
        simp only [Option.bind_some]
        rw [if_pos (ct trivial), p39_nfaA (by omega)]
        rfl
    · rw [a1 hv, b2 hv]
      simp only [Option.bind_some]
      rw [if_pos (ct trivial), p39_zero]
      rfl

theorem pure310 (l : List Rx) (y : ShL (([] : List Kind).map Sh.kd)) (hw : ∀ r ∈ l, wfR r) (hn : nnL l ≤ 1048576) (_ : wfL [] y) : p310 (l, y) = some true := by
  obtain ⟨⟩ := y
  exact plain310 hw (by omega)
end Go.AM
