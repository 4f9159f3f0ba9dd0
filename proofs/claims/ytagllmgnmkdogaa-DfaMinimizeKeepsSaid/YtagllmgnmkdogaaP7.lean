/- Difference: the reference's search finds the least string, too. -/
import Derived.Test.YtagllmgnmkdogaaP6
import Derived.Test.YtagllmgnmkdogaaG2
namespace Go.AM
open Go

section
variable {ca : List Int} {na : List (List Int)} {aa : List Int} {cb : List Int} {nb : List (List Int)} {ab : List Int}

abbrev fR (e : QE) : (Int) × ((Int) × ((List UInt8) × (Unit))) := (e.1.1, (e.1.2, (e.2, ())))

theorem l18_13 (i c x y : Int) (b0 : Bool) (Q : List QE) (hQ : Q.length < 2 ^ 62) :
    ∃ r, limit L18_13 (((), (), (), i, c, x, y, b0, (0 : Int), ()), ((ca, na, aa, ()), (cb, nb, ab, ()), Q.map fR, ())) = some r ∧
      ∃ b, r = (((), (), (), i, c, x, y, b, ()), ((ca, na, aa, ()), (cb, nb, ab, ()), Q.map fR, ())) ∧ (b = true ↔ b0 = true ∨ ∃ k, k < Q.length ∧ (Q.getD k qd).1 = (x, y)) := by
  let S : Nat × Bool → ((Unit × Unit × Unit × (Int) × (Int) × (Int) × (Int) × (Bool) × (Int) × Unit) × (((List (Int)) × (List (List (Int))) × (List (Int)) × Unit) × ((List (Int)) × (List (List (Int))) × (List (Int)) × Unit) × (List ((Int) × ((Int) × ((List UInt8) × (Unit))))) × Unit)) :=
    fun s => (((), (), (), i, c, x, y, s.2, (s.1 : Int), ()), ((ca, na, aa, ()), (cb, nb, ab, ()), Q.map fR, ()))
  refine state_rule (L := L18_13) S (fun s => s.1 ≤ Q.length ∧ (s.2 = true ↔ b0 = true ∨ ∃ k, k < s.1 ∧ (Q.getD k qd).1 = (x, y))) (fun s => Q.length - s.1) _ (0, b0) ⟨by simp, by simp⟩ (by simp only; omega) ?_
  rintro ⟨k, b⟩ ⟨hk, hb⟩
  simp only at hk hb
  by_cases hk' : k = Q.length
  · subst hk'
    left
    refine ⟨_, ⟨b, rfl, hb⟩, fun n => ?_⟩
    simp only [S, L18_13, List.length_map]
    rw [if_neg nlt_nat]
  · have hkl : k < Q.length := by omega
    have hg : (Q.map fR).getD k (0, (0, ([], ()))) = fR (Q.getD k qd) := getD_map (f := fR) (d := qd)
    cases b with
    | true =>
      left
      refine ⟨_, ⟨true, rfl, fun _ => ?_, fun _ => rfl⟩, fun n => ?_⟩
      · rcases hb.1 rfl with h | ⟨j, h1, h2⟩
        · exact .inl h
        · exact .inr ⟨j, by omega, h2⟩
      · simp only [S, L18_13, List.length_map]
        rw [if_pos (lt_nat hkl), if_neg ntf]
    | false =>
      right
      have hno : ¬ (b0 = true ∨ ∃ j, j < k ∧ (Q.getD j qd).1 = (x, y)) := fun h => by have := hb.2 h; cases this
      by_cases h1 : (Q.getD k qd).1.1 = x
      · refine ⟨(k + 1, decide ((Q.getD k qd).1.2 = y)), ⟨by simp only; omega, ?_⟩, by simp only; omega, fun n => ?_⟩
        · simp only [decide_eq_true_eq]
          constructor
          · intro h2; exact .inr ⟨k, by omega, Prod.ext h1 h2⟩
          · rintro (h2 | ⟨j, h2, h3⟩)
            · exact absurd (.inl h2) hno
            · by_cases hj : j < k
              · exact absurd (.inr ⟨j, hj, h3⟩) hno
              · have : j = k := by omega
                subst this
                rw [h3]
        · simp only [S, L18_13, List.length_map, Int.toNat_natCast, hg]
          rw [if_pos (lt_nat hkl), if_pos nft, if_pos (in_range hkl), if_pos (ct h1), if_pos (in_range hkl), wrap_nat (by omega)]
      · refine ⟨(k + 1, false), ⟨by simp only; omega, ?_⟩, by simp only; omega, fun n => ?_⟩
        · constructor
          · intro h; cases h
          · rintro (h2 | ⟨j, h2, h3⟩)
            · exact absurd (.inl h2) hno
            · by_cases hj : j < k
              · exact absurd (.inr ⟨j, hj, h3⟩) hno
              · have : j = k := by omega
                subst this
                exact absurd (congrArg Prod.fst h3) h1
        · simp only [S, L18_13, List.length_map, Int.toNat_natCast, hg]
          rw [if_pos (lt_nat hkl), if_pos nft, if_pos (in_range hkl), if_neg (cf h1), wrap_nat (by omega)]

def deadZ (p : Int × Int) : Prop := p.1 < 0 ∧ p.2 < 0

theorem deadZ_step (p : Int × Int) (c : Nat) (_ : c < 256) (h : deadZ p) : deadZ (dZ ca na cb nb p c) := by
  unfold deadZ dZ stepZ at *
  rw [if_pos h.1, if_pos h.2]
  simp

theorem deadZ_eq (p : Int × Int) (h : deadZ p) : eZ aa ab p := by
  unfold deadZ at h
  unfold eZ accZ
  rw [if_pos h.1, if_pos h.2]

/-- one entry: all bytes -/
theorem l18_8 (Va : VDfa ca na aa) (Vb : VDfa cb nb ab) {Q : List QE} {i : Nat} (h : BI (dZ ca na cb nb) (eZ aa ab) deadZ Q i 0) (hi : i < Q.length) :
    ∃ r, limit L18_8 (((), (), (), (i : Int), (0 : Int), ()), ((ca, na, aa, ()), (cb, nb, ab, ()), Q.map fR, ())) = some r ∧
      ∃ Q', r = (((), (), (), (i : Int), ()), ((ca, na, aa, ()), (cb, nb, ab, ()), Q'.map fR, ())) ∧ BI (dZ ca na cb nb) (eZ aa ab) deadZ Q' i 256 ∧ i < Q'.length ∧ Q'.getD i qd = Q.getD i qd := by
  let S : List QE × Nat → ((Unit × Unit × Unit × (Int) × (Int) × Unit) × (((List (Int)) × (List (List (Int))) × (List (Int)) × Unit) × ((List (Int)) × (List (List (Int))) × (List (Int)) × Unit) × (List ((Int) × ((Int) × ((List UInt8) × (Unit))))) × Unit)) :=
    fun s => (((), (), (), (i : Int), (s.2 : Int), ()), ((ca, na, aa, ()), (cb, nb, ab, ()), s.1.map fR, ()))
  refine state_rule (L := L18_8) S (fun s => s.2 ≤ 256 ∧ BI (dZ ca na cb nb) (eZ aa ab) deadZ s.1 i s.2 ∧ i < s.1.length ∧ s.1.getD i qd = Q.getD i qd) (fun s => 256 - s.2) _ (Q, 0) ⟨by simp, h, hi, rfl⟩ (by simp only; omega) ?_
  rintro ⟨Q1, c⟩ ⟨hc, hB, hi1, he1⟩
  simp only at hc hB hi1 he1
  by_cases hc' : c = 256
  · subst hc'
    left
    refine ⟨_, ⟨Q1, rfl, hB, hi1, he1⟩, fun n => ?_⟩
    simp only [S, L18_8]
    rw [if_neg (cf (by omega))]
  · have hcl : c < 256 := by omega
    right
    have hr := hB.ranges Va Vb i hi1
    have hsm := hB.small Va Vb
    have hlen := hB.len i hi1
    have hg : (Q1.map fR).getD i (0, (0, ([], ()))) = fR (Q1.getD i qd) := getD_map (f := fR) (d := qd)
    have e1 := p31_spec Va hr.2.1 hcl
    have e2 := p31_spec Vb hr.2.2.2 hcl
    have fin : ∀ b0 : Bool, (b0 = true ↔ deadZ (dZ ca na cb nb (Q1.getD i qd).1 c)) →
        (∀ n, L18_8 (n + 1) (S (Q1, c)) = (limit L18_13 (((), (), (), (i : Int), (c : Int), stepZ ca na (Q1.getD i qd).1.1 c, stepZ cb nb (Q1.getD i qd).1.2 c, b0, (0 : Int), ()), ((ca, na, aa, ()), (cb, nb, ab, ()), Q1.map fR, ()))).bind fun r3 =>
            if (!r3.1.2.2.2.2.2.2.2.1) = true then
              if decide (0 ≤ r3.1.2.2.2.1 ∧ r3.1.2.2.2.1 < (r3.2.2.2.1.length : Int)) = true then
                if decide ((r3.2.2.2.1.getD r3.1.2.2.2.1.toNat (0, (0, ([], ())))).2.2.1.length + (([(IntKind.u8.wrap r3.1.2.2.2.2.1)] : List (Int)).map fun n => UInt8.ofNat n.toNat).length ≤ lim) = true then
                  if decide (r3.2.2.2.1.length + ([(r3.1.2.2.2.2.2.1, (r3.1.2.2.2.2.2.2.1, (((r3.2.2.2.1.getD r3.1.2.2.2.1.toNat (0, (0, ([], ())))).2.2.1 ++ (([(IntKind.u8.wrap r3.1.2.2.2.2.1)] : List (Int)).map fun n => UInt8.ofNat n.toNat)), ())))] : List ((Int) × ((Int) × ((List UInt8) × (Unit))))).length ≤ lim) = true then
                    L18_8 n (((), (), (), r3.1.2.2.2.1, (IntKind.i64.wrap (r3.1.2.2.2.2.1 + (1 : Int))), ()), ((r3.2.1.1, r3.2.1.2.1, r3.2.1.2.2.1, ()), (r3.2.2.1.1, r3.2.2.1.2.1, r3.2.2.1.2.2.1, ()), (r3.2.2.2.1 ++ ([(r3.1.2.2.2.2.2.1, (r3.1.2.2.2.2.2.2.1, (((r3.2.2.2.1.getD r3.1.2.2.2.1.toNat (0, (0, ([], ())))).2.2.1 ++ (([(IntKind.u8.wrap r3.1.2.2.2.2.1)] : List (Int)).map fun n => UInt8.ofNat n.toNat)), ())))] : List ((Int) × ((Int) × ((List UInt8) × (Unit)))))), ()))
                  else
                    none
                else
                  none
              else
                none
            else
              L18_8 n (((), (), (), r3.1.2.2.2.1, (IntKind.i64.wrap (r3.1.2.2.2.2.1 + (1 : Int))), ()), ((r3.2.1.1, r3.2.1.2.1, r3.2.1.2.2.1, ()), (r3.2.2.1.1, r3.2.2.1.2.1, r3.2.2.1.2.2.1, ()), r3.2.2.2.1, ()))) →
        ∃ s', (s'.2 ≤ 256 ∧ BI (dZ ca na cb nb) (eZ aa ab) deadZ s'.1 i s'.2 ∧ i < s'.1.length ∧ s'.1.getD i qd = Q.getD i qd) ∧ 256 - s'.2 < 256 - c ∧ ∀ n, L18_8 (n + 1) (S (Q1, c)) = L18_8 n (S s') := by
      intro b0 hb0 hrun
      obtain ⟨r, hlim, b, rfl, hb⟩ := l18_13 (ca := ca) (na := na) (aa := aa) (cb := cb) (nb := nb) (ab := ab) (i : Int) (c : Int) (stepZ ca na (Q1.getD i qd).1.1 c) (stepZ cb nb (Q1.getD i qd).1.2 c) b0 Q1 (by omega)
      cases b with
      | true =>
        refine ⟨(Q1, c + 1), ⟨by simp only; omega, hB.skip hi1 hcl ?_, hi1, he1⟩, by simp only; omega, fun n => ?_⟩
        · rcases hb.1 rfl with h1 | h1
          · exact .inl (hb0.1 h1)
          · exact .inr h1
        · rw [hrun, hlim, Option.bind_some, if_neg ntf, wrap_nat (by omega)]
      | false =>
        refine ⟨(Q1 ++ [(dZ ca na cb nb (Q1.getD i qd).1 c, (Q1.getD i qd).2 ++ [UInt8.ofNat c])], c + 1), ⟨by simp only; omega, ?_, ?_, ?_⟩, by simp only; omega, fun n => ?_⟩
        · exact hB.push hi1 hcl (fun k hk hkk => by have := hb.2 (.inr ⟨k, hk, hkk⟩); cases this)
        · simp only [List.length_append]; omega
        · simp only; rw [getD_snoc_lt hi1]; exact he1
        · rw [hrun, hlim, Option.bind_some, if_pos nft, if_pos (ct (by simp only [List.length_map]; omega))]
          simp only [Int.toNat_natCast, hg]
          rw [ wrap_u8 hcl, byte_one,
            if_pos (ct (by simp only [List.length_singleton, lim]; omega)), if_pos (ct (by simp only [List.length_map, List.length_singleton, lim]; omega)), wrap_nat (by omega)]
          simp only [S, List.map_append, List.map_cons, List.map_nil, dZ]
    by_cases hneg : stepZ ca na (Q1.getD i qd).1.1 c < 0
    · refine fin (decide (stepZ cb nb (Q1.getD i qd).1.2 c < 0)) ?_ fun n => ?_
      · simp only [decide_eq_true_eq, deadZ, dZ]
        exact ⟨fun h => ⟨hneg, h⟩, fun h => h.2⟩
      · simp only [S, L18_8, Int.toNat_natCast, hg, List.length_map]
        rw [if_pos (ct (by omega)), if_pos (in_range hi1), wrap_u8 hcl, e1, Option.bind_some, if_pos (in_range hi1), e2, Option.bind_some, if_pos (ct hneg)]
    · refine fin false ?_ fun n => ?_
      · simp only [deadZ, dZ]
        exact ⟨fun h => (by cases h), fun h => absurd h.1 hneg⟩
      · simp only [S, L18_8, Int.toNat_natCast, hg, List.length_map]
        rw [if_pos (ct (by omega)), if_pos (in_range hi1), wrap_u8 hcl, e1, Option.bind_some, if_pos (in_range hi1), e2, Option.bind_some, if_neg (cf hneg)]

theorem p18_spec (Va : VDfa ca na aa) (Vb : VDfa cb nb ab) : ∃ t f, p18 ((ca, (na, (aa, ()))), (cb, (nb, (ab, ()))), ()) = some (t, f, ()) ∧ DiffSpec ca na aa cb nb ab t f := by
  let S : List QE × Nat → ((Unit × Unit × Unit × (Int) × Unit) × (((List (Int)) × (List (List (Int))) × (List (Int)) × Unit) × ((List (Int)) × (List (List (Int))) × (List (Int)) × Unit) × (List ((Int) × ((Int) × ((List UInt8) × (Unit))))) × Unit)) :=
    fun s => (((), (), (), (s.2 : Int), ()), ((ca, na, aa, ()), (cb, nb, ab, ()), s.1.map fR, ()))
  have main := state_rule (L := L18_3) S (fun s => s.2 ≤ s.1.length ∧ BI (dZ ca na cb nb) (eZ aa ab) deadZ s.1 s.2 0) (fun s => 251001 - s.2)
    (fun r => (∃ t, r = .inl ((t, true, ()), ()) ∧ DiffSpec ca na aa cb nb ab t true) ∨ (r = .inr ((), ()) ∧ DiffSpec ca na aa cb nb ab [] false)) ([qd], 0)
    ⟨by simp, BI.init⟩ (by simp only; omega) (by
    rintro ⟨Q, i⟩ ⟨hi, hB⟩
    simp only at hi hB
    by_cases hi' : i = Q.length
    · left
      subst hi'
      refine ⟨_, .inr ⟨rfl, .inr ⟨rfl, rfl, fun w hw => ?_⟩⟩, fun n => ?_⟩
      · have := hB.none deadZ_step deadZ_eq w
        rw [runP_dZ] at this
        exact hw this
      · simp only [S, L18_3, List.length_map]
        rw [if_neg nlt_nat]
    · have hil : i < Q.length := by omega
      have hr := hB.ranges Va Vb i hil
      have hsm := hB.small Va Vb
      have e1 := p32_spec Va hr.2.1
      have e2 := p32_spec Vb hr.2.2.2
      have hg : (Q.map fR).getD i (0, (0, ([], ()))) = fR (Q.getD i qd) := getD_map (f := fR) (d := qd)
      by_cases hE : accZ aa (Q.getD i qd).1.1 = accZ ab (Q.getD i qd).1.2
      · right
        obtain ⟨r, hlim, Q', rfl, hB', hi'', he'⟩ := l18_8 Va Vb hB hil
        refine ⟨(Q', i + 1), ⟨by simp only; omega, hB'.next (by rw [he']; exact hE)⟩, by simp only; omega, fun n => ?_⟩
        simp only [S, L18_3, List.length_map, Int.toNat_natCast, hg]
        rw [if_pos (lt_nat hil), if_pos (in_range hil), e1, Option.bind_some, if_pos (in_range hil), e2, Option.bind_some, if_neg (cnf hE), hlim, Option.bind_some, wrap_nat (by omega)]
      · left
        refine ⟨_, .inl ⟨(Q.getD i qd).2, rfl, .inl ⟨rfl, ?_, fun w hw => ?_⟩⟩, fun n => ?_⟩
        · intro hh
          have := hB.run i hil
          rw [runP_dZ] at this
          have h1 : runZ ca na 0 (Q.getD i qd).2 = (Q.getD i qd).1.1 := congrArg Prod.fst this
          have h2 : runZ cb nb 0 (Q.getD i qd).2 = (Q.getD i qd).1.2 := congrArg Prod.snd this
          rw [h1, h2] at hh
          exact hE hh
        · exact hB.found hil deadZ_step deadZ_eq (by rw [runP_dZ]; exact hw)
        · simp only [S, L18_3, List.length_map, Int.toNat_natCast, hg]
          rw [if_pos (lt_nat hil), if_pos (in_range hil), e1, Option.bind_some, if_pos (in_range hil), e2, Option.bind_some, if_pos (cnt hE), if_pos (in_range hil)])
  obtain ⟨r, hlim, hr⟩ := main
  have hS : S ([qd], 0) = (((), (), (), (0 : Int), ()), ((ca, na, aa, ()), (cb, nb, ab, ()), ([((0 : Int), ((0 : Int), (([] : List UInt8), ())))] : List ((Int) × ((Int) × ((List UInt8) × (Unit))))), ())) := rfl
  rw [hS] at hlim
  simp only [p18]
  rw [hlim, Option.bind_some]
  rcases hr with ⟨t, rfl, h⟩ | ⟨rfl, h⟩
  · exact ⟨t, true, rfl, h⟩
  · exact ⟨[], false, rfl, h⟩
end
end Go.AM
