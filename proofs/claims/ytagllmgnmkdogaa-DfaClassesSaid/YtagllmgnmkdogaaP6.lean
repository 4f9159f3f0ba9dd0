/- Difference: the program's search finds the least string. -/
import Derived.Test.YtagllmgnmkdogaaP5
import Derived.Test.YtagllmgnmkdogaaP3
namespace Go.AM
open Go

abbrev KPair : Kind := .pair (.int .i64) (.pair (.int .i64) .unit)
theorem eqOk_KPair : EqOk KPair := eqOk_pair (eqOk_int _) (eqOk_pair (eqOk_int _) eqOk_unit)

section
variable (ca : List Int) (na : List (List Int)) (aa : List Int) (cb : List Int) (nb : List (List Int)) (ab : List Int)

def dZ (p : Int × Int) (c : Nat) : Int × Int := (stepZ ca na p.1 c, stepZ cb nb p.2 c)
def eZ (p : Int × Int) : Prop := accZ aa p.1 = accZ ab p.2

theorem runP_dZ : ∀ (l : List UInt8) (p : Int × Int), runP (dZ ca na cb nb) p l = (runZ ca na p.1 l, runZ cb nb p.2 l)
  | [], _ => rfl
  | _ :: l, _ => runP_dZ l _

def differs (w : List UInt8) : Prop := accZ aa (runZ ca na 0 w) ≠ accZ ab (runZ cb nb 0 w)

/-- what both searches answer -/
def DiffSpec (t : List UInt8) (f : Bool) : Prop :=
  (f = true ∧ differs ca na aa cb nb ab t ∧ ∀ w, differs ca na aa cb nb ab w → sle t w) ∨ (f = false ∧ t = [] ∧ ∀ w, ¬ differs ca na aa cb nb ab w)

theorem DiffSpec.unique {t t' : List UInt8} {f f' : Bool} (h : DiffSpec ca na aa cb nb ab t f) (h' : DiffSpec ca na aa cb nb ab t' f') : t = t' ∧ f = f' := by
  rcases h with ⟨rfl, h1, h2⟩ | ⟨rfl, rfl, h1⟩ <;> rcases h' with ⟨rfl, h3, h4⟩ | ⟨rfl, rfl, h3⟩
  · exact ⟨sle_antisymm (h2 _ h3) (h4 _ h1), rfl⟩
  · exact absurd h1 (h3 _)
  · exact absurd h3 (h1 _)
  · exact ⟨rfl, rfl⟩

variable {ca na aa cb nb ab}

theorem BI.ranges (Va : VDfa ca na aa) (Vb : VDfa cb nb ab) {E dead : Int × Int → Prop} {Q : List QE} {i c : Nat} (h : BI (dZ ca na cb nb) E dead Q i c) :
    ∀ k, k < Q.length → -1 ≤ (Q.getD k qd).1.1 ∧ (Q.getD k qd).1.1 < na.length ∧ -1 ≤ (Q.getD k qd).1.2 ∧ (Q.getD k qd).1.2 < nb.length := by
  intro k hk
  have hr := h.run k hk
  rw [runP_dZ] at hr
  have n1 := Va.n1
  have n2 := Vb.n1
  have h1 := Va.run (Q.getD k qd).2 (s := 0) (by omega) (by omega)
  have h2 := Vb.run (Q.getD k qd).2 (s := 0) (by omega) (by omega)
  rw [← hr]
  exact ⟨h1.1, h1.2, h2.1, h2.2⟩

theorem BI.small (Va : VDfa ca na aa) (Vb : VDfa cb nb ab) {E dead : Int × Int → Prop} {Q : List QE} {i c : Nat} (h : BI (dZ ca na cb nb) E dead Q i c) : Q.length ≤ 251001 := by
  have h1 := h.bound (h.ranges Va Vb)
  have n1 := Va.n500
  have n2 := Vb.n500
  have : (na.length + 1) * (nb.length + 1) ≤ 501 * 501 := Nat.mul_le_mul (by omega) (by omega)
  omega

abbrev fI (e : QE) : ((Int) × ((Int) × (Unit))) × ((List UInt8) × (Unit)) := ((e.1.1, (e.1.2, ())), (e.2, ()))

/-- the map of pairs holds those of the queue -/
def Seen (Q : List QE) (es : List (((Int) × ((Int) × (Unit))) × (Unit))) : Prop :=
  ∀ p : Int × Int, (mget KPair ((p.1, (p.2, ())) : KPair.T) es).isSome = true ↔ ∃ k, k < Q.length ∧ (Q.getD k qd).1 = p

theorem Seen.push {Q : List QE} {es : List (((Int) × ((Int) × (Unit))) × (Unit))} (h : Seen Q es) (e : QE) : Seen (Q ++ [e]) (mput KPair ((e.1.1, (e.1.2, ())) : KPair.T) () es) := by
  intro p
  by_cases he : p = e.1
  · subst he
    rw [mget_mput_same eqOk_KPair]
    exact ⟨fun _ => ⟨Q.length, by simp, by rw [getD_snoc_eq]⟩, fun _ => rfl⟩
  · rw [mget_mput_other eqOk_KPair (fun hh => he (by
      have h1 := congrArg Prod.fst hh
      have h2 := congrArg (fun z => z.2.1) hh
      exact Prod.ext h1 h2)), h p]
    constructor
    · rintro ⟨k, h1, h2⟩
      exact ⟨k, by simp; omega, by rw [getD_snoc_lt h1]; exact h2⟩
    · rintro ⟨k, h1, h2⟩
      rw [List.length_append, List.length_singleton] at h1
      by_cases hk : k < Q.length
      · exact ⟨k, hk, by rw [getD_snoc_lt hk] at h2; exact h2⟩
      · have : k = Q.length := by omega
        subst this
        rw [getD_snoc_eq] at h2
        exact absurd h2.symm he

/-- one entry: all bytes -/
theorem l17_10 (Va : VDfa ca na aa) (Vb : VDfa cb nb ab) {Q : List QE} {es : List (((Int) × ((Int) × (Unit))) × (Unit))} {i : Nat}
    (h : BI (dZ ca na cb nb) (eZ aa ab) (fun _ => False) Q i 0) (hi : i < Q.length) (hs : Seen Q es) :
    ∃ r, limit L17_10 (((), (), (), (), (i : Int), (), (0 : Int), ()), ((ca, na, aa, ()), (cb, nb, ab, ()), Q.map fI, ((Q.getD i qd).1.1, (Q.getD i qd).1.2, (Q.getD i qd).2, ()), es, ())) = some r ∧
      ∃ Q' es', r = (((), (), (), (), (i : Int), ()), ((ca, na, aa, ()), (cb, nb, ab, ()), Q'.map fI, es', ())) ∧ BI (dZ ca na cb nb) (eZ aa ab) (fun _ => False) Q' i 256 ∧ i < Q'.length ∧ Seen Q' es' ∧ Q'.getD i qd = Q.getD i qd := by
  let S : List QE × List (((Int) × ((Int) × (Unit))) × (Unit)) × Nat → ((Unit × Unit × Unit × Unit × (Int) × Unit × (Int) × Unit) × (((List (Int)) × (List (List (Int))) × (List (Int)) × Unit) × ((List (Int)) × (List (List (Int))) × (List (Int)) × Unit) × (List (((Int) × ((Int) × (Unit))) × ((List UInt8) × (Unit)))) × ((Int) × (Int) × (List UInt8) × Unit) × (List (((Int) × ((Int) × (Unit))) × (Unit))) × Unit)) :=
    fun s => (((), (), (), (), (i : Int), (), (s.2.2 : Int), ()), ((ca, na, aa, ()), (cb, nb, ab, ()), s.1.map fI, ((Q.getD i qd).1.1, (Q.getD i qd).1.2, (Q.getD i qd).2, ()), s.2.1, ()))
  refine state_rule (L := L17_10) S (fun s => s.2.2 ≤ 256 ∧ BI (dZ ca na cb nb) (eZ aa ab) (fun _ => False) s.1 i s.2.2 ∧ i < s.1.length ∧ Seen s.1 s.2.1 ∧ s.1.getD i qd = Q.getD i qd) (fun s => 256 - s.2.2) _ (Q, es, 0) ⟨by simp, h, hi, hs, rfl⟩ (by simp only; omega) ?_
  rintro ⟨Q1, es1, c⟩ ⟨hc, hB, hi1, hs1, he1⟩
  simp only at hc hB hi1 hs1 he1
  by_cases hc' : c = 256
  · subst hc'
    left
    refine ⟨_, ⟨Q1, es1, rfl, hB, hi1, hs1, he1⟩, fun n => ?_⟩
    simp only [S, L17_10]
    rw [if_neg (cf (by omega))]
  · have hcl : c < 256 := by omega
    right
    have hr := hB.ranges Va Vb i hi1
    have hsm := hB.small Va Vb
    have hlen := hB.len i hi1
    rw [he1] at hr hlen
    have e1 := p29_spec Va hr.2.1 hcl
    have e2 := p29_spec Vb hr.2.2.2 hcl
    have hsee := hs1 (dZ ca na cb nb (Q.getD i qd).1 c)
    simp only [dZ] at hsee
    by_cases hin : (mget KPair ((stepZ ca na (Q.getD i qd).1.1 c, (stepZ cb nb (Q.getD i qd).1.2 c, ())) : KPair.T) es1).isSome = true
    · refine ⟨(Q1, es1, c + 1), ⟨by simp only; omega, hB.skip hi1 hcl (.inr ?_), hi1, hs1, he1⟩, by simp only; omega, fun n => ?_⟩
      · rw [he1]; exact hsee.1 hin
      · simp only [S, L17_10]
        rw [if_pos (ct (by omega)), wrap_u8 hcl, e1, Option.bind_some, e2, Option.bind_some, hin, if_neg ntf, wrap_nat (by omega)]
    · have hin' : (mget KPair ((stepZ ca na (Q.getD i qd).1.1 c, (stepZ cb nb (Q.getD i qd).1.2 c, ())) : KPair.T) es1).isSome = false := by simpa using hin
      refine ⟨(Q1 ++ [(dZ ca na cb nb (Q.getD i qd).1 c, (Q.getD i qd).2 ++ [UInt8.ofNat c])], mput KPair ((stepZ ca na (Q.getD i qd).1.1 c, (stepZ cb nb (Q.getD i qd).1.2 c, ())) : KPair.T) () es1, c + 1), ⟨by simp only; omega, ?_, ?_, ?_, ?_⟩, by simp only; omega, fun n => ?_⟩
      · have := hB.push hi1 hcl (fun k hk hkk => hin (hsee.2 ⟨k, hk, by rw [hkk, he1]; rfl⟩))
        rw [he1] at this
        exact this
      · simp only [List.length_append]; omega
      · exact hs1.push _
      · simp only; rw [getD_snoc_lt hi1]; exact he1
      · simp only [S, L17_10]
        rw [if_pos (ct (by omega)), wrap_u8 hcl, e1, Option.bind_some, e2, Option.bind_some, hin', if_pos nft, byte_one, if_pos (ct (by simp only [List.length_singleton, lim]; omega)), if_pos (ct (by simp only [List.length_map, List.length_singleton, lim]; omega)), wrap_nat (by omega)]
        simp only [List.map_append, List.map_cons, List.map_nil, dZ]

theorem p17_spec (Va : VDfa ca na aa) (Vb : VDfa cb nb ab) : ∃ t f, p17 ((ca, (na, (aa, ()))), (cb, (nb, (ab, ()))), ()) = some (t, f, ()) ∧ DiffSpec ca na aa cb nb ab t f := by
  let S : List QE × List (((Int) × ((Int) × (Unit))) × (Unit)) × Nat → ((Unit × Unit × Unit × Unit × (Int) × Unit) × (((List (Int)) × (List (List (Int))) × (List (Int)) × Unit) × ((List (Int)) × (List (List (Int))) × (List (Int)) × Unit) × (List (((Int) × ((Int) × (Unit))) × ((List UInt8) × (Unit)))) × (List (((Int) × ((Int) × (Unit))) × (Unit))) × Unit)) :=
    fun s => (((), (), (), (), (s.2.2 : Int), ()), ((ca, na, aa, ()), (cb, nb, ab, ()), s.1.map fI, s.2.1, ()))
  have hdead : ∀ (p : Int × Int) (c : Nat), c < 256 → (fun _ : Int × Int => False) p → (fun _ : Int × Int => False) (dZ ca na cb nb p c) := fun _ _ _ h => h
  have main := state_rule (L := L17_4) S (fun s => s.2.2 ≤ s.1.length ∧ BI (dZ ca na cb nb) (eZ aa ab) (fun _ => False) s.1 s.2.2 0 ∧ Seen s.1 s.2.1) (fun s => 251001 - s.2.2)
    (fun r => (∃ t, r = .inl ((t, true, ()), ()) ∧ DiffSpec ca na aa cb nb ab t true) ∨ (r = .inr ((), ()) ∧ DiffSpec ca na aa cb nb ab [] false)) ([qd], [((0, (0, ())), ())], 0)
    ⟨by simp, BI.init, fun p => by
      constructor
      · intro h
        refine ⟨0, by simp, ?_⟩
        simp only [mget] at h
        split at h
        · rename_i hh
          have := (eqOk_KPair _ _).1 hh
          have h1 := congrArg Prod.fst this
          have h2 := congrArg (fun z => z.2.1) this
          exact (show p = ((0 : Int), (0 : Int)) from by obtain ⟨p1, p2⟩ := p; exact (by simp only at h1 h2; rw [h1, h2])).symm
        · cases h
      · rintro ⟨k, h1, h2⟩
        simp at h1
        subst h1
        have : p = (0, 0) := h2.symm
        subst this
        rfl⟩ (by omega) (by
    rintro ⟨Q, es, i⟩ ⟨hi, hB, hs⟩
    simp only at hi hB hs
    by_cases hi' : i = Q.length
    · left
      subst hi'
      refine ⟨_, .inr ⟨rfl, .inr ⟨rfl, rfl, fun w hw => ?_⟩⟩, fun n => ?_⟩
      · have := hB.none hdead (fun _ h => h.elim) w
        rw [runP_dZ] at this
        exact hw this
      · simp only [S, L17_4, List.length_map]
        rw [if_neg nlt_nat]
    · have hil : i < Q.length := by omega
      have hr := hB.ranges Va Vb i hil
      have hsm := hB.small Va Vb
      have e1 := p30_spec Va hr.2.1
      have e2 := p30_spec Vb hr.2.2.2
      have hg : (Q.map fI).getD i ((0, (0, ())), ([], ())) = fI (Q.getD i qd) := getD_map (f := fI) (d := qd)
      by_cases hE : accZ aa (Q.getD i qd).1.1 = accZ ab (Q.getD i qd).1.2
      · right
        obtain ⟨r, hlim, Q', es', rfl, hB', hi'', hs', he'⟩ := l17_10 Va Vb hB hil hs
        refine ⟨(Q', es', i + 1), ⟨by simp only; omega, hB'.next (by rw [he']; exact hE), hs'⟩, by simp only; omega, fun n => ?_⟩
        simp only [S, L17_4, List.length_map, Int.toNat_natCast, hg]
        rw [if_pos (lt_nat hil), if_pos (in_range hil), e1, Option.bind_some, e2, Option.bind_some, if_neg (cnf hE), hlim, Option.bind_some, wrap_nat (by omega)]
      · left
        refine ⟨_, .inl ⟨(Q.getD i qd).2, rfl, .inl ⟨rfl, ?_, fun w hw => ?_⟩⟩, fun n => ?_⟩
        · intro hh
          have := hB.run i hil
          rw [runP_dZ] at this
          have h1 : runZ ca na 0 (Q.getD i qd).2 = (Q.getD i qd).1.1 := congrArg Prod.fst this
          have h2 : runZ cb nb 0 (Q.getD i qd).2 = (Q.getD i qd).1.2 := congrArg Prod.snd this
          rw [h1, h2] at hh
          exact hE hh
        · exact hB.found hil hdead (fun _ h => h.elim) (by rw [runP_dZ]; exact hw)
        · simp only [S, L17_4, List.length_map, Int.toNat_natCast, hg]
          rw [if_pos (lt_nat hil), if_pos (in_range hil), e1, Option.bind_some, e2, Option.bind_some, if_pos (cnt hE)])
  obtain ⟨r, hlim, hr⟩ := main
  have hS : S ([qd], [((0, (0, ())), ())], 0) = (((), (), (), (), (0 : Int), ()), ((ca, na, aa, ()), (cb, nb, ab, ()), ([(((0 : Int), ((0 : Int), ())), (([] : List UInt8), ()))] : List (((Int) × ((Int) × (Unit))) × ((List UInt8) × (Unit)))), (mput (.pair (.int .i64) (.pair (.int .i64) .unit)) ((0 : Int), ((0 : Int), ())) () ([] : List (((Int) × ((Int) × (Unit))) × (Unit)))), ())) := rfl
  rw [hS] at hlim
  simp only [p17]
  rw [hlim, Option.bind_some]
  rcases hr with ⟨t, rfl, h⟩ | ⟨rfl, h⟩
  · exact ⟨t, true, rfl, h⟩
  · exact ⟨[], false, rfl, h⟩
end
end Go.AM
