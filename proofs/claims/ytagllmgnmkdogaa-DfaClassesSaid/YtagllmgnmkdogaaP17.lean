/- Minimize, sixth part: one state of each part that is reached. -/
import Derived.Test.YtagllmgnmkdogaaP16
namespace Go.AM
open Go

variable {c : List Int} {nx : List (List Int)} {ac : List Int}

/-- the state k of the queue is worked on at column i: its columns below j are done -/
structure RI (c : List Int) (nx : List (List Int)) (part out : List Int) (seen : List Bool) (i j : Nat) : Prop where
  first : out.getD 0 0 = 0
  pos : 0 < out.length
  rng : ∀ k, k < out.length → 0 ≤ out.getD k 0 ∧ out.getD k 0 < nx.length
  rch : ∀ k, k < out.length → ∃ w, runZ c nx 0 w = out.getD k 0
  sl : seen.length = nx.length
  see : ∀ p, p < nx.length → (seen.getD p false = true ↔ ∃ k, k < out.length ∧ part.getD (out.getD k 0).toNat 0 = (p : Int))
  dis : ∀ a b, a < b → b < out.length → part.getD (out.getD a 0).toNat 0 ≠ part.getD (out.getD b 0).toNat 0
  clo : ∀ k q, (k < i ∨ (k = i ∧ q < j)) → k < out.length → q < (nx.getD 0 []).length → 0 ≤ (nx.getD (out.getD k 0).toNat []).getD q 0 →
    ∃ k', k' < out.length ∧ part.getD (out.getD k' 0).toNat 0 = part.getD ((nx.getD (out.getD k 0).toNat []).getD q 0).toNat 0

section
variable (V : VDfa c nx ac) (F : Fon c (nx.getD 0 []).length) {part : List Int} (hp : part.length = nx.length) (hb : ∀ s, s < nx.length → 0 ≤ part.getD s 0 ∧ part.getD s 0 < nx.length)
include V hb

omit V in
theorem RI.small {out : List Int} {seen : List Bool} {i j : Nat} (R : RI c nx part out seen i j) : out.length ≤ nx.length := by
  have := nodup_bound nx.length (out.map fun s => (part.getD s.toNat 0).toNat) ?_ ?_
  · simpa using this
  · refine List.pairwise_iff_getElem.2 fun a b ha hb' hab he => ?_
    simp only [List.length_map] at ha hb'
    simp only [List.getElem_map] at he
    have e : ∀ k (hk : k < out.length), out[k] = out.getD k 0 := fun k hk => by rw [List.getD_eq_getElem?_getD, List.getElem?_eq_getElem hk]; rfl
    rw [e a ha, e b hb'] at he
    have r1 := R.rng a ha
    have r2 := R.rng b hb'
    have q1 := hb (out.getD a 0).toNat (by omega)
    have q2 := hb (out.getD b 0).toNat (by omega)
    exact R.dis a b hab hb' (by omega)
  · intro x hx
    obtain ⟨s, hs, rfl⟩ := List.mem_map.1 hx
    obtain ⟨k, hk, rfl⟩ := List.mem_iff_getElem.1 hs
    have e : out[k] = out.getD k 0 := by rw [List.getD_eq_getElem?_getD, List.getElem?_eq_getElem hk]; rfl
    rw [e]
    have r1 := R.rng k hk
    have q1 := hb (out.getD k 0).toNat (by omega)
    omega

include F hp in
theorem l37_8 {out : List Int} {seen : List Bool} {i : Nat} (R : RI c nx part out seen i 0) (hi : i < out.length) :
    ∃ r, limit L37_8 ((part, (), (), (), (i : Int), nx.getD (out.getD i 0).toNat [], ((nx.getD (out.getD i 0).toNat []).length : Int), (0 : Int), ()), ((c, nx, ac, ()), out, seen, ())) = some r ∧
      ∃ out' seen', r = ((part, (), (), (), (i : Int), ()), ((c, nx, ac, ()), out', seen', ())) ∧ RI c nx part out' seen' (i + 1) 0 ∧ i < out'.length := by
  have n5 := V.n500
  have hk := fon_le F
  have hri := R.rng i hi
  have hlen : (nx.getD (out.getD i 0).toNat []).length = (nx.getD 0 []).length := V.rl _ (by omega)
  let S : List Int × List Bool × Nat → (((List (Int)) × Unit × Unit × Unit × (Int) × (List (Int)) × (Int) × (Int) × Unit) × (((List (Int)) × (List (List (Int))) × (List (Int)) × Unit) × (List (Int)) × (List (Bool)) × Unit)) :=
    fun s => ((part, (), (), (), (i : Int), nx.getD (out.getD i 0).toNat [], ((nx.getD (out.getD i 0).toNat []).length : Int), (s.2.2 : Int), ()), ((c, nx, ac, ()), s.1, s.2.1, ()))
  refine state_rule (L := L37_8) S (fun s => s.2.2 ≤ (nx.getD 0 []).length ∧ RI c nx part s.1 s.2.1 i s.2.2 ∧ i < s.1.length ∧ s.1.getD i 0 = out.getD i 0) (fun s => (nx.getD 0 []).length - s.2.2) _ (out, seen, 0) ⟨by simp, R, hi, rfl⟩ (by simp only; omega) ?_
  rintro ⟨o, se, j⟩ ⟨hj, Q, hi', he⟩
  simp only at hj Q hi' he
  by_cases hj' : j = (nx.getD 0 []).length
  · left
    refine ⟨_, ⟨o, se, rfl, ⟨Q.first, Q.pos, Q.rng, Q.rch, Q.sl, Q.see, Q.dis, fun k q hkq hkl hq => Q.clo k q (by omega) hkl hq⟩, hi'⟩, fun n => ?_⟩
    simp only [S, L37_8]
    rw [if_neg (cf (by omega))]
  · right
    have hjl : j < (nx.getD 0 []).length := by omega
    have htr := V.tr (out.getD i 0).toNat (by omega) j hjl
    have hsm := Q.small hb
    generalize ht : (nx.getD (out.getD i 0).toNat []).getD j 0 = t at htr
    by_cases h0 : t ≥ 0
    · have hpt := hb t.toNat (by omega)
      have hs := Q.see (part.getD t.toNat 0).toNat (by omega)
      have ept : (((part.getD t.toNat 0).toNat : Nat) : Int) = part.getD t.toNat 0 := by omega
      rw [ept] at hs
      by_cases hseen : se.getD (part.getD t.toNat 0).toNat false = true
      · refine ⟨(o, se, j + 1), ⟨by simp only; omega, ⟨Q.first, Q.pos, Q.rng, Q.rch, Q.sl, Q.see, Q.dis, fun k q hkq hkl hq hpos => ?_⟩, hi', he⟩, by simp only; omega, fun n => ?_⟩
        · by_cases e : k < i ∨ (k = i ∧ q < j)
          · exact Q.clo k q e hkl hq hpos
          · have e1 : k = i := by omega
            have hkq' : q < j + 1 := by simp only at hkq; omega
            have e2 : q = j := by omega
            subst e1; subst e2
            simp only
            rw [he, ht]
            exact hs.1 hseen
        · simp only [S, L37_8, Int.toNat_natCast, ht]
          rw [if_pos (ct (by omega)), if_pos (in_range (by omega)), if_pos (ct h0), if_pos (ct (by omega)), if_pos (ct (by have := Q.sl; omega)), hseen, if_neg ntf, wrap_nat (by omega)]
      · have hseen' : se.getD (part.getD t.toNat 0).toNat false = false := by simpa using hseen
        have hsl := Q.sl
        have hno : ∀ k, k < o.length → part.getD (o.getD k 0).toNat 0 ≠ part.getD t.toNat 0 := fun k hk' e => hseen (hs.2 ⟨k, hk', e⟩)
        refine ⟨(o ++ [t], se.set (part.getD t.toNat 0).toNat true, j + 1), ⟨by simp only; omega, ⟨?_, by simp, fun k hk' => ?_, fun k hk' => ?_, by simp only [List.length_set]; exact Q.sl, fun p hpn => ?_, fun a b hab hbl => ?_, fun k q hkq hkl hq hpos => ?_⟩, by simp only [List.length_append]; omega, ?_⟩, by simp only; omega, fun n => ?_⟩
        · simp only; rw [getD_snoc_lt Q.pos]; exact Q.first
        · simp only [List.length_append, List.length_singleton] at hk' ⊢
          by_cases e : k < o.length
          · rw [getD_snoc_lt e]; exact Q.rng k e
          · have : k = o.length := by omega
            subst this
            rw [getD_snoc_eq]; exact ⟨h0, htr.2⟩
        · simp only [List.length_append, List.length_singleton] at hk' ⊢
          by_cases e : k < o.length
          · rw [getD_snoc_lt e]; exact Q.rch k e
          · have : k = o.length := by omega
            subst this
            rw [getD_snoc_eq]
            obtain ⟨w, hw⟩ := Q.rch i hi'
            obtain ⟨b, hbb, eb⟩ := fon_byte F hjl
            refine ⟨w ++ [UInt8.ofNat b], ?_⟩
            rw [runZ_append, hw, he]
            show stepZ c nx (out.getD i 0) (UInt8.ofNat b).toNat = t
            rw [byte_ofNat hbb]
            have := stepZ_col (nx := nx) (s := (out.getD i 0).toNat) eb
            have ee : (((out.getD i 0).toNat : Nat) : Int) = out.getD i 0 := by omega
            rw [ee, ht] at this
            exact this
        · simp only [List.length_append, List.length_singleton]
          rw [getD_set (by omega)]
          by_cases e : (part.getD t.toNat 0).toNat = p
          · rw [if_pos e]
            exact ⟨fun _ => ⟨o.length, by omega, by rw [getD_snoc_eq]; omega⟩, fun _ => rfl⟩
          · rw [if_neg e, Q.see p hpn]
            constructor
            · rintro ⟨k, h1, h2⟩; exact ⟨k, by omega, by rw [getD_snoc_lt h1]; exact h2⟩
            · rintro ⟨k, h1, h2⟩
              by_cases e' : k < o.length
              · rw [getD_snoc_lt e'] at h2; exact ⟨k, e', h2⟩
              · have : k = o.length := by omega
                subst this
                rw [getD_snoc_eq] at h2; omega
        · simp only [List.length_append, List.length_singleton] at hbl ⊢
          by_cases e : b < o.length
          · rw [getD_snoc_lt e, getD_snoc_lt (by omega)]; exact Q.dis a b hab e
          · have : b = o.length := by omega
            subst this
            rw [getD_snoc_eq, getD_snoc_lt hab]
            exact hno a hab
        · simp only [List.length_append, List.length_singleton] at hkl hkq hpos ⊢
          by_cases e0 : k < o.length
          · rw [getD_snoc_lt e0] at hpos ⊢
            by_cases e : k < i ∨ (k = i ∧ q < j)
            · obtain ⟨k', h1, h2⟩ := Q.clo k q e e0 hq hpos
              exact ⟨k', by omega, by rw [getD_snoc_lt h1]; exact h2⟩
            · have e1 : k = i := by omega
              have e2 : q = j := by omega
              subst e1; subst e2
              exact ⟨o.length, by omega, by rw [getD_snoc_eq, he, ht]⟩
          · omega
        · simp only; rw [getD_snoc_lt hi']; exact he
        · simp only [S, L37_8, Int.toNat_natCast, ht]
          rw [if_pos (ct (by omega)), if_pos (in_range (by omega)), if_pos (ct h0), if_pos (ct (by omega)), if_pos (ct (by omega)), hseen', if_pos nft, if_pos (ct (by omega)), if_pos (ct (by omega)), if_pos (ct (by simp only [List.length_singleton, lim]; omega)), wrap_nat (by omega)]
    · refine ⟨(o, se, j + 1), ⟨by simp only; omega, ⟨Q.first, Q.pos, Q.rng, Q.rch, Q.sl, Q.see, Q.dis, fun k q hkq hkl hq hpos => ?_⟩, hi', he⟩, by simp only; omega, fun n => ?_⟩
      · by_cases e : k < i ∨ (k = i ∧ q < j)
        · exact Q.clo k q e hkl hq hpos
        · have e1 : k = i := by omega
          have hkq' : q < j + 1 := by simp only at hkq; omega
          have e2 : q = j := by omega
          subst e1; subst e2
          simp only at hpos
          rw [he, ht] at hpos
          exact absurd hpos h0
      · simp only [S, L37_8, Int.toNat_natCast, ht]
        rw [if_pos (ct (by omega)), if_pos (in_range (by omega)), if_neg (cf h0), wrap_nat (by omega)]

include F hp in
theorem p37_spec (T : Trim c nx ac) (hpart : ∀ s t : Nat, s < nx.length → t < nx.length → (part.getD s 0 = part.getD t 0 ↔ LE c nx ac (s : Int) (t : Int))) :
    ∃ out, p37 ((c, (nx, (ac, ()))), part, ()) = some out ∧ out.length ≤ nx.length ∧ (∀ k, k < out.length → 0 ≤ out.getD k 0 ∧ out.getD k 0 < nx.length) ∧ (∀ k, k < out.length → ∃ w, runZ c nx 0 w = out.getD k 0) ∧
      ∀ w, 0 ≤ runZ c nx 0 w → ∃ k, k < out.length ∧ LE c nx ac (out.getD k 0) (runZ c nx 0 w) := by
  have n5 := V.n500
  have n1 := V.n1
  have hp0 := hb 0 (by omega)
  simp only [p37]
  rw [if_pos (ct ⟨trivial, by omega, by simp only [lim]; omega⟩), if_pos (ct (by omega)), if_pos (ct (by simp only [List.length_replicate, Int.toNat_natCast]; exact hp0))]
  let S : List Int × List Bool × Nat → (((List (Int)) × Unit × Unit × Unit × (Int) × Unit) × (((List (Int)) × (List (List (Int))) × (List (Int)) × Unit) × (List (Int)) × (List (Bool)) × Unit)) :=
    fun s => ((part, (), (), (), (s.2.2 : Int), ()), ((c, nx, ac, ()), s.1, s.2.1, ()))
  have rep : ∀ p, (List.replicate nx.length false).getD p false = false := fun p => by rw [List.getD_eq_getElem?_getD, List.getElem?_replicate]; split <;> rfl
  have main := state_rule (L := L37_5) S (fun s => s.2.2 ≤ s.1.length ∧ RI c nx part s.1 s.2.1 s.2.2 0) (fun s => nx.length - s.2.2)
    (fun r => ∃ out seen, r = (((), ()), (out, ())) ∧ RI c nx part out seen out.length 0) ([0], (List.replicate nx.length false).set (part.getD 0 0).toNat true, 0)
    ⟨by simp, ⟨rfl, by simp, fun k hk => by
      simp at hk; subst hk; exact ⟨Int.le_refl _, by show (0 : Int) < _; omega⟩, fun k hk => by simp at hk; subst hk; exact ⟨[], rfl⟩, by simp, fun p hpn => by
      simp only
      rw [getD_set (by simp only [List.length_replicate]; exact hpn), rep]
      constructor
      · intro h
        split at h
        · rename_i e
          exact ⟨0, by simp, by show part.getD (0 : Int).toNat 0 = _; show part.getD 0 0 = _; omega⟩
        · cases h
      · rintro ⟨k, h1, h2⟩
        simp at h1
        subst h1
        have h2' : part.getD 0 0 = (p : Int) := h2
        rw [if_pos (by omega)], fun a b hab hbl => by simp at hbl; omega, fun k q h => by simp only at h; omega⟩⟩ (by simp only; omega) (by
    rintro ⟨o, se, i⟩ ⟨hi, R⟩
    simp only at hi R
    by_cases hi' : i = o.length
    · subst hi'
      left
      refine ⟨_, ⟨o, se, rfl, R⟩, fun n => ?_⟩
      simp only [S, L37_5]
      rw [if_neg nlt_nat]
    · right
      have hil : i < o.length := by omega
      have hr := R.rng i hil
      have hsm := R.small hb
      obtain ⟨r, hlim, o', se', rfl, R', hi''⟩ := l37_8 V F hp hb R hil
      refine ⟨(o', se', i + 1), ⟨by simp only; omega, R'⟩, by simp only; omega, fun n => ?_⟩
      simp only [S, L37_5, Int.toNat_natCast]
      rw [if_pos (lt_nat hil), if_pos (in_range hil), if_pos (ct (by omega)), hlim, Option.bind_some, wrap_nat (by omega)])
  obtain ⟨r, hlim, out, seen, rfl, R⟩ := main
  simp only [S] at hlim
  have e0 : (0 : Int).toNat = 0 := rfl
  rw [show ((0 : Nat) : Int) = 0 from rfl] at hlim
  simp only [Int.toNat_natCast, e0]
  rw [hlim]
  refine ⟨out, rfl, R.small hb, R.rng, R.rch, fun w => ?_⟩
  refine snoc_ind (p := fun w => 0 ≤ runZ c nx 0 w → ∃ k, k < out.length ∧ LE c nx ac (out.getD k 0) (runZ c nx 0 w)) (fun _ => ⟨0, R.pos, by rw [R.first]; exact fun _ => rfl⟩) (fun u b ih h => ?_) w
  rw [runZ_append] at h ⊢
  have hst : 0 ≤ stepZ c nx (runZ c nx 0 u) b.toNat := h
  show ∃ k, k < out.length ∧ LE c nx ac (out.getD k 0) (stepZ c nx (runZ c nx 0 u) b.toNat)
  have hbl := UInt8.toNat_lt b
  have hru := V.run u (s := 0) (by omega) (by omega)
  have hpos : 0 ≤ runZ c nx 0 u := by
    apply Classical.byContradiction
    intro hneg
    unfold stepZ at hst
    rw [if_pos (by omega)] at hst
    omega
  obtain ⟨k, hk, hle⟩ := ih hpos
  have hr := R.rng k hk
  have hs2 := hle.step hbl
  have hneg := LE.neg V T hr.2 hru.2 hbl hs2
  have hcb := V.cr b.toNat hbl
  have ek : stepZ c nx (out.getD k 0) b.toNat = (nx.getD (out.getD k 0).toNat []).getD (c.getD b.toNat 0).toNat 0 := by unfold stepZ; rw [if_neg (by omega)]
  have v1 := V.step hr.2 hbl
  have v2 := V.step hru.2 hbl
  have hposk : 0 ≤ stepZ c nx (out.getD k 0) b.toNat := by
    apply Classical.byContradiction
    intro hh
    have := hneg.1 (by omega)
    omega
  obtain ⟨k', h1, h2⟩ := R.clo k (c.getD b.toNat 0).toNat (.inl hk) hk (by omega) (by rw [← ek]; exact hposk)
  rw [← ek] at h2
  have hr' := R.rng k' h1
  refine ⟨k', h1, fun x => ?_⟩
  have e1 : (((out.getD k' 0).toNat : Nat) : Int) = out.getD k' 0 := by omega
  have e2 : (((stepZ c nx (out.getD k 0) b.toNat).toNat : Nat) : Int) = stepZ c nx (out.getD k 0) b.toNat := by omega
  have h3 := (hpart (out.getD k' 0).toNat (stepZ c nx (out.getD k 0) b.toNat).toNat (by omega) (by omega)).1 h2
  rw [e1, e2] at h3
  rw [h3 x, hs2 x]
end
end Go.AM
