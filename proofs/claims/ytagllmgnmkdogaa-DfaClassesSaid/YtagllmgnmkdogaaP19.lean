/- Minimize, eighth part: the automaton of the parts. -/
import Derived.Test.YtagllmgnmkdogaaP18
namespace Go.AM
open Go

variable {c : List Int} {nx : List (List Int)} {ac : List Int}

/-- the first state of the part -/
def cst (part : List Int) (t : Int) : Int := if t < 0 then -1 else ((part.idxOf (part.getD t.toNat 0) : Nat) : Int)
def dC (c : List Int) (nx : List (List Int)) (part : List Int) (p : Int × Int) (b : Nat) : Int × Int := (cst part (stepZ c nx p.1 b), 0)

/-- all that is known of the automaton and its parts -/
structure Parts (c : List Int) (nx : List (List Int)) (ac part : List Int) : Prop where
  V : VDfa c nx ac
  F : Fon c (nx.getD 0 []).length
  T : Trim c nx ac
  pl : part.length = nx.length
  pb : ∀ s, s < nx.length → 0 ≤ part.getD s 0 ∧ part.getD s 0 < nx.length
  p0 : part.getD 0 0 = 0
  pe : ∀ s t : Nat, s < nx.length → t < nx.length → (part.getD s 0 = part.getD t 0 ↔ LE c nx ac (s : Int) (t : Int))

variable {part : List Int} (P : Parts c nx ac part)
include P

theorem idx_spec {s : Nat} (hs : s < nx.length) : part.idxOf (part.getD s 0) < nx.length ∧ part.getD (part.idxOf (part.getD s 0)) 0 = part.getD s 0 := by
  have hm : part.getD s 0 ∈ part := getD_mem (by rw [P.pl]; exact hs)
  have hlt := List.idxOf_lt_length_of_mem hm
  refine ⟨by rw [← P.pl]; exact hlt, ?_⟩
  rw [List.getD_eq_getElem?_getD, List.getElem?_eq_getElem hlt]
  simp

theorem cst_range {t : Int} (h1 : t < nx.length) : -1 ≤ cst part t ∧ cst part t < nx.length ∧ (cst part t < 0 ↔ t < 0) := by
  have n1 := P.V.n1
  unfold cst
  split
  · rename_i h; exact ⟨by omega, by omega, ⟨fun _ => h, fun _ => by omega⟩⟩
  · rename_i h
    have := (idx_spec P (s := t.toNat) (by omega)).1
    exact ⟨by omega, by omega, ⟨fun hh => by omega, fun hh => absurd hh h⟩⟩

theorem cst_eq {s t : Int} (hs0 : -1 ≤ s) (hs : s < nx.length) (ht0 : -1 ≤ t) (ht : t < nx.length) : cst part s = cst part t ↔ (s = -1 ∧ t = -1) ∨ (0 ≤ s ∧ 0 ≤ t ∧ part.getD s.toNat 0 = part.getD t.toNat 0) := by
  have r1 := cst_range P hs
  have r2 := cst_range P ht
  constructor
  · intro h
    by_cases hneg : s < 0
    · left
      have := r1.2.2.2 hneg
      rw [h] at this
      have := r2.2.2.1 this
      omega
    · right
      have hneg' : ¬ t < 0 := fun hh => by
        have := r2.2.2.2 hh
        rw [← h] at this
        exact hneg (r1.2.2.1 this)
      refine ⟨by omega, by omega, ?_⟩
      unfold cst at h
      rw [if_neg hneg, if_neg hneg'] at h
      have e1 := (idx_spec P (s := s.toNat) (by omega)).2
      have e2 := (idx_spec P (s := t.toNat) (by omega)).2
      have : part.idxOf (part.getD s.toNat 0) = part.idxOf (part.getD t.toNat 0) := by omega
      rw [← e1, this, e2]
  · rintro (⟨rfl, rfl⟩ | ⟨h1, h2, h3⟩)
    · rfl
    · unfold cst
      rw [if_neg (by omega), if_neg (by omega), h3]

theorem LE_part {s t : Int} (hs0 : 0 ≤ s) (hs : s < nx.length) (ht0 : 0 ≤ t) (ht : t < nx.length) : part.getD s.toNat 0 = part.getD t.toNat 0 ↔ LE c nx ac s t := by
  have := P.pe s.toNat t.toNat (by omega) (by omega)
  have e1 : ((s.toNat : Nat) : Int) = s := by omega
  have e2 : ((t.toNat : Nat) : Int) = t := by omega
  rw [e1, e2] at this
  exact this

/-- states of one part step to states of one part -/
theorem cst_step {s t : Int} (hs0 : -1 ≤ s) (hs : s < nx.length) (ht0 : -1 ≤ t) (ht : t < nx.length) (h : cst part s = cst part t) {b : Nat} (hb : b < 256) : cst part (stepZ c nx s b) = cst part (stepZ c nx t b) := by
  rcases (cst_eq P hs0 hs ht0 ht).1 h with ⟨rfl, rfl⟩ | ⟨h1, h2, h3⟩
  · rfl
  · have hle := (LE_part P h1 hs h2 ht).1 h3
    have hst := hle.step hb
    have hneg := LE.neg P.V P.T hs ht hb hst
    have v1 := P.V.step hs hb
    have v2 := P.V.step ht hb
    rw [cst_eq P v1.1 v1.2 v2.1 v2.2]
    by_cases h4 : stepZ c nx s b < 0
    · have := hneg.1 h4
      left; omega
    · have h5 : ¬ stepZ c nx t b < 0 := fun hh => h4 (hneg.2 hh)
      right
      exact ⟨by omega, by omega, (LE_part P (by omega) v1.2 (by omega) v2.2).2 hst⟩

theorem cst_cst {t : Int} (h0 : -1 ≤ t) (h1 : t < nx.length) : cst part (cst part t) = cst part t := by
  have r := cst_range P h1
  rw [cst_eq P r.1 r.2.1 h0 h1]
  by_cases h : t < 0
  · left; have := r.2.2.2 h; omega
  · right
    have hc : ¬ cst part t < 0 := fun hh => h (r.2.2.1 hh)
    refine ⟨by omega, by omega, ?_⟩
    have e : (cst part t).toNat = part.idxOf (part.getD t.toNat 0) := by unfold cst; rw [if_neg h]; omega
    rw [e]
    exact (idx_spec P (s := t.toNat) (by omega)).2

theorem cst_zero : cst part 0 = 0 := by
  have n1 := P.V.n1
  have pl := P.pl
  unfold cst
  rw [if_neg (by omega)]
  have : part.idxOf (part.getD (0 : Int).toNat 0) = 0 := by
    show part.idxOf (part.getD 0 0) = 0
    cases hpp : part with
    | nil => rw [hpp] at pl; simp at pl; omega
    | cons a l => simp
  rw [this]; rfl

theorem runP_dC (w : List UInt8) : runP (dC c nx part) (0, 0) w = (cst part (runZ c nx 0 w), 0) := by
  have n1 := P.V.n1
  refine snoc_ind (p := fun w => runP (dC c nx part) (0, 0) w = (cst part (runZ c nx 0 w), 0)) ?_ (fun u b ih => ?_) w
  · show ((0 : Int), (0 : Int)) = (cst part 0, 0)
    rw [cst_zero P]
  · rw [runP_snoc, ih, runZ_append]
    show (cst part (stepZ c nx (cst part (runZ c nx 0 u)) b.toNat), (0 : Int)) = (cst part (stepZ c nx (runZ c nx 0 u) b.toNat), 0)
    have hr := P.V.run u (s := 0) (by omega) (by omega)
    have r := cst_range P hr.2
    rw [cst_step P r.1 r.2.1 hr.1 hr.2 (cst_cst P hr.1 hr.2) (UInt8.toNat_lt b)]

abbrev TrueP : Int × Int → Prop := fun _ => True
abbrev NegP : Int × Int → Prop := fun p => p.1 < 0

omit P in
theorem NegP_step (p : Int × Int) (b : Nat) (_ : b < 256) (h : NegP p) : NegP (dC c nx part p b) := by
  show cst part (stepZ c nx p.1 b) < 0
  have e : stepZ c nx p.1 b = -1 := by unfold stepZ; rw [if_pos h]
  rw [e]; unfold cst; rw [if_pos (by omega)]; omega

theorem BI.cst {E : Int × Int → Prop} {Q : List QE} {i j : Nat} (h : BI (dC c nx part) E NegP Q i j) {k : Nat} (hk : k < Q.length) : (Q.getD k qd).1 = (cst part (runZ c nx 0 (Q.getD k qd).2), 0) := by
  rw [← h.run k hk, runP_dC P]

theorem BI.rep {E : Int × Int → Prop} {Q : List QE} {i j : Nat} (h : BI (dC c nx part) E NegP Q i j) {k : Nat} (hk : k < Q.length) : -1 ≤ (Q.getD k qd).1.1 ∧ (Q.getD k qd).1.1 < nx.length ∧ (Q.getD k qd).1.2 = 0 := by
  have n1 := P.V.n1
  rw [h.cst P hk]
  have hr := P.V.run (Q.getD k qd).2 (s := 0) (by omega) (by omega)
  have r := cst_range P hr.2
  exact ⟨r.1, r.2.1, rfl⟩
end Go.AM
