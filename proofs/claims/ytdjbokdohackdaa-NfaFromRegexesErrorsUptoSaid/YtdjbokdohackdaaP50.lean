/- Regular expressions as trees: validity by depth, counts, the position automaton's parts. -/
import Derived.Test.YtdjbokdohackdaaP0
namespace Go.AM
open Go

abbrev rxd : Rx := Rx.mk 0 [0, 0, 0, 0] []
/-- as it is read back -/
def nrm (r : Rx) : Rx := Rx.mk r.kind [r.set.getD 0 0, r.set.getD 1 0, r.set.getD 2 0, r.set.getD 3 0] r.kids

theorem nrm_eq {r : Rx} (h : r.set.length = 4) : nrm r = r := by
  obtain ⟨k, s, ks⟩ := r
  match s, h with
  | [a, b, c, d], _ => rfl

def zset (s : List Int) : Bool := Kind.eqB (.arr 4 (.int .u64)) [s.getD 0 0, s.getD 1 0, s.getD 2 0, s.getD 3 0] [(0 : Int), (0 : Int), (0 : Int), (0 : Int)]

/-- four words in each node -/
def Four : Nat → Rx → Prop
  | 0, _ => True
  | d + 1, r => r.set.length = 4 ∧ ∀ k ∈ r.kids, Four d k

/-- the node itself is in order -/
def nodeOk (r : Rx) : Bool :=
  ((r.kind == 3) != zset r.set) &&
  (((r.kind == 1 || r.kind == 2 || r.kind == 3) && decide (r.kids.length = 0)) || ((r.kind == 4 || r.kind == 5) && decide (2 ≤ r.kids.length)) || (r.kind == 6 && decide (r.kids.length = 1)))

/-- valid within d levels -/
def VR : Nat → Rx → Prop
  | 0, _ => False
  | d + 1, r => nodeOk r = true ∧ ∀ k ∈ r.kids, VR d k

-- counts
mutual
def nn : Rx → Nat
  | .mk _ _ ks => 1 + nnL ks
def nnL : List Rx → Nat
  | [] => 0
  | r :: rs => nn r + nnL rs
end
mutual
/-- the sets of the leaves, from left to right -/
def lv : Rx → List (List Int)
  | .mk k s ks => if k = 3 then [s] else if k = 4 then lvL ks else if k = 5 then lvL ks else if k = 6 then lvL ks else []
def lvL : List Rx → List (List Int)
  | [] => []
  | r :: rs => lv r ++ lvL rs
end

theorem nnL_append : ∀ l m : List Rx, nnL (l ++ m) = nnL l + nnL m
  | [], m => by simp [nnL]
  | r :: l, m => by simp only [List.cons_append, nnL, nnL_append l m]; omega
theorem lvL_append : ∀ l m : List Rx, lvL (l ++ m) = lvL l ++ lvL m
  | [], m => by simp [lvL]
  | r :: l, m => by simp only [List.cons_append, lvL, lvL_append l m, List.append_assoc]

mutual
theorem lv_le : ∀ r : Rx, (lv r).length ≤ nn r
  | .mk k s ks => by
    have := lvL_le ks
    unfold lv nn
    split
    · simp only [List.length_singleton]; omega
    · split
      · omega
      · split
        · omega
        · split
          · omega
          · exact Nat.zero_le _
theorem lvL_le : ∀ l : List Rx, (lvL l).length ≤ nnL l
  | [] => by simp [lvL]
  | r :: l => by
    have h1 := lv_le r
    have h2 := lvL_le l
    unfold lvL nnL
    rw [List.length_append]; omega
end

/-- what an expression is in the automaton: nullable, first and last positions -/
structure Pt where
  n : Bool
  f : List Int
  l : List Int

def prs (a b : List Int) : List (Int × Int) := a.flatMap fun p => b.map fun q => (p, q)

/-- the state of a concatenation's loop -/
def catP (x y : Pt) : Pt := ⟨x.n && y.n, if x.n then x.f ++ y.f else x.f, if y.n then x.l ++ y.l else y.l⟩
def uniP (x y : Pt) : Pt := ⟨x.n || y.n, x.f ++ y.f, x.l ++ y.l⟩

-- the part of an expression behind o leaves, and the pairs that it links
mutual
def gl : Rx → Nat → Pt
  | .mk k _ ks, o => if k = 2 then ⟨true, [], []⟩ else if k = 3 then ⟨false, [((o + 1 : Nat) : Int)], [((o + 1 : Nat) : Int)]⟩ else if k = 4 then glC ks o ⟨true, [], []⟩ else if k = 5 then glU ks o ⟨false, [], []⟩
      else if k = 6 then ⟨true, (glU ks o ⟨false, [], []⟩).f, (glU ks o ⟨false, [], []⟩).l⟩ else ⟨false, [], []⟩
def glC : List Rx → Nat → Pt → Pt
  | [], _, x => x
  | r :: rs, o, x => glC rs (o + (lv r).length) (catP x (gl r o))
def glU : List Rx → Nat → Pt → Pt
  | [], _, x => x
  | r :: rs, o, x => glU rs (o + (lv r).length) (uniP x (gl r o))
end
mutual
def fl : Rx → Nat → List (Int × Int)
  | .mk k _ ks, o => if k = 4 then flC ks o ⟨true, [], []⟩ else if k = 5 then flU ks o else if k = 6 then flU ks o ++ prs (glU ks o ⟨false, [], []⟩).l (glU ks o ⟨false, [], []⟩).f else []
def flC : List Rx → Nat → Pt → List (Int × Int)
  | [], _, _ => []
  | r :: rs, o, x => fl r o ++ prs x.l (gl r o).f ++ flC rs (o + (lv r).length) (catP x (gl r o))
def flU : List Rx → Nat → List (Int × Int)
  | [], _ => []
  | r :: rs, o => fl r o ++ flU rs (o + (lv r).length)
end

theorem glC_append : ∀ (l m : List Rx) (o : Nat) (x : Pt), glC (l ++ m) o x = glC m (o + (lvL l).length) (glC l o x)
  | [], m, o, x => by simp [glC, lvL]
  | r :: l, m, o, x => by simp only [List.cons_append, glC, lvL, glC_append l m, List.length_append, Nat.add_assoc]
theorem glU_append : ∀ (l m : List Rx) (o : Nat) (x : Pt), glU (l ++ m) o x = glU m (o + (lvL l).length) (glU l o x)
  | [], m, o, x => by simp [glU, lvL]
  | r :: l, m, o, x => by simp only [List.cons_append, glU, lvL, glU_append l m, List.length_append, Nat.add_assoc]
theorem flC_append : ∀ (l m : List Rx) (o : Nat) (x : Pt), flC (l ++ m) o x = flC l o x ++ flC m (o + (lvL l).length) (glC l o x)
  | [], m, o, x => by simp [flC, glC, lvL]
  | r :: l, m, o, x => by simp only [List.cons_append, flC, glC, lvL, flC_append l m, List.length_append, Nat.add_assoc, List.append_assoc]
theorem flU_append : ∀ (l m : List Rx) (o : Nat), flU (l ++ m) o = flU l o ++ flU m (o + (lvL l).length)
  | [], m, o => by simp [flU, lvL]
  | r :: l, m, o => by simp only [List.cons_append, flU, lvL, flU_append l m, List.length_append, Nat.add_assoc, List.append_assoc]

/-- positions between o and o + m, not more than m -/
def Pin (o m : Nat) (x : Pt) : Prop := (∀ q ∈ x.f, (o : Int) < q ∧ q ≤ ((o + m : Nat) : Int)) ∧ (∀ q ∈ x.l, (o : Int) < q ∧ q ≤ ((o + m : Nat) : Int)) ∧ x.f.length ≤ m ∧ x.l.length ≤ m

theorem Pin.cat {o m k : Nat} {x y : Pt} (hx : Pin o m x) (hy : Pin (o + m) k y) : Pin o (m + k) (catP x y) := by
  obtain ⟨a1, a2, a3, a4⟩ := hx
  obtain ⟨b1, b2, b3, b4⟩ := hy
  unfold catP
  refine ⟨fun q hq => ?_, fun q hq => ?_, ?_, ?_⟩
  · simp only at hq
    split at hq
    · rcases List.mem_append.1 hq with h | h
      · have := a1 q h; omega
      · have := b1 q h; omega
    · have := a1 q hq; omega
  · simp only at hq
    split at hq
    · rcases List.mem_append.1 hq with h | h
      · have := a2 q h; omega
      · have := b2 q h; omega
    · have := b2 q hq; omega
  · simp only
    split
    · rw [List.length_append]; omega
    · omega
  · simp only
    split
    · rw [List.length_append]; omega
    · omega
theorem Pin.uni {o m k : Nat} {x y : Pt} (hx : Pin o m x) (hy : Pin (o + m) k y) : Pin o (m + k) (uniP x y) := by
  obtain ⟨a1, a2, a3, a4⟩ := hx
  obtain ⟨b1, b2, b3, b4⟩ := hy
  unfold uniP
  refine ⟨fun q hq => ?_, fun q hq => ?_, ?_, ?_⟩
  · rcases List.mem_append.1 hq with h | h
    · have := a1 q h; omega
    · have := b1 q h; omega
  · rcases List.mem_append.1 hq with h | h
    · have := a2 q h; omega
    · have := b2 q h; omega
  · simp only [List.length_append]; omega
  · simp only [List.length_append]; omega

theorem Pin.nil (o m : Nat) (b : Bool) : Pin o m ⟨b, [], []⟩ := ⟨fun _ h => (by cases h), fun _ h => (by cases h), Nat.zero_le _, Nat.zero_le _⟩

mutual
theorem gl_pin : ∀ (r : Rx) (o : Nat), Pin o (lv r).length (gl r o)
  | .mk k s ks, o => by
    unfold gl lv
    by_cases h2 : k = 2
    · rw [if_pos h2]; exact .nil _ _ _
    · rw [if_neg h2]
      by_cases h3 : k = 3
      · rw [if_pos h3, if_pos h3]
        refine ⟨fun q hq => ?_, fun q hq => ?_, by simp, by simp⟩
        · simp only [List.mem_singleton] at hq; subst hq; simp only [List.length_singleton]; omega
        · simp only [List.mem_singleton] at hq; subst hq; simp only [List.length_singleton]; omega
      · rw [if_neg h3, if_neg h3]
        by_cases h4 : k = 4
        · rw [if_pos h4, if_pos h4]
          have := glC_pin ks o 0 ⟨true, [], []⟩ (.nil _ _ _)
          simpa using this
        · rw [if_neg h4, if_neg h4]
          by_cases h5 : k = 5
          · rw [if_pos h5, if_pos h5]
            have := glU_pin ks o 0 ⟨false, [], []⟩ (.nil _ _ _)
            simpa using this
          · rw [if_neg h5, if_neg h5]
            by_cases h6 : k = 6
            · rw [if_pos h6, if_pos h6]
              have := glU_pin ks o 0 ⟨false, [], []⟩ (.nil _ _ _)
              simpa [Pin] using this
            · rw [if_neg h6, if_neg h6]; exact .nil _ _ _
theorem glC_pin : ∀ (l : List Rx) (o m : Nat) (x : Pt), Pin o m x → Pin o (m + (lvL l).length) (glC l (o + m) x)
  | [], o, m, x, h => by simpa [glC, lvL] using h
  | r :: l, o, m, x, h => by
    unfold glC lvL
    have := glC_pin l o (m + (lv r).length) _ (h.cat (gl_pin r (o + m)))
    rw [List.length_append, ← Nat.add_assoc, Nat.add_assoc o m]
    exact this
theorem glU_pin : ∀ (l : List Rx) (o m : Nat) (x : Pt), Pin o m x → Pin o (m + (lvL l).length) (glU l (o + m) x)
  | [], o, m, x, h => by simpa [glU, lvL] using h
  | r :: l, o, m, x, h => by
    unfold glU lvL
    have := glU_pin l o (m + (lv r).length) _ (h.uni (gl_pin r (o + m)))
    rw [List.length_append, ← Nat.add_assoc, Nat.add_assoc o m]
    exact this
end

/-- pairs of positions between o and o + m -/
def FIn (o m : Nat) (ps : List (Int × Int)) : Prop := ∀ x ∈ ps, ((o : Int) < x.1 ∧ x.1 ≤ ((o + m : Nat) : Int)) ∧ ((o : Int) < x.2 ∧ x.2 ≤ ((o + m : Nat) : Int))

theorem mem_prs {a b : List Int} {x : Int × Int} : x ∈ prs a b ↔ x.1 ∈ a ∧ x.2 ∈ b := by
  unfold prs
  simp only [List.mem_flatMap, List.mem_map]
  constructor
  · rintro ⟨p, hp, q, hq, rfl⟩; exact ⟨hp, hq⟩
  · rintro ⟨h1, h2⟩; exact ⟨x.1, h1, x.2, h2, rfl⟩

theorem FIn.mono {o m o' m' : Nat} {ps : List (Int × Int)} (h : FIn o m ps) (h1 : o' ≤ o) (h2 : o + m ≤ o' + m') : FIn o' m' ps := fun x hx => by
  have := h x hx
  constructor <;> constructor <;> omega

mutual
theorem fl_in : ∀ (r : Rx) (o : Nat), FIn o (lv r).length (fl r o)
  | .mk k s ks, o => by
    unfold fl lv
    by_cases h3 : k = 3
    · subst h3
      rw [if_neg (show ¬ (3 : Int) = 4 by decide), if_neg (show ¬ (3 : Int) = 5 by decide), if_neg (show ¬ (3 : Int) = 6 by decide)]
      exact fun x hx => by cases hx
    · rw [if_neg h3]
      by_cases h4 : k = 4
      · rw [if_pos h4, if_pos h4]
        have := flC_in ks o 0 ⟨true, [], []⟩ (.nil _ _ _)
        simpa using this
      · rw [if_neg h4, if_neg h4]
        by_cases h5 : k = 5
        · rw [if_pos h5, if_pos h5]; exact flU_in ks o
        · rw [if_neg h5, if_neg h5]
          by_cases h6 : k = 6
          · rw [if_pos h6, if_pos h6]
            have hp := glU_pin ks o 0 ⟨false, [], []⟩ (.nil _ _ _)
            simp only [Nat.add_zero, Nat.zero_add] at hp
            intro x hx
            rcases List.mem_append.1 hx with h | h
            · exact flU_in ks o x h
            · obtain ⟨g1, g2⟩ := mem_prs.1 h
              exact ⟨hp.2.1 _ g1, hp.1 _ g2⟩
          · rw [if_neg h6, if_neg h6]; exact fun x hx => by cases hx
theorem flC_in : ∀ (l : List Rx) (o m : Nat) (x : Pt), Pin o m x → FIn o (m + (lvL l).length) (flC l (o + m) x)
  | [], o, m, x, h => fun x hx => by unfold flC at hx; cases hx
  | r :: l, o, m, x, h => by
    unfold flC lvL
    have hg := gl_pin r (o + m)
    have ih := flC_in l o (m + (lv r).length) _ (h.cat hg)
    rw [List.length_append]
    intro z hz
    rcases List.mem_append.1 hz with hz | hz
    · rcases List.mem_append.1 hz with hz | hz
      · exact (fl_in r (o + m)).mono (by omega) (by omega) z hz
      · obtain ⟨g1, g2⟩ := mem_prs.1 hz
        have a1 := h.2.1 _ g1
        have a2 := hg.1 _ g2
        constructor <;> constructor <;> omega
    · rw [Nat.add_assoc o m] at hz
      exact FIn.mono ih (Nat.le_refl _) (by omega) z hz
theorem flU_in : ∀ (l : List Rx) (o : Nat), FIn o (lvL l).length (flU l o)
  | [], o => fun x hx => by unfold flU at hx; cases hx
  | r :: l, o => by
    unfold flU lvL
    rw [List.length_append]
    intro z hz
    rcases List.mem_append.1 hz with hz | hz
    · exact (fl_in r o).mono (by omega) (by omega) z hz
    · exact (flU_in l (o + (lv r).length)).mono (by omega) (by omega) z hz
end

/-- the maps behind the states, with the pairs -/
def putP (B : List (List (Int × Bool))) (x : Int × Int) : List (List (Int × Bool)) := B.set x.1.toNat (mput (.int .i64) x.2 true (B.getD x.1.toNat []))
def appP (ps : List (Int × Int)) (B : List (List (Int × Bool))) : List (List (Int × Bool)) := ps.foldl putP B

theorem appP_append (a b : List (Int × Int)) (B : List (List (Int × Bool))) : appP (a ++ b) B = appP b (appP a B) := List.foldl_append
theorem putP_length (B : List (List (Int × Bool))) (x : Int × Int) : (putP B x).length = B.length := List.length_set
theorem appP_length : ∀ (ps : List (Int × Int)) (B : List (List (Int × Bool))), (appP ps B).length = B.length
  | [], _ => rfl
  | x :: ps, B => by show (appP ps (putP B x)).length = _; rw [appP_length ps, putP_length]

theorem appP_behind : ∀ (ps : List (Int × Int)) (B C : List (List (Int × Bool))), (∀ x ∈ ps, x.1.toNat < B.length) → appP ps (B ++ C) = appP ps B ++ C
  | [], _, _, _ => rfl
  | x :: ps, B, C, h => by
    show appP ps (putP (B ++ C) x) = appP ps (putP B x) ++ C
    have h1 := h x (by simp)
    have e : putP (B ++ C) x = putP B x ++ C := by
      unfold putP
      rw [List.set_append_left _ _ h1, List.getD_eq_getElem?_getD, List.getElem?_append_left h1, List.getD_eq_getElem?_getD]
    rw [e]
    exact appP_behind ps _ C fun y hy => by rw [putP_length]; exact h y (by simp [hy])
end Go.AM
