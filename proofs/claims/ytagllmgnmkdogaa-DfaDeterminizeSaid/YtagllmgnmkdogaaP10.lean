/- Minimal automata in canonical form: the language fixes all of them. -/
import Derived.Test.YtagllmgnmkdogaaP5
import Derived.Test.YtagllmgnmkdogaaP3
namespace Go.AM
open Go

/-- classes are numbered in the order of their first bytes -/
def Fon (c : List Int) (k : Nat) : Prop :=
  ∃ cnt : Nat → Nat, cnt 0 = 0 ∧ cnt 256 = k ∧ ∀ b, b < 256 → (0 ≤ c.getD b 0 ∧ c.getD b 0 < cnt b ∧ cnt (b + 1) = cnt b) ∨ (c.getD b 0 = cnt b ∧ cnt (b + 1) = cnt b + 1)

theorem fon_before {c : List Int} {cnt : Nat → Nat} (h0 : cnt 0 = 0) (h : ∀ b, b < 256 → (0 ≤ c.getD b 0 ∧ c.getD b 0 < cnt b ∧ cnt (b + 1) = cnt b) ∨ (c.getD b 0 = cnt b ∧ cnt (b + 1) = cnt b + 1)) :
    ∀ b, b ≤ 256 → (∀ v, v < cnt b → ∃ b0, b0 < b ∧ c.getD b0 0 = (v : Int)) ∧ ∀ b0, b0 < b → 0 ≤ c.getD b0 0 ∧ c.getD b0 0 < cnt b := by
  intro b
  induction b with
  | zero => intro _; exact ⟨fun v hv => by omega, fun b0 h => by omega⟩
  | succ b ih =>
    intro hb
    obtain ⟨i1, i2⟩ := ih (by omega)
    rcases h b (by omega) with ⟨g1, g2, g3⟩ | ⟨g1, g2⟩
    · rw [g3]
      refine ⟨fun v hv => ?_, fun b0 hb0 => ?_⟩
      · obtain ⟨b0, h1, h2⟩ := i1 v hv
        exact ⟨b0, by omega, h2⟩
      · by_cases e : b0 = b
        · subst e; exact ⟨g1, g2⟩
        · exact i2 b0 (by omega)
    · rw [g2]
      refine ⟨fun v hv => ?_, fun b0 hb0 => ?_⟩
      · by_cases e : v = cnt b
        · subst e; exact ⟨b, by omega, g1⟩
        · obtain ⟨b0, h1, h2⟩ := i1 v (by omega)
          exact ⟨b0, by omega, h2⟩
      · by_cases e : b0 = b
        · subst e; rw [g1]; omega
        · have := i2 b0 (by omega); omega

theorem fon_unique {c c' : List Int} {k k' : Nat} (h : Fon c k) (h' : Fon c' k') (hcc : ∀ a b, a < 256 → b < 256 → (c.getD a 0 = c.getD b 0 ↔ c'.getD a 0 = c'.getD b 0)) :
    k = k' ∧ ∀ b, b < 256 → c.getD b 0 = c'.getD b 0 := by
  obtain ⟨cnt, h0, h1, h2⟩ := h
  obtain ⟨cnt', h0', h1', h2'⟩ := h'
  have key : ∀ b, b ≤ 256 → cnt b = cnt' b ∧ ∀ b0, b0 < b → c.getD b0 0 = c'.getD b0 0 := by
    intro b
    induction b with
    | zero => intro _; exact ⟨by omega, fun b0 h => by omega⟩
    | succ b ih =>
      intro hb
      obtain ⟨i1, i2⟩ := ih (by omega)
      obtain ⟨k1, k2⟩ := fon_before h0 h2 b (by omega)
      obtain ⟨k1', k2'⟩ := fon_before h0' h2' b (by omega)
      rcases h2 b (by omega) with ⟨g1, g2, g3⟩ | ⟨g1, g2⟩
      · obtain ⟨b0, q1, q2⟩ := k1 (c.getD b 0).toNat (by omega)
        have e : c.getD b0 0 = c.getD b 0 := by omega
        have e' := (hcc b0 b (by omega) (by omega)).1 e
        have ee := i2 b0 q1
        have hlt := k2' b0 q1
        rcases h2' b (by omega) with ⟨g1', g2', g3'⟩ | ⟨g1', g2'⟩
        · refine ⟨by omega, fun x hx => ?_⟩
          by_cases hxb : x = b
          · subst hxb; rw [← e, ← e', ee]
          · exact i2 x (by omega)
        · omega
      · rcases h2' b (by omega) with ⟨g1', g2', g3'⟩ | ⟨g1', g2'⟩
        · obtain ⟨b0, q1, q2⟩ := k1' (c'.getD b 0).toNat (by omega)
          have e : c'.getD b0 0 = c'.getD b 0 := by omega
          have e' := (hcc b0 b (by omega) (by omega)).2 e
          have hlt := k2 b0 q1
          omega
        · refine ⟨by omega, fun x hx => ?_⟩
          by_cases hxb : x = b
          · subst hxb; omega
          · exact i2 x (by omega)
  obtain ⟨k1, k2⟩ := key 256 (by omega)
  exact ⟨by omega, k2⟩

theorem ext_getD {α : Type} {l m : List α} (d : α) (hl : l.length = m.length) (h : ∀ i, i < l.length → l.getD i d = m.getD i d) : l = m := by
  apply List.ext_getElem? fun i => ?_
  by_cases hi : i < l.length
  · have := h i hi
    rw [List.getD_eq_getElem?_getD, List.getD_eq_getElem?_getD, List.getElem?_eq_getElem hi, List.getElem?_eq_getElem (by omega)] at this
    rw [List.getElem?_eq_getElem hi, List.getElem?_eq_getElem (by omega)]
    exact congrArg some this
  · rw [List.getElem?_eq_none (by omega), List.getElem?_eq_none (by omega)]

/-- strictly sorted lists with the same members -/
theorem sorted_unique {W W' : List (List UInt8)} (h : ∀ i j, i < j → j < W.length → sl (W.getD i []) (W.getD j [])) (h' : ∀ i j, i < j → j < W'.length → sl (W'.getD i []) (W'.getD j []))
    (hm : ∀ w, (∃ i, i < W.length ∧ W.getD i [] = w) ↔ ∃ i, i < W'.length ∧ W'.getD i [] = w) : W = W' := by
  have one : ∀ {W W' : List (List UInt8)}, (∀ i j, i < j → j < W.length → sl (W.getD i []) (W.getD j [])) → (∀ i j, i < j → j < W'.length → sl (W'.getD i []) (W'.getD j [])) →
      (∀ w, (∃ i, i < W.length ∧ W.getD i [] = w) ↔ ∃ i, i < W'.length ∧ W'.getD i [] = w) → ∀ n, n ≤ W.length → n ≤ W'.length → ∀ i, i < n → W.getD i [] = W'.getD i [] := by
    intro W W' h h' hm n
    induction n with
    | zero => intro _ _ i hi; omega
    | succ n ih =>
      intro hn hn' i hi
      have ih' := ih (by omega) (by omega)
      by_cases e : i = n
      · subst e
        obtain ⟨j, hj, ej⟩ := (hm (W.getD i [])).1 ⟨i, by omega, rfl⟩
        obtain ⟨k, hk, ek⟩ := (hm (W'.getD i [])).2 ⟨i, by omega, rfl⟩
        have hji : ¬ j < i := by
          intro hlt
          have := ih' j hlt
          rw [ej] at this
          have hs := h j i hlt (by omega)
          rw [this] at hs
          exact sl_irrefl hs
        have hki : ¬ k < i := by
          intro hlt
          have := ih' k hlt
          rw [ek] at this
          have hs := h' k i hlt (by omega)
          rw [← this] at hs
          exact sl_irrefl hs
        have h1 : sle (W'.getD i []) (W.getD i []) := by
          by_cases e1 : j = i
          · subst e1; exact .inl ej
          · rw [← ej]; exact .inr (h' i j (by omega) hj)
        have h2 : sle (W.getD i []) (W'.getD i []) := by
          by_cases e1 : k = i
          · subst e1; exact .inl ek
          · rw [← ek]; exact .inr (h i k (by omega) hk)
        exact sle_antisymm h2 h1
      · exact ih' i (by omega)
  have hlen : W.length = W'.length := by
    rcases Nat.lt_trichotomy W.length W'.length with hlt | he | hlt
    · have hh := one h h' hm W.length (Nat.le_refl _) (by omega)
      obtain ⟨i, hi, ei⟩ := (hm (W'.getD W.length [])).2 ⟨W.length, hlt, rfl⟩
      have := hh i hi
      rw [ei] at this
      have hs := h' i W.length hi hlt
      rw [← this] at hs
      exact absurd hs sl_irrefl
    · exact he
    · have hh := one h h' hm W'.length (by omega) (Nat.le_refl _)
      obtain ⟨i, hi, ei⟩ := (hm (W.getD W'.length [])).1 ⟨W'.length, hlt, rfl⟩
      have := hh i hi
      rw [ei] at this
      have hs := h i W'.length hi hlt
      rw [this] at hs
      exact absurd hs sl_irrefl
  exact ext_getD [] hlen (one h h' hm W.length (Nat.le_refl _) (by omega))

theorem runZ_neg (c : List Int) (nx : List (List Int)) : ∀ (w : List UInt8) {s : Int}, s < 0 → -1 ≤ s → runZ c nx s w = -1
  | [], s, h, h1 => by show s = -1; omega
  | b :: l, s, h, h1 => by
    show runZ c nx (stepZ c nx s b.toNat) l = -1
    have e : stepZ c nx s b.toNat = -1 := by unfold stepZ; rw [if_pos h]
    rw [e]
    exact runZ_neg c nx l (by omega) (by omega)

structure Cano (c : List Int) (nx : List (List Int)) (ac : List Int) (f : List UInt8 → Int) : Prop where
  V : VDfa c nx ac
  lang : ∀ w, accZ ac (runZ c nx 0 w) = f w
  reps : ∃ W : List (List UInt8), W.length = nx.length ∧ (∀ i, i < nx.length → runZ c nx 0 (W.getD i []) = i) ∧ (∀ i j, i < j → j < nx.length → sl (W.getD i []) (W.getD j [])) ∧
    ∀ w i, i < nx.length → runZ c nx 0 w = (i : Int) → sle (W.getD i []) w
  dist : ∀ i j : Nat, i < nx.length → j < nx.length → (∀ x, accZ ac (runZ c nx i x) = accZ ac (runZ c nx j x)) → i = j
  live : ∀ i : Nat, i < nx.length → ∀ b, b < 256 → 0 ≤ stepZ c nx i b → ∃ x, accZ ac (runZ c nx (stepZ c nx i b) x) ≠ -1
  cls : ∀ a b, a < 256 → b < 256 → (∀ i : Nat, i < nx.length → stepZ c nx i a = stepZ c nx i b) → c.getD a 0 = c.getD b 0
  fon : Fon c (nx.getD 0 []).length

variable {c : List Int} {nx : List (List Int)} {ac : List Int} {f : List UInt8 → Int}

def Sim (f : List UInt8 → Int) (w v : List UInt8) : Prop := ∀ x, f (w ++ x) = f (v ++ x)
def Fine (f : List UInt8 → Int) (w : List UInt8) : Prop := w = [] ∨ ¬ ∀ x, f (w ++ x) = -1

theorem Cano.fine (C : Cano c nx ac f) (w : List UInt8) : 0 ≤ runZ c nx 0 w ↔ Fine f w := by
  have n1 := C.V.n1
  constructor
  · intro h
    refine snoc_ind (p := fun w => 0 ≤ runZ c nx 0 w → Fine f w) (fun _ => .inl rfl) (fun u b _ h => ?_) w h
    right
    intro hd
    rw [runZ_append] at h
    have hr := C.V.run u (s := 0) (by omega) (by omega)
    have h2 : 0 ≤ stepZ c nx (runZ c nx 0 u) b.toNat := h
    by_cases hneg : runZ c nx 0 u < 0
    · unfold stepZ at h2; rw [if_pos hneg] at h2; omega
    · have e : ((runZ c nx 0 u).toNat : Int) = runZ c nx 0 u := by omega
      obtain ⟨x, hx⟩ := C.live (runZ c nx 0 u).toNat (by omega) b.toNat (UInt8.toNat_lt b) (by rw [e]; exact h2)
      rw [e] at hx
      apply hx
      have := hd x
      rw [← C.lang, runZ_append, runZ_append] at this
      exact this
  · intro h
    rcases h with rfl | h
    · show (0 : Int) ≤ 0; omega
    · have hr := C.V.run w (s := 0) (by omega) (by omega)
      rcases Int.lt_or_le (runZ c nx 0 w) 0 with hneg | hpos
      · exact absurd (fun x => by
          rw [← C.lang, runZ_append, runZ_neg c nx x hneg hr.1]
          rfl) h
      · exact hpos

theorem Cano.sim (C : Cano c nx ac f) {w v : List UInt8} (hw : Fine f w) (hv : Fine f v) : runZ c nx 0 w = runZ c nx 0 v ↔ Sim f w v := by
  have n1 := C.V.n1
  have h1 := (C.fine w).2 hw
  have h2 := (C.fine v).2 hv
  have r1 := C.V.run w (s := 0) (by omega) (by omega)
  have r2 := C.V.run v (s := 0) (by omega) (by omega)
  constructor
  · intro h x
    rw [← C.lang, ← C.lang, runZ_append, runZ_append, h]
  · intro h
    have e1 : ((runZ c nx 0 w).toNat : Int) = runZ c nx 0 w := by omega
    have e2 : ((runZ c nx 0 v).toNat : Int) = runZ c nx 0 v := by omega
    have := C.dist (runZ c nx 0 w).toNat (runZ c nx 0 v).toNat (by omega) (by omega) (fun x => by
      rw [e1, e2]
      have := h x
      rw [← C.lang, ← C.lang, runZ_append, runZ_append] at this
      exact this)
    omega

theorem byte_ofNat {b : Nat} (hb : b < 256) : (UInt8.ofNat b).toNat = b := by rw [UInt8.toNat_ofNat', Nat.mod_eq_of_lt (by omega)]

theorem Cano.unique {c' : List Int} {nx' : List (List Int)} {ac' : List Int} (C : Cano c nx ac f) (C' : Cano c' nx' ac' f) : c = c' ∧ nx = nx' ∧ ac = ac' := by
  obtain ⟨W, w1, w2, w3, w4⟩ := C.reps
  obtain ⟨W', w1', w2', w3', w4'⟩ := C'.reps
  have mem : ∀ {c : List Int} {nx : List (List Int)} {ac : List Int} {W : List (List UInt8)}, Cano c nx ac f → W.length = nx.length → (∀ i, i < nx.length → runZ c nx 0 (W.getD i []) = i) →
      (∀ w i, i < nx.length → runZ c nx 0 w = (i : Int) → sle (W.getD i []) w) → ∀ w, (∃ i, i < W.length ∧ W.getD i [] = w) ↔ Fine f w ∧ ∀ v, Fine f v → Sim f w v → sle w v := by
    intro c nx ac W C w1 w2 w4 w
    constructor
    · rintro ⟨i, hi, rfl⟩
      have hr := w2 i (by omega)
      have hf : Fine f (W.getD i []) := (C.fine _).1 (by omega)
      exact ⟨hf, fun v hv hs => w4 v i (by omega) (by rw [← (C.sim hf hv).2 hs, hr])⟩
    · rintro ⟨hf, hmin⟩
      have n1 := C.V.n1
      have hpos := (C.fine w).2 hf
      have hr := C.V.run w (s := 0) (by omega) (by omega)
      have hr2 := w2 (runZ c nx 0 w).toNat (by omega)
      have hf2 : Fine f (W.getD (runZ c nx 0 w).toNat []) := (C.fine _).1 (by omega)
      refine ⟨(runZ c nx 0 w).toNat, by omega, sle_antisymm (w4 w _ (by omega) (by omega)) (hmin _ hf2 ((C.sim hf hf2).1 (by omega)))⟩
  have hWW : W = W' := sorted_unique (fun i j h1 h2 => w3 i j h1 (by omega)) (fun i j h1 h2 => w3' i j h1 (by omega)) (fun w => by
    rw [mem C w1 w2 w4 w, mem C' w1' w2' w4' w])
  subst hWW
  have hn : nx.length = nx'.length := by omega
  have n1 := C.V.n1
  have hrun : ∀ w, runZ c nx 0 w = runZ c' nx' 0 w := by
    intro w
    have r1 := C.V.run w (s := 0) (by omega) (by omega)
    have r2 := C'.V.run w (s := 0) (by omega) (by omega)
    by_cases hf : Fine f w
    · have hpos := (C.fine w).2 hf
      have e := w2 (runZ c nx 0 w).toNat (by omega)
      have e' := w2' (runZ c nx 0 w).toNat (by omega)
      have hf2 : Fine f (W.getD (runZ c nx 0 w).toNat []) := (C.fine _).1 (by omega)
      have hs := (C.sim hf hf2).1 (by omega)
      have := (C'.sim hf hf2).2 hs
      omega
    · have h1 : ¬ 0 ≤ runZ c nx 0 w := fun h => hf ((C.fine w).1 h)
      have h2 : ¬ 0 ≤ runZ c' nx' 0 w := fun h => hf ((C'.fine w).1 h)
      omega
  have hstep : ∀ i : Nat, i < nx.length → ∀ b, b < 256 → stepZ c nx i b = stepZ c' nx' i b := by
    intro i hi b hb
    have e := hrun (W.getD i [] ++ [UInt8.ofNat b])
    rw [runZ_append, runZ_append, w2 i hi, w2' i (by omega)] at e
    have : stepZ c nx i (UInt8.ofNat b).toNat = stepZ c' nx' i (UInt8.ofNat b).toNat := e
    rwa [byte_ofNat hb] at this
  have hac : ac = ac' := by
    refine ext_getD 0 (by rw [C.V.al, C'.V.al, hn]) fun i hi => ?_
    rw [C.V.al] at hi
    have e1 := C.lang (W.getD i [])
    have e2 := C'.lang (W.getD i [])
    rw [w2 i hi] at e1
    rw [w2' i (by omega)] at e2
    unfold accZ at e1 e2
    rw [if_neg (by omega), Int.toNat_natCast] at e1 e2
    rw [e1, e2]
  have hcc : ∀ a b, a < 256 → b < 256 → (c.getD a 0 = c.getD b 0 ↔ c'.getD a 0 = c'.getD b 0) := by
    intro a b ha hb
    have same : ∀ {c : List Int} {nx : List (List Int)} {i : Int}, c.getD a 0 = c.getD b 0 → stepZ c nx i a = stepZ c nx i b := by
      intro c nx i h
      unfold stepZ
      rw [h]
    constructor
    · intro h
      exact C'.cls a b ha hb fun i hi => by rw [← hstep i (by omega) a ha, ← hstep i (by omega) b hb]; exact same h
    · intro h
      exact C.cls a b ha hb fun i hi => by rw [hstep i hi a ha, hstep i hi b hb]; exact same h
  obtain ⟨hk, hc⟩ := fon_unique C.fon C'.fon hcc
  have hcl : c = c' := ext_getD 0 (by rw [C.V.c256, C'.V.c256]) fun i hi => hc i (by rw [C.V.c256] at hi; exact hi)
  refine ⟨hcl, ?_, hac⟩
  subst hcl
  refine ext_getD [] hn fun i hi => ?_
  have l1 := C.V.rl i hi
  have l2 := C'.V.rl i (by omega)
  refine ext_getD 0 (by omega) fun j hj => ?_
  obtain ⟨cnt, h0, h1, h2⟩ := C.fon
  obtain ⟨b, hb, eb⟩ := (fon_before h0 h2 256 (by omega)).1 j (by omega)
  have e := hstep i hi b hb
  unfold stepZ at e
  rw [if_neg (by omega), if_neg (by omega), eb, Int.toNat_natCast, Int.toNat_natCast] at e
  exact e
end Go.AM
