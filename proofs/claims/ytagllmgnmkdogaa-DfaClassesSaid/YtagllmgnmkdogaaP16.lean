/- Minimize, fifth part: the partition is the equality of languages. -/
import Derived.Test.YtagllmgnmkdogaaP15
namespace Go.AM
open Go

variable {c : List Int} {nx : List (List Int)} {ac : List Int}

def LE (c : List Int) (nx : List (List Int)) (ac : List Int) (s t : Int) : Prop := ∀ x, accZ ac (runZ c nx s x) = accZ ac (runZ c nx t x)

theorem map_getD {α β : Type} {f : α → β} {l : List α} {d : α} {d' : β} {j : Nat} (h : j < l.length) : (l.map f).getD j d' = f (l.getD j d) := by
  rw [List.getD_eq_getElem?_getD, List.getElem?_map, List.getD_eq_getElem?_getD, List.getElem?_eq_getElem h]
  simp only [Option.map_some, Option.getD_some]

theorem wrap_wf (z : Int) : wfInt .i64 (IntKind.i64.wrap z) := by
  show -9223372036854775808 ≤ IntKind.i64.wrap z ∧ IntKind.i64.wrap z ≤ 9223372036854775807
  rw [IntKind.wrap_i64]; omega

theorem fon_le {k : Nat} (F : Fon c k) : k ≤ 256 := by
  obtain ⟨cnt, f0, f1, f2⟩ := F
  have : ∀ b, b ≤ 256 → cnt b ≤ b := by
    intro b
    induction b with
    | zero => intro _; omega
    | succ b ih => intro hb; have := ih (by omega); rcases f2 b (by omega) with h | h <;> omega
  have := this 256 (by omega)
  omega

/-- a column has a byte -/
theorem fon_byte {k : Nat} (F : Fon c k) {j : Nat} (hj : j < k) : ∃ b, b < 256 ∧ c.getD b 0 = (j : Int) := by
  obtain ⟨cnt, f0, f1, f2⟩ := F
  obtain ⟨b, h1, h2⟩ := (fon_before f0 f2 256 (by omega)).1 j (by omega)
  exact ⟨b, h1, h2⟩

theorem stepZ_col {s : Nat} {b j : Nat} (e : c.getD b 0 = (j : Int)) : stepZ c nx (s : Int) b = (nx.getD s []).getD j 0 := by
  unfold stepZ
  rw [if_neg (by omega), e, Int.toNat_natCast, Int.toNat_natCast]

theorem LE.step {s t : Int} (h : LE c nx ac s t) {b : Nat} (hb : b < 256) : LE c nx ac (stepZ c nx s b) (stepZ c nx t b) := by
  intro x
  have := h (UInt8.ofNat b :: x)
  have e : ∀ s : Int, runZ c nx s (UInt8.ofNat b :: x) = runZ c nx (stepZ c nx s b) x := fun s => by
    show runZ c nx (stepZ c nx s (UInt8.ofNat b).toNat) x = _
    rw [byte_ofNat hb]
  rw [e, e] at this
  exact this

theorem LE.neg (V : VDfa c nx ac) (T : Trim c nx ac) {s t : Int} {b : Nat} (hs : s < nx.length) (ht : t < nx.length) (hb : b < 256) (h : LE c nx ac (stepZ c nx s b) (stepZ c nx t b)) :
    stepZ c nx s b < 0 ↔ stepZ c nx t b < 0 := by
  have one : ∀ {s t : Int}, s < nx.length → t < nx.length → LE c nx ac (stepZ c nx s b) (stepZ c nx t b) → stepZ c nx s b < 0 → stepZ c nx t b < 0 := by
    intro s t hs ht h hneg
    apply Classical.byContradiction
    intro hpos
    obtain ⟨x, hx⟩ := T t ht b hb (by omega)
    rw [← h x, runZ_neg c nx x hneg (V.step hs hb).1] at hx
    exact hx rfl
  exact ⟨one hs ht h, one ht hs fun x => (h x).symm⟩

theorem acc_wrap {a b : Int} (ha : -1 ≤ a) (ha' : a ≤ 9223372036854775807) (hb : -1 ≤ b) (hb' : b ≤ 9223372036854775807) (h : IntKind.i64.wrap (a + 1) = IntKind.i64.wrap (b + 1)) : a = b := by
  rw [IntKind.wrap_i64, IntKind.wrap_i64] at h
  omega

section
variable (V : VDfa c nx ac) (F : Fon c (nx.getD 0 []).length) (T : Trim c nx ac) (hac : ∀ s, s < nx.length → ac.getD s 0 ≤ 9223372036854775807) {part : List Int} (hp : part.length = nx.length)
  (hb : ∀ s, s < nx.length → 0 ≤ part.getD s 0 ∧ part.getD s 0 < nx.length)
include V hb

theorem lst_wf {s : Nat} (hs : s < nx.length) : ∀ v ∈ lst nx ac part s, wfInt .i64 v := by
  have n5 := V.n500
  intro v hv
  simp only [lst, List.mem_append, List.mem_cons, List.not_mem_nil, or_false, List.mem_map] at hv
  rcases hv with (rfl | rfl) | ⟨t, _, rfl⟩
  · have := hb s hs
    show -9223372036854775808 ≤ _ ∧ _ ≤ 9223372036854775807
    omega
  · exact wrap_wf _
  · unfold pt
    split
    · show (-9223372036854775808 : Int) ≤ 0 ∧ (0 : Int) ≤ 9223372036854775807; omega
    · exact wrap_wf _

theorem key_eq {s t : Nat} (hs : s < nx.length) (ht : t < nx.length) : keyS nx ac part s = keyS nx ac part t ↔ lst nx ac part s = lst nx ac part t :=
  ⟨fun h => wideS_inj (lst_wf V hb hs) (lst_wf V hb ht) h, fun h => by unfold keyS; rw [h]⟩

include hac in
/-- what equal keys say -/
theorem key_says {s t : Nat} (hs : s < nx.length) (ht : t < nx.length) (h : keyS nx ac part s = keyS nx ac part t) :
    part.getD s 0 = part.getD t 0 ∧ ac.getD s 0 = ac.getD t 0 ∧ ∀ j, j < (nx.getD 0 []).length → pt part ((nx.getD s []).getD j 0) = pt part ((nx.getD t []).getD j 0) := by
  have h := (key_eq V hb hs ht).1 h
  simp only [lst, List.cons_append, List.nil_append, List.cons.injEq] at h
  obtain ⟨h1, h2, h3⟩ := h
  refine ⟨h1, acc_wrap (V.ar s hs) (hac s hs) (V.ar t ht) (hac t ht) h2, fun j hj => ?_⟩
  have e := congrArg (fun l => l.getD j 0) h3
  have l1 := V.rl s hs
  have l2 := V.rl t ht
  rw [map_getD (d := 0) (by omega), map_getD (d := 0) (by omega)] at e
  exact e

include F T in
theorem sound_step (hsound : ∀ s t, s < nx.length → t < nx.length → LE c nx ac (s : Int) (t : Int) → part.getD s 0 = part.getD t 0) {s t : Nat} (hs : s < nx.length) (ht : t < nx.length) (h : LE c nx ac (s : Int) (t : Int)) :
    keyS nx ac part s = keyS nx ac part t := by
  rw [key_eq V hb hs ht]
  have ha : ac.getD s 0 = ac.getD t 0 := by
    have := h []
    have e : ∀ s : Nat, accZ ac (runZ c nx (s : Int) []) = ac.getD s 0 := fun s => by
      show accZ ac (s : Int) = _
      unfold accZ; rw [if_neg (by omega), Int.toNat_natCast]
    rw [e, e] at this
    exact this
  have l1 := V.rl s hs
  have l2 := V.rl t ht
  unfold lst
  rw [hsound s t hs ht h, ha]
  congr 1
  refine ext_getD 0 (by simp only [List.length_map]; omega) fun j hj => ?_
  rw [List.length_map] at hj
  obtain ⟨b, hbb, e⟩ := fon_byte F (j := j) (by omega)
  have hst := h.step hbb
  have hneg := LE.neg V T (s := (s : Int)) (t := (t : Int)) (by omega) (by omega) hbb hst
  have v1 := V.step (s := (s : Int)) (by omega) hbb
  have v2 := V.step (s := (t : Int)) (by omega) hbb
  rw [stepZ_col e, stepZ_col e] at hst hneg
  rw [stepZ_col e] at v1 v2
  have key : pt part ((nx.getD s []).getD j 0) = pt part ((nx.getD t []).getD j 0) := by
    unfold pt
    by_cases h1 : (nx.getD s []).getD j 0 < 0
    · rw [if_pos h1, if_pos (hneg.1 h1)]
    · have h2 : ¬ (nx.getD t []).getD j 0 < 0 := fun hh => h1 (hneg.2 hh)
      rw [if_neg h1, if_neg h2]
      have e1 : ((((nx.getD s []).getD j 0).toNat : Nat) : Int) = (nx.getD s []).getD j 0 := by omega
      have e2 : ((((nx.getD t []).getD j 0).toNat : Nat) : Int) = (nx.getD t []).getD j 0 := by omega
      have := hsound ((nx.getD s []).getD j 0).toNat ((nx.getD t []).getD j 0).toNat (by omega) (by omega) (by rw [e1, e2]; exact hst)
      rw [this]
  rw [map_getD (d := 0) (by omega), map_getD (d := 0) (by omega)]
  exact key

include hac in
/-- a partition that does not get finer is the equality of languages -/
theorem stable_complete (hst : ∀ s t, s < nx.length → t < nx.length → part.getD s 0 = part.getD t 0 → keyS nx ac part s = keyS nx ac part t) :
    ∀ (x : List UInt8) (s t : Int), -1 ≤ s → s < nx.length → -1 ≤ t → t < nx.length → (s < 0 ↔ t < 0) → (0 ≤ s → part.getD s.toNat 0 = part.getD t.toNat 0) → accZ ac (runZ c nx s x) = accZ ac (runZ c nx t x) := by
  have n5 := V.n500
  intro x
  induction x with
  | nil =>
    intro s t h1 h2 h3 h4 h5 h6
    show accZ ac s = accZ ac t
    unfold accZ
    by_cases h : s < 0
    · rw [if_pos h, if_pos (h5.1 h)]
    · have h' : ¬ t < 0 := fun hh => h (h5.2 hh)
      rw [if_neg h, if_neg h']
      exact (key_says V hac hb (by omega) (by omega) (hst s.toNat t.toNat (by omega) (by omega) (h6 (by omega)))).2.1
  | cons b x ih =>
    intro s t h1 h2 h3 h4 h5 h6
    show accZ ac (runZ c nx (stepZ c nx s b.toNat) x) = accZ ac (runZ c nx (stepZ c nx t b.toNat) x)
    have v1 := V.step h2 (UInt8.toNat_lt b)
    have v2 := V.step h4 (UInt8.toNat_lt b)
    by_cases h : s < 0
    · have e1 : stepZ c nx s b.toNat = -1 := by unfold stepZ; rw [if_pos h]
      have e2 : stepZ c nx t b.toNat = -1 := by unfold stepZ; rw [if_pos (h5.1 h)]
      rw [e1, e2]
    · have h' : ¬ t < 0 := fun hh => h (h5.2 hh)
      have hc := V.cr b.toNat (UInt8.toNat_lt b)
      have hk := (key_says V hac hb (s := s.toNat) (t := t.toNat) (by omega) (by omega) (hst s.toNat t.toNat (by omega) (by omega) (h6 (by omega)))).2.2 (c.getD b.toNat 0).toNat (by omega)
      have e1 : stepZ c nx s b.toNat = (nx.getD s.toNat []).getD (c.getD b.toNat 0).toNat 0 := by unfold stepZ; rw [if_neg h]
      have e2 : stepZ c nx t b.toNat = (nx.getD t.toNat []).getD (c.getD b.toNat 0).toNat 0 := by unfold stepZ; rw [if_neg h']
      rw [e1] at v1 ⊢
      rw [e2] at v2 ⊢
      generalize (nx.getD s.toNat []).getD (c.getD b.toNat 0).toNat 0 = u at v1 hk ⊢
      generalize (nx.getD t.toNat []).getD (c.getD b.toNat 0).toNat 0 = v at v2 hk ⊢
      have pos : ∀ u : Int, ¬ u < 0 → u < nx.length → pt part u = part.getD u.toNat 0 + 1 ∧ 1 ≤ part.getD u.toNat 0 + 1 := by
        intro u h0 h1
        have := hb u.toNat (by omega)
        unfold pt
        rw [if_neg h0, wrap_i64 (by omega) (by omega)]
        omega
      have negp : ∀ u : Int, u < 0 → pt part u = 0 := fun u h0 => by unfold pt; rw [if_pos h0]
      refine ih u v v1.1 v1.2 v2.1 v2.2 ⟨fun hu => ?_, fun hv => ?_⟩ (fun hu => ?_)
      · apply Classical.byContradiction
        intro hv
        have h7 := pos v hv v2.2
        rw [negp u hu] at hk
        omega
      · apply Classical.byContradiction
        intro hu
        have h7 := pos u hu v1.2
        rw [negp v hv] at hk
        omega
      · have h7 := pos u (by omega) v1.2
        by_cases hv : v < 0
        · rw [negp v hv] at hk; omega
        · have h8 := pos v hv v2.2
          omega
end

theorem p35_spec (V : VDfa c nx ac) (F : Fon c (nx.getD 0 []).length) (T : Trim c nx ac) (hac : ∀ s, s < nx.length → ac.getD s 0 ≤ 9223372036854775807) :
    ∃ part, p35 ((c, (nx, (ac, ()))), ()) = some part ∧ part.length = nx.length ∧ (∀ s, s < nx.length → 0 ≤ part.getD s 0 ∧ part.getD s 0 < nx.length) ∧ part.getD 0 0 = 0 ∧
      ∀ s t : Nat, s < nx.length → t < nx.length → (part.getD s 0 = part.getD t 0 ↔ LE c nx ac (s : Int) (t : Int)) := by
  have n5 := V.n500
  have n1 := V.n1
  have hk := fon_le F
  simp only [p35]
  rw [if_pos (ct ⟨trivial, by omega, by simp only [lim]; omega⟩)]
  let S : Nat × List Int → ((Unit × Unit × (Int) × Unit) × (((List (Int)) × (List (List (Int))) × (List (Int)) × Unit) × (List (Int)) × Unit)) := fun s => (((), (), (s.1 : Int), ()), ((c, nx, ac, ()), s.2, ()))
  have main := state_rule (L := L35_3) S (fun s => s.2.length = nx.length ∧ (∀ t, t < nx.length → 0 ≤ s.2.getD t 0 ∧ s.2.getD t 0 < nx.length) ∧
      (∀ a b : Nat, a < nx.length → b < nx.length → LE c nx ac (a : Int) (b : Int) → s.2.getD a 0 = s.2.getD b 0) ∧
      s.1 ≤ nx.length ∧ (s.1 = 0 ∨ ((∀ t, t < nx.length → s.2.getD t 0 < s.1) ∧ ∀ v, v < s.1 → ∃ t, t < nx.length ∧ s.2.getD t 0 = (v : Int)))) (fun s => nx.length - s.1)
    (fun r => ∃ part, r = (((), ()), (part, ())) ∧ part.length = nx.length ∧ (∀ s, s < nx.length → 0 ≤ part.getD s 0 ∧ part.getD s 0 < nx.length) ∧ part.getD 0 0 = 0 ∧
      ∀ s t : Nat, s < nx.length → t < nx.length → (part.getD s 0 = part.getD t 0 ↔ LE c nx ac (s : Int) (t : Int))) (0, List.replicate (nx.length : Int).toNat (0 : Int))
    ⟨by simp, fun t ht => by
      have : (List.replicate (nx.length : Int).toNat (0 : Int)).getD t 0 = 0 := by rw [Int.toNat_natCast, List.getD_eq_getElem?_getD, List.getElem?_replicate]; split <;> rfl
      simp only; rw [this]; omega, fun a b _ _ _ => by
      have : ∀ t, (List.replicate (nx.length : Int).toNat (0 : Int)).getD t 0 = 0 := fun t => by rw [List.getD_eq_getElem?_getD, List.getElem?_replicate]; split <;> rfl
      simp only; rw [this, this], by simp, .inl rfl⟩ (by simp only; omega) (by
    rintro ⟨count, part⟩ ⟨hp, hb, hsound, hcn, hcnt⟩
    simp only at hp hb hsound hcn hcnt
    have hrun := l35_6 V hk (count : Int) part hp
    -- the new partition
    generalize hnew : (List.range nx.length).map (numv .str (keyS nx ac part)) = new at hrun
    generalize hes : esF .str (keyS nx ac part) nx.length = es at hrun
    have hlen : new.length = nx.length := by rw [← hnew]; simp
    have hget : ∀ s, s < nx.length → new.getD s 0 = numv .str (keyS nx ac part) s := fun s hs => by rw [← hnew, map_range_getD hs]
    have hbnd : ∀ s, s < nx.length → 0 ≤ new.getD s 0 ∧ new.getD s 0 < es.length := fun s hs => by rw [hget s hs, ← hes]; exact numv_bounds eqOk_str nx.length s hs
    have hesl : es.length ≤ nx.length := by rw [← hes]; exact esF_len eqOk_str nx.length
    have heq : ∀ s t, s < nx.length → t < nx.length → (new.getD s 0 = new.getD t 0 ↔ keyS nx ac part s = keyS nx ac part t) := fun s t hs ht => by rw [hget s hs, hget t ht]; exact numv_inj eqOk_str nx.length s t hs ht
    have honto : ∀ v, v < es.length → ∃ t, t < nx.length ∧ new.getD t 0 = (v : Int) := fun v hv => by
      rw [← hes] at hv
      obtain ⟨b, h1, h2⟩ := numv_onto eqOk_str nx.length v hv
      exact ⟨b, h1, by rw [hget b h1]; exact h2⟩
    have hsound' : ∀ a b : Nat, a < nx.length → b < nx.length → LE c nx ac (a : Int) (b : Int) → new.getD a 0 = new.getD b 0 := fun a b ha hbb h => (heq a b ha hbb).2 (sound_step V F T hb hsound ha hbb h)
    have hrefine : ∀ s t, s < nx.length → t < nx.length → new.getD s 0 = new.getD t 0 → part.getD s 0 = part.getD t 0 := fun s t hs ht h => (key_says V hac hb hs ht ((heq s t hs ht).1 h)).1
    have h0 : new.getD 0 0 = 0 := by
      rw [hget 0 (by omega)]
      rcases numv_fon (K := .str) eqOk_str (key := keyS nx ac part) 0 with h | h
      · simp only [esF, List.length_nil] at h; omega
      · rw [h.1]; rfl
    have hes1 : 1 ≤ es.length := by have := hbnd 0 (by omega); omega
    -- one number of the new partition for each of the old
    have hreps : (count = 0) ∨ ∃ l : List Nat, l.length = count ∧ l.Nodup ∧ (∀ x ∈ l, x < es.length) ∧ ∀ v, v < count → ∃ t, t < nx.length ∧ part.getD t 0 = (v : Int) ∧ new.getD t 0 = ((l.getD v 0 : Nat) : Int) := by
      rcases hcnt with h | ⟨_, hon⟩
      · exact .inl h
      · right
        obtain ⟨ts, tl, ht⟩ := choose_list (p := fun v t => t < nx.length ∧ part.getD t 0 = (v : Int)) count hon
        refine ⟨ts.map fun t => (new.getD t 0).toNat, by simp [tl], ?_, ?_, ?_⟩
        · refine List.pairwise_iff_getElem.2 fun j k hj hk' hjk he => ?_
          simp only [List.length_map] at hj hk'
          simp only [List.getElem_map] at he
          obtain ⟨a1, a2⟩ := ht j _ (List.getElem?_eq_getElem hj)
          obtain ⟨b1, b2⟩ := ht k _ (List.getElem?_eq_getElem hk')
          have q1 := hbnd _ a1
          have q2 := hbnd _ b1
          have := hrefine _ _ a1 b1 (by omega)
          rw [a2, b2] at this
          omega
        · intro x hx
          obtain ⟨t, h1, rfl⟩ := List.mem_map.1 hx
          obtain ⟨j, hj, rfl⟩ := List.mem_iff_getElem.1 h1
          obtain ⟨a1, a2⟩ := ht j _ (List.getElem?_eq_getElem hj)
          have := hbnd _ a1
          omega
        · intro v hv
          obtain ⟨a1, a2⟩ := ht v _ (List.getElem?_eq_getElem (by omega))
          refine ⟨_, a1, a2, ?_⟩
          have := hbnd _ a1
          have el : (ts.map fun t => (new.getD t 0).toNat).getD v 0 = (new.getD ts[v] 0).toNat := by
            rw [map_getD (l := ts) (d := 0) (by omega), List.getD_eq_getElem?_getD (l := ts), List.getElem?_eq_getElem (l := ts) (by omega)]
            rfl
          rw [el]
          omega
    have hge : count ≤ es.length := by
      rcases hreps with h | ⟨l, h1, h2, h3, _⟩
      · omega
      · rw [← h1]; exact nodup_bound _ l h2 h3
    by_cases hdone : es.length = count
    · left
      refine ⟨_, ⟨new, rfl, hlen, fun s hs => by have := hbnd s hs; omega, h0, fun s t hs ht => ⟨fun h => ?_, hsound' s t hs ht⟩⟩, fun n => ?_⟩
      · -- stable
        rcases hreps with h1 | ⟨l, h1, h2, h3, h4⟩
        · omega
        · have hback : ∀ s t, s < nx.length → t < nx.length → part.getD s 0 = part.getD t 0 → new.getD s 0 = new.getD t 0 := by
            have hrep : ∀ s, s < nx.length → ∃ v, v < count ∧ part.getD s 0 = (v : Int) ∧ new.getD s 0 = ((l.getD v 0 : Nat) : Int) := by
              intro s hs
              have q := hbnd s hs
              have hm := nodup_all h2 (by omega) h3 (x := (new.getD s 0).toNat) (by omega)
              obtain ⟨v, hv, ev⟩ := List.mem_iff_getElem.1 hm
              obtain ⟨t, q1, q2, q3⟩ := h4 v (by omega)
              have el : l.getD v 0 = (new.getD s 0).toNat := by rw [List.getD_eq_getElem?_getD, List.getElem?_eq_getElem hv]; exact ev
              rw [el] at q3
              refine ⟨v, by omega, ?_, by rw [el]; omega⟩
              rw [hrefine s t hs q1 (by omega), q2]
            intro s t hs ht h
            obtain ⟨v, a1, a2, a3⟩ := hrep s hs
            obtain ⟨u, b1, b2, b3⟩ := hrep t ht
            have : v = u := by omega
            subst this
            rw [a3, b3]
          -- the new numbers as keys of themselves
          have hb' : ∀ s, s < nx.length → 0 ≤ new.getD s 0 ∧ new.getD s 0 < nx.length := fun s hs => by have := hbnd s hs; omega
          intro x
          refine stable_complete (part := part) V hac hb (fun a b ha hbb hab => (heq a b ha hbb).1 (hback a b ha hbb hab)) x (s : Int) (t : Int) (by omega) (by omega) (by omega) (by omega) (by omega) (fun _ => ?_)
          rw [Int.toNat_natCast, Int.toNat_natCast]
          exact hrefine s t hs ht h
      · simp only [S, L35_3]
        rw [if_pos (ct ⟨trivial, by omega, by simp only [lim]; omega⟩), hrun]
        simp only [Option.bind_some]
        rw [if_pos (ct (by omega))]
    · right
      refine ⟨(es.length, new), ⟨hlen, fun s hs => by have := hbnd s hs; simp only; omega, hsound', hesl, .inr ⟨fun t ht => (hbnd t ht).2, honto⟩⟩, by simp only; omega, fun n => ?_⟩
      simp only [S, L35_3]
      rw [if_pos (ct ⟨trivial, by omega, by simp only [lim]; omega⟩), hrun]
      simp only [Option.bind_some]
      rw [if_neg (cf (by omega))])
  obtain ⟨r, hlim, part, rfl, h⟩ := main
  simp only [S] at hlim
  rw [show ((0 : Nat) : Int) = 0 from rfl] at hlim
  rw [hlim]
  exact ⟨part, rfl, h⟩
end Go.AM
