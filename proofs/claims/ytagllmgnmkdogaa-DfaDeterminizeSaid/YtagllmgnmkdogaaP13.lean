/- Minimize, second part: which states are live; transitions to dead states are cut. -/
import Derived.Test.YtagllmgnmkdogaaP12
namespace Go.AM
open Go

section
variable {α : Type}
def mixF (f h : Nat → α) (n i : Nat) : List α := (List.range n).map fun j => if j < i then f j else h j
variable {f h : Nat → α} {n i : Nat}
theorem mixF_length : (mixF f h n i).length = n := by simp [mixF]
theorem mixF_getD {d : α} {j : Nat} (hj : j < n) : (mixF f h n i).getD j d = if j < i then f j else h j := by
  unfold mixF; rw [map_range_getD hj]
theorem mixF_set : (mixF f h n i).set i (f i) = mixF f h n (i + 1) := by
  unfold mixF
  apply List.ext_getElem? fun j => ?_
  rw [List.getElem?_set]
  by_cases hj : j < n
  · by_cases e : i = j
    · subst e; simp [hj]
    · rw [if_neg e, List.getElem?_map, List.getElem?_map, List.getElem?_range hj]
      simp only [Option.map_some]
      by_cases h2 : j < i
      · rw [if_pos h2, if_pos (by omega)]
      · rw [if_neg h2, if_neg (by omega)]
  · by_cases e : i = j
    · subst e; simp [hj]
    · rw [if_neg e, List.getElem?_map, List.getElem?_map]; simp [hj]
theorem mixF_same (hs : f i = h i) : mixF f h n (i + 1) = mixF f h n i := by
  unfold mixF
  apply List.map_congr_left
  intro j _
  by_cases h1 : j < i
  · rw [if_pos h1, if_pos (by omega)]
  · by_cases e : j = i
    · subst e; rw [if_pos (by omega), if_neg h1, hs]
    · rw [if_neg h1, if_neg (by omega)]
theorem mixF_zero {l : List α} {d : α} : mixF f (fun j => l.getD j d) l.length 0 = l := by
  refine ext_getD d mixF_length fun j hj => ?_
  rw [mixF_length] at hj
  rw [mixF_getD hj]
  rfl
theorem mixF_full {g : α → α} {l : List α} {d : α} : mixF (fun j => g (l.getD j d)) h l.length l.length = l.map g := by
  refine ext_getD d (by rw [mixF_length, List.length_map]) fun j hj => ?_
  rw [mixF_length] at hj
  rw [mixF_getD hj, if_pos hj, List.getD_eq_getElem?_getD, List.getD_eq_getElem?_getD, List.getElem?_map, List.getElem?_eq_getElem hj]
  rfl
end

theorem getD_set {α : Type} {l : List α} {d x : α} {i j : Nat} (hj : j < l.length) : (l.set i x).getD j d = if i = j then x else l.getD j d := by
  rw [List.getD_eq_getElem?_getD, List.getElem?_set]
  by_cases e : i = j
  · subst e; simp [hj]
  · rw [if_neg e, if_neg e, List.getD_eq_getElem?_getD]

variable {c : List Int} {nx : List (List Int)} {ac : List Int}

def Lv (c : List Int) (nx : List (List Int)) (ac : List Int) (s : Int) : Prop := ∃ x, accZ ac (runZ c nx s x) ≠ -1

/-- a row leads to a marked state -/
def Hit (L : List Bool) (row : List Int) : Prop := ∃ j, j < row.length ∧ 0 ≤ row.getD j 0 ∧ L.getD (row.getD j 0).toNat false = true

theorem l54_55 (row : List Int) (L : List Bool) (hl : row.length ≤ 9223372036854775807) (hr : ∀ j, j < row.length → row.getD j 0 < L.length) :
    (Hit L row ∧ ∃ k : Nat, limit L54_27_55_2 ((row, (), (row.length : Int), (0 : Int), ()), ((c, nx, ac, ()), ((), ()), L, ())) = some (.inl (((k : Int), ()), ((c, nx, ac, ()), ((), ()), L, ())))) ∨
    (¬ Hit L row ∧ limit L54_27_55_2 ((row, (), (row.length : Int), (0 : Int), ()), ((c, nx, ac, ()), ((), ()), L, ())) = some (.inr ((), ((c, nx, ac, ()), ((), ()), L, ())))) := by
  let S : Nat → (((List (Int)) × Unit × (Int) × (Int) × Unit) × (((List (Int)) × (List (List (Int))) × (List (Int)) × Unit) × (Unit × Unit) × (List (Bool)) × Unit)) := fun i => ((row, (), (row.length : Int), (i : Int), ()), ((c, nx, ac, ()), ((), ()), L, ()))
  have hst : ∀ i, i < row.length → ¬ (0 ≤ row.getD i 0 ∧ L.getD (row.getD i 0).toNat false = true) → ∀ n, L54_27_55_2 (n + 1) (S i) = L54_27_55_2 n (S (i + 1)) := by
    intro i hi hn n
    simp only [S, L54_27_55_2, Int.toNat_natCast]
    rw [if_pos (lt_nat hi), if_pos (in_range hi)]
    by_cases h : row.getD i 0 ≥ 0
    · rw [if_pos (ct h), if_pos (ct ⟨h, by have := hr i hi; omega⟩), if_neg (fun hh => hn ⟨h, hh⟩), wrap_nat (by omega)]
    · rw [if_neg (cf h), wrap_nat (by omega)]
  rcases all_or_first row.length (fun i => ¬ (0 ≤ row.getD i 0 ∧ L.getD (row.getD i 0).toNat false = true)) with h | ⟨k, hk, h1, h2⟩
  · right
    refine ⟨fun ⟨j, hj, e1, e2⟩ => h j hj ⟨e1, e2⟩, ?_⟩
    exact for_rule (L := L54_27_55_2) (N := row.length) (S := S) (fun i hi => hst i hi (h i hi)) (fun n => by simp only [S, L54_27_55_2]; rw [if_neg nlt_nat]) (by omega)
  · left
    replace h1 := Classical.not_not.1 h1
    refine ⟨⟨k, hk, h1⟩, k, ?_⟩
    exact for_rule (L := L54_27_55_2) (N := k) (S := S) (fun i hi => hst i (by omega) (h2 i hi)) (fun n => by
      simp only [S, L54_27_55_2, Int.toNat_natCast]
      rw [if_pos (lt_nat hk), if_pos (in_range hk), if_pos (ct h1.1), if_pos (ct ⟨h1.1, by have := hr k hk; omega⟩), if_pos h1.2]) (by omega)

theorem count_set {L : List Bool} {s : Nat} (hs : s < L.length) (h : L.getD s false = false) : (L.set s true).count true = L.count true + 1 := by
  rw [List.count_set hs]
  rw [List.getD_eq_getElem?_getD, List.getElem?_eq_getElem hs] at h
  simp only [Option.getD_some] at h
  simp [h]

/-- one pass over the states -/
theorem l55_11 (V : VDfa c nx ac) (F : Fon c (nx.getD 0 []).length) (L : List Bool) (hL : L.length = nx.length) (hsound : ∀ s : Nat, s < nx.length → L.getD s false = true → Lv c nx ac s) :
    ∃ r, limit L55_11 (((), (), false, nx, (nx.length : Int), (0 : Int), ()), ((c, nx, ac, ()), ((), ()), L, ())) = some r ∧ ∃ more L', r = (((), (), more, ()), ((c, nx, ac, ()), ((), ()), L', ())) ∧
      L'.length = nx.length ∧ (∀ s : Nat, s < nx.length → L'.getD s false = true → Lv c nx ac s) ∧ (∀ s, s < nx.length → L.getD s false = true → L'.getD s false = true) ∧
      (more = false → L' = L ∧ ∀ s, s < nx.length → L.getD s false = false → ¬ Hit L (nx.getD s [])) ∧ (more = true → L.count true < L'.count true) := by
  have n5 := V.n500
  have n1 := V.n1
  let S : Bool × List Bool × Nat → ((Unit × Unit × (Bool) × (List (List (Int))) × (Int) × (Int) × Unit) × (((List (Int)) × (List (List (Int))) × (List (Int)) × Unit) × (Unit × Unit) × (List (Bool)) × Unit)) :=
    fun s => (((), (), s.1, nx, (nx.length : Int), (s.2.2 : Int), ()), ((c, nx, ac, ()), ((), ()), s.2.1, ()))
  refine state_rule (L := L55_11) S (fun s => s.2.2 ≤ nx.length ∧ s.2.1.length = nx.length ∧ (∀ t : Nat, t < nx.length → s.2.1.getD t false = true → Lv c nx ac t) ∧
      (∀ t, t < nx.length → L.getD t false = true → s.2.1.getD t false = true) ∧ (s.1 = false → s.2.1 = L ∧ ∀ t, t < s.2.2 → L.getD t false = false → ¬ Hit L (nx.getD t [])) ∧ (s.1 = true → L.count true < s.2.1.count true))
    (fun s => nx.length - s.2.2) _ (false, L, 0) ⟨by simp, hL, hsound, fun _ _ h => h, fun _ => ⟨rfl, fun t ht => by simp only at ht; omega⟩, fun h => by cases h⟩ (by simp only; omega) ?_
  rintro ⟨more, M, s⟩ ⟨h1, h2, h3, h4, h5, h6⟩
  simp only at h1 h2 h3 h4 h5 h6
  by_cases hs : s = nx.length
  · subst hs
    left
    refine ⟨_, ⟨more, M, rfl, h2, h3, h4, h5, h6⟩, fun n => ?_⟩
    simp only [S, L55_11]
    rw [if_neg nlt_nat]
  · have hsl : s < nx.length := by omega
    right
    have hlen := V.rl s hsl
    have hk : (nx.getD 0 []).length ≤ 256 := by
      obtain ⟨cnt, f0, f1, f2⟩ := F
      have : ∀ b, b ≤ 256 → cnt b ≤ b := by
        intro b
        induction b with
        | zero => intro _; omega
        | succ b ih => intro hb; have := ih (by omega); rcases f2 b (by omega) with h | h <;> omega
      have := this 256 (by omega)
      omega
    by_cases hM : M.getD s false = true
    · refine ⟨(more, M, s + 1), ⟨by simp only; omega, h2, h3, h4, fun hm => ⟨(h5 hm).1, fun t ht hf => ?_⟩, h6⟩, by simp only; omega, fun n => ?_⟩
      · by_cases e : t = s
        · subst e; rw [(h5 hm).1] at hM; rw [hM] at hf; cases hf
        · have ht' : t < s + 1 := ht
          exact (h5 hm).2 t (by omega) hf
      · simp only [S, L55_11, Int.toNat_natCast]
        rw [if_pos (lt_nat hsl), if_pos (in_range hsl), if_pos (in_range (by omega)), if_neg (by rw [hM]; exact ntf), wrap_nat (by omega)]
    · have hM' : M.getD s false = false := by simpa using hM
      have hr : ∀ j, j < (nx.getD s []).length → (nx.getD s []).getD j 0 < M.length := fun j hj => by have := V.tr s hsl j (by omega); omega
      rcases l54_55 (c := c) (nx := nx) (ac := ac) (nx.getD s []) M (by omega) hr with ⟨⟨j, hj, g1, g2⟩, k, hlim⟩ | ⟨hno, hlim⟩
      · have hlive : Lv c nx ac s := by
          obtain ⟨cnt, f0, f1, f2⟩ := F
          obtain ⟨b, hb, eb⟩ := (fon_before f0 f2 256 (by omega)).1 j (by omega)
          have ht := V.tr s hsl j (by omega)
          obtain ⟨x, hx⟩ := h3 _ (by omega) g2
          refine ⟨UInt8.ofNat b :: x, ?_⟩
          show accZ ac (runZ c nx (stepZ c nx s (UInt8.ofNat b).toNat) x) ≠ -1
          rw [byte_ofNat hb]
          have e : stepZ c nx (s : Int) b = (((nx.getD s []).getD j 0).toNat : Int) := by
            unfold stepZ
            rw [if_neg (by omega), eb, Int.toNat_natCast, Int.toNat_natCast]
            omega
          rw [e]
          exact hx
        refine ⟨(true, M.set s true, s + 1), ⟨by simp only; omega, by simp only [List.length_set]; exact h2, fun t ht hf => ?_, fun t ht hf => ?_, fun h => (by cases h), fun _ => ?_⟩, by simp only; omega, fun n => ?_⟩
        · simp only [getD_set (show t < M.length by omega)] at hf
          by_cases e : s = t
          · subst e; exact hlive
          · rw [if_neg e] at hf; exact h3 t ht hf
        · simp only [getD_set (show t < M.length by omega)]
          by_cases e : s = t
          · rw [if_pos e]
          · rw [if_neg e]; exact h4 t ht hf
        · simp only
          rw [count_set (by omega) hM']
          cases hm : more with
          | true => have := h6 hm; omega
          | false => rw [(h5 hm).1]; omega
        · simp only [S, L55_11, Int.toNat_natCast]
          rw [if_pos (lt_nat hsl), if_pos (in_range hsl), if_pos (in_range (by omega)), if_pos (by rw [hM']; rfl), hlim]
          simp only [Option.bind_some, Sum.elim_inl]
          rw [if_pos (ct (by omega)), if_pos (in_range (by omega)), wrap_nat (by omega)]
      · refine ⟨(more, M, s + 1), ⟨by simp only; omega, h2, h3, h4, fun hm => ⟨(h5 hm).1, fun t ht hf => ?_⟩, h6⟩, by simp only; omega, fun n => ?_⟩
        · by_cases e : t = s
          · subst e; rw [← (h5 hm).1]; exact hno
          · have ht' : t < s + 1 := ht
            exact (h5 hm).2 t (by omega) hf
        · simp only [S, L55_11, Int.toNat_natCast]
          rw [if_pos (lt_nat hsl), if_pos (in_range hsl), if_pos (in_range (by omega)), if_pos (by rw [hM']; rfl), hlim]
          simp only [Option.bind_some, Sum.elim_inr]
          rw [if_neg (cf (by omega)), wrap_nat (by omega)]

theorem p55_spec (V : VDfa c nx ac) (F : Fon c (nx.getD 0 []).length) : ∃ L, p55 ((c, (nx, (ac, ()))), ()) = some L ∧ L.length = nx.length ∧ ∀ s : Nat, s < nx.length → (L.getD s false = true ↔ Lv c nx ac s) := by
  have n5 := V.n500
  have n1 := V.n1
  have al := V.al
  simp only [p55]
  rw [if_pos (ct ⟨trivial, by omega, by simp only [lim]; omega⟩)]
  have h3 := for_rule (L := L55_3) (N := ac.length) (S := fun i => (((), (), ac, (ac.length : Int), (i : Int), ()), ((c, nx, ac, ()), ((), ()), fillF (fun i => decide (ac.getD i 0 ≥ (0 : Int))) false nx.length i, ())))
    (r := (((), (), ()), ((c, nx, ac, ()), ((), ()), (List.range nx.length).map (fun i => decide (ac.getD i 0 ≥ (0 : Int))), ())))
    (fun i hi n => by
      simp only [L55_3, Int.toNat_natCast, fillF_length]
      rw [if_pos (lt_nat hi), if_pos (in_range hi), if_pos (in_range (by omega)), fillF_set, wrap_nat (by omega)])
    (fun n => by simp only [L55_3]; rw [if_neg nlt_nat, al, fillF_full]) (by omega)
  have e0 : List.replicate (nx.length : Int).toNat false = fillF (fun i => decide (ac.getD i 0 ≥ (0 : Int))) false nx.length 0 := by rw [Int.toNat_natCast]; exact fillF_zero
  rw [show ((0 : Nat) : Int) = 0 from rfl] at h3
  rw [e0, h3, Option.bind_some]
  generalize hL0 : (List.range nx.length).map (fun i => decide (ac.getD i 0 ≥ (0 : Int))) = L0
  have hlen0 : L0.length = nx.length := by rw [← hL0]; simp
  have hget0 : ∀ s, s < nx.length → L0.getD s false = decide (ac.getD s 0 ≥ (0 : Int)) := fun s hs => by rw [← hL0, map_range_getD hs]
  let S : Bool × List Bool → ((Unit × Unit × (Bool) × Unit) × (((List (Int)) × (List (List (Int))) × (List (Int)) × Unit) × (Unit × Unit) × (List (Bool)) × Unit)) := fun s => (((), (), s.1, ()), ((c, nx, ac, ()), ((), ()), s.2, ()))
  have main := state_rule (L := L55_8) S (fun s => s.2.length = nx.length ∧ (∀ t : Nat, t < nx.length → s.2.getD t false = true → Lv c nx ac t) ∧ (∀ t, t < nx.length → L0.getD t false = true → s.2.getD t false = true) ∧
      (s.1 = false → ∀ t, t < nx.length → s.2.getD t false = false → ¬ Hit s.2 (nx.getD t []))) (fun s => 2 * (nx.length - s.2.count true) + (if s.1 = true then 1 else 0))
    (fun r => ∃ L, r = (((), ()), (((), ()), L, ())) ∧ L.length = nx.length ∧ (∀ t : Nat, t < nx.length → L.getD t false = true → Lv c nx ac t) ∧ (∀ t, t < nx.length → L0.getD t false = true → L.getD t false = true) ∧
      (∀ t, t < nx.length → L.getD t false = false → ¬ Hit L (nx.getD t []))) (true, L0)
    ⟨hlen0, fun t ht h => by
      simp only at h
      rw [hget0 t ht] at h
      refine ⟨[], ?_⟩
      show accZ ac (t : Int) ≠ -1
      unfold accZ
      rw [if_neg (by omega), Int.toNat_natCast]
      simp only [decide_eq_true_eq] at h
      omega, fun _ _ h => h, fun h => by cases h⟩ (by simp only; split <;> omega) (by
    rintro ⟨more, L⟩ ⟨h1, h2, h3, h4⟩
    simp only at h1 h2 h3 h4
    cases more with
    | false =>
      left
      refine ⟨_, ⟨L, rfl, h1, h2, h3, h4 rfl⟩, fun n => ?_⟩
      simp only [S, L55_8]
      rw [if_neg ff]
    | true =>
      right
      obtain ⟨r, hlim, more', L', rfl, g1, g2, g3, g4, g5⟩ := l55_11 V F L h1 h2
      refine ⟨(more', L'), ⟨g1, g2, fun t ht h => g3 t ht (h3 t ht h), fun hm => ?_⟩, ?_, fun n => ?_⟩
      · obtain ⟨rfl, h⟩ := g4 hm; exact h
      · simp only
        have hc : L'.count true ≤ nx.length := by rw [← g1]; exact List.count_le_length
        cases more' with
        | true => have := g5 rfl; simp only [if_true]; omega
        | false => rw [(g4 rfl).1]; simp
      · simp only [S, L55_8, if_true]
        rw [hlim, Option.bind_some])
  obtain ⟨r, hlim, L, rfl, g1, g2, g3, g4⟩ := main
  simp only [S] at hlim
  dsimp only
  rw [hlim]
  refine ⟨L, rfl, g1, fun s hs => ⟨g2 s hs, ?_⟩⟩
  rintro ⟨x, hx⟩
  induction x generalizing s with
  | nil =>
    apply g3 s hs
    rw [hget0 s hs, decide_eq_true_eq]
    have hx' : accZ ac (s : Int) ≠ -1 := hx
    unfold accZ at hx'
    rw [if_neg (by omega), Int.toNat_natCast] at hx'
    have := V.ar s hs
    omega
  | cons b x ih =>
    have hx' : accZ ac (runZ c nx (stepZ c nx s b.toNat) x) ≠ -1 := hx
    have hst := V.step (s := (s : Int)) (by omega) (UInt8.toNat_lt b)
    have hcb := V.cr b.toNat (UInt8.toNat_lt b)
    have hpos : 0 ≤ stepZ c nx (s : Int) b.toNat := by
      rcases Int.lt_or_le (stepZ c nx (s : Int) b.toNat) 0 with h | h
      · rw [runZ_neg c nx x h hst.1] at hx'
        exact absurd rfl hx'
      · exact h
    have e : ((stepZ c nx (s : Int) b.toNat).toNat : Int) = stepZ c nx (s : Int) b.toNat := by omega
    have h1 := ih (stepZ c nx (s : Int) b.toNat).toNat (by omega) (by rw [e]; exact hx')
    cases hc : L.getD s false with
    | true => rfl
    | false =>
      have es : stepZ c nx (s : Int) b.toNat = (nx.getD s []).getD (c.getD b.toNat 0).toNat 0 := by
        unfold stepZ
        rw [if_neg (by omega), Int.toNat_natCast]
      exact absurd ⟨(c.getD b.toNat 0).toNat, by rw [V.rl s hs]; omega, by rw [← es]; exact hpos, by rw [← es]; exact h1⟩ (g4 s hs hc)

/-! ### cut -/

def gP (L : List Bool) (t : Int) : Int := if 0 ≤ t ∧ L.getD t.toNat false = false then -1 else t
def pnx (L : List Bool) (nx : List (List Int)) : List (List Int) := nx.map fun row => row.map (gP L)

theorem l33_8 (L : List Bool) (row : List Int) (rows : List (List Int)) (i : Nat) (acc : List (List Int)) (y1 y2 : (List (Int)) × (List (List (Int))) × (List (Int)) × Unit)
    (hl : row.length ≤ 256) (hr : ∀ j, j < row.length → row.getD j 0 < L.length) :
    limit L33_8 (((), (), L, (), (), rows, (rows.length : Int), (i : Int), (), (row.length : Int), (0 : Int), ()), ((y1.1, y1.2.1, y1.2.2.1, ()), (y2.1, y2.2.1, y2.2.2.1, ()), acc, row, ())) =
      some (((), (), L, (), (), rows, (rows.length : Int), (i : Int), ()), ((y1.1, y1.2.1, y1.2.2.1, ()), (y2.1, y2.2.1, y2.2.2.1, ()), acc, row.map (gP L), ())) := by
  have h := for_rule (L := L33_8) (N := row.length)
    (S := fun j => (((), (), L, (), (), rows, (rows.length : Int), (i : Int), (), (row.length : Int), (j : Int), ()), ((y1.1, y1.2.1, y1.2.2.1, ()), (y2.1, y2.2.1, y2.2.2.1, ()), acc, mixF (fun j => gP L (row.getD j 0)) (fun j => row.getD j 0) row.length j, ())))
    (r := (((), (), L, (), (), rows, (rows.length : Int), (i : Int), ()), ((y1.1, y1.2.1, y1.2.2.1, ()), (y2.1, y2.2.1, y2.2.2.1, ()), acc, row.map (gP L), ())))
    (fun j hj n => by
      have hlt := hr j hj
      have hg : (mixF (fun j => gP L (row.getD j 0)) (fun j => row.getD j 0) row.length j).getD j 0 = row.getD j 0 := by rw [mixF_getD hj, if_neg (by omega)]
      simp only [L33_8, Int.toNat_natCast, mixF_length, hg]
      rw [if_pos (lt_nat hj), if_pos (in_range hj), wrap_nat (by omega)]
      by_cases h1 : row.getD j 0 ≥ 0
      · rw [if_pos (ct h1), if_pos (ct ⟨h1, by omega⟩)]
        cases h2 : L.getD (row.getD j 0).toNat false with
        | true =>
          rw [if_neg ntf, mixF_same (i := j)]
          show gP L (row.getD j 0) = row.getD j 0
          unfold gP
          rw [if_neg (by rw [h2]; simp)]
        | false =>
          have e : gP L (row.getD j 0) = -1 := by unfold gP; rw [if_pos ⟨h1, h2⟩]
          have es := mixF_set (f := fun j => gP L (row.getD j 0)) (h := fun j => row.getD j 0) (n := row.length) (i := j)
          rw [e] at es
          rw [if_pos nft, if_pos (in_range hj), es]
      · rw [if_neg (cf h1), mixF_same (i := j)]
        show gP L (row.getD j 0) = row.getD j 0
        unfold gP
        rw [if_neg (by omega)])
    (fun n => by simp only [L33_8]; rw [if_neg nlt_nat, mixF_full]) (by omega)
  rw [mixF_zero] at h
  exact h

theorem p33_run (V : VDfa c nx ac) (F : Fon c (nx.getD 0 []).length) (hk : (nx.getD 0 []).length ≤ 256) : ∃ L : List Bool, L.length = nx.length ∧ (∀ s : Nat, s < nx.length → (L.getD s false = true ↔ Lv c nx ac s)) ∧
    p33 ((c, (nx, (ac, ()))), ()) = some (c, (pnx L nx, (ac, ()))) := by
  have n5 := V.n500
  obtain ⟨L, e, hl, hL⟩ := p55_spec V F
  refine ⟨L, hl, hL, ?_⟩
  simp only [p33, e, Option.bind_some]
  have h := for_rule (L := L33_4) (N := nx.length)
    (S := fun i => (((), (), L, (), nx, (nx.length : Int), (i : Int), ()), ((c, nx, ac, ()), (([] : List (Int)), ([] : List (List (Int))), ([] : List (Int)), ()), (nx.take i).map (fun row => row.map (gP L)), ())))
    (r := (((), (), (), ()), ((c, nx, ac, ()), (([] : List (Int)), ([] : List (List (Int))), ([] : List (Int)), ()), pnx L nx, ())))
    (fun i hi n => by
      have hlen := V.rl i hi
      have hcl : p56 (nx.getD i [], ()) = some (nx.getD i []) := by
        simp only [p56]
        rw [if_pos (ct (by simp only [List.length_nil, lim]; omega))]
      simp only [L33_4, Int.toNat_natCast]
      rw [if_pos (lt_nat hi), if_pos (in_range hi), hcl, Option.bind_some,
        l33_8 L (nx.getD i []) nx i _ (c, nx, ac, ()) (([] : List (Int)), ([] : List (List (Int))), ([] : List (Int)), ()) (by omega) (fun j hj => by have := V.tr i hi j (by omega); omega), Option.bind_some,
        if_pos (ct (by simp only [List.length_map, List.length_take, List.length_singleton, lim]; omega)), wrap_nat (by omega), take_snoc (d := []) hi]
      simp only [List.map_append, List.map_cons, List.map_nil])
    (fun n => by simp only [L33_4]; rw [if_neg nlt_nat, List.take_length]; rfl) (by omega)
  rw [show ((0 : Nat) : Int) = 0 from rfl] at h
  simp only [List.take_zero, List.map_nil] at h
  rw [h]
  simp only [Option.bind_some]
end Go.AM
