/- Numbering keys in the order of their first occurrence; filling arrays. -/
import Derived.Test.YtagllmgnmkdogaaP10
namespace Go.AM
open Go

section
variable (K : Kind) (key : Nat → K.T)

/-- the map after the keys below i -/
def esF : Nat → List (K.T × Int)
  | 0 => []
  | i + 1 => if (mget K (key i) (esF i)).isSome = true then esF i else mput K (key i) ((esF i).length : Int) (esF i)

def numv (i : Nat) : Int := (mget K (key i) (esF K key (i + 1))).getD 0

variable {K key} (hK : EqOk K)
include hK

theorem esF_some : ∀ (i : Nat) (k : K.T), (mget K k (esF K key i)).isSome = true ↔ ∃ b, b < i ∧ key b = k := by
  intro i
  induction i with
  | zero => intro k; simp [esF, mget]
  | succ i ih =>
    intro k
    unfold esF
    split
    · rename_i h
      rw [ih]
      obtain ⟨b0, h1, h2⟩ := (ih _).1 h
      constructor
      · rintro ⟨b, hb, e⟩; exact ⟨b, by omega, e⟩
      · rintro ⟨b, hb, e⟩
        by_cases hbi : b = i
        · subst hbi; exact ⟨b0, h1, by rw [h2, e]⟩
        · exact ⟨b, by omega, e⟩
    · by_cases e : k = key i
      · subst e
        rw [mget_mput_same hK]
        exact ⟨fun _ => ⟨i, by omega, rfl⟩, fun _ => rfl⟩
      · rw [mget_mput_other hK e, ih]
        constructor
        · rintro ⟨b, hb, e⟩; exact ⟨b, by omega, e⟩
        · rintro ⟨b, hb, e'⟩
          by_cases hbi : b = i
          · subst hbi; exact absurd e'.symm e
          · exact ⟨b, by omega, e'⟩

theorem esF_keep {i : Nat} {k : K.T} {v : Int} (h : mget K k (esF K key i) = some v) : mget K k (esF K key (i + 1)) = some v := by
  unfold esF
  split
  · exact h
  · rename_i hn
    have e : k ≠ key i := fun e => hn (by rw [← e, h]; rfl)
    rw [mget_mput_other hK e, h]

theorem esF_get {b i : Nat} (h : b < i) : mget K (key b) (esF K key i) = some (numv K key b) := by
  have h0 : mget K (key b) (esF K key (b + 1)) = some (numv K key b) := by
    have := (esF_some hK (b + 1) (key b)).2 ⟨b, by omega, rfl⟩
    unfold numv
    cases hc : mget K (key b) (esF K key (b + 1)) with
    | none => rw [hc] at this; cases this
    | some v => rfl
  induction i with
  | zero => omega
  | succ i ih =>
    by_cases e : b = i
    · subst e; exact h0
    · exact esF_keep hK (ih (by omega))

theorem esF_new {i : Nat} (h : ¬ (mget K (key i) (esF K key i)).isSome = true) : esF K key (i + 1) = mput K (key i) ((esF K key i).length : Int) (esF K key i) ∧ numv K key i = (esF K key i).length ∧ (esF K key (i + 1)).length = (esF K key i).length + 1 := by
  have e : esF K key (i + 1) = mput K (key i) ((esF K key i).length : Int) (esF K key i) := by
    show (if _ then _ else _) = _
    rw [if_neg h]
  refine ⟨e, ?_, ?_⟩
  · unfold numv; rw [e, mget_mput_same hK]; rfl
  · rw [e, mput_length, if_neg h]

omit hK in
theorem esF_old {i : Nat} (h : (mget K (key i) (esF K key i)).isSome = true) : esF K key (i + 1) = esF K key i ∧ numv K key i = (mget K (key i) (esF K key i)).getD 0 := by
  have e : esF K key (i + 1) = esF K key i := by
    show (if _ then _ else _) = _
    rw [if_pos h]
  exact ⟨e, by unfold numv; rw [e]⟩

theorem numv_bounds : ∀ (i b : Nat), b < i → 0 ≤ numv K key b ∧ numv K key b < (esF K key i).length := by
  intro i
  induction i with
  | zero => intro b hb; omega
  | succ i ih =>
    intro b hb
    by_cases h : (mget K (key i) (esF K key i)).isSome = true
    · obtain ⟨e1, e2⟩ := esF_old h
      rw [e1]
      by_cases e : b = i
      · subst e
        obtain ⟨b0, h1, h2⟩ := (esF_some hK b _).1 h
        have := esF_get hK (key := key) h1
        rw [e2, ← h2, this]
        exact ih b0 h1
      · exact ih b (by omega)
    · obtain ⟨_, e2, e3⟩ := esF_new hK h
      rw [e3]
      by_cases e : b = i
      · subst e; omega
      · have := ih b (by omega); omega

theorem numv_inj : ∀ (i a b : Nat), a < i → b < i → (numv K key a = numv K key b ↔ key a = key b) := by
  have same : ∀ a b, key a = key b → numv K key a = numv K key b := by
    intro a b h
    have h1 := esF_get hK (key := key) (b := a) (i := max a b + 1) (by omega)
    have h2 := esF_get hK (key := key) (b := b) (i := max a b + 1) (by omega)
    rw [h, h2] at h1
    exact (Option.some.inj h1).symm
  intro i
  induction i with
  | zero => intro a b ha; omega
  | succ i ih =>
    intro a b ha hb
    refine ⟨fun h => ?_, same a b⟩
    by_cases hn : (mget K (key i) (esF K key i)).isSome = true
    · obtain ⟨b0, h1, h2⟩ := (esF_some hK i _).1 hn
      have hi := same i b0 h2.symm
      by_cases e1 : a = i
      · by_cases e2 : b = i
        · subst e1; subst e2; rfl
        · subst e1
          rw [← h2]
          exact (ih b0 b h1 (by omega)).1 (by omega)
      · by_cases e2 : b = i
        · subst e2
          rw [← h2]
          exact (ih a b0 (by omega) h1).1 (by omega)
        · exact (ih a b (by omega) (by omega)).1 h
    · obtain ⟨_, e, _⟩ := esF_new hK hn
      by_cases e1 : a = i
      · by_cases e2 : b = i
        · subst e1; subst e2; rfl
        · subst e1
          have := numv_bounds hK (key := key) a b (by omega)
          omega
      · by_cases e2 : b = i
        · subst e2
          have := numv_bounds hK (key := key) b a (by omega)
          omega
        · exact (ih a b (by omega) (by omega)).1 h

theorem numv_fon (b : Nat) : (0 ≤ numv K key b ∧ numv K key b < (esF K key b).length ∧ (esF K key (b + 1)).length = (esF K key b).length) ∨ (numv K key b = (esF K key b).length ∧ (esF K key (b + 1)).length = (esF K key b).length + 1) := by
  by_cases h : (mget K (key b) (esF K key b)).isSome = true
  · obtain ⟨e1, e2⟩ := esF_old h
    left
    obtain ⟨b0, h1, h2⟩ := (esF_some hK b _).1 h
    have := esF_get hK (key := key) h1
    rw [e1, e2, ← h2, this]
    have := numv_bounds hK (key := key) b b0 h1
    exact ⟨this.1, this.2, rfl⟩
  · obtain ⟨_, e2, e3⟩ := esF_new hK h
    exact .inr ⟨e2, e3⟩

theorem esF_len (i : Nat) : (esF K key i).length ≤ i := by
  induction i with
  | zero => simp [esF]
  | succ i ih => rcases numv_fon hK (key := key) i with h | h <;> omega

/-- each number below the count is some key's -/
theorem numv_onto : ∀ (i v : Nat), v < (esF K key i).length → ∃ b, b < i ∧ numv K key b = v := by
  intro i
  induction i with
  | zero => intro v hv; simp [esF] at hv
  | succ i ih =>
    intro v hv
    rcases numv_fon hK (key := key) i with ⟨_, _, h⟩ | ⟨h1, h2⟩
    · obtain ⟨b, hb, e⟩ := ih v (by omega)
      exact ⟨b, by omega, e⟩
    · by_cases e : v = (esF K key i).length
      · subst e; exact ⟨i, by omega, h1⟩
      · obtain ⟨b, hb, e⟩ := ih v (by omega)
        exact ⟨b, by omega, e⟩
end

/-! ### arrays that are filled -/

def fillF {α : Type} (f : Nat → α) (d : α) (n i : Nat) : List α := (List.range n).map fun j => if j < i then f j else d

section
variable {α : Type} {f : Nat → α} {d : α} {n i : Nat}
theorem fillF_length : (fillF f d n i).length = n := by simp [fillF]
theorem fillF_zero : List.replicate n d = fillF f d n 0 := by
  unfold fillF
  apply List.ext_getElem? fun j => ?_
  by_cases h : j < n <;> simp [h]
theorem fillF_getD {d' : α} {j : Nat} (h : j < n) : (fillF f d n i).getD j d' = if j < i then f j else d := by
  unfold fillF
  rw [List.getD_eq_getElem?_getD, List.getElem?_map, List.getElem?_range h]
  rfl
theorem fillF_set : (fillF f d n i).set i (f i) = fillF f d n (i + 1) := by
  unfold fillF
  apply List.ext_getElem? fun j => ?_
  rw [List.getElem?_set]
  by_cases hj : j < n
  · by_cases e : i = j
    · subst e; simp [hj]
    · rw [if_neg e, List.getElem?_map, List.getElem?_map, List.getElem?_range hj]
      simp only [Option.map_some]
      by_cases h2 : j < i
      · rw [if_pos h2, if_pos (by omega)]
      · rw [if_neg h2, if_neg (by omega)]
  · by_cases e : i = j
    · subst e; simp [hj]
    · rw [if_neg e, List.getElem?_map, List.getElem?_map]; simp [hj]
theorem fillF_full : fillF f d n n = (List.range n).map f := by
  unfold fillF
  apply List.map_congr_left
  intro j hj
  rw [if_pos (List.mem_range.1 hj)]
end

theorem map_range_getD {α : Type} {f : Nat → α} {d : α} {n j : Nat} (h : j < n) : ((List.range n).map f).getD j d = f j := by
  rw [List.getD_eq_getElem?_getD, List.getElem?_map, List.getElem?_range h]
  rfl

/-- a list of n different numbers below n has each of them -/
theorem nodup_all {n : Nat} {l : List Nat} (hn : l.Nodup) (hl : l.length = n) (hb : ∀ x ∈ l, x < n) {x : Nat} (hx : x < n) : x ∈ l := by
  apply Classical.byContradiction
  intro hm
  have := nodup_bound n (x :: l) (List.nodup_cons.2 ⟨hm, hn⟩) (fun y hy => by
    rcases List.mem_cons.1 hy with rfl | hy
    · exact hx
    · exact hb y hy)
  simp at this
  omega

theorem take_snoc {α : Type} {l : List α} {d : α} {i : Nat} (h : i < l.length) : l.take (i + 1) = l.take i ++ [l.getD i d] := by
  rw [List.take_succ_eq_append_getElem h, List.getD_eq_getElem?_getD, List.getElem?_eq_getElem h]
  rfl

theorem map_getD {α β : Type} {f : α → β} {l : List α} {d : α} {d' : β} {j : Nat} (h : j < l.length) : (l.map f).getD j d' = f (l.getD j d) := by
  rw [List.getD_eq_getElem?_getD, List.getElem?_map, List.getD_eq_getElem?_getD, List.getElem?_eq_getElem h]
  simp only [Option.map_some, Option.getD_some]

/-! ### the first bytes of classes -/

theorem p38_spec {c : List Int} {k : Nat} (h256 : c.length = 256) (F : Fon c k) : ∃ l : List Int, p38 (c, ()) = some l ∧ l.length = k ∧ ∀ j, j < k → ∃ b : Nat, b < 256 ∧ l.getD j 0 = (b : Int) ∧ c.getD b 0 = (j : Int) ∧ ∀ b0, b0 < b → c.getD b0 0 < (j : Int) := by
  obtain ⟨cnt, f0, f1, f2⟩ := F
  let S : List Int × Nat → ((Unit × (List (Int)) × (Int) × (Int) × Unit) × ((List (Int)) × Unit)) := fun s => (((), c, (c.length : Int), (s.2 : Int), ()), (s.1, ()))
  have main := state_rule (L := L38_3) S (fun s => s.2 ≤ 256 ∧ s.1.length = cnt s.2 ∧ ∀ j, j < s.1.length → ∃ b : Nat, b < s.2 ∧ s.1.getD j 0 = (b : Int) ∧ c.getD b 0 = (j : Int) ∧ ∀ b0, b0 < b → c.getD b0 0 < (j : Int)) (fun s => 256 - s.2)
    (fun r => ∃ l, r = (((), ()), (l, ())) ∧ l.length = k ∧ ∀ j, j < k → ∃ b : Nat, b < 256 ∧ l.getD j 0 = (b : Int) ∧ c.getD b 0 = (j : Int) ∧ ∀ b0, b0 < b → c.getD b0 0 < (j : Int)) ([], 0)
    ⟨by simp, by simp [f0], fun j hj => by simp at hj⟩ (by simp only; omega) (by
    rintro ⟨l, b⟩ ⟨hbl, hl, hj⟩
    simp only at hbl hl hj
    by_cases hb' : b = 256
    · subst hb'
      left
      refine ⟨_, ⟨l, rfl, by omega, fun j hjk => hj j (by omega)⟩, fun n => ?_⟩
      simp only [S, L38_3]
      rw [if_neg (cf (by omega))]
    · right
      have hb1 : b < 256 := by omega
      have fb := fon_before f0 f2 b (by omega)
      have hcb : cnt b ≤ 256 := by
        have : ∀ b, b ≤ 256 → cnt b ≤ b := by
          intro b
          induction b with
          | zero => intro _; omega
          | succ b ih => intro hb; have := ih (by omega); rcases f2 b (by omega) with h | h <;> omega
        have := this b (by omega); omega
      rcases f2 b hb1 with ⟨g1, g2, g3⟩ | ⟨g1, g2⟩
      · refine ⟨(l, b + 1), ⟨by simp only; omega, by simp only; omega, fun j hjl => ?_⟩, by simp only; omega, fun n => ?_⟩
        · obtain ⟨b', q1, q2⟩ := hj j hjl
          exact ⟨b', by simp only; omega, q2⟩
        · simp only [S, L38_3, Int.toNat_natCast]
          rw [if_pos (ct (by omega)), if_pos (in_range (by omega)), if_neg (cf (by omega)), wrap_nat (by omega)]
      · refine ⟨(l ++ [(b : Int)], b + 1), ⟨by simp only; omega, by simp only [List.length_append, List.length_singleton]; omega, fun j hjl => ?_⟩, by simp only; omega, fun n => ?_⟩
        · simp only [List.length_append, List.length_singleton] at hjl ⊢
          by_cases e : j < l.length
          · obtain ⟨b', q1, q2, q3⟩ := hj j e
            exact ⟨b', by omega, by rw [getD_snoc_lt e]; exact q2, q3⟩
          · have : j = l.length := by omega
            subst this
            exact ⟨b, by omega, getD_snoc_eq, by omega, fun b0 hb0 => by have := fb.2 b0 hb0; omega⟩
        · simp only [S, L38_3, Int.toNat_natCast]
          rw [if_pos (ct (by omega)), if_pos (in_range (by omega)), if_pos (ct (by omega)), wrap_u8 hb1, if_pos (ct (by simp only [List.length_singleton, lim]; omega)), wrap_nat (by omega)])
  obtain ⟨r, hlim, l, rfl, h1, h2⟩ := main
  simp only [p38]
  have hlim' : limit L38_3 (((), c, (c.length : Int), (0 : Int), ()), (([] : List (Int)), ())) = some (((), ()), (l, ())) := hlim
  rw [hlim']
  exact ⟨l, rfl, h1, h2⟩

structure Samp (c3 bs : List Int) (k3 : Nat) : Prop where
  l256 : c3.length = 256
  F : Fon c3 k3
  bl : bs.length = k3
  b : ∀ j, j < k3 → ∃ b : Nat, b < 256 ∧ bs.getD j 0 = (b : Int) ∧ c3.getD b 0 = (j : Int) ∧ ∀ b0, b0 < b → c3.getD b0 0 < (j : Int)
end Go.AM
