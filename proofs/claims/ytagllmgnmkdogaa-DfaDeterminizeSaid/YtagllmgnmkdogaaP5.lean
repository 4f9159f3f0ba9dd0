/- Breadth first search over pairs of states: it finds the least string. -/
import Derived.Test.YtagllmgnmkdogaaP1
namespace Go.AM
open Go

/-! ### order of strings: length, then bytes -/

theorem bl_irrefl : ∀ u : List UInt8, Op.bytesLess u u = false
  | [] => rfl
  | a :: x => by simp [Op.bytesLess, bl_irrefl x]

theorem bl_snoc : ∀ {u v : List UInt8}, u.length = v.length → Op.bytesLess u v = true → ∀ c d : UInt8, Op.bytesLess (u ++ [c]) (v ++ [d]) = true
  | [], [], _, h, _, _ => by simp [Op.bytesLess] at h
  | a :: x, b :: y, hl, h, c, d => by
    simp only [Op.bytesLess, Bool.or_eq_true, decide_eq_true_eq, Bool.and_eq_true, beq_iff_eq, List.cons_append] at h ⊢
    rcases h with h | ⟨h1, h2⟩
    · exact .inl h
    · exact .inr ⟨h1, bl_snoc (by simpa using hl) h2 c d⟩
  | [], _ :: _, hl, _, _, _ => by simp at hl
  | _ :: _, [], hl, _, _, _ => by simp at hl

theorem bl_last : ∀ (u : List UInt8) {c d : UInt8}, c < d → Op.bytesLess (u ++ [c]) (u ++ [d]) = true
  | [], c, d, h => by simp [Op.bytesLess, h]
  | a :: x, c, d, h => by simp [Op.bytesLess, bl_last x h]

theorem bl_trans : ∀ {u v w : List UInt8}, Op.bytesLess u v = true → Op.bytesLess v w = true → Op.bytesLess u w = true
  | _, [], _, h, _ => by simp [Op.bytesLess] at h
  | _, _ :: _, [], _, h => by simp [Op.bytesLess] at h
  | [], _ :: _, _ :: _, _, _ => rfl
  | a :: x, b :: y, c :: z, h1, h2 => by
    simp only [Op.bytesLess, Bool.or_eq_true, decide_eq_true_eq, Bool.and_eq_true, beq_iff_eq] at h1 h2 ⊢
    rcases h1 with h1 | ⟨rfl, h1⟩
    · rcases h2 with h2 | ⟨rfl, h2⟩
      · exact .inl (UInt8.lt_trans h1 h2)
      · exact .inl h1
    · rcases h2 with h2 | ⟨rfl, h2⟩
      · exact .inl h2
      · exact .inr ⟨rfl, bl_trans h1 h2⟩

def sl (u v : List UInt8) : Prop := u.length < v.length ∨ (u.length = v.length ∧ Op.bytesLess u v = true)
def sle (u v : List UInt8) : Prop := u = v ∨ sl u v

theorem sl_irrefl {u : List UInt8} : ¬ sl u u := by
  rintro (h | ⟨_, h⟩)
  · omega
  · rw [bl_irrefl] at h; cases h

theorem sl_trans {u v w : List UInt8} (h : sl u v) (h' : sl v w) : sl u w := by
  rcases h with h | ⟨h1, h2⟩ <;> rcases h' with h' | ⟨h3, h4⟩
  · exact .inl (by omega)
  · exact .inl (by omega)
  · exact .inl (by omega)
  · exact .inr ⟨by omega, bl_trans h2 h4⟩

theorem sle_trans {u v w : List UInt8} (h : sle u v) (h' : sle v w) : sle u w := by
  rcases h with rfl | h
  · exact h'
  · rcases h' with rfl | h'
    · exact .inr h
    · exact .inr (sl_trans h h')

theorem sle_antisymm {u v : List UInt8} (h : sle u v) (h' : sle v u) : u = v := by
  rcases h with h | h
  · exact h
  · rcases h' with h' | h'
    · exact h'.symm
    · exact absurd (sl_trans h h') sl_irrefl

theorem sl_snoc {u v : List UInt8} (h : sl u v) (c d : UInt8) : sl (u ++ [c]) (v ++ [d]) := by
  rcases h with h | ⟨h1, h2⟩
  · exact .inl (by simp; omega)
  · exact .inr ⟨by simp [h1], bl_snoc h1 h2 c d⟩

theorem sl_last (u : List UInt8) {c d : UInt8} (h : c < d) : sl (u ++ [c]) (u ++ [d]) := .inr ⟨by simp, bl_last u h⟩

theorem sle_snoc {u v : List UInt8} (h : sle u v) (c : UInt8) : sle (u ++ [c]) (v ++ [c]) := by
  rcases h with rfl | h
  · exact .inl rfl
  · exact .inr (sl_snoc h c c)

/-! ### the search -/

abbrev QE := (Int × Int) × List UInt8
abbrev qd : QE := ((0, 0), [])

def runP (δ : Int × Int → Nat → Int × Int) : Int × Int → List UInt8 → Int × Int
  | p, [] => p
  | p, b :: l => runP δ (δ p b.toNat) l

theorem runP_snoc (δ : Int × Int → Nat → Int × Int) : ∀ (l : List UInt8) (p : Int × Int) (b : UInt8), runP δ p (l ++ [b]) = δ (runP δ p l) b.toNat
  | [], _, _ => rfl
  | _ :: l, _, b => runP_snoc δ l _ b

/-- entry i is worked on, its bytes below c are done -/
structure BI (δ : Int × Int → Nat → Int × Int) (E dead : Int × Int → Prop) (Q : List QE) (i c : Nat) : Prop where
  pos : 0 < Q.length
  h0 : Q.getD 0 qd = ((0, 0), [])
  run : ∀ k, k < Q.length → runP δ (0, 0) (Q.getD k qd).2 = (Q.getD k qd).1
  inc : ∀ j k, j < k → k < Q.length → sl (Q.getD j qd).2 (Q.getD k qd).2
  nod : ∀ j k, j < k → k < Q.length → (Q.getD j qd).1 ≠ (Q.getD k qd).1
  par : ∀ k, 0 < k → k < Q.length → ∃ j c', (j < i ∨ (j = i ∧ c' < c)) ∧ c' < 256 ∧ j < Q.length ∧ (Q.getD k qd).2 = (Q.getD j qd).2 ++ [UInt8.ofNat c']
  clo : ∀ j c', (j < i ∨ (j = i ∧ c' < c)) → c' < 256 → j < Q.length → dead (δ (Q.getD j qd).1 c') ∨ ∃ k, k < Q.length ∧ (Q.getD k qd).1 = δ (Q.getD j qd).1 c' ∧ sle (Q.getD k qd).2 ((Q.getD j qd).2 ++ [UInt8.ofNat c'])
  eqv : ∀ j, j < i → j < Q.length → E (Q.getD j qd).1
  len : ∀ k, k < Q.length → (Q.getD k qd).2.length ≤ k

variable {δ : Int × Int → Nat → Int × Int} {E dead : Int × Int → Prop} {Q : List QE} {i c : Nat}

theorem BI.init : BI δ E dead [qd] 0 0 where
  pos := by simp
  h0 := rfl
  run := fun k hk => by simp at hk; subst hk; rfl
  inc := fun j k h hk => by simp at hk; omega
  nod := fun j k h hk => by simp at hk; omega
  par := fun k h hk => by simp at hk; omega
  clo := fun j c' h => by omega
  eqv := fun j h => by omega
  len := fun k hk => by simp at hk; subst hk; simp

theorem ofNat_lt {a b : Nat} (h : a < b) (hb : b < 256) : UInt8.ofNat a < UInt8.ofNat b := by
  rw [UInt8.lt_iff_toNat_lt, UInt8.toNat_ofNat', UInt8.toNat_ofNat', Nat.mod_eq_of_lt (by omega), Nat.mod_eq_of_lt (by omega)]
  exact h

/-- all that is in the queue comes before what entry i gives for c -/
theorem BI.before (h : BI δ E dead Q i c) (hi : i < Q.length) (hc : c < 256) {k : Nat} (hk : k < Q.length) : sl (Q.getD k qd).2 ((Q.getD i qd).2 ++ [UInt8.ofNat c]) := by
  rcases Nat.eq_zero_or_pos k with rfl | hk0
  · rw [h.h0]; exact .inl (by simp)
  · obtain ⟨j, c', h1, h2, h3, h4⟩ := h.par k hk0 hk
    rw [h4]
    rcases h1 with h1 | ⟨rfl, h1⟩
    · exact sl_snoc (h.inc j i h1 hi) _ _
    · exact sl_last _ (ofNat_lt h1 hc)

theorem BI.skip (h : BI δ E dead Q i c) (hi : i < Q.length) (hc : c < 256) (hs : dead (δ (Q.getD i qd).1 c) ∨ ∃ k, k < Q.length ∧ (Q.getD k qd).1 = δ (Q.getD i qd).1 c) : BI δ E dead Q i (c + 1) where
  pos := h.pos
  h0 := h.h0
  run := h.run
  inc := h.inc
  nod := h.nod
  par := fun k hk hkl => by
    obtain ⟨j, c', h1, h2⟩ := h.par k hk hkl
    exact ⟨j, c', by omega, h2⟩
  clo := fun j c' hj hc' hjl => by
    by_cases e : j < i ∨ (j = i ∧ c' < c)
    · exact h.clo j c' e hc' hjl
    · have hji : j = i := by omega
      have hcc : c' = c := by omega
      subst hji; subst hcc
      rcases hs with hs | ⟨k, h1, h2⟩
      · exact .inl hs
      · exact .inr ⟨k, h1, h2, .inr (h.before hi hc h1)⟩
  eqv := h.eqv
  len := h.len

theorem getD_snoc_lt {α : Type} {l : List α} {x d : α} {k : Nat} (h : k < l.length) : (l ++ [x]).getD k d = l.getD k d := by
  rw [List.getD_eq_getElem?_getD, List.getD_eq_getElem?_getD, List.getElem?_append_left h]
theorem getD_snoc_eq {α : Type} {l : List α} {x d : α} : (l ++ [x]).getD l.length d = x := by
  rw [List.getD_eq_getElem?_getD, List.getElem?_append_right (Nat.le_refl _)]
  simp

theorem BI.push (h : BI δ E dead Q i c) (hi : i < Q.length) (hc : c < 256) (hs : ∀ k, k < Q.length → (Q.getD k qd).1 ≠ δ (Q.getD i qd).1 c) :
    BI δ E dead (Q ++ [(δ (Q.getD i qd).1 c, (Q.getD i qd).2 ++ [UInt8.ofNat c])]) i (c + 1) := by
  have hcc : (UInt8.ofNat c).toNat = c := by rw [UInt8.toNat_ofNat', Nat.mod_eq_of_lt (by omega)]
  have cases' : ∀ k, k < (Q ++ [(δ (Q.getD i qd).1 c, (Q.getD i qd).2 ++ [UInt8.ofNat c])]).length → k < Q.length ∨ k = Q.length := fun k hk => by simp at hk; omega
  refine ⟨by simp, ?_, fun k hk => ?_, fun j k hjk hk => ?_, fun j k hjk hk => ?_, fun k hk0 hk => ?_, fun j c' hj hc' hjl => ?_, fun j hj hjl => ?_, fun k hk => ?_⟩
  · rw [getD_snoc_lt h.pos]; exact h.h0
  · rcases cases' k hk with hk | rfl
    · rw [getD_snoc_lt hk]; exact h.run k hk
    · rw [getD_snoc_eq]; simp only; rw [runP_snoc, h.run i hi, hcc]
  · rcases cases' k hk with hk | rfl
    · rw [getD_snoc_lt hk, getD_snoc_lt (by omega)]; exact h.inc j k hjk hk
    · rw [getD_snoc_eq, getD_snoc_lt hjk]; exact h.before hi hc hjk
  · rcases cases' k hk with hk | rfl
    · rw [getD_snoc_lt hk, getD_snoc_lt (by omega)]; exact h.nod j k hjk hk
    · rw [getD_snoc_eq, getD_snoc_lt hjk]; exact hs j hjk
  · rcases cases' k hk with hk | rfl
    · obtain ⟨j, c', h1, h2, h3, h4⟩ := h.par k hk0 hk
      exact ⟨j, c', by omega, h2, by simp; omega, by rw [getD_snoc_lt hk, getD_snoc_lt h3]; exact h4⟩
    · exact ⟨i, c, by omega, hc, by simp; omega, by rw [getD_snoc_eq, getD_snoc_lt hi]⟩
  · rcases cases' j hjl with hjl | rfl
    · rw [getD_snoc_lt hjl]
      by_cases e : j < i ∨ (j = i ∧ c' < c)
      · rcases h.clo j c' e hc' hjl with h1 | ⟨k, h1, h2, h3⟩
        · exact .inl h1
        · exact .inr ⟨k, by simp; omega, by rw [getD_snoc_lt h1]; exact h2, by rw [getD_snoc_lt h1]; exact h3⟩
      · have hji : j = i := by omega
        have hcc : c' = c := by omega
        subst hji; subst hcc
        exact .inr ⟨Q.length, by simp, by rw [getD_snoc_eq], by rw [getD_snoc_eq]; exact .inl rfl⟩
    · omega
  · rcases cases' j hjl with hjl | rfl
    · rw [getD_snoc_lt hjl]; exact h.eqv j hj hjl
    · omega
  · rcases cases' k hk with hk | rfl
    · rw [getD_snoc_lt hk]; exact h.len k hk
    · rw [getD_snoc_eq]; have := h.len i hi; simp only [List.length_append, List.length_singleton]; omega

theorem BI.next (h : BI δ E dead Q i 256) (he : E (Q.getD i qd).1) : BI δ E dead Q (i + 1) 0 where
  pos := h.pos
  h0 := h.h0
  run := h.run
  inc := h.inc
  nod := h.nod
  par := fun k hk hkl => by
    obtain ⟨j, c', h1, h2, h3⟩ := h.par k hk hkl
    exact ⟨j, c', by omega, h2, h3⟩
  clo := fun j c' hj hc' hjl => h.clo j c' (by omega) hc' hjl
  eqv := fun j hj hjl => by
    by_cases e : j = i
    · subst e; exact he
    · exact h.eqv j (by omega) hjl
  len := h.len

/-- a list's last letter -/
theorem snoc_ind {α : Type} {p : List α → Prop} (h0 : p []) (h1 : ∀ l a, p l → p (l ++ [a])) (l : List α) : p l := by
  have : ∀ l : List α, p l.reverse := by
    intro l
    induction l with
    | nil => exact h0
    | cons a l ih => rw [List.reverse_cons]; exact h1 _ _ ih
  have := this l.reverse
  rwa [List.reverse_reverse] at this

theorem BI.reach (h : BI δ E dead Q i 0) (hd : ∀ p c, c < 256 → dead p → dead (δ p c)) (w : List UInt8) :
    dead (runP δ (0, 0) w) ∨ (∃ k, k < Q.length ∧ (Q.getD k qd).1 = runP δ (0, 0) w ∧ sle (Q.getD k qd).2 w) ∨ (i < Q.length ∧ sle (Q.getD i qd).2 w) := by
  refine snoc_ind (p := fun w => dead (runP δ (0, 0) w) ∨ (∃ k, k < Q.length ∧ (Q.getD k qd).1 = runP δ (0, 0) w ∧ sle (Q.getD k qd).2 w) ∨ (i < Q.length ∧ sle (Q.getD i qd).2 w)) ?_ ?_ w
  · exact .inr (.inl ⟨0, h.pos, by rw [h.h0]; rfl, by rw [h.h0]; exact .inl rfl⟩)
  · intro u b ih
    have hb : UInt8.ofNat b.toNat = b := by simp
    rw [runP_snoc]
    rcases ih with ih | ⟨k, h1, h2, h3⟩ | ⟨h1, h2⟩
    · exact .inl (hd _ _ (UInt8.toNat_lt b) ih)
    · by_cases hki : k < i
      · rcases h.clo k b.toNat (.inl hki) (UInt8.toNat_lt b) h1 with h4 | ⟨k', h5, h6, h7⟩
        · left; rw [← h2]; exact h4
        · right; left
          refine ⟨k', h5, by rw [h6, h2], ?_⟩
          rw [hb] at h7
          exact sle_trans h7 (sle_snoc h3 b)
      · right; right
        have h5 : sle (Q.getD i qd).2 (Q.getD k qd).2 := by
          by_cases e : k = i
          · subst e; exact .inl rfl
          · exact .inr (h.inc i k (by omega) h1)
        exact ⟨by omega, sle_trans (sle_trans h5 h3) (.inr (.inl (by simp)))⟩
    · exact .inr (.inr ⟨h1, sle_trans h2 (.inr (.inl (by simp)))⟩)

theorem BI.found (h : BI δ E dead Q i 0) (hi : i < Q.length) (hd : ∀ p c, c < 256 → dead p → dead (δ p c)) (hde : ∀ p, dead p → E p) {w : List UInt8} (hw : ¬ E (runP δ (0, 0) w)) :
    sle (Q.getD i qd).2 w := by
  rcases h.reach hd w with h1 | ⟨k, h1, h2, h3⟩ | ⟨_, h1⟩
  · exact absurd (hde _ h1) hw
  · by_cases hki : k < i
    · exact absurd (by rw [← h2]; exact h.eqv k hki h1) hw
    · by_cases e : k = i
      · subst e; exact h3
      · exact sle_trans (.inr (h.inc i k (by omega) h1)) h3
  · exact h1

theorem BI.none (h : BI δ E dead Q Q.length 0) (hd : ∀ p c, c < 256 → dead p → dead (δ p c)) (hde : ∀ p, dead p → E p) (w : List UInt8) : E (runP δ (0, 0) w) := by
  rcases h.reach hd w with h1 | ⟨k, h1, h2, h3⟩ | ⟨h1, _⟩
  · exact hde _ h1
  · rw [← h2]; exact h.eqv k h1 h1
  · omega

/-- numbers below M, each once: at most M -/
theorem nodup_bound : ∀ (M : Nat) (l : List Nat), l.Nodup → (∀ x ∈ l, x < M) → l.length ≤ M
  | 0, l, _, h => by
    cases l with
    | nil => simp
    | cons a l => exact absurd (h a (by simp)) (by omega)
  | M + 1, l, hn, h => by
    have h1 := nodup_bound M (l.erase M) (hn.erase M) (fun x hx => by
      have hx' := (hn.mem_erase_iff).1 hx
      have := h x hx'.2
      have := hx'.1
      omega)
    rw [List.length_erase] at h1
    split at h1 <;> omega

/-- a queue over a bounded set of pairs is bounded -/
theorem BI.bound (h : BI δ E dead Q i c) {na nb : Nat} (hb : ∀ k, k < Q.length → -1 ≤ (Q.getD k qd).1.1 ∧ (Q.getD k qd).1.1 < na ∧ -1 ≤ (Q.getD k qd).1.2 ∧ (Q.getD k qd).1.2 < nb) : Q.length ≤ (na + 1) * (nb + 1) := by
  let code : QE → Nat := fun e => (e.1.1 + 1).toNat * (nb + 1) + (e.1.2 + 1).toNat
  have hl := nodup_bound ((na + 1) * (nb + 1)) (Q.map code) ?_ ?_
  · simpa using hl
  · refine List.pairwise_iff_getElem.2 fun j k hj hk hjk heq => ?_
    simp only [List.length_map] at hj hk
    have e1 : ∀ k (hk : k < Q.length), Q[k] = Q.getD k qd := fun k hk => by rw [List.getD_eq_getElem?_getD, List.getElem?_eq_getElem hk]; rfl
    simp only [List.getElem_map, e1 k hk, e1 j hj] at heq
    obtain ⟨a1, a2, a3, a4⟩ := hb j hj
    obtain ⟨b1, b2, b3, b4⟩ := hb k hk
    have hd := h.nod j k hjk hk
    apply hd
    simp only [code] at heq
    have key : ∀ x1 x2 y1 y2 m : Nat, y1 < m → y2 < m → x1 * m + y1 = x2 * m + y2 → x1 = x2 ∧ y1 = y2 := by
      intro x1 x2 y1 y2 m h1 h2 h3
      have hx : x1 = x2 := by
        have e1 : (x1 * m + y1) / m = x1 := by rw [Nat.add_comm, Nat.add_mul_div_right _ _ (by omega), Nat.div_eq_of_lt h1]; omega
        have e2 : (x2 * m + y2) / m = x2 := by rw [Nat.add_comm, Nat.add_mul_div_right _ _ (by omega), Nat.div_eq_of_lt h2]; omega
        rw [← e1, ← e2, h3]
      subst hx
      exact ⟨rfl, by omega⟩
    obtain ⟨k1, k2⟩ := key _ _ _ _ _ (by omega) (by omega) heq
    exact Prod.ext (by omega) (by omega)
  · intro x hx
    obtain ⟨e, he, rfl⟩ := List.mem_map.1 hx
    obtain ⟨k, hk, rfl⟩ := List.mem_iff_getElem.1 he
    have e1 : Q[k] = Q.getD k qd := by rw [List.getD_eq_getElem?_getD, List.getElem?_eq_getElem hk]; rfl
    rw [e1]
    obtain ⟨b1, b2, b3, b4⟩ := hb k hk
    simp only [code]
    have h1 : ((Q.getD k qd).1.1 + 1).toNat ≤ na := by omega
    have h2 : ((Q.getD k qd).1.2 + 1).toNat ≤ nb := by omega
    calc _ ≤ na * (nb + 1) + nb := Nat.add_le_add (Nat.mul_le_mul_right _ h1) h2
      _ < (na + 1) * (nb + 1) := by rw [Nat.add_mul]; omega
end Go.AM
