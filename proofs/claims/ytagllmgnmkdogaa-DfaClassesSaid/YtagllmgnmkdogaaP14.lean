/- Minimize, third part: cutting keeps the language; numbers as strings of bytes. -/
import Derived.Test.YtagllmgnmkdogaaP13
namespace Go.AM
open Go

variable {c : List Int} {nx : List (List Int)} {ac : List Int} {L : List Bool}

theorem pnx_length : (pnx L nx).length = nx.length := by simp [pnx]
theorem pnx_getD {s : Nat} (hs : s < nx.length) : (pnx L nx).getD s [] = (nx.getD s []).map (gP L) := by
  unfold pnx
  rw [List.getD_eq_getElem?_getD, List.getElem?_map, List.getD_eq_getElem?_getD, List.getElem?_eq_getElem hs]
  simp only [Option.map_some, Option.getD_some]
theorem pnx_row {s : Nat} (hs : s < nx.length) : ((pnx L nx).getD s []).length = (nx.getD s []).length := by rw [pnx_getD hs, List.length_map]
theorem pnx_at {s j : Nat} (hs : s < nx.length) (hj : j < (nx.getD s []).length) : ((pnx L nx).getD s []).getD j 0 = gP L ((nx.getD s []).getD j 0) := by
  rw [pnx_getD hs]
  generalize nx.getD s [] = r at hj ⊢
  rw [List.getD_eq_getElem?_getD, List.getElem?_map, List.getD_eq_getElem?_getD, List.getElem?_eq_getElem hj]
  simp only [Option.map_some, Option.getD_some]

theorem gP_range (t : Int) : gP L t = -1 ∨ gP L t = t := by
  unfold gP
  split
  · exact .inl rfl
  · exact .inr rfl

theorem prune_valid (V : VDfa c nx ac) : VDfa c (pnx L nx) ac := by
  have n1 := V.n1
  refine ⟨V.c256, by rw [pnx_length]; exact n1, by rw [pnx_length]; exact V.n500, by rw [pnx_length]; exact V.al, by rw [pnx_row (by omega)]; exact V.k1, by rw [pnx_row (by omega)]; exact V.cr,
    fun s hs => ?_, fun s hs j hj => ?_, fun s hs => V.ar s (by rw [pnx_length] at hs; exact hs)⟩
  · rw [pnx_length] at hs
    rw [pnx_row hs, pnx_row (by omega)]
    exact V.rl s hs
  · rw [pnx_length] at hs
    rw [pnx_row (by omega)] at hj
    rw [pnx_length, pnx_at hs (by rw [V.rl s hs]; exact hj)]
    have := V.tr s hs j hj
    rcases gP_range (L := L) ((nx.getD s []).getD j 0) with e | e <;> rw [e] <;> omega

theorem prune_step (V : VDfa c nx ac) {s : Int} (hs : s < nx.length) {b : Nat} (hb : b < 256) : stepZ c (pnx L nx) s b = gP L (stepZ c nx s b) := by
  unfold stepZ
  by_cases h : s < 0
  · rw [if_pos h, if_pos h]; unfold gP; rw [if_neg (by omega)]
  · have hc := V.cr b hb
    rw [if_neg h, if_neg h, pnx_at (by omega) (by rw [V.rl _ (by omega)]; omega)]

theorem prune_lang (V : VDfa c nx ac) (hl : L.length = nx.length) (hL : ∀ s : Nat, s < nx.length → (L.getD s false = true ↔ Lv c nx ac s)) :
    ∀ (w : List UInt8) {s : Int}, -1 ≤ s → s < nx.length → accZ ac (runZ c (pnx L nx) s w) = accZ ac (runZ c nx s w)
  | [], _, _, _ => rfl
  | b :: l, s, h0, h1 => by
    show accZ ac (runZ c (pnx L nx) (stepZ c (pnx L nx) s b.toNat) l) = accZ ac (runZ c nx (stepZ c nx s b.toNat) l)
    rw [prune_step V h1 (UInt8.toNat_lt b)]
    have h := V.step h1 (UInt8.toNat_lt b)
    generalize stepZ c nx s b.toNat = t at h
    by_cases hd : 0 ≤ t ∧ L.getD t.toNat false = false
    · have e : gP L t = -1 := by unfold gP; rw [if_pos hd]
      rw [e, runZ_neg _ _ l (by omega) (by omega)]
      have hn : ¬ Lv c nx ac ((t.toNat : Nat) : Int) := fun hh => by
        have := (hL t.toNat (by omega)).2 hh
        rw [hd.2] at this; cases this
      have et : ((t.toNat : Nat) : Int) = t := by omega
      rw [et] at hn
      have : accZ ac (runZ c nx t l) = -1 := Classical.byContradiction fun hh => hn ⟨l, hh⟩
      rw [this]
      rfl
    · have e : gP L t = t := by unfold gP; rw [if_neg hd]
      rw [e]
      exact prune_lang V hl hL l h.1 h.2

/-- transitions lead to live states only -/
def Trim (c : List Int) (nx : List (List Int)) (ac : List Int) : Prop := ∀ s : Int, s < nx.length → ∀ b, b < 256 → 0 ≤ stepZ c nx s b → Lv c nx ac (stepZ c nx s b)

theorem prune_trim (V : VDfa c nx ac) (hl : L.length = nx.length) (hL : ∀ s : Nat, s < nx.length → (L.getD s false = true ↔ Lv c nx ac s)) : Trim c (pnx L nx) ac := by
  intro s hs b hb hpos
  rw [pnx_length] at hs
  rw [prune_step V hs hb] at hpos ⊢
  have h := V.step hs hb
  generalize stepZ c nx s b = t at h hpos ⊢
  by_cases hd : 0 ≤ t ∧ L.getD t.toNat false = false
  · have e : gP L t = -1 := by unfold gP; rw [if_pos hd]
    rw [e] at hpos; omega
  · have e : gP L t = t := by unfold gP; rw [if_neg hd]
    rw [e] at hpos ⊢
    have ht : L.getD t.toNat false = true := by
      cases hc : L.getD t.toNat false with
      | true => rfl
      | false => exact absurd ⟨hpos, hc⟩ hd
    have et : ((t.toNat : Nat) : Int) = t := by omega
    have := (hL t.toNat (by omega)).1 ht
    rw [et] at this
    obtain ⟨x, hx⟩ := this
    exact ⟨x, by rw [prune_lang V hl hL x (by omega) h.2]; exact hx⟩

/-! ### numbers as bytes -/

def wb (v : Int) (i : Nat) : Int := IntKind.u8.wrap (v.fdiv (2 ^ (8 * i)))
def wide1 (v : Int) : List Int := (List.range 8).map (wb v)
def wideI (l : List Int) : List Int := l.flatMap wide1
def wideS (l : List Int) : List UInt8 := (wideI l).map fun n => UInt8.ofNat n.toNat

theorem wideI_append (l m : List Int) : wideI (l ++ m) = wideI l ++ wideI m := by simp [wideI]

theorem wrap_u8_mod (z : Int) : IntKind.u8.wrap z = z % 256 := rfl

theorem wb_range (v : Int) (i : Nat) : 0 ≤ wb v i ∧ wb v i < 256 := by
  unfold wb
  rw [wrap_u8_mod]
  omega

theorem wb_eq (v : Int) (i : Nat) : wb v i = v / 2 ^ (8 * i) % 256 := by
  unfold wb
  rw [wrap_u8_mod, Int.fdiv_eq_ediv_of_nonneg v (Int.le_of_lt (Int.pow_pos (by omega)))]

theorem wide1_inj {v u : Int} (hv : wfInt .i64 v) (hu : wfInt .i64 u) (h : ∀ i, i < 8 → wb v i = wb u i) : v = u := by
  have hv' : -9223372036854775808 ≤ v ∧ v ≤ 9223372036854775807 := hv
  have hu' : -9223372036854775808 ≤ u ∧ u ≤ 9223372036854775807 := hu
  have h0 := h 0 (by omega)
  have h1 := h 1 (by omega)
  have h2 := h 2 (by omega)
  have h3 := h 3 (by omega)
  have h4 := h 4 (by omega)
  have h5 := h 5 (by omega)
  have h6 := h 6 (by omega)
  have h7 := h 7 (by omega)
  rw [wb_eq, wb_eq] at h0 h1 h2 h3 h4 h5 h6 h7
  have p0 : (2 : Int) ^ (8 * 0) = 1 := rfl
  have p1 : (2 : Int) ^ (8 * 1) = 256 := rfl
  have p2 : (2 : Int) ^ (8 * 2) = 65536 := rfl
  have p3 : (2 : Int) ^ (8 * 3) = 16777216 := rfl
  have p4 : (2 : Int) ^ (8 * 4) = 4294967296 := rfl
  have p5 : (2 : Int) ^ (8 * 5) = 1099511627776 := rfl
  have p6 : (2 : Int) ^ (8 * 6) = 281474976710656 := rfl
  have p7 : (2 : Int) ^ (8 * 7) = 72057594037927936 := rfl
  rw [p0] at h0; rw [p1] at h1; rw [p2] at h2; rw [p3] at h3; rw [p4] at h4; rw [p5] at h5; rw [p6] at h6; rw [p7] at h7
  omega

theorem wide1_bytes {v u : Int} (h : (wide1 v).map (fun n => UInt8.ofNat n.toNat) = (wide1 u).map (fun n => UInt8.ofNat n.toNat)) : ∀ i, i < 8 → wb v i = wb u i := by
  intro i hi
  have e := congrArg (fun l => (l.getD i 0).toNat) h
  simp only [wide1, List.map_map] at e
  rw [map_range_getD hi, map_range_getD hi] at e
  have h1 := wb_range v i
  have h2 := wb_range u i
  simp only [Function.comp_apply] at e
  rw [UInt8.toNat_ofNat', UInt8.toNat_ofNat', Nat.mod_eq_of_lt (by omega), Nat.mod_eq_of_lt (by omega)] at e
  omega

theorem wideS_inj : ∀ {l m : List Int}, (∀ v ∈ l, wfInt .i64 v) → (∀ v ∈ m, wfInt .i64 v) → wideS l = wideS m → l = m
  | [], [], _, _, _ => rfl
  | [], u :: m, _, _, h => by simp [wideS, wideI, wide1] at h
  | v :: l, [], _, _, h => by simp [wideS, wideI, wide1] at h
  | v :: l, u :: m, hl, hm, h => by
    have h' : (wide1 v).map (fun n => UInt8.ofNat n.toNat) ++ wideS l = (wide1 u).map (fun n => UInt8.ofNat n.toNat) ++ wideS m := by
      simpa [wideS, wideI] using h
    obtain ⟨e1, e2⟩ := List.append_inj h' (by simp [wide1])
    rw [wide1_inj (hl v (by simp)) (hm u (by simp)) (wide1_bytes e1), wideS_inj (fun x hx => hl x (List.mem_cons_of_mem _ hx)) (fun x hx => hm x (List.mem_cons_of_mem _ hx)) e2]
end Go.AM
