/- The laws on automata, plain. -/
import Derived.Test.YtdjbokdohackdaaP40
import Derived.Test.YtdjbokdohackdaaQ3
namespace Go.AM
open Go

abbrev KArc : Kind := .pair (.int .i64) (.pair (.int .i64) (.pair .bool (.pair (.arr 4 (.int .u64)) .unit)))
abbrev KNfa : Kind := .pair (.int .i64) (.pair (.int .i64) (.pair (.slice KArc) (.pair (.slice (.int .i64)) .unit)))

theorem u8_nat {z : Int} (h0 : 0 ≤ z) (h1 : z ≤ 255) : ∃ b : Nat, b < 256 ∧ z = (b : Int) := ⟨z.toNat, by omega, by omega⟩

theorem pure303 : ∀ x, wfL [KNfa] x → p303 x = some true := by
  rintro ⟨⟨st, start, arcs, acc, ⟨⟩⟩, ⟨⟩⟩ ⟨⟨_, _, ⟨harc, _⟩, _⟩, _⟩
  simp only [p303]
  rw [awake_true, Option.bind_some, if_neg (by decide)]
  by_cases h1 : (arcs.length : Int) > 2000
  · rw [if_pos (ct h1)]
  · rw [if_neg (cf h1)]
    have hal : arcs.length ≤ 9223372036854775807 := by omega
    obtain ⟨b, e1, f1⟩ := p39_spec (st := st) (start := start) (acc := acc) hal
    obtain ⟨b', e2, f2⟩ := p45_spec (st := st) (start := start) (acc := acc) hal
    rw [e1, Option.bind_some, e2, Option.bind_some]
    have : b = b' := by
      rcases b with _ | _ <;> rcases b' with _ | _ <;> simp_all
    rw [this]; simp

theorem pure304 : ∀ x, wfL [KNfa, .slice (.int .i64)] x → p304 x = some true := by
  rintro ⟨⟨st, start, arcs, acc, ⟨⟩⟩, l, ⟨⟩⟩ ⟨⟨_, _, ⟨harc, _⟩, _⟩, _⟩
  have hal : arcs.length ≤ 9223372036854775807 := Nat.le_trans harc (by unfold maxLen; omega)
  simp only [p304]
  rw [awake_true, Option.bind_some, if_neg (by decide)]
  obtain ⟨b, e1, f1⟩ := p314_spec (st := st) (start := start) (acc := acc) hal
  rw [e1, Option.bind_some]
  cases b with
  | false => rw [if_pos (by decide)]
  | true =>
    obtain ⟨N, n40, a60, C, V⟩ := f1 rfl
    rw [if_neg (by decide)]
    by_cases h1 : (l.length : Int) > 60
    · rw [if_pos (ct h1)]
    · rw [if_neg (cf h1)]
      have s1 := clo_elem (arcs := arcs) (N := N) (l := l)
      rw [p41_spec C.hN C.hN2 C.har hal (by omega), Option.bind_some, p48_spec C.hN C.hN2 C.har hal (by omega), Option.bind_some, p316_refl (by omega), Option.bind_some, if_pos rfl,
        p41_spec C.hN C.hN2 C.har hal (by omega), Option.bind_some, clo_clo C.hN C.har, p316_refl (by omega), Option.bind_some]

theorem pure305 : ∀ x, wfL [KNfa, .slice (.int .i64), .int .u8] x → p305 x = some true := by
  rintro ⟨⟨st, start, arcs, acc, ⟨⟩⟩, l, b8, ⟨⟩⟩ ⟨⟨_, _, ⟨harc, _⟩, _⟩, _, ⟨b0, b1⟩, _⟩
  have hal : arcs.length ≤ 9223372036854775807 := Nat.le_trans harc (by unfold maxLen; omega)
  obtain ⟨b, hb, rfl⟩ : ∃ b : Nat, b < 256 ∧ b8 = (b : Int) := by
    exact u8_nat b0 b1
  simp only [p305]
  rw [awake_true, Option.bind_some, if_neg (by decide)]
  obtain ⟨c, e1, f1⟩ := p314_spec (st := st) (start := start) (acc := acc) hal
  rw [e1, Option.bind_some]
  cases c with
  | false => rw [if_pos (by decide)]
  | true =>
    obtain ⟨N, n40, a60, C, V⟩ := f1 rfl
    rw [if_neg (by decide)]
    by_cases h1 : (l.length : Int) > 60
    · rw [if_pos (ct h1)]
    · rw [if_neg (cf h1)]
      have s1 : (stp arcs N l b).length ≤ N := clo_length
      rw [p43_spec C.hN C.hN2 C.har C.hal (by omega) hb, Option.bind_some, p49_spec C.hN C.hN2 C.har C.hal (by omega) hb, Option.bind_some, p316_refl (by omega), Option.bind_some]

theorem pure307 : ∀ x, wfL [KNfa, .str] x → p307 x = some true := by
  rintro ⟨⟨st, start, arcs, acc, ⟨⟩⟩, w, ⟨⟩⟩ ⟨⟨_, _, ⟨harc, _⟩, _⟩, _⟩
  have hal : arcs.length ≤ 9223372036854775807 := Nat.le_trans harc (by unfold maxLen; omega)
  simp only [p307]
  rw [awake_true, Option.bind_some, if_neg (by decide)]
  obtain ⟨c, e1, f1⟩ := p314_spec (st := st) (start := start) (acc := acc) hal
  rw [e1, Option.bind_some]
  cases c with
  | false => rw [if_pos (by decide)]
  | true =>
    obtain ⟨N, n40, a60, C, V⟩ := f1 rfl
    rw [if_neg (by decide)]
    by_cases h1 : (w.length : Int) > 30
    · rw [if_pos (ct h1)]
    · rw [if_neg (cf h1), p320_spec C (by omega), Option.bind_some, p23_spec C (by omega), Option.bind_some]
      simp

theorem pure308 : ∀ x, wfL [KNfa, .str, .str] x → p308 x = some true := by
  rintro ⟨⟨st, start, arcs, acc, ⟨⟩⟩, w, v, ⟨⟩⟩ ⟨⟨_, _, ⟨harc, _⟩, _⟩, _⟩
  have hal : arcs.length ≤ 9223372036854775807 := Nat.le_trans harc (by unfold maxLen; omega)
  simp only [p308]
  rw [awake_true, Option.bind_some, if_neg (by decide)]
  obtain ⟨c, e1, f1⟩ := p314_spec (st := st) (start := start) (acc := acc) hal
  rw [e1, Option.bind_some]
  cases c with
  | false => rw [if_pos (by decide)]
  | true =>
    obtain ⟨N, n40, a60, C, V⟩ := f1 rfl
    rw [if_neg (by decide)]
    by_cases h1 : (w.length : Int) > 20
    · rw [if_pos (ct h1)]
    · rw [if_neg (cf h1)]
      by_cases h2 : (v.length : Int) > 20
      · rw [if_pos (ct h2)]
      · rw [if_neg (cf h2), p41_spec C.hN C.hN2 C.har hal (by simp), Option.bind_some, if_pos (ct (by unfold lim; omega))]
        have hlen : (w ++ v).length ≤ 40 := by rw [List.length_append]; omega
        generalize w ++ v = u at hlen
        have e8 : limit L308_8 (((), clo arcs N [start], u, (0 : Int), ()), ((st, start, arcs, acc, ()), ())) = some (((), runN arcs N (clo arcs N [start]) u, u, ()), ((st, start, arcs, acc, ()), ())) :=
          for_rule (L := L308_8) (N := u.length) (S := fun i => (((), runN arcs N (clo arcs N [start]) (u.take i), u, (i : Int), ()), ((st, start, arcs, acc, ()), ())))
            (fun i hi n => by
              have hs := runN_small (arcs := arcs) (u.take i) (clo_elem (arcs := arcs) (N := N) (l := [start]))
              have e43 := p43_spec (start := start) (acc := acc) (l := runN arcs N (clo arcs N [start]) (u.take i)) C.hN C.hN2 C.har C.hal (by omega) (UInt8.toNat_lt (u.getD i 0))
              simp only [L308_8, Int.toNat_natCast]
              rw [if_pos (lt_nat hi), if_pos (in_range hi), e43, Option.bind_some, runN_take hi, wrap_nat (by omega)])
            (fun n => by simp only [L308_8]; rw [if_neg nlt_nat, List.take_length]) (by omega)
        rw [e8]
        simp only [Option.bind_some]
        have hs := runN_small (arcs := arcs) u (clo_elem (arcs := arcs) (N := N) (l := [start]))
        have e320 := p320_spec (start := start) C (w := u) (by omega)
        generalize runN arcs N (clo arcs N [start]) u = q at hs e320
        have e12 : limit L308_12 (((), q, u, (0 : Int), ()), ((st, start, arcs, acc, ()), ())) = some (.inr (((), q, u, ()), ((st, start, arcs, acc, ()), ()))) :=
          for_rule (L := L308_12) (N := q.length) (S := fun i => (((), q, u, (i : Int), ()), ((st, start, arcs, acc, ()), ())))
            (fun i hi n => by
              have hq := hs.2 _ (getD_mem (d := 0) hi)
              have := C.hN
              simp only [L308_12, Int.toNat_natCast]
              rw [if_pos (lt_nat hi), if_pos (in_range hi), if_neg (cf (by omega)), if_pos (in_range hi), if_neg (cf (by omega)), wrap_nat (by omega)])
            (fun n => by simp only [L308_12]; rw [if_neg nlt_nat]) (by omega)
        rw [e12]
        simp only [Option.bind_some, Sum.elim_inr]
        rw [e320, Option.bind_some, p52_spec (fun x hx => by rw [C.acl]; exact hs.2 x hx) (by omega), Option.bind_some]
        simp

/-! ### more states lead to more states -/

section
variable {N : Nat} {arcs : List Arc}

theorem clo_sorted (l : List Int) : (clo arcs N l).Pairwise (· < ·) := by
  unfold clo
  refine List.pairwise_map.2 (List.Pairwise.imp (fun {a b} h => ?_) (List.pairwise_lt_range.filter _))
  show (a : Int) < (b : Int)
  omega

theorem rc_mono {l m : List Int} (h : ∀ x ∈ m, x ∈ l) {q : Nat} (hq : RC arcs N m q) : RC arcs N l q := by
  induction hq with
  | base q h1 h2 => exact .base q h1 (h _ h2)
  | step i p q h1 h2 h3 h4 _ ih => exact .step i p q h1 h2 h3 h4 ih

theorem stp_mono {l m : List Int} (h : ∀ x ∈ m, x ∈ l) (b : Nat) : ∀ x ∈ stp arcs N m b, x ∈ stp arcs N l b := by
  intro x hx
  obtain ⟨q, rfl, h1, h2⟩ := mem_clo.1 hx
  refine mem_clo.2 ⟨q, rfl, h1, rc_mono (fun y hy => ?_) h2⟩
  unfold tgt at hy ⊢
  obtain ⟨a, ha, rfl⟩ := List.mem_map.1 hy
  obtain ⟨a1, a2⟩ := List.mem_filter.1 ha
  refine List.mem_map.2 ⟨a, List.mem_filter.2 ⟨a1, ?_⟩, rfl⟩
  simp only [Bool.and_eq_true] at a2 ⊢
  refine ⟨⟨a2.1.1, ?_⟩, a2.2⟩
  have h3 := a2.1.2
  by_cases hb : a.1.toNat < N
  · unfold frF at h3 ⊢
    rw [map_range_getD hb] at h3 ⊢
    simp only [decide_eq_true_eq] at h3 ⊢
    exact rc_mono h h3
  · unfold frF at h3
    rw [List.getD_eq_getElem?_getD, List.getElem?_eq_none (by simp; omega)] at h3
    cases h3
end

theorem sorted_get {l : List Int} (h : l.Pairwise (· < ·)) {i j : Nat} (hij : i < j) (hj : j < l.length) : l.getD i 0 < l.getD j 0 := by
  rw [List.getD_eq_getElem?_getD, List.getD_eq_getElem?_getD, List.getElem?_eq_getElem hj, List.getElem?_eq_getElem (by omega)]
  exact List.pairwise_iff_getElem.1 h i j (by omega) hj hij

theorem idx_get {l : List Int} {x : Int} (h : x ∈ l) : l.idxOf x < l.length ∧ l.getD (l.idxOf x) 0 = x := by
  have h1 := List.idxOf_lt_length_of_mem h
  exact ⟨h1, by rw [List.getD_eq_getElem?_getD, List.getElem?_eq_getElem h1]; simp⟩

theorem l306_10 {l m : List Int} (sl : l.Pairwise (· < ·)) {k i : Nat} (hi : i < m.length) (hx : m.getD i 0 ∈ l) (hk : k ≤ l.idxOf (m.getD i 0)) (hl : l.length ≤ 2000) :
    limit L306_10 ((l, m, (k : Int), (i : Int), ()), ()) = some ((l, m, ((l.idxOf (m.getD i 0) : Nat) : Int), (i : Int), ()), ()) := by
  obtain ⟨p1, p2⟩ := idx_get hx
  generalize hp : l.idxOf (m.getD i 0) = p at hk p1 p2
  have h := for_rule (L := L306_10) (N := p - k) (S := fun j => ((l, m, ((k + j : Nat) : Int), (i : Int), ()), ())) (r := ((l, m, (p : Int), (i : Int), ()), ()))
    (fun j hj n => by
      have hlt : k + j < l.length := by omega
      have := sorted_get sl (show k + j < p by omega) p1
      simp only [L306_10, Int.toNat_natCast]
      rw [if_pos (lt_nat hlt), if_pos (in_range hlt), if_pos (in_range hi), if_pos (ct (by omega)), wrap_nat (by omega)]
      rfl)
    (fun n => by
      have e : k + (p - k) = p := by omega
      simp only [L306_10, Int.toNat_natCast, e]
      rw [if_pos (lt_nat p1), if_pos (in_range p1), if_pos (in_range hi), if_neg (cf (by omega))]) (by omega)
  exact h

theorem l306_8 {l m : List Int} (sl : l.Pairwise (· < ·)) (sm : m.Pairwise (· < ·)) (sub : ∀ x ∈ m, x ∈ l) (hl : l.length ≤ 2000) (hm : m.length ≤ 2000) :
    limit L306_8 ((l, m, (0 : Int), (0 : Int), ()), ()) = some (.inr ((), ())) := by
  let pos : Nat → Nat := fun i => match i with | 0 => 0 | j + 1 => l.idxOf (m.getD j 0)
  have hpos : ∀ i, i < m.length → pos i ≤ l.idxOf (m.getD i 0) := by
    intro i hi
    cases i with
    | zero => exact Nat.zero_le _
    | succ j =>
      obtain ⟨a1, a2⟩ := idx_get (sub _ (getD_mem (d := 0) (show j < m.length by omega)))
      obtain ⟨b1, b2⟩ := idx_get (sub _ (getD_mem (d := 0) hi))
      have : m.getD j 0 < m.getD (j + 1) 0 := sorted_get sm (Nat.lt_succ_self j) hi
      show l.idxOf (m.getD j 0) ≤ _
      apply Classical.byContradiction
      intro hc
      have := sorted_get sl (show l.idxOf (m.getD (j + 1) 0) < l.idxOf (m.getD j 0) by omega) a1
      omega
  exact for_rule (L := L306_8) (N := m.length) (S := fun i => ((l, m, ((pos i : Nat) : Int), (i : Int), ()), ())) (r := .inr ((), ()))
    (fun i hi n => by
      obtain ⟨a1, a2⟩ := idx_get (sub _ (getD_mem (d := 0) hi))
      have e := l306_10 sl hi (sub _ (getD_mem (d := 0) hi)) (hpos i hi) hl
      simp only [L306_8]
      rw [if_pos (lt_nat hi), e]
      simp only [Option.bind_some, Int.toNat_natCast]
      rw [if_neg (cf (by omega)), if_pos (in_range a1), if_pos (in_range hi), if_neg (cnf a2), wrap_nat (by omega)])
    (fun n => by simp only [L306_8]; rw [if_neg nlt_nat]) (by omega)

theorem pure306 : ∀ x, wfL [KNfa, .slice (.int .i64), .int .u8] x → p306 x = some true := by
  rintro ⟨⟨st, start, arcs, acc, ⟨⟩⟩, l, b8, ⟨⟩⟩ ⟨⟨_, _, ⟨harc, _⟩, _⟩, _, ⟨b0, b1⟩, _⟩
  have hal : arcs.length ≤ 9223372036854775807 := Nat.le_trans harc (by unfold maxLen; omega)
  obtain ⟨b, hb, rfl⟩ : ∃ b : Nat, b < 256 ∧ b8 = (b : Int) := by
    exact u8_nat b0 b1
  simp only [p306]
  rw [awake_true, Option.bind_some, if_neg (by decide)]
  obtain ⟨c, e1, f1⟩ := p314_spec (st := st) (start := start) (acc := acc) hal
  rw [e1, Option.bind_some]
  cases c with
  | false => rw [if_pos (by decide)]
  | true =>
    obtain ⟨N, n40, a60, C, V⟩ := f1 rfl
    rw [if_neg (by decide)]
    by_cases h1 : (l.length : Int) > 60
    · rw [if_pos (ct h1)]
    · rw [if_neg (cf h1)]
      by_cases h2 : (l.length : Int) = 0
      · rw [if_pos (ct h2)]
      · rw [if_neg (cf h2), p43_spec C.hN C.hN2 C.har C.hal (by omega) hb, Option.bind_some, if_pos (ct (by omega))]
        have el : (l.take (l.length : Int).toNat).drop (1 : Int).toNat = l.drop 1 := by simp
        rw [el, p43_spec C.hN C.hN2 C.har C.hal (by simp; omega) hb, Option.bind_some]
        have k1 : (stp arcs N l b).length ≤ N := clo_length
        have k2 : (stp arcs N (l.drop 1) b).length ≤ N := clo_length
        rw [l306_8 (l := stp arcs N l b) (m := stp arcs N (l.drop 1) b) (clo_sorted _) (clo_sorted _) (stp_mono (fun x hx => List.mem_of_mem_drop hx) b) (by omega) (by omega)]
        rfl
end Go.AM
