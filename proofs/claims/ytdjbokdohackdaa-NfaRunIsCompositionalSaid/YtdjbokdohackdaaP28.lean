/- Steps of a set of states, by the program and by the reference. -/
import Derived.Test.YtdjbokdohackdaaP27
namespace Go.AM
open Go

noncomputable def hasB (s : List Int) (b : Nat) : Bool := (p60 (s, (b : Int), ())).getD false

theorem u8_div (b : Nat) (hb : b < 256) : IntKind.u8.wrap ((b : Int).tdiv 64) = ((b / 64 : Nat) : Int) ∧ ((b : Int).tmod 64) = ((b % 64 : Nat) : Int) := by
  have e : ∀ b : Fin 256, IntKind.u8.wrap (((b.val : Nat) : Int).tdiv 64) = ((b.val / 64 : Nat) : Int) ∧ (((b.val : Nat) : Int).tmod 64) = ((b.val % 64 : Nat) : Int) := by decide +kernel
  exact e ⟨b, hb⟩

theorem p60_spec (s : List Int) {b : Nat} (hb : b < 256) : p60 (s, (b : Int), ()) = some (hasB s b) := by
  have h : (p60 (s, (b : Int), ())).isSome = true := by
    obtain ⟨e1, e2⟩ := u8_div b hb
    simp only [p60]
    have h64 : ¬ decide ((64 : Int) = 0) = true := by decide
    rw [if_neg h64, if_pos (ct (by rw [e1]; omega)), if_neg h64, if_pos (ct (by rw [e2]; omega))]
    rfl
  unfold hasB
  cases hc : p60 (s, (b : Int), ()) with
  | none => rw [hc] at h; cases h
  | some v => rfl

theorem p65_spec (s : List Int) {b : Nat} (hb : b < 256) : p65 (s, (b : Int), ()) = some (hasB s b) := by
  have e : p65 = p60 := rfl
  rw [e]; exact p60_spec s hb

theorem hasB_zero {b : Nat} (hb : b < 256) : hasB [0, 0, 0, 0] b = false := by
  have e : ∀ b : Fin 256, hasB [0, 0, 0, 0] b.val = false := by decide +kernel
  exact e ⟨b, hb⟩

noncomputable def tgt (arcs : List Arc) (fr : List Bool) (b : Nat) : List Int := (arcs.filter fun a => !a.2.2.1 && fr.getD a.1.toNat false && hasB (setOf a) b).map fun a => a.2.1
open Classical in
noncomputable def frF (arcs : List Arc) (N : Nat) (l : List Int) : List Bool := (List.range N).map fun q => decide (RC arcs N l q)
noncomputable def stp (arcs : List Arc) (N : Nat) (l : List Int) (b : Nat) : List Int := clo arcs N (tgt arcs (frF arcs N l) b)

section
variable {N : Nat} {st start : Int} {arcs : List Arc} {acc : List Int} {l : List Int}

theorem mem_clo {x : Int} : x ∈ clo arcs N l ↔ ∃ q : Nat, x = (q : Int) ∧ q < N ∧ RC arcs N l q := by
  unfold clo
  simp only [List.mem_map, List.mem_filter, List.mem_range, decide_eq_true_eq]
  constructor
  · rintro ⟨q, ⟨h1, h2⟩, rfl⟩; exact ⟨q, rfl, h1, h2⟩
  · rintro ⟨q, rfl, h1, h2⟩; exact ⟨q, ⟨h1, h2⟩, rfl⟩

theorem clo_length : (clo arcs N l).length ≤ N := by
  unfold clo
  rw [List.length_map]
  exact Nat.le_trans (List.length_filter_le _ _) (by simp)

theorem rc_clo (hN : st = (N : Int)) (har : ∀ i, i < arcs.length → ArcOk st (arcs.getD i ad)) {q : Nat} : RC arcs N (clo arcs N l) q ↔ RC arcs N l q := by
  constructor
  · intro h
    induction h with
    | base q hq hm =>
      obtain ⟨q', e, _, h⟩ := mem_clo.1 hm
      have : q = q' := by omega
      subst this; exact h
    | step i p q h1 h2 h3 h4 _ ih => exact .step i p q h1 h2 h3 h4 ih
  · intro h
    exact .base q (rc_lt hN har h) (mem_clo.2 ⟨q, rfl, rc_lt hN har h, h⟩)

open Classical in
theorem clo_congr {l m : List Int} (h : ∀ q, q < N → (RC arcs N l q ↔ RC arcs N m q)) : clo arcs N l = clo arcs N m := by
  unfold clo
  congr 1
  apply List.filter_congr
  intro q hq
  have := h q (List.mem_range.1 hq)
  by_cases hh : RC arcs N l q
  · rw [decide_eq_true hh, decide_eq_true (this.1 hh)]
  · rw [decide_eq_false hh, decide_eq_false fun h2 => hh (this.2 h2)]

theorem clo_clo (hN : st = (N : Int)) (har : ∀ i, i < arcs.length → ArcOk st (arcs.getD i ad)) : clo arcs N (clo arcs N l) = clo arcs N l := clo_congr fun _ _ => rc_clo hN har

theorem frF_length : (frF arcs N l).length = N := by simp [frF]

open Classical in
theorem frF_of {M : List Bool} (hM : M.length = N) (h : ∀ q, q < N → (M.getD q false = true ↔ RC arcs N l q)) : M = frF arcs N l := by
  refine ext_getD false (by rw [hM, frF_length]) fun q hq => ?_
  rw [hM] at hq
  unfold frF
  rw [map_range_getD hq]
  have := h q hq
  by_cases hh : RC arcs N l q
  · rw [decide_eq_true hh]; exact this.2 hh
  · rw [decide_eq_false hh]
    cases hc : M.getD q false with
    | false => rfl
    | true => exact absurd (this.1 hc) hh

theorem tgt_small {fr : List Bool} {b : Nat} : (tgt arcs fr b).length ≤ arcs.length := by
  unfold tgt
  rw [List.length_map]
  exact List.length_filter_le _ _

theorem tgt_snoc {fr : List Bool} {b i : Nat} (hi : i < arcs.length) : tgt (arcs.take (i + 1)) fr b = tgt (arcs.take i) fr b ++ (if (!(arcs.getD i ad).2.2.1 && fr.getD (arcs.getD i ad).1.toNat false && hasB (setOf (arcs.getD i ad)) b) = true then [(arcs.getD i ad).2.1] else []) := by
  unfold tgt
  rw [take_snoc (d := ad) hi, List.filter_append, List.map_append]
  congr 1
  simp only [List.filter_cons, List.filter_nil]
  split <;> rfl

theorem l43_3 (hN : st = (N : Int)) (hN2 : N ≤ 2000) (b : Int) :
    limit L43_3 ((b, (), (), clo arcs N l, ((clo arcs N l).length : Int), (0 : Int), ()), ((st, start, arcs, acc, ()), (List.replicate st.toNat false), ())) = some ((b, (), (), ()), ((st, start, arcs, acc, ()), frF arcs N l, ())) := by
  have hcl := clo_length (arcs := arcs) (N := N) (l := l)
  have rep : ∀ p, (List.replicate st.toNat false).getD p false = false := fun p => by rw [List.getD_eq_getElem?_getD, List.getElem?_replicate]; split <;> rfl
  have main := state_rule (L := L43_3) (fun s : List Bool × Nat => ((b, (), (), clo arcs N l, ((clo arcs N l).length : Int), (s.2 : Int), ()), ((st, start, arcs, acc, ()), s.1, ())))
    (fun s => s.2 ≤ (clo arcs N l).length ∧ s.1.length = N ∧ ∀ q, q < N → (s.1.getD q false = true ↔ ∃ j, j < s.2 ∧ (clo arcs N l).getD j 0 = (q : Int))) (fun s => (clo arcs N l).length - s.2)
    (fun r => r = ((b, (), (), ()), ((st, start, arcs, acc, ()), frF arcs N l, ()))) (List.replicate st.toNat false, 0)
    ⟨by simp, by simp only [List.length_replicate]; omega, fun q _ => by simp only; rw [rep]; exact ⟨fun h => (by cases h), fun ⟨j, hj, _⟩ => (by omega)⟩⟩ (by simp only; omega) (by
    rintro ⟨M, i⟩ ⟨hi, hM, h⟩
    simp only at hi hM h
    by_cases hi' : i = (clo arcs N l).length
    · left
      subst hi'
      refine ⟨_, rfl, fun n => ?_⟩
      have e : M = frF arcs N l := frF_of hM fun q hq => by
        rw [h q hq]
        constructor
        · rintro ⟨j, hj, e⟩
          have hm := getD_mem (d := (0 : Int)) hj
          rw [e] at hm
          obtain ⟨q', e', _, hr⟩ := mem_clo.1 hm
          have : q = q' := by omega
          subst this; exact hr
        · intro hr
          obtain ⟨j, hj, e⟩ := List.mem_iff_getElem.1 (mem_clo.2 ⟨q, rfl, hq, hr⟩)
          exact ⟨j, hj, by rw [List.getD_eq_getElem?_getD, List.getElem?_eq_getElem hj]; exact e⟩
      rw [e]
      simp only [L43_3]
      rw [if_neg nlt_nat]
    · have hil : i < (clo arcs N l).length := by omega
      right
      obtain ⟨q0, e0, hq0, hr0⟩ := mem_clo.1 (getD_mem (d := (0 : Int)) hil)
      refine ⟨(M.set ((clo arcs N l).getD i 0).toNat true, i + 1), ⟨by simp only; omega, by simp only [List.length_set]; exact hM, fun q hq => ?_⟩, by simp only; omega, fun n => ?_⟩
      · simp only
        rw [getD_set (by omega)]
        by_cases e : ((clo arcs N l).getD i 0).toNat = q
        · rw [if_pos e]
          exact ⟨fun _ => ⟨i, by omega, by omega⟩, fun _ => rfl⟩
        · rw [if_neg e, h q hq]
          constructor
          · rintro ⟨j, hj, e'⟩; exact ⟨j, by omega, e'⟩
          · rintro ⟨j, hj, e'⟩
            by_cases ej : j = i
            · subst ej; omega
            · exact ⟨j, by omega, e'⟩
      · simp only [L43_3, Int.toNat_natCast]
        rw [if_pos (lt_nat hil), if_pos (in_range hil), if_pos (ct (by omega)), wrap_nat (by omega)])
  obtain ⟨r, hlim, rfl⟩ := main
  exact hlim

theorem l49_4 (hN : st = (N : Int)) (hN2 : N ≤ 2000) (b : Int) :
    limit L49_4 ((b, (), (), clo arcs N l, (0 : Int), ()), ((st, start, arcs, acc, ()), (List.replicate st.toNat false), ())) = some ((b, (), (), ()), ((st, start, arcs, acc, ()), frF arcs N l, ())) := by
  have hcl := clo_length (arcs := arcs) (N := N) (l := l)
  have rep : ∀ p, (List.replicate st.toNat false).getD p false = false := fun p => by rw [List.getD_eq_getElem?_getD, List.getElem?_replicate]; split <;> rfl
  have main := state_rule (L := L49_4) (fun s : List Bool × Nat => ((b, (), (), clo arcs N l, (s.2 : Int), ()), ((st, start, arcs, acc, ()), s.1, ())))
    (fun s => s.2 ≤ (clo arcs N l).length ∧ s.1.length = N ∧ ∀ q, q < N → (s.1.getD q false = true ↔ ∃ j, j < s.2 ∧ (clo arcs N l).getD j 0 = (q : Int))) (fun s => (clo arcs N l).length - s.2)
    (fun r => r = ((b, (), (), ()), ((st, start, arcs, acc, ()), frF arcs N l, ()))) (List.replicate st.toNat false, 0)
    ⟨by simp, by simp only [List.length_replicate]; omega, fun q _ => by simp only; rw [rep]; exact ⟨fun h => (by cases h), fun ⟨j, hj, _⟩ => (by omega)⟩⟩ (by simp only; omega) (by
    rintro ⟨M, i⟩ ⟨hi, hM, h⟩
    simp only at hi hM h
    by_cases hi' : i = (clo arcs N l).length
    · left
      subst hi'
      refine ⟨_, rfl, fun n => ?_⟩
      have e : M = frF arcs N l := frF_of hM fun q hq => by
        rw [h q hq]
        constructor
        · rintro ⟨j, hj, e⟩
          have hm := getD_mem (d := (0 : Int)) hj
          rw [e] at hm
          obtain ⟨q', e', _, hr⟩ := mem_clo.1 hm
          have : q = q' := by omega
          subst this; exact hr
        · intro hr
          obtain ⟨j, hj, e⟩ := List.mem_iff_getElem.1 (mem_clo.2 ⟨q, rfl, hq, hr⟩)
          exact ⟨j, hj, by rw [List.getD_eq_getElem?_getD, List.getElem?_eq_getElem hj]; exact e⟩
      rw [e]
      simp only [L49_4]
      rw [if_neg nlt_nat]
    · have hil : i < (clo arcs N l).length := by omega
      right
      obtain ⟨q0, e0, hq0, hr0⟩ := mem_clo.1 (getD_mem (d := (0 : Int)) hil)
      refine ⟨(M.set ((clo arcs N l).getD i 0).toNat true, i + 1), ⟨by simp only; omega, by simp only [List.length_set]; exact hM, fun q hq => ?_⟩, by simp only; omega, fun n => ?_⟩
      · simp only
        rw [getD_set (by omega)]
        by_cases e : ((clo arcs N l).getD i 0).toNat = q
        · rw [if_pos e]
          exact ⟨fun _ => ⟨i, by omega, by omega⟩, fun _ => rfl⟩
        · rw [if_neg e, h q hq]
          constructor
          · rintro ⟨j, hj, e'⟩; exact ⟨j, by omega, e'⟩
          · rintro ⟨j, hj, e'⟩
            by_cases ej : j = i
            · subst ej; omega
            · exact ⟨j, by omega, e'⟩
      · simp only [L49_4, Int.toNat_natCast]
        rw [if_pos (lt_nat hil), if_pos (in_range hil), if_pos (ct (by omega)), wrap_nat (by omega)])
  obtain ⟨r, hlim, rfl⟩ := main
  exact hlim

theorem l43_9 (hN : st = (N : Int)) (har : ∀ i, i < arcs.length → ArcOk st (arcs.getD i ad)) (hal : arcs.length ≤ 2000) {fr : List Bool} (hfr : fr.length = N) {b : Nat} (hb : b < 256) :
    limit L43_9 (((b : Int), (), (), (), arcs, (arcs.length : Int), (0 : Int), ()), ((st, start, arcs, acc, ()), ([] : List (Int)), fr, ())) = some (((), (), ()), ((st, start, arcs, acc, ()), tgt arcs fr b, ())) := by
  exact for_rule (L := L43_9) (N := arcs.length) (S := fun i => (((b : Int), (), (), (), arcs, (arcs.length : Int), (i : Int), ()), ((st, start, arcs, acc, ()), tgt (arcs.take i) fr b, fr, ())))
    (r := (((), (), ()), ((st, start, arcs, acc, ()), tgt arcs fr b, ())))
    (fun i hi n => by
      obtain ⟨a1, a2, a3, a4, _⟩ := har i hi
      have hlen : (tgt (arcs.take i) fr b).length ≤ i := Nat.le_trans tgt_small (by rw [List.length_take]; omega)
      have e60 := p60_spec (setOf (arcs.getD i ad)) hb
      simp only [L43_9, Int.toNat_natCast]
      rw [e_ad, if_pos (lt_nat hi), if_pos (in_range hi), tgt_snoc hi, wrap_nat (by omega)]
      cases h1 : (arcs.getD i ad).2.2.1 with
      | true => rw [if_neg ntf]; simp
      | false =>
        rw [if_pos nft, if_pos (ct (by omega))]
        cases h2 : fr.getD (arcs.getD i ad).1.toNat false with
        | false => rw [if_neg ff]; simp
        | true =>
          rw [if_pos rfl, e60, Option.bind_some]
          cases h3 : hasB (setOf (arcs.getD i ad)) b with
          | false => rw [if_neg ff]; simp
          | true => rw [if_pos rfl, if_pos (ct (by simp only [List.length_singleton, lim]; omega))]; simp)
    (fun n => by simp only [L43_9]; rw [if_neg nlt_nat, List.take_length]) (by omega)

theorem l49_9 (hN : st = (N : Int)) (har : ∀ i, i < arcs.length → ArcOk st (arcs.getD i ad)) (hal : arcs.length ≤ 2000) {fr : List Bool} (hfr : fr.length = N) {b : Nat} (hb : b < 256) :
    limit L49_9 (((b : Int), (), (), (), (0 : Int), ()), ((st, start, arcs, acc, ()), ([] : List (Int)), fr, ())) = some (((), (), ()), ((st, start, arcs, acc, ()), tgt arcs fr b, ())) := by
  exact for_rule (L := L49_9) (N := arcs.length) (S := fun i => (((b : Int), (), (), (), (i : Int), ()), ((st, start, arcs, acc, ()), tgt (arcs.take i) fr b, fr, ())))
    (r := (((), (), ()), ((st, start, arcs, acc, ()), tgt arcs fr b, ())))
    (fun i hi n => by
      obtain ⟨a1, a2, a3, a4, _⟩ := har i hi
      have hlen : (tgt (arcs.take i) fr b).length ≤ i := Nat.le_trans tgt_small (by rw [List.length_take]; omega)
      have e60 := p65_spec (setOf (arcs.getD i ad)) hb
      simp only [L49_9, Int.toNat_natCast]
      rw [e_ad, if_pos (lt_nat hi), if_pos (in_range hi), tgt_snoc hi, wrap_nat (by omega)]
      cases h1 : (arcs.getD i ad).2.2.1 with
      | true => rw [if_neg ntf]; simp
      | false =>
        rw [if_pos nft, if_pos (ct (by omega))]
        cases h2 : fr.getD (arcs.getD i ad).1.toNat false with
        | false => rw [if_neg ff]; simp
        | true =>
          rw [if_pos rfl, e60, Option.bind_some]
          cases h3 : hasB (setOf (arcs.getD i ad)) b with
          | false => rw [if_neg ff]; simp
          | true => rw [if_pos rfl, if_pos (ct (by simp only [List.length_singleton, lim]; omega))]; simp)
    (fun n => by simp only [L49_9]; rw [if_neg nlt_nat, List.take_length]) (by omega)

theorem p43_spec (hN : st = (N : Int)) (hN2 : N ≤ 2000) (har : ∀ i, i < arcs.length → ArcOk st (arcs.getD i ad)) (hal : arcs.length ≤ 2000) (hl : l.length ≤ 9223372036854775807) {b : Nat} (hb : b < 256) :
    p43 ((st, (start, (arcs, (acc, ())))), l, (b : Int), ()) = some (stp arcs N l b) := by
  have e1 := p41_spec (start := start) (acc := acc) hN hN2 har (by omega) hl
  have e2 := l43_3 (start := start) (arcs := arcs) (acc := acc) (l := l) hN hN2 (b : Int)
  have e3 := l43_9 (start := start) (acc := acc) (fr := frF arcs N l) hN har hal frF_length hb
  have hs := tgt_small (arcs := arcs) (fr := frF arcs N l) (b := b)
  have e4 := p41_spec (start := start) (acc := acc) (l := tgt arcs (frF arcs N l) b) hN hN2 har (by omega) (by omega)
  simp only [p43]
  rw [if_pos (ct ⟨trivial, by omega, by simp only [lim]; omega⟩), e1]
  simp only [Option.bind_some]
  rw [e2]
  simp only [Option.bind_some]
  rw [e3]
  simp only [Option.bind_some]
  rw [e4]
  rfl

theorem p49_spec (hN : st = (N : Int)) (hN2 : N ≤ 2000) (har : ∀ i, i < arcs.length → ArcOk st (arcs.getD i ad)) (hal : arcs.length ≤ 2000) (hl : l.length ≤ 9223372036854775807) {b : Nat} (hb : b < 256) :
    p49 ((st, (start, (arcs, (acc, ())))), l, (b : Int), ()) = some (stp arcs N l b) := by
  have e1 := p48_spec (start := start) (acc := acc) hN hN2 har (by omega) hl
  have e2 := l49_4 (start := start) (arcs := arcs) (acc := acc) (l := l) hN hN2 (b : Int)
  have e3 := l49_9 (start := start) (acc := acc) (fr := frF arcs N l) hN har hal frF_length hb
  have hs := tgt_small (arcs := arcs) (fr := frF arcs N l) (b := b)
  obtain ⟨r1, e4, M1, rfl, m1, m2⟩ := base_i (start := start) (arcs := arcs) (acc := acc) (l := tgt arcs (frF arcs N l) b) hN (by omega)
  obtain ⟨r2, e5, M2, rfl, m3, m4⟩ := fix_i (start := start) (acc := acc) (l := tgt arcs (frF arcs N l) b) hN hN2 har (by omega) M1 m1 m2
  have e6 := list_i (st := st) (start := start) (acc := acc) M2 m3 hN2 m4
  simp only [p49]
  rw [if_pos (ct ⟨trivial, by omega, by simp only [lim]; omega⟩), e1]
  simp only [Option.bind_some]
  rw [e2]
  simp only [Option.bind_some]
  rw [e3]
  simp only [Option.bind_some]
  rw [if_pos (ct ⟨trivial, by omega, by simp only [lim]; omega⟩), e4]
  simp only [Option.bind_some]
  rw [e5]
  simp only [Option.bind_some]
  rw [e6]
  rfl
end
end Go.AM
