/- The search of the reference over the sets. -/
import Derived.Test.YtagllmgnmkdogaaP31
namespace Go.AM
open Go

/-! ### equal lists -/

theorem p19_eq {l m : List Int} (hl : l.length ≤ 1000000) : p19 (l, m, ()) = some (decide (l = m)) := by
  simp only [p19]
  by_cases h : l.length = m.length
  · rw [if_neg (cnf (by omega))]
    rcases all_or_first l.length (fun i => l.getD i 0 = m.getD i 0) with g | ⟨k, hk, g1, g2⟩
    · have e : l = m := ext_getD 0 h g
      have hlim : limit L19_4 ((l, m, (0 : Int), ()), ()) = some (.inr ((), ())) := for_rule (L := L19_4) (N := l.length) (S := fun i => ((l, m, (i : Int), ()), ())) (r := .inr ((), ())) (fun i hi n => by
        simp only [L19_4, Int.toNat_natCast]
        rw [if_pos (lt_nat hi), if_pos (in_range hi), if_pos (in_range (by omega)), if_neg (cnf (g i hi)), wrap_nat (by omega)]) (fun n => by simp only [L19_4]; rw [if_neg nlt_nat]) (by omega)
      rw [hlim, decide_eq_true e]
      rfl
    · have e : ¬ l = m := fun e => g1 (by rw [e])
      have hlim : limit L19_4 ((l, m, (0 : Int), ()), ()) = some (.inl ((false, ()), ())) := for_rule (L := L19_4) (N := k) (S := fun i => ((l, m, (i : Int), ()), ())) (r := .inl ((false, ()), ())) (fun i hi n => by
        simp only [L19_4, Int.toNat_natCast]
        rw [if_pos (lt_nat (by omega)), if_pos (in_range (by omega)), if_pos (in_range (by omega)), if_neg (cnf (g2 i hi)), wrap_nat (by omega)]) (fun n => by
        simp only [L19_4, Int.toNat_natCast]
        rw [if_pos (lt_nat hk), if_pos (in_range hk), if_pos (in_range (by omega)), if_pos (cnt g1)]) (by omega)
      rw [hlim, decide_eq_false e]
      rfl
  · have e : ¬ l = m := fun e => h (by rw [e])
    rw [if_pos (cnt (by omega)), decide_eq_false e]

/-! ### the first bytes of the classes -/

theorem p47_spec {c : List Int} {k : Nat} (h256 : c.length = 256) (F : Fon c k) : ∃ l : List Int, p47 (c, ()) = some l ∧ l.length = k ∧ ∀ j, j < k → ∃ b : Nat, b < 256 ∧ l.getD j 0 = (b : Int) ∧ c.getD b 0 = (j : Int) ∧ ∀ b0, b0 < b → c.getD b0 0 < (j : Int) := by
  obtain ⟨cnt, f0, f1, f2⟩ := F
  let S : List Int × Nat → (((List (Int)) × Unit × (Int) × Unit) × ((List (Int)) × Unit)) := fun s => ((c, (), (s.2 : Int), ()), (s.1, ()))
  have main := state_rule (L := L47_3) S (fun s => s.2 ≤ 256 ∧ s.1.length = cnt s.2 ∧ ∀ j, j < s.1.length → ∃ b : Nat, b < s.2 ∧ s.1.getD j 0 = (b : Int) ∧ c.getD b 0 = (j : Int) ∧ ∀ b0, b0 < b → c.getD b0 0 < (j : Int)) (fun s => 256 - s.2)
    (fun r => ∃ l, r = (((), ()), (l, ())) ∧ l.length = k ∧ ∀ j, j < k → ∃ b : Nat, b < 256 ∧ l.getD j 0 = (b : Int) ∧ c.getD b 0 = (j : Int) ∧ ∀ b0, b0 < b → c.getD b0 0 < (j : Int)) ([], 0)
    ⟨by simp, by simp [f0], fun j hj => by simp at hj⟩ (by simp only; omega) (by
    rintro ⟨l, b⟩ ⟨hbl, hl, hj⟩
    simp only at hbl hl hj
    by_cases hb' : b = 256
    · subst hb'
      left
      refine ⟨_, ⟨l, rfl, by omega, fun j hjk => hj j (by omega)⟩, fun n => ?_⟩
      simp only [S, L47_3]
      rw [if_neg (cf (by omega))]
    · right
      have hb1 : b < 256 := by omega
      have fb := fon_before f0 f2 b (by omega)
      have hcb : cnt b ≤ 256 := by
        have : ∀ b, b ≤ 256 → cnt b ≤ b := by
          intro b
          induction b with
          | zero => intro _; omega
          | succ b ih => intro hb; have := ih (by omega); rcases f2 b (by omega) with h | h <;> omega
        have := this b (by omega); omega
      rcases f2 b hb1 with ⟨g1, g2, g3⟩ | ⟨g1, g2⟩
      · refine ⟨(l, b + 1), ⟨by simp only; omega, by simp only; omega, fun j hjl => ?_⟩, by simp only; omega, fun n => ?_⟩
        · obtain ⟨b', q1, q2⟩ := hj j hjl
          exact ⟨b', by simp only; omega, q2⟩
        · simp only [S, L47_3, Int.toNat_natCast]
          rw [if_pos (ct (by omega)), if_pos (in_range (by omega)), if_neg (cf (by omega)), wrap_nat (by omega)]
      · refine ⟨(l ++ [(b : Int)], b + 1), ⟨by simp only; omega, by simp only [List.length_append, List.length_singleton]; omega, fun j hjl => ?_⟩, by simp only; omega, fun n => ?_⟩
        · simp only [List.length_append, List.length_singleton] at hjl ⊢
          by_cases e : j < l.length
          · obtain ⟨b', q1, q2, q3⟩ := hj j e
            exact ⟨b', by omega, by rw [getD_snoc_lt e]; exact q2, q3⟩
          · have : j = l.length := by omega
            subst this
            exact ⟨b, by omega, getD_snoc_eq, by omega, fun b0 hb0 => by have := fb.2 b0 hb0; omega⟩
        · simp only [S, L47_3, Int.toNat_natCast]
          rw [if_pos (ct (by omega)), if_pos (in_range (by omega)), if_pos (ct (by omega)), wrap_u8 hb1, if_pos (ct (by simp only [List.length_singleton, lim]; omega)), wrap_nat (by omega)])
  obtain ⟨r, hlim, l, rfl, h1, h2⟩ := main
  simp only [p47]
  have hlim' : limit L47_3 ((c, (), (0 : Int), ()), (([] : List (Int)), ())) = some (((), ()), (l, ())) := hlim
  rw [hlim']
  exact ⟨l, rfl, h1, h2⟩

theorem firsts_unique {c l l' : List Int} {k : Nat} (h1 : l.length = k) (h2 : ∀ j, j < k → ∃ b : Nat, b < 256 ∧ l.getD j 0 = (b : Int) ∧ c.getD b 0 = (j : Int) ∧ ∀ b0, b0 < b → c.getD b0 0 < (j : Int))
    (h1' : l'.length = k) (h2' : ∀ j, j < k → ∃ b : Nat, b < 256 ∧ l'.getD j 0 = (b : Int) ∧ c.getD b 0 = (j : Int) ∧ ∀ b0, b0 < b → c.getD b0 0 < (j : Int)) : l = l' := by
  refine ext_getD 0 (by omega) fun j hj => ?_
  obtain ⟨b, g1, g2, g3, g4⟩ := h2 j (by omega)
  obtain ⟨b', g1', g2', g3', g4'⟩ := h2' j (by omega)
  rcases Nat.lt_trichotomy b b' with q | q | q
  · have := g4' b q; omega
  · omega
  · have := g4 b' q; omega

/-! ### the search -/

section
variable {N : Nat} {st start : Int} {arcs : List Arc} {acc bs : List Int}

theorem idxOf_first {S : List (List Int)} {t : List Int} {k : Nat} (hk : k < S.length) (h1 : S.getD k [] = t) (h2 : ∀ i, i < k → S.getD i [] ≠ t) : S.idxOf t = k := by
  have hm : t ∈ S := by rw [← h1]; exact getD_mem hk
  have hlt := List.idxOf_lt_length_of_mem hm
  have e : S.getD (S.idxOf t) [] = t := by
    rw [List.getD_eq_getElem?_getD, List.getElem?_eq_getElem hlt]
    simp
  rcases Nat.lt_trichotomy (S.idxOf t) k with g | g | g
  · exact absurd e (h2 _ g)
  · exact g
  · exfalso
    have := List.not_of_lt_findIdx (p := fun x => x == t) (xs := S) (i := k) g
    rw [List.getD_eq_getElem?_getD, List.getElem?_eq_getElem hk] at h1
    have h1' : S[k] = t := h1
    rw [h1'] at this
    simp at this

theorem l50_22 {S : List (List Int)} {t : List Int} (hS : S.length ≤ 1000) (ht : ∀ s ∈ S, s.length ≤ 1000000) (rows : List (List Int)) (accs row : List Int) :
    (t ∈ S → limit L50_22_2 (((), t, (0 : Int), ()), ((st, start, arcs, acc, ()), D0, S, rows, accs, row, ())) = some (.inl ((((S.idxOf t : Nat) : Int), ()), ((st, start, arcs, acc, ()), D0, S, rows, accs, row, ())))) ∧
    (¬ t ∈ S → limit L50_22_2 (((), t, (0 : Int), ()), ((st, start, arcs, acc, ()), D0, S, rows, accs, row, ())) = some (.inr ((), ((st, start, arcs, acc, ()), D0, S, rows, accs, row, ())))) := by
  rcases all_or_first S.length (fun i => S.getD i [] ≠ t) with g | ⟨k, hk, g1, g2⟩
  · refine ⟨fun h => ?_, fun _ => ?_⟩
    · obtain ⟨i, hi, e⟩ := List.mem_iff_getElem.1 h
      exact absurd (by rw [List.getD_eq_getElem?_getD, List.getElem?_eq_getElem hi]; exact e) (g i hi)
    · exact for_rule (L := L50_22_2) (N := S.length) (S := fun i => (((), t, (i : Int), ()), ((st, start, arcs, acc, ()), D0, S, rows, accs, row, ()))) (fun i hi n => by
        simp only [L50_22_2, Int.toNat_natCast]
        rw [if_pos (lt_nat hi), if_pos (in_range hi), p19_eq (ht _ (getD_mem hi)), Option.bind_some, if_neg (cf (g i hi)), wrap_nat (by omega)]) (fun n => by simp only [L50_22_2]; rw [if_neg nlt_nat]) (by omega)
  · replace g1 := Classical.not_not.1 g1
    refine ⟨fun _ => ?_, fun h => absurd (by rw [← g1]; exact getD_mem hk) h⟩
    rw [idxOf_first hk g1 g2]
    exact for_rule (L := L50_22_2) (N := k) (S := fun i => (((), t, (i : Int), ()), ((st, start, arcs, acc, ()), D0, S, rows, accs, row, ()))) (fun i hi n => by
      simp only [L50_22_2, Int.toNat_natCast]
      rw [if_pos (lt_nat (by omega)), if_pos (in_range (by omega)), p19_eq (ht _ (getD_mem (by omega))), Option.bind_some, if_neg (cf (g2 i hi)), wrap_nat (by omega)]) (fun n => by
      simp only [L50_22_2, Int.toNat_natCast]
      rw [if_pos (lt_nat hk), if_pos (in_range hk), p19_eq (ht _ (getD_mem hk)), Option.bind_some, if_pos (ct g1)]) (by omega)

theorem rowF_grow (S : List (List Int)) (i : Nat) : ∀ j, (rowF arcs N bs S i j).length ≤ S.length + j
  | 0 => Nat.le_refl _
  | j + 1 => by
    have h := rowF_grow S i j
    rw [rowF_succ]
    split
    · omega
    · rw [List.length_append, List.length_singleton]; omega

theorem l22_19 (C : Ctx N st arcs acc bs) {S : List (List Int)} {i : Nat} (hi : i < S.length) (hS : S.length ≤ 500) (hC : Closed arcs N S) (cls : List Int) (rows : List (List Int)) (accs : List Int) :
    limit L22_19 (((), (), cls, bs, (), (), (), (i : Int), (), (0 : Int), ()), ((st, start, arcs, acc, ()), D0, S, rows, accs, ([] : List Int), ())) =
      some (((), (), cls, bs, (), (), (), (i : Int), (), ()), ((st, start, arcs, acc, ()), D0, rowF arcs N bs S i bs.length, rows, accs, (List.range bs.length).map (valF arcs N bs S i), ())) := by
  have hkl := C.kl
  have hN2 := C.hN2
  exact for_rule (L := L22_19) (N := bs.length) (S := fun j => (((), (), cls, bs, (), (), (), (i : Int), (), (j : Int), ()), ((st, start, arcs, acc, ()), D0, rowF arcs N bs S i j, rows, accs, (List.range j).map (valF arcs N bs S i), ())))
    (fun j hjl n => by
      obtain ⟨b, hb, eb⟩ := C.hbs j hjl
      have hg := rowF_get (arcs := arcs) (N := N) (bs := bs) hi i j
      have hlen0 : S.length ≤ (rowF arcs N bs S i j).length := rowF_len (arcs := arcs) (N := N) (bs := bs) (S := S) (i := i) (Nat.zero_le j)
      have hgrow := rowF_grow (arcs := arcs) (N := N) (bs := bs) S i j
      have hcl := rowF_closed (bs := bs) (i := i) hC j
      have hel := hC.elem (getD_mem (d := ([] : List Int)) hi)
      have e49 := p49_spec (start := start) (acc := acc) (l := S.getD i []) C.hN C.hN2 C.har C.hal (by omega) hb
      have et : stp arcs N (S.getD i []) b = tgF arcs N bs S i j := by unfold tgF; rw [eb]; rfl
      have hte := tgF_elem (arcs := arcs) (N := N) (bs := bs) S i j
      have e48 := p48_spec (start := start) (acc := acc) (l := tgF arcs N bs S i j) C.hN C.hN2 C.har (by have := C.hal; omega) (by omega)
      have ecc : clo arcs N (tgF arcs N bs S i j) = tgF arcs N bs S i j := clo_clo C.hN C.har
      rw [ecc] at e48
      rw [et] at e49
      have hrs := rowF_succ (arcs := arcs) (N := N) (bs := bs) S i j
      have hvd : valF arcs N bs S i j = if tgF arcs N bs S i j = [] then -1 else (((rowF arcs N bs S i (j + 1)).idxOf (tgF arcs N bs S i j) : Nat) : Int) := rfl
      have hrow : (List.range (j + 1)).map (valF arcs N bs S i) = (List.range j).map (valF arcs N bs S i) ++ [valF arcs N bs S i j] := by simp [List.range_succ]
      have hrl : ((List.range j).map (valF arcs N bs S i)).length = j := by simp
      have hfind := l50_22 (st := st) (start := start) (arcs := arcs) (acc := acc) (S := rowF arcs N bs S i j) (t := tgF arcs N bs S i j) (by omega) (fun s hs => by have := (hcl.elem hs).1; omega) rows accs ((List.range j).map (valF arcs N bs S i))
      generalize tgF arcs N bs S i j = t at e49 e48 hte hrs hvd hfind
      simp only [L22_19, Int.toNat_natCast]
      rw [if_pos (lt_nat hjl), if_pos (in_range (by omega)), if_pos (in_range hjl), hg, eb, e49, Option.bind_some, e48, Option.bind_some, hrow]
      by_cases h0 : t = []
      · rw [if_pos (.inl h0)] at hrs
        rw [if_pos h0] at hvd
        rw [if_pos (ct (by rw [h0]; rfl)), if_pos (ct (by rw [hrl]; simp only [List.length_singleton, lim]; omega)), hvd, hrs, wrap_nat (by omega)]
      · have hlen : t.length ≠ 0 := fun h => h0 (List.eq_nil_of_length_eq_zero h)
        rw [if_neg h0] at hvd
        rw [if_neg (cf (by omega))]
        by_cases hm : t ∈ rowF arcs N bs S i j
        · rw [if_pos (.inr hm)] at hrs
          rw [hrs] at hvd
          rw [hfind.1 hm]
          simp only [Option.bind_some, Sum.elim_inl]
          rw [if_neg (cf (by omega)), if_pos (ct (by rw [hrl]; simp only [List.length_singleton, lim]; omega)), hvd, hrs, wrap_nat (by omega)]
        · rw [if_neg (fun h => h.elim h0 hm)] at hrs
          rw [hrs, idxOf_snoc hm] at hvd
          rw [hfind.2 hm]
          simp only [Option.bind_some, Sum.elim_inr]
          rw [if_pos (ct (by omega)), if_pos (ct (by simp only [List.length_singleton, lim]; omega)), if_pos (ct (by rw [hrl]; simp only [List.length_singleton, lim]; omega)), hvd, hrs, wrap_nat (by omega)])
    (fun n => by simp only [L22_19]; rw [if_neg nlt_nat]) (by omega)

theorem l22_15 (C : Ctx N st arcs acc bs) (cls : List Int) :
    (∃ M, OkM arcs N bs start M ∧ limit L22_15 (((), (), cls, bs, (), (), (), (0 : Int), ()), ((st, start, arcs, acc, ()), D0, [clo arcs N [start]], ([] : List (List Int)), ([] : List Int), ())) =
      some (.inr (((), cls, (), (), ()), (D0, rowsF arcs N bs start M, accsF arcs N bs start acc M, ())))) ∨
    ∃ e, ErrB arcs N bs start e ∧ limit L22_15 (((), (), cls, bs, (), (), (), (0 : Int), ()), ((st, start, arcs, acc, ()), D0, [clo arcs N [start]], ([] : List (List Int)), ([] : List Int), ())) =
      some (.inl (((), (11 : Int), ()), (D0, ()))) := by
  have hkl := C.kl
  have hN2 := C.hN2
  have main := state_rule (L := L22_15) (fun i : Nat => (((), (), cls, bs, (), (), (), (i : Int), ()), ((st, start, arcs, acc, ()), D0, bfsF arcs N bs start bs.length i, rowsF arcs N bs start i, accsF arcs N bs start acc i, ())))
    (fun i => i ≤ (bfsF arcs N bs start bs.length i).length ∧ (bfsF arcs N bs start bs.length i).length ≤ 500 ∧ ∀ i', i' < i → i' < (bfsF arcs N bs start bs.length i').length) (fun i => 500 - i)
    (fun r => (∃ M, OkM arcs N bs start M ∧ r = .inr (((), cls, (), (), ()), (D0, rowsF arcs N bs start M, accsF arcs N bs start acc M, ()))) ∨
      (∃ e, ErrB arcs N bs start e ∧ r = .inl (((), (11 : Int), ()), (D0, ())))) 0
    ⟨Nat.zero_le _, by simp [bfsF], fun i hi => absurd hi (Nat.not_lt_zero i)⟩ (by omega) (by
    rintro i ⟨h1, h2, h3⟩
    by_cases hi' : i = (bfsF arcs N bs start bs.length i).length
    · left
      refine ⟨_, .inl ⟨i, ⟨hi'.symm, by omega, h3⟩, rfl⟩, fun n => ?_⟩
      simp only [L22_15]
      rw [if_neg (cf (by omega))]
    · have hil : i < (bfsF arcs N bs start bs.length i).length := by omega
      have h3' : ∀ i', i' ≤ i → i' < (bfsF arcs N bs start bs.length i').length := fun i' h => by
        by_cases e : i' = i
        · rw [e]; exact hil
        · exact h3 i' (by omega)
      have hcl := bfsF_closed (arcs := arcs) (N := N) (bs := bs) start bs.length i
      have es1 : rowF arcs N bs (bfsF arcs N bs start bs.length i) i bs.length = bfsF arcs N bs start bs.length (i + 1) := rfl
      have g3 := l22_19 (start := start) C hil h2 hcl cls (rowsF arcs N bs start i) (accsF arcs N bs start acc i)
      rw [es1] at g3
      by_cases g1 : (bfsF arcs N bs start bs.length (i + 1)).length ≤ 500
      · right
        have hle := bfsF_len (arcs := arcs) (N := N) (bs := bs) (start := start) (show i ≤ i + 1 by omega)
        have hget : (bfsF arcs N bs start bs.length (i + 1)).getD i [] = (bfsF arcs N bs start bs.length i).getD i [] := rowF_get hil i bs.length
        have hel := hcl.elem (getD_mem (d := ([] : List Int)) hil)
        have e51 := p51_spec (st := st) (start := start) (arcs := arcs) (acc := acc) (l := (bfsF arcs N bs start bs.length i).getD i []) (fun q hq => by rw [C.acl]; exact hel.2 q hq) (by omega)
        refine ⟨i + 1, ⟨by omega, g1, fun i' h => h3' i' (by omega)⟩, by omega, fun n => ?_⟩
        simp only [L22_15]
        rw [if_pos (lt_nat hil), g3]
        simp only [Option.bind_some, Int.toNat_natCast]
        rw [if_neg (cf (by omega)), if_pos (ct (by rw [rowsF_length]; simp only [List.length_singleton, lim]; omega)), if_pos (in_range (by omega)), hget, e51, Option.bind_some, if_pos (ct (by rw [accsF_length]; simp only [List.length_singleton, lim]; omega)), rowsF_succ, accsF_succ, wrap_nat (by omega)]
      · left
        refine ⟨_, .inr ⟨i, ⟨h3', by omega⟩, rfl⟩, fun n => ?_⟩
        simp only [L22_15]
        rw [if_pos (lt_nat hil), g3]
        simp only [Option.bind_some]
        rw [if_pos (ct (by omega))])
  obtain ⟨r, hlim, hr⟩ := main
  rcases hr with ⟨M, h1, rfl⟩ | ⟨e, h1, rfl⟩
  · exact .inl ⟨M, h1, hlim⟩
  · exact .inr ⟨e, h1, hlim⟩
end
end Go.AM
