/- The search of the program over the sets. -/
import Derived.Test.YtagllmgnmkdogaaP30
namespace Go.AM
open Go

structure Ctx (N : Nat) (st : Int) (arcs : List Arc) (acc : List Int) (bs : List Int) : Prop where
  hN : st = (N : Int)
  hN2 : N ≤ 2000
  har : ∀ i, i < arcs.length → ArcOk st (arcs.getD i ad)
  hal : arcs.length ≤ 2000
  acl : acc.length = N
  hbs : ∀ j, j < bs.length → ∃ b : Nat, b < 256 ∧ bs.getD j 0 = (b : Int)
  kl : bs.length ≤ 256

noncomputable def rowsF (arcs : List Arc) (N : Nat) (bs : List Int) (start : Int) (M : Nat) : List (List Int) := (List.range M).map fun i => (List.range bs.length).map (valF arcs N bs (bfsF arcs N bs start bs.length i) i)
noncomputable def accsF (arcs : List Arc) (N : Nat) (bs : List Int) (start : Int) (acc : List Int) (M : Nat) : List Int := (List.range M).map fun i => lacc acc ((bfsF arcs N bs start bs.length i).getD i [])
def OkM (arcs : List Arc) (N : Nat) (bs : List Int) (start : Int) (M : Nat) : Prop := (bfsF arcs N bs start bs.length M).length = M ∧ M ≤ 500 ∧ ∀ i, i < M → i < (bfsF arcs N bs start bs.length i).length
def ErrB (arcs : List Arc) (N : Nat) (bs : List Int) (start : Int) (e : Nat) : Prop := (∀ i, i ≤ e → i < (bfsF arcs N bs start bs.length i).length) ∧ 500 < (bfsF arcs N bs start bs.length (e + 1)).length

section
variable {N : Nat} {st start : Int} {arcs : List Arc} {acc bs : List Int}

theorem bfsF_len {i m : Nat} (h : i ≤ m) : (bfsF arcs N bs start bs.length i).length ≤ (bfsF arcs N bs start bs.length m).length := by
  obtain ⟨ext, e⟩ := bfsF_le (arcs := arcs) (N := N) (bs := bs) start bs.length h
  rw [e, List.length_append]; omega

theorem OkM.unique {M M' : Nat} (h : OkM arcs N bs start M) (h' : OkM arcs N bs start M') : M = M' := by
  rcases Nat.lt_trichotomy M M' with g | g | g
  · have := h'.2.2 M g; have := h.1; omega
  · exact g
  · have := h.2.2 M' g; have := h'.1; omega

theorem OkM.noErr {M e : Nat} (h : OkM arcs N bs start M) (h' : ErrB arcs N bs start e) : False := by
  by_cases g : M ≤ e
  · have := h'.1 M g; have := h.1; omega
  · have := bfsF_len (arcs := arcs) (N := N) (bs := bs) (start := start) (show e + 1 ≤ M by omega)
    have := h'.2; have := h.1; have := h.2.1
    omega

theorem getD_append_lt {α : Type} {l m : List α} {d : α} {k : Nat} (h : k < l.length) : (l ++ m).getD k d = l.getD k d := by
  rw [List.getD_eq_getElem?_getD, List.getElem?_append_left h, List.getD_eq_getElem?_getD]

theorem rowF_get {S : List (List Int)} {i : Nat} (hi : i < S.length) (k j : Nat) : (rowF arcs N bs S k j).getD i [] = S.getD i [] := by
  obtain ⟨ext, he⟩ := rowF_le (arcs := arcs) (N := N) (bs := bs) S k (Nat.zero_le j)
  rw [he]
  exact getD_append_lt hi

theorem rowF_len {S : List (List Int)} {i j k : Nat} (h : j ≤ k) : (rowF arcs N bs S i j).length ≤ (rowF arcs N bs S i k).length := by
  obtain ⟨ext, he⟩ := rowF_le (arcs := arcs) (N := N) (bs := bs) S i h
  rw [he, List.length_append]; omega

theorem rowF_succ (S : List (List Int)) (i j : Nat) : rowF arcs N bs S i (j + 1) = if tgF arcs N bs S i j = [] ∨ tgF arcs N bs S i j ∈ rowF arcs N bs S i j then rowF arcs N bs S i j else rowF arcs N bs S i j ++ [tgF arcs N bs S i j] := rfl

theorem idxOf_snoc {t : List Int} {S : List (List Int)} (h : ¬ t ∈ S) : (S ++ [t]).idxOf t = S.length := by
  rw [List.idxOf_append, if_neg h]; simp

theorem l21_18 (C : Ctx N st arcs acc bs) {S : List (List Int)} {i : Nat} (hi : i < S.length) (hS : S.length ≤ 500) (hC : Closed arcs N S) {es : List (List UInt8 × Int)} (K : KeyI S es) (cls : List Int) (rows : List (List Int)) (accs : List Int) :
    (∃ es', (rowF arcs N bs S i bs.length).length ≤ 500 ∧ KeyI (rowF arcs N bs S i bs.length) es' ∧
      limit L21_18 (((), (), (), bs, (), (), (i : Int), (), bs, (bs.length : Int), (0 : Int), ()), ((st, start, arcs, acc, ()), D0, (cls, (), (), ()), S, es, List.replicate (bs.length : Int).toNat (0 : Int), rows, accs, ())) =
        some (.inr (((), (), (), bs, (), (), (i : Int), (), ()), ((st, start, arcs, acc, ()), D0, (cls, (), (), ()), rowF arcs N bs S i bs.length, es', (List.range bs.length).map (valF arcs N bs S i), rows, accs, ())))) ∨
    (500 < (rowF arcs N bs S i bs.length).length ∧
      limit L21_18 (((), (), (), bs, (), (), (i : Int), (), bs, (bs.length : Int), (0 : Int), ()), ((st, start, arcs, acc, ()), D0, (cls, (), (), ()), S, es, List.replicate (bs.length : Int).toNat (0 : Int), rows, accs, ())) =
        some (.inl (((), (11 : Int), ()), (D0, ())))) := by
  have hkl := C.kl
  have main := state_rule (L := L21_18) (fun s : Nat × List (List UInt8 × Int) => (((), (), (), bs, (), (), (i : Int), (), bs, (bs.length : Int), (s.1 : Int), ()), ((st, start, arcs, acc, ()), D0, (cls, (), (), ()), rowF arcs N bs S i s.1, s.2, fillF (valF arcs N bs S i) 0 bs.length s.1, rows, accs, ())))
    (fun s => s.1 ≤ bs.length ∧ (rowF arcs N bs S i s.1).length ≤ 500 ∧ KeyI (rowF arcs N bs S i s.1) s.2) (fun s => bs.length - s.1)
    (fun r => (∃ es', (rowF arcs N bs S i bs.length).length ≤ 500 ∧ KeyI (rowF arcs N bs S i bs.length) es' ∧ r = .inr (((), (), (), bs, (), (), (i : Int), (), ()), ((st, start, arcs, acc, ()), D0, (cls, (), (), ()), rowF arcs N bs S i bs.length, es', (List.range bs.length).map (valF arcs N bs S i), rows, accs, ()))) ∨
      (500 < (rowF arcs N bs S i bs.length).length ∧ r = .inl (((), (11 : Int), ()), (D0, ())))) (0, es)
    ⟨Nat.zero_le _, hS, K⟩ (by simp only; omega) (by
    rintro ⟨j, es⟩ ⟨hj, hl, K⟩
    dsimp only at hj hl K
    by_cases hj' : j = bs.length
    · left
      subst hj'
      refine ⟨_, .inl ⟨es, hl, K, rfl⟩, fun n => ?_⟩
      simp only [L21_18]
      rw [if_neg nlt_nat, fillF_full]
    · have hjl : j < bs.length := by omega
      obtain ⟨b, hb, eb⟩ := C.hbs j hjl
      have hg := rowF_get (arcs := arcs) (N := N) (bs := bs) hi i j
      have hlen0 : S.length ≤ (rowF arcs N bs S i j).length := rowF_len (arcs := arcs) (N := N) (bs := bs) (S := S) (i := i) (Nat.zero_le j)
      have hcl := rowF_closed (bs := bs) (i := i) hC j
      have hel := hC.elem (getD_mem (d := ([] : List Int)) hi)
      have hN2 := C.hN2
      have e43 := p43_spec (start := start) (acc := acc) (l := S.getD i []) C.hN C.hN2 C.har C.hal (by omega) hb
      have et : stp arcs N (S.getD i []) b = tgF arcs N bs S i j := by unfold tgF; rw [eb]; rfl
      rw [et] at e43
      have hte := tgF_elem (arcs := arcs) (N := N) (bs := bs) S i j
      have hrs := rowF_succ (arcs := arcs) (N := N) (bs := bs) S i j
      have hfs := fillF_set (f := valF arcs N bs S i) (d := 0) (n := bs.length) (i := j)
      have hvd : valF arcs N bs S i j = if tgF arcs N bs S i j = [] then -1 else (((rowF arcs N bs S i (j + 1)).idxOf (tgF arcs N bs S i j) : Nat) : Int) := rfl
      generalize tgF arcs N bs S i j = t at e43 hte hrs hvd
      by_cases h0 : t = []
      · right
        rw [if_pos (.inl h0)] at hrs
        rw [if_pos h0] at hvd
        rw [hvd] at hfs
        refine ⟨(j + 1, es), ⟨by simp only; omega, by simp only; rw [hrs]; exact hl, by simp only; rw [hrs]; exact K⟩, by simp only; omega, fun n => ?_⟩
        simp only [L21_18, Int.toNat_natCast]
        rw [if_pos (lt_nat hjl), if_pos (in_range hjl), if_pos (in_range (by omega)), hg, eb, e43, Option.bind_some, if_pos (in_range (by rw [fillF_length]; exact hjl)), if_pos (ct (by rw [h0]; rfl)), hfs, hrs, wrap_nat (by omega)]
      · have hlen : t.length ≠ 0 := fun h => h0 (List.eq_nil_of_length_eq_zero h)
        have e42 := p42_spec (l := t) (by omega)
        rw [if_neg h0] at hvd
        have hmem := K.mem hN2 hcl hte.2
        by_cases hm : t ∈ rowF arcs N bs S i j
        · right
          rw [if_pos (.inr hm)] at hrs
          rw [hrs] at hvd
          rw [hvd] at hfs
          have hidx := K.idx hm
          refine ⟨(j + 1, es), ⟨by simp only; omega, by simp only; rw [hrs]; exact hl, by simp only; rw [hrs]; exact K⟩, by simp only; omega, fun n => ?_⟩
          simp only [L21_18, Int.toNat_natCast]
          rw [if_pos (lt_nat hjl), if_pos (in_range hjl), if_pos (in_range (by omega)), hg, eb, e43, Option.bind_some, if_pos (in_range (by rw [fillF_length]; exact hjl)), if_neg (cf (by omega)), e42, Option.bind_some, if_neg (by rw [hmem.2 hm]; exact ntf), if_pos (in_range (by rw [List.length_set, fillF_length]; exact hjl)), hidx, Option.getD_some, List.set_set, hfs, hrs, wrap_nat (by omega)]
        · have hns : (mget .str (key2 t) es).isSome = false := by
            cases hc : (mget .str (key2 t) es).isSome with
            | false => rfl
            | true => exact absurd (hmem.1 hc) hm
          rw [if_neg (fun h => h.elim h0 hm)] at hrs
          by_cases h5 : (rowF arcs N bs S i j).length = 500
          · left
            refine ⟨_, .inr ⟨?_, rfl⟩, fun n => ?_⟩
            · have := rowF_len (arcs := arcs) (N := N) (bs := bs) (S := S) (i := i) (show j + 1 ≤ bs.length by omega)
              rw [hrs, List.length_append, List.length_singleton] at this
              omega
            · simp only [L21_18, Int.toNat_natCast]
              rw [if_pos (lt_nat hjl), if_pos (in_range hjl), if_pos (in_range (by omega)), hg, eb, e43, Option.bind_some, if_pos (in_range (by rw [fillF_length]; exact hjl)), if_neg (cf (by omega)), e42, Option.bind_some, if_pos (by rw [hns]; exact nft), if_pos (ct (by omega))]
          · right
            rw [hrs, idxOf_snoc hm] at hvd
            rw [hvd] at hfs
            have hpush := K.push (t := t) (by rw [hns]; exact ff)
            refine ⟨(j + 1, mput .str (key2 t) ((rowF arcs N bs S i j).length : Int) es), ⟨by simp only; omega, by simp only; rw [hrs, List.length_append, List.length_singleton]; omega, by simp only; rw [hrs]; exact hpush⟩, by simp only; omega, fun n => ?_⟩
            simp only [L21_18, Int.toNat_natCast]
            rw [if_pos (lt_nat hjl), if_pos (in_range hjl), if_pos (in_range (by omega)), hg, eb, e43, Option.bind_some, if_pos (in_range (by rw [fillF_length]; exact hjl)), if_neg (cf (by omega)), e42, Option.bind_some, if_pos (by rw [hns]; exact nft), if_neg (cf (by omega)), Option.bind_some, if_pos (ct (by simp only [List.length_singleton, lim]; omega)), if_pos (in_range (by rw [List.length_set, fillF_length]; exact hjl)), List.set_set, hfs, hrs, wrap_nat (by omega)])
  obtain ⟨r, hlim, hr⟩ := main
  have e0 : List.replicate (bs.length : Int).toNat (0 : Int) = fillF (valF arcs N bs S i) 0 bs.length 0 := by rw [Int.toNat_natCast]; exact fillF_zero
  rw [e0]
  rcases hr with ⟨es', h1, h2, rfl⟩ | ⟨h1, rfl⟩
  · exact .inl ⟨es', h1, h2, hlim⟩
  · exact .inr ⟨h1, hlim⟩

theorem rowsF_succ (i : Nat) : rowsF arcs N bs start (i + 1) = rowsF arcs N bs start i ++ [(List.range bs.length).map (valF arcs N bs (bfsF arcs N bs start bs.length i) i)] := by
  simp [rowsF, List.range_succ]
theorem accsF_succ (i : Nat) : accsF arcs N bs start acc (i + 1) = accsF arcs N bs start acc i ++ [lacc acc ((bfsF arcs N bs start bs.length i).getD i [])] := by
  simp [accsF, List.range_succ]
theorem rowsF_length (i : Nat) : (rowsF arcs N bs start i).length = i := by simp [rowsF]
theorem accsF_length (i : Nat) : (accsF arcs N bs start acc i).length = i := by simp [accsF]

theorem l21_14 (C : Ctx N st arcs acc bs) {es : List (List UInt8 × Int)} (K : KeyI [clo arcs N [start]] es) (cls : List Int) :
    (∃ M, OkM arcs N bs start M ∧ limit L21_14 (((), (), (), bs, (), (), (0 : Int), ()), ((st, start, arcs, acc, ()), D0, (cls, (), (), ()), [clo arcs N [start]], es, ([] : List (List Int)), ([] : List Int), ())) =
      some (.inr (((), (), ()), (D0, (cls, (), (), ()), rowsF arcs N bs start M, accsF arcs N bs start acc M, ())))) ∨
    ∃ e, ErrB arcs N bs start e ∧ limit L21_14 (((), (), (), bs, (), (), (0 : Int), ()), ((st, start, arcs, acc, ()), D0, (cls, (), (), ()), [clo arcs N [start]], es, ([] : List (List Int)), ([] : List Int), ())) =
      some (.inl (((), (11 : Int), ()), (D0, ()))) := by
  have hkl := C.kl
  have hN2 := C.hN2
  have main := state_rule (L := L21_14) (fun s : Nat × List (List UInt8 × Int) => (((), (), (), bs, (), (), (s.1 : Int), ()), ((st, start, arcs, acc, ()), D0, (cls, (), (), ()), bfsF arcs N bs start bs.length s.1, s.2, rowsF arcs N bs start s.1, accsF arcs N bs start acc s.1, ())))
    (fun s => s.1 ≤ (bfsF arcs N bs start bs.length s.1).length ∧ (bfsF arcs N bs start bs.length s.1).length ≤ 500 ∧ KeyI (bfsF arcs N bs start bs.length s.1) s.2 ∧ ∀ i, i < s.1 → i < (bfsF arcs N bs start bs.length i).length) (fun s => 500 - s.1)
    (fun r => (∃ M, OkM arcs N bs start M ∧ r = .inr (((), (), ()), (D0, (cls, (), (), ()), rowsF arcs N bs start M, accsF arcs N bs start acc M, ()))) ∨
      (∃ e, ErrB arcs N bs start e ∧ r = .inl (((), (11 : Int), ()), (D0, ())))) (0, es)
    ⟨Nat.zero_le _, by simp [bfsF], K, fun i hi => absurd hi (Nat.not_lt_zero i)⟩ (by simp only; omega) (by
    rintro ⟨i, es⟩ ⟨h1, h2, K, h3⟩
    dsimp only at h1 h2 K h3
    by_cases hi' : i = (bfsF arcs N bs start bs.length i).length
    · left
      refine ⟨_, .inl ⟨i, ⟨hi'.symm, by omega, h3⟩, rfl⟩, fun n => ?_⟩
      simp only [L21_14]
      rw [if_neg (cf (by omega))]
    · have hil : i < (bfsF arcs N bs start bs.length i).length := by omega
      have h3' : ∀ i', i' ≤ i → i' < (bfsF arcs N bs start bs.length i').length := fun i' h => by
        by_cases e : i' = i
        · rw [e]; exact hil
        · exact h3 i' (by omega)
      have hcl := bfsF_closed (arcs := arcs) (N := N) (bs := bs) start bs.length i
      have es1 : rowF arcs N bs (bfsF arcs N bs start bs.length i) i bs.length = bfsF arcs N bs start bs.length (i + 1) := rfl
      rcases l21_18 (start := start) C hil h2 hcl K cls (rowsF arcs N bs start i) (accsF arcs N bs start acc i) with ⟨es', g1, g2, g3⟩ | ⟨g1, g2⟩
      · right
        rw [es1] at g1 g2 g3
        have hle := bfsF_len (arcs := arcs) (N := N) (bs := bs) (start := start) (show i ≤ i + 1 by omega)
        have hget : (bfsF arcs N bs start bs.length (i + 1)).getD i [] = (bfsF arcs N bs start bs.length i).getD i [] := rowF_get hil i bs.length
        have hel := hcl.elem (getD_mem (d := ([] : List Int)) hil)
        have e44 := p44_spec (st := st) (start := start) (arcs := arcs) (acc := acc) (l := (bfsF arcs N bs start bs.length i).getD i []) (fun q hq => by rw [C.acl]; exact hel.2 q hq) (by omega)
        refine ⟨(i + 1, es'), ⟨by simp only; omega, g1, g2, fun i' h => h3' i' (by simp only at h; omega)⟩, by simp only; omega, fun n => ?_⟩
        simp only [L21_14, Int.toNat_natCast]
        rw [if_pos (lt_nat hil), if_pos (ct ⟨trivial, by omega, by simp only [lim]; omega⟩)]
        rw [Int.toNat_natCast] at g3
        rw [g3]
        simp only [Option.bind_some, Sum.elim_inr, Int.toNat_natCast]
        rw [if_pos (ct (by rw [rowsF_length]; simp only [List.length_singleton, lim]; omega)), if_pos (in_range (by omega)), hget, e44, Option.bind_some, if_pos (ct (by rw [accsF_length]; simp only [List.length_singleton, lim]; omega)), rowsF_succ, accsF_succ, wrap_nat (by omega)]
      · left
        rw [es1] at g1
        refine ⟨_, .inr ⟨i, ⟨h3', g1⟩, rfl⟩, fun n => ?_⟩
        simp only [L21_14, Int.toNat_natCast]
        rw [if_pos (lt_nat hil), if_pos (ct ⟨trivial, by omega, by simp only [lim]; omega⟩)]
        rw [Int.toNat_natCast] at g2
        rw [g2]
        rfl)
  obtain ⟨r, hlim, hr⟩ := main
  rcases hr with ⟨M, h1, rfl⟩ | ⟨e, h1, rfl⟩
  · exact .inl ⟨M, h1, hlim⟩
  · exact .inr ⟨e, h1, hlim⟩
end
end Go.AM
