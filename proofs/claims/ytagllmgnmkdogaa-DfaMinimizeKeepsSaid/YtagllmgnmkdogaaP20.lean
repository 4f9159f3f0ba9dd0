/- Minimize, ninth part: the rows of the new automaton. -/
import Derived.Test.YtagllmgnmkdogaaP19
namespace Go.AM
open Go

variable {c : List Int} {nx : List (List Int)} {ac : List Int} {part : List Int}

/-- the queue's states, and the map from parts to places -/
structure OI (nx : List (List Int)) (part : List Int) (Q : List QE) (order : List Int) (es : List (Int × Int)) : Prop where
  ol : order.length = Q.length
  oc : ∀ k, k < Q.length → 0 ≤ order.getD k 0 ∧ order.getD k 0 < nx.length ∧ cst part (order.getD k 0) = (Q.getD k qd).1.1
  em : ∀ k, k < Q.length → mget KI (part.getD (order.getD k 0).toNat 0 : Int) es = some (k : Int)
  eo : ∀ v : Int, (mget KI v es).isSome = true → ∃ k, k < Q.length ∧ part.getD (order.getD k 0).toNat 0 = v

/-- an entry of a row -/
def RowOk (c : List Int) (nx : List (List Int)) (part : List Int) (Q : List QE) (i b : Nat) (v : Int) : Prop :=
  ((dC c nx part (Q.getD i qd).1 b).1 < 0 ∧ v = -1) ∨ ∃ k, k < Q.length ∧ v = (k : Int) ∧ (Q.getD k qd).1 = dC c nx part (Q.getD i qd).1 b

theorem RowOk.snoc {Q : List QE} {i b : Nat} {v : Int} {e : QE} (h : RowOk c nx part Q i b v) (hi : i < Q.length) : RowOk c nx part (Q ++ [e]) i b v := by
  unfold RowOk at *
  rw [getD_snoc_lt hi]
  rcases h with h | ⟨k, h1, h2, h3⟩
  · exact .inl h
  · exact .inr ⟨k, by simp; omega, h2, by rw [getD_snoc_lt h1]; exact h3⟩

/-- what the samples are -/
structure Samp (c3 bs : List Int) (k3 : Nat) : Prop where
  l256 : c3.length = 256
  F : Fon c3 k3
  bl : bs.length = k3
  b : ∀ j, j < k3 → ∃ b : Nat, b < 256 ∧ bs.getD j 0 = (b : Int) ∧ c3.getD b 0 = (j : Int) ∧ ∀ b0, b0 < b → c3.getD b0 0 < (j : Int)

def posn (bs : List Int) (k3 j : Nat) : Nat := if j < k3 then (bs.getD j 0).toNat else 256

theorem BI.advance {E : Int × Int → Prop} {Q : List QE} {i : Nat} {δ : Int × Int → Nat → Int × Int} {dead : Int × Int → Prop} (hi : i < Q.length) :
    ∀ (d p : Nat), BI δ E dead Q i p → p + d ≤ 256 → (∀ b, p ≤ b → b < p + d → ∃ b0, b0 < b ∧ δ (Q.getD i qd).1 b0 = δ (Q.getD i qd).1 b) → BI δ E dead Q i (p + d)
  | 0, p, h, _, _ => h
  | d + 1, p, h, hd, hs => by
    have h1 := BI.advance hi d p h (by omega) (fun b h1 h2 => hs b h1 (by omega))
    obtain ⟨b0, q1, q2⟩ := hs (p + d) (by omega) (by omega)
    refine h1.skip hi (by omega) ?_
    rw [← q2]
    rcases h1.clo i b0 (.inr ⟨rfl, q1⟩) (by omega) hi with h3 | ⟨k, h3, h4, _⟩
    · exact .inl h3
    · exact .inr ⟨k, h3, h4⟩

theorem Samp.next {c3 bs : List Int} {k3 : Nat} (S : Samp c3 bs k3) {E : Int × Int → Prop} {Q : List QE} {i : Nat} {δ : Int × Int → Nat → Int × Int} {dead : Int × Int → Prop} (hi : i < Q.length)
    (hcl : ∀ a b, a < 256 → b < 256 → c3.getD a 0 = c3.getD b 0 → δ (Q.getD i qd).1 a = δ (Q.getD i qd).1 b) {j : Nat} (hj : j < k3) (h : BI δ E dead Q i (posn bs k3 j + 1)) : BI δ E dead Q i (posn bs k3 (j + 1)) := by
  obtain ⟨b, h1, h2, h3, h4⟩ := S.b j hj
  have e1 : posn bs k3 j = b := by unfold posn; rw [if_pos hj, h2]; omega
  rw [e1] at h
  obtain ⟨cnt, f0, f1, f2⟩ := S.F
  have fb := fon_before f0 f2 256 (by omega)
  have hpos : b + 1 ≤ posn bs k3 (j + 1) ∧ posn bs k3 (j + 1) ≤ 256 ∧ ∀ b', b + 1 ≤ b' → b' < posn bs k3 (j + 1) → c3.getD b' 0 ≤ (j : Int) := by
    unfold posn
    by_cases hj' : j + 1 < k3
    · obtain ⟨b2, q1, q2, q3, q4⟩ := S.b (j + 1) hj'
      rw [if_pos hj', q2, Int.toNat_natCast]
      refine ⟨?_, by omega, fun b' _ hb' => by have := q4 b' hb'; omega⟩
      apply Classical.byContradiction
      intro hn
      by_cases e : b2 = b
      · subst e; omega
      · have := h4 b2 (by omega); omega
    · rw [if_neg hj']
      exact ⟨by omega, by omega, fun b' _ hb' => by have := fb.2 b' hb'; omega⟩
  have := BI.advance (E := E) (dead := dead) hi (posn bs k3 (j + 1) - (b + 1)) (b + 1) h (by omega) (fun b' q1 q2 => by
    have hc := hpos.2.2 b' q1 (by omega)
    have hc0 := (fb.2 b' (by omega)).1
    obtain ⟨b0, r1, r2, r3, r4⟩ := S.b (c3.getD b' 0).toNat (by omega)
    refine ⟨b0, ?_, hcl b0 b' r1 (by omega) (by omega)⟩
    apply Classical.byContradiction
    intro hn
    have := r4 b (by omega)
    omega)
  rwa [show b + 1 + (posn bs k3 (j + 1) - (b + 1)) = posn bs k3 (j + 1) by omega] at this

theorem Samp.start {c3 bs : List Int} {k3 : Nat} (S : Samp c3 bs k3) (hk : 1 ≤ k3) : posn bs k3 0 = 0 := by
  obtain ⟨b, h1, h2, h3, h4⟩ := S.b 0 (by omega)
  unfold posn
  rw [if_pos (by omega), h2, Int.toNat_natCast]
  obtain ⟨cnt, f0, f1, f2⟩ := S.F
  rcases Nat.eq_zero_or_pos b with h | h
  · exact h
  · have := h4 0 h
    have := ((fon_before f0 f2 256 (by omega)).2 0 (by omega)).1
    omega

/-- one row -/
theorem l15_12 (P : Parts c nx ac part) {c3 bs : List Int} {k3 : Nat} (S : Samp c3 bs k3) (hk1 : 1 ≤ k3) {Q : List QE} {order : List Int} {es : List (Int × Int)} {i : Nat} (rows : List (List Int)) (accs : List Int)
    (hB : BI (dC c nx part) TrueP NegP Q i 0) (hi : i < Q.length) (O : OI nx part Q order es) (hsz : ∀ (Q' : List QE) (j : Nat), BI (dC c nx part) TrueP NegP Q' i j → Q'.length ≤ 2000)
    (hcl : ∀ a b, a < 256 → b < 256 → c3.getD a 0 = c3.getD b 0 → dC c nx part (Q.getD i qd).1 a = dC c nx part (Q.getD i qd).1 b) :
    ∃ r, limit L15_12 (((), (), part, (), bs, (), (), (i : Int), (), bs, (bs.length : Int), (0 : Int), ()), ((c, nx, ac, ()), (([] : List (Int)), ([] : List (List (Int))), ([] : List (Int)), ()), (c3, (), (), ()), order, es, (List.replicate (bs.length : Int).toNat (0 : Int)), rows, accs, ())) = some r ∧
      ∃ Q' order' es' row, r = (((), (), part, (), bs, (), (), (i : Int), (), ()), ((c, nx, ac, ()), (([] : List (Int)), ([] : List (List (Int))), ([] : List (Int)), ()), (c3, (), (), ()), order', es', row, rows, accs, ())) ∧
        BI (dC c nx part) TrueP NegP Q' i 256 ∧ i < Q'.length ∧ OI nx part Q' order' es' ∧ row.length = k3 ∧ (∀ j, j < k3 → RowOk c nx part Q' i (bs.getD j 0).toNat (row.getD j 0)) ∧
        (∃ ext, Q' = Q ++ ext) ∧ (∃ ext, order' = order ++ ext) := by
  have n5 := P.V.n500
  have bl := S.bl
  have hk3 := fon_le S.F
  let St : (List QE × List Int × List (Int × Int)) × List Int × Nat → ((Unit × Unit × (List (Int)) × Unit × (List (Int)) × Unit × Unit × (Int) × Unit × (List (Int)) × (Int) × (Int) × Unit) × (((List (Int)) × (List (List (Int))) × (List (Int)) × Unit) × ((List (Int)) × (List (List (Int))) × (List (Int)) × Unit) × ((List (Int)) × Unit × Unit × Unit) × (List (Int)) × (List ((Int) × (Int))) × (List (Int)) × (List (List (Int))) × (List (Int)) × Unit)) :=
    fun s => (((), (), part, (), bs, (), (), (i : Int), (), bs, (bs.length : Int), (s.2.2 : Int), ()), ((c, nx, ac, ()), (([] : List (Int)), ([] : List (List (Int))), ([] : List (Int)), ()), (c3, (), (), ()), s.1.2.1, s.1.2.2, s.2.1, rows, accs, ()))
  refine state_rule (L := L15_12) St (fun s => s.2.2 ≤ k3 ∧ BI (dC c nx part) TrueP NegP s.1.1 i (posn bs k3 s.2.2) ∧ i < s.1.1.length ∧ OI nx part s.1.1 s.1.2.1 s.1.2.2 ∧ s.2.1.length = k3 ∧
      (∀ j, j < s.2.2 → RowOk c nx part s.1.1 i (bs.getD j 0).toNat (s.2.1.getD j 0)) ∧ (∃ ext, s.1.1 = Q ++ ext) ∧ (∃ ext, s.1.2.1 = order ++ ext)) (fun s => k3 - s.2.2) _ ((Q, order, es), List.replicate (bs.length : Int).toNat (0 : Int), 0)
    ⟨by simp, by rw [S.start hk1]; exact hB, hi, O, by simp [bl], fun j hj => by simp only at hj; omega, ⟨[], by simp⟩, ⟨[], by simp⟩⟩ (by simp only; omega) ?_
  rintro ⟨⟨Q1, o1, e1⟩, row, j⟩ ⟨hj, B1, hi1, O1, hrl, hrow, hext, hexto⟩
  simp only at hj B1 hi1 O1 hrl hrow hext hexto
  by_cases hj' : j = k3
  · left
    subst hj'
    have ep : posn bs j j = 256 := by unfold posn; rw [if_neg (by omega)]
    rw [ep] at B1
    refine ⟨_, ⟨Q1, o1, e1, row, rfl, B1, hi1, O1, hrl, hrow, hext, hexto⟩, fun n => ?_⟩
    simp only [St, L15_12]
    rw [if_neg (cf (by omega))]
  · right
    have hjl : j < k3 := by omega
    have hQi : Q1.getD i qd = Q.getD i qd := by
      obtain ⟨ext, rfl⟩ := hext
      rw [List.getD_eq_getElem?_getD, List.getD_eq_getElem?_getD, List.getElem?_append_left hi]
    obtain ⟨b, hb1, hb2, hb3, hb4⟩ := S.b j hjl
    have ep : posn bs k3 j = b := by unfold posn; rw [if_pos hjl, hb2]; omega
    have epos := ep
    rw [ep] at B1
    have ho := O1.oc i hi1
    have hol := O1.ol
    have hsm := hsz Q1 _ B1
    have hrep := B1.rep P hi1
    -- the step
    have e29 := p29_spec P.V ho.2.1 hb1
    have hv := P.V.step ho.2.1 hb1
    have hcs : cst part (stepZ c nx (o1.getD i 0) b) = (dC c nx part (Q1.getD i qd).1 b).1 := by
      show _ = cst part (stepZ c nx (Q1.getD i qd).1.1 b)
      refine cst_step P (by omega) ho.2.1 hrep.1 hrep.2.1 ?_ hb1
      rw [← ho.2.2, cst_cst P (by omega) ho.2.1]
    have hcl1 : ∀ (Q' : List QE), Q'.getD i qd = Q.getD i qd → ∀ a b, a < 256 → b < 256 → c3.getD a 0 = c3.getD b 0 → dC c nx part (Q'.getD i qd).1 a = dC c nx part (Q'.getD i qd).1 b := fun Q' h => by rw [h]; exact hcl
    generalize ht : stepZ c nx (o1.getD i 0) b = t at e29 hv hcs
    have hcr := cst_range P hv.2
    have rowset : ∀ (Q' : List QE) (v w : Int), (∀ j', j' < j → RowOk c nx part Q' i (bs.getD j' 0).toNat (row.getD j' 0)) → RowOk c nx part Q' i b v →
        (∀ j', j' < j + 1 → RowOk c nx part Q' i (bs.getD j' 0).toNat ((row.set j v).getD j' 0)) ∧ (∀ j', j' < j + 1 → RowOk c nx part Q' i (bs.getD j' 0).toNat (((row.set j w).set j v).getD j' 0)) := by
      intro Q' v w h1 h2
      have hw : (row.set j w).set j v = row.set j v := by rw [List.set_set]
      rw [hw]
      have : ∀ j', j' < j + 1 → RowOk c nx part Q' i (bs.getD j' 0).toNat ((row.set j v).getD j' 0) := by
        intro j' hj'
        rw [getD_set (by omega)]
        by_cases e : j = j'
        · subst e; rw [if_pos rfl, hb2, Int.toNat_natCast]; exact h2
        · rw [if_neg e]; exact h1 j' (by omega)
      exact ⟨this, this⟩
    by_cases hneg : t < 0
    · have hok : RowOk c nx part Q1 i b (-1) := .inl ⟨by rw [← hcs]; exact hcr.2.2.2 hneg, rfl⟩
      have B2 : BI (dC c nx part) TrueP NegP Q1 i (b + 1) := B1.skip hi1 hb1 (.inl (by show (dC c nx part (Q1.getD i qd).1 b).1 < 0; rw [← hcs]; exact hcr.2.2.2 hneg))
      have B3 := S.next hi1 (hcl1 Q1 hQi) hjl (by rw [epos]; exact B2)
      refine ⟨((Q1, o1, e1), row.set j (-1), j + 1), ⟨by simp only; omega, B3, hi1, O1, by simp only [List.length_set]; exact hrl, (rowset Q1 (-1) 0 hrow hok).1, hext, hexto⟩, by simp only; omega, fun n => ?_⟩
      simp only [St, L15_12, Int.toNat_natCast, hb2]
      rw [if_pos (ct (by omega)), if_pos (in_range (by omega)), if_pos (in_range (by omega)), e29, Option.bind_some, if_pos (in_range (by omega)), if_pos (ct hneg), wrap_nat (by omega)]
    · have hpt := P.pb t.toNat (by omega)
      have pl := P.pl
      by_cases hm : (mget KI (part.getD t.toNat 0 : Int) e1).isSome = true
      · -- known
        obtain ⟨k, hk, ek⟩ := O1.eo _ hm
        have em := O1.em k hk
        rw [ek] at em
        have hok' := O1.oc k hk
        have hrk := B1.rep P hk
        have hQk : (Q1.getD k qd).1 = dC c nx part (Q1.getD i qd).1 b := by
          refine Prod.ext ?_ hrk.2.2
          rw [← hcs, ← hok'.2.2]
          rw [cst_eq P (by omega) hok'.2.1 hv.1 hv.2]
          right
          exact ⟨hok'.1, by omega, ek⟩
        have hok : RowOk c nx part Q1 i b (k : Int) := .inr ⟨k, hk, rfl, hQk⟩
        have B2 : BI (dC c nx part) TrueP NegP Q1 i (b + 1) := B1.skip hi1 hb1 (.inr ⟨k, hk, hQk⟩)
        have B3 := S.next hi1 (hcl1 Q1 hQi) hjl (by rw [epos]; exact B2)
        refine ⟨((Q1, o1, e1), (row.set j (-1)).set j (k : Int), j + 1), ⟨by simp only; omega, B3, hi1, O1, by simp only [List.length_set]; exact hrl, (rowset Q1 (k : Int) (-1) hrow hok).2, hext, hexto⟩, by simp only; omega, fun n => ?_⟩
        simp only [St, L15_12, Int.toNat_natCast, hb2]
        rw [if_pos (ct (by omega)), if_pos (in_range (by omega)), if_pos (in_range (by omega)), e29, Option.bind_some, if_pos (in_range (by omega)), if_neg (cf hneg), if_pos (ct (by omega)), if_neg (by rw [hm]; exact ntf),
          if_pos (ct (by rw [List.length_set]; omega)), wrap_nat (by omega), em]
        rfl
      · -- new
        have hm' : (mget KI (part.getD t.toNat 0 : Int) e1).isSome = false := by simpa using hm
        have hno : ∀ k, k < Q1.length → (Q1.getD k qd).1 ≠ dC c nx part (Q1.getD i qd).1 b := by
          intro k hk he
          have hok' := O1.oc k hk
          have h1 := congrArg Prod.fst he
          rw [← hcs, ← hok'.2.2] at h1
          rcases (cst_eq P (by omega) hok'.2.1 hv.1 hv.2).1 h1 with h | ⟨_, _, h⟩
          · omega
          · have em := O1.em k hk
            rw [h] at em
            rw [em] at hm'
            cases hm'
        have B2 := B1.push hi1 hb1 hno
        have hQi2 : (Q1 ++ [(dC c nx part (Q1.getD i qd).1 b, (Q1.getD i qd).2 ++ [UInt8.ofNat b])]).getD i qd = Q.getD i qd := by rw [getD_snoc_lt hi1]; exact hQi
        have B3 := S.next (by simp only [List.length_append]; omega) (hcl1 _ hQi2) hjl (by rw [epos]; exact B2)
        have hok : RowOk c nx part (Q1 ++ [(dC c nx part (Q1.getD i qd).1 b, (Q1.getD i qd).2 ++ [UInt8.ofNat b])]) i b (o1.length : Int) :=
          .inr ⟨Q1.length, by simp, by omega, by rw [getD_snoc_eq, getD_snoc_lt hi1]⟩
        have O2 : OI nx part (Q1 ++ [(dC c nx part (Q1.getD i qd).1 b, (Q1.getD i qd).2 ++ [UInt8.ofNat b])]) (o1 ++ [t]) (mput KI (part.getD t.toNat 0 : Int) (o1.length : Int) e1) := by
          refine ⟨by simp [hol], fun k hk => ?_, fun k hk => ?_, fun v hv' => ?_⟩
          · rw [List.length_append, List.length_singleton] at hk
            by_cases e : k < Q1.length
            · rw [getD_snoc_lt (by omega), getD_snoc_lt e]; exact O1.oc k e
            · have : k = o1.length := by omega
              subst this
              rw [getD_snoc_eq]
              have e2 : (Q1 ++ [(dC c nx part (Q1.getD i qd).1 b, (Q1.getD i qd).2 ++ [UInt8.ofNat b])]).getD o1.length qd = (dC c nx part (Q1.getD i qd).1 b, (Q1.getD i qd).2 ++ [UInt8.ofNat b]) := by rw [hol]; exact getD_snoc_eq
              rw [e2]
              exact ⟨by omega, hv.2, hcs⟩
          · rw [List.length_append, List.length_singleton] at hk
            by_cases e : k < Q1.length
            · rw [getD_snoc_lt (by omega)]
              have em := O1.em k e
              have hne : (part.getD (o1.getD k 0).toNat 0 : Int) ≠ part.getD t.toNat 0 := fun hh => by rw [hh] at em; rw [em] at hm'; cases hm'
              rw [mget_mput_other eqOk_KI hne]
              exact em
            · have : k = o1.length := by omega
              subst this
              rw [getD_snoc_eq]
              exact mget_mput_same eqOk_KI _ _ _
          · by_cases e : v = part.getD t.toNat 0
            · exact ⟨Q1.length, by simp, by rw [← hol, getD_snoc_eq]; exact e.symm⟩
            · rw [mget_mput_other eqOk_KI e] at hv'
              obtain ⟨k, h1, h2⟩ := O1.eo v hv'
              exact ⟨k, by simp; omega, by rw [getD_snoc_lt (by omega)]; exact h2⟩
        refine ⟨((Q1 ++ [(dC c nx part (Q1.getD i qd).1 b, (Q1.getD i qd).2 ++ [UInt8.ofNat b])], o1 ++ [t], mput KI (part.getD t.toNat 0 : Int) (o1.length : Int) e1), (row.set j (-1)).set j (o1.length : Int), j + 1),
          ⟨by simp only; omega, B3, by simp only [List.length_append]; omega, O2, by simp only [List.length_set]; exact hrl, (rowset _ (o1.length : Int) (-1) (fun j' hj' => (hrow j' hj').snoc hi1) hok).2, ?_, ?_⟩, by simp only; omega, fun n => ?_⟩
        · obtain ⟨ext, rfl⟩ := hext
          exact ⟨ext ++ [_], by rw [List.append_assoc]⟩
        · obtain ⟨ext, rfl⟩ := hexto
          exact ⟨ext ++ [_], by rw [List.append_assoc]⟩
        · simp only [St, L15_12, Int.toNat_natCast, hb2]
          rw [if_pos (ct (by omega)), if_pos (in_range (by omega)), if_pos (in_range (by omega)), e29, Option.bind_some, if_pos (in_range (by omega)), if_neg (cf hneg), if_pos (ct (by omega)), if_pos (by rw [hm']; rfl),
            if_pos (ct (by omega)), if_pos (ct (by simp only [List.length_singleton, lim]; omega)), if_pos (ct (by rw [List.length_set]; omega)), wrap_nat (by omega)]
end Go.AM
