/- Minimize, tenth part: what it returns is minimal, in canonical form, with the same language. -/
import Derived.Test.YtagllmgnmkdogaaP20
namespace Go.AM
open Go

variable {c : List Int} {nx : List (List Int)} {ac : List Int} {part : List Int}

/-- the finished automaton, and the search behind it -/
structure Done (c : List Int) (nx : List (List Int)) (ac part c3 bs : List Int) (k3 : Nat) (Q : List QE) (order : List Int) (rows : List (List Int)) (accs : List Int) : Prop where
  B : BI (dC c nx part) TrueP NegP Q Q.length 0
  oc : ∀ k, k < Q.length → 0 ≤ order.getD k 0 ∧ order.getD k 0 < nx.length ∧ cst part (order.getD k 0) = (Q.getD k qd).1.1
  rl : rows.length = Q.length
  al : accs.length = Q.length
  row : ∀ i, i < Q.length → (rows.getD i []).length = k3 ∧ ∀ j, j < k3 → RowOk c nx part Q i (bs.getD j 0).toNat ((rows.getD i []).getD j 0)
  acc : ∀ i, i < Q.length → accs.getD i 0 = ac.getD (order.getD i 0).toNat 0

theorem getD_append_lt {α : Type} {l m : List α} {d : α} {k : Nat} (h : k < l.length) : (l ++ m).getD k d = l.getD k d := by
  rw [List.getD_eq_getElem?_getD, List.getD_eq_getElem?_getD, List.getElem?_append_left h]

theorem RowOk.ext {Q ext : List QE} {i b : Nat} {v : Int} (h : RowOk c nx part Q i b v) (hi : i < Q.length) : RowOk c nx part (Q ++ ext) i b v := by
  unfold RowOk at *
  rw [getD_append_lt hi]
  rcases h with h | ⟨k, h1, h2, h3⟩
  · exact .inl h
  · exact .inr ⟨k, by simp; omega, h2, by rw [getD_append_lt h1]; exact h3⟩

theorem BI.size (P : Parts c nx ac part) {Q : List QE} {i j : Nat} (h : BI (dC c nx part) TrueP NegP Q i j) : Q.length ≤ 2000 := by
  have h1 := h.bound (na := nx.length) (nb := 1) (fun k hk => by have := h.rep P hk; omega)
  have := P.V.n500
  omega

theorem Done.size {c3 bs : List Int} {k3 : Nat} {Q : List QE} {order : List Int} {rows : List (List Int)} {accs : List Int} (D : Done c nx ac part c3 bs k3 Q order rows accs) (P : Parts c nx ac part) : Q.length ≤ nx.length := by
  have h := nodup_bound nx.length (Q.map fun e => e.1.1.toNat) ?_ ?_
  · simpa using h
  · refine List.pairwise_iff_getElem.2 fun a b ha hb hab he => ?_
    simp only [List.length_map] at ha hb
    have e : ∀ k (hk : k < Q.length), Q[k] = Q.getD k qd := fun k hk => by rw [List.getD_eq_getElem?_getD, List.getElem?_eq_getElem hk]; rfl
    simp only [List.getElem_map, e a ha, e b hb] at he
    have r1 := D.B.rep P ha
    have r2 := D.B.rep P hb
    have o1 := D.oc a ha
    have o2 := D.oc b hb
    have q1 := (cst_range P o1.2.1).2.2
    have q2 := (cst_range P o2.2.1).2.2
    have p1 : ¬ cst part (order.getD a 0) < 0 := fun h => by have := q1.1 h; omega
    have p2 : ¬ cst part (order.getD b 0) < 0 := fun h => by have := q2.1 h; omega
    exact D.B.nod a b hab hb (Prod.ext (by omega) (by rw [r1.2.2, r2.2.2]))
  · intro x hx
    obtain ⟨e, he, rfl⟩ := List.mem_map.1 hx
    obtain ⟨k, hk, rfl⟩ := List.mem_iff_getElem.1 he
    have e : Q[k] = Q.getD k qd := by rw [List.getD_eq_getElem?_getD, List.getElem?_eq_getElem hk]; rfl
    rw [e]
    have r1 := D.B.rep P hk
    have n1 := P.V.n1
    omega

theorem l15_8 (P : Parts c nx ac part) {c3 bs : List Int} {k3 : Nat} (S : Samp c3 bs k3) (hk1 : 1 ≤ k3)
    (hcl : ∀ w, 0 ≤ runZ c nx 0 w → ∀ a b, a < 256 → b < 256 → c3.getD a 0 = c3.getD b 0 → cst part (stepZ c nx (runZ c nx 0 w) a) = cst part (stepZ c nx (runZ c nx 0 w) b)) :
    ∃ Q order rows accs, limit L15_8 (((), (), part, (), bs, (), (), (0 : Int), ()), ((c, nx, ac, ()), (([] : List (Int)), ([] : List (List (Int))), ([] : List (Int)), ()), (c3, (), (), ()), ([(0 : Int)] : List (Int)), (mput (.int .i64) (part.getD (0 : Int).toNat 0) (0 : Int) ([] : List ((Int) × (Int)))), ([] : List (List (Int))), ([] : List (Int)), ())) =
      some (((), (), ()), ((([] : List (Int)), ([] : List (List (Int))), ([] : List (Int)), ()), (c3, (), (), ()), rows, accs, ())) ∧ Done c nx ac part c3 bs k3 Q order rows accs := by
  have n5 := P.V.n500
  have n1 := P.V.n1
  have bl := S.bl
  have hk3 := fon_le S.F
  have hal := P.V.al
  let St : (List QE × List Int × List (Int × Int)) × List (List Int) × List Int × Nat → ((Unit × Unit × (List (Int)) × Unit × (List (Int)) × Unit × Unit × (Int) × Unit) × (((List (Int)) × (List (List (Int))) × (List (Int)) × Unit) × ((List (Int)) × (List (List (Int))) × (List (Int)) × Unit) × ((List (Int)) × Unit × Unit × Unit) × (List (Int)) × (List ((Int) × (Int))) × (List (List (Int))) × (List (Int)) × Unit)) :=
    fun s => (((), (), part, (), bs, (), (), (s.2.2.2 : Int), ()), ((c, nx, ac, ()), (([] : List (Int)), ([] : List (List (Int))), ([] : List (Int)), ()), (c3, (), (), ()), s.1.2.1, s.1.2.2, s.2.1, s.2.2.1, ()))
  have main := state_rule (L := L15_8) St (fun s => s.2.2.2 ≤ s.1.1.length ∧ BI (dC c nx part) TrueP NegP s.1.1 s.2.2.2 0 ∧ OI nx part s.1.1 s.1.2.1 s.1.2.2 ∧ s.2.1.length = s.2.2.2 ∧ s.2.2.1.length = s.2.2.2 ∧
      (∀ i, i < s.2.2.2 → (s.2.1.getD i []).length = k3 ∧ ∀ j, j < k3 → RowOk c nx part s.1.1 i (bs.getD j 0).toNat ((s.2.1.getD i []).getD j 0)) ∧ (∀ i, i < s.2.2.2 → s.2.2.1.getD i 0 = ac.getD (s.1.2.1.getD i 0).toNat 0)) (fun s => 2000 - s.2.2.2)
    (fun r => ∃ Q order rows accs, r = (((), (), ()), ((([] : List (Int)), ([] : List (List (Int))), ([] : List (Int)), ()), (c3, (), (), ()), rows, accs, ())) ∧ Done c nx ac part c3 bs k3 Q order rows accs)
    (([qd], [0], [(part.getD 0 0, 0)]), [], [], 0)
    ⟨by simp, BI.init, ⟨rfl, fun k hk => by
      simp at hk; subst hk
      refine ⟨Int.le_refl _, by show (0 : Int) < _; omega, ?_⟩
      show cst part 0 = 0
      exact cst_zero P, fun k hk => by
      simp at hk; subst hk
      show (if Kind.eqB KI (part.getD 0 0) (part.getD 0 0) = true then some (0 : Int) else none) = some ((0 : Nat) : Int)
      rw [if_pos ((eqOk_KI _ _).2 rfl)]
      rfl, fun v hv => by
      refine ⟨0, by simp, ?_⟩
      show part.getD 0 0 = v
      have hv' : (if Kind.eqB KI v (part.getD 0 0) = true then some (0 : Int) else none).isSome = true := hv
      split at hv'
      · rename_i e; exact ((eqOk_KI _ _).1 e).symm
      · cases hv'⟩, rfl, rfl, fun i hi => by simp at hi, fun i hi => by simp at hi⟩ (by simp only; omega) (by
    rintro ⟨⟨Q, order, es⟩, rows, accs, i⟩ ⟨hi, B, O, hrl, hacl, hrow, hacc⟩
    simp only at hi B O hrl hacl hrow hacc
    have hol := O.ol
    have hsz := B.size P
    by_cases hi' : i = Q.length
    · left
      subst hi'
      refine ⟨_, ⟨Q, order, rows, accs, rfl, B, O.oc, hrl, hacl, hrow, hacc⟩, fun n => ?_⟩
      simp only [St, L15_8]
      rw [if_neg (cf (by omega))]
    · right
      have hil : i < Q.length := by omega
      have hcst := B.cst P hil
      have ho := O.oc i hil
      have hrun := P.V.run (Q.getD i qd).2 (s := 0) (by omega) (by omega)
      have hpos : 0 ≤ runZ c nx 0 (Q.getD i qd).2 := by
        apply Classical.byContradiction
        intro hneg
        have r := (cst_range P hrun.2).2.2.2 (by omega)
        have e := congrArg Prod.fst hcst
        simp only at e
        have q := (cst_range P ho.2.1).2.2
        have := q.1 (by rw [ho.2.2, e]; exact r)
        omega
      have hcl' : ∀ a b, a < 256 → b < 256 → c3.getD a 0 = c3.getD b 0 → dC c nx part (Q.getD i qd).1 a = dC c nx part (Q.getD i qd).1 b := by
        intro a b ha hb he
        rw [hcst]
        show (cst part (stepZ c nx (cst part (runZ c nx 0 (Q.getD i qd).2)) a), (0 : Int)) = (cst part (stepZ c nx (cst part (runZ c nx 0 (Q.getD i qd).2)) b), 0)
        have r := cst_range P hrun.2
        rw [cst_step P r.1 r.2.1 hrun.1 hrun.2 (cst_cst P hrun.1 hrun.2) ha, cst_step P r.1 r.2.1 hrun.1 hrun.2 (cst_cst P hrun.1 hrun.2) hb, hcl _ hpos a b ha hb he]
      obtain ⟨r, hlim, Q', order', es', row, rfl, B', hi'', O', hrl', hrow', ⟨ext, rfl⟩, ⟨exto, rfl⟩⟩ := l15_12 P S hk1 rows accs B hil O (fun Q' j h => h.size P) hcl'
      refine ⟨((Q ++ ext, order ++ exto, es'), rows ++ [row], accs ++ [ac.getD (order.getD i 0).toNat 0], i + 1), ⟨by simp only; omega, B'.next trivial, O', by simp [hrl], by simp [hacl], fun i' hi' => ?_, fun i' hi' => ?_⟩, by simp only; omega, fun n => ?_⟩
      · simp only at hi' ⊢
        by_cases e : i' < i
        · rw [getD_snoc_lt (by omega)]
          exact ⟨(hrow i' e).1, fun j hj => ((hrow i' e).2 j hj).ext (by omega)⟩
        · have : i' = rows.length := by omega
          subst this
          rw [getD_snoc_eq]
          exact ⟨hrl', fun j hj => by have := hrow' j hj; rw [← hrl] at this; exact this⟩
      · simp only at hi' ⊢
        by_cases e : i' < i
        · rw [getD_snoc_lt (by omega), getD_append_lt (by omega)]
          exact hacc i' e
        · have : i' = accs.length := by omega
          subst this
          rw [getD_snoc_eq, getD_append_lt (by omega), hacl]
      · simp only [St, L15_8, Int.toNat_natCast]
        have eo : (order ++ exto).getD i 0 = order.getD i 0 := getD_append_lt (by omega)
        rw [if_pos (ct (by omega)), if_pos (ct ⟨trivial, by omega, by simp only [lim]; omega⟩)]
        rw [Int.toNat_natCast] at hlim
        rw [hlim]
        simp only [Option.bind_some, Int.toNat_natCast, eo]
        rw [if_pos (ct (by simp only [List.length_singleton, lim]; omega)), if_pos (ct (by simp only [List.length_append]; omega)), if_pos (ct (by omega)), if_pos (ct (by simp only [List.length_singleton, lim]; omega)), wrap_nat (by omega)])
  obtain ⟨r, hlim, Q, order, rows, accs, rfl, D⟩ := main
  exact ⟨Q, order, rows, accs, hlim, D⟩

section
variable (P : Parts c nx ac part) {c3 bs : List Int} {k3 : Nat} (S : Samp c3 bs k3) (hk1 : 1 ≤ k3) {Q : List QE} {order : List Int} {rows : List (List Int)} {accs : List Int} (D : Done c nx ac part c3 bs k3 Q order rows accs)
  (hcl : ∀ w, 0 ≤ runZ c nx 0 w → ∀ a b, a < 256 → b < 256 → c3.getD a 0 = c3.getD b 0 → cst part (stepZ c nx (runZ c nx 0 w) a) = cst part (stepZ c nx (runZ c nx 0 w) b))
include P S D

omit S in
theorem Done.good {i : Nat} (hi : i < Q.length) : 0 ≤ runZ c nx 0 (Q.getD i qd).2 ∧ runZ c nx 0 (Q.getD i qd).2 < nx.length ∧ (Q.getD i qd).1 = (cst part (runZ c nx 0 (Q.getD i qd).2), 0) := by
  have n1 := P.V.n1
  have hcst := D.B.cst P hi
  have ho := D.oc i hi
  have hrun := P.V.run (Q.getD i qd).2 (s := 0) (by omega) (by omega)
  refine ⟨?_, hrun.2, hcst⟩
  apply Classical.byContradiction
  intro hneg
  have r := (cst_range P hrun.2).2.2.2 (by omega)
  have e := congrArg Prod.fst hcst
  simp only at e
  have q := (cst_range P ho.2.1).2.2
  have := q.1 (by rw [ho.2.2, e]; exact r)
  omega

include hcl in
/-- a step of the new automaton -/
theorem Done.stepM {i : Nat} (hi : i < Q.length) {b : Nat} (hb : b < 256) :
    (stepZ c3 rows i b = -1 ∧ cst part (stepZ c nx (runZ c nx 0 (Q.getD i qd).2) b) < 0) ∨ ∃ k, k < Q.length ∧ stepZ c3 rows i b = (k : Int) ∧ (Q.getD k qd).1.1 = cst part (stepZ c nx (runZ c nx 0 (Q.getD i qd).2) b) := by
  obtain ⟨g1, g2, g3⟩ := D.good P hi
  obtain ⟨cnt, f0, f1, f2⟩ := S.F
  have fb := (fon_before f0 f2 256 (by omega)).2 b hb
  obtain ⟨b1, q1, q2, q3, q4⟩ := S.b (c3.getD b 0).toNat (by omega)
  have hrow := (D.row i hi).2 (c3.getD b 0).toNat (by omega)
  rw [q2, Int.toNat_natCast] at hrow
  have e1 : stepZ c3 rows (i : Int) b = (rows.getD i []).getD (c3.getD b 0).toNat 0 := by unfold stepZ; rw [if_neg (by omega), Int.toNat_natCast]
  rw [← e1] at hrow
  have r := cst_range P g2
  have ed : ∀ b, b < 256 → (dC c nx part (Q.getD i qd).1 b).1 = cst part (stepZ c nx (runZ c nx 0 (Q.getD i qd).2) b) := by
    intro b hb
    rw [g3]
    show cst part (stepZ c nx (cst part (runZ c nx 0 (Q.getD i qd).2)) b) = _
    exact cst_step P r.1 r.2.1 (by omega) g2 (cst_cst P (by omega) g2) hb
  have ecl := hcl _ g1 b1 b q1 hb (by omega)
  rcases hrow with ⟨h1, h2⟩ | ⟨k, h1, h2, h3⟩
  · left
    rw [ed b1 q1, ecl] at h1
    exact ⟨h2, h1⟩
  · right
    have h4 := congrArg Prod.fst h3
    rw [ed b1 q1, ecl] at h4
    exact ⟨k, h1, h2, h4⟩

include hcl in
theorem Done.runM (w : List UInt8) : (runZ c3 rows 0 w = -1 ∧ runZ c nx 0 w < 0) ∨ ∃ k, k < Q.length ∧ runZ c3 rows 0 w = (k : Int) ∧ (Q.getD k qd).1.1 = cst part (runZ c nx 0 w) := by
  have n1 := P.V.n1
  refine snoc_ind (p := fun w => (runZ c3 rows 0 w = -1 ∧ runZ c nx 0 w < 0) ∨ ∃ k, k < Q.length ∧ runZ c3 rows 0 w = (k : Int) ∧ (Q.getD k qd).1.1 = cst part (runZ c nx 0 w)) ?_ (fun u b ih => ?_) w
  · right
    refine ⟨0, D.B.pos, rfl, ?_⟩
    rw [D.B.h0]
    exact (cst_zero P).symm
  · have hbl := UInt8.toNat_lt b
    have hru := P.V.run u (s := 0) (by omega) (by omega)
    rw [runZ_append, runZ_append]
    show (stepZ c3 rows (runZ c3 rows 0 u) b.toNat = -1 ∧ stepZ c nx (runZ c nx 0 u) b.toNat < 0) ∨ ∃ k, k < Q.length ∧ stepZ c3 rows (runZ c3 rows 0 u) b.toNat = (k : Int) ∧ (Q.getD k qd).1.1 = cst part (stepZ c nx (runZ c nx 0 u) b.toNat)
    rcases ih with ⟨h1, h2⟩ | ⟨k, h1, h2, h3⟩
    · left
      rw [h1]
      refine ⟨by unfold stepZ; rw [if_pos (by omega)], ?_⟩
      unfold stepZ; rw [if_pos h2]; omega
    · rw [h2]
      obtain ⟨g1, g2, g3⟩ := D.good P h1
      rw [g3] at h3
      simp only at h3
      have hst := cst_step P (by omega) g2 hru.1 hru.2 h3 hbl
      have hv := P.V.step hru.2 hbl
      rcases D.stepM P S hcl h1 hbl with ⟨h4, h5⟩ | ⟨k', h4, h5, h6⟩
      · left
        refine ⟨h4, ?_⟩
        rw [hst] at h5
        exact (cst_range P hv.2).2.2.1 h5
      · right
        exact ⟨k', h4, h5, by rw [h6, hst]⟩

include hk1 hcl in
theorem Done.canon (hkc : ∀ a b, a < 256 → b < 256 → (∀ w, 0 ≤ runZ c nx 0 w → cst part (stepZ c nx (runZ c nx 0 w) a) = cst part (stepZ c nx (runZ c nx 0 w) b)) → c3.getD a 0 = c3.getD b 0) :
    Cano c3 rows accs (fun w => accZ ac (runZ c nx 0 w)) ∧ rows.length ≤ nx.length := by
  have n1 := P.V.n1
  have n5 := P.V.n500
  have hpos := D.B.pos
  have hrl := D.rl
  have hal := D.al
  have hsz := D.size P
  have hk0 : (rows.getD 0 []).length = k3 := (D.row 0 hpos).1
  obtain ⟨cnt, f0, f1, f2⟩ := S.F
  have fb := (fon_before f0 f2 256 (by omega)).2
  have VM : VDfa c3 rows accs := by
    refine ⟨S.l256, by omega, by omega, by omega, by omega, fun b hb => by rw [hk0, ← f1]; exact fb b hb, fun s hs => by rw [hk0]; exact (D.row s (by omega)).1, fun s hs j hj => ?_, fun s hs => ?_⟩
    · rcases (D.row s (by omega)).2 j (by omega) with ⟨_, h⟩ | ⟨k, h1, h2, _⟩
      · omega
      · omega
    · rw [D.acc s (by omega)]
      have := D.oc s (by omega)
      exact P.V.ar _ (by omega)
  have hstep : ∀ i : Nat, i < Q.length → ∀ x, runZ c3 rows (i : Int) x = runZ c3 rows 0 ((Q.getD i qd).2 ++ x) := by
    intro i hi x
    rw [runZ_append]
    rcases D.runM P S hcl (Q.getD i qd).2 with ⟨_, h⟩ | ⟨k, h1, h2, h3⟩
    · have := (D.good P hi).1; omega
    · have e : k = i := by
        apply Classical.byContradiction
        intro hne
        obtain ⟨g1, g2, g3⟩ := D.good P hi
        obtain ⟨k1, k2, k3'⟩ := D.good P h1
        have hq : (Q.getD k qd).1 = (Q.getD i qd).1 := by
          rw [g3]
          exact Prod.ext h3 (D.B.rep P h1).2.2
        rcases Nat.lt_or_gt_of_ne hne with h | h
        · exact D.B.nod k i h hi hq
        · exact D.B.nod i k h h1 hq.symm
      subst e
      rw [h2]
  have lang : ∀ w, accZ accs (runZ c3 rows 0 w) = accZ ac (runZ c nx 0 w) := by
    intro w
    have hrw := P.V.run w (s := 0) (by omega) (by omega)
    rcases D.runM P S hcl w with ⟨h1, h2⟩ | ⟨k, h1, h2, h3⟩
    · rw [h1]; unfold accZ; rw [if_pos (by omega), if_pos h2]
    · have ho := D.oc k h1
      rw [h2]
      have e1 : accZ accs (k : Int) = ac.getD (order.getD k 0).toNat 0 := by unfold accZ; rw [if_neg (by omega), Int.toNat_natCast, D.acc k h1]
      rw [e1]
      have h4 : cst part (order.getD k 0) = cst part (runZ c nx 0 w) := by rw [ho.2.2, h3]
      rcases (cst_eq P (by omega) ho.2.1 hrw.1 hrw.2).1 h4 with ⟨h, _⟩ | ⟨_, h5, h6⟩
      · omega
      · have hle := (LE_part P ho.1 ho.2.1 h5 hrw.2).1 h6 []
        have e2 : accZ ac (runZ c nx (order.getD k 0) []) = ac.getD (order.getD k 0).toNat 0 := by
          show accZ ac (order.getD k 0) = _
          unfold accZ; rw [if_neg (by omega)]
        rw [← e2]
        exact hle
  have langi : ∀ i : Nat, i < Q.length → ∀ x, accZ accs (runZ c3 rows (i : Int) x) = accZ ac (runZ c nx (runZ c nx 0 (Q.getD i qd).2) x) := by
    intro i hi x
    rw [hstep i hi x, lang, runZ_append]
  refine ⟨⟨VM, lang, ⟨Q.map (·.2), by simp [hrl], fun i hi => ?_, fun i j hij hj => ?_, fun w i hi hw => ?_⟩, fun i j hi hj h => ?_, fun i hi b hb hst => ?_, fun a b ha hb h => ?_, ?_⟩, by omega⟩
  · rw [map_getD (d := qd) (by omega)]
    have := hstep i (by omega) []
    rw [List.append_nil] at this
    exact this.symm
  · rw [map_getD (d := qd) (by omega), map_getD (d := qd) (by omega)]
    exact D.B.inc i j hij (by omega)
  · rw [map_getD (d := qd) (by omega)]
    have hiQ : i < Q.length := by omega
    rcases D.runM P S hcl w with ⟨h1, _⟩ | ⟨k, h1, h2, h3⟩
    · omega
    · have e : k = i := by omega
      subst e
      rcases D.B.reach NegP_step w with h | ⟨k', h4, h5, h6⟩ | ⟨h, _⟩
      · rw [runP_dC P] at h
        have hn : cst part (runZ c nx 0 w) < 0 := h
        obtain ⟨g1, g2, g3⟩ := D.good P h1
        rw [g3] at h3
        simp only at h3
        rw [← h3] at hn
        have := (cst_range P g2).2.2.1 hn
        omega
      · rw [runP_dC P] at h5
        have hq : (Q.getD k qd).1 = (Q.getD k' qd).1 := by
          rw [h5]
          exact Prod.ext h3 (D.B.rep P h1).2.2
        have e : k = k' := by
          apply Classical.byContradiction
          intro hne
          rcases Nat.lt_or_gt_of_ne hne with hh | hh
          · exact D.B.nod k k' hh h4 hq
          · exact D.B.nod k' k hh h1 hq.symm
        subst e
        exact h6
      · omega
  · have hiQ : i < Q.length := by omega
    have hjQ : j < Q.length := by omega
    obtain ⟨g1, g2, g3⟩ := D.good P hiQ
    obtain ⟨q1, q2, q3⟩ := D.good P hjQ
    have hle : LE c nx ac (runZ c nx 0 (Q.getD i qd).2) (runZ c nx 0 (Q.getD j qd).2) := fun x => by rw [← langi i hiQ x, ← langi j hjQ x]; exact h x
    have hpp := (LE_part P g1 g2 q1 q2).2 hle
    have hcc := (cst_eq P (by omega) g2 (by omega) q2).2 (.inr ⟨g1, q1, hpp⟩)
    have hq : (Q.getD i qd).1 = (Q.getD j qd).1 := by rw [g3, q3, hcc]
    apply Classical.byContradiction
    intro hne
    rcases Nat.lt_or_gt_of_ne hne with hh | hh
    · exact D.B.nod i j hh hjQ hq
    · exact D.B.nod j i hh hiQ hq.symm
  · have hiQ : i < Q.length := by omega
    obtain ⟨g1, g2, g3⟩ := D.good P hiQ
    have hv := P.V.step g2 hb
    rcases D.stepM P S hcl hiQ hb with ⟨h1, _⟩ | ⟨k, h1, h2, h3⟩
    · omega
    · have hc0 := (D.good P h1)
      have hposk : 0 ≤ stepZ c nx (runZ c nx 0 (Q.getD i qd).2) b := by
        apply Classical.byContradiction
        intro hneg
        have r := (cst_range P hv.2).2.2.2 (by omega)
        rw [← h3, hc0.2.2] at r
        have := (cst_range P hc0.2.1).2.2.1 r
        omega
      obtain ⟨x, hx⟩ := P.T _ g2 b hb hposk
      refine ⟨x, ?_⟩
      have e : runZ c3 rows (stepZ c3 rows (i : Int) b) x = runZ c3 rows (i : Int) (UInt8.ofNat b :: x) := by
        show _ = runZ c3 rows (stepZ c3 rows (i : Int) (UInt8.ofNat b).toNat) x
        rw [byte_ofNat hb]
      rw [e, langi i hiQ]
      show accZ ac (runZ c nx (stepZ c nx (runZ c nx 0 (Q.getD i qd).2) (UInt8.ofNat b).toNat) x) ≠ -1
      rw [byte_ofNat hb]
      exact hx
  · refine hkc a b ha hb fun w hw => ?_
    have hrw := P.V.run w (s := 0) (by omega) (by omega)
    rcases D.runM P S hcl w with ⟨_, h1⟩ | ⟨k, h1, h2, h3⟩
    · omega
    · obtain ⟨g1, g2, g3⟩ := D.good P h1
      rw [g3] at h3
      simp only at h3
      rw [← cst_step P (by omega) g2 hrw.1 hrw.2 h3 ha, ← cst_step P (by omega) g2 hrw.1 hrw.2 h3 hb]
      have hs := h k (by omega)
      rcases D.stepM P S hcl h1 ha with ⟨u1, u2⟩ | ⟨k1, u1, u2, u3⟩ <;> rcases D.stepM P S hcl h1 hb with ⟨v1, v2⟩ | ⟨k2, v1, v2, v3⟩
      · have ra := cst_range P (P.V.step g2 ha).2
        have rb := cst_range P (P.V.step g2 hb).2
        omega
      · omega
      · omega
      · have : k1 = k2 := by omega
        subst this
        rw [← u3, ← v3]
  · rw [hk0]
    exact S.F
end
end Go.AM
