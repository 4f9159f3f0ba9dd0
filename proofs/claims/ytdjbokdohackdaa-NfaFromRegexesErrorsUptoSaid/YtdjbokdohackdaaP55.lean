/- The position automaton of a list, plain: the loop over the expressions. -/
import Derived.Test.YtdjbokdohackdaaP54
namespace Go.AM
open Go

section
variable {l : List Rx}

theorem l324_18 (i i' : Int) (x : Pt) (acc : List Int) (S : List (List Int)) (B : List (List (Int × Bool))) (m : Nat) (h : acc.length + m = S.length + 1) (hS : S.length ≤ 1000000) :
    limit L324_18 (((), (), (), i, (), l, (l.length : Int), i', ()), (nf0, acc, (x.n, x.f, x.l, ()), ((), (), ()), S, B, ())) = some (((), (), (), i, (), l, (l.length : Int), i', ()), (nf0, acc ++ List.replicate m (-1), (x.n, x.f, x.l, ()), ((), (), ()), S, B, ())) := by
  have h := for_rule (L := L324_18) (N := m) (S := fun j => (((), (), (), i, (), l, (l.length : Int), i', ()), (nf0, acc ++ List.replicate j (-1), (x.n, x.f, x.l, ()), ((), (), ()), S, B, ())))
    (r := (((), (), (), i, (), l, (l.length : Int), i', ()), (nf0, acc ++ List.replicate m (-1), (x.n, x.f, x.l, ()), ((), (), ()), S, B, ())))
    (fun j hj n => by
      simp only [L324_18]
      rw [if_pos (ct (by rw [List.length_append, List.length_replicate]; omega)), if_pos (ct (by simp; unfold lim; omega)), List.append_assoc, ← List.replicate_succ'])
    (fun n => by simp only [L324_18]; rw [if_neg (cf (by rw [List.length_append, List.length_replicate]; omega))]) (by omega)
  simpa using h

theorem l324_21 (i i' : Int) (x : Pt) (acc : List Int) (S : List (List Int)) (B : List (List (Int × Bool))) (h : ∀ p ∈ x.l, 0 ≤ p ∧ p < (acc.length : Int)) (hl : x.l.length ≤ 1000000) :
    limit L324_21 (((), (), (), i, (), l, (l.length : Int), i', x.l, (x.l.length : Int), (0 : Int), ()), (nf0, acc, (x.n, x.f, x.l, ()), ((), (), ()), S, B, ())) = some (((), (), (), i, (), l, (l.length : Int), i', ()), (nf0, setAll i acc x.l, (x.n, x.f, x.l, ()), ((), (), ()), S, B, ())) :=
  for_rule (L := L324_21) (N := x.l.length) (S := fun j => (((), (), (), i, (), l, (l.length : Int), i', x.l, (x.l.length : Int), (j : Int), ()), (nf0, setAll i acc (x.l.take j), (x.n, x.f, x.l, ()), ((), (), ()), S, B, ())))
    (r := (((), (), (), i, (), l, (l.length : Int), i', ()), (nf0, setAll i acc x.l, (x.n, x.f, x.l, ()), ((), (), ()), S, B, ())))
    (fun j hj n => by
      have hp := h _ (getD_mem (d := 0) hj)
      simp only [L324_21, Int.toNat_natCast]
      rw [if_pos (lt_nat hj), if_pos (in_range hj), if_pos (ct ⟨hp.1, by rw [setAll_length]; exact hp.2⟩), wrap_nat (by omega)]
      have e : setAll i acc (x.l.take (j + 1)) = (setAll i acc (x.l.take j)).set (x.l.getD j 0).toNat i := by
        unfold setAll
        rw [take_snoc (d := 0) hj, List.foldl_append]
        rfl
      rw [e])
    (fun n => by simp only [L324_21]; rw [if_neg nlt_nat, List.take_length]) (by omega)

abbrev S14 (l : List Rx) (i : Nat) (acc : List Int) (S : List (List Int)) (B : List (List (Int × Bool))) : ((Unit × Unit × Unit × (List (Rx)) × (Int) × (Int) × Unit) × (((Int) × (Int) × (List ((Int) × ((Int) × ((Bool) × ((List (Int)) × (Unit)))))) × (List (Int)) × Unit) × (List (Int)) × (Unit × Unit × Unit) × (List (List (Int))) × (List (List ((Int) × (Bool)))) × Unit)) :=
  (((), (), (), l, (l.length : Int), (i : Int), ()), (nf0, acc, ((), (), ()), S, B, ()))

theorem l324_14_step {i : Nat} (hi : i < l.length) (hl : l.length ≤ 1000000) {r : Rx} (hr : l.getD i rxd = r) (hw : wfR r) (hv : VR 30 r) {acc : List Int} {S : List (List Int)} {B : List (List (Int × Bool))}
    (ha : acc.length = S.length + 1) (hB : B.length = S.length + 1) (hS : S.length + nn r ≤ 1000000) (n : Nat) :
    L324_14 (n + 1) (S14 l i acc S B) = L324_14 n (S14 l (i + 1) (acS r S.length (i : Int) acc) (S ++ lv r) (appP (fl r S.length ++ prs [0] (gl r S.length).f) (B ++ List.replicate (lv r).length []))) := by
  have hne := nrm_eq hw.four
  unfold nrm at hne
  have hlr := lv_le r
  have e : p342 (bin r S B) = _ := p342_says 30 fuel (by have := fuel_big; omega) r hw hv S B hB (by omega)
  unfold bin bout at e
  have hp := gl_pin r S.length
  have hlen : (S ++ lv r).length = S.length + (lv r).length := List.length_append
  have e3 := p343_spec (from_ := [0]) (to := (gl r S.length).f) (y1 := S ++ lv r) (y2 := appP (fl r S.length) (B ++ List.replicate (lv r).length []))
    (fun p hp' => by simp only [List.mem_singleton] at hp'; subst hp'; rw [appP_length, List.length_append, hB]; omega) (by have := hp.2.2.1; omega) (by simp)
  rw [← appP_append] at e3
  have e18 := l324_18 (l := l) (i : Int) (i : Int) (gl r S.length) acc (S ++ lv r) (appP (fl r S.length ++ prs [0] (gl r S.length).f) (B ++ List.replicate (lv r).length [])) (lv r).length (by omega) (by omega)
  have e21 := l324_21 (l := l) (i : Int) (i : Int) (gl r S.length) (acc ++ List.replicate (lv r).length (-1)) (S ++ lv r) (appP (fl r S.length ++ prs [0] (gl r S.length).f) (B ++ List.replicate (lv r).length []))
    (fun p hp' => by have := hp.2.1 p hp'; rw [List.length_append, List.length_replicate]; omega) (by have := hp.2.2.2; omega)
  have hlen2 : 0 < (setAll (i : Int) (acc ++ List.replicate (lv r).length (-1)) (gl r S.length).l).length := by rw [setAll_length, List.length_append]; omega
  simp only [S14, L324_14, Int.toNat_natCast]
  rw [if_pos (lt_nat hi), if_pos (in_range hi), hr, hne, e, Option.bind_some]
  simp only
  rw [e3, Option.bind_some]
  simp only
  rw [e18, Option.bind_some]
  simp only
  rw [e21, Option.bind_some]
  simp only
  rw [wrap_nat (by omega)]
  unfold acS
  simp only
  cases hn : (gl r S.length).n with
  | false => rw [if_neg (by decide), if_neg (fun h => by cases h.1)]
  | true =>
    rw [if_pos rfl, if_pos (ct ⟨Int.le_refl _, by omega⟩)]
    by_cases h0 : (setAll (i : Int) (acc ++ List.replicate (lv r).length (-1)) (gl r S.length).l).getD 0 0 < 0
    · rw [if_pos (ct (by simpa using h0)), if_pos (ct ⟨Int.le_refl _, by omega⟩), if_pos ⟨rfl, h0⟩]
      rfl
    · rw [if_neg (cf (by simpa using h0)), if_neg (fun h => h0 h.2)]

theorem l324_14 (hw : ∀ r ∈ l, wfR r) (hv : AllV l) (hl : l.length ≤ 1000000) (hn : nnL l ≤ 1000000) :
    limit L324_14 (S14 l 0 [-1] [] [[]]) = some (((), (), (), ()), (nf0, acA l 0 0 [-1], ((), (), ()), lvL l, appP (flA l 0) (List.replicate ((lvL l).length + 1) []), ())) := by
  have h := for_rule (L := L324_14) (N := l.length) (S := fun i => S14 l i (acA (l.take i) 0 0 [-1]) (lvL (l.take i)) (appP (flA (l.take i) 0) (List.replicate ((lvL (l.take i)).length + 1) [])))
    (r := (((), (), (), ()), (nf0, acA l 0 0 [-1], ((), (), ()), lvL l, appP (flA l 0) (List.replicate ((lvL l).length + 1) []), ())))
    (fun i hi n => by
      have hm : l.getD i rxd ∈ l := getD_mem hi
      have hti := nnL_take l (i + 1)
      rw [nnL_snoc hi] at hti
      have hlv := lvL_le (l.take i)
      have hf := flA_in (l.take i) 0
      rw [l324_14_step hi hl rfl (hw _ hm) (hv _ hm) (by rw [acA_length]; simp; omega) (by rw [appP_length, List.length_replicate]) (by omega)]
      have e1 : acA (l.take (i + 1)) 0 0 [-1] = acS (l.getD i rxd) (lvL (l.take i)).length (i : Int) (acA (l.take i) 0 0 [-1]) := by
        rw [take_snoc (d := rxd) hi, acA_append, List.length_take, Nat.min_eq_left (by omega)]
        simp [acA]
      have e2 : flA (l.take (i + 1)) 0 = flA (l.take i) 0 ++ (fl (l.getD i rxd) (lvL (l.take i)).length ++ prs [0] (gl (l.getD i rxd) (lvL (l.take i)).length).f) := by
        rw [take_snoc (d := rxd) hi, flA_append]; simp [flA]
      have e3 : lvL (l.take (i + 1)) = lvL (l.take i) ++ lv (l.getD i rxd) := by rw [take_snoc (d := rxd) hi, lvL_append]; simp [lvL]
      rw [e1, e2, e3]
      rw [← appP_behind (flA (l.take i) 0) _ _ (fun x hx => by have := hf x hx; rw [List.length_replicate]; omega), ← appP_append, List.replicate_append_replicate, List.length_append]
      rw [show (lvL (l.take i)).length + 1 + (lv (l.getD i rxd)).length = (lvL (l.take i)).length + (lv (l.getD i rxd)).length + 1 by omega])
    (fun n => by simp only [S14, L324_14]; rw [if_neg nlt_nat, List.take_length]) (by omega)
  exact h
end

/-! ### the maps behind the states -/

/-- keys of a map -/
abbrev kys (m : List (Int × Bool)) : List Int := m.map (·.1)

theorem kys_mput (q : Int) : ∀ m : List (Int × Bool), kys (mput (.int .i64) q true m) = if q ∈ kys m then kys m else kys m ++ [q]
  | [] => by simp [mput, kys]
  | p :: m => by
    unfold mput
    by_cases h : q = p.1
    · rw [if_pos (show Kind.eqB (.int .i64) q p.1 = true from decide_eq_true h)]
      rw [if_pos (by simp [kys, h])]
      simp [kys, h]
    · rw [if_neg (show ¬ Kind.eqB (.int .i64) q p.1 = true by show ¬ decide (q = p.1) = true; simp [h])]
      have ih := kys_mput q m
      show p.1 :: kys (mput (.int .i64) q true m) = _
      rw [ih]
      by_cases h2 : q ∈ kys m
      · rw [if_pos h2, if_pos (by simp [kys] at h2 ⊢; exact .inr h2)]
        rfl
      · rw [if_neg h2, if_neg (by simp [kys] at h2 ⊢; exact ⟨h, h2⟩)]
        rfl

theorem appP_keys : ∀ (ps : List (Int × Int)) (B : List (List (Int × Bool))) (p : Nat), p < B.length → (∀ x ∈ ps, 0 ≤ x.1 ∧ x.1.toNat < B.length) → (kys (B.getD p [])).Nodup →
    (kys ((appP ps B).getD p [])).Nodup ∧ ∀ q, q ∈ kys ((appP ps B).getD p []) ↔ q ∈ kys (B.getD p []) ∨ ((p : Int), q) ∈ ps
  | [], B, p, _, _, hn => ⟨hn, fun q => by simp [appP]⟩
  | x :: ps, B, p, hp, hx, hn => by
    have h1 := hx x (by simp)
    have hg : (putP B x).getD p [] = if x.1.toNat = p then mput (.int .i64) x.2 true (B.getD p []) else B.getD p [] := by
      unfold putP
      rw [getD_set hp]
      split
      · rename_i e; rw [e]
      · rfl
    have hn' : (kys ((putP B x).getD p [])).Nodup := by
      rw [hg]
      split
      · rw [kys_mput]
        split
        · exact hn
        · rename_i hq
          exact List.nodup_append.2 ⟨hn, by simp, fun a ha b hb => by simp at hb; subst hb; exact fun e => hq (e ▸ ha)⟩
      · exact hn
    obtain ⟨i1, i2⟩ := appP_keys ps (putP B x) p (by rw [putP_length]; exact hp) (fun y hy => by rw [putP_length]; exact hx y (by simp [hy])) hn'
    refine ⟨i1, fun q => ?_⟩
    show q ∈ kys ((appP ps (putP B x)).getD p []) ↔ _
    rw [i2 q, hg]
    have hxe : ((p : Int), q) = x ↔ x.1.toNat = p ∧ x.2 = q := by
      constructor
      · intro e; rw [← e]; simp
      · rintro ⟨e1, e2⟩
        apply Prod.ext
        · show (p : Int) = x.1; omega
        · exact e2.symm
    rw [List.mem_cons, hxe]
    split
    · rename_i e
      rw [kys_mput]
      split
      · rename_i hq
        constructor
        · rintro (h | h)
          · exact .inl h
          · exact .inr (.inr h)
        · rintro (h | ⟨_, h⟩ | h)
          · exact .inl h
          · subst h; exact .inl hq
          · exact .inr h
      · rw [List.mem_append, List.mem_singleton]
        constructor
        · rintro ((h | h) | h)
          · exact .inl h
          · exact .inr (.inl ⟨e, h.symm⟩)
          · exact .inr (.inr h)
        · rintro (h | ⟨_, h⟩ | h)
          · exact .inl (.inl h)
          · exact .inl (.inr h.symm)
          · exact .inr h
    · rename_i e
      constructor
      · rintro (h | h)
        · exact .inl h
        · exact .inr (.inr h)
      · rintro (h | ⟨h, _⟩ | h)
        · exact .inl h
        · exact absurd h e
        · exact .inr h

/-- strictly rising numbers between a and a + n are at most n -/
theorem strict_len : ∀ (l : List Int) (a : Int) (n : Nat), l.Pairwise (· < ·) → (∀ x ∈ l, a ≤ x ∧ x < a + n) → l.length ≤ n
  | [], _, _, _, _ => Nat.zero_le _
  | x :: l, a, n, hp, h => by
    obtain ⟨h1, h2⟩ := List.pairwise_cons.1 hp
    have hx := h x (by simp)
    have := strict_len l (a + 1) (n - 1) h2 (fun y hy => by have := h1 y hy; have := h y (by simp [hy]); omega)
    rw [List.length_cons]; omega

/-- two strictly rising lists with the same members -/
theorem strict_ext {a b : List Int} (ha : a.Pairwise (· < ·)) (hb : b.Pairwise (· < ·)) (h : ∀ x, x ∈ a ↔ x ∈ b) : a = b := by
  refine List.Perm.eq_of_pairwise (le := fun x y : Int => x < y) (fun x y _ _ h1 h2 => by omega) ha hb ?_
  exact (List.perm_ext_iff_of_nodup (ha.imp fun h => by omega) (hb.imp fun h => by omega)).2 h
end Go.AM
