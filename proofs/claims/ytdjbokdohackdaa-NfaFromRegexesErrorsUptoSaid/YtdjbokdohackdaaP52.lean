/- The program's builder, plain: slices.Concat, link, the expressions. -/
import Derived.Test.YtdjbokdohackdaaP51
namespace Go.AM
open Go

theorem wrap_add {a b : Nat} (h : a + b ≤ 9223372036854775807) : IntKind.i64.wrap ((a : Int) + (b : Int)) = ((a + b : Nat) : Int) := by
  rw [wrap_i64 (by omega) (by omega)]; omega

theorem p363_two {a b : List Int} (h : a.length + b.length ≤ 1000000000) : p363 ([a, b], ()) = some (a ++ b) := by
  have e1 : limit L363_3 (([a, b], (0 : Int), [a, b], (([a, b] : List (List Int)).length : Int), (0 : Int), ()), ()) = some (([a, b], ((a.length + b.length : Nat) : Int), ()), ()) := by
    refine limit_eq (N := 3) (fun n hn => ?_) (by omega)
    obtain ⟨m, rfl⟩ : ∃ m, n = m + 3 := ⟨n - 3, by omega⟩
    have w1 : IntKind.i64.wrap (a.length : Int) = (a.length : Int) := wrap_i64 (by omega) (by omega)
    have w2 : IntKind.i64.wrap (1 : Int) = 1 := wrap_i64 (by omega) (by omega)
    have w3 : IntKind.i64.wrap (2 : Int) = 2 := wrap_i64 (by omega) (by omega)
    have w4 : IntKind.i64.wrap ((a.length : Int) + (b.length : Int)) = (a.length : Int) + (b.length : Int) := wrap_i64 (by omega) (by omega)
    have g1 : ¬ ((a.length : Int) < 0) := by omega
    have g2 : ¬ ((a.length : Int) + (b.length : Int) < 0) := by omega
    simp [L363_3, w1, w2, w3, w4, g1, g2]
  have e2 : limit L363_11 (((), [a, b], (([a, b] : List (List Int)).length : Int), (0 : Int), ()), (([] : List Int), ())) = some (((), ()), ((a ++ b), ())) := by
    refine limit_eq (N := 3) (fun n hn => ?_) (by omega)
    obtain ⟨m, rfl⟩ : ∃ m, n = m + 3 := ⟨n - 3, by omega⟩
    have w2 : IntKind.i64.wrap (1 : Int) = 1 := wrap_i64 (by omega) (by omega)
    have w3 : IntKind.i64.wrap (2 : Int) = 2 := wrap_i64 (by omega) (by omega)
    have g1 : a.length ≤ lim := by unfold lim; omega
    have g2 : a.length + b.length ≤ lim := by unfold lim; omega
    simp [L363_11, w2, w3, g1, g2]
  simp only [p363]
  rw [e1]
  simp only [Option.bind_some, p368]
  rw [if_pos (ct (by unfold lim; omega))]
  simp only [Option.bind_some]
  rw [e2]
  rfl

theorem appP_one (x : Int × Int) (B : List (List (Int × Bool))) : appP [x] B = putP B x := rfl

theorem prs_take {a b : List Int} {i : Nat} (hi : i < a.length) : prs (a.take (i + 1)) b = prs (a.take i) b ++ prs [a.getD i 0] b := by
  unfold prs
  rw [take_snoc (d := 0) hi, List.flatMap_append]

theorem l343_4 {p : Int} {to from_ : List Int} {y1 : List (List Int)} {y2 : List (List (Int × Bool))} (i : Int) (hp : to ≠ [] → 0 ≤ p ∧ p < (y2.length : Int)) (hl : to.length ≤ 1000000000) :
    limit L343_343_4 (((), to, p, from_, (from_.length : Int), i, to, (to.length : Int), (0 : Int), ()), (((), (), ()), y1, y2, ())) = some (((), to, from_, (from_.length : Int), i, ()), (((), (), ()), y1, appP (prs [p] to) y2, ())) := by
  have h := for_rule (L := L343_343_4) (N := to.length) (S := fun j => (((), to, p, from_, (from_.length : Int), i, to, (to.length : Int), (j : Int), ()), (((), (), ()), y1, appP (prs [p] (to.take j)) y2, ()))) (r := (((), to, from_, (from_.length : Int), i, ()), (((), (), ()), y1, appP (prs [p] to) y2, ())))
    (fun j hj n => by
      have hne : to ≠ [] := fun e => by subst e; simp at hj
      have hp := hp hne
      simp only [L343_343_4, Int.toNat_natCast]
      rw [if_pos (lt_nat hj), if_pos (in_range hj), if_pos (ct ⟨hp.1, by rw [appP_length]; exact hp.2⟩), wrap_nat (by omega)]
      have e : prs [p] (to.take (j + 1)) = prs [p] (to.take j) ++ [(p, to.getD j 0)] := by
        unfold prs
        rw [take_snoc (d := 0) hj]
        simp
      rw [e, appP_append, appP_one]
      rfl)
    (fun n => by simp only [L343_343_4]; rw [if_neg nlt_nat, List.take_length]) (by omega)
  exact h

theorem p343_spec {from_ to : List Int} {y1 : List (List Int)} {y2 : List (List (Int × Bool))} (hp : ∀ p ∈ from_, 0 ≤ p ∧ p < (y2.length : Int)) (hl : to.length ≤ 1000000000) (hl2 : from_.length ≤ 1000000000) :
    p343 (((), from_, to, ()), (((), (), ()), y1, y2, ())) = some ((), (((), (), ()), y1, appP (prs from_ to) y2, ())) := by
  have h := for_rule (L := L343_343_1) (N := from_.length) (S := fun i => (((), to, from_, (from_.length : Int), (i : Int), ()), (((), (), ()), y1, appP (prs (from_.take i) to) y2, ()))) (r := ((), (((), (), ()), y1, appP (prs from_ to) y2, ())))
    (fun i hi n => by
      have hm := hp _ (getD_mem (d := 0) hi)
      have e := l343_4 (p := from_.getD i 0) (to := to) (from_ := from_) (y1 := y1) (y2 := appP (prs (from_.take i) to) y2) (i : Int) (fun _ => by rw [appP_length]; exact hm) hl
      simp only [L343_343_1, Int.toNat_natCast]
      rw [if_pos (lt_nat hi), if_pos (in_range hi), e]
      simp only [Option.bind_some]
      rw [wrap_nat (by omega), prs_take hi, appP_append])
    (fun n => by simp only [L343_343_1]; rw [if_neg nlt_nat, List.take_length]) (by omega)
  have h' : limit L343_343_1 (((), to, from_, (from_.length : Int), (0 : Int), ()), (((), (), ()), y1, y2, ())) = some ((), (((), (), ()), y1, appP (prs from_ to) y2, ())) := h
  simp only [p343]
  rw [h']
  rfl

abbrev BIn : Type := (Unit × (Rx) × Unit) × ((Unit × Unit × Unit) × (List (List (Int))) × (List (List ((Int) × (Bool)))) × Unit)
abbrev BOut : Type := ((Bool) × ((List (Int)) × ((List (Int)) × (Unit)))) × ((Unit × Unit × Unit) × (List (List (Int))) × (List (List ((Int) × (Bool)))) × Unit)

def bout (x : Pt) (y1 : List (List Int)) (y2 : List (List (Int × Bool))) : BOut := ((x.n, (x.f, (x.l, ()))), (((), (), ()), y1, y2, ()))
def bin (r : Rx) (y1 : List (List Int)) (y2 : List (List (Int × Bool))) : BIn := (((), r, ()), (((), (), ()), y1, y2, ()))

/-- E says of each expression of the list what it should -/
def Says (E : BIn → Option BOut) (r : Rx) : Prop :=
  ∀ (y1 : List (List Int)) (y2 : List (List (Int × Bool))), y2.length = y1.length + 1 → y1.length + nn r ≤ 100000000 → E (bin r y1 y2) = some (bout (gl r y1.length) (y1 ++ lv r) (appP (fl r y1.length) (y2 ++ List.replicate (lv r).length [])))

theorem app_grow {o m k : Nat} {ps qs : List (Int × Int)} {y2 : List (List (Int × Bool))} (h : FIn o m ps) (hy : y2.length = o + 1) :
    appP qs (appP ps (y2 ++ List.replicate m []) ++ List.replicate k []) = appP (ps ++ qs) (y2 ++ List.replicate (m + k) []) := by
  rw [← appP_behind ps _ _ (fun x hx => by have := (h x hx).1; rw [List.length_append, List.length_replicate, hy]; omega), ← appP_append, List.append_assoc, List.replicate_append_replicate]

theorem catP_f (x y : Pt) : (catP x y).f = if x.n = true then x.f ++ y.f else x.f := rfl
theorem catP_l (x y : Pt) : (catP x y).l = if y.n = true then x.l ++ y.l else y.l := rfl
theorem catP_n (x y : Pt) : (catP x y).n = (x.n && y.n) := rfl

theorem l355 {E : BIn → Option BOut} {ks : List Rx} {y1 : List (List Int)} {y2 : List (List (Int × Bool))} (hk : ks.length ≤ 9223372036854775807) (hw : ∀ k ∈ ks, wfR k) (hE : ∀ k ∈ ks, Says E k) (hy : y2.length = y1.length + 1) (hn : y1.length + nnL ks ≤ 100000000) :
    limit (L355_355_3 E) (((), (), (), ks, (ks.length : Int), (0 : Int), ()), (((), (), ()), (false, ([] : List (Int)), ([] : List (Int)), ()), (true, ([] : List (Int)), ([] : List (Int)), ()), y1, y2, ())) =
      some (((), (), ()), (((), (), ()), (false, ([] : List (Int)), ([] : List (Int)), ()), ((glC ks y1.length ⟨true, [], []⟩).n, (glC ks y1.length ⟨true, [], []⟩).f, (glC ks y1.length ⟨true, [], []⟩).l, ()), y1 ++ lvL ks, appP (flC ks y1.length ⟨true, [], []⟩) (y2 ++ List.replicate (lvL ks).length []), ())) := by
  let x0 : Pt := ⟨true, [], []⟩
  have h := for_rule (L := L355_355_3 E) (N := ks.length)
    (S := fun i => (((), (), (), ks, (ks.length : Int), (i : Int), ()), (((), (), ()), (false, ([] : List (Int)), ([] : List (Int)), ()), ((glC (ks.take i) y1.length x0).n, (glC (ks.take i) y1.length x0).f, (glC (ks.take i) y1.length x0).l, ()), y1 ++ lvL (ks.take i), appP (flC (ks.take i) y1.length x0) (y2 ++ List.replicate (lvL (ks.take i)).length []), ())))
    (r := (((), (), ()), (((), (), ()), (false, ([] : List (Int)), ([] : List (Int)), ()), ((glC ks y1.length x0).n, (glC ks y1.length x0).f, (glC ks y1.length x0).l, ()), y1 ++ lvL ks, appP (flC ks y1.length x0) (y2 ++ List.replicate (lvL ks).length []), ())))
    (fun i hi n => by
      have hmem : ks.getD i rxd ∈ ks := getD_mem hi
      have hne := nrm_eq (hw _ hmem).four
      unfold nrm at hne
      have hti := nnL_take ks (i + 1)
      rw [nnL_snoc hi] at hti
      have hlv := lvL_le (ks.take i)
      have hlr := lv_le (ks.getD i rxd)
      have hfin := flC_in (ks.take i) y1.length 0 x0 (.nil _ _ _)
      simp only [Nat.add_zero, Nat.zero_add] at hfin
      have hpin := glC_pin (ks.take i) y1.length 0 x0 (.nil _ _ _)
      simp only [Nat.add_zero, Nat.zero_add] at hpin
      have hyp := gl_pin (ks.getD i rxd) (y1.length + (lvL (ks.take i)).length)
      have e := hE _ hmem (y1 ++ lvL (ks.take i)) (appP (flC (ks.take i) y1.length x0) (y2 ++ List.replicate (lvL (ks.take i)).length [])) (by rw [appP_length, List.length_append, List.length_append, List.length_replicate]; omega) (by rw [List.length_append]; omega)
      rw [List.length_append, app_grow hfin hy] at e
      have e1 : glC (ks.take (i + 1)) y1.length x0 = catP (glC (ks.take i) y1.length x0) (gl (ks.getD i rxd) (y1.length + (lvL (ks.take i)).length)) := by rw [take_snoc (d := rxd) hi, glC_append]; rfl
      have e2 : flC (ks.take (i + 1)) y1.length x0 = flC (ks.take i) y1.length x0 ++ fl (ks.getD i rxd) (y1.length + (lvL (ks.take i)).length) ++ prs (glC (ks.take i) y1.length x0).l (gl (ks.getD i rxd) (y1.length + (lvL (ks.take i)).length)).f := by
        rw [take_snoc (d := rxd) hi, flC_append]; simp [flC]
      have e3 : lvL (ks.take (i + 1)) = lvL (ks.take i) ++ lv (ks.getD i rxd) := by rw [take_snoc (d := rxd) hi, lvL_append]; simp [lvL]
      rw [e1, e2, e3]
      generalize hX : glC (ks.take i) y1.length x0 = X at *
      generalize hY : gl (ks.getD i rxd) (y1.length + (lvL (ks.take i)).length) = Y at *
      have el := p343_spec (from_ := X.l) (to := Y.f) (y1 := (y1 ++ lvL (ks.take i)) ++ lv (ks.getD i rxd)) (y2 := appP (flC (ks.take i) y1.length x0 ++ fl (ks.getD i rxd) (y1.length + (lvL (ks.take i)).length)) (y2 ++ List.replicate ((lvL (ks.take i)).length + (lv (ks.getD i rxd)).length) []))
        (fun p hp => by have := hpin.2.1 p hp; rw [appP_length, List.length_append, List.length_replicate, hy]; omega) (by have := hyp.2.2.1; omega) (by have := hpin.2.2.2; omega)
      have c1 := p363_two (a := X.f) (b := Y.f) (by have := hyp.2.2.1; have := hpin.2.2.1; omega)
      have c2 := p363_two (a := X.l) (b := Y.l) (by have := hyp.2.2.2; have := hpin.2.2.2; omega)
      unfold bin bout at e
      simp only [L355_355_3, Int.toNat_natCast]
      rw [if_pos (lt_nat hi), if_pos (in_range hi), hne, e, Option.bind_some]
      simp only
      rw [el, Option.bind_some, wrap_nat (by omega), List.length_append, appP_append (flC (ks.take i) y1.length x0 ++ fl _ _), List.append_assoc y1]
      simp only [catP_f, catP_l, catP_n]
      cases hxn : X.n <;> cases hyn : Y.n <;> simp [c1, c2])
    (fun n => by simp only [L355_355_3]; rw [if_neg nlt_nat, List.take_length]) (by omega)
  have h' := h
  simp only [List.take_zero, lvL, glC, flC, List.append_nil, List.length_nil, List.replicate_zero, appP, List.foldl_nil] at h'
  exact h'
end Go.AM
