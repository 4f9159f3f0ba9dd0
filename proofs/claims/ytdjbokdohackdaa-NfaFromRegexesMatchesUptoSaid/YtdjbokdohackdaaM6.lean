import Derived.Test.YtdjbokdohackdaaM5
/- The program's builder, plain: slices.Concat, link, the expressions. -/
namespace Go.AM
open Go

theorem wrap_add {a b : Nat} (h : a + b ≤ 9223372036854775807) : IntKind.i64.wrap ((a : Int) + (b : Int)) = ((a + b : Nat) : Int) := by
  rw [wrap_i64 (by omega) (by omega)]; omega

theorem p363_two {a b : List Int} (h : a.length + b.length ≤ 1000000000) : p363 ([a, b], ()) = some (a ++ b) := by
  have e1 : limit L363_3 (([a, b], (0 : Int), [a, b], (([a, b] : List (List Int)).length : Int), (0 : Int), ()), ()) = some (([a, b], ((a.length + b.length : Nat) : Int), ()), ()) := by
    refine limit_eq (N := 3) (fun n hn => ?_) (by omega)
    obtain ⟨m, rfl⟩ : ∃ m, n = m + 3 := ⟨n - 3, by omega⟩
    have w1 : IntKind.i64.wrap (a.length : Int) = (a.length : Int) := wrap_i64 (by omega) (by omega)
    have w2 : IntKind.i64.wrap (1 : Int) = 1 := wrap_i64 (by omega) (by omega)
    have w3 : IntKind.i64.wrap (2 : Int) = 2 := wrap_i64 (by omega) (by omega)
    have w4 : IntKind.i64.wrap ((a.length : Int) + (b.length : Int)) = (a.length : Int) + (b.length : Int) := wrap_i64 (by omega) (by omega)
    have g1 : ¬ ((a.length : Int) < 0) := by omega
    have g2 : ¬ ((a.length : Int) + (b.length : Int) < 0) := by omega
    simp [L363_3, w1, w2, w3, w4, g1, g2]
  have e2 : limit L363_11 (((), [a, b], (([a, b] : List (List Int)).length : Int), (0 : Int), ()), (([] : List Int), ())) = some (((), ()), ((a ++ b), ())) := by
    refine limit_eq (N := 3) (fun n hn => ?_) (by omega)
    obtain ⟨m, rfl⟩ : ∃ m, n = m + 3 := ⟨n - 3, by omega⟩
    have w2 : IntKind.i64.wrap (1 : Int) = 1 := wrap_i64 (by omega) (by omega)
    have w3 : IntKind.i64.wrap (2 : Int) = 2 := wrap_i64 (by omega) (by omega)
    have g1 : a.length ≤ lim := by unfold lim; omega
    have g2 : a.length + b.length ≤ lim := by unfold lim; omega
    simp [L363_11, w2, w3, g1, g2]
  simp only [p363]
  rw [e1]
  simp only [Option.bind_some, p368]
  rw [if_pos (ct (by unfold lim; omega))]
  simp only [Option.bind_some]
  rw [e2]
  rfl

theorem appP_one (x : Int × Int) (B : List (List (Int × Bool))) : appP [x] B = putP B x := rfl

theorem prs_take {a b : List Int} {i : Nat} (hi : i < a.length) : prs (a.take (i + 1)) b = prs (a.take i) b ++ prs [a.getD i 0] b := by
  unfold prs
  rw [take_snoc (d := 0) hi, List.flatMap_append]

theorem l343_4 {p : Int} {to from_ : List Int} {y1 : List (List Int)} {y2 : List (List (Int × Bool))} (i : Int) (hp : to ≠ [] → 0 ≤ p ∧ p < (y2.length : Int)) (hl : to.length ≤ 1000000000) :
    limit L343_343_4 (((), to, p, from_, (from_.length : Int), i, to, (to.length : Int), (0 : Int), ()), (((), (), ()), y1, y2, ())) = some (((), to, from_, (from_.length : Int), i, ()), (((), (), ()), y1, appP (prs [p] to) y2, ())) := by
  have h := for_rule (L := L343_343_4) (N := to.length) (S := fun j => (((), to, p, from_, (from_.length : Int), i, to, (to.length : Int), (j : Int), ()), (((), (), ()), y1, appP (prs [p] (to.take j)) y2, ()))) (r := (((), to, from_, (from_.length : Int), i, ()), (((), (), ()), y1, appP (prs [p] to) y2, ())))
    (fun j hj n => by
      have hne : to ≠ [] := fun e => by subst e; simp at hj
      have hp := hp hne
      simp only [L343_343_4, Int.toNat_natCast]
      rw [if_pos (lt_nat hj), if_pos (in_range hj), if_pos (ct ⟨hp.1, by rw [appP_length]; exact hp.2⟩), wrap_nat (by omega)]
      have e : prs [p] (to.take (j + 1)) = prs [p] (to.take j) ++ [(p, to.getD j 0)] := by
        unfold prs
        rw [take_snoc (d := 0) hj]
        simp
      rw [e, appP_append, appP_one]
      rfl)
    (fun n => by simp only [L343_343_4]; rw [if_neg nlt_nat, List.take_length]) (by omega)
  exact h

theorem p343_spec {from_ to : List Int} {y1 : List (List Int)} {y2 : List (List (Int × Bool))} (hp : ∀ p ∈ from_, 0 ≤ p ∧ p < (y2.length : Int)) (hl : to.length ≤ 1000000000) (hl2 : from_.length ≤ 1000000000) :
    p343 (((), from_, to, ()), (((), (), ()), y1, y2, ())) = some ((), (((), (), ()), y1, appP (prs from_ to) y2, ())) := by
  have h := for_rule (L := L343_343_1) (N := from_.length) (S := fun i => (((), to, from_, (from_.length : Int), (i : Int), ()), (((), (), ()), y1, appP (prs (from_.take i) to) y2, ()))) (r := ((), (((), (), ()), y1, appP (prs from_ to) y2, ())))
    (fun i hi n => by
      have hm := hp _ (getD_mem (d := 0) hi)
      have e := l343_4 (p := from_.getD i 0) (to := to) (from_ := from_) (y1 := y1) (y2 := appP (prs (from_.take i) to) y2) (i : Int) (fun _ => by rw [appP_length]; exact hm) hl
      simp only [L343_343_1, Int.toNat_natCast]
      rw [if_pos (lt_nat hi), if_pos (in_range hi), e]
      simp only [Option.bind_some]
      rw [wrap_nat (by omega), prs_take hi, appP_append])
    (fun n => by simp only [L343_343_1]; rw [if_neg nlt_nat, List.take_length]) (by omega)
  have h' : limit L343_343_1 (((), to, from_, (from_.length : Int), (0 : Int), ()), (((), (), ()), y1, y2, ())) = some ((), (((), (), ()), y1, appP (prs from_ to) y2, ())) := h
  simp only [p343]
  rw [h']
  rfl

abbrev BIn : Type := (Unit × (Rx) × Unit) × ((Unit × Unit × Unit) × (List (List (Int))) × (List (List ((Int) × (Bool)))) × Unit)
abbrev BOut : Type := ((Bool) × ((List (Int)) × ((List (Int)) × (Unit)))) × ((Unit × Unit × Unit) × (List (List (Int))) × (List (List ((Int) × (Bool)))) × Unit)

def bout (x : Pt) (y1 : List (List Int)) (y2 : List (List (Int × Bool))) : BOut := ((x.n, (x.f, (x.l, ()))), (((), (), ()), y1, y2, ()))
def bin (r : Rx) (y1 : List (List Int)) (y2 : List (List (Int × Bool))) : BIn := (((), r, ()), (((), (), ()), y1, y2, ()))

/-- E says of each expression of the list what it should -/
def Says (E : BIn → Option BOut) (r : Rx) : Prop :=
  ∀ (y1 : List (List Int)) (y2 : List (List (Int × Bool))), y2.length = y1.length + 1 → y1.length + nn r ≤ 100000000 → E (bin r y1 y2) = some (bout (gl r y1.length) (y1 ++ lv r) (appP (fl r y1.length) (y2 ++ List.replicate (lv r).length [])))

theorem app_grow {o m k : Nat} {ps qs : List (Int × Int)} {y2 : List (List (Int × Bool))} (h : FIn o m ps) (hy : y2.length = o + 1) :
    appP qs (appP ps (y2 ++ List.replicate m []) ++ List.replicate k []) = appP (ps ++ qs) (y2 ++ List.replicate (m + k) []) := by
  rw [← appP_behind ps _ _ (fun x hx => by have := (h x hx).1; rw [List.length_append, List.length_replicate, hy]; omega), ← appP_append, List.append_assoc, List.replicate_append_replicate]

theorem catP_f (x y : Pt) : (catP x y).f = if x.n = true then x.f ++ y.f else x.f := rfl
theorem catP_l (x y : Pt) : (catP x y).l = if y.n = true then x.l ++ y.l else y.l := rfl
theorem catP_n (x y : Pt) : (catP x y).n = (x.n && y.n) := rfl

theorem l355 {E : BIn → Option BOut} {ks : List Rx} {y1 : List (List Int)} {y2 : List (List (Int × Bool))} (hk : ks.length ≤ 9223372036854775807) (hw : ∀ k ∈ ks, wfR k) (hE : ∀ k ∈ ks, Says E k) (hy : y2.length = y1.length + 1) (hn : y1.length + nnL ks ≤ 100000000) :
    limit (L355_355_3 E) (((), (), (), ks, (ks.length : Int), (0 : Int), ()), (((), (), ()), (false, ([] : List (Int)), ([] : List (Int)), ()), (true, ([] : List (Int)), ([] : List (Int)), ()), y1, y2, ())) =
      some (((), (), ()), (((), (), ()), (false, ([] : List (Int)), ([] : List (Int)), ()), ((glC ks y1.length ⟨true, [], []⟩).n, (glC ks y1.length ⟨true, [], []⟩).f, (glC ks y1.length ⟨true, [], []⟩).l, ()), y1 ++ lvL ks, appP (flC ks y1.length ⟨true, [], []⟩) (y2 ++ List.replicate (lvL ks).length []), ())) := by
  let x0 : Pt := ⟨true, [], []⟩
  have h := for_rule (L := L355_355_3 E) (N := ks.length)
    (S := fun i => (((), (), (), ks, (ks.length : Int), (i : Int), ()), (((), (), ()), (false, ([] : List (Int)), ([] : List (Int)), ()), ((glC (ks.take i) y1.length x0).n, (glC (ks.take i) y1.length x0).f, (glC (ks.take i) y1.length x0).l, ()), y1 ++ lvL (ks.take i), appP (flC (ks.take i) y1.length x0) (y2 ++ List.replicate (lvL (ks.take i)).length []), ())))
    (r := (((), (), ()), (((), (), ()), (false, ([] : List (Int)), ([] : List (Int)), ()), ((glC ks y1.length x0).n, (glC ks y1.length x0).f, (glC ks y1.length x0).l, ()), y1 ++ lvL ks, appP (flC ks y1.length x0) (y2 ++ List.replicate (lvL ks).length []), ())))
    (fun i hi n => by
      have hmem : ks.getD i rxd ∈ ks := getD_mem hi
      have hne := nrm_eq (hw _ hmem).four
      unfold nrm at hne
      have hti := nnL_take ks (i + 1)
      rw [nnL_snoc hi] at hti
      have hlv := lvL_le (ks.take i)
      have hlr := lv_le (ks.getD i rxd)
      have hfin := flC_in (ks.take i) y1.length 0 x0 (.nil _ _ _)
      simp only [Nat.add_zero, Nat.zero_add] at hfin
      have hpin := glC_pin (ks.take i) y1.length 0 x0 (.nil _ _ _)
      simp only [Nat.add_zero, Nat.zero_add] at hpin
      have hyp := gl_pin (ks.getD i rxd) (y1.length + (lvL (ks.take i)).length)
      have e := hE _ hmem (y1 ++ lvL (ks.take i)) (appP (flC (ks.take i) y1.length x0) (y2 ++ List.replicate (lvL (ks.take i)).length [])) (by rw [appP_length, List.length_append, List.length_append, List.length_replicate]; omega) (by rw [List.length_append]; omega)
      rw [List.length_append, app_grow hfin hy] at e
      have e1 : glC (ks.take (i + 1)) y1.length x0 = catP (glC (ks.take i) y1.length x0) (gl (ks.getD i rxd) (y1.length + (lvL (ks.take i)).length)) := by rw [take_snoc (d := rxd) hi, glC_append]; rfl
      have e2 : flC (ks.take (i + 1)) y1.length x0 = flC (ks.take i) y1.length x0 ++ fl (ks.getD i rxd) (y1.length + (lvL (ks.take i)).length) ++ prs (glC (ks.take i) y1.length x0).l (gl (ks.getD i rxd) (y1.length + (lvL (ks.take i)).length)).f := by
        rw [take_snoc (d := rxd) hi, flC_append]; simp [flC]
      have e3 : lvL (ks.take (i + 1)) = lvL (ks.take i) ++ lv (ks.getD i rxd) := by rw [take_snoc (d := rxd) hi, lvL_append]; simp [lvL]
      rw [e1, e2, e3]
      generalize hX : glC (ks.take i) y1.length x0 = X at *
      generalize hY : gl (ks.getD i rxd) (y1.length + (lvL (ks.take i)).length) = Y at *
      have el := p343_spec (from_ := X.l) (to := Y.f) (y1 := (y1 ++ lvL (ks.take i)) ++ lv (ks.getD i rxd)) (y2 := appP (flC (ks.take i) y1.length x0 ++ fl (ks.getD i rxd) (y1.length + (lvL (ks.take i)).length)) (y2 ++ List.replicate ((lvL (ks.take i)).length + (lv (ks.getD i rxd)).length) []))
        (fun p hp => by have := hpin.2.1 p hp; rw [appP_length, List.length_append, List.length_replicate, hy]; omega) (by have := hyp.2.2.1; omega) (by have := hpin.2.2.2; omega)
      have c1 := p363_two (a := X.f) (b := Y.f) (by have := hyp.2.2.1; have := hpin.2.2.1; omega)
      have c2 := p363_two (a := X.l) (b := Y.l) (by have := hyp.2.2.2; have := hpin.2.2.2; omega)
      unfold bin bout at e
      simp only [L355_355_3, Int.toNat_natCast]
      rw [if_pos (lt_nat hi), if_pos (in_range hi), hne, e, Option.bind_some]
      simp only
      rw [el, Option.bind_some, wrap_nat (by omega), List.length_append, appP_append (flC (ks.take i) y1.length x0 ++ fl _ _), List.append_assoc y1]
      simp only [catP_f, catP_l, catP_n]
      cases hxn : X.n <;> cases hyn : Y.n <;> simp [c1, c2])
    (fun n => by simp only [L355_355_3]; rw [if_neg nlt_nat, List.take_length]) (by omega)
  have h' := h
  simp only [List.take_zero, lvL, glC, flC, List.append_nil, List.length_nil, List.replicate_zero, appP, List.foldl_nil] at h'
  exact h'
end Go.AM

/- The program's builder, plain: unions, repetitions, all expressions. -/
namespace Go.AM
open Go

theorem l356 {E : BIn → Option BOut} {ks : List Rx} {y1 : List (List Int)} {y2 : List (List (Int × Bool))} (hk : ks.length ≤ 9223372036854775807) (hw : ∀ k ∈ ks, wfR k) (hE : ∀ k ∈ ks, Says E k) (hy : y2.length = y1.length + 1) (hn : y1.length + nnL ks ≤ 100000000) :
    limit (L356_356_3 E) (((), (), (), ks, (ks.length : Int), (0 : Int), ()), (((), (), ()), (false, ([] : List (Int)), ([] : List (Int)), ()), (false, ([] : List (Int)), ([] : List (Int)), ()), y1, y2, ())) =
      some (((), (), ()), (((), (), ()), (false, ([] : List (Int)), ([] : List (Int)), ()), ((glU ks y1.length ⟨false, [], []⟩).n, (glU ks y1.length ⟨false, [], []⟩).f, (glU ks y1.length ⟨false, [], []⟩).l, ()), y1 ++ lvL ks, appP (flU ks y1.length) (y2 ++ List.replicate (lvL ks).length []), ())) := by
  let x0 : Pt := ⟨false, [], []⟩
  have h := for_rule (L := L356_356_3 E) (N := ks.length)
    (S := fun i => (((), (), (), ks, (ks.length : Int), (i : Int), ()), (((), (), ()), (false, ([] : List (Int)), ([] : List (Int)), ()), ((glU (ks.take i) y1.length x0).n, (glU (ks.take i) y1.length x0).f, (glU (ks.take i) y1.length x0).l, ()), y1 ++ lvL (ks.take i), appP (flU (ks.take i) y1.length) (y2 ++ List.replicate (lvL (ks.take i)).length []), ())))
    (r := (((), (), ()), (((), (), ()), (false, ([] : List (Int)), ([] : List (Int)), ()), ((glU ks y1.length x0).n, (glU ks y1.length x0).f, (glU ks y1.length x0).l, ()), y1 ++ lvL ks, appP (flU ks y1.length) (y2 ++ List.replicate (lvL ks).length []), ())))
    (fun i hi n => by
      have hmem : ks.getD i rxd ∈ ks := getD_mem hi
      have hne := nrm_eq (hw _ hmem).four
      unfold nrm at hne
      have hti := nnL_take ks (i + 1)
      rw [nnL_snoc hi] at hti
      have hlv := lvL_le (ks.take i)
      have hlr := lv_le (ks.getD i rxd)
      have hfin := flU_in (ks.take i) y1.length
      have hpin := glU_pin (ks.take i) y1.length 0 x0 (.nil _ _ _)
      simp only [Nat.add_zero, Nat.zero_add] at hpin
      have hyp := gl_pin (ks.getD i rxd) (y1.length + (lvL (ks.take i)).length)
      have e := hE _ hmem (y1 ++ lvL (ks.take i)) (appP (flU (ks.take i) y1.length) (y2 ++ List.replicate (lvL (ks.take i)).length [])) (by rw [appP_length, List.length_append, List.length_append, List.length_replicate]; omega) (by rw [List.length_append]; omega)
      rw [List.length_append, app_grow hfin hy] at e
      have e1 : glU (ks.take (i + 1)) y1.length x0 = uniP (glU (ks.take i) y1.length x0) (gl (ks.getD i rxd) (y1.length + (lvL (ks.take i)).length)) := by rw [take_snoc (d := rxd) hi, glU_append]; rfl
      have e2 : flU (ks.take (i + 1)) y1.length = flU (ks.take i) y1.length ++ fl (ks.getD i rxd) (y1.length + (lvL (ks.take i)).length) := by
        rw [take_snoc (d := rxd) hi, flU_append]; simp [flU]
      have e3 : lvL (ks.take (i + 1)) = lvL (ks.take i) ++ lv (ks.getD i rxd) := by rw [take_snoc (d := rxd) hi, lvL_append]; simp [lvL]
      rw [e1, e2, e3]
      generalize hX : glU (ks.take i) y1.length x0 = X at *
      generalize hY : gl (ks.getD i rxd) (y1.length + (lvL (ks.take i)).length) = Y at *
      have c1 := p363_two (a := X.f) (b := Y.f) (by have := hyp.2.2.1; have := hpin.2.2.1; omega)
      have c2 := p363_two (a := X.l) (b := Y.l) (by have := hyp.2.2.2; have := hpin.2.2.2; omega)
      unfold bin bout at e
      simp only [L356_356_3, Int.toNat_natCast]
      rw [if_pos (lt_nat hi), if_pos (in_range hi), hne, e, Option.bind_some]
      simp only
      rw [wrap_nat (by omega), List.length_append, List.append_assoc y1]
      simp only [uniP]
      cases hxn : X.n <;> simp [c1, c2])
    (fun n => by simp only [L356_356_3]; rw [if_neg nlt_nat, List.take_length]) (by omega)
  have h' := h
  simp only [List.take_zero, lvL, glU, flU, List.append_nil, List.length_nil, List.replicate_zero, appP, List.foldl_nil] at h'
  exact h'

theorem p355_says {E : BIn → Option BOut} {r : Rx} (hw : wfR r) (hk : r.kind = 4) (hE : ∀ k ∈ r.kids, Says E k) : Says (p355 E) r := by
  intro y1 y2 hy hn
  obtain ⟨k, s, ks⟩ := r
  replace hk : k = 4 := hk
  subst hk
  have hnn : nn (Rx.mk 4 s ks) = 1 + nnL ks := rfl
  have h := l355 (E := E) (ks := ks) (y1 := y1) (y2 := y2) (kl62 hw) hw.kids hE hy (by omega)
  unfold bin bout
  simp only [p355, Rx.kids]
  rw [h]
  simp only [Option.bind_some]
  unfold gl fl lv
  simp

theorem p356_says {E : BIn → Option BOut} {r : Rx} (hw : wfR r) (hk : r.kind = 5) (hE : ∀ k ∈ r.kids, Says E k) : Says (p356 E) r := by
  intro y1 y2 hy hn
  obtain ⟨k, s, ks⟩ := r
  replace hk : k = 5 := hk
  subst hk
  have hnn : nn (Rx.mk 5 s ks) = 1 + nnL ks := rfl
  have h := l356 (E := E) (ks := ks) (y1 := y1) (y2 := y2) (kl62 hw) hw.kids hE hy (by omega)
  unfold bin bout
  simp only [p356, Rx.kids]
  rw [h]
  simp only [Option.bind_some]
  unfold gl fl lv
  simp

theorem p357_says {E : BIn → Option BOut} {r : Rx} (hw : wfR r) (hk : r.kind = 6) (h1 : r.kids.length = 1) (hE : ∀ k ∈ r.kids, Says E k) : Says (p357 E) r := by
  intro y1 y2 hy hn
  obtain ⟨k, s, ks⟩ := r
  replace hk : k = 6 := hk
  subst hk
  match ks, h1 with
  | [x], _ =>
    have hnn : nn (Rx.mk 6 s [x]) = 1 + (nn x + 0) := rfl
    have e := hE x (by simp [Rx.kids]) y1 y2 hy (by omega)
    have hne := nrm_eq (hw.kids x (by simp [Rx.kids])).four
    unfold nrm at hne
    have hp := gl_pin x y1.length
    have hlx := lv_le x
    unfold bin bout at e
    have el := p343_spec (from_ := (gl x y1.length).l) (to := (gl x y1.length).f) (y1 := y1 ++ lv x) (y2 := appP (fl x y1.length) (y2 ++ List.replicate (lv x).length []))
      (fun p hp' => by have := hp.2.1 p hp'; rw [appP_length, List.length_append, List.length_replicate, hy]; omega) (by have := hp.2.2.1; omega) (by have := hp.2.2.2; omega)
    unfold bin bout
    simp only [p357]
    rw [if_pos (show decide (0 ≤ (0 : Int) ∧ (0 : Int) < (((Rx.mk 6 s [x]).kids.length : Nat) : Int)) = true from rfl)]
    rw [show (Rx.mk 6 s [x]).kids.getD (0 : Int).toNat (Rx.mk 0 [0, 0, 0, 0] []) = x from rfl]
    rw [hne, e, Option.bind_some]
    simp only
    rw [el, Option.bind_some]
    have g1 : gl (Rx.mk 6 s [x]) y1.length = ⟨true, (gl x y1.length).f, (gl x y1.length).l⟩ := by simp [gl, glU, uniP]
    have g2 : fl (Rx.mk 6 s [x]) y1.length = fl x y1.length ++ prs (gl x y1.length).l (gl x y1.length).f := by simp [fl, flU, glU, uniP]
    have g3 : lv (Rx.mk 6 s [x]) = lv x := by simp [lv, lvL]
    rw [g1, g2, g3, appP_append]

theorem p354_says {r : Rx} (hw : wfR r) (hk : r.kind = 3) : Says p354 r := by
  intro y1 y2 hy hn
  have hf := hw.four
  obtain ⟨k, s, ks⟩ := r
  replace hk : k = 3 := hk
  subst hk
  have hs : [(s.getD 0 0), (s.getD 1 0), (s.getD 2 0), (s.getD 3 0)] = s := by
    replace hf : s.length = 4 := hf
    match s, hf with
    | [a, b, c, d], _ => rfl
  unfold bin bout
  simp only [p354, Rx.set, hs]
  rw [if_pos (ct (by simp; unfold lim; omega)), if_pos (ct (by simp; unfold lim; omega))]
  unfold gl fl lv
  simp [appP]

theorem p342_says : ∀ (d m : Nat), d ≤ m → ∀ r : Rx, wfR r → VR d r → Says (p342n m) r
  | 0, _, _, _, _, h => h.elim
  | d + 1, m + 1, hm, r, hw, hv => by
    have ih : ∀ k ∈ r.kids, Says (p342n m) k := fun k hk => p342_says d m (by omega) k (hw.kids k hk) (hv.2 k hk)
    have hne := nrm_eq hw.four
    unfold nrm at hne
    intro y1 y2 hy hn
    show p342b (p342n m) _ = _
    have hnode := hv.1
    unfold nodeOk at hnode
    simp only [Bool.and_eq_true, Bool.or_eq_true, beq_iff_eq, decide_eq_true_eq] at hnode
    unfold bin
    simp only [p342b, hne]
    rcases hnode.2 with (⟨(h | h) | h, _⟩ | ⟨h | h, _⟩) | ⟨h, h1⟩
    · rw [if_pos (ct h)]
      obtain ⟨k, s, ks⟩ := r
      replace h : k = 1 := h
      subst h
      simp only [p352, Option.bind_some]
      unfold gl fl lv
      simp [bout, appP]
    · rw [if_neg (cf (by omega)), if_pos (ct h)]
      obtain ⟨k, s, ks⟩ := r
      replace h : k = 2 := h
      subst h
      simp only [p353, Option.bind_some]
      unfold gl fl lv
      simp [bout, appP]
    · rw [if_neg (cf (by omega)), if_neg (cf (by omega)), if_pos (ct h)]
      have e := p354_says hw h y1 y2 hy hn
      unfold bin at e
      rw [e]; rfl
    · rw [if_neg (cf (by omega)), if_neg (cf (by omega)), if_neg (cf (by omega)), if_pos (ct h)]
      have e := p355_says hw h ih y1 y2 hy hn
      unfold bin at e
      rw [e]; rfl
    · rw [if_neg (cf (by omega)), if_neg (cf (by omega)), if_neg (cf (by omega)), if_neg (cf (by omega)), if_pos (ct h)]
      have e := p356_says hw h ih y1 y2 hy hn
      unfold bin at e
      rw [e]; rfl
    · rw [if_neg (cf (by omega)), if_neg (cf (by omega)), if_neg (cf (by omega)), if_neg (cf (by omega)), if_neg (cf (by omega)), if_pos (ct h)]
      have e := p357_says hw h h1 ih y1 y2 hy hn
      unfold bin at e
      rw [e]; rfl
end Go.AM

/- The position automaton of a list, plain: what is counted first, accepted numbers, links. -/
namespace Go.AM
open Go

abbrev NF : Type := (Int) × (Int) × (List ((Int) × ((Int) × ((Bool) × ((List (Int)) × (Unit)))))) × (List (Int)) × Unit
abbrev nf0 : NF := ((0 : Int), (0 : Int), ([] : List ((Int) × ((Int) × ((Bool) × ((List (Int)) × (Unit)))))), ([] : List (Int)), ())

def AllV (l : List Rx) : Prop := ∀ r ∈ l, VR 30 r

section
variable {l : List Rx}

theorem p341_top {r : Rx} (hw : wfR r) (hv : VR 30 r) (hn : nn r ≤ 1152921504606846976) : p341 (r, ()) = some (nn r : Int) := p341_spec 30 fuel (by have := fuel_big; omega) r hw hv hn
theorem p339_top {r : Rx} (hw : wfR r) (hv : VR 30 r) (hn : nn r ≤ 1152921504606846976) : p339 (r, ()) = some (nn r : Int) := p339_spec 30 fuel (by have := fuel_big; omega) r hw hv hn

theorem l324_3 (hw : ∀ r ∈ l, wfR r) (hl : l.length ≤ 9223372036854775807) (hn : nnL l ≤ 1152921504606846976) :
    ∃ r, limit L324_3 ((l, (), (0 : Int), l, (l.length : Int), (0 : Int), ()), (nf0, ())) = some r ∧ ((AllV l ∧ r = .inr ((l, (), (nnL l : Int), ()), (nf0, ()))) ∨ (¬ AllV l ∧ r = .inl (((), (1 : Int), ()), (nf0, ())))) := by
  refine state_rule (L := L324_3) (σ := Nat) (fun i => ((l, (), ((nnL (l.take i) : Nat) : Int), l, (l.length : Int), (i : Int), ()), (nf0, ()))) (fun i => i ≤ l.length ∧ ∀ j, j < i → VR 30 (l.getD j rxd)) (fun i => l.length - i)
    (fun r => (AllV l ∧ r = .inr ((l, (), (nnL l : Int), ()), (nf0, ()))) ∨ (¬ AllV l ∧ r = .inl (((), (1 : Int), ()), (nf0, ())))) 0 ⟨Nat.zero_le _, fun j h => absurd h (Nat.not_lt_zero j)⟩ (by show _ - 0 < _; omega) ?_
  rintro i ⟨hi, hall⟩
  by_cases hlt : i < l.length
  · have hm : l.getD i rxd ∈ l := getD_mem hlt
    obtain ⟨b, e1, e2⟩ := p340_spec (hw _ hm)
    have hne := nrm_eq (hw _ hm).four
    unfold nrm at hne
    cases b with
    | true =>
      right
      refine ⟨i + 1, ⟨hlt, fun j hj => ?_⟩, by omega, fun n => ?_⟩
      · by_cases e : j = i
        · subst e; exact e2.1 rfl
        · exact hall j (by omega)
      · have hti := nnL_take l (i + 1)
        rw [nnL_snoc hlt] at hti
        have e3 := p341_top (hw _ hm) (e2.1 rfl) (by omega)
        simp only [L324_3, Int.toNat_natCast]
        rw [if_pos (lt_nat hlt), if_pos (in_range hlt), hne, e1, Option.bind_some, if_neg (by decide), e3, Option.bind_some, wrap_nat (by omega), nnL_snoc hlt, wrap_add (by omega)]
    | false =>
      left
      refine ⟨_, .inr ⟨fun h => ?_, rfl⟩, fun n => ?_⟩
      · have := e2.2 (h _ hm); cases this
      · simp only [L324_3, Int.toNat_natCast]
        rw [if_pos (lt_nat hlt), if_pos (in_range hlt), hne, e1, Option.bind_some, if_pos (by decide)]
  · left
    have : i = l.length := by omega
    subst this
    refine ⟨_, .inl ⟨all_getD.2 hall, rfl⟩, fun n => ?_⟩
    simp only [L324_3]
    rw [if_neg nlt_nat, List.take_length]

theorem p328_spec (hw : ∀ r ∈ l, wfR r) (hl : l.length ≤ 9223372036854775807) (hn : nnL l ≤ 1152921504606846976) :
    (AllV l → p328 (l, ()) = some (if nnL l > 500 then 11 else 0)) ∧ (¬ AllV l → p328 (l, ()) = some 1) := by
  have key : ∃ r, limit L328_3 ((l, (0 : Int), (0 : Int), ()), ()) = some r ∧ ((AllV l ∧ r = .inr (((nnL l : Int), ()), ())) ∨ (¬ AllV l ∧ r = .inl (((1 : Int), ()), ()))) := by
    refine state_rule (L := L328_3) (σ := Nat) (fun i => ((l, ((nnL (l.take i) : Nat) : Int), (i : Int), ()), ())) (fun i => i ≤ l.length ∧ ∀ j, j < i → VR 30 (l.getD j rxd)) (fun i => l.length - i)
      (fun r => (AllV l ∧ r = .inr (((nnL l : Int), ()), ())) ∨ (¬ AllV l ∧ r = .inl (((1 : Int), ()), ()))) 0 ⟨Nat.zero_le _, fun j h => absurd h (Nat.not_lt_zero j)⟩ (by show _ - 0 < _; omega) ?_
    rintro i ⟨hi, hall⟩
    by_cases hlt : i < l.length
    · have hm : l.getD i rxd ∈ l := getD_mem hlt
      obtain ⟨b, e1, e2⟩ := p338_spec (hw _ hm)
      have hne := nrm_eq (hw _ hm).four
      unfold nrm at hne
      cases b with
      | true =>
        right
        refine ⟨i + 1, ⟨hlt, fun j hj => ?_⟩, by omega, fun n => ?_⟩
        · by_cases e : j = i
          · subst e; exact e2.1 rfl
          · exact hall j (by omega)
        · have hti := nnL_take l (i + 1)
          rw [nnL_snoc hlt] at hti
          have e3 := p339_top (hw _ hm) (e2.1 rfl) (by omega)
          simp only [L328_3, Int.toNat_natCast]
          rw [if_pos (lt_nat hlt), if_pos (in_range hlt), hne, e1, Option.bind_some, if_neg (by decide), if_pos (in_range hlt), e3, Option.bind_some, wrap_nat (by omega), nnL_snoc hlt, wrap_add (by omega)]
      | false =>
        left
        refine ⟨_, .inr ⟨fun h => ?_, rfl⟩, fun n => ?_⟩
        · have := e2.2 (h _ hm); cases this
        · simp only [L328_3, Int.toNat_natCast]
          rw [if_pos (lt_nat hlt), if_pos (in_range hlt), hne, e1, Option.bind_some, if_pos (by decide)]
    · left
      have : i = l.length := by omega
      subst this
      refine ⟨_, .inl ⟨all_getD.2 hall, rfl⟩, fun n => ?_⟩
      simp only [L328_3]
      rw [if_neg nlt_nat, List.take_length]
  obtain ⟨r, e, h⟩ := key
  simp only [p328]
  rw [e]
  rcases h with ⟨h1, rfl⟩ | ⟨h1, rfl⟩
  · refine ⟨fun _ => ?_, fun h => absurd h1 h⟩
    simp only [Option.bind_some, Sum.elim_inr]
    by_cases h5 : nnL l > 500
    · rw [if_pos (ct (by omega)), if_pos h5]
    · rw [if_neg (cf (by omega)), if_neg h5]
  · exact ⟨fun h => absurd h h1, fun _ => rfl⟩
end

/-! ### accepted numbers -/

def setAll (i : Int) (a : List Int) (ps : List Int) : List Int := ps.foldl (fun a p => a.set p.toNat i) a
/-- the accepted numbers behind one more expression, number i -/
def acS (r : Rx) (o : Nat) (i : Int) (acc : List Int) : List Int :=
  let a := setAll i (acc ++ List.replicate (lv r).length (-1)) (gl r o).l
  if (gl r o).n = true ∧ a.getD 0 0 < 0 then a.set 0 i else a
def acA : List Rx → Nat → Nat → List Int → List Int
  | [], _, _, acc => acc
  | r :: rs, o, i, acc => acA rs (o + (lv r).length) (i + 1) (acS r o i acc)
def flA : List Rx → Nat → List (Int × Int)
  | [], _ => []
  | r :: rs, o => fl r o ++ prs [0] (gl r o).f ++ flA rs (o + (lv r).length)

theorem setAll_length (i : Int) : ∀ (ps a : List Int), (setAll i a ps).length = a.length
  | [], _ => rfl
  | p :: ps, a => by show (setAll i (a.set p.toNat i) ps).length = _; rw [setAll_length i ps, List.length_set]
theorem acS_length (r : Rx) (o : Nat) (i : Int) (acc : List Int) : (acS r o i acc).length = acc.length + (lv r).length := by
  unfold acS
  simp only
  split <;> simp [setAll_length]
theorem acA_append : ∀ (l m : List Rx) (o i : Nat) (acc : List Int), acA (l ++ m) o i acc = acA m (o + (lvL l).length) (i + l.length) (acA l o i acc)
  | [], m, o, i, acc => by simp [acA, lvL]
  | r :: l, m, o, i, acc => by simp only [List.cons_append, acA, lvL, acA_append l m, List.length_append, List.length_cons, Nat.add_assoc, Nat.add_comm 1]
theorem flA_append : ∀ (l m : List Rx) (o : Nat), flA (l ++ m) o = flA l o ++ flA m (o + (lvL l).length)
  | [], m, o => by simp [flA, lvL]
  | r :: l, m, o => by simp only [List.cons_append, flA, lvL, flA_append l m, List.length_append, Nat.add_assoc, List.append_assoc]
theorem acA_length : ∀ (l : List Rx) (o i : Nat) (acc : List Int), (acA l o i acc).length = acc.length + (lvL l).length
  | [], _, _, acc => by simp [acA, lvL]
  | r :: l, o, i, acc => by simp only [acA, lvL, acA_length l, acS_length, List.length_append, Nat.add_assoc]

/-- links of a list: between positions, or from the start -/
def FInA (o m : Nat) (ps : List (Int × Int)) : Prop := ∀ x ∈ ps, (0 ≤ x.1 ∧ x.1 ≤ ((o + m : Nat) : Int)) ∧ ((o : Int) < x.2 ∧ x.2 ≤ ((o + m : Nat) : Int))
theorem flA_in : ∀ (l : List Rx) (o : Nat), FInA o (lvL l).length (flA l o)
  | [], o => fun x hx => by cases hx
  | r :: l, o => by
    unfold flA lvL
    rw [List.length_append]
    intro x hx
    rcases List.mem_append.1 hx with hx | hx
    · rcases List.mem_append.1 hx with hx | hx
      · have := fl_in r o x hx
        constructor <;> constructor <;> omega
      · obtain ⟨g1, g2⟩ := mem_prs.1 hx
        simp only [List.mem_singleton] at g1
        have := (gl_pin r o).1 _ g2
        constructor <;> constructor <;> omega
    · have := flA_in l (o + (lv r).length) x hx
      constructor <;> constructor <;> omega
end Go.AM

/- The position automaton of a list, plain: the loop over the expressions. -/
namespace Go.AM
open Go

section
variable {l : List Rx}

theorem l324_18 (i i' : Int) (x : Pt) (acc : List Int) (S : List (List Int)) (B : List (List (Int × Bool))) (m : Nat) (h : acc.length + m = S.length + 1) (hS : S.length ≤ 1000000) :
    limit L324_18 (((), (), (), i, (), l, (l.length : Int), i', ()), (nf0, acc, (x.n, x.f, x.l, ()), ((), (), ()), S, B, ())) = some (((), (), (), i, (), l, (l.length : Int), i', ()), (nf0, acc ++ List.replicate m (-1), (x.n, x.f, x.l, ()), ((), (), ()), S, B, ())) := by
  have h := for_rule (L := L324_18) (N := m) (S := fun j => (((), (), (), i, (), l, (l.length : Int), i', ()), (nf0, acc ++ List.replicate j (-1), (x.n, x.f, x.l, ()), ((), (), ()), S, B, ())))
    (r := (((), (), (), i, (), l, (l.length : Int), i', ()), (nf0, acc ++ List.replicate m (-1), (x.n, x.f, x.l, ()), ((), (), ()), S, B, ())))
    (fun j hj n => by
      simp only [L324_18]
      rw [if_pos (ct (by rw [List.length_append, List.length_replicate]; omega)), if_pos (ct (by simp; unfold lim; omega)), List.append_assoc, ← List.replicate_succ'])
    (fun n => by simp only [L324_18]; rw [if_neg (cf (by rw [List.length_append, List.length_replicate]; omega))]) (by omega)
  simpa using h

theorem l324_21 (i i' : Int) (x : Pt) (acc : List Int) (S : List (List Int)) (B : List (List (Int × Bool))) (h : ∀ p ∈ x.l, 0 ≤ p ∧ p < (acc.length : Int)) (hl : x.l.length ≤ 1000000) :
    limit L324_21 (((), (), (), i, (), l, (l.length : Int), i', x.l, (x.l.length : Int), (0 : Int), ()), (nf0, acc, (x.n, x.f, x.l, ()), ((), (), ()), S, B, ())) = some (((), (), (), i, (), l, (l.length : Int), i', ()), (nf0, setAll i acc x.l, (x.n, x.f, x.l, ()), ((), (), ()), S, B, ())) :=
  for_rule (L := L324_21) (N := x.l.length) (S := fun j => (((), (), (), i, (), l, (l.length : Int), i', x.l, (x.l.length : Int), (j : Int), ()), (nf0, setAll i acc (x.l.take j), (x.n, x.f, x.l, ()), ((), (), ()), S, B, ())))
    (r := (((), (), (), i, (), l, (l.length : Int), i', ()), (nf0, setAll i acc x.l, (x.n, x.f, x.l, ()), ((), (), ()), S, B, ())))
    (fun j hj n => by
      have hp := h _ (getD_mem (d := 0) hj)
      simp only [L324_21, Int.toNat_natCast]
      rw [if_pos (lt_nat hj), if_pos (in_range hj), if_pos (ct ⟨hp.1, by rw [setAll_length]; exact hp.2⟩), wrap_nat (by omega)]
      have e : setAll i acc (x.l.take (j + 1)) = (setAll i acc (x.l.take j)).set (x.l.getD j 0).toNat i := by
        unfold setAll
        rw [take_snoc (d := 0) hj, List.foldl_append]
        rfl
      rw [e])
    (fun n => by simp only [L324_21]; rw [if_neg nlt_nat, List.take_length]) (by omega)

abbrev S14 (l : List Rx) (i : Nat) (acc : List Int) (S : List (List Int)) (B : List (List (Int × Bool))) : ((Unit × Unit × Unit × (List (Rx)) × (Int) × (Int) × Unit) × (((Int) × (Int) × (List ((Int) × ((Int) × ((Bool) × ((List (Int)) × (Unit)))))) × (List (Int)) × Unit) × (List (Int)) × (Unit × Unit × Unit) × (List (List (Int))) × (List (List ((Int) × (Bool)))) × Unit)) :=
  (((), (), (), l, (l.length : Int), (i : Int), ()), (nf0, acc, ((), (), ()), S, B, ()))

theorem l324_14_step {i : Nat} (hi : i < l.length) (hl : l.length ≤ 1000000) {r : Rx} (hr : l.getD i rxd = r) (hw : wfR r) (hv : VR 30 r) {acc : List Int} {S : List (List Int)} {B : List (List (Int × Bool))}
    (ha : acc.length = S.length + 1) (hB : B.length = S.length + 1) (hS : S.length + nn r ≤ 1000000) (n : Nat) :
    L324_14 (n + 1) (S14 l i acc S B) = L324_14 n (S14 l (i + 1) (acS r S.length (i : Int) acc) (S ++ lv r) (appP (fl r S.length ++ prs [0] (gl r S.length).f) (B ++ List.replicate (lv r).length []))) := by
  have hne := nrm_eq hw.four
  unfold nrm at hne
  have hlr := lv_le r
  have e : p342 (bin r S B) = _ := p342_says 30 fuel (by have := fuel_big; omega) r hw hv S B hB (by omega)
  unfold bin bout at e
  have hp := gl_pin r S.length
  have hlen : (S ++ lv r).length = S.length + (lv r).length := List.length_append
  have e3 := p343_spec (from_ := [0]) (to := (gl r S.length).f) (y1 := S ++ lv r) (y2 := appP (fl r S.length) (B ++ List.replicate (lv r).length []))
    (fun p hp' => by simp only [List.mem_singleton] at hp'; subst hp'; rw [appP_length, List.length_append, hB]; omega) (by have := hp.2.2.1; omega) (by simp)
  rw [← appP_append] at e3
  have e18 := l324_18 (l := l) (i : Int) (i : Int) (gl r S.length) acc (S ++ lv r) (appP (fl r S.length ++ prs [0] (gl r S.length).f) (B ++ List.replicate (lv r).length [])) (lv r).length (by omega) (by omega)
  have e21 := l324_21 (l := l) (i : Int) (i : Int) (gl r S.length) (acc ++ List.replicate (lv r).length (-1)) (S ++ lv r) (appP (fl r S.length ++ prs [0] (gl r S.length).f) (B ++ List.replicate (lv r).length []))
    (fun p hp' => by have := hp.2.1 p hp'; rw [List.length_append, List.length_replicate]; omega) (by have := hp.2.2.2; omega)
  have hlen2 : 0 < (setAll (i : Int) (acc ++ List.replicate (lv r).length (-1)) (gl r S.length).l).length := by rw [setAll_length, List.length_append]; omega
  simp only [S14, L324_14, Int.toNat_natCast]
  rw [if_pos (lt_nat hi), if_pos (in_range hi), hr, hne, e, Option.bind_some]
  simp only
  rw [e3, Option.bind_some]
  simp only
  rw [e18, Option.bind_some]
  simp only
  rw [e21, Option.bind_some]
  simp only
  rw [wrap_nat (by omega)]
  unfold acS
  simp only
  cases hn : (gl r S.length).n with
  | false => rw [if_neg (by decide), if_neg (fun h => by cases h.1)]
  | true =>
    rw [if_pos rfl, if_pos (ct ⟨Int.le_refl _, by omega⟩)]
    by_cases h0 : (setAll (i : Int) (acc ++ List.replicate (lv r).length (-1)) (gl r S.length).l).getD 0 0 < 0
    · rw [if_pos (ct (by simpa using h0)), if_pos (ct ⟨Int.le_refl _, by omega⟩), if_pos ⟨rfl, h0⟩]
      rfl
    · rw [if_neg (cf (by simpa using h0)), if_neg (fun h => h0 h.2)]

theorem l324_14 (hw : ∀ r ∈ l, wfR r) (hv : AllV l) (hl : l.length ≤ 1000000) (hn : nnL l ≤ 1000000) :
    limit L324_14 (S14 l 0 [-1] [] [[]]) = some (((), (), (), ()), (nf0, acA l 0 0 [-1], ((), (), ()), lvL l, appP (flA l 0) (List.replicate ((lvL l).length + 1) []), ())) := by
  have h := for_rule (L := L324_14) (N := l.length) (S := fun i => S14 l i (acA (l.take i) 0 0 [-1]) (lvL (l.take i)) (appP (flA (l.take i) 0) (List.replicate ((lvL (l.take i)).length + 1) [])))
    (r := (((), (), (), ()), (nf0, acA l 0 0 [-1], ((), (), ()), lvL l, appP (flA l 0) (List.replicate ((lvL l).length + 1) []), ())))
    (fun i hi n => by
      have hm : l.getD i rxd ∈ l := getD_mem hi
      have hti := nnL_take l (i + 1)
      rw [nnL_snoc hi] at hti
      have hlv := lvL_le (l.take i)
      have hf := flA_in (l.take i) 0
      rw [l324_14_step hi hl rfl (hw _ hm) (hv _ hm) (by rw [acA_length]; simp; omega) (by rw [appP_length, List.length_replicate]) (by omega)]
      have e1 : acA (l.take (i + 1)) 0 0 [-1] = acS (l.getD i rxd) (lvL (l.take i)).length (i : Int) (acA (l.take i) 0 0 [-1]) := by
        rw [take_snoc (d := rxd) hi, acA_append, List.length_take, Nat.min_eq_left (by omega)]
        simp [acA]
      have e2 : flA (l.take (i + 1)) 0 = flA (l.take i) 0 ++ (fl (l.getD i rxd) (lvL (l.take i)).length ++ prs [0] (gl (l.getD i rxd) (lvL (l.take i)).length).f) := by
        rw [take_snoc (d := rxd) hi, flA_append]; simp [flA]
      have e3 : lvL (l.take (i + 1)) = lvL (l.take i) ++ lv (l.getD i rxd) := by rw [take_snoc (d := rxd) hi, lvL_append]; simp [lvL]
      rw [e1, e2, e3]
      rw [← appP_behind (flA (l.take i) 0) _ _ (fun x hx => by have := hf x hx; rw [List.length_replicate]; omega), ← appP_append, List.replicate_append_replicate, List.length_append]
      rw [show (lvL (l.take i)).length + 1 + (lv (l.getD i rxd)).length = (lvL (l.take i)).length + (lv (l.getD i rxd)).length + 1 by omega])
    (fun n => by simp only [S14, L324_14]; rw [if_neg nlt_nat, List.take_length]) (by omega)
  exact h
end

/-! ### the maps behind the states -/

/-- keys of a map -/
abbrev kys (m : List (Int × Bool)) : List Int := m.map (·.1)

theorem kys_mput (q : Int) : ∀ m : List (Int × Bool), kys (mput (.int .i64) q true m) = if q ∈ kys m then kys m else kys m ++ [q]
  | [] => by simp [mput, kys]
  | p :: m => by
    unfold mput
    by_cases h : q = p.1
    · rw [if_pos (show Kind.eqB (.int .i64) q p.1 = true from decide_eq_true h)]
      rw [if_pos (by simp [kys, h])]
      simp [kys, h]
    · rw [if_neg (show ¬ Kind.eqB (.int .i64) q p.1 = true by show ¬ decide (q = p.1) = true; simp [h])]
      have ih := kys_mput q m
      show p.1 :: kys (mput (.int .i64) q true m) = _
      rw [ih]
      by_cases h2 : q ∈ kys m
      · rw [if_pos h2, if_pos (by simp [kys] at h2 ⊢; exact .inr h2)]
        rfl
      · rw [if_neg h2, if_neg (by simp [kys] at h2 ⊢; exact ⟨h, h2⟩)]
        rfl

theorem appP_keys : ∀ (ps : List (Int × Int)) (B : List (List (Int × Bool))) (p : Nat), p < B.length → (∀ x ∈ ps, 0 ≤ x.1 ∧ x.1.toNat < B.length) → (kys (B.getD p [])).Nodup →
    (kys ((appP ps B).getD p [])).Nodup ∧ ∀ q, q ∈ kys ((appP ps B).getD p []) ↔ q ∈ kys (B.getD p []) ∨ ((p : Int), q) ∈ ps
  | [], B, p, _, _, hn => ⟨hn, fun q => by simp [appP]⟩
  | x :: ps, B, p, hp, hx, hn => by
    have h1 := hx x (by simp)
    have hg : (putP B x).getD p [] = if x.1.toNat = p then mput (.int .i64) x.2 true (B.getD p []) else B.getD p [] := by
      unfold putP
      rw [getD_set hp]
      split
      · rename_i e; rw [e]
      · rfl
    have hn' : (kys ((putP B x).getD p [])).Nodup := by
      rw [hg]
      split
      · rw [kys_mput]
        split
        · exact hn
        · rename_i hq
          exact List.nodup_append.2 ⟨hn, by simp, fun a ha b hb => by simp at hb; subst hb; exact fun e => hq (e ▸ ha)⟩
      · exact hn
    obtain ⟨i1, i2⟩ := appP_keys ps (putP B x) p (by rw [putP_length]; exact hp) (fun y hy => by rw [putP_length]; exact hx y (by simp [hy])) hn'
    refine ⟨i1, fun q => ?_⟩
    show q ∈ kys ((appP ps (putP B x)).getD p []) ↔ _
    rw [i2 q, hg]
    have hxe : ((p : Int), q) = x ↔ x.1.toNat = p ∧ x.2 = q := by
      constructor
      · intro e; rw [← e]; simp
      · rintro ⟨e1, e2⟩
        apply Prod.ext
        · show (p : Int) = x.1; omega
        · exact e2.symm
    rw [List.mem_cons, hxe]
    split
    · rename_i e
      rw [kys_mput]
      split
      · rename_i hq
        constructor
        · rintro (h | h)
          · exact .inl h
          · exact .inr (.inr h)
        · rintro (h | ⟨_, h⟩ | h)
          · exact .inl h
          · subst h; exact .inl hq
          · exact .inr h
      · rw [List.mem_append, List.mem_singleton]
        constructor
        · rintro ((h | h) | h)
          · exact .inl h
          · exact .inr (.inl ⟨e, h.symm⟩)
          · exact .inr (.inr h)
        · rintro (h | ⟨_, h⟩ | h)
          · exact .inl (.inl h)
          · exact .inl (.inr h.symm)
          · exact .inr h
    · rename_i e
      constructor
      · rintro (h | h)
        · exact .inl h
        · exact .inr (.inr h)
      · rintro (h | ⟨h, _⟩ | h)
        · exact .inl h
        · exact absurd h e
        · exact .inr h

/-- strictly rising numbers between a and a + n are at most n -/
theorem strict_len : ∀ (l : List Int) (a : Int) (n : Nat), l.Pairwise (· < ·) → (∀ x ∈ l, a ≤ x ∧ x < a + n) → l.length ≤ n
  | [], _, _, _, _ => Nat.zero_le _
  | x :: l, a, n, hp, h => by
    obtain ⟨h1, h2⟩ := List.pairwise_cons.1 hp
    have hx := h x (by simp)
    have := strict_len l (a + 1) (n - 1) h2 (fun y hy => by have := h1 y hy; have := h y (by simp [hy]); omega)
    rw [List.length_cons]; omega

/-- two strictly rising lists with the same members -/
theorem strict_ext {a b : List Int} (ha : a.Pairwise (· < ·)) (hb : b.Pairwise (· < ·)) (h : ∀ x, x ∈ a ↔ x ∈ b) : a = b := by
  refine List.Perm.eq_of_pairwise (le := fun x y : Int => x < y) (fun x y _ _ h1 h2 => by omega) ha hb ?_
  exact (List.perm_ext_iff_of_nodup (ha.imp fun h => by omega) (hb.imp fun h => by omega)).2 h
end Go.AM

/- The position automaton of a list, plain: its arcs, the whole. -/
namespace Go.AM
open Go

abbrev Arc' : Type := (Int) × ((Int) × ((Bool) × ((List (Int)) × (Unit))))
def nrm4 (s : List Int) : List Int := [s.getD 0 0, s.getD 1 0, s.getD 2 0, s.getD 3 0]
def arcOf (S : List (List Int)) (p q : Int) : Arc' := (p, (q, (false, (nrm4 (S.getD (q - 1).toNat (List.replicate 4 0)), ()))))
def rowOf (S : List (List Int)) (B : List (List (Int × Bool))) (p : Nat) : List Arc' := (sortedInts (kys (B.getD p []))).map (arcOf S p)
def arcsTo (S : List (List Int)) (B : List (List (Int × Bool))) (i : Nat) : List Arc' := (List.range i).flatMap (rowOf S B)

theorem arcsTo_succ (S : List (List Int)) (B : List (List (Int × Bool))) (i : Nat) : arcsTo S B (i + 1) = arcsTo S B i ++ rowOf S B i := by
  unfold arcsTo; rw [List.range_succ, List.flatMap_append]; simp

theorem l324_33 (N : Int) (acc : List Int) (S : List (List Int)) (B : List (List (Int × Bool))) (p x100 x101 : Int) (qs : List Int) (arcs : List Arc') (hq : ∀ q ∈ qs, 1 ≤ q ∧ q ≤ (S.length : Int)) (hS : S.length ≤ 1000000)
    (hl : arcs.length + qs.length ≤ 1000000000) :
    limit L324_33 (((), (), (), p, (), x100, x101, (), (qs.length : Int), (0 : Int), ()), (nf0, acc, (N, (0 : Int), (), (), ()), ((), (), ()), qs, arcs, S, B, ())) =
      some (((), (), (), (), x100, x101, ()), (nf0, acc, (N, (0 : Int), (), (), ()), ((), (), ()), arcs ++ qs.map (arcOf S p), S, B, ())) := by
  have h := for_rule (L := L324_33) (N := qs.length)
    (S := fun j => (((), (), (), p, (), x100, x101, (), (qs.length : Int), (j : Int), ()), (nf0, acc, (N, (0 : Int), (), (), ()), ((), (), ()), qs, arcs ++ (qs.take j).map (arcOf S p), S, B, ())))
    (r := (((), (), (), (), x100, x101, ()), (nf0, acc, (N, (0 : Int), (), (), ()), ((), (), ()), arcs ++ qs.map (arcOf S p), S, B, ())))
    (fun j hj n => by
      have h1 := hq _ (getD_mem (d := 0) hj)
      have hw : IntKind.i64.wrap (qs.getD j 0 - 1) = qs.getD j 0 - 1 := wrap_i64 (by omega) (by omega)
      simp only [L324_33, Int.toNat_natCast, hw]
      rw [if_pos (lt_nat hj), if_pos (in_range hj), if_pos (ct (by omega)), if_pos (ct (by rw [List.length_append, List.length_map, List.length_take]; simp; unfold lim; omega)), wrap_nat (by omega), take_snoc (d := 0) hj, List.map_append, List.append_assoc]
      rfl)
    (fun n => by simp only [L324_33]; rw [if_neg nlt_nat, List.take_length]) (by omega)
  simpa using h

/-- what the maps hold: keys of states, each once -/
def KB (S : List (List Int)) (B : List (List (Int × Bool))) : Prop := ∀ p, p < B.length → (kys (B.getD p [])).Nodup ∧ ∀ q ∈ kys (B.getD p []), 1 ≤ q ∧ q ≤ (S.length : Int)

theorem sorted_strict {l : List Int} (h : l.Nodup) : (sortedInts l).Pairwise (· < ·) := by
  have h1 := sortedInts_sorted l
  have h2 : (sortedInts l).Nodup := (sortedInts_perm l).nodup_iff.2 h
  have := List.pairwise_and_iff.2 ⟨h1, h2⟩
  exact this.imp fun h => by have := h.1; have := h.2; omega

theorem srt_mem {l : List Int} {x : Int} : x ∈ sortedInts l ↔ x ∈ l := (sortedInts_perm l).mem_iff

theorem KB.len {S : List (List Int)} {B : List (List (Int × Bool))} (h : KB S B) {p : Nat} (hp : p < B.length) : (kys (B.getD p [])).length ≤ S.length := by
  have h1 := strict_len (sortedInts (kys (B.getD p []))) 1 S.length (sorted_strict (h p hp).1) (fun x hx => by have := (h p hp).2 x (srt_mem.1 hx); omega)
  rw [(sortedInts_perm _).length_eq] at h1
  exact h1

theorem rowOf_len {S : List (List Int)} {B : List (List (Int × Bool))} (h : KB S B) {p : Nat} (hp : p < B.length) : (rowOf S B p).length ≤ S.length := by
  unfold rowOf
  rw [List.length_map, (sortedInts_perm _).length_eq]
  exact h.len hp

theorem arcsTo_len {S : List (List Int)} {B : List (List (Int × Bool))} (h : KB S B) : ∀ i, i ≤ B.length → (arcsTo S B i).length ≤ i * S.length
  | 0, _ => by simp [arcsTo]
  | i + 1, hi => by
    rw [arcsTo_succ, List.length_append, Nat.add_mul, Nat.one_mul]
    have := arcsTo_len h i (by omega)
    have := rowOf_len h (p := i) (by omega)
    omega

theorem l324_30 (N : Int) (acc : List Int) (S : List (List Int)) (B : List (List (Int × Bool))) (hK : KB S B) (hS : S.length ≤ 1000) (hB : B.length ≤ 1001) :
    limit L324_30 (((), (), (), (), (B.length : Int), (0 : Int), ()), (nf0, acc, (N, (0 : Int), (), (), ()), ((), (), ()), ([] : List Arc'), S, B, ())) = some (((), (), ()), (nf0, acc, (N, (0 : Int), (), (), ()), arcsTo S B B.length, ())) := by
  have h := for_rule (L := L324_30) (N := B.length) (S := fun i => (((), (), (), (), (B.length : Int), (i : Int), ()), (nf0, acc, (N, (0 : Int), (), (), ()), ((), (), ()), arcsTo S B i, S, B, ())))
    (r := (((), (), ()), (nf0, acc, (N, (0 : Int), (), (), ()), arcsTo S B B.length, ())))
    (fun i hi n => by
      have hk := hK i hi
      have hkl := hK.len hi
      have hal := arcsTo_len hK i (by omega)
      have hmul : i * S.length ≤ 1001 * 1000 := Nat.mul_le_mul (by omega) hS
      have hsl : (sortedInts (kys (B.getD i []))).length = (kys (B.getD i [])).length := (sortedInts_perm _).length_eq
      have e := l324_33 N acc S B (i : Int) (B.length : Int) (i : Int) (sortedInts (kys (B.getD i []))) (arcsTo S B i) (fun q hq => hk.2 q (srt_mem.1 hq)) (by omega) (by omega)
      have hok : (decide ((B.getD i []).length ≤ lim) && i64ok (kys (B.getD i []))) = true := by
        rw [Bool.and_eq_true]
        refine ⟨ct (by have : (B.getD i []).length = (kys (B.getD i [])).length := (List.length_map _).symm; unfold lim; omega), List.all_eq_true.2 fun q hq => ct (by have := hk.2 q hq; omega)⟩
      simp only [L324_30, Int.toNat_natCast]
      rw [if_pos (lt_nat hi), if_pos (in_range hi), if_pos hok, e]
      simp only [Option.bind_some]
      rw [wrap_nat (by omega), arcsTo_succ]
      rfl)
    (fun n => by simp only [L324_30]; rw [if_neg nlt_nat]) (by omega)
  exact h

/-- the maps of a list's automaton -/
def mapsA (l : List Rx) : List (List (Int × Bool)) := appP (flA l 0) (List.replicate ((lvL l).length + 1) [])

theorem mapsA_length (l : List Rx) : (mapsA l).length = (lvL l).length + 1 := by unfold mapsA; rw [appP_length, List.length_replicate]

theorem mapsA_keys (l : List Rx) {p : Nat} (hp : p < (lvL l).length + 1) : (kys ((mapsA l).getD p [])).Nodup ∧ ∀ q, q ∈ kys ((mapsA l).getD p []) ↔ ((p : Int), q) ∈ flA l 0 := by
  have hf := flA_in l 0
  have e0 : (List.replicate ((lvL l).length + 1) ([] : List (Int × Bool))).getD p [] = [] := by
    rw [List.getD_eq_getElem?_getD, List.getElem?_replicate]; split <;> rfl
  obtain ⟨h1, h2⟩ := appP_keys (flA l 0) (List.replicate ((lvL l).length + 1) []) p (by rw [List.length_replicate]; exact hp) (fun x hx => by have := hf x hx; rw [List.length_replicate]; omega) (by rw [e0]; simp [kys])
  refine ⟨h1, fun q => ?_⟩
  unfold mapsA
  rw [h2 q, e0]
  simp [kys]

theorem mapsA_KB (l : List Rx) : KB (lvL l) (mapsA l) := fun p hp => by
  rw [mapsA_length] at hp
  obtain ⟨h1, h2⟩ := mapsA_keys l hp
  refine ⟨h1, fun q hq => ?_⟩
  have := flA_in l 0 _ ((h2 q).1 hq)
  omega

/-- the automaton that the program builds -/
def nfaA (l : List Rx) : (Int) × ((Int) × ((List Arc') × ((List (Int)) × (Unit)))) := ((((lvL l).length + 1 : Nat) : Int), ((0 : Int), (arcsTo (lvL l) (mapsA l) ((lvL l).length + 1), (acA l 0 0 [-1], ()))))

theorem p324_spec {l : List Rx} (hw : ∀ r ∈ l, wfR r) (hl : l.length ≤ 1000000) (hn : nnL l ≤ 1152921504606846976) :
    (¬ AllV l → p324 (l, ()) = some ((0, (0, ([], ([], ())))), 1, ())) ∧ (AllV l → nnL l > 500 → p324 (l, ()) = some ((0, (0, ([], ([], ())))), 11, ())) ∧ (AllV l → nnL l ≤ 500 → p324 (l, ()) = some (nfaA l, 0, ())) := by
  obtain ⟨r, e, h⟩ := l324_3 hw (by omega) hn
  simp only [p324]
  rw [e]
  rcases h with ⟨h1, rfl⟩ | ⟨h1, rfl⟩
  · refine ⟨fun h => absurd h1 h, fun _ h5 => ?_, fun _ h5 => ?_⟩
    · simp only [Option.bind_some, Sum.elim_inr]
      rw [if_pos (ct (by omega))]
    · have hlv := lvL_le l
      have e14 := l324_14 hw h1 hl (by omega)
      simp only [Option.bind_some, Sum.elim_inr]
      rw [if_neg (cf (by omega))]
      have e14' : limit L324_14 (((), (), (), l, (l.length : Int), (0 : Int), ()), (nf0, [-1], ((), (), ()), [], [[]], ())) = _ := e14
      rw [e14']
      simp only [Option.bind_some]
      have e30 := l324_30 (((acA l 0 0 [-1]).length : Nat) : Int) (acA l 0 0 [-1]) (lvL l) (mapsA l) (mapsA_KB l) (by omega) (by rw [mapsA_length]; omega)
      have e30' : limit L324_30 (((), (), (), (), ((appP (flA l 0) (List.replicate ((lvL l).length + 1) [])).length : Int), (0 : Int), ()), (nf0, acA l 0 0 [-1], ((((acA l 0 0 [-1]).length : Nat) : Int), (0 : Int), (), (), ()), ((), (), ()), ([] : List Arc'), lvL l, appP (flA l 0) (List.replicate ((lvL l).length + 1) []), ())) = _ := e30
      rw [e30']
      simp only [Option.bind_some]
      rw [mapsA_length, acA_length]
      unfold nfaA
      rw [show ([(-1 : Int)] : List Int).length + (lvL l).length = (lvL l).length + 1 by simp [Nat.add_comm]]
  · exact ⟨fun _ => rfl, fun h => absurd h h1, fun h => absurd h h1⟩
end Go.AM

/- Nondeterministic automata: valid, by the program and by the reference. -/
namespace Go.AM
open Go

abbrev Arc : Type := Int × (Int × (Bool × (List Int × Unit)))
def ad : Arc := (0, (0, (false, ((List.replicate 4 0), ()))))
theorem e_ad : ((0, (0, (false, ((List.replicate 4 0), ())))) : Int × (Int × (Bool × (List Int × Unit)))) = ad := rfl
abbrev setOf (a : Arc) : List Int := [a.2.2.2.1.getD 0 0, a.2.2.2.1.getD 1 0, a.2.2.2.1.getD 2 0, a.2.2.2.1.getD 3 0]
abbrev isZero4 (l : List Int) : Bool := Kind.eqB (.arr 4 (.int .u64)) l [(0 : Int), (0 : Int), (0 : Int), (0 : Int)]

def ArcOk (st : Int) (a : Arc) : Prop := 0 ≤ a.1 ∧ a.1 < st ∧ 0 ≤ a.2.1 ∧ a.2.1 < st ∧ (a.2.2.1 = true → isZero4 (setOf a) = true)

structure VNfa (st start : Int) (arcs : List Arc) (acc : List Int) : Prop where
  s1 : 1 ≤ st
  s2 : st ≤ 2000
  b0 : 0 ≤ start
  b1 : start < st
  al : (acc.length : Int) = st
  ar : ∀ i, i < arcs.length → ArcOk st (arcs.getD i ad)
  ac : ∀ i, i < acc.length → -1 ≤ acc.getD i 0

theorem p45_spec {st start : Int} {arcs : List Arc} {acc : List Int} (hl : arcs.length ≤ 9223372036854775807) :
    ∃ b, p45 ((st, (start, (arcs, (acc, ())))), ()) = some b ∧ (b = true ↔ VNfa st start arcs acc) := by
  simp only [p45]
  by_cases h1 : st < 1
  · rw [if_pos (ct h1)]; exact ⟨false, rfl, fun h => (by cases h), fun h => absurd h.s1 (by omega)⟩
  rw [if_neg (cf h1)]
  by_cases h2 : st > 2000
  · rw [if_pos (ct h2)]; exact ⟨false, rfl, fun h => (by cases h), fun h => absurd h.s2 (by omega)⟩
  rw [if_neg (cf h2)]
  by_cases h3 : start < 0
  · rw [if_pos (ct h3)]; exact ⟨false, rfl, fun h => (by cases h), fun h => absurd h.b0 (by omega)⟩
  rw [if_neg (cf h3)]
  by_cases h4 : start ≥ st
  · rw [if_pos (ct h4)]; exact ⟨false, rfl, fun h => (by cases h), fun h => absurd h.b1 (by omega)⟩
  rw [if_neg (cf h4)]
  by_cases h5 : ¬ (acc.length : Int) = st
  · rw [if_pos (cnt h5)]; exact ⟨false, rfl, fun h => (by cases h), fun h => absurd h.al h5⟩
  replace h5 := Classical.not_not.1 h5
  rw [if_neg (cnf h5)]
  -- the accepted numbers
  let S4 : Nat → ((Unit × (Int) × Unit) × (((Int) × (Int) × (List ((Int) × ((Int) × ((Bool) × ((List (Int)) × (Unit)))))) × (List (Int)) × Unit) × Unit)) := fun i => (((), (i : Int), ()), ((st, start, arcs, acc, ()), ()))
  have hs4 : ∀ i, i < acc.length → -1 ≤ acc.getD i 0 → ∀ n, L45_4 (n + 1) (S4 i) = L45_4 n (S4 (i + 1)) := by
    intro i hi h n
    simp only [S4, L45_4, Int.toNat_natCast]
    rw [if_pos (lt_nat hi), if_pos (in_range hi), if_neg (cf (by omega)), wrap_nat (by omega)]
  rcases (all_or_first acc.length (fun i => -1 ≤ acc.getD i 0)).symm with ⟨i, hi, g1, g2⟩ | hac
  · have hlim := for_rule (L := L45_4) (N := i) (S := S4) (r := .inl ((false, ()), ())) (fun j hj => hs4 j (by omega) (g2 j hj)) (fun n => by
      simp only [S4, L45_4, Int.toNat_natCast]
      rw [if_pos (lt_nat hi), if_pos (in_range hi), if_pos (ct (by omega))]) (by omega)
    simp only [S4] at hlim
    rw [show ((0 : Nat) : Int) = 0 from rfl] at hlim
    rw [hlim]
    exact ⟨false, rfl, fun h => (by cases h), fun h => absurd (h.ac i hi) g1⟩
  have hlim := for_rule (L := L45_4) (N := acc.length) (S := S4) (r := .inr (((), ()), ((st, start, arcs, acc, ()), ()))) (fun j hj => hs4 j hj (hac j hj)) (fun n => by
    simp only [S4, L45_4]; rw [if_neg nlt_nat]) (by omega)
  simp only [S4] at hlim
  rw [show ((0 : Nat) : Int) = 0 from rfl] at hlim
  rw [hlim]
  simp only [Option.bind_some, Sum.elim_inr]
  -- the arcs
  let S9 : Nat → ((Unit × (Int) × Unit) × (((Int) × (Int) × (List ((Int) × ((Int) × ((Bool) × ((List (Int)) × (Unit)))))) × (List (Int)) × Unit) × Unit)) := fun i => (((), (i : Int), ()), ((st, start, arcs, acc, ()), ()))
  have hs9 : ∀ i, i < arcs.length → ArcOk st (arcs.getD i ad) → ∀ n, L45_9 (n + 1) (S9 i) = L45_9 n (S9 (i + 1)) := by
    intro i hi ⟨a1, a2, a3, a4, a5⟩ n
    simp only [S9, L45_9, Int.toNat_natCast]
    rw [e_ad]
    rw [if_pos (lt_nat hi), if_pos (in_range hi), if_neg (cf (by omega)), if_neg (cf (by omega)), if_neg (cf (by omega)), if_neg (cf (by omega)), wrap_nat (by omega)]
    by_cases he : (arcs.getD i ad).2.2.1 = true
    · rw [if_pos he, if_neg (show ¬ (!isZero4 (setOf (arcs.getD i ad))) = true by rw [a5 he]; exact ntf)]
    · rw [if_neg he]
  rcases all_or_first arcs.length (fun i => ArcOk st (arcs.getD i ad)) with har | ⟨i, hi, g1, g2⟩
  · have hlim := for_rule (L := L45_9) (N := arcs.length) (S := S9) (r := .inr ((), ())) (fun j hj => hs9 j hj (har j hj)) (fun n => by simp only [S9, L45_9]; rw [if_neg nlt_nat]) (by omega)
    simp only [S9] at hlim
    rw [show ((0 : Nat) : Int) = 0 from rfl] at hlim
    rw [hlim]
    exact ⟨true, rfl, fun _ => ⟨by omega, by omega, by omega, by omega, h5, har, hac⟩, fun _ => rfl⟩
  · have hlim := for_rule (L := L45_9) (N := i) (S := S9) (r := .inl ((false, ()), ())) (fun j hj => hs9 j (by omega) (g2 j hj)) (fun n => by
      simp only [S9, L45_9, Int.toNat_natCast]
      rw [e_ad]
      rw [if_pos (lt_nat hi), if_pos (in_range hi)]
      by_cases a1 : (arcs.getD i ad).1 < 0
      · rw [if_pos (ct a1)]
      rw [if_neg (cf a1)]
      by_cases a2 : (arcs.getD i ad).1 ≥ st
      · rw [if_pos (ct a2)]
      rw [if_neg (cf a2)]
      by_cases a3 : (arcs.getD i ad).2.1 < 0
      · rw [if_pos (ct a3)]
      rw [if_neg (cf a3)]
      by_cases a4 : (arcs.getD i ad).2.1 ≥ st
      · rw [if_pos (ct a4)]
      rw [if_neg (cf a4)]
      by_cases he : (arcs.getD i ad).2.2.1 = true
      · rw [if_pos he]
        cases hz : isZero4 (setOf (arcs.getD i ad)) with
        | true => exact absurd ⟨by omega, by omega, by omega, by omega, fun _ => hz⟩ g1
        | false => rw [if_pos (show (!isZero4 (setOf (arcs.getD i ad))) = true by rw [hz]; rfl)]
      · exact absurd ⟨by omega, by omega, by omega, by omega, fun h => absurd h he⟩ g1) (by omega)
    simp only [S9] at hlim
    rw [show ((0 : Nat) : Int) = 0 from rfl] at hlim
    rw [hlim]
    exact ⟨false, rfl, fun h => (by cases h), fun h => absurd (h.ar i hi) g1⟩

theorem p39_spec {st start : Int} {arcs : List Arc} {acc : List Int} (hl : arcs.length ≤ 9223372036854775807) :
    ∃ b, p39 ((st, (start, (arcs, (acc, ())))), ()) = some b ∧ (b = true ↔ VNfa st start arcs acc) := by
  simp only [p39]
  by_cases h1 : st < 1
  · rw [if_pos (ct h1)]; exact ⟨false, rfl, fun h => (by cases h), fun h => absurd h.s1 (by omega)⟩
  rw [if_neg (cf h1)]
  by_cases h2 : st > 2000
  · rw [if_pos (ct h2)]; exact ⟨false, rfl, fun h => (by cases h), fun h => absurd h.s2 (by omega)⟩
  rw [if_neg (cf h2)]
  by_cases h3 : ¬ start ≥ 0
  · rw [if_neg (cf h3)]; exact ⟨false, rfl, fun h => (by cases h), fun h => absurd h.b0 (by omega)⟩
  replace h3 := Classical.not_not.1 h3
  rw [if_pos (ct h3)]
  by_cases h4 : ¬ start < st
  · rw [if_pos (cnt h4)]; exact ⟨false, rfl, fun h => (by cases h), fun h => absurd h.b1 (by omega)⟩
  replace h4 := Classical.not_not.1 h4
  rw [if_neg (cnf h4)]
  by_cases h5 : ¬ (acc.length : Int) = st
  · rw [if_pos (cnt h5)]; exact ⟨false, rfl, fun h => (by cases h), fun h => absurd h.al h5⟩
  replace h5 := Classical.not_not.1 h5
  rw [if_neg (cnf h5)]
  -- the arcs
  let S9 : Nat → ((Unit × Unit × (List ((Int) × ((Int) × ((Bool) × ((List (Int)) × (Unit)))))) × (Int) × (Int) × Unit) × (((Int) × (Int) × (List ((Int) × ((Int) × ((Bool) × ((List (Int)) × (Unit)))))) × (List (Int)) × Unit) × Unit)) := fun i => (((), (), arcs, (arcs.length : Int), (i : Int), ()), ((st, start, arcs, acc, ()), ()))
  have hs9 : ∀ i, i < arcs.length → ArcOk st (arcs.getD i ad) → ∀ n, L39_5 (n + 1) (S9 i) = L39_5 n (S9 (i + 1)) := by
    intro i hi ⟨a1, a2, a3, a4, a5⟩ n
    simp only [S9, L39_5, Int.toNat_natCast]
    rw [e_ad]
    rw [if_pos (lt_nat hi), if_pos (in_range hi), if_pos (ct (by omega)), if_neg (cnf (by omega)), if_pos (ct (by omega)), if_neg (cnf (by omega)), wrap_nat (by omega)]
    by_cases he : (arcs.getD i ad).2.2.1 = true
    · rw [if_pos he, if_neg (show ¬ (!isZero4 (setOf (arcs.getD i ad))) = true by rw [a5 he]; exact ntf)]
    · rw [if_neg he]
  rcases (all_or_first arcs.length (fun i => ArcOk st (arcs.getD i ad))).symm with ⟨i, hi, g1, g2⟩ | har
  · have hlim := for_rule (L := L39_5) (N := i) (S := S9) (r := .inl ((false, ()), ())) (fun j hj => hs9 j (by omega) (g2 j hj)) (fun n => by
      simp only [S9, L39_5, Int.toNat_natCast]
      rw [e_ad]
      rw [if_pos (lt_nat hi), if_pos (in_range hi)]
      by_cases a1 : (arcs.getD i ad).1 ≥ 0
      · rw [if_pos (ct a1)]
        by_cases a2 : (arcs.getD i ad).1 < st
        · rw [if_neg (cnf a2)]
          by_cases a3 : (arcs.getD i ad).2.1 ≥ 0
          · rw [if_pos (ct a3)]
            by_cases a4 : (arcs.getD i ad).2.1 < st
            · rw [if_neg (cnf a4)]
              by_cases he : (arcs.getD i ad).2.2.1 = true
              · rw [if_pos he]
                cases hz : isZero4 (setOf (arcs.getD i ad)) with
                | true => exact absurd ⟨by omega, by omega, by omega, by omega, fun _ => hz⟩ g1
                | false => rw [if_pos (show (!isZero4 (setOf (arcs.getD i ad))) = true by rw [hz]; rfl)]
              · exact absurd ⟨by omega, by omega, by omega, by omega, fun h => absurd h he⟩ g1
            · rw [if_pos (cnt a4)]
          · rw [if_neg (cf a3)]
        · rw [if_pos (cnt a2)]
      · rw [if_neg (cf a1)]) (by omega)
    simp only [S9] at hlim
    rw [show ((0 : Nat) : Int) = 0 from rfl] at hlim
    rw [hlim]
    exact ⟨false, rfl, fun h => (by cases h), fun h => absurd (h.ar i hi) g1⟩
  have hlim := for_rule (L := L39_5) (N := arcs.length) (S := S9) (r := .inr (((), ()), ((st, start, arcs, acc, ()), ()))) (fun j hj => hs9 j hj (har j hj)) (fun n => by simp only [S9, L39_5]; rw [if_neg nlt_nat]) (by omega)
  simp only [S9] at hlim
  rw [show ((0 : Nat) : Int) = 0 from rfl] at hlim
  rw [hlim]
  simp only [Option.bind_some, Sum.elim_inr]
  -- the accepted numbers
  let S4 : Nat → (((List (Int)) × Unit × (Int) × (Int) × Unit) × (((Int) × (Int) × (List ((Int) × ((Int) × ((Bool) × ((List (Int)) × (Unit)))))) × (List (Int)) × Unit) × Unit)) := fun i => ((acc, (), (acc.length : Int), (i : Int), ()), ((st, start, arcs, acc, ()), ()))
  have hs4 : ∀ i, i < acc.length → -1 ≤ acc.getD i 0 → ∀ n, L54_27_39_2 (n + 1) (S4 i) = L54_27_39_2 n (S4 (i + 1)) := by
    intro i hi h n
    simp only [S4, L54_27_39_2, Int.toNat_natCast, p59, Option.bind_some]
    rw [if_pos (lt_nat hi), if_pos (in_range hi), if_neg (cf (by omega)), wrap_nat (by omega)]
  rcases all_or_first acc.length (fun i => -1 ≤ acc.getD i 0) with hac | ⟨i, hi, g1, g2⟩
  · have hlim := for_rule (L := L54_27_39_2) (N := acc.length) (S := S4) (r := .inr ((), ((st, start, arcs, acc, ()), ()))) (fun j hj => hs4 j hj (hac j hj)) (fun n => by
      simp only [S4, L54_27_39_2]; rw [if_neg nlt_nat]) (by omega)
    simp only [S4] at hlim
    rw [show ((0 : Nat) : Int) = 0 from rfl] at hlim
    rw [hlim]
    exact ⟨true, rfl, fun _ => ⟨by omega, by omega, by omega, by omega, h5, har, hac⟩, fun _ => rfl⟩
  · have hlim := for_rule (L := L54_27_39_2) (N := i) (S := S4) (r := .inl (((i : Int), ()), ((st, start, arcs, acc, ()), ()))) (fun j hj => hs4 j (by omega) (g2 j hj)) (fun n => by
      simp only [S4, L54_27_39_2, Int.toNat_natCast, p59, Option.bind_some]
      rw [if_pos (lt_nat hi), if_pos (in_range hi), if_pos (ct (by omega))]) (by omega)
    simp only [S4] at hlim
    rw [show ((0 : Nat) : Int) = 0 from rfl] at hlim
    rw [hlim]
    refine ⟨false, ?_, fun h => (by cases h), fun h => absurd (h.ac i hi) g1⟩
    simp
end Go.AM

/- Copies of the pure forms that the kernel can run. -/
namespace Go.AM
open Go

noncomputable def fp60 : ((List (Int)) × (Int) × Unit) → Option (Bool)
  | (x0, x1, ()) =>
    if decide ((64 : Int) = 0) = true then
      none
    else
      if decide (0 ≤ (IntKind.u8.wrap (x1.tdiv (64 : Int))) ∧ (IntKind.u8.wrap (x1.tdiv (64 : Int))) < (4 : Int)) = true then
        if decide ((64 : Int) = 0) = true then
          none
        else
          if decide (0 ≤ (x1.tmod (64 : Int))) = true then
            some (decide ((IntKind.u64.wrap ((BitVec.ofInt (IntKind.u64.bits) (([(x0.getD 0 0), (x0.getD 1 0), (x0.getD 2 0), (x0.getD 3 0)].getD (IntKind.u8.wrap (x1.tdiv (64 : Int))).toNat 0).fdiv (2 ^ (min (x1.tmod (64 : Int)).toNat (IntKind.u64.bits)))) &&& BitVec.ofInt (IntKind.u64.bits) (1 : Int)).toNat : Nat)) = (1 : Int)))
          else
            none
      else
        none

theorem ep60 : p60 = fp60 := by
  funext x
  obtain ⟨x0, x1, ⟨⟩⟩ := x
  simp only [p60, fp60]

noncomputable def fp59 : ((Int) × Unit) → Option (Bool)
  | (x0, ()) =>
    some (decide (x0 < (-1 : Int)))

theorem ep59 : p59 = fp59 := by
  funext x
  obtain ⟨x0, ⟨⟩⟩ := x
  simp only [p59, fp59]

noncomputable def fL39_5 : Nat → ((Unit × Unit × (List ((Int) × ((Int) × ((Bool) × ((List (Int)) × (Unit)))))) × (Int) × (Int) × Unit) × (((Int) × (Int) × (List ((Int) × ((Int) × ((Bool) × ((List (Int)) × (Unit)))))) × (List (Int)) × Unit) × Unit)) → Option ((((Bool) × Unit) × (Unit)) ⊕ ((Unit × Unit) × (((Int) × (Int) × (List ((Int) × ((Int) × ((Bool) × ((List (Int)) × (Unit)))))) × (List (Int)) × Unit) × Unit)))
  | 0, _ => none
  | n + 1, ((_, _, x31, x32, x33, ()), (y1, ())) =>
    if (decide (x33 < x32)) = true then
      if decide (0 ≤ x33 ∧ x33 < (x31.length : Int)) = true then
        if (decide ((x31.getD x33.toNat (0, (0, (false, ((List.replicate 4 0), ()))))).1 ≥ (0 : Int))) = true then
          if (!(decide ((x31.getD x33.toNat (0, (0, (false, ((List.replicate 4 0), ()))))).1 < y1.1))) = true then
            some (.inl ((false, ()), ()))
          else
            if (decide ((x31.getD x33.toNat (0, (0, (false, ((List.replicate 4 0), ()))))).2.1 ≥ (0 : Int))) = true then
              if (!(decide ((x31.getD x33.toNat (0, (0, (false, ((List.replicate 4 0), ()))))).2.1 < y1.1))) = true then
                some (.inl ((false, ()), ()))
              else
                if (x31.getD x33.toNat (0, (0, (false, ((List.replicate 4 0), ()))))).2.2.1 = true then
                  if (!(Kind.eqB (.arr 4 (.int .u64)) [((x31.getD x33.toNat (0, (0, (false, ((List.replicate 4 0), ()))))).2.2.2.1.getD 0 0), ((x31.getD x33.toNat (0, (0, (false, ((List.replicate 4 0), ()))))).2.2.2.1.getD 1 0), ((x31.getD x33.toNat (0, (0, (false, ((List.replicate 4 0), ()))))).2.2.2.1.getD 2 0), ((x31.getD x33.toNat (0, (0, (false, ((List.replicate 4 0), ()))))).2.2.2.1.getD 3 0)] [(0 : Int), (0 : Int), (0 : Int), (0 : Int)])) = true then
                    some (.inl ((false, ()), ()))
                  else
                    fL39_5 n (((), (), x31, x32, (IntKind.i64.wrap (x33 + (1 : Int))), ()), ((y1.1, y1.2.1, y1.2.2.1, y1.2.2.2.1, ()), ()))
                else
                  fL39_5 n (((), (), x31, x32, (IntKind.i64.wrap (x33 + (1 : Int))), ()), ((y1.1, y1.2.1, y1.2.2.1, y1.2.2.2.1, ()), ()))
            else
              some (.inl ((false, ()), ()))
        else
          some (.inl ((false, ()), ()))
      else
        none
    else
      some (.inr (((), ()), ((y1.1, y1.2.1, y1.2.2.1, y1.2.2.2.1, ()), ())))

theorem eL39_5 : ∀ n x, L39_5 n x = fL39_5 n x := by
  intro n
  induction n with
  | zero => intro x; rfl
  | succ n ih =>
    intro x
    obtain ⟨⟨z1, z2, x31, x32, x33, ⟨⟩⟩, ⟨y1, ⟨⟩⟩⟩ := x
    simp only [L39_5, fL39_5, ih]

noncomputable def fL54_27_39_2 : Nat → (((List (Int)) × Unit × (Int) × (Int) × Unit) × (((Int) × (Int) × (List ((Int) × ((Int) × ((Bool) × ((List (Int)) × (Unit)))))) × (List (Int)) × Unit) × Unit)) → Option ((((Int) × Unit) × (((Int) × (Int) × (List ((Int) × ((Int) × ((Bool) × ((List (Int)) × (Unit)))))) × (List (Int)) × Unit) × Unit)) ⊕ ((Unit) × (((Int) × (Int) × (List ((Int) × ((Int) × ((Bool) × ((List (Int)) × (Unit)))))) × (List (Int)) × Unit) × Unit)))
  | 0, _ => none
  | n + 1, ((x0, _, x7, x8, ()), (y1, ())) =>
    if (decide (x8 < x7)) = true then
      if decide (0 ≤ x8 ∧ x8 < (x0.length : Int)) = true then
        (fp59 ((x0.getD x8.toNat 0), ())).bind fun c1 =>
        if c1 = true then
          some (.inl ((x8, ()), ((y1.1, y1.2.1, y1.2.2.1, y1.2.2.2.1, ()), ())))
        else
          fL54_27_39_2 n ((x0, (), x7, (IntKind.i64.wrap (x8 + (1 : Int))), ()), ((y1.1, y1.2.1, y1.2.2.1, y1.2.2.2.1, ()), ()))
      else
        none
    else
      some (.inr ((), ((y1.1, y1.2.1, y1.2.2.1, y1.2.2.2.1, ()), ())))

theorem eL54_27_39_2 : ∀ n x, L54_27_39_2 n x = fL54_27_39_2 n x := by
  intro n
  induction n with
  | zero => intro x; rfl
  | succ n ih =>
    intro x
    obtain ⟨⟨x0, z1, x7, x8, ⟨⟩⟩, ⟨y1, ⟨⟩⟩⟩ := x
    simp only [L54_27_39_2, fL54_27_39_2, ih, ep59]

noncomputable def fp39 : (((Int) × ((Int) × ((List ((Int) × ((Int) × ((Bool) × ((List (Int)) × (Unit)))))) × ((List (Int)) × (Unit))))) × Unit) → Option (Bool)
  | (x0, ()) =>
    if (decide (x0.1 < (1 : Int))) = true then
      some false
    else
      if (decide (x0.1 > (2000 : Int))) = true then
        some false
      else
        if (decide (x0.2.1 ≥ (0 : Int))) = true then
          if (!(decide (x0.2.1 < x0.1))) = true then
            some false
          else
            if (!decide ((x0.2.2.2.1.length : Int) = x0.1)) = true then
              some false
            else
              (flimit fL39_5 (((), (), x0.2.2.1, (x0.2.2.1.length : Int), (0 : Int), ()), ((x0.1, x0.2.1, x0.2.2.1, x0.2.2.2.1, ()), ()))).bind (Sum.elim (fun r1 =>
                some r1.1.1) (fun r1 =>
                (flimit fL54_27_39_2 ((r1.2.1.2.2.2.1, (), (r1.2.1.2.2.2.1.length : Int), (0 : Int), ()), ((r1.2.1.1, r1.2.1.2.1, r1.2.1.2.2.1, r1.2.1.2.2.2.1, ()), ()))).bind (Sum.elim (fun r2 =>
                  some (!(decide (r2.1.1 ≥ (0 : Int))))) (fun _ =>
                  some (!(decide ((-1 : Int) ≥ (0 : Int))))))))
        else
          some false

theorem ep39 : p39 = fp39 := by
  funext x
  obtain ⟨x0, ⟨⟩⟩ := x
  simp only [p39, fp39, limit_flimit eL39_5, limit_flimit eL54_27_39_2]

noncomputable def fL41_5 : Nat → ((Unit × Unit × Unit × Unit × (List (Int)) × (Int) × (Int) × Unit) × (((Int) × (Int) × (List ((Int) × ((Int) × ((Bool) × ((List (Int)) × (Unit)))))) × (List (Int)) × Unit) × (Unit × Unit) × (Unit × Unit) × (List (Bool)) × (List (Int)) × Unit)) → Option ((Unit × Unit × Unit × Unit × Unit) × (((Int) × (Int) × (List ((Int) × ((Int) × ((Bool) × ((List (Int)) × (Unit)))))) × (List (Int)) × Unit) × (Unit × Unit) × (Unit × Unit) × (List (Bool)) × (List (Int)) × Unit))
  | 0, _ => none
  | n + 1, ((_, _, _, _, x17, x18, x19, ()), (y2, _, _, y15, y306, ())) =>
    if (decide (x19 < x18)) = true then
      if decide (0 ≤ x19 ∧ x19 < (x17.length : Int)) = true then
        if (decide ((x17.getD x19.toNat 0) ≥ (0 : Int))) = true then
          if (decide ((x17.getD x19.toNat 0) < y2.1)) = true then
            if decide (0 ≤ (x17.getD x19.toNat 0) ∧ (x17.getD x19.toNat 0) < (y15.length : Int)) = true then
              if (!(y15.getD (x17.getD x19.toNat 0).toNat false)) = true then
                if decide (0 ≤ (x17.getD x19.toNat 0) ∧ (x17.getD x19.toNat 0) < (y15.length : Int)) = true then
                  if decide (y306.length + ([(x17.getD x19.toNat 0)] : List (Int)).length ≤ lim) = true then
                    fL41_5 n (((), (), (), (), x17, x18, (IntKind.i64.wrap (x19 + (1 : Int))), ()), ((y2.1, y2.2.1, y2.2.2.1, y2.2.2.2.1, ()), ((), ()), ((), ()), (y15.set (x17.getD x19.toNat 0).toNat true), (y306 ++ ([(x17.getD x19.toNat 0)] : List (Int))), ()))
                  else
                    none
                else
                  none
              else
                fL41_5 n (((), (), (), (), x17, x18, (IntKind.i64.wrap (x19 + (1 : Int))), ()), ((y2.1, y2.2.1, y2.2.2.1, y2.2.2.2.1, ()), ((), ()), ((), ()), y15, y306, ()))
            else
              none
          else
            fL41_5 n (((), (), (), (), x17, x18, (IntKind.i64.wrap (x19 + (1 : Int))), ()), ((y2.1, y2.2.1, y2.2.2.1, y2.2.2.2.1, ()), ((), ()), ((), ()), y15, y306, ()))
        else
          fL41_5 n (((), (), (), (), x17, x18, (IntKind.i64.wrap (x19 + (1 : Int))), ()), ((y2.1, y2.2.1, y2.2.2.1, y2.2.2.2.1, ()), ((), ()), ((), ()), y15, y306, ()))
      else
        none
    else
      some (((), (), (), (), ()), ((y2.1, y2.2.1, y2.2.2.1, y2.2.2.2.1, ()), ((), ()), ((), ()), y15, y306, ()))

theorem eL41_5 : ∀ n x, L41_5 n x = fL41_5 n x := by
  intro n
  induction n with
  | zero => intro x; rfl
  | succ n ih =>
    intro x
    obtain ⟨⟨z1, z2, z3, z4, x17, x18, x19, ⟨⟩⟩, ⟨y2, z5, z6, y15, y306, ⟨⟩⟩⟩ := x
    simp only [L41_5, fL41_5, ih]

noncomputable def fL41_13 : Nat → ((Unit × Unit × Unit × Unit × (Int) × (List ((Int) × ((Int) × ((Bool) × ((List (Int)) × (Unit)))))) × (Int) × (Int) × Unit) × (((Int) × (Int) × (List ((Int) × ((Int) × ((Bool) × ((List (Int)) × (Unit)))))) × (List (Int)) × Unit) × (Unit × Unit) × (Unit × Unit) × (List (Bool)) × (List (Int)) × Unit)) → Option ((Unit × Unit × Unit × Unit × Unit) × (((Int) × (Int) × (List ((Int) × ((Int) × ((Bool) × ((List (Int)) × (Unit)))))) × (List (Int)) × Unit) × (Unit × Unit) × (Unit × Unit) × (List (Bool)) × (List (Int)) × Unit))
  | 0, _ => none
  | n + 1, ((_, _, _, _, x10, x42, x43, x44, ()), (y2, _, _, y15, y306, ())) =>
    if (decide (x44 < x43)) = true then
      if decide (0 ≤ x44 ∧ x44 < (x42.length : Int)) = true then
        if (x42.getD x44.toNat (0, (0, (false, ((List.replicate 4 0), ()))))).2.2.1 = true then
          if (decide ((x42.getD x44.toNat (0, (0, (false, ((List.replicate 4 0), ()))))).1 = x10)) = true then
            if (decide ((x42.getD x44.toNat (0, (0, (false, ((List.replicate 4 0), ()))))).2.1 ≥ (0 : Int))) = true then
              if (decide ((x42.getD x44.toNat (0, (0, (false, ((List.replicate 4 0), ()))))).2.1 < y2.1)) = true then
                if decide (0 ≤ (x42.getD x44.toNat (0, (0, (false, ((List.replicate 4 0), ()))))).2.1 ∧ (x42.getD x44.toNat (0, (0, (false, ((List.replicate 4 0), ()))))).2.1 < (y15.length : Int)) = true then
                  if (!(y15.getD (x42.getD x44.toNat (0, (0, (false, ((List.replicate 4 0), ()))))).2.1.toNat false)) = true then
                    if decide (0 ≤ (x42.getD x44.toNat (0, (0, (false, ((List.replicate 4 0), ()))))).2.1 ∧ (x42.getD x44.toNat (0, (0, (false, ((List.replicate 4 0), ()))))).2.1 < (y15.length : Int)) = true then
                      if decide (y306.length + ([(x42.getD x44.toNat (0, (0, (false, ((List.replicate 4 0), ()))))).2.1] : List (Int)).length ≤ lim) = true then
                        fL41_13 n (((), (), (), (), x10, x42, x43, (IntKind.i64.wrap (x44 + (1 : Int))), ()), ((y2.1, y2.2.1, y2.2.2.1, y2.2.2.2.1, ()), ((), ()), ((), ()), (y15.set (x42.getD x44.toNat (0, (0, (false, ((List.replicate 4 0), ()))))).2.1.toNat true), (y306 ++ ([(x42.getD x44.toNat (0, (0, (false, ((List.replicate 4 0), ()))))).2.1] : List (Int))), ()))
                      else
                        none
                    else
                      none
                  else
                    fL41_13 n (((), (), (), (), x10, x42, x43, (IntKind.i64.wrap (x44 + (1 : Int))), ()), ((y2.1, y2.2.1, y2.2.2.1, y2.2.2.2.1, ()), ((), ()), ((), ()), y15, y306, ()))
                else
                  none
              else
                fL41_13 n (((), (), (), (), x10, x42, x43, (IntKind.i64.wrap (x44 + (1 : Int))), ()), ((y2.1, y2.2.1, y2.2.2.1, y2.2.2.2.1, ()), ((), ()), ((), ()), y15, y306, ()))
            else
              fL41_13 n (((), (), (), (), x10, x42, x43, (IntKind.i64.wrap (x44 + (1 : Int))), ()), ((y2.1, y2.2.1, y2.2.2.1, y2.2.2.2.1, ()), ((), ()), ((), ()), y15, y306, ()))
          else
            fL41_13 n (((), (), (), (), x10, x42, x43, (IntKind.i64.wrap (x44 + (1 : Int))), ()), ((y2.1, y2.2.1, y2.2.2.1, y2.2.2.2.1, ()), ((), ()), ((), ()), y15, y306, ()))
        else
          fL41_13 n (((), (), (), (), x10, x42, x43, (IntKind.i64.wrap (x44 + (1 : Int))), ()), ((y2.1, y2.2.1, y2.2.2.1, y2.2.2.2.1, ()), ((), ()), ((), ()), y15, y306, ()))
      else
        none
    else
      some (((), (), (), (), ()), ((y2.1, y2.2.1, y2.2.2.1, y2.2.2.2.1, ()), ((), ()), ((), ()), y15, y306, ()))

theorem eL41_13 : ∀ n x, L41_13 n x = fL41_13 n x := by
  intro n
  induction n with
  | zero => intro x; rfl
  | succ n ih =>
    intro x
    obtain ⟨⟨z1, z2, z3, z4, x10, x42, x43, x44, ⟨⟩⟩, ⟨y2, z5, z6, y15, y306, ⟨⟩⟩⟩ := x
    simp only [L41_13, fL41_13, ih]

noncomputable def fL41_9 : Nat → ((Unit × Unit × Unit × Unit × Unit) × (((Int) × (Int) × (List ((Int) × ((Int) × ((Bool) × ((List (Int)) × (Unit)))))) × (List (Int)) × Unit) × (Unit × Unit) × (Unit × Unit) × (List (Bool)) × (List (Int)) × Unit)) → Option ((Unit × Unit) × ((Unit × Unit) × (List (Bool)) × Unit))
  | 0, _ => none
  | n + 1, ((_, _, _, _, ()), (y2, _, _, y15, y306, ())) =>
    if (decide ((y306.length : Int) > (0 : Int))) = true then
      if decide (0 ≤ (IntKind.i64.wrap ((y306.length : Int) - (1 : Int))) ∧ (IntKind.i64.wrap ((y306.length : Int) - (1 : Int))) < (y306.length : Int)) = true then
        if decide (0 ≤ (IntKind.i64.wrap ((y306.length : Int) - (1 : Int))) ∧ (IntKind.i64.wrap ((y306.length : Int) - (1 : Int))) ≤ (y306.length : Int)) = true then
          (flimit fL41_13 (((), (), (), (), (y306.getD (IntKind.i64.wrap ((y306.length : Int) - (1 : Int))).toNat 0), y2.2.2.1, (y2.2.2.1.length : Int), (0 : Int), ()), ((y2.1, y2.2.1, y2.2.2.1, y2.2.2.2.1, ()), ((), ()), ((), ()), y15, (y306.take (IntKind.i64.wrap ((y306.length : Int) - (1 : Int))).toNat), ()))).bind fun r1 =>
          fL41_9 n (((), (), (), (), ()), ((r1.2.1.1, r1.2.1.2.1, r1.2.1.2.2.1, r1.2.1.2.2.2.1, ()), ((), ()), ((), ()), r1.2.2.2.2.1, r1.2.2.2.2.2.1, ()))
        else
          none
      else
        none
    else
      some (((), ()), (((), ()), y15, ()))

theorem eL41_9 : ∀ n x, L41_9 n x = fL41_9 n x := by
  intro n
  induction n with
  | zero => intro x; rfl
  | succ n ih =>
    intro x
    obtain ⟨⟨z1, z2, z3, z4, ⟨⟩⟩, ⟨y2, z5, z6, y15, y306, ⟨⟩⟩⟩ := x
    simp only [L41_9, fL41_9, ih, limit_flimit eL41_13]

noncomputable def fL62_41_3 : Nat → ((Unit × Unit × (Int) × (Int) × Unit) × ((Unit × Unit) × (List (Bool)) × (List (Int)) × Unit)) → Option ((Unit × Unit) × ((Unit × Unit) × (List (Bool)) × (List (Int)) × Unit))
  | 0, _ => none
  | n + 1, ((_, _, x7, x8, ()), (_, y15, y1003, ())) =>
    if (decide (x8 < x7)) = true then
      if decide (0 ≤ x8 ∧ x8 < (y15.length : Int)) = true then
        if (y15.getD x8.toNat false) = true then
          if decide (y1003.length + ([x8] : List (Int)).length ≤ lim) = true then
            fL62_41_3 n (((), (), x7, (IntKind.i64.wrap (x8 + (1 : Int))), ()), (((), ()), y15, (y1003 ++ ([x8] : List (Int))), ()))
          else
            none
        else
          fL62_41_3 n (((), (), x7, (IntKind.i64.wrap (x8 + (1 : Int))), ()), (((), ()), y15, y1003, ()))
      else
        none
    else
      some (((), ()), (((), ()), y15, y1003, ()))

theorem eL62_41_3 : ∀ n x, L62_41_3 n x = fL62_41_3 n x := by
  intro n
  induction n with
  | zero => intro x; rfl
  | succ n ih =>
    intro x
    obtain ⟨⟨z1, z2, x7, x8, ⟨⟩⟩, ⟨z3, y15, y1003, ⟨⟩⟩⟩ := x
    simp only [L62_41_3, fL62_41_3, ih]

noncomputable def fp41 : (((Int) × ((Int) × ((List ((Int) × ((Int) × ((Bool) × ((List (Int)) × (Unit)))))) × ((List (Int)) × (Unit))))) × (List (Int)) × Unit) → Option (List (Int))
  | (x0, x1, ()) =>
    if decide (x0.1 = x0.1 ∧ 0 ≤ x0.1 ∧ x0.1 ≤ (lim : Int)) = true then
      (flimit fL41_5 (((), (), (), (), x1, (x1.length : Int), (0 : Int), ()), ((x0.1, x0.2.1, x0.2.2.1, x0.2.2.2.1, ()), ((), ()), ((), ()), (List.replicate x0.1.toNat false), ([] : List (Int)), ()))).bind fun r1 =>
      (flimit fL41_9 (((), (), (), (), ()), ((r1.2.1.1, r1.2.1.2.1, r1.2.1.2.2.1, r1.2.1.2.2.2.1, ()), ((), ()), ((), ()), r1.2.2.2.2.1, r1.2.2.2.2.2.1, ()))).bind fun r2 =>
      (flimit fL62_41_3 (((), (), (r2.2.2.1.length : Int), (0 : Int), ()), (((), ()), r2.2.2.1, ([] : List (Int)), ()))).bind fun r3 =>
      some r3.2.2.2.1
    else
      none

theorem ep41 : p41 = fp41 := by
  funext x
  obtain ⟨x0, x1, ⟨⟩⟩ := x
  simp only [p41, fp41, limit_flimit eL41_5, limit_flimit eL41_9, limit_flimit eL62_41_3]

noncomputable def fL43_3 : Nat → (((Int) × Unit × Unit × (List (Int)) × (Int) × (Int) × Unit) × (((Int) × (Int) × (List ((Int) × ((Int) × ((Bool) × ((List (Int)) × (Unit)))))) × (List (Int)) × Unit) × (List (Bool)) × Unit)) → Option (((Int) × Unit × Unit × Unit) × (((Int) × (Int) × (List ((Int) × ((Int) × ((Bool) × ((List (Int)) × (Unit)))))) × (List (Int)) × Unit) × (List (Bool)) × Unit))
  | 0, _ => none
  | n + 1, ((x2, _, _, x18, x19, x20, ()), (y3, y15, ())) =>
    if (decide (x20 < x19)) = true then
      if decide (0 ≤ x20 ∧ x20 < (x18.length : Int)) = true then
        if decide (0 ≤ (x18.getD x20.toNat 0) ∧ (x18.getD x20.toNat 0) < (y15.length : Int)) = true then
          fL43_3 n ((x2, (), (), x18, x19, (IntKind.i64.wrap (x20 + (1 : Int))), ()), ((y3.1, y3.2.1, y3.2.2.1, y3.2.2.2.1, ()), (y15.set (x18.getD x20.toNat 0).toNat true), ()))
        else
          none
      else
        none
    else
      some ((x2, (), (), ()), ((y3.1, y3.2.1, y3.2.2.1, y3.2.2.2.1, ()), y15, ()))

theorem eL43_3 : ∀ n x, L43_3 n x = fL43_3 n x := by
  intro n
  induction n with
  | zero => intro x; rfl
  | succ n ih =>
    intro x
    obtain ⟨⟨x2, z1, z2, x18, x19, x20, ⟨⟩⟩, ⟨y3, y15, ⟨⟩⟩⟩ := x
    simp only [L43_3, fL43_3, ih]

noncomputable def fL43_9 : Nat → (((Int) × Unit × Unit × Unit × (List ((Int) × ((Int) × ((Bool) × ((List (Int)) × (Unit)))))) × (Int) × (Int) × Unit) × (((Int) × (Int) × (List ((Int) × ((Int) × ((Bool) × ((List (Int)) × (Unit)))))) × (List (Int)) × Unit) × (List (Int)) × (List (Bool)) × Unit)) → Option ((Unit × Unit × Unit) × (((Int) × (Int) × (List ((Int) × ((Int) × ((Bool) × ((List (Int)) × (Unit)))))) × (List (Int)) × Unit) × (List (Int)) × Unit))
  | 0, _ => none
  | n + 1, ((x2, _, _, _, x29, x30, x31, ()), (y3, y10, y15, ())) =>
    if (decide (x31 < x30)) = true then
      if decide (0 ≤ x31 ∧ x31 < (x29.length : Int)) = true then
        if (!(x29.getD x31.toNat (0, (0, (false, ((List.replicate 4 0), ()))))).2.2.1) = true then
          if decide (0 ≤ (x29.getD x31.toNat (0, (0, (false, ((List.replicate 4 0), ()))))).1 ∧ (x29.getD x31.toNat (0, (0, (false, ((List.replicate 4 0), ()))))).1 < (y15.length : Int)) = true then
            if (y15.getD (x29.getD x31.toNat (0, (0, (false, ((List.replicate 4 0), ()))))).1.toNat false) = true then
              (fp60 ([((x29.getD x31.toNat (0, (0, (false, ((List.replicate 4 0), ()))))).2.2.2.1.getD 0 0), ((x29.getD x31.toNat (0, (0, (false, ((List.replicate 4 0), ()))))).2.2.2.1.getD 1 0), ((x29.getD x31.toNat (0, (0, (false, ((List.replicate 4 0), ()))))).2.2.2.1.getD 2 0), ((x29.getD x31.toNat (0, (0, (false, ((List.replicate 4 0), ()))))).2.2.2.1.getD 3 0)], x2, ())).bind fun c1 =>
              if c1 = true then
                if decide (y10.length + ([(x29.getD x31.toNat (0, (0, (false, ((List.replicate 4 0), ()))))).2.1] : List (Int)).length ≤ lim) = true then
                  fL43_9 n ((x2, (), (), (), x29, x30, (IntKind.i64.wrap (x31 + (1 : Int))), ()), ((y3.1, y3.2.1, y3.2.2.1, y3.2.2.2.1, ()), (y10 ++ ([(x29.getD x31.toNat (0, (0, (false, ((List.replicate 4 0), ()))))).2.1] : List (Int))), y15, ()))
                else
                  none
              else
                fL43_9 n ((x2, (), (), (), x29, x30, (IntKind.i64.wrap (x31 + (1 : Int))), ()), ((y3.1, y3.2.1, y3.2.2.1, y3.2.2.2.1, ()), y10, y15, ()))
            else
              fL43_9 n ((x2, (), (), (), x29, x30, (IntKind.i64.wrap (x31 + (1 : Int))), ()), ((y3.1, y3.2.1, y3.2.2.1, y3.2.2.2.1, ()), y10, y15, ()))
          else
            none
        else
          fL43_9 n ((x2, (), (), (), x29, x30, (IntKind.i64.wrap (x31 + (1 : Int))), ()), ((y3.1, y3.2.1, y3.2.2.1, y3.2.2.2.1, ()), y10, y15, ()))
      else
        none
    else
      some (((), (), ()), ((y3.1, y3.2.1, y3.2.2.1, y3.2.2.2.1, ()), y10, ()))

theorem eL43_9 : ∀ n x, L43_9 n x = fL43_9 n x := by
  intro n
  induction n with
  | zero => intro x; rfl
  | succ n ih =>
    intro x
    obtain ⟨⟨x2, z1, z2, z3, x29, x30, x31, ⟨⟩⟩, ⟨y3, y10, y15, ⟨⟩⟩⟩ := x
    simp only [L43_9, fL43_9, ih, ep60]

noncomputable def fp43 : (((Int) × ((Int) × ((List ((Int) × ((Int) × ((Bool) × ((List (Int)) × (Unit)))))) × ((List (Int)) × (Unit))))) × (List (Int)) × (Int) × Unit) → Option (List (Int))
  | (x0, x1, x2, ()) =>
    if decide (x0.1 = x0.1 ∧ 0 ≤ x0.1 ∧ x0.1 ≤ (lim : Int)) = true then
      (fp41 ((x0.1, (x0.2.1, (x0.2.2.1, (x0.2.2.2.1, ())))), x1, ())).bind fun c1 =>
      (flimit fL43_3 ((x2, (), (), c1, (c1.length : Int), (0 : Int), ()), ((x0.1, x0.2.1, x0.2.2.1, x0.2.2.2.1, ()), (List.replicate x0.1.toNat false), ()))).bind fun r2 =>
      (flimit fL43_9 ((r2.1.1, (), (), (), r2.2.1.2.2.1, (r2.2.1.2.2.1.length : Int), (0 : Int), ()), ((r2.2.1.1, r2.2.1.2.1, r2.2.1.2.2.1, r2.2.1.2.2.2.1, ()), ([] : List (Int)), r2.2.2.1, ()))).bind fun r3 =>
      (fp41 ((r3.2.1.1, (r3.2.1.2.1, (r3.2.1.2.2.1, (r3.2.1.2.2.2.1, ())))), r3.2.2.1, ())).bind fun c4 =>
      some c4
    else
      none

theorem ep43 : p43 = fp43 := by
  funext x
  obtain ⟨x0, x1, x2, ⟨⟩⟩ := x
  simp only [p43, fp43, limit_flimit eL43_3, limit_flimit eL43_9, ep41]

noncomputable def fL351_17 (E51 : ((Rx) × (Int) × Unit) → Option (Bool)) : Nat → (((Int) × (List (Rx)) × (Int) × (Int) × Unit) × (Unit)) → Option ((((Bool) × Unit) × (Unit)) ⊕ ((Unit) × (Unit)))
  | 0, _ => none
  | n + 1, ((x1, x48, x49, x50, ()), ()) =>
    if (decide (x50 < x49)) = true then
      if decide (0 ≤ x50 ∧ x50 < (x48.length : Int)) = true then
        (E51 ((Rx.mk (x48.getD x50.toNat (Rx.mk 0 [0, 0, 0, 0] [])).kind [((x48.getD x50.toNat (Rx.mk 0 [0, 0, 0, 0] [])).set.getD 0 0), ((x48.getD x50.toNat (Rx.mk 0 [0, 0, 0, 0] [])).set.getD 1 0), ((x48.getD x50.toNat (Rx.mk 0 [0, 0, 0, 0] [])).set.getD 2 0), ((x48.getD x50.toNat (Rx.mk 0 [0, 0, 0, 0] [])).set.getD 3 0)] (x48.getD x50.toNat (Rx.mk 0 [0, 0, 0, 0] [])).kids), (IntKind.i64.wrap (x1 - (1 : Int))), ())).bind fun c1 =>
        if (!c1) = true then
          some (.inl ((false, ()), ()))
        else
          fL351_17 E51 n ((x1, x48, x49, (IntKind.i64.wrap (x50 + (1 : Int))), ()), ())
      else
        none
    else
      some (.inr ((), ()))

theorem eL351_17 (E51) : ∀ n x, L351_17 E51 n x = fL351_17 E51 n x := by
  intro n
  induction n with
  | zero => intro x; rfl
  | succ n ih =>
    intro x
    obtain ⟨⟨x1, x48, x49, x50, ⟨⟩⟩, ⟨⟩⟩ := x
    simp only [L351_17, fL351_17, ih]

noncomputable def fp351b (E51 : ((Rx) × (Int) × Unit) → Option (Bool)) : ((Rx) × (Int) × Unit) → Option (Bool)
  | (x0, x1, ()) =>
    if (decide (x1 = (0 : Int))) = true then
      some false
    else
      if ((decide (x0.kind = (3 : Int))) == (Kind.eqB (.arr 4 (.int .u64)) [(x0.set.getD 0 0), (x0.set.getD 1 0), (x0.set.getD 2 0), (x0.set.getD 3 0)] [(0 : Int), (0 : Int), (0 : Int), (0 : Int)])) = true then
        some false
      else
        if (decide (x0.kind = (1 : Int))) = true then
          if (decide ((x0.kids.length : Int) < (0 : Int))) = true then
            some false
          else
            if (decide ((x0.kids.length : Int) > (0 : Int))) = true then
              some false
            else
              (flimit (fL351_17 E51) ((x1, x0.kids, (x0.kids.length : Int), (0 : Int), ()), ())).bind (Sum.elim (fun r1 =>
                some r1.1.1) (fun _ =>
                some true))
        else
          if (decide (x0.kind = (2 : Int))) = true then
            if (decide ((x0.kids.length : Int) < (0 : Int))) = true then
              some false
            else
              if (decide ((x0.kids.length : Int) > (0 : Int))) = true then
                some false
              else
                (flimit (fL351_17 E51) ((x1, x0.kids, (x0.kids.length : Int), (0 : Int), ()), ())).bind (Sum.elim (fun r2 =>
                  some r2.1.1) (fun _ =>
                  some true))
          else
            if (decide (x0.kind = (3 : Int))) = true then
              if (decide ((x0.kids.length : Int) < (0 : Int))) = true then
                some false
              else
                if (decide ((x0.kids.length : Int) > (0 : Int))) = true then
                  some false
                else
                  (flimit (fL351_17 E51) ((x1, x0.kids, (x0.kids.length : Int), (0 : Int), ()), ())).bind (Sum.elim (fun r3 =>
                    some r3.1.1) (fun _ =>
                    some true))
            else
              if (decide (x0.kind = (4 : Int))) = true then
                if (decide ((x0.kids.length : Int) < (2 : Int))) = true then
                  some false
                else
                  if (decide ((x0.kids.length : Int) > (x0.kids.length : Int))) = true then
                    some false
                  else
                    (flimit (fL351_17 E51) ((x1, x0.kids, (x0.kids.length : Int), (0 : Int), ()), ())).bind (Sum.elim (fun r4 =>
                      some r4.1.1) (fun _ =>
                      some true))
              else
                if (decide (x0.kind = (5 : Int))) = true then
                  if (decide ((x0.kids.length : Int) < (2 : Int))) = true then
                    some false
                  else
                    if (decide ((x0.kids.length : Int) > (x0.kids.length : Int))) = true then
                      some false
                    else
                      (flimit (fL351_17 E51) ((x1, x0.kids, (x0.kids.length : Int), (0 : Int), ()), ())).bind (Sum.elim (fun r5 =>
                        some r5.1.1) (fun _ =>
                        some true))
                else
                  if (decide (x0.kind = (6 : Int))) = true then
                    if (decide ((x0.kids.length : Int) < (1 : Int))) = true then
                      some false
                    else
                      if (decide ((x0.kids.length : Int) > (1 : Int))) = true then
                        some false
                      else
                        (flimit (fL351_17 E51) ((x1, x0.kids, (x0.kids.length : Int), (0 : Int), ()), ())).bind (Sum.elim (fun r6 =>
                          some r6.1.1) (fun _ =>
                          some true))
                  else
                    some false

theorem ep351b (E51) : p351b E51 = fp351b E51 := by
  funext x
  obtain ⟨x0, x1, ⟨⟩⟩ := x
  simp only [p351b, fp351b, limit_flimit (eL351_17 E51)]

noncomputable def fp351n : Nat → ((Rx) × (Int) × Unit) → Option (Bool)
  | 0, _ => none
  | n + 1, x => fp351b (fp351n n) x

theorem ep351n : ∀ n, p351n n = fp351n n := by
  intro n
  induction n with
  | zero => funext x; rfl
  | succ n ih =>
    funext x
    show p351b (p351n n) x = fp351b (fp351n n) x
    rw [ih, ep351b]

noncomputable def fp351 : ((Rx) × (Int) × Unit) → Option (Bool) := flimit fp351n

theorem ep351 : p351 = fp351 := limit_flimit fun n x => congrFun (ep351n n) x

noncomputable def fp340 : ((Rx) × Unit) → Option (Bool)
  | (x0, ()) =>
    (fp351 ((Rx.mk x0.kind [(x0.set.getD 0 0), (x0.set.getD 1 0), (x0.set.getD 2 0), (x0.set.getD 3 0)] x0.kids), (30 : Int), ())).bind fun c1 =>
    some c1

theorem ep340 : p340 = fp340 := by
  funext x
  obtain ⟨x0, ⟨⟩⟩ := x
  simp only [p340, fp340, ep351]

noncomputable def fL341_3 (E41 : ((Rx) × Unit) → Option (Int)) : Nat → (((Int) × (List (Rx)) × (Int) × (Int) × Unit) × (Unit)) → Option (((Int) × Unit) × (Unit))
  | 0, _ => none
  | n + 1, ((x3, x7, x8, x9, ()), ()) =>
    if (decide (x9 < x8)) = true then
      if decide (0 ≤ x9 ∧ x9 < (x7.length : Int)) = true then
        (E41 ((Rx.mk (x7.getD x9.toNat (Rx.mk 0 [0, 0, 0, 0] [])).kind [((x7.getD x9.toNat (Rx.mk 0 [0, 0, 0, 0] [])).set.getD 0 0), ((x7.getD x9.toNat (Rx.mk 0 [0, 0, 0, 0] [])).set.getD 1 0), ((x7.getD x9.toNat (Rx.mk 0 [0, 0, 0, 0] [])).set.getD 2 0), ((x7.getD x9.toNat (Rx.mk 0 [0, 0, 0, 0] [])).set.getD 3 0)] (x7.getD x9.toNat (Rx.mk 0 [0, 0, 0, 0] [])).kids), ())).bind fun c1 =>
        fL341_3 E41 n (((IntKind.i64.wrap (x3 + c1)), x7, x8, (IntKind.i64.wrap (x9 + (1 : Int))), ()), ())
      else
        none
    else
      some ((x3, ()), ())

theorem eL341_3 (E41) : ∀ n x, L341_3 E41 n x = fL341_3 E41 n x := by
  intro n
  induction n with
  | zero => intro x; rfl
  | succ n ih =>
    intro x
    obtain ⟨⟨x3, x7, x8, x9, ⟨⟩⟩, ⟨⟩⟩ := x
    simp only [L341_3, fL341_3, ih]

noncomputable def fp341b (E41 : ((Rx) × Unit) → Option (Int)) : ((Rx) × Unit) → Option (Int)
  | (x0, ()) =>
    (flimit (fL341_3 E41) (((1 : Int), x0.kids, (x0.kids.length : Int), (0 : Int), ()), ())).bind fun r1 =>
    some r1.1.1

theorem ep341b (E41) : p341b E41 = fp341b E41 := by
  funext x
  obtain ⟨x0, ⟨⟩⟩ := x
  simp only [p341b, fp341b, limit_flimit (eL341_3 E41)]

noncomputable def fp341n : Nat → ((Rx) × Unit) → Option (Int)
  | 0, _ => none
  | n + 1, x => fp341b (fp341n n) x

theorem ep341n : ∀ n, p341n n = fp341n n := by
  intro n
  induction n with
  | zero => funext x; rfl
  | succ n ih =>
    funext x
    show p341b (p341n n) x = fp341b (fp341n n) x
    rw [ih, ep341b]

noncomputable def fp341 : ((Rx) × Unit) → Option (Int) := flimit fp341n

theorem ep341 : p341 = fp341 := limit_flimit fun n x => congrFun (ep341n n) x

noncomputable def fL363_3 : Nat → (((List (List (Int))) × (Int) × (List (List (Int))) × (Int) × (Int) × Unit) × (Unit)) → Option (((List (List (Int))) × (Int) × Unit) × (Unit))
  | 0, _ => none
  | n + 1, ((x0, x3, x9, x10, x11, ()), ()) =>
    if (decide (x11 < x10)) = true then
      if decide (0 ≤ x11 ∧ x11 < (x9.length : Int)) = true then
        if (decide ((IntKind.i64.wrap (x3 + ((x9.getD x11.toNat []).length : Int))) < (0 : Int))) = true then
          none
        else
          fL363_3 n ((x0, (IntKind.i64.wrap (x3 + ((x9.getD x11.toNat []).length : Int))), x9, x10, (IntKind.i64.wrap (x11 + (1 : Int))), ()), ())
      else
        none
    else
      some ((x0, x3, ()), ())

theorem eL363_3 : ∀ n x, L363_3 n x = fL363_3 n x := by
  intro n
  induction n with
  | zero => intro x; rfl
  | succ n ih =>
    intro x
    obtain ⟨⟨x0, x3, x9, x10, x11, ⟨⟩⟩, ⟨⟩⟩ := x
    simp only [L363_3, fL363_3, ih]

noncomputable def fL363_11 : Nat → ((Unit × (List (List (Int))) × (Int) × (Int) × Unit) × ((List (Int)) × Unit)) → Option ((Unit × Unit) × ((List (Int)) × Unit))
  | 0, _ => none
  | n + 1, ((_, x25, x26, x27, ()), (y6, ())) =>
    if (decide (x27 < x26)) = true then
      if decide (0 ≤ x27 ∧ x27 < (x25.length : Int)) = true then
        if decide (y6.length + (x25.getD x27.toNat []).length ≤ lim) = true then
          fL363_11 n (((), x25, x26, (IntKind.i64.wrap (x27 + (1 : Int))), ()), ((y6 ++ (x25.getD x27.toNat [])), ()))
        else
          none
      else
        none
    else
      some (((), ()), (y6, ()))

theorem eL363_11 : ∀ n x, L363_11 n x = fL363_11 n x := by
  intro n
  induction n with
  | zero => intro x; rfl
  | succ n ih =>
    intro x
    obtain ⟨⟨z1, x25, x26, x27, ⟨⟩⟩, ⟨y6, ⟨⟩⟩⟩ := x
    simp only [L363_11, fL363_11, ih]

noncomputable def fp363 : ((List (List (Int))) × Unit) → Option (List (Int))
  | (x0, ()) =>
    (flimit fL363_3 ((x0, (0 : Int), x0, (x0.length : Int), (0 : Int), ()), ())).bind fun r1 =>
    (p368 r1.1.2.1).bind fun c2 =>
    (flimit fL363_11 (((), r1.1.1, (r1.1.1.length : Int), (0 : Int), ()), (c2, ()))).bind fun r3 =>
    some r3.2.1

theorem ep363 : p363 = fp363 := by
  funext x
  obtain ⟨x0, ⟨⟩⟩ := x
  simp only [p363, fp363, limit_flimit eL363_3, limit_flimit eL363_11]

noncomputable def fL343_343_4 : Nat → ((Unit × (List (Int)) × (Int) × (List (Int)) × (Int) × (Int) × (List (Int)) × (Int) × (Int) × Unit) × ((Unit × Unit × Unit) × (List (List (Int))) × (List (List ((Int) × (Bool)))) × Unit)) → Option ((Unit × (List (Int)) × (List (Int)) × (Int) × (Int) × Unit) × ((Unit × Unit × Unit) × (List (List (Int))) × (List (List ((Int) × (Bool)))) × Unit))
  | 0, _ => none
  | n + 1, ((_, x2, x7, x10, x11, x12, x16, x17, x18, ()), (_, y1, y2, ())) =>
    if (decide (x18 < x17)) = true then
      if decide (0 ≤ x18 ∧ x18 < (x16.length : Int)) = true then
        if decide (0 ≤ x7 ∧ x7 < (y2.length : Int)) = true then
          fL343_343_4 n (((), x2, x7, x10, x11, x12, x16, x17, (IntKind.i64.wrap (x18 + (1 : Int))), ()), (((), (), ()), y1, (y2.set x7.toNat (mput (.int .i64) (x16.getD x18.toNat 0) true (y2.getD x7.toNat []))), ()))
        else
          none
      else
        none
    else
      some (((), x2, x10, x11, x12, ()), (((), (), ()), y1, y2, ()))

theorem eL343_343_4 : ∀ n x, L343_343_4 n x = fL343_343_4 n x := by
  intro n
  induction n with
  | zero => intro x; rfl
  | succ n ih =>
    intro x
    obtain ⟨⟨z1, x2, x7, x10, x11, x12, x16, x17, x18, ⟨⟩⟩, ⟨z2, y1, y2, ⟨⟩⟩⟩ := x
    simp only [L343_343_4, fL343_343_4, ih]

noncomputable def fL343_343_1 : Nat → ((Unit × (List (Int)) × (List (Int)) × (Int) × (Int) × Unit) × ((Unit × Unit × Unit) × (List (List (Int))) × (List (List ((Int) × (Bool)))) × Unit)) → Option ((Unit) × ((Unit × Unit × Unit) × (List (List (Int))) × (List (List ((Int) × (Bool)))) × Unit))
  | 0, _ => none
  | n + 1, ((_, x2, x10, x11, x12, ()), (_, y1, y2, ())) =>
    if (decide (x12 < x11)) = true then
      if decide (0 ≤ x12 ∧ x12 < (x10.length : Int)) = true then
        (flimit fL343_343_4 (((), x2, (x10.getD x12.toNat 0), x10, x11, x12, x2, (x2.length : Int), (0 : Int), ()), (((), (), ()), y1, y2, ()))).bind fun r1 =>
        fL343_343_1 n (((), r1.1.2.1, r1.1.2.2.1, r1.1.2.2.2.1, (IntKind.i64.wrap (r1.1.2.2.2.2.1 + (1 : Int))), ()), (((), (), ()), r1.2.2.1, r1.2.2.2.1, ()))
      else
        none
    else
      some ((), (((), (), ()), y1, y2, ()))

theorem eL343_343_1 : ∀ n x, L343_343_1 n x = fL343_343_1 n x := by
  intro n
  induction n with
  | zero => intro x; rfl
  | succ n ih =>
    intro x
    obtain ⟨⟨z1, x2, x10, x11, x12, ⟨⟩⟩, ⟨z2, y1, y2, ⟨⟩⟩⟩ := x
    simp only [L343_343_1, fL343_343_1, ih, limit_flimit eL343_343_4]

noncomputable def fp343 : ((Unit × (List (Int)) × (List (Int)) × Unit) × ((Unit × Unit × Unit) × (List (List (Int))) × (List (List ((Int) × (Bool)))) × Unit)) → Option ((Unit) × ((Unit × Unit × Unit) × (List (List (Int))) × (List (List ((Int) × (Bool)))) × Unit))
  | ((_, x1, x2, ()), (_, y1, y2, ())) =>
    (flimit fL343_343_1 (((), x2, x1, (x1.length : Int), (0 : Int), ()), (((), (), ()), y1, y2, ()))).bind fun r1 =>
    some ((), (((), (), ()), r1.2.2.1, r1.2.2.2.1, ()))

theorem ep343 : p343 = fp343 := by
  funext x
  obtain ⟨⟨z1, x1, x2, ⟨⟩⟩, ⟨z2, y1, y2, ⟨⟩⟩⟩ := x
  simp only [p343, fp343, limit_flimit eL343_343_1]

noncomputable def fp352 : ((Unit × (Rx) × Unit) × ((Unit × Unit × Unit) × (List (List (Int))) × (List (List ((Int) × (Bool)))) × Unit)) → Option (((Bool) × ((List (Int)) × ((List (Int)) × (Unit)))) × ((Unit × Unit × Unit) × (List (List (Int))) × (List (List ((Int) × (Bool)))) × Unit))
  | ((_, _, ()), (_, y1, y2, ())) =>
    some ((false, (([] : List (Int)), (([] : List (Int)), ()))), (((), (), ()), y1, y2, ()))

theorem ep352 : p352 = fp352 := by
  funext x
  obtain ⟨⟨z1, z2, ⟨⟩⟩, ⟨z3, y1, y2, ⟨⟩⟩⟩ := x
  simp only [p352, fp352]

noncomputable def fp353 : ((Unit × (Rx) × Unit) × ((Unit × Unit × Unit) × (List (List (Int))) × (List (List ((Int) × (Bool)))) × Unit)) → Option (((Bool) × ((List (Int)) × ((List (Int)) × (Unit)))) × ((Unit × Unit × Unit) × (List (List (Int))) × (List (List ((Int) × (Bool)))) × Unit))
  | ((_, _, ()), (_, y1, y2, ())) =>
    some ((true, (([] : List (Int)), (([] : List (Int)), ()))), (((), (), ()), y1, y2, ()))

theorem ep353 : p353 = fp353 := by
  funext x
  obtain ⟨⟨z1, z2, ⟨⟩⟩, ⟨z3, y1, y2, ⟨⟩⟩⟩ := x
  simp only [p353, fp353]

noncomputable def fp354 : ((Unit × (Rx) × Unit) × ((Unit × Unit × Unit) × (List (List (Int))) × (List (List ((Int) × (Bool)))) × Unit)) → Option (((Bool) × ((List (Int)) × ((List (Int)) × (Unit)))) × ((Unit × Unit × Unit) × (List (List (Int))) × (List (List ((Int) × (Bool)))) × Unit))
  | ((_, x1, ()), (_, y1, y2, ())) =>
    if decide (y1.length + ([[(x1.set.getD 0 0), (x1.set.getD 1 0), (x1.set.getD 2 0), (x1.set.getD 3 0)]] : List (List (Int))).length ≤ lim) = true then
      if decide (y2.length + ([([] : List ((Int) × (Bool)))] : List (List ((Int) × (Bool)))).length ≤ lim) = true then
        some ((false, (([((y1 ++ ([[(x1.set.getD 0 0), (x1.set.getD 1 0), (x1.set.getD 2 0), (x1.set.getD 3 0)]] : List (List (Int)))).length : Int)] : List (Int)), (([((y1 ++ ([[(x1.set.getD 0 0), (x1.set.getD 1 0), (x1.set.getD 2 0), (x1.set.getD 3 0)]] : List (List (Int)))).length : Int)] : List (Int)), ()))), (((), (), ()), (y1 ++ ([[(x1.set.getD 0 0), (x1.set.getD 1 0), (x1.set.getD 2 0), (x1.set.getD 3 0)]] : List (List (Int)))), (y2 ++ ([([] : List ((Int) × (Bool)))] : List (List ((Int) × (Bool))))), ()))
      else
        none
    else
      none

theorem ep354 : p354 = fp354 := by
  funext x
  obtain ⟨⟨z1, x1, ⟨⟩⟩, ⟨z2, y1, y2, ⟨⟩⟩⟩ := x
  simp only [p354, fp354]

noncomputable def fL355_355_3 (E42 : ((Unit × (Rx) × Unit) × ((Unit × Unit × Unit) × (List (List (Int))) × (List (List ((Int) × (Bool)))) × Unit)) → Option (((Bool) × ((List (Int)) × ((List (Int)) × (Unit)))) × ((Unit × Unit × Unit) × (List (List (Int))) × (List (List ((Int) × (Bool)))) × Unit))) : Nat → ((Unit × Unit × Unit × (List (Rx)) × (Int) × (Int) × Unit) × ((Unit × Unit × Unit) × ((Bool) × (List (Int)) × (List (Int)) × Unit) × ((Bool) × (List (Int)) × (List (Int)) × Unit) × (List (List (Int))) × (List (List ((Int) × (Bool)))) × Unit)) → Option ((Unit × Unit × Unit) × ((Unit × Unit × Unit) × ((Bool) × (List (Int)) × (List (Int)) × Unit) × ((Bool) × (List (Int)) × (List (Int)) × Unit) × (List (List (Int))) × (List (List ((Int) × (Bool)))) × Unit))
  | 0, _ => none
  | n + 1, ((_, _, _, x11, x12, x13, ()), (_, y1004, y1005, y1400, y1401, ())) =>
    if (decide (x13 < x12)) = true then
      if decide (0 ≤ x13 ∧ x13 < (x11.length : Int)) = true then
        (E42 (((), (Rx.mk (x11.getD x13.toNat (Rx.mk 0 [0, 0, 0, 0] [])).kind [((x11.getD x13.toNat (Rx.mk 0 [0, 0, 0, 0] [])).set.getD 0 0), ((x11.getD x13.toNat (Rx.mk 0 [0, 0, 0, 0] [])).set.getD 1 0), ((x11.getD x13.toNat (Rx.mk 0 [0, 0, 0, 0] [])).set.getD 2 0), ((x11.getD x13.toNat (Rx.mk 0 [0, 0, 0, 0] [])).set.getD 3 0)] (x11.getD x13.toNat (Rx.mk 0 [0, 0, 0, 0] [])).kids), ()), (((), (), ()), y1400, y1401, ()))).bind fun c1 =>
        (fp343 (((), y1005.2.2.1, c1.1.2.1, ()), (((), (), ()), c1.2.2.1, c1.2.2.2.1, ()))).bind fun c2 =>
        if y1005.1 = true then
          (fp363 (([y1005.2.1, c1.1.2.1] : List (List (Int))), ())).bind fun c3 =>
          if c1.1.1 = true then
            (fp363 (([y1005.2.2.1, c1.1.2.2.1] : List (List (Int))), ())).bind fun c4 =>
            if y1005.1 = true then
              fL355_355_3 E42 n (((), (), (), x11, x12, (IntKind.i64.wrap (x13 + (1 : Int))), ()), (((), (), ()), (y1004.1, y1004.2.1, y1004.2.2.1, ()), (c1.1.1, c3, c4, ()), c2.2.2.1, c2.2.2.2.1, ()))
            else
              fL355_355_3 E42 n (((), (), (), x11, x12, (IntKind.i64.wrap (x13 + (1 : Int))), ()), (((), (), ()), (y1004.1, y1004.2.1, y1004.2.2.1, ()), (false, c3, c4, ()), c2.2.2.1, c2.2.2.2.1, ()))
          else
            if y1005.1 = true then
              fL355_355_3 E42 n (((), (), (), x11, x12, (IntKind.i64.wrap (x13 + (1 : Int))), ()), (((), (), ()), (y1004.1, y1004.2.1, y1004.2.2.1, ()), (c1.1.1, c3, c1.1.2.2.1, ()), c2.2.2.1, c2.2.2.2.1, ()))
            else
              fL355_355_3 E42 n (((), (), (), x11, x12, (IntKind.i64.wrap (x13 + (1 : Int))), ()), (((), (), ()), (y1004.1, y1004.2.1, y1004.2.2.1, ()), (false, c3, c1.1.2.2.1, ()), c2.2.2.1, c2.2.2.2.1, ()))
        else
          if c1.1.1 = true then
            (fp363 (([y1005.2.2.1, c1.1.2.2.1] : List (List (Int))), ())).bind fun c5 =>
            if y1005.1 = true then
              fL355_355_3 E42 n (((), (), (), x11, x12, (IntKind.i64.wrap (x13 + (1 : Int))), ()), (((), (), ()), (y1004.1, y1004.2.1, y1004.2.2.1, ()), (c1.1.1, y1005.2.1, c5, ()), c2.2.2.1, c2.2.2.2.1, ()))
            else
              fL355_355_3 E42 n (((), (), (), x11, x12, (IntKind.i64.wrap (x13 + (1 : Int))), ()), (((), (), ()), (y1004.1, y1004.2.1, y1004.2.2.1, ()), (false, y1005.2.1, c5, ()), c2.2.2.1, c2.2.2.2.1, ()))
          else
            if y1005.1 = true then
              fL355_355_3 E42 n (((), (), (), x11, x12, (IntKind.i64.wrap (x13 + (1 : Int))), ()), (((), (), ()), (y1004.1, y1004.2.1, y1004.2.2.1, ()), (c1.1.1, y1005.2.1, c1.1.2.2.1, ()), c2.2.2.1, c2.2.2.2.1, ()))
            else
              fL355_355_3 E42 n (((), (), (), x11, x12, (IntKind.i64.wrap (x13 + (1 : Int))), ()), (((), (), ()), (y1004.1, y1004.2.1, y1004.2.2.1, ()), (false, y1005.2.1, c1.1.2.2.1, ()), c2.2.2.1, c2.2.2.2.1, ()))
      else
        none
    else
      some (((), (), ()), (((), (), ()), (y1004.1, y1004.2.1, y1004.2.2.1, ()), (y1005.1, y1005.2.1, y1005.2.2.1, ()), y1400, y1401, ()))

theorem eL355_355_3 (E42) : ∀ n x, L355_355_3 E42 n x = fL355_355_3 E42 n x := by
  intro n
  induction n with
  | zero => intro x; rfl
  | succ n ih =>
    intro x
    obtain ⟨⟨z1, z2, z3, x11, x12, x13, ⟨⟩⟩, ⟨z4, y1004, y1005, y1400, y1401, ⟨⟩⟩⟩ := x
    simp only [L355_355_3, fL355_355_3, ih, ep343, ep363]

noncomputable def fp355 (E42 : ((Unit × (Rx) × Unit) × ((Unit × Unit × Unit) × (List (List (Int))) × (List (List ((Int) × (Bool)))) × Unit)) → Option (((Bool) × ((List (Int)) × ((List (Int)) × (Unit)))) × ((Unit × Unit × Unit) × (List (List (Int))) × (List (List ((Int) × (Bool)))) × Unit))) : ((Unit × (Rx) × Unit) × ((Unit × Unit × Unit) × (List (List (Int))) × (List (List ((Int) × (Bool)))) × Unit)) → Option (((Bool) × ((List (Int)) × ((List (Int)) × (Unit)))) × ((Unit × Unit × Unit) × (List (List (Int))) × (List (List ((Int) × (Bool)))) × Unit))
  | ((_, x1, ()), (_, y1, y2, ())) =>
    (flimit (fL355_355_3 E42) (((), (), (), x1.kids, (x1.kids.length : Int), (0 : Int), ()), (((), (), ()), (false, ([] : List (Int)), ([] : List (Int)), ()), (true, ([] : List (Int)), ([] : List (Int)), ()), y1, y2, ()))).bind fun r1 =>
    some ((r1.2.2.2.1.1, (r1.2.2.2.1.2.1, (r1.2.2.2.1.2.2.1, ()))), (((), (), ()), r1.2.2.2.2.1, r1.2.2.2.2.2.1, ()))

theorem ep355 (E42) : p355 E42 = fp355 E42 := by
  funext x
  obtain ⟨⟨z1, x1, ⟨⟩⟩, ⟨z2, y1, y2, ⟨⟩⟩⟩ := x
  simp only [p355, fp355, limit_flimit (eL355_355_3 E42)]

noncomputable def fL356_356_3 (E42 : ((Unit × (Rx) × Unit) × ((Unit × Unit × Unit) × (List (List (Int))) × (List (List ((Int) × (Bool)))) × Unit)) → Option (((Bool) × ((List (Int)) × ((List (Int)) × (Unit)))) × ((Unit × Unit × Unit) × (List (List (Int))) × (List (List ((Int) × (Bool)))) × Unit))) : Nat → ((Unit × Unit × Unit × (List (Rx)) × (Int) × (Int) × Unit) × ((Unit × Unit × Unit) × ((Bool) × (List (Int)) × (List (Int)) × Unit) × ((Bool) × (List (Int)) × (List (Int)) × Unit) × (List (List (Int))) × (List (List ((Int) × (Bool)))) × Unit)) → Option ((Unit × Unit × Unit) × ((Unit × Unit × Unit) × ((Bool) × (List (Int)) × (List (Int)) × Unit) × ((Bool) × (List (Int)) × (List (Int)) × Unit) × (List (List (Int))) × (List (List ((Int) × (Bool)))) × Unit))
  | 0, _ => none
  | n + 1, ((_, _, _, x10, x11, x12, ()), (_, y1004, y1005, y1400, y1401, ())) =>
    if (decide (x12 < x11)) = true then
      if decide (0 ≤ x12 ∧ x12 < (x10.length : Int)) = true then
        (E42 (((), (Rx.mk (x10.getD x12.toNat (Rx.mk 0 [0, 0, 0, 0] [])).kind [((x10.getD x12.toNat (Rx.mk 0 [0, 0, 0, 0] [])).set.getD 0 0), ((x10.getD x12.toNat (Rx.mk 0 [0, 0, 0, 0] [])).set.getD 1 0), ((x10.getD x12.toNat (Rx.mk 0 [0, 0, 0, 0] [])).set.getD 2 0), ((x10.getD x12.toNat (Rx.mk 0 [0, 0, 0, 0] [])).set.getD 3 0)] (x10.getD x12.toNat (Rx.mk 0 [0, 0, 0, 0] [])).kids), ()), (((), (), ()), y1400, y1401, ()))).bind fun c1 =>
        if y1005.1 = true then
          (fp363 (([y1005.2.1, c1.1.2.1] : List (List (Int))), ())).bind fun c2 =>
          (fp363 (([y1005.2.2.1, c1.1.2.2.1] : List (List (Int))), ())).bind fun c3 =>
          fL356_356_3 E42 n (((), (), (), x10, x11, (IntKind.i64.wrap (x12 + (1 : Int))), ()), (((), (), ()), (y1004.1, y1004.2.1, y1004.2.2.1, ()), (true, c2, c3, ()), c1.2.2.1, c1.2.2.2.1, ()))
        else
          (fp363 (([y1005.2.1, c1.1.2.1] : List (List (Int))), ())).bind fun c4 =>
          (fp363 (([y1005.2.2.1, c1.1.2.2.1] : List (List (Int))), ())).bind fun c5 =>
          fL356_356_3 E42 n (((), (), (), x10, x11, (IntKind.i64.wrap (x12 + (1 : Int))), ()), (((), (), ()), (y1004.1, y1004.2.1, y1004.2.2.1, ()), (c1.1.1, c4, c5, ()), c1.2.2.1, c1.2.2.2.1, ()))
      else
        none
    else
      some (((), (), ()), (((), (), ()), (y1004.1, y1004.2.1, y1004.2.2.1, ()), (y1005.1, y1005.2.1, y1005.2.2.1, ()), y1400, y1401, ()))

theorem eL356_356_3 (E42) : ∀ n x, L356_356_3 E42 n x = fL356_356_3 E42 n x := by
  intro n
  induction n with
  | zero => intro x; rfl
  | succ n ih =>
    intro x
    obtain ⟨⟨z1, z2, z3, x10, x11, x12, ⟨⟩⟩, ⟨z4, y1004, y1005, y1400, y1401, ⟨⟩⟩⟩ := x
    simp only [L356_356_3, fL356_356_3, ih, ep363]

noncomputable def fp356 (E42 : ((Unit × (Rx) × Unit) × ((Unit × Unit × Unit) × (List (List (Int))) × (List (List ((Int) × (Bool)))) × Unit)) → Option (((Bool) × ((List (Int)) × ((List (Int)) × (Unit)))) × ((Unit × Unit × Unit) × (List (List (Int))) × (List (List ((Int) × (Bool)))) × Unit))) : ((Unit × (Rx) × Unit) × ((Unit × Unit × Unit) × (List (List (Int))) × (List (List ((Int) × (Bool)))) × Unit)) → Option (((Bool) × ((List (Int)) × ((List (Int)) × (Unit)))) × ((Unit × Unit × Unit) × (List (List (Int))) × (List (List ((Int) × (Bool)))) × Unit))
  | ((_, x1, ()), (_, y1, y2, ())) =>
    (flimit (fL356_356_3 E42) (((), (), (), x1.kids, (x1.kids.length : Int), (0 : Int), ()), (((), (), ()), (false, ([] : List (Int)), ([] : List (Int)), ()), (false, ([] : List (Int)), ([] : List (Int)), ()), y1, y2, ()))).bind fun r1 =>
    some ((r1.2.2.2.1.1, (r1.2.2.2.1.2.1, (r1.2.2.2.1.2.2.1, ()))), (((), (), ()), r1.2.2.2.2.1, r1.2.2.2.2.2.1, ()))

theorem ep356 (E42) : p356 E42 = fp356 E42 := by
  funext x
  obtain ⟨⟨z1, x1, ⟨⟩⟩, ⟨z2, y1, y2, ⟨⟩⟩⟩ := x
  simp only [p356, fp356, limit_flimit (eL356_356_3 E42)]

noncomputable def fp357 (E42 : ((Unit × (Rx) × Unit) × ((Unit × Unit × Unit) × (List (List (Int))) × (List (List ((Int) × (Bool)))) × Unit)) → Option (((Bool) × ((List (Int)) × ((List (Int)) × (Unit)))) × ((Unit × Unit × Unit) × (List (List (Int))) × (List (List ((Int) × (Bool)))) × Unit))) : ((Unit × (Rx) × Unit) × ((Unit × Unit × Unit) × (List (List (Int))) × (List (List ((Int) × (Bool)))) × Unit)) → Option (((Bool) × ((List (Int)) × ((List (Int)) × (Unit)))) × ((Unit × Unit × Unit) × (List (List (Int))) × (List (List ((Int) × (Bool)))) × Unit))
  | ((_, x1, ()), (_, y1, y2, ())) =>
    if decide (0 ≤ (0 : Int) ∧ (0 : Int) < (x1.kids.length : Int)) = true then
      (E42 (((), (Rx.mk (x1.kids.getD (0 : Int).toNat (Rx.mk 0 [0, 0, 0, 0] [])).kind [((x1.kids.getD (0 : Int).toNat (Rx.mk 0 [0, 0, 0, 0] [])).set.getD 0 0), ((x1.kids.getD (0 : Int).toNat (Rx.mk 0 [0, 0, 0, 0] [])).set.getD 1 0), ((x1.kids.getD (0 : Int).toNat (Rx.mk 0 [0, 0, 0, 0] [])).set.getD 2 0), ((x1.kids.getD (0 : Int).toNat (Rx.mk 0 [0, 0, 0, 0] [])).set.getD 3 0)] (x1.kids.getD (0 : Int).toNat (Rx.mk 0 [0, 0, 0, 0] [])).kids), ()), (((), (), ()), y1, y2, ()))).bind fun c1 =>
      (fp343 (((), c1.1.2.2.1, c1.1.2.1, ()), (((), (), ()), c1.2.2.1, c1.2.2.2.1, ()))).bind fun c2 =>
      some ((true, (c1.1.2.1, (c1.1.2.2.1, ()))), (((), (), ()), c2.2.2.1, c2.2.2.2.1, ()))
    else
      none

theorem ep357 (E42) : p357 E42 = fp357 E42 := by
  funext x
  obtain ⟨⟨z1, x1, ⟨⟩⟩, ⟨z2, y1, y2, ⟨⟩⟩⟩ := x
  simp only [p357, fp357, ep343]

noncomputable def fp342b (E42 : ((Unit × (Rx) × Unit) × ((Unit × Unit × Unit) × (List (List (Int))) × (List (List ((Int) × (Bool)))) × Unit)) → Option (((Bool) × ((List (Int)) × ((List (Int)) × (Unit)))) × ((Unit × Unit × Unit) × (List (List (Int))) × (List (List ((Int) × (Bool)))) × Unit))) : ((Unit × (Rx) × Unit) × ((Unit × Unit × Unit) × (List (List (Int))) × (List (List ((Int) × (Bool)))) × Unit)) → Option (((Bool) × ((List (Int)) × ((List (Int)) × (Unit)))) × ((Unit × Unit × Unit) × (List (List (Int))) × (List (List ((Int) × (Bool)))) × Unit))
  | ((_, x1, ()), (_, y1, y2, ())) =>
    if (decide (x1.kind = (1 : Int))) = true then
      (fp352 (((), (Rx.mk x1.kind [(x1.set.getD 0 0), (x1.set.getD 1 0), (x1.set.getD 2 0), (x1.set.getD 3 0)] x1.kids), ()), (((), (), ()), y1, y2, ()))).bind fun c1 =>
      some ((c1.1.1, (c1.1.2.1, (c1.1.2.2.1, ()))), (((), (), ()), c1.2.2.1, c1.2.2.2.1, ()))
    else
      if (decide (x1.kind = (2 : Int))) = true then
        (fp353 (((), (Rx.mk x1.kind [(x1.set.getD 0 0), (x1.set.getD 1 0), (x1.set.getD 2 0), (x1.set.getD 3 0)] x1.kids), ()), (((), (), ()), y1, y2, ()))).bind fun c2 =>
        some ((c2.1.1, (c2.1.2.1, (c2.1.2.2.1, ()))), (((), (), ()), c2.2.2.1, c2.2.2.2.1, ()))
      else
        if (decide (x1.kind = (3 : Int))) = true then
          (fp354 (((), (Rx.mk x1.kind [(x1.set.getD 0 0), (x1.set.getD 1 0), (x1.set.getD 2 0), (x1.set.getD 3 0)] x1.kids), ()), (((), (), ()), y1, y2, ()))).bind fun c3 =>
          some ((c3.1.1, (c3.1.2.1, (c3.1.2.2.1, ()))), (((), (), ()), c3.2.2.1, c3.2.2.2.1, ()))
        else
          if (decide (x1.kind = (4 : Int))) = true then
            ((fp355 E42) (((), (Rx.mk x1.kind [(x1.set.getD 0 0), (x1.set.getD 1 0), (x1.set.getD 2 0), (x1.set.getD 3 0)] x1.kids), ()), (((), (), ()), y1, y2, ()))).bind fun c4 =>
            some ((c4.1.1, (c4.1.2.1, (c4.1.2.2.1, ()))), (((), (), ()), c4.2.2.1, c4.2.2.2.1, ()))
          else
            if (decide (x1.kind = (5 : Int))) = true then
              ((fp356 E42) (((), (Rx.mk x1.kind [(x1.set.getD 0 0), (x1.set.getD 1 0), (x1.set.getD 2 0), (x1.set.getD 3 0)] x1.kids), ()), (((), (), ()), y1, y2, ()))).bind fun c5 =>
              some ((c5.1.1, (c5.1.2.1, (c5.1.2.2.1, ()))), (((), (), ()), c5.2.2.1, c5.2.2.2.1, ()))
            else
              if (decide (x1.kind = (6 : Int))) = true then
                ((fp357 E42) (((), (Rx.mk x1.kind [(x1.set.getD 0 0), (x1.set.getD 1 0), (x1.set.getD 2 0), (x1.set.getD 3 0)] x1.kids), ()), (((), (), ()), y1, y2, ()))).bind fun c6 =>
                some ((c6.1.1, (c6.1.2.1, (c6.1.2.2.1, ()))), (((), (), ()), c6.2.2.1, c6.2.2.2.1, ()))
              else
                none

theorem ep342b (E42) : p342b E42 = fp342b E42 := by
  funext x
  obtain ⟨⟨z1, x1, ⟨⟩⟩, ⟨z2, y1, y2, ⟨⟩⟩⟩ := x
  simp only [p342b, fp342b, ep352, ep353, ep354, ep355 E42, ep356 E42, ep357 E42]

noncomputable def fp342n : Nat → ((Unit × (Rx) × Unit) × ((Unit × Unit × Unit) × (List (List (Int))) × (List (List ((Int) × (Bool)))) × Unit)) → Option (((Bool) × ((List (Int)) × ((List (Int)) × (Unit)))) × ((Unit × Unit × Unit) × (List (List (Int))) × (List (List ((Int) × (Bool)))) × Unit))
  | 0, _ => none
  | n + 1, x => fp342b (fp342n n) x

theorem ep342n : ∀ n, p342n n = fp342n n := by
  intro n
  induction n with
  | zero => funext x; rfl
  | succ n ih =>
    funext x
    show p342b (p342n n) x = fp342b (fp342n n) x
    rw [ih, ep342b]

noncomputable def fp342 : ((Unit × (Rx) × Unit) × ((Unit × Unit × Unit) × (List (List (Int))) × (List (List ((Int) × (Bool)))) × Unit)) → Option (((Bool) × ((List (Int)) × ((List (Int)) × (Unit)))) × ((Unit × Unit × Unit) × (List (List (Int))) × (List (List ((Int) × (Bool)))) × Unit)) := flimit fp342n

theorem ep342 : p342 = fp342 := limit_flimit fun n x => congrFun (ep342n n) x

noncomputable def fL324_3 : Nat → (((List (Rx)) × Unit × (Int) × (List (Rx)) × (Int) × (Int) × Unit) × (((Int) × (Int) × (List ((Int) × ((Int) × ((Bool) × ((List (Int)) × (Unit)))))) × (List (Int)) × Unit) × Unit)) → Option (((Unit × (Int) × Unit) × (((Int) × (Int) × (List ((Int) × ((Int) × ((Bool) × ((List (Int)) × (Unit)))))) × (List (Int)) × Unit) × Unit)) ⊕ (((List (Rx)) × Unit × (Int) × Unit) × (((Int) × (Int) × (List ((Int) × ((Int) × ((Bool) × ((List (Int)) × (Unit)))))) × (List (Int)) × Unit) × Unit)))
  | 0, _ => none
  | n + 1, ((x0, _, x4, x19, x20, x21, ()), (y2, ())) =>
    if (decide (x21 < x20)) = true then
      if decide (0 ≤ x21 ∧ x21 < (x19.length : Int)) = true then
        (fp340 ((Rx.mk (x19.getD x21.toNat (Rx.mk 0 [0, 0, 0, 0] [])).kind [((x19.getD x21.toNat (Rx.mk 0 [0, 0, 0, 0] [])).set.getD 0 0), ((x19.getD x21.toNat (Rx.mk 0 [0, 0, 0, 0] [])).set.getD 1 0), ((x19.getD x21.toNat (Rx.mk 0 [0, 0, 0, 0] [])).set.getD 2 0), ((x19.getD x21.toNat (Rx.mk 0 [0, 0, 0, 0] [])).set.getD 3 0)] (x19.getD x21.toNat (Rx.mk 0 [0, 0, 0, 0] [])).kids), ())).bind fun c1 =>
        if (!c1) = true then
          some (.inl (((), (1 : Int), ()), (((0 : Int), (0 : Int), ([] : List ((Int) × ((Int) × ((Bool) × ((List (Int)) × (Unit)))))), ([] : List (Int)), ()), ())))
        else
          (fp341 ((Rx.mk (x19.getD x21.toNat (Rx.mk 0 [0, 0, 0, 0] [])).kind [((x19.getD x21.toNat (Rx.mk 0 [0, 0, 0, 0] [])).set.getD 0 0), ((x19.getD x21.toNat (Rx.mk 0 [0, 0, 0, 0] [])).set.getD 1 0), ((x19.getD x21.toNat (Rx.mk 0 [0, 0, 0, 0] [])).set.getD 2 0), ((x19.getD x21.toNat (Rx.mk 0 [0, 0, 0, 0] [])).set.getD 3 0)] (x19.getD x21.toNat (Rx.mk 0 [0, 0, 0, 0] [])).kids), ())).bind fun c2 =>
          fL324_3 n ((x0, (), (IntKind.i64.wrap (x4 + c2)), x19, x20, (IntKind.i64.wrap (x21 + (1 : Int))), ()), ((y2.1, y2.2.1, y2.2.2.1, y2.2.2.2.1, ()), ()))
      else
        none
    else
      some (.inr ((x0, (), x4, ()), ((y2.1, y2.2.1, y2.2.2.1, y2.2.2.2.1, ()), ())))

theorem eL324_3 : ∀ n x, L324_3 n x = fL324_3 n x := by
  intro n
  induction n with
  | zero => intro x; rfl
  | succ n ih =>
    intro x
    obtain ⟨⟨x0, z1, x4, x19, x20, x21, ⟨⟩⟩, ⟨y2, ⟨⟩⟩⟩ := x
    simp only [L324_3, fL324_3, ih, ep340, ep341]

noncomputable def fL324_18 : Nat → ((Unit × Unit × Unit × (Int) × Unit × (List (Rx)) × (Int) × (Int) × Unit) × (((Int) × (Int) × (List ((Int) × ((Int) × ((Bool) × ((List (Int)) × (Unit)))))) × (List (Int)) × Unit) × (List (Int)) × ((Bool) × (List (Int)) × (List (Int)) × Unit) × (Unit × Unit × Unit) × (List (List (Int))) × (List (List ((Int) × (Bool)))) × Unit)) → Option ((Unit × Unit × Unit × (Int) × Unit × (List (Rx)) × (Int) × (Int) × Unit) × (((Int) × (Int) × (List ((Int) × ((Int) × ((Bool) × ((List (Int)) × (Unit)))))) × (List (Int)) × Unit) × (List (Int)) × ((Bool) × (List (Int)) × (List (Int)) × Unit) × (Unit × Unit × Unit) × (List (List (Int))) × (List (List ((Int) × (Bool)))) × Unit))
  | 0, _ => none
  | n + 1, ((_, _, _, x9, _, x42, x43, x44, ()), (y2, y8, y11, _, y442, y443, ())) =>
    if (decide ((y8.length : Int) ≤ (y442.length : Int))) = true then
      if decide (y8.length + ([(-1 : Int)] : List (Int)).length ≤ lim) = true then
        fL324_18 n (((), (), (), x9, (), x42, x43, x44, ()), ((y2.1, y2.2.1, y2.2.2.1, y2.2.2.2.1, ()), (y8 ++ ([(-1 : Int)] : List (Int))), (y11.1, y11.2.1, y11.2.2.1, ()), ((), (), ()), y442, y443, ()))
      else
        none
    else
      some (((), (), (), x9, (), x42, x43, x44, ()), ((y2.1, y2.2.1, y2.2.2.1, y2.2.2.2.1, ()), y8, (y11.1, y11.2.1, y11.2.2.1, ()), ((), (), ()), y442, y443, ()))

theorem eL324_18 : ∀ n x, L324_18 n x = fL324_18 n x := by
  intro n
  induction n with
  | zero => intro x; rfl
  | succ n ih =>
    intro x
    obtain ⟨⟨z1, z2, z3, x9, z4, x42, x43, x44, ⟨⟩⟩, ⟨y2, y8, y11, z5, y442, y443, ⟨⟩⟩⟩ := x
    simp only [L324_18, fL324_18, ih]

noncomputable def fL324_21 : Nat → ((Unit × Unit × Unit × (Int) × Unit × (List (Rx)) × (Int) × (Int) × (List (Int)) × (Int) × (Int) × Unit) × (((Int) × (Int) × (List ((Int) × ((Int) × ((Bool) × ((List (Int)) × (Unit)))))) × (List (Int)) × Unit) × (List (Int)) × ((Bool) × (List (Int)) × (List (Int)) × Unit) × (Unit × Unit × Unit) × (List (List (Int))) × (List (List ((Int) × (Bool)))) × Unit)) → Option ((Unit × Unit × Unit × (Int) × Unit × (List (Rx)) × (Int) × (Int) × Unit) × (((Int) × (Int) × (List ((Int) × ((Int) × ((Bool) × ((List (Int)) × (Unit)))))) × (List (Int)) × Unit) × (List (Int)) × ((Bool) × (List (Int)) × (List (Int)) × Unit) × (Unit × Unit × Unit) × (List (List (Int))) × (List (List ((Int) × (Bool)))) × Unit))
  | 0, _ => none
  | n + 1, ((_, _, _, x9, _, x42, x43, x44, x69, x70, x71, ()), (y2, y8, y11, _, y442, y443, ())) =>
    if (decide (x71 < x70)) = true then
      if decide (0 ≤ x71 ∧ x71 < (x69.length : Int)) = true then
        if decide (0 ≤ (x69.getD x71.toNat 0) ∧ (x69.getD x71.toNat 0) < (y8.length : Int)) = true then
          fL324_21 n (((), (), (), x9, (), x42, x43, x44, x69, x70, (IntKind.i64.wrap (x71 + (1 : Int))), ()), ((y2.1, y2.2.1, y2.2.2.1, y2.2.2.2.1, ()), (y8.set (x69.getD x71.toNat 0).toNat x9), (y11.1, y11.2.1, y11.2.2.1, ()), ((), (), ()), y442, y443, ()))
        else
          none
      else
        none
    else
      some (((), (), (), x9, (), x42, x43, x44, ()), ((y2.1, y2.2.1, y2.2.2.1, y2.2.2.2.1, ()), y8, (y11.1, y11.2.1, y11.2.2.1, ()), ((), (), ()), y442, y443, ()))

theorem eL324_21 : ∀ n x, L324_21 n x = fL324_21 n x := by
  intro n
  induction n with
  | zero => intro x; rfl
  | succ n ih =>
    intro x
    obtain ⟨⟨z1, z2, z3, x9, z4, x42, x43, x44, x69, x70, x71, ⟨⟩⟩, ⟨y2, y8, y11, z5, y442, y443, ⟨⟩⟩⟩ := x
    simp only [L324_21, fL324_21, ih]

noncomputable def fL324_14 : Nat → ((Unit × Unit × Unit × (List (Rx)) × (Int) × (Int) × Unit) × (((Int) × (Int) × (List ((Int) × ((Int) × ((Bool) × ((List (Int)) × (Unit)))))) × (List (Int)) × Unit) × (List (Int)) × (Unit × Unit × Unit) × (List (List (Int))) × (List (List ((Int) × (Bool)))) × Unit)) → Option ((Unit × Unit × Unit × Unit) × (((Int) × (Int) × (List ((Int) × ((Int) × ((Bool) × ((List (Int)) × (Unit)))))) × (List (Int)) × Unit) × (List (Int)) × (Unit × Unit × Unit) × (List (List (Int))) × (List (List ((Int) × (Bool)))) × Unit))
  | 0, _ => none
  | n + 1, ((_, _, _, x42, x43, x44, ()), (y2, y8, _, y440, y441, ())) =>
    if (decide (x44 < x43)) = true then
      if decide (0 ≤ x44 ∧ x44 < (x42.length : Int)) = true then
        (fp342 (((), (Rx.mk (x42.getD x44.toNat (Rx.mk 0 [0, 0, 0, 0] [])).kind [((x42.getD x44.toNat (Rx.mk 0 [0, 0, 0, 0] [])).set.getD 0 0), ((x42.getD x44.toNat (Rx.mk 0 [0, 0, 0, 0] [])).set.getD 1 0), ((x42.getD x44.toNat (Rx.mk 0 [0, 0, 0, 0] [])).set.getD 2 0), ((x42.getD x44.toNat (Rx.mk 0 [0, 0, 0, 0] [])).set.getD 3 0)] (x42.getD x44.toNat (Rx.mk 0 [0, 0, 0, 0] [])).kids), ()), (((), (), ()), y440, y441, ()))).bind fun c1 =>
        (fp343 (((), ([(0 : Int)] : List (Int)), c1.1.2.1, ()), (((), (), ()), c1.2.2.1, c1.2.2.2.1, ()))).bind fun c2 =>
        (flimit fL324_18 (((), (), (), x44, (), x42, x43, x44, ()), ((y2.1, y2.2.1, y2.2.2.1, y2.2.2.2.1, ()), y8, (c1.1.1, c1.1.2.1, c1.1.2.2.1, ()), ((), (), ()), c2.2.2.1, c2.2.2.2.1, ()))).bind fun r3 =>
        (flimit fL324_21 (((), (), (), r3.1.2.2.2.1, (), r3.1.2.2.2.2.2.1, r3.1.2.2.2.2.2.2.1, r3.1.2.2.2.2.2.2.2.1, r3.2.2.2.1.2.2.1, (r3.2.2.2.1.2.2.1.length : Int), (0 : Int), ()), ((r3.2.1.1, r3.2.1.2.1, r3.2.1.2.2.1, r3.2.1.2.2.2.1, ()), r3.2.2.1, (r3.2.2.2.1.1, r3.2.2.2.1.2.1, r3.2.2.2.1.2.2.1, ()), ((), (), ()), r3.2.2.2.2.2.1, r3.2.2.2.2.2.2.1, ()))).bind fun r4 =>
        if r4.2.2.2.1.1 = true then
          if decide (0 ≤ (0 : Int) ∧ (0 : Int) < (r4.2.2.1.length : Int)) = true then
            if (decide ((r4.2.2.1.getD (0 : Int).toNat 0) < (0 : Int))) = true then
              if decide (0 ≤ (0 : Int) ∧ (0 : Int) < (r4.2.2.1.length : Int)) = true then
                fL324_14 n (((), (), (), r4.1.2.2.2.2.2.1, r4.1.2.2.2.2.2.2.1, (IntKind.i64.wrap (r4.1.2.2.2.2.2.2.2.1 + (1 : Int))), ()), ((r4.2.1.1, r4.2.1.2.1, r4.2.1.2.2.1, r4.2.1.2.2.2.1, ()), (r4.2.2.1.set (0 : Int).toNat r4.1.2.2.2.1), ((), (), ()), r4.2.2.2.2.2.1, r4.2.2.2.2.2.2.1, ()))
              else
                none
            else
              fL324_14 n (((), (), (), r4.1.2.2.2.2.2.1, r4.1.2.2.2.2.2.2.1, (IntKind.i64.wrap (r4.1.2.2.2.2.2.2.2.1 + (1 : Int))), ()), ((r4.2.1.1, r4.2.1.2.1, r4.2.1.2.2.1, r4.2.1.2.2.2.1, ()), r4.2.2.1, ((), (), ()), r4.2.2.2.2.2.1, r4.2.2.2.2.2.2.1, ()))
          else
            none
        else
          fL324_14 n (((), (), (), r4.1.2.2.2.2.2.1, r4.1.2.2.2.2.2.2.1, (IntKind.i64.wrap (r4.1.2.2.2.2.2.2.2.1 + (1 : Int))), ()), ((r4.2.1.1, r4.2.1.2.1, r4.2.1.2.2.1, r4.2.1.2.2.2.1, ()), r4.2.2.1, ((), (), ()), r4.2.2.2.2.2.1, r4.2.2.2.2.2.2.1, ()))
      else
        none
    else
      some (((), (), (), ()), ((y2.1, y2.2.1, y2.2.2.1, y2.2.2.2.1, ()), y8, ((), (), ()), y440, y441, ()))

theorem eL324_14 : ∀ n x, L324_14 n x = fL324_14 n x := by
  intro n
  induction n with
  | zero => intro x; rfl
  | succ n ih =>
    intro x
    obtain ⟨⟨z1, z2, z3, x42, x43, x44, ⟨⟩⟩, ⟨y2, y8, z4, y440, y441, ⟨⟩⟩⟩ := x
    simp only [L324_14, fL324_14, ih, limit_flimit eL324_18, limit_flimit eL324_21, ep342, ep343]

noncomputable def fL324_33 : Nat → ((Unit × Unit × Unit × (Int) × Unit × (Int) × (Int) × Unit × (Int) × (Int) × Unit) × (((Int) × (Int) × (List ((Int) × ((Int) × ((Bool) × ((List (Int)) × (Unit)))))) × (List (Int)) × Unit) × (List (Int)) × ((Int) × (Int) × Unit × Unit × Unit) × (Unit × Unit × Unit) × (List (Int)) × (List ((Int) × ((Int) × ((Bool) × ((List (Int)) × (Unit)))))) × (List (List (Int))) × (List (List ((Int) × (Bool)))) × Unit)) → Option ((Unit × Unit × Unit × Unit × (Int) × (Int) × Unit) × (((Int) × (Int) × (List ((Int) × ((Int) × ((Bool) × ((List (Int)) × (Unit)))))) × (List (Int)) × Unit) × (List (Int)) × ((Int) × (Int) × Unit × Unit × Unit) × (Unit × Unit × Unit) × (List ((Int) × ((Int) × ((Bool) × ((List (Int)) × (Unit)))))) × (List (List (Int))) × (List (List ((Int) × (Bool)))) × Unit))
  | 0, _ => none
  | n + 1, ((_, _, _, x15, _, x100, x101, _, x109, x110, ()), (y2, y8, y14, _, y108, y314, y440, y441, ())) =>
    if (decide (x110 < x109)) = true then
      if decide (0 ≤ x110 ∧ x110 < (y108.length : Int)) = true then
        if decide (0 ≤ (IntKind.i64.wrap ((y108.getD x110.toNat 0) - (1 : Int))) ∧ (IntKind.i64.wrap ((y108.getD x110.toNat 0) - (1 : Int))) < (y440.length : Int)) = true then
          if decide (y314.length + ([(x15, ((y108.getD x110.toNat 0), (false, ([((y440.getD (IntKind.i64.wrap ((y108.getD x110.toNat 0) - (1 : Int))).toNat (List.replicate 4 0)).getD 0 0), ((y440.getD (IntKind.i64.wrap ((y108.getD x110.toNat 0) - (1 : Int))).toNat (List.replicate 4 0)).getD 1 0), ((y440.getD (IntKind.i64.wrap ((y108.getD x110.toNat 0) - (1 : Int))).toNat (List.replicate 4 0)).getD 2 0), ((y440.getD (IntKind.i64.wrap ((y108.getD x110.toNat 0) - (1 : Int))).toNat (List.replicate 4 0)).getD 3 0)], ()))))] : List ((Int) × ((Int) × ((Bool) × ((List (Int)) × (Unit)))))).length ≤ lim) = true then
            fL324_33 n (((), (), (), x15, (), x100, x101, (), x109, (IntKind.i64.wrap (x110 + (1 : Int))), ()), ((y2.1, y2.2.1, y2.2.2.1, y2.2.2.2.1, ()), y8, (y14.1, y14.2.1, (), (), ()), ((), (), ()), y108, (y314 ++ ([(x15, ((y108.getD x110.toNat 0), (false, ([((y440.getD (IntKind.i64.wrap ((y108.getD x110.toNat 0) - (1 : Int))).toNat (List.replicate 4 0)).getD 0 0), ((y440.getD (IntKind.i64.wrap ((y108.getD x110.toNat 0) - (1 : Int))).toNat (List.replicate 4 0)).getD 1 0), ((y440.getD (IntKind.i64.wrap ((y108.getD x110.toNat 0) - (1 : Int))).toNat (List.replicate 4 0)).getD 2 0), ((y440.getD (IntKind.i64.wrap ((y108.getD x110.toNat 0) - (1 : Int))).toNat (List.replicate 4 0)).getD 3 0)], ()))))] : List ((Int) × ((Int) × ((Bool) × ((List (Int)) × (Unit))))))), y440, y441, ()))
          else
            none
        else
          none
      else
        none
    else
      some (((), (), (), (), x100, x101, ()), ((y2.1, y2.2.1, y2.2.2.1, y2.2.2.2.1, ()), y8, (y14.1, y14.2.1, (), (), ()), ((), (), ()), y314, y440, y441, ()))

theorem eL324_33 : ∀ n x, L324_33 n x = fL324_33 n x := by
  intro n
  induction n with
  | zero => intro x; rfl
  | succ n ih =>
    intro x
    obtain ⟨⟨z1, z2, z3, x15, z4, x100, x101, z5, x109, x110, ⟨⟩⟩, ⟨y2, y8, y14, z6, y108, y314, y440, y441, ⟨⟩⟩⟩ := x
    simp only [L324_33, fL324_33, ih]

noncomputable def fL324_30 : Nat → ((Unit × Unit × Unit × Unit × (Int) × (Int) × Unit) × (((Int) × (Int) × (List ((Int) × ((Int) × ((Bool) × ((List (Int)) × (Unit)))))) × (List (Int)) × Unit) × (List (Int)) × ((Int) × (Int) × Unit × Unit × Unit) × (Unit × Unit × Unit) × (List ((Int) × ((Int) × ((Bool) × ((List (Int)) × (Unit)))))) × (List (List (Int))) × (List (List ((Int) × (Bool)))) × Unit)) → Option ((Unit × Unit × Unit) × (((Int) × (Int) × (List ((Int) × ((Int) × ((Bool) × ((List (Int)) × (Unit)))))) × (List (Int)) × Unit) × (List (Int)) × ((Int) × (Int) × Unit × Unit × Unit) × (List ((Int) × ((Int) × ((Bool) × ((List (Int)) × (Unit)))))) × Unit))
  | 0, _ => none
  | n + 1, ((_, _, _, _, x100, x101, ()), (y2, y8, y14, _, y314, y440, y441, ())) =>
    if (decide (x101 < x100)) = true then
      if decide (0 ≤ x101 ∧ x101 < (y441.length : Int)) = true then
        if (decide ((y441.getD x101.toNat []).length ≤ lim) && i64ok ((y441.getD x101.toNat []).map (·.1))) = true then
          (flimit fL324_33 (((), (), (), x101, (), x100, x101, (), ((sortedInts ((y441.getD x101.toNat []).map (·.1))).length : Int), (0 : Int), ()), ((y2.1, y2.2.1, y2.2.2.1, y2.2.2.2.1, ()), y8, (y14.1, y14.2.1, (), (), ()), ((), (), ()), (sortedInts ((y441.getD x101.toNat []).map (·.1))), y314, y440, y441, ()))).bind fun r1 =>
          fL324_30 n (((), (), (), (), r1.1.2.2.2.2.1, (IntKind.i64.wrap (r1.1.2.2.2.2.2.1 + (1 : Int))), ()), ((r1.2.1.1, r1.2.1.2.1, r1.2.1.2.2.1, r1.2.1.2.2.2.1, ()), r1.2.2.1, (r1.2.2.2.1.1, r1.2.2.2.1.2.1, (), (), ()), ((), (), ()), r1.2.2.2.2.2.1, r1.2.2.2.2.2.2.1, r1.2.2.2.2.2.2.2.1, ()))
        else
          none
      else
        none
    else
      some (((), (), ()), ((y2.1, y2.2.1, y2.2.2.1, y2.2.2.2.1, ()), y8, (y14.1, y14.2.1, (), (), ()), y314, ()))

theorem eL324_30 : ∀ n x, L324_30 n x = fL324_30 n x := by
  intro n
  induction n with
  | zero => intro x; rfl
  | succ n ih =>
    intro x
    obtain ⟨⟨z1, z2, z3, z4, x100, x101, ⟨⟩⟩, ⟨y2, y8, y14, z5, y314, y440, y441, ⟨⟩⟩⟩ := x
    simp only [L324_30, fL324_30, ih, limit_flimit eL324_33]

noncomputable def fp324 : ((List (Rx)) × Unit) → Option (((Int) × ((Int) × ((List ((Int) × ((Int) × ((Bool) × ((List (Int)) × (Unit)))))) × ((List (Int)) × (Unit))))) × (Int) × Unit)
  | (x0, ()) =>
    (flimit fL324_3 ((x0, (), (0 : Int), x0, (x0.length : Int), (0 : Int), ()), (((0 : Int), (0 : Int), ([] : List ((Int) × ((Int) × ((Bool) × ((List (Int)) × (Unit)))))), ([] : List (Int)), ()), ()))).bind (Sum.elim (fun r1 =>
      some ((r1.2.1.1, (r1.2.1.2.1, (r1.2.1.2.2.1, (r1.2.1.2.2.2.1, ())))), r1.1.2.1, ())) (fun r1 =>
      if (decide (r1.1.2.2.1 > (500 : Int))) = true then
        some (((0 : Int), ((0 : Int), (([] : List ((Int) × ((Int) × ((Bool) × ((List (Int)) × (Unit)))))), (([] : List (Int)), ())))), (11 : Int), ())
      else
        (flimit fL324_14 (((), (), (), r1.1.1, (r1.1.1.length : Int), (0 : Int), ()), ((r1.2.1.1, r1.2.1.2.1, r1.2.1.2.2.1, r1.2.1.2.2.2.1, ()), ([(-1 : Int)] : List (Int)), ((), (), ()), ([] : List (List (Int))), ([([] : List ((Int) × (Bool)))] : List (List ((Int) × (Bool)))), ()))).bind fun r2 =>
        (flimit fL324_30 (((), (), (), (), (r2.2.2.2.2.2.1.length : Int), (0 : Int), ()), ((r2.2.1.1, r2.2.1.2.1, r2.2.1.2.2.1, r2.2.1.2.2.2.1, ()), r2.2.2.1, ((r2.2.2.1.length : Int), (0 : Int), (), (), ()), ((), (), ()), ([] : List ((Int) × ((Int) × ((Bool) × ((List (Int)) × (Unit)))))), r2.2.2.2.2.1, r2.2.2.2.2.2.1, ()))).bind fun r3 =>
        some ((r3.2.2.2.1.1, (r3.2.2.2.1.2.1, (r3.2.2.2.2.1, (r3.2.2.1, ())))), (0 : Int), ())))

theorem ep324 : p324 = fp324 := by
  funext x
  obtain ⟨x0, ⟨⟩⟩ := x
  simp only [p324, fp324, limit_flimit eL324_3, limit_flimit eL324_14, limit_flimit eL324_30]

noncomputable def fL320_3 : Nat → ((Unit × (List (Int)) × (List (Int)) × (Int) × (Int) × Unit) × (((Int) × (Int) × (List ((Int) × ((Int) × ((Bool) × ((List (Int)) × (Unit)))))) × (List (Int)) × Unit) × Unit)) → Option ((Unit × (List (Int)) × Unit) × (((Int) × (Int) × (List ((Int) × ((Int) × ((Bool) × ((List (Int)) × (Unit)))))) × (List (Int)) × Unit) × Unit))
  | 0, _ => none
  | n + 1, ((_, x5, x18, x19, x20, ()), (y2, ())) =>
    if (decide (x20 < x19)) = true then
      if decide (0 ≤ x20 ∧ x20 < (x18.length : Int)) = true then
        (fp43 ((y2.1, (y2.2.1, (y2.2.2.1, (y2.2.2.2.1, ())))), x5, (x18.getD x20.toNat 0), ())).bind fun c1 =>
        fL320_3 n (((), c1, x18, x19, (IntKind.i64.wrap (x20 + (1 : Int))), ()), ((y2.1, y2.2.1, y2.2.2.1, y2.2.2.2.1, ()), ()))
      else
        none
    else
      some (((), x5, ()), ((y2.1, y2.2.1, y2.2.2.1, y2.2.2.2.1, ()), ()))

theorem eL320_3 : ∀ n x, L320_3 n x = fL320_3 n x := by
  intro n
  induction n with
  | zero => intro x; rfl
  | succ n ih =>
    intro x
    obtain ⟨⟨z1, x5, x18, x19, x20, ⟨⟩⟩, ⟨y2, ⟨⟩⟩⟩ := x
    simp only [L320_3, fL320_3, ih, ep43]

noncomputable def fL320_9 : Nat → ((Unit × (Int) × (List (Int)) × (Int) × (Int) × Unit) × (((Int) × (Int) × (List ((Int) × ((Int) × ((Bool) × ((List (Int)) × (Unit)))))) × (List (Int)) × Unit) × Unit)) → Option (((Int) × Unit) × (Unit))
  | 0, _ => none
  | n + 1, ((_, x8, x29, x30, x31, ()), (y2, ())) =>
    if (decide (x31 < x30)) = true then
      if decide (0 ≤ x31 ∧ x31 < (x29.length : Int)) = true then
        if decide (0 ≤ (x29.getD x31.toNat 0) ∧ (x29.getD x31.toNat 0) < (y2.2.2.2.1.length : Int)) = true then
          if (decide ((y2.2.2.2.1.getD (x29.getD x31.toNat 0).toNat 0) ≥ (0 : Int))) = true then
            if (decide (x8 < (0 : Int))) = true then
              fL320_9 n (((), (y2.2.2.2.1.getD (x29.getD x31.toNat 0).toNat 0), x29, x30, (IntKind.i64.wrap (x31 + (1 : Int))), ()), ((y2.1, y2.2.1, y2.2.2.1, y2.2.2.2.1, ()), ()))
            else
              if (decide ((y2.2.2.2.1.getD (x29.getD x31.toNat 0).toNat 0) < x8)) = true then
                fL320_9 n (((), (y2.2.2.2.1.getD (x29.getD x31.toNat 0).toNat 0), x29, x30, (IntKind.i64.wrap (x31 + (1 : Int))), ()), ((y2.1, y2.2.1, y2.2.2.1, y2.2.2.2.1, ()), ()))
              else
                fL320_9 n (((), x8, x29, x30, (IntKind.i64.wrap (x31 + (1 : Int))), ()), ((y2.1, y2.2.1, y2.2.2.1, y2.2.2.2.1, ()), ()))
          else
            fL320_9 n (((), x8, x29, x30, (IntKind.i64.wrap (x31 + (1 : Int))), ()), ((y2.1, y2.2.1, y2.2.2.1, y2.2.2.2.1, ()), ()))
        else
          none
      else
        none
    else
      some ((x8, ()), ())

theorem eL320_9 : ∀ n x, L320_9 n x = fL320_9 n x := by
  intro n
  induction n with
  | zero => intro x; rfl
  | succ n ih =>
    intro x
    obtain ⟨⟨z1, x8, x29, x30, x31, ⟨⟩⟩, ⟨y2, ⟨⟩⟩⟩ := x
    simp only [L320_9, fL320_9, ih]

noncomputable def fp320 : (((Int) × ((Int) × ((List ((Int) × ((Int) × ((Bool) × ((List (Int)) × (Unit)))))) × ((List (Int)) × (Unit))))) × (List UInt8) × Unit) → Option (Int)
  | (x0, x1, ()) =>
    (fp41 ((x0.1, (x0.2.1, (x0.2.2.1, (x0.2.2.2.1, ())))), ([x0.2.1] : List (Int)), ())).bind fun c1 =>
    (flimit fL320_3 (((), c1, (x1.map fun b => (b.toNat : Int)), ((x1.map fun b => (b.toNat : Int)).length : Int), (0 : Int), ()), ((x0.1, x0.2.1, x0.2.2.1, x0.2.2.2.1, ()), ()))).bind fun r2 =>
    (flimit fL320_9 (((), (-1 : Int), r2.1.2.1, (r2.1.2.1.length : Int), (0 : Int), ()), ((r2.2.1.1, r2.2.1.2.1, r2.2.1.2.2.1, r2.2.1.2.2.2.1, ()), ()))).bind fun r3 =>
    some r3.1.1

theorem ep320 : p320 = fp320 := by
  funext x
  obtain ⟨x0, x1, ⟨⟩⟩ := x
  simp only [p320, fp320, limit_flimit eL320_3, limit_flimit eL320_9, ep41]

noncomputable def fp329 : ((Int) × Unit) → Option (Rx)
  | (x0, ()) =>
    if decide ((64 : Int) = 0) = true then
      none
    else
      if decide ((64 : Int) = 0) = true then
        none
      else
        if decide (0 ≤ (x0.tmod (64 : Int))) = true then
          if decide (0 ≤ (IntKind.u8.wrap (x0.tdiv (64 : Int))) ∧ (IntKind.u8.wrap (x0.tdiv (64 : Int))) < (4 : Int)) = true then
            some (Rx.mk (3 : Int) [(([(0 : Int), (0 : Int), (0 : Int), (0 : Int)].set (IntKind.u8.wrap (x0.tdiv (64 : Int))).toNat (IntKind.u64.wrap ((1 : Int) * 2 ^ (min (x0.tmod (64 : Int)).toNat (IntKind.u64.bits))))).getD 0 0), (([(0 : Int), (0 : Int), (0 : Int), (0 : Int)].set (IntKind.u8.wrap (x0.tdiv (64 : Int))).toNat (IntKind.u64.wrap ((1 : Int) * 2 ^ (min (x0.tmod (64 : Int)).toNat (IntKind.u64.bits))))).getD 1 0), (([(0 : Int), (0 : Int), (0 : Int), (0 : Int)].set (IntKind.u8.wrap (x0.tdiv (64 : Int))).toNat (IntKind.u64.wrap ((1 : Int) * 2 ^ (min (x0.tmod (64 : Int)).toNat (IntKind.u64.bits))))).getD 2 0), (([(0 : Int), (0 : Int), (0 : Int), (0 : Int)].set (IntKind.u8.wrap (x0.tdiv (64 : Int))).toNat (IntKind.u64.wrap ((1 : Int) * 2 ^ (min (x0.tmod (64 : Int)).toNat (IntKind.u64.bits))))).getD 3 0)] ([] : List (Rx)))
          else
            none
        else
          none

theorem ep329 : p329 = fp329 := by
  funext x
  obtain ⟨x0, ⟨⟩⟩ := x
  simp only [p329, fp329]

noncomputable def fp311 : (Unit) → Option (Bool)
  | () =>
    (fp329 ((97 : Int), ())).bind fun c1 =>
    (fp329 ((97 : Int), ())).bind fun c2 =>
    (fp329 ((98 : Int), ())).bind fun c3 =>
    (fp324 (([(Rx.mk (6 : Int) [(0 : Int), (0 : Int), (0 : Int), (0 : Int)] ([(Rx.mk c1.kind [(c1.set.getD 0 0), (c1.set.getD 1 0), (c1.set.getD 2 0), (c1.set.getD 3 0)] c1.kids)] : List (Rx))), (Rx.mk (4 : Int) [(0 : Int), (0 : Int), (0 : Int), (0 : Int)] ([(Rx.mk c2.kind [(c2.set.getD 0 0), (c2.set.getD 1 0), (c2.set.getD 2 0), (c2.set.getD 3 0)] c2.kids), (Rx.mk c3.kind [(c3.set.getD 0 0), (c3.set.getD 1 0), (c3.set.getD 2 0), (c3.set.getD 3 0)] c3.kids)] : List (Rx)))] : List (Rx)), ())).bind fun c4 =>
    if (decide (c4.2.1 = (0 : Int))) = true then
      (fp39 ((c4.1.1, (c4.1.2.1, (c4.1.2.2.1, (c4.1.2.2.2.1, ())))), ())).bind fun c5 =>
      if c5 = true then
        (fp320 ((c4.1.1, (c4.1.2.1, (c4.1.2.2.1, (c4.1.2.2.2.1, ())))), ([97, 97] : List UInt8), ())).bind fun c6 =>
        if (decide (c6 = (0 : Int))) = true then
          (fp320 ((c4.1.1, (c4.1.2.1, (c4.1.2.2.1, (c4.1.2.2.2.1, ())))), ([97, 98] : List UInt8), ())).bind fun c7 =>
          if (decide (c7 = (1 : Int))) = true then
            (fp320 ((c4.1.1, (c4.1.2.1, (c4.1.2.2.1, (c4.1.2.2.2.1, ())))), ([98] : List UInt8), ())).bind fun c8 =>
            if (decide (c8 = (-1 : Int))) = true then
              (fp39 (((0 : Int), ((0 : Int), (([] : List ((Int) × ((Int) × ((Bool) × ((List (Int)) × (Unit)))))), (([] : List (Int)), ())))), ())).bind fun c9 =>
              some (!c9)
            else
              some false
          else
            some false
        else
          some false
      else
        some false
    else
      some false

theorem ep311 : p311 = fp311 := by
  funext x
  obtain ⟨⟩ := x
  simp only [p311, fp311, ep329, ep324, ep39, ep320]

end Go.AM

/- The examples of the document hold. -/
namespace Go.AM
open Go
theorem awake_true : p311 () = some true := by
  rw [ep311]
  kernel_rfl
end Go.AM

/- The law on errors, plain. -/
namespace Go.AM
open Go

theorem mem_arcsTo {S : List (List Int)} {B : List (List (Int × Bool))} {n : Nat} {a : Arc'} : a ∈ arcsTo S B n ↔ ∃ p q, p < n ∧ q ∈ kys (B.getD p []) ∧ a = arcOf S (p : Int) q := by
  unfold arcsTo
  rw [List.mem_flatMap]
  constructor
  · rintro ⟨p, hp, ha⟩
    unfold rowOf at ha
    obtain ⟨q, hq, rfl⟩ := List.mem_map.1 ha
    exact ⟨p, q, List.mem_range.1 hp, srt_mem.1 hq, rfl⟩
  · rintro ⟨p, q, hp, hq, rfl⟩
    exact ⟨p, List.mem_range.2 hp, List.mem_map.2 ⟨q, srt_mem.2 hq, rfl⟩⟩

def Ge (a : List Int) : Prop := ∀ x ∈ a, -1 ≤ x
theorem Ge.set {a : List Int} (h : Ge a) {p : Nat} {i : Int} (hi : -1 ≤ i) : Ge (a.set p i) := fun x hx => by
  rcases List.mem_or_eq_of_mem_set hx with h1 | h1
  · exact h x h1
  · omega
theorem Ge.setAll {i : Int} (hi : -1 ≤ i) : ∀ (ps : List Int) {a : List Int}, Ge a → Ge (setAll i a ps)
  | [], _, h => h
  | p :: ps, a, h => Ge.setAll hi ps (h.set hi)
theorem Ge.acS {r : Rx} {o : Nat} {i : Int} {acc : List Int} (h : Ge acc) (hi : -1 ≤ i) : Ge (acS r o i acc) := by
  unfold Go.AM.acS
  have h1 : Ge (acc ++ List.replicate (lv r).length (-1)) := fun x hx => by
    rcases List.mem_append.1 hx with h1 | h1
    · exact h x h1
    · have := (List.mem_replicate.1 h1).2; omega
  simp only
  split
  · exact (Ge.setAll hi _ h1).set hi
  · exact Ge.setAll hi _ h1
theorem Ge.acA : ∀ (l : List Rx) (o i : Nat) {acc : List Int}, Ge acc → Ge (acA l o i acc)
  | [], _, _, _, h => h
  | r :: l, o, i, acc, h => Ge.acA l _ _ (h.acS (by omega))

theorem nfaA_valid {l : List Rx} (hn : (lvL l).length ≤ 1999) : VNfa (nfaA l).1 (nfaA l).2.1 (nfaA l).2.2.1 (nfaA l).2.2.2.1 := by
  refine ⟨?_, ?_, Int.le_refl _, ?_, ?_, fun i hi => ?_, fun i hi => ?_⟩
  · show (1 : Int) ≤ (((lvL l).length + 1 : Nat) : Int); omega
  · show (((lvL l).length + 1 : Nat) : Int) ≤ 2000; omega
  · show (0 : Int) < (((lvL l).length + 1 : Nat) : Int); omega
  · show (((acA l 0 0 [-1]).length : Nat) : Int) = (((lvL l).length + 1 : Nat) : Int)
    rw [acA_length]; simp; omega
  · have hm : (nfaA l).2.2.1.getD i ad ∈ arcsTo (lvL l) (mapsA l) ((lvL l).length + 1) := getD_mem hi
    obtain ⟨p, q, hp, hq, e⟩ := mem_arcsTo.1 hm
    have hk := (mapsA_KB l p (by rw [mapsA_length]; exact hp)).2 q hq
    rw [e]
    refine ⟨?_, ?_, ?_, ?_, fun h => by cases h⟩
    · show (0 : Int) ≤ (p : Int); omega
    · show (p : Int) < (((lvL l).length + 1 : Nat) : Int); omega
    · show (0 : Int) ≤ q; omega
    · show q < (((lvL l).length + 1 : Nat) : Int); omega
  · have hg : Ge (acA l 0 0 [-1]) := Ge.acA l 0 0 (fun x hx => by simp at hx; omega)
    exact hg _ (getD_mem hi)

theorem p39_nfaA {l : List Rx} (hn : (lvL l).length ≤ 1999) : p39 (((nfaA l).1, ((nfaA l).2.1, ((nfaA l).2.2.1, ((nfaA l).2.2.2.1, ())))), ()) = some true := by
  have hal : (nfaA l).2.2.1.length ≤ 9223372036854775807 := by
    have h1 := arcsTo_len (mapsA_KB l) ((lvL l).length + 1) (by rw [mapsA_length]; exact Nat.le_refl _)
    have h2 : ((lvL l).length + 1) * (lvL l).length ≤ 2000 * 2000 := Nat.mul_le_mul (by omega) (by omega)
    show (arcsTo _ _ _).length ≤ _
    omega
  obtain ⟨b, h1, h2⟩ := p39_spec (st := (nfaA l).1) (start := (nfaA l).2.1) (arcs := (nfaA l).2.2.1) (acc := (nfaA l).2.2.2.1) hal
  rw [h1, h2.2 (nfaA_valid hn)]

theorem p39_zero : p39 (((0 : Int), ((0 : Int), (([] : List Arc'), (([] : List Int), ())))), ()) = some false := by
  obtain ⟨b, h1, h2⟩ := p39_spec (st := 0) (start := 0) (arcs := []) (acc := []) (by simp)
  cases b with
  | false => exact h1
  | true => have := (h2.1 rfl).s1; omega

theorem plain310 {l : List Rx} (hw : ∀ r ∈ l, wfR r) (hn : nnL l ≤ 1152921504606846976) : p310 (l, ()) = some true := by
  simp only [p310]
  rw [awake_true, Option.bind_some, if_neg (by decide)]
  by_cases h1 : (l.length : Int) > 40
  · rw [if_pos (ct h1)]
  · rw [if_neg (cf h1)]
    obtain ⟨a1, a2, a3⟩ := p324_spec hw (by omega) hn
    obtain ⟨b1, b2⟩ := p328_spec hw (by omega) hn
    by_cases hv : AllV l
    · by_cases h5 : nnL l > 500
      · rw [a2 hv h5, b1 hv, if_pos h5]
        simp only [Option.bind_some]
        rw [if_pos (ct trivial), p39_zero]
        rfl
      · have hlv := lvL_le l
        rw [a3 hv (by omega), b1 hv, if_neg h5]
        simp only [Option.bind_some]
        rw [if_pos (ct trivial), p39_nfaA (by omega)]
        rfl
    · rw [a1 hv, b2 hv]
      simp only [Option.bind_some]
      rw [if_pos (ct trivial), p39_zero]
      rfl

theorem pure310 (l : List Rx) (y : ShL (([] : List Kind).map Sh.kd)) (hw : ∀ r ∈ l, wfR r) (hn : nnL l ≤ 1048576) (_ : wfL [] y) : p310 (l, y) = some true := by
  obtain ⟨⟩ := y
  exact plain310 hw (by omega)
end Go.AM

/- Languages and position automata, plain. -/
namespace Go.AM
open Go

inductive Star (P : List UInt8 → Prop) : List UInt8 → Prop
  | nil : Star P []
  | cons (u v : List UInt8) : P u → Star P v → Star P (u ++ v)

theorem Star.snoc {P : List UInt8 → Prop} {u v : List UInt8} (hu : Star P u) (hv : P v) : Star P (u ++ v) := by
  induction hu with
  | nil => have := Star.cons v [] hv .nil; simpa using this
  | cons a b h1 _ ih => rw [List.append_assoc]; exact .cons a _ h1 ih

/-- a nonempty word leads from the first positions to q -/
inductive En (f : Int → Prop) (F : Int → Int → Prop) (T : Int → UInt8 → Prop) : List UInt8 → Int → Prop
  | one (b : UInt8) (q : Int) : f q → T q b → En f F T [b] q
  | more (w : List UInt8) (p q : Int) (b : UInt8) : En f F T w p → F p q → T q b → En f F T (w ++ [b]) q

section
variable {f g : Int → Prop} {F G : Int → Int → Prop} {T : Int → UInt8 → Prop}

theorem En.ne {w : List UInt8} {q : Int} (h : En f F T w q) : w ≠ [] := by cases h <;> simp
theorem En.mono (hf : ∀ q, f q → g q) (hF : ∀ p q, F p q → G p q) {w : List UInt8} {q : Int} (h : En f F T w q) : En g G T w q := by
  induction h with
  | one b q h1 h2 => exact .one b q (hf q h1) h2
  | more w p q b _ h2 h3 ih => exact .more w p q b ih (hF p q h2) h3

def mf (l : List Int) : Int → Prop := fun q => q ∈ l
def mF (l : List (Int × Int)) : Int → Int → Prop := fun p q => (p, q) ∈ l

/-- the word is accepted -/
def Ac (T : Int → UInt8 → Prop) (x : Pt) (F : List (Int × Int)) (w : List UInt8) : Prop := (w = [] ∧ x.n = true) ∨ ∃ q, q ∈ x.l ∧ En (mf x.f) (mF F) T w q

theorem Ac.nil_iff {x : Pt} {F : List (Int × Int)} : Ac T x F [] ↔ x.n = true := by
  constructor
  · rintro (⟨_, h⟩ | ⟨q, _, h⟩)
    · exact h
    · exact absurd rfl h.ne
  · exact fun h => .inl ⟨rfl, h⟩

theorem En_range {o m : Nat} {x : Pt} {F : List (Int × Int)} (hx : Pin o m x) (hF : FIn o m F) {w : List UInt8} {q : Int} (h : En (mf x.f) (mF F) T w q) : (o : Int) < q ∧ q ≤ ((o + m : Nat) : Int) := by
  cases h with
  | one b q h1 _ => exact hx.1 q h1
  | more w p q b _ h2 _ => exact (hF _ h2).2

/-- concatenation -/
theorem Ac_cat {o m k : Nat} {x y : Pt} {Fx Fy : List (Int × Int)} (hx : Pin o m x) (hFx : FIn o m Fx) (hy : Pin (o + m) k y) (hFy : FIn (o + m) k Fy) (w : List UInt8) :
    Ac T (catP x y) (Fx ++ Fy ++ prs x.l y.f) w ↔ ∃ u v, w = u ++ v ∧ Ac T x Fx u ∧ Ac T y Fy v := by
  have key : ∀ {w : List UInt8} {q : Int}, En (mf (catP x y).f) (mF (Fx ++ Fy ++ prs x.l y.f)) T w q →
      (En (mf x.f) (mF Fx) T w q) ∨ ∃ u v, w = u ++ v ∧ Ac T x Fx u ∧ En (mf y.f) (mF Fy) T v q := by
    intro w q h
    induction h with
    | one b q h1 h2 =>
      unfold mf catP at h1
      simp only at h1
      split at h1
      · rename_i hn
        rcases List.mem_append.1 h1 with h1 | h1
        · exact .inl (.one b q h1 h2)
        · exact .inr ⟨[], [b], rfl, .inl ⟨rfl, hn⟩, .one b q h1 h2⟩
      · exact .inl (.one b q h1 h2)
    | more w p q b _ h2 h3 ih =>
      unfold mF at h2
      rcases List.mem_append.1 h2 with h2 | h2
      · rcases List.mem_append.1 h2 with h2 | h2
        · rcases ih with ih | ⟨u, v, rfl, hu, hv⟩
          · exact .inl (.more w p q b ih h2 h3)
          · have r1 := En_range hy hFy hv
            have r2 := (hFx _ h2).1
            simp only at r2
            omega
        · rcases ih with ih | ⟨u, v, rfl, hu, hv⟩
          · have r1 := En_range hx hFx ih
            have r2 := (hFy _ h2).1
            simp only at r2
            omega
          · exact .inr ⟨u, v ++ [b], by simp, hu, .more v p q b hv h2 h3⟩
      · obtain ⟨g1, g2⟩ := mem_prs.1 h2
        rcases ih with ih | ⟨u, v, rfl, hu, hv⟩
        · exact .inr ⟨w, [b], rfl, .inr ⟨p, g1, ih⟩, .one b q g2 h3⟩
        · have r1 := En_range hy hFy hv
          have r2 := hx.2.1 _ g1
          omega
  have back : ∀ {u v : List UInt8} {q : Int}, Ac T x Fx u → En (mf y.f) (mF Fy) T v q → En (mf (catP x y).f) (mF (Fx ++ Fy ++ prs x.l y.f)) T (u ++ v) q := by
    intro u v q hu hv
    induction hv with
    | one b q h1 h2 =>
      rcases hu with ⟨rfl, hn⟩ | ⟨p, hp, hu⟩
      · refine .one b q ?_ h2
        unfold mf catP
        simp only [hn, if_true]
        exact List.mem_append_right _ h1
      · refine .more u p q b (hu.mono (fun q hq => ?_) (fun p q h => ?_)) ?_ h2
        · unfold mf catP
          simp only
          split
          · exact List.mem_append_left _ hq
          · exact hq
        · exact List.mem_append_left _ (List.mem_append_left _ h)
        · exact List.mem_append_right _ (mem_prs.2 ⟨hp, h1⟩)
    | more v p q b _ h2 h3 ih =>
      rw [← List.append_assoc]
      exact .more _ p q b ih (List.mem_append_left _ (List.mem_append_right _ h2)) h3
  constructor
  · rintro (⟨rfl, hn⟩ | ⟨q, hq, h⟩)
    · unfold catP at hn
      simp only [Bool.and_eq_true] at hn
      exact ⟨[], [], rfl, .inl ⟨rfl, hn.1⟩, .inl ⟨rfl, hn.2⟩⟩
    · unfold catP at hq
      simp only at hq
      rcases key h with h | ⟨u, v, rfl, hu, hv⟩
      · split at hq
        · rename_i hn
          rcases List.mem_append.1 hq with hq | hq
          · exact ⟨w, [], by simp, .inr ⟨q, hq, h⟩, .inl ⟨rfl, hn⟩⟩
          · have r1 := En_range hx hFx h
            have r2 := hy.2.1 _ hq
            omega
        · have r1 := En_range hx hFx h
          have r2 := hy.2.1 _ hq
          omega
      · refine ⟨u, v, rfl, hu, .inr ⟨q, ?_, hv⟩⟩
        split at hq
        · rcases List.mem_append.1 hq with hq | hq
          · have r1 := En_range hy hFy hv
            have r2 := hx.2.1 _ hq
            omega
          · exact hq
        · exact hq
  · rintro ⟨u, v, rfl, hu, hv⟩
    rcases hv with ⟨rfl, hn⟩ | ⟨q, hq, hv⟩
    · rw [List.append_nil]
      rcases hu with ⟨rfl, hn'⟩ | ⟨p, hp, hu⟩
      · exact .inl ⟨rfl, by unfold catP; simp [hn, hn']⟩
      · refine .inr ⟨p, ?_, hu.mono (fun q hq => ?_) (fun p q h => List.mem_append_left _ (List.mem_append_left _ h))⟩
        · unfold catP
          simp only [hn, if_true]
          exact List.mem_append_left _ hp
        · unfold mf catP
          simp only
          split
          · exact List.mem_append_left _ hq
          · exact hq
    · refine .inr ⟨q, ?_, back hu hv⟩
      unfold catP
      simp only
      split
      · exact List.mem_append_right _ hq
      · exact hq

/-- union -/
theorem Ac_uni {o m k : Nat} {x y : Pt} {Fx Fy : List (Int × Int)} (hx : Pin o m x) (hFx : FIn o m Fx) (hy : Pin (o + m) k y) (hFy : FIn (o + m) k Fy) (w : List UInt8) :
    Ac T (uniP x y) (Fx ++ Fy) w ↔ Ac T x Fx w ∨ Ac T y Fy w := by
  have key : ∀ {w : List UInt8} {q : Int}, En (mf (uniP x y).f) (mF (Fx ++ Fy)) T w q → En (mf x.f) (mF Fx) T w q ∨ En (mf y.f) (mF Fy) T w q := by
    intro w q h
    induction h with
    | one b q h1 h2 =>
      rcases List.mem_append.1 h1 with h1 | h1
      · exact .inl (.one b q h1 h2)
      · exact .inr (.one b q h1 h2)
    | more w p q b _ h2 h3 ih =>
      rcases List.mem_append.1 h2 with h2 | h2
      · rcases ih with ih | ih
        · exact .inl (.more w p q b ih h2 h3)
        · have r1 := En_range hy hFy ih
          have r2 := (hFx _ h2).1
          simp only at r2
          omega
      · rcases ih with ih | ih
        · have r1 := En_range hx hFx ih
          have r2 := (hFy _ h2).1
          simp only at r2
          omega
        · exact .inr (.more w p q b ih h2 h3)
  constructor
  · rintro (⟨rfl, hn⟩ | ⟨q, hq, h⟩)
    · unfold uniP at hn
      simp only [Bool.or_eq_true] at hn
      rcases hn with hn | hn
      · exact .inl (.inl ⟨rfl, hn⟩)
      · exact .inr (.inl ⟨rfl, hn⟩)
    · rcases key h with h | h
      · left
        refine .inr ⟨q, ?_, h⟩
        rcases List.mem_append.1 hq with hq | hq
        · exact hq
        · have r1 := En_range hx hFx h
          have r2 := hy.2.1 _ hq
          omega
      · right
        refine .inr ⟨q, ?_, h⟩
        rcases List.mem_append.1 hq with hq | hq
        · have r1 := En_range hy hFy h
          have r2 := hx.2.1 _ hq
          omega
        · exact hq
  · rintro (h | h)
    · rcases h with ⟨rfl, hn⟩ | ⟨q, hq, h⟩
      · exact .inl ⟨rfl, by unfold uniP; simp [hn]⟩
      · exact .inr ⟨q, List.mem_append_left _ hq, h.mono (fun q hq => List.mem_append_left _ hq) (fun p q h => List.mem_append_left _ h)⟩
    · rcases h with ⟨rfl, hn⟩ | ⟨q, hq, h⟩
      · exact .inl ⟨rfl, by unfold uniP; simp [hn]⟩
      · exact .inr ⟨q, List.mem_append_right _ hq, h.mono (fun q hq => List.mem_append_right _ hq) (fun p q h => List.mem_append_right _ h)⟩

/-- repetition -/
theorem Ac_star {x : Pt} {F : List (Int × Int)} (w : List UInt8) : Ac T ⟨true, x.f, x.l⟩ (F ++ prs x.l x.f) w ↔ Star (Ac T x F) w := by
  have key : ∀ {w : List UInt8} {q : Int}, En (mf x.f) (mF (F ++ prs x.l x.f)) T w q → ∃ u v, w = u ++ v ∧ Star (Ac T x F) u ∧ En (mf x.f) (mF F) T v q := by
    intro w q h
    induction h with
    | one b q h1 h2 => exact ⟨[], [b], rfl, .nil, .one b q h1 h2⟩
    | more w p q b _ h2 h3 ih =>
      obtain ⟨u, v, rfl, hu, hv⟩ := ih
      rcases List.mem_append.1 h2 with h2 | h2
      · exact ⟨u, v ++ [b], by simp, hu, .more v p q b hv h2 h3⟩
      · obtain ⟨g1, g2⟩ := mem_prs.1 h2
        exact ⟨u ++ v, [b], rfl, hu.snoc (.inr ⟨p, g1, hv⟩), .one b q g2 h3⟩
  have join : ∀ {u v : List UInt8} {p q : Int}, p ∈ x.l → En (mf x.f) (mF (F ++ prs x.l x.f)) T u p → En (mf x.f) (mF (F ++ prs x.l x.f)) T v q → En (mf x.f) (mF (F ++ prs x.l x.f)) T (u ++ v) q := by
    intro u v p q hp hu hv
    induction hv with
    | one b q h1 h2 => exact .more u p q b hu (List.mem_append_right _ (mem_prs.2 ⟨hp, h1⟩)) h2
    | more v p' q b _ h2 h3 ih => rw [← List.append_assoc]; exact .more _ p' q b ih h2 h3
  constructor
  · rintro (⟨rfl, _⟩ | ⟨q, hq, h⟩)
    · exact .nil
    · obtain ⟨u, v, rfl, hu, hv⟩ := key h
      exact hu.snoc (.inr ⟨q, hq, hv⟩)
  · intro h
    induction h with
    | nil => exact .inl ⟨rfl, rfl⟩
    | cons u v hu _ ih =>
      rcases hu with ⟨rfl, _⟩ | ⟨p, hp, hu⟩
      · exact ih
      · have hu' := hu.mono (g := mf x.f) (G := mF (F ++ prs x.l x.f)) (fun _ h => h) (fun _ _ h => List.mem_append_left _ h)
        rcases ih with ⟨rfl, _⟩ | ⟨q, hq, hv⟩
        · rw [List.append_nil]; exact .inr ⟨p, hp, hu'⟩
        · exact .inr ⟨q, hq, join hp hu' hv⟩
end

-- the language of an expression (S: what byte a set has)
mutual
def Mt (hb : List Int → UInt8 → Prop) : Rx → List UInt8 → Prop
  | .mk k s ks => fun w => (k = 2 ∧ w = []) ∨ (k = 3 ∧ ∃ b, w = [b] ∧ hb s b) ∨ (k = 4 ∧ MtC hb ks w) ∨ (k = 5 ∧ MtU hb ks w) ∨ (k = 6 ∧ Star (MtU hb ks) w)
def MtC (hb : List Int → UInt8 → Prop) : List Rx → List UInt8 → Prop
  | [] => fun w => w = []
  | r :: rs => fun w => ∃ u v, w = u ++ v ∧ Mt hb r u ∧ MtC hb rs v
def MtU (hb : List Int → UInt8 → Prop) : List Rx → List UInt8 → Prop
  | [] => fun _ => False
  | r :: rs => fun w => Mt hb r w ∨ MtU hb rs w
end

theorem Star.congr {P Q : List UInt8 → Prop} (h : ∀ w, P w ↔ Q w) (w : List UInt8) : Star P w ↔ Star Q w := by
  constructor
  · intro hs
    induction hs with
    | nil => exact .nil
    | cons u v h1 _ ih => exact .cons u v ((h u).1 h1) ih
  · intro hs
    induction hs with
    | nil => exact .nil
    | cons u v h1 _ ih => exact .cons u v ((h u).2 h1) ih

section
variable {hb : List Int → UInt8 → Prop} {T : Int → UInt8 → Prop}

/-- the positions behind o carry these sets -/
def Carry (hb : List Int → UInt8 → Prop) (T : Int → UInt8 → Prop) (o : Nat) (S : List (List Int)) : Prop := ∀ (i : Nat) (s : List Int), S[i]? = some s → ∀ b, T ((o + i + 1 : Nat) : Int) b ↔ hb s b

theorem Carry.left {o : Nat} {S R : List (List Int)} (h : Carry hb T o (S ++ R)) : Carry hb T o S := fun i s hi => h i s (by rw [List.getElem?_append_left (List.getElem?_eq_some_iff.1 hi).1]; exact hi)
theorem Carry.right {o : Nat} {S R : List (List Int)} (h : Carry hb T o (S ++ R)) : Carry hb T (o + S.length) R := fun i s hi => by
  have := h (S.length + i) s (by rw [List.getElem?_append_right (by omega)]; simpa using hi)
  rwa [← Nat.add_assoc] at this

theorem Ac_empty {F : List (Int × Int)} {b : Bool} (w : List UInt8) : Ac T ⟨b, [], []⟩ F w ↔ w = [] ∧ b = true := by
  constructor
  · rintro (h | ⟨q, hq, _⟩)
    · exact h
    · cases hq
  · exact fun h => .inl h

mutual
/-- a position automaton accepts the language -/
theorem gk : ∀ (r : Rx) (o : Nat), Carry hb T o (lv r) → ∀ w, Ac T (gl r o) (fl r o) w ↔ Mt hb r w
  | .mk k s ks, o, hc, w => by
    unfold gl fl Mt
    unfold lv at hc
    by_cases h2 : k = 2
    · subst h2
      rw [if_pos rfl, Ac_empty]
      simp
    · rw [if_neg h2]
      by_cases h3 : k = 3
      · subst h3
        rw [if_pos rfl] at hc ⊢
        rw [if_neg (show ¬ ((3 : Int) = 4) by decide), if_neg (show ¬ ((3 : Int) = 5) by decide), if_neg (show ¬ ((3 : Int) = 6) by decide)]
        have hT := hc 0 s rfl
        constructor
        · rintro (⟨_, h⟩ | ⟨q, hq, h⟩)
          · cases h
          · refine .inr (.inl ⟨rfl, ?_⟩)
            cases h with
            | one b q h1 h2 =>
              simp only [mf, List.mem_singleton] at h1
              subst h1
              exact ⟨b, rfl, (hT b).1 h2⟩
            | more w p q b _ h2 _ => cases h2
        · rintro (⟨h, _⟩ | ⟨_, b, rfl, hb⟩ | ⟨h, _⟩ | ⟨h, _⟩ | ⟨h, _⟩)
          · cases h
          · exact .inr ⟨_, List.mem_singleton.2 rfl, .one b _ (List.mem_singleton.2 rfl) ((hT b).2 hb)⟩
          · cases h
          · cases h
          · cases h
      · rw [if_neg h3] at hc ⊢
        by_cases h4 : k = 4
        · subst h4
          rw [if_pos rfl] at hc
          rw [if_pos rfl, if_pos rfl]
          have := gkC ks o 0 ⟨true, [], []⟩ [] (.nil _ _ _) (fun x hx => by cases hx) hc w
          simp only [Nat.add_zero, List.nil_append] at this
          rw [this]
          constructor
          · rintro ⟨u, v, rfl, h1, h5⟩
            have := (Ac_empty u).1 h1
            rw [this.1]
            exact .inr (.inr (.inl ⟨rfl, h5⟩))
          · rintro (⟨h, _⟩ | ⟨h, _⟩ | ⟨_, h⟩ | ⟨h, _⟩ | ⟨h, _⟩)
            · cases h
            · cases h
            · exact ⟨[], w, rfl, (Ac_empty []).2 ⟨rfl, rfl⟩, h⟩
            · cases h
            · cases h
        · rw [if_neg h4] at hc ⊢
          rw [if_neg h4]
          by_cases h5 : k = 5
          · subst h5
            rw [if_pos rfl] at hc
            rw [if_pos rfl, if_pos rfl]
            have := gkU ks o 0 ⟨false, [], []⟩ [] (.nil _ _ _) (fun x hx => by cases hx) hc w
            simp only [Nat.add_zero, List.nil_append] at this
            rw [this, Ac_empty]
            constructor
            · rintro (⟨_, h⟩ | h)
              · cases h
              · exact .inr (.inr (.inr (.inl ⟨rfl, h⟩)))
            · rintro (⟨h, _⟩ | ⟨h, _⟩ | ⟨h, _⟩ | ⟨_, h⟩ | ⟨h, _⟩)
              · cases h
              · cases h
              · cases h
              · exact .inr h
              · cases h
          · rw [if_neg h5] at hc ⊢
            rw [if_neg h5]
            by_cases h6 : k = 6
            · subst h6
              rw [if_pos rfl] at hc
              rw [if_pos rfl, if_pos rfl, Ac_star]
              have := gkU ks o 0 ⟨false, [], []⟩ [] (.nil _ _ _) (fun x hx => by cases hx) hc
              simp only [Nat.add_zero, List.nil_append] at this
              rw [Star.congr (Q := MtU hb ks) (fun w => by rw [this w, Ac_empty]; simp)]
              constructor
              · exact fun h => .inr (.inr (.inr (.inr ⟨rfl, h⟩)))
              · rintro (⟨h, _⟩ | ⟨h, _⟩ | ⟨h, _⟩ | ⟨h, _⟩ | ⟨_, h⟩)
                · cases h
                · cases h
                · cases h
                · cases h
                · exact h
            · rw [if_neg h6, if_neg h6, Ac_empty]
              simp [h2, h3, h4, h5, h6]
theorem gkC : ∀ (l : List Rx) (o m : Nat) (x : Pt) (Fx : List (Int × Int)), Pin o m x → FIn o m Fx → Carry hb T (o + m) (lvL l) → ∀ w,
    Ac T (glC l (o + m) x) (Fx ++ flC l (o + m) x) w ↔ ∃ u v, w = u ++ v ∧ Ac T x Fx u ∧ MtC hb l v
  | [], o, m, x, Fx, hx, hF, hc, w => by
    unfold glC flC MtC
    rw [List.append_nil]
    constructor
    · exact fun h => ⟨w, [], by simp, h, rfl⟩
    · rintro ⟨u, v, rfl, h, rfl⟩; rw [List.append_nil]; exact h
  | r :: l, o, m, x, Fx, hx, hF, hc, w => by
    unfold lvL at hc
    unfold glC flC MtC
    have hg := gl_pin r (o + m)
    have hf := fl_in r (o + m)
    have hcat := Ac_cat (T := T) hx hF hg hf
    have hF2 : FIn o (m + (lv r).length) (Fx ++ fl r (o + m) ++ prs x.l (gl r (o + m)).f) := by
      intro z hz
      rcases List.mem_append.1 hz with hz | hz
      · rcases List.mem_append.1 hz with hz | hz
        · have := hF z hz; constructor <;> constructor <;> omega
        · have := hf z hz; constructor <;> constructor <;> omega
      · obtain ⟨g1, g2⟩ := mem_prs.1 hz
        have a1 := hx.2.1 _ g1
        have a2 := hg.1 _ g2
        constructor <;> constructor <;> omega
    have ih := gkC l o (m + (lv r).length) (catP x (gl r (o + m))) _ (hx.cat hg) hF2 (by have := hc.right; rwa [Nat.add_assoc] at this) w
    rw [Nat.add_assoc o m, show Fx ++ (fl r (o + m) ++ prs x.l (gl r (o + m)).f ++ flC l (o + (m + (lv r).length)) (catP x (gl r (o + m)))) = Fx ++ fl r (o + m) ++ prs x.l (gl r (o + m)).f ++ flC l (o + (m + (lv r).length)) (catP x (gl r (o + m))) by simp, ih]
    have hr := gk r (o + m) hc.left
    constructor
    · rintro ⟨u, v, rfl, h1, h2⟩
      obtain ⟨a, b, rfl, h3, h4⟩ := (hcat u).1 h1
      exact ⟨a, b ++ v, by simp, h3, b, v, rfl, (hr b).1 h4, h2⟩
    · rintro ⟨u, v, rfl, h1, a, b, rfl, h2, h3⟩
      exact ⟨u ++ a, b, by simp, (hcat _).2 ⟨u, a, rfl, h1, (hr a).2 h2⟩, h3⟩
theorem gkU : ∀ (l : List Rx) (o m : Nat) (x : Pt) (Fx : List (Int × Int)), Pin o m x → FIn o m Fx → Carry hb T (o + m) (lvL l) → ∀ w,
    Ac T (glU l (o + m) x) (Fx ++ flU l (o + m)) w ↔ Ac T x Fx w ∨ MtU hb l w
  | [], o, m, x, Fx, hx, hF, hc, w => by
    unfold glU flU MtU
    rw [List.append_nil]
    simp
  | r :: l, o, m, x, Fx, hx, hF, hc, w => by
    unfold lvL at hc
    unfold glU flU MtU
    have hg := gl_pin r (o + m)
    have hf := fl_in r (o + m)
    have huni := Ac_uni (T := T) hx hF hg hf
    have hF2 : FIn o (m + (lv r).length) (Fx ++ fl r (o + m)) := by
      intro z hz
      rcases List.mem_append.1 hz with hz | hz
      · have := hF z hz; constructor <;> constructor <;> omega
      · have := hf z hz; constructor <;> constructor <;> omega
    have ih := gkU l o (m + (lv r).length) (uniP x (gl r (o + m))) _ (hx.uni hg) hF2 (by have := hc.right; rwa [Nat.add_assoc] at this) w
    rw [Nat.add_assoc o m, ← List.append_assoc, ih, huni w, gk r (o + m) hc.left w, or_assoc]
end
end
end Go.AM

/- Closures: the states that epsilon arcs reach, by the program and by the reference. Printed by clo.py. -/
namespace Go.AM
open Go

/-- reached from l by epsilon arcs -/
inductive RC (arcs : List Arc) (N : Nat) (l : List Int) : Nat → Prop
  | base (q : Nat) : q < N → (q : Int) ∈ l → RC arcs N l q
  | step (i p q : Nat) : i < arcs.length → (arcs.getD i ad).2.2.1 = true → (arcs.getD i ad).1 = (p : Int) → (arcs.getD i ad).2.1 = (q : Int) → RC arcs N l p → RC arcs N l q

open Classical in
noncomputable def clo (arcs : List Arc) (N : Nat) (l : List Int) : List Int := ((List.range N).filter fun q => decide (RC arcs N l q)).map fun q : Nat => (q : Int)

abbrev NfaC : Type := (Int) × (Int) × (List ((Int) × ((Int) × ((Bool) × ((List (Int)) × (Unit)))))) × (List (Int)) × Unit

open Classical in
theorem marks_clo {arcs : List Arc} {N : Nat} {l : List Int} {M : List Bool} (h : ∀ q, q < N → (M.getD q false = true ↔ RC arcs N l q)) :
    ((List.range N).filter fun q => M.getD q false).map (fun q : Nat => (q : Int)) = clo arcs N l := by
  unfold clo
  congr 1
  apply List.filter_congr
  intro q hq
  have := h q (List.mem_range.1 hq)
  cases hc : M.getD q false with
  | true => rw [hc] at this; exact (decide_eq_true (this.1 rfl)).symm
  | false =>
    rw [hc] at this
    exact (decide_eq_false fun hh => by have := this.2 hh; cases this).symm

section
variable {N : Nat} {st start : Int} {arcs : List Arc} {acc : List Int} {l : List Int}

theorem rc_lt (hN : st = (N : Int)) (har : ∀ i, i < arcs.length → ArcOk st (arcs.getD i ad)) {q : Nat} (h : RC arcs N l q) : q < N := by
  cases h with
  | base _ h1 _ => exact h1
  | step i p _ hi _ _ h4 _ =>
    have := har i hi
    obtain ⟨_, _, a3, a4, _⟩ := this
    omega

theorem base_p (hN : st = (N : Int)) (hl : l.length ≤ 9223372036854775807) :
    ∃ r, limit L48_3 ((l, (), (), (0 : Int), ()), ((st, start, arcs, acc, ()), (List.replicate st.toNat false), ())) = some r ∧ ∃ M : List Bool, r = (((), (), ()), ((st, start, arcs, acc, ()), M, ())) ∧ M.length = N ∧ ∀ q, q < N → (M.getD q false = true ↔ (q : Int) ∈ l) := by
  let S : List Bool × Nat → ((List (Int)) × Unit × Unit × (Int) × Unit) × (NfaC × (List (Bool)) × Unit) := fun s => ((l, (), (), (s.2 : Int), ()), ((st, start, arcs, acc, ()), s.1, ()))
  have rep : ∀ p, (List.replicate st.toNat false).getD p false = false := fun p => by rw [List.getD_eq_getElem?_getD, List.getElem?_replicate]; split <;> rfl
  refine state_rule (L := L48_3) S (fun s => s.2 ≤ l.length ∧ s.1.length = N ∧ ∀ q, q < N → (s.1.getD q false = true ↔ ∃ j, j < s.2 ∧ l.getD j 0 = (q : Int))) (fun s => l.length - s.2) _ (List.replicate st.toNat false, 0)
    ⟨by simp, by simp only [List.length_replicate]; omega, fun q _ => by simp only; rw [rep]; exact ⟨fun h => (by cases h), fun ⟨j, hj, _⟩ => (by omega)⟩⟩ (by simp only; omega) ?_
  rintro ⟨M, i⟩ ⟨hi, hM, h⟩
  simp only at hi hM h
  by_cases hi' : i = l.length
  · left
    subst hi'
    refine ⟨_, ⟨M, rfl, hM, fun q hq => ?_⟩, fun n => ?_⟩
    · rw [h q hq]
      constructor
      · rintro ⟨j, hj, e⟩; rw [← e]; exact getD_mem hj
      · intro hm
        obtain ⟨j, hj, e⟩ := List.mem_iff_getElem.1 hm
        exact ⟨j, hj, by rw [List.getD_eq_getElem?_getD, List.getElem?_eq_getElem hj]; exact e⟩
    · simp only [S, L48_3]
      rw [if_neg nlt_nat]
  · have hil : i < l.length := by omega
    right
    by_cases hx : 0 ≤ l.getD i 0 ∧ l.getD i 0 < st
    · refine ⟨(M.set (l.getD i 0).toNat true, i + 1), ⟨by simp only; omega, by simp only [List.length_set]; exact hM, fun q hq => ?_⟩, by simp only; omega, fun n => ?_⟩
      · simp only
        rw [getD_set (by omega)]
        by_cases e : (l.getD i 0).toNat = q
        · rw [if_pos e]
          exact ⟨fun _ => ⟨i, by omega, by omega⟩, fun _ => rfl⟩
        · rw [if_neg e, h q hq]
          constructor
          · rintro ⟨j, hj, e'⟩; exact ⟨j, by omega, e'⟩
          · rintro ⟨j, hj, e'⟩
            by_cases ej : j = i
            · subst ej; omega
            · exact ⟨j, by omega, e'⟩
      · simp only [S, L48_3, Int.toNat_natCast]
        rw [if_pos (lt_nat hil), if_pos (in_range hil), if_pos (ct hx.1), if_pos (in_range hil), if_pos (ct hx.2), if_pos (in_range hil), if_pos (ct (by omega)), wrap_nat (by omega)]
    · refine ⟨(M, i + 1), ⟨by simp only; omega, hM, fun q hq => ?_⟩, by simp only; omega, fun n => ?_⟩
      · simp only
        rw [h q hq]
        constructor
        · rintro ⟨j, hj, e'⟩; exact ⟨j, by omega, e'⟩
        · rintro ⟨j, hj, e'⟩
          by_cases ej : j = i
          · subst ej; omega
          · exact ⟨j, by omega, e'⟩
      · simp only [S, L48_3, Int.toNat_natCast]
        by_cases h0 : l.getD i 0 ≥ 0
        · rw [if_pos (lt_nat hil), if_pos (in_range hil), if_pos (ct h0), if_pos (in_range hil), if_neg (cf (by omega)), wrap_nat (by omega)]
        · rw [if_pos (lt_nat hil), if_pos (in_range hil), if_neg (cf h0), wrap_nat (by omega)]

theorem pass_p (hN : st = (N : Int)) (har : ∀ i, i < arcs.length → ArcOk st (arcs.getD i ad)) (hal : arcs.length ≤ 9223372036854775807) (M0 : List Bool) (hM0 : M0.length = N) (hs0 : ∀ q, q < N → M0.getD q false = true → RC arcs N l q) :
    ∃ r, limit L48_11 (((), (), false, (0 : Int), ()), ((st, start, arcs, acc, ()), M0, ())) = some r ∧ ∃ more M, r = (((), (), more, ()), ((st, start, arcs, acc, ()), M, ())) ∧ M.length = N ∧ (∀ q, q < N → M.getD q false = true → RC arcs N l q) ∧ (∀ q, q < N → M0.getD q false = true → M.getD q false = true) ∧
      (more = false → M = M0 ∧ ∀ i, i < arcs.length → (arcs.getD i ad).2.2.1 = true → M0.getD (arcs.getD i ad).1.toNat false = true → M0.getD (arcs.getD i ad).2.1.toNat false = true) ∧ (more = true → M0.count true < M.count true) := by
  let S : Bool × List Bool × Nat → (Unit × Unit × (Bool) × (Int) × Unit) × (NfaC × (List (Bool)) × Unit) := fun s => (((), (), s.1, (s.2.2 : Int), ()), ((st, start, arcs, acc, ()), s.2.1, ()))
  refine state_rule (L := L48_11) S (fun s => s.2.2 ≤ arcs.length ∧ s.2.1.length = N ∧ (∀ q, q < N → s.2.1.getD q false = true → RC arcs N l q) ∧ (∀ q, q < N → M0.getD q false = true → s.2.1.getD q false = true) ∧
      (s.1 = false → s.2.1 = M0 ∧ ∀ i, i < s.2.2 → (arcs.getD i ad).2.2.1 = true → M0.getD (arcs.getD i ad).1.toNat false = true → M0.getD (arcs.getD i ad).2.1.toNat false = true) ∧ (s.1 = true → M0.count true < s.2.1.count true))
    (fun s => arcs.length - s.2.2) _ (false, M0, 0) ⟨by simp, hM0, hs0, fun _ _ h => h, fun _ => ⟨rfl, fun i hi => by simp only at hi; omega⟩, fun h => (by cases h)⟩ (by simp only; omega) ?_
  rintro ⟨more, M, i⟩ ⟨hi, hM, h3, h4, h5, h6⟩
  simp only at hi hM h3 h4 h5 h6
  by_cases hi' : i = arcs.length
  · left
    subst hi'
    refine ⟨_, ⟨more, M, rfl, hM, h3, h4, h5, h6⟩, fun n => ?_⟩
    simp only [S, L48_11]
    rw [if_neg nlt_nat]
  · have hil : i < arcs.length := by omega
    obtain ⟨a1, a2, a3, a4, _⟩ := har i hil
    right
    by_cases he : (arcs.getD i ad).2.2.1 = true
    · by_cases hp : M.getD (arcs.getD i ad).1.toNat false = true
      · by_cases hq : M.getD (arcs.getD i ad).2.1.toNat false = true
        · refine ⟨(more, M, i + 1), ⟨by simp only; omega, hM, h3, h4, fun hm => ⟨(h5 hm).1, fun j hj e1 e2 => ?_⟩, h6⟩, by simp only; omega, fun n => ?_⟩
          · have hj' : j < i + 1 := hj
            by_cases ej : j = i
            · subst ej; rw [← (h5 hm).1]; exact hq
            · exact (h5 hm).2 j (by omega) e1 e2
          · simp only [S, L48_11, Int.toNat_natCast]
            rw [e_ad, if_pos (lt_nat hil), if_pos (in_range hil), if_pos he, if_pos (ct (by omega)), if_pos hp, if_pos (ct (by omega)), if_neg (by rw [hq]; exact ntf), wrap_nat (by omega)]
        · have hq' : M.getD (arcs.getD i ad).2.1.toNat false = false := by simpa using hq
          refine ⟨(true, M.set (arcs.getD i ad).2.1.toNat true, i + 1), ⟨by simp only; omega, by simp only [List.length_set]; exact hM, fun q hqn hh => ?_, fun q hqn hh => ?_, fun h => (by cases h), fun _ => ?_⟩, by simp only; omega, fun n => ?_⟩
          · simp only at hh
            rw [getD_set (by omega)] at hh
            by_cases e : (arcs.getD i ad).2.1.toNat = q
            · exact .step i (arcs.getD i ad).1.toNat q hil he (by omega) (by omega) (h3 _ (by omega) hp)
            · rw [if_neg e] at hh; exact h3 q hqn hh
          · simp only
            rw [getD_set (by omega)]
            by_cases e : (arcs.getD i ad).2.1.toNat = q
            · rw [if_pos e]
            · rw [if_neg e]; exact h4 q hqn hh
          · simp only
            rw [count_set (by omega) hq']
            cases hm : more with
            | true => have := h6 hm; omega
            | false => rw [(h5 hm).1]; omega
          · simp only [S, L48_11, Int.toNat_natCast]
            rw [e_ad, if_pos (lt_nat hil), if_pos (in_range hil), if_pos he, if_pos (ct (by omega)), if_pos hp, if_pos (ct (by omega)), if_pos (by rw [hq']; rfl), if_pos (ct (by omega)), wrap_nat (by omega)]
      · refine ⟨(more, M, i + 1), ⟨by simp only; omega, hM, h3, h4, fun hm => ⟨(h5 hm).1, fun j hj e1 e2 => ?_⟩, h6⟩, by simp only; omega, fun n => ?_⟩
        · have hj' : j < i + 1 := hj
          by_cases ej : j = i
          · subst ej; rw [← (h5 hm).1] at e2; exact absurd e2 hp
          · exact (h5 hm).2 j (by omega) e1 e2
        · simp only [S, L48_11, Int.toNat_natCast]
          rw [e_ad, if_pos (lt_nat hil), if_pos (in_range hil), if_pos he, if_pos (ct (by omega)), if_neg hp, wrap_nat (by omega)]
    · refine ⟨(more, M, i + 1), ⟨by simp only; omega, hM, h3, h4, fun hm => ⟨(h5 hm).1, fun j hj e1 e2 => ?_⟩, h6⟩, by simp only; omega, fun n => ?_⟩
      · have hj' : j < i + 1 := hj
        by_cases ej : j = i
        · subst ej; exact absurd e1 he
        · exact (h5 hm).2 j (by omega) e1 e2
      · simp only [S, L48_11, Int.toNat_natCast]
        rw [e_ad, if_pos (lt_nat hil), if_pos (in_range hil), if_neg he, wrap_nat (by omega)]

theorem fix_p (hN : st = (N : Int)) (hN2 : N ≤ 2000) (har : ∀ i, i < arcs.length → ArcOk st (arcs.getD i ad)) (hal : arcs.length ≤ 9223372036854775807) (M0 : List Bool) (hM0 : M0.length = N) (hs0 : ∀ q, q < N → (M0.getD q false = true ↔ (q : Int) ∈ l)) :
    ∃ r, limit L48_8 (((), (), true, ()), ((st, start, arcs, acc, ()), M0, ())) = some r ∧ ∃ M : List Bool, r = (((), ()), (M, ())) ∧ M.length = N ∧ ∀ q, q < N → (M.getD q false = true ↔ RC arcs N l q) := by
  let S : Bool × List Bool → (Unit × Unit × (Bool) × Unit) × (NfaC × (List (Bool)) × Unit) := fun s => (((), (), s.1, ()), ((st, start, arcs, acc, ()), s.2, ()))
  have main := state_rule (L := L48_8) S (fun s => s.2.length = N ∧ (∀ q, q < N → s.2.getD q false = true → RC arcs N l q) ∧ (∀ q, q < N → (q : Int) ∈ l → s.2.getD q false = true) ∧
      (s.1 = false → ∀ i, i < arcs.length → (arcs.getD i ad).2.2.1 = true → s.2.getD (arcs.getD i ad).1.toNat false = true → s.2.getD (arcs.getD i ad).2.1.toNat false = true)) (fun s => 2 * (N - s.2.count true) + (if s.1 = true then 1 else 0))
    (fun r => ∃ M : List Bool, r = (((), ()), (M, ())) ∧ M.length = N ∧ ∀ q, q < N → (M.getD q false = true ↔ RC arcs N l q)) (true, M0)
    ⟨hM0, fun q hq h => .base q hq ((hs0 q hq).1 h), fun q hq h => (hs0 q hq).2 h, fun h => (by cases h)⟩ (by simp only; split <;> omega) (by
    rintro ⟨more, M⟩ ⟨h1, h2, h3, h4⟩
    simp only at h1 h2 h3 h4
    cases more with
    | false =>
      left
      refine ⟨_, ⟨M, rfl, h1, fun q hq => ⟨h2 q hq, fun hr => ?_⟩⟩, fun n => ?_⟩
      · clear hq
        induction hr with
        | base q hq hm => exact h3 q hq hm
        | step i p q hi e1 e2 e3 hp ih =>
          have := h4 rfl i hi e1
          rw [e2, e3, Int.toNat_natCast, Int.toNat_natCast] at this
          exact this ih
      · simp only [S, L48_8]
        rw [if_neg ff]
    | true =>
      right
      obtain ⟨r, hlim, more', M', rfl, g1, g2, g3, g4, g5⟩ := pass_p (start := start) (acc := acc) hN har hal M h1 h2
      refine ⟨(more', M'), ⟨g1, g2, fun q hq h => g3 q hq (h3 q hq h), fun hm => ?_⟩, ?_, fun n => ?_⟩
      · obtain ⟨rfl, h⟩ := g4 hm; exact h
      · simp only
        have hc : M'.count true ≤ N := by rw [← g1]; exact List.count_le_length
        cases more' with
        | true => have := g5 rfl; simp only [if_true]; omega
        | false => rw [(g4 rfl).1]; simp
      · simp only [S, L48_8, if_true]
        rw [hlim, Option.bind_some])
  exact main

theorem list_p (M : List Bool) (hM : M.length = N) (hN2 : N ≤ 2000) (hm : ∀ q, q < N → (M.getD q false = true ↔ RC arcs N l q)) :
    limit L64_48_3 (((), (), (0 : Int), ()), (M, ([] : List (Int)), ())) = some (((), ()), (M, (clo arcs N l), ())) := by
  have h := for_rule (L := L64_48_3) (N := N) (S := fun i => (((), (), (i : Int), ()), (M, (((List.range i).filter fun q => M.getD q false).map fun q : Nat => (q : Int)), ())))
    (r := (((), ()), (M, (clo arcs N l), ())))
    (fun i hi n => by
      have hlen : (((List.range i).filter fun q => M.getD q false).map fun q : Nat => (q : Int)).length ≤ i := by
        rw [List.length_map]
        exact Nat.le_trans (List.length_filter_le _ _) (by simp)
      simp only [L64_48_3, Int.toNat_natCast]
      rw [if_pos (ct (by omega)), if_pos (in_range (by omega)), wrap_nat (by omega), List.range_succ, List.filter_append, List.map_append]
      by_cases h : M.getD i false = true
      · rw [if_pos h, if_pos (ct (by simp only [List.length_singleton, lim]; omega))]
        simp only [List.filter_cons, h, if_true, List.filter_nil, List.map_cons, List.map_nil]
      · rw [if_neg h]
        have h' : M.getD i false = false := by simpa using h
        simp only [List.filter_cons, h', Bool.false_eq_true, if_false, List.filter_nil, List.map_nil, List.append_nil])
    (fun n => by
      simp only [L64_48_3]
      rw [if_neg (cf (by omega)), marks_clo hm]) (by omega)
  exact h

theorem base_i (hN : st = (N : Int)) (hl : l.length ≤ 9223372036854775807) :
    ∃ r, limit L48_49_3 (((), (), (), (0 : Int), ()), ((st, start, arcs, acc, ()), l, (st, start, arcs, acc, ()), (List.replicate st.toNat false), ())) = some r ∧ ∃ M : List Bool, r = (((), (), ()), ((st, start, arcs, acc, ()), l, (st, start, arcs, acc, ()), M, ())) ∧ M.length = N ∧ ∀ q, q < N → (M.getD q false = true ↔ (q : Int) ∈ l) := by
  let S : List Bool × Nat → (Unit × Unit × Unit × (Int) × Unit) × (NfaC × (List (Int)) × NfaC × (List (Bool)) × Unit) := fun s => (((), (), (), (s.2 : Int), ()), ((st, start, arcs, acc, ()), l, (st, start, arcs, acc, ()), s.1, ()))
  have rep : ∀ p, (List.replicate st.toNat false).getD p false = false := fun p => by rw [List.getD_eq_getElem?_getD, List.getElem?_replicate]; split <;> rfl
  refine state_rule (L := L48_49_3) S (fun s => s.2 ≤ l.length ∧ s.1.length = N ∧ ∀ q, q < N → (s.1.getD q false = true ↔ ∃ j, j < s.2 ∧ l.getD j 0 = (q : Int))) (fun s => l.length - s.2) _ (List.replicate st.toNat false, 0)
    ⟨by simp, by simp only [List.length_replicate]; omega, fun q _ => by simp only; rw [rep]; exact ⟨fun h => (by cases h), fun ⟨j, hj, _⟩ => (by omega)⟩⟩ (by simp only; omega) ?_
  rintro ⟨M, i⟩ ⟨hi, hM, h⟩
  simp only at hi hM h
  by_cases hi' : i = l.length
  · left
    subst hi'
    refine ⟨_, ⟨M, rfl, hM, fun q hq => ?_⟩, fun n => ?_⟩
    · rw [h q hq]
      constructor
      · rintro ⟨j, hj, e⟩; rw [← e]; exact getD_mem hj
      · intro hm
        obtain ⟨j, hj, e⟩ := List.mem_iff_getElem.1 hm
        exact ⟨j, hj, by rw [List.getD_eq_getElem?_getD, List.getElem?_eq_getElem hj]; exact e⟩
    · simp only [S, L48_49_3]
      rw [if_neg nlt_nat]
  · have hil : i < l.length := by omega
    right
    by_cases hx : 0 ≤ l.getD i 0 ∧ l.getD i 0 < st
    · refine ⟨(M.set (l.getD i 0).toNat true, i + 1), ⟨by simp only; omega, by simp only [List.length_set]; exact hM, fun q hq => ?_⟩, by simp only; omega, fun n => ?_⟩
      · simp only
        rw [getD_set (by omega)]
        by_cases e : (l.getD i 0).toNat = q
        · rw [if_pos e]
          exact ⟨fun _ => ⟨i, by omega, by omega⟩, fun _ => rfl⟩
        · rw [if_neg e, h q hq]
          constructor
          · rintro ⟨j, hj, e'⟩; exact ⟨j, by omega, e'⟩
          · rintro ⟨j, hj, e'⟩
            by_cases ej : j = i
            · subst ej; omega
            · exact ⟨j, by omega, e'⟩
      · simp only [S, L48_49_3, Int.toNat_natCast]
        rw [if_pos (lt_nat hil), if_pos (in_range hil), if_pos (ct hx.1), if_pos (in_range hil), if_pos (ct hx.2), if_pos (in_range hil), if_pos (ct (by omega)), wrap_nat (by omega)]
    · refine ⟨(M, i + 1), ⟨by simp only; omega, hM, fun q hq => ?_⟩, by simp only; omega, fun n => ?_⟩
      · simp only
        rw [h q hq]
        constructor
        · rintro ⟨j, hj, e'⟩; exact ⟨j, by omega, e'⟩
        · rintro ⟨j, hj, e'⟩
          by_cases ej : j = i
          · subst ej; omega
          · exact ⟨j, by omega, e'⟩
      · simp only [S, L48_49_3, Int.toNat_natCast]
        by_cases h0 : l.getD i 0 ≥ 0
        · rw [if_pos (lt_nat hil), if_pos (in_range hil), if_pos (ct h0), if_pos (in_range hil), if_neg (cf (by omega)), wrap_nat (by omega)]
        · rw [if_pos (lt_nat hil), if_pos (in_range hil), if_neg (cf h0), wrap_nat (by omega)]

theorem pass_i (hN : st = (N : Int)) (har : ∀ i, i < arcs.length → ArcOk st (arcs.getD i ad)) (hal : arcs.length ≤ 9223372036854775807) (M0 : List Bool) (hM0 : M0.length = N) (hs0 : ∀ q, q < N → M0.getD q false = true → RC arcs N l q) :
    ∃ r, limit L48_49_11 (((), (), false, (0 : Int), ()), ((st, start, arcs, acc, ()), l, (st, start, arcs, acc, ()), M0, ())) = some r ∧ ∃ more M, r = (((), (), more, ()), ((st, start, arcs, acc, ()), l, (st, start, arcs, acc, ()), M, ())) ∧ M.length = N ∧ (∀ q, q < N → M.getD q false = true → RC arcs N l q) ∧ (∀ q, q < N → M0.getD q false = true → M.getD q false = true) ∧
      (more = false → M = M0 ∧ ∀ i, i < arcs.length → (arcs.getD i ad).2.2.1 = true → M0.getD (arcs.getD i ad).1.toNat false = true → M0.getD (arcs.getD i ad).2.1.toNat false = true) ∧ (more = true → M0.count true < M.count true) := by
  let S : Bool × List Bool × Nat → (Unit × Unit × (Bool) × (Int) × Unit) × (NfaC × (List (Int)) × NfaC × (List (Bool)) × Unit) := fun s => (((), (), s.1, (s.2.2 : Int), ()), ((st, start, arcs, acc, ()), l, (st, start, arcs, acc, ()), s.2.1, ()))
  refine state_rule (L := L48_49_11) S (fun s => s.2.2 ≤ arcs.length ∧ s.2.1.length = N ∧ (∀ q, q < N → s.2.1.getD q false = true → RC arcs N l q) ∧ (∀ q, q < N → M0.getD q false = true → s.2.1.getD q false = true) ∧
      (s.1 = false → s.2.1 = M0 ∧ ∀ i, i < s.2.2 → (arcs.getD i ad).2.2.1 = true → M0.getD (arcs.getD i ad).1.toNat false = true → M0.getD (arcs.getD i ad).2.1.toNat false = true) ∧ (s.1 = true → M0.count true < s.2.1.count true))
    (fun s => arcs.length - s.2.2) _ (false, M0, 0) ⟨by simp, hM0, hs0, fun _ _ h => h, fun _ => ⟨rfl, fun i hi => by simp only at hi; omega⟩, fun h => (by cases h)⟩ (by simp only; omega) ?_
  rintro ⟨more, M, i⟩ ⟨hi, hM, h3, h4, h5, h6⟩
  simp only at hi hM h3 h4 h5 h6
  by_cases hi' : i = arcs.length
  · left
    subst hi'
    refine ⟨_, ⟨more, M, rfl, hM, h3, h4, h5, h6⟩, fun n => ?_⟩
    simp only [S, L48_49_11]
    rw [if_neg nlt_nat]
  · have hil : i < arcs.length := by omega
    obtain ⟨a1, a2, a3, a4, _⟩ := har i hil
    right
    by_cases he : (arcs.getD i ad).2.2.1 = true
    · by_cases hp : M.getD (arcs.getD i ad).1.toNat false = true
      · by_cases hq : M.getD (arcs.getD i ad).2.1.toNat false = true
        · refine ⟨(more, M, i + 1), ⟨by simp only; omega, hM, h3, h4, fun hm => ⟨(h5 hm).1, fun j hj e1 e2 => ?_⟩, h6⟩, by simp only; omega, fun n => ?_⟩
          · have hj' : j < i + 1 := hj
            by_cases ej : j = i
            · subst ej; rw [← (h5 hm).1]; exact hq
            · exact (h5 hm).2 j (by omega) e1 e2
          · simp only [S, L48_49_11, Int.toNat_natCast]
            rw [e_ad, if_pos (lt_nat hil), if_pos (in_range hil), if_pos he, if_pos (ct (by omega)), if_pos hp, if_pos (ct (by omega)), if_neg (by rw [hq]; exact ntf), wrap_nat (by omega)]
        · have hq' : M.getD (arcs.getD i ad).2.1.toNat false = false := by simpa using hq
          refine ⟨(true, M.set (arcs.getD i ad).2.1.toNat true, i + 1), ⟨by simp only; omega, by simp only [List.length_set]; exact hM, fun q hqn hh => ?_, fun q hqn hh => ?_, fun h => (by cases h), fun _ => ?_⟩, by simp only; omega, fun n => ?_⟩
          · simp only at hh
            rw [getD_set (by omega)] at hh
            by_cases e : (arcs.getD i ad).2.1.toNat = q
            · exact .step i (arcs.getD i ad).1.toNat q hil he (by omega) (by omega) (h3 _ (by omega) hp)
            · rw [if_neg e] at hh; exact h3 q hqn hh
          · simp only
            rw [getD_set (by omega)]
            by_cases e : (arcs.getD i ad).2.1.toNat = q
            · rw [if_pos e]
            · rw [if_neg e]; exact h4 q hqn hh
          · simp only
            rw [count_set (by omega) hq']
            cases hm : more with
            | true => have := h6 hm; omega
            | false => rw [(h5 hm).1]; omega
          · simp only [S, L48_49_11, Int.toNat_natCast]
            rw [e_ad, if_pos (lt_nat hil), if_pos (in_range hil), if_pos he, if_pos (ct (by omega)), if_pos hp, if_pos (ct (by omega)), if_pos (by rw [hq']; rfl), if_pos (ct (by omega)), wrap_nat (by omega)]
      · refine ⟨(more, M, i + 1), ⟨by simp only; omega, hM, h3, h4, fun hm => ⟨(h5 hm).1, fun j hj e1 e2 => ?_⟩, h6⟩, by simp only; omega, fun n => ?_⟩
        · have hj' : j < i + 1 := hj
          by_cases ej : j = i
          · subst ej; rw [← (h5 hm).1] at e2; exact absurd e2 hp
          · exact (h5 hm).2 j (by omega) e1 e2
        · simp only [S, L48_49_11, Int.toNat_natCast]
          rw [e_ad, if_pos (lt_nat hil), if_pos (in_range hil), if_pos he, if_pos (ct (by omega)), if_neg hp, wrap_nat (by omega)]
    · refine ⟨(more, M, i + 1), ⟨by simp only; omega, hM, h3, h4, fun hm => ⟨(h5 hm).1, fun j hj e1 e2 => ?_⟩, h6⟩, by simp only; omega, fun n => ?_⟩
      · have hj' : j < i + 1 := hj
        by_cases ej : j = i
        · subst ej; exact absurd e1 he
        · exact (h5 hm).2 j (by omega) e1 e2
      · simp only [S, L48_49_11, Int.toNat_natCast]
        rw [e_ad, if_pos (lt_nat hil), if_pos (in_range hil), if_neg he, wrap_nat (by omega)]

theorem fix_i (hN : st = (N : Int)) (hN2 : N ≤ 2000) (har : ∀ i, i < arcs.length → ArcOk st (arcs.getD i ad)) (hal : arcs.length ≤ 9223372036854775807) (M0 : List Bool) (hM0 : M0.length = N) (hs0 : ∀ q, q < N → (M0.getD q false = true ↔ (q : Int) ∈ l)) :
    ∃ r, limit L48_49_8 (((), (), true, ()), ((st, start, arcs, acc, ()), l, (st, start, arcs, acc, ()), M0, ())) = some r ∧ ∃ M : List Bool, r = (((), ()), ((st, start, arcs, acc, ()), l, M, ())) ∧ M.length = N ∧ ∀ q, q < N → (M.getD q false = true ↔ RC arcs N l q) := by
  let S : Bool × List Bool → (Unit × Unit × (Bool) × Unit) × (NfaC × (List (Int)) × NfaC × (List (Bool)) × Unit) := fun s => (((), (), s.1, ()), ((st, start, arcs, acc, ()), l, (st, start, arcs, acc, ()), s.2, ()))
  have main := state_rule (L := L48_49_8) S (fun s => s.2.length = N ∧ (∀ q, q < N → s.2.getD q false = true → RC arcs N l q) ∧ (∀ q, q < N → (q : Int) ∈ l → s.2.getD q false = true) ∧
      (s.1 = false → ∀ i, i < arcs.length → (arcs.getD i ad).2.2.1 = true → s.2.getD (arcs.getD i ad).1.toNat false = true → s.2.getD (arcs.getD i ad).2.1.toNat false = true)) (fun s => 2 * (N - s.2.count true) + (if s.1 = true then 1 else 0))
    (fun r => ∃ M : List Bool, r = (((), ()), ((st, start, arcs, acc, ()), l, M, ())) ∧ M.length = N ∧ ∀ q, q < N → (M.getD q false = true ↔ RC arcs N l q)) (true, M0)
    ⟨hM0, fun q hq h => .base q hq ((hs0 q hq).1 h), fun q hq h => (hs0 q hq).2 h, fun h => (by cases h)⟩ (by simp only; split <;> omega) (by
    rintro ⟨more, M⟩ ⟨h1, h2, h3, h4⟩
    simp only at h1 h2 h3 h4
    cases more with
    | false =>
      left
      refine ⟨_, ⟨M, rfl, h1, fun q hq => ⟨h2 q hq, fun hr => ?_⟩⟩, fun n => ?_⟩
      · clear hq
        induction hr with
        | base q hq hm => exact h3 q hq hm
        | step i p q hi e1 e2 e3 hp ih =>
          have := h4 rfl i hi e1
          rw [e2, e3, Int.toNat_natCast, Int.toNat_natCast] at this
          exact this ih
      · simp only [S, L48_49_8]
        rw [if_neg ff]
    | true =>
      right
      obtain ⟨r, hlim, more', M', rfl, g1, g2, g3, g4, g5⟩ := pass_i (start := start) (acc := acc) hN har hal M h1 h2
      refine ⟨(more', M'), ⟨g1, g2, fun q hq h => g3 q hq (h3 q hq h), fun hm => ?_⟩, ?_, fun n => ?_⟩
      · obtain ⟨rfl, h⟩ := g4 hm; exact h
      · simp only
        have hc : M'.count true ≤ N := by rw [← g1]; exact List.count_le_length
        cases more' with
        | true => have := g5 rfl; simp only [if_true]; omega
        | false => rw [(g4 rfl).1]; simp
      · simp only [S, L48_49_8, if_true]
        rw [hlim, Option.bind_some])
  exact main

theorem list_i (M : List Bool) (hM : M.length = N) (hN2 : N ≤ 2000) (hm : ∀ q, q < N → (M.getD q false = true ↔ RC arcs N l q)) :
    limit L64_48_49_3 (((), (), (0 : Int), ()), ((st, start, arcs, acc, ()), l, M, ([] : List (Int)), ())) = some (((), ()), ((st, start, arcs, acc, ()), l, M, (clo arcs N l), ())) := by
  have h := for_rule (L := L64_48_49_3) (N := N) (S := fun i => (((), (), (i : Int), ()), ((st, start, arcs, acc, ()), l, M, (((List.range i).filter fun q => M.getD q false).map fun q : Nat => (q : Int)), ())))
    (r := (((), ()), ((st, start, arcs, acc, ()), l, M, (clo arcs N l), ())))
    (fun i hi n => by
      have hlen : (((List.range i).filter fun q => M.getD q false).map fun q : Nat => (q : Int)).length ≤ i := by
        rw [List.length_map]
        exact Nat.le_trans (List.length_filter_le _ _) (by simp)
      simp only [L64_48_49_3, Int.toNat_natCast]
      rw [if_pos (ct (by omega)), if_pos (in_range (by omega)), wrap_nat (by omega), List.range_succ, List.filter_append, List.map_append]
      by_cases h : M.getD i false = true
      · rw [if_pos h, if_pos (ct (by simp only [List.length_singleton, lim]; omega))]
        simp only [List.filter_cons, h, if_true, List.filter_nil, List.map_cons, List.map_nil]
      · rw [if_neg h]
        have h' : M.getD i false = false := by simpa using h
        simp only [List.filter_cons, h', Bool.false_eq_true, if_false, List.filter_nil, List.map_nil, List.append_nil])
    (fun n => by
      simp only [L64_48_49_3]
      rw [if_neg (cf (by omega)), marks_clo hm]) (by omega)
  exact h

theorem p48_spec (hN : st = (N : Int)) (hN2 : N ≤ 2000) (har : ∀ i, i < arcs.length → ArcOk st (arcs.getD i ad)) (hal : arcs.length ≤ 9223372036854775807) (hl : l.length ≤ 9223372036854775807) :
    p48 ((st, (start, (arcs, (acc, ())))), l, ()) = some (clo arcs N l) := by
  obtain ⟨r1, e1, M1, rfl, m1, m2⟩ := base_p (start := start) (arcs := arcs) (acc := acc) hN hl
  obtain ⟨r2, e2, M2, rfl, m3, m4⟩ := fix_p (start := start) (acc := acc) (l := l) hN hN2 har hal M1 m1 m2
  have e3 := list_p M2 m3 hN2 m4
  simp only [p48]
  rw [if_pos (ct ⟨trivial, by omega, by simp only [lim]; omega⟩), e1]
  simp only [Option.bind_some]
  rw [e2]
  simp only [Option.bind_some]
  rw [e3]
  rfl
end
end Go.AM

/- Closures: the program's worklist. -/
namespace Go.AM
open Go

section
variable {N : Nat} {st start : Int} {arcs : List Arc} {acc : List Int} {l : List Int}

/-- marks and worklist -/
structure WI (N : Nat) (arcs : List Arc) (l : List Int) (M : List Bool) (todo : List Int) : Prop where
  ml : M.length = N
  so : ∀ q, q < N → M.getD q false = true → RC arcs N l q
  td : ∀ t ∈ todo, 0 ≤ t ∧ t < N ∧ M.getD t.toNat false = true
  tl : todo.length ≤ M.count true

theorem WI.add {M : List Bool} {todo : List Int} (W : WI N arcs l M todo) {s : Int} (h0 : 0 ≤ s) (h1 : s < N) (hn : M.getD s.toNat false = false) (hr : RC arcs N l s.toNat) : WI N arcs l (M.set s.toNat true) (todo ++ [s]) := by
  have hml := W.ml
  refine ⟨by simp only [List.length_set]; exact hml, fun q hq h => ?_, fun t ht => ?_, ?_⟩
  · rw [getD_set (by omega)] at h
    by_cases e : s.toNat = q
    · subst e; exact hr
    · rw [if_neg e] at h; exact W.so q hq h
  · rcases List.mem_append.1 ht with ht | ht
    · obtain ⟨a, b, c⟩ := W.td t ht
      refine ⟨a, b, ?_⟩
      rw [getD_set (by omega)]
      split
      · rfl
      · exact c
    · have := List.mem_singleton.1 ht
      subst this
      refine ⟨h0, h1, ?_⟩
      rw [getD_set (by omega), if_pos rfl]
  · rw [count_set (by omega) hn, List.length_append, List.length_singleton]
    have := W.tl
    omega

theorem l41_5 (hN : st = (N : Int)) (hN2 : N ≤ 2000) (hl : l.length ≤ 9223372036854775807) :
    ∃ r, limit L41_5 (((), (), (), (), l, (l.length : Int), (0 : Int), ()), ((st, start, arcs, acc, ()), ((), ()), ((), ()), (List.replicate st.toNat false), ([] : List (Int)), ())) = some r ∧
      ∃ M todo, r = (((), (), (), (), ()), ((st, start, arcs, acc, ()), ((), ()), ((), ()), M, todo, ())) ∧ WI N arcs l M todo ∧ (∀ q, q < N → (q : Int) ∈ l → M.getD q false = true) ∧ (∀ q, q < N → M.getD q false = true → (q : Int) ∈ todo) := by
  have rep : ∀ p, (List.replicate st.toNat false).getD p false = false := fun p => by rw [List.getD_eq_getElem?_getD, List.getElem?_replicate]; split <;> rfl
  let S : List Bool × List Int × Nat → ((Unit × Unit × Unit × Unit × (List (Int)) × (Int) × (Int) × Unit) × (((Int) × (Int) × (List ((Int) × ((Int) × ((Bool) × ((List (Int)) × (Unit)))))) × (List (Int)) × Unit) × (Unit × Unit) × (Unit × Unit) × (List (Bool)) × (List (Int)) × Unit)) :=
    fun s => (((), (), (), (), l, (l.length : Int), (s.2.2 : Int), ()), ((st, start, arcs, acc, ()), ((), ()), ((), ()), s.1, s.2.1, ()))
  refine state_rule (L := L41_5) S (fun s => s.2.2 ≤ l.length ∧ WI N arcs l s.1 s.2.1 ∧ (∀ q, q < N → (∃ j, j < s.2.2 ∧ l.getD j 0 = (q : Int)) → s.1.getD q false = true) ∧ (∀ q, q < N → s.1.getD q false = true → (q : Int) ∈ s.2.1)) (fun s => l.length - s.2.2) _ (List.replicate st.toNat false, [], 0)
    ⟨by simp, ⟨by simp only [List.length_replicate]; omega, fun q _ h => (by simp only at h; rw [rep] at h; cases h), fun t ht => (by cases ht), by simp⟩, fun q _ ⟨j, hj, _⟩ => (by simp only at hj; omega), fun q _ h => (by simp only at h; rw [rep] at h; cases h)⟩ (by simp only; omega) ?_
  rintro ⟨M, todo, i⟩ ⟨hi, W, h3, h4⟩
  simp only at hi W h3 h4
  have hml := W.ml
  have htl := W.tl
  have hcnt : M.count true ≤ N := by rw [← hml]; exact List.count_le_length
  by_cases hi' : i = l.length
  · left
    subst hi'
    refine ⟨_, ⟨M, todo, rfl, W, fun q hq hm => ?_, h4⟩, fun n => ?_⟩
    · obtain ⟨j, hj, e⟩ := List.mem_iff_getElem.1 hm
      exact h3 q hq ⟨j, hj, by rw [List.getD_eq_getElem?_getD, List.getElem?_eq_getElem hj]; exact e⟩
    · simp only [S, L41_5]
      rw [if_neg nlt_nat]
  · have hil : i < l.length := by omega
    right
    have skip : (∀ q, q < N → l.getD i 0 = (q : Int) → M.getD q false = true) → ∀ q, q < N → (∃ j, j < i + 1 ∧ l.getD j 0 = (q : Int)) → M.getD q false = true := by
      intro h q hq ⟨j, hj, e⟩
      by_cases ej : j = i
      · subst ej; exact h q hq e
      · exact h3 q hq ⟨j, by omega, e⟩
    by_cases h0 : l.getD i 0 ≥ 0
    · by_cases h1 : l.getD i 0 < st
      · by_cases hm : M.getD (l.getD i 0).toNat false = true
        · refine ⟨(M, todo, i + 1), ⟨by simp only; omega, W, skip (fun q _ e => by
            have : q = (l.getD i 0).toNat := by omega
            rw [this]; exact hm), h4⟩, by simp only; omega, fun n => ?_⟩
          simp only [S, L41_5, Int.toNat_natCast]
          rw [if_pos (lt_nat hil), if_pos (in_range hil), if_pos (ct h0), if_pos (ct h1), if_pos (ct (by omega)), if_neg (by rw [hm]; exact ntf), wrap_nat (by omega)]
        · have hm' : M.getD (l.getD i 0).toNat false = false := by simpa using hm
          have hr : RC arcs N l (l.getD i 0).toNat := .base _ (by omega) (by
            have e : (((l.getD i 0).toNat : Nat) : Int) = l.getD i 0 := by omega
            rw [e]; exact getD_mem hil)
          refine ⟨(M.set (l.getD i 0).toNat true, todo ++ [l.getD i 0], i + 1), ⟨by simp only; omega, W.add h0 (by omega) hm' hr, fun q hq ⟨j, hj, e⟩ => ?_, fun q hq h => ?_⟩, by simp only; omega, fun n => ?_⟩
          · simp only at hj ⊢
            rw [getD_set (by omega)]
            by_cases eq : (l.getD i 0).toNat = q
            · rw [if_pos eq]
            · rw [if_neg eq]
              by_cases ej : j = i
              · subst ej; omega
              · exact h3 q hq ⟨j, by omega, e⟩
          · simp only at h ⊢
            rw [getD_set (by omega)] at h
            by_cases eq : (l.getD i 0).toNat = q
            · have e : (q : Int) = l.getD i 0 := by omega
              rw [e]; simp
            · rw [if_neg eq] at h
              exact List.mem_append_left _ (h4 q hq h)
          · simp only [S, L41_5, Int.toNat_natCast]
            rw [if_pos (lt_nat hil), if_pos (in_range hil), if_pos (ct h0), if_pos (ct h1), if_pos (ct (by omega)), if_pos (by rw [hm']; rfl), if_pos (ct (by omega)), if_pos (ct (by simp only [List.length_singleton, lim]; omega)), wrap_nat (by omega)]
      · refine ⟨(M, todo, i + 1), ⟨by simp only; omega, W, skip (fun q _ e => by omega), h4⟩, by simp only; omega, fun n => ?_⟩
        simp only [S, L41_5, Int.toNat_natCast]
        rw [if_pos (lt_nat hil), if_pos (in_range hil), if_pos (ct h0), if_neg (cf h1), wrap_nat (by omega)]
    · refine ⟨(M, todo, i + 1), ⟨by simp only; omega, W, skip (fun q _ e => by omega), h4⟩, by simp only; omega, fun n => ?_⟩
      simp only [S, L41_5, Int.toNat_natCast]
      rw [if_pos (lt_nat hil), if_pos (in_range hil), if_neg (cf h0), wrap_nat (by omega)]

theorem l41_13 (hN : st = (N : Int)) (hN2 : N ≤ 2000) (har : ∀ i, i < arcs.length → ArcOk st (arcs.getD i ad)) (hal : arcs.length ≤ 9223372036854775807) {M0 : List Bool} {todo0 : List Int} {s : Int} (W0 : WI N arcs l M0 todo0)
    (hs : 0 ≤ s ∧ s < N ∧ M0.getD s.toNat false = true) (hc0 : ∀ i, i < arcs.length → (arcs.getD i ad).2.2.1 = true → M0.getD (arcs.getD i ad).1.toNat false = true → (arcs.getD i ad).1 ∉ todo0 → (arcs.getD i ad).1 ≠ s → M0.getD (arcs.getD i ad).2.1.toNat false = true) :
    ∃ r, limit L41_13 (((), (), (), (), s, arcs, (arcs.length : Int), (0 : Int), ()), ((st, start, arcs, acc, ()), ((), ()), ((), ()), M0, todo0, ())) = some r ∧
      ∃ M todo, r = (((), (), (), (), ()), ((st, start, arcs, acc, ()), ((), ()), ((), ()), M, todo, ())) ∧ WI N arcs l M todo ∧ (∀ q, q < N → M0.getD q false = true → M.getD q false = true) ∧ todo.length + M0.count true = todo0.length + M.count true ∧ M0.count true ≤ M.count true ∧
        ∀ i, i < arcs.length → (arcs.getD i ad).2.2.1 = true → M.getD (arcs.getD i ad).1.toNat false = true → (arcs.getD i ad).1 ∉ todo → M.getD (arcs.getD i ad).2.1.toNat false = true := by
  let S : List Bool × List Int × Nat → ((Unit × Unit × Unit × Unit × (Int) × (List ((Int) × ((Int) × ((Bool) × ((List (Int)) × (Unit)))))) × (Int) × (Int) × Unit) × (((Int) × (Int) × (List ((Int) × ((Int) × ((Bool) × ((List (Int)) × (Unit)))))) × (List (Int)) × Unit) × (Unit × Unit) × (Unit × Unit) × (List (Bool)) × (List (Int)) × Unit)) :=
    fun t => (((), (), (), (), s, arcs, (arcs.length : Int), (t.2.2 : Int), ()), ((st, start, arcs, acc, ()), ((), ()), ((), ()), t.1, t.2.1, ()))
  refine state_rule (L := L41_13) S (fun t => t.2.2 ≤ arcs.length ∧ WI N arcs l t.1 t.2.1 ∧ (∀ q, q < N → M0.getD q false = true → t.1.getD q false = true) ∧ (t.2.1.length + M0.count true = todo0.length + t.1.count true ∧ M0.count true ≤ t.1.count true) ∧
      ∀ i, i < arcs.length → (arcs.getD i ad).2.2.1 = true → t.1.getD (arcs.getD i ad).1.toNat false = true → (arcs.getD i ad).1 ∉ t.2.1 → ((arcs.getD i ad).1 ≠ s ∨ i < t.2.2) → t.1.getD (arcs.getD i ad).2.1.toNat false = true) (fun t => arcs.length - t.2.2) _ (M0, todo0, 0)
    ⟨by simp, W0, fun _ _ h => h, ⟨rfl, Nat.le_refl _⟩, fun i hi e1 e2 e3 e4 => hc0 i hi e1 e2 e3 (e4.elim id fun h => absurd h (by simp only; omega))⟩ (by simp only; omega) ?_
  rintro ⟨M, todo, j⟩ ⟨hj, W, h3, h4, h5⟩
  simp only at hj W h3 h4 h5
  have hml := W.ml
  have htl := W.tl
  have hcnt : M.count true ≤ N := by rw [← hml]; exact List.count_le_length
  by_cases hj' : j = arcs.length
  · left
    subst hj'
    refine ⟨_, ⟨M, todo, rfl, W, h3, h4.1, h4.2, fun i hi e1 e2 e3 => h5 i hi e1 e2 e3 (.inr hi)⟩, fun n => ?_⟩
    simp only [S, L41_13]
    rw [if_neg nlt_nat]
  · have hjl : j < arcs.length := by omega
    obtain ⟨a1, a2, a3, a4, _⟩ := har j hjl
    right
    have skip : ((arcs.getD j ad).2.2.1 = true → (arcs.getD j ad).1 = s → M.getD (arcs.getD j ad).2.1.toNat false = true) →
        ∀ i, i < arcs.length → (arcs.getD i ad).2.2.1 = true → M.getD (arcs.getD i ad).1.toNat false = true → (arcs.getD i ad).1 ∉ todo → ((arcs.getD i ad).1 ≠ s ∨ i < j + 1) → M.getD (arcs.getD i ad).2.1.toNat false = true := by
      intro h i hi e1 e2 e3 e4
      by_cases ei : i = j
      · subst ei
        by_cases es : (arcs.getD i ad).1 = s
        · exact h e1 es
        · exact h5 i hi e1 e2 e3 (.inl es)
      · exact h5 i hi e1 e2 e3 (e4.imp id fun h => by omega)
    by_cases he : (arcs.getD j ad).2.2.1 = true
    · by_cases hfs : (arcs.getD j ad).1 = s
      · by_cases hm : M.getD (arcs.getD j ad).2.1.toNat false = true
        · refine ⟨(M, todo, j + 1), ⟨by simp only; omega, W, h3, h4, skip fun _ _ => hm⟩, by simp only; omega, fun n => ?_⟩
          simp only [S, L41_13, Int.toNat_natCast]
          rw [e_ad, if_pos (lt_nat hjl), if_pos (in_range hjl), if_pos he, if_pos (ct hfs), if_pos (ct (by omega)), if_pos (ct (by omega)), if_pos (ct (by omega)), if_neg (by rw [hm]; exact ntf), wrap_nat (by omega)]
        · have hm' : M.getD (arcs.getD j ad).2.1.toNat false = false := by simpa using hm
          have hr : RC arcs N l (arcs.getD j ad).2.1.toNat := by
            have hsm := h3 s.toNat (by omega) hs.2.2
            exact .step j s.toNat _ hjl he (by omega) (by omega) (W.so _ (by omega) hsm)
          refine ⟨(M.set (arcs.getD j ad).2.1.toNat true, todo ++ [(arcs.getD j ad).2.1], j + 1), ⟨by simp only; omega, W.add a3 (by omega) hm' hr, fun q hq h => ?_, ?_, fun i hi e1 e2 e3 e4 => ?_⟩, by simp only; omega, fun n => ?_⟩
          · simp only
            rw [getD_set (by omega)]
            split
            · rfl
            · exact h3 q hq h
          · simp only
            rw [count_set (by omega) hm', List.length_append, List.length_singleton]
            exact ⟨by omega, by omega⟩
          · simp only at e2 e3 e4 ⊢
            obtain ⟨b1, b2, b3, b4, _⟩ := har i hi
            rw [getD_set (by omega)] at e2 ⊢
            by_cases et : (arcs.getD j ad).2.1.toNat = (arcs.getD i ad).2.1.toNat
            · rw [if_pos et]
            · rw [if_neg et]
              have ef : ¬ (arcs.getD j ad).2.1.toNat = (arcs.getD i ad).1.toNat := fun h => e3 (List.mem_append_right _ (by
                have : (arcs.getD i ad).1 = (arcs.getD j ad).2.1 := by omega
                rw [this]; exact List.mem_singleton.2 rfl))
              rw [if_neg ef] at e2
              have e3' : (arcs.getD i ad).1 ∉ todo := fun h => e3 (List.mem_append_left _ h)
              have hij : i ≠ j := fun h => by subst h; exact et rfl
              exact h5 i hi e1 e2 e3' (e4.imp id fun h => by omega)
          · simp only [S, L41_13, Int.toNat_natCast]
            rw [e_ad, if_pos (lt_nat hjl), if_pos (in_range hjl), if_pos he, if_pos (ct hfs), if_pos (ct (by omega)), if_pos (ct (by omega)), if_pos (ct (by omega)), if_pos (by rw [hm']; rfl), if_pos (ct (by omega)),
              if_pos (ct (by simp only [List.length_singleton, lim]; omega)), wrap_nat (by omega)]
      · refine ⟨(M, todo, j + 1), ⟨by simp only; omega, W, h3, h4, skip fun _ h => absurd h hfs⟩, by simp only; omega, fun n => ?_⟩
        simp only [S, L41_13, Int.toNat_natCast]
        rw [e_ad, if_pos (lt_nat hjl), if_pos (in_range hjl), if_pos he, if_neg (cf hfs), wrap_nat (by omega)]
    · refine ⟨(M, todo, j + 1), ⟨by simp only; omega, W, h3, h4, skip fun h => absurd h he⟩, by simp only; omega, fun n => ?_⟩
      simp only [S, L41_13, Int.toNat_natCast]
      rw [e_ad, if_pos (lt_nat hjl), if_pos (in_range hjl), if_neg he, wrap_nat (by omega)]

theorem l62_41 (M : List Bool) (hM : M.length = N) (hN2 : N ≤ 2000) (hm : ∀ q, q < N → (M.getD q false = true ↔ RC arcs N l q)) :
    limit L62_41_3 (((), (), (M.length : Int), (0 : Int), ()), (((), ()), M, ([] : List (Int)), ())) = some (((), ()), (((), ()), M, (clo arcs N l), ())) := by
  have h := for_rule (L := L62_41_3) (N := N) (S := fun i => (((), (), (M.length : Int), (i : Int), ()), (((), ()), M, (((List.range i).filter fun q => M.getD q false).map fun q : Nat => (q : Int)), ())))
    (r := (((), ()), (((), ()), M, (clo arcs N l), ())))
    (fun i hi n => by
      have hlen : (((List.range i).filter fun q => M.getD q false).map fun q : Nat => (q : Int)).length ≤ i := by
        rw [List.length_map]
        exact Nat.le_trans (List.length_filter_le _ _) (by simp)
      simp only [L62_41_3, Int.toNat_natCast]
      rw [if_pos (ct (by omega)), if_pos (in_range (by omega)), wrap_nat (by omega), List.range_succ, List.filter_append, List.map_append]
      by_cases h : M.getD i false = true
      · rw [if_pos h, if_pos (ct (by simp only [List.length_singleton, lim]; omega))]
        simp only [List.filter_cons, h, if_true, List.filter_nil, List.map_cons, List.map_nil]
      · rw [if_neg h]
        have h' : M.getD i false = false := by simpa using h
        simp only [List.filter_cons, h', Bool.false_eq_true, if_false, List.filter_nil, List.map_nil, List.append_nil])
    (fun n => by
      simp only [L62_41_3]
      rw [if_neg (cf (by omega)), marks_clo hm]) (by omega)
  exact h

theorem p41_spec (hN : st = (N : Int)) (hN2 : N ≤ 2000) (har : ∀ i, i < arcs.length → ArcOk st (arcs.getD i ad)) (hal : arcs.length ≤ 9223372036854775807) (hl : l.length ≤ 9223372036854775807) :
    p41 ((st, (start, (arcs, (acc, ())))), l, ()) = some (clo arcs N l) := by
  obtain ⟨r1, e1, M1, todo1, rfl, W1, b1, b2⟩ := l41_5 (start := start) (arcs := arcs) (acc := acc) hN hN2 hl
  let S : List Bool × List Int → ((Unit × Unit × Unit × Unit × Unit) × (((Int) × (Int) × (List ((Int) × ((Int) × ((Bool) × ((List (Int)) × (Unit)))))) × (List (Int)) × Unit) × (Unit × Unit) × (Unit × Unit) × (List (Bool)) × (List (Int)) × Unit)) :=
    fun t => (((), (), (), (), ()), ((st, start, arcs, acc, ()), ((), ()), ((), ()), t.1, t.2, ()))
  have main := state_rule (L := L41_9) S (fun t => WI N arcs l t.1 t.2 ∧ (∀ q, q < N → (q : Int) ∈ l → t.1.getD q false = true) ∧
      ∀ i, i < arcs.length → (arcs.getD i ad).2.2.1 = true → t.1.getD (arcs.getD i ad).1.toNat false = true → (arcs.getD i ad).1 ∉ t.2 → t.1.getD (arcs.getD i ad).2.1.toNat false = true) (fun t => 2 * (N - t.1.count true) + t.2.length)
    (fun r => ∃ M : List Bool, r = (((), ()), (((), ()), M, ())) ∧ M.length = N ∧ ∀ q, q < N → (M.getD q false = true ↔ RC arcs N l q)) (M1, todo1)
    ⟨W1, b1, fun i hi e1 e2 e3 => by
      obtain ⟨a1, a2, _⟩ := har i hi
      have := b2 (arcs.getD i ad).1.toNat (by omega) e2
      have e : (((arcs.getD i ad).1.toNat : Nat) : Int) = (arcs.getD i ad).1 := by omega
      rw [e] at this
      exact absurd this e3⟩ (by
      have := W1.tl
      have hc : M1.count true ≤ N := by rw [← W1.ml]; exact List.count_le_length
      simp only; omega) (by
    rintro ⟨M, todo⟩ ⟨W, h2, h3⟩
    simp only at W h2 h3
    have hml := W.ml
    have htl := W.tl
    have hcnt : M.count true ≤ N := by rw [← hml]; exact List.count_le_length
    by_cases ht : todo.length = 0
    · left
      have : todo = [] := List.eq_nil_of_length_eq_zero ht
      subst this
      refine ⟨_, ⟨M, rfl, hml, fun q hq => ⟨W.so q hq, fun hr => ?_⟩⟩, fun n => ?_⟩
      · clear hq
        induction hr with
        | base q hq hm => exact h2 q hq hm
        | step i p q hi e1 e2 e3 hp ih =>
          have := h3 i hi e1
          rw [e2, e3, Int.toNat_natCast, Int.toNat_natCast] at this
          exact this ih (by simp)
      · simp only [S, L41_9]
        rw [if_neg (cf (by simp))]
    · right
      have ew : IntKind.i64.wrap ((todo.length : Int) - 1) = ((todo.length - 1 : Nat) : Int) := by rw [wrap_i64 (by omega) (by omega)]; omega
      have hlast : todo.getD (todo.length - 1) 0 ∈ todo := getD_mem (by omega)
      have hs := W.td _ hlast
      have hsplit : todo = todo.take (todo.length - 1) ++ [todo.getD (todo.length - 1) 0] := by
        have := take_snoc (l := todo) (d := 0) (i := todo.length - 1) (by omega)
        rw [show todo.length - 1 + 1 = todo.length by omega, List.take_length] at this
        exact this
      have W' : WI N arcs l M (todo.take (todo.length - 1)) := ⟨W.ml, W.so, fun t ht => W.td t (List.mem_of_mem_take ht), by rw [List.length_take]; omega⟩
      obtain ⟨r, hlim, M', todo', rfl, V, v1, v2, v4, v3⟩ := l41_13 (start := start) (acc := acc) hN hN2 har hal W' hs (fun i hi e1 e2 e3 e4 => h3 i hi e1 e2 (fun h => by
        rw [hsplit] at h
        rcases List.mem_append.1 h with h | h
        · exact e3 h
        · exact e4 (List.mem_singleton.1 h)))
      have hcnt' : M'.count true ≤ N := by rw [← V.ml]; exact List.count_le_length
      refine ⟨(M', todo'), ⟨V, fun q hq hm => v1 q hq (h2 q hq hm), v3⟩, ?_, fun n => ?_⟩
      · simp only
        rw [List.length_take] at v2
        omega
      · simp only [S, L41_9]
        rw [ew, Int.toNat_natCast, if_pos (ct (by omega)), if_pos (ct (by omega)), if_pos (ct (by omega)), hlim, Option.bind_some])
  obtain ⟨r2, e2, M, rfl, m1, m2⟩ := main
  have e2' : limit L41_9 (((), (), (), (), ()), ((st, start, arcs, acc, ()), ((), ()), ((), ()), M1, todo1, ())) = some (((), ()), (((), ()), M, ())) := e2
  have e3 := l62_41 M m1 hN2 m2
  simp only [p41]
  rw [if_pos (ct ⟨trivial, by omega, by simp only [lim]; omega⟩), e1]
  simp only [Option.bind_some]
  rw [e2']
  simp only [Option.bind_some]
  rw [e3]
  rfl
end
end Go.AM

/- Steps of a set of states, by the program and by the reference. -/
namespace Go.AM
open Go

noncomputable def hasB (s : List Int) (b : Nat) : Bool := (p60 (s, (b : Int), ())).getD false

theorem u8_div (b : Nat) (hb : b < 256) : IntKind.u8.wrap ((b : Int).tdiv 64) = ((b / 64 : Nat) : Int) ∧ ((b : Int).tmod 64) = ((b % 64 : Nat) : Int) := by
  have e : ∀ b : Fin 256, IntKind.u8.wrap (((b.val : Nat) : Int).tdiv 64) = ((b.val / 64 : Nat) : Int) ∧ (((b.val : Nat) : Int).tmod 64) = ((b.val % 64 : Nat) : Int) := by decide +kernel
  exact e ⟨b, hb⟩

theorem p60_spec (s : List Int) {b : Nat} (hb : b < 256) : p60 (s, (b : Int), ()) = some (hasB s b) := by
  have h : (p60 (s, (b : Int), ())).isSome = true := by
    obtain ⟨e1, e2⟩ := u8_div b hb
    simp only [p60]
    have h64 : ¬ decide ((64 : Int) = 0) = true := by decide
    rw [if_neg h64, if_pos (ct (by rw [e1]; omega)), if_neg h64, if_pos (ct (by rw [e2]; omega))]
    rfl
  unfold hasB
  cases hc : p60 (s, (b : Int), ()) with
  | none => rw [hc] at h; cases h
  | some v => rfl

theorem p65_spec (s : List Int) {b : Nat} (hb : b < 256) : p65 (s, (b : Int), ()) = some (hasB s b) := by
  have e : p65 = p60 := rfl
  rw [e]; exact p60_spec s hb

theorem hasB_zero {b : Nat} (hb : b < 256) : hasB [0, 0, 0, 0] b = false := by
  have e : ∀ b : Fin 256, hasB [0, 0, 0, 0] b.val = false := by decide +kernel
  exact e ⟨b, hb⟩

noncomputable def tgt (arcs : List Arc) (fr : List Bool) (b : Nat) : List Int := (arcs.filter fun a => !a.2.2.1 && fr.getD a.1.toNat false && hasB (setOf a) b).map fun a => a.2.1
open Classical in
noncomputable def frF (arcs : List Arc) (N : Nat) (l : List Int) : List Bool := (List.range N).map fun q => decide (RC arcs N l q)
noncomputable def stp (arcs : List Arc) (N : Nat) (l : List Int) (b : Nat) : List Int := clo arcs N (tgt arcs (frF arcs N l) b)

section
variable {N : Nat} {st start : Int} {arcs : List Arc} {acc : List Int} {l : List Int}

theorem mem_clo {x : Int} : x ∈ clo arcs N l ↔ ∃ q : Nat, x = (q : Int) ∧ q < N ∧ RC arcs N l q := by
  unfold clo
  simp only [List.mem_map, List.mem_filter, List.mem_range, decide_eq_true_eq]
  constructor
  · rintro ⟨q, ⟨h1, h2⟩, rfl⟩; exact ⟨q, rfl, h1, h2⟩
  · rintro ⟨q, rfl, h1, h2⟩; exact ⟨q, ⟨h1, h2⟩, rfl⟩

theorem clo_length : (clo arcs N l).length ≤ N := by
  unfold clo
  rw [List.length_map]
  exact Nat.le_trans (List.length_filter_le _ _) (by simp)

theorem rc_clo (hN : st = (N : Int)) (har : ∀ i, i < arcs.length → ArcOk st (arcs.getD i ad)) {q : Nat} : RC arcs N (clo arcs N l) q ↔ RC arcs N l q := by
  constructor
  · intro h
    induction h with
    | base q hq hm =>
      obtain ⟨q', e, _, h⟩ := mem_clo.1 hm
      have : q = q' := by omega
      subst this; exact h
    | step i p q h1 h2 h3 h4 _ ih => exact .step i p q h1 h2 h3 h4 ih
  · intro h
    exact .base q (rc_lt hN har h) (mem_clo.2 ⟨q, rfl, rc_lt hN har h, h⟩)

open Classical in
theorem clo_congr {l m : List Int} (h : ∀ q, q < N → (RC arcs N l q ↔ RC arcs N m q)) : clo arcs N l = clo arcs N m := by
  unfold clo
  congr 1
  apply List.filter_congr
  intro q hq
  have := h q (List.mem_range.1 hq)
  by_cases hh : RC arcs N l q
  · rw [decide_eq_true hh, decide_eq_true (this.1 hh)]
  · rw [decide_eq_false hh, decide_eq_false fun h2 => hh (this.2 h2)]

theorem clo_clo (hN : st = (N : Int)) (har : ∀ i, i < arcs.length → ArcOk st (arcs.getD i ad)) : clo arcs N (clo arcs N l) = clo arcs N l := clo_congr fun _ _ => rc_clo hN har

theorem frF_length : (frF arcs N l).length = N := by simp [frF]

open Classical in
theorem frF_of {M : List Bool} (hM : M.length = N) (h : ∀ q, q < N → (M.getD q false = true ↔ RC arcs N l q)) : M = frF arcs N l := by
  refine ext_getD false (by rw [hM, frF_length]) fun q hq => ?_
  rw [hM] at hq
  unfold frF
  rw [map_range_getD hq]
  have := h q hq
  by_cases hh : RC arcs N l q
  · rw [decide_eq_true hh]; exact this.2 hh
  · rw [decide_eq_false hh]
    cases hc : M.getD q false with
    | false => rfl
    | true => exact absurd (this.1 hc) hh

theorem tgt_small {fr : List Bool} {b : Nat} : (tgt arcs fr b).length ≤ arcs.length := by
  unfold tgt
  rw [List.length_map]
  exact List.length_filter_le _ _

theorem tgt_snoc {fr : List Bool} {b i : Nat} (hi : i < arcs.length) : tgt (arcs.take (i + 1)) fr b = tgt (arcs.take i) fr b ++ (if (!(arcs.getD i ad).2.2.1 && fr.getD (arcs.getD i ad).1.toNat false && hasB (setOf (arcs.getD i ad)) b) = true then [(arcs.getD i ad).2.1] else []) := by
  unfold tgt
  rw [take_snoc (d := ad) hi, List.filter_append, List.map_append]
  congr 1
  simp only [List.filter_cons, List.filter_nil]
  split <;> rfl

theorem l43_3 (hN : st = (N : Int)) (hN2 : N ≤ 2000) (b : Int) :
    limit L43_3 ((b, (), (), clo arcs N l, ((clo arcs N l).length : Int), (0 : Int), ()), ((st, start, arcs, acc, ()), (List.replicate st.toNat false), ())) = some ((b, (), (), ()), ((st, start, arcs, acc, ()), frF arcs N l, ())) := by
  have hcl := clo_length (arcs := arcs) (N := N) (l := l)
  have rep : ∀ p, (List.replicate st.toNat false).getD p false = false := fun p => by rw [List.getD_eq_getElem?_getD, List.getElem?_replicate]; split <;> rfl
  have main := state_rule (L := L43_3) (fun s : List Bool × Nat => ((b, (), (), clo arcs N l, ((clo arcs N l).length : Int), (s.2 : Int), ()), ((st, start, arcs, acc, ()), s.1, ())))
    (fun s => s.2 ≤ (clo arcs N l).length ∧ s.1.length = N ∧ ∀ q, q < N → (s.1.getD q false = true ↔ ∃ j, j < s.2 ∧ (clo arcs N l).getD j 0 = (q : Int))) (fun s => (clo arcs N l).length - s.2)
    (fun r => r = ((b, (), (), ()), ((st, start, arcs, acc, ()), frF arcs N l, ()))) (List.replicate st.toNat false, 0)
    ⟨by simp, by simp only [List.length_replicate]; omega, fun q _ => by simp only; rw [rep]; exact ⟨fun h => (by cases h), fun ⟨j, hj, _⟩ => (by omega)⟩⟩ (by simp only; omega) (by
    rintro ⟨M, i⟩ ⟨hi, hM, h⟩
    simp only at hi hM h
    by_cases hi' : i = (clo arcs N l).length
    · left
      subst hi'
      refine ⟨_, rfl, fun n => ?_⟩
      have e : M = frF arcs N l := frF_of hM fun q hq => by
        rw [h q hq]
        constructor
        · rintro ⟨j, hj, e⟩
          have hm := getD_mem (d := (0 : Int)) hj
          rw [e] at hm
          obtain ⟨q', e', _, hr⟩ := mem_clo.1 hm
          have : q = q' := by omega
          subst this; exact hr
        · intro hr
          obtain ⟨j, hj, e⟩ := List.mem_iff_getElem.1 (mem_clo.2 ⟨q, rfl, hq, hr⟩)
          exact ⟨j, hj, by rw [List.getD_eq_getElem?_getD, List.getElem?_eq_getElem hj]; exact e⟩
      rw [e]
      simp only [L43_3]
      rw [if_neg nlt_nat]
    · have hil : i < (clo arcs N l).length := by omega
      right
      obtain ⟨q0, e0, hq0, hr0⟩ := mem_clo.1 (getD_mem (d := (0 : Int)) hil)
      refine ⟨(M.set ((clo arcs N l).getD i 0).toNat true, i + 1), ⟨by simp only; omega, by simp only [List.length_set]; exact hM, fun q hq => ?_⟩, by simp only; omega, fun n => ?_⟩
      · simp only
        rw [getD_set (by omega)]
        by_cases e : ((clo arcs N l).getD i 0).toNat = q
        · rw [if_pos e]
          exact ⟨fun _ => ⟨i, by omega, by omega⟩, fun _ => rfl⟩
        · rw [if_neg e, h q hq]
          constructor
          · rintro ⟨j, hj, e'⟩; exact ⟨j, by omega, e'⟩
          · rintro ⟨j, hj, e'⟩
            by_cases ej : j = i
            · subst ej; omega
            · exact ⟨j, by omega, e'⟩
      · simp only [L43_3, Int.toNat_natCast]
        rw [if_pos (lt_nat hil), if_pos (in_range hil), if_pos (ct (by omega)), wrap_nat (by omega)])
  obtain ⟨r, hlim, rfl⟩ := main
  exact hlim

theorem l49_4 (hN : st = (N : Int)) (hN2 : N ≤ 2000) (b : Int) :
    limit L49_4 ((b, (), (), clo arcs N l, (0 : Int), ()), ((st, start, arcs, acc, ()), (List.replicate st.toNat false), ())) = some ((b, (), (), ()), ((st, start, arcs, acc, ()), frF arcs N l, ())) := by
  have hcl := clo_length (arcs := arcs) (N := N) (l := l)
  have rep : ∀ p, (List.replicate st.toNat false).getD p false = false := fun p => by rw [List.getD_eq_getElem?_getD, List.getElem?_replicate]; split <;> rfl
  have main := state_rule (L := L49_4) (fun s : List Bool × Nat => ((b, (), (), clo arcs N l, (s.2 : Int), ()), ((st, start, arcs, acc, ()), s.1, ())))
    (fun s => s.2 ≤ (clo arcs N l).length ∧ s.1.length = N ∧ ∀ q, q < N → (s.1.getD q false = true ↔ ∃ j, j < s.2 ∧ (clo arcs N l).getD j 0 = (q : Int))) (fun s => (clo arcs N l).length - s.2)
    (fun r => r = ((b, (), (), ()), ((st, start, arcs, acc, ()), frF arcs N l, ()))) (List.replicate st.toNat false, 0)
    ⟨by simp, by simp only [List.length_replicate]; omega, fun q _ => by simp only; rw [rep]; exact ⟨fun h => (by cases h), fun ⟨j, hj, _⟩ => (by omega)⟩⟩ (by simp only; omega) (by
    rintro ⟨M, i⟩ ⟨hi, hM, h⟩
    simp only at hi hM h
    by_cases hi' : i = (clo arcs N l).length
    · left
      subst hi'
      refine ⟨_, rfl, fun n => ?_⟩
      have e : M = frF arcs N l := frF_of hM fun q hq => by
        rw [h q hq]
        constructor
        · rintro ⟨j, hj, e⟩
          have hm := getD_mem (d := (0 : Int)) hj
          rw [e] at hm
          obtain ⟨q', e', _, hr⟩ := mem_clo.1 hm
          have : q = q' := by omega
          subst this; exact hr
        · intro hr
          obtain ⟨j, hj, e⟩ := List.mem_iff_getElem.1 (mem_clo.2 ⟨q, rfl, hq, hr⟩)
          exact ⟨j, hj, by rw [List.getD_eq_getElem?_getD, List.getElem?_eq_getElem hj]; exact e⟩
      rw [e]
      simp only [L49_4]
      rw [if_neg nlt_nat]
    · have hil : i < (clo arcs N l).length := by omega
      right
      obtain ⟨q0, e0, hq0, hr0⟩ := mem_clo.1 (getD_mem (d := (0 : Int)) hil)
      refine ⟨(M.set ((clo arcs N l).getD i 0).toNat true, i + 1), ⟨by simp only; omega, by simp only [List.length_set]; exact hM, fun q hq => ?_⟩, by simp only; omega, fun n => ?_⟩
      · simp only
        rw [getD_set (by omega)]
        by_cases e : ((clo arcs N l).getD i 0).toNat = q
        · rw [if_pos e]
          exact ⟨fun _ => ⟨i, by omega, by omega⟩, fun _ => rfl⟩
        · rw [if_neg e, h q hq]
          constructor
          · rintro ⟨j, hj, e'⟩; exact ⟨j, by omega, e'⟩
          · rintro ⟨j, hj, e'⟩
            by_cases ej : j = i
            · subst ej; omega
            · exact ⟨j, by omega, e'⟩
      · simp only [L49_4, Int.toNat_natCast]
        rw [if_pos (lt_nat hil), if_pos (in_range hil), if_pos (ct (by omega)), wrap_nat (by omega)])
  obtain ⟨r, hlim, rfl⟩ := main
  exact hlim

theorem l43_9 (hN : st = (N : Int)) (har : ∀ i, i < arcs.length → ArcOk st (arcs.getD i ad)) (hal : arcs.length ≤ 2000) {fr : List Bool} (hfr : fr.length = N) {b : Nat} (hb : b < 256) :
    limit L43_9 (((b : Int), (), (), (), arcs, (arcs.length : Int), (0 : Int), ()), ((st, start, arcs, acc, ()), ([] : List (Int)), fr, ())) = some (((), (), ()), ((st, start, arcs, acc, ()), tgt arcs fr b, ())) := by
  exact for_rule (L := L43_9) (N := arcs.length) (S := fun i => (((b : Int), (), (), (), arcs, (arcs.length : Int), (i : Int), ()), ((st, start, arcs, acc, ()), tgt (arcs.take i) fr b, fr, ())))
    (r := (((), (), ()), ((st, start, arcs, acc, ()), tgt arcs fr b, ())))
    (fun i hi n => by
      obtain ⟨a1, a2, a3, a4, _⟩ := har i hi
      have hlen : (tgt (arcs.take i) fr b).length ≤ i := Nat.le_trans tgt_small (by rw [List.length_take]; omega)
      have e60 := p60_spec (setOf (arcs.getD i ad)) hb
      simp only [L43_9, Int.toNat_natCast]
      rw [e_ad, if_pos (lt_nat hi), if_pos (in_range hi), tgt_snoc hi, wrap_nat (by omega)]
      cases h1 : (arcs.getD i ad).2.2.1 with
      | true => rw [if_neg ntf]; simp
      | false =>
        rw [if_pos nft, if_pos (ct (by omega))]
        cases h2 : fr.getD (arcs.getD i ad).1.toNat false with
        | false => rw [if_neg ff]; simp
        | true =>
          rw [if_pos rfl, e60, Option.bind_some]
          cases h3 : hasB (setOf (arcs.getD i ad)) b with
          | false => rw [if_neg ff]; simp
          | true => rw [if_pos rfl, if_pos (ct (by simp only [List.length_singleton, lim]; omega))]; simp)
    (fun n => by simp only [L43_9]; rw [if_neg nlt_nat, List.take_length]) (by omega)

theorem l49_9 (hN : st = (N : Int)) (har : ∀ i, i < arcs.length → ArcOk st (arcs.getD i ad)) (hal : arcs.length ≤ 2000) {fr : List Bool} (hfr : fr.length = N) {b : Nat} (hb : b < 256) :
    limit L49_9 (((b : Int), (), (), (), (0 : Int), ()), ((st, start, arcs, acc, ()), ([] : List (Int)), fr, ())) = some (((), (), ()), ((st, start, arcs, acc, ()), tgt arcs fr b, ())) := by
  exact for_rule (L := L49_9) (N := arcs.length) (S := fun i => (((b : Int), (), (), (), (i : Int), ()), ((st, start, arcs, acc, ()), tgt (arcs.take i) fr b, fr, ())))
    (r := (((), (), ()), ((st, start, arcs, acc, ()), tgt arcs fr b, ())))
    (fun i hi n => by
      obtain ⟨a1, a2, a3, a4, _⟩ := har i hi
      have hlen : (tgt (arcs.take i) fr b).length ≤ i := Nat.le_trans tgt_small (by rw [List.length_take]; omega)
      have e60 := p65_spec (setOf (arcs.getD i ad)) hb
      simp only [L49_9, Int.toNat_natCast]
      rw [e_ad, if_pos (lt_nat hi), if_pos (in_range hi), tgt_snoc hi, wrap_nat (by omega)]
      cases h1 : (arcs.getD i ad).2.2.1 with
      | true => rw [if_neg ntf]; simp
      | false =>
        rw [if_pos nft, if_pos (ct (by omega))]
        cases h2 : fr.getD (arcs.getD i ad).1.toNat false with
        | false => rw [if_neg ff]; simp
        | true =>
          rw [if_pos rfl, e60, Option.bind_some]
          cases h3 : hasB (setOf (arcs.getD i ad)) b with
          | false => rw [if_neg ff]; simp
          | true => rw [if_pos rfl, if_pos (ct (by simp only [List.length_singleton, lim]; omega))]; simp)
    (fun n => by simp only [L49_9]; rw [if_neg nlt_nat, List.take_length]) (by omega)

theorem p43_spec (hN : st = (N : Int)) (hN2 : N ≤ 2000) (har : ∀ i, i < arcs.length → ArcOk st (arcs.getD i ad)) (hal : arcs.length ≤ 2000) (hl : l.length ≤ 9223372036854775807) {b : Nat} (hb : b < 256) :
    p43 ((st, (start, (arcs, (acc, ())))), l, (b : Int), ()) = some (stp arcs N l b) := by
  have e1 := p41_spec (start := start) (acc := acc) hN hN2 har (by omega) hl
  have e2 := l43_3 (start := start) (arcs := arcs) (acc := acc) (l := l) hN hN2 (b : Int)
  have e3 := l43_9 (start := start) (acc := acc) (fr := frF arcs N l) hN har hal frF_length hb
  have hs := tgt_small (arcs := arcs) (fr := frF arcs N l) (b := b)
  have e4 := p41_spec (start := start) (acc := acc) (l := tgt arcs (frF arcs N l) b) hN hN2 har (by omega) (by omega)
  simp only [p43]
  rw [if_pos (ct ⟨trivial, by omega, by simp only [lim]; omega⟩), e1]
  simp only [Option.bind_some]
  rw [e2]
  simp only [Option.bind_some]
  rw [e3]
  simp only [Option.bind_some]
  rw [e4]
  rfl

theorem p49_spec (hN : st = (N : Int)) (hN2 : N ≤ 2000) (har : ∀ i, i < arcs.length → ArcOk st (arcs.getD i ad)) (hal : arcs.length ≤ 2000) (hl : l.length ≤ 9223372036854775807) {b : Nat} (hb : b < 256) :
    p49 ((st, (start, (arcs, (acc, ())))), l, (b : Int), ()) = some (stp arcs N l b) := by
  have e1 := p48_spec (start := start) (acc := acc) hN hN2 har (by omega) hl
  have e2 := l49_4 (start := start) (arcs := arcs) (acc := acc) (l := l) hN hN2 (b : Int)
  have e3 := l49_9 (start := start) (acc := acc) (fr := frF arcs N l) hN har hal frF_length hb
  have hs := tgt_small (arcs := arcs) (fr := frF arcs N l) (b := b)
  obtain ⟨r1, e4, M1, rfl, m1, m2⟩ := base_i (start := start) (arcs := arcs) (acc := acc) (l := tgt arcs (frF arcs N l) b) hN (by omega)
  obtain ⟨r2, e5, M2, rfl, m3, m4⟩ := fix_i (start := start) (acc := acc) (l := tgt arcs (frF arcs N l) b) hN hN2 har (by omega) M1 m1 m2
  have e6 := list_i (st := st) (start := start) (acc := acc) M2 m3 hN2 m4
  simp only [p49]
  rw [if_pos (ct ⟨trivial, by omega, by simp only [lim]; omega⟩), e1]
  simp only [Option.bind_some]
  rw [e2]
  simp only [Option.bind_some]
  rw [e3]
  simp only [Option.bind_some]
  rw [if_pos (ct ⟨trivial, by omega, by simp only [lim]; omega⟩), e4]
  simp only [Option.bind_some]
  rw [e5]
  simp only [Option.bind_some]
  rw [e6]
  rfl
end
end Go.AM
