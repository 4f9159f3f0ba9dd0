/- The program's builder, plain: unions, repetitions, all expressions. -/
import Derived.Test.YtdjbokdohackdaaP52
namespace Go.AM
open Go

theorem l356 {E : BIn → Option BOut} {ks : List Rx} {y1 : List (List Int)} {y2 : List (List (Int × Bool))} (hk : ks.length ≤ 9223372036854775807) (hw : ∀ k ∈ ks, wfR k) (hE : ∀ k ∈ ks, Says E k) (hy : y2.length = y1.length + 1) (hn : y1.length + nnL ks ≤ 100000000) :
    limit (L356_356_3 E) (((), (), (), ks, (ks.length : Int), (0 : Int), ()), (((), (), ()), (false, ([] : List (Int)), ([] : List (Int)), ()), (false, ([] : List (Int)), ([] : List (Int)), ()), y1, y2, ())) =
      some (((), (), ()), (((), (), ()), (false, ([] : List (Int)), ([] : List (Int)), ()), ((glU ks y1.length ⟨false, [], []⟩).n, (glU ks y1.length ⟨false, [], []⟩).f, (glU ks y1.length ⟨false, [], []⟩).l, ()), y1 ++ lvL ks, appP (flU ks y1.length) (y2 ++ List.replicate (lvL ks).length []), ())) := by
  let x0 : Pt := ⟨false, [], []⟩
  have h := for_rule (L := L356_356_3 E) (N := ks.length)
    (S := fun i => (((), (), (), ks, (ks.length : Int), (i : Int), ()), (((), (), ()), (false, ([] : List (Int)), ([] : List (Int)), ()), ((glU (ks.take i) y1.length x0).n, (glU (ks.take i) y1.length x0).f, (glU (ks.take i) y1.length x0).l, ()), y1 ++ lvL (ks.take i), appP (flU (ks.take i) y1.length) (y2 ++ List.replicate (lvL (ks.take i)).length []), ())))
    (r := (((), (), ()), (((), (), ()), (false, ([] : List (Int)), ([] : List (Int)), ()), ((glU ks y1.length x0).n, (glU ks y1.length x0).f, (glU ks y1.length x0).l, ()), y1 ++ lvL ks, appP (flU ks y1.length) (y2 ++ List.replicate (lvL ks).length []), ())))
    (fun i hi n => by
      have hmem : ks.getD i rxd ∈ ks := getD_mem hi
      have hne := nrm_eq (hw _ hmem).four
      unfold nrm at hne
      have hti := nnL_take ks (i + 1)
      rw [nnL_snoc hi] at hti
      have hlv := lvL_le (ks.take i)
      have hlr := lv_le (ks.getD i rxd)
      have hfin := flU_in (ks.take i) y1.length
      have hpin := glU_pin (ks.take i) y1.length 0 x0 (.nil _ _ _)
      simp only [Nat.add_zero, Nat.zero_add] at hpin
      have hyp := gl_pin (ks.getD i rxd) (y1.length + (lvL (ks.take i)).length)
      have e := hE _ hmem (y1 ++ lvL (ks.take i)) (appP (flU (ks.take i) y1.length) (y2 ++ List.replicate (lvL (ks.take i)).length [])) (by rw [appP_length, List.length_append, List.length_append, List.length_replicate]; omega) (by rw [List.length_append]; omega)
      rw [List.length_append, app_grow hfin hy] at e
      have e1 : glU (ks.take (i + 1)) y1.length x0 = uniP (glU (ks.take i) y1.length x0) (gl (ks.getD i rxd) (y1.length + (lvL (ks.take i)).length)) := by rw [take_snoc (d := rxd) hi, glU_append]; rfl
      have e2 : flU (ks.take (i + 1)) y1.length = flU (ks.take i) y1.length ++ fl (ks.getD i rxd) (y1.length + (lvL (ks.take i)).length) := by
        rw [take_snoc (d := rxd) hi, flU_append]; simp [flU]
      have e3 : lvL (ks.take (i + 1)) = lvL (ks.take i) ++ lv (ks.getD i rxd) := by rw [take_snoc (d := rxd) hi, lvL_append]; simp [lvL]
      rw [e1, e2, e3]
      generalize hX : glU (ks.take i) y1.length x0 = X at *
      generalize hY : gl (ks.getD i rxd) (y1.length + (lvL (ks.take i)).length) = Y at *
      have c1 := p363_two (a := X.f) (b := Y.f) (by have := hyp.2.2.1; have := hpin.2.2.1; omega)
      have c2 := p363_two (a := X.l) (b := Y.l) (by have := hyp.2.2.2; have := hpin.2.2.2; omega)
      unfold bin bout at e
      simp only [L356_356_3, Int.toNat_natCast]
      rw [if_pos (lt_nat hi), if_pos (in_range hi), hne, e, Option.bind_some]
      simp only
      rw [wrap_nat (by omega), List.length_append, List.append_assoc y1]
      simp only [uniP]
      cases hxn : X.n <;> simp [c1, c2])
    (fun n => by simp only [L356_356_3]; rw [if_neg nlt_nat, List.take_length]) (by omega)
  have h' := h
  simp only [List.take_zero, lvL, glU, flU, List.append_nil, List.length_nil, List.replicate_zero, appP, List.foldl_nil] at h'
  exact h'

theorem p355_says {E : BIn → Option BOut} {r : Rx} (hw : wfR r) (hk : r.kind = 4) (hE : ∀ k ∈ r.kids, Says E k) : Says (p355 E) r := by
  intro y1 y2 hy hn
  obtain ⟨k, s, ks⟩ := r
  replace hk : k = 4 := hk
  subst hk
  have hnn : nn (Rx.mk 4 s ks) = 1 + nnL ks := rfl
  have h := l355 (E := E) (ks := ks) (y1 := y1) (y2 := y2) (kl62 hw) hw.kids hE hy (by omega)
  unfold bin bout
  simp only [p355, Rx.kids]
  rw [h]
  simp only [Option.bind_some]
  unfold gl fl lv
  simp

theorem p356_says {E : BIn → Option BOut} {r : Rx} (hw : wfR r) (hk : r.kind = 5) (hE : ∀ k ∈ r.kids, Says E k) : Says (p356 E) r := by
  intro y1 y2 hy hn
  obtain ⟨k, s, ks⟩ := r
  replace hk : k = 5 := hk
  subst hk
  have hnn : nn (Rx.mk 5 s ks) = 1 + nnL ks := rfl
  have h := l356 (E := E) (ks := ks) (y1 := y1) (y2 := y2) (kl62 hw) hw.kids hE hy (by omega)
  unfold bin bout
  simp only [p356, Rx.kids]
  rw [h]
  simp only [Option.bind_some]
  unfold gl fl lv
  simp

theorem p357_says {E : BIn → Option BOut} {r : Rx} (hw : wfR r) (hk : r.kind = 6) (h1 : r.kids.length = 1) (hE : ∀ k ∈ r.kids, Says E k) : Says (p357 E) r := by
  intro y1 y2 hy hn
  obtain ⟨k, s, ks⟩ := r
  replace hk : k = 6 := hk
  subst hk
  match ks, h1 with
  | [x], _ =>
    have hnn : nn (Rx.mk 6 s [x]) = 1 + (nn x + 0) := rfl
    have e := hE x (by simp [Rx.kids]) y1 y2 hy (by omega)
    have hne := nrm_eq (hw.kids x (by simp [Rx.kids])).four
    unfold nrm at hne
    have hp := gl_pin x y1.length
    have hlx := lv_le x
    unfold bin bout at e
    have el := p343_spec (from_ := (gl x y1.length).l) (to := (gl x y1.length).f) (y1 := y1 ++ lv x) (y2 := appP (fl x y1.length) (y2 ++ List.replicate (lv x).length []))
      (fun p hp' => by have := hp.2.1 p hp'; rw [appP_length, List.length_append, List.length_replicate, hy]; omega) (by have := hp.2.2.1; omega) (by have := hp.2.2.2; omega)
    unfold bin bout
    simp only [p357]
    rw [if_pos (show decide (0 ≤ (0 : Int) ∧ (0 : Int) < (((Rx.mk 6 s [x]).kids.length : Nat) : Int)) = true from rfl)]
    rw [show (Rx.mk 6 s [x]).kids.getD (0 : Int).toNat (Rx.mk 0 [0, 0, 0, 0] []) = x from rfl]
    rw [hne, e, Option.bind_some]
    simp only
    rw [el, Option.bind_some]
    have g1 : gl (Rx.mk 6 s [x]) y1.length = ⟨true, (gl x y1.length).f, (gl x y1.length).l⟩ := by simp [gl, glU, uniP]
    have g2 : fl (Rx.mk 6 s [x]) y1.length = fl x y1.length ++ prs (gl x y1.length).l (gl x y1.length).f := by simp [fl, flU, glU, uniP]
    have g3 : lv (Rx.mk 6 s [x]) = lv x := by simp [lv, lvL]
    rw [g1, g2, g3, appP_append]

theorem p354_says {r : Rx} (hw : wfR r) (hk : r.kind = 3) : Says p354 r := by
  intro y1 y2 hy hn
  have hf := hw.four
  obtain ⟨k, s, ks⟩ := r
  replace hk : k = 3 := hk
  subst hk
  have hs : [(s.getD 0 0), (s.getD 1 0), (s.getD 2 0), (s.getD 3 0)] = s := by
    replace hf : s.length = 4 := hf
    match s, hf with
    | [a, b, c, d], _ => rfl
  unfold bin bout
  simp only [p354, Rx.set, hs]
  rw [if_pos (ct (by simp; unfold lim; omega)), if_pos (ct (by simp; unfold lim; omega))]
  unfold gl fl lv
  simp [appP]

theorem p342_says : ∀ (d m : Nat), d ≤ m → ∀ r : Rx, wfR r → VR d r → Says (p342n m) r
  | 0, _, _, _, _, h => h.elim
  | d + 1, m + 1, hm, r, hw, hv => by
    have ih : ∀ k ∈ r.kids, Says (p342n m) k := fun k hk => p342_says d m (by omega) k (hw.kids k hk) (hv.2 k hk)
    have hne := nrm_eq hw.four
    unfold nrm at hne
    intro y1 y2 hy hn
    show p342b (p342n m) _ = _
    have hnode := hv.1
    unfold nodeOk at hnode
    simp only [Bool.and_eq_true, Bool.or_eq_true, beq_iff_eq, decide_eq_true_eq] at hnode
    unfold bin
    simp only [p342b, hne]
    rcases hnode.2 with (⟨(h | h) | h, _⟩ | ⟨h | h, _⟩) | ⟨h, h1⟩
    · rw [if_pos (ct h)]
      obtain ⟨k, s, ks⟩ := r
      replace h : k = 1 := h
      subst h
      simp only [p352, Option.bind_some]
      unfold gl fl lv
      simp [bout, appP]
    · rw [if_neg (cf (by omega)), if_pos (ct h)]
      obtain ⟨k, s, ks⟩ := r
      replace h : k = 2 := h
      subst h
      simp only [p353, Option.bind_some]
      unfold gl fl lv
      simp [bout, appP]
    · rw [if_neg (cf (by omega)), if_neg (cf (by omega)), if_pos (ct h)]
      have e := p354_says hw h y1 y2 hy hn
      unfold bin at e
      rw [e]; rfl
    · rw [if_neg (cf (by omega)), if_neg (cf (by omega)), if_neg (cf (by omega)), if_pos (ct h)]
      have e := p355_says hw h ih y1 y2 hy hn
      unfold bin at e
      rw [e]; rfl
    · rw [if_neg (cf (by omega)), if_neg (cf (by omega)), if_neg (cf (by omega)), if_neg (cf (by omega)), if_pos (ct h)]
      have e := p356_says hw h ih y1 y2 hy hn
      unfold bin at e
      rw [e]; rfl
    · rw [if_neg (cf (by omega)), if_neg (cf (by omega)), if_neg (cf (by omega)), if_neg (cf (by omega)), if_neg (cf (by omega)), if_pos (ct h)]
      have e := p357_says hw h h1 ih y1 y2 hy hn
      unfold bin at e
      rw [e]; rfl
end Go.AM
