/- Minimize: the whole function. -/
import Derived.Test.YtagllmgnmkdogaaP21
import Derived.Test.YtagllmgnmkdogaaP8
namespace Go.AM
open Go

variable {c : List Int} {nx : List (List Int)} {ac : List Int}

theorem ctg_cst {part : List Int} (P : Parts c nx ac part) {s t : Int} (hs0 : -1 ≤ s) (hs : s < nx.length) (ht0 : -1 ≤ t) (ht : t < nx.length) : ctg part s = ctg part t ↔ cst part s = cst part t := by
  rw [cst_eq P hs0 hs ht0 ht]
  unfold ctg
  by_cases h1 : s ≥ 0
  · have p1 := P.pb s.toNat (by omega)
    rw [if_pos h1]
    by_cases h2 : t ≥ 0
    · rw [if_pos h2]
      exact ⟨fun h => .inr ⟨h1, h2, h⟩, fun h => by rcases h with h | h; · omega
                                                    · exact h.2.2⟩
    · rw [if_neg h2]
      exact ⟨fun h => by omega, fun h => by omega⟩
  · rw [if_neg h1]
    by_cases h2 : t ≥ 0
    · have p2 := P.pb t.toNat (by omega)
      rw [if_pos h2]
      exact ⟨fun h => by omega, fun h => by omega⟩
    · rw [if_neg h2]
      exact ⟨fun h => .inl (by omega), fun h => by omega⟩

theorem p15_spec (V : VDfa c nx ac) (hac : ∀ s, s < nx.length → ac.getD s 0 ≤ 9223372036854775807) :
    ∃ c' nx' ac', p15 ((c, (nx, (ac, ()))), ()) = some (c', (nx', (ac', ()))) ∧ Cano c' nx' ac' (fun w => accZ ac (runZ c nx 0 w)) ∧ nx'.length ≤ nx.length := by
  have n1 := V.n1
  have n5 := V.n500
  -- columns that are used
  have V1 := used_valid V
  have F1 := used_fon V
  have ul := unx_length (c := c) (nx := nx)
  -- live states
  obtain ⟨L, hl, hL, e33⟩ := p33_run V1 F1 (fon_le F1)
  have V2 := prune_valid (L := L) V1
  have T2 := prune_trim (L := L) V1 hl hL
  have pl := pnx_length (L := L) (nx := unx c nx)
  have F2 : Fon (ucls c) ((pnx L (unx c nx)).getD 0 []).length := by rw [pnx_row (by omega)]; exact F1
  have lang2 : ∀ w, accZ ac (runZ (ucls c) (pnx L (unx c nx)) 0 w) = accZ ac (runZ c nx 0 w) := by
    intro w
    rw [prune_lang V1 hl hL w (by omega) (by omega), used_run V w (by omega) (by omega)]
  generalize hc1 : ucls c = c1 at *
  generalize hn2 : pnx L (unx c nx) = n2 at *
  obtain ⟨part, e35, q1, q2, q3, q4⟩ := p35_spec V2 F2 T2 (fun s hs => hac s (by omega))
  have P : Parts c1 n2 ac part := ⟨V2, F2, T2, q1, q2, q3, q4⟩
  obtain ⟨st, e37, s1, s2, s3, s4⟩ := p37_spec V2 F2 q1 q2 T2 q4
  have e36 := p36_spec V2 q1 s2 s1
  generalize hc3 : (List.range 256).map (numv .str (keyC c1 n2 part st)) = c3 at e36
  have g3 : ∀ b, b < 256 → c3.getD b 0 = numv .str (keyC c1 n2 part st) b := fun b hb => by rw [← hc3, map_range_getD hb]
  have F3 : Fon c3 (esF .str (keyC c1 n2 part st) 256).length := ⟨fun i => (esF .str (keyC c1 n2 part st) i).length, rfl, rfl, fun b hb => by rw [g3 b hb]; exact numv_fon eqOk_str b⟩
  have h256 : c3.length = 256 := by rw [← hc3]; simp
  have hk1 : 1 ≤ (esF .str (keyC c1 n2 part st) 256).length := by
    have := numv_bounds (K := .str) eqOk_str (key := keyC c1 n2 part st) 256 0 (by omega)
    omega
  generalize (esF .str (keyC c1 n2 part st) 256).length = k3 at F3 hk1
  obtain ⟨bs, e38, b1, b2⟩ := p38_spec h256 F3
  have S : Samp c3 bs k3 := ⟨h256, F3, b1, b2⟩
  have ceq : ∀ a b, a < 256 → b < 256 → (c3.getD a 0 = c3.getD b 0 ↔ ∀ k, k < st.length → cst part (stepZ c1 n2 (st.getD k 0) a) = cst part (stepZ c1 n2 (st.getD k 0) b)) := by
    intro a b ha hb
    rw [g3 a ha, g3 b hb, numv_inj eqOk_str 256 a b ha hb, keyC_eq V2 q1 q2 s2 ha hb]
    constructor
    · intro h k hk
      have va := V2.step (s2 k hk).2 ha
      have vb := V2.step (s2 k hk).2 hb
      exact (ctg_cst P va.1 va.2 vb.1 vb.2).1 (h k hk)
    · intro h k hk
      have va := V2.step (s2 k hk).2 ha
      have vb := V2.step (s2 k hk).2 hb
      exact (ctg_cst P va.1 va.2 vb.1 vb.2).2 (h k hk)
  have n2l : n2.length = nx.length := by omega
  have hcl : ∀ w, 0 ≤ runZ c1 n2 0 w → ∀ a b, a < 256 → b < 256 → c3.getD a 0 = c3.getD b 0 → cst part (stepZ c1 n2 (runZ c1 n2 0 w) a) = cst part (stepZ c1 n2 (runZ c1 n2 0 w) b) := by
    intro w hw a b ha hb h
    have hrw := V2.run w (s := 0) (by omega) (by omega)
    obtain ⟨k, hk, hle⟩ := s4 w hw
    have hs := s2 k hk
    have hcc := (cst_eq P (by omega) hs.2 hrw.1 hrw.2).2 (.inr ⟨hs.1, hw, (LE_part P hs.1 hs.2 hw hrw.2).2 hle⟩)
    rw [← cst_step P (by omega) hs.2 hrw.1 hrw.2 hcc ha, ← cst_step P (by omega) hs.2 hrw.1 hrw.2 hcc hb]
    exact (ceq a b ha hb).1 h k hk
  have hkc : ∀ a b, a < 256 → b < 256 → (∀ w, 0 ≤ runZ c1 n2 0 w → cst part (stepZ c1 n2 (runZ c1 n2 0 w) a) = cst part (stepZ c1 n2 (runZ c1 n2 0 w) b)) → c3.getD a 0 = c3.getD b 0 := by
    intro a b ha hb h
    refine (ceq a b ha hb).2 fun k hk => ?_
    obtain ⟨w, hw⟩ := s3 k hk
    have := h w (by rw [hw]; exact (s2 k hk).1)
    rw [hw] at this
    exact this
  obtain ⟨Q, order, rows, accs, e15, D⟩ := l15_8 P S hk1 hcl
  obtain ⟨C, hsz⟩ := D.canon P S hk1 hcl hkc
  refine ⟨c3, rows, accs, ?_, ?_, by omega⟩
  · simp only [p15]
    rw [p34_run V]
    simp only [Option.bind_some]
    rw [hc1, e33]
    simp only [Option.bind_some]
    rw [e35]
    simp only [Option.bind_some]
    rw [e37]
    simp only [Option.bind_some]
    rw [e36]
    simp only [Option.bind_some]
    rw [e38]
    simp only [Option.bind_some]
    rw [if_pos (ct (by omega)), e15]
    rfl
  · have : (fun w => accZ ac (runZ c1 n2 0 w)) = fun w => accZ ac (runZ c nx 0 w) := funext lang2
    rw [← this]
    exact C

theorem accZ_le (hac : ∀ s, s < nx.length → ac.getD s 0 ≤ 9223372036854775807) {s : Int} (hs : s < nx.length) : accZ ac s ≤ 9223372036854775807 := by
  unfold accZ
  split
  · omega
  · exact hac _ (by omega)

/-- minimizing what is minimized -/
theorem p15_twice (V : VDfa c nx ac) (hac : ∀ s, s < nx.length → ac.getD s 0 ≤ 9223372036854775807) :
    ∃ c' nx' ac', p15 ((c, (nx, (ac, ()))), ()) = some (c', (nx', (ac', ()))) ∧ Cano c' nx' ac' (fun w => accZ ac (runZ c nx 0 w)) ∧ nx'.length ≤ nx.length ∧
      p15 ((c', (nx', (ac', ()))), ()) = some (c', (nx', (ac', ()))) := by
  obtain ⟨c', nx', ac', e, C, hl⟩ := p15_spec V hac
  have n1 := V.n1
  have hac' : ∀ s, s < nx'.length → ac'.getD s 0 ≤ 9223372036854775807 := by
    intro s hs
    obtain ⟨W, w1, w2, _, _⟩ := C.reps
    have h := C.lang (W.getD s [])
    rw [w2 s hs] at h
    have e1 : accZ ac' (s : Int) = ac'.getD s 0 := by unfold accZ; rw [if_neg (by omega), Int.toNat_natCast]
    rw [e1] at h
    rw [h]
    have hr := V.run (W.getD s []) (s := 0) (by omega) (by omega)
    exact accZ_le hac hr.2
  obtain ⟨c'', nx'', ac'', e', C', _⟩ := p15_spec C.V hac'
  have hf : (fun w => accZ ac' (runZ c' nx' 0 w)) = fun w => accZ ac (runZ c nx 0 w) := funext C.lang
  rw [hf] at C'
  obtain ⟨rfl, rfl, rfl⟩ := C.unique C'
  exact ⟨c', nx', ac', e, C, hl, e'⟩

/-! ### equal lists, equal automata -/

theorem p19_same (l : List Int) (hl : l.length ≤ 9223372036854775807) : p19 (l, l, ()) = some true := by
  simp only [p19]
  rw [if_neg (cnf trivial)]
  have h := for_rule (L := L19_4) (N := l.length) (S := fun i => ((l, l, (i : Int), ()), ())) (r := .inr ((), ())) (fun i hi n => by
    simp only [L19_4, Int.toNat_natCast]
    rw [if_pos (lt_nat hi), if_pos (in_range hi), if_pos (in_range hi), if_neg (cnf trivial), wrap_nat (by omega)]) (fun n => by simp only [L19_4]; rw [if_neg nlt_nat]) (by omega)
  rw [show ((0 : Nat) : Int) = 0 from rfl] at h
  rw [h]
  rfl

theorem p16_same (hc : c.length ≤ 9223372036854775807) (hn : nx.length ≤ 9223372036854775807) (ha : ac.length ≤ 9223372036854775807) (hr : ∀ s, s < nx.length → (nx.getD s []).length ≤ 9223372036854775807) :
    p16 ((c, (nx, (ac, ()))), (c, (nx, (ac, ()))), ()) = some true := by
  simp only [p16]
  rw [if_neg (cnf trivial), p19_same c hc, Option.bind_some, if_neg ntf, p19_same ac ha, Option.bind_some, if_neg ntf]
  have h := for_rule (L := L16_4) (N := nx.length) (S := fun i => (((), (), (i : Int), ()), ((c, nx, ac, ()), (c, nx, ac, ()), ()))) (r := .inr ((), ())) (fun i hi n => by
    simp only [L16_4, Int.toNat_natCast]
    rw [if_pos (lt_nat hi), if_pos (in_range hi), if_pos (in_range hi), p19_same _ (hr i hi), Option.bind_some, if_neg ntf, wrap_nat (by omega)]) (fun n => by simp only [L16_4]; rw [if_neg nlt_nat]) (by omega)
  rw [show ((0 : Nat) : Int) = 0 from rfl] at h
  rw [h]
  rfl

theorem Cano.rows {f : List UInt8 → Int} (C : Cano c nx ac f) : ∀ r ∈ nx, r.length ≤ maxLen := by
  intro r hr
  obtain ⟨s, hs, rfl⟩ := List.mem_iff_getElem.1 hr
  have e : nx[s] = nx.getD s [] := by rw [List.getD_eq_getElem?_getD, List.getElem?_eq_getElem hs]; rfl
  rw [e, C.V.rl s hs, maxLen_val]
  have := fon_le C.fon
  omega

theorem p10_true {f : List UInt8 → Int} (C : Cano c nx ac f) : p10 ((c, (nx, (ac, ()))), ()) = some true := by
  obtain ⟨b, e, h⟩ := p10_spec (c := c) (nx := nx) (ac := ac) C.rows
  rw [e, h.2 C.V]
end Go.AM
