/- The two constructions agree, and their machine runs as the sets do. -/
import Derived.Test.YtagllmgnmkdogaaP32
namespace Go.AM
open Go

theorem isZero4_eq {a b c d : Int} (h : isZero4 [a, b, c, d] = true) : [a, b, c, d] = [0, 0, 0, 0] := by
  have h' : (decide (a = 0) && (decide (b = 0) && (decide (c = 0) && (decide (d = 0) && true)))) = true := h
  simp only [Bool.and_eq_true, decide_eq_true_eq] at h'
  obtain ⟨rfl, rfl, rfl, rfl, _⟩ := h'
  rfl

section
variable {N : Nat} {st start : Int} {arcs : List Arc} {acc bs : List Int}

noncomputable def nfaC (arcs : List Arc) : List Int := (List.range 256).map (numv .str (mkS (arcs.map setOf)))

theorem mkS_mem {sets : List (List Int)} {a b : Nat} : mkS sets a = mkS sets b ↔ ∀ s ∈ sets, hasB (four s) a = hasB (four s) b := by
  rw [mkS_eq]
  exact (all_getD (d := List.replicate 4 0) (p := fun s => hasB (four s) a = hasB (four s) b)).symm

theorem mkS_arcs {a b : Nat} : mkS (arcs.map setOf) a = mkS (arcs.map setOf) b ↔ ∀ x ∈ arcs, hasB (setOf x) a = hasB (setOf x) b := by
  rw [mkS_mem]
  simp only [List.mem_map, forall_exists_index, and_imp, forall_apply_eq_imp_iff₂]
  exact Iff.rfl

theorem mkS_filter (har : ∀ i, i < arcs.length → ArcOk st (arcs.getD i ad)) {a b : Nat} (ha : a < 256) (hb : b < 256) :
    mkS ((arcs.filter fun x => !x.2.2.1).map setOf) a = mkS ((arcs.filter fun x => !x.2.2.1).map setOf) b ↔ mkS (arcs.map setOf) a = mkS (arcs.map setOf) b := by
  rw [mkS_arcs, mkS_arcs]
  constructor
  · intro h x hx
    cases he : x.2.2.1 with
    | false => exact h x (List.mem_filter.2 ⟨hx, by rw [he]; rfl⟩)
    | true =>
      have hok : ArcOk st x := (all_getD (d := ad) (p := ArcOk st)).2 har x hx
      have e : setOf x = [0, 0, 0, 0] := isZero4_eq (hok.2.2.2.2 he)
      rw [e, hasB_zero ha, hasB_zero hb]
  · intro h x hx
    exact h x (List.mem_filter.1 hx).1

theorem nfa_fon (sets : List (List Int)) : Fon ((List.range 256).map (numv .str (mkS sets))) (esF .str (mkS sets) 256).length :=
  ⟨fun i => (esF .str (mkS sets) i).length, rfl, rfl, fun b hb => by rw [map_range_getD hb]; exact numv_fon eqOk_str b⟩

theorem nfaC_filter (har : ∀ i, i < arcs.length → ArcOk st (arcs.getD i ad)) : (List.range 256).map (numv .str (mkS ((arcs.filter fun x => !x.2.2.1).map setOf))) = nfaC arcs := by
  have h := fon_unique (nfa_fon ((arcs.filter fun x => !x.2.2.1).map setOf)) (nfa_fon (arcs.map setOf)) (fun a b ha hb => by
    rw [map_range_getD ha, map_range_getD hb, map_range_getD ha, map_range_getD hb, numv_inj eqOk_str 256 a b ha hb, numv_inj eqOk_str 256 a b ha hb]
    exact mkS_filter har ha hb)
  unfold nfaC
  refine ext_getD 0 (by simp) fun b hb => h.2 b (by simpa using hb)

theorem l21_5 (hal : arcs.length ≤ 2000) :
    limit L21_5 (((), (), (), arcs, (arcs.length : Int), (0 : Int), ()), ((st, start, arcs, acc, ()), D0, ([] : List (List Int)), ())) = some (((), (), (), ()), ((st, start, arcs, acc, ()), D0, arcs.map setOf, ())) :=
  for_rule (L := L21_5) (N := arcs.length) (S := fun i => (((), (), (), arcs, (arcs.length : Int), (i : Int), ()), ((st, start, arcs, acc, ()), D0, (arcs.take i).map setOf, ())))
    (fun i hi n => by
      have hl : ((arcs.take i).map setOf).length ≤ i := by simp; omega
      simp only [L21_5, Int.toNat_natCast]
      rw [e_ad, if_pos (lt_nat hi), if_pos (in_range hi), if_pos (ct (by simp only [List.length_singleton, lim]; omega)), take_snoc (d := ad) hi, List.map_append, wrap_nat (by omega)]
      rfl)
    (fun n => by simp only [L21_5]; rw [if_neg nlt_nat, List.take_length]) (by omega)

theorem l22_5 (hal : arcs.length ≤ 2000) :
    limit L22_5 (((), (), (), (0 : Int), ()), ((st, start, arcs, acc, ()), D0, ([] : List (List Int)), ())) = some (((), (), (), ()), ((st, start, arcs, acc, ()), D0, (arcs.filter fun x => !x.2.2.1).map setOf, ())) :=
  for_rule (L := L22_5) (N := arcs.length) (S := fun i => (((), (), (), (i : Int), ()), ((st, start, arcs, acc, ()), D0, ((arcs.take i).filter fun x => !x.2.2.1).map setOf, ())))
    (fun i hi n => by
      have hl : (((arcs.take i).filter fun x => !x.2.2.1).map setOf).length ≤ i := by
        rw [List.length_map]
        exact Nat.le_trans (List.length_filter_le _ _) (by simp; omega)
      simp only [L22_5, Int.toNat_natCast]
      rw [e_ad, if_pos (lt_nat hi), if_pos (in_range hi), take_snoc (d := ad) hi, List.filter_append, List.map_append, wrap_nat (by omega)]
      cases he : (arcs.getD i ad).2.2.1 with
      | true =>
        rw [if_neg ntf]
        have e : ([arcs.getD i ad].filter fun x => !x.2.2.1) = [] := by simp only [List.filter_cons, List.filter_nil, he]; rfl
        rw [e, List.map_nil, List.append_nil]
      | false =>
        rw [if_pos nft, if_pos (in_range hi), if_pos (ct (by simp only [List.length_singleton, lim]; omega))]
        have e : ([arcs.getD i ad].filter fun x => !x.2.2.1) = [arcs.getD i ad] := by simp only [List.filter_cons, List.filter_nil, he]; rfl
        rw [e]
        rfl)
    (fun n => by simp only [L22_5]; rw [if_neg nlt_nat, List.take_length]) (by omega)

/-! ### results -/

theorem VNfa.ctx (V : VNfa st start arcs acc) (hal : arcs.length ≤ 2000) {k : Nat} (S : Samp (nfaC arcs) bs k) (hk : k ≤ 256) : Ctx st.toNat st arcs acc bs where
  hN := by have := V.s1; omega
  hN2 := by have := V.s2; omega
  har := V.ar
  hal := hal
  acl := by have := V.al; omega
  hbs := fun j hj => by obtain ⟨b, h1, h2, _⟩ := S.b j (by rw [← S.bl]; exact hj); exact ⟨b, h1, h2⟩
  kl := by rw [S.bl]; exact hk

theorem keyI_zero : KeyI [clo arcs N [start]] (mput .str (key2 (clo arcs N [start])) (0 : Int) []) := by
  have K0 : KeyI [] [] := ⟨fun k hk => absurd hk (Nat.not_lt_zero k), fun v hv => by simp [mget] at hv⟩
  exact K0.push (t := clo arcs N [start]) (by simp [mget])

theorem esF_256 (sets : List (List Int)) : (esF .str (mkS sets) 256).length ≤ 256 := esF_len eqOk_str 256

theorem p21_bad (hal : arcs.length ≤ 2000) (V : ¬ VNfa st start arcs acc) : p21 ((st, (start, (arcs, (acc, ())))), ()) = some (([], ([], ([], ()))), (1 : Int), ()) := by
  obtain ⟨b, e1, e2⟩ := p39_spec (st := st) (start := start) (arcs := arcs) (acc := acc) (by omega)
  have : b = false := by
    cases b with
    | false => rfl
    | true => exact absurd (e2.1 rfl) V
  subst this
  simp only [p21]
  rw [e1]
  rfl

theorem p22_bad (hal : arcs.length ≤ 2000) (V : ¬ VNfa st start arcs acc) : p22 ((st, (start, (arcs, (acc, ())))), ()) = some (([], ([], ([], ()))), (1 : Int), ()) := by
  obtain ⟨b, e1, e2⟩ := p45_spec (st := st) (start := start) (arcs := arcs) (acc := acc) (by omega)
  have : b = false := by
    cases b with
    | false => rfl
    | true => exact absurd (e2.1 rfl) V
  subst this
  simp only [p22]
  rw [e1]
  rfl

theorem det_spec (hal : arcs.length ≤ 2000) (V : VNfa st start arcs acc) : ∃ bs k, Samp (nfaC arcs) bs k ∧ Ctx st.toNat st arcs acc bs ∧
    ((∃ M, OkM arcs st.toNat bs start M ∧ p21 ((st, (start, (arcs, (acc, ())))), ()) = some ((nfaC arcs, (rowsF arcs st.toNat bs start M, (accsF arcs st.toNat bs start acc M, ()))), (0 : Int), ()) ∧
        p22 ((st, (start, (arcs, (acc, ())))), ()) = some ((nfaC arcs, (rowsF arcs st.toNat bs start M, (accsF arcs st.toNat bs start acc M, ()))), (0 : Int), ())) ∨
      (p21 ((st, (start, (arcs, (acc, ())))), ()) = some (([], ([], ([], ()))), (11 : Int), ()) ∧ p22 ((st, (start, (arcs, (acc, ())))), ()) = some (([], ([], ([], ()))), (11 : Int), ()))) := by
  have hF : Fon (nfaC arcs) (esF .str (mkS (arcs.map setOf)) 256).length := nfa_fon _
  have h256 : (nfaC arcs).length = 256 := by simp [nfaC]
  have hk := esF_256 (arcs.map setOf)
  obtain ⟨bs, e38, b1, b2⟩ := p38_spec h256 hF
  obtain ⟨bs', e47, b1', b2'⟩ := p47_spec h256 hF
  have : bs' = bs := firsts_unique b1' b2' b1 b2
  subst this
  have S : Samp (nfaC arcs) bs' (esF .str (mkS (arcs.map setOf)) 256).length := ⟨h256, hF, b1, b2⟩
  have C := V.ctx hal S hk
  refine ⟨bs', _, S, C, ?_⟩
  have hN := C.hN
  have hN2 := C.hN2
  -- the program
  obtain ⟨v, a1, a2⟩ := p39_spec (st := st) (start := start) (arcs := arcs) (acc := acc) (by omega)
  rw [a2.2 V] at a1
  have a3 := l21_5 (st := st) (start := start) (arcs := arcs) (acc := acc) hal
  have a4 := l40_4 (st := st) (start := start) (arcs := arcs) (acc := acc) (sets := arcs.map setOf) (by rw [List.length_map]; exact hal)
  have a5 := p41_spec (start := start) (acc := acc) (l := [start]) hN hN2 C.har (by omega) (by simp)
  have hcl := clo_length (arcs := arcs) (N := st.toNat) (l := [start])
  have a6 := p42_spec (l := clo arcs st.toNat [start]) (by omega)
  have a7 := l21_14 (start := start) C (keyI_zero (arcs := arcs) (start := start)) (nfaC arcs)
  -- the reference
  obtain ⟨v', c1, c2⟩ := p45_spec (st := st) (start := start) (arcs := arcs) (acc := acc) (by omega)
  rw [c2.2 V] at c1
  have c3 := l22_5 (st := st) (start := start) (arcs := arcs) (acc := acc) hal
  have c4 := l46_4 (st := st) (start := start) (arcs := arcs) (acc := acc) (sets := (arcs.filter fun x => !x.2.2.1).map setOf) (by rw [List.length_map]; exact Nat.le_trans (List.length_filter_le _ _) hal)
  rw [nfaC_filter C.har] at c4
  have c5 := p48_spec (start := start) (acc := acc) (l := [start]) hN hN2 C.har (by omega) (by simp)
  have c7 := l22_15 (start := start) C (nfaC arcs)
  have hP : ∀ r, limit L21_14 (((), (), (), bs', (), (), (0 : Int), ()), ((st, start, arcs, acc, ()), D0, (nfaC arcs, (), (), ()), [clo arcs st.toNat [start]], mput .str (key2 (clo arcs st.toNat [start])) (0 : Int) [], ([] : List (List Int)), ([] : List Int), ())) = some r →
      p21 ((st, (start, (arcs, (acc, ())))), ()) = (Sum.elim (fun r7 : (Unit × (Int) × Unit) × (((List (Int)) × (List (List (Int))) × (List (Int)) × Unit) × Unit) =>
            some ((r7.2.1.1, (r7.2.1.2.1, (r7.2.1.2.2.1, ()))), r7.1.2.1, ())) (fun r7 : (Unit × Unit × Unit) × (((List (Int)) × (List (List (Int))) × (List (Int)) × Unit) × ((List (Int)) × Unit × Unit × Unit) × (List (List (Int))) × (List (Int)) × Unit) =>
            some ((r7.2.2.1.1, (r7.2.2.2.1, (r7.2.2.2.2.1, ()))), (0 : Int), ())) r) := by
    intro r hr
    simp only [p21]
    rw [a1, Option.bind_some, if_neg ntf, a3]
    simp only [Option.bind_some]
    rw [if_pos (ct ⟨trivial, by omega, by simp only [lim]; omega⟩), a4]
    simp only [Option.bind_some]
    rw [show (List.range 256).map (numv .str (mkS (arcs.map setOf))) = nfaC arcs from rfl, e38, Option.bind_some, a5, Option.bind_some, if_pos (ct (by simp)), show ([clo arcs st.toNat [start]].getD (0 : Int).toNat []) = clo arcs st.toNat [start] from rfl, a6, Option.bind_some, hr]
    rfl
  have hR : ∀ r, limit L22_15 (((), (), nfaC arcs, bs', (), (), (), (0 : Int), ()), ((st, start, arcs, acc, ()), D0, [clo arcs st.toNat [start]], ([] : List (List Int)), ([] : List Int), ())) = some r →
      p22 ((st, (start, (arcs, (acc, ())))), ()) = (Sum.elim (fun r6 : (Unit × (Int) × Unit) × (((List (Int)) × (List (List (Int))) × (List (Int)) × Unit) × Unit) =>
          some ((r6.2.1.1, (r6.2.1.2.1, (r6.2.1.2.2.1, ()))), r6.1.2.1, ())) (fun r6 : (Unit × (List (Int)) × Unit × Unit × Unit) × (((List (Int)) × (List (List (Int))) × (List (Int)) × Unit) × (List (List (Int))) × (List (Int)) × Unit) =>
          some ((r6.1.2.1, (r6.2.2.1, (r6.2.2.2.1, ()))), (0 : Int), ())) r) := by
    intro r hr
    simp only [p22]
    rw [c1, Option.bind_some, if_neg ntf, c3]
    simp only [Option.bind_some]
    rw [if_pos (ct ⟨trivial, by omega, by simp only [lim]; omega⟩), c4]
    simp only [Option.bind_some]
    rw [e47, Option.bind_some, c5, Option.bind_some, hr]
    rfl
  rcases a7 with ⟨M, g1, g2⟩ | ⟨e, g1, g2⟩
  · rcases c7 with ⟨M', g1', g2'⟩ | ⟨e', g1', g2'⟩
    · have := OkM.unique g1 g1'
      subst this
      exact .inl ⟨M, g1, hP _ g2, hR _ g2'⟩
    · exact absurd g1' g1.noErr
  · rcases c7 with ⟨M', g1', g2'⟩ | ⟨e', g1', g2'⟩
    · exact absurd g1 g1'.noErr
    · exact .inr ⟨hP _ g2, hR _ g2'⟩
end
end Go.AM
