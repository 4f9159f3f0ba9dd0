/- The law DfaDeterminize, plain. -/
import Derived.Test.YtagllmgnmkdogaaP33
import Derived.Test.YtagllmgnmkdogaaQ2
import Derived.Test.YtagllmgnmkdogaaW8
namespace Go.AM
open Go

section
variable {N : Nat} {st start : Int} {arcs : List Arc} {acc bs : List Int} {M k : Nat}

theorem stp_congr {a b : Nat} (h : ∀ x ∈ arcs, hasB (setOf x) a = hasB (setOf x) b) (l : List Int) : stp arcs N l a = stp arcs N l b := by
  unfold stp tgt
  congr 2
  apply List.filter_congr
  intro x hx
  rw [h x hx]

theorem stp_nil (hN : st = (N : Int)) (har : ∀ i, i < arcs.length → ArcOk st (arcs.getD i ad)) (b : Nat) : stp arcs N [] b = [] := by
  have hno : ∀ q, ¬ RC arcs N [] q := by
    intro q h
    induction h with
    | base q hq hm => cases hm
    | step i p q h1 h2 h3 h4 _ ih => exact ih
  have e : tgt arcs (frF arcs N []) b = [] := by
    unfold tgt
    rw [List.map_eq_nil_iff, List.filter_eq_nil_iff]
    intro x hx h
    simp only [Bool.and_eq_true] at h
    have hok : ArcOk st x := (all_getD (d := ad) (p := ArcOk st)).2 har x hx
    have hlt : x.1.toNat < N := by have := hok.1; have := hok.2.1; omega
    have h1 := h.1.2
    unfold frF at h1
    rw [map_range_getD hlt] at h1
    exact hno _ (by simpa using h1)
  unfold stp
  rw [e]
  unfold clo
  rw [List.map_eq_nil_iff, List.filter_eq_nil_iff]
  intro x _ h
  exact hno _ (by simpa using h)

noncomputable def setAt (arcs : List Arc) (N : Nat) (bs : List Int) (start : Int) (M : Nat) (s : Int) : List Int := if s < 0 then [] else (bfsF arcs N bs start bs.length M).getD s.toNat []

theorem rowF_mem {S : List (List Int)} {i j : Nat} (h : tgF arcs N bs S i j ≠ []) : tgF arcs N bs S i j ∈ rowF arcs N bs S i (j + 1) := by
  rw [rowF_succ]
  by_cases hm : tgF arcs N bs S i j ∈ rowF arcs N bs S i j
  · rw [if_pos (.inr hm)]; exact hm
  · rw [if_neg (fun g => g.elim h hm)]; simp

theorem ok_pos (ok : OkM arcs N bs start M) : 1 ≤ M := by
  have := bfsF_len (arcs := arcs) (N := N) (bs := bs) (start := start) (Nat.zero_le M)
  have e : (bfsF arcs N bs start bs.length 0).length = 1 := rfl
  have := ok.1
  omega

theorem valF_spec (ok : OkM arcs N bs start M) {s j : Nat} (hs : s < M) (hj : j < bs.length) :
    -1 ≤ valF arcs N bs (bfsF arcs N bs start bs.length s) s j ∧ valF arcs N bs (bfsF arcs N bs start bs.length s) s j < M ∧
    setAt arcs N bs start M (valF arcs N bs (bfsF arcs N bs start bs.length s) s j) = tgF arcs N bs (bfsF arcs N bs start bs.length s) s j := by
  have hM := ok_pos ok
  by_cases h : tgF arcs N bs (bfsF arcs N bs start bs.length s) s j = []
  · have e : valF arcs N bs (bfsF arcs N bs start bs.length s) s j = -1 := by unfold valF; rw [if_pos h]
    rw [e, h]
    exact ⟨by omega, by omega, rfl⟩
  · have hm := rowF_mem h
    have e : valF arcs N bs (bfsF arcs N bs start bs.length s) s j = (((rowF arcs N bs (bfsF arcs N bs start bs.length s) s (j + 1)).idxOf (tgF arcs N bs (bfsF arcs N bs start bs.length s) s j) : Nat) : Int) := by unfold valF; rw [if_neg h]
    have hlt := List.idxOf_lt_length_of_mem hm
    obtain ⟨x1, e1⟩ := rowF_le (arcs := arcs) (N := N) (bs := bs) (bfsF arcs N bs start bs.length s) s (show j + 1 ≤ bs.length by omega)
    obtain ⟨x2, e2⟩ := bfsF_le (arcs := arcs) (N := N) (bs := bs) start bs.length (show s + 1 ≤ M by omega)
    have e3 : bfsF arcs N bs start bs.length (s + 1) = rowF arcs N bs (bfsF arcs N bs start bs.length s) s bs.length := rfl
    rw [e3, e1, List.append_assoc] at e2
    have hl := ok.1
    have hl' := congrArg List.length e2
    rw [List.length_append] at hl'
    rw [e]
    refine ⟨by omega, by omega, ?_⟩
    unfold setAt
    rw [if_neg (by omega), Int.toNat_natCast, e2, getD_append_lt hlt, List.getD_eq_getElem?_getD, List.getElem?_eq_getElem hlt]
    simp

theorem rowsF_get {s : Nat} (hs : s < M) : (rowsF arcs N bs start M).getD s [] = (List.range bs.length).map (valF arcs N bs (bfsF arcs N bs start bs.length s) s) := by
  unfold rowsF
  rw [map_range_getD hs]

theorem accsF_get {s : Nat} (hs : s < M) : (accsF arcs N bs start acc M).getD s 0 = lacc acc ((bfsF arcs N bs start bs.length s).getD s []) := by
  unfold accsF
  rw [map_range_getD hs]

theorem bfsF_get (ok : OkM arcs N bs start M) {s : Nat} (hs : s < M) : (bfsF arcs N bs start bs.length s).getD s [] = (bfsF arcs N bs start bs.length M).getD s [] := by
  obtain ⟨x, e⟩ := bfsF_le (arcs := arcs) (N := N) (bs := bs) start bs.length (show s ≤ M by omega)
  rw [e, getD_append_lt (ok.2.2 s hs)]

theorem nfaC_range {b : Nat} (S : Samp (nfaC arcs) bs k) (hb : b < 256) : 0 ≤ (nfaC arcs).getD b 0 ∧ (nfaC arcs).getD b 0 < k := by
  obtain ⟨cnt, f0, f1, f2⟩ := S.F
  have := (fon_before f0 f2 256 (by omega)).2 b hb
  omega

theorem det_valid (ok : OkM arcs N bs start M) (S : Samp (nfaC arcs) bs k) : VDfa (nfaC arcs) (rowsF arcs N bs start M) (accsF arcs N bs start acc M) := by
  have hM := ok_pos ok
  have h0 : ((rowsF arcs N bs start M).getD 0 []).length = bs.length := by rw [rowsF_get (by omega)]; simp
  have hk := S.bl
  exact
  { c256 := S.l256
    n1 := by rw [rowsF_length]; exact hM
    n500 := by rw [rowsF_length]; exact ok.2.1
    al := by rw [rowsF_length, accsF_length]
    k1 := by have := nfaC_range S (show 0 < 256 by omega); omega
    cr := fun b hb => by have := nfaC_range S hb; omega
    rl := fun s hs => by
      rw [rowsF_length] at hs
      rw [h0, rowsF_get hs]; simp
    tr := fun s hs j hj => by
      rw [rowsF_length] at hs
      rw [h0] at hj
      have h := valF_spec ok hs hj
      rw [rowsF_get hs, map_range_getD hj, rowsF_length]
      exact ⟨h.1, h.2.1⟩
    ar := fun s hs => by
      rw [rowsF_length] at hs
      rw [accsF_get hs]
      exact lacc_ge acc _ }

theorem det_step (C : Ctx N st arcs acc bs) (ok : OkM arcs N bs start M) (S : Samp (nfaC arcs) bs k) {s : Int} (hs : s < M) {b : Nat} (hb : b < 256) :
    setAt arcs N bs start M (stepZ (nfaC arcs) (rowsF arcs N bs start M) s b) = stp arcs N (setAt arcs N bs start M s) b := by
  by_cases h : s < 0
  · have e1 : stepZ (nfaC arcs) (rowsF arcs N bs start M) s b = -1 := by unfold stepZ; rw [if_pos h]
    have e2 : setAt arcs N bs start M s = [] := by unfold setAt; rw [if_pos h]
    rw [e1, e2, stp_nil C.hN C.har]
    rfl
  · obtain ⟨s', rfl⟩ : ∃ s' : Nat, s = (s' : Int) := ⟨s.toNat, by omega⟩
    have hs' : s' < M := by omega
    have hc := nfaC_range S hb
    have hbl := S.bl
    have hj : ((nfaC arcs).getD b 0).toNat < bs.length := by omega
    obtain ⟨b', g1, g2, g3, _⟩ := S.b ((nfaC arcs).getD b 0).toNat (by omega)
    have hkey : mkS (arcs.map setOf) b' = mkS (arcs.map setOf) b := by
      have e : (nfaC arcs).getD b' 0 = (nfaC arcs).getD b 0 := by omega
      unfold nfaC at e
      rw [map_range_getD g1, map_range_getD hb] at e
      exact (numv_inj eqOk_str 256 b' b g1 hb).1 e
    have e1 : stepZ (nfaC arcs) (rowsF arcs N bs start M) (s' : Int) b = valF arcs N bs (bfsF arcs N bs start bs.length s') s' ((nfaC arcs).getD b 0).toNat := by
      unfold stepZ
      rw [if_neg h, Int.toNat_natCast, rowsF_get hs', map_range_getD hj]
    rw [e1, (valF_spec ok hs' hj).2.2]
    unfold tgF
    rw [g2, Int.toNat_natCast, bfsF_get ok hs', stp_congr (mkS_arcs.1 hkey)]
    unfold setAt
    rw [if_neg h, Int.toNat_natCast]

theorem det_acc (ok : OkM arcs N bs start M) {s : Int} (hs : s < M) : accZ (accsF arcs N bs start acc M) s = lacc acc (setAt arcs N bs start M s) := by
  unfold accZ setAt
  by_cases h : s < 0
  · rw [if_pos h, if_pos h]; rfl
  · rw [if_neg h, if_neg h, accsF_get (by omega), bfsF_get ok (by omega)]

noncomputable def runN (arcs : List Arc) (N : Nat) : List Int → List UInt8 → List Int
  | l, [] => l
  | l, b :: w => runN arcs N (stp arcs N l b.toNat) w

theorem runN_append : ∀ (w v : List UInt8) (l : List Int), runN arcs N l (w ++ v) = runN arcs N (runN arcs N l w) v
  | [], _, _ => rfl
  | _ :: w, v, _ => runN_append w v _

theorem runN_take {w : List UInt8} {i : Nat} (hi : i < w.length) (l : List Int) : runN arcs N l (w.take (i + 1)) = stp arcs N (runN arcs N l (w.take i)) (w.getD i 0).toNat := by
  rw [List.take_succ_eq_append_getElem hi, runN_append, List.getD_eq_getElem?_getD, List.getElem?_eq_getElem hi]
  rfl

theorem det_run (C : Ctx N st arcs acc bs) (ok : OkM arcs N bs start M) (S : Samp (nfaC arcs) bs k) : ∀ (w : List UInt8) {s : Int}, -1 ≤ s → s < M →
    setAt arcs N bs start M (runZ (nfaC arcs) (rowsF arcs N bs start M) s w) = runN arcs N (setAt arcs N bs start M s) w
  | [], _, _, _ => rfl
  | b :: w, s, _, h1 => by
    have V := det_valid (acc := acc) ok S
    have hb := UInt8.toNat_lt b
    have hst := V.step (s := s) (by rw [rowsF_length]; exact h1) hb
    rw [rowsF_length] at hst
    have ih := det_run C ok S w hst.1 hst.2
    rw [det_step C ok S h1 hb] at ih
    exact ih

theorem runN_small (w : List UInt8) {l : List Int} (hl : l.length ≤ N ∧ ∀ q ∈ l, 0 ≤ q ∧ q < N) : (runN arcs N l w).length ≤ N ∧ ∀ q ∈ runN arcs N l w, 0 ≤ q ∧ q < N := by
  induction w generalizing l with
  | nil => exact hl
  | cons b w ih =>
    refine ih ⟨clo_length, fun q hq => ?_⟩
    obtain ⟨p, rfl, hp, _⟩ := mem_clo.1 hq
    omega

theorem clo_elem {l : List Int} : (clo arcs N l).length ≤ N ∧ ∀ q ∈ clo arcs N l, 0 ≤ q ∧ q < N := by
  refine ⟨clo_length, fun q hq => ?_⟩
  obtain ⟨p, rfl, hp, _⟩ := mem_clo.1 hq
  omega

theorem p23_spec (C : Ctx N st arcs acc bs) {w : List UInt8} (hw : w.length ≤ 1000) : p23 ((st, (start, (arcs, (acc, ())))), w, ()) = some (lacc acc (runN arcs N (clo arcs N [start]) w)) := by
  have hN2 := C.hN2
  have hal := C.hal
  have e1 := p48_spec (start := start) (acc := acc) (l := [start]) C.hN C.hN2 C.har (by omega) (by simp)
  have hlim : limit L23_3 ((w, (), clo arcs N [start], (0 : Int), ()), ((st, start, arcs, acc, ()), ())) = some (((), runN arcs N (clo arcs N [start]) w, ()), ((st, start, arcs, acc, ()), ())) :=
    for_rule (L := L23_3) (N := w.length) (S := fun i => ((w, (), runN arcs N (clo arcs N [start]) (w.take i), (i : Int), ()), ((st, start, arcs, acc, ()), ())))
      (fun i hi n => by
        have hs := runN_small (arcs := arcs) (w.take i) (clo_elem (arcs := arcs) (N := N) (l := [start]))
        have e49 := p49_spec (start := start) (acc := acc) (l := runN arcs N (clo arcs N [start]) (w.take i)) C.hN C.hN2 C.har C.hal (by omega) (UInt8.toNat_lt (w.getD i 0))
        simp only [L23_3, Int.toNat_natCast]
        rw [if_pos (lt_nat hi), if_pos (in_range hi), e49, Option.bind_some, runN_take hi, wrap_nat (by omega)])
      (fun n => by simp only [L23_3]; rw [if_neg nlt_nat, List.take_length]) (by omega)
  have hs := runN_small (arcs := arcs) w (clo_elem (arcs := arcs) (N := N) (l := [start]))
  have e52 := p52_spec (st := st) (start := start) (arcs := arcs) (acc := acc) (l := runN arcs N (clo arcs N [start]) w) (fun q hq => by rw [C.acl]; exact hs.2 q hq) (by omega)
  simp only [p23]
  rw [e1, Option.bind_some, hlim]
  simp only [Option.bind_some]
  rw [e52]
  rfl
end

abbrev KNfa : Kind := .pair (.int .i64) (.pair (.int .i64) (.pair (.slice (.pair (.int .i64) (.pair (.int .i64) (.pair .bool (.pair (.arr 4 (.int .u64)) .unit))))) (.pair (.slice (.int .i64)) .unit)))

theorem pure8 : ∀ x, wfL [KNfa, .str] x → p8 x = some true := by
  rintro ⟨⟨st, start, arcs, acc, ⟨⟩⟩, w, ⟨⟩⟩ ⟨_, _, _⟩
  simp only [p8, p20]
  by_cases h1 : st ≤ 9
  · rw [if_pos (ct h1)]
    by_cases h2 : (arcs.length : Int) ≤ 16
    · rw [if_pos (ct h2), Option.bind_some]
      by_cases h3 : (acc.length : Int) ≤ 20
      · rw [if_neg (cnf h3)]
        by_cases h30 : (w.length : Int) > 30
        · rw [if_pos (ct h30), awake_true]; rfl
        · rw [if_neg (cf h30)]
          have hal : arcs.length ≤ 2000 := by omega
          by_cases V : VNfa st start arcs acc
          · obtain ⟨bs, k, S, C, h⟩ := det_spec hal V
            rcases h with ⟨M, ok, e1, e2⟩ | ⟨e1, e2⟩
            · rw [e1, e2]
              simp only [Option.bind_some]
              have Vd := det_valid (acc := acc) ok S
              have hM := ok_pos ok
              obtain ⟨b, e3, e4⟩ := p10_spec (c := nfaC arcs) (nx := rowsF arcs st.toNat bs start M) (ac := accsF arcs st.toNat bs start acc M) (fun r hr => by
                obtain ⟨i, hi, e⟩ := List.mem_iff_getElem.1 hr
                rw [rowsF_length] at hi
                have e' : (rowsF arcs st.toNat bs start M).getD i [] = r := by
                  rw [List.getD_eq_getElem?_getD, List.getElem?_eq_getElem (by rw [rowsF_length]; exact hi)]; exact e
                rw [← e', rowsF_get hi, maxLen_val]
                have := C.kl
                simp
                omega)
              rw [e4.2 Vd] at e3
              have hr := det_run C ok S w (s := 0) (by omega) (by omega)
              have hb := Vd.run w (s := 0) (by omega) (by have := Vd.n1; omega)
              rw [rowsF_length] at hb
              have e0 : setAt arcs st.toNat bs start M 0 = clo arcs st.toNat [start] := by
                unfold setAt
                obtain ⟨x, e⟩ := bfsF_le (arcs := arcs) (N := st.toNat) (bs := bs) start bs.length (Nat.zero_le M)
                rw [if_neg (by omega), e]
                rfl
              rw [e0] at hr
              have hacc := det_acc (acc := acc) ok hb.2
              rw [hr] at hacc
              rw [if_neg (cnf trivial), if_neg (cnf trivial), awake_true, Option.bind_some, if_pos rfl, e3, Option.bind_some, if_pos rfl, p12_spec Vd (by rw [maxLen_val]; omega), p23_spec C (by omega), Option.bind_some, Option.bind_some, hacc]
              simp
            · rw [e1, e2]
              simp only [Option.bind_some]
              rw [if_neg (cnf trivial), if_pos (cnt (by omega)), awake_true]
              rfl
          · rw [p21_bad hal V, p22_bad hal V]
            simp only [Option.bind_some]
            rw [if_neg (cnf trivial), if_pos (cnt (by omega)), awake_true]
            rfl
      · rw [if_pos (cnt h3), awake_true]; rfl
    · rw [if_neg (cf h2), Option.bind_some, if_pos nft, awake_true]; rfl
  · rw [if_neg (cf h1), Option.bind_some, if_pos nft, awake_true]; rfl
end Go.AM
