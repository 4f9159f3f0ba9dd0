/- Minimize, seventh part: the classes of bytes and their samples. -/
import Derived.Test.YtagllmgnmkdogaaP17
namespace Go.AM
open Go

variable {c : List Int} {nx : List (List Int)} {ac : List Int}

def ctg (part : List Int) (t : Int) : Int := if t ≥ 0 then part.getD t.toNat 0 else t
def clst (c : List Int) (nx : List (List Int)) (part st : List Int) (b : Nat) : List Int := st.map fun s => ctg part (stepZ c nx s b)
def keyC (c : List Int) (nx : List (List Int)) (part st : List Int) (b : Nat) : List UInt8 := wideS (clst c nx part st b)

theorem l57_36_6 (v len idx : Int) (l out base : List Int) (es : List ((List UInt8) × (Int))) (hb : base.length ≤ 1000000) :
    limit L57_36_6 (((), v, (), len, idx, (0 : Int), ()), ((c, nx, ac, ()), l, out, es, base, ())) = some (((), (), len, idx, ()), ((c, nx, ac, ()), l, out, es, base ++ wide1 v, ())) := by
  have h := for_rule (L := L57_36_6) (N := 8)
    (S := fun i => (((), v, (), len, idx, (i : Int), ()), ((c, nx, ac, ()), l, out, es, base ++ (List.range i).map (wb v), ())))
    (r := (((), (), len, idx, ()), ((c, nx, ac, ()), l, out, es, base ++ wide1 v, ())))
    (fun i hi n => by
      simp only [L57_36_6, shift_eq hi]
      rw [if_pos (ct (by omega)), if_pos (ct (by rw [wrap_i64 (by omega) (by omega)]; omega)), if_pos (ct (by simp only [List.length_append, List.length_map, List.length_range, List.length_singleton, lim]; omega)), wrap_nat (by omega),
        List.range_succ, List.map_append, List.map_cons, List.map_nil, List.append_assoc]
      rfl)
    (fun n => by simp only [L57_36_6]; rw [if_neg (cf (by omega))]; rfl) (by omega)
  rw [List.range_zero, List.map_nil, List.append_nil] at h
  exact h

theorem l57_36_3 (l out : List Int) (es : List ((List UInt8) × (Int))) (hl : l.length ≤ 1000) :
    limit L57_36_3 (((), (), (l.length : Int), (0 : Int), ()), ((c, nx, ac, ()), l, out, es, ([] : List (Int)), ())) = some (((), ()), ((c, nx, ac, ()), l, out, es, wideI l, ())) := by
  have h := for_rule (L := L57_36_3) (N := l.length)
    (S := fun i => (((), (), (l.length : Int), (i : Int), ()), ((c, nx, ac, ()), l, out, es, wideI (l.take i), ())))
    (r := (((), ()), ((c, nx, ac, ()), l, out, es, wideI l, ())))
    (fun i hi n => by
      have hlen := wideI_length (l.take i)
      rw [List.length_take] at hlen
      simp only [L57_36_3, Int.toNat_natCast]
      rw [if_pos (lt_nat hi), if_pos (in_range hi), l57_36_6 _ _ _ _ _ _ _ (by omega), Option.bind_some, wrap_nat (by omega), take_snoc (d := 0) hi, wideI_append]
      have e1 : wideI [l.getD i 0] = wide1 (l.getD i 0) := by simp [wideI]
      rw [e1])
    (fun n => by simp only [L57_36_3]; rw [if_neg nlt_nat, List.take_length]) (by omega)
  exact h

section
variable (V : VDfa c nx ac) {part st : List Int} (hp : part.length = nx.length) (hb : ∀ s, s < nx.length → 0 ≤ part.getD s 0 ∧ part.getD s 0 < nx.length)
  (hst : ∀ k, k < st.length → 0 ≤ st.getD k 0 ∧ st.getD k 0 < nx.length) (hsl : st.length ≤ nx.length)
include V hp hst hsl

theorem l36_8 {b : Nat} (hbl : b < 256) (tot : Int) (out : List Int) (es : List ((List UInt8) × (Int))) :
    limit L36_8 ((st, part, (), (), (), (b : Int), (), tot, (b : Int), st, (st.length : Int), (0 : Int), ()), ((c, nx, ac, ()), ([] : List (Int)), out, es, ())) =
      some ((st, part, (), (), (), (b : Int), (), tot, (b : Int), ()), ((c, nx, ac, ()), clst c nx part st b, out, es, ())) := by
  have n5 := V.n500
  exact for_rule (L := L36_8) (N := st.length)
    (S := fun i => ((st, part, (), (), (), (b : Int), (), tot, (b : Int), st, (st.length : Int), (i : Int), ()), ((c, nx, ac, ()), clst c nx part (st.take i) b, out, es, ())))
    (r := ((st, part, (), (), (), (b : Int), (), tot, (b : Int), ()), ((c, nx, ac, ()), clst c nx part st b, out, es, ())))
    (fun i hi n => by
      have hs := hst i hi
      have hv := V.step hs.2 hbl
      have hlen : (clst c nx part (st.take i) b).length ≤ 500 := by simp only [clst, List.length_map, List.length_take]; omega
      have e : clst c nx part (st.take (i + 1)) b = clst c nx part (st.take i) b ++ [ctg part (stepZ c nx (st.getD i 0) b)] := by
        unfold clst
        rw [take_snoc (d := 0) hi, List.map_append, List.map_cons, List.map_nil]
      simp only [L36_8, Int.toNat_natCast]
      rw [if_pos (lt_nat hi), if_pos (in_range hi), wrap_u8 hbl, p29_spec V hs.2 hbl, Option.bind_some, wrap_nat (by omega), e]
      unfold ctg
      by_cases h : stepZ c nx (st.getD i 0) b ≥ 0
      · rw [if_pos (ct h), if_pos (ct (by omega)), if_pos (ct (by simp only [List.length_singleton, lim]; omega)), if_pos h]
      · rw [if_neg (cf h), if_pos (ct (by simp only [List.length_singleton, lim]; omega)), if_neg h])
    (fun n => by simp only [L36_8]; rw [if_neg nlt_nat, List.take_length]) (by omega)

theorem p36_spec : p36 ((c, (nx, (ac, ()))), st, part, ()) = some ((List.range 256).map (numv .str (keyC c nx part st))) := by
  have n5 := V.n500
  simp only [p36]
  rw [if_pos (ct ⟨trivial, by omega, by simp only [lim]; omega⟩)]
  have h := for_rule (L := L36_4) (N := 256)
    (S := fun b => ((st, part, (), (), (), (256 : Int), (b : Int), ()), ((c, nx, ac, ()), fillF (numv .str (keyC c nx part st)) 0 256 b, (esF .str (keyC c nx part st) b : List (List UInt8 × Int)), ())))
    (r := (((), ()), ((List.range 256).map (numv .str (keyC c nx part st)), ())))
    (fun b hbl n => by
      have hll : (clst c nx part st b).length ≤ 1000 := by simp only [clst, List.length_map]; omega
      have e2 := l57_36_3 (c := c) (nx := nx) (ac := ac) (clst c nx part st b) (fillF (numv .str (keyC c nx part st)) 0 256 b) (esF .str (keyC c nx part st) b) hll
      simp only [L36_4]
      rw [if_pos (ct (by omega)), l36_8 V hp hst hsl hbl]
      simp only [Option.bind_some]
      rw [e2]
      simp only [Option.bind_some]
      have e4 : (wideI (clst c nx part st b)).map (fun n => UInt8.ofNat n.toNat) = keyC c nx part st b := rfl
      rw [e4]
      by_cases hn : (mget .str (keyC c nx part st b) (esF .str (keyC c nx part st) b)).isSome = true
      · obtain ⟨q1, q2⟩ := esF_old (K := .str) (key := keyC c nx part st) hn
        rw [if_neg (by rw [hn]; exact ntf), if_pos (ct (by rw [fillF_length]; omega)), Int.toNat_natCast, wrap_nat (by omega), ← q2, fillF_set, q1]
      · obtain ⟨q1, q2, q3⟩ := esF_new (K := .str) eqOk_str (key := keyC c nx part st) hn
        have hn' : (mget .str (keyC c nx part st b) (esF .str (keyC c nx part st) b)).isSome = false := by simpa using hn
        rw [if_pos (by rw [hn']; rfl), e2]
        simp only [Option.bind_some]
        rw [e4, if_pos (ct (by rw [fillF_length]; omega)), Int.toNat_natCast, wrap_nat (by omega), ← q2, fillF_set, q2, ← q1])
    (fun n => by simp only [L36_4]; rw [if_neg (cf (by omega)), fillF_full]) (by omega)
  have e : List.replicate (256 : Int).toNat (0 : Int) = fillF (numv .str (keyC c nx part st)) 0 256 0 := by rw [show (256 : Int).toNat = 256 from rfl]; exact fillF_zero
  have e' : ((List.replicate (256 : Int).toNat (0 : Int)).length : Int) = 256 := by rw [List.length_replicate]; rfl
  rw [e', e]
  rw [show ((0 : Nat) : Int) = 0 from rfl] at h
  have h' : limit L36_4 ((st, part, (), (), (), (256 : Int), (0 : Int), ()), ((c, nx, ac, ()), fillF (numv .str (keyC c nx part st)) 0 256 0, ([] : List ((List UInt8) × (Int))), ())) = some (((), ()), ((List.range 256).map (numv .str (keyC c nx part st)), ())) := h
  rw [h']
  rfl

include hb
omit hsl in
theorem keyC_eq {a b : Nat} (ha : a < 256) (hb' : b < 256) : keyC c nx part st a = keyC c nx part st b ↔ ∀ k, k < st.length → ctg part (stepZ c nx (st.getD k 0) a) = ctg part (stepZ c nx (st.getD k 0) b) := by
  have n5 := V.n500
  have wf : ∀ b, b < 256 → ∀ v ∈ clst c nx part st b, wfInt .i64 v := by
    intro b hbl v hv
    obtain ⟨s, hs, rfl⟩ := List.mem_map.1 hv
    obtain ⟨k, hk, rfl⟩ := List.mem_iff_getElem.1 hs
    have e : st[k] = st.getD k 0 := by rw [List.getD_eq_getElem?_getD, List.getElem?_eq_getElem hk]; rfl
    rw [e]
    have hr := V.step (hst k hk).2 hbl
    show -9223372036854775808 ≤ _ ∧ _ ≤ 9223372036854775807
    unfold ctg
    split
    · have := hb (stepZ c nx (st.getD k 0) b).toNat (by omega); omega
    · omega
  constructor
  · intro h k hk
    have e := wideS_inj (wf a ha) (wf b hb') h
    have e2 := congrArg (fun l => l.getD k 0) e
    unfold clst at e2
    rw [map_getD (d := 0) hk, map_getD (d := 0) hk] at e2
    exact e2
  · intro h
    have e : clst c nx part st a = clst c nx part st b := by
      unfold clst
      refine List.map_congr_left fun s hs => ?_
      obtain ⟨k, hk, rfl⟩ := List.mem_iff_getElem.1 hs
      have e : st[k] = st.getD k 0 := by rw [List.getD_eq_getElem?_getD, List.getElem?_eq_getElem hk]; rfl
      rw [e]
      exact h k hk
    unfold keyC
    rw [e]
end

/-- the least byte of each class -/
theorem p38_spec {k : Nat} (h256 : c.length = 256) (F : Fon c k) : ∃ l : List Int, p38 (c, ()) = some l ∧ l.length = k ∧ ∀ j, j < k → ∃ b : Nat, b < 256 ∧ l.getD j 0 = (b : Int) ∧ c.getD b 0 = (j : Int) ∧ ∀ b0, b0 < b → c.getD b0 0 < (j : Int) := by
  obtain ⟨cnt, f0, f1, f2⟩ := F
  let S : List Int × Nat → ((Unit × (List (Int)) × (Int) × (Int) × Unit) × ((List (Int)) × Unit)) := fun s => (((), c, (c.length : Int), (s.2 : Int), ()), (s.1, ()))
  have main := state_rule (L := L38_3) S (fun s => s.2 ≤ 256 ∧ s.1.length = cnt s.2 ∧ ∀ j, j < s.1.length → ∃ b : Nat, b < s.2 ∧ s.1.getD j 0 = (b : Int) ∧ c.getD b 0 = (j : Int) ∧ ∀ b0, b0 < b → c.getD b0 0 < (j : Int)) (fun s => 256 - s.2)
    (fun r => ∃ l, r = (((), ()), (l, ())) ∧ l.length = k ∧ ∀ j, j < k → ∃ b : Nat, b < 256 ∧ l.getD j 0 = (b : Int) ∧ c.getD b 0 = (j : Int) ∧ ∀ b0, b0 < b → c.getD b0 0 < (j : Int)) ([], 0)
    ⟨by simp, by simp [f0], fun j hj => by simp at hj⟩ (by simp only; omega) (by
    rintro ⟨l, b⟩ ⟨hbl, hl, hj⟩
    simp only at hbl hl hj
    by_cases hb' : b = 256
    · subst hb'
      left
      refine ⟨_, ⟨l, rfl, by omega, fun j hjk => hj j (by omega)⟩, fun n => ?_⟩
      simp only [S, L38_3]
      rw [if_neg (cf (by omega))]
    · right
      have hb1 : b < 256 := by omega
      have fb := fon_before f0 f2 b (by omega)
      have hcb : cnt b ≤ 256 := by
        have : ∀ b, b ≤ 256 → cnt b ≤ b := by
          intro b
          induction b with
          | zero => intro _; omega
          | succ b ih => intro hb; have := ih (by omega); rcases f2 b (by omega) with h | h <;> omega
        have := this b (by omega); omega
      rcases f2 b hb1 with ⟨g1, g2, g3⟩ | ⟨g1, g2⟩
      · refine ⟨(l, b + 1), ⟨by simp only; omega, by simp only; omega, fun j hjl => ?_⟩, by simp only; omega, fun n => ?_⟩
        · obtain ⟨b', q1, q2⟩ := hj j hjl
          exact ⟨b', by simp only; omega, q2⟩
        · simp only [S, L38_3, Int.toNat_natCast]
          rw [if_pos (ct (by omega)), if_pos (in_range (by omega)), if_neg (cf (by omega)), wrap_nat (by omega)]
      · refine ⟨(l ++ [(b : Int)], b + 1), ⟨by simp only; omega, by simp only [List.length_append, List.length_singleton]; omega, fun j hjl => ?_⟩, by simp only; omega, fun n => ?_⟩
        · simp only [List.length_append, List.length_singleton] at hjl ⊢
          by_cases e : j < l.length
          · obtain ⟨b', q1, q2, q3⟩ := hj j e
            exact ⟨b', by omega, by rw [getD_snoc_lt e]; exact q2, q3⟩
          · have : j = l.length := by omega
            subst this
            exact ⟨b, by omega, getD_snoc_eq, by omega, fun b0 hb0 => by have := fb.2 b0 hb0; omega⟩
        · simp only [S, L38_3, Int.toNat_natCast]
          rw [if_pos (ct (by omega)), if_pos (in_range (by omega)), if_pos (ct (by omega)), wrap_u8 hb1, if_pos (ct (by simp only [List.length_singleton, lim]; omega)), wrap_nat (by omega)])
  obtain ⟨r, hlim, l, rfl, h1, h2⟩ := main
  simp only [p38]
  have hlim' : limit L38_3 (((), c, (c.length : Int), (0 : Int), ()), (([] : List (Int)), ())) = some (((), ()), (l, ())) := hlim
  rw [hlim']
  exact ⟨l, rfl, h1, h2⟩
end Go.AM
