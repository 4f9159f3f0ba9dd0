/- The subset construction, as lists; accepted numbers; keys of sets. -/
import Derived.Test.YtagllmgnmkdogaaP29
namespace Go.AM
open Go

/-! ### accepted numbers -/

def lstep (acc : List Int) (x q : Int) : Int := if acc.getD q.toNat 0 ≥ 0 ∧ (x < 0 ∨ acc.getD q.toNat 0 < x) then acc.getD q.toNat 0 else x
def lacc (acc l : List Int) : Int := l.foldl (lstep acc) (-1)

theorem lacc_snoc (acc l : List Int) (q : Int) : lacc acc (l ++ [q]) = lstep acc (lacc acc l) q := by simp [lacc]
theorem lacc_ge (acc l : List Int) : -1 ≤ lacc acc l := by
  refine snoc_ind (p := fun l => -1 ≤ lacc acc l) (by simp [lacc]) (fun l q ih => ?_) l
  rw [lacc_snoc]
  unfold lstep
  split
  · omega
  · exact ih

section
variable {st start : Int} {arcs : List Arc} {acc l : List Int}

theorem p44_spec (hl : ∀ q ∈ l, 0 ≤ q ∧ q < acc.length) (hll : l.length ≤ 9223372036854775807) : p44 ((st, (start, (arcs, (acc, ())))), l, ()) = some (lacc acc l) := by
  have h := for_rule (L := L44_3) (N := l.length) (S := fun i => (((), lacc acc (l.take i), l, (l.length : Int), (i : Int), ()), ((st, start, arcs, acc, ()), ()))) (r := ((lacc acc l, ()), ()))
    (fun i hi n => by
      have hq := hl _ (getD_mem (d := 0) hi)
      simp only [L44_3, Int.toNat_natCast]
      rw [if_pos (lt_nat hi), if_pos (in_range hi), if_pos (ct hq), take_snoc (d := 0) hi, lacc_snoc, wrap_nat (by omega)]
      unfold lstep
      by_cases h1 : acc.getD (l.getD i 0).toNat 0 ≥ 0
      · rw [if_pos (ct h1)]
        by_cases h2 : lacc acc (l.take i) < 0
        · rw [if_pos (ct h2), if_pos ⟨h1, .inl h2⟩]
        · rw [if_neg (cf h2)]
          by_cases h3 : acc.getD (l.getD i 0).toNat 0 < lacc acc (l.take i)
          · rw [if_pos (ct h3), if_pos ⟨h1, .inr h3⟩]
          · rw [if_neg (cf h3), if_neg (fun h => h.2.elim h2 h3)]
      · rw [if_neg (cf h1), if_neg (fun h => h1 h.1)])
    (fun n => by simp only [L44_3]; rw [if_neg nlt_nat, List.take_length]) (by omega)
  simp only [p44]
  have h' : limit L44_3 (((), (-1 : Int), l, (l.length : Int), (0 : Int), ()), ((st, start, arcs, acc, ()), ())) = some ((lacc acc l, ()), ()) := h
  rw [h']
  rfl

theorem p51_spec (hl : ∀ q ∈ l, 0 ≤ q ∧ q < acc.length) (hll : l.length ≤ 9223372036854775807) : p51 ((st, (start, (arcs, (acc, ())))), l, ()) = some (lacc acc l) := by
  have h := for_rule (L := L51_3) (N := l.length) (S := fun i => ((l, (), lacc acc (l.take i), (i : Int), ()), ((st, start, arcs, acc, ()), ()))) (r := ((lacc acc l, ()), ()))
    (fun i hi n => by
      have hq := hl _ (getD_mem (d := 0) hi)
      simp only [L51_3, Int.toNat_natCast]
      rw [if_pos (lt_nat hi), if_pos (in_range hi), if_pos (ct hq), take_snoc (d := 0) hi, lacc_snoc, wrap_nat (by omega)]
      unfold lstep
      by_cases h1 : acc.getD (l.getD i 0).toNat 0 ≥ 0
      · rw [if_pos (ct h1)]
        by_cases h2 : lacc acc (l.take i) < 0
        · rw [if_pos (ct h2), if_pos ⟨h1, .inl h2⟩]
        · rw [if_neg (cf h2)]
          by_cases h3 : acc.getD (l.getD i 0).toNat 0 < lacc acc (l.take i)
          · rw [if_pos (ct h3), if_pos ⟨h1, .inr h3⟩]
          · rw [if_neg (cf h3), if_neg (fun h => h.2.elim h2 h3)]
      · rw [if_neg (cf h1), if_neg (fun h => h1 h.1)])
    (fun n => by simp only [L51_3]; rw [if_neg nlt_nat, List.take_length]) (by omega)
  simp only [p51]
  have h' : limit L51_3 ((l, (), (-1 : Int), (0 : Int), ()), ((st, start, arcs, acc, ()), ())) = some ((lacc acc l, ()), ()) := h
  rw [h']
  rfl

theorem p52_spec (hl : ∀ q ∈ l, 0 ≤ q ∧ q < acc.length) (hll : l.length ≤ 9223372036854775807) : p52 ((st, (start, (arcs, (acc, ())))), l, ()) = some (lacc acc l) := by
  have h := for_rule (L := L52_3) (N := l.length) (S := fun i => ((l, (), lacc acc (l.take i), (i : Int), ()), ((st, start, arcs, acc, ()), ()))) (r := ((lacc acc l, ()), ()))
    (fun i hi n => by
      have hq := hl _ (getD_mem (d := 0) hi)
      simp only [L52_3, Int.toNat_natCast]
      rw [if_pos (lt_nat hi), if_pos (in_range hi), if_pos (ct hq), take_snoc (d := 0) hi, lacc_snoc, wrap_nat (by omega)]
      unfold lstep
      by_cases h1 : acc.getD (l.getD i 0).toNat 0 ≥ 0
      · rw [if_pos (ct h1)]
        by_cases h2 : lacc acc (l.take i) < 0
        · rw [if_pos (ct h2), if_pos ⟨h1, .inl h2⟩]
        · rw [if_neg (cf h2)]
          by_cases h3 : acc.getD (l.getD i 0).toNat 0 < lacc acc (l.take i)
          · rw [if_pos (ct h3), if_pos ⟨h1, .inr h3⟩]
          · rw [if_neg (cf h3), if_neg (fun h => h.2.elim h2 h3)]
      · rw [if_neg (cf h1), if_neg (fun h => h1 h.1)])
    (fun n => by simp only [L52_3]; rw [if_neg nlt_nat, List.take_length]) (by omega)
  simp only [p52]
  have h' : limit L52_3 ((l, (), (-1 : Int), (0 : Int), ()), ((st, start, arcs, acc, ()), ())) = some ((lacc acc l, ()), ()) := h
  rw [h']
  rfl

end

/-! ### keys of sets -/

def kb (q : Int) : List Int := [IntKind.u8.wrap q, IntKind.u8.wrap (q.fdiv (2 ^ 8))]
def key2 (l : List Int) : List UInt8 := (l.flatMap kb).map fun n => UInt8.ofNat n.toNat

theorem p42_spec {l : List Int} (hl : l.length ≤ 1000000) : p42 (l, ()) = some (key2 l) := by
  have hlen : ∀ l : List Int, (l.flatMap kb).length = 2 * l.length := by
    intro l
    induction l with
    | nil => rfl
    | cons q l ih => rw [List.flatMap_cons, List.length_append, ih]; simp [kb]; omega
  have h := for_rule (L := L42_3) (N := l.length) (S := fun i => (((), l, (l.length : Int), (i : Int), ()), ((l.take i).flatMap kb, ()))) (r := (((), ()), (l.flatMap kb, ())))
    (fun i hi n => by
      have h1 := hlen (l.take i)
      rw [List.length_take] at h1
      simp only [L42_3, Int.toNat_natCast]
      rw [if_pos (lt_nat hi), if_pos (in_range hi), if_pos (ct (by omega)), if_pos (ct (by simp only [List.length_cons, List.length_nil, lim]; omega)), take_snoc (d := 0) hi, List.flatMap_append, wrap_nat (by omega)]
      have e : [l.getD i 0].flatMap kb = kb (l.getD i 0) := by simp
      rw [e]
      rfl)
    (fun n => by simp only [L42_3]; rw [if_neg nlt_nat, List.take_length]) (by omega)
  simp only [p42]
  have h' : limit L42_3 (((), l, (l.length : Int), (0 : Int), ()), (([] : List Int), ())) = some (((), ()), (l.flatMap kb, ())) := h
  rw [h']
  rfl

theorem key2_inj : ∀ {l m : List Int}, (∀ q ∈ l, 0 ≤ q ∧ q < 65536) → (∀ q ∈ m, 0 ≤ q ∧ q < 65536) → key2 l = key2 m → l = m
  | [], [], _, _, _ => rfl
  | [], u :: m, _, _, h => by simp [key2, kb] at h
  | v :: l, [], _, _, h => by simp [key2, kb] at h
  | v :: l, u :: m, hl, hm, h => by
    have h' : [UInt8.ofNat (IntKind.u8.wrap v).toNat, UInt8.ofNat (IntKind.u8.wrap (v.fdiv (2 ^ 8))).toNat] ++ key2 l = [UInt8.ofNat (IntKind.u8.wrap u).toNat, UInt8.ofNat (IntKind.u8.wrap (u.fdiv (2 ^ 8))).toNat] ++ key2 m := h
    obtain ⟨e1, e2⟩ := List.append_inj h' rfl
    have hv := hl v (by simp)
    have hu := hm u (by simp)
    simp only [List.cons.injEq, and_true] at e1
    obtain ⟨a1, a2⟩ := e1
    have f1 := congrArg UInt8.toNat a1
    have f2 := congrArg UInt8.toNat a2
    have w1 : ∀ z : Int, IntKind.u8.wrap z = z % 256 := fun _ => rfl
    have d1 : ∀ z : Int, z.fdiv (2 ^ 8) = z / 256 := fun z => by rw [show (2 : Int) ^ 8 = 256 from rfl, Int.fdiv_eq_ediv_of_nonneg z (by omega)]
    rw [w1, w1, UInt8.toNat_ofNat', UInt8.toNat_ofNat'] at f1
    rw [w1, w1, d1, d1, UInt8.toNat_ofNat', UInt8.toNat_ofNat'] at f2
    have : v = u := by omega
    rw [this, key2_inj (fun x hx => hl x (List.mem_cons_of_mem _ hx)) (fun x hx => hm x (List.mem_cons_of_mem _ hx)) e2]

/-! ### the construction -/

section
variable (arcs : List Arc) (N : Nat) (bs : List Int)

noncomputable def tgF (S : List (List Int)) (i j : Nat) : List Int := stp arcs N (S.getD i []) (bs.getD j 0).toNat
noncomputable def rowF (S : List (List Int)) (i : Nat) : Nat → List (List Int)
  | 0 => S
  | j + 1 => if tgF arcs N bs S i j = [] ∨ tgF arcs N bs S i j ∈ rowF S i j then rowF S i j else rowF S i j ++ [tgF arcs N bs S i j]
noncomputable def valF (S : List (List Int)) (i j : Nat) : Int := if tgF arcs N bs S i j = [] then -1 else (((rowF arcs N bs S i (j + 1)).idxOf (tgF arcs N bs S i j) : Nat) : Int)
noncomputable def bfsF (start : Int) (k : Nat) : Nat → List (List Int)
  | 0 => [clo arcs N [start]]
  | i + 1 => rowF arcs N bs (bfsF start k i) i k

variable {arcs N bs}

theorem rowF_ext (S : List (List Int)) (i : Nat) : ∀ j d, ∃ ext, rowF arcs N bs S i (j + d) = rowF arcs N bs S i j ++ ext
  | j, 0 => ⟨[], by simp⟩
  | j, d + 1 => by
    obtain ⟨ext, h⟩ := rowF_ext S i j d
    have e : rowF arcs N bs S i (j + (d + 1)) = if tgF arcs N bs S i (j + d) = [] ∨ tgF arcs N bs S i (j + d) ∈ rowF arcs N bs S i (j + d) then rowF arcs N bs S i (j + d) else rowF arcs N bs S i (j + d) ++ [tgF arcs N bs S i (j + d)] := rfl
    rw [e]
    split
    · exact ⟨ext, h⟩
    · exact ⟨ext ++ [tgF arcs N bs S i (j + d)], by rw [h, List.append_assoc]⟩

theorem rowF_le (S : List (List Int)) (i : Nat) {j k : Nat} (h : j ≤ k) : ∃ ext, rowF arcs N bs S i k = rowF arcs N bs S i j ++ ext := by
  have := rowF_ext (arcs := arcs) (N := N) (bs := bs) S i j (k - j)
  rwa [show j + (k - j) = k by omega] at this

theorem bfsF_ext (start : Int) (k : Nat) : ∀ i d, ∃ ext, bfsF arcs N bs start k (i + d) = bfsF arcs N bs start k i ++ ext
  | i, 0 => ⟨[], by simp⟩
  | i, d + 1 => by
    obtain ⟨ext, h⟩ := bfsF_ext start k i d
    obtain ⟨ext', h'⟩ := rowF_le (arcs := arcs) (N := N) (bs := bs) (bfsF arcs N bs start k (i + d)) (i + d) (Nat.zero_le k)
    have e0 : rowF arcs N bs (bfsF arcs N bs start k (i + d)) (i + d) 0 = bfsF arcs N bs start k (i + d) := rfl
    refine ⟨ext ++ ext', ?_⟩
    show rowF arcs N bs (bfsF arcs N bs start k (i + d)) (i + d) k = _
    rw [h', e0, h, List.append_assoc]

theorem bfsF_le (start : Int) (k : Nat) {i m : Nat} (h : i ≤ m) : ∃ ext, bfsF arcs N bs start k m = bfsF arcs N bs start k i ++ ext := by
  have := bfsF_ext (arcs := arcs) (N := N) (bs := bs) start k i (m - i)
  rwa [show i + (m - i) = m by omega] at this

/-- each set is a closure -/
def Closed (arcs : List Arc) (N : Nat) (S : List (List Int)) : Prop := ∀ t ∈ S, ∃ m, t = clo arcs N m

theorem rowF_closed {S : List (List Int)} {i : Nat} (h : Closed arcs N S) : ∀ j, Closed arcs N (rowF arcs N bs S i j)
  | 0 => h
  | j + 1 => by
    unfold rowF
    split
    · exact rowF_closed h j
    · intro t ht
      rcases List.mem_append.1 ht with ht | ht
      · exact rowF_closed h j t ht
      · rw [List.mem_singleton.1 ht]; exact ⟨_, rfl⟩

theorem bfsF_closed (start : Int) (k : Nat) : ∀ i, Closed arcs N (bfsF arcs N bs start k i)
  | 0 => fun t ht => by rw [List.mem_singleton.1 ht]; exact ⟨_, rfl⟩
  | i + 1 => rowF_closed (bfsF_closed start k i) k

theorem Closed.elem {S : List (List Int)} (h : Closed arcs N S) {t : List Int} (ht : t ∈ S) : t.length ≤ N ∧ ∀ q ∈ t, 0 ≤ q ∧ q < N := by
  obtain ⟨m, rfl⟩ := h t ht
  refine ⟨clo_length, fun q hq => ?_⟩
  obtain ⟨p, rfl, hp, _⟩ := mem_clo.1 hq
  omega

theorem tgF_elem (S : List (List Int)) (i j : Nat) : (tgF arcs N bs S i j).length ≤ N ∧ ∀ q ∈ tgF arcs N bs S i j, 0 ≤ q ∧ q < N := by
  refine ⟨clo_length, fun q hq => ?_⟩
  obtain ⟨p, rfl, hp, _⟩ := mem_clo.1 hq
  omega

/-- the map of keys -/
structure KeyI (S : List (List Int)) (es : List (List UInt8 × Int)) : Prop where
  em : ∀ k, k < S.length → mget .str (key2 (S.getD k [])) es = some (k : Int)
  eo : ∀ v : List UInt8, (mget .str v es).isSome = true → ∃ k, k < S.length ∧ key2 (S.getD k []) = v

theorem KeyI.mem {S : List (List Int)} {es : List (List UInt8 × Int)} (K : KeyI S es) (hN : N ≤ 2000) (hS : Closed arcs N S) {t : List Int} (ht : ∀ q ∈ t, 0 ≤ q ∧ q < N) : (mget .str (key2 t) es).isSome = true ↔ t ∈ S := by
  constructor
  · intro h
    obtain ⟨k, hk, e⟩ := K.eo _ h
    have hm := getD_mem (d := ([] : List Int)) hk
    have := key2_inj (fun q hq => by have := (hS.elem hm).2 q hq; omega) (fun q hq => by have := ht q hq; omega) e
    rw [← this]; exact hm
  · intro h
    obtain ⟨k, hk, rfl⟩ := List.mem_iff_getElem.1 h
    have e : S[k] = S.getD k [] := by rw [List.getD_eq_getElem?_getD, List.getElem?_eq_getElem hk]; rfl
    rw [e, K.em k hk]
    rfl

theorem KeyI.push {S : List (List Int)} {es : List (List UInt8 × Int)} (K : KeyI S es) {t : List Int} (hn : ¬ (mget .str (key2 t) es).isSome = true) : KeyI (S ++ [t]) (mput .str (key2 t) (S.length : Int) es) := by
  refine ⟨fun k hk => ?_, fun v hv => ?_⟩
  · rw [List.length_append, List.length_singleton] at hk
    by_cases e : k < S.length
    · rw [getD_snoc_lt e]
      have em := K.em k e
      have hne : key2 (S.getD k []) ≠ key2 t := fun h => hn (by rw [← h, em]; rfl)
      exact (mget_mput_other (k := .str) eqOk_str hne _ _).trans em
    · have : k = S.length := by omega
      subst this
      rw [getD_snoc_eq]
      exact mget_mput_same (k := .str) eqOk_str _ _ _
  · by_cases e : v = key2 t
    · exact ⟨S.length, by simp, by rw [getD_snoc_eq]; exact e.symm⟩
    · have e2 := mget_mput_other (k := .str) eqOk_str e (S.length : Int) es
      rw [e2] at hv
      obtain ⟨k, h1, h2⟩ := K.eo v hv
      exact ⟨k, by simp; omega, by rw [getD_snoc_lt h1]; exact h2⟩

theorem KeyI.idx {S : List (List Int)} {es : List (List UInt8 × Int)} (K : KeyI S es) {t : List Int} (ht : t ∈ S) : mget .str (key2 t) es = some ((S.idxOf t : Nat) : Int) := by
  have hlt := List.idxOf_lt_length_of_mem ht
  have e : S.getD (S.idxOf t) [] = t := by
    rw [List.getD_eq_getElem?_getD, List.getElem?_eq_getElem hlt]
    simp
  have := K.em _ hlt
  rwa [e] at this
end
end Go.AM
