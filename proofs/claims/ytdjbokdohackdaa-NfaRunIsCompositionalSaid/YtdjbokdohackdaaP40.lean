/- Runs of a nondeterministic automaton: the program's and the reference's. -/
import Derived.Test.YtdjbokdohackdaaP28
import Derived.Test.YtdjbokdohackdaaH3
namespace Go.AM
open Go

def lstep (acc : List Int) (x q : Int) : Int := if acc.getD q.toNat 0 ≥ 0 ∧ (x < 0 ∨ acc.getD q.toNat 0 < x) then acc.getD q.toNat 0 else x
def lacc (acc l : List Int) : Int := l.foldl (lstep acc) (-1)

theorem lacc_snoc (acc l : List Int) (q : Int) : lacc acc (l ++ [q]) = lstep acc (lacc acc l) q := by simp [lacc]

structure NCtx (N : Nat) (st : Int) (arcs : List Arc) (acc : List Int) : Prop where
  hN : st = (N : Int)
  hN2 : N ≤ 2000
  har : ∀ i, i < arcs.length → ArcOk st (arcs.getD i ad)
  hal : arcs.length ≤ 2000
  acl : acc.length = N

noncomputable def runN (arcs : List Arc) (N : Nat) : List Int → List UInt8 → List Int
  | l, [] => l
  | l, b :: w => runN arcs N (stp arcs N l b.toNat) w

section
variable {N : Nat} {st start : Int} {arcs : List Arc} {acc l : List Int}

theorem runN_append : ∀ (w v : List UInt8) (l : List Int), runN arcs N l (w ++ v) = runN arcs N (runN arcs N l w) v
  | [], _, _ => rfl
  | _ :: w, v, _ => runN_append w v _

theorem runN_take {w : List UInt8} {i : Nat} (hi : i < w.length) (l : List Int) : runN arcs N l (w.take (i + 1)) = stp arcs N (runN arcs N l (w.take i)) (w.getD i 0).toNat := by
  rw [List.take_succ_eq_append_getElem hi, runN_append, List.getD_eq_getElem?_getD, List.getElem?_eq_getElem hi]
  rfl

theorem runN_small (w : List UInt8) {l : List Int} (hl : l.length ≤ N ∧ ∀ q ∈ l, 0 ≤ q ∧ q < N) : (runN arcs N l w).length ≤ N ∧ ∀ q ∈ runN arcs N l w, 0 ≤ q ∧ q < N := by
  induction w generalizing l with
  | nil => exact hl
  | cons b w ih =>
    refine ih ⟨clo_length, fun q hq => ?_⟩
    obtain ⟨p, rfl, hp, _⟩ := mem_clo.1 hq
    omega

theorem clo_elem {l : List Int} : (clo arcs N l).length ≤ N ∧ ∀ q ∈ clo arcs N l, 0 ≤ q ∧ q < N := by
  refine ⟨clo_length, fun q hq => ?_⟩
  obtain ⟨p, rfl, hp, _⟩ := mem_clo.1 hq
  omega

theorem p52_spec (hl : ∀ q ∈ l, 0 ≤ q ∧ q < acc.length) (hll : l.length ≤ 9223372036854775807) : p52 ((st, (start, (arcs, (acc, ())))), l, ()) = some (lacc acc l) := by
  have h := for_rule (L := L52_3) (N := l.length) (S := fun i => ((l, (), lacc acc (l.take i), (i : Int), ()), ((st, start, arcs, acc, ()), ()))) (r := ((lacc acc l, ()), ()))
    (fun i hi n => by
      have hq := hl _ (getD_mem (d := 0) hi)
      simp only [L52_3, Int.toNat_natCast]
      rw [if_pos (lt_nat hi), if_pos (in_range hi), if_pos (ct hq), take_snoc (d := 0) hi, lacc_snoc, wrap_nat (by omega)]
      unfold lstep
      by_cases h1 : acc.getD (l.getD i 0).toNat 0 ≥ 0
      · rw [if_pos (ct h1)]
        by_cases h2 : lacc acc (l.take i) < 0
        · rw [if_pos (ct h2), if_pos ⟨h1, .inl h2⟩]
        · rw [if_neg (cf h2)]
          by_cases h3 : acc.getD (l.getD i 0).toNat 0 < lacc acc (l.take i)
          · rw [if_pos (ct h3), if_pos ⟨h1, .inr h3⟩]
          · rw [if_neg (cf h3), if_neg (fun h => h.2.elim h2 h3)]
      · rw [if_neg (cf h1), if_neg (fun h => h1 h.1)])
    (fun n => by simp only [L52_3]; rw [if_neg nlt_nat, List.take_length]) (by omega)
  simp only [p52]
  have h' : limit L52_3 ((l, (), (-1 : Int), (0 : Int), ()), ((st, start, arcs, acc, ()), ())) = some ((lacc acc l, ()), ()) := h
  rw [h']
  rfl

theorem l320_9 (hl : ∀ q ∈ l, 0 ≤ q ∧ q < acc.length) (hll : l.length ≤ 9223372036854775807) :
    limit L320_9 (((), (-1 : Int), l, (l.length : Int), (0 : Int), ()), ((st, start, arcs, acc, ()), ())) = some ((lacc acc l, ()), ()) :=
  for_rule (L := L320_9) (N := l.length) (S := fun i => (((), lacc acc (l.take i), l, (l.length : Int), (i : Int), ()), ((st, start, arcs, acc, ()), ()))) (r := ((lacc acc l, ()), ()))
    (fun i hi n => by
      have hq := hl _ (getD_mem (d := 0) hi)
      simp only [L320_9, Int.toNat_natCast]
      rw [if_pos (lt_nat hi), if_pos (in_range hi), if_pos (ct hq), take_snoc (d := 0) hi, lacc_snoc, wrap_nat (by omega)]
      unfold lstep
      by_cases h1 : acc.getD (l.getD i 0).toNat 0 ≥ 0
      · rw [if_pos (ct h1)]
        by_cases h2 : lacc acc (l.take i) < 0
        · rw [if_pos (ct h2), if_pos ⟨h1, .inl h2⟩]
        · rw [if_neg (cf h2)]
          by_cases h3 : acc.getD (l.getD i 0).toNat 0 < lacc acc (l.take i)
          · rw [if_pos (ct h3), if_pos ⟨h1, .inr h3⟩]
          · rw [if_neg (cf h3), if_neg (fun h => h.2.elim h2 h3)]
      · rw [if_neg (cf h1), if_neg (fun h => h1 h.1)])
    (fun n => by simp only [L320_9]; rw [if_neg nlt_nat, List.take_length]) (by omega)

theorem p23_spec (C : NCtx N st arcs acc) {w : List UInt8} (hw : w.length ≤ 1000) : p23 ((st, (start, (arcs, (acc, ())))), w, ()) = some (lacc acc (runN arcs N (clo arcs N [start]) w)) := by
  have hN2 := C.hN2
  have hal := C.hal
  have e1 := p48_spec (start := start) (acc := acc) (l := [start]) C.hN C.hN2 C.har (by omega) (by simp)
  have hlim : limit L23_3 ((w, (), clo arcs N [start], (0 : Int), ()), ((st, start, arcs, acc, ()), ())) = some (((), runN arcs N (clo arcs N [start]) w, ()), ((st, start, arcs, acc, ()), ())) :=
    for_rule (L := L23_3) (N := w.length) (S := fun i => ((w, (), runN arcs N (clo arcs N [start]) (w.take i), (i : Int), ()), ((st, start, arcs, acc, ()), ())))
      (fun i hi n => by
        have hs := runN_small (arcs := arcs) (w.take i) (clo_elem (arcs := arcs) (N := N) (l := [start]))
        have e49 := p49_spec (start := start) (acc := acc) (l := runN arcs N (clo arcs N [start]) (w.take i)) C.hN C.hN2 C.har C.hal (by omega) (UInt8.toNat_lt (w.getD i 0))
        simp only [L23_3, Int.toNat_natCast]
        rw [if_pos (lt_nat hi), if_pos (in_range hi), e49, Option.bind_some, runN_take hi, wrap_nat (by omega)])
      (fun n => by simp only [L23_3]; rw [if_neg nlt_nat, List.take_length]) (by omega)
  have hs := runN_small (arcs := arcs) w (clo_elem (arcs := arcs) (N := N) (l := [start]))
  have e52 := p52_spec (st := st) (start := start) (arcs := arcs) (acc := acc) (l := runN arcs N (clo arcs N [start]) w) (fun q hq => by rw [C.acl]; exact hs.2 q hq) (by omega)
  simp only [p23]
  rw [e1, Option.bind_some, hlim]
  simp only [Option.bind_some]
  rw [e52]
  rfl

theorem map_bytes {w : List UInt8} {i : Nat} (hi : i < w.length) : (w.map fun b => (b.toNat : Int)).getD i 0 = ((w.getD i 0).toNat : Int) := map_getD hi

theorem p320_spec (C : NCtx N st arcs acc) {w : List UInt8} (hw : w.length ≤ 1000) : p320 ((st, (start, (arcs, (acc, ())))), w, ()) = some (lacc acc (runN arcs N (clo arcs N [start]) w)) := by
  have hN2 := C.hN2
  have hal := C.hal
  have e1 := p41_spec (start := start) (acc := acc) (l := [start]) C.hN C.hN2 C.har (by omega) (by simp)
  have hlen : (w.map fun b => (b.toNat : Int)).length = w.length := List.length_map _
  have hlim : limit L320_3 (((), clo arcs N [start], (w.map fun b => (b.toNat : Int)), ((w.map fun b => (b.toNat : Int)).length : Int), (0 : Int), ()), ((st, start, arcs, acc, ()), ())) = some (((), runN arcs N (clo arcs N [start]) w, ()), ((st, start, arcs, acc, ()), ())) := by
    rw [hlen]
    exact for_rule (L := L320_3) (N := w.length) (S := fun i => (((), runN arcs N (clo arcs N [start]) (w.take i), (w.map fun b => (b.toNat : Int)), (w.length : Int), (i : Int), ()), ((st, start, arcs, acc, ()), ())))
      (fun i hi n => by
        have hs := runN_small (arcs := arcs) (w.take i) (clo_elem (arcs := arcs) (N := N) (l := [start]))
        have e43 := p43_spec (start := start) (acc := acc) (l := runN arcs N (clo arcs N [start]) (w.take i)) C.hN C.hN2 C.har C.hal (by omega) (UInt8.toNat_lt (w.getD i 0))
        simp only [L320_3, Int.toNat_natCast]
        rw [if_pos (lt_nat hi), if_pos (in_range (by rw [hlen]; exact hi)), map_bytes hi, e43, Option.bind_some, runN_take hi, wrap_nat (by omega)])
      (fun n => by simp only [L320_3]; rw [if_neg nlt_nat, List.take_length]) (by omega)
  have hs := runN_small (arcs := arcs) w (clo_elem (arcs := arcs) (N := N) (l := [start]))
  have e9 := l320_9 (st := st) (start := start) (arcs := arcs) (acc := acc) (l := runN arcs N (clo arcs N [start]) w) (fun q hq => by rw [C.acl]; exact hs.2 q hq) (by omega)
  simp only [p320]
  rw [e1, Option.bind_some, hlim]
  simp only [Option.bind_some]
  rw [e9]
  rfl

theorem p316_refl (hl : l.length ≤ 9223372036854775807) : p316 (l, l, ()) = some true := by
  have h : limit L316_4 ((l, l, (0 : Int), ()), ()) = some (.inr ((), ())) :=
    for_rule (L := L316_4) (N := l.length) (S := fun i => ((l, l, (i : Int), ()), ()))
      (fun i hi n => by
        simp only [L316_4, Int.toNat_natCast]
        rw [if_pos (lt_nat hi), if_pos (in_range hi), if_pos (in_range hi), if_neg (cnf trivial), wrap_nat (by omega)])
      (fun n => by simp only [L316_4]; rw [if_neg nlt_nat]) (by omega)
  simp only [p316]
  rw [if_neg (cnf trivial), h]
  rfl

/-- a light automaton -/
theorem p314_spec (hal : arcs.length ≤ 9223372036854775807) : ∃ b, p314 ((st, (start, (arcs, (acc, ())))), ()) = some b ∧ (b = true → ∃ N : Nat, N ≤ 40 ∧ arcs.length ≤ 60 ∧ NCtx N st arcs acc ∧ VNfa st start arcs acc) := by
  obtain ⟨b, h1, h2⟩ := p45_spec (st := st) (start := start) (acc := acc) hal
  simp only [p314]
  by_cases g1 : (arcs.length : Int) ≤ 60
  · rw [if_pos (ct g1)]
    by_cases g2 : st ≤ 40
    · rw [if_pos (ct g2), h1]
      refine ⟨b, rfl, fun hb => ?_⟩
      have V := h2.1 hb
      have := V.s1
      have := V.al
      refine ⟨st.toNat, by omega, by omega, ⟨by omega, by omega, V.ar, by omega, by omega⟩, V⟩
    · rw [if_neg (cf g2)]; exact ⟨false, rfl, fun h => by cases h⟩
  · rw [if_neg (cf g1)]; exact ⟨false, rfl, fun h => by cases h⟩
end
end Go.AM
