/- Minimize, fourth part: states with the same language have the same number. -/
import Derived.Test.YtagllmgnmkdogaaP14
namespace Go.AM
open Go

variable {c : List Int} {nx : List (List Int)} {ac : List Int}

def pt (part : List Int) (t : Int) : Int := if t < 0 then 0 else IntKind.i64.wrap (part.getD t.toNat 0 + 1)
def lst (nx : List (List Int)) (ac part : List Int) (s : Nat) : List Int := [part.getD s 0, IntKind.i64.wrap (ac.getD s 0 + 1)] ++ (nx.getD s []).map (pt part)
def keyS (nx : List (List Int)) (ac part : List Int) (s : Nat) : List UInt8 := wideS (lst nx ac part s)

theorem l35_10 (count : Int) (s : Nat) (part row l0 : List Int) (es : List ((List UInt8) × (Int))) (out : List Int) (hl : row.length ≤ 256) (h0 : l0.length = 2) (hr : ∀ j, j < row.length → row.getD j 0 < part.length) :
    limit L35_10 (((), (), count, (), (), (s : Int), (), nx, (nx.length : Int), (s : Int), row, (row.length : Int), (0 : Int), ()), ((c, nx, ac, ()), part, l0, es, out, ())) =
      some (((), (), count, (), (), (s : Int), (), nx, (nx.length : Int), (s : Int), ()), ((c, nx, ac, ()), part, l0 ++ row.map (pt part), es, out, ())) := by
  have h := for_rule (L := L35_10) (N := row.length)
    (S := fun j => (((), (), count, (), (), (s : Int), (), nx, (nx.length : Int), (s : Int), row, (row.length : Int), (j : Int), ()), ((c, nx, ac, ()), part, l0 ++ (row.take j).map (pt part), es, out, ())))
    (r := (((), (), count, (), (), (s : Int), (), nx, (nx.length : Int), (s : Int), ()), ((c, nx, ac, ()), part, l0 ++ row.map (pt part), es, out, ())))
    (fun j hj n => by
      have hlt := hr j hj
      simp only [L35_10, Int.toNat_natCast]
      rw [if_pos (lt_nat hj), if_pos (in_range hj), wrap_nat (by omega), take_snoc (d := 0) hj]
      by_cases h1 : row.getD j 0 < 0
      · have e : pt part (row.getD j 0) = 0 := by unfold pt; rw [if_pos h1]
        rw [if_pos (ct h1), if_pos (ct (by simp only [List.length_append, List.length_map, List.length_take, List.length_singleton, lim]; omega)), List.map_append, List.map_cons, List.map_nil, e, List.append_assoc]
      · have e : pt part (row.getD j 0) = IntKind.i64.wrap (part.getD (row.getD j 0).toNat 0 + 1) := by unfold pt; rw [if_neg h1]
        rw [if_neg (cf h1), if_pos (ct (by omega)), if_pos (ct (by simp only [List.length_append, List.length_map, List.length_take, List.length_singleton, lim]; omega)), List.map_append, List.map_cons, List.map_nil, e, List.append_assoc])
    (fun n => by simp only [L35_10]; rw [if_neg nlt_nat, List.take_length]) (by omega)
  rw [List.take_zero, List.map_nil, List.append_nil] at h
  exact h

theorem shift_eq {i : Nat} (hi : i < 8) : (min (IntKind.i64.wrap ((8 : Int) * (i : Int))).toNat (IntKind.i64.bits)) = 8 * i := by
  rw [wrap_i64 (by omega) (by omega)]
  show min ((8 : Int) * (i : Int)).toNat 64 = 8 * i
  omega

theorem l57_35_6 (v len idx : Int) (part l out base : List Int) (es : List ((List UInt8) × (Int))) (hb : base.length ≤ 1000000) :
    limit L57_35_6 (((), v, (), len, idx, (0 : Int), ()), ((c, nx, ac, ()), part, l, es, out, base, ())) = some (((), (), len, idx, ()), ((c, nx, ac, ()), part, l, es, out, base ++ wide1 v, ())) := by
  have h := for_rule (L := L57_35_6) (N := 8)
    (S := fun i => (((), v, (), len, idx, (i : Int), ()), ((c, nx, ac, ()), part, l, es, out, base ++ (List.range i).map (wb v), ())))
    (r := (((), (), len, idx, ()), ((c, nx, ac, ()), part, l, es, out, base ++ wide1 v, ())))
    (fun i hi n => by
      simp only [L57_35_6, shift_eq hi]
      rw [if_pos (ct (by omega)), if_pos (ct (by rw [wrap_i64 (by omega) (by omega)]; omega)), if_pos (ct (by simp only [List.length_append, List.length_map, List.length_range, List.length_singleton, lim]; omega)), wrap_nat (by omega),
        List.range_succ, List.map_append, List.map_cons, List.map_nil, List.append_assoc]
      rfl)
    (fun n => by simp only [L57_35_6]; rw [if_neg (cf (by omega))]; rfl) (by omega)
  rw [List.range_zero, List.map_nil, List.append_nil] at h
  exact h

theorem wideI_length (l : List Int) : (wideI l).length = 8 * l.length := by
  induction l with
  | nil => rfl
  | cons v l ih =>
    have e : wideI (v :: l) = wide1 v ++ wideI l := rfl
    rw [e, List.length_append, ih]
    simp [wide1]
    omega

theorem l57_35_3 (part l out : List Int) (es : List ((List UInt8) × (Int))) (hl : l.length ≤ 1000) :
    limit L57_35_3 (((), (), (l.length : Int), (0 : Int), ()), ((c, nx, ac, ()), part, l, es, out, ([] : List (Int)), ())) = some (((), ()), ((c, nx, ac, ()), part, l, es, out, wideI l, ())) := by
  have h := for_rule (L := L57_35_3) (N := l.length)
    (S := fun i => (((), (), (l.length : Int), (i : Int), ()), ((c, nx, ac, ()), part, l, es, out, wideI (l.take i), ())))
    (r := (((), ()), ((c, nx, ac, ()), part, l, es, out, wideI l, ())))
    (fun i hi n => by
      have hlen := wideI_length (l.take i)
      rw [List.length_take] at hlen
      simp only [L57_35_3, Int.toNat_natCast]
      rw [if_pos (lt_nat hi), if_pos (in_range hi), l57_35_6 _ _ _ _ _ _ _ _ (by omega), Option.bind_some, wrap_nat (by omega), take_snoc (d := 0) hi, wideI_append]
      have e1 : wideI [l.getD i 0] = wide1 (l.getD i 0) := by simp [wideI]
      rw [e1])
    (fun n => by simp only [L57_35_3]; rw [if_neg nlt_nat, List.take_length]) (by omega)
  exact h

/-- one round of the refinement -/
theorem l35_6 (V : VDfa c nx ac) (hk : (nx.getD 0 []).length ≤ 256) (count : Int) (part : List Int) (hp : part.length = nx.length) :
    limit L35_6 (((), (), count, (), (), nx, (nx.length : Int), (0 : Int), ()), ((c, nx, ac, ()), part, ([] : List ((List UInt8) × (Int))), (List.replicate (part.length : Int).toNat (0 : Int)), ())) =
      some (((), count, (), (), ()), ((c, nx, ac, ()), esF .str (keyS nx ac part) nx.length, (List.range nx.length).map (numv .str (keyS nx ac part)), ())) := by
  have n5 := V.n500
  have al := V.al
  have h := for_rule (L := L35_6) (N := nx.length)
    (S := fun s => (((), (), count, (), (), nx, (nx.length : Int), (s : Int), ()), ((c, nx, ac, ()), part, (esF .str (keyS nx ac part) s : List (List UInt8 × Int)), fillF (numv .str (keyS nx ac part)) 0 nx.length s, ())))
    (r := (((), count, (), (), ()), ((c, nx, ac, ()), esF .str (keyS nx ac part) nx.length, (List.range nx.length).map (numv .str (keyS nx ac part)), ())))
    (fun s hs n => by
      have hrl := V.rl s hs
      have hll : (lst nx ac part s).length ≤ 1000 := by simp only [lst, List.length_append, List.length_cons, List.length_nil, List.length_map]; omega
      have e1 := l35_10 (c := c) (nx := nx) (ac := ac) count s part (nx.getD s []) [part.getD s 0, IntKind.i64.wrap (ac.getD s 0 + 1)] (esF .str (keyS nx ac part) s) (fillF (numv .str (keyS nx ac part)) 0 nx.length s) (by omega) rfl
        (fun j hj => by rw [hp]; exact (V.tr s hs j (by omega)).2)
      have e2 := l57_35_3 (c := c) (nx := nx) (ac := ac) part (lst nx ac part s) (fillF (numv .str (keyS nx ac part)) 0 nx.length s) (esF .str (keyS nx ac part) s) hll
      simp only [L35_6, Int.toNat_natCast]
      rw [if_pos (lt_nat hs), if_pos (in_range hs), if_pos (in_range (by omega)), if_pos (in_range (by omega)), e1]
      simp only [Option.bind_some]
      have e3 : [part.getD s 0, IntKind.i64.wrap (ac.getD s 0 + 1)] ++ (nx.getD s []).map (pt part) = lst nx ac part s := rfl
      rw [e3, e2]
      simp only [Option.bind_some]
      have e4 : (wideI (lst nx ac part s)).map (fun n => UInt8.ofNat n.toNat) = keyS nx ac part s := rfl
      rw [e4]
      by_cases hn : (mget .str (keyS nx ac part s) (esF .str (keyS nx ac part) s)).isSome = true
      · obtain ⟨q1, q2⟩ := esF_old (K := .str) (key := keyS nx ac part) hn
        rw [if_neg (by rw [hn]; exact ntf), if_pos (ct (by rw [fillF_length]; omega)), Int.toNat_natCast, wrap_nat (by omega), ← q2, fillF_set, q1]
      · obtain ⟨q1, q2, q3⟩ := esF_new (K := .str) eqOk_str (key := keyS nx ac part) hn
        have hn' : (mget .str (keyS nx ac part s) (esF .str (keyS nx ac part) s)).isSome = false := by simpa using hn
        rw [if_pos (by rw [hn']; rfl), e2]
        simp only [Option.bind_some]
        rw [e4, if_pos (ct (by rw [fillF_length]; omega)), Int.toNat_natCast, wrap_nat (by omega), ← q2, fillF_set, q2, ← q1])
    (fun n => by simp only [L35_6]; rw [if_neg nlt_nat, fillF_full]) (by omega)
  have e : List.replicate (part.length : Int).toNat (0 : Int) = fillF (numv .str (keyS nx ac part)) 0 nx.length 0 := by rw [Int.toNat_natCast, hp]; exact fillF_zero
  rw [e]
  exact h
end Go.AM
