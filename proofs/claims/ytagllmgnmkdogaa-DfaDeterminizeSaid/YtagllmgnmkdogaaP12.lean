/- Minimize, first part: columns without bytes are left out. -/
import Derived.Test.YtagllmgnmkdogaaP11
namespace Go.AM
open Go

abbrev KI : Kind := .int .i64
theorem eqOk_KI : EqOk KI := eqOk_int _

section
variable (K : Kind) (key : Nat → K.T)
/-- the keys that were new -/
def colF : Nat → List K.T
  | 0 => []
  | i + 1 => if (mget K (key i) (esF K key i)).isSome = true then colF i else colF i ++ [key i]
variable {K key} (hK : EqOk K)
include hK
theorem colF_length (i : Nat) : (colF K key i).length = (esF K key i).length := by
  induction i with
  | zero => rfl
  | succ i ih =>
    unfold colF
    split
    · rename_i h; rw [(esF_old h).1, ih]
    · rename_i h; rw [(esF_new hK h).2.2, List.length_append, ih]; rfl
theorem colF_getD (d : K.T) : ∀ (i b : Nat), b < i → (colF K key i).getD (numv K key b).toNat d = key b := by
  intro i
  induction i with
  | zero => intro b hb; omega
  | succ i ih =>
    intro b hb
    unfold colF
    split
    · rename_i h
      by_cases e : b = i
      · subst e
        obtain ⟨b0, h1, h2⟩ := (esF_some hK b _).1 h
        have := (numv_inj hK (b + 1) b b0 (by omega) (by omega)).2 h2.symm
        rw [this, ih b0 h1, h2]
      · exact ih b (by omega)
    · rename_i h
      obtain ⟨_, e2, _⟩ := esF_new hK h
      by_cases e : b = i
      · subst e
        rw [e2, Int.toNat_natCast, ← colF_length hK, getD_snoc_eq]
      · have := numv_bounds hK (key := key) i b (by omega)
        rw [getD_snoc_lt (by rw [colF_length hK]; omega), ih b (by omega)]
omit hK in
theorem colF_mem {i : Nat} {x : K.T} (hx : x ∈ colF K key i) : ∃ b, b < i ∧ key b = x := by
  induction i with
  | zero => cases hx
  | succ i ih =>
    unfold colF at hx
    split at hx
    · obtain ⟨b, h1, h2⟩ := ih hx; exact ⟨b, by omega, h2⟩
    · rcases List.mem_append.1 hx with hx | hx
      · obtain ⟨b, h1, h2⟩ := ih hx; exact ⟨b, by omega, h2⟩
      · exact ⟨i, by omega, (List.mem_singleton.1 hx).symm⟩
end

section
variable (c : List Int) (nx : List (List Int))
def ucls : List Int := (List.range 256).map (numv KI fun b => c.getD b 0)
def ucols : List Int := colF KI (fun b => c.getD b 0) 256
def urow (row : List Int) : List Int := (ucols c).map fun j => row.getD j.toNat 0
def unx : List (List Int) := nx.map (urow c)
end

variable {c : List Int} {nx : List (List Int)} {ac : List Int}

theorem l34_5 (h256 : c.length = 256) : limit L34_5 (((), (), (), (), (), c, (c.length : Int), (0 : Int), ()), ((c, nx, ac, ()), (([] : List (Int)), ([] : List (List (Int))), ([] : List (Int)), ()), ([] : List (Int)), ((), (), ac, ()), ([] : List ((Int) × (Int))), (List.replicate (c.length : Int).toNat (0 : Int)), ([] : List (List (Int))), ())) =
    some (((), (), (), (), ()), ((c, nx, ac, ()), (([] : List (Int)), ([] : List (List (Int))), ([] : List (Int)), ()), ucols c, ((), (), ac, ()), ucls c, ([] : List (List (Int))), ())) := by
  have h := for_rule (L := L34_5) (N := 256)
    (S := fun i => (((), (), (), (), (), c, (c.length : Int), (i : Int), ()), ((c, nx, ac, ()), (([] : List (Int)), ([] : List (List (Int))), ([] : List (Int)), ()), (colF KI (fun b => c.getD b 0) i : List Int), ((), (), ac, ()), (esF KI (fun b => c.getD b 0) i : List (Int × Int)), fillF (numv KI fun b => c.getD b 0) 0 256 i, ([] : List (List (Int))), ())))
    (r := (((), (), (), (), ()), ((c, nx, ac, ()), (([] : List (Int)), ([] : List (List (Int))), ([] : List (Int)), ()), ucols c, ((), (), ac, ()), ucls c, ([] : List (List (Int))), ())))
    (fun i hi n => by
      have hl := colF_length eqOk_KI (key := fun b => c.getD b 0) i
      have hle := esF_len eqOk_KI (key := fun b => c.getD b 0) i
      simp only [L34_5, Int.toNat_natCast, fillF_length]
      rw [if_pos (ct (by omega)), if_pos (in_range (by omega))]
      by_cases hs : (mget KI (c.getD i 0 : Int) (esF KI (fun b => c.getD b 0) i)).isSome = true
      · obtain ⟨e1, e2⟩ := esF_old (K := KI) (key := fun b => c.getD b 0) hs
        rw [if_neg (by rw [hs]; exact ntf), if_pos (in_range hi), wrap_nat (by omega), e1, ← e2, fillF_set]
        have e3 : colF KI (fun b => c.getD b 0) (i + 1) = colF KI (fun b => c.getD b 0) i := by
          show (if _ then _ else _) = _
          rw [if_pos hs]
        rw [e3]
      · obtain ⟨e1, e2, e3⟩ := esF_new (K := KI) eqOk_KI (key := fun b => c.getD b 0) hs
        have e4 : colF KI (fun b => c.getD b 0) (i + 1) = colF KI (fun b => c.getD b 0) i ++ [(c.getD i 0 : Int)] := by
          show (if _ then _ else _) = _
          rw [if_neg hs]
        have hs' : (mget KI (c.getD i 0 : Int) (esF KI (fun b => c.getD b 0) i)).isSome = false := by simpa using hs
        rw [if_pos (by rw [hs']; rfl), if_pos (ct (by simp only [List.length_singleton, lim]; omega)), if_pos (in_range hi), wrap_nat (by omega), e4, e1, hl, ← e2, fillF_set])
    (fun n => by
      simp only [L34_5]
      rw [if_neg (cf (by omega)), fillF_full]
      rfl) (by omega)
  have e : List.replicate (c.length : Int).toNat (0 : Int) = fillF (numv KI fun b => c.getD b 0) 0 256 0 := by rw [Int.toNat_natCast, h256]; exact fillF_zero
  rw [e]
  exact h

theorem ucols_small : (ucols c).length ≤ 256 := by
  unfold ucols
  rw [colF_length eqOk_KI]
  exact esF_len eqOk_KI 256

theorem l34_19 (row : List Int) (rows : List (List Int)) (i : Nat) (out : List Int) (acc : List (List Int)) (hrow : ∀ j, j ∈ ucols c → 0 ≤ j ∧ j < row.length) :
    limit L34_19 (((), (), (), row, (), rows, (rows.length : Int), (i : Int), (), ((ucols c).length : Int), (0 : Int), ()), ((([] : List (Int)), ([] : List (List (Int))), ([] : List (Int)), ()), ucols c, ((), (), ac, ()), ([] : List (Int)), out, acc, ())) =
      some (((), (), (), (), rows, (rows.length : Int), (i : Int), ()), ((([] : List (Int)), ([] : List (List (Int))), ([] : List (Int)), ()), ucols c, ((), (), ac, ()), urow c row, out, acc, ())) := by
  have hsm := ucols_small (c := c)
  exact for_rule (L := L34_19) (N := (ucols c).length)
    (S := fun j => (((), (), (), row, (), rows, (rows.length : Int), (i : Int), (), ((ucols c).length : Int), (j : Int), ()), ((([] : List (Int)), ([] : List (List (Int))), ([] : List (Int)), ()), ucols c, ((), (), ac, ()), ((ucols c).take j).map (fun j => row.getD j.toNat 0), out, acc, ())))
    (r := (((), (), (), (), rows, (rows.length : Int), (i : Int), ()), ((([] : List (Int)), ([] : List (List (Int))), ([] : List (Int)), ()), ucols c, ((), (), ac, ()), urow c row, out, acc, ())))
    (fun j hj n => by
      have hm := hrow _ (getD_mem (d := 0) hj)
      simp only [L34_19, Int.toNat_natCast]
      rw [if_pos (lt_nat hj), if_pos (in_range hj), if_pos (ct hm), if_pos (ct (by simp only [List.length_map, List.length_take, List.length_singleton, lim]; omega)), wrap_nat (by omega), take_snoc (d := 0) hj]
      simp only [List.map_append, List.map_cons, List.map_nil])
    (fun n => by simp only [L34_19]; rw [if_neg nlt_nat, List.take_length]; rfl) (by omega)

theorem p34_run (V : VDfa c nx ac) : p34 ((c, (nx, (ac, ()))), ()) = some (ucls c, (unx c nx, (ac, ()))) := by
  have h256 := V.c256
  have h500 := V.n500
  have hcol : ∀ s, s < nx.length → ∀ j, j ∈ ucols c → 0 ≤ j ∧ j < (nx.getD s []).length := by
    intro s hs j hj
    obtain ⟨b, hb, e⟩ := colF_mem hj
    subst e
    rw [V.rl s hs]
    exact V.cr b hb
  simp only [p34]
  rw [if_pos (ct ⟨trivial, by omega, by simp only [lim]; omega⟩), l34_5 h256, Option.bind_some]
  have h := for_rule (L := L34_15) (N := nx.length)
    (S := fun i => (((), (), (), nx, (nx.length : Int), (i : Int), ()), ((([] : List (Int)), ([] : List (List (Int))), ([] : List (Int)), ()), ucols c, ((), (), ac, ()), ucls c, (nx.take i).map (urow c), ())))
    (r := (((), (), ()), ((([] : List (Int)), ([] : List (List (Int))), ([] : List (Int)), ()), ((), (), ac, ()), ucls c, unx c nx, ())))
    (fun i hi n => by
      simp only [L34_15, Int.toNat_natCast]
      rw [if_pos (lt_nat hi), if_pos (in_range hi), l34_19 _ _ _ _ _ (hcol i hi), Option.bind_some, if_pos (ct (by simp only [List.length_map, List.length_take, List.length_singleton, lim]; omega)), wrap_nat (by omega), take_snoc (d := []) hi]
      simp only [List.map_append, List.map_cons, List.map_nil])
    (fun n => by simp only [L34_15]; rw [if_neg nlt_nat, List.take_length]; rfl) (by omega)
  rw [show ((0 : Nat) : Int) = 0 from rfl] at h
  simp only [List.take_zero, List.map_nil] at h
  dsimp only
  rw [h]
  simp only [Option.bind_some]

theorem unx_length : (unx c nx).length = nx.length := by simp [unx]
theorem urow_length (row : List Int) : (urow c row).length = (ucols c).length := by simp [urow]
theorem unx_getD {s : Nat} (hs : s < nx.length) : (unx c nx).getD s [] = urow c (nx.getD s []) := by
  unfold unx
  rw [List.getD_eq_getElem?_getD, List.getElem?_map, List.getD_eq_getElem?_getD, List.getElem?_eq_getElem hs]
  simp only [Option.map_some, Option.getD_some]

theorem used_fon (V : VDfa c nx ac) : Fon (ucls c) ((unx c nx).getD 0 []).length := by
  have hn := V.n1
  rw [unx_getD (by omega), urow_length]
  unfold ucols
  rw [colF_length eqOk_KI]
  refine ⟨fun i => (esF KI (fun b => c.getD b 0) i).length, rfl, rfl, fun b hb => ?_⟩
  unfold ucls
  rw [map_range_getD hb]
  exact numv_fon eqOk_KI b

theorem used_step {s : Int} (hs : s < nx.length) {b : Nat} (hb : b < 256) : stepZ (ucls c) (unx c nx) s b = stepZ c nx s b := by
  unfold stepZ
  by_cases h : s < 0
  · rw [if_pos h, if_pos h]
  · rw [if_neg h, if_neg h, unx_getD (by omega)]
    unfold ucls
    rw [map_range_getD hb]
    have e := colF_getD eqOk_KI (key := fun b => c.getD b 0) (0 : Int) 256 b hb
    have hl := numv_bounds eqOk_KI (key := fun b => c.getD b 0) 256 b hb
    unfold urow
    rw [List.getD_eq_getElem?_getD, List.getElem?_map]
    unfold ucols
    rw [← colF_length eqOk_KI] at hl
    rw [List.getD_eq_getElem?_getD, List.getElem?_eq_getElem (by omega)] at e
    rw [List.getElem?_eq_getElem (by omega)]
    simp only [Option.map_some, Option.getD_some] at e ⊢
    rw [e]

theorem used_valid (V : VDfa c nx ac) : VDfa (ucls c) (unx c nx) ac := by
  have hn := V.n1
  obtain ⟨cnt, f0, f1, f2⟩ := used_fon V
  have fb := fon_before f0 f2 256 (by omega)
  refine ⟨by simp [ucls], by rw [unx_length]; exact hn, by rw [unx_length]; exact V.n500, by rw [unx_length]; exact V.al, ?_, fun b hb => by rw [← f1]; exact fb.2 b hb, fun s hs => ?_, fun s hs j hj => ?_, fun s hs => V.ar s (by rw [unx_length] at hs; exact hs)⟩
  · have := fb.2 0 (by omega); omega
  · rw [unx_length] at hs
    rw [unx_getD hs, unx_getD (by omega), urow_length, urow_length]
  · rw [unx_length] at hs
    obtain ⟨b, hb, e⟩ := fb.1 j (by omega)
    have h1 := used_step (c := c) (nx := nx) (s := (s : Int)) (by omega) hb
    have h2 := V.step (s := (s : Int)) (by omega) hb
    unfold stepZ at h1
    rw [if_neg (by omega), e, Int.toNat_natCast, Int.toNat_natCast] at h1
    rw [unx_length, h1]
    have h3 : stepZ c nx (s : Int) b = (if (s : Int) < 0 then -1 else (nx.getD s []).getD (c.getD b 0).toNat 0) := rfl
    rw [h3] at h2
    exact h2

theorem used_run (V : VDfa c nx ac) : ∀ (w : List UInt8) {s : Int}, -1 ≤ s → s < nx.length → runZ (ucls c) (unx c nx) s w = runZ c nx s w
  | [], _, _, _ => rfl
  | b :: l, s, h0, h1 => by
    show runZ _ _ (stepZ _ _ s b.toNat) l = runZ _ _ (stepZ _ _ s b.toNat) l
    rw [used_step h1 (UInt8.toNat_lt b)]
    have h := V.step h1 (UInt8.toNat_lt b)
    exact used_run V l h.1 h.2
end Go.AM
