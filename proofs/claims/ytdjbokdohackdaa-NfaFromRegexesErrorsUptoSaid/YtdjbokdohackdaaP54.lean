/- The position automaton of a list, plain: what is counted first, accepted numbers, links. -/
import Derived.Test.YtdjbokdohackdaaP53
namespace Go.AM
open Go

abbrev NF : Type := (Int) × (Int) × (List ((Int) × ((Int) × ((Bool) × ((List (Int)) × (Unit)))))) × (List (Int)) × Unit
abbrev nf0 : NF := ((0 : Int), (0 : Int), ([] : List ((Int) × ((Int) × ((Bool) × ((List (Int)) × (Unit)))))), ([] : List (Int)), ())

def AllV (l : List Rx) : Prop := ∀ r ∈ l, VR 30 r

section
variable {l : List Rx}

theorem p341_top {r : Rx} (hw : wfR r) (hv : VR 30 r) (hn : nn r ≤ 1152921504606846976) : p341 (r, ()) = some (nn r : Int) := p341_spec 30 fuel (by have := fuel_big; omega) r hw hv hn
theorem p339_top {r : Rx} (hw : wfR r) (hv : VR 30 r) (hn : nn r ≤ 1152921504606846976) : p339 (r, ()) = some (nn r : Int) := p339_spec 30 fuel (by have := fuel_big; omega) r hw hv hn

theorem l324_3 (hw : ∀ r ∈ l, wfR r) (hl : l.length ≤ 9223372036854775807) (hn : nnL l ≤ 1152921504606846976) :
    ∃ r, limit L324_3 ((l, (), (0 : Int), l, (l.length : Int), (0 : Int), ()), (nf0, ())) = some r ∧ ((AllV l ∧ r = .inr ((l, (), (nnL l : Int), ()), (nf0, ()))) ∨ (¬ AllV l ∧ r = .inl (((), (1 : Int), ()), (nf0, ())))) := by
  refine state_rule (L := L324_3) (σ := Nat) (fun i => ((l, (), ((nnL (l.take i) : Nat) : Int), l, (l.length : Int), (i : Int), ()), (nf0, ()))) (fun i => i ≤ l.length ∧ ∀ j, j < i → VR 30 (l.getD j rxd)) (fun i => l.length - i)
    (fun r => (AllV l ∧ r = .inr ((l, (), (nnL l : Int), ()), (nf0, ()))) ∨ (¬ AllV l ∧ r = .inl (((), (1 : Int), ()), (nf0, ())))) 0 ⟨Nat.zero_le _, fun j h => absurd h (Nat.not_lt_zero j)⟩ (by show _ - 0 < _; omega) ?_
  rintro i ⟨hi, hall⟩
  by_cases hlt : i < l.length
  · have hm : l.getD i rxd ∈ l := getD_mem hlt
    obtain ⟨b, e1, e2⟩ := p340_spec (hw _ hm)
    have hne := nrm_eq (hw _ hm).four
    unfold nrm at hne
    cases b with
    | true =>
      right
      refine ⟨i + 1, ⟨hlt, fun j hj => ?_⟩, by omega, fun n => ?_⟩
      · by_cases e : j = i
        · subst e; exact e2.1 rfl
        · exact hall j (by omega)
      · have hti := nnL_take l (i + 1)
        rw [nnL_snoc hlt] at hti
        have e3 := p341_top (hw _ hm) (e2.1 rfl) (by omega)
        simp only [L324_3, Int.toNat_natCast]
        rw [if_pos (lt_nat hlt), if_pos (in_range hlt), hne, e1, Option.bind_some, if_neg (by decide), e3, Option.bind_some, wrap_nat (by omega), nnL_snoc hlt, wrap_add (by omega)]
    | false =>
      left
      refine ⟨_, .inr ⟨fun h => ?_, rfl⟩, fun n => ?_⟩
      · have := e2.2 (h _ hm); cases this
      · simp only [L324_3, Int.toNat_natCast]
        rw [if_pos (lt_nat hlt), if_pos (in_range hlt), hne, e1, Option.bind_some, if_pos (by decide)]
  · left
    have : i = l.length := by omega
    subst this
    refine ⟨_, .inl ⟨all_getD.2 hall, rfl⟩, fun n => ?_⟩
    simp only [L324_3]
    rw [if_neg nlt_nat, List.take_length]

theorem p328_spec (hw : ∀ r ∈ l, wfR r) (hl : l.length ≤ 9223372036854775807) (hn : nnL l ≤ 1152921504606846976) :
    (AllV l → p328 (l, ()) = some (if nnL l > 500 then 11 else 0)) ∧ (¬ AllV l → p328 (l, ()) = some 1) := by
  have key : ∃ r, limit L328_3 ((l, (0 : Int), (0 : Int), ()), ()) = some r ∧ ((AllV l ∧ r = .inr (((nnL l : Int), ()), ())) ∨ (¬ AllV l ∧ r = .inl (((1 : Int), ()), ()))) := by
    refine state_rule (L := L328_3) (σ := Nat) (fun i => ((l, ((nnL (l.take i) : Nat) : Int), (i : Int), ()), ())) (fun i => i ≤ l.length ∧ ∀ j, j < i → VR 30 (l.getD j rxd)) (fun i => l.length - i)
      (fun r => (AllV l ∧ r = .inr (((nnL l : Int), ()), ())) ∨ (¬ AllV l ∧ r = .inl (((1 : Int), ()), ()))) 0 ⟨Nat.zero_le _, fun j h => absurd h (Nat.not_lt_zero j)⟩ (by show _ - 0 < _; omega) ?_
    rintro i ⟨hi, hall⟩
    by_cases hlt : i < l.length
    · have hm : l.getD i rxd ∈ l := getD_mem hlt
      obtain ⟨b, e1, e2⟩ := p338_spec (hw _ hm)
      have hne := nrm_eq (hw _ hm).four
      unfold nrm at hne
      cases b with
      | true =>
        right
        refine ⟨i + 1, ⟨hlt, fun j hj => ?_⟩, by omega, fun n => ?_⟩
        · by_cases e : j = i
          · subst e; exact e2.1 rfl
          · exact hall j (by omega)
        · have hti := nnL_take l (i + 1)
          rw [nnL_snoc hlt] at hti
          have e3 := p339_top (hw _ hm) (e2.1 rfl) (by omega)
          simp only [L328_3, Int.toNat_natCast]
          rw [if_pos (lt_nat hlt), if_pos (in_range hlt), hne, e1, Option.bind_some, if_neg (by decide), if_pos (in_range hlt), e3, Option.bind_some, wrap_nat (by omega), nnL_snoc hlt, wrap_add (by omega)]
      | false =>
        left
        refine ⟨_, .inr ⟨fun h => ?_, rfl⟩, fun n => ?_⟩
        · have := e2.2 (h _ hm); cases this
        · simp only [L328_3, Int.toNat_natCast]
          rw [if_pos (lt_nat hlt), if_pos (in_range hlt), hne, e1, Option.bind_some, if_pos (by decide)]
    · left
      have : i = l.length := by omega
      subst this
      refine ⟨_, .inl ⟨all_getD.2 hall, rfl⟩, fun n => ?_⟩
      simp only [L328_3]
      rw [if_neg nlt_nat, List.take_length]
  obtain ⟨r, e, h⟩ := key
  simp only [p328]
  rw [e]
  rcases h with ⟨h1, rfl⟩ | ⟨h1, rfl⟩
  · refine ⟨fun _ => ?_, fun h => absurd h1 h⟩
    simp only [Option.bind_some, Sum.elim_inr]
    by_cases h5 : nnL l > 500
    · rw [if_pos (ct (by omega)), if_pos h5]
    · rw [if_neg (cf (by omega)), if_neg h5]
  · exact ⟨fun h => absurd h h1, fun _ => rfl⟩
end

/-! ### accepted numbers -/

def setAll (i : Int) (a : List Int) (ps : List Int) : List Int := ps.foldl (fun a p => a.set p.toNat i) a
/-- the accepted numbers behind one more expression, number i -/
def acS (r : Rx) (o : Nat) (i : Int) (acc : List Int) : List Int :=
  let a := setAll i (acc ++ List.replicate (lv r).length (-1)) (gl r o).l
  if (gl r o).n = true ∧ a.getD 0 0 < 0 then a.set 0 i else a
def acA : List Rx → Nat → Nat → List Int → List Int
  | [], _, _, acc => acc
  | r :: rs, o, i, acc => acA rs (o + (lv r).length) (i + 1) (acS r o i acc)
def flA : List Rx → Nat → List (Int × Int)
  | [], _ => []
  | r :: rs, o => fl r o ++ prs [0] (gl r o).f ++ flA rs (o + (lv r).length)

theorem setAll_length (i : Int) : ∀ (ps a : List Int), (setAll i a ps).length = a.length
  | [], _ => rfl
  | p :: ps, a => by show (setAll i (a.set p.toNat i) ps).length = _; rw [setAll_length i ps, List.length_set]
theorem acS_length (r : Rx) (o : Nat) (i : Int) (acc : List Int) : (acS r o i acc).length = acc.length + (lv r).length := by
  unfold acS
  simp only
  split <;> simp [setAll_length]
theorem acA_append : ∀ (l m : List Rx) (o i : Nat) (acc : List Int), acA (l ++ m) o i acc = acA m (o + (lvL l).length) (i + l.length) (acA l o i acc)
  | [], m, o, i, acc => by simp [acA, lvL]
  | r :: l, m, o, i, acc => by simp only [List.cons_append, acA, lvL, acA_append l m, List.length_append, List.length_cons, Nat.add_assoc, Nat.add_comm 1]
theorem flA_append : ∀ (l m : List Rx) (o : Nat), flA (l ++ m) o = flA l o ++ flA m (o + (lvL l).length)
  | [], m, o => by simp [flA, lvL]
  | r :: l, m, o => by simp only [List.cons_append, flA, lvL, flA_append l m, List.length_append, Nat.add_assoc, List.append_assoc]
theorem acA_length : ∀ (l : List Rx) (o i : Nat) (acc : List Int), (acA l o i acc).length = acc.length + (lvL l).length
  | [], _, _, acc => by simp [acA, lvL]
  | r :: l, o, i, acc => by simp only [acA, lvL, acA_length l, acS_length, List.length_append, Nat.add_assoc]

/-- links of a list: between positions, or from the start -/
def FInA (o m : Nat) (ps : List (Int × Int)) : Prop := ∀ x ∈ ps, (0 ≤ x.1 ∧ x.1 ≤ ((o + m : Nat) : Int)) ∧ ((o : Int) < x.2 ∧ x.2 ≤ ((o + m : Nat) : Int))
theorem flA_in : ∀ (l : List Rx) (o : Nat), FInA o (lvL l).length (flA l o)
  | [], o => fun x hx => by cases hx
  | r :: l, o => by
    unfold flA lvL
    rw [List.length_append]
    intro x hx
    rcases List.mem_append.1 hx with hx | hx
    · rcases List.mem_append.1 hx with hx | hx
      · have := fl_in r o x hx
        constructor <;> constructor <;> omega
      · obtain ⟨g1, g2⟩ := mem_prs.1 hx
        simp only [List.mem_singleton] at g1
        have := (gl_pin r o).1 _ g2
        constructor <;> constructor <;> omega
    · have := flA_in l (o + (lv r).length) x hx
      constructor <;> constructor <;> omega
end Go.AM
