/- Validity and the number of nodes: the program's and the reference's functions. -/
import Derived.Test.YtdjbokdohackdaaP50
import Derived.Test.YtdjbokdohackdaaH4
namespace Go.AM
open Go

mutual
/-- four words in each set, no list of kids beyond what a slice holds -/
def wfR : Rx → Prop
  | .mk _ s ks => s.length = 4 ∧ ks.length ≤ maxLen ∧ wfRL ks
def wfRL : List Rx → Prop
  | [] => True
  | r :: rs => wfR r ∧ wfRL rs
end

theorem wfRL_mem : ∀ {l : List Rx}, wfRL l → ∀ r ∈ l, wfR r
  | r :: l, h, x, hx => by
    unfold wfRL at h
    rcases List.mem_cons.1 hx with rfl | hx
    · exact h.1
    · exact wfRL_mem h.2 x hx

theorem wfR.four {r : Rx} (h : wfR r) : r.set.length = 4 := by obtain ⟨k, s, ks⟩ := r; unfold wfR at h; exact h.1
theorem wfR.kl {r : Rx} (h : wfR r) : r.kids.length ≤ maxLen := by obtain ⟨k, s, ks⟩ := r; unfold wfR at h; exact h.2.1
theorem wfR.kids {r : Rx} (h : wfR r) : ∀ k ∈ r.kids, wfR k := by obtain ⟨k, s, ks⟩ := r; unfold wfR at h; exact wfRL_mem h.2.2

theorem kl62 {r : Rx} (h : wfR r) : r.kids.length ≤ 9223372036854775807 := Nat.le_trans h.kl (by unfold maxLen; omega)

section
variable {E : (Rx × Int × Unit) → Option Bool}

theorem l351 {q : Rx → Prop} (x1 : Int) (ks : List Rx) (hl : ks.length ≤ 9223372036854775807) (hw : ∀ k ∈ ks, wfR k) (hE : ∀ k ∈ ks, ∃ b, E (k, IntKind.i64.wrap (x1 - 1), ()) = some b ∧ (b = true ↔ q k)) :
    ∃ r, limit (L351_17 E) ((x1, ks, (ks.length : Int), (0 : Int), ()), ()) = some r ∧ ((r = .inr ((), ()) ∧ ∀ k ∈ ks, q k) ∨ (r = .inl ((false, ()), ()) ∧ ¬ ∀ k ∈ ks, q k)) := by
  refine state_rule (L := L351_17 E) (σ := Nat) (fun i => ((x1, ks, (ks.length : Int), (i : Int), ()), ())) (fun i => i ≤ ks.length ∧ ∀ j, j < i → q (ks.getD j rxd)) (fun i => ks.length - i)
    (fun r => (r = .inr ((), ()) ∧ ∀ k ∈ ks, q k) ∨ (r = .inl ((false, ()), ()) ∧ ¬ ∀ k ∈ ks, q k)) 0 ⟨Nat.zero_le _, fun j h => absurd h (Nat.not_lt_zero j)⟩ (by show _ - 0 < _; omega) ?_
  rintro i ⟨hi, hall⟩
  by_cases hlt : i < ks.length
  · have hm : ks.getD i rxd ∈ ks := getD_mem hlt
    obtain ⟨b, e1, e2⟩ := hE _ hm
    have hn := nrm_eq (hw _ hm).four
    unfold nrm at hn
    cases b with
    | true =>
      right
      refine ⟨i + 1, ⟨hlt, fun j hj => ?_⟩, by omega, fun n => ?_⟩
      · by_cases e : j = i
        · subst e; exact e2.1 rfl
        · exact hall j (by omega)
      · simp only [L351_17, Int.toNat_natCast]
        rw [if_pos (lt_nat hlt), if_pos (in_range hlt), hn, e1, Option.bind_some, if_neg (by decide), wrap_nat (by omega)]
    | false =>
      left
      refine ⟨_, .inr ⟨rfl, fun h => ?_⟩, fun n => ?_⟩
      · have := e2.2 (h _ hm); cases this
      · simp only [L351_17, Int.toNat_natCast]
        rw [if_pos (lt_nat hlt), if_pos (in_range hlt), hn, e1, Option.bind_some, if_pos (by decide)]
  · left
    have : i = ks.length := by omega
    subst this
    refine ⟨_, .inl ⟨rfl, all_getD.2 hall⟩, fun n => ?_⟩
    simp only [L351_17]
    rw [if_neg nlt_nat]

theorem l350 {q : Rx → Prop} (x1 : Int) (r0 : Rx) (hl : r0.kids.length ≤ 9223372036854775807) (hw : ∀ k ∈ r0.kids, wfR k) (a b c d : Int) (hE : ∀ k ∈ r0.kids, ∃ b, E (k, IntKind.i64.wrap (x1 + 1), ()) = some b ∧ (b = true ↔ q k)) :
    ∃ r, limit (L350_19 E) ((x1, (), (r0.kids.length : Int), (0 : Int), ()), ((r0.kind, a, b, c, d, r0.kids, ()), ())) = some r ∧ ((r = .inr ((), ()) ∧ ∀ k ∈ r0.kids, q k) ∨ (r = .inl ((false, ()), ()) ∧ ¬ ∀ k ∈ r0.kids, q k)) := by
  obtain ⟨kd, st, ks⟩ := r0
  simp only [Rx.kind, Rx.kids] at hl hw hE ⊢
  refine state_rule (L := L350_19 E) (σ := Nat) (fun i => ((x1, (), (ks.length : Int), (i : Int), ()), ((kd, a, b, c, d, ks, ()), ()))) (fun i => i ≤ ks.length ∧ ∀ j, j < i → q (ks.getD j rxd)) (fun i => ks.length - i)
    (fun r => (r = .inr ((), ()) ∧ ∀ k ∈ ks, q k) ∨ (r = .inl ((false, ()), ()) ∧ ¬ ∀ k ∈ ks, q k)) 0 ⟨Nat.zero_le _, fun j h => absurd h (Nat.not_lt_zero j)⟩ (by show _ - 0 < _; omega) ?_
  rintro i ⟨hi, hall⟩
  by_cases hlt : i < ks.length
  · have hm : ks.getD i rxd ∈ ks := getD_mem hlt
    obtain ⟨bb, e1, e2⟩ := hE _ hm
    have hn := nrm_eq (hw _ hm).four
    unfold nrm at hn
    cases bb with
    | true =>
      right
      refine ⟨i + 1, ⟨hlt, fun j hj => ?_⟩, by omega, fun n => ?_⟩
      · by_cases e : j = i
        · subst e; exact e2.1 rfl
        · exact hall j (by omega)
      · simp only [L350_19, Int.toNat_natCast]
        rw [if_pos (lt_nat hlt), if_pos (in_range hlt), hn, e1, Option.bind_some, if_neg (by decide), wrap_nat (by omega)]
    | false =>
      left
      refine ⟨_, .inr ⟨rfl, fun h => ?_⟩, fun n => ?_⟩
      · have := e2.2 (h _ hm); cases this
      · simp only [L350_19, Int.toNat_natCast]
        rw [if_pos (lt_nat hlt), if_pos (in_range hlt), hn, e1, Option.bind_some, if_pos (by decide)]
  · left
    have : i = ks.length := by omega
    subst this
    refine ⟨_, .inl ⟨rfl, all_getD.2 hall⟩, fun n => ?_⟩
    simp only [L350_19]
    rw [if_neg nlt_nat]
end

/-- what the node says, once its kids are asked -/
def verdict (r : Rx) (k : Option Bool) : Option Bool := if nodeOk r = true then k else some false

theorem p351b_eq {E : (Rx × Int × Unit) → Option Bool} {r : Rx} {d : Int} (hd : d ≠ 0) : p351b E (r, d, ()) = verdict r ((limit (L351_17 E) ((d, r.kids, (r.kids.length : Int), (0 : Int), ()), ())).bind (Sum.elim (fun r1 => some r1.1.1) (fun _ => some true))) := by
  simp only [p351b, verdict, nodeOk, zset]
  rw [if_neg (cf hd)]
  rcases Bool.eq_false_or_eq_true (Kind.eqB (.arr 4 (.int .u64)) [r.set.getD 0 0, r.set.getD 1 0, r.set.getD 2 0, r.set.getD 3 0] [(0 : Int), (0 : Int), (0 : Int), (0 : Int)]) with hz | hz <;> simp only [hz] <;> clear hz
  all_goals
    generalize ((limit (L351_17 E) ((d, r.kids, (r.kids.length : Int), (0 : Int), ()), ())).bind (Sum.elim (fun r1 => some r1.1.1) (fun _ => some true))) = K
    generalize r.kids.length = n
    generalize r.kind = k
    by_cases h1 : k = 1
    · subst h1
      by_cases hn : n = 0 <;> simp [hn] <;> omega
    · by_cases h2 : k = 2
      · subst h2
        by_cases hn : n = 0 <;> simp [hn] <;> omega
      · by_cases h3 : k = 3
        · subst h3
          by_cases hn : n = 0 <;> simp [hn] <;> omega
        · by_cases h4 : k = 4
          · subst h4
            by_cases hn : 2 ≤ n <;> simp [hn] <;> omega
          · by_cases h5 : k = 5
            · subst h5
              by_cases hn : 2 ≤ n <;> simp [hn] <;> omega
            · by_cases h6 : k = 6
              · subst h6
                by_cases hn : n = 1 <;> simp [hn] <;> omega
              · simp [h1, h2, h3, h4, h5, h6]

theorem p350b_eq {E : (Rx × Int × Unit) → Option Bool} {r : Rx} {d : Int} (hd : d < 30) : p350b E (r, d, ()) = verdict r (if r.kids.length = 0 then some true else
    (limit (L350_19 E) ((d, (), (r.kids.length : Int), (0 : Int), ()), ((r.kind, (r.set.getD 0 0), (r.set.getD 1 0), (r.set.getD 2 0), (r.set.getD 3 0), r.kids, ()), ()))).bind (Sum.elim (fun r1 => some r1.1.1) (fun _ => some true))) := by
  simp only [p350b, verdict, nodeOk, zset]
  rw [if_neg (cf (by omega))]
  rcases Bool.eq_false_or_eq_true (Kind.eqB (.arr 4 (.int .u64)) [r.set.getD 0 0, r.set.getD 1 0, r.set.getD 2 0, r.set.getD 3 0] [(0 : Int), (0 : Int), (0 : Int), (0 : Int)]) with hz | hz <;> simp only [hz] <;> clear hz
  all_goals
    generalize ((limit (L350_19 E) ((d, (), (r.kids.length : Int), (0 : Int), ()), ((r.kind, (r.set.getD 0 0), (r.set.getD 1 0), (r.set.getD 2 0), (r.set.getD 3 0), r.kids, ()), ()))).bind (Sum.elim (fun r1 => some r1.1.1) (fun _ => some true))) = K
    generalize r.kids.length = n
    generalize r.kind = k
    by_cases h1 : k = 1
    · subst h1
      by_cases hn : n = 0 <;> simp [hn]
    · by_cases h2 : k = 2
      · subst h2
        by_cases hn : n = 0 <;> simp [hn]
      · by_cases h3 : k = 3
        · subst h3
          by_cases hn : n = 0 <;> simp [hn]
        · by_cases h4 : k = 4
          · subst h4
            by_cases hn : 2 ≤ n
            · have : ¬ n = 0 := by omega
              have : ¬ (n : Int) < 2 := by omega
              simp [*]
            · have : (n : Int) < 2 := by omega
              simp [*]
          · by_cases h5 : k = 5
            · subst h5
              by_cases hn : 2 ≤ n
              · have : ¬ n = 0 := by omega
                have : ¬ (n : Int) < 2 := by omega
                simp [*]
              · have : (n : Int) < 2 := by omega
                simp [*]
            · by_cases h6 : k = 6
              · subst h6
                by_cases hn : n = 1
                · simp [hn]
                · have : ¬ (n : Int) = 1 := by omega
                  simp [*]
              · simp [h1, h2, h3, h4, h5, h6]

theorem verdict_spec {q : Rx → Prop} {r : Rx} {k : Option Bool} (h : ∃ b, k = some b ∧ (b = true ↔ ∀ x ∈ r.kids, q x)) : ∃ b, verdict r k = some b ∧ (b = true ↔ nodeOk r = true ∧ ∀ x ∈ r.kids, q x) := by
  obtain ⟨b, rfl, h2⟩ := h
  unfold verdict
  split
  · rename_i hn
    exact ⟨b, rfl, by rw [h2]; simp [hn]⟩
  · rename_i hn
    exact ⟨false, rfl, by simp [hn]⟩

theorem p351_spec : ∀ (d m : Nat), d < m → d ≤ 30 → ∀ r : Rx, wfR r → ∃ b, p351n m (r, (d : Int), ()) = some b ∧ (b = true ↔ VR d r)
  | 0, m + 1, _, _, r, _ => ⟨false, by show p351b _ _ = _; simp only [p351b]; rw [if_pos (ct (by simp))], by simp [VR]⟩
  | d + 1, m + 1, hm, hd, r, hw => by
    have e : p351n (m + 1) (r, ((d + 1 : Nat) : Int), ()) = _ := p351b_eq (E := p351n m) (r := r) (d := ((d + 1 : Nat) : Int)) (by omega)
    rw [e]
    refine verdict_spec ?_
    have hwrap : IntKind.i64.wrap (((d + 1 : Nat) : Int) - 1) = (d : Int) := by rw [wrap_i64 (by omega) (by omega)]; omega
    obtain ⟨x, e1, h1⟩ := l351 (E := p351n m) (q := VR d) ((d + 1 : Nat) : Int) r.kids (kl62 hw) hw.kids (fun k hk => by rw [hwrap]; exact p351_spec d m (by omega) (by omega) k (hw.kids k hk))
    rw [e1]
    rcases h1 with ⟨rfl, h1⟩ | ⟨rfl, h1⟩
    · exact ⟨true, rfl, by simpa using h1⟩
    · exact ⟨false, rfl, by simpa using h1⟩

theorem p350_spec : ∀ (d m : Nat), d < m → d ≤ 30 → ∀ r : Rx, wfR r → ∃ b, p350n m (r, (30 - d : Int), ()) = some b ∧ (b = true ↔ VR d r)
  | 0, m + 1, _, _, r, _ => ⟨false, by show p350b _ _ = _; simp only [p350b]; rw [if_pos (ct (by omega))], by simp [VR]⟩
  | d + 1, m + 1, hm, hd, r, hw => by
    have e : p350n (m + 1) (r, (30 - ((d + 1 : Nat) : Int)), ()) = _ := p350b_eq (E := p350n m) (r := r) (d := (30 - ((d + 1 : Nat) : Int))) (by omega)
    rw [e]
    refine verdict_spec ?_
    by_cases h0 : r.kids.length = 0
    · rw [if_pos h0]
      exact ⟨true, rfl, by simp [List.length_eq_zero_iff.1 h0]⟩
    · rw [if_neg h0]
      have hwrap : IntKind.i64.wrap ((30 - ((d + 1 : Nat) : Int)) + 1) = (30 - (d : Int)) := by rw [wrap_i64 (by omega) (by omega)]; omega
      obtain ⟨x, e1, h1⟩ := l350 (E := p350n m) (q := VR d) (30 - ((d + 1 : Nat) : Int)) r (kl62 hw) hw.kids (r.set.getD 0 0) (r.set.getD 1 0) (r.set.getD 2 0) (r.set.getD 3 0) (fun k hk => by rw [hwrap]; exact p350_spec d m (by omega) (by omega) k (hw.kids k hk))
      rw [e1]
      rcases h1 with ⟨rfl, h1⟩ | ⟨rfl, h1⟩
      · exact ⟨true, rfl, by simpa using h1⟩
      · exact ⟨false, rfl, by simpa using h1⟩

theorem fuel_big : 1000 < fuel := by rw [fuel_eq]; omega

theorem p340_spec {r : Rx} (hw : wfR r) : ∃ b, p340 (r, ()) = some b ∧ (b = true ↔ VR 30 r) := by
  obtain ⟨b, h1, h2⟩ := p351_spec 30 fuel (by have := fuel_big; omega) (Nat.le_refl _) r hw
  refine ⟨b, ?_, h2⟩
  have hn := nrm_eq hw.four
  unfold nrm at hn
  simp only [p340, hn]
  have e : p351 (r, 30, ()) = some b := h1
  rw [e]; rfl

theorem p338_spec {r : Rx} (hw : wfR r) : ∃ b, p338 (r, ()) = some b ∧ (b = true ↔ VR 30 r) := by
  obtain ⟨b, h1, h2⟩ := p350_spec 30 fuel (by have := fuel_big; omega) (Nat.le_refl _) r hw
  refine ⟨b, ?_, h2⟩
  have hn := nrm_eq hw.four
  unfold nrm at hn
  simp only [p338, hn]
  have e : p350 (r, 0, ()) = some b := h1
  rw [e]; rfl

/-! ### the number of nodes -/

theorem nn_mk (r : Rx) : nn r = 1 + nnL r.kids := by obtain ⟨k, s, ks⟩ := r; rfl
theorem nn_le {r : Rx} {l : List Rx} (h : r ∈ l) : nn r ≤ nnL l := by
  induction l with
  | nil => cases h
  | cons x l ih =>
    unfold nnL
    rcases List.mem_cons.1 h with rfl | h
    · omega
    · have := ih h; omega
theorem nnL_take (l : List Rx) (i : Nat) : nnL (l.take i) ≤ nnL l := by
  have := nnL_append (l.take i) (l.drop i)
  rw [List.take_append_drop] at this
  omega
theorem nnL_snoc {l : List Rx} {i : Nat} (h : i < l.length) : nnL (l.take (i + 1)) = nnL (l.take i) + nn (l.getD i rxd) := by
  rw [take_snoc (d := rxd) h, nnL_append]; simp [nnL]

theorem p341_spec : ∀ (d m : Nat), d ≤ m → ∀ r : Rx, wfR r → VR d r → nn r ≤ 1152921504606846976 → p341n m (r, ()) = some (nn r : Int)
  | 0, _, _, _, _, h, _ => h.elim
  | d + 1, m + 1, hm, r, hw, hv, hn => by
    have hnn := nn_mk r
    have hk := nnL_take r.kids
    have h := for_rule (L := L341_3 (p341n m)) (N := r.kids.length) (S := fun i => ((((1 + nnL (r.kids.take i) : Nat) : Int), r.kids, (r.kids.length : Int), (i : Int), ()), ())) (r := (((nn r : Int), ()), ()))
      (fun i hi n => by
        have hmem : r.kids.getD i rxd ∈ r.kids := getD_mem hi
        have hne := nrm_eq (hw.kids _ hmem).four
        unfold nrm at hne
        have hle := nn_le hmem
        have e := p341_spec d m (by omega) _ (hw.kids _ hmem) (hv.2 _ hmem) (by omega)
        have := hk (i + 1)
        simp only [L341_3, Int.toNat_natCast]
        have hkl := kl62 hw
        rw [if_pos (lt_nat hi), if_pos (in_range hi), hne, e, Option.bind_some, wrap_nat (by omega), nnL_snoc hi, wrap_i64 (by omega) (by rw [nnL_snoc hi] at this; omega)]
        rw [show ((1 + nnL (r.kids.take i) : Nat) : Int) + (nn (r.kids.getD i rxd) : Int) = ((1 + (nnL (r.kids.take i) + nn (r.kids.getD i rxd)) : Nat) : Int) by omega])
      (fun n => by simp only [L341_3]; rw [if_neg nlt_nat, List.take_length, hnn]) (by have := kl62 hw; omega)
    show p341b (p341n m) (r, ()) = _
    simp only [p341b]
    have h' : limit (L341_3 (p341n m)) (((1 : Int), r.kids, (r.kids.length : Int), (0 : Int), ()), ()) = some (((nn r : Int), ()), ()) := h
    rw [h']
    rfl

theorem p339_spec : ∀ (d m : Nat), d ≤ m → ∀ r : Rx, wfR r → VR d r → nn r ≤ 1152921504606846976 → p339n m (r, ()) = some (nn r : Int)
  | 0, _, _, _, _, h, _ => h.elim
  | d + 1, m + 1, hm, r, hw, hv, hn => by
    have hnn := nn_mk r
    have hk := nnL_take r.kids
    have h := for_rule (L := L339_3 (p339n m)) (N := r.kids.length) (S := fun i => (((), ((1 + nnL (r.kids.take i) : Nat) : Int), (i : Int), ()), ((r.kind, (r.set.getD 0 0), (r.set.getD 1 0), (r.set.getD 2 0), (r.set.getD 3 0), r.kids, ()), ()))) (r := (((nn r : Int), ()), ()))
      (fun i hi n => by
        have hmem : r.kids.getD i rxd ∈ r.kids := getD_mem hi
        have hne := nrm_eq (hw.kids _ hmem).four
        unfold nrm at hne
        have hle := nn_le hmem
        have e := p339_spec d m (by omega) _ (hw.kids _ hmem) (hv.2 _ hmem) (by omega)
        have := hk (i + 1)
        simp only [L339_3, Int.toNat_natCast]
        have hkl := kl62 hw
        rw [if_pos (lt_nat hi), if_pos (in_range hi), hne, e, Option.bind_some, wrap_nat (by omega), nnL_snoc hi, wrap_i64 (by omega) (by rw [nnL_snoc hi] at this; omega)]
        rw [show ((1 + nnL (r.kids.take i) : Nat) : Int) + (nn (r.kids.getD i rxd) : Int) = ((1 + (nnL (r.kids.take i) + nn (r.kids.getD i rxd)) : Nat) : Int) by omega])
      (fun n => by simp only [L339_3]; rw [if_neg nlt_nat, List.take_length, hnn]) (by have := kl62 hw; omega)
    show p339b (p339n m) (r, ()) = _
    simp only [p339b]
    have h' : limit (L339_3 (p339n m)) (((), (1 : Int), (0 : Int), ()), ((r.kind, (r.set.getD 0 0), (r.set.getD 1 0), (r.set.getD 2 0), (r.set.getD 3 0), r.kids, ()), ())) = some (((nn r : Int), ()), ()) := h
    rw [h']
    rfl
end Go.AM
