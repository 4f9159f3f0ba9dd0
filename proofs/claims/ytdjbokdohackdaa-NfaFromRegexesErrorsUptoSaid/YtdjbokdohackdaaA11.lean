/- Maps. -/
import Derived.Test.YtdjbokdohackdaaA10
namespace Go.AM
open Go

section keys
variable {P : Program} {w : World} {I : Nat → Prop}

mutual
theorem eqGuard_off : ∀ {k : Kind} {t : TypeId}, kOk P k t = true → k.eqOk = true → ∀ d, k.deep ≤ d → P.eqGuardType d t = false
  | .bool, t, h, he, d, hd => by
    obtain ⟨d, rfl⟩ : ∃ e, d = e + 1 := ⟨d - 1, by simp [Kind.deep] at hd; omega⟩
    simp [Program.eqGuardType, kOk_bool h]
  | .int k, t, h, he, d, hd => by
    obtain ⟨d, rfl⟩ : ∃ e, d = e + 1 := ⟨d - 1, by simp [Kind.deep] at hd; omega⟩
    simp [Program.eqGuardType, kOk_int h]
  | .str, t, h, he, d, hd => by
    obtain ⟨d, rfl⟩ : ∃ e, d = e + 1 := ⟨d - 1, by simp [Kind.deep] at hd; omega⟩
    simp [Program.eqGuardType, kOk_str h]
  | .dyn _, t, h, he, _, _ => by simp [Kind.eqOk] at he
  | .slice _, t, h, he, _, _ => by simp [Kind.eqOk] at he
  | .rx, t, h, he, _, _ => by simp [Kind.eqOk] at he
  | .unit, t, h, he, d, hd => by
    obtain ⟨d, rfl⟩ : ∃ e, d = e + 1 := ⟨d - 1, by simp [Kind.deep] at hd; omega⟩
    unfold kOk at h
    simp only [Bool.and_eq_true, Bool.not_eq_true'] at h
    split at h
    · rename_i fs hut
      have hnil : fs.toList = [] := by simpa using h.2
      simp only [Program.eqGuardType, hut]
      rw [← Array.any_toList, hnil]
      rfl
    · simp at h
  | .pair a b, t, h, he, d, hd => by
    obtain ⟨d, rfl⟩ : ∃ e, d = e + 1 := ⟨d - 1, by simp [Kind.deep] at hd; omega⟩
    unfold kOk at h
    simp only [Bool.and_eq_true] at h
    split at h
    · rename_i fs hut
      simp only [Program.eqGuardType, hut]
      rw [← Array.any_toList]
      split at h
      · rename_i f r hlst
        simp only [Bool.and_eq_true, beq_iff_eq, bne_iff_ne, ne_eq] at h
        obtain ⟨_, ⟨⟨ho, hn⟩, hf⟩, hr⟩ := h
        rw [hlst]
        simp only [Kind.eqOk, Bool.and_eq_true] at he
        simp only [Kind.deep] at hd
        rw [List.any_cons, eqGuard_off hf he.1 d (by omega), eqGuards_off hr he.2 d (by omega)]
        simp
      · simp at h
    · simp at h
  | .arr n e, t, h, he, d, hd => by
    obtain ⟨d, rfl⟩ : ∃ e, d = e + 1 := ⟨d - 1, by simp [Kind.deep] at hd; omega⟩
    obtain ⟨E, hut, hE⟩ := kOk_arr h
    simp only [Kind.eqOk] at he
    simp only [Kind.deep] at hd
    simp only [Program.eqGuardType, hut]
    exact eqGuard_off hE he d (by omega)
theorem eqGuards_off : ∀ {k : Kind} {fs : List Field} {off : Nat}, fieldsOk P k fs off = true → k.eqOk = true → ∀ d, k.deep ≤ d + 1 → (fs.any fun f => f.name != "_" && P.eqGuardType d f.type) = false
  | .unit, fs, off, h, he, d, hd => by
    cases fs with
    | nil => rfl
    | cons _ _ => simp [fieldsOk] at h
  | .pair a b, fs, off, h, he, d, hd => by
    cases fs with
    | nil => simp [fieldsOk] at h
    | cons f r =>
      simp only [fieldsOk, Bool.and_eq_true, beq_iff_eq, bne_iff_ne, ne_eq] at h
      obtain ⟨⟨⟨ho, hn⟩, hf⟩, hr⟩ := h
      simp only [Kind.eqOk, Bool.and_eq_true] at he
      simp only [Kind.deep] at hd
      rw [List.any_cons, eqGuard_off hf he.1 d (by omega), eqGuards_off hr he.2 d (by omega)]
      simp
  | .bool, fs, off, h, _, _, _ => by simp [fieldsOk] at h
  | .int _, fs, off, h, _, _, _ => by simp [fieldsOk] at h
  | .str, fs, off, h, _, _, _ => by simp [fieldsOk] at h
  | .dyn _, fs, off, h, _, _, _ => by simp [fieldsOk] at h
  | .slice _, fs, off, h, _, _, _ => by simp [fieldsOk] at h
  | .arr _ _, fs, off, h, _, _, _ => by simp [fieldsOk] at h
  | .rx, fs, off, h, _, _, _ => by simp [fieldsOk] at h
end

mutual
theorem checkKey_rel (em : Bool) : ∀ {k : Kind} {t : TypeId}, kOk P k t = true → k.keyOk = true → ∀ d, k.deep ≤ d → ∀ {x : k.T} {v : Value}, VK w I k x v → (Instr.checkKey em d t v).run P w = .ok () w
  | .bool, t, h, he, d, hd, x, v, hv => by
    obtain ⟨d, rfl⟩ : ∃ e, d = e + 1 := ⟨d - 1, by simp [Kind.deep] at hd; omega⟩
    simp [Instr.checkKey, run_underlying (kOk_bool h)]
  | .int k, t, h, he, d, hd, x, v, hv => by
    obtain ⟨d, rfl⟩ : ∃ e, d = e + 1 := ⟨d - 1, by simp [Kind.deep] at hd; omega⟩
    simp [Instr.checkKey, run_underlying (kOk_int h)]
  | .str, t, h, he, d, hd, x, v, hv => by
    obtain ⟨d, rfl⟩ : ∃ e, d = e + 1 := ⟨d - 1, by simp [Kind.deep] at hd; omega⟩
    simp [Instr.checkKey, run_underlying (kOk_str h)]
  | .dyn _, t, h, he, _, _, _, _, _ => by simp [Kind.keyOk] at he
  | .slice _, t, h, he, _, _, _, _, _ => by simp [Kind.keyOk] at he
  | .rx, t, h, he, _, _, _, _, _ => by simp [Kind.keyOk] at he
  | .unit, t, h, he, d, hd, x, v, hv => by
    obtain ⟨d, rfl⟩ : ∃ e, d = e + 1 := ⟨d - 1, by simp [Kind.deep] at hd; omega⟩
    unfold kOk at h
    simp only [Bool.and_eq_true, Bool.not_eq_true'] at h
    split at h
    · rename_i fs hut
      have hnil : fs.toList = [] := by simpa using h.2
      obtain ⟨l, rfl, hl⟩ := hv.agg rfl
      simp only [Instr.checkKey, Sem.run_bind, run_underlying hut, Result.andThen_ok]
      rw [← Array.forIn_toList, hnil]
      rfl
    · simp at h
  | .pair a b, t, h, he, d, hd, x, v, hv => by
    obtain ⟨d, rfl⟩ : ∃ e, d = e + 1 := ⟨d - 1, by simp [Kind.deep] at hd; omega⟩
    unfold kOk at h
    simp only [Bool.and_eq_true] at h
    split at h
    · rename_i fs hut
      obtain ⟨l, rfl, hl⟩ := hv.agg rfl
      simp only [Instr.checkKey, Sem.run_bind, run_underlying hut, Result.andThen_ok]
      rw [← Array.forIn_toList]
      split at h
      · rename_i f r hlst
        simp only [Bool.and_eq_true, beq_iff_eq, bne_iff_ne, ne_eq] at h
        obtain ⟨_, ⟨⟨ho, hn⟩, hf⟩, hr⟩ := h
        rw [hlst]
        simp only [Kind.keyOk, Bool.and_eq_true] at he
        simp only [Kind.deep] at hd
        obtain ⟨l1, l2, rfl, h1, h2⟩ := hl
        obtain ⟨T⟩ := kOk_ty hf
        obtain ⟨p, hp, hpv⟩ := run_part T (cs := (l1 ++ l2).toArray) (pre := []) (post := l2) (off := f.offset) (by simp) (by simp [ho]) h1
        have e1 := checkKey_rel em hf he.1 d (by omega) hpv
        have e2 := checkKeys_rel em (k := b) hr he.2 d (by omega) (pre := l1) (l := l2) (x := x.2) (RelK.length a h1) h2
        simp only [List.forIn_cons, Sem.run_bind, hn, ne_eq, not_false_eq_true, if_true, Result.andThen_ok, hp, e1, Sem.run_pure]
        simp only [ne_eq] at e2
        rw [e2]
        rfl
      · simp at h
    · simp at h
  | .arr _ _, t, h, he, _, _, _, _, _ => by simp [Kind.keyOk] at he
theorem checkKeys_rel (em : Bool) : ∀ {k : Kind} {fs : List Field} {off : Nat}, fieldsOk P k fs off = true → k.keyOk = true → ∀ d, k.deep ≤ d + 1 → ∀ {x : k.T} {pre l : List Value}, pre.length = off →
    RelK w I k x l → (forIn fs PUnit.unit fun f _ => (if f.name ≠ "_" then do
      let p ← part f.type (pre ++ l).toArray f.offset
      Instr.checkKey em d f.type p
      pure (ForInStep.yield PUnit.unit) else pure (ForInStep.yield PUnit.unit) : Sem (ForInStep PUnit))).run P w = .ok PUnit.unit w
  | .unit, fs, off, h, he, d, hd, x, pre, l, hp, hl => by
    cases fs with
    | nil => rfl
    | cons _ _ => simp [fieldsOk] at h
  | .pair a b, fs, off, h, he, d, hd, x, pre, l, hp, hl => by
    cases fs with
    | nil => simp [fieldsOk] at h
    | cons f r =>
      simp only [fieldsOk, Bool.and_eq_true, beq_iff_eq, bne_iff_ne, ne_eq] at h
      obtain ⟨⟨⟨ho, hn⟩, hf⟩, hr⟩ := h
      simp only [Kind.keyOk, Bool.and_eq_true] at he
      simp only [Kind.deep] at hd
      obtain ⟨l1, l2, rfl, h1, h2⟩ := hl
      obtain ⟨T⟩ := kOk_ty hf
      obtain ⟨p, hpp, hpv⟩ := run_part T (cs := (pre ++ (l1 ++ l2)).toArray) (pre := pre) (post := l2) (off := f.offset) (by simp) (by rw [ho]; exact hp) h1
      have e1 := checkKey_rel em hf he.1 d (by omega) hpv
      have e2 := checkKeys_rel em (k := b) hr he.2 d (by omega) (pre := pre ++ l1) (l := l2) (x := x.2) (by rw [List.length_append, hp, RelK.length a h1]) h2
      simp only [List.forIn_cons, Sem.run_bind, hn, ne_eq, not_false_eq_true, if_true, Result.andThen_ok, hpp, e1, Sem.run_pure]
      simpa using e2
  | .bool, fs, off, h, _, _, _, _, _, _, _, _ => by simp [fieldsOk] at h
  | .int _, fs, off, h, _, _, _, _, _, _, _, _ => by simp [fieldsOk] at h
  | .str, fs, off, h, _, _, _, _, _, _, _, _ => by simp [fieldsOk] at h
  | .dyn _, fs, off, h, _, _, _, _, _, _, _, _ => by simp [fieldsOk] at h
  | .slice _, fs, off, h, _, _, _, _, _, _, _, _ => by simp [fieldsOk] at h
  | .arr _ _, fs, off, h, _, _, _, _, _, _, _, _ => by simp [fieldsOk] at h
  | .rx, fs, off, h, _, _, _, _, _, _, _, _ => by simp [fieldsOk] at h
end
theorem keyOk_eqOk : ∀ {k : Kind}, k.keyOk = true → k.eqOk = true
  | .bool, _ => rfl
  | .int _, _ => rfl
  | .str, _ => rfl
  | .unit, _ => rfl
  | .pair a b, h => by
    simp only [Kind.keyOk, Bool.and_eq_true] at h
    simp only [Kind.eqOk, Bool.and_eq_true]
    exact ⟨keyOk_eqOk h.1, keyOk_eqOk h.2⟩
  | .dyn _, h => by simp [Kind.keyOk] at h
  | .slice _, h => by simp [Kind.keyOk] at h
  | .arr _ _, h => by simp [Kind.keyOk] at h
  | .rx, h => by simp [Kind.keyOk] at h

theorem eqB_true : ∀ {k : Kind}, k.keyOk = true → ∀ {x y : k.T}, k.eqB x y = true → x = y
  | .bool, _, x, y, h => by simpa [Kind.eqB] using h
  | .int _, _, x, y, h => by simpa [Kind.eqB] using h
  | .str, _, x, y, h => by simpa [Kind.eqB] using h
  | .unit, _, x, y, h => rfl
  | .pair a b, hk, x, y, h => by
    simp only [Kind.keyOk, Bool.and_eq_true] at hk
    rw [show Kind.eqB (.pair a b) x y = (a.eqB x.1 y.1 && b.eqB x.2 y.2) from rfl] at h
    simp only [Bool.and_eq_true] at h
    exact Prod.ext (eqB_true hk.1 h.1) (eqB_true hk.2 h.2)
  | .dyn _, h, _, _, _ => by simp [Kind.keyOk] at h
  | .slice _, h, _, _, _ => by simp [Kind.keyOk] at h
  | .arr _ _, h, _, _, _ => by simp [Kind.keyOk] at h
  | .rx, h, _, _, _ => by simp [Kind.keyOk] at h

/-- a key's cells: plain values, the same for the same key -/
def plainCell (v : Value) : Prop := (∃ b, v = .bool b) ∨ (∃ k n, v = .int k n) ∨ ∃ s, v = .string s

theorem key_cells : ∀ {k : Kind}, k.keyOk = true → ∀ {x : k.T} {vs us : List Value}, RelK w I k x vs → RelK w I k x us → vs = us ∧ ∀ v ∈ vs, plainCell v
  | .bool, _, x, vs, us, h, h' => by
    rw [show vs = _ from h, show us = _ from h']
    exact ⟨rfl, fun v hv => by simp at hv; exact .inl ⟨_, hv⟩⟩
  | .int _, _, x, vs, us, h, h' => by
    rw [show vs = _ from h, show us = _ from h']
    exact ⟨rfl, fun v hv => by simp at hv; exact .inr (.inl ⟨_, _, hv⟩)⟩
  | .str, _, x, vs, us, h, h' => by
    rw [show vs = _ from h, show us = _ from h']
    exact ⟨rfl, fun v hv => by simp at hv; exact .inr (.inr ⟨_, hv⟩)⟩
  | .unit, _, x, vs, us, h, h' => by
    rw [show vs = _ from h, show us = _ from h']
    exact ⟨rfl, fun v hv => by cases hv⟩
  | .pair a b, hk, x, vs, us, ⟨l, r, e, h1, h2⟩, ⟨l', r', e', h1', h2'⟩ => by
    simp only [Kind.keyOk, Bool.and_eq_true] at hk
    obtain ⟨e1, p1⟩ := key_cells hk.1 h1 h1'
    obtain ⟨e2, p2⟩ := key_cells hk.2 h2 h2'
    subst e e' e1 e2
    exact ⟨rfl, fun v hv => (List.mem_append.1 hv).elim (p1 v) (p2 v)⟩
  | .dyn _, h, _, _, _, _, _ => by simp [Kind.keyOk] at h
  | .slice _, h, _, _, _, _, _ => by simp [Kind.keyOk] at h
  | .arr _ _, h, _, _, _, _, _ => by simp [Kind.keyOk] at h
  | .rx, h, _, _, _, _, _ => by simp [Kind.keyOk] at h

theorem key_inj : ∀ {k : Kind}, k.keyOk = true → ∀ {x y : k.T} {vs : List Value}, RelK w I k x vs → RelK w I k y vs → k.eqB x y = true
  | .bool, _, x, y, vs, h, h' => by
    have e := (show vs = _ from h).symm.trans (show vs = _ from h')
    simp only [List.cons.injEq, Value.bool.injEq, and_true] at e
    subst e
    simp [Kind.eqB]
  | .int _, _, x, y, vs, h, h' => by
    have e := (show vs = _ from h).symm.trans (show vs = _ from h')
    simp only [List.cons.injEq, Value.int.injEq, and_true, true_and] at e
    subst e
    simp [Kind.eqB]
  | .str, _, x, y, vs, h, h' => by
    have e := (show vs = _ from h).symm.trans (show vs = _ from h')
    simp only [List.cons.injEq, and_true] at e
    have e2 : (x : List UInt8) = y := by
      unfold strOf at e
      injection e with e
      injection e with e
      exact congrArg Array.toList e
    subst e2
    simp [Kind.eqB]
  | .unit, _, _, _, _, _, _ => rfl
  | .pair a b, hk, x, y, vs, ⟨l, r, e, h1, h2⟩, ⟨l', r', e', h1', h2'⟩ => by
    simp only [Kind.keyOk, Bool.and_eq_true] at hk
    have hl : l.length = l'.length := by rw [RelK.length a h1, RelK.length a h1']
    obtain ⟨rfl, rfl⟩ := List.append_inj (e.symm.trans e') hl
    show (a.eqB x.1 y.1 && b.eqB x.2 y.2) = true
    rw [key_inj hk.1 h1 h1', key_inj hk.2 h2 h2']
    rfl
  | .dyn _, h, _, _, _, _, _ => by simp [Kind.keyOk] at h
  | .slice _, h, _, _, _, _, _ => by simp [Kind.keyOk] at h
  | .arr _ _, h, _, _, _, _, _ => by simp [Kind.keyOk] at h
  | .rx, h, _, _, _, _, _ => by simp [Kind.keyOk] at h
  | .fnk, h, _, _, _, _, _ => by simp [Kind.keyOk] at h

theorem key_injV {k : Kind} (hk : k.keyOk = true) {x y : k.T} {v : Value} (hx : VK w I k x v) (hy : VK w I k y v) : k.eqB x y = true := by
  cases ha : k.isAgg with
  | true =>
    obtain ⟨vs, rfl, h1⟩ := hx.agg ha
    obtain ⟨us, e, h2⟩ := hy.agg ha
    injection e with e
    have e2 : vs = us := congrArg Array.toList e
    subst e2
    exact key_inj hk h1 h2
  | false => exact key_inj hk (hx.leaf ha) (hy.leaf ha)

theorem EntriesAt.mem {k v : Kind} : ∀ {es : List (k.T × v.T)} {ms : List MapEntry} {m : MapEntry}, EntriesAt w I k v es ms → m ∈ ms → ∃ p ∈ es, VK w I k p.1 m.key
  | [], ms, m, h, hm => by rw [show ms = [] from h] at hm; cases hm
  | p :: es, ms, m, ⟨q, s, e, h1, h2, h3⟩, hm => by
    subst e
    rcases List.mem_cons.1 hm with rfl | hm
    · exact ⟨p, List.mem_cons_self .., h1⟩
    · obtain ⟨p', h4, h5⟩ := EntriesAt.mem h3 hm
      exact ⟨p', List.mem_cons_of_mem _ h4, h5⟩

theorem sameBits_cell {v : Value} (h : plainCell v) (n : Nat) : Instr.sameBits n v v = true := by
  rcases h with ⟨b, rfl⟩ | ⟨k, m, rfl⟩ | ⟨s, rfl⟩
  · cases n <;> simp [Instr.sameBits]
  · cases n <;> simp [Instr.sameBits]
  · cases n <;> simp only [Instr.sameBits]
    · show ((s.data : Array UInt8) == s.data) = true; simp
    · show ((s.data : Array UInt8) == s.data) = true; simp

theorem key_same {k : Kind} (hk : k.keyOk = true) {x : k.T} {v u : Value} (hv : VK w I k x v) (hu : VK w I k x u) : v = u ∧ Instr.sameBits 10000 u u = true := by
  cases ha : k.isAgg with
  | true =>
    obtain ⟨vs, rfl, h1⟩ := hv.agg ha
    obtain ⟨us, rfl, h2⟩ := hu.agg ha
    obtain ⟨rfl, hp⟩ := key_cells hk h1 h2
    refine ⟨rfl, ?_⟩
    simp only [Instr.sameBits]
    simp only [Bool.and_eq_true, beq_self_eq_true, true_and, List.all_eq_true]
    intro q hq
    have hz : ∀ (l : List Value) (q : Value × Value), q ∈ l.zip l → q.1 = q.2 ∧ q.1 ∈ l := by
      intro l
      induction l with
      | nil => intro q hq; simp at hq
      | cons c l ih =>
        intro q hq
        simp only [List.zip_cons_cons, List.mem_cons] at hq
        rcases hq with rfl | hq
        · exact ⟨rfl, List.mem_cons_self ..⟩
        · exact ⟨(ih q hq).1, List.mem_cons_of_mem _ (ih q hq).2⟩
    obtain ⟨e1, e2⟩ := hz _ q hq
    rw [← e1]
    exact sameBits_cell (hp _ (by simpa using e2)) _
  | false =>
    have h1 := hv.leaf ha
    have h2 := hu.leaf ha
    obtain ⟨e, hp⟩ := key_cells hk h1 h2
    obtain rfl : v = u := by simpa using e
    exact ⟨rfl, sameBits_cell (hp v (by simp)) _⟩

/-- where the key stands -/
def mfind (k : Kind) {v : Type} (x : k.T) : List (k.T × v) → Nat → Option (Nat × v)
  | [], _ => none
  | p :: r, i => if k.eqB x p.1 = true then some (i, p.2) else mfind k x r (i + 1)

theorem findAsking_rel {k vk : Kind} {K : TypeId} (hK : kOk P k K = true) (he : k.keyOk = true) (hd : k.deep ≤ 50) {x : k.T} {v : Value} (hx : VK w I k x v) :
    ∀ {es : List (k.T × vk.T)} {ms : List MapEntry} {i : Nat}, EntriesAt w I k vk es ms →
      ∃ r, (Instr.findAsking K v ms i).run P w = .ok r w ∧
        (match mfind k x es i, r with | none, none => True | some (j, y), some (j', u) => j' = j ∧ VK w I vk y u | _, _ => False)
  | [], ms, i, h => by rw [show ms = [] from h]; exact ⟨none, rfl, trivial⟩
  | p :: es, ms, i, ⟨m, s, e, h1, h2, h3⟩ => by
    subst e
    have heq := equalIn_rel (P := P) hK (keyOk_eqOk he) Op.maxDepth (by unfold Op.maxDepth; omega) hx h1
    simp only [Instr.findAsking, Sem.run_bind, Op.equal, heq, Result.andThen_ok]
    unfold mfind
    cases k.eqB x p.1 with
    | true => exact ⟨some (i, m.val), by simp, by simp [h2]⟩
    | false =>
      obtain ⟨r, g1, g2⟩ := findAsking_rel hK he hd hx (i := i + 1) h3
      exact ⟨r, by simpa using g1, by simpa using g2⟩

theorem sameNow_rel {k : Kind} {K : TypeId} (hK : kOk P k K = true) (he : k.keyOk = true) {d : TypeDesc} (hd : P.underlying K = some d) {x y : k.T} {v u : Value} (hx : VK w I k x v) (hy : VK w I k y u) :
    Instr.sameNow d v u = none ∨ Instr.sameNow d v u = some (k.eqB x y) := by
  cases k with
  | bool =>
    rw [kOk_bool hK] at hd; cases hd
    have e1 : v = .bool x := by simpa [RelK] using hx.leaf rfl
    have e2 : u = .bool y := by simpa [RelK] using hy.leaf rfl
    subst e1 e2
    exact .inr rfl
  | int q =>
    rw [kOk_int hK] at hd; cases hd
    have e1 : v = .int q x := by simpa [RelK] using hx.leaf rfl
    have e2 : u = .int q y := by simpa [RelK] using hy.leaf rfl
    subst e1 e2
    right
    simp only [Instr.sameNow, if_true]
    rfl
  | str =>
    rw [kOk_str hK] at hd; cases hd
    have e1 : v = strOf x := by simpa [RelK] using hx.leaf rfl
    have e2 : u = strOf y := by simpa [RelK] using hy.leaf rfl
    subst e1 e2
    right
    show some (ByteArray.mk _ == ByteArray.mk _) = _
    rw [strOf_eq]
    rfl
  | unit =>
    obtain ⟨vs, rfl, _⟩ := hx.agg rfl
    left; unfold Instr.sameNow; split <;> first | rfl | simp_all
  | pair a b =>
    obtain ⟨vs, rfl, _⟩ := hx.agg rfl
    left; unfold Instr.sameNow; split <;> first | rfl | simp_all
  | dyn _ => simp [Kind.keyOk] at he
  | slice _ => simp [Kind.keyOk] at he
  | arr _ _ => simp [Kind.keyOk] at he
  | rx => simp [Kind.keyOk] at he
  | fnk => simp [Kind.keyOk] at he

theorem findNow_rel {k vk : Kind} {K : TypeId} (hK : kOk P k K = true) (he : k.keyOk = true) {d : TypeDesc} (hdd : P.underlying K = some d) {x : k.T} {v : Value} (hx : VK w I k x v) :
    ∀ {es : List (k.T × vk.T)} {ms : List MapEntry} {i : Nat}, EntriesAt w I k vk es ms → ∀ r, Instr.findNow d v ms i = some r →
        (match mfind k x es i, r with | none, none => True | some (j, y), some (j', u) => j' = j ∧ VK w I vk y u | _, _ => False)
  | [], ms, i, h, r, hr => by rw [show ms = [] from h] at hr; simp [Instr.findNow] at hr; subst hr; trivial
  | p :: es, ms, i, ⟨m, s, e, h1, h2, h3⟩, r, hr => by
    subst e
    unfold Instr.findNow at hr
    unfold mfind
    rcases sameNow_rel hK he hdd hx h1 with e | e
    · rw [e] at hr; cases hr
    · rw [e] at hr
      cases hb : k.eqB x p.1 with
      | true => rw [hb] at hr; simp at hr; subst hr; simp [h2]
      | false => rw [hb] at hr; simp at hr; simpa using findNow_rel hK he hdd hx h3 r hr

theorem findKey_rel {k vk : Kind} {K : TypeId} (hK : kOk P k K = true) (he : k.keyOk = true) (hd : k.deep ≤ 50) {x : k.T} {v : Value} (hx : VK w I k x v)
    {es : List (k.T × vk.T)} {ms : List MapEntry} (h : EntriesAt w I k vk es ms) :
    ∃ r, (Instr.findKey K v ms).run P w = .ok r w ∧ (match mfind k x es 0, r with | none, none => True | some (j, y), some (j', u) => j' = j ∧ VK w I vk y u | _, _ => False) := by
  obtain ⟨d, hdd⟩ : ∃ d, P.underlying K = some d := by
    cases hu : P.underlying K with
    | some d => exact ⟨d, rfl⟩
    | none => cases k <;> simp [kOk, hu] at hK
  unfold Instr.findKey
  simp only [Sem.run_bind, run_underlying hdd, Result.andThen_ok]
  cases hf : Instr.findNow d v ms 0 with
  | some r => exact ⟨r, rfl, findNow_rel hK he hdd hx h r hf⟩
  | none => exact findAsking_rel hK he hd hx h

theorem mfind_none {k : Kind} {v : Type} (x : k.T) : ∀ (es : List (k.T × v)) (i : Nat), mfind k x es i = none → ∀ p ∈ es, ¬ k.eqB x p.1 = true
  | [], _, _, p, hp => by cases hp
  | q :: r, i, h, p, hp => by
    unfold mfind at h
    split at h
    · cases h
    · rename_i hq
      rcases List.mem_cons.1 hp with rfl | hp
      · exact hq
      · exact mfind_none x r (i + 1) h p hp

theorem mfind_get {k : Kind} {v : Type} (x : k.T) : ∀ (es : List (k.T × v)) (i : Nat), mget k x es = (mfind k x es i).map (·.2)
  | [], _ => rfl
  | p :: r, i => by
    unfold mget mfind
    split
    · rfl
    · exact mfind_get x r (i + 1)

theorem mfind_put {k : Kind} {v : Type} (x : k.T) (y : v) : ∀ (es : List (k.T × v)) (i : Nat),
    (mfind k x es i = none → mput k x y es = es ++ [(x, y)]) ∧
    (∀ j z, mfind k x es i = some (j, z) → ∃ n q, j = i + n ∧ es[n]? = some q ∧ k.eqB x q.1 = true ∧ mput k x y es = es.set n (x, y))
  | [], _ => ⟨fun _ => rfl, fun j z h => by simp [mfind] at h⟩
  | p :: r, i => by
    unfold mfind mput
    by_cases hb : k.eqB x p.1 = true
    · rw [if_pos hb, if_pos hb]
      refine ⟨fun h => (by simp at h), fun j z h => ?_⟩
      simp only [Option.some.injEq, Prod.mk.injEq] at h
      exact ⟨0, p, by omega, rfl, hb, rfl⟩
    · rw [if_neg hb, if_neg hb]
      obtain ⟨h1, h2⟩ := mfind_put x y r (i + 1)
      refine ⟨fun h => by rw [h1 h]; rfl, fun j z h => ?_⟩
      obtain ⟨n, q, e1, e2, e3, e4⟩ := h2 j z h
      exact ⟨n + 1, q, by omega, by simpa using e2, e3, by rw [e4]; rfl⟩

theorem EntriesAt.append {k v : Kind} {x : k.T} {y : v.T} {m : MapEntry} (hk : VK w I k x m.key) (hv : VK w I v y m.val) : ∀ {es : List (k.T × v.T)} {ms : List MapEntry}, EntriesAt w I k v es ms →
    EntriesAt w I k v (es ++ [(x, y)]) (ms ++ [m])
  | [], ms, h => by rw [show ms = [] from h]; exact ⟨m, [], rfl, hk, hv, rfl⟩
  | p :: es, ms, ⟨n, s, e, h1, h2, h3⟩ => by subst e; exact ⟨n, s ++ [m], rfl, h1, h2, EntriesAt.append hk hv h3⟩

theorem EntriesAt.set {k v : Kind} {x : k.T} {y : v.T} {m : MapEntry} (hk : VK w I k x m.key) (hv : VK w I v y m.val) : ∀ {es : List (k.T × v.T)} {ms : List MapEntry} (n : Nat), EntriesAt w I k v es ms →
    EntriesAt w I k v (es.set n (x, y)) (ms.set n m)
  | [], ms, n, h => by rw [show ms = [] from h]; exact rfl
  | p :: es, ms, 0, ⟨n, s, e, h1, h2, h3⟩ => by subst e; exact ⟨m, s, rfl, hk, hv, h3⟩
  | p :: es, ms, n + 1, ⟨q, s, e, h1, h2, h3⟩ => by subst e; exact ⟨q, s.set n m, rfl, h1, h2, EntriesAt.set hk hv n h3⟩

theorem EntriesAt.get {k v : Kind} : ∀ {es : List (k.T × v.T)} {ms : List MapEntry} {n : Nat} {q : k.T × v.T}, EntriesAt w I k v es ms → es[n]? = some q →
    ∃ m, ms[n]? = some m ∧ VK w I k q.1 m.key ∧ VK w I v q.2 m.val
  | [], ms, n, q, h, hq => by simp at hq
  | p :: es, ms, 0, q, ⟨m, s, e, h1, h2, h3⟩, hq => by subst e; simp at hq; subst hq; exact ⟨m, rfl, h1, h2⟩
  | p :: es, ms, n + 1, q, ⟨m, s, e, h1, h2, h3⟩, hq => by subst e; simpa using EntriesAt.get (n := n) h3 (by simpa using hq)

theorem EntriesAt.length {k v : Kind} : ∀ {es : List (k.T × v.T)} {ms : List MapEntry}, EntriesAt w I k v es ms → ms.length = es.length
  | [], ms, h => by rw [show ms = [] from h]; rfl
  | p :: es, ms, ⟨m, s, e, h1, h2, h3⟩ => by subst e; simp [EntriesAt.length h3]
end keys
end Go.AM
