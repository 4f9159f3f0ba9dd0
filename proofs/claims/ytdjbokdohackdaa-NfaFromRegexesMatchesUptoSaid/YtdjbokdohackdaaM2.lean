import Derived.Test.YtdjbokdohackdaaM1
import Derived.Laws.Slices
import Derived.Lib.ConvBytes
import Derived.Laws.BytesArg
/- Maps. -/
namespace Go.AM
open Go

section keys
variable {P : Program} {w : World} {I : Nat → Prop}

mutual
theorem eqGuard_off : ∀ {k : Kind} {t : TypeId}, kOk P k t = true → k.eqOk = true → ∀ d, k.deep ≤ d → P.eqGuardType d t = false
  | .bool, t, h, he, d, hd => by
    obtain ⟨d, rfl⟩ : ∃ e, d = e + 1 := ⟨d - 1, by simp [Kind.deep] at hd; omega⟩
    simp [Program.eqGuardType, kOk_bool h]
  | .int k, t, h, he, d, hd => by
    obtain ⟨d, rfl⟩ : ∃ e, d = e + 1 := ⟨d - 1, by simp [Kind.deep] at hd; omega⟩
    simp [Program.eqGuardType, kOk_int h]
  | .str, t, h, he, d, hd => by
    obtain ⟨d, rfl⟩ : ∃ e, d = e + 1 := ⟨d - 1, by simp [Kind.deep] at hd; omega⟩
    simp [Program.eqGuardType, kOk_str h]
  | .dyn _, t, h, he, _, _ => by simp [Kind.eqOk] at he
  | .slice _, t, h, he, _, _ => by simp [Kind.eqOk] at he
  | .rx, t, h, he, _, _ => by simp [Kind.eqOk] at he
  | .unit, t, h, he, d, hd => by
    obtain ⟨d, rfl⟩ : ∃ e, d = e + 1 := ⟨d - 1, by simp [Kind.deep] at hd; omega⟩
    unfold kOk at h
    simp only [Bool.and_eq_true, Bool.not_eq_true'] at h
    split at h
    · rename_i fs hut
      have hnil : fs.toList = [] := by simpa using h.2
      simp only [Program.eqGuardType, hut]
      rw [← Array.any_toList, hnil]
      rfl
    · simp at h
  | .pair a b, t, h, he, d, hd => by
    obtain ⟨d, rfl⟩ : ∃ e, d = e + 1 := ⟨d - 1, by simp [Kind.deep] at hd; omega⟩
    unfold kOk at h
    simp only [Bool.and_eq_true] at h
    split at h
    · rename_i fs hut
      simp only [Program.eqGuardType, hut]
      rw [← Array.any_toList]
      split at h
      · rename_i f r hlst
        simp only [Bool.and_eq_true, beq_iff_eq, bne_iff_ne, ne_eq] at h
        obtain ⟨_, ⟨⟨ho, hn⟩, hf⟩, hr⟩ := h
        rw [hlst]
        simp only [Kind.eqOk, Bool.and_eq_true] at he
        simp only [Kind.deep] at hd
        rw [List.any_cons, eqGuard_off hf he.1 d (by omega), eqGuards_off hr he.2 d (by omega)]
        simp
      · simp at h
    · simp at h
  | .arr n e, t, h, he, d, hd => by
    obtain ⟨d, rfl⟩ : ∃ e, d = e + 1 := ⟨d - 1, by simp [Kind.deep] at hd; omega⟩
    obtain ⟨E, hut, hE⟩ := kOk_arr h
    simp only [Kind.eqOk] at he
    simp only [Kind.deep] at hd
    simp only [Program.eqGuardType, hut]
    exact eqGuard_off hE he d (by omega)
theorem eqGuards_off : ∀ {k : Kind} {fs : List Field} {off : Nat}, fieldsOk P k fs off = true → k.eqOk = true → ∀ d, k.deep ≤ d + 1 → (fs.any fun f => f.name != "_" && P.eqGuardType d f.type) = false
  | .unit, fs, off, h, he, d, hd => by
    cases fs with
    | nil => rfl
    | cons _ _ => simp [fieldsOk] at h
  | .pair a b, fs, off, h, he, d, hd => by
    cases fs with
    | nil => simp [fieldsOk] at h
    | cons f r =>
      simp only [fieldsOk, Bool.and_eq_true, beq_iff_eq, bne_iff_ne, ne_eq] at h
      obtain ⟨⟨⟨ho, hn⟩, hf⟩, hr⟩ := h
      simp only [Kind.eqOk, Bool.and_eq_true] at he
      simp only [Kind.deep] at hd
      rw [List.any_cons, eqGuard_off hf he.1 d (by omega), eqGuards_off hr he.2 d (by omega)]
      simp
  | .bool, fs, off, h, _, _, _ => by simp [fieldsOk] at h
  | .int _, fs, off, h, _, _, _ => by simp [fieldsOk] at h
  | .str, fs, off, h, _, _, _ => by simp [fieldsOk] at h
  | .dyn _, fs, off, h, _, _, _ => by simp [fieldsOk] at h
  | .slice _, fs, off, h, _, _, _ => by simp [fieldsOk] at h
  | .arr _ _, fs, off, h, _, _, _ => by simp [fieldsOk] at h
  | .rx, fs, off, h, _, _, _ => by simp [fieldsOk] at h
end

mutual
theorem checkKey_rel (em : Bool) : ∀ {k : Kind} {t : TypeId}, kOk P k t = true → k.keyOk = true → ∀ d, k.deep ≤ d → ∀ {x : k.T} {v : Value}, VK w I k x v → (Instr.checkKey em d t v).run P w = .ok () w
  | .bool, t, h, he, d, hd, x, v, hv => by
    obtain ⟨d, rfl⟩ : ∃ e, d = e + 1 := ⟨d - 1, by simp [Kind.deep] at hd; omega⟩
    simp [Instr.checkKey, run_underlying (kOk_bool h)]
  | .int k, t, h, he, d, hd, x, v, hv => by
    obtain ⟨d, rfl⟩ : ∃ e, d = e + 1 := ⟨d - 1, by simp [Kind.deep] at hd; omega⟩
    simp [Instr.checkKey, run_underlying (kOk_int h)]
  | .str, t, h, he, d, hd, x, v, hv => by
    obtain ⟨d, rfl⟩ : ∃ e, d = e + 1 := ⟨d - 1, by simp [Kind.deep] at hd; omega⟩
    simp [Instr.checkKey, run_underlying (kOk_str h)]
  | .dyn _, t, h, he, _, _, _, _, _ => by simp [Kind.keyOk] at he
  | .slice _, t, h, he, _, _, _, _, _ => by simp [Kind.keyOk] at he
  | .rx, t, h, he, _, _, _, _, _ => by simp [Kind.keyOk] at he
  | .unit, t, h, he, d, hd, x, v, hv => by
    obtain ⟨d, rfl⟩ : ∃ e, d = e + 1 := ⟨d - 1, by simp [Kind.deep] at hd; omega⟩
    unfold kOk at h
    simp only [Bool.and_eq_true, Bool.not_eq_true'] at h
    split at h
    · rename_i fs hut
      have hnil : fs.toList = [] := by simpa using h.2
      obtain ⟨l, rfl, hl⟩ := hv.agg rfl
      simp only [Instr.checkKey, Sem.run_bind, run_underlying hut, Result.andThen_ok]
      rw [← Array.forIn_toList, hnil]
      rfl
    · simp at h
  | .pair a b, t, h, he, d, hd, x, v, hv => by
    obtain ⟨d, rfl⟩ : ∃ e, d = e + 1 := ⟨d - 1, by simp [Kind.deep] at hd; omega⟩
    unfold kOk at h
    simp only [Bool.and_eq_true] at h
    split at h
    · rename_i fs hut
      obtain ⟨l, rfl, hl⟩ := hv.agg rfl
      simp only [Instr.checkKey, Sem.run_bind, run_underlying hut, Result.andThen_ok]
      rw [← Array.forIn_toList]
      split at h
      · rename_i f r hlst
        simp only [Bool.and_eq_true, beq_iff_eq, bne_iff_ne, ne_eq] at h
        obtain ⟨_, ⟨⟨ho, hn⟩, hf⟩, hr⟩ := h
        rw [hlst]
        simp only [Kind.keyOk, Bool.and_eq_true] at he
        simp only [Kind.deep] at hd
        obtain ⟨l1, l2, rfl, h1, h2⟩ := hl
        obtain ⟨T⟩ := kOk_ty hf
        obtain ⟨p, hp, hpv⟩ := run_part T (cs := (l1 ++ l2).toArray) (pre := []) (post := l2) (off := f.offset) (by simp) (by simp [ho]) h1
        have e1 := checkKey_rel em hf he.1 d (by omega) hpv
        have e2 := checkKeys_rel em (k := b) hr he.2 d (by omega) (pre := l1) (l := l2) (x := x.2) (RelK.length a h1) h2
        simp only [List.forIn_cons, Sem.run_bind, hn, ne_eq, not_false_eq_true, if_true, Result.andThen_ok, hp, e1, Sem.run_pure]
        simp only [ne_eq] at e2
        rw [e2]
        rfl
      · simp at h
    · simp at h
  | .arr _ _, t, h, he, _, _, _, _, _ => by simp [Kind.keyOk] at he
theorem checkKeys_rel (em : Bool) : ∀ {k : Kind} {fs : List Field} {off : Nat}, fieldsOk P k fs off = true → k.keyOk = true → ∀ d, k.deep ≤ d + 1 → ∀ {x : k.T} {pre l : List Value}, pre.length = off →
    RelK w I k x l → (forIn fs PUnit.unit fun f _ => (if f.name ≠ "_" then do
      let p ← part f.type (pre ++ l).toArray f.offset
      Instr.checkKey em d f.type p
      pure (ForInStep.yield PUnit.unit) else pure (ForInStep.yield PUnit.unit) : Sem (ForInStep PUnit))).run P w = .ok PUnit.unit w
  | .unit, fs, off, h, he, d, hd, x, pre, l, hp, hl => by
    cases fs with
    | nil => rfl
    | cons _ _ => simp [fieldsOk] at h
  | .pair a b, fs, off, h, he, d, hd, x, pre, l, hp, hl => by
    cases fs with
    | nil => simp [fieldsOk] at h
    | cons f r =>
      simp only [fieldsOk, Bool.and_eq_true, beq_iff_eq, bne_iff_ne, ne_eq] at h
      obtain ⟨⟨⟨ho, hn⟩, hf⟩, hr⟩ := h
      simp only [Kind.keyOk, Bool.and_eq_true] at he
      simp only [Kind.deep] at hd
      obtain ⟨l1, l2, rfl, h1, h2⟩ := hl
      obtain ⟨T⟩ := kOk_ty hf
      obtain ⟨p, hpp, hpv⟩ := run_part T (cs := (pre ++ (l1 ++ l2)).toArray) (pre := pre) (post := l2) (off := f.offset) (by simp) (by rw [ho]; exact hp) h1
      have e1 := checkKey_rel em hf he.1 d (by omega) hpv
      have e2 := checkKeys_rel em (k := b) hr he.2 d (by omega) (pre := pre ++ l1) (l := l2) (x := x.2) (by rw [List.length_append, hp, RelK.length a h1]) h2
      simp only [List.forIn_cons, Sem.run_bind, hn, ne_eq, not_false_eq_true, if_true, Result.andThen_ok, hpp, e1, Sem.run_pure]
      simpa using e2
  | .bool, fs, off, h, _, _, _, _, _, _, _, _ => by simp [fieldsOk] at h
  | .int _, fs, off, h, _, _, _, _, _, _, _, _ => by simp [fieldsOk] at h
  | .str, fs, off, h, _, _, _, _, _, _, _, _ => by simp [fieldsOk] at h
  | .dyn _, fs, off, h, _, _, _, _, _, _, _, _ => by simp [fieldsOk] at h
  | .slice _, fs, off, h, _, _, _, _, _, _, _, _ => by simp [fieldsOk] at h
  | .arr _ _, fs, off, h, _, _, _, _, _, _, _, _ => by simp [fieldsOk] at h
  | .rx, fs, off, h, _, _, _, _, _, _, _, _ => by simp [fieldsOk] at h
end
theorem keyOk_eqOk : ∀ {k : Kind}, k.keyOk = true → k.eqOk = true
  | .bool, _ => rfl
  | .int _, _ => rfl
  | .str, _ => rfl
  | .unit, _ => rfl
  | .pair a b, h => by
    simp only [Kind.keyOk, Bool.and_eq_true] at h
    simp only [Kind.eqOk, Bool.and_eq_true]
    exact ⟨keyOk_eqOk h.1, keyOk_eqOk h.2⟩
  | .dyn _, h => by simp [Kind.keyOk] at h
  | .slice _, h => by simp [Kind.keyOk] at h
  | .arr _ _, h => by simp [Kind.keyOk] at h
  | .rx, h => by simp [Kind.keyOk] at h

theorem eqB_true : ∀ {k : Kind}, k.keyOk = true → ∀ {x y : k.T}, k.eqB x y = true → x = y
  | .bool, _, x, y, h => by simpa [Kind.eqB] using h
  | .int _, _, x, y, h => by simpa [Kind.eqB] using h
  | .str, _, x, y, h => by simpa [Kind.eqB] using h
  | .unit, _, x, y, h => rfl
  | .pair a b, hk, x, y, h => by
    simp only [Kind.keyOk, Bool.and_eq_true] at hk
    rw [show Kind.eqB (.pair a b) x y = (a.eqB x.1 y.1 && b.eqB x.2 y.2) from rfl] at h
    simp only [Bool.and_eq_true] at h
    exact Prod.ext (eqB_true hk.1 h.1) (eqB_true hk.2 h.2)
  | .dyn _, h, _, _, _ => by simp [Kind.keyOk] at h
  | .slice _, h, _, _, _ => by simp [Kind.keyOk] at h
  | .arr _ _, h, _, _, _ => by simp [Kind.keyOk] at h
  | .rx, h, _, _, _ => by simp [Kind.keyOk] at h

/-- a key's cells: plain values, the same for the same key -/
def plainCell (v : Value) : Prop := (∃ b, v = .bool b) ∨ (∃ k n, v = .int k n) ∨ ∃ s, v = .string s

theorem key_cells : ∀ {k : Kind}, k.keyOk = true → ∀ {x : k.T} {vs us : List Value}, RelK w I k x vs → RelK w I k x us → vs = us ∧ ∀ v ∈ vs, plainCell v
  | .bool, _, x, vs, us, h, h' => by
    rw [show vs = _ from h, show us = _ from h']
    exact ⟨rfl, fun v hv => by simp at hv; exact .inl ⟨_, hv⟩⟩
  | .int _, _, x, vs, us, h, h' => by
    rw [show vs = _ from h, show us = _ from h']
    exact ⟨rfl, fun v hv => by simp at hv; exact .inr (.inl ⟨_, _, hv⟩)⟩
  | .str, _, x, vs, us, h, h' => by
    rw [show vs = _ from h, show us = _ from h']
    exact ⟨rfl, fun v hv => by simp at hv; exact .inr (.inr ⟨_, hv⟩)⟩
  | .unit, _, x, vs, us, h, h' => by
    rw [show vs = _ from h, show us = _ from h']
    exact ⟨rfl, fun v hv => by cases hv⟩
  | .pair a b, hk, x, vs, us, ⟨l, r, e, h1, h2⟩, ⟨l', r', e', h1', h2'⟩ => by
    simp only [Kind.keyOk, Bool.and_eq_true] at hk
    obtain ⟨e1, p1⟩ := key_cells hk.1 h1 h1'
    obtain ⟨e2, p2⟩ := key_cells hk.2 h2 h2'
    subst e e' e1 e2
    exact ⟨rfl, fun v hv => (List.mem_append.1 hv).elim (p1 v) (p2 v)⟩
  | .dyn _, h, _, _, _, _, _ => by simp [Kind.keyOk] at h
  | .slice _, h, _, _, _, _, _ => by simp [Kind.keyOk] at h
  | .arr _ _, h, _, _, _, _, _ => by simp [Kind.keyOk] at h
  | .rx, h, _, _, _, _, _ => by simp [Kind.keyOk] at h

theorem key_inj : ∀ {k : Kind}, k.keyOk = true → ∀ {x y : k.T} {vs : List Value}, RelK w I k x vs → RelK w I k y vs → k.eqB x y = true
  | .bool, _, x, y, vs, h, h' => by
    have e := (show vs = _ from h).symm.trans (show vs = _ from h')
    simp only [List.cons.injEq, Value.bool.injEq, and_true] at e
    subst e
    simp [Kind.eqB]
  | .int _, _, x, y, vs, h, h' => by
    have e := (show vs = _ from h).symm.trans (show vs = _ from h')
    simp only [List.cons.injEq, Value.int.injEq, and_true, true_and] at e
    subst e
    simp [Kind.eqB]
  | .str, _, x, y, vs, h, h' => by
    have e := (show vs = _ from h).symm.trans (show vs = _ from h')
    simp only [List.cons.injEq, and_true] at e
    have e2 : (x : List UInt8) = y := by
      unfold strOf at e
      injection e with e
      injection e with e
      exact congrArg Array.toList e
    subst e2
    simp [Kind.eqB]
  | .unit, _, _, _, _, _, _ => rfl
  | .pair a b, hk, x, y, vs, ⟨l, r, e, h1, h2⟩, ⟨l', r', e', h1', h2'⟩ => by
    simp only [Kind.keyOk, Bool.and_eq_true] at hk
    have hl : l.length = l'.length := by rw [RelK.length a h1, RelK.length a h1']
    obtain ⟨rfl, rfl⟩ := List.append_inj (e.symm.trans e') hl
    show (a.eqB x.1 y.1 && b.eqB x.2 y.2) = true
    rw [key_inj hk.1 h1 h1', key_inj hk.2 h2 h2']
    rfl
  | .dyn _, h, _, _, _, _, _ => by simp [Kind.keyOk] at h
  | .slice _, h, _, _, _, _, _ => by simp [Kind.keyOk] at h
  | .arr _ _, h, _, _, _, _, _ => by simp [Kind.keyOk] at h
  | .rx, h, _, _, _, _, _ => by simp [Kind.keyOk] at h
  | .fnk, h, _, _, _, _, _ => by simp [Kind.keyOk] at h

theorem key_injV {k : Kind} (hk : k.keyOk = true) {x y : k.T} {v : Value} (hx : VK w I k x v) (hy : VK w I k y v) : k.eqB x y = true := by
  cases ha : k.isAgg with
  | true =>
    obtain ⟨vs, rfl, h1⟩ := hx.agg ha
    obtain ⟨us, e, h2⟩ := hy.agg ha
    injection e with e
    have e2 : vs = us := congrArg Array.toList e
    subst e2
    exact key_inj hk h1 h2
  | false => exact key_inj hk (hx.leaf ha) (hy.leaf ha)

theorem EntriesAt.mem {k v : Kind} : ∀ {es : List (k.T × v.T)} {ms : List MapEntry} {m : MapEntry}, EntriesAt w I k v es ms → m ∈ ms → ∃ p ∈ es, VK w I k p.1 m.key
  | [], ms, m, h, hm => by rw [show ms = [] from h] at hm; cases hm
  | p :: es, ms, m, ⟨q, s, e, h1, h2, h3⟩, hm => by
    subst e
    rcases List.mem_cons.1 hm with rfl | hm
    · exact ⟨p, List.mem_cons_self .., h1⟩
    · obtain ⟨p', h4, h5⟩ := EntriesAt.mem h3 hm
      exact ⟨p', List.mem_cons_of_mem _ h4, h5⟩

theorem sameBits_cell {v : Value} (h : plainCell v) (n : Nat) : Instr.sameBits n v v = true := by
  rcases h with ⟨b, rfl⟩ | ⟨k, m, rfl⟩ | ⟨s, rfl⟩
  · cases n <;> simp [Instr.sameBits]
  · cases n <;> simp [Instr.sameBits]
  · cases n <;> simp only [Instr.sameBits]
    · show ((s.data : Array UInt8) == s.data) = true; simp
    · show ((s.data : Array UInt8) == s.data) = true; simp

theorem key_same {k : Kind} (hk : k.keyOk = true) {x : k.T} {v u : Value} (hv : VK w I k x v) (hu : VK w I k x u) : v = u ∧ Instr.sameBits 10000 u u = true := by
  cases ha : k.isAgg with
  | true =>
    obtain ⟨vs, rfl, h1⟩ := hv.agg ha
    obtain ⟨us, rfl, h2⟩ := hu.agg ha
    obtain ⟨rfl, hp⟩ := key_cells hk h1 h2
    refine ⟨rfl, ?_⟩
    simp only [Instr.sameBits]
    simp only [Bool.and_eq_true, beq_self_eq_true, true_and, List.all_eq_true]
    intro q hq
    have hz : ∀ (l : List Value) (q : Value × Value), q ∈ l.zip l → q.1 = q.2 ∧ q.1 ∈ l := by
      intro l
      induction l with
      | nil => intro q hq; simp at hq
      | cons c l ih =>
        intro q hq
        simp only [List.zip_cons_cons, List.mem_cons] at hq
        rcases hq with rfl | hq
        · exact ⟨rfl, List.mem_cons_self ..⟩
        · exact ⟨(ih q hq).1, List.mem_cons_of_mem _ (ih q hq).2⟩
    obtain ⟨e1, e2⟩ := hz _ q hq
    rw [← e1]
    exact sameBits_cell (hp _ (by simpa using e2)) _
  | false =>
    have h1 := hv.leaf ha
    have h2 := hu.leaf ha
    obtain ⟨e, hp⟩ := key_cells hk h1 h2
    obtain rfl : v = u := by simpa using e
    exact ⟨rfl, sameBits_cell (hp v (by simp)) _⟩

/-- where the key stands -/
def mfind (k : Kind) {v : Type} (x : k.T) : List (k.T × v) → Nat → Option (Nat × v)
  | [], _ => none
  | p :: r, i => if k.eqB x p.1 = true then some (i, p.2) else mfind k x r (i + 1)

theorem findAsking_rel {k vk : Kind} {K : TypeId} (hK : kOk P k K = true) (he : k.keyOk = true) (hd : k.deep ≤ 50) {x : k.T} {v : Value} (hx : VK w I k x v) :
    ∀ {es : List (k.T × vk.T)} {ms : List MapEntry} {i : Nat}, EntriesAt w I k vk es ms →
      ∃ r, (Instr.findAsking K v ms i).run P w = .ok r w ∧
        (match mfind k x es i, r with | none, none => True | some (j, y), some (j', u) => j' = j ∧ VK w I vk y u | _, _ => False)
  | [], ms, i, h => by rw [show ms = [] from h]; exact ⟨none, rfl, trivial⟩
  | p :: es, ms, i, ⟨m, s, e, h1, h2, h3⟩ => by
    subst e
    have heq := equalIn_rel (P := P) hK (keyOk_eqOk he) Op.maxDepth (by unfold Op.maxDepth; omega) hx h1
    simp only [Instr.findAsking, Sem.run_bind, Op.equal, heq, Result.andThen_ok]
    unfold mfind
    cases k.eqB x p.1 with
    | true => exact ⟨some (i, m.val), by simp, by simp [h2]⟩
    | false =>
      obtain ⟨r, g1, g2⟩ := findAsking_rel hK he hd hx (i := i + 1) h3
      exact ⟨r, by simpa using g1, by simpa using g2⟩

theorem sameNow_rel {k : Kind} {K : TypeId} (hK : kOk P k K = true) (he : k.keyOk = true) {d : TypeDesc} (hd : P.underlying K = some d) {x y : k.T} {v u : Value} (hx : VK w I k x v) (hy : VK w I k y u) :
    Instr.sameNow d v u = none ∨ Instr.sameNow d v u = some (k.eqB x y) := by
  cases k with
  | bool =>
    rw [kOk_bool hK] at hd; cases hd
    have e1 : v = .bool x := by simpa [RelK] using hx.leaf rfl
    have e2 : u = .bool y := by simpa [RelK] using hy.leaf rfl
    subst e1 e2
    exact .inr rfl
  | int q =>
    rw [kOk_int hK] at hd; cases hd
    have e1 : v = .int q x := by simpa [RelK] using hx.leaf rfl
    have e2 : u = .int q y := by simpa [RelK] using hy.leaf rfl
    subst e1 e2
    right
    simp only [Instr.sameNow, if_true]
    rfl
  | str =>
    rw [kOk_str hK] at hd; cases hd
    have e1 : v = strOf x := by simpa [RelK] using hx.leaf rfl
    have e2 : u = strOf y := by simpa [RelK] using hy.leaf rfl
    subst e1 e2
    right
    show some (ByteArray.mk _ == ByteArray.mk _) = _
    rw [strOf_eq]
    rfl
  | unit =>
    obtain ⟨vs, rfl, _⟩ := hx.agg rfl
    left; unfold Instr.sameNow; split <;> first | rfl | simp_all
  | pair a b =>
    obtain ⟨vs, rfl, _⟩ := hx.agg rfl
    left; unfold Instr.sameNow; split <;> first | rfl | simp_all
  | dyn _ => simp [Kind.keyOk] at he
  | slice _ => simp [Kind.keyOk] at he
  | arr _ _ => simp [Kind.keyOk] at he
  | rx => simp [Kind.keyOk] at he
  | fnk => simp [Kind.keyOk] at he

theorem findNow_rel {k vk : Kind} {K : TypeId} (hK : kOk P k K = true) (he : k.keyOk = true) {d : TypeDesc} (hdd : P.underlying K = some d) {x : k.T} {v : Value} (hx : VK w I k x v) :
    ∀ {es : List (k.T × vk.T)} {ms : List MapEntry} {i : Nat}, EntriesAt w I k vk es ms → ∀ r, Instr.findNow d v ms i = some r →
        (match mfind k x es i, r with | none, none => True | some (j, y), some (j', u) => j' = j ∧ VK w I vk y u | _, _ => False)
  | [], ms, i, h, r, hr => by rw [show ms = [] from h] at hr; simp [Instr.findNow] at hr; subst hr; trivial
  | p :: es, ms, i, ⟨m, s, e, h1, h2, h3⟩, r, hr => by
    subst e
    unfold Instr.findNow at hr
    unfold mfind
    rcases sameNow_rel hK he hdd hx h1 with e | e
    · rw [e] at hr; cases hr
    · rw [e] at hr
      cases hb : k.eqB x p.1 with
      | true => rw [hb] at hr; simp at hr; subst hr; simp [h2]
      | false => rw [hb] at hr; simp at hr; simpa using findNow_rel hK he hdd hx h3 r hr

theorem findKey_rel {k vk : Kind} {K : TypeId} (hK : kOk P k K = true) (he : k.keyOk = true) (hd : k.deep ≤ 50) {x : k.T} {v : Value} (hx : VK w I k x v)
    {es : List (k.T × vk.T)} {ms : List MapEntry} (h : EntriesAt w I k vk es ms) :
    ∃ r, (Instr.findKey K v ms).run P w = .ok r w ∧ (match mfind k x es 0, r with | none, none => True | some (j, y), some (j', u) => j' = j ∧ VK w I vk y u | _, _ => False) := by
  obtain ⟨d, hdd⟩ : ∃ d, P.underlying K = some d := by
    cases hu : P.underlying K with
    | some d => exact ⟨d, rfl⟩
    | none => cases k <;> simp [kOk, hu] at hK
  unfold Instr.findKey
  simp only [Sem.run_bind, run_underlying hdd, Result.andThen_ok]
  cases hf : Instr.findNow d v ms 0 with
  | some r => exact ⟨r, rfl, findNow_rel hK he hdd hx h r hf⟩
  | none => exact findAsking_rel hK he hd hx h

theorem mfind_none {k : Kind} {v : Type} (x : k.T) : ∀ (es : List (k.T × v)) (i : Nat), mfind k x es i = none → ∀ p ∈ es, ¬ k.eqB x p.1 = true
  | [], _, _, p, hp => by cases hp
  | q :: r, i, h, p, hp => by
    unfold mfind at h
    split at h
    · cases h
    · rename_i hq
      rcases List.mem_cons.1 hp with rfl | hp
      · exact hq
      · exact mfind_none x r (i + 1) h p hp

theorem mfind_get {k : Kind} {v : Type} (x : k.T) : ∀ (es : List (k.T × v)) (i : Nat), mget k x es = (mfind k x es i).map (·.2)
  | [], _ => rfl
  | p :: r, i => by
    unfold mget mfind
    split
    · rfl
    · exact mfind_get x r (i + 1)

theorem mfind_put {k : Kind} {v : Type} (x : k.T) (y : v) : ∀ (es : List (k.T × v)) (i : Nat),
    (mfind k x es i = none → mput k x y es = es ++ [(x, y)]) ∧
    (∀ j z, mfind k x es i = some (j, z) → ∃ n q, j = i + n ∧ es[n]? = some q ∧ k.eqB x q.1 = true ∧ mput k x y es = es.set n (x, y))
  | [], _ => ⟨fun _ => rfl, fun j z h => by simp [mfind] at h⟩
  | p :: r, i => by
    unfold mfind mput
    by_cases hb : k.eqB x p.1 = true
    · rw [if_pos hb, if_pos hb]
      refine ⟨fun h => (by simp at h), fun j z h => ?_⟩
      simp only [Option.some.injEq, Prod.mk.injEq] at h
      exact ⟨0, p, by omega, rfl, hb, rfl⟩
    · rw [if_neg hb, if_neg hb]
      obtain ⟨h1, h2⟩ := mfind_put x y r (i + 1)
      refine ⟨fun h => by rw [h1 h]; rfl, fun j z h => ?_⟩
      obtain ⟨n, q, e1, e2, e3, e4⟩ := h2 j z h
      exact ⟨n + 1, q, by omega, by simpa using e2, e3, by rw [e4]; rfl⟩

theorem EntriesAt.append {k v : Kind} {x : k.T} {y : v.T} {m : MapEntry} (hk : VK w I k x m.key) (hv : VK w I v y m.val) : ∀ {es : List (k.T × v.T)} {ms : List MapEntry}, EntriesAt w I k v es ms →
    EntriesAt w I k v (es ++ [(x, y)]) (ms ++ [m])
  | [], ms, h => by rw [show ms = [] from h]; exact ⟨m, [], rfl, hk, hv, rfl⟩
  | p :: es, ms, ⟨n, s, e, h1, h2, h3⟩ => by subst e; exact ⟨n, s ++ [m], rfl, h1, h2, EntriesAt.append hk hv h3⟩

theorem EntriesAt.set {k v : Kind} {x : k.T} {y : v.T} {m : MapEntry} (hk : VK w I k x m.key) (hv : VK w I v y m.val) : ∀ {es : List (k.T × v.T)} {ms : List MapEntry} (n : Nat), EntriesAt w I k v es ms →
    EntriesAt w I k v (es.set n (x, y)) (ms.set n m)
  | [], ms, n, h => by rw [show ms = [] from h]; exact rfl
  | p :: es, ms, 0, ⟨n, s, e, h1, h2, h3⟩ => by subst e; exact ⟨m, s, rfl, hk, hv, h3⟩
  | p :: es, ms, n + 1, ⟨q, s, e, h1, h2, h3⟩ => by subst e; exact ⟨q, s.set n m, rfl, h1, h2, EntriesAt.set hk hv n h3⟩

theorem EntriesAt.get {k v : Kind} : ∀ {es : List (k.T × v.T)} {ms : List MapEntry} {n : Nat} {q : k.T × v.T}, EntriesAt w I k v es ms → es[n]? = some q →
    ∃ m, ms[n]? = some m ∧ VK w I k q.1 m.key ∧ VK w I v q.2 m.val
  | [], ms, n, q, h, hq => by simp at hq
  | p :: es, ms, 0, q, ⟨m, s, e, h1, h2, h3⟩, hq => by subst e; simp at hq; subst hq; exact ⟨m, rfl, h1, h2⟩
  | p :: es, ms, n + 1, q, ⟨m, s, e, h1, h2, h3⟩, hq => by subst e; simpa using EntriesAt.get (n := n) h3 (by simpa using hq)

theorem EntriesAt.length {k v : Kind} : ∀ {es : List (k.T × v.T)} {ms : List MapEntry}, EntriesAt w I k v es ms → ms.length = es.length
  | [], ms, h => by rw [show ms = [] from h]; rfl
  | p :: es, ms, ⟨m, s, e, h1, h2, h3⟩ => by subst e; simp [EntriesAt.length h3]
end keys
end Go.AM

/- Each operation, fourth part: maps, make, slicing, append, numbers, calls. -/
namespace Go.AM
open Go

theorem RelL.replicate {α : Type} {R : α → List Value → Prop} {d : α} {zs : List Value} (h : R d zs) : ∀ n, RelL R (List.replicate n d) (List.replicate n zs).flatten
  | 0 => rfl
  | n + 1 => by rw [List.replicate_succ, List.replicate_succ, List.flatten_cons]; exact ⟨zs, _, rfl, h, RelL.replicate h n⟩

/-- an abstract call's answer is the function's: it returns, leaves all that was there, and its value holds no reference -/
def SoundCall (P : Program) (call : Call) : Prop :=
  ∀ (f : Nat) (args : List AV) (r : AV), call.av f args = some r →
    ∀ (w : World) (I : Nat → Prop) (vs : List Value), (∀ b, I b → b < w.heap.size) → VRelL ⟨w, I, fun _ => .nilIface, fun _ => .free, fun b => b < w.heap.size⟩ args vs →
      Calls P f vs.toArray w fun e w' => ∃ v, e = .returned v ∧ r.closed = true ∧ w.heap.size ≤ w'.heap.size ∧ (∀ b, b < w.heap.size → w'.heap[b]? = w.heap[b]?) ∧ SameOut w w' ∧
        VRel ⟨w', fun b => I b ∨ (w.heap.size ≤ b ∧ b < w'.heap.size), fun _ => .nilIface, fun _ => .free, fun b => b < w.heap.size⟩ r v

mutual
theorem VRel.closed {S T : Sit} (hI : ∀ b, S.I b → T.I b ∧ T.w.heap[b]? = S.w.heap[b]?) : ∀ (c : AV) {v : Value}, c.closed = true → VRel S c v → VRel T c v
  | .undef, v, _, h => by unfold VRel; trivial
  | .bool _, v, _, h => by unfold VRel at h ⊢; exact h
  | .int _ _, v, _, h => by unfold VRel at h ⊢; exact h
  | .str _, v, _, h => by unfold VRel at h ⊢; exact h
  | .sl e xs, v, _, h => by unfold VRel at h ⊢; exact RelK.later hI _ h
  | .nilsl, v, _, h => by unfold VRel at h ⊢; exact h
  | .nilp, v, _, h => by unfold VRel at h ⊢; exact h
  | .nilfn, v, _, h => by unfold VRel at h ⊢; exact h
  | .nilmap, v, _, h => by unfold VRel at h ⊢; exact h
  | .nilif, v, _, h => by unfold VRel at h ⊢; exact h
  | .ref _, _, hc, _ => by simp [AV.closed] at hc
  | .pref _ _, _, hc, _ => by simp [AV.closed] at hc
  | .ptr _ _, _, hc, _ => by simp [AV.closed] at hc
  | .eptr _ _ _, _, hc, _ => by simp [AV.closed] at hc
  | .aptr _ _ _ _, _, hc, _ => by simp [AV.closed] at hc
  | .mapr _, _, hc, _ => by simp [AV.closed] at hc
  | .mref _ _, _, hc, _ => by simp [AV.closed] at hc
  | .keys _ _ _, _, hc, _ => by simp [AV.closed] at hc
  | .iptr _, _, hc, _ => by simp [AV.closed] at hc
  | .fn f cap, v, hc, h => by
    unfold AV.closed at hc
    unfold VRel at h ⊢
    obtain ⟨vs, h1, h2⟩ := h
    exact ⟨vs, h1, VRelL.closed hI cap hc h2⟩
  | .agg cs, v, hc, h => by
    unfold AV.closed at hc
    unfold VRel at h ⊢
    obtain ⟨vs, h1, h2, h3⟩ := h
    exact ⟨vs, h1, VRelL.closed hI cs hc h2, h3⟩
  | .tup cs, v, hc, h => by
    unfold AV.closed at hc
    unfold VRel at h ⊢
    obtain ⟨vs, h1, h2⟩ := h
    exact ⟨vs, h1, VRelL.closed hI cs hc h2⟩
theorem VRelL.closed {S T : Sit} (hI : ∀ b, S.I b → T.I b ∧ T.w.heap[b]? = S.w.heap[b]?) : ∀ (cs : List AV) {vs : List Value}, AV.closedL cs = true → VRelL S cs vs → VRelL T cs vs
  | [], vs, _, h => by rw [h.nil_inv]; exact .nil
  | c :: cs, vs, hc, h => by
    have hc : (c.closed && AV.closedL cs) = true := hc
    rw [Bool.and_eq_true] at hc
    obtain ⟨v, s, rfl, h1, h2⟩ := h.cons_inv
    exact .cons (VRel.closed hI c hc.1 h1) (VRelL.closed hI cs hc.2 h2)
end

theorem VK.later {w w' : World} {I I' : Nat → Prop} (hI : ∀ b, I b → I' b ∧ w'.heap[b]? = w.heap[b]?) {k : Kind} {x : k.T} {v : Value} (h : VK w I k x v) : VK w' I' k x v := by
  unfold VK at h ⊢
  split
  · rename_i hk; rw [if_pos hk] at h; obtain ⟨vs, a1, a2⟩ := h; exact ⟨vs, a1, RelK.later hI k a2⟩
  · rename_i hk; rw [if_neg hk] at h; exact RelK.later hI k h

theorem EntriesAt.later {w w' : World} {I I' : Nat → Prop} (hI : ∀ b, I b → I' b ∧ w'.heap[b]? = w.heap[b]?) {k v : Kind} : ∀ {es : List (k.T × v.T)} {ms : List MapEntry}, EntriesAt w I k v es ms → EntriesAt w' I' k v es ms
  | [], _, h => h
  | _ :: _, _, ⟨m, s, e, h1, h2, h3⟩ => ⟨m, s, e, h1.later hI, h2.later hI, EntriesAt.later hI h3⟩

theorem one_rel {S : Sit} {k : Kind} {c : AV} {x : k.T} {v : Value} (h : VRel S c v) (he : one k c = some x) : VK S.w S.I k x v := by
  unfold one at he
  by_cases ha : k.isAgg = c.isAgg
  · rw [if_pos ha] at he
    simp only [Option.bind_eq_some_iff] at he
    obtain ⟨cs, hcs, he⟩ := he
    unfold VK
    cases hca : c.isAgg with
    | true =>
      rw [if_pos (ha.trans hca)]
      cases c <;> simp [AV.isAgg] at hca
      simp only [AV.leaves, Option.some.injEq] at hcs
      subst hcs
      unfold VRel at h
      obtain ⟨vs, rfl, h1, h2⟩ := h
      exact ⟨vs, rfl, oneL_rel h1 he⟩
    | false =>
      have hka := ha.trans hca
      rw [if_neg (by simp [hka])]
      obtain ⟨h1, h2⟩ := leaves_rel h hcs
      have hr := oneL_rel h1 he
      have : v.cells = #[v] := by
        cases v <;> try rfl
        rename_i vs
        exfalso
        cases c <;> simp only [AV.leaves, AV.isAgg, Option.some.injEq, reduceCtorEq, Bool.true_eq_false] at hcs hca
        all_goals
          unfold VRel at h
          first
            | (cases h; done)
            | (obtain ⟨a, len, cap, q, _⟩ := h; simp at q; done)
            | (obtain ⟨q, _⟩ := h; simp [Value.oneCell'] at q; done)
            | (obtain ⟨b, o, us, q, _⟩ := h; cases q; done)
            | (obtain ⟨us, q, _⟩ := h; cases q; done)
            | (simp [strOf] at h; done)
      rw [this] at hr
      simpa using hr
  · rw [if_neg ha] at he
    cases he

theorem ofK_rel {S : Sit} {k : Kind} {x : k.T} {v : Value} (h : VK S.w S.I k x v) : VRel S (ofK k x) v := by
  unfold ofK
  cases ha : k.isAgg with
  | true =>
    obtain ⟨vs, rfl, h1⟩ := h.agg ha
    rw [if_pos rfl]
    unfold VRel
    exact ⟨vs, rfl, flat_rel k h1, RelK.ones k h1⟩
  | false =>
    have h1 := flat_rel k (h.leaf ha)
    simp only [Bool.false_eq_true, if_false]
    split
    · rename_i c hc
      rw [hc] at h1
      obtain ⟨u, s, e, h2, h3⟩ := h1.cons_inv
      simp at e
      rw [e.1]
      exact h2
    · exact .undef_mk

theorem ofK_names {p : Nat → Prop} (k : Kind) (x : k.T) : (ofK k x).names p := by
  unfold ofK
  split
  · unfold AV.names; exact flat_names k x
  · split
    · rename_i c hc
      have := flat_names (p := p) k x
      rw [hc] at this
      unfold AV.namesL at this
      exact this.1
    · unfold AV.names; trivial

section ops
variable {P : Program} {Γ : TEnv} {call : Call} {S : Sit} {fr : Nat → AV} {a : Act} {R : Type} {K : AV → Hp → Option R} {r : R}
  {next : Act → World → Prop} {Q : Exit → Act → World → Prop} {nm : Nat}

theorem sound_makeMap {o : Oper} {t : Nat} {rv : Option Operand} (ho : o.op = .makeMap t rv) (H : HRel S)
    (h : (aop Γ nm (ev fr) (.makeMap t rv)).run call K S.hp = some r) (hP : Post S K r fun v w => next (a.put o.dst v) w) : o.wp P a S.w next Q := by
  cases rv with
  | some _ => cases h
  | none =>
    simp only [aop] at h
    obtain ⟨kv, hk, h⟩ := run_opt_inv h
    obtain ⟨hf, h⟩ := run_new_inv h
    obtain ⟨H', E'⟩ := H.alloc hf (.map kv.1 kv.2 []) (.map (some S.w.heap.size)) (S.w.alloc (.map #[] 0)) _ rfl rfl (fun cs hcs => by cases hcs)
      (fun E => ⟨S.w.heap.size, #[], 0, by simp [upd_same], heap_alloc_new _ _, fun hI => Nat.lt_irrefl _ (H.il _ hI), H.newB, rfl, MapKept.stamped_empty 0⟩)
    refine wp_value (v := .map (some S.w.heap.size)) (w' := S.w.alloc (.map #[] 0)) ?_ (hP (.mapr nm) _ _ h H' E' ?_ ?_)
    · simp [execOp, ho, Instr.makeMap]
    · unfold VRel
      refine ⟨rfl, ?_⟩
      simp only [upd_same]
    · unfold AV.names; simp [upd_same]

theorem sound_makeSlice (hΓ : Γ.ok P = true) {o : Oper} {t : Nat} {l c : Operand} (ho : o.op = .makeSlice t l c) (H : HRel S) (F : FRel S fr a)
    (h : (aop Γ nm (ev fr) (.makeSlice t l c)).run call K S.hp = some r) (hP : Post S K r fun v w => next (a.put o.dst v) w) : o.wp P a S.w next Q := by
  simp only [aop] at h
  obtain ⟨k, hk, h⟩ := run_opt_inv h
  have hok := TEnv.kind_ok hΓ hk
  have hl := ev_rel F l
  have hc := ev_rel F c
  split at h
  · rename_i el z z' hz hz'
    obtain ⟨hcond, h⟩ := run_brf_inv h
    obtain ⟨hf, hfin⟩ := run_new_inv h
    clear h
    simp only [decide_eq_true_eq] at hcond
    obtain ⟨rfl, h0, hlim⟩ := hcond
    obtain ⟨E, hu, hE⟩ := kOk_slice hok
    obtain ⟨TE⟩ := kOk_ty hE
    rw [hz] at hl
    rw [hz'] at hc
    have hl := hl.int_inv
    have hc := hc.int_inv
    unfold lim at hlim
    have hb := TE.bytes
    have hbytes : (TE.i.bytes : Int) * z ≤ 281474976710656 := by
      have h1 : (TE.i.bytes : Int) * z ≤ 128 * z := Int.mul_le_mul_of_nonneg_right (by omega) h0
      omega
    have hr := run_make (P := P) S.w t E TE.i TE.z hu TE.hi TE.hz .i64 .i64 z z h0 (Int.le_refl _) hbytes (by omega)
    have hzl : TE.z.cells.size = el.size := by
      have := RelK.length el (zero_rel (w := S.w) (I := S.I) el TE.zero)
      simpa using this
    have hmade := madeCells_list TE.z.cells z.toNat
    rw [hzl] at hmade
    have hrel := RelL.replicate (zero_rel (w := S.w) (I := S.I) el TE.zero) z.toNat
    rw [← hmade] at hrel
    obtain ⟨H', E', hv, hnm⟩ := H.newRow hf el (List.replicate z.toNat el.dflt) z.toNat (madeCells TE.z.cells (z.toNat * el.size)) E (S.w.alloc (.cells (madeCells TE.z.cells (z.toNat * el.size)) E)) rfl
      (by simp) (by rw [maxLen_val]; omega) (size_madeCells _ _)
      (fun i hi => by
        obtain ⟨us, h1, h2⟩ := hrel.get (d := el.dflt) (fun x vs hh => RelK.length el hh) i hi
        exact ⟨us, h1, fun j u hu => by have := h2 j u hu; simpa using this⟩)
    simp only [List.length_replicate] at H' E' hv hnm
    refine wp_value ?_ (hP (.ref nm) _ _ hfin H' E' hv hnm)
    rw [TE.size] at hr
    simp only [execOp, ho, hl, hc, hr, Sem.run_bind, Result.andThen_ok, Sem.run_pure]
  · cases h

theorem optInt_rel (F : FRel S fr a) {o : Option Operand} {l : Option Int} (h : optInt (ev fr) o = some l) :
    (o = none ∧ l = none) ∨ ∃ x k z, o = some x ∧ l = some z ∧ a.eval x = .int k z := by
  cases o with
  | none => simp only [optInt, Option.some.injEq] at h; exact .inl ⟨rfl, h.symm⟩
  | some x =>
    simp only [optInt] at h
    split at h
    · rename_i k z hz
      have hx := ev_rel F x
      rw [hz] at hx
      simp only [Option.some.injEq] at h
      exact .inr ⟨x, k, z, rfl, h.symm, hx.int_inv⟩
    · cases h

/-- the bounds of a slice expression, as the model takes them -/
theorem run_bounds (F : FRel S fr a) {lo hi : Option Operand} {l h : Option Int} (hl : optInt (ev fr) lo = some l) (hh : optInt (ev fr) hi = some h) (b : Bool) (len cap : Nat) (hc : len ≤ cap)
    (h1 : 0 ≤ l.getD 0) (h2 : l.getD 0 ≤ h.getD len) (h3 : h.getD len ≤ len) (w : World) :
    (Instr.sliceBounds b len cap (lo.map a.eval) (hi.map a.eval) none).run P w = .ok ((l.getD 0).toNat, (h.getD len).toNat, cap) w := by
  unfold Instr.sliceBounds
  rcases optInt_rel F hh with ⟨rfl, rfl⟩ | ⟨x, k, z, rfl, rfl, hx⟩
  · rcases optInt_rel F hl with ⟨rfl, rfl⟩ | ⟨x', k', z', rfl, rfl, hx'⟩
    · simp
    · simp only [Option.getD_some, Option.getD_none] at h1 h2 h3
      simp [hx', run_sliceBound w k' z' _ _ h1 (show z' ≤ (len : Int) from h2)]
  · rcases optInt_rel F hl with ⟨rfl, rfl⟩ | ⟨x', k', z', rfl, rfl, hx'⟩
    · simp only [Option.getD_some, Option.getD_none] at h1 h2 h3
      simp [hx, run_sliceBound w k z cap _ h2 (by omega)]
    · simp only [Option.getD_some] at h1 h2 h3
      simp [hx, hx', run_sliceBound w k z cap _ (by omega) (by omega), run_sliceBound w k' z' z.toNat _ h1 (by omega)]

theorem sound_slice (hΓ : Γ.ok P = true) {o : Oper} {t : Nat} {x : Operand} {lo hi mx : Option Operand} (ho : o.op = .slice t x lo hi mx) (H : HRel S) (F : FRel S fr a)
    (h : (aop Γ nm (ev fr) (.slice t x lo hi mx)).run call K S.hp = some r) (hP : Post S K r fun v w => next (a.put o.dst v) w) : o.wp P a S.w next Q := by
  cases mx with
  | some _ => cases h
  | none =>
    simp only [aop] at h
    obtain ⟨k, hk, ha⟩ := run_opt_inv h
    clear h
    obtain ⟨l, hl, hb⟩ := run_opt_inv ha
    clear ha
    obtain ⟨hh, hhi, h⟩ := run_opt_inv hb
    clear hb
    have hok := TEnv.kind_ok hΓ hk
    have hx := ev_rel F x
    have hn := ev_names F x
    split at h
    · rename_i ke el xs hxs
      obtain ⟨E, hu, hE⟩ := kOk_slice hok
      obtain ⟨TE⟩ := kOk_ty hE
      rw [hxs] at hx
      split at h
      · rename_i hke
        obtain ⟨hc, hfin⟩ := run_brf_inv h
        clear h
        subst hke
        simp only [decide_eq_true_eq] at hc
        obtain ⟨ad, len, cap, hp, hlen, hcap, hs⟩ := hx.sl_inv
        have hp : a.eval x = .slice ad len cap := by simpa using hp
        subst hlen
        have hb := run_bounds (P := P) F hl hhi true xs.length cap hcap hc.1 hc.2.1 hc.2.2 S.w
        generalize l.getD 0 = lv at hc hb hfin
        generalize hh.getD (xs.length : Int) = hv at hc hb hfin
        refine wp_value (v := .slice (if cap = lv.toNat then ad else ad.map (·.add (lv.toNat * el.size))) (hv.toNat - lv.toNat) (cap - lv.toNat)) ?_ (hP.stay H (run_pure_inv hfin) ?_ (by unfold AV.names; trivial))
        · simp only [execOp, ho, hp, Instr.sliceAt, Instr.slice, Sem.run_bind, run_underlying hu, Result.andThen_ok, Option.map_none, hb, TE.run_size, Sem.run_pure]
        · refine .sl_mk ⟨_, _, _, rfl, by rw [List.length_drop, List.length_take]; omega, by omega, ?_⟩
          rcases hs with hs | ⟨b, oo, rfl, hI, hs⟩
          · left; omega
          · by_cases hz : hv.toNat - lv.toNat = 0
            · exact .inl hz
            · right
              rw [if_neg (by omega)]
              refine ⟨b, oo + lv.toNat * el.size, by simp [Addr.add_lit], hI, fun i hi' => ?_⟩
              obtain ⟨us, h1, h2⟩ := hs (lv.toNat + i) (by omega)
              refine ⟨us, ?_, by rw [show oo + lv.toNat * el.size + i * el.size = oo + (lv.toNat + i) * el.size from by rw [Nat.add_mul]; omega]; exact h2⟩
              show RelK S.w S.I el (((xs.take hv.toNat).drop lv.toNat).getD i el.dflt) us
              rw [List.getD_eq_getElem?_getD, List.getElem?_drop, List.getElem?_take, if_pos (by omega), ← List.getD_eq_getElem?_getD]
              exact h1
      · cases h
    · rename_i ke n hxs
      obtain ⟨E, hu, hE⟩ := kOk_slice hok
      obtain ⟨TE⟩ := kOk_ty hE
      rw [hxs] at hx hn
      replace h := run_rd_inv h
      split at h
      · rename_i el xs hes
        split at h
        · rename_i hke
          obtain ⟨hc, hfin⟩ := run_brf_inv h
          clear h
          obtain ⟨hk1, rfl⟩ := hke
          subst hk1
          simp only [decide_eq_true_eq] at hc
          unfold VRel at hx
          rw [hes] at hx
          obtain ⟨_, hp⟩ := hx
          have hrow : ∃ ad cap, S.ρ n = .slice ad xs.length cap ∧ xs.length ≤ cap := by
            have ho' := H.ob n
            rw [hes] at ho'
            rcases ho' with ⟨g1, g2⟩ | ⟨b, cap, c, E', g1, g2, g3, g4, g5, _⟩
            · exact ⟨none, 0, by rw [g1, g2], by omega⟩
            · exact ⟨_, cap, g1, g5⟩
          obtain ⟨ad, cap, hr1, hr2⟩ := hrow
          have hb := run_bounds (P := P) F hl hhi true xs.length cap hr2 (by simp) (by simpa using hc.1) hc.2 S.w
          simp only [Option.getD_none, Int.toNat_zero] at hb
          generalize hh.getD (xs.length : Int) = hv at hc hb hfin
          refine wp_value (v := .slice ad hv.toNat cap) ?_ (hP.stay H (run_pure_inv hfin) ?_ hn)
          · rw [hr1] at hp
            simp only [execOp, ho, hp, Instr.sliceAt, Instr.slice, Sem.run_bind, run_underlying hu, Result.andThen_ok, Option.map_none, hb, TE.run_size, Sem.run_pure]
            by_cases hcz : cap = 0
            · simp [hcz]
            · rw [if_neg hcz]
              cases ad <;> simp [Addr.add_zero']
          · unfold VRel
            refine ⟨rfl, ?_⟩
            rw [hes]
            exact ⟨ad, cap, hr1, by omega, rfl⟩
        · cases h
      · cases h
    · rename_i s hxs
      rw [hxs] at hx
      obtain ⟨hc, hfin⟩ := run_brf_inv h
      clear h
      simp only [decide_eq_true_eq] at hc
      have hp := hx.str_inv
      have hb := run_bounds (P := P) F hl hhi false s.length s.length (Nat.le_refl _) hc.1 hc.2.1 hc.2.2 S.w
      generalize l.getD 0 = lv at hc hb hfin
      generalize hh.getD (s.length : Int) = hv at hc hb hfin
      have hsz : (ByteArray.mk s.toArray).size = s.length := by simp [ByteArray.size]
      refine wp_value (v := .string ((ByteArray.mk s.toArray).extract lv.toNat hv.toNat)) ?_ (hP.stay H (run_pure_inv hfin) ?_ (by unfold AV.names; trivial))
      · simp only [execOp, ho, hp, strOf, Instr.sliceAt, Instr.slice, Sem.run_bind, run_underlying (kOk_str hok), Result.andThen_ok, Option.map_none, Option.isSome_none, Bool.false_eq_true, if_false, hsz, hb, Sem.run_pure]
      · unfold VRel strOf
        congr 1
        apply ByteArray.ext
        apply Array.ext'
        simp [ByteArray.data_extract, List.extract_eq_take_drop, List.drop_take]
    · cases h

theorem run_fnChain_inv {k v : Kind} {x : k.T} : ∀ {es : List (k.T × v.T)} {h : Hp}, (fnChain k v x es).run call K h = some r → K (ofK v ((mget k x es).getD v.dflt)) h = some r
  | [], _, e => run_pure_inv e
  | p :: es, _, e => by
    unfold fnChain at e
    unfold mget
    rcases run_br_inv e with ⟨hb, e⟩ | ⟨hb, e⟩
    · rw [if_pos hb]; exact run_pure_inv e
    · rw [if_neg (by simp [hb])]; exact run_fnChain_inv e

theorem sound_lookup (hΓ : Γ.ok P = true) {o : Oper} {t : Nat} {x i : Operand} {ok : Bool} (ho : o.op = .lookup t x i ok) (H : HRel S) (F : FRel S fr a)
    (h : (aop Γ nm (ev fr) (.lookup t x i ok)).run call K S.hp = some r) (hP : Post S K r fun v w => next (a.put o.dst v) w) : o.wp P a S.w next Q := by
  simp only [aop] at h
  obtain ⟨⟨kk, vk⟩, hk, h⟩ := run_opt_inv h
  obtain ⟨KT, VT, hu, hK, hV, hdp⟩ := TEnv.map_ok hΓ hk
  obtain ⟨TV⟩ := kOk_ty hV
  split at h
  · rename_i hko
    obtain ⟨key, hkey, h⟩ := run_opt_inv h
    have hi := one_rel (ev_rel F i) hkey
    have hx := ev_rel F x
    split at h
    · rename_i n hxn
      rw [hxn] at hx
      replace h := run_rd_inv h
      split at h
      · rename_i k v es hes
        split at h
        · rename_i hkk
          simp only at hkk hK hko hi hV TV h hdp
          subst hkk
          simp only at h
          split at h
          · rename_i hvv
            subst hvv
            unfold VRel at hx
            rw [hes] at hx
            obtain ⟨_, hp⟩ := hx
            have ho' := H.ob n
            rw [hes] at ho'
            obtain ⟨rb, ms, cl, g1, g2, g3, g4, g5⟩ := ho'
            obtain ⟨res, hf, hm⟩ := findKey_rel hK hko hdp hi g5.1
            have hchk := checkKey_rel (P := P) (w := S.w) ms.isEmpty hK hko 10000 (by omega) hi
            have hgo : (getObj rb).run P S.w = .ok (.map ms cl) S.w := by simp [getObj, Sem.run, g2]
            obtain ⟨u, hrun, hu'⟩ : ∃ u : Value, (Instr.lookup t (a.eval x) (a.eval i) ok).run P S.w = .ok (if ok then .tuple #[u, .bool (mget k key es).isSome] else u) S.w ∧ VK S.w S.I v ((mget k key es).getD v.dflt) u := by
              rw [hp, g1]
              simp only [Instr.lookup, Sem.run_bind, run_underlying hu, Result.andThen_ok, hgo, Sem.run_pure, hchk, hf]
              rw [mfind_get key es 0]
              cases hfm : mfind k key es 0 with
              | none =>
                rw [hfm] at hm
                cases res with
                | some q => exact hm.elim
                | none =>
                  refine ⟨TV.z, ?_, ?_⟩
                  · simp [TV.run_zero]
                  · have hzr := zero_rel (w := S.w) (I := S.I) v TV.zero
                    unfold VK
                    cases hva : v.isAgg with
                    | true =>
                      rw [if_pos rfl]
                      have := TV.zagg
                      rw [hva] at this
                      cases hz : TV.z with
                      | agg zs => rw [hz] at hzr; exact ⟨zs.toList, by simp, hzr⟩
                      | _ => rw [hz] at this; simp [aggV] at this
                    | false =>
                      rw [if_neg (by simp)]
                      have := TV.zagg
                      rw [hva] at this
                      have hc : TV.z.cells = #[TV.z] := by cases hz : TV.z <;> first | rfl | (rw [hz] at this; simp [aggV] at this)
                      rw [hc] at hzr
                      simpa using hzr
              | some q =>
                rw [hfm] at hm
                cases res with
                | none => exact hm.elim
                | some q' =>
                  obtain ⟨j, y⟩ := q
                  obtain ⟨j', u⟩ := q'
                  exact ⟨u, by simp, by simpa using hm.2⟩
            cases ok with
            | true =>
              refine wp_value ?_ (hP.stay H (run_pure_inv h) ?_ ?_) (v := .tuple #[u, .bool (mget k key es).isSome])
              · simp only [execOp, ho, hrun, Sem.run_bind, Result.andThen_ok, Sem.run_pure, if_true]
              · unfold VRel; exact ⟨[u, .bool (mget k key es).isSome], rfl, .cons (ofK_rel hu') (.one .bool_mk)⟩
              · unfold AV.names AV.namesL AV.namesL AV.namesL; exact ⟨ofK_names _ _, by unfold AV.names; trivial, trivial⟩
            | false =>
              have hK' : K (ofK v ((mget k key es).getD v.dflt)) S.hp = some r := by
                rw [if_neg (by simp)] at h
                split at h
                · exact run_fnChain_inv h
                · exact run_pure_inv h
              refine wp_value ?_ (hP.stay H hK' (ofK_rel hu') (ofK_names _ _)) (v := u)
              simp [execOp, ho, hrun]
          · cases h
        · cases h
      · cases h
    · cases h
  · cases h

/-- an update of a map -/
theorem mapUpdate_run {t : Nat} {m i x : Operand} {k v : Kind} {KT VT : TypeId} (hu : P.underlying t = some (.map KT VT)) (hK : kOk P k KT = true) (hdp : k.deep ≤ 50) (hko : k.keyOk = true)
    {key : k.T} {val : v.T} (hi : VK S.w S.I k key (a.eval i)) (hy : VK S.w S.I v val (a.eval x)) {rb : Nat} {ms : Array MapEntry} {cl : Nat} {es : List (k.T × v.T)}
    (hp : a.eval m = .map (some rb)) (g2 : S.w.heap[rb]? = some (.map ms cl)) (g5 : EntriesAt S.w S.I k v es ms.toList) (gs : MapKept.Stamped ms cl) :
    ∃ ms' cl', (Instr.mapUpdate t (a.eval m) (a.eval i) (a.eval x)).run P S.w = .ok () { S.w with heap := S.w.heap.setIfInBounds rb (.map ms' cl') } ∧
      EntriesAt S.w S.I k v (mput k key val es) ms'.toList ∧ MapKept.Stamped ms' cl' := by
  obtain ⟨res, hf, hm⟩ := findKey_rel hK hko hdp hi g5
  have hchk := checkKey_rel (P := P) (w := S.w) false hK hko 10000 (by omega) hi
  have hgo : (getObj rb).run P S.w = .ok (.map ms cl) S.w := by simp [getObj, Sem.run, g2]
  have hso : ∀ ob : Obj, (setObj rb ob).run P S.w = .ok () { S.w with heap := S.w.heap.setIfInBounds rb ob } := fun ob => by simp [setObj, Sem.run, g2]
  have hlt : rb < S.w.heap.size := (Array.getElem?_eq_some_iff.1 g2).1
  rw [hp]
  simp only [Instr.mapUpdate, Sem.run_bind, run_underlying hu, Result.andThen_ok, hgo, hchk, hf]
  obtain ⟨q1, q2⟩ := mfind_put (k := k) key val es 0
  cases hfm : mfind k key es 0 with
  | none =>
    rw [hfm] at hm
    cases res with
    | some q => exact hm.elim
    | none =>
      refine ⟨_, _, by simp only [hso]; rfl, ?_⟩
      rw [q1 hfm, Array.toList_push]
      refine ⟨EntriesAt.append hi hy g5, MapKept.stamped_push gs fun x hx e => ?_⟩
      obtain ⟨p, hp1, hp2⟩ := EntriesAt.mem g5 hx
      rw [e] at hp2
      exact mfind_none key es 0 hfm p hp1 (key_injV hko hi hp2)
  | some q =>
    rw [hfm] at hm
    obtain ⟨j, y⟩ := q
    cases res with
    | none => exact hm.elim
    | some q' =>
      obtain ⟨j', u⟩ := q'
      obtain ⟨rfl, hu'⟩ := hm
      obtain ⟨n', q, e1, e2, e3, e4⟩ := q2 j' y hfm
      rw [Nat.zero_add] at e1
      subst e1
      have hkq := eqB_true hko e3
      obtain ⟨me, m1, m2, m3⟩ := EntriesAt.get g5 e2
      rw [← hkq] at m2
      have m1' : ms[j']? = some me := by simpa using m1
      obtain ⟨hs1, hs2⟩ := key_same hko m2 hi
      refine ⟨_, _, by
        simp only [m1', Option.map_some, Option.getD_some, Instr.keyThatStays, hs1, hs2, if_true, Sem.run_bind, Sem.run_pure, Result.andThen_ok, hso]
        rfl, ?_⟩
      rw [e4]
      have hmod : (ms.modify j' fun e => { e with key := a.eval i, val := a.eval x }).toList = ms.toList.set j' { me with key := a.eval i, val := a.eval x } := by
        apply List.ext_getElem?
        intro z
        simp only [Array.getElem?_toList, Array.getElem?_modify]
        by_cases hz : j' = z
        · subst hz
          rw [if_pos rfl, m1', List.getElem?_set_self (by simpa using (Array.getElem?_eq_some_iff.1 m1').1)]
          rfl
        · rw [if_neg hz, List.getElem?_set_ne hz]
          simp
      rw [hmod]
      refine ⟨EntriesAt.set (m := { me with key := a.eval i, val := a.eval x }) hi hy j' g5, MapKept.stamped_modify gs j' _ (fun _ _ => rfl) fun e _ he => ?_⟩
      rw [m1', Option.some.injEq] at he
      subst he
      exact hs1.symm

theorem sound_mapUpdate (hΓ : Γ.ok P = true) {o : Oper} {t : Nat} {m i x : Operand} (ho : o.op = .mapUpdate t m i x ∨ o.op = .insert t m i x) (H : HRel S) (F : FRel S fr a)
    (h : (aop Γ nm (ev fr) (.mapUpdate t m i x)).run call K S.hp = some r) (hP : Post S K r fun v w => next (a.put o.dst v) w) : o.wp P a S.w next Q := by
  simp only [aop] at h
  obtain ⟨⟨kk, vk⟩, hk, h⟩ := run_opt_inv h
  obtain ⟨KT, VT, hu, hK, hV, hdp⟩ := TEnv.map_ok hΓ hk
  split at h
  · rename_i hko
    obtain ⟨key, hkey, h⟩ := run_opt_inv h
    obtain ⟨val, hval, h⟩ := run_opt_inv h
    have hi := one_rel (ev_rel F i) hkey
    have hy := one_rel (ev_rel F x) hval
    have hx := ev_rel F m
    split at h
    · rename_i n hxn
      rw [hxn] at hx
      replace h := run_rd_inv h
      split at h
      · rename_i k v es hes
        split at h
        · rename_i hkk
          obtain ⟨hk1, hk2⟩ := hkk
          simp only at hk1 hk2 hK hko hi hV h hdp hy
          subst hk1 hk2
          simp only at h
          replace h := run_wr_inv h
          unfold VRel at hx
          rw [hes] at hx
          obtain ⟨_, hp⟩ := hx
          have ho' := H.ob n
          rw [hes] at ho'
          obtain ⟨rb, ms, cl, g1, g2, g3, g4, g5⟩ := ho'
          have hlt : rb < S.w.heap.size := (Array.getElem?_eq_some_iff.1 g2).1
          obtain ⟨ms', cl', hrun, hent⟩ := mapUpdate_run (a := a) hu hK hdp hko hi hy (hp.trans g1) g2 g5.1 g5.2
          obtain ⟨H', E'⟩ := H.write (n := n) (by rw [hes]; rfl) (.map k v (mput k key val es)) { S.w with heap := S.w.heap.setIfInBounds rb (.map ms' cl') } (by rw [hes]; exact ⟨rfl, rfl⟩)
            (fun b hb => by
              have : b ≠ rb := fun e => hb (by rw [g1, e]; rfl)
              simp [Ne.symm this])
            (by simp)
            (fun E => ⟨rb, ms', cl', g1, by simp [hlt], g3, g4, EntriesAt.later E.i hent.1, hent.2⟩)
            (fun cs hcs => by cases hcs)
          refine wp_skipped (w' := { S.w with heap := S.w.heap.setIfInBounds rb (.map ms' cl') }) ?_ (hP .undef undef _ (run_pure_inv h) H' E' .undef_mk (by unfold AV.names; trivial))
          rcases ho with ho | ho <;> simp only [execOp, ho, hrun, Sem.run_bind, Result.andThen_ok, Sem.run_pure]
        · cases h
      · cases h
    · rename_i n j hxn
      rw [hxn] at hx
      replace h := run_rd_inv h
      split at h
      · rename_i k v ess hes
        split at h
        · rename_i hkk
          obtain ⟨hk1, hk2⟩ := hkk
          simp only at hk1 hk2 hK hko hi hV h hdp hy
          subst hk1 hk2
          simp only at h
          replace h := run_wr_inv h
          unfold VRel at hx
          rw [hes] at hx
          obtain ⟨_, hj, u, ms, hρ, hmj⟩ := hx
          have ho' := H.ob n
          rw [hes] at ho'
          obtain ⟨b, cap, c, E, ms1, q1, q2, q3, q4, q5, q6, q7, q8, q9, q10, q11⟩ := ho'
          obtain ⟨_, rfl⟩ := tuple_inj (q1.symm.trans hρ)
          obtain ⟨mv, p1, rb, ents, cl, p2, p3, p4, p5, p6⟩ := q11 j _ (List.getElem?_eq_getElem hj)
          have emv : a.eval m = .map (some rb) := by rw [hmj] at p1; cases p1; exact p2
          have egd : ess.getD j [] = ess[j] := by rw [List.getD_eq_getElem?_getD, List.getElem?_eq_getElem hj]; rfl
          have hlt : rb < S.w.heap.size := (Array.getElem?_eq_some_iff.1 p3).1
          obtain ⟨ms', cl', hrun, hent⟩ := mapUpdate_run (a := a) hu hK hdp hko hi hy emv p3 p6.1 p6.2
          have hbrb : b ≠ rb := fun e => (q10 j mv p1).2 (by rw [p2]; show some rb = some b; rw [e])
          have hself : hasBlk (S.ρ n) rb := by rw [q1]; exact ⟨mv, List.mem_cons_of_mem _ (List.mem_of_getElem? p1), by rw [p2]; rfl⟩
          obtain ⟨H', E'⟩ := H.write (n := n) (by rw [hes]; rfl) (.mrow k v (ess.set j (mput k key val (ess.getD j [])))) { S.w with heap := S.w.heap.setIfInBounds rb (.map ms' cl') } (by rw [hes]; exact ⟨rfl, rfl, by simp⟩)
            (fun b' hb => by
              have : b' ≠ rb := fun e => hb (e ▸ hself)
              simp [Ne.symm this])
            (by simp)
            (fun E' => ⟨b, cap, c, E, ms1, by simpa using q1, by simp [Ne.symm hbrb]; exact q2, q3, q4, by simpa using q5, q6, q7, by simpa using q8, q9, q10, fun i' es' hes' => by
              by_cases e : j = i'
              · subst e
                rw [List.getElem?_set_self hj, Option.some.injEq] at hes'
                subst hes'
                rw [egd]
                exact ⟨mv, p1, rb, ms', cl', p2, by simp [hlt], p4, p5, EntriesAt.later E'.i hent.1, hent.2⟩
              · rw [List.getElem?_set_ne e] at hes'
                obtain ⟨m2, y1, rb2, en2, cl2, y2, y3, y4, y5, y6⟩ := q11 i' es' hes'
                have hne : rb ≠ rb2 := fun e2 => q9 j i' _ _ e p1 y1 (by rw [p2, y2, e2])
                exact ⟨m2, y1, rb2, en2, cl2, y2, by simp [hne]; exact y3, y4, y5, EntriesAt.later E'.i y6.1, y6.2⟩⟩)
            (fun cs hcs => by cases hcs)
          refine wp_skipped (w' := { S.w with heap := S.w.heap.setIfInBounds rb (.map ms' cl') }) ?_ (hP .undef undef _ (run_pure_inv h) H' E' .undef_mk (by unfold AV.names; trivial))
          rcases ho with ho | ho <;> simp only [execOp, ho, hrun, Sem.run_bind, Result.andThen_ok, Sem.run_pure]
        · cases h
      · cases h
    · cases h
  · cases h

end ops
end Go.AM

/- Each operation, fifth part: append, conversions, numbers, calls. -/
namespace Go.AM
open Go

/-- what a slice value covers -/
def ElemsAt (S : Sit) (e : Kind) (xs : List e.T) (v : Value) : Prop :=
  ∃ a len cap, v = .slice a len cap ∧ len = xs.length ∧ (len = 0 ∨ ∃ b o, a = some ⟨b, o, none⟩ ∧ ∀ i, i < len → ∃ us, RelK S.w S.I e (xs.getD i e.dflt) us ∧ CellsAt S.w b (o + i * e.size) us)

theorem row_elems {S : Sit} (H : HRel S) {n : Nat} {e : Kind} {xs : List e.T} (hn : S.hp n = .row e xs) : ElemsAt S e xs (S.ρ n) := by
  have ho := H.ob n
  rw [hn] at ho
  rcases ho with ⟨g1, g2⟩ | ⟨b, cap, c, E', g1, g2, g3, g4, g5, g6, g7, g8⟩
  · exact ⟨none, 0, 0, g1, g2.symm, .inl rfl⟩
  · refine ⟨some ⟨b, 0, none⟩, xs.length, cap, g1, rfl, .inr ⟨b, 0, rfl, fun i hi => ?_⟩⟩
    obtain ⟨us, h1, h2⟩ := g8 i hi
    exact ⟨us, h1, fun j u hu => by rw [Nat.zero_add, cell_of_row S.w b _ c E' (0, 0) g2]; exact h2 j u hu⟩

theorem elems_inv {S : Sit} (H : HRel S) {call : Call} {R : Type} {K : AV → Hp → Option R} {r : R} {e : Kind} {v : AV} {val : Value} {k : List e.T → M} (hv : VRel S v val)
    (h : (M.elems e v k).run call K S.hp = some r) : ∃ xs, ElemsAt S e xs val ∧ (k xs).run call K S.hp = some r := by
  unfold M.elems at h
  split at h
  · exact ⟨[], ⟨none, 0, 0, hv.nilsl_inv, rfl, .inl rfl⟩, h⟩
  · split at h
    · rename_i hee
      subst hee
      obtain ⟨a, len, cap, hp, hl, hc, hs⟩ := hv.sl_inv
      refine ⟨_, ⟨a, len, cap, by simpa using hp, hl, ?_⟩, h⟩
      rcases hs with hs | ⟨b, o, e1, _, hs⟩
      · exact .inl hs
      · exact .inr ⟨b, o, e1, hs⟩
    · cases h
  · rename_i n
    replace h := run_rd_inv h
    split at h
    · rename_i e' xs hn
      split at h
      · rename_i hee
        subst hee
        unfold VRel at hv
        rw [hn] at hv
        obtain ⟨_, rfl⟩ := hv
        exact ⟨xs, row_elems H hn, h⟩
      · cases h
    · cases h
  · rename_i n j
    replace h := run_rd_inv h
    split at h
    · rename_i e' xs hn
      split at h
      · rename_i hee
        subst hee
        unfold VRel at hv
        rw [hn] at hv
        obtain ⟨_, a, cap, h1, h2, rfl⟩ := hv
        obtain ⟨a', len, cap', g1, g2, g3⟩ := row_elems H hn
        rw [g1] at h1
        simp only [Value.slice.injEq] at h1
        obtain ⟨rfl, rfl, rfl⟩ := h1
        refine ⟨xs.take j, ⟨a', j, cap', rfl, by rw [List.length_take]; omega, ?_⟩, h⟩
        rcases g3 with g3 | ⟨b, o, e1, g3⟩
        · left; omega
        · refine .inr ⟨b, o, e1, fun i hi => ?_⟩
          obtain ⟨us, q1, q2⟩ := g3 i (by omega)
          exact ⟨us, by rw [List.getD_eq_getElem?_getD, List.getElem?_take, if_pos hi, ← List.getD_eq_getElem?_getD]; exact q1, q2⟩
      · cases h
    · cases h
  · cases h

/-- the elements' cells, one list -/
theorem ElemsAt.cells {S : Sit} {P : Program} {e : Kind} {xs : List e.T} {v : Value} (h : ElemsAt S e xs v) :
    ∃ news : List Value, news.length = xs.length * e.size ∧ RelL (RelK S.w S.I e) xs news ∧ (∀ u ∈ news, u.oneCell' = true) ∧ (Builtin.lenOf v).run P S.w = .ok xs.length S.w ∧
      (Builtin.firstCells e.size xs.length v).run P S.w = .ok news.toArray S.w ∧ (Builtin.firstCells e.size xs.length v).run P S.w.drew = .ok news.toArray S.w.drew := by
  obtain ⟨a, len, cap, rfl, rfl, h⟩ := h
  rcases h with h | ⟨b, o, rfl, h⟩
  · have hx : xs = [] := List.eq_nil_of_length_eq_zero h
    subst hx
    refine ⟨[], by simp, rfl, by simp, rfl, ?_, ?_⟩ <;> cases a <;> simp [Builtin.firstCells, loadCells, loadCellsFrom]
  · have key : ∀ (ys : List e.T) (o' : Nat), (∀ i, i < ys.length → ∃ us, RelK S.w S.I e (ys.getD i e.dflt) us ∧ CellsAt S.w b (o' + i * e.size) us) →
        ∃ news : List Value, RelL (RelK S.w S.I e) ys news ∧ CellsAt S.w b o' news := by
      intro ys
      induction ys with
      | nil => intro o' _; exact ⟨[], rfl, fun j u hu => by simp at hu⟩
      | cons y ys ih =>
        intro o' hh
        obtain ⟨us, h1, h2⟩ := hh 0 (by simp)
        obtain ⟨news, h3, h4⟩ := ih (o' + e.size) (fun i hi => by
          obtain ⟨us, q1, q2⟩ := hh (i + 1) (by simpa using hi)
          exact ⟨us, by simpa using q1, by rwa [show o' + e.size + i * e.size = o' + (i + 1) * e.size from by rw [Nat.succ_mul]; omega]⟩)
        simp only [List.getD_cons_zero, Nat.zero_mul, Nat.add_zero] at h1 h2
        refine ⟨us ++ news, ⟨us, news, rfl, h1, h3⟩, fun j u hu => ?_⟩
        have hl := RelK.length e h1
        by_cases hj : j < us.length
        · rw [List.getElem?_append_left hj] at hu; exact h2 j u hu
        · rw [List.getElem?_append_right (by omega)] at hu
          have := h4 _ u hu
          rwa [show o' + e.size + (j - us.length) = o' + j from by omega] at this
    obtain ⟨news, h1, h2⟩ := key xs o h
    have hl : news.length = xs.length * e.size := h1.length (fun x vs hh => RelK.length e hh)
    refine ⟨news, hl, h1, h1.all (fun x vs hh => RelK.ones e hh), rfl, ?_, ?_⟩
    · exact run_firstCells_some (P := P) S.w e.size xs.length ⟨b, o, none⟩ _ _ news hl (fun j u hu => by rw [Addr.add_lit]; exact h2 j u hu)
    · exact run_firstCells_some (P := P) S.w.drew e.size xs.length ⟨b, o, none⟩ _ _ news hl (fun j u hu => by rw [Addr.add_lit]; exact h2 j u hu)

section append
variable {P : Program} (w : World)

theorem run_append_room2 (t ty e E : TypeId) (i : TypeInfo) (ht : P.underlying t = some (.slice e)) (hi : P.info? e = some i)
    (g sLen sCap : Nat) (cur : Array Value) (hg : w.heap[g]? = some (.cells cur E (0, 0)))
    (x : Value) (m : Nat) (news : List Value) (hx : (Builtin.lenOf x).run P w = .ok m w) (hf : (Builtin.firstCells i.size m x).run P w = .ok news.toArray w) (h1 : ∀ u ∈ news, u.oneCell' = true)
    (hroom : sLen + m ≤ sCap) (hfit : sLen * i.size + news.length ≤ cur.size) :
    (Builtin.append_ #[t, t] ty #[.slice (some ⟨g, 0, none⟩) sLen sCap, x]).run P w =
      .ok (.slice (some ⟨g, 0, none⟩) (sLen + m) sCap) (w.setRow g (cur.toList.take (sLen * i.size) ++ news ++ cur.toList.drop (sLen * i.size + news.length)).toArray) := by
  have hst := run_storeCells_at P g (sLen * i.size) E news 0 cur w hg (by simpa using hfit) h1
  simp only [Nat.add_zero] at hst
  simp [Builtin.append_, run_underlying ht, sizeOf, typeInfo, hi, hx, hroom, hf, Addr.add_lit, hst]

theorem run_append_grow2 (t ty e : TypeId) (i : TypeInfo) (z : Value) (ht : P.underlying t = some (.slice e)) (hi : P.info? e = some i) (hz : i.zero = some z)
    (base : Option Addr) (sLen sCap : Nat) (olds : List Value) (hfo : (Builtin.firstCells i.size sLen (.slice base sLen sCap)).run P w.drew = .ok olds.toArray w.drew)
    (x : Value) (n : Nat) (news : List Value) (hx : (Builtin.lenOf x).run P w = .ok n w) (hf : (Builtin.firstCells i.size n x).run P w.drew = .ok news.toArray w.drew)
    (hg : sCap < sLen + n) (h63 : ((sLen + n : Nat) : Int) ≤ 9223372036854775807) (hfit : Builtin.nextslicecap (sLen + n) sCap * i.bytes ≤ 281474976710656) :
    (Builtin.append_ #[t, t] ty #[.slice base sLen sCap, x]).run P w =
      .ok (.slice (some ⟨w.heap.size, 0, none⟩) (sLen + n) (grownCap w (sLen + n) sCap e))
        (w.drew.alloc (.cells (olds.toArray ++ news.toArray ++ Builtin.zeroCells z.cells (grownCap w (sLen + n) sCap e - (sLen + n))) e)) := by
  have hn : ¬ (sLen + n ≤ sCap) := by omega
  have h63' : ¬ (9223372036854775807 < ((sLen : Int) + (n : Int))) := by omega
  have h48' : ¬ (281474976710656 < Builtin.nextslicecap (sLen + n) sCap * i.bytes) := by omega
  simp [Builtin.append_, run_underlying ht, sizeOf, typeInfo, zeroValue, hi, hz, hx, hn, h63', h48', Question.forced, hf, hfo, newRow, grownCap]
  congr 2
  apply Array.ext'
  simp [List.append_assoc]

theorem run_append_none2 (t ty e : TypeId) (i : TypeInfo) (ht : P.underlying t = some (.slice e)) (hi : P.info? e = some i)
    (x : Value) (hx : (Builtin.lenOf x).run P w = .ok 0 w) (hf : (Builtin.firstCells i.size 0 x).run P w = .ok #[] w) :
    (Builtin.append_ #[t, t] ty #[.slice none 0 0, x]).run P w = .ok (.slice none 0 0) w := by
  simp [Builtin.append_, run_underlying ht, sizeOf, typeInfo, hi, hx, hf]
end append

section ops
variable {P : Program} {Γ : TEnv} {call : Call} {S : Sit} {fr : Nat → AV} {a : Act} {R : Type} {K : AV → Hp → Option R} {r : R}
  {next : Act → World → Prop} {Q : Exit → Act → World → Prop} {nm : Nat}

theorem RelL.append {α : Type} {R : α → List Value → Prop} : ∀ {xs ys : List α} {vs us : List Value}, RelL R xs vs → RelL R ys us → RelL R (xs ++ ys) (vs ++ us)
  | [], _, vs, _, h, h2 => by rw [show vs = [] from h]; exact h2
  | _ :: _, _, _, _, ⟨l, r, e, h1, h3⟩, h2 => by subst e; exact ⟨l, _, by rw [List.append_assoc], h1, RelL.append h3 h2⟩

/-- the appended row, wherever it lies -/
theorem append_fresh (H : HRel S) (hf : S.hp nm = .free) (el : Kind) (zs : List el.T) (cells : List Value) (hz : RelL (RelK S.w S.I el) zs cells) (v : Value) (w' : World) (hsz : S.w.heap.size ≤ w'.heap.size)
    (hw : ∀ b, b < S.w.heap.size → ¬ hasBlk v b → w'.heap[b]? = S.w.heap[b]?)
    (hv : ∀ b, hasBlk v b → ¬ S.I b ∧ ¬ S.B b ∧ ∀ m, cellLive (S.hp m) → ¬ hasBlk (S.ρ m) b)
    (hrow : (v = .slice none 0 0 ∧ zs.length = 0) ∨ ∃ (b cap : Nat) (c : Array Value) (E : TypeId), rowAtV v b zs.length cap ∧ w'.heap[b]? = some (.cells c E (0, 0)) ∧ zs.length ≤ cap ∧ cap ≤ maxLen ∧ c.size = cap * el.size ∧ ∀ (j : Nat) (u : Value), cells[j]? = some u → c[j]? = some u) (hq : SameOut S.w w' := by first | exact ⟨rfl, rfl⟩ | (simp only [SameOut, *]; first | done | exact ⟨rfl, rfl⟩ | exact ⟨trivial, trivial⟩)) :
    let T : Sit := { S with w := w', ρ := upd S.ρ nm v, hp := upd S.hp nm (.row el zs) }
    HRel T ∧ Ext Top S T ∧ VRel T (.ref nm) v ∧ (AV.ref nm).names (fun m => T.hp m ≠ .free) := by
  intro T
  obtain ⟨H', E'⟩ := H.fresh hf (.row el zs) v w' hsz hw hv (fun cs hcs => by cases hcs) (fun E' => by
    rcases hrow with ⟨h1, h2⟩ | ⟨b, cap, c, E, h1, h2, h3, h4, h5, h6⟩
    · exact .inl ⟨by simp only [upd_same]; exact h1, h2⟩
    · have hb := hv b (by rw [show v = _ from h1]; exact rfl)
      refine .inr ⟨b, cap, c, E, by simp only [upd_same]; exact h1, h2, hb.1, hb.2.1, h3, h4, h5, fun i hi => ?_⟩
      obtain ⟨us, q1, q2⟩ := hz.get (d := el.dflt) (fun x vs hh => RelK.length el hh) i hi
      exact ⟨us, RelK.ext E' q1, fun j u hu => h6 _ u (q2 j u hu)⟩) hq
  refine ⟨H', E', ?_, ?_⟩
  · unfold VRel
    refine ⟨?_, ?_⟩
    · rcases hrow with ⟨h1, _⟩ | ⟨b, cap, c, E, h1, _⟩
      · rw [h1]; rfl
      · rw [show v = _ from h1]; rfl
    · simp only [T, upd_same]
  · unfold AV.names; simp [T, upd_same]

theorem sound_append (hΓ : Γ.ok P = true) {o : Oper} {args : Array Operand} {argTypes : Array TypeId} (ho : o.op = .call { callee := .builtin .append, args := args, argTypes := argTypes }) (H : HRel S) (F : FRel S fr a)
    (h : (aop Γ nm (ev fr) (.call { callee := .builtin .append, args := args, argTypes := argTypes })).run call K S.hp = some r) (hP : Post S K r fun v w => next (a.put o.dst v) w) : o.wp P a S.w next Q := by
  simp only [aop] at h
  split at h
  · rename_i s x t u hargs htys
    split at h
    · rename_i el2 hkt hku
      split at h
      · rename_i htu
        subst htu
        obtain ⟨E, hu, hE⟩ := kOk_slice (TEnv.kind_ok hΓ hkt)
        obtain ⟨TE⟩ := kOk_ty hE
        have hexec : ∀ v w', (Builtin.append_ #[t, t] o.type #[a.eval s, a.eval x]).run P S.w = .ok v w' → (execOp a.eval o).run P S.w = .ok (.value v) w' := by
          intro v w' hr
          have e1 : args = #[s, x] := by apply Array.ext'; simpa using hargs
          have e2 : argTypes = #[t, t] := by apply Array.ext'; simpa using htys
          subst e1 e2
          simp only [execOp, ho, resolve, invoke, builtin, Sem.run_bind, Sem.run_pure, Result.andThen_ok, List.map_toArray, List.map_cons, List.map_nil, hr]
        split at h
        · rename_i n m hsn hxm
          split at h
          · cases h
          · rename_i hnm
            replace h := run_rd_inv h
            split at h
            · rename_i k v ess hn
              replace h := run_rd_inv h
              split at h
              · rename_i k' v' ess' hm
                split at h
                · rename_i hkk
                  obtain ⟨rfl, rfl⟩ := hkk
                  obtain ⟨hc, h1⟩ := run_brf_inv h
                  clear h
                  obtain ⟨hf, h⟩ := run_new_inv (run_wr_inv (run_wr_inv h1))
                  clear h1
                  simp only [decide_eq_true_eq] at hc
                  unfold lim at hc
                  have hs := ev_rel F s
                  have hx := ev_rel F x
                  rw [hsn] at hs
                  rw [hxm] at hx
                  unfold VRel at hs hx
                  rw [hn] at hs
                  rw [hm] at hx
                  obtain ⟨_, ms0, es0⟩ := hs
                  obtain ⟨_, ms9, ex0⟩ := hx
                  have hon := H.ob n
                  rw [hn] at hon
                  obtain ⟨b, cap, c, E1, ms, a1, a2, a3, a4, a5, a6, a7, a8, a9, a10, a11⟩ := hon
                  have hom := H.ob m
                  rw [hm] at hom
                  obtain ⟨b2, cap2, c2, E2, ms2, b1, b2', b3, b4, b5, b6, b7, b8, b9, b10, b11⟩ := hom
                  have es1 := (tuple_inj (a1.symm.trans es0)).1.symm
                  have ex1 := (tuple_inj (b1.symm.trans ex0)).1.symm
                  have hnl : cellLive (S.hp n) := by rw [hn]; rfl
                  have hml : cellLive (S.hp m) := by rw [hm]; rfl
                  have bn : ∀ q, (q = b ∨ ∃ u ∈ ms, blockOf u = some q) ↔ hasBlk (S.ρ n) q := fun q => by
                    rw [a1]
                    constructor
                    · rintro (rfl | ⟨u, hu, e⟩)
                      · exact ⟨_, List.mem_cons_self .., rfl⟩
                      · exact ⟨u, List.mem_cons_of_mem _ hu, e⟩
                    · rintro ⟨u, hu, e⟩
                      rcases List.mem_cons.1 hu with rfl | hu
                      · left; replace e : some b = some q := e; cases e; rfl
                      · exact .inr ⟨u, hu, e⟩
                  have bm : ∀ q, (∃ u ∈ ms2, blockOf u = some q) → hasBlk (S.ρ m) q := fun q ⟨u, hu, e⟩ => by
                    rw [b1]; exact ⟨u, List.mem_cons_of_mem _ hu, e⟩
                  obtain ⟨H1, E1'⟩ := H.bury hnl (fun _ => False) (fun b hb => hb.elim)
                  have hI1 : (fun b => S.I b ∨ False) = S.I := by funext b; simp
                  rw [hI1] at H1 E1'
                  have hml1 : cellLive (upd S.hp n .dead m) := by rw [upd_other (fun e => hnm e.symm)]; exact hml
                  obtain ⟨H2, E2'⟩ := H1.bury (n := m) hml1 (fun _ => False) (fun b hb => hb.elim)
                  rw [hI1] at H2 E2'
                  have key : ∀ (q cap' : Nat) (c' : Array Value) (E' : TypeId) (w' : World), S.w.heap.size ≤ w'.heap.size → (∀ z, z < S.w.heap.size → z ≠ q → w'.heap[z]? = S.w.heap[z]?) → w'.heap[q]? = some (.cells c' E' (0, 0)) →
                      (q = b ∨ q = S.w.heap.size) → ess.length + ess'.length ≤ cap' → cap' ≤ maxLen → c'.size = cap' → (∀ (i : Nat) (u : Value), (ms ++ ms2)[i]? = some u → c'[i]? = some u) → SameOut S.w w' →
                      (Builtin.append_ #[t, t] o.type #[a.eval s, a.eval x]).run P S.w = .ok (.slice (some ⟨q, 0, none⟩) (ess.length + ess'.length) cap') w' → o.wp P a S.w next Q := by
                    intro q cap' c' E' w' hsz hold hq hqb hcap hmax hcs hget hout hrun
                    have hfree : ∀ z, hasBlk (.tuple (.slice (some ⟨q, 0, none⟩) (ess ++ ess').length cap' :: (ms ++ ms2)).toArray) z → z = q ∨ hasBlk (S.ρ n) z ∨ hasBlk (S.ρ m) z := by
                      rintro z ⟨u, hu, e⟩
                      rcases List.mem_cons.1 hu with rfl | hu
                      · left; replace e : some q = some z := e; cases e; rfl
                      · rcases List.mem_append.1 hu with hu | hu
                        · exact .inr (.inl ((bn z).1 (.inr ⟨u, hu, e⟩)))
                        · exact .inr (.inr (bm z ⟨u, hu, e⟩))
                    have hqn : q = S.w.heap.size ∨ hasBlk (S.ρ n) q := hqb.elim (fun e => .inr ((bn q).1 (.inl e))) .inl
                    have hothers : ∀ z, (z = S.w.heap.size ∨ hasBlk (S.ρ n) z ∨ hasBlk (S.ρ m) z) → ¬ S.I z ∧ ¬ S.B z ∧ ∀ y, cellLive (upd (upd S.hp n .dead) m .dead y) → ¬ hasBlk (S.ρ y) z := by
                      rintro z (rfl | hz | hz)
                      · exact ⟨fun hI => Nat.lt_irrefl _ (H.il _ hI), H.newB, fun y hy hby => Nat.lt_irrefl _ (H2.lt hy hby)⟩
                      · refine ⟨H.notI hnl hz, H.geB hnl hz, fun y hy hby => ?_⟩
                        by_cases e1 : y = m
                        · subst e1; rw [upd_same] at hy; cases hy
                        · rw [upd_other e1] at hy
                          by_cases e2 : y = n
                          · subst e2; rw [upd_same] at hy; cases hy
                          · rw [upd_other e2] at hy; exact H.ds n y z (fun e => e2 e.symm) hnl hy hz hby
                      · refine ⟨H.notI hml hz, H.geB hml hz, fun y hy hby => ?_⟩
                        by_cases e1 : y = m
                        · subst e1; rw [upd_same] at hy; cases hy
                        · rw [upd_other e1] at hy
                          by_cases e2 : y = n
                          · subst e2; rw [upd_same] at hy; cases hy
                          · rw [upd_other e2] at hy; exact H.ds m y z (fun e => e1 e.symm) hml hy hz hby
                    have hneq : ∀ z, (∃ u ∈ ms, blockOf u = some z) ∨ hasBlk (S.ρ m) z → z < S.w.heap.size ∧ z ≠ q := by
                      intro z hz
                      have hlt : z < S.w.heap.size := hz.elim (fun hz => H.lt hnl ((bn z).1 (.inr hz))) (fun hz => H.lt hml hz)
                      refine ⟨hlt, fun e => ?_⟩
                      rcases hqb with e2 | e2
                      · rcases hz with ⟨u, hu, e3⟩ | hz
                        · obtain ⟨i, hi, e4⟩ := List.mem_iff_getElem.1 hu
                          exact (a10 i u (by rw [List.getElem?_eq_getElem hi, e4])).2 (by rw [e3, e, e2])
                        · exact H.ds n m z hnm hnl hml ((bn z).1 (.inl (e.trans e2))) hz
                      · omega
                    obtain ⟨H3, E3⟩ := H2.fresh (n := nm) hf (.mrow k' v' (ess ++ ess')) (.tuple (.slice (some ⟨q, 0, none⟩) (ess ++ ess').length cap' :: (ms ++ ms2)).toArray) w' hsz
                      (fun z hz hnz => hold z hz fun e => hnz ⟨_, List.mem_cons_self .., by rw [e]; rfl⟩)
                      (fun z hz => hothers z (by rcases hfree z hz with e | h | h
                                                 · rw [e]; exact hqn.elim .inl (fun h => .inr (.inl h))
                                                 · exact .inr (.inl h)
                                                 · exact .inr (.inr h)))
                      (fun cs hcs => by cases hcs)
                      (fun E3 => ⟨q, cap', c', E', ms ++ ms2, by simp only [upd_same], hq, (hothers q (hqn.elim .inl (fun h => .inr (.inl h)))).1, (hothers q (hqn.elim .inl (fun h => .inr (.inl h)))).2.1, by rw [List.length_append]; exact hcap, hmax, hcs, by rw [List.length_append, List.length_append, a8, b8],
                        fun i j u u' hij hi hj e => by
                          rw [List.getElem?_append] at hi hj
                          have hsome : ∀ (l : List Value) (i : Nat) (u : Value), l[i]? = some u → u ∈ l := fun l i u h => List.mem_of_getElem? h
                          have hblk2 : ∀ u, u ∈ ms2 → ∃ z, blockOf u = some z := fun u hu => by
                            obtain ⟨i, hi, e4⟩ := List.mem_iff_getElem.1 hu
                            obtain ⟨mv, p1, rb, en, cl, p2, _⟩ := b11 i _ (List.getElem?_eq_getElem (by omega))
                            rw [List.getElem?_eq_getElem hi, e4] at p1
                            cases p1
                            exact ⟨rb, by rw [p2]; rfl⟩
                          split at hi <;> split at hj
                          · exact a9 i j u u' hij hi hj e
                          · obtain ⟨z, hz⟩ := hblk2 u' (hsome _ _ _ hj)
                            exact H.ds n m z hnm hnl hml ((bn z).1 (.inr ⟨u, hsome _ _ _ hi, e.trans hz⟩)) (bm z ⟨u', hsome _ _ _ hj, hz⟩)
                          · obtain ⟨z, hz⟩ := hblk2 u (hsome _ _ _ hi)
                            exact H.ds n m z hnm hnl hml ((bn z).1 (.inr ⟨u', hsome _ _ _ hj, e.symm.trans hz⟩)) (bm z ⟨u, hsome _ _ _ hi, hz⟩)
                          · exact b9 _ _ u u' (by omega) hi hj e,
                        fun i u hi => ⟨hget i u hi, fun e => by
                          have hmem := List.mem_of_getElem? hi
                          rcases List.mem_append.1 hmem with hu | hu
                          · exact (hneq q (.inl ⟨u, hu, e⟩)).2 rfl
                          · exact (hneq q (.inr (bm q ⟨u, hu, e⟩))).2 rfl⟩,
                        fun i es hi => by
                          rw [List.getElem?_append] at hi
                          split at hi
                          · rename_i hlt
                            obtain ⟨mv, p1, rb, en, cl, p2, p3, p4, p5, p6⟩ := a11 i es hi
                            have hz := hneq rb (.inl ⟨mv, List.mem_of_getElem? p1, by rw [p2]; rfl⟩)
                            exact ⟨mv, by rw [List.getElem?_append_left (by omega)]; exact p1, rb, en, cl, p2, (hold rb hz.1 hz.2).trans p3, p4, p5, ((p6.1.ext E1').ext E2').ext E3, p6.2⟩
                          · rename_i hge
                            obtain ⟨mv, p1, rb, en, cl, p2, p3, p4, p5, p6⟩ := b11 _ es hi
                            have hz := hneq rb (.inr (bm rb ⟨mv, List.mem_of_getElem? p1, by rw [p2]; rfl⟩))
                            exact ⟨mv, by rw [List.getElem?_append_right (by omega), a8]; exact p1, rb, en, cl, p2, (hold rb hz.1 hz.2).trans p3, p4, p5, ((p6.1.ext E1').ext E2').ext E3, p6.2⟩⟩) hout
                    rw [List.length_append] at H3 E3
                    refine wp_value (hexec _ _ hrun) (hP (.ref nm) _ _ h H3 ((E1'.trans E2').trans E3) (mrow_mk (ms := ms ++ ms2) rfl (by simp only [upd_same]; rfl) (by simp only [upd_same])) ?_)
                    unfold AV.names; simp [upd_same]
                  have n1 : ms2.length = ess'.length * TE.i.size := by rw [TE.size, b8]; exact (Nat.mul_one _).symm
                  have n3 : ∀ u ∈ ms2, u.oneCell' = true := fun u hu => by
                    obtain ⟨i, hi, e4⟩ := List.mem_iff_getElem.1 hu
                    obtain ⟨mv, p1, rb, en, cl, p2, _⟩ := b11 i _ (List.getElem?_eq_getElem (by omega))
                    rw [List.getElem?_eq_getElem hi, e4] at p1
                    cases p1
                    rw [p2]; rfl
                  have hc2 : ∀ (w : World), w.heap[b2]? = S.w.heap[b2]? → ∀ (j : Nat) (u : Value), ms2[j]? = some u → w.cell? ((⟨b2, 0, none⟩ : Addr).add j) = some u := fun w hw j u hu => by
                    rw [Addr.add_lit, Nat.zero_add, cell_of_row w b2 j c2 E2 (0, 0) (hw.trans b2')]
                    exact (b10 j u hu).1
                  have hc1 : ∀ (w : World), w.heap[b]? = S.w.heap[b]? → ∀ (j : Nat) (u : Value), ms[j]? = some u → w.cell? ((⟨b, 0, none⟩ : Addr).add j) = some u := fun w hw j u hu => by
                    rw [Addr.add_lit, Nat.zero_add, cell_of_row w b j c E1 (0, 0) (hw.trans a2)]
                    exact (a10 j u hu).1
                  have n5 := run_firstCells_some (P := P) S.w TE.i.size ess'.length ⟨b2, 0, none⟩ ess'.length cap2 ms2 n1 (hc2 S.w rfl)
                  have n6 := run_firstCells_some (P := P) S.w.drew TE.i.size ess'.length ⟨b2, 0, none⟩ ess'.length cap2 ms2 n1 (hc2 S.w.drew rfl)
                  have o6 := run_firstCells_some (P := P) S.w.drew TE.i.size ess.length ⟨b, 0, none⟩ ess.length cap ms (by rw [TE.size, a8]; exact (Nat.mul_one _).symm) (hc1 S.w.drew rfl)
                  have n4 : (Builtin.lenOf (a.eval x)).run P S.w = .ok ess'.length S.w := by rw [ex1]; rfl
                  rw [← ex1] at n5 n6
                  have hsz1 : TE.i.size = 1 := TE.size
                  by_cases hroom : ess.length + ess'.length ≤ cap
                  · have hfit : ess.length * TE.i.size + ms2.length ≤ c.size := by rw [hsz1, b8, a7]; omega
                    have hr := run_append_room2 (P := P) S.w t o.type E E1 TE.i hu TE.hi b ess.length cap c a2 (a.eval x) ess'.length ms2 n4 n5 n3 hroom hfit
                    rw [hsz1, Nat.mul_one] at hr
                    refine key b cap (c.toList.take ess.length ++ ms2 ++ c.toList.drop (ess.length + ms2.length)).toArray E1 _ (by rw [setRow_size]; exact Nat.le_refl _) (fun z _ hz => setRow_other _ _ _ _ hz) (setRow_heap S.w b c _ E1 (0, 0) a2) (.inl rfl) hroom a6 (by simp; omega) (fun i u hi => ?_) ⟨rfl, rfl⟩ (by rw [es1]; exact hr)
                    rw [List.getElem?_toArray, seg_get (by simp; omega)]
                    rw [List.getElem?_append] at hi
                    split at hi
                    · rename_i hlt
                      rw [if_neg (by omega)]
                      have := (a10 i u hi).1
                      simpa using this
                    · rename_i hge
                      have := (List.getElem?_eq_some_iff.1 hi).1
                      rw [if_pos (by omega), ← a8]
                      exact hi
                  · have hb := TE.bytes
                    have hcap : Builtin.nextslicecap (ess.length + ess'.length) cap * TE.i.bytes ≤ 281474976710656 := growslice_fits (by omega) (by
                      have : (ess.length + ess'.length) * TE.i.bytes ≤ (ess.length + ess'.length) * 128 := Nat.mul_le_mul_left _ hb
                      omega)
                    have hr := run_append_grow2 (P := P) S.w t o.type E TE.i TE.z hu TE.hi TE.hz (some ⟨b, 0, none⟩) ess.length cap ms o6 (a.eval x) ess'.length ms2 n4 n6 (by omega) (by omega) hcap
                    have hge := grownCap_ge S.w (ess.length + ess'.length) cap E
                    have hzs : TE.z.cells.size = 1 := by
                      have := RelK.length (.dyn 1) (zero_rel (w := S.w) (I := S.I) (.dyn 1) TE.zero)
                      simpa [Kind.size] using this
                    refine key S.w.heap.size (grownCap S.w (ess.length + ess'.length) cap E) _ E _ (by simp) (fun z hz _ => heap_alloc_old S.w.drew _ z hz) (heap_alloc_new S.w.drew _) (.inr rfl) hge (grownCap_le_maxLen S.w _ cap E (by rw [maxLen_val]; omega)) ?_ (fun i u hi => ?_) ⟨rfl, rfl⟩ (by rw [es1]; exact hr)
                    · simp only [Array.size_append, List.size_toArray, size_zeroCells, hzs, a8, b8, Nat.mul_one]
                      omega
                    · have hlt := (List.getElem?_eq_some_iff.1 hi).1
                      rw [Array.getElem?_append_left (by simpa using hlt)]
                      simpa using hi
                · cases h
              · cases h
            · cases h
        · cases h
      · cases h
    · rename_i el el2 _ hkt hku
      split at h
      · rename_i htu
        subst htu
        obtain ⟨E, hu, hE⟩ := kOk_slice (TEnv.kind_ok hΓ hkt)
        obtain ⟨TE⟩ := kOk_ty hE
        have hs := ev_rel F s
        obtain ⟨ys, hys, h2⟩ := elems_inv H (ev_rel F x) h
        clear h
        obtain ⟨news, n1, n2, n3, n4, n5, n6⟩ := hys.cells (P := P)
        have hb := TE.bytes
        have hexec : ∀ v w', (Builtin.append_ #[t, t] o.type #[a.eval s, a.eval x]).run P S.w = .ok v w' → (execOp a.eval o).run P S.w = .ok (.value v) w' := by
          intro v w' hr
          have e1 : args = #[s, x] := by apply Array.ext'; simpa using hargs
          have e2 : argTypes = #[t, t] := by apply Array.ext'; simpa using htys
          subst e1 e2
          simp only [execOp, ho, resolve, invoke, builtin, Sem.run_bind, Sem.run_pure, Result.andThen_ok, List.map_toArray, List.map_cons, List.map_nil, hr]
        -- an empty base
        have nilCase : ∀ (S1 : Sit), S1.w = S.w → S1.I = S.I → HRel S1 → Ext Top S S1 → S1.hp nm = .free → a.eval s = .slice none 0 0 → ys.length ≤ lim → K (.ref nm) (upd S1.hp nm (.row el ys)) = some r → o.wp P a S.w next Q := by
          intro S1 e1 e2 H1 E1 hf hv hlim hk
          unfold lim at hlim
          by_cases hm : ys.length = 0
          · rw [hm] at n4 n5
            have hnews : news = [] := List.eq_nil_of_length_eq_zero (by rw [n1, hm]; simp)
            subst hnews
            have hr := run_append_none2 (P := P) S.w t o.type E TE.i hu TE.hi (a.eval x) n4 (by rw [TE.size]; exact n5)
            obtain ⟨H', E', hv', hn'⟩ := append_fresh (nm := nm) H1 hf el ys [] (by rw [e1, e2]; exact n2) (.slice none 0 0) S.w (by rw [e1]; exact Nat.le_refl _) (fun b _ _ => by rw [e1]) (fun b hb => by (replace hb : none = some b := hb; cases hb)) (.inl ⟨rfl, hm⟩)
            exact wp_value (hexec _ _ (by rw [hv]; exact hr)) (hP _ _ _ hk H' (E1.trans E') hv' hn')
          · have hcap : Builtin.nextslicecap (0 + ys.length) 0 * TE.i.bytes ≤ 281474976710656 := growslice_fits (by omega) (by
              have : (0 + ys.length) * TE.i.bytes ≤ (0 + ys.length) * 128 := Nat.mul_le_mul_left _ hb
              omega)
            have hfo : (Builtin.firstCells TE.i.size 0 (.slice none 0 0)).run P S.w.drew = .ok ([] : List Value).toArray S.w.drew := rfl
            have hr := run_append_grow2 (P := P) S.w t o.type E TE.i TE.z hu TE.hi TE.hz none 0 0 [] hfo (a.eval x) ys.length news n4 (by rw [TE.size]; exact n6) (by omega) (by omega) hcap
            simp only [Nat.zero_add] at hr
            have hge := grownCap_ge S.w ys.length 0 E
            obtain ⟨H', E', hv', hn'⟩ := append_fresh (nm := nm) H1 hf el ys news (by rw [e1, e2]; exact n2) (.slice (some ⟨S.w.heap.size, 0, none⟩) ys.length (grownCap S.w ys.length 0 E))
              (S.w.drew.alloc (.cells (([] : List Value).toArray ++ news.toArray ++ Builtin.zeroCells TE.z.cells (grownCap S.w ys.length 0 E - ys.length)) E)) (by rw [e1]; simp)
              (fun b hb _ => by rw [e1] at hb ⊢; exact heap_alloc_old S.w.drew _ b hb)
              (fun b hb => by
                replace hb : some _ = some b := hb
                simp only [Option.some.injEq] at hb
                subst hb
                refine ⟨fun hI => ?_, by have := H1.newB; rw [e1] at this; exact this, fun m hm hbm => ?_⟩
                · have := H1.il _ hI; rw [e1] at this; exact Nat.lt_irrefl _ this
                · have := H1.lt hm hbm; rw [e1] at this; exact Nat.lt_irrefl _ this)
              (.inr ⟨S.w.heap.size, _, _, E, rfl, heap_alloc_new S.w.drew _, hge, grownCap_le_maxLen S.w ys.length 0 E (by rw [maxLen_val]; omega), by
                have hzs : TE.z.cells.size = el.size := by
                  have := RelK.length el (zero_rel (w := S.w) (I := S.I) el TE.zero)
                  simpa using this
                simp only [Array.size_append, List.size_toArray, size_zeroCells, hzs, n1, List.length_nil, Nat.zero_add, ← Nat.add_mul]
                congr 1
                omega, fun j u hj => by
                  have hlt := (List.getElem?_eq_some_iff.1 hj).1
                  rw [Array.getElem?_append_left (by simpa using hlt), Array.getElem?_append_right (by simp)]
                  simpa using hj⟩)
            exact wp_value (hexec _ _ (by rw [hv]; exact hr)) (hP _ _ _ hk H' (E1.trans E') hv' hn')
        split at h2
        · rename_i hsn
          rw [hsn] at hs
          obtain ⟨hc, h3⟩ := run_brf_inv h2
          obtain ⟨hf, h4⟩ := run_new_inv h3
          simp only [decide_eq_true_eq] at hc
          exact nilCase S rfl rfl H (Ext.refl S) hf hs.nilsl_inv hc h4
        · rename_i n hsn
          rw [hsn] at hs
          replace h2 := run_rd_inv h2
          split at h2
          · rename_i el' xs hxs
            split at h2
            · rename_i hee
              obtain ⟨hc, h3⟩ := run_brf_inv h2
              clear h2
              subst hee
              obtain ⟨hf, h5⟩ := run_new_inv (run_wr_inv h3)
              clear h3
              simp only [decide_eq_true_eq] at hc
              unfold lim at hc
              unfold VRel at hs
              rw [hxs] at hs
              obtain ⟨_, hv⟩ := hs
              have hlive : cellLive (S.hp n) := by rw [hxs]; rfl
              obtain ⟨H1, E1⟩ := H.bury hlive (fun _ => False) (fun b hb => hb.elim)
              have hI1 : (fun b => S.I b ∨ False) = S.I := by funext b; simp
              rw [hI1] at H1 E1
              have ho' := H.ob n
              rw [hxs] at ho'
              rcases ho' with ⟨g1, g2⟩ | ⟨b, cap, c, E', g1, g2, g3, g4, g5, g6, g7, g8⟩
              · have hx0 : xs = [] := List.eq_nil_of_length_eq_zero g2
                subst hx0
                exact nilCase { S with hp := upd S.hp n .dead } rfl rfl H1 E1 hf (hv.trans g1) (by unfold lim; simpa using hc) (by simpa using h5)
              · have hv : a.eval s = .slice (some ⟨b, 0, none⟩) xs.length cap := hv.trans g1
                obtain ⟨olds, o1, o2, o3, o4, o5, o6⟩ := (row_elems H hxs).cells (P := P)
                have hold : ∀ (j : Nat) (u : Value), olds[j]? = some u → c[j]? = some u := by
                  have hel := row_elems H hxs
                  have hlf := o5
                  rw [g1] at hlf
                  have hcl : ∀ j, j < olds.length → S.w.cell? ⟨b, 0 + j, none⟩ = c[j]? := fun j _ => by rw [Nat.zero_add]; exact cell_of_row S.w b j c E' (0, 0) g2
                  have hsz : olds.length ≤ c.size := by rw [o1, g7]; exact Nat.mul_le_mul_right _ g5
                  have hrun := run_loadCells_list (P := P) S.w ⟨b, 0, none⟩ (c.toList.take olds.length) (fun j u hu => by
                    rw [Addr.add_lit, Nat.zero_add, cell_of_row S.w b j c E' (0, 0) g2]
                    rw [List.getElem?_take] at hu
                    split at hu
                    · simpa using hu
                    · cases hu)
                  have htl : (c.toList.take olds.length).length = olds.length := by simp; omega
                  rw [htl, o1] at hrun
                  have : (Builtin.firstCells el'.size xs.length (Value.slice (some ⟨b, 0, none⟩) xs.length cap)).run P S.w = .ok (c.toList.take (xs.length * el'.size)).toArray S.w := hrun
                  rw [this] at hlf
                  simp only [Result.ok.injEq, and_true] at hlf
                  have he : c.toList.take (xs.length * el'.size) = olds := by
                    have := congrArg Array.toList hlf
                    simpa using this
                  intro j u hu
                  rw [← he, List.getElem?_take] at hu
                  split at hu
                  · simpa using hu
                  · cases hu
                have hblk : ∀ v' ys', v' = Value.slice (some ⟨b, 0, none⟩) ys' cap → ∀ b', hasBlk v' b' → ¬ S.I b' ∧ ¬ S.B b' ∧ ∀ m, cellLive (upd S.hp n Cell.dead m) → ¬ hasBlk (S.ρ m) b' := by
                  intro v' ys' e b' hb'
                  subst e
                  replace hb' : some b = some b' := hb'
                  simp only [Option.some.injEq] at hb'
                  subst hb'
                  refine ⟨g3, g4, fun m hm hbm => ?_⟩
                  by_cases hmn : m = n
                  · subst hmn; rw [upd_same] at hm; cases hm
                  · rw [upd_other hmn] at hm
                    exact H.ds n m b (fun e => hmn e.symm) hlive hm (by rw [show S.ρ n = _ from g1]; exact rfl) hbm
                by_cases hroom : xs.length + ys.length ≤ cap
                · have hfit : xs.length * el'.size + news.length ≤ c.size := by rw [n1, g7, ← Nat.add_mul]; exact Nat.mul_le_mul_right _ hroom
                  have hr := run_append_room2 (P := P) S.w t o.type E E' TE.i hu TE.hi b xs.length cap c g2 (a.eval x) ys.length news n4 (by rw [TE.size]; exact n5) n3 hroom (by rw [TE.size]; exact hfit)
                  rw [TE.size] at hr
                  obtain ⟨H', E2, hv', hn'⟩ := append_fresh (nm := nm) H1 hf el' (xs ++ ys) (olds ++ news) (o2.append n2) (.slice (some ⟨b, 0, none⟩) (xs.length + ys.length) cap)
                    (S.w.setRow b (c.toList.take (xs.length * el'.size) ++ news ++ c.toList.drop (xs.length * el'.size + news.length)).toArray) (by rw [setRow_size]; exact Nat.le_refl _)
                    (fun b' _ hne => setRow_other _ _ _ _ (fun e => hne (by rw [e]; exact rfl)))
                    (hblk _ _ rfl)
                    (.inr ⟨b, cap, _, E', by unfold rowAtV; rw [List.length_append], setRow_heap S.w b c _ E' (0, 0) g2, by rw [List.length_append]; exact hroom, g6, by simp; omega, fun j u hj => by
                      rw [List.getElem?_toArray, seg_get (by simpa using hfit)]
                      by_cases hjl : j < olds.length
                      · rw [if_neg (by rw [o1] at hjl; omega)]
                        rw [List.getElem?_append_left hjl] at hj
                        simpa using hold j u hj
                      · rw [List.getElem?_append_right (by omega)] at hj
                        have := (List.getElem?_eq_some_iff.1 hj).1
                        rw [if_pos (by rw [o1] at hjl this; omega), ← o1]
                        exact hj⟩)
                  exact wp_value (hexec _ _ (by rw [hv]; exact hr)) (hP _ _ _ h5 H' (E1.trans E2) hv' hn')
                · have hcap : Builtin.nextslicecap (xs.length + ys.length) cap * TE.i.bytes ≤ 281474976710656 := growslice_fits (by omega) (by
                    have : (xs.length + ys.length) * TE.i.bytes ≤ (xs.length + ys.length) * 128 := Nat.mul_le_mul_left _ hb
                    omega)
                  rw [show S.ρ n = _ from g1] at o6
                  have hr := run_append_grow2 (P := P) S.w t o.type E TE.i TE.z hu TE.hi TE.hz (some ⟨b, 0, none⟩) xs.length cap olds (by rw [TE.size]; exact o6) (a.eval x) ys.length news n4 (by rw [TE.size]; exact n6) (by omega) (by omega) hcap
                  have hge := grownCap_ge S.w (xs.length + ys.length) cap E
                  obtain ⟨H', E2, hv', hn'⟩ := append_fresh (nm := nm) H1 hf el' (xs ++ ys) (olds ++ news) (o2.append n2) (.slice (some ⟨S.w.heap.size, 0, none⟩) (xs.length + ys.length) (grownCap S.w (xs.length + ys.length) cap E))
                    (S.w.drew.alloc (.cells (olds.toArray ++ news.toArray ++ Builtin.zeroCells TE.z.cells (grownCap S.w (xs.length + ys.length) cap E - (xs.length + ys.length))) E)) (by simp)
                    (fun b hb _ => heap_alloc_old S.w.drew _ b hb)
                    (fun b hb => by
                      replace hb : some _ = some b := hb
                      simp only [Option.some.injEq] at hb
                      subst hb
                      exact ⟨fun hI => Nat.lt_irrefl _ (H1.il _ hI), H1.newB, fun m hm hbm => Nat.lt_irrefl _ (H1.lt hm hbm)⟩)
                    (.inr ⟨S.w.heap.size, _, _, E, by unfold rowAtV; rw [List.length_append], heap_alloc_new S.w.drew _, by rw [List.length_append]; exact hge, grownCap_le_maxLen S.w _ cap E (by rw [maxLen_val]; omega), by
                      have hzs : TE.z.cells.size = el'.size := by
                        have := RelK.length el' (zero_rel (w := S.w) (I := S.I) el' TE.zero)
                        simpa using this
                      simp only [Array.size_append, List.size_toArray, size_zeroCells, hzs, n1, o1, ← Nat.add_mul]
                      congr 1
                      omega, fun j u hj => by
                        have hlt := (List.getElem?_eq_some_iff.1 hj).1
                        rw [Array.getElem?_append_left (by simpa using hlt)]
                        simpa using hj⟩)
                  exact wp_value (hexec _ _ (by rw [hv]; exact hr)) (hP _ _ _ h5 H' (E1.trans E2) hv' hn')
            · cases h2
          · cases h2
        · cases h2
      · cases h
    · cases h
  · cases h
end ops
end Go.AM

/- Procedures: calls of functions that are given objects and leave them changed. -/
namespace Go.AM
open Go

/-! ### lists of names -/

theorem look_none {α : Type} {d : α} : ∀ {l : List (Nat × α)} {n : Nat}, (∀ p ∈ l, p.1 ≠ n) → look d l n = d
  | [], _, _ => rfl
  | (k, v) :: r, n, h => by
    unfold look
    rw [if_neg (fun e => h (k, v) (List.mem_cons_self ..) e.symm)]
    exact look_none fun p hp => h p (List.mem_cons_of_mem _ hp)

theorem nodupB_cons {n : Nat} {l : List Nat} (h : nodupB (n :: l) = true) : (∀ m ∈ l, m ≠ n) ∧ nodupB l = true := by
  unfold nodupB at h
  rw [Bool.and_eq_true] at h
  refine ⟨fun m hm e => ?_, h.2⟩
  have := h.1
  subst e
  simp at this
  exact this hm

theorem look_mem_of {α β : Type} {d : α} {f : β → Nat × α} : ∀ {l : List β} {x : β}, nodupB (l.map fun y => (f y).1) = true → x ∈ l → look d (l.map f) (f x).1 = (f x).2
  | y :: l, x, hn, hx => by
    obtain ⟨h1, h2⟩ := nodupB_cons hn
    rw [List.map_cons]
    show (if (f x).1 = (f y).1 then (f y).2 else look d (l.map f) (f x).1) = _
    rcases List.mem_cons.1 hx with rfl | hx
    · rw [if_pos rfl]
    · rw [if_neg (h1 _ (List.mem_map.2 ⟨x, hx, rfl⟩))]
      exact look_mem_of h2 hx

theorem look_some {β : Type} {f : β → Nat × Option Nat} : ∀ {l : List β} {n m : Nat}, look none (l.map f) n = some m → ∃ x ∈ l, (f x).1 = n ∧ (f x).2 = some m
  | [], _, _, h => by cases h
  | y :: l, n, m, h => by
    rw [List.map_cons] at h
    replace h : (if n = (f y).1 then (f y).2 else look none (l.map f) n) = some m := h
    split at h
    · rename_i e; exact ⟨y, List.mem_cons_self .., e.symm, h⟩
    · obtain ⟨x, h1, h2⟩ := look_some h
      exact ⟨x, List.mem_cons_of_mem _ h1, h2⟩

theorem pmap_mem {l : List (Nat × Nat)} {n m : Nat} (h : pmap l n = some m) : (n, m) ∈ l := by
  obtain ⟨x, h1, h2, h3⟩ := look_some (f := fun p : Nat × Nat => (p.1, some p.2)) h
  simp only [Option.some.injEq] at h3
  rw [← h2, ← h3]; exact h1
theorem pinv_mem {l : List (Nat × Nat)} {n m : Nat} (h : pinv l m = some n) : (n, m) ∈ l := by
  obtain ⟨x, h1, h2, h3⟩ := look_some (f := fun p : Nat × Nat => (p.2, some p.1)) h
  simp only [Option.some.injEq] at h3
  rw [← h2, ← h3]; exact h1
theorem pmap_of {l : List (Nat × Nat)} (hn : nodupB (l.map (·.1)) = true) {n m : Nat} (h : (n, m) ∈ l) : pmap l n = some m :=
  look_mem_of (f := fun p : Nat × Nat => (p.1, some p.2)) hn h
theorem pinv_of {l : List (Nat × Nat)} (hn : nodupB (l.map (·.2)) = true) {n m : Nat} (h : (n, m) ∈ l) : pinv l m = some n :=
  look_mem_of (f := fun p : Nat × Nat => (p.2, some p.1)) hn h
theorem pmap_none {l : List (Nat × Nat)} (hn : nodupB (l.map (·.1)) = true) {n : Nat} (h : pmap l n = none) : ∀ p ∈ l, p.1 ≠ n := fun p hp e => by
  have := pmap_of hn (n := p.1) (m := p.2) hp
  rw [e, h] at this
  cases this

theorem look_zip {α : Type} {d : α} : ∀ {ks : List Nat} {vs : List α} {i : Nat} {k : Nat} {v : α}, nodupB ks = true → ks[i]? = some k → vs[i]? = some v → look d (ks.zip vs) k = v
  | [], _, i, k, v, _, h, _ => by simp at h
  | _ :: _, [], i, k, v, _, _, h => by simp at h
  | q :: ks, u :: vs, 0, k, v, _, h1, h2 => by
    simp only [List.getElem?_cons_zero, Option.some.injEq] at h1 h2
    subst h1 h2
    show (if q = q then u else _) = u
    rw [if_pos rfl]
  | q :: ks, u :: vs, i + 1, k, v, hn, h1, h2 => by
    obtain ⟨n1, n2⟩ := nodupB_cons hn
    simp only [List.getElem?_cons_succ] at h1 h2
    show (if k = q then u else look d (ks.zip vs) k) = v
    rw [if_neg (n1 k (List.mem_of_getElem? h1))]
    exact look_zip n2 h1 h2

theorem look_zip_none {α : Type} {d : α} {ks : List Nat} {vs : List α} {k : Nat} (h : ∀ q ∈ ks, q ≠ k) : look d (ks.zip vs) k = d :=
  look_none fun p hp => h p.1 (List.of_mem_zip hp).1

/-! ### renaming -/

/-- T is S under other names -/
structure Ren (π : Nat → Option Nat) (S T : Sit) : Prop where
  w : T.w = S.w
  i : ∀ b, S.I b → T.I b
  h : ∀ n m, π n = some m → T.ρ m = S.ρ n ∧ T.hp m = (S.hp n).ren π

theorem renL_length (π : Nat → Option Nat) : ∀ cs : List AV, (AV.renL π cs).length = cs.length
  | [] => rfl
  | c :: cs => by unfold AV.renL; simp [renL_length π cs]

theorem ren_live (π : Nat → Option Nat) (c : Cell) : (c.ren π).live = c.live := by cases c <;> rfl

section
variable {π : Nat → Option Nat} {S T : Sit}

theorem Ren.k (R : Ren π S T) {k : Kind} {x : k.T} {vs : List Value} (h : RelK S.w S.I k x vs) : RelK T.w T.I k x vs :=
  RelK.later (fun b hb => ⟨R.i b hb, by rw [R.w]⟩) k h

mutual
theorem VRel.ren (R : Ren π S T) : ∀ (c : AV) {v : Value}, VRel S c v → VRel T (c.ren π) v
  | .undef, v, _ => by unfold AV.ren VRel; trivial
  | .bool _, v, h => by unfold AV.ren; unfold VRel at h ⊢; exact h
  | .int _ _, v, h => by unfold AV.ren; unfold VRel at h ⊢; exact h
  | .str _, v, h => by unfold AV.ren; unfold VRel at h ⊢; exact h
  | .sl e xs, v, h => by unfold AV.ren; unfold VRel at h ⊢; exact R.k h
  | .nilsl, v, h => by unfold AV.ren; unfold VRel at h ⊢; exact h
  | .nilp, v, h => by unfold AV.ren; unfold VRel at h ⊢; exact h
  | .nilfn, v, h => by unfold AV.ren; unfold VRel at h ⊢; exact h
  | .nilmap, v, h => by unfold AV.ren; unfold VRel at h ⊢; exact h
  | .nilif, v, h => by unfold AV.ren; unfold VRel at h ⊢; exact h
  | .ref n, v, h => by
    unfold AV.ren
    split
    · rename_i m hm
      unfold VRel at h ⊢
      refine ⟨h.1, ?_⟩
      rw [(R.h n m hm).2, (R.h n m hm).1]
      have h2 := h.2
      cases hc : S.hp n <;> simp only [hc, Cell.ren] at h2 ⊢ <;> exact h2
    · exact .undef_mk
  | .pref n k, v, h => by
    unfold AV.ren
    split
    · rename_i m hm
      unfold VRel at h ⊢
      refine ⟨h.1, ?_⟩
      rw [(R.h n m hm).2, (R.h n m hm).1]
      have h2 := h.2
      cases hc : S.hp n <;> simp only [hc, Cell.ren] at h2 ⊢ <;> exact h2
    · exact .undef_mk
  | .ptr n o, v, h => by
    unfold AV.ren
    split
    · rename_i m hm
      unfold VRel at h ⊢
      refine ⟨h.1, ?_⟩
      rw [(R.h n m hm).2, (R.h n m hm).1]
      have h2 := h.2
      cases hc : S.hp n <;> simp only [hc, Cell.ren] at h2 ⊢ <;> exact h2
    · exact .undef_mk
  | .eptr n i s, v, h => by
    unfold AV.ren
    split
    · rename_i m hm
      unfold VRel at h ⊢
      refine ⟨h.1, ?_⟩
      rw [(R.h n m hm).2, (R.h n m hm).1]
      have h2 := h.2
      cases hc : S.hp n <;> simp only [hc, Cell.ren] at h2 ⊢ <;> exact h2
    · exact .undef_mk
  | .aptr n o c i, v, h => by
    unfold AV.ren
    split
    · rename_i m hm
      unfold VRel at h ⊢
      refine ⟨h.1, ?_⟩
      rw [(R.h n m hm).2, (R.h n m hm).1]
      have h2 := h.2
      cases hc : S.hp n <;> simp only [hc, Cell.ren] at h2 ⊢ <;> first | exact h2 | (rw [renL_length]; exact h2)
    · exact .undef_mk
  | .mapr n, v, h => by
    unfold AV.ren
    split
    · rename_i m hm
      unfold VRel at h ⊢
      refine ⟨h.1, ?_⟩
      rw [(R.h n m hm).2, (R.h n m hm).1]
      have h2 := h.2
      cases hc : S.hp n <;> simp only [hc, Cell.ren] at h2 ⊢ <;> exact h2
    · exact .undef_mk
  | .mref n i, v, h => by
    unfold AV.ren
    split
    · rename_i m hm
      unfold VRel at h ⊢
      refine ⟨h.1, ?_⟩
      rw [(R.h n m hm).2, (R.h n m hm).1]
      have h2 := h.2
      cases hc : S.hp n <;> simp only [hc, Cell.ren] at h2 ⊢ <;> exact h2
    · exact .undef_mk
  | .keys c n i, v, h => by
    unfold AV.ren
    split
    · rename_i m hm
      unfold VRel at h ⊢
      obtain ⟨h0, b, mv, h1, h3, h4, h2⟩ := h
      refine ⟨h0, b, mv, h1, R.i b h3, by rw [R.w]; exact h4, ?_⟩
      rw [(R.h n m hm).2, (R.h n m hm).1]
      cases hc : S.hp n <;> simp only [hc, Cell.ren] at h2 ⊢ <;> exact h2
    · exact .undef_mk
  | .iptr cs, v, h => by
    unfold AV.ren
    unfold VRel at h ⊢
    obtain ⟨b, o, us, h1, h2, h3, h4, h5⟩ := h
    exact ⟨b, o, us, h1, R.i b h2, VRelL.ren R cs h3, by rw [R.w]; exact h4, h5⟩
  | .fn f cap, v, h => by
    unfold AV.ren
    unfold VRel at h ⊢
    obtain ⟨vs, h1, h2⟩ := h
    exact ⟨vs, h1, VRelL.ren R cap h2⟩
  | .agg cs, v, h => by
    unfold AV.ren
    unfold VRel at h ⊢
    obtain ⟨vs, h1, h2, h3⟩ := h
    exact ⟨vs, h1, VRelL.ren R cs h2, h3⟩
  | .tup cs, v, h => by
    unfold AV.ren
    unfold VRel at h ⊢
    obtain ⟨vs, h1, h2⟩ := h
    exact ⟨vs, h1, VRelL.ren R cs h2⟩
theorem VRelL.ren (R : Ren π S T) : ∀ (cs : List AV) {vs : List Value}, VRelL S cs vs → VRelL T (AV.renL π cs) vs
  | [], vs, h => by rw [h.nil_inv]; unfold AV.renL; exact .nil
  | c :: cs, vs, h => by
    obtain ⟨v, s, rfl, h1, h2⟩ := h.cons_inv
    unfold AV.renL
    exact .cons (VRel.ren R c h1) (VRelL.ren R cs h2)
end

mutual
/-- the names of a renamed value are in the range of the renaming -/
theorem AV.names_ren {q : Nat → Prop} (hq : ∀ n m, π n = some m → q m) : ∀ (c : AV), (c.ren π).names q
  | .ref n => by unfold AV.ren; split <;> unfold AV.names <;> first | exact hq _ _ ‹_› | trivial
  | .pref n _ => by unfold AV.ren; split <;> unfold AV.names <;> first | exact hq _ _ ‹_› | trivial
  | .ptr n _ => by unfold AV.ren; split <;> unfold AV.names <;> first | exact hq _ _ ‹_› | trivial
  | .eptr n _ _ => by unfold AV.ren; split <;> unfold AV.names <;> first | exact hq _ _ ‹_› | trivial
  | .aptr n _ _ _ => by unfold AV.ren; split <;> unfold AV.names <;> first | exact hq _ _ ‹_› | trivial
  | .mapr n => by unfold AV.ren; split <;> unfold AV.names <;> first | exact hq _ _ ‹_› | trivial
  | .mref n _ => by unfold AV.ren; split <;> unfold AV.names <;> first | exact hq _ _ ‹_› | trivial
  | .keys _ n _ => by unfold AV.ren; split <;> unfold AV.names <;> first | exact hq _ _ ‹_› | trivial
  | .fn _ cap => by unfold AV.ren AV.names; exact AV.namesL_ren hq cap
  | .agg cs => by unfold AV.ren AV.names; exact AV.namesL_ren hq cs
  | .tup cs => by unfold AV.ren AV.names; exact AV.namesL_ren hq cs
  | .iptr cs => by unfold AV.ren AV.names; exact AV.namesL_ren hq cs
  | .undef => by unfold AV.ren AV.names; trivial
  | .bool _ => by unfold AV.ren AV.names; trivial
  | .int _ _ => by unfold AV.ren AV.names; trivial
  | .str _ => by unfold AV.ren AV.names; trivial
  | .sl _ _ => by unfold AV.ren AV.names; trivial
  | .nilsl => by unfold AV.ren AV.names; trivial
  | .nilp => by unfold AV.ren AV.names; trivial
  | .nilfn => by unfold AV.ren AV.names; trivial
  | .nilmap => by unfold AV.ren AV.names; trivial
  | .nilif => by unfold AV.ren AV.names; trivial
theorem AV.namesL_ren {q : Nat → Prop} (hq : ∀ n m, π n = some m → q m) : ∀ (cs : List AV), AV.namesL q (AV.renL π cs)
  | [] => by unfold AV.renL AV.namesL; trivial
  | c :: cs => by unfold AV.renL AV.namesL; exact ⟨AV.names_ren hq c, AV.namesL_ren hq cs⟩
end

theorem EntriesAt.ren (R : Ren π S T) {k v : Kind} {es : List (k.T × v.T)} {l : List MapEntry} (h : EntriesAt S.w S.I k v es l) : EntriesAt T.w T.I k v es l :=
  EntriesAt.later (fun b hb => ⟨R.i b hb, by rw [R.w]⟩) h

/-- an object under its other name -/
theorem ObjAt.ren (R : Ren π S T) {n m : Nat} {c : Cell} (h : ObjAt S n c) (hρ : T.ρ m = S.ρ n) (hb : ∀ b, hasBlk (S.ρ n) b → ¬ T.I b ∧ ¬ T.B b) : ObjAt T m (c.ren π) := by
  cases c with
  | free => trivial
  | dead => trivial
  | box cs =>
    obtain ⟨b, d, E, h1, h2, h3, h4, h5, h6⟩ := h
    have hbb := hb b (by rw [show S.ρ n = _ from h1]; exact rfl)
    exact ⟨b, d, E, by unfold blockAt; rw [hρ]; exact h1, by rw [R.w]; exact h2, hbb.1, hbb.2, VRelL.ren R cs h5, h6⟩
  | row e xs =>
    rcases h with ⟨h1, h2⟩ | ⟨b, cap, d, el, h1, h2, h3, hB, h4, h5, h6, h7⟩
    · exact .inl ⟨hρ.trans h1, h2⟩
    · have hbb := hb b (by rw [show S.ρ n = _ from h1]; exact rfl)
      refine .inr ⟨b, cap, d, el, by unfold rowAtV; rw [hρ]; exact h1, by rw [R.w]; exact h2, hbb.1, hbb.2, h4, h5, h6, fun i hi => ?_⟩
      obtain ⟨us, g1, g2⟩ := h7 i hi
      exact ⟨us, R.k g1, g2⟩
  | map k v es =>
    obtain ⟨r, ms, cl, h1, h2, h3, hB, h4, h5⟩ := h
    have hbb := hb r (by rw [h1]; exact rfl)
    exact ⟨r, ms, cl, hρ.trans h1, by rw [R.w]; exact h2, hbb.1, hbb.2, h4.ren R, h5⟩
  | mrow k v ess =>
    obtain ⟨b, cap, d, el, ms, h1, h2, h3, hB, h4, h5, h6, h7, h8, h9, h10⟩ := h
    have hbb := hb b (by rw [h1]; exact ⟨_, List.mem_cons_self .., rfl⟩)
    refine ⟨b, cap, d, el, ms, hρ.trans h1, by rw [R.w]; exact h2, hbb.1, hbb.2, h4, h5, h6, h7, h8, h9, fun i es hi => ?_⟩
    obtain ⟨m', g1, r, ents, cl, g2, g3, g4, g5, g6, g7⟩ := h10 i es hi
    have hbr := hb r (by rw [h1]; exact ⟨m', List.mem_cons_of_mem _ (List.mem_of_getElem? g1), by rw [g2]; rfl⟩)
    exact ⟨m', g1, r, ents, cl, g2, by rw [R.w]; exact g3, hbr.1, hbr.2, g6.ren R, g7⟩

theorem sameShape_ren {π' : Nat → Option Nat} {c d : Cell} (h : sameShape (c.ren π) d) : sameShape c (d.ren π') := by
  cases c <;> cases d <;> simp only [Cell.ren, sameShape] at h ⊢ <;> first | exact h | (rw [renL_length] at h ⊢; exact h)
end
end Go.AM

/- A call of a procedure, sound. -/
namespace Go.AM
open Go

/-- g does what F says to its arguments and to the objects that it is given under the names nin; it leaves those of the names nout -/
def SoundProc (P : Program) (g : Nat) (nin nout : List Nat) (F : List AV → List Cell → Option (AV × List Cell)) : Prop :=
  (∃ fn, P.funcs[g]? = some fn ∧ fn.body.isSome = true ∧ fn.name ≠ "runtime.NumGoroutine") ∧
  ∀ (args : List AV) (cells : List Cell) (v : AV) (cells' : List Cell), F args cells = some (v, cells') → cells.length = nin.length → cells'.length = nout.length →
    ∀ (S : Sit) (vs : List Value), HRel S → S.hp = (fun n => look .free (nin.zip cells) n) → VRelL S args vs → AV.namesL (fun m => S.hp m ≠ .free) args →
      Calls P g vs.toArray S.w fun e w' => ∃ (u : Value) (T : Sit), e = .returned u ∧ T.w = w' ∧ HRel T ∧ Ext (fun _ => True) S T ∧ v.closed = true ∧ VRel T v u ∧
        T.hp = (fun n => look (if nin.contains n = true then .dead else .free) (nout.zip cells') n)

/-- the heap after the call -/
def finHp (ns ms : List (Nat × Nat)) (cells' : List Cell) (h : Hp) : Hp := fun n =>
  look (if (ns.map (·.1)).contains n = true then .dead else h n) ((ms.map (·.1)).zip (cells'.map (Cell.ren (pinv ms)))) n

structure ProcOk (ns ms : List (Nat × Nat)) : Prop where
  n1 : nodupB (ns.map (·.1)) = true
  n2 : nodupB (ns.map (·.2)) = true
  m1 : nodupB (ms.map (·.1)) = true
  m2 : nodupB (ms.map (·.2)) = true
  e : ∀ p ∈ ms, ∀ q ∈ ns, (p.1 = q.1 ↔ p.2 = q.2)

theorem procOk_of {ns ms : List (Nat × Nat)} (h : procOk ns ms = true) : ProcOk ns ms := by
  unfold procOk at h
  simp only [Bool.and_eq_true] at h
  obtain ⟨⟨⟨⟨h1, h2⟩, h3⟩, h4⟩, h5⟩ := h
  refine ⟨h1, h2, h3, h4, fun p hp q hq => ?_⟩
  have := List.all_eq_true.1 (List.all_eq_true.1 h5 p hp) q hq
  simp only [beq_iff_eq] at this
  constructor
  · intro e
    have e1 : (p.1 == q.1) = true := by simp [e]
    rw [e1] at this
    simpa using this.symm
  · intro e
    have e1 : (p.2 == q.2) = true := by simp [e]
    rw [e1] at this
    simpa using this

/-! ### what the machine's run of such a call says -/

section run
variable {call : Call} {R : Type} {K : AV → Hp → Option R} {r : R}

theorem run_rdAll_inv : ∀ {l : List Nat} {k : List Cell → M} {h : Hp}, (rdAll l k).run call K h = some r → (∀ n ∈ l, cellLive (h n)) ∧ (k (l.map h)).run call K h = some r
  | [], _, _, e => ⟨fun _ hn => (by cases hn), e⟩
  | n :: l, k, h, e => by
    unfold rdAll at e
    replace e := run_rd_inv e
    split at e
    · rename_i hl
      obtain ⟨h1, h2⟩ := run_rdAll_inv e
      refine ⟨fun m hm => ?_, h2⟩
      rcases List.mem_cons.1 hm with rfl | hm
      · exact hl
      · exact h1 m hm
    · exact (run_fail_inv e).elim

theorem run_wrDead_inv : ∀ {l : List Nat} {x : M} {h : Hp}, (wrDead l x).run call K h = some r → x.run call K (fun n => if l.contains n = true then .dead else h n) = some r
  | [], _, _, e => e
  | n :: l, x, h, e => by
    unfold wrDead at e
    replace e := run_wrDead_inv (run_wr_inv e)
    have : (fun m => if l.contains m = true then Cell.dead else upd h n .dead m) = fun m => if (n :: l).contains m = true then .dead else h m := by
      funext m
      unfold upd
      by_cases hm : m = n
      · subst hm; simp
      · rw [if_neg hm]
        have : (n :: l).contains m = l.contains m := by
          rw [List.contains_cons]
          have : (m == n) = false := by simp [hm]
          rw [this, Bool.false_or]
        rw [this]
    rw [this] at e
    exact e

theorem run_wrNew_inv {old : List (Nat × Nat)} : ∀ {l : List ((Nat × Nat) × Cell)} {x : M} {h : Hp}, (wrNew old l x).run call K h = some r → nodupB (l.map fun q => q.1.1) = true →
    (∀ q ∈ l, q.1 ∈ old ∨ h q.1.1 = .free) ∧ x.run call K (fun n => look (h n) (l.map fun q => (q.1.1, q.2)) n) = some r
  | [], _, _, e, _ => ⟨fun _ hq => by (cases hq), e⟩
  | (p, c) :: l, x, h, e, hn => by
    obtain ⟨n1, n2⟩ := nodupB_cons hn
    have step : (wrNew old l x).run call K (upd h p.1 c) = some r → (∀ q ∈ l, q.1 ∈ old ∨ h q.1.1 = .free) ∧ x.run call K (fun n => look (h n) (((p, c) :: l).map fun q => (q.1.1, q.2)) n) = some r := by
      intro e
      obtain ⟨h1, h2⟩ := run_wrNew_inv e n2
      refine ⟨fun q hq => (h1 q hq).imp id fun hf => ?_, ?_⟩
      · rwa [upd_other (n1 _ (List.mem_map.2 ⟨q, hq, rfl⟩))] at hf
      · have : (fun n => look (upd h p.1 c n) (l.map fun q => (q.1.1, q.2)) n) = fun n => look (h n) (((p, c) :: l).map fun q => (q.1.1, q.2)) n := by
          funext n
          show _ = (if n = p.1 then c else look (h n) (l.map fun q => (q.1.1, q.2)) n)
          by_cases hnp : n = p.1
          · subst hnp
            rw [if_pos rfl, upd_same]
            refine look_none fun q hq => ?_
            obtain ⟨q', hq', rfl⟩ := List.mem_map.1 hq
            exact n1 _ (List.mem_map.2 ⟨q', hq', rfl⟩)
          · rw [if_neg hnp, upd_other hnp]
        rw [this] at h2
        exact h2
    unfold wrNew at e
    split at e
    · rename_i ho
      obtain ⟨h1, h2⟩ := step (run_wr_inv e)
      refine ⟨fun q hq => ?_, h2⟩
      rcases List.mem_cons.1 hq with rfl | hq
      · exact .inl (by simpa using ho)
      · exact h1 q hq
    · replace e := run_rd_inv e
      split at e
      · rename_i hf
        obtain ⟨h1, h2⟩ := step (run_wr_inv e)
        refine ⟨fun q hq => ?_, h2⟩
        rcases List.mem_cons.1 hq with rfl | hq
        · exact .inr hf
        · exact h1 q hq
      · exact (run_fail_inv e).elim

theorem run_procM_inv {g : Nat} {ns ms : List (Nat × Nat)} {args : List AV} {h : Hp} (e : (procM g ns ms args).run call K h = some r) :
    ProcOk ns ms ∧ (∀ p ∈ ns, cellLive (h p.1)) ∧ ∃ v cells', call.pv g (AV.renL (pmap ns) args) (ns.map fun p => (h p.1).ren (pmap ns)) = some (v, cells') ∧ cells'.length = ms.length ∧ (∀ c ∈ cells', cellLive c) ∧
      (∀ p ∈ ms, p ∈ ns ∨ h p.1 = .free) ∧ K v (finHp ns ms cells' h) = some r := by
  unfold procM at e
  split at e
  · rename_i hok
    have O := procOk_of hok
    obtain ⟨h1, h2⟩ := run_rdAll_inv e
    obtain ⟨v, cells', h3, h4⟩ := run_pcall_inv h2
    split at h4
    · rename_i hc
      simp only [Bool.and_eq_true, decide_eq_true_eq, List.all_eq_true] at hc
      have hlen : (cells'.map (Cell.ren (pinv ms))).length = ms.length := by rw [List.length_map]; exact hc.1
      have e1 : (ms.zip (cells'.map (Cell.ren (pinv ms)))).map (fun q => q.1.1) = ms.map (·.1) := by
        rw [show (fun q : (Nat × Nat) × Cell => q.1.1) = (fun p : Nat × Nat => p.1) ∘ Prod.fst from rfl, ← List.map_map, List.map_fst_zip (by omega)]
      have e2 : (ms.zip (cells'.map (Cell.ren (pinv ms)))).map (fun q => (q.1.1, q.2)) = (ms.map (·.1)).zip (cells'.map (Cell.ren (pinv ms))) := by
        rw [List.zip_map_left]
        rfl
      obtain ⟨h5, h6⟩ := run_wrNew_inv (run_wrDead_inv h4) (by rw [e1]; exact O.m1)
      rw [e2] at h6
      have hin : ∀ p ∈ ns, ∀ n, n = p.1 → ((ns.filter fun p => !ms.contains p).map (·.1)).contains n = true ∨ ∃ q ∈ ms, q.1 = n := by
        intro p hp n hn
        by_cases hm : p ∈ ms
        · exact .inr ⟨p, hm, hn.symm⟩
        · left
          rw [List.contains_iff_mem]
          exact List.mem_map.2 ⟨p, List.mem_filter.2 ⟨hp, by simpa using hm⟩, hn.symm⟩
      have hfin : (fun n => look (if ((ns.filter fun p => !ms.contains p).map (·.1)).contains n = true then Cell.dead else h n) ((ms.map (·.1)).zip (cells'.map (Cell.ren (pinv ms)))) n) = finHp ns ms cells' h := by
        funext n
        unfold finHp
        by_cases hq : ∃ q ∈ ms, q.1 = n
        · obtain ⟨q, hq, rfl⟩ := hq
          obtain ⟨i, hi, e⟩ := List.mem_iff_getElem.1 hq
          have hi' : i < (cells'.map (Cell.ren (pinv ms))).length := by omega
          have k1 : (ms.map (·.1))[i]? = some q.1 := by rw [List.getElem?_map, List.getElem?_eq_getElem hi, e]; rfl
          rw [look_zip O.m1 k1 (List.getElem?_eq_getElem hi'), look_zip O.m1 k1 (List.getElem?_eq_getElem hi')]
        · have hno : ∀ q ∈ ms.map (·.1), q ≠ n := fun q hq' e => by
            obtain ⟨p, hp, rfl⟩ := List.mem_map.1 hq'
            exact hq ⟨p, hp, e⟩
          rw [look_zip_none hno, look_zip_none hno]
          by_cases hn : ∃ p ∈ ns, p.1 = n
          · obtain ⟨p, hp, rfl⟩ := hn
            have c1 : (ns.map (·.1)).contains p.1 = true := by rw [List.contains_iff_mem]; exact List.mem_map.2 ⟨p, hp, rfl⟩
            rcases hin p hp p.1 rfl with hd | hd
            · rw [if_pos hd, if_pos c1]
            · exact absurd hd hq
          · rw [if_neg, if_neg]
            · intro hc; rw [List.contains_iff_mem] at hc; obtain ⟨p, hp, e⟩ := List.mem_map.1 hc; exact hn ⟨p, hp, e⟩
            · intro hc; rw [List.contains_iff_mem] at hc; obtain ⟨p, hp, e⟩ := List.mem_map.1 hc; exact hn ⟨p, (List.mem_filter.1 hp).1, e⟩
      rw [hfin] at h6
      rw [List.map_map, List.map_map] at h3
      refine ⟨O, fun p hp => h1 _ (List.mem_map.2 ⟨p, hp, rfl⟩), v, cells', h3, hc.1, fun c hcc => hc.2 c hcc, fun p hp => ?_, run_pure_inv h6⟩
      obtain ⟨i, hi, e⟩ := List.mem_iff_getElem.1 hp
      have hi' : i < (ms.zip (cells'.map (Cell.ren (pinv ms)))).length := by rw [List.length_zip]; omega
      have hz := h5 ((ms.zip (cells'.map (Cell.ren (pinv ms))))[i]) (List.getElem_mem hi')
      rw [List.getElem_zip, e] at hz
      refine hz.imp id fun hf => ?_
      by_cases hns : p ∈ ns
      · have : ((ns.filter fun p => !ms.contains p).map (·.1)).contains p.1 = true ∨ ¬ ((ns.filter fun p => !ms.contains p).map (·.1)).contains p.1 = true := Classical.em _
        rcases this with hd | hd
        · rw [if_pos hd] at hf; cases hf
        · rw [if_neg hd] at hf; exact hf
      · rw [if_neg] at hf
        · exact hf
        · intro hc2
          rw [List.contains_iff_mem] at hc2
          obtain ⟨q, hq, e3⟩ := List.mem_map.1 hc2
          have hqn := (List.mem_filter.1 hq).1
          have e4 := (O.e p hp q hqn).1 e3.symm
          exact hns (by rw [show p = q from Prod.ext e3.symm e4]; exact hqn)
    · exact (run_fail_inv h4).elim
  · exact (run_fail_inv e).elim
end run

/-! ### the step -/

theorem proc_step {P : Program} {g : Nat} {F : List AV → List Cell → Option (AV × List Cell)} {ns ms : List (Nat × Nat)} (hP : SoundProc P g (ns.map (·.2)) (ms.map (·.2)) F) (O : ProcOk ns ms)
    {S : Sit} (H : HRel S) {args : List AV} {vs : List Value} (hv : VRelL S args vs) (hlive : ∀ p ∈ ns, cellLive (S.hp p.1)) {v : AV} {cells' : List Cell}
    (hF : F (AV.renL (pmap ns) args) (ns.map fun p => (S.hp p.1).ren (pmap ns)) = some (v, cells')) (hlen : cells'.length = ms.length) (hlive' : ∀ c ∈ cells', cellLive c) (hnew : ∀ p ∈ ms, p ∈ ns ∨ S.hp p.1 = .free) :
    Calls P g vs.toArray S.w fun e w' => ∃ (u : Value) (U : Sit), e = .returned u ∧ U.w = w' ∧ HRel U ∧ Ext (fun _ => True) S U ∧ v.closed = true ∧ VRel U v u ∧ U.hp = finHp ns ms cells' S.hp := by
  -- the caller's objects as the procedure sees them
  let S' : Sit := ⟨S.w, S.I, fun c => match pinv ns c with | some n => S.ρ n | none => .nilIface, fun n => look .free ((ns.map (·.2)).zip (ns.map fun p => (S.hp p.1).ren (pmap ns))) n,
    fun b => S.B b ∨ ∃ m, cellLive (S.hp m) ∧ (∀ p ∈ ns, p.1 ≠ m) ∧ hasBlk (S.ρ m) b⟩
  have f1 : ∀ p ∈ ns, S'.hp p.2 = (S.hp p.1).ren (pmap ns) := fun p hp => by
    show look .free ((ns.map (·.2)).zip (ns.map fun p => (S.hp p.1).ren (pmap ns))) p.2 = _
    rw [List.zip_map']
    exact look_mem_of (f := fun p : Nat × Nat => (p.2, (S.hp p.1).ren (pmap ns))) O.n2 hp
  have f2 : ∀ n, (∀ p ∈ ns, p.2 ≠ n) → S'.hp n = .free := fun n hn => look_zip_none fun q hq => by
    obtain ⟨p, hp, rfl⟩ := List.mem_map.1 hq
    exact hn p hp
  have f3 : ∀ p ∈ ns, S'.ρ p.2 = S.ρ p.1 := fun p hp => by
    show (match pinv ns p.2 with | some n => S.ρ n | none => .nilIface) = _
    rw [pinv_of O.n2 (n := p.1) (m := p.2) hp]
  have fl : ∀ p ∈ ns, cellLive (S'.hp p.2) := fun p hp => by
    rw [f1 p hp]; unfold cellLive; rw [ren_live]; exact hlive p hp
  have fcase : ∀ n, (∃ p ∈ ns, p.2 = n) ∨ S'.hp n = .free := fun n => by
    by_cases h : ∃ p ∈ ns, p.2 = n
    · exact .inl h
    · exact .inr (f2 n fun p hp e => h ⟨p, hp, e⟩)
  have R : Ren (pmap ns) S S' := ⟨rfl, fun _ h => h, fun n m hnm => ⟨f3 _ (pmap_mem hnm), f1 _ (pmap_mem hnm)⟩⟩
  have hne : ∀ p ∈ ns, ∀ b, hasBlk (S.ρ p.1) b → ¬ S'.B b := fun p hp b hb hB => by
    rcases hB with hB | ⟨m, h1, h2, h3⟩
    · exact H.geB (hlive p hp) hb hB
    · exact H.ds p.1 m b (h2 p hp) (hlive p hp) h1 hb h3
  have H' : HRel S' := by
    refine ⟨fun n => ?_, fun n m b hnm hn hm hb => ?_, H.il, fun b hb => ?_, fun n cs hcs => ?_⟩
    · rcases fcase n with ⟨p, hp, rfl⟩ | h
      · rw [f1 p hp]
        exact ObjAt.ren R (H.ob p.1) (f3 p hp) fun b hb => ⟨H.notI (hlive p hp) hb, hne p hp b hb⟩
      · rw [h]; trivial
    · rcases fcase n with ⟨p, hp, rfl⟩ | h
      · rcases fcase m with ⟨q, hq, rfl⟩ | h
        · rw [f3 p hp] at hb
          rw [f3 q hq]
          refine H.ds p.1 q.1 b (fun e => hnm ?_) (hlive p hp) (hlive q hq) hb
          have h1 := pmap_of O.n1 (n := p.1) (m := p.2) hp
          have h2 := pmap_of O.n1 (n := q.1) (m := q.2) hq
          rw [e, h2] at h1
          exact (Option.some.inj h1).symm
        · rw [h] at hm; cases hm
      · rw [h] at hn; cases hn
    · rcases hb with hb | ⟨m, h1, _, h3⟩
      · exact H.bl b hb
      · exact H.lt h1 h3
    · rcases fcase n with ⟨p, hp, rfl⟩ | h
      · rw [f1 p hp] at hcs
        cases hc : S.hp p.1 <;> rw [hc] at hcs <;> simp only [Cell.ren, Cell.box.injEq, reduceCtorEq] at hcs
        subst hcs
        refine AV.namesL_ren (fun n0 m hnm hf => ?_) _
        have := fl _ (pmap_mem hnm)
        rw [hf] at this; cases this
      · rw [h] at hcs; cases hcs
  refine Calls.mono (hP.2 _ _ v cells' hF (by simp) (by simp [hlen]) S' vs H' rfl (VRelL.ren R args hv) (AV.namesL_ren (fun n m hnm hf => by have := fl _ (pmap_mem hnm); rw [hf] at this; cases this) args)) fun e w' he => ?_
  obtain ⟨u, T, rfl, rfl, HT, ET, hcl, hvu, hThp⟩ := he
  -- back
  have hx : ∀ p ∈ ms, ∃ x ∈ cells', T.hp p.2 = x ∧ finHp ns ms cells' S.hp p.1 = x.ren (pinv ms) := fun p hp => by
    obtain ⟨i, hi, e⟩ := List.mem_iff_getElem.1 hp
    have hi' : i < cells'.length := by omega
    refine ⟨cells'[i], List.getElem_mem hi', ?_, ?_⟩
    · rw [hThp]
      exact look_zip O.m2 (by rw [List.getElem?_map, List.getElem?_eq_getElem hi, e]; rfl) (List.getElem?_eq_getElem hi')
    · exact look_zip O.m1 (i := i) (by rw [List.getElem?_map, List.getElem?_eq_getElem hi, e]; rfl) (by rw [List.getElem?_map, List.getElem?_eq_getElem hi']; rfl)
  let U : Sit := ⟨T.w, T.I, fun n => match pmap ms n with | some c => T.ρ c | none => S.ρ n, finHp ns ms cells' S.hp, S.B⟩
  have u1 : ∀ p ∈ ms, U.hp p.1 = (T.hp p.2).ren (pinv ms) ∧ U.ρ p.1 = T.ρ p.2 ∧ cellLive (T.hp p.2) := fun p hp => by
    obtain ⟨x, hx1, hx2, hx3⟩ := hx p hp
    refine ⟨by rw [hx2]; exact hx3, ?_, by rw [hx2]; exact hlive' x hx1⟩
    show (match pmap ms p.1 with | some c => T.ρ c | none => S.ρ p.1) = _
    rw [pmap_of O.m1 (n := p.1) (m := p.2) hp]
  have u2 : ∀ n, (∀ p ∈ ms, p.1 ≠ n) → U.hp n = (if (ns.map (·.1)).contains n = true then .dead else S.hp n) ∧ U.ρ n = S.ρ n := fun n hn => by
    refine ⟨look_zip_none fun q hq => ?_, ?_⟩
    · obtain ⟨p, hp, rfl⟩ := List.mem_map.1 hq
      exact hn p hp
    · show (match pmap ms n with | some c => T.ρ c | none => S.ρ n) = _
      have : pmap ms n = none := look_none fun q hq => by
        obtain ⟨p, hp, rfl⟩ := List.mem_map.1 hq
        exact hn p hp
      rw [this]
  have hnsIn : ∀ n, (ns.map (·.1)).contains n = true ↔ ∃ p ∈ ns, p.1 = n := fun n => by
    rw [List.contains_iff_mem, List.mem_map]
  -- the three sorts of names
  have ucase : ∀ n, (∃ p ∈ ms, p.1 = n) ∨ ((∀ p ∈ ms, p.1 ≠ n) ∧ (∃ p ∈ ns, p.1 = n) ∧ U.hp n = .dead) ∨ ((∀ p ∈ ns, p.1 ≠ n) ∧ U.hp n = S.hp n ∧ U.ρ n = S.ρ n) := fun n => by
    by_cases h : ∃ p ∈ ms, p.1 = n
    · exact .inl h
    · have hno : ∀ p ∈ ms, p.1 ≠ n := fun p hp e => h ⟨p, hp, e⟩
      obtain ⟨a1, a2⟩ := u2 n hno
      by_cases hn : ∃ p ∈ ns, p.1 = n
      · rw [if_pos ((hnsIn n).2 hn)] at a1
        exact .inr (.inl ⟨hno, hn, a1⟩)
      · rw [if_neg fun hc => hn ((hnsIn n).1 hc)] at a1
        exact .inr (.inr ⟨fun p hp e => hn ⟨p, hp, e⟩, a1, a2⟩)
  have E : Ext (fun _ => True) S U := by
    refine ⟨fun b hb => ET.i b hb, ET.s, rfl, fun b hb => ET.o b (.inl hb), fun n _ hn => ?_, fun n _ hn => ?_, fun b hI hB => ET.j b hI (.inl hB), ET.q⟩
    · rcases ucase n with ⟨p, hp, rfl⟩ | ⟨_, _, h⟩ | ⟨_, h1, h2⟩
      · obtain ⟨a1, a2, a3⟩ := u1 p hp
        rcases hnew p hp with hns | hf
        · have hnf : S'.hp p.2 ≠ .free := fun h => by have := fl p hns; rw [h] at this; cases this
          rcases ET.f p.2 trivial hnf with hd | ⟨g1, g2⟩
          · rw [hd] at a3; cases a3
          · right
            rw [f1 p hns] at g2
            refine ⟨by rw [a2, g1]; exact f3 p hns, ?_⟩
            rw [a1]
            exact sameShape_ren g2
        · exact absurd hf hn
      · exact .inl h
      · rw [h1, h2]
        by_cases hl : cellLive (S.hp n)
        · exact .inr ⟨rfl, sameShape_refl hl⟩
        · left
          cases hc : S.hp n <;> rw [hc] at hl hn <;> simp [cellLive, Cell.live] at hl hn ⊢
    · rcases ucase n with ⟨p, hp, rfl⟩ | ⟨_, ⟨p, hp, rfl⟩, h⟩ | ⟨_, h1, h2⟩
      · rcases hnew p hp with hns | hf
        · have := hlive p hns; rw [hn] at this; cases this
        · rw [hn] at hf; cases hf
      · exact h
      · rw [h1]; exact hn
  have hTB : ∀ b, S'.B b → T.B b := fun b hb => by rw [ET.b]; exact hb
  have RU : Ren (pinv ms) T U := ⟨rfl, fun _ h => h, fun c n hcn => ⟨(u1 _ (pinv_mem hcn)).2.1, (u1 _ (pinv_mem hcn)).1⟩⟩
  have HU : HRel U := by
    refine ⟨fun n => ?_, fun n m b hnm hn hm hb => ?_, HT.il, fun b hb => Nat.lt_of_lt_of_le (H.bl b hb) ET.s, fun n cs hcs => ?_⟩
    · rcases ucase n with ⟨p, hp, rfl⟩ | ⟨_, _, h⟩ | ⟨h0, h1, h2⟩
      · obtain ⟨a1, a2, a3⟩ := u1 p hp
        rw [a1]
        exact ObjAt.ren RU (HT.ob p.2) a2 fun b hb => ⟨HT.notI a3 hb, fun hB => HT.geB a3 hb (hTB b (.inl hB))⟩
      · rw [h]; trivial
      · rw [h1]
        by_cases hl : cellLive (S.hp n)
        · refine (H.ob n).later E (fun cs hcs => H.nb n cs hcs) h2 fun b hb => ?_
          have hB : S'.B b := .inr ⟨n, hl, h0, hb⟩
          exact ⟨ET.o b hB, fun hI => ET.j b hI hB⟩
        · have : S.hp n = .free ∨ S.hp n = .dead := by
            cases hc : S.hp n <;> rw [hc] at hl <;> simp [cellLive, Cell.live] at hl <;> simp
          rcases this with e | e <;> rw [e] <;> trivial
    · have out : ∀ n, cellLive (U.hp n) → (∃ p ∈ ms, p.1 = n) ∨ ((∀ p ∈ ns, p.1 ≠ n) ∧ cellLive (S.hp n) ∧ U.ρ n = S.ρ n) := fun n hn => by
        rcases ucase n with h | ⟨_, _, h⟩ | ⟨h0, h1, h2⟩
        · exact .inl h
        · rw [h] at hn; cases hn
        · exact .inr ⟨h0, by rw [← h1]; exact hn, h2⟩
      rcases out n hn with ⟨p, hp, rfl⟩ | ⟨a1, a2, a3⟩
      · obtain ⟨p1, p2, p3⟩ := u1 p hp
        rw [p2] at hb
        rcases out m hm with ⟨q, hq, rfl⟩ | ⟨a1, a2, a3⟩
        · obtain ⟨q1, q2, q3⟩ := u1 q hq
          rw [q2]
          refine HT.ds p.2 q.2 b (fun e => hnm ?_) p3 q3 hb
          have h1 := pinv_of O.m2 (n := p.1) (m := p.2) hp
          have h2 := pinv_of O.m2 (n := q.1) (m := q.2) hq
          rw [e, h2] at h1
          exact (Option.some.inj h1).symm
        · rw [a3]
          exact fun hbm => HT.geB p3 hb (hTB b (.inr ⟨m, a2, a1, hbm⟩))
      · rw [a3] at hb
        rcases out m hm with ⟨q, hq, rfl⟩ | ⟨c1, c2, c3⟩
        · obtain ⟨q1, q2, q3⟩ := u1 q hq
          rw [q2]
          exact fun hbm => HT.geB q3 hbm (hTB b (.inr ⟨n, a2, a1, hb⟩))
        · rw [c3]
          exact H.ds n m b hnm a2 c2 hb
    · rcases ucase n with ⟨p, hp, rfl⟩ | ⟨_, _, h⟩ | ⟨h0, h1, h2⟩
      · obtain ⟨a1, a2, a3⟩ := u1 p hp
        rw [a1] at hcs
        cases hc : T.hp p.2 <;> rw [hc] at hcs <;> simp only [Cell.ren, Cell.box.injEq, reduceCtorEq] at hcs
        subst hcs
        refine AV.namesL_ren (fun c0 n0 hcn hf => ?_) _
        obtain ⟨q1, q2, q3⟩ := u1 _ (pinv_mem hcn)
        simp only at q1 q3
        rw [q1] at hf
        have : cellLive ((T.hp c0).ren (pinv ms)) := by unfold cellLive; rw [ren_live]; exact q3
        rw [hf] at this; cases this
      · rw [h] at hcs; cases hcs
      · rw [h1] at hcs
        exact AV.namesL_imp (fun m hm => E.nonfree trivial hm) cs (H.nb n cs hcs)
  exact ⟨u, U, rfl, rfl, HU, E, hcl, VRel.closed (S := T) (T := U) (fun b hb => ⟨hb, rfl⟩) v hcl hvu, rfl⟩
end Go.AM

/- maps.Keys of a map and slices.Sorted of what it hands back: what is asked of them. -/
namespace Go.AM
open Go

/-- f is maps.Keys: it hands back the closure c over the map -/
def KeysOk (P : Program) (f c : Nat) : Prop :=
  (∃ fn, P.funcs[f]? = some fn ∧ fn.body.isSome = true ∧ fn.name ≠ "runtime.NumGoroutine") ∧
  ∃ E : TypeId, ∀ (w : World) (m : Option Nat), Calls P f #[.map m] w fun e w' => e = .returned (.func (.func c) #[] #[.pointer (some ⟨w.heap.size, 0, none⟩)]) ∧ w' = w.alloc (.cells #[.map m] E)

/-- g is slices.Sorted: over that closure it hands back the keys, sorted, in a new slice -/
def SortedOk (P : Program) (g c : Nat) : Prop :=
  (∃ fn, P.funcs[g]? = some fn ∧ fn.body.isSome = true ∧ fn.name ≠ "runtime.NumGoroutine") ∧
  ∀ (w : World) (I : Nat → Prop) (b r : Nat) (ents : Array MapEntry) (clock : Nat) (ks : List Int), (∀ b, I b → b < w.heap.size) → w.cell? ⟨b, 0, none⟩ = some (.map (some r)) → w.heap[r]? = some (.map ents clock) → MapKept.Stamped ents clock →
    ents.size ≤ lim → ents.toList.map (·.key) = ks.map (Value.int .i64) → i64ok ks = true →
      Calls P g #[.func (.func c) #[] #[.pointer (some ⟨b, 0, none⟩)]] w fun en w' => ∃ v, en = .returned v ∧ w.heap.size ≤ w'.heap.size ∧ (∀ b, b < w.heap.size → w'.heap[b]? = w.heap[b]?) ∧ SameOut w w' ∧
        v.oneCell' = true ∧ ObjAt ⟨w', I, fun _ => v, fun _ => .free, fun b => b < w.heap.size⟩ 0 (.row (.int .i64) (sortedInts ks))
end Go.AM

/- Each operation, sixth part: conversions, numbers, calls; all of them together. -/
namespace Go.AM
open Go

section ops
variable {P : Program} {Γ : TEnv} {call : Call} {S : Sit} {fr : Nat → AV} {a : Act} {R : Type} {K : AV → Hp → Option R} {r : R}
  {next : Act → World → Prop} {Q : Exit → Act → World → Prop} {nm : Nat}

theorem plain_names {p : Nat → Prop} {c : AV} (h : c.closed = true) : c.names p := AV.names_closed c h

theorem sound_convert (hΓ : Γ.ok P = true) {o : Oper} {s d : Nat} {x : Operand} (ho : o.op = .convert s d x) (H : HRel S) (F : FRel S fr a)
    (h : (aop Γ nm (ev fr) (.convert s d x)).run call K S.hp = some r) (hP : Post S K r fun v w => next (a.put o.dst v) w) : o.wp P a S.w next Q := by
  simp only [aop] at h
  have hx := ev_rel F x
  split at h
  · rename_i ks kd q n hs hd hxn
    rw [hxn] at hx
    have hx := hx.int_inv
    refine wp_value (v := .int kd (kd.wrap n)) ?_ (hP.stay H (run_pure_inv h) .int_mk (plain_names rfl))
    simp [execOp, ho, hx, convert, run_underlying (kOk_int (TEnv.kind_ok hΓ hs)), run_underlying (kOk_int (TEnv.kind_ok hΓ hd)), Conv.intToInt]
  · rename_i t hs hd hxn
    rw [hxn] at hx
    have hx := hx.str_inv
    refine wp_value (v := strOf t) ?_ (hP.stay H (run_pure_inv h) .str_mk (plain_names rfl))
    simp [execOp, ho, hx, strOf, convert, run_underlying (kOk_str (TEnv.kind_ok hΓ hs)), run_underlying (kOk_str (TEnv.kind_ok hΓ hd))]
  · rename_i hs hd
    obtain ⟨xs, hxs, h2⟩ := elems_inv H hx h
    obtain ⟨E, hu, hE⟩ := kOk_slice (TEnv.kind_ok hΓ hs)
    have hE := kOk_int hE
    have hds := kOk_str (TEnv.kind_ok hΓ hd)
    refine wp_value (v := strOf (xs.map fun n => UInt8.ofNat n.toNat)) ?_ (hP.stay H (run_pure_inv h2) .str_mk (plain_names rfl))
    obtain ⟨ad, len, cap, hv, hl, hc⟩ := hxs
    have hrun : (convert s d (a.eval x)).run P S.w = .ok (strOf (xs.map fun n => UInt8.ofNat n.toNat)) S.w := by
      rw [hv]
      rcases hc with hc | ⟨b, oo, rfl, hc⟩
      · have hx0 : xs = [] := List.eq_nil_of_length_eq_zero (by omega)
        subst hx0
        cases ad with
        | none => rw [run_convert_bytes_nil S.w s E hu hE _ _ d hds]; rfl
        | some ad =>
          rw [run_convert_bytes_string S.w s d E _ len cap hu hE hds, run_bytesToString S.w ad len cap [] (by rw [hc]; rfl)]
          rfl
      · exact run_convert_bytes_arg S.w s E hu hE b oo len cap xs hl.symm (fun i hi => by
          obtain ⟨us, h1, h3⟩ := hc i hi
          have h1 : us = [.int .u8 (xs.getD i 0)] := h1
          have := h3 0 (.int .u8 (xs.getD i 0)) (by rw [h1]; rfl)
          simpa [Kind.size] using this) d hds
    simp only [execOp, ho, hrun, Sem.run_bind, Result.andThen_ok, Sem.run_pure]
  · rename_i t hs hd hxn
    rw [hxn] at hx
    have hx := hx.str_inv
    obtain ⟨E, hu, hE⟩ := kOk_slice (TEnv.kind_ok hΓ hd)
    have hE := kOk_int hE
    have hss := kOk_str (TEnv.kind_ok hΓ hs)
    have hrun := Lib.run_convert_string_bytes (P := P) S.w s d E ⟨t.toArray⟩ hss hu hE
    have hsz : (ByteArray.mk t.toArray).size = t.length := by simp [ByteArray.size]
    have hge := grownCap_ge S.w (ByteArray.mk t.toArray).size 0 E
    have E1 : Ext Top S { S with w := Lib.bytesWorld S.w E ⟨t.toArray⟩, I := fun b => S.I b ∨ b = S.w.heap.size } := by
      refine ⟨fun b hb => ⟨.inl hb, Lib.bytesWorld_at_old _ _ _ _ (H.il b hb)⟩, by rw [Lib.bytesWorld_size]; omega, rfl, fun b hb => Lib.bytesWorld_at_old _ _ _ _ (H.bl b hb), fun n _ hn => ?_, fun n _ hn => hn, fun b hb hlt => hb.elim id fun e => absurd hlt (e ▸ H.newB), ⟨rfl, rfl⟩⟩
      by_cases hl : cellLive (S.hp n)
      · exact .inr ⟨rfl, sameShape_refl hl⟩
      · left
        cases hc : S.hp n <;> rw [hc] at hl hn <;> simp [cellLive, Cell.live] at hl hn ⊢
    have H1 : HRel { S with w := Lib.bytesWorld S.w E ⟨t.toArray⟩, I := fun b => S.I b ∨ b = S.w.heap.size } :=
      H.world E1 rfl rfl (fun b hb => Lib.bytesWorld_at_old _ _ _ _ hb) (fun b hb hI => hI.elim id fun e => by omega)
        (fun b hb => by rw [Lib.bytesWorld_size]; rcases hb with hb | hb; · have := H.il b hb; omega
                        · omega)
    refine wp_value (v := .slice (some ⟨S.w.heap.size, 0, none⟩) t.length (grownCap S.w (ByteArray.mk t.toArray).size 0 E)) (w' := Lib.bytesWorld S.w E ⟨t.toArray⟩) ?_
      (hP (.sl (.int .u8) (t.map fun b => (b.toNat : Int))) _ _ (run_pure_inv h) H1 E1 ?_ (plain_names rfl))
    · rw [hsz] at hrun
      simp only [execOp, ho, hx, strOf, hrun, Sem.run_bind, Result.andThen_ok, Sem.run_pure, hsz]
    · refine .sl_mk ⟨_, _, _, rfl, by simp, by rw [hsz] at hge; exact hge, ?_⟩
      refine .inr ⟨S.w.heap.size, 0, rfl, .inr rfl, fun i hi => ?_⟩
      refine ⟨[.int .u8 ((t.getD i 0).toNat : Int)], ?_, fun j u hu => ?_⟩
      · show [Value.int .u8 ((t.getD i 0).toNat : Int)] = [Value.int .u8 ((t.map fun b => (b.toNat : Int)).getD i 0)]
        rw [List.getD_eq_getElem?_getD, List.getD_eq_getElem?_getD, List.getElem?_map, List.getElem?_eq_getElem hi]
        rfl
      · cases j with
        | zero =>
          simp only [List.getElem?_cons_zero, Option.some.injEq] at hu
          subst hu
          have := Lib.bytesWorld_cell S.w E ⟨t.toArray⟩ i (by rw [hsz]; exact hi)
          simpa [Kind.size] using this
        | succ j => simp at hu
  · cases h

theorem eqGuard_none {op : BinOp} {t : Nat} {x y : Operand} {v u : Value} (w : World)
    (h : ∀ l m, ¬ (v = .agg l ∧ u = .agg m)) (h2 : ¬ (v = .nilIface ∧ u = .nilIface)) : (eqGuard op t x y v u).run P w = .ok () w := by
  cases op <;> first
    | rfl
    | (cases v <;> cases u <;> first | rfl | (exact absurd ⟨rfl, rfl⟩ h2) | (exact absurd ⟨rfl, rfl⟩ (h _ _)))

theorem eqGuard_agg {op : BinOp} {t : Nat} {x y : Operand} {l m : Array Value} (w : World) (h : P.eqGuardType P.depth t = false) : (eqGuard op t x y (.agg l) (.agg m)).run P w = .ok () w := by
  cases op <;> first
    | rfl
    | (simp [eqGuard, h])

theorem run_intBin (w : World) {op : BinOp} {k : IntKind} {a b : Int} {t : Nat} (h1 : op ≠ .shl) (h2 : op ≠ .shr) (h3 : op ≠ .quo) (h4 : op ≠ .rem) :
    (∀ c, iarith op k a b = some c → (binOp op t (.int k a) (.int k b)).run P w = .ok (.int k c) w) ∧
    (∀ c, iarith op k a b = none → ibits op k a b = some c → (binOp op t (.int k a) (.int k b)).run P w = .ok (.int k c) w) ∧
    (∀ c, iarith op k a b = none → ibits op k a b = none → icmp op a b = some c → (binOp op t (.int k a) (.int k b)).run P w = .ok (.bool c) w) := by
  refine ⟨fun c h => ?_, fun c h h' => ?_, fun c h h' h'' => ?_⟩
  · cases op <;> first | (exact absurd rfl h1) | (exact absurd rfl h2) | (exact absurd rfl h3) | (exact absurd rfl h4) | (cases h; done) |
      (simp only [iarith, Option.some.injEq] at h; subst h; simp [binOp, Op.intArith])
  · cases op <;> first | (exact absurd rfl h1) | (exact absurd rfl h2) | (exact absurd rfl h3) | (exact absurd rfl h4) | (cases h'; done) | (cases h; done) |
      (simp only [ibits, Option.some.injEq] at h'; subst h'; simp [binOp, Op.intBits])
  · cases op <;> first | (exact absurd rfl h1) | (exact absurd rfl h2) | (exact absurd rfl h3) | (exact absurd rfl h4) | (cases h''; done) | (cases h'; done) | (cases h; done) |
      (simp only [icmp, Option.some.injEq] at h''; subst h''; simp [binOp, Op.intCmp]; done) |
      (simp only [icmp, Option.some.injEq] at h''; subst h''; simp [binOp, Op.intCmp]; rfl)

theorem sound_binOp (hΓ : Γ.ok P = true) {o : Oper} {op : BinOp} {t ty : Nat} {x y : Operand} (ho : o.op = .binOp op t x y ty) (H : HRel S) (F : FRel S fr a)
    (h : (aop Γ nm (ev fr) (.binOp op t x y ty)).run call K S.hp = some r) (hP : Post S K r fun v w => next (a.put o.dst v) w) : o.wp P a S.w next Q := by
  simp only [aop] at h
  have hx := ev_rel F x
  have hy := ev_rel F y
  have fin : ∀ (c : AV) (v : Value), (eqGuard op t x y (a.eval x) (a.eval y)).run P S.w = .ok () S.w → (binOp op t (a.eval x) (a.eval y)).run P S.w = .ok v S.w → K c S.hp = some r → VRel S c v → c.closed = true → o.wp P a S.w next Q := by
    intro c v hg hr hk hv hc
    refine wp_value (v := v) ?_ (hP.stay H hk hv (plain_names hc))
    simp only [execOp, ho, hg, hr, Sem.run_bind, Result.andThen_ok, Sem.run_pure]
  have ints : ∀ (k k' : IntKind) (n m : Int), ev fr x = .int k n → ev fr y = .int k' m → a.eval x = .int k n ∧ a.eval y = .int k' m ∧ (eqGuard op t x y (a.eval x) (a.eval y)).run P S.w = .ok () S.w := by
    intro k k' n m h1 h2
    rw [h1] at hx
    rw [h2] at hy
    refine ⟨hx.int_inv, hy.int_inv, ?_⟩
    rw [hx.int_inv, hy.int_inv]
    exact eqGuard_none S.w (fun l m h => by cases h.1) (fun h => by cases h.1)
  have strs : ∀ (n m : List UInt8), ev fr x = .str n → ev fr y = .str m → a.eval x = strOf n ∧ a.eval y = strOf m ∧ (eqGuard op t x y (a.eval x) (a.eval y)).run P S.w = .ok () S.w := by
    intro n m h1 h2
    rw [h1] at hx
    rw [h2] at hy
    refine ⟨hx.str_inv, hy.str_inv, ?_⟩
    rw [hx.str_inv, hy.str_inv]
    exact eqGuard_none S.w (fun l m h => by cases h.1) (fun h => by cases h.1)
  have bools : ∀ (n m : Bool), ev fr x = .bool n → ev fr y = .bool m → a.eval x = .bool n ∧ a.eval y = .bool m ∧ (eqGuard op t x y (a.eval x) (a.eval y)).run P S.w = .ok () S.w ∧
      (Γ.kind t = some .bool → (Op.equalIn Op.maxDepth t (.bool n) (.bool m)).run P S.w = .ok (n == m) S.w) := by
    intro n m h1 h2
    rw [h1] at hx
    rw [h2] at hy
    refine ⟨hx.bool_inv, hy.bool_inv, ?_, fun hk => ?_⟩
    · rw [hx.bool_inv, hy.bool_inv]
      exact eqGuard_none S.w (fun l m h => by cases h.1) (fun h => by cases h.1)
    · exact run_equalIn_bool' S.w 9999 t n m (kOk_bool (TEnv.kind_ok hΓ hk))
  have beqd : ∀ n m : List UInt8, (n == m) = decide (n = m) := by
    intro n m
    cases hh : decide (n = m) with
    | true => simp only [decide_eq_true_eq] at hh; rw [hh]; simp
    | false => simp only [decide_eq_false_iff_not] at hh; simp [hh]
  have szs : ∀ n : List UInt8, (ByteArray.mk n.toArray).size = n.length := fun n => by simp [ByteArray.size]
  unfold binM at h
  split at h
  · rename_i k n k' m h1 h2
    obtain ⟨e1, e2, hg⟩ := ints _ _ _ _ h1 h2
    obtain ⟨hc, h⟩ := run_brf_inv h
    simp only [decide_eq_true_eq] at hc
    refine fin _ _ hg ?_ (run_pure_inv h) .int_mk rfl
    rw [e1, e2]
    have : ¬ (m < 0) := by omega
    simp [binOp, Op.shift, this]
  · rename_i k n k' m h1 h2
    obtain ⟨e1, e2, hg⟩ := ints _ _ _ _ h1 h2
    obtain ⟨hc, h⟩ := run_brf_inv h
    simp only [decide_eq_true_eq] at hc
    refine fin _ _ hg ?_ (run_pure_inv h) .int_mk rfl
    rw [e1, e2]
    have : ¬ (m < 0) := by omega
    simp [binOp, Op.shift, this]
  · rename_i k n k' m h1 h2
    obtain ⟨e1, e2, hg⟩ := ints _ _ _ _ h1 h2
    split at h
    · rename_i hk
      subst hk
      rcases run_br_inv h with ⟨_, h⟩ | ⟨hc, h⟩
      · cases h
      · simp only [decide_eq_false_iff_not] at hc
        refine fin _ _ hg ?_ (run_pure_inv h) .int_mk rfl
        rw [e1, e2]
        simp [binOp, Op.intDiv, hc]
    · cases h
  · rename_i k n k' m h1 h2
    obtain ⟨e1, e2, hg⟩ := ints _ _ _ _ h1 h2
    split at h
    · rename_i hk
      subst hk
      rcases run_br_inv h with ⟨_, h⟩ | ⟨hc, h⟩
      · cases h
      · simp only [decide_eq_false_iff_not] at hc
        refine fin _ _ hg ?_ (run_pure_inv h) .int_mk rfl
        rw [e1, e2]
        simp [binOp, Op.intDiv, hc]
    · cases h
  · rename_i op _ _ _ k n k' m hsl hsr hqu hre h1 h2
    obtain ⟨e1, e2, hg⟩ := ints _ _ _ _ h1 h2
    split at h
    · rename_i hk
      subst hk
      obtain ⟨q1, q2, q3⟩ := run_intBin (P := P) S.w (op := op) (k := k) (a := n) (b := m) (t := t) hsl hsr hqu hre
      split at h
      · rename_i c hc
        exact fin _ _ hg (by rw [e1, e2]; exact q1 c hc) (run_pure_inv h) .int_mk rfl
      · rename_i hc0
        split at h
        · rename_i c hc
          exact fin _ _ hg (by rw [e1, e2]; exact q2 c hc0 hc) (run_pure_inv h) .int_mk rfl
        · rename_i hc1
          split at h
          · rename_i c hc
            exact fin _ _ hg (by rw [e1, e2]; exact q3 c hc0 hc1 hc) (run_pure_inv h) .bool_mk rfl
          · cases h
    · cases h
  · rename_i n m h1 h2
    obtain ⟨e1, e2, hg⟩ := strs _ _ h1 h2
    obtain ⟨hc, h⟩ := run_brf_inv h
    simp only [decide_eq_true_eq] at hc
    unfold lim at hc
    refine fin _ (strOf (n ++ m)) hg ?_ (run_pure_inv h) .str_mk rfl
    rw [e1, e2]
    have hmx : IntKind.i64.max = 9223372036854775807 := by decide
    have : ¬ (((ByteArray.mk n.toArray).size + (ByteArray.mk m.toArray).size : Nat) : Int) > IntKind.i64.max := by rw [szs, szs, hmx]; omega
    simp only [strOf, binOp, Op.stringOp]
    rw [if_neg this]
    simp only [Sem.run_pure]
    congr 2
  · rename_i n m h1 h2
    obtain ⟨e1, e2, hg⟩ := strs _ _ h1 h2
    refine fin _ (.bool (decide (n = m))) hg ?_ (run_pure_inv h) .bool_mk rfl
    rw [e1, e2]
    simp [strOf, binOp, Op.stringOp, beqd]
  · rename_i n m h1 h2
    obtain ⟨e1, e2, hg⟩ := strs _ _ h1 h2
    refine fin _ (.bool (!decide (n = m))) hg ?_ (run_pure_inv h) .bool_mk rfl
    rw [e1, e2]
    simp [strOf, binOp, Op.stringOp, beqd]
  · rename_i n m h1 h2
    obtain ⟨e1, e2, hg⟩ := strs _ _ h1 h2
    refine fin _ (.bool (Op.bytesLess n m)) hg ?_ (run_pure_inv h) .bool_mk rfl
    rw [e1, e2]
    simp [strOf, binOp, Op.stringOp]
  · rename_i n m h1 h2
    obtain ⟨e1, e2, hg⟩ := strs _ _ h1 h2
    refine fin _ (.bool (Op.bytesLess n m || decide (n = m))) hg ?_ (run_pure_inv h) .bool_mk rfl
    rw [e1, e2]
    simp [strOf, binOp, Op.stringOp, beqd]
  · rename_i n m h1 h2
    obtain ⟨e1, e2, hg⟩ := strs _ _ h1 h2
    refine fin _ (.bool (!(Op.bytesLess n m || decide (n = m)))) hg ?_ (run_pure_inv h) .bool_mk rfl
    rw [e1, e2]
    simp [strOf, binOp, Op.stringOp, beqd]
  · rename_i n m h1 h2
    obtain ⟨e1, e2, hg⟩ := strs _ _ h1 h2
    refine fin _ (.bool (!Op.bytesLess n m)) hg ?_ (run_pure_inv h) .bool_mk rfl
    rw [e1, e2]
    simp [strOf, binOp, Op.stringOp]
  · rename_i n m h1 h2
    obtain ⟨e1, e2, hg, hr⟩ := bools n m h1 h2
    split at h
    case isFalse => cases h
    rename_i hk
    replace hr := hr hk
    refine fin _ (.bool (n == m)) hg ?_ (run_pure_inv h) .bool_mk rfl
    rw [e1, e2]
    simp only [binOp, Op.equal, Sem.run_bind, hr, Result.andThen_ok, Sem.run_pure]
  · rename_i n m h1 h2
    obtain ⟨e1, e2, hg, hr⟩ := bools n m h1 h2
    split at h
    case isFalse => cases h
    rename_i hk
    replace hr := hr hk
    refine fin _ (.bool (!(n == m))) hg ?_ (run_pure_inv h) .bool_mk rfl
    rw [e1, e2]
    simp only [binOp, Op.equal, Sem.run_bind, hr, Result.andThen_ok, Sem.run_pure]
  · rename_i op _ _ _ l m h1 h2
    obtain ⟨e, he, ha⟩ := run_opt_inv h
    clear h
    obtain ⟨k, hk, h⟩ := run_opt_inv ha
    clear ha
    split at h
    · rename_i hkk
      simp only [Bool.and_eq_true] at hkk
      obtain ⟨p, hp, ha⟩ := run_opt_inv h
      clear h
      obtain ⟨q, hq, h⟩ := run_opt_inv ha
      clear ha
      rw [h1] at hx
      rw [h2] at hy
      have hok := TEnv.kind_ok hΓ hk
      obtain ⟨hd1, hd2⟩ := TEnv.kind_deep hΓ hk
      have hpv : VK S.w S.I k p (a.eval x) := one_rel hx (by unfold one; rw [if_pos (by rw [hkk.2]; rfl)]; exact hp)
      have hqv : VK S.w S.I k q (a.eval y) := one_rel hy (by unfold one; rw [if_pos (by rw [hkk.2]; rfl)]; exact hq)
      have heq := equalIn_rel (P := P) hok hkk.1 Op.maxDepth (by unfold Op.maxDepth; omega) hpv hqv
      have hgu := eqGuard_off hok hkk.1 P.depth (by omega)
      obtain ⟨vs, hvx, _⟩ := hpv.agg hkk.2
      obtain ⟨us, huy, _⟩ := hqv.agg hkk.2
      have hg : (eqGuard op t x y (a.eval x) (a.eval y)).run P S.w = .ok () S.w := by rw [hvx, huy]; exact eqGuard_agg S.w hgu
      refine fin _ (.bool (if e = true then k.eqB p q else !(k.eqB p q))) hg ?_ (run_pure_inv h) .bool_mk rfl
      rw [hvx, huy] at heq ⊢
      cases op <;> simp [isEq] at he
      · subst he
        simp [binOp, Op.equal, heq]
      · subst he
        simp [binOp, Op.equal, heq]
    · cases h
  · cases h

theorem sound_unOp {o : Oper} {op : UnOp} {t : Nat} {x : Operand} (ho : o.op = .unOp op t x) (H : HRel S) (F : FRel S fr a)
    (h : (aop Γ nm (ev fr) (.unOp op t x)).run call K S.hp = some r) (hP : Post S K r fun v w => next (a.put o.dst v) w) : o.wp P a S.w next Q := by
  simp only [aop] at h
  have hx := ev_rel F x
  split at h
  · rename_i b hb
    rw [hb] at hx
    refine wp_value (v := .bool (!b)) ?_ (hP.stay H (run_pure_inv h) .bool_mk (plain_names rfl))
    simp [execOp, ho, hx.bool_inv, Op.unary]
  · rename_i k n hb
    rw [hb] at hx
    refine wp_value (v := .int k (k.wrap (0 - n))) ?_ (hP.stay H (run_pure_inv h) .int_mk (plain_names rfl))
    simp [execOp, ho, hx.int_inv, Op.unary, Op.intArith]
  · rename_i k n hb
    rw [hb] at hx
    obtain ⟨c, hc, h⟩ := run_opt_inv h
    refine wp_value (v := .int k c) ?_ (hP.stay H (run_pure_inv h) .int_mk (plain_names rfl))
    simp only [ibits, Option.some.injEq] at hc
    subst hc
    simp [execOp, ho, hx.int_inv, Op.unary, Op.intBits]
  · cases h

theorem sound_extract {o : Oper} {x : Operand} {i : Nat} (ho : o.op = .extract x i) (H : HRel S) (F : FRel S fr a)
    (h : (aop Γ nm (ev fr) (.extract x i)).run call K S.hp = some r) (hP : Post S K r fun v w => next (a.put o.dst v) w) : o.wp P a S.w next Q := by
  simp only [aop] at h
  have hx := ev_rel F x
  have hn := ev_names F x
  split at h
  · rename_i vs hvs
    rw [hvs] at hx hn
    split at h
    · rename_i v hv
      unfold VRel at hx
      obtain ⟨us, hp, hr⟩ := hx
      obtain ⟨u, hu, hvu⟩ := hr.get hv
      unfold AV.names at hn
      refine wp_value (v := u) ?_ (hP.stay H (run_pure_inv h) hvu (AV.namesL_mem hn (List.mem_of_getElem? hv)))
      simp [execOp, ho, hp, Instr.extract, hu]
    · cases h
  · cases h

theorem args_rel (F : FRel S fr a) : ∀ (l : List Operand), VRelL S (l.map (ev fr)) (l.map a.eval) ∧ AV.namesL (fun m => S.hp m ≠ .free) (l.map (ev fr))
  | [] => ⟨.nil, by unfold List.map AV.namesL; trivial⟩
  | x :: l => by
    obtain ⟨h1, h2⟩ := args_rel F l
    refine ⟨.cons (ev_rel F x) h1, ?_⟩
    rw [List.map_cons]
    unfold AV.namesL
    exact ⟨ev_names F x, h2⟩

theorem sound_makeFunc {o : Oper} {fn : Go.Fn} {first cap : Array Operand} (ho : o.op = .makeFunc fn first cap) (H : HRel S) (F : FRel S fr a)
    (h : (aop Γ nm (ev fr) (.makeFunc fn first cap)).run call K S.hp = some r) (hP : Post S K r fun v w => next (a.put o.dst v) w) : o.wp P a S.w next Q := by
  cases fn with
  | func f =>
    simp only [aop] at h
    split at h
    · rename_i h0
      obtain ⟨h1, h2⟩ := args_rel F cap.toList
      refine wp_value (v := .func (.func f) #[] (cap.map a.eval)) ?_ (hP.stay H (run_pure_inv h) ?_ (by unfold AV.names; exact h2))
      · have : first = #[] := Array.eq_empty_of_size_eq_zero h0
        subst this
        simp [execOp, ho, Instr.makeFunc]
      · unfold VRel; exact ⟨cap.toList.map a.eval, by congr 1; apply Array.ext'; simp, h1⟩
    · cases h
  | _ => cases h

theorem sound_len (hΓ : Γ.ok P = true) {o : Oper} {args : Array Operand} {argTypes : Array TypeId} (ho : o.op = .call { callee := .builtin .len, args := args, argTypes := argTypes }) (H : HRel S) (F : FRel S fr a)
    (h : (aop Γ nm (ev fr) (.call { callee := .builtin .len, args := args, argTypes := argTypes })).run call K S.hp = some r) (hP : Post S K r fun v w => next (a.put o.dst v) w) : o.wp P a S.w next Q := by
  simp only [aop] at h
  split at h
  · rename_i x t hargs htys
    have hx := ev_rel F x
    have fin : ∀ n : Nat, (Builtin.len_ #[t] o.type #[a.eval x]).run P S.w = .ok (goInt n) S.w → K (.int .i64 (n : Int)) S.hp = some r → o.wp P a S.w next Q := by
      intro n hr hk
      have e1 : args = #[x] := by apply Array.ext'; simpa using hargs
      have e2 : argTypes = #[t] := by apply Array.ext'; simpa using htys
      subst e1 e2
      refine wp_value (v := goInt n) ?_ (hP.stay H hk (.int_mk) (plain_names rfl))
      simp only [execOp, ho, resolve, invoke, builtin, Sem.run_bind, Sem.run_pure, Result.andThen_ok, List.map_toArray, List.map_cons, List.map_nil, hr]
    have slices : ∀ (k : Kind), Γ.kind t = some k → k.isSlice = true → ∀ (ad : Option Addr) (n c : Nat), a.eval x = .slice ad n c → (Builtin.len_ #[t] o.type #[a.eval x]).run P S.w = .ok (goInt n) S.w := by
      intro k hk hs ad n c hv
      cases k <;> simp [Kind.isSlice] at hs
      obtain ⟨E, hu, _⟩ := kOk_slice (TEnv.kind_ok hΓ hk)
      rw [hv]
      simp [Builtin.len_, run_underlying hu]
    split at h
    · rename_i s hxs
      split at h
      · rename_i hk
        rw [hxs] at hx
        refine fin s.length ?_ (run_pure_inv h)
        rw [hx.str_inv]
        have hsz : (ByteArray.mk s.toArray).size = s.length := by simp [ByteArray.size]
        simp [Builtin.len_, run_underlying (kOk_str (TEnv.kind_ok hΓ hk)), strOf, hsz]
      · cases h
    · rename_i n hxs
      rw [hxs] at hx
      split at h
      · rename_i hm
        replace h := run_rd_inv h
        split at h
        · rename_i k v es hes
          obtain ⟨kv, hkv⟩ := Option.isSome_iff_exists.1 hm
          obtain ⟨KT, VT, hu, _⟩ := TEnv.map_ok hΓ hkv
          unfold VRel at hx
          rw [hes] at hx
          have ho' := H.ob n
          rw [hes] at ho'
          obtain ⟨rb, ms, cl, g1, g2, g3, g4, g5⟩ := ho'
          refine fin es.length ?_ (run_pure_inv h)
          have hgo : (getObj rb).run P S.w = .ok (.map ms cl) S.w := by simp [getObj, Sem.run, g2]
          have hln : ms.size = es.length := by simpa using g5.1.length
          rw [hx.2, g1]
          simp [Builtin.len_, run_underlying hu, hgo, hln]
        · cases h
      · cases h
    · rename_i e xs hxs
      obtain ⟨k, hk, h⟩ := run_opt_inv h
      split at h
      · rename_i hs
        rw [hxs] at hx
        obtain ⟨ad, len, cap, hp, hl, hcap, _⟩ := hx.sl_inv
        have hp : a.eval x = .slice ad len cap := by simpa using hp
        exact fin xs.length (by rw [← hl]; exact slices k hk hs ad len cap hp) (run_pure_inv h)
      · cases h
    · rename_i hxs
      obtain ⟨k, hk, h⟩ := run_opt_inv h
      split at h
      · rename_i hs
        rw [hxs] at hx
        exact fin 0 (slices k hk hs none 0 0 hx.nilsl_inv) (run_pure_inv h)
      · cases h
    · rename_i n hxs
      obtain ⟨k, hk, h⟩ := run_opt_inv h
      split at h
      · rename_i hs
        rw [hxs] at hx
        replace h := run_rd_inv h
        split at h
        · rename_i e xs hes
          unfold VRel at hx
          rw [hes] at hx
          obtain ⟨ad, len, cap, g1, g2, _⟩ := row_elems H hes
          exact fin xs.length (by rw [← g2]; exact slices k hk hs ad len cap (hx.2.trans g1)) (run_pure_inv h)
        · rename_i k' v' ess hes
          unfold VRel at hx
          rw [hes] at hx
          obtain ⟨_, ms, e0⟩ := hx
          have ho' := H.ob n
          rw [hes] at ho'
          obtain ⟨b, cap, c, E, ms1, q1, _⟩ := ho'
          exact fin ess.length (slices k hk hs _ ess.length cap (tuple_inj (q1.symm.trans e0)).1.symm) (run_pure_inv h)
        · cases h
      · cases h
    · rename_i n j hxs
      obtain ⟨k, hk, h⟩ := run_opt_inv h
      split at h
      · rename_i hs
        rw [hxs] at hx
        replace h := run_rd_inv h
        split at h
        · rename_i e xs hes
          unfold VRel at hx
          rw [hes] at hx
          obtain ⟨_, ad, cap, g1, g2, g3⟩ := hx
          exact fin j (slices k hk hs ad j cap g3) (run_pure_inv h)
        · cases h
      · cases h
    · cases h
  · cases h

theorem AV.closedL_mem {c : AV} : ∀ {l : List AV}, AV.closedL l = true → c ∈ l → c.closed = true
  | [], _, h => by cases h
  | d :: l, hc, h => by
    have hc : (d.closed && AV.closedL l) = true := hc
    rw [Bool.and_eq_true] at hc
    cases h with
    | head => exact hc.1
    | tail _ h => exact AV.closedL_mem hc.2 h

/-- callee, arguments: what a call through a function value asks -/
theorem run_call {o : Oper} {f : Operand} {args : Array Operand} {argTypes : Array TypeId} (ho : o.op = .call { callee := .value f, args := args, argTypes := argTypes }) (F : FRel S fr a) {g : Nat} {cap : List AV}
    (hf : ev fr f = .fn g cap) {fn : Func} (hfn : P.funcs[g]? = some fn) (hb : fn.body.isSome = true) (hnm : fn.name ≠ "runtime.NumGoroutine") :
    ∃ vs : List Value, VRelL S (args.toList.map (ev fr) ++ cap) vs ∧ (execOp a.eval o).run P S.w = .ok (.enter g vs.toArray) S.w := by
  have hx := ev_rel F f
  rw [hf] at hx
  unfold VRel at hx
  obtain ⟨us, hp, hu⟩ := hx
  obtain ⟨h1, _⟩ := args_rel F args.toList
  refine ⟨args.toList.map a.eval ++ us, h1.append hu, ?_⟩
  have hbn : fn.body.isNone = false := by cases hb' : fn.body <;> simp [hb'] at hb ⊢
  simp only [execOp, ho, resolve, hp, Deferred.ofValue, Sem.run_bind, Sem.run_pure, Result.andThen_ok, invoke, callFunc, run_program, hfn]
  simp [hnm, hbn]

/-- the procedures and the functions that are treated apart are what the machine takes them for -/
structure Special (P : Program) (Γ : TEnv) (call : Call) : Prop where
  pr : ∀ nm g pd, Γ.proc nm g = some pd → SoundProc P g (pd.1.map (·.2)) (pd.2.map (·.2)) (call.pv g)
  ke : ∀ f c, Γ.keysOf = some (f, c) → KeysOk P f c
  so : ∀ g c, (∃ f, Γ.keysOf = some (f, c)) ∧ Γ.sorted = some g → SortedOk P g c

theorem special_keys {g : Nat} {l : List AV} {c n i : Nat} (h : Γ.special g l = some (.inl (c, n, i))) : l = [.mref n i] ∧ Γ.keysOf = some (g, c) := by
  unfold TEnv.special at h
  split at h
  · split at h
    · rename_i f c' hk
      split at h
      · rename_i e
        simp only [Option.some.injEq, Sum.inl.injEq, Prod.mk.injEq] at h
        obtain ⟨rfl, rfl, rfl⟩ := h
        exact ⟨rfl, by rw [hk, e]⟩
      · cases h
    · cases h
  · split at h
    · split at h <;> cases h
    · cases h
  · cases h

theorem special_sorted {g : Nat} {l : List AV} {n i : Nat} (h : Γ.special g l = some (.inr (n, i))) : ∃ c, l = [.keys c n i] ∧ (∃ f, Γ.keysOf = some (f, c)) ∧ Γ.sorted = some g := by
  unfold TEnv.special at h
  split at h
  · split at h
    · split at h <;> cases h
    · cases h
  · split at h
    · rename_i f c' hk
      split at h
      · rename_i e
        simp only [Option.some.injEq, Sum.inr.injEq, Prod.mk.injEq] at h
        obtain ⟨rfl, rfl⟩ := h
        obtain ⟨rfl, e2⟩ := e
        exact ⟨_, rfl, ⟨f, hk⟩, e2⟩
      · cases h
    · cases h
  · cases h

theorem sound_call {o : Oper} {f : Operand} {args : Array Operand} {argTypes : Array TypeId} (hC : SoundCall P call)
    (hfs : ∀ g as r, call.av g as = some r → ∃ fn, P.funcs[g]? = some fn ∧ fn.body.isSome = true ∧ fn.name ≠ "runtime.NumGoroutine")
    (hX : Special P Γ call)
    (ho : o.op = .call { callee := .value f, args := args, argTypes := argTypes }) (H : HRel S) (F : FRel S fr a)
    (h : (aop Γ nm (ev fr) (.call { callee := .value f, args := args, argTypes := argTypes })).run call K S.hp = some r) (hP : Post S K r fun v w => next (a.put o.dst v) w) : o.wp P a S.w next Q := by
  simp only [aop] at h
  split at h
  · rename_i g cap hf
    split at h
    · rename_i hcl
      obtain ⟨av, hav, h⟩ := run_call_inv h
      obtain ⟨fn, hfn, hb, hnm⟩ := hfs _ _ _ hav
      obtain ⟨vs, hvs, hrun⟩ := run_call ho F hf hfn hb hnm
      have hcalls := hC _ _ _ hav
      have hvs' : VRelL ⟨S.w, S.I, fun _ => .nilIface, fun _ => .free, fun b => b < S.w.heap.size⟩ (args.toList.map (ev fr) ++ cap) vs := VRelL.closed (S := S) (T := ⟨S.w, S.I, fun _ => .nilIface, fun _ => .free, fun b => b < S.w.heap.size⟩) (fun b hb => ⟨hb, rfl⟩) _ hcl hvs
      have hh := hcalls S.w S.I vs H.il hvs'
      unfold Oper.wp
      rw [hrun]
      simp only [Oper.upon]
      refine Calls.mono hh fun e w' he => ?_
      obtain ⟨v, rfl, hc, hsz, hold, hout, hv⟩ := he
      have E1 : Ext Top S { S with w := w', I := fun b => S.I b ∨ (S.w.heap.size ≤ b ∧ b < w'.heap.size) } := by
        refine ⟨fun b hb => ⟨.inl hb, hold b (H.il b hb)⟩, hsz, rfl, fun b hb => hold b (H.bl b hb), fun n _ hn => ?_, fun n _ hn => hn, fun b hb hlt => hb.elim id fun e => absurd (H.bl b hlt) (by omega), hout⟩
        by_cases hl : cellLive (S.hp n)
        · exact .inr ⟨rfl, sameShape_refl hl⟩
        · left
          cases hcc : S.hp n <;> rw [hcc] at hl hn <;> simp [cellLive, Cell.live] at hl hn ⊢
      have H1 : HRel { S with w := w', I := fun b => S.I b ∨ (S.w.heap.size ≤ b ∧ b < w'.heap.size) } :=
        H.world E1 rfl rfl hold (fun b hb hI => hI.elim id fun e => by omega) (fun b hb => hb.elim (fun hb => Nat.lt_of_lt_of_le (H.il b hb) hsz) (fun hb => hb.2))
      exact hP av v { S with w := w', I := fun b => S.I b ∨ (S.w.heap.size ≤ b ∧ b < w'.heap.size) } (run_pure_inv h) H1 E1 (VRel.closed (S := ⟨w', fun b => S.I b ∨ (S.w.heap.size ≤ b ∧ b < w'.heap.size), fun _ => .nilIface, fun _ => .free, fun b => b < S.w.heap.size⟩) (T := { S with w := w', I := fun b => S.I b ∨ (S.w.heap.size ≤ b ∧ b < w'.heap.size) }) (fun b hb => ⟨hb, rfl⟩) av hc hv) (plain_names hc)
    · split at h
      · rename_i pd hpd
        obtain ⟨O, hlv, v, cells', hpv, hlen, hlv', hnew, hK⟩ := run_procM_inv h
        obtain ⟨hP1, hP2⟩ := hX.pr _ _ _ hpd
        obtain ⟨fn, hfn, hb, hnm⟩ := hP1
        obtain ⟨vs, hvs, hrun⟩ := run_call ho F hf hfn hb hnm
        have hnames : AV.namesL (fun m => S.hp m ≠ .free) (args.toList.map (ev fr) ++ cap) := by
          refine (AV.namesL_append _ _).2 ⟨(args_rel F args.toList).2, ?_⟩
          have := ev_names F f
          rw [hf] at this
          unfold AV.names at this
          exact this
        unfold Oper.wp
        rw [hrun]
        simp only [Oper.upon]
        refine Calls.mono (proc_step (F := call.pv g) ⟨⟨fn, hfn, hb, hnm⟩, hP2⟩ O H hvs hlv hpv hlen hlv' hnew) fun e w' he => ?_
        obtain ⟨u, U, rfl, rfl, HU, EU, hcl, hvu, hhp⟩ := he
        exact hP v u U (by rw [hhp]; exact hK) HU EU hvu (AV.names_closed _ hcl)
      · split at h
        · rename_i c n i hsp
          obtain ⟨hargs, hkk⟩ := special_keys hsp
          obtain ⟨⟨fn, hfn, hb, hnm⟩, E, hcalls⟩ := hX.ke _ _ hkk
          obtain ⟨vs, hvs, hrun⟩ := run_call ho F hf hfn hb hnm
          rw [hargs] at hvs
          obtain ⟨mv, s, rfl, hmv, hs⟩ := hvs.cons_inv
          have := hs.nil_inv
          subst this
          replace h := run_rd_inv h
          split at h
          · rename_i v' ess hes
            have hmv' := hmv
            unfold VRel at hmv'
            rw [hes] at hmv'
            obtain ⟨hone, hi, u0, ms, hρ, hms⟩ := hmv'
            have hob := H.ob n
            rw [hes] at hob
            obtain ⟨b, cap', c', E', ms1, q1, q2, q3, q4, q5, q6, q7, q8, q9, q10, q11⟩ := hob
            obtain ⟨_, rfl⟩ := tuple_inj (q1.symm.trans hρ)
            obtain ⟨mv2, p1, r', ents, cl, p2, _⟩ := q11 i _ (List.getElem?_eq_getElem hi)
            have emv : mv = .map (some r') := by rw [hms] at p1; cases p1; exact p2
            unfold Oper.wp
            rw [hrun]
            simp only [Oper.upon]
            have hc := hcalls S.w (some r')
            rw [← emv] at hc
            refine Calls.mono hc fun en w' he => ?_
            obtain ⟨rfl, rfl⟩ := he
            have halloc : (S.w.alloc (.cells #[mv] E)).heap = S.w.heap.push (.cells #[mv] E) := rfl
            have E1 : Ext Top S { S with w := S.w.alloc (.cells #[mv] E), I := fun b => S.I b ∨ b = S.w.heap.size } := by
              refine ⟨fun b hb => ⟨.inl hb, getElem?_push_lt (H.il b hb)⟩, by rw [halloc]; simp, rfl, fun b hb => getElem?_push_lt (H.bl b hb), fun m _ hm => ?_, fun m _ hm => hm, fun b hb hlt => hb.elim id fun e => absurd hlt (e ▸ H.newB), ⟨rfl, rfl⟩⟩
              by_cases hl : cellLive (S.hp m)
              · exact .inr ⟨rfl, sameShape_refl hl⟩
              · left
                cases hcc : S.hp m <;> rw [hcc] at hl hm <;> simp [cellLive, Cell.live] at hl hm ⊢
            have H1 : HRel { S with w := S.w.alloc (.cells #[mv] E), I := fun b => S.I b ∨ b = S.w.heap.size } :=
              H.world E1 rfl rfl (fun b hb => getElem?_push_lt hb) (fun b hb hI => hI.elim id fun e => by omega)
                (fun b hb => by
                  have e : (S.w.alloc (.cells #[mv] E)).heap.size = S.w.heap.size + 1 := by rw [halloc]; simp
                  rcases hb with hb | hb
                  · have := H.il b hb; simp only [e]; omega
                  · simp only [e]; omega)
            refine hP (.keys c n i) _ { S with w := S.w.alloc (.cells #[mv] E), I := fun b => S.I b ∨ b = S.w.heap.size } (run_pure_inv h) H1 E1 ?_ ?_
            · unfold VRel
              refine ⟨rfl, S.w.heap.size, mv, rfl, .inr rfl, fun j u hu => ?_, ?_⟩
              · cases j with
                | zero =>
                  simp only [List.getElem?_cons_zero, Option.some.injEq] at hu
                  subst hu
                  rw [cell_of_row (S.w.alloc (.cells #[mv] E)) S.w.heap.size _ #[mv] E (0, 0) (by rw [halloc]; simp)]
                  rfl
                | succ j => simp at hu
              · simp only [hes]
                exact ⟨hi, u0, ms1, hρ, hms⟩
            · unfold AV.names
              rw [hes]; simp
          · cases h
        · rename_i n i hsp
          obtain ⟨c, hargs, hss⟩ := special_sorted hsp
          obtain ⟨⟨fn, hfn, hb, hnm⟩, hcalls⟩ := hX.so _ _ hss
          obtain ⟨vs, hvs, hrun⟩ := run_call ho F hf hfn hb hnm
          rw [hargs] at hvs
          obtain ⟨kv, s, rfl, hkv, hs⟩ := hvs.cons_inv
          have := hs.nil_inv
          subst this
          replace h := run_rd_inv h
          split at h
          · rename_i v' ess hes
            obtain ⟨hbr, h⟩ := run_brf_inv h
            obtain ⟨hfree, h⟩ := run_new_inv h
            simp only [Bool.and_eq_true, decide_eq_true_eq] at hbr
            unfold VRel at hkv
            rw [hes] at hkv
            obtain ⟨_, b0, mv, rfl, hI0, hc0, hi, u0, ms, hρ, hms⟩ := hkv
            have hob := H.ob n
            rw [hes] at hob
            obtain ⟨b, cap', c', E', ms1, q1, q2, q3, q4, q5, q6, q7, q8, q9, q10, q11⟩ := hob
            obtain ⟨_, rfl⟩ := tuple_inj (q1.symm.trans hρ)
            obtain ⟨mv2, p1, r', ents, cl, p2, p3, p4, p5, p6, p7⟩ := q11 i _ (List.getElem?_eq_getElem hi)
            have emv : mv = .map (some r') := by rw [hms] at p1; cases p1; exact p2
            subst emv
            have egd : ess.getD i [] = ess[i] := by rw [List.getD_eq_getElem?_getD, List.getElem?_eq_getElem hi]; rfl
            rw [egd] at hbr h
            have hkeys : ∀ (es : List (Int × v'.T)) (l : List MapEntry), EntriesAt S.w S.I (.int .i64) v' es l → l.map (·.key) = (es.map (·.1)).map (Value.int .i64) := by
              intro es
              induction es with
              | nil => intro l hl; rw [show l = [] from hl]; rfl
              | cons p es ih =>
                rintro l ⟨m, s, rfl, k1, k2, k3⟩
                have : m.key = Value.int .i64 p.1 := by
                  have := k1.leaf rfl
                  have e : [m.key] = [Value.int .i64 p.1] := this
                  simpa using e
                rw [List.map_cons, List.map_cons, List.map_cons, ih s k3, this]
            have hsz : ents.size = (ess[i]).length := by simpa using p6.length
            have hc := hcalls S.w S.I b0 r' ents cl ((ess[i]).map (·.1)) H.il (by have := hc0 0 (.map (some r')) rfl; simpa using this) p3 p7 (by rw [hsz]; exact hbr.1) (hkeys _ _ p6) hbr.2
            unfold Oper.wp
            rw [hrun]
            simp only [Oper.upon]
            refine Calls.mono hc fun en w' he => ?_
            obtain ⟨v, rfl, hsz', hold, hout, hone, hobj⟩ := he
            have hblk : ∀ z, hasBlk v z → S.w.heap.size ≤ z := by
              intro z hz
              rcases hobj with ⟨h1, h2⟩ | ⟨b', cap', c', E, h1, h2, h3, h4, h5⟩
              · simp only at h1; rw [h1] at hz; replace hz : none = some z := hz; cases hz
              · unfold rowAtV at h1; simp only at h1; rw [h1] at hz; replace hz : some b' = some z := hz; cases hz; simp only at h4; omega
            obtain ⟨H', E'⟩ := H.fresh hfree (.row (.int .i64) (sortedInts ((ess[i]).map (·.1)))) v w' hsz' (fun z hz _ => hold z hz)
              (fun z hz => by
                have := hblk z hz
                exact ⟨fun hI => by have := H.il z hI; omega, fun hB => by have := H.bl z hB; omega, fun m hm hbm => by have := H.lt hm hbm; omega⟩)
              (fun cs hcs => by cases hcs)
              (fun E' => by
                rcases hobj with ⟨h1, h2⟩ | ⟨b', cap', c', E, h1, h2, h3, h4, h5⟩
                · exact .inl ⟨by simp only [upd_same]; exact h1, h2⟩
                · simp only at h4
                  exact .inr ⟨b', cap', c', E, by simp only [upd_same]; exact h1, h2, h3, fun hB => h4 (H.bl _ hB), h5⟩) hout
            refine hP (.ref nm) v _ h H' E' ?_ ?_
            · unfold VRel
              refine ⟨hone, ?_⟩
              simp only [upd_same]
            · unfold AV.names; simp [upd_same]
          · cases h
        · cases h
  · cases h

theorem sound_copy (hΓ : Γ.ok P = true) {o : Oper} {args : Array Operand} {argTypes : Array TypeId} (ho : o.op = .call { callee := .builtin .copy, args := args, argTypes := argTypes }) (H : HRel S) (F : FRel S fr a)
    (h : (aop Γ nm (ev fr) (.call { callee := .builtin .copy, args := args, argTypes := argTypes })).run call K S.hp = some r) (hP : Post S K r fun v w => next (a.put o.dst v) w) : o.wp P a S.w next Q := by
  simp only [aop] at h
  split at h
  · rename_i d s t u hargs htys
    split at h
    · rename_i el hkt
      obtain ⟨E, hu, hE⟩ := kOk_slice (TEnv.kind_ok hΓ hkt)
      obtain ⟨TE⟩ := kOk_ty hE
      obtain ⟨ys, hys, h⟩ := elems_inv H (ev_rel F s) h
      have hd := ev_rel F d
      split at h
      · rename_i n hdn
        rw [hdn] at hd
        unfold VRel at hd
        replace h := run_rd_inv h
        split at h
        · rename_i el' xs hcs
          split at h
          · rename_i hee
            subst hee
            obtain ⟨hc, h⟩ := run_brf_inv h
            simp only [decide_eq_true_eq] at hc
            rw [hcs] at hd
            obtain ⟨_, hp⟩ := hd
            have ho' := H.ob n
            rw [hcs] at ho'
            rcases ho' with ⟨g1, g2⟩ | ⟨b, cap, c, Ec, g1, g2, g3, g4, g5, g6, g7, g8⟩
            · omega
            · obtain ⟨news, n1, n2, n3, n4, n5, _⟩ := ElemsAt.cells (P := P) hys
              have hcl : cellLive (S.hp n) := by rw [hcs]; rfl
              have hb : hasBlk (S.ρ n) b := by unfold rowAtV at g1; rw [g1]; rfl
              have hnl : news.length ≤ c.size := by
                rw [n1, g7]; exact Nat.mul_le_mul_right _ (by omega)
              have hst := run_storeCells_at P b 0 Ec news 0 c S.w g2 (by simpa using hnl) n3
              have hrun : (Builtin.copy_ #[t, u] o.type #[a.eval d, a.eval s]).run P S.w = .ok (.int .i64 (ys.length : Int)) (S.w.setRow b (news ++ c.toList.drop news.length).toArray) := by
                unfold rowAtV at g1
                have hp' : a.eval d = .slice (some ⟨b, 0, none⟩) xs.length cap := by rw [hp]; exact g1
                have hmin : Nat.min ys.length xs.length = ys.length := Nat.min_eq_left hc.1
                simp only [Nat.zero_add, List.take_zero, List.nil_append] at hst
                simp [Builtin.copy_, run_underlying hu, hp', n4, hmin, TE.run_size, n5, hst, goInt]
              obtain ⟨H', E'⟩ := H.write hcl (.row el' (ys ++ xs.drop ys.length)) (S.w.setRow b (news ++ c.toList.drop news.length).toArray) (by rw [hcs]; exact ⟨rfl, by simp; omega⟩)
                (fun b' hb' => setRow_other _ _ _ _ (fun e => hb' (e ▸ hb))) (setRow_size _ _ _)
                (fun E' => by
                  have hlen : (ys ++ xs.drop ys.length).length = xs.length := by simp; omega
                  refine .inr ⟨b, cap, _, Ec, by unfold rowAtV at g1 ⊢; rw [hlen]; exact g1, setRow_heap S.w b c _ Ec (0, 0) g2, g3, g4, by rw [hlen]; exact g5, g6, by simp; omega, fun i hi => ?_⟩
                  rw [hlen] at hi
                  by_cases hiy : i < ys.length
                  · obtain ⟨us, q1, q2⟩ := RelL.get (d := el'.dflt) (fun x vs hh => RelK.length el' hh) n2 i hiy
                    refine ⟨us, RelK.later (fun b hb => ⟨E'.i b hb |>.1, E'.i b hb |>.2⟩) el' (by rw [List.getD_eq_getElem?_getD, List.getElem?_append_left hiy, ← List.getD_eq_getElem?_getD]; exact q1), fun j u hj => ?_⟩
                    have q3 := q2 j u hj
                    have hlt := (List.getElem?_eq_some_iff.1 q3).1
                    rw [List.getElem?_toArray, List.getElem?_append_left hlt]
                    exact q3
                  · obtain ⟨us, q1, q2⟩ := g8 i hi
                    refine ⟨us, RelK.later (fun b hb => ⟨E'.i b hb |>.1, E'.i b hb |>.2⟩) el' (by rw [List.getD_eq_getElem?_getD, List.getElem?_append_right (by omega), List.getElem?_drop, show ys.length + (i - ys.length) = i by omega, ← List.getD_eq_getElem?_getD]; exact q1), fun j u hj => ?_⟩
                    have q3 := q2 j u hj
                    have hle : news.length ≤ i * el'.size + j := by
                      rw [n1]
                      have : ys.length * el'.size ≤ i * el'.size := Nat.mul_le_mul_right _ (by omega)
                      omega
                    rw [List.getElem?_toArray, List.getElem?_append_right hle, List.getElem?_drop, show news.length + (i * el'.size + j - news.length) = i * el'.size + j by omega]
                    simpa using q3)
                (fun cs hcs => by cases hcs)
              have hexec : (execOp a.eval o).run P S.w = .ok (.value (.int .i64 (ys.length : Int))) (S.w.setRow b (news ++ c.toList.drop news.length).toArray) := by
                have e1 : args = #[d, s] := by apply Array.ext'; simpa using hargs
                have e2 : argTypes = #[t, u] := by apply Array.ext'; simpa using htys
                subst e1 e2
                simp only [execOp, ho, resolve, invoke, builtin, Sem.run_bind, Sem.run_pure, Result.andThen_ok, List.map_toArray, List.map_cons, List.map_nil, hrun]
              exact wp_value hexec (hP _ _ _ (run_pure_inv (run_wr_inv h)) H' E' .int_mk (plain_names rfl))
          · cases h
        · cases h
      · cases h
    · cases h
  · cases h

theorem sound_nilCheck {o : Oper} {x : Operand} (ho : o.op = .nilCheck x) (H : HRel S) (F : FRel S fr a)
    (h : (aop Γ nm (ev fr) (.nilCheck x)).run call K S.hp = some r) (hP : Post S K r fun v w => next (a.put o.dst v) w) : o.wp P a S.w next Q := by
  simp only [aop] at h
  have hx := ev_rel F x
  have hn := ev_names F x
  split at h
  · rename_i n off he
    rw [he] at hx hn
    unfold VRel at hx
    obtain ⟨h1, h2⟩ := hx
    replace h := run_rd_inv h
    split at h
    · rename_i cs hc
      rw [hc] at h2
      obtain ⟨b, hb, hp⟩ := h2
      refine wp_value (v := .pointer (some ⟨b, off, none⟩)) ?_ (hP.stay H (run_pure_inv h) (by unfold VRel; refine ⟨rfl, ?_⟩; rw [hc]; exact ⟨b, hb, rfl⟩) hn)
      simp [execOp, ho, hp]
    · cases h
  · cases h

/-- ALL OPERATIONS. -/
theorem op_sound (hΓ : Γ.ok P = true) (hC : SoundCall P call)
    (hfs : ∀ g as r, call.av g as = some r → ∃ fn, P.funcs[g]? = some fn ∧ fn.body.isSome = true ∧ fn.name ≠ "runtime.NumGoroutine")
    (hX : Special P Γ call)
    {o : Oper} (H : HRel S) (F : FRel S fr a) (h : (aop Γ nm (ev fr) o.op).run call K S.hp = some r) (hP : Post S K r fun v w => next (a.put o.dst v) w) : o.wp P a S.w next Q := by
  generalize ho : o.op = op at h
  cases op with
  | move x => exact sound_move (.inl ho) H F h hP
  | nilCheck x => exact sound_nilCheck ho H F h hP
  | assign x => exact sound_move (.inr ho) H F h hP
  | pick c x y => exact sound_pick ho H F h hP
  | alloc t => exact sound_alloc hΓ ho H h hP
  | box t x => exact sound_box ho H F h hP
  | build t parts => exact sound_build hΓ ho H F h hP
  | buildSlice t n parts => exact sound_buildSlice hΓ ho H F h hP
  | insert t m k x => exact sound_mapUpdate (nm := nm) hΓ (.inr ho) H F h hP
  | load t x => exact sound_load hΓ ho H F h hP
  | store t x y => exact sound_store hΓ ho H F h hP
  | binOp op t x y ty => exact sound_binOp hΓ ho H F h hP
  | unOp op t x => exact sound_unOp ho H F h hP
  | convert s d x => exact sound_convert hΓ ho H F h hP
  | makeFunc fn first cap => exact sound_makeFunc ho H F h hP
  | makeMap t rv => exact sound_makeMap ho H h hP
  | makeSlice t l c => exact sound_makeSlice hΓ ho H F h hP
  | slice t x lo hi mx => exact sound_slice hΓ ho H F h hP
  | fieldAddr t x f => exact sound_fieldAddr hΓ ho H F h hP
  | field t x f => exact sound_field hΓ ho H F h hP
  | indexAddr t x i => exact sound_indexAddr hΓ ho H F h hP
  | index t x i => exact sound_index hΓ ho H F h hP
  | lookup t x i ok => exact sound_lookup hΓ ho H F h hP
  | mapUpdate t m k x => exact sound_mapUpdate hΓ (.inl ho) H F h hP
  | extract x i => exact sound_extract ho H F h hP
  | call c =>
    obtain ⟨callee, args, argTypes⟩ := c
    cases callee with
    | value f => exact sound_call hC hfs hX ho H F h hP
    | invoke r m => cases h
    | builtin b =>
      cases b with
      | len => exact sound_len hΓ ho H F h hP
      | append => exact sound_append hΓ ho H F h hP
      | copy => exact sound_copy hΓ ho H F h hP
      | _ => cases h
  | _ => cases h

end ops
end Go.AM

/- Forgetting, naming, freezing. -/
namespace Go.AM
open Go

/-- T is S with references forgotten: only the names that p holds for are known -/
structure Mask (p : Nat → Bool) (S T : Sit) : Prop where
  w : T.w = S.w
  i : T.I = S.I
  r : T.ρ = S.ρ
  b : T.B = S.B
  h : ∀ n, T.hp n = (S.hp n).only p ∨ (p n = false ∧ (T.hp n = .free ∨ T.hp n = .dead))

theorem Mask.at_ {p : Nat → Bool} {S T : Sit} (M : Mask p S T) {n : Nat} (hn : p n = true) : T.hp n = (S.hp n).only p := by
  rcases M.h n with h | ⟨h, _⟩
  · exact h
  · rw [h] at hn; cases hn

theorem onlyL_length (p : Nat → Bool) : ∀ cs : List AV, (AV.onlyL p cs).length = cs.length
  | [] => rfl
  | c :: cs => by unfold AV.onlyL; simp [onlyL_length p cs]

theorem only_live (p : Nat → Bool) (c : Cell) : (c.only p).live = c.live := by cases c <;> rfl
theorem only_free {p : Nat → Bool} {c : Cell} (h : c ≠ .free) : c.only p ≠ .free := by cases c <;> simp [Cell.only] at h ⊢
theorem only_dead {p : Nat → Bool} {c : Cell} : c.only p = .dead ↔ c = .dead := by cases c <;> simp [Cell.only]

mutual
theorem VRel.mask {p : Nat → Bool} {S T : Sit} (M : Mask p S T) : ∀ (c : AV) {v : Value}, VRel S c v → VRel T (c.only p) v
  | .undef, v, _ => by unfold AV.only VRel; trivial
  | .bool _, v, h => by unfold AV.only; unfold VRel at h ⊢; exact h
  | .int _ _, v, h => by unfold AV.only; unfold VRel at h ⊢; exact h
  | .str _, v, h => by unfold AV.only; unfold VRel at h ⊢; exact h
  | .sl e xs, v, h => by unfold AV.only; unfold VRel at h ⊢; rw [M.w, M.i]; exact h
  | .nilsl, v, h => by unfold AV.only; unfold VRel at h ⊢; exact h
  | .nilp, v, h => by unfold AV.only; unfold VRel at h ⊢; exact h
  | .nilfn, v, h => by unfold AV.only; unfold VRel at h ⊢; exact h
  | .nilmap, v, h => by unfold AV.only; unfold VRel at h ⊢; exact h
  | .nilif, v, h => by unfold AV.only; unfold VRel at h ⊢; exact h
  | .ref n, v, h => by
    unfold AV.only
    split
    · rename_i hn
      unfold VRel at h ⊢
      refine ⟨h.1, ?_⟩
      rw [M.at_ hn, M.r]
      have h2 := h.2
      cases hc : S.hp n <;> simp only [hc, Cell.only] at h2 ⊢ <;> exact h2
    · exact .undef_mk
  | .pref n k, v, h => by
    unfold AV.only
    split
    · rename_i hn
      unfold VRel at h ⊢
      refine ⟨h.1, ?_⟩
      rw [M.at_ hn, M.r]
      have h2 := h.2
      cases hc : S.hp n <;> simp only [hc, Cell.only] at h2 ⊢ <;> exact h2
    · exact .undef_mk
  | .ptr n o, v, h => by
    unfold AV.only
    split
    · rename_i hn
      unfold VRel at h ⊢
      refine ⟨h.1, ?_⟩
      rw [M.at_ hn, M.r]
      have h2 := h.2
      cases hc : S.hp n <;> simp only [hc, Cell.only] at h2 ⊢ <;> exact h2
    · exact .undef_mk
  | .eptr n i s, v, h => by
    unfold AV.only
    split
    · rename_i hn
      unfold VRel at h ⊢
      refine ⟨h.1, ?_⟩
      rw [M.at_ hn, M.r]
      have h2 := h.2
      cases hc : S.hp n <;> simp only [hc, Cell.only] at h2 ⊢ <;> exact h2
    · exact .undef_mk
  | .aptr n o c i, v, h => by
    unfold AV.only
    split
    · rename_i hn
      unfold VRel at h ⊢
      refine ⟨h.1, ?_⟩
      rw [M.at_ hn, M.r]
      have h2 := h.2
      cases hc : S.hp n <;> simp only [hc, Cell.only] at h2 ⊢ <;> first | exact h2 | (rw [onlyL_length]; exact h2)
    · exact .undef_mk
  | .mapr n, v, h => by
    unfold AV.only
    split
    · rename_i hn
      unfold VRel at h ⊢
      refine ⟨h.1, ?_⟩
      rw [M.at_ hn, M.r]
      have h2 := h.2
      cases hc : S.hp n <;> simp only [hc, Cell.only] at h2 ⊢ <;> exact h2
    · exact .undef_mk
  | .mref n i, v, h => by
    unfold AV.only
    split
    · rename_i hn
      unfold VRel at h ⊢
      refine ⟨h.1, ?_⟩
      rw [M.at_ hn, M.r]
      have h2 := h.2
      cases hc : S.hp n <;> simp only [hc, Cell.only] at h2 ⊢ <;> exact h2
    · exact .undef_mk
  | .keys c n i, v, h => by
    unfold AV.only
    split
    · rename_i hn
      unfold VRel at h ⊢
      obtain ⟨h0, b, m, h1, h3, h4, h2⟩ := h
      refine ⟨h0, b, m, h1, by rw [M.i]; exact h3, by rw [M.w]; exact h4, ?_⟩
      rw [M.at_ hn, M.r]
      cases hc : S.hp n <;> simp only [hc, Cell.only] at h2 ⊢ <;> exact h2
    · exact .undef_mk
  | .iptr cs, v, h => by
    unfold AV.only
    unfold VRel at h ⊢
    obtain ⟨b, o, us, h1, h2, h3, h4, h5⟩ := h
    exact ⟨b, o, us, h1, by rw [M.i]; exact h2, VRelL.mask M cs h3, by rw [M.w]; exact h4, h5⟩
  | .fn f cap, v, h => by
    unfold AV.only
    unfold VRel at h ⊢
    obtain ⟨vs, h1, h2⟩ := h
    exact ⟨vs, h1, VRelL.mask M cap h2⟩
  | .agg cs, v, h => by
    unfold AV.only
    unfold VRel at h ⊢
    obtain ⟨vs, h1, h2, h3⟩ := h
    exact ⟨vs, h1, VRelL.mask M cs h2, h3⟩
  | .tup cs, v, h => by
    unfold AV.only
    unfold VRel at h ⊢
    obtain ⟨vs, h1, h2⟩ := h
    exact ⟨vs, h1, VRelL.mask M cs h2⟩
theorem VRelL.mask {p : Nat → Bool} {S T : Sit} (M : Mask p S T) : ∀ (cs : List AV) {vs : List Value}, VRelL S cs vs → VRelL T (AV.onlyL p cs) vs
  | [], vs, h => by rw [h.nil_inv]; unfold AV.onlyL; exact .nil
  | c :: cs, vs, h => by
    obtain ⟨v, s, rfl, h1, h2⟩ := h.cons_inv
    unfold AV.onlyL
    exact .cons (VRel.mask M c h1) (VRelL.mask M cs h2)
end

mutual
theorem AV.names_only {p : Nat → Bool} {q : Nat → Prop} : ∀ (c : AV), c.names q → (c.only p).names (fun n => p n = true ∧ q n)
  | .ref n, h => by unfold AV.only; split <;> unfold AV.names at h ⊢ <;> first | exact ⟨‹_›, h⟩ | trivial
  | .pref n _, h => by unfold AV.only; split <;> unfold AV.names at h ⊢ <;> first | exact ⟨‹_›, h⟩ | trivial
  | .ptr n _, h => by unfold AV.only; split <;> unfold AV.names at h ⊢ <;> first | exact ⟨‹_›, h⟩ | trivial
  | .eptr n _ _, h => by unfold AV.only; split <;> unfold AV.names at h ⊢ <;> first | exact ⟨‹_›, h⟩ | trivial
  | .aptr n _ _ _, h => by unfold AV.only; split <;> unfold AV.names at h ⊢ <;> first | exact ⟨‹_›, h⟩ | trivial
  | .mapr n, h => by unfold AV.only; split <;> unfold AV.names at h ⊢ <;> first | exact ⟨‹_›, h⟩ | trivial
  | .mref n _, h => by unfold AV.only; split <;> unfold AV.names at h ⊢ <;> first | exact ⟨‹_›, h⟩ | trivial
  | .keys _ n _, h => by unfold AV.only; split <;> unfold AV.names at h ⊢ <;> first | exact ⟨‹_›, h⟩ | trivial
  | .fn _ cap, h => by unfold AV.only; unfold AV.names at h ⊢; exact AV.namesL_only cap h
  | .agg cs, h => by unfold AV.only; unfold AV.names at h ⊢; exact AV.namesL_only cs h
  | .tup cs, h => by unfold AV.only; unfold AV.names at h ⊢; exact AV.namesL_only cs h
  | .iptr cs, h => by unfold AV.only; unfold AV.names at h ⊢; exact AV.namesL_only cs h
  | .undef, _ => by unfold AV.only AV.names; trivial
  | .bool _, _ => by unfold AV.only AV.names; trivial
  | .int _ _, _ => by unfold AV.only AV.names; trivial
  | .str _, _ => by unfold AV.only AV.names; trivial
  | .sl _ _, _ => by unfold AV.only AV.names; trivial
  | .nilsl, _ => by unfold AV.only AV.names; trivial
  | .nilp, _ => by unfold AV.only AV.names; trivial
  | .nilfn, _ => by unfold AV.only AV.names; trivial
  | .nilmap, _ => by unfold AV.only AV.names; trivial
  | .nilif, _ => by unfold AV.only AV.names; trivial
theorem AV.namesL_only {p : Nat → Bool} {q : Nat → Prop} : ∀ (cs : List AV), AV.namesL q cs → AV.namesL (fun n => p n = true ∧ q n) (AV.onlyL p cs)
  | [], _ => by unfold AV.onlyL AV.namesL; trivial
  | c :: cs, h => by unfold AV.namesL at h; unfold AV.onlyL AV.namesL; exact ⟨AV.names_only c h.1, AV.namesL_only cs h.2⟩
end

theorem Mask.nonfree {p : Nat → Bool} {S T : Sit} (M : Mask p S T) {n : Nat} (h : p n = true ∧ S.hp n ≠ .free) : T.hp n ≠ .free := by
  rw [M.at_ h.1]; exact only_free h.2

theorem Mask.hrel {p : Nat → Bool} {S T : Sit} (M : Mask p S T) (H : HRel S) : HRel T where
  ob := fun n => by
    rcases M.h n with h | ⟨_, h | h⟩
    · rw [h]
      have ho := H.ob n
      cases hc : S.hp n <;> rw [hc] at ho <;> simp only [Cell.only]
      · trivial
      · trivial
      · obtain ⟨b, c, E, h1, h2, h3, h4, h5, h6⟩ := ho
        exact ⟨b, c, E, by rw [M.r]; exact h1, by rw [M.w]; exact h2, by rw [M.i]; exact h3, by rw [M.b]; exact h4, VRelL.mask M _ h5, h6⟩
      · unfold ObjAt at ho ⊢
        rw [M.r, M.w, M.i, M.b]; exact ho
      · unfold ObjAt at ho ⊢
        rw [M.r, M.w, M.i, M.b]; exact ho
      · unfold ObjAt MapAt at ho ⊢
        rw [M.r, M.w, M.i, M.b]; exact ho
    · rw [h]; trivial
    · rw [h]; trivial
  ds := fun n m b hnm hn hm hb => by
    have lv : ∀ n, cellLive (T.hp n) → cellLive (S.hp n) := by
      intro n hn
      rcases M.h n with h | ⟨_, h | h⟩
      · rw [h] at hn; unfold cellLive at hn ⊢; rwa [only_live] at hn
      · rw [h] at hn; cases hn
      · rw [h] at hn; cases hn
    rw [M.r] at hb ⊢
    exact H.ds n m b hnm (lv n hn) (lv m hm) hb
  il := fun b hb => by rw [M.i] at hb; rw [M.w]; exact H.il b hb
  bl := by rw [M.b, M.w]; exact H.bl
  nb := fun n cs hcs => by
    rcases M.h n with h | ⟨_, h | h⟩
    · rw [h] at hcs
      cases hc : S.hp n <;> rw [hc] at hcs <;> simp only [Cell.only, Cell.box.injEq, reduceCtorEq] at hcs
      subst hcs
      exact AV.namesL_imp (fun m hm => M.nonfree hm) _ (AV.namesL_only _ (H.nb n _ hc))
    · rw [h] at hcs; cases hcs
    · rw [h] at hcs; cases hcs

theorem Mask.frel {p : Nat → Bool} {S T : Sit} (M : Mask p S T) {fr : Nat → AV} {a : Act} (F : FRel S fr a) : FRel T (fun i => (fr i).only p) a where
  v := fun i => VRel.mask M _ (F.v i)
  n := fun i => AV.names_imp (fun _ hm => M.nonfree hm) _ (AV.names_only _ (F.n i))
  d := F.d

/-- fewer slots known -/
theorem FRel.look {S : Sit} {fr : Nat → AV} {a : Act} (F : FRel S fr a) (slots : List Nat) : FRel S (look .undef (slots.map fun i => (i, fr i))) a where
  v := fun i => by
    induction slots with
    | nil => exact .undef_mk
    | cons s l ih =>
      simp only [List.map_cons, Go.AM.look]
      split
      · rename_i h; subst h; exact F.v _
      · exact ih
  n := fun i => by
    induction slots with
    | nil => unfold List.map Go.AM.look AV.names; trivial
    | cons s l ih =>
      simp only [List.map_cons, Go.AM.look]
      split
      · rename_i h; subst h; exact F.n _
      · exact ih
  d := F.d

theorem sameShape_only {p : Nat → Bool} {c : Cell} (h : cellLive c) : sameShape c (c.only p) := by
  cases c <;> simp [cellLive, Cell.live] at h <;> simp [Cell.only, sameShape, onlyL_length]

/-- what a mask keeps of the names below base -/
theorem Mask.ext {p : Nat → Bool} {S T : Sit} (M : Mask p S T) {q : Nat → Prop} (hq : ∀ n, q n → S.hp n ≠ .free → T.hp n = .free → False) : Ext q S T where
  i := fun b hb => ⟨by rw [M.i]; exact hb, by rw [M.w]⟩
  s := by rw [M.w]; exact Nat.le_refl _
  b := M.b
  o := fun b _ => by rw [M.w]
  f := fun n hn hf => by
    rcases M.h n with h | ⟨_, h | h⟩
    · by_cases hl : cellLive (S.hp n)
      · exact .inr ⟨by rw [M.r], by rw [h]; exact sameShape_only hl⟩
      · left
        rw [h]
        cases hc : S.hp n <;> rw [hc] at hl hf <;> simp [cellLive, Cell.live] at hl hf ⊢ <;> rfl
    · exact (hq n hn hf h).elim
    · exact .inl h
  g := fun n hn hd => by
    rcases M.h n with h | ⟨_, h | h⟩
    · rw [h, hd]; rfl
    · exact (hq n hn (by rw [hd]; simp) h).elim
    · exact h
  j := fun b hb _ => by rw [M.i] at hb; exact hb
  q := by rw [M.w]; exact ⟨rfl, rfl⟩

theorem look_names {α : Type} {d : α} {names : List Nat} {f : Nat → α} {n : Nat} : look d (names.map fun n => (n, f n)) n = if names.contains n = true then f n else d := by
  induction names with
  | nil => simp [look]
  | cons m l ih =>
    simp only [List.map_cons, look, List.contains_cons]
    by_cases h : n = m
    · subst h; simp
    · simp only [if_neg h, ih]
      have : (n == m) = false := by simp [h]
      rw [this]; simp

end Go.AM

/- The commands at regions. -/
namespace Go.AM
open Go

/-- a state of one frame: the heap's relation and the frame's -/
structure Good (S : Sit) (st : St) (sz : Nat) (a : Act) : Prop where
  h : HRel S
  f : FRel S st.fr a
  e : S.hp = st.hp
  z : a.tmps.size = sz

abbrev Below' (base : Nat) : Nat → Prop := fun n => n < base

theorem keep_sound {S : Sit} {st : St} {sz base : Nat} {a : Act} (G : Good S st sz a) (slots names : List Nat) :
    ∃ T, T.w = S.w ∧ Good T (keepSt base slots names st) sz a ∧ Ext (Below' base) S T := by
  have M : Mask (keepP base names st.hp) S { S with hp := (keepSt base slots names st).hp } := by
    refine ⟨rfl, rfl, rfl, rfl, fun n => ?_⟩
    simp only [keepSt, G.e]
    by_cases hb : n < base
    · rw [if_pos hb]; exact .inl rfl
    · rw [if_neg hb, look_names]
      unfold keepP
      by_cases hc : names.contains n = true
      · rw [if_pos hc]
        by_cases hl : (st.hp n).live = true
        · rw [if_pos hl]; exact .inl rfl
        · rw [if_neg hl]; right; simp [hb]; simpa using fun _ => hl
      · rw [if_neg hc]; right; simp only [Bool.not_eq_true] at hc; rw [hc]; simp [hb]
  refine ⟨{ S with hp := (keepSt base slots names st).hp }, rfl, ⟨M.hrel G.h, ?_, rfl, G.z⟩, M.ext fun n hn hf hfr => ?_⟩
  · exact (M.frel G.f).look slots
  · have hn : n < base := hn
    have : (keepSt base slots names st).hp n = (S.hp n).only (keepP base names st.hp) := by simp only [keepSt, G.e]; rw [if_pos hn]
    simp only [this] at hfr
    exact only_free hf hfr

theorem FRel.upd {S : Sit} {fr : Nat → AV} {a : Act} (F : FRel S fr a) {s : Nat} {c : AV} (hv : VRel S c (a.tmps.getD s undef)) (hn : c.names (fun m => S.hp m ≠ .free)) : FRel S (upd fr s c) a where
  v := fun i => by
    unfold Go.AM.upd
    split
    · rename_i h; subst h; exact hv
    · exact F.v i
  n := fun i => by
    unfold Go.AM.upd
    split
    · exact hn
    · exact F.n i
  d := F.d

theorem notName_self (n : Nat) : notName (some n) n = false := by simp [notName]
theorem notName_other {n m : Nat} (h : m ≠ n) : notName (some n) m = true := by simp [notName, h]

/-- the name of o is used up and forgotten everywhere -/
theorem buryAll {S : Sit} (H : HRel S) (o : Option Nat) (ho : ∀ n, o = some n → cellLive (S.hp n)) (J : Nat → Prop) (hJ : ∀ b, J b → ∃ n, o = some n ∧ hasBlk (S.ρ n) b) (x : Cell) (hx : x = .free ∨ x = .dead) :
    let T : Sit := { S with I := fun b => S.I b ∨ J b, hp := fun i => if o = some i then x else (S.hp i).only (notName o) }
    HRel T ∧ (∀ (c : AV) (v : Value), c.names (fun m => S.hp m ≠ .free) → VRel S c v → VRel T (c.only (notName o)) v) ∧ (∀ c : AV, c.names (fun m => S.hp m ≠ .free) → (c.only (notName o)).names (fun m => T.hp m ≠ .free)) ∧
      (∀ base, (∀ n, o = some n → n < base → x = .dead) → Ext (Below' base) S T) ∧ (∀ b, S.I b → T.I b ∧ T.w.heap[b]? = S.w.heap[b]?) := by
  intro T
  cases o with
  | none =>
    have M : Mask (notName none) { S with I := T.I } T := ⟨rfl, rfl, rfl, rfl, fun n => .inl (by simp [T])⟩
    have hI : T.I = S.I := by
      funext b
      simp only [T]
      apply propext
      constructor
      · rintro (h | h)
        · exact h
        · obtain ⟨n, hn, _⟩ := hJ b h; cases hn
      · exact .inl
    rw [hI] at M
    refine ⟨M.hrel H, fun c v _ hv => VRel.mask M c hv, fun c hn => AV.names_imp (fun _ hm => M.nonfree hm) _ (AV.names_only _ hn), fun base _ => M.ext fun n _ hf hfr => ?_, fun b hb => ⟨by rw [hI]; exact hb, rfl⟩⟩
    simp only [T, reduceCtorEq, if_false] at hfr
    exact only_free hf hfr
  | some n =>
    obtain ⟨H1, E1⟩ := H.bury (ho n rfl) J (fun b hb => by obtain ⟨m, hm, hb⟩ := hJ b hb; cases hm; exact hb)
    have M : Mask (notName (some n)) { S with I := fun b => S.I b ∨ J b, hp := upd S.hp n .dead } T := by
      refine ⟨rfl, rfl, rfl, rfl, fun m => ?_⟩
      simp only [T]
      by_cases hm : m = n
      · subst hm
        right
        rw [if_pos rfl]
        exact ⟨notName_self m, hx⟩
      · left
        rw [if_neg (fun e => hm (by cases e; rfl)), upd_other hm]
    have hnn : ∀ c : AV, c.names (fun m => S.hp m ≠ .free) → c.names (fun m => (upd S.hp n .dead) m ≠ .free) := fun c hc =>
      AV.names_imp (fun m hm => E1.nonfree trivial hm) c hc
    refine ⟨M.hrel H1, fun c v hc hv => VRel.mask M _ (VRel.ext E1 c (AV.names_imp (fun _ hm => ⟨trivial, hm⟩) c hc) hv), fun c hn => AV.names_imp (fun _ hm => M.nonfree hm) _ (AV.names_only _ (hnn c hn)), fun base hb => ?_, fun b hb => ⟨.inl hb, rfl⟩⟩
    · refine ⟨fun b hb => ⟨.inl hb, rfl⟩, Nat.le_refl _, rfl, fun _ _ => rfl, fun m hm hf => ?_, fun m hm hd => ?_, fun b hb hlt => hb.elim id fun hj => by
        obtain ⟨k, hk, hb⟩ := hJ b hj
        exact absurd hlt (H.geB (ho k hk) hb), ⟨rfl, rfl⟩⟩
      · by_cases hmn : m = n
        · subst hmn; left; simp only [T, if_true]; exact hb m rfl hm
        · simp only [T, if_neg (show ¬ (some n = some m) from fun e => hmn (by cases e; rfl))]
          by_cases hl : cellLive (S.hp m)
          · exact .inr ⟨trivial, sameShape_only hl⟩
          · left
            cases hc : S.hp m <;> rw [hc] at hl hf <;> simp [cellLive, Cell.live] at hl hf ⊢ <;> rfl
      · by_cases hmn : m = n
        · subst hmn; simp only [T, if_true]; exact hb m rfl hm
        · simp only [T, if_neg (show ¬ (some n = some m) from fun e => hmn (by cases e; rfl))]
          rw [hd]; rfl

theorem row_cut {S : Sit} (H : HRel S) {n : Nat} {e : Kind} {xs : List e.T} (hn : S.hp n = .row e xs) (k : Nat) (hk : k ≤ xs.length) {a : Option Addr} {cap : Nat} (hρ : S.ρ n = .slice a xs.length cap)
    {T : Sit} (hw : T.w = S.w) (hI : ∀ b, S.I b → T.I b) (hB : T.B = S.B) (hnI : ∀ b, hasBlk (S.ρ n) b → ¬ T.I b) {m : Nat} (hm : T.ρ m = .slice a k cap) : ObjAt T m (.row e (xs.take k)) := by
  have ho := H.ob n
  rw [hn] at ho
  rcases ho with ⟨g1, g2⟩ | ⟨b, cap', c, E', g1, g2, g3, g4, g5, g6, g7, g8⟩
  · rw [g1] at hρ
    simp only [Value.slice.injEq] at hρ
    obtain ⟨rfl, h2, rfl⟩ := hρ
    left
    have : k = 0 := by omega
    subst this
    exact ⟨hm, by simp⟩
  · unfold rowAtV at g1
    rw [g1] at hρ
    simp only [Value.slice.injEq] at hρ
    obtain ⟨rfl, _, rfl⟩ := hρ
    right
    refine ⟨b, cap', c, E', by unfold rowAtV; rw [List.length_take, Nat.min_eq_left hk]; exact hm, by rw [hw]; exact g2, hnI b (by rw [g1]; exact rfl), by rw [hB]; exact g4, by rw [List.length_take]; omega, g6, g7, fun i hi => ?_⟩
    rw [List.length_take] at hi
    obtain ⟨us, q1, q2⟩ := g8 i (by omega)
    refine ⟨us, ?_, q2⟩
    rw [List.getD_eq_getElem?_getD, List.getElem?_take, if_pos (by omega), ← List.getD_eq_getElem?_getD]
    exact RelK.later (fun b hb => ⟨hI b hb, by rw [hw]⟩) e q1

/-- what rowAt finds -/
theorem rowAt_inv {S : Sit} (H : HRel S) {e : Kind} {c : AV} {v : Value} {xs : List e.T} {o : Option Nat} (hv : VRel S c v) (h : rowAt S.hp e c = some (xs, o)) :
    (o = none ∧ v = .slice none 0 0 ∧ xs = []) ∨
    ∃ n ys k a cap, o = some n ∧ S.hp n = .row e ys ∧ k ≤ ys.length ∧ xs = ys.take k ∧ S.ρ n = .slice a ys.length cap ∧ v = .slice a k cap := by
  have hrow : ∀ n ys, S.hp n = .row e ys → ∃ a cap, S.ρ n = .slice a ys.length cap := by
    intro n ys hn
    have ho := H.ob n
    rw [hn] at ho
    rcases ho with ⟨g1, g2⟩ | ⟨b, cap, c, E', g1, _⟩
    · exact ⟨none, 0, by rw [g1, g2]⟩
    · exact ⟨_, cap, g1⟩
  unfold rowAt at h
  split at h
  · simp only [Option.some.injEq, Prod.mk.injEq] at h
    exact .inl ⟨h.2.symm, hv.nilsl_inv, h.1.symm⟩
  · rename_i n
    split at h
    · rename_i e' ys hn
      split at h
      · rename_i hee
        subst hee
        simp only [Option.some.injEq, Prod.mk.injEq] at h
        obtain ⟨rfl, rfl⟩ := h
        obtain ⟨a, cap, hr⟩ := hrow n _ hn
        unfold VRel at hv
        rw [hn] at hv
        exact .inr ⟨n, ys, ys.length, a, cap, rfl, hn, Nat.le_refl _, by simp, hr, hv.2.trans hr⟩
      · cases h
    · cases h
  · rename_i n k
    split at h
    · rename_i e' ys hn
      split at h
      · rename_i hee
        subst hee
        simp only [Option.some.injEq, Prod.mk.injEq] at h
        obtain ⟨rfl, rfl⟩ := h
        unfold VRel at hv
        rw [hn] at hv
        obtain ⟨_, a, cap, h1, h2, h3⟩ := hv
        exact .inr ⟨n, ys, k, a, cap, rfl, hn, h2, rfl, h1, h3⟩
      · cases h
    · cases h
  · cases h

/-- a row gets a new name -/
theorem renameC_sound {S : Sit} {st st' : St} {a : Act} (H : HRel S) (F : FRel S st.fr a) (e0 : S.hp = st.hp) {cl : Cell} {v : Value} {o : Option Nat} {n : Nat} (h : renameC st o n cl = some st')
    (hlo : ∀ m, o = some m → cellLive (S.hp m)) (hnb : ∀ cs, cl ≠ .box cs) (hblk : ∀ b, hasBlk v b → ∃ m, o = some m ∧ hasBlk (S.ρ m) b)
    (hob : ∀ T : Sit, T.w = S.w → T.I = S.I → T.B = S.B → T.ρ n = v → ObjAt T n cl) :
    ∃ T, T.w = S.w ∧ HRel T ∧ FRel T st'.fr a ∧ T.hp = st'.hp ∧ T.hp n = cl ∧ T.ρ n = v ∧ (∀ base, (o = some n → base ≤ n) → Ext (Below' base) S T) ∧
      (∀ (d : AV) (u : Value), d.names (fun m => S.hp m ≠ .free) → VRel S d u → VRel T (d.only (notName o)) u) ∧ (∀ m, m ≠ n → o ≠ some m → T.hp m = (S.hp m).only (notName o) ∧ T.ρ m = S.ρ m) := by
  unfold renameC at h
  simp only at h
  split at h
  · rename_i hfree
    simp only [Option.some.injEq] at h
    subst h
    obtain ⟨H1, hV, hN, hE, hIw⟩ := buryAll H o hlo (fun _ => False) (fun b hb => hb.elim) (if o = some n then .free else .dead) (by split; exact .inl rfl; exact .inr rfl)
    have hI1 : (fun b => S.I b ∨ False) = S.I := by funext b; simp
    simp only [hI1] at H1 hV hN hE hIw
    -- the name n is free there
    have hn1 : (if o = some n then (if o = some n then Cell.free else .dead) else (S.hp n).only (notName o)) = .free := by
      by_cases ho : o = some n
      · rw [if_pos ho, if_pos ho]
      · rw [if_neg ho] at hfree ⊢
        have : S.hp n = .free := by
          rw [e0]
          cases o with
          | none => exact hfree
          | some m =>
            have hnm : n ≠ m := fun e => ho (by rw [e])
            have h1 : upd st.hp m .dead n = .free := hfree
            have h2 : upd st.hp m .dead n = st.hp n := upd_other hnm
            exact h2.symm.trans h1
        rw [this]; rfl
    obtain ⟨H2, E2⟩ := HRel.fresh (S := { S with hp := fun i => if o = some i then (if o = some n then Cell.free else .dead) else (S.hp i).only (notName o) }) H1 (n := n) hn1 cl v S.w (Nat.le_refl _)
      (fun b _ _ => rfl)
      (fun b hb => by
        obtain ⟨m, h1, hbm⟩ := hblk b hb
        have hlm := hlo m h1
        refine ⟨H.notI hlm hbm, H.geB hlm hbm, fun m' hm' hbm' => ?_⟩
        by_cases hmm : m' = m
        · subst hmm
          simp only [h1, if_true] at hm'
          split at hm' <;> cases hm'
        · refine H.ds m m' b (fun e => hmm e.symm) hlm ?_ hbm hbm'
          simp only [h1, if_neg (show ¬ (some m = some m') from fun e => hmm (by cases e; rfl))] at hm'
          unfold cellLive at hm' ⊢
          rwa [only_live] at hm')
      (fun cs hcs => (hnb cs hcs).elim)
      (fun _ => hob _ rfl rfl rfl (by simp only [upd_same]))
    have hhp : upd (fun i => if o = some i then (if o = some n then Cell.free else .dead) else (S.hp i).only (notName o)) n cl =
        upd (fun i => ((match o with | some m => upd st.hp m .dead | none => st.hp) i).only (notName o)) n cl := by
      funext i
      unfold upd
      by_cases hi : i = n
      · rw [if_pos hi, if_pos hi]
      · rw [if_neg hi, if_neg hi, e0]
        cases o with
        | none => simp
        | some m =>
          by_cases him : i = m
          · subst him
            have : i ≠ n := hi
            have h1 : ¬ (some i = some n) := fun e => hi (by cases e; rfl)
            simp only [if_true, if_neg h1]
            rfl
          · have him' : m ≠ i := fun e => him e.symm
            simp [him, him']
    refine ⟨{ S with ρ := upd S.ρ n v, hp := upd (fun i => if o = some i then (if o = some n then Cell.free else .dead) else (S.hp i).only (notName o)) n cl }, rfl, H2, ?_, hhp, by simp only [upd_same], by simp only [upd_same], fun base hb => ?_, fun d u hd hu => ?_, fun m hm hom => ?_⟩
    · refine FRel.ext E2 ⟨fun i => hV _ _ (F.n i) (F.v i), fun i => hN _ (F.n i), F.d⟩
    · refine (hE base fun m hm hlt => ?_).trans (E2.weaken fun _ _ => trivial)
      by_cases ho : o = some n
      · have := hb ho; rw [ho] at hm; cases hm; omega
      · rw [if_neg ho]
    · exact VRel.ext E2 _ (AV.names_imp (fun _ hm => ⟨trivial, hm⟩) _ (hN d hd)) (hV d u hd hu)
    · simp only [upd_other hm, if_neg hom, and_self]
  · cases h

theorem rename_sound {S : Sit} {st st' : St} {a : Act} (H : HRel S) (F : FRel S st.fr a) (e0 : S.hp = st.hp) {e : Kind} {c : AV} {v : Value} {xs : List e.T} {o : Option Nat} (hv : VRel S c v)
    (hr : rowAt st.hp e c = some (xs, o)) {n : Nat} (h : rename st o n e xs = some st') :
    ∃ T, T.w = S.w ∧ HRel T ∧ FRel T st'.fr a ∧ T.hp = st'.hp ∧ T.hp n = .row e xs ∧ T.ρ n = v ∧ (∀ base, (o = some n → base ≤ n) → Ext (Below' base) S T) ∧
      (∀ (d : AV) (u : Value), d.names (fun m => S.hp m ≠ .free) → VRel S d u → VRel T (d.only (notName o)) u) ∧ (∀ m, m ≠ n → o ≠ some m → T.hp m = (S.hp m).only (notName o) ∧ T.ρ m = S.ρ m) ∧ v.oneCell' = true := by
  rw [← e0] at hr
  have hinv := rowAt_inv H hv hr
  have hone : v.oneCell' = true := by
    rcases hinv with ⟨_, h2, _⟩ | ⟨_, _, _, _, _, _, _, _, _, _, h2⟩ <;> rw [h2] <;> rfl
  obtain ⟨T, g1, g2, g3, g4, g5, g6, g7, g8, g9⟩ := renameC_sound H F e0 (v := v) h (fun m hm => by
      rcases hinv with ⟨h1, _⟩ | ⟨m', ys, k, ad, cap, h1, h2, _⟩
      · rw [h1] at hm; cases hm
      · rw [h1] at hm; cases hm; rw [h2]; rfl) (fun cs hcs => by cases hcs)
    (fun b hb => by
      rcases hinv with ⟨_, h2, _⟩ | ⟨m, ys, k, ad, cap, h1, h2, h3, h4, h5, h6⟩
      · rw [h2] at hb; replace hb : none = some b := hb; cases hb
      · refine ⟨m, h1, ?_⟩
        rw [h6] at hb; rw [h5]
        cases ad with
        | none => replace hb : none = some b := hb; cases hb
        | some ad => exact hb)
    (fun T hw hI hB hρ => by
      rcases hinv with ⟨h1, h2, h3⟩ | ⟨m, ys, k, ad, cap, h1, h2, h3, h4, h5, h6⟩
      · subst h3; left; exact ⟨hρ.trans h2, rfl⟩
      · subst h4
        refine row_cut H h2 k h3 h5 hw (fun b hb => by rw [hI]; exact hb) hB (fun b hb => ?_) (hρ.trans h6)
        rw [hI]
        exact H.notI (by rw [h2]; rfl) hb)
  exact ⟨T, g1, g2, g3, g4, g5, g6, g7, g8, g9, hone⟩

end Go.AM

/- Each command keeps the relation. -/
namespace Go.AM
open Go

theorem notName_none : notName none = fun _ => true := by funext m; rfl

theorem VRel.ref_mk {S : Sit} {n : Nat} {e : Kind} {xs : List e.T} {v : Value} (h1 : v.oneCell' = true) (h : S.hp n = .row e xs) (hv : S.ρ n = v) : VRel S (.ref n) v := by
  unfold VRel
  rw [h]
  exact ⟨h1, hv.symm⟩

theorem adopt_sound {S : Sit} {st st' : St} {sz base : Nat} {a : Act} (G : Good S st sz a) {s n : Nat} {e : Kind} (h : (Cmd.adopt s e n).run base st = some st') :
    ∃ T, T.w = S.w ∧ Good T st' sz a ∧ Ext (Below' base) S T := by
  simp only [Cmd.run, Option.bind_eq_some_iff] at h
  obtain ⟨⟨xs, o⟩, h1, h2⟩ := h
  split at h2
  · rename_i hb
    simp only [Option.map_eq_some_iff] at h2
    obtain ⟨st1, h3, rfl⟩ := h2
    obtain ⟨T, w, HT, FT, ht, hn, hr, hE, _, _, hone⟩ := rename_sound G.h G.f G.e (G.f.v s) h1 h3
    refine ⟨T, w, ⟨HT, FT.upd (VRel.ref_mk hone hn hr) ?_, ht, G.z⟩, hE base fun _ => hb⟩
    unfold AV.names
    rw [hn]
    simp
  · cases h2

/-- what a cell of a box is known as changes -/
theorem recell {T : Sit} (H : HRel T) {m : Nat} {cs : List AV} (hm : T.hp m = .box cs) {c : Nat} {x : AV}
    (hx : ∀ b d E, blockAt (T.ρ m) b → T.w.heap[b]? = some (.cells d E (0, 0)) → VRel T x (d.toList.getD c undef)) (hn : x.names (fun i => T.hp i ≠ .free)) :
    HRel { T with hp := upd T.hp m (.box (cs.set c x)) } ∧ Ext Top T { T with hp := upd T.hp m (.box (cs.set c x)) } := by
  have hl : cellLive (T.hp m) := by rw [hm]; rfl
  have hnm : AV.namesL (fun i => T.hp i ≠ .free) (cs.set c x) := AV.namesL_of fun y hy => by
    rcases List.mem_or_eq_of_mem_set hy with hy | hy
    · exact AV.namesL_mem (H.nb m cs hm) hy
    · subst hy; exact hn
  refine H.write hl (.box (cs.set c x)) T.w (by rw [hm]; simp [sameShape]) (fun b _ => rfl) rfl (fun E => ?_) (fun ds hds => by cases hds; exact hnm)
  have ho := H.ob m
  rw [hm] at ho
  obtain ⟨b, d, el, g1, g2, g3, g4, g5, g6⟩ := ho
  refine ⟨b, d, el, g1, g2, g3, g4, ?_, g6⟩
  refine VRelL.ext E _ (AV.namesL_imp (fun _ hm => ⟨trivial, hm⟩) _ hnm) ?_
  have := VRelL.set (i := c) g5 (hx b d el g1 g2)
  by_cases hc : c < d.toList.length
  · have e2 : d.toList.set c (d.toList.getD c undef) = d.toList := by
      apply List.ext_getElem?
      intro i
      rw [List.getElem?_set]
      split
      · rename_i hi; subst hi
        rw [List.getD_eq_getElem?_getD]
        simp [List.getElem?_eq_getElem hc]
      · rfl
    rwa [e2] at this
  · have hlen := g5.length
    rw [List.set_eq_of_length_le (by omega), List.set_eq_of_length_le (l := d.toList) (by omega)] at this
    rw [List.set_eq_of_length_le (by omega)]
    exact this

theorem setCell_sound {S : Sit} {st st' : St} {sz : Nat} {a : Act} (G : Good S st sz a) {m c : Nat} {x : AV} (h : setCellAt st m c x = some st')
    (hx : ∀ b d E, blockAt (S.ρ m) b → S.w.heap[b]? = some (.cells d E (0, 0)) → VRel S x (d.toList.getD c undef)) (hn : x.names (fun i => S.hp i ≠ .free)) :
    ∃ T, T.w = S.w ∧ Good T st' sz a ∧ Ext Top S T := by
  unfold setCellAt at h
  split at h
  · rename_i cs hcs
    split at h
    · simp only [Option.some.injEq] at h
      subst h
      obtain ⟨H', E'⟩ := recell G.h (by rw [G.e]; exact hcs) hx hn
      exact ⟨{ S with hp := upd S.hp m (.box (cs.set c x)) }, rfl, ⟨H', G.f.ext E', by simp only [G.e], G.z⟩, E'⟩
    · cases h
  · cases h

/-- what a cell of a box holds -/
theorem cell_value {S : Sit} (H : HRel S) {m : Nat} {cs : List AV} (hm : S.hp m = .box cs) : ∃ b d E, blockAt (S.ρ m) b ∧ S.w.heap[b]? = some (.cells d E (0, 0)) ∧
    ∀ c, VRel S (cs.getD c .undef) (d.toList.getD c undef) := by
  have ho := H.ob m
  rw [hm] at ho
  obtain ⟨b, d, el, g1, g2, g3, g4, g5, g6⟩ := ho
  refine ⟨b, d, el, g1, g2, fun c => ?_⟩
  by_cases hc : c < cs.length
  · obtain ⟨v, h1, h2⟩ := g5.get (List.getElem?_eq_getElem hc)
    rw [List.getD_eq_getElem?_getD, List.getD_eq_getElem?_getD, h1, List.getElem?_eq_getElem hc]
    exact h2
  · rw [List.getD_eq_getElem?_getD, List.getElem?_eq_none (by omega)]
    exact .undef_mk

theorem adoptCell_sound {S : Sit} {st st' : St} {sz base : Nat} {a : Act} (G : Good S st sz a) {m c n : Nat} {e : Kind} (h : (Cmd.adoptCell m c e n).run base st = some st') :
    ∃ T, T.w = S.w ∧ Good T st' sz a ∧ Ext (Below' base) S T := by
  simp only [Cmd.run, Option.bind_eq_some_iff] at h
  obtain ⟨⟨xs, o⟩, h1, h2⟩ := h
  split at h2
  · cases h2
  · rename_i hb
    simp only [Option.bind_eq_some_iff] at h2
    obtain ⟨st1, h3, h4⟩ := h2
    unfold setCellAt at h4
    split at h4
    · rename_i ds hds
      -- before: m was a box too
      have hcases : ∃ cs, st.hp m = .box cs := by
        unfold cellAt at h1
        split at h1
        · rename_i cs hcs; exact ⟨cs, hcs⟩
        · simp [rowAt] at h1
      obtain ⟨cs, hcs⟩ := hcases
      have hcs' : S.hp m = .box cs := by rw [G.e]; exact hcs
      obtain ⟨b, d, E, v1, v2, v3⟩ := cell_value G.h hcs'
      have hca : cellAt st m c = cs.getD c .undef := by simp only [cellAt, hcs]
      obtain ⟨T, w, HT, FT, ht, hn, hr, hE, _, hm, hone⟩ := rename_sound G.h G.f G.e (v3 c) (by rw [← hca]; exact h1) h3
      have hmn : m ≠ n := fun e => hb (.inl e)
      have hom : o ≠ some m := by
        rintro rfl
        rcases rowAt_inv G.h (v3 c) (by rw [← hca, G.e]; exact h1) with ⟨h5, _⟩ | ⟨n', ys, _, _, _, h5, h6, _⟩
        · cases h5
        · cases h5; rw [hcs'] at h6; cases h6
      have hTm := hm m hmn hom
      have GT : Good T st1 sz a := ⟨HT, FT, ht, G.z⟩
      obtain ⟨U, hU, GU, EU⟩ := setCell_sound (x := .ref n) GT (st' := st') (m := m) (c := c) (by unfold setCellAt; rw [hds]; exact h4)
        (fun b' d' E' q1 q2 => by
          rw [hTm.2] at q1
          have : b' = b := by
            unfold blockAt at q1 v1
            rw [v1] at q1
            simp only [Value.pointer.injEq, Option.some.injEq, Addr.mk.injEq] at q1
            exact q1.1.symm
          subst this
          rw [w, v2] at q2
          simp only [Option.some.injEq, Obj.cells.injEq] at q2
          obtain ⟨rfl, _⟩ := q2
          exact VRel.ref_mk hone hn hr) (by unfold AV.names; rw [hn]; simp)
      refine ⟨U, hU.trans w, GU, (hE base fun ho => ?_).trans (EU.weaken fun _ _ => trivial)⟩
      rcases Nat.lt_or_ge n base with hlt | hge
      · exact absurd (.inr ⟨ho, hlt⟩) hb
      · exact hge
    · cases h4

theorem adoptM_sound {S : Sit} {st st' : St} {sz base : Nat} {a : Act} (G : Good S st sz a) {m c n : Nat} (h : (Cmd.adoptM m c n).run base st = some st') :
    ∃ T, T.w = S.w ∧ Good T st' sz a ∧ Ext (Below' base) S T := by
  simp only [Cmd.run] at h
  split at h
  · rename_i o hca
    split at h
    · rename_i k v ess hes
      split at h
      · cases h
      · rename_i hb
        simp only [Option.bind_eq_some_iff] at h
        obtain ⟨st1, h3, h4⟩ := h
        unfold setCellAt at h4
        split at h4
        · rename_i ds hds
          have hcases : ∃ cs, st.hp m = .box cs := by
            unfold cellAt at hca
            split at hca
            · rename_i cs hcs; exact ⟨cs, hcs⟩
            · cases hca
          obtain ⟨cs, hcs⟩ := hcases
          have hcs' : S.hp m = .box cs := by rw [G.e]; exact hcs
          have hes' : S.hp o = .mrow k v ess := by rw [G.e]; exact hes
          obtain ⟨b, d, E, v1, v2, v3⟩ := cell_value G.h hcs'
          have hca' : cs.getD c .undef = .ref o := by rw [← hca]; simp only [cellAt, hcs]
          have hv := v3 c
          rw [hca'] at hv
          unfold VRel at hv
          rw [hes'] at hv
          obtain ⟨hone, ms, hρo⟩ := hv
          have hlo : cellLive (S.hp o) := by rw [hes']; rfl
          obtain ⟨T, w, HT, FT, ht, hn, hr, hE, _, hm⟩ := renameC_sound G.h G.f G.e (v := S.ρ o) h3 (fun m' hm' => by cases hm'; exact hlo) (fun cs hc => by cases hc) (fun b hb => ⟨o, rfl, hb⟩)
            (fun T hw hI hB hρ => by
              have ho' := G.h.ob o
              rw [hes'] at ho'
              unfold ObjAt MapAt at ho' ⊢
              rw [hρ, hw, hI, hB]; exact ho')
          have hmn : m ≠ n := fun e => hb (.inl e)
          have hom : some o ≠ some m := by
            intro e
            cases e
            exact hb (.inr (.inl rfl))
          have hTm := hm m hmn hom
          have GT : Good T st1 sz a := ⟨HT, FT, ht, G.z⟩
          obtain ⟨U, hU, GU, EU⟩ := setCell_sound (x := .ref n) GT (st' := st') (m := m) (c := c) (by unfold setCellAt; rw [hds]; exact h4)
            (fun b' d' E' q1 q2 => by
              rw [hTm.2] at q1
              have : b' = b := by
                unfold blockAt at q1 v1
                rw [v1] at q1
                simp only [Value.pointer.injEq, Option.some.injEq, Addr.mk.injEq] at q1
                exact q1.1.symm
              subst this
              rw [w, v2] at q2
              simp only [Option.some.injEq, Obj.cells.injEq] at q2
              obtain ⟨rfl, _⟩ := q2
              exact mrow_mk hone hn (hr.trans hρo)) (by unfold AV.names; rw [hn]; simp)
          refine ⟨U, hU.trans w, GU, (hE base fun ho => ?_).trans (EU.weaken fun _ _ => trivial)⟩
          rcases Nat.lt_or_ge n base with hlt | hge
          · exact absurd (.inr (.inr ⟨by cases ho; rfl, hlt⟩)) hb
          · exact hge
        · cases h4
    · cases h
  · cases h

mutual
theorem only_true : ∀ c : AV, c.only (fun _ => true) = c
  | .ref _ | .pref _ _ | .ptr _ _ | .eptr _ _ _ | .aptr _ _ _ _ | .mapr _ | .mref _ _ | .keys _ _ _ => by unfold AV.only; rfl
  | .iptr cs => by unfold AV.only; rw [onlyL_true cs]
  | .fn f cap => by unfold AV.only; rw [onlyL_true cap]
  | .agg cs => by unfold AV.only; rw [onlyL_true cs]
  | .tup cs => by unfold AV.only; rw [onlyL_true cs]
  | .undef | .bool _ | .int _ _ | .str _ | .sl _ _ | .nilsl | .nilp | .nilfn | .nilmap | .nilif => by unfold AV.only; rfl
theorem onlyL_true : ∀ cs : List AV, AV.onlyL (fun _ => true) cs = cs
  | [] => rfl
  | c :: r => by unfold AV.onlyL; rw [only_true c, onlyL_true r]
end

theorem Cell.only_true (c : Cell) : c.only (fun _ => true) = c := by
  cases c <;> simp [Cell.only, onlyL_true]

/-- what freezing finds -/
theorem frozenAt_sound {S : Sit} (H : HRel S) {c : AV} {v : Value} (hv : VRel S c v) {y : AV} {o : Option Nat} (h : frozenAt S.hp c = some (y, o)) :
    (∀ n, o = some n → cellLive (S.hp n)) ∧ (∀ n cs, o = some n → S.hp n ≠ .box cs) ∧ y.closed = true ∧
    ∀ T : Sit, T.w = S.w → (∀ b, S.I b → T.I b) → (∀ n b, o = some n → hasBlk (S.ρ n) b → T.I b) → VRel T y v := by
  have hrow : ∀ (n k : Nat) (e : Kind) (ys : List e.T), S.hp n = .row e ys → k ≤ ys.length → (∃ a cap, S.ρ n = .slice a ys.length cap ∧ v = .slice a k cap) →
      ∀ T : Sit, T.w = S.w → (∀ b, S.I b → T.I b) → (∀ b, hasBlk (S.ρ n) b → T.I b) → VRel T (.sl e (ys.take k)) v := by
    intro n k e ys hn hk ⟨a, cap, h1, h2⟩ T hw hI hJ
    refine .sl_mk ?_
    have ho := H.ob n
    rw [hn] at ho
    have hlen : (ys.take k).length = k := by rw [List.length_take]; omega
    rcases ho with ⟨g1, g2⟩ | ⟨b, cap', c, E', g1, g2, g3, g4, g5, g6, g7, g8⟩
    · rw [g1] at h1
      simp only [Value.slice.injEq] at h1
      obtain ⟨rfl, h3, rfl⟩ := h1
      have : k = 0 := by omega
      subst this
      exact ⟨none, 0, 0, by rw [h2], by simp, Nat.le_refl _, .inl rfl⟩
    · unfold rowAtV at g1
      rw [g1] at h1
      simp only [Value.slice.injEq] at h1
      obtain ⟨rfl, _, rfl⟩ := h1
      refine ⟨_, k, cap', by rw [h2], hlen.symm, by omega, .inr ⟨b, 0, rfl, hJ b (by rw [g1]; rfl), fun i hi => ?_⟩⟩
      obtain ⟨us, q1, q2⟩ := g8 i (by omega)
      refine ⟨us, ?_, fun j u hj => ?_⟩
      · show RelK T.w T.I e ((List.take k ys).getD i e.dflt) us
        rw [List.getD_eq_getElem?_getD, List.getElem?_take, if_pos hi, ← List.getD_eq_getElem?_getD]
        exact RelK.later (fun b hb => ⟨hI b hb, by rw [hw]⟩) e q1
      · rw [hw, Nat.zero_add]
        exact (cell_of_row S.w b _ c E' (0, 0) g2).trans (q2 j u hj)
  have hslice : ∀ n e ys, S.hp n = .row e ys → ∃ a cap, S.ρ n = .slice a ys.length cap := by
    intro n e ys hn
    have ho := H.ob n
    rw [hn] at ho
    rcases ho with ⟨g1, g2⟩ | ⟨b, cap, c, E', g1, _⟩
    · exact ⟨none, 0, by rw [g1, g2]⟩
    · exact ⟨_, cap, g1⟩
  unfold frozenAt at h
  split at h
  · simp only [Option.some.injEq, Prod.mk.injEq] at h
    obtain ⟨rfl, rfl⟩ := h
    exact ⟨(fun _ h => nomatch h), (fun _ _ h => nomatch h), rfl, fun T _ _ _ => by unfold VRel at hv ⊢; exact hv⟩
  · simp only [Option.some.injEq, Prod.mk.injEq] at h
    obtain ⟨rfl, rfl⟩ := h
    exact ⟨(fun _ h => nomatch h), (fun _ _ h => nomatch h), rfl, fun T hw hI _ => by
      unfold VRel at hv ⊢; exact RelK.later (fun b hb => ⟨hI b hb, by rw [hw]⟩) _ hv⟩
  · rename_i n
    split at h
    · rename_i e xs hn
      simp only [Option.some.injEq, Prod.mk.injEq] at h
      obtain ⟨rfl, rfl⟩ := h
      refine ⟨(fun m hm => by cases hm; rw [hn]; rfl), (fun m cs hm hc => by cases hm; rw [hn] at hc; cases hc), rfl, fun T hw hI hJ => ?_⟩
      unfold VRel at hv
      rw [hn] at hv
      obtain ⟨a, cap, hs⟩ := hslice n e xs hn
      have := hrow n xs.length e xs hn (Nat.le_refl _) ⟨a, cap, hs, hv.2.trans hs⟩ T hw hI (fun b hb => hJ n b rfl hb)
      rwa [List.take_length] at this
    · cases h
  · rename_i n k
    split at h
    · rename_i e xs hn
      simp only [Option.some.injEq, Prod.mk.injEq] at h
      obtain ⟨rfl, rfl⟩ := h
      refine ⟨(fun m hm => by cases hm; rw [hn]; rfl), (fun m cs hm hc => by cases hm; rw [hn] at hc; cases hc), rfl, fun T hw hI hJ => ?_⟩
      unfold VRel at hv
      rw [hn] at hv
      obtain ⟨_, a, cap, h1, h2, h3⟩ := hv
      exact hrow n k e xs hn h2 ⟨a, cap, h1, h3⟩ T hw hI (fun b hb => hJ n b rfl hb)
    · cases h
  · cases h

theorem bury_sound {S : Sit} {st : St} {sz : Nat} {a : Act} (G : Good S st sz a) (o : Option Nat) (ho : ∀ n, o = some n → cellLive (S.hp n)) :
    ∃ T, T.w = S.w ∧ Good T (bury st o) sz a ∧ (∀ base, Ext (Below' base) S T) ∧ (∀ b, S.I b → T.I b) ∧ (∀ n b, o = some n → hasBlk (S.ρ n) b → T.I b) ∧ T.ρ = S.ρ := by
  obtain ⟨H1, hV, hN, hE, hI⟩ := buryAll G.h o ho (fun b => ∃ n, o = some n ∧ hasBlk (S.ρ n) b) (fun b h => h) .dead (.inr rfl)
  refine ⟨{ S with I := fun b => S.I b ∨ ∃ n, o = some n ∧ hasBlk (S.ρ n) b, hp := fun i => if o = some i then .dead else (S.hp i).only (notName o) }, rfl, ⟨H1, ?_, ?_, G.z⟩, fun base => hE base fun _ _ _ => rfl, fun b hb => (hI b hb).1, fun n b h1 h2 => .inr ⟨n, h1, h2⟩, rfl⟩
  · have F1 : FRel { S with I := fun b => S.I b ∨ ∃ n, o = some n ∧ hasBlk (S.ρ n) b, hp := fun i => if o = some i then .dead else (S.hp i).only (notName o) } (fun i => (st.fr i).only (notName o)) a := ⟨fun i => hV _ _ (G.f.n i) (G.f.v i), fun i => hN _ (G.f.n i), G.f.d⟩
    cases o with
    | none => simp only [notName_none, only_true] at F1; exact F1
    | some n => exact F1
  · cases o with
    | none => simp only [bury, reduceCtorEq, if_false, notName_none, Cell.only_true, G.e]
    | some n =>
      funext i
      simp only [bury, upd, G.e]
      by_cases hi : i = n
      · subst hi; simp
      · rw [if_neg (fun e => hi (by cases e; rfl)), if_neg hi]

theorem freeze_sound {S : Sit} {st st' : St} {sz base : Nat} {a : Act} (G : Good S st sz a) {s : Nat} (h : (Cmd.freeze s).run base st = some st') :
    ∃ T, T.w = S.w ∧ Good T st' sz a ∧ Ext (Below' base) S T := by
  simp only [Cmd.run, Option.map_eq_some_iff] at h
  obtain ⟨⟨y, o⟩, h1, rfl⟩ := h
  rw [← G.e] at h1
  obtain ⟨k1, _, k2, k3⟩ := frozenAt_sound G.h (G.f.v s) h1
  obtain ⟨T, w, GT, E, hI, hJ, _⟩ := bury_sound G o k1
  exact ⟨T, w, ⟨GT.h, GT.f.upd (k3 T w hI hJ) (AV.names_closed y k2), GT.e, GT.z⟩, E base⟩

theorem freezeCell_sound {S : Sit} {st st' : St} {sz base : Nat} {a : Act} (G : Good S st sz a) {m c : Nat} (h : (Cmd.freezeCell m c).run base st = some st') :
    ∃ T, T.w = S.w ∧ Good T st' sz a ∧ Ext (Below' base) S T := by
  simp only [Cmd.run, Option.bind_eq_some_iff] at h
  obtain ⟨⟨y, o⟩, h1, h2⟩ := h
  have hcases : ∃ cs, st.hp m = .box cs := by
    unfold cellAt at h1
    split at h1
    · rename_i cs hcs; exact ⟨cs, hcs⟩
    · simp [frozenAt] at h1
  obtain ⟨cs, hcs⟩ := hcases
  have hcs' : S.hp m = .box cs := by rw [G.e]; exact hcs
  obtain ⟨b, d, E, v1, v2, v3⟩ := cell_value G.h hcs'
  have hca : cellAt st m c = cs.getD c .undef := by simp only [cellAt, hcs]
  rw [← G.e, hca] at h1
  obtain ⟨k1, _, k2, k3⟩ := frozenAt_sound G.h (v3 c) h1
  obtain ⟨T, w, GT, E1, hI, hJ, hρ⟩ := bury_sound G o k1
  obtain ⟨U, hU, GU, EU⟩ := setCell_sound (x := y) GT (st' := st') (m := m) (c := c) h2
    (fun b' d' E' q1 q2 => by
      rw [hρ] at q1
      have : b' = b := by
        unfold blockAt at q1 v1
        rw [v1] at q1
        simp only [Value.pointer.injEq, Option.some.injEq, Addr.mk.injEq] at q1
        exact q1.1.symm
      subst this
      rw [w, v2] at q2
      simp only [Option.some.injEq, Obj.cells.injEq] at q2
      obtain ⟨rfl, _⟩ := q2
      exact k3 T w hI hJ) (AV.names_closed y k2)
  exact ⟨U, hU.trans w, GU, (E1 base).trans (EU.weaken fun _ _ => trivial)⟩

theorem cmd_sound {S : Sit} {st st' : St} {sz base : Nat} {a : Act} (G : Good S st sz a) {c : Cmd} (h : c.run base st = some st') :
    ∃ T, T.w = S.w ∧ Good T st' sz a ∧ Ext (Below' base) S T := by
  cases c with
  | adopt s e n => exact adopt_sound G h
  | adoptCell m c e n => exact adoptCell_sound G h
  | adoptM m c n => exact adoptM_sound G h
  | freeze s => exact freeze_sound G h
  | freezeCell m c => exact freezeCell_sound G h
  | keep slots names =>
    simp only [Cmd.run, Option.some.injEq] at h
    subst h
    exact keep_sound G slots names

theorem cmds_sound {base : Nat} : ∀ {l : List Cmd} {S : Sit} {st st' : St} {sz : Nat} {a : Act}, Good S st sz a → runCmds base l st = some st' →
    ∃ T, T.w = S.w ∧ Good T st' sz a ∧ Ext (Below' base) S T
  | [], S, st, st', sz, a, G, h => by
    simp only [runCmds, Option.some.injEq] at h
    subst h
    exact ⟨S, rfl, G, Ext.refl S⟩
  | c :: r, S, st, st', sz, a, G, h => by
    simp only [runCmds, Option.bind_eq_some_iff] at h
    obtain ⟨st1, h1, h2⟩ := h
    obtain ⟨T, w, GT, E⟩ := cmd_sound G h1
    obtain ⟨U, w', GU, E'⟩ := cmds_sound GT h2
    exact ⟨U, w'.trans w, GU, E.trans E'⟩

end Go.AM

/- One operation in its frame; a region in the order of its text. -/
namespace Go.AM
open Go

theorem put_size (a : Act) (d : Option Tmp) (v : Value) : (a.put d v).tmps.size = a.tmps.size := by
  cases d <;> simp [Act.put]

theorem put_defers (a : Act) (d : Option Tmp) (v : Value) : (a.put d v).defers = a.defers := by
  cases d <;> rfl

theorem put_sound {S : Sit} {st st' : St} {sz : Nat} {a : Act} (G : Good S st sz a) {o : Oper} {av : AV} {v : Value} (hv : VRel S av v) (hn : av.names (fun m => S.hp m ≠ .free))
    (h : putDst sz o av st = some st') : Good S st' sz (a.put o.dst v) := by
  unfold putDst at h
  split at h
  · rename_i hd
    cases h
    rw [hd]
    exact G
  · rename_i d hd
    split at h
    · rename_i hlt
      cases h
      refine ⟨G.h, ⟨fun i => ?_, fun i => ?_, by rw [put_defers]; exact G.f.d⟩, G.e, by rw [put_size]; exact G.z⟩
      · have hds : d < a.tmps.size := by rw [G.z]; exact hlt
        rw [hd]
        simp only [Act.put, upd]
        by_cases hi : i = d
        · subst hi
          rw [if_pos rfl]
          simpa [Array.getD, hds] using hv
        · rw [if_neg hi]
          have := G.f.v i
          rwa [Array.getD_eq_getD_getElem?, Array.getElem?_setIfInBounds_ne (Ne.symm hi), ← Array.getD_eq_getD_getElem?]
      · simp only [upd]
        split
        · exact hn
        · exact G.f.n i
    · cases h

theorem tup0_mk {S : Sit} : VRel S (.tup []) undef := by unfold VRel; exact ⟨[], rfl, .nil⟩

/-- what a shared call's function does -/
def SoundEnter (P : Program) {R : Type} (enter : Enter R) : Prop :=
  ∀ (ctx : List Nat) (base g : Nat) (args : List AV) (K : AV → Hp → Option R) (hp : Hp) (r : R), enter ctx base g args K hp = some r →
    (∃ fn, P.funcs[g]? = some fn ∧ fn.body.isSome = true ∧ fn.name ≠ "runtime.NumGoroutine") ∧
    ∀ (S : Sit) (vs : List Value), HRel S → S.hp = hp → VRelL S args vs → AV.namesL (fun m => S.hp m ≠ .free) args →
      Calls P g vs.toArray S.w fun e w' => ∃ (v : Value) (av : AV) (T : Sit), e = .returned v ∧ T.w = w' ∧ HRel T ∧ Ext (Below' base) S T ∧ VRel T av v ∧ av.closed = true ∧ K av T.hp = some r

/-- f hands back a new slice with the elements that g says -/
def SoundNew (P : Program) (f : Nat) (g : List AV → Option ((e : Kind) × Option (List e.T))) : Prop :=
  (∃ fn, P.funcs[f]? = some fn ∧ fn.body.isSome = true ∧ fn.name ≠ "runtime.NumGoroutine") ∧
  ∀ (args : List AV) (r : (e : Kind) × Option (List e.T)) (xs : List r.1.T), g args = some r → r.2 = some xs →
    ∀ (w : World) (I : Nat → Prop) (vs : List Value), (∀ b, I b → b < w.heap.size) → VRelL ⟨w, I, fun _ => .nilIface, fun _ => .free, fun b => b < w.heap.size⟩ args vs →
      Calls P f vs.toArray w fun en w' => ∃ v, en = .returned v ∧ w.heap.size ≤ w'.heap.size ∧ (∀ b, b < w.heap.size → w'.heap[b]? = w.heap[b]?) ∧ SameOut w w' ∧
        v.oneCell' = true ∧ ObjAt ⟨w', I, fun _ => v, fun _ => .free, fun b => b < w.heap.size⟩ 0 (.row r.1 xs)

/-- what the soundness of a piece of code leans on -/
structure Base (P : Program) (O : Orc) (Γ : TEnv) {R : Type} (enter : Enter R) : Prop where
  X : Special P Γ O.call
  Γ : Γ.ok P = true
  C : SoundCall P O.call
  fs : ∀ g as r, O.call.av g as = some r → ∃ fn, P.funcs[g]? = some fn ∧ fn.body.isSome = true ∧ fn.name ≠ "runtime.NumGoroutine"
  E : SoundEnter P enter
  N : ∀ f, (∀ args, O.fresh f args = none) ∨ SoundNew P f (O.fresh f)

def below (S : Sit) (base : Nat) : Sit := { S with hp := fun n => if n < base then (S.hp n).only (fun n => n < base) else .free }

theorem mask_below (S : Sit) (base : Nat) : Mask (fun n => n < base) S (below S base) :=
  ⟨rfl, rfl, rfl, rfl, fun n => by
    by_cases hn : n < base
    · left; simp only [below, if_pos hn]
    · right; simp [below, hn]⟩

section
variable {P : Program} {O : Orc} {Γ : TEnv} {R : Type} {enter : Enter R}

theorem opRun_sound (B : Base P O Γ enter) {F : Fn} {o : Oper} {K : St → Option R} {S : Sit} {st : St} {a : Act} {r : R} {next : Act → World → Prop} {Q : Exit → Act → World → Prop}
    (G : Good S st F.sz a) (h : opRun O Γ enter F o K st = some r)
    (hK : ∀ T st' a', Good T st' F.sz a' → Ext (Below' F.base) S T → K st' = some r → next a' T.w) : o.wp P a S.w next Q := by
  unfold opRun at h
  split at h
  · rename_i g args hs
    unfold isShared at hs
    split at hs
    · rename_i f opargs types hop
      split at hs
      · rename_i g' cap hf
        split at hs
        · cases hs
        · split at hs
          · cases hs
          simp only [Option.some.injEq, Prod.mk.injEq] at hs
          obtain ⟨rfl, rfl⟩ := hs
          obtain ⟨⟨fn, hfn, hb, hnm⟩, hcall⟩ := B.E _ _ _ _ _ _ _ h
          obtain ⟨vs, hvs, hrun⟩ := run_call hop G.f hf hfn hb hnm
          unfold Oper.wp
          rw [hrun]
          simp only [Oper.upon]
          have M := mask_below S (F.base + 1000)
          have hnames : AV.namesL (fun m => S.hp m ≠ .free) (opargs.toList.map (ev st.fr) ++ cap) := by
            refine (AV.namesL_append _ _).2 ⟨(args_rel G.f opargs.toList).2, ?_⟩
            have := ev_names G.f f
            rw [hf] at this
            unfold AV.names at this
            exact this
          refine Calls.mono (hcall (below S (F.base + 1000)) vs (M.hrel G.h) (by simp only [below, G.e]) (VRelL.mask M _ hvs) (AV.namesL_imp (fun n hn => M.nonfree hn) _ (AV.namesL_only _ hnames))) fun e w' he => ?_
          obtain ⟨v, av, T, rfl, rfl, HT, ET, hv, hcl, hk⟩ := he
          simp only [Option.bind_eq_some_iff] at hk
          obtain ⟨st', hput, hk⟩ := hk
          have FT : FRel T (fun i => (st.fr i).only (fun n => n < F.base + 1000)) a := by
            have hn1 : ∀ i, ((st.fr i).only (fun n => n < F.base + 1000)).names (fun n => Below' (F.base + 1000) n ∧ (below S (F.base + 1000)).hp n ≠ .free) := fun i =>
              AV.names_imp (fun n hn => ⟨by simpa using hn.1, M.nonfree hn⟩) _ (AV.names_only _ (G.f.n i))
            exact ⟨fun i => VRel.ext ET _ (hn1 i) ((M.frel G.f).v i), fun i => AV.names_imp (fun n hn => ET.nonfree hn.1 hn.2) _ (hn1 i), G.f.d⟩
          refine hK T st' _ (put_sound ⟨HT, FT, rfl, G.z⟩ hv (AV.names_closed _ hcl) hput) ?_ hk
          refine (Ext.weaken (p := Below' (F.base + 1000)) (T := below S (F.base + 1000)) ?_ fun n (hn : n < F.base) => (show n < F.base + 1000 by omega)).trans (ET.weaken fun n (hn : n < F.base) => (show n < F.base + 1000 by omega))
          exact M.ext fun n hn hf hfr => by
            simp only [below, if_pos (show n < F.base + 1000 from hn)] at hfr
            exact only_free hf hfr
      · cases hs
    · cases hs
  · split at h
    · rename_i g hs
      unfold freshOf at hs
      split at hs
      · rename_i f opargs types hop
        split at hs
        · rename_i g' cap hf
          split at hs
          · rename_i hcl
            simp only [Option.bind_eq_some_iff] at h
            obtain ⟨xs, hxs, h⟩ := h
            split at h
            · rename_i hfree
              simp only [Option.bind_eq_some_iff] at h
              obtain ⟨st', hput, hk⟩ := h
              rcases B.N g' with hno | ⟨⟨fn, hfn, hb, hnm⟩, hnew⟩
              · rw [hno] at hs; cases hs
              obtain ⟨vs, hvs, hrun⟩ := run_call hop G.f hf hfn hb hnm
              unfold Oper.wp
              rw [hrun]
              simp only [Oper.upon]
              have hvs' : VRelL ⟨S.w, S.I, fun _ => .nilIface, fun _ => .free, fun b => b < S.w.heap.size⟩ (opargs.toList.map (ev st.fr) ++ cap) vs :=
                VRelL.closed (S := S) (T := ⟨S.w, S.I, fun _ => .nilIface, fun _ => .free, fun b => b < S.w.heap.size⟩) (fun b hb => ⟨hb, rfl⟩) _ hcl hvs
              refine Calls.mono (hnew _ _ xs hs hxs S.w S.I vs G.h.il hvs') fun en w' he => ?_
              obtain ⟨v, rfl, hsz, hold, hout, hone, hob⟩ := he
              have hf0 : S.hp (F.base + o.dst.getD 0) = .free := by rw [G.e]; exact hfree
              generalize hnm0 : F.base + o.dst.getD 0 = nm at *
              have ET : Ext Top S ⟨w', S.I, upd S.ρ nm v, upd S.hp nm (.row g.1 xs), S.B⟩ := by
                refine ⟨fun b hb => ⟨hb, hold b (G.h.il b hb)⟩, hsz, rfl, fun b hb => hold b (G.h.bl b hb), fun m _ hm => ?_, fun m _ hm => ?_, fun _ h _ => h, hout⟩
                · have e : m ≠ nm := fun e => hm (e ▸ hf0)
                  simp only [upd_other e]
                  by_cases hlm : cellLive (S.hp m)
                  · exact .inr ⟨trivial, sameShape_refl hlm⟩
                  · left
                    cases hcm : S.hp m <;> rw [hcm] at hlm hm <;> simp [cellLive, Cell.live] at hlm hm ⊢
                · have e : m ≠ nm := fun e => by rw [e, hf0] at hm; cases hm
                  simp only [upd_other e]; exact hm
              have hob' : ObjAt ⟨w', S.I, upd S.ρ nm v, upd S.hp nm (.row g.1 xs), S.B⟩ nm (.row g.1 xs) := by
                rcases hob with ⟨h1, h2⟩ | ⟨b, cap', c, E, h1, h2, h3, h4, h5⟩
                · exact .inl ⟨by simp only [upd_same]; exact h1, h2⟩
                · exact .inr ⟨b, cap', c, E, by simp only [upd_same]; exact h1, h2, h3, fun hB => h4 (G.h.bl _ hB), h5⟩
              have hblk : ∀ b, hasBlk v b → S.w.heap.size ≤ b := by
                intro b hbv
                rcases hob with ⟨h1, h2⟩ | ⟨b', cap', c, E, h1, h2, h3, h4, h5⟩
                · simp only at h1; rw [h1] at hbv; replace hbv : none = some b := hbv; cases hbv
                · unfold rowAtV at h1; simp only at h1; rw [h1] at hbv; replace hbv : some b' = some b := hbv; cases hbv; simp only at h4; omega
              have HT : HRel ⟨w', S.I, upd S.ρ nm v, upd S.hp nm (.row g.1 xs), S.B⟩ := by
                refine G.h.step nm ET (fun m hm => upd_other hm) (fun m hm => upd_other hm) (fun m hm hlm b hb => ⟨hold b (G.h.lt hlm hb), id⟩) ?_ ?_ ?_ ?_
                · simp only [upd_same]; exact hob'
                · intro m b hm hlm _ hb' hc
                  simp only [upd_same] at hb'
                  exact absurd (G.h.lt hlm hc) (by have := hblk b hb'; omega)
                · intro b hb; exact Nat.lt_of_lt_of_le (G.h.il b hb) hsz
                · intro cs hcs
                  simp only [upd_same] at hcs
                  cases hcs
              refine hK ⟨w', S.I, upd S.ρ nm v, upd S.hp nm (.row g.1 xs), S.B⟩ st' _ (put_sound (st := { st with hp := upd st.hp nm (.row g.1 xs) }) ⟨HT, G.f.ext ET, by rw [G.e], G.z⟩ ?_ ?_ hput) (ET.weaken fun _ _ => trivial) hk
              · unfold VRel
                simp only [upd_same]
                exact ⟨hone, trivial⟩
              · show (upd S.hp nm (.row g.1 xs)) nm ≠ .free
                rw [upd_same]; simp
            · cases h
          · cases hs
        · cases hs
      · cases hs
    rw [← G.e] at h
    refine op_sound B.Γ B.C B.fs B.X G.h G.f h fun av v T hk HT ET hv hn => ?_
    simp only [Option.bind_eq_some_iff] at hk
    obtain ⟨st', hput, hk⟩ := hk
    exact hK T st' _ (put_sound (st := { st with hp := T.hp }) ⟨HT, G.f.ext ET, rfl, G.z⟩ hv hn hput) (ET.weaken fun _ _ => trivial) hk

theorem upd_self {α : Type} {f : Nat → α} {n : Nat} {x : α} (h : f n = x) : upd f n x = f := by
  funext m
  unfold upd
  split
  · rename_i e; rw [e, h]
  · rfl

/-- a guard reads what the slot holds -/
theorem guard_wanted {S : Sit} {fr : Nat → AV} {a : Act} (F : FRel S fr a) {ops : Array Oper} {o : Oper} {j d : Nat} {want b : Bool} (hg : o.guard = some (j, want)) (hs : guardSlot ops j = some d)
    (hd : d < a.tmps.size) (hb : fr d = .bool b) : Region.wanted o (yielded ops a.tmps) = (b == want) := by
  have hv := F.v d
  rw [hb] at hv
  have hv := hv.bool_inv
  rw [Array.getD_eq_getD_getElem?, Array.getElem?_eq_getElem hd] at hv
  simp only [Option.getD_some] at hv
  unfold guardSlot at hs
  simp only [Region.wanted, hg, yielded, hs, Option.bind_some, Array.getElem?_eq_getElem hd, hv]
  cases b <;> cases want <;> rfl

theorem guard_size {S : Sit} {fr : Nat → AV} {a : Act} (F : FRel S fr a) {d : Nat} {b : Bool} (hb : fr d = .bool b) : d < a.tmps.size := by
  rcases Nat.lt_or_ge d a.tmps.size with h | h
  · exact h
  · have hv := F.v d
    rw [hb] at hv
    have hv := hv.bool_inv
    rw [Array.getD_eq_getD_getElem?, Array.getElem?_eq_none h] at hv
    cases hv

/-- a guard that was skipped itself -/
theorem guard_none {S : Sit} {fr : Nat → AV} {a : Act} (F : FRel S fr a) {ops : Array Oper} {o : Oper} {j d : Nat} {want : Bool} (hg : o.guard = some (j, want)) (hs : guardSlot ops j = some d)
    (hb : fr d = .tup []) : Region.wanted o (yielded ops a.tmps) = false := by
  have hv := F.v d
  rw [hb] at hv
  unfold VRel at hv
  obtain ⟨vs, hv, h0⟩ := hv
  have h0 := h0.nil_inv
  subst h0
  rw [Array.getD_eq_getD_getElem?] at hv
  unfold guardSlot at hs
  simp only [Region.wanted, hg, yielded, hs, Option.bind_some]
  cases hc : a.tmps[d]? with
  | none => rfl
  | some v =>
    rw [hc] at hv
    simp only [Option.getD_some] at hv
    subst hv
    rfl

theorem opsRun_sound (B : Base P O Γ enter) {F : Fn} {ops : Array Oper} {K : St → Option R} {r : R} {Q : Exit → Act → World → Prop} {S0 : Sit}
    (hK : ∀ T st' a', Good T st' F.sz a' → Ext (Below' F.base) S0 T → K st' = some r → Q .normal a' T.w) :
    ∀ (n : Nat) (l : List Oper), l.length = n → n ≤ ops.size → (∀ i, l[i]? = ops[ops.size - n + i]?) → ∀ {S : Sit} {st : St} {a : Act}, Good S st F.sz a → Ext (Below' F.base) S0 S →
      opsRun O Γ enter F ops K l st = some r → wpOps P ops Q ((List.range n).map fun i => ops.size - n + i) a S.w := by
  intro n
  induction n with
  | zero =>
    intro l hl _ _ S st a G E h
    cases l with
    | nil => exact hK S st a G E h
    | cons => cases hl
  | succ n ih =>
    intro l hl hn hat S st a G E h
    cases l with
    | nil => cases hl
    | cons o rest =>
      have hrest : rest.length = n := by simpa using hl
      have hat' : ∀ i, rest[i]? = ops[ops.size - n + i]? := fun i => by
        have := hat (i + 1)
        simp only [List.getElem?_cons_succ] at this
        rw [this]
        congr 1
        omega
      have ho : ops[ops.size - (n + 1)]? = some o := by
        have := hat 0
        simpa using this.symm
      have hlist : ((List.range (n + 1)).map fun i => ops.size - (n + 1) + i) = (ops.size - (n + 1)) :: (List.range n).map fun i => ops.size - n + i := by
        rw [List.range_succ_eq_map]
        simp only [List.map_cons, Nat.add_zero, List.map_map, List.cons.injEq, true_and]
        apply List.map_congr_left
        intro i _
        simp only [Function.comp]
        omega
      rw [hlist, wpOps_cons]
      have next : ∀ T st' a', Good T st' F.sz a' → Ext (Below' F.base) S T → opsRun O Γ enter F ops K rest st' = some r → wpOps P ops Q ((List.range n).map fun i => ops.size - n + i) a' T.w :=
        fun T st' a' GT ET hk => ih rest hrest (by omega) hat' GT (E.trans ET) hk
      unfold wpOp
      simp only [ho]
      unfold opsRun at h
      have skip : ∀ st1 : St, st1 = st → (putDst F.sz o (.tup []) st1).bind (opsRun O Γ enter F ops K rest) = some r → wpOps P ops Q ((List.range n).map fun i => ops.size - n + i) (a.put o.dst undef) S.w := by
        rintro st1 rfl h
        simp only [Option.bind_eq_some_iff] at h
        obtain ⟨st', hput, hk⟩ := h
        exact next S st' _ (put_sound G tup0_mk (AV.names_closed _ rfl) hput) (Ext.refl S) hk
      split at h
      · rename_i hg
        have hw : Region.wanted o (yielded ops a.tmps) = true := by simp [Region.wanted, hg]
        rw [if_pos hw]
        exact .inl (opRun_sound B G h next)
      · rename_i j want hg
        split at h
        · cases h
        · rename_i d hs
          split at h
          · rename_i b hb
            have hw := guard_wanted G.f hg hs (guard_size G.f hb) hb
            rw [hw]
            cases b
            · rw [if_neg (by simp)] at h
              have he : ({ st with fr := upd st.fr d (.bool false) } : St) = st := by rw [upd_self hb]
              cases want
              · rw [if_neg (by simp), he] at h
                rw [if_pos (by rfl)]
                exact .inl (opRun_sound B G h next)
              · rw [if_pos rfl] at h
                rw [if_neg (by simp)]
                exact skip _ he h
            · rw [if_pos rfl] at h
              have he : ({ st with fr := upd st.fr d (.bool true) } : St) = st := by rw [upd_self hb]
              cases want
              · rw [if_neg (by simp)] at h
                rw [if_neg (by simp)]
                exact skip _ he h
              · rw [if_pos rfl, he] at h
                rw [if_pos (by rfl)]
                exact .inl (opRun_sound B G h next)
          · rename_i hb
            rw [guard_none G.f hg hs hb, if_neg (by simp)]
            exact skip st rfl h
          · cases h

end
end Go.AM
