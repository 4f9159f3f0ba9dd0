/- Canonical states. -/
import Derived.Test.YtdjbokdohackdaaA20
namespace Go.AM
open Go

theorem ptrsAre_eq : ∀ {ps : List Nat} {cap : List AV}, ptrsAre ps cap = true → cap = ps.map fun n => .ptr n 0
  | [], [], _ => rfl
  | n :: r, c :: vs, h => by
    cases c <;> simp only [ptrsAre, Bool.and_eq_true, beq_iff_eq, Bool.false_eq_true] at h
    obtain ⟨⟨rfl, rfl⟩, h⟩ := h
    rw [List.map_cons, ptrsAre_eq h]
  | [], _ :: _, h => by simp [ptrsAre] at h
  | _ :: _, [], h => by simp [ptrsAre] at h

theorem Sh.dec_sound : ∀ (s : Sh) {c : AV} {x : s.T}, s.dec c = some x → (∀ (S : Sit) (v : Value), VRel S c v → VRel S (s.can x) v) ∧ ∀ p : Nat → Prop, c.names p → (s.can x).names p
  | .kd k, c, x, h => ⟨fun _ _ hv => ofK_rel (one_rel hv h), fun _ _ => ofK_names k x⟩
  | .junk, c, x, h => ⟨fun _ _ _ => .undef_mk, fun _ _ => AV.names_closed _ rfl⟩
  | .fnp f ps, c, x, h => by
    cases c <;> simp only [Sh.dec, reduceCtorEq] at h
    split at h
    · rename_i e; subst e
      split at h
      · rename_i e
        rw [ptrsAre_eq e]
        exact ⟨fun _ _ hv => hv, fun _ hn => hn⟩
      · cases h
    · cases h
  | .ref n, c, x, h => by
    cases c <;> simp only [Sh.dec, reduceCtorEq] at h
    split at h
    · rename_i e; subst e; exact ⟨fun _ _ hv => hv, fun _ hn => hn⟩
    · cases h
  | .mapr n, c, x, h => by
    cases c <;> simp only [Sh.dec, reduceCtorEq] at h
    split at h
    · rename_i e; subst e; exact ⟨fun _ _ hv => hv, fun _ hn => hn⟩
    · cases h
  | .ptr n o, c, x, h => by
    cases c <;> simp only [Sh.dec, reduceCtorEq] at h
    split at h
    · rename_i e; subst e
      split at h
      · rename_i e; subst e; exact ⟨fun _ _ hv => hv, fun _ hn => hn⟩
      · cases h
    · cases h

theorem decL_sound : ∀ (l : List Sh) {cs : List AV} {x : ShL l}, decL l cs = some x → (∀ (S : Sit) (vs : List Value), VRelL S cs vs → VRelL S (canL l x) vs) ∧ (∀ p : Nat → Prop, AV.namesL p cs → AV.namesL p (canL l x)) ∧ (canL l x).length = cs.length
  | [], [], x, _ => ⟨fun _ _ h => h, fun _ h => h, rfl⟩
  | s :: r, c :: cs, x, h => by
    simp only [decL, Option.bind_eq_some_iff] at h
    obtain ⟨a, h1, b, h2, h3⟩ := h
    simp only [Option.some.injEq] at h3
    subst h3
    obtain ⟨k1, k2⟩ := s.dec_sound h1
    obtain ⟨k3, k4, k5⟩ := decL_sound r h2
    refine ⟨fun S vs hv => ?_, fun p hn => ⟨k2 p hn.1, k4 p hn.2⟩, by simp [canL, k5]⟩
    obtain ⟨v, us, rfl, h4, h5⟩ := hv.cons_inv
    exact .cons (k1 S v h4) (k3 S us h5)
  | _ :: _, [], x, h => by cases h
  | [], _ :: _, x, h => by cases h

def CanC (c c' : Cell) : Prop :=
  c' = c ∨ ∃ cs cs', c = .box cs ∧ c' = .box cs' ∧ cs'.length = cs.length ∧ (∀ (S : Sit) (vs : List Value), VRelL S cs vs → VRelL S cs' vs) ∧ ∀ p : Nat → Prop, AV.namesL p cs → AV.namesL p cs'

theorem CSh.dec_sound : ∀ (s : CSh) {c : Cell} {x : s.T}, s.dec c = some x → CanC c (s.can x)
  | .box l, c, x, h => by
    cases c <;> simp only [CSh.dec, reduceCtorEq] at h
    obtain ⟨k1, k2, k3⟩ := decL_sound l h
    exact .inr ⟨_, _, rfl, rfl, k3, k1, k2⟩
  | .row e, c, x, h => by
    cases c <;> simp only [CSh.dec, reduceCtorEq] at h
    split at h
    · rename_i e; subst e
      simp only [Option.some.injEq] at h
      subst h
      exact .inl rfl
    · cases h
  | .map k v, c, x, h => by
    cases c <;> simp only [CSh.dec, reduceCtorEq] at h
    split at h
    · rename_i e; obtain ⟨rfl, rfl⟩ := e
      simp only [Option.some.injEq] at h
      subst h
      exact .inl rfl
    · cases h
  | .mrow k v, c, x, h => by
    cases c <;> simp only [CSh.dec, reduceCtorEq] at h
    split at h
    · rename_i e; obtain ⟨rfl, rfl⟩ := e
      simp only [Option.some.injEq] at h
      subst h
      exact .inl rfl
    · cases h
  | .dead, c, x, h => by cases c <;> simp only [CSh.dec, reduceCtorEq] at h; exact .inl rfl
  | .free, c, x, h => by cases c <;> simp only [CSh.dec, reduceCtorEq] at h; exact .inl rfl

theorem decCL_sound (d : Cell) : ∀ (l : List CSh) {cs : List Cell} {x : CShL l}, decCL l cs = some x → ∀ (names : List Nat) (n : Nat), CanC (look d (names.zip cs) n) (look d (names.zip (canCL l x)) n)
  | [], [], x, _, names, n => by cases names <;> exact .inl rfl
  | s :: r, c :: cs, x, h, names, n => by
    simp only [decCL, Option.bind_eq_some_iff] at h
    obtain ⟨a, h1, b, h2, h3⟩ := h
    simp only [Option.some.injEq] at h3
    subst h3
    cases names with
    | nil => exact .inl rfl
    | cons m names =>
      simp only [canCL, List.zip_cons_cons, look]
      split
      · exact s.dec_sound h1
      · exact decCL_sound d r h2 names n
  | _ :: _, [], x, h, _, _ => by cases h
  | [], _ :: _, x, h, _, _ => by cases h

theorem decL_look : ∀ (l : List Sh) {cs : List AV} {x : ShL l}, decL l cs = some x → ∀ (slots : List Nat) (i : Nat),
    (∀ (S : Sit) (v : Value), VRel S (look .undef (slots.zip cs) i) v → VRel S (look .undef (slots.zip (canL l x)) i) v) ∧ ∀ p : Nat → Prop, (look .undef (slots.zip cs) i).names p → (look .undef (slots.zip (canL l x)) i).names p
  | [], [], x, _, slots, i => by cases slots <;> exact ⟨fun _ _ h => h, fun _ h => h⟩
  | s :: r, c :: cs, x, h, slots, i => by
    simp only [decL, Option.bind_eq_some_iff] at h
    obtain ⟨a, h1, b, h2, h3⟩ := h
    simp only [Option.some.injEq] at h3
    subst h3
    cases slots with
    | nil => exact ⟨fun _ _ h => h, fun _ h => h⟩
    | cons m slots =>
      simp only [canL, List.zip_cons_cons, look]
      split
      · exact s.dec_sound h1
      · exact decL_look r h2 slots i
  | _ :: _, [], x, h, _, _ => by cases h
  | [], _ :: _, x, h, _, _ => by cases h

theorem CanC.shape {c c' : Cell} (h : CanC c c') (hl : cellLive c) : sameShape c c' := by
  rcases h with rfl | ⟨cs, cs', rfl, rfl, h1, _⟩
  · exact sameShape_refl hl
  · exact h1

theorem CanC.live {c c' : Cell} (h : CanC c c') : c'.live = c.live := by
  rcases h with rfl | ⟨cs, cs', rfl, rfl, h1, _⟩ <;> rfl

theorem CanC.free {c c' : Cell} (h : CanC c c') (hf : c ≠ .free) : c' ≠ .free := by
  rcases h with rfl | ⟨cs, cs', rfl, rfl, h1, _⟩
  · exact hf
  · simp

theorem CanC.dead {c c' : Cell} (h : CanC c c') (hf : c = .dead) : c' = .dead := by
  rcases h with rfl | ⟨cs, cs', rfl, rfl, h1, _⟩
  · exact hf
  · cases hf

/-- the same situation, otherwise known -/
theorem canon_good {U : Sit} {st st' : St} {sz : Nat} {a : Act} (G : Good U st sz a) (hc : ∀ n, CanC (st.hp n) (st'.hp n))
    (hf : ∀ i, (∀ (S : Sit) (v : Value), VRel S (st.fr i) v → VRel S (st'.fr i) v) ∧ ∀ p : Nat → Prop, (st.fr i).names p → (st'.fr i).names p) :
    Good { U with hp := st'.hp } st' sz a ∧ Ext Top U { U with hp := st'.hp } := by
  have hc' : ∀ n, CanC (U.hp n) (st'.hp n) := by rw [G.e]; exact hc
  have E : Ext Top U { U with hp := st'.hp } := by
    refine ⟨fun b hb => ⟨hb, rfl⟩, Nat.le_refl _, rfl, fun _ _ => rfl, fun n _ hn => ?_, fun n _ hn => (hc' n).dead hn, fun _ h _ => h, ⟨rfl, rfl⟩⟩
    by_cases hl : cellLive (U.hp n)
    · exact .inr ⟨rfl, (hc' n).shape hl⟩
    · left
      have : U.hp n = .dead := by cases hcc : U.hp n <;> rw [hcc] at hl hn <;> simp [cellLive, Cell.live] at hl hn ⊢
      exact (hc' n).dead this
  have hlive : ∀ n, cellLive (st'.hp n) → cellLive (U.hp n) := fun n h => by unfold cellLive at h ⊢; rw [← (hc' n).live]; exact h
  refine ⟨⟨⟨fun n => ?_, fun n m b hnm hn hm hb => G.h.ds n m b hnm (hlive n hn) (hlive m hm) hb, G.h.il, G.h.bl, fun n cs hcs => ?_⟩, ⟨fun i => ?_, fun i => ?_, G.f.d⟩, rfl, G.z⟩, E⟩
  · have ho := (G.h.ob n).later E (fun cs hcs => G.h.nb n cs hcs) rfl (fun b _ => ⟨rfl, id⟩)
    rcases hc' n with e | ⟨cs, cs', e1, e2, h1, h2, h3⟩
    · show ObjAt _ n (st'.hp n)
      rw [e]
      exact ho
    · show ObjAt _ n (st'.hp n)
      rw [e2]
      rw [e1] at ho
      obtain ⟨b, d, el, g1, g2, g3, g4, g5, g6⟩ := ho
      exact ⟨b, d, el, g1, g2, g3, g4, h2 _ _ g5, g6⟩
  · replace hcs : st'.hp n = .box cs := hcs
    refine AV.namesL_imp (fun m (hm : U.hp m ≠ .free) => (hc' m).free hm) cs ?_
    rcases hc' n with e | ⟨ds, ds', e1, e2, h1, h2, h3⟩
    · rw [hcs] at e; exact G.h.nb n cs e.symm
    · rw [hcs] at e2; cases e2; exact h3 _ (G.h.nb n ds e1)
  · exact VRel.ext E _ (AV.names_imp (fun m hm => ⟨trivial, hm⟩) _ ((hf i).2 _ (G.f.n i))) ((hf i).1 _ _ (G.f.v i))
  · exact AV.names_imp (fun m hm => E.nonfree trivial hm) _ ((hf i).2 _ (G.f.n i))

theorem Ext.thenTop {p : Nat → Prop} {S T U : Sit} (h : Ext p S T) (h' : Ext Top T U) : Ext p S U := h.trans (h'.weaken fun _ _ => trivial)

/-- another abstract state of the same frame -/
def Canon (base : Nat) (h : LoopIn) (old : Hp) (avs : List AV) (cells : List Cell) (avs' : List AV) (cells' : List Cell) : Prop :=
  ∀ (U : Sit) (sz : Nat) (a : Act), Good U (loopSt base h old avs cells) sz a → ∃ U', U'.w = U.w ∧ Good U' (loopSt base h old avs' cells') sz a ∧ ∀ S, Ext (Below' base) S U → Ext (Below' base) S U'

theorem dec_canon {base : Nat} {h : LoopIn} {old : Hp} {ss : List Sh} {cs : List CSh} {avs : List AV} {cells : List Cell} {x : ShL ss} {y : CShL cs} (hx : decL ss avs = some x) (hy : decCL cs cells = some y) :
    Canon base h old avs cells (canL ss x) (canCL cs y) := by
  intro U sz a G
  obtain ⟨G', E'⟩ := canon_good (st' := loopSt base h old (canL ss x) (canCL cs y)) G (fun n => decCL_sound _ cs hy h.names n) (fun i => decL_look ss hx h.slots i)
  exact ⟨{ U with hp := (loopSt base h old (canL ss x) (canCL cs y)).hp }, rfl, G', fun S E => E.thenTop E'⟩

theorem zip_map {α β : Type} (f : α → β) : ∀ l : List α, l.zip (l.map f) = l.map fun i => (i, f i)
  | [] => rfl
  | a :: l => by simp [zip_map f l]

theorem stOf_good {S U : Sit} {st : St} {sz base : Nat} {a : Act} (G : Good U st sz a) (E : Ext (Below' base) S U) (slots names : List Nat) :
    ∃ T, T.w = U.w ∧ Good T (stOf base S.hp (listed slots names st).1 (listed slots names st).2) sz a ∧ Ext (Below' base) S T ∧ T.I = U.I := by
  have hhp : ∀ n, (stOf base S.hp (listed slots names st).1 (listed slots names st).2).hp n = if names.contains n = true then (U.hp n).only (fun n => names.contains n) else
      (if n < base then (match S.hp n with | .free => .free | _ => .dead) else .free) := by
    intro n
    simp only [stOf, listed]
    rw [look_names, G.e]
    rfl
  have M : Mask (fun n => names.contains n) U { U with hp := (stOf base S.hp (listed slots names st).1 (listed slots names st).2).hp } := by
    refine ⟨rfl, rfl, rfl, rfl, fun n => ?_⟩
    simp only [hhp]
    by_cases hc : names.contains n = true
    · left; rw [if_pos hc]
    · right
      rw [if_neg hc]
      refine ⟨by simpa using hc, ?_⟩
      split
      · split
        · exact .inl rfl
        · exact .inr rfl
      · exact .inl rfl
  refine ⟨{ U with hp := (stOf base S.hp (listed slots names st).1 (listed slots names st).2).hp }, rfl, ⟨M.hrel G.h, ?_, rfl, G.z⟩, ?_, rfl⟩
  · exact (M.frel G.f).look slots
  · refine ⟨fun b hb => E.i b hb, E.s, E.b, E.o, fun n hn hf => ?_, fun n hn hd => ?_, E.j, E.q⟩
    · have hn : n < base := hn
      simp only [hhp]
      by_cases hc : names.contains n = true
      · rw [if_pos hc]
        rcases E.f n hn hf with h | ⟨h1, h2⟩
        · left; rw [h]; rfl
        · right
          refine ⟨h1, ?_⟩
          have hl : cellLive (U.hp n) := by
            cases hs : S.hp n <;> rw [hs] at h2 <;> cases hu : U.hp n <;> rw [hu] at h2 <;> first | exact h2.elim | rfl
          exact sameShape_trans h2 (sameShape_only hl)
      · left
        rw [if_neg hc, if_pos hn]
    · have hn : n < base := hn
      simp only [hhp]
      by_cases hc : names.contains n = true
      · rw [if_pos hc, E.g n hn hd]; rfl
      · rw [if_neg hc, if_pos hn]; simp only [hd]

theorem loopSt_good {S U : Sit} {st : St} {sz base : Nat} {a : Act} (G : Good U st sz a) (E : Ext (Below' base) S U) {h : LoopIn} {p : List AV × List Cell} (hp : loopState base h st = some p) :
    ∃ T, T.w = U.w ∧ Good T (loopSt base h S.hp p.1 p.2) sz a ∧ Ext (Below' base) S T := by
  unfold loopState at hp
  simp only [Option.map_eq_some_iff] at hp
  obtain ⟨st1, h1, rfl⟩ := hp
  obtain ⟨V, w, GV, EV⟩ := cmds_sound G h1
  obtain ⟨T, w', GT, ET, _⟩ := stOf_good GV (E.trans EV) h.slots h.names
  refine ⟨T, w'.trans w, ?_, ET⟩
  unfold loopSt
  simp only [zip_map]
  exact GT

theorem Ex.same_eq {a b : Ex} (h : a.same b = true) : a = b := by
  cases a <;> cases b <;> simp [Ex.same] at h <;> simp [h]

/-- the way out that was taken, and its state -/
theorem outInj_sound : ∀ (l : List OutSh) {e : Ex} {st : St} {res : Outs l}, outInj l e st = some res →
    ∃ (o : OutSh) (z : o.T), o.ex = e ∧ outOf o st = some z ∧ ∀ (R : Type) (f : Ex → List (Nat × AV) → List (Nat × Cell) → R), outElim f l res = f e (o.slots.zip (canL o.ss z.1)) (o.names.zip (canCL o.cs z.2))
  | [], e, st, res, h => by cases h
  | [o], e, st, res, h => by
    unfold outInj at h
    split at h
    · rename_i he
      have he := Ex.same_eq he
      subst he
      exact ⟨o, res, rfl, h, fun R f => rfl⟩
    · cases h
  | o :: p :: r, e, st, res, h => by
    unfold outInj at h
    split at h
    · rename_i he
      have he := Ex.same_eq he
      subst he
      simp only [Option.bind_eq_some_iff, Option.some.injEq] at h
      obtain ⟨x, h1, rfl⟩ := h
      exact ⟨o, x, rfl, h1, fun R f => rfl⟩
    · simp only [Option.bind_eq_some_iff, Option.some.injEq] at h
      obtain ⟨x, h1, rfl⟩ := h
      obtain ⟨o', z, h2, h3, h4⟩ := outInj_sound (p :: r) h1
      exact ⟨o', z, h2, h3, fun R f => h4 R f⟩

theorem out_good {S U : Sit} {st : St} {sz base : Nat} {a : Act} (G : Good U st sz a) (E : Ext (Below' base) S U) {o : OutSh} {z : o.T} (h : outOf o st = some z) :
    ∃ T, T.w = U.w ∧ Good T (stOf base S.hp (o.slots.zip (canL o.ss z.1)) (o.names.zip (canCL o.cs z.2))) sz a ∧ Ext (Below' base) S T := by
  unfold outOf at h
  simp only [Option.bind_eq_some_iff, Option.some.injEq] at h
  obtain ⟨x, h1, y, h2, rfl⟩ := h
  obtain ⟨T, w, GT, ET, _⟩ := stOf_good G E o.slots o.names
  have GT' : Good T (loopSt base ⟨[], o.slots, o.names⟩ S.hp (o.slots.map fun i => (st.fr i).only (fun n => o.names.contains n)) (o.names.map fun n => (st.hp n).only (fun n => o.names.contains n))) sz a := by
    unfold loopSt
    simp only [zip_map]
    exact GT
  obtain ⟨T', w', G', E'⟩ := dec_canon (h := ⟨[], o.slots, o.names⟩) (old := S.hp) h1 h2 T sz a GT'
  exact ⟨T', w'.trans w, G', E' S ET⟩

end Go.AM
