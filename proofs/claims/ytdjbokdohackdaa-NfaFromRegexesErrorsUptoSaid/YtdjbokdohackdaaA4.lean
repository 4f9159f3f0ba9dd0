/- Literals taken apart and put together; values in later situations. -/
import Derived.Test.YtdjbokdohackdaaA3
namespace Go.AM
open Go

theorem Value.cells_of_one {v : Value} (h : v.oneCell' = true) : v.cells = #[v] := by
  cases v <;> first | rfl | (simp [Value.oneCell'] at h)

theorem range_getD {α : Type} (l : List α) (d : α) : (List.range l.length).map (fun i => l.getD i d) = l := by
  apply List.ext_getElem
  · simp
  · intro i h1 h2
    simp at h1 h2
    simp [List.getD_eq_getElem?_getD, List.getElem?_eq_getElem h2]

theorem range_flatMap {α β : Type} (l : List α) (d : α) (f : α → List β) : (List.range l.length).flatMap (fun i => f (l.getD i d)) = l.flatMap f := by
  rw [← List.flatMap_map (f := fun i => l.getD i d), range_getD]

theorem RelL.flat {S : Sit} {α : Type} {R : α → List Value → Prop} {f : α → List AV} (h : ∀ x vs, R x vs → VRelL S (f x) vs) :
    ∀ {xs : List α} {vs : List Value}, RelL R xs vs → VRelL S (xs.flatMap f) vs
  | [], _, hh => by rw [show _ = [] from hh]; exact .nil
  | _ :: _, _, ⟨l, r, e, h1, h2⟩ => by rw [e, List.flatMap_cons]; exact (h _ _ h1).append (RelL.flat h h2)

section
variable {S : Sit}

theorem VRel.bool_inv {b : Bool} {v : Value} (h : VRel S (.bool b) v) : v = .bool b := by unfold VRel at h; exact h
theorem VRel.int_inv {k : IntKind} {n : Int} {v : Value} (h : VRel S (.int k n) v) : v = .int k n := by unfold VRel at h; exact h
theorem VRel.str_inv {s : List UInt8} {v : Value} (h : VRel S (.str s) v) : v = strOf s := by unfold VRel at h; exact h
theorem VRel.sl_inv {e : Kind} {xs : List e.T} {v : Value} (h : VRel S (.sl e xs) v) : RelK S.w S.I (.slice e) xs [v] := by unfold VRel at h; exact h
theorem VRel.nilsl_inv {v : Value} (h : VRel S .nilsl v) : v = .slice none 0 0 := by unfold VRel at h; exact h
theorem VRel.bool_mk {b : Bool} : VRel S (.bool b) (.bool b) := by unfold VRel; rfl
theorem VRel.int_mk {k : IntKind} {n : Int} : VRel S (.int k n) (.int k n) := by unfold VRel; rfl
theorem VRel.str_mk {s : List UInt8} : VRel S (.str s) (strOf s) := by unfold VRel; rfl
theorem VRel.sl_mk {e : Kind} {xs : List e.T} {v : Value} (h : RelK S.w S.I (.slice e) xs [v]) : VRel S (.sl e xs) v := by unfold VRel; exact h
theorem VRel.undef_mk {v : Value} : VRel S .undef v := by unfold VRel; trivial

theorem RelK.nilsl {w : World} {I : Nat → Prop} (e : Kind) : RelK w I (.slice e) ([] : List e.T) [.slice none 0 0] :=
  ⟨none, 0, 0, rfl, rfl, Nat.le_refl _, .inl rfl⟩

theorem flat_rel : ∀ (k : Kind) {x : k.T} {vs : List Value}, RelK S.w S.I k x vs → VRelL S (k.flat x) vs
  | .bool, _, _, h => by rw [show _ = _ from h]; exact .one .bool_mk
  | .int _, _, _, h => by rw [show _ = _ from h]; exact .one .int_mk
  | .str, _, _, h => by rw [show _ = _ from h]; exact .one .str_mk
  | .dyn _, _, _, ⟨v, h, _⟩ => by rw [h]; exact .one .undef_mk
  | .unit, _, _, h => by rw [show _ = _ from h]; exact .nil
  | .slice e, xs, vs, h => by
    obtain ⟨a, len, cap, rfl, h2⟩ := id h
    exact .one (.sl_mk h)
  | .pair a b, x, vs, ⟨l, r, e, h1, h2⟩ => by rw [e]; exact (flat_rel a h1).append (flat_rel b h2)
  | .arr n e, xs, vs, ⟨h1, h2⟩ => by
    unfold Kind.flat
    rw [← h1, range_flatMap]
    exact h2.flat (fun x vs hh => flat_rel e hh)
  | .rx, .mk k s kids, vs, h => by
    obtain ⟨hs, v, rfl, hk⟩ := RelRx.kids (show RelRx S.w S.I (.mk k s kids) vs from h)
    exact .cons .int_mk (.cons .int_mk (.cons .int_mk (.cons .int_mk (.cons .int_mk (.one (VRel.sl_mk (e := .rx) (xs := kids) hk))))))
  | .fnk, none, _, h => by rw [show _ = _ from h]; refine .one ?_; show VRel S .nilfn .nilFunc; unfold VRel; rfl
  | .fnk, some f, _, h => by rw [show _ = _ from h]; refine .one ?_; show VRel S (.fn f []) (.func (.func f) #[] #[]); unfold VRel; exact ⟨[], rfl, .nil⟩

theorem manyOf_rel {α : Type} {R : α → List Value → Prop} {f : List AV → Option (α × List AV)}
    (hf : ∀ cs vs x rest, VRelL S cs vs → f cs = some (x, rest) → ∃ l r, vs = l ++ r ∧ R x l ∧ VRelL S rest r) :
    ∀ (n : Nat) {cs : List AV} {vs : List Value} {xs : List α} {rest : List AV}, VRelL S cs vs → manyOf f n cs = some (xs, rest) →
      xs.length = n ∧ ∃ l r, vs = l ++ r ∧ RelL R xs l ∧ VRelL S rest r
  | 0, cs, vs, xs, rest, h, he => by
    simp only [manyOf, Option.some.injEq, Prod.mk.injEq] at he
    obtain ⟨rfl, rfl⟩ := he
    exact ⟨rfl, [], vs, rfl, rfl, h⟩
  | n + 1, cs, vs, xs, rest, h, he => by
    simp only [manyOf, Option.bind_eq_some_iff] at he
    obtain ⟨⟨x, r1⟩, h1, ⟨xs', r2⟩, h2, he⟩ := he
    simp only [Option.some.injEq, Prod.mk.injEq] at he
    obtain ⟨rfl, rfl⟩ := he
    obtain ⟨l, r, rfl, hx, hr⟩ := hf _ _ _ _ h h1
    obtain ⟨hn, l2, r2', rfl, hxs, hr2⟩ := manyOf_rel hf n hr h2
    exact ⟨by simp [hn], l ++ l2, r2', by simp, ⟨l, l2, rfl, hx, hxs⟩, hr2⟩

theorem unBool_rel {cs : List AV} {vs : List Value} {x : Bool} {rest : List AV} (h : VRelL S cs vs) (he : unBool cs = some (x, rest)) : ∃ r, vs = .bool x :: r ∧ VRelL S rest r := by
  unfold unBool at he
  split at he
  · obtain ⟨v, s, rfl, h1, h2⟩ := h.cons_inv
    simp only [Option.some.injEq, Prod.mk.injEq] at he
    obtain ⟨rfl, rfl⟩ := he
    exact ⟨s, by rw [h1.bool_inv], h2⟩
  · cases he

theorem unInt_rel {k : IntKind} {cs : List AV} {vs : List Value} {x : Int} {rest : List AV} (h : VRelL S cs vs) (he : unInt k cs = some (x, rest)) : ∃ r, vs = .int k x :: r ∧ VRelL S rest r := by
  unfold unInt at he
  split at he
  · split at he
    · rename_i hk
      subst hk
      obtain ⟨v, s, rfl, h1, h2⟩ := h.cons_inv
      simp only [Option.some.injEq, Prod.mk.injEq] at he
      obtain ⟨rfl, rfl⟩ := he
      exact ⟨s, by rw [h1.int_inv], h2⟩
    · cases he
  · cases he

theorem unStr_rel {cs : List AV} {vs : List Value} {x : List UInt8} {rest : List AV} (h : VRelL S cs vs) (he : unStr cs = some (x, rest)) : ∃ r, vs = strOf x :: r ∧ VRelL S rest r := by
  unfold unStr at he
  split at he
  · obtain ⟨v, s, rfl, h1, h2⟩ := h.cons_inv
    simp only [Option.some.injEq, Prod.mk.injEq] at he
    obtain ⟨rfl, rfl⟩ := he
    exact ⟨s, by rw [h1.str_inv], h2⟩
  · cases he

theorem unSl_rel {e : Kind} {cs : List AV} {vs : List Value} {x : List e.T} {rest : List AV} (h : VRelL S cs vs) (he : unSl e cs = some (x, rest)) :
    ∃ v r, vs = v :: r ∧ RelK S.w S.I (.slice e) x [v] ∧ VRelL S rest r := by
  unfold unSl at he
  split at he
  · split at he
    · rename_i hee
      subst hee
      obtain ⟨v, s, rfl, h1, h2⟩ := h.cons_inv
      simp only [Option.some.injEq, Prod.mk.injEq] at he
      obtain ⟨rfl, rfl⟩ := he
      exact ⟨v, s, rfl, h1.sl_inv, h2⟩
    · cases he
  · obtain ⟨v, s, rfl, h1, h2⟩ := h.cons_inv
    simp only [Option.some.injEq, Prod.mk.injEq] at he
    obtain ⟨rfl, rfl⟩ := he
    exact ⟨v, s, rfl, by rw [h1.nilsl_inv]; exact RelK.nilsl e, h2⟩
  · cases he

theorem unRx_rel {cs : List AV} {vs : List Value} {x : Rx} {rest : List AV} (h : VRelL S cs vs) (he : unRx cs = some (x, rest)) :
    ∃ l r, vs = l ++ r ∧ RelRx S.w S.I x l ∧ VRelL S rest r := by
  unfold unRx at he
  simp only [Option.bind_eq_some_iff] at he
  obtain ⟨⟨k, r0⟩, h0, ⟨a, r1⟩, h1, ⟨b, r2⟩, h2, ⟨c, r3⟩, h3, ⟨d, r4⟩, h4, ⟨q, r5⟩, h5, he⟩ := he
  simp only [Option.some.injEq, Prod.mk.injEq] at he
  obtain ⟨rfl, rfl⟩ := he
  obtain ⟨s0, rfl, g0⟩ := unInt_rel h h0
  obtain ⟨s1, rfl, g1⟩ := unInt_rel g0 h1
  obtain ⟨s2, rfl, g2⟩ := unInt_rel g1 h2
  obtain ⟨s3, rfl, g3⟩ := unInt_rel g2 h3
  obtain ⟨s4, rfl, g4⟩ := unInt_rel g3 h4
  obtain ⟨v, s5, rfl, hk, g5⟩ := unSl_rel g4 h5
  exact ⟨[.int .i64 k, .int .u64 a, .int .u64 b, .int .u64 c, .int .u64 d, v], s5, rfl, RelRx.of_kids (s := [a, b, c, d]) rfl hk, g5⟩

theorem unFn_rel {cs : List AV} {vs : List Value} {x : Option Nat} {rest : List AV} (h : VRelL S cs vs) (he : unFn cs = some (x, rest)) :
    ∃ l r, vs = l ++ r ∧ RelK S.w S.I .fnk x l ∧ VRelL S rest r := by
  unfold unFn at he
  split at he
  · simp only [Option.some.injEq, Prod.mk.injEq] at he
    obtain ⟨rfl, rfl⟩ := he
    obtain ⟨v, s, rfl, h1, h2⟩ := h.cons_inv
    unfold VRel at h1
    obtain ⟨us, rfl, h3⟩ := h1
    have := h3.nil_inv
    subst this
    exact ⟨[_], s, rfl, rfl, h2⟩
  · simp only [Option.some.injEq, Prod.mk.injEq] at he
    obtain ⟨rfl, rfl⟩ := he
    obtain ⟨v, s, rfl, h1, h2⟩ := h.cons_inv
    unfold VRel at h1
    subst h1
    exact ⟨[_], s, rfl, rfl, h2⟩
  · cases he

theorem unflat_rel : ∀ (k : Kind) {cs : List AV} {vs : List Value} {x : k.T} {rest : List AV}, VRelL S cs vs → k.unflat cs = some (x, rest) →
      ∃ l r, vs = l ++ r ∧ RelK S.w S.I k x l ∧ VRelL S rest r
  | .bool, cs, vs, x, rest, h, he => by obtain ⟨r, rfl, h2⟩ := unBool_rel h he; exact ⟨[.bool x], r, rfl, rfl, h2⟩
  | .int ik, cs, vs, x, rest, h, he => by obtain ⟨r, rfl, h2⟩ := unInt_rel h he; exact ⟨[.int ik x], r, rfl, rfl, h2⟩
  | .str, cs, vs, x, rest, h, he => by obtain ⟨r, rfl, h2⟩ := unStr_rel h he; exact ⟨[strOf x], r, rfl, rfl, h2⟩
  | .dyn _, cs, vs, x, rest, h, he => by cases he
  | .unit, cs, vs, x, rest, h, he => by
    simp only [Kind.unflat, Option.some.injEq, Prod.mk.injEq] at he
    obtain ⟨_, rfl⟩ := he
    exact ⟨[], vs, rfl, rfl, h⟩
  | .slice e, cs, vs, x, rest, h, he => by obtain ⟨v, r, rfl, h1, h2⟩ := unSl_rel h he; exact ⟨[v], r, rfl, h1, h2⟩
  | .pair a b, cs, vs, x, rest, h, he => by
    unfold Kind.unflat at he
    simp only [Option.bind_eq_some_iff] at he
    obtain ⟨⟨x1, r1⟩, h1, ⟨x2, r2⟩, h2, he⟩ := he
    simp only [Option.some.injEq, Prod.mk.injEq] at he
    obtain ⟨rfl, rfl⟩ := he
    obtain ⟨l, r, rfl, hx, hr⟩ := unflat_rel a h h1
    obtain ⟨l2, r2', rfl, hx2, hr2⟩ := unflat_rel b hr h2
    exact ⟨l ++ l2, r2', by simp, ⟨l, l2, rfl, hx, hx2⟩, hr2⟩
  | .arr n e, cs, vs, x, rest, h, he => by
    unfold Kind.unflat at he
    simp only [Option.bind_eq_some_iff] at he
    obtain ⟨⟨xs, r1⟩, h1, he⟩ := he
    simp only [Option.some.injEq, Prod.mk.injEq] at he
    obtain ⟨rfl, rfl⟩ := he
    obtain ⟨hn, l, r, rfl, hx, hr⟩ := manyOf_rel (R := RelK S.w S.I e) (fun cs vs x rest hh hx => unflat_rel e hh hx) n h h1
    exact ⟨l, r, rfl, ⟨hn, hx⟩, hr⟩
  | .rx, cs, vs, x, rest, h, he => unRx_rel h he
  | .fnk, cs, vs, x, rest, h, he => unFn_rel h he

theorem oneL_rel {k : Kind} {cs : List AV} {vs : List Value} {x : k.T} (h : VRelL S cs vs) (he : oneL k cs = some x) : RelK S.w S.I k x vs := by
  unfold oneL at he
  simp only [Option.bind_eq_some_iff] at he
  obtain ⟨⟨y, rest⟩, h1, h2⟩ := he
  obtain ⟨l, r, rfl, hx, hr⟩ := unflat_rel k h h1
  split at h2
  · rename_i hnil
    simp only at hnil
    subst hnil
    simp only [Option.some.injEq] at h2
    subst h2
    rw [hr.nil_inv]; simpa using hx
  · cases h2

theorem listOf_rel {e : Kind} : ∀ {n : Nat} {cs : List AV} {vs : List Value} {xs : List e.T}, VRelL S cs vs → listOf e n cs = some xs → xs.length = n ∧ RelL (RelK S.w S.I e) xs vs
  | 0, [], vs, xs, h, he => by simp only [listOf, Option.some.injEq] at he; subst he; exact ⟨rfl, h.nil_inv⟩
  | 0, _ :: _, vs, xs, h, he => by simp [listOf] at he
  | n + 1, cs, vs, xs, h, he => by
    simp only [listOf, Option.bind_eq_some_iff] at he
    obtain ⟨⟨x, r⟩, h1, ys, h2, he⟩ := he
    simp only [Option.some.injEq] at he
    subst he
    obtain ⟨l, r', rfl, hx, hr⟩ := unflat_rel e h h1
    obtain ⟨hn, hys⟩ := listOf_rel hr h2
    exact ⟨by simp [hn], l, r', rfl, hx, hys⟩

theorem leaves_rel {c : AV} {cs : List AV} {v : Value} (h : VRel S c v) (he : c.leaves = some cs) : VRelL S cs v.cells.toList ∧ ∀ u ∈ v.cells.toList, u.oneCell' = true := by
  cases c <;> simp only [AV.leaves, Option.some.injEq, reduceCtorEq] at he
  case agg ds =>
    subst he
    unfold VRel at h
    obtain ⟨vs, rfl, h1, h2⟩ := h
    exact ⟨by simpa [Value.cells] using h1, by simpa [Value.cells] using h2⟩
  all_goals
    subst he
    have h' := h
    unfold VRel at h'
  case bool => subst h'; exact ⟨.one h, by simp [Value.cells, Value.oneCell']⟩
  case int => subst h'; exact ⟨.one h, by simp [Value.cells, Value.oneCell']⟩
  case str => subst h'; exact ⟨.one h, by simp [Value.cells, Value.oneCell', strOf]⟩
  case sl e xs => obtain ⟨a, len, cap, h1, _⟩ := h'; simp at h1; subst h1; exact ⟨.one h, by simp [Value.cells, Value.oneCell']⟩
  case nilsl => subst h'; exact ⟨.one h, by simp [Value.cells, Value.oneCell']⟩
  case nilp => subst h'; exact ⟨.one h, by simp [Value.cells, Value.oneCell']⟩
  case nilfn => subst h'; exact ⟨.one h, by simp [Value.cells, Value.oneCell']⟩
  case nilmap => subst h'; exact ⟨.one h, by simp [Value.cells, Value.oneCell']⟩
  case nilif => subst h'; exact ⟨.one h, by simp [Value.cells, Value.oneCell']⟩
  case fn => obtain ⟨vs, rfl, _⟩ := h'; exact ⟨.one h, by simp [Value.cells, Value.oneCell']⟩
  case iptr => obtain ⟨b, o, us, rfl, _⟩ := h'; exact ⟨.one h, by simp [Value.cells, Value.oneCell']⟩
  case ref => rw [Value.cells_of_one h'.1]; exact ⟨.one h, by simpa using h'.1⟩
  case pref => rw [Value.cells_of_one h'.1]; exact ⟨.one h, by simpa using h'.1⟩
  case ptr => rw [Value.cells_of_one h'.1]; exact ⟨.one h, by simpa using h'.1⟩
  case eptr => rw [Value.cells_of_one h'.1]; exact ⟨.one h, by simpa using h'.1⟩
  case aptr => rw [Value.cells_of_one h'.1]; exact ⟨.one h, by simpa using h'.1⟩
  case mapr => rw [Value.cells_of_one h'.1]; exact ⟨.one h, by simpa using h'.1⟩
  case mref => rw [Value.cells_of_one h'.1]; exact ⟨.one h, by simpa using h'.1⟩
  case keys => rw [Value.cells_of_one h'.1]; exact ⟨.one h, by simpa using h'.1⟩
end

section later
variable {p : Nat → Prop} {S T : Sit}

theorem RelK.ext (hE : Ext p S T) {k : Kind} {x : k.T} {vs : List Value} (h : RelK S.w S.I k x vs) : RelK T.w T.I k x vs := RelK.later hE.i k h

mutual
theorem VRel.ext (hE : Ext p S T) : ∀ (c : AV) {v : Value}, c.names (fun n => p n ∧ S.hp n ≠ .free) → VRel S c v → VRel T c v
  | .undef, v, _, _ => by unfold VRel; trivial
  | .bool _, v, _, h => by unfold VRel at h ⊢; exact h
  | .int _ _, v, _, h => by unfold VRel at h ⊢; exact h
  | .str _, v, _, h => by unfold VRel at h ⊢; exact h
  | .sl e xs, v, _, h => by unfold VRel at h ⊢; exact RelK.ext hE h
  | .nilsl, v, _, h => by unfold VRel at h ⊢; exact h
  | .nilp, v, _, h => by unfold VRel at h ⊢; exact h
  | .nilfn, v, _, h => by unfold VRel at h ⊢; exact h
  | .nilmap, v, _, h => by unfold VRel at h ⊢; exact h
  | .nilif, v, _, h => by unfold VRel at h ⊢; exact h
  | .ref n, v, hn, h => by
    unfold AV.names at hn
    unfold VRel at h ⊢
    refine ⟨h.1, ?_⟩
    rcases hE.f n hn.1 hn.2 with e | ⟨e1, e2⟩
    · rw [e]; trivial
    · have h2 := h.2
      cases hs : S.hp n <;> cases ht : T.hp n <;> simp only [hs, ht, sameShape] at e2 h2 ⊢ <;> first | trivial | (rw [e1]; exact h2) | exact e2.elim
  | .pref n k, v, hn, h => by
    unfold AV.names at hn
    unfold VRel at h ⊢
    refine ⟨h.1, ?_⟩
    rcases hE.f n hn.1 hn.2 with e | ⟨e1, e2⟩
    · rw [e]; trivial
    · have h2 := h.2
      cases hs : S.hp n <;> cases ht : T.hp n <;> simp only [hs, ht, sameShape] at e2 h2 ⊢ <;> first | trivial | (rw [e1, e2.2]; exact h2) | exact e2.elim
  | .ptr n off, v, hn, h => by
    unfold AV.names at hn
    unfold VRel at h ⊢
    refine ⟨h.1, ?_⟩
    rcases hE.f n hn.1 hn.2 with e | ⟨e1, e2⟩
    · rw [e]; trivial
    · have h2 := h.2
      cases hs : S.hp n <;> cases ht : T.hp n <;> simp only [hs, ht, sameShape] at e2 h2 ⊢ <;> first | trivial | (rw [e1]; exact h2) | exact e2.elim
  | .eptr n i sub, v, hn, h => by
    unfold AV.names at hn
    unfold VRel at h ⊢
    refine ⟨h.1, ?_⟩
    rcases hE.f n hn.1 hn.2 with e | ⟨e1, e2⟩
    · rw [e]; trivial
    · have h2 := h.2
      cases hs : S.hp n <;> cases ht : T.hp n <;> simp only [hs, ht, sameShape] at e2 h2 ⊢ <;> first | trivial | exact e2.elim | skip
      · obtain ⟨rfl, e3⟩ := e2
        rw [e1, e3]; exact h2
      · rw [e1, e2.2.2]; exact h2
  | .aptr n off cnt i, v, hn, h => by
    unfold AV.names at hn
    unfold VRel at h ⊢
    refine ⟨h.1, ?_⟩
    rcases hE.f n hn.1 hn.2 with e | ⟨e1, e2⟩
    · rw [e]; trivial
    · have h2 := h.2
      cases hs : S.hp n <;> cases ht : T.hp n <;> simp only [hs, ht, sameShape] at e2 h2 ⊢ <;> first | trivial | (rw [e1, e2]; exact h2) | exact e2.elim
  | .mapr n, v, hn, h => by
    unfold AV.names at hn
    unfold VRel at h ⊢
    refine ⟨h.1, ?_⟩
    rcases hE.f n hn.1 hn.2 with e | ⟨e1, e2⟩
    · rw [e]; trivial
    · have h2 := h.2
      cases hs : S.hp n <;> cases ht : T.hp n <;> simp only [hs, ht, sameShape] at e2 h2 ⊢ <;> first | trivial | (rw [e1]; exact h2) | exact e2.elim
  | .mref n i, v, hn, h => by
    unfold AV.names at hn
    unfold VRel at h ⊢
    refine ⟨h.1, ?_⟩
    rcases hE.f n hn.1 hn.2 with e | ⟨e1, e2⟩
    · rw [e]; trivial
    · have h2 := h.2
      cases hs : S.hp n <;> cases ht : T.hp n <;> simp only [hs, ht, sameShape] at e2 h2 ⊢ <;> first | trivial | (rw [e1, e2.2.2]; exact h2) | exact e2.elim
  | .keys c n i, v, hn, h => by
    unfold AV.names at hn
    unfold VRel at h ⊢
    obtain ⟨h0, b, m, h1, h3, h4, h2⟩ := h
    refine ⟨h0, b, m, h1, (hE.i b h3).1, h4.same (hE.i b h3).2, ?_⟩
    rcases hE.f n hn.1 hn.2 with e | ⟨e1, e2⟩
    · rw [e]; trivial
    · cases hs : S.hp n <;> cases ht : T.hp n <;> simp only [hs, ht, sameShape] at e2 h2 ⊢ <;> first | trivial | (rw [e1, e2.2.2]; exact h2) | exact e2.elim
  | .iptr cs, v, hn, h => by
    unfold AV.names at hn
    unfold VRel at h ⊢
    obtain ⟨b, o, us, h1, h2, h3, h4, h5⟩ := h
    exact ⟨b, o, us, h1, (hE.i b h2).1, VRelL.ext hE cs hn h3, h4.same (hE.i b h2).2, h5⟩
  | .fn f cap, v, hn, h => by
    unfold AV.names at hn
    unfold VRel at h ⊢
    obtain ⟨vs, h1, h2⟩ := h
    exact ⟨vs, h1, VRelL.ext hE cap hn h2⟩
  | .agg cs, v, hn, h => by
    unfold AV.names at hn
    unfold VRel at h ⊢
    obtain ⟨vs, h1, h2, h3⟩ := h
    exact ⟨vs, h1, VRelL.ext hE cs hn h2, h3⟩
  | .tup cs, v, hn, h => by
    unfold AV.names at hn
    unfold VRel at h ⊢
    obtain ⟨vs, h1, h2⟩ := h
    exact ⟨vs, h1, VRelL.ext hE cs hn h2⟩
theorem VRelL.ext (hE : Ext p S T) : ∀ (cs : List AV) {vs : List Value}, AV.namesL (fun n => p n ∧ S.hp n ≠ .free) cs → VRelL S cs vs → VRelL T cs vs
  | [], vs, _, h => by rw [h.nil_inv]; exact .nil
  | c :: cs, vs, hn, h => by
    unfold AV.namesL at hn
    obtain ⟨v, s, rfl, h1, h2⟩ := h.cons_inv
    exact .cons (VRel.ext hE c hn.1 h1) (VRelL.ext hE cs hn.2 h2)
end
end later

mutual
theorem AV.names_imp {p q : Nat → Prop} (h : ∀ n, p n → q n) : ∀ (c : AV), c.names p → c.names q
  | .ref n, hn => by unfold AV.names at hn ⊢; exact h n hn
  | .pref n _, hn => by unfold AV.names at hn ⊢; exact h n hn
  | .ptr n _, hn => by unfold AV.names at hn ⊢; exact h n hn
  | .eptr n _ _, hn => by unfold AV.names at hn ⊢; exact h n hn
  | .aptr n _ _ _, hn => by unfold AV.names at hn ⊢; exact h n hn
  | .mapr n, hn => by unfold AV.names at hn ⊢; exact h n hn
  | .mref n _, hn => by unfold AV.names at hn ⊢; exact h n hn
  | .keys _ n _, hn => by unfold AV.names at hn ⊢; exact h n hn
  | .fn _ cap, hn => by unfold AV.names at hn ⊢; exact AV.namesL_imp h cap hn
  | .agg cs, hn => by unfold AV.names at hn ⊢; exact AV.namesL_imp h cs hn
  | .tup cs, hn => by unfold AV.names at hn ⊢; exact AV.namesL_imp h cs hn
  | .iptr cs, hn => by unfold AV.names at hn ⊢; exact AV.namesL_imp h cs hn
  | .undef, _ => by unfold AV.names; trivial
  | .bool _, _ => by unfold AV.names; trivial
  | .int _ _, _ => by unfold AV.names; trivial
  | .str _, _ => by unfold AV.names; trivial
  | .sl _ _, _ => by unfold AV.names; trivial
  | .nilsl, _ => by unfold AV.names; trivial
  | .nilp, _ => by unfold AV.names; trivial
  | .nilfn, _ => by unfold AV.names; trivial
  | .nilmap, _ => by unfold AV.names; trivial
  | .nilif, _ => by unfold AV.names; trivial
theorem AV.namesL_imp {p q : Nat → Prop} (h : ∀ n, p n → q n) : ∀ (cs : List AV), AV.namesL p cs → AV.namesL q cs
  | [], _ => by unfold AV.namesL; trivial
  | c :: cs, hn => by unfold AV.namesL at hn ⊢; exact ⟨AV.names_imp h c hn.1, AV.namesL_imp h cs hn.2⟩
end

mutual
theorem AV.names_closed {p : Nat → Prop} : ∀ (c : AV), c.closed = true → c.names p
  | .ref n, hn => by simp [AV.closed] at hn
  | .pref n _, hn => by simp [AV.closed] at hn
  | .ptr n _, hn => by simp [AV.closed] at hn
  | .eptr n _ _, hn => by simp [AV.closed] at hn
  | .aptr n _ _ _, hn => by simp [AV.closed] at hn
  | .mapr n, hn => by simp [AV.closed] at hn
  | .mref n _, hn => by simp [AV.closed] at hn
  | .keys _ n _, hn => by simp [AV.closed] at hn
  | .iptr cs, hn => by simp [AV.closed] at hn
  | .fn _ cap, hn => by unfold AV.closed at hn; unfold AV.names; exact AV.namesL_closed cap hn
  | .agg cs, hn => by unfold AV.closed at hn; unfold AV.names; exact AV.namesL_closed cs hn
  | .tup cs, hn => by unfold AV.closed at hn; unfold AV.names; exact AV.namesL_closed cs hn
  | .undef, _ => by unfold AV.names; trivial
  | .bool _, _ => by unfold AV.names; trivial
  | .int _ _, _ => by unfold AV.names; trivial
  | .str _, _ => by unfold AV.names; trivial
  | .sl _ _, _ => by unfold AV.names; trivial
  | .nilsl, _ => by unfold AV.names; trivial
  | .nilp, _ => by unfold AV.names; trivial
  | .nilfn, _ => by unfold AV.names; trivial
  | .nilmap, _ => by unfold AV.names; trivial
  | .nilif, _ => by unfold AV.names; trivial
theorem AV.namesL_closed {p : Nat → Prop} : ∀ (cs : List AV), AV.closedL cs = true → AV.namesL p cs
  | [], _ => by unfold AV.namesL; trivial
  | c :: cs, hn => by
    unfold AV.closedL at hn
    simp only [Bool.and_eq_true] at hn
    unfold AV.namesL; exact ⟨AV.names_closed c hn.1, AV.namesL_closed cs hn.2⟩
end

theorem AV.closedL_append : ∀ (l m : List AV), AV.closedL (l ++ m) = (AV.closedL l && AV.closedL m)
  | [], m => by simp [AV.closedL]
  | c :: l, m => by simp [AV.closedL, AV.closedL_append l m, Bool.and_assoc]

theorem flat_closed : ∀ (k : Kind) (x : k.T), AV.closedL (k.flat x) = true
  | .bool, _ => rfl
  | .int _, _ => rfl
  | .str, _ => rfl
  | .dyn _, _ => rfl
  | .unit, _ => rfl
  | .slice _, _ => rfl
  | .pair a b, x => by unfold Kind.flat; rw [AV.closedL_append, flat_closed a, flat_closed b]; rfl
  | .arr n e, xs => by
    unfold Kind.flat
    generalize List.range n = l
    induction l with
    | nil => rfl
    | cons i l ih => rw [List.flatMap_cons, AV.closedL_append, flat_closed e, ih]; rfl
  | .rx, _ => rfl
  | .fnk, none => rfl
  | .fnk, some _ => rfl

theorem flat_names {p : Nat → Prop} (k : Kind) (x : k.T) : AV.namesL p (k.flat x) := AV.namesL_closed _ (flat_closed k x)

theorem AV.namesL_append {p : Nat → Prop} : ∀ (l m : List AV), AV.namesL p (l ++ m) ↔ AV.namesL p l ∧ AV.namesL p m
  | [], m => by simp [AV.namesL]
  | c :: l, m => by simp [AV.namesL, AV.namesL_append l m, and_assoc]

theorem AV.namesL_mem {p : Nat → Prop} {c : AV} : ∀ {l : List AV}, AV.namesL p l → c ∈ l → c.names p
  | [], _, h => by cases h
  | d :: l, hn, h => by
    unfold AV.namesL at hn
    cases h with
    | head => exact hn.1
    | tail _ h => exact AV.namesL_mem hn.2 h

theorem AV.namesL_of {p : Nat → Prop} : ∀ {l : List AV}, (∀ c ∈ l, c.names p) → AV.namesL p l
  | [], _ => by unfold AV.namesL; trivial
  | d :: l, h => by unfold AV.namesL; exact ⟨h d (List.mem_cons_self ..), AV.namesL_of fun c hc => h c (List.mem_cons_of_mem _ hc)⟩

theorem AV.leaves_names {p : Nat → Prop} {c : AV} {cs : List AV} (h : c.names p) (he : c.leaves = some cs) : AV.namesL p cs := by
  cases c <;> simp only [AV.leaves, Option.some.injEq, reduceCtorEq] at he
  case agg => subst he; unfold AV.names at h; exact h
  all_goals
    subst he
    exact AV.namesL_of fun c hc => by simp at hc; subst hc; exact h

end Go.AM
