/- Forgetting, naming, freezing. -/
import Derived.Test.YtdjbokdohackdaaA14
namespace Go.AM
open Go

/-- T is S with references forgotten: only the names that p holds for are known -/
structure Mask (p : Nat → Bool) (S T : Sit) : Prop where
  w : T.w = S.w
  i : T.I = S.I
  r : T.ρ = S.ρ
  b : T.B = S.B
  h : ∀ n, T.hp n = (S.hp n).only p ∨ (p n = false ∧ (T.hp n = .free ∨ T.hp n = .dead))

theorem Mask.at_ {p : Nat → Bool} {S T : Sit} (M : Mask p S T) {n : Nat} (hn : p n = true) : T.hp n = (S.hp n).only p := by
  rcases M.h n with h | ⟨h, _⟩
  · exact h
  · rw [h] at hn; cases hn

theorem onlyL_length (p : Nat → Bool) : ∀ cs : List AV, (AV.onlyL p cs).length = cs.length
  | [] => rfl
  | c :: cs => by unfold AV.onlyL; simp [onlyL_length p cs]

theorem only_live (p : Nat → Bool) (c : Cell) : (c.only p).live = c.live := by cases c <;> rfl
theorem only_free {p : Nat → Bool} {c : Cell} (h : c ≠ .free) : c.only p ≠ .free := by cases c <;> simp [Cell.only] at h ⊢
theorem only_dead {p : Nat → Bool} {c : Cell} : c.only p = .dead ↔ c = .dead := by cases c <;> simp [Cell.only]

mutual
theorem VRel.mask {p : Nat → Bool} {S T : Sit} (M : Mask p S T) : ∀ (c : AV) {v : Value}, VRel S c v → VRel T (c.only p) v
  | .undef, v, _ => by unfold AV.only VRel; trivial
  | .bool _, v, h => by unfold AV.only; unfold VRel at h ⊢; exact h
  | .int _ _, v, h => by unfold AV.only; unfold VRel at h ⊢; exact h
  | .str _, v, h => by unfold AV.only; unfold VRel at h ⊢; exact h
  | .sl e xs, v, h => by unfold AV.only; unfold VRel at h ⊢; rw [M.w, M.i]; exact h
  | .nilsl, v, h => by unfold AV.only; unfold VRel at h ⊢; exact h
  | .nilp, v, h => by unfold AV.only; unfold VRel at h ⊢; exact h
  | .nilfn, v, h => by unfold AV.only; unfold VRel at h ⊢; exact h
  | .nilmap, v, h => by unfold AV.only; unfold VRel at h ⊢; exact h
  | .nilif, v, h => by unfold AV.only; unfold VRel at h ⊢; exact h
  | .ref n, v, h => by
    unfold AV.only
    split
    · rename_i hn
      unfold VRel at h ⊢
      refine ⟨h.1, ?_⟩
      rw [M.at_ hn, M.r]
      have h2 := h.2
      cases hc : S.hp n <;> simp only [hc, Cell.only] at h2 ⊢ <;> exact h2
    · exact .undef_mk
  | .pref n k, v, h => by
    unfold AV.only
    split
    · rename_i hn
      unfold VRel at h ⊢
      refine ⟨h.1, ?_⟩
      rw [M.at_ hn, M.r]
      have h2 := h.2
      cases hc : S.hp n <;> simp only [hc, Cell.only] at h2 ⊢ <;> exact h2
    · exact .undef_mk
  | .ptr n o, v, h => by
    unfold AV.only
    split
    · rename_i hn
      unfold VRel at h ⊢
      refine ⟨h.1, ?_⟩
      rw [M.at_ hn, M.r]
      have h2 := h.2
      cases hc : S.hp n <;> simp only [hc, Cell.only] at h2 ⊢ <;> exact h2
    · exact .undef_mk
  | .eptr n i s, v, h => by
    unfold AV.only
    split
    · rename_i hn
      unfold VRel at h ⊢
      refine ⟨h.1, ?_⟩
      rw [M.at_ hn, M.r]
      have h2 := h.2
      cases hc : S.hp n <;> simp only [hc, Cell.only] at h2 ⊢ <;> exact h2
    · exact .undef_mk
  | .aptr n o c i, v, h => by
    unfold AV.only
    split
    · rename_i hn
      unfold VRel at h ⊢
      refine ⟨h.1, ?_⟩
      rw [M.at_ hn, M.r]
      have h2 := h.2
      cases hc : S.hp n <;> simp only [hc, Cell.only] at h2 ⊢ <;> first | exact h2 | (rw [onlyL_length]; exact h2)
    · exact .undef_mk
  | .mapr n, v, h => by
    unfold AV.only
    split
    · rename_i hn
      unfold VRel at h ⊢
      refine ⟨h.1, ?_⟩
      rw [M.at_ hn, M.r]
      have h2 := h.2
      cases hc : S.hp n <;> simp only [hc, Cell.only] at h2 ⊢ <;> exact h2
    · exact .undef_mk
  | .mref n i, v, h => by
    unfold AV.only
    split
    · rename_i hn
      unfold VRel at h ⊢
      refine ⟨h.1, ?_⟩
      rw [M.at_ hn, M.r]
      have h2 := h.2
      cases hc : S.hp n <;> simp only [hc, Cell.only] at h2 ⊢ <;> exact h2
    · exact .undef_mk
  | .keys c n i, v, h => by
    unfold AV.only
    split
    · rename_i hn
      unfold VRel at h ⊢
      obtain ⟨h0, b, m, h1, h3, h4, h2⟩ := h
      refine ⟨h0, b, m, h1, by rw [M.i]; exact h3, by rw [M.w]; exact h4, ?_⟩
      rw [M.at_ hn, M.r]
      cases hc : S.hp n <;> simp only [hc, Cell.only] at h2 ⊢ <;> exact h2
    · exact .undef_mk
  | .iptr cs, v, h => by
    unfold AV.only
    unfold VRel at h ⊢
    obtain ⟨b, o, us, h1, h2, h3, h4, h5⟩ := h
    exact ⟨b, o, us, h1, by rw [M.i]; exact h2, VRelL.mask M cs h3, by rw [M.w]; exact h4, h5⟩
  | .fn f cap, v, h => by
    unfold AV.only
    unfold VRel at h ⊢
    obtain ⟨vs, h1, h2⟩ := h
    exact ⟨vs, h1, VRelL.mask M cap h2⟩
  | .agg cs, v, h => by
    unfold AV.only
    unfold VRel at h ⊢
    obtain ⟨vs, h1, h2, h3⟩ := h
    exact ⟨vs, h1, VRelL.mask M cs h2, h3⟩
  | .tup cs, v, h => by
    unfold AV.only
    unfold VRel at h ⊢
    obtain ⟨vs, h1, h2⟩ := h
    exact ⟨vs, h1, VRelL.mask M cs h2⟩
theorem VRelL.mask {p : Nat → Bool} {S T : Sit} (M : Mask p S T) : ∀ (cs : List AV) {vs : List Value}, VRelL S cs vs → VRelL T (AV.onlyL p cs) vs
  | [], vs, h => by rw [h.nil_inv]; unfold AV.onlyL; exact .nil
  | c :: cs, vs, h => by
    obtain ⟨v, s, rfl, h1, h2⟩ := h.cons_inv
    unfold AV.onlyL
    exact .cons (VRel.mask M c h1) (VRelL.mask M cs h2)
end

mutual
theorem AV.names_only {p : Nat → Bool} {q : Nat → Prop} : ∀ (c : AV), c.names q → (c.only p).names (fun n => p n = true ∧ q n)
  | .ref n, h => by unfold AV.only; split <;> unfold AV.names at h ⊢ <;> first | exact ⟨‹_›, h⟩ | trivial
  | .pref n _, h => by unfold AV.only; split <;> unfold AV.names at h ⊢ <;> first | exact ⟨‹_›, h⟩ | trivial
  | .ptr n _, h => by unfold AV.only; split <;> unfold AV.names at h ⊢ <;> first | exact ⟨‹_›, h⟩ | trivial
  | .eptr n _ _, h => by unfold AV.only; split <;> unfold AV.names at h ⊢ <;> first | exact ⟨‹_›, h⟩ | trivial
  | .aptr n _ _ _, h => by unfold AV.only; split <;> unfold AV.names at h ⊢ <;> first | exact ⟨‹_›, h⟩ | trivial
  | .mapr n, h => by unfold AV.only; split <;> unfold AV.names at h ⊢ <;> first | exact ⟨‹_›, h⟩ | trivial
  | .mref n _, h => by unfold AV.only; split <;> unfold AV.names at h ⊢ <;> first | exact ⟨‹_›, h⟩ | trivial
  | .keys _ n _, h => by unfold AV.only; split <;> unfold AV.names at h ⊢ <;> first | exact ⟨‹_›, h⟩ | trivial
  | .fn _ cap, h => by unfold AV.only; unfold AV.names at h ⊢; exact AV.namesL_only cap h
  | .agg cs, h => by unfold AV.only; unfold AV.names at h ⊢; exact AV.namesL_only cs h
  | .tup cs, h => by unfold AV.only; unfold AV.names at h ⊢; exact AV.namesL_only cs h
  | .iptr cs, h => by unfold AV.only; unfold AV.names at h ⊢; exact AV.namesL_only cs h
  | .undef, _ => by unfold AV.only AV.names; trivial
  | .bool _, _ => by unfold AV.only AV.names; trivial
  | .int _ _, _ => by unfold AV.only AV.names; trivial
  | .str _, _ => by unfold AV.only AV.names; trivial
  | .sl _ _, _ => by unfold AV.only AV.names; trivial
  | .nilsl, _ => by unfold AV.only AV.names; trivial
  | .nilp, _ => by unfold AV.only AV.names; trivial
  | .nilfn, _ => by unfold AV.only AV.names; trivial
  | .nilmap, _ => by unfold AV.only AV.names; trivial
  | .nilif, _ => by unfold AV.only AV.names; trivial
theorem AV.namesL_only {p : Nat → Bool} {q : Nat → Prop} : ∀ (cs : List AV), AV.namesL q cs → AV.namesL (fun n => p n = true ∧ q n) (AV.onlyL p cs)
  | [], _ => by unfold AV.onlyL AV.namesL; trivial
  | c :: cs, h => by unfold AV.namesL at h; unfold AV.onlyL AV.namesL; exact ⟨AV.names_only c h.1, AV.namesL_only cs h.2⟩
end

theorem Mask.nonfree {p : Nat → Bool} {S T : Sit} (M : Mask p S T) {n : Nat} (h : p n = true ∧ S.hp n ≠ .free) : T.hp n ≠ .free := by
  rw [M.at_ h.1]; exact only_free h.2

theorem Mask.hrel {p : Nat → Bool} {S T : Sit} (M : Mask p S T) (H : HRel S) : HRel T where
  ob := fun n => by
    rcases M.h n with h | ⟨_, h | h⟩
    · rw [h]
      have ho := H.ob n
      cases hc : S.hp n <;> rw [hc] at ho <;> simp only [Cell.only]
      · trivial
      · trivial
      · obtain ⟨b, c, E, h1, h2, h3, h4, h5, h6⟩ := ho
        exact ⟨b, c, E, by rw [M.r]; exact h1, by rw [M.w]; exact h2, by rw [M.i]; exact h3, by rw [M.b]; exact h4, VRelL.mask M _ h5, h6⟩
      · unfold ObjAt at ho ⊢
        rw [M.r, M.w, M.i, M.b]; exact ho
      · unfold ObjAt at ho ⊢
        rw [M.r, M.w, M.i, M.b]; exact ho
      · unfold ObjAt MapAt at ho ⊢
        rw [M.r, M.w, M.i, M.b]; exact ho
    · rw [h]; trivial
    · rw [h]; trivial
  ds := fun n m b hnm hn hm hb => by
    have lv : ∀ n, cellLive (T.hp n) → cellLive (S.hp n) := by
      intro n hn
      rcases M.h n with h | ⟨_, h | h⟩
      · rw [h] at hn; unfold cellLive at hn ⊢; rwa [only_live] at hn
      · rw [h] at hn; cases hn
      · rw [h] at hn; cases hn
    rw [M.r] at hb ⊢
    exact H.ds n m b hnm (lv n hn) (lv m hm) hb
  il := fun b hb => by rw [M.i] at hb; rw [M.w]; exact H.il b hb
  bl := by rw [M.b, M.w]; exact H.bl
  nb := fun n cs hcs => by
    rcases M.h n with h | ⟨_, h | h⟩
    · rw [h] at hcs
      cases hc : S.hp n <;> rw [hc] at hcs <;> simp only [Cell.only, Cell.box.injEq, reduceCtorEq] at hcs
      subst hcs
      exact AV.namesL_imp (fun m hm => M.nonfree hm) _ (AV.namesL_only _ (H.nb n _ hc))
    · rw [h] at hcs; cases hcs
    · rw [h] at hcs; cases hcs

theorem Mask.frel {p : Nat → Bool} {S T : Sit} (M : Mask p S T) {fr : Nat → AV} {a : Act} (F : FRel S fr a) : FRel T (fun i => (fr i).only p) a where
  v := fun i => VRel.mask M _ (F.v i)
  n := fun i => AV.names_imp (fun _ hm => M.nonfree hm) _ (AV.names_only _ (F.n i))
  d := F.d

/-- fewer slots known -/
theorem FRel.look {S : Sit} {fr : Nat → AV} {a : Act} (F : FRel S fr a) (slots : List Nat) : FRel S (look .undef (slots.map fun i => (i, fr i))) a where
  v := fun i => by
    induction slots with
    | nil => exact .undef_mk
    | cons s l ih =>
      simp only [List.map_cons, Go.AM.look]
      split
      · rename_i h; subst h; exact F.v _
      · exact ih
  n := fun i => by
    induction slots with
    | nil => unfold List.map Go.AM.look AV.names; trivial
    | cons s l ih =>
      simp only [List.map_cons, Go.AM.look]
      split
      · rename_i h; subst h; exact F.n _
      · exact ih
  d := F.d

theorem sameShape_only {p : Nat → Bool} {c : Cell} (h : cellLive c) : sameShape c (c.only p) := by
  cases c <;> simp [cellLive, Cell.live] at h <;> simp [Cell.only, sameShape, onlyL_length]

/-- what a mask keeps of the names below base -/
theorem Mask.ext {p : Nat → Bool} {S T : Sit} (M : Mask p S T) {q : Nat → Prop} (hq : ∀ n, q n → S.hp n ≠ .free → T.hp n = .free → False) : Ext q S T where
  i := fun b hb => ⟨by rw [M.i]; exact hb, by rw [M.w]⟩
  s := by rw [M.w]; exact Nat.le_refl _
  b := M.b
  o := fun b _ => by rw [M.w]
  f := fun n hn hf => by
    rcases M.h n with h | ⟨_, h | h⟩
    · by_cases hl : cellLive (S.hp n)
      · exact .inr ⟨by rw [M.r], by rw [h]; exact sameShape_only hl⟩
      · left
        rw [h]
        cases hc : S.hp n <;> rw [hc] at hl hf <;> simp [cellLive, Cell.live] at hl hf ⊢ <;> rfl
    · exact (hq n hn hf h).elim
    · exact .inl h
  g := fun n hn hd => by
    rcases M.h n with h | ⟨_, h | h⟩
    · rw [h, hd]; rfl
    · exact (hq n hn (by rw [hd]; simp) h).elim
    · exact h
  j := fun b hb _ => by rw [M.i] at hb; exact hb
  q := by rw [M.w]; exact ⟨rfl, rfl⟩

theorem look_names {α : Type} {d : α} {names : List Nat} {f : Nat → α} {n : Nat} : look d (names.map fun n => (n, f n)) n = if names.contains n = true then f n else d := by
  induction names with
  | nil => simp [look]
  | cons m l ih =>
    simp only [List.map_cons, look, List.contains_cons]
    by_cases h : n = m
    · subst h; simp
    · simp only [if_neg h, ih]
      have : (n == m) = false := by simp [h]
      rw [this]; simp

end Go.AM
