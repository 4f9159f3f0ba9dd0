/- Procedures: calls of functions that are given objects and leave them changed. -/
import Derived.Test.YtdjbokdohackdaaA13
namespace Go.AM
open Go

/-! ### lists of names -/

theorem look_none {α : Type} {d : α} : ∀ {l : List (Nat × α)} {n : Nat}, (∀ p ∈ l, p.1 ≠ n) → look d l n = d
  | [], _, _ => rfl
  | (k, v) :: r, n, h => by
    unfold look
    rw [if_neg (fun e => h (k, v) (List.mem_cons_self ..) e.symm)]
    exact look_none fun p hp => h p (List.mem_cons_of_mem _ hp)

theorem nodupB_cons {n : Nat} {l : List Nat} (h : nodupB (n :: l) = true) : (∀ m ∈ l, m ≠ n) ∧ nodupB l = true := by
  unfold nodupB at h
  rw [Bool.and_eq_true] at h
  refine ⟨fun m hm e => ?_, h.2⟩
  have := h.1
  subst e
  simp at this
  exact this hm

theorem look_mem_of {α β : Type} {d : α} {f : β → Nat × α} : ∀ {l : List β} {x : β}, nodupB (l.map fun y => (f y).1) = true → x ∈ l → look d (l.map f) (f x).1 = (f x).2
  | y :: l, x, hn, hx => by
    obtain ⟨h1, h2⟩ := nodupB_cons hn
    rw [List.map_cons]
    show (if (f x).1 = (f y).1 then (f y).2 else look d (l.map f) (f x).1) = _
    rcases List.mem_cons.1 hx with rfl | hx
    · rw [if_pos rfl]
    · rw [if_neg (h1 _ (List.mem_map.2 ⟨x, hx, rfl⟩))]
      exact look_mem_of h2 hx

theorem look_some {β : Type} {f : β → Nat × Option Nat} : ∀ {l : List β} {n m : Nat}, look none (l.map f) n = some m → ∃ x ∈ l, (f x).1 = n ∧ (f x).2 = some m
  | [], _, _, h => by cases h
  | y :: l, n, m, h => by
    rw [List.map_cons] at h
    replace h : (if n = (f y).1 then (f y).2 else look none (l.map f) n) = some m := h
    split at h
    · rename_i e; exact ⟨y, List.mem_cons_self .., e.symm, h⟩
    · obtain ⟨x, h1, h2⟩ := look_some h
      exact ⟨x, List.mem_cons_of_mem _ h1, h2⟩

theorem pmap_mem {l : List (Nat × Nat)} {n m : Nat} (h : pmap l n = some m) : (n, m) ∈ l := by
  obtain ⟨x, h1, h2, h3⟩ := look_some (f := fun p : Nat × Nat => (p.1, some p.2)) h
  simp only [Option.some.injEq] at h3
  rw [← h2, ← h3]; exact h1
theorem pinv_mem {l : List (Nat × Nat)} {n m : Nat} (h : pinv l m = some n) : (n, m) ∈ l := by
  obtain ⟨x, h1, h2, h3⟩ := look_some (f := fun p : Nat × Nat => (p.2, some p.1)) h
  simp only [Option.some.injEq] at h3
  rw [← h2, ← h3]; exact h1
theorem pmap_of {l : List (Nat × Nat)} (hn : nodupB (l.map (·.1)) = true) {n m : Nat} (h : (n, m) ∈ l) : pmap l n = some m :=
  look_mem_of (f := fun p : Nat × Nat => (p.1, some p.2)) hn h
theorem pinv_of {l : List (Nat × Nat)} (hn : nodupB (l.map (·.2)) = true) {n m : Nat} (h : (n, m) ∈ l) : pinv l m = some n :=
  look_mem_of (f := fun p : Nat × Nat => (p.2, some p.1)) hn h
theorem pmap_none {l : List (Nat × Nat)} (hn : nodupB (l.map (·.1)) = true) {n : Nat} (h : pmap l n = none) : ∀ p ∈ l, p.1 ≠ n := fun p hp e => by
  have := pmap_of hn (n := p.1) (m := p.2) hp
  rw [e, h] at this
  cases this

theorem look_zip {α : Type} {d : α} : ∀ {ks : List Nat} {vs : List α} {i : Nat} {k : Nat} {v : α}, nodupB ks = true → ks[i]? = some k → vs[i]? = some v → look d (ks.zip vs) k = v
  | [], _, i, k, v, _, h, _ => by simp at h
  | _ :: _, [], i, k, v, _, _, h => by simp at h
  | q :: ks, u :: vs, 0, k, v, _, h1, h2 => by
    simp only [List.getElem?_cons_zero, Option.some.injEq] at h1 h2
    subst h1 h2
    show (if q = q then u else _) = u
    rw [if_pos rfl]
  | q :: ks, u :: vs, i + 1, k, v, hn, h1, h2 => by
    obtain ⟨n1, n2⟩ := nodupB_cons hn
    simp only [List.getElem?_cons_succ] at h1 h2
    show (if k = q then u else look d (ks.zip vs) k) = v
    rw [if_neg (n1 k (List.mem_of_getElem? h1))]
    exact look_zip n2 h1 h2

theorem look_zip_none {α : Type} {d : α} {ks : List Nat} {vs : List α} {k : Nat} (h : ∀ q ∈ ks, q ≠ k) : look d (ks.zip vs) k = d :=
  look_none fun p hp => h p.1 (List.of_mem_zip hp).1

/-! ### renaming -/

/-- T is S under other names -/
structure Ren (π : Nat → Option Nat) (S T : Sit) : Prop where
  w : T.w = S.w
  i : ∀ b, S.I b → T.I b
  h : ∀ n m, π n = some m → T.ρ m = S.ρ n ∧ T.hp m = (S.hp n).ren π

theorem renL_length (π : Nat → Option Nat) : ∀ cs : List AV, (AV.renL π cs).length = cs.length
  | [] => rfl
  | c :: cs => by unfold AV.renL; simp [renL_length π cs]

theorem ren_live (π : Nat → Option Nat) (c : Cell) : (c.ren π).live = c.live := by cases c <;> rfl

section
variable {π : Nat → Option Nat} {S T : Sit}

theorem Ren.k (R : Ren π S T) {k : Kind} {x : k.T} {vs : List Value} (h : RelK S.w S.I k x vs) : RelK T.w T.I k x vs :=
  RelK.later (fun b hb => ⟨R.i b hb, by rw [R.w]⟩) k h

mutual
theorem VRel.ren (R : Ren π S T) : ∀ (c : AV) {v : Value}, VRel S c v → VRel T (c.ren π) v
  | .undef, v, _ => by unfold AV.ren VRel; trivial
  | .bool _, v, h => by unfold AV.ren; unfold VRel at h ⊢; exact h
  | .int _ _, v, h => by unfold AV.ren; unfold VRel at h ⊢; exact h
  | .str _, v, h => by unfold AV.ren; unfold VRel at h ⊢; exact h
  | .sl e xs, v, h => by unfold AV.ren; unfold VRel at h ⊢; exact R.k h
  | .nilsl, v, h => by unfold AV.ren; unfold VRel at h ⊢; exact h
  | .nilp, v, h => by unfold AV.ren; unfold VRel at h ⊢; exact h
  | .nilfn, v, h => by unfold AV.ren; unfold VRel at h ⊢; exact h
  | .nilmap, v, h => by unfold AV.ren; unfold VRel at h ⊢; exact h
  | .nilif, v, h => by unfold AV.ren; unfold VRel at h ⊢; exact h
  | .ref n, v, h => by
    unfold AV.ren
    split
    · rename_i m hm
      unfold VRel at h ⊢
      refine ⟨h.1, ?_⟩
      rw [(R.h n m hm).2, (R.h n m hm).1]
      have h2 := h.2
      cases hc : S.hp n <;> simp only [hc, Cell.ren] at h2 ⊢ <;> exact h2
    · exact .undef_mk
  | .pref n k, v, h => by
    unfold AV.ren
    split
    · rename_i m hm
      unfold VRel at h ⊢
      refine ⟨h.1, ?_⟩
      rw [(R.h n m hm).2, (R.h n m hm).1]
      have h2 := h.2
      cases hc : S.hp n <;> simp only [hc, Cell.ren] at h2 ⊢ <;> exact h2
    · exact .undef_mk
  | .ptr n o, v, h => by
    unfold AV.ren
    split
    · rename_i m hm
      unfold VRel at h ⊢
      refine ⟨h.1, ?_⟩
      rw [(R.h n m hm).2, (R.h n m hm).1]
      have h2 := h.2
      cases hc : S.hp n <;> simp only [hc, Cell.ren] at h2 ⊢ <;> exact h2
    · exact .undef_mk
  | .eptr n i s, v, h => by
    unfold AV.ren
    split
    · rename_i m hm
      unfold VRel at h ⊢
      refine ⟨h.1, ?_⟩
      rw [(R.h n m hm).2, (R.h n m hm).1]
      have h2 := h.2
      cases hc : S.hp n <;> simp only [hc, Cell.ren] at h2 ⊢ <;> exact h2
    · exact .undef_mk
  | .aptr n o c i, v, h => by
    unfold AV.ren
    split
    · rename_i m hm
      unfold VRel at h ⊢
      refine ⟨h.1, ?_⟩
      rw [(R.h n m hm).2, (R.h n m hm).1]
      have h2 := h.2
      cases hc : S.hp n <;> simp only [hc, Cell.ren] at h2 ⊢ <;> first | exact h2 | (rw [renL_length]; exact h2)
    · exact .undef_mk
  | .mapr n, v, h => by
    unfold AV.ren
    split
    · rename_i m hm
      unfold VRel at h ⊢
      refine ⟨h.1, ?_⟩
      rw [(R.h n m hm).2, (R.h n m hm).1]
      have h2 := h.2
      cases hc : S.hp n <;> simp only [hc, Cell.ren] at h2 ⊢ <;> exact h2
    · exact .undef_mk
  | .mref n i, v, h => by
    unfold AV.ren
    split
    · rename_i m hm
      unfold VRel at h ⊢
      refine ⟨h.1, ?_⟩
      rw [(R.h n m hm).2, (R.h n m hm).1]
      have h2 := h.2
      cases hc : S.hp n <;> simp only [hc, Cell.ren] at h2 ⊢ <;> exact h2
    · exact .undef_mk
  | .keys c n i, v, h => by
    unfold AV.ren
    split
    · rename_i m hm
      unfold VRel at h ⊢
      obtain ⟨h0, b, mv, h1, h3, h4, h2⟩ := h
      refine ⟨h0, b, mv, h1, R.i b h3, by rw [R.w]; exact h4, ?_⟩
      rw [(R.h n m hm).2, (R.h n m hm).1]
      cases hc : S.hp n <;> simp only [hc, Cell.ren] at h2 ⊢ <;> exact h2
    · exact .undef_mk
  | .iptr cs, v, h => by
    unfold AV.ren
    unfold VRel at h ⊢
    obtain ⟨b, o, us, h1, h2, h3, h4, h5⟩ := h
    exact ⟨b, o, us, h1, R.i b h2, VRelL.ren R cs h3, by rw [R.w]; exact h4, h5⟩
  | .fn f cap, v, h => by
    unfold AV.ren
    unfold VRel at h ⊢
    obtain ⟨vs, h1, h2⟩ := h
    exact ⟨vs, h1, VRelL.ren R cap h2⟩
  | .agg cs, v, h => by
    unfold AV.ren
    unfold VRel at h ⊢
    obtain ⟨vs, h1, h2, h3⟩ := h
    exact ⟨vs, h1, VRelL.ren R cs h2, h3⟩
  | .tup cs, v, h => by
    unfold AV.ren
    unfold VRel at h ⊢
    obtain ⟨vs, h1, h2⟩ := h
    exact ⟨vs, h1, VRelL.ren R cs h2⟩
theorem VRelL.ren (R : Ren π S T) : ∀ (cs : List AV) {vs : List Value}, VRelL S cs vs → VRelL T (AV.renL π cs) vs
  | [], vs, h => by rw [h.nil_inv]; unfold AV.renL; exact .nil
  | c :: cs, vs, h => by
    obtain ⟨v, s, rfl, h1, h2⟩ := h.cons_inv
    unfold AV.renL
    exact .cons (VRel.ren R c h1) (VRelL.ren R cs h2)
end

mutual
/-- the names of a renamed value are in the range of the renaming -/
theorem AV.names_ren {q : Nat → Prop} (hq : ∀ n m, π n = some m → q m) : ∀ (c : AV), (c.ren π).names q
  | .ref n => by unfold AV.ren; split <;> unfold AV.names <;> first | exact hq _ _ ‹_› | trivial
  | .pref n _ => by unfold AV.ren; split <;> unfold AV.names <;> first | exact hq _ _ ‹_› | trivial
  | .ptr n _ => by unfold AV.ren; split <;> unfold AV.names <;> first | exact hq _ _ ‹_› | trivial
  | .eptr n _ _ => by unfold AV.ren; split <;> unfold AV.names <;> first | exact hq _ _ ‹_› | trivial
  | .aptr n _ _ _ => by unfold AV.ren; split <;> unfold AV.names <;> first | exact hq _ _ ‹_› | trivial
  | .mapr n => by unfold AV.ren; split <;> unfold AV.names <;> first | exact hq _ _ ‹_› | trivial
  | .mref n _ => by unfold AV.ren; split <;> unfold AV.names <;> first | exact hq _ _ ‹_› | trivial
  | .keys _ n _ => by unfold AV.ren; split <;> unfold AV.names <;> first | exact hq _ _ ‹_› | trivial
  | .fn _ cap => by unfold AV.ren AV.names; exact AV.namesL_ren hq cap
  | .agg cs => by unfold AV.ren AV.names; exact AV.namesL_ren hq cs
  | .tup cs => by unfold AV.ren AV.names; exact AV.namesL_ren hq cs
  | .iptr cs => by unfold AV.ren AV.names; exact AV.namesL_ren hq cs
  | .undef => by unfold AV.ren AV.names; trivial
  | .bool _ => by unfold AV.ren AV.names; trivial
  | .int _ _ => by unfold AV.ren AV.names; trivial
  | .str _ => by unfold AV.ren AV.names; trivial
  | .sl _ _ => by unfold AV.ren AV.names; trivial
  | .nilsl => by unfold AV.ren AV.names; trivial
  | .nilp => by unfold AV.ren AV.names; trivial
  | .nilfn => by unfold AV.ren AV.names; trivial
  | .nilmap => by unfold AV.ren AV.names; trivial
  | .nilif => by unfold AV.ren AV.names; trivial
theorem AV.namesL_ren {q : Nat → Prop} (hq : ∀ n m, π n = some m → q m) : ∀ (cs : List AV), AV.namesL q (AV.renL π cs)
  | [] => by unfold AV.renL AV.namesL; trivial
  | c :: cs => by unfold AV.renL AV.namesL; exact ⟨AV.names_ren hq c, AV.namesL_ren hq cs⟩
end

theorem EntriesAt.ren (R : Ren π S T) {k v : Kind} {es : List (k.T × v.T)} {l : List MapEntry} (h : EntriesAt S.w S.I k v es l) : EntriesAt T.w T.I k v es l :=
  EntriesAt.later (fun b hb => ⟨R.i b hb, by rw [R.w]⟩) h

/-- an object under its other name -/
theorem ObjAt.ren (R : Ren π S T) {n m : Nat} {c : Cell} (h : ObjAt S n c) (hρ : T.ρ m = S.ρ n) (hb : ∀ b, hasBlk (S.ρ n) b → ¬ T.I b ∧ ¬ T.B b) : ObjAt T m (c.ren π) := by
  cases c with
  | free => trivial
  | dead => trivial
  | box cs =>
    obtain ⟨b, d, E, h1, h2, h3, h4, h5, h6⟩ := h
    have hbb := hb b (by rw [show S.ρ n = _ from h1]; exact rfl)
    exact ⟨b, d, E, by unfold blockAt; rw [hρ]; exact h1, by rw [R.w]; exact h2, hbb.1, hbb.2, VRelL.ren R cs h5, h6⟩
  | row e xs =>
    rcases h with ⟨h1, h2⟩ | ⟨b, cap, d, el, h1, h2, h3, hB, h4, h5, h6, h7⟩
    · exact .inl ⟨hρ.trans h1, h2⟩
    · have hbb := hb b (by rw [show S.ρ n = _ from h1]; exact rfl)
      refine .inr ⟨b, cap, d, el, by unfold rowAtV; rw [hρ]; exact h1, by rw [R.w]; exact h2, hbb.1, hbb.2, h4, h5, h6, fun i hi => ?_⟩
      obtain ⟨us, g1, g2⟩ := h7 i hi
      exact ⟨us, R.k g1, g2⟩
  | map k v es =>
    obtain ⟨r, ms, cl, h1, h2, h3, hB, h4, h5⟩ := h
    have hbb := hb r (by rw [h1]; exact rfl)
    exact ⟨r, ms, cl, hρ.trans h1, by rw [R.w]; exact h2, hbb.1, hbb.2, h4.ren R, h5⟩
  | mrow k v ess =>
    obtain ⟨b, cap, d, el, ms, h1, h2, h3, hB, h4, h5, h6, h7, h8, h9, h10⟩ := h
    have hbb := hb b (by rw [h1]; exact ⟨_, List.mem_cons_self .., rfl⟩)
    refine ⟨b, cap, d, el, ms, hρ.trans h1, by rw [R.w]; exact h2, hbb.1, hbb.2, h4, h5, h6, h7, h8, h9, fun i es hi => ?_⟩
    obtain ⟨m', g1, r, ents, cl, g2, g3, g4, g5, g6, g7⟩ := h10 i es hi
    have hbr := hb r (by rw [h1]; exact ⟨m', List.mem_cons_of_mem _ (List.mem_of_getElem? g1), by rw [g2]; rfl⟩)
    exact ⟨m', g1, r, ents, cl, g2, by rw [R.w]; exact g3, hbr.1, hbr.2, g6.ren R, g7⟩

theorem sameShape_ren {π' : Nat → Option Nat} {c d : Cell} (h : sameShape (c.ren π) d) : sameShape c (d.ren π') := by
  cases c <;> cases d <;> simp only [Cell.ren, sameShape] at h ⊢ <;> first | exact h | (rw [renL_length] at h ⊢; exact h)
end
end Go.AM
