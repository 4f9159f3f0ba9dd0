/- Steps of the heap: one name changes. -/
import Derived.Test.YtagllmgnmkdogaaA4
namespace Go.AM
open Go

theorem live_iff {c : Cell} : cellLive c ↔ c ≠ .free ∧ c ≠ .dead := by
  unfold cellLive
  cases c <;> simp [Cell.live]

theorem Ext.nonfree {p : Nat → Prop} {S T : Sit} (E : Ext p S T) {n : Nat} (hp : p n) (h : S.hp n ≠ .free) : T.hp n ≠ .free := by
  rcases E.f n hp h with e | ⟨_, e⟩
  · rw [e]; simp
  · intro hc
    rw [hc] at e
    cases hs : S.hp n <;> rw [hs] at e <;> exact e.elim

theorem ObjAt.later {S T : Sit} (E : Ext (fun _ => True) S T) {n : Nat} {c : Cell} (h : ObjAt S n c) (hn : ∀ cs, c = .box cs → AV.namesL (fun m => S.hp m ≠ .free) cs)
    (hρ : T.ρ n = S.ρ n) (hb : ∀ b, blockOf (S.ρ n) = some b → T.w.heap[b]? = S.w.heap[b]? ∧ (T.I b → S.I b)) : ObjAt T n c := by
  cases c with
  | free => trivial
  | dead => trivial
  | box cs =>
    obtain ⟨b, d, e, h1, h2, h3, hB, h4, h5⟩ := h
    have hbb := hb b (by rw [show S.ρ n = _ from h1]; rfl)
    refine ⟨b, d, e, by unfold blockAt; rw [hρ]; exact h1, hbb.1.trans h2, fun hI => h3 (hbb.2 hI), by rw [E.b]; exact hB, ?_⟩
    exact ⟨VRelL.ext E cs (AV.namesL_imp (fun m hm => ⟨trivial, hm⟩) cs (hn cs rfl)) h4, h5⟩
  | row e xs =>
    rcases h with ⟨h1, h2⟩ | ⟨b, cap, d, el, h1, h2, h3, hB, h4, h5, h6, h7⟩
    · exact .inl ⟨hρ.trans h1, h2⟩
    · have hbb := hb b (by rw [show S.ρ n = _ from h1]; rfl)
      refine .inr ⟨b, cap, d, el, by unfold rowAtV; rw [hρ]; exact h1, hbb.1.trans h2, fun hI => h3 (hbb.2 hI), by rw [E.b]; exact hB, h4, h5, h6, fun i hi => ?_⟩
      obtain ⟨us, g1, g2⟩ := h7 i hi
      exact ⟨us, RelK.ext E g1, g2⟩
  | map k v es =>
    obtain ⟨r, ms, cl, h1, h2, h3, hB, h4⟩ := h
    have hbb := hb r (by rw [h1]; rfl)
    refine ⟨r, ms, cl, hρ.trans h1, hbb.1.trans h2, fun hI => h3 (hbb.2 hI), by rw [E.b]; exact hB, ?_⟩
    generalize ms.toList = l at h4
    clear hn h2
    induction es generalizing l with
    | nil => exact h4
    | cons p r ih =>
      obtain ⟨m, s, rfl, g1, g2, g3⟩ := h4
      refine ⟨m, s, rfl, ?_, ?_, ih _ g3⟩
      · unfold VK at g1 ⊢
        split
        · rename_i hk; rw [if_pos hk] at g1; obtain ⟨vs, a1, a2⟩ := g1; exact ⟨vs, a1, RelK.ext E a2⟩
        · rename_i hk; rw [if_neg hk] at g1; exact RelK.ext E g1
      · unfold VK at g2 ⊢
        split
        · rename_i hk; rw [if_pos hk] at g2; obtain ⟨vs, a1, a2⟩ := g2; exact ⟨vs, a1, RelK.ext E a2⟩
        · rename_i hk; rw [if_neg hk] at g2; exact RelK.ext E g2

theorem HRel.step {S T : Sit} (H : HRel S) (N : Nat) (E : Ext (fun _ => True) S T)
    (hhp : ∀ m, m ≠ N → T.hp m = S.hp m) (hρ : ∀ m, m ≠ N → T.ρ m = S.ρ m)
    (hw : ∀ m, m ≠ N → cellLive (S.hp m) → ∀ b, blockOf (S.ρ m) = some b → T.w.heap[b]? = S.w.heap[b]? ∧ (T.I b → S.I b))
    (hob : ObjAt T N (T.hp N))
    (hds : ∀ m b, m ≠ N → cellLive (S.hp m) → cellLive (T.hp N) → blockOf (T.ρ N) = some b → blockOf (S.ρ m) ≠ some b)
    (hil : ∀ b, T.I b → b < T.w.heap.size)
    (hnb : ∀ cs, T.hp N = .box cs → AV.namesL (fun m => T.hp m ≠ .free) cs) : HRel T where
  ob := fun n => by
    by_cases hn : n = N
    · subst hn; exact hob
    · rw [hhp n hn]
      by_cases hl : cellLive (S.hp n)
      · exact (H.ob n).later E (fun cs hcs => H.nb n cs hcs) (hρ n hn) (hw n hn hl)
      · have : S.hp n = .free ∨ S.hp n = .dead := by
          cases hc : S.hp n <;> rw [hc] at hl <;> simp [cellLive, Cell.live] at hl <;> simp
        rcases this with e | e <;> rw [e] <;> trivial
  ds := fun n m b hnm hn hm hb => by
    by_cases h1 : n = N
    · subst h1
      have hm' : m ≠ n := fun e => hnm e.symm
      rw [hhp m hm'] at hm
      rw [hρ m hm']
      exact hds m b hm' hm hn hb
    · rw [hhp n h1] at hn
      rw [hρ n h1] at hb
      by_cases h2 : m = N
      · subst h2
        intro hc
        exact hds n b h1 hn hm hc hb
      · rw [hhp m h2] at hm
        rw [hρ m h2]
        exact H.ds n m b hnm hn hm hb
  il := hil
  bl := by rw [E.b]; exact Nat.le_trans H.bl E.s
  nb := fun n cs hcs => by
    by_cases hn : n = N
    · subst hn; exact hnb cs hcs
    · rw [hhp n hn] at hcs
      exact AV.namesL_imp (fun m hm => E.nonfree trivial hm) cs (H.nb n cs hcs)

/-- the world has changed at immutable or foreign blocks only (draws, new blocks) -/
theorem HRel.world {S T : Sit} (H : HRel S) (E : Ext (fun _ => True) S T) (hhp : T.hp = S.hp) (hρ : T.ρ = S.ρ)
    (hw : ∀ b, b < S.w.heap.size → T.w.heap[b]? = S.w.heap[b]?) (hI : ∀ b, b < S.w.heap.size → T.I b → S.I b) (hil : ∀ b, T.I b → b < T.w.heap.size) : HRel T where
  ob := fun n => by
    rw [hhp]
    by_cases hl : cellLive (S.hp n)
    · refine (H.ob n).later E (fun cs hcs => H.nb n cs hcs) (by rw [hρ]) fun b hb => ?_
      have hlt : b < S.w.heap.size := by
        have ho := H.ob n
        cases hc : S.hp n <;> rw [hc] at ho hl
        · simp [cellLive, Cell.live] at hl
        · simp [cellLive, Cell.live] at hl
        · obtain ⟨b', d, e, h1, h2, _⟩ := ho
          rw [show S.ρ n = _ from h1] at hb
          simp [blockOf] at hb
          subst hb
          exact (Array.getElem?_eq_some_iff.1 h2).1
        · rcases ho with ⟨h1, _⟩ | ⟨b', cap, d, el, h1, h2, _⟩
          · rw [h1] at hb; simp [blockOf] at hb
          · rw [show S.ρ n = _ from h1] at hb
            simp [blockOf] at hb
            subst hb
            exact (Array.getElem?_eq_some_iff.1 h2).1
        · obtain ⟨r, ms, cl, h1, h2, _⟩ := ho
          rw [h1] at hb
          simp [blockOf] at hb
          subst hb
          exact (Array.getElem?_eq_some_iff.1 h2).1
      exact ⟨hw b hlt, hI b hlt⟩
    · have : S.hp n = .free ∨ S.hp n = .dead := by
        cases hc : S.hp n <;> rw [hc] at hl <;> simp [cellLive, Cell.live] at hl <;> simp
      rcases this with e | e <;> rw [e] <;> trivial
  ds := by rw [hhp, hρ]; exact H.ds
  il := hil
  bl := by rw [E.b]; exact Nat.le_trans H.bl E.s
  nb := fun n cs hcs => by rw [hhp] at hcs ⊢; exact H.nb n cs hcs

theorem HRel.lt {S : Sit} (H : HRel S) {n b : Nat} (hl : cellLive (S.hp n)) (hb : blockOf (S.ρ n) = some b) : b < S.w.heap.size := by
  have ho := H.ob n
  cases hc : S.hp n <;> rw [hc] at ho hl
  · simp [cellLive, Cell.live] at hl
  · simp [cellLive, Cell.live] at hl
  · obtain ⟨b', d, e, h1, h2, _⟩ := ho
    rw [show S.ρ n = _ from h1] at hb
    simp [blockOf] at hb
    subst hb
    exact (Array.getElem?_eq_some_iff.1 h2).1
  · rcases ho with ⟨h1, _⟩ | ⟨b', cap, d, el, h1, h2, _⟩
    · rw [h1] at hb; simp [blockOf] at hb
    · rw [show S.ρ n = _ from h1] at hb
      simp [blockOf] at hb
      subst hb
      exact (Array.getElem?_eq_some_iff.1 h2).1
  · obtain ⟨r, ms, cl, h1, h2, _⟩ := ho
    rw [h1] at hb
    simp [blockOf] at hb
    subst hb
    exact (Array.getElem?_eq_some_iff.1 h2).1

theorem HRel.notI {S : Sit} (H : HRel S) {n b : Nat} (hl : cellLive (S.hp n)) (hb : blockOf (S.ρ n) = some b) : ¬ S.I b := by
  have ho := H.ob n
  cases hc : S.hp n <;> rw [hc] at ho hl
  · simp [cellLive, Cell.live] at hl
  · simp [cellLive, Cell.live] at hl
  · obtain ⟨b', d, e, h1, h2, h3, _⟩ := ho
    rw [show S.ρ n = _ from h1] at hb
    simp [blockOf] at hb
    subst hb
    exact h3
  · rcases ho with ⟨h1, _⟩ | ⟨b', cap, d, el, h1, h2, h3, _⟩
    · rw [h1] at hb; simp [blockOf] at hb
    · rw [show S.ρ n = _ from h1] at hb
      simp [blockOf] at hb
      subst hb
      exact h3
  · obtain ⟨r, ms, cl, h1, h2, h3, _⟩ := ho
    rw [h1] at hb
    simp [blockOf] at hb
    subst hb
    exact h3

theorem HRel.geB {S : Sit} (H : HRel S) {n b : Nat} (hl : cellLive (S.hp n)) (hb : blockOf (S.ρ n) = some b) : S.B ≤ b := by
  have ho := H.ob n
  cases hc : S.hp n <;> rw [hc] at ho hl
  · simp [cellLive, Cell.live] at hl
  · simp [cellLive, Cell.live] at hl
  · obtain ⟨b', d, e, h1, h2, h3, h4, _⟩ := ho
    rw [show S.ρ n = _ from h1] at hb
    simp [blockOf] at hb
    subst hb
    exact h4
  · rcases ho with ⟨h1, _⟩ | ⟨b', cap, d, el, h1, h2, h3, h4, _⟩
    · rw [h1] at hb; simp [blockOf] at hb
    · rw [show S.ρ n = _ from h1] at hb
      simp [blockOf] at hb
      subst hb
      exact h4
  · obtain ⟨r, ms, cl, h1, h2, h3, h4, _⟩ := ho
    rw [h1] at hb
    simp [blockOf] at hb
    subst hb
    exact h4

theorem upd_same {α : Type} (f : Nat → α) (n : Nat) (x : α) : upd f n x n = x := by simp [upd]
theorem upd_other {α : Type} {f : Nat → α} {n m : Nat} {x : α} (h : m ≠ n) : upd f n x m = f m := by simp [upd, h]

theorem sameShape_refl {c : Cell} (h : cellLive c) : sameShape c c := by
  cases c <;> simp [cellLive, Cell.live] at h <;> simp [sameShape]

theorem Ext.refl {p : Nat → Prop} (S : Sit) : Ext p S S where
  i := fun _ h => ⟨h, rfl⟩
  s := Nat.le_refl _
  b := rfl
  o := fun _ _ => rfl
  f := fun n _ h => by
    by_cases hl : cellLive (S.hp n)
    · exact .inr ⟨rfl, sameShape_refl hl⟩
    · left
      cases hc : S.hp n <;> rw [hc] at hl h <;> simp [cellLive, Cell.live] at hl h ⊢
  g := fun _ _ h => h
  j := fun _ h _ => h
  q := ⟨rfl, rfl⟩

theorem sameShape_trans {a b c : Cell} (h : sameShape a b) (h' : sameShape b c) : sameShape a c := by
  cases a <;> cases b <;> simp only [sameShape] at h <;> cases c <;> simp only [sameShape] at h' ⊢
  · exact h'.trans h
  · exact ⟨h'.1.trans h.1, h'.2.trans h.2⟩
  · exact ⟨h'.1.trans h.1, h'.2.trans h.2⟩

theorem Ext.trans {p : Nat → Prop} {S T U : Sit} (h : Ext p S T) (h' : Ext p T U) : Ext p S U where
  i := fun b hb => ⟨(h'.i b (h.i b hb).1).1, (h'.i b (h.i b hb).1).2.trans (h.i b hb).2⟩
  s := Nat.le_trans h.s h'.s
  b := h'.b.trans h.b
  o := fun b hb => (h'.o b (by rw [h.b]; exact hb)).trans (h.o b hb)
  f := fun n hp hn => by
    rcases h.f n hp hn with e | ⟨e1, e2⟩
    · exact .inl (h'.g n hp e)
    · rcases h'.f n hp (h.nonfree hp hn) with e | ⟨e3, e4⟩
      · exact .inl e
      · exact .inr ⟨e3.trans e1, sameShape_trans e2 e4⟩
  g := fun n hp hn => h'.g n hp (h.g n hp hn)
  j := fun b hb hlt => h.j b (h'.j b hb (by rw [h.b]; exact hlt)) hlt
  q := ⟨h'.q.1.trans h.q.1, h'.q.2.trans h.q.2⟩

theorem Ext.weaken {p q : Nat → Prop} {S T : Sit} (h : Ext p S T) (hq : ∀ n, q n → p n) : Ext q S T :=
  ⟨h.i, h.s, h.b, h.o, fun n hn => h.f n (hq n hn), fun n hn => h.g n (hq n hn), h.j, h.q⟩

theorem FRel.ext {S T : Sit} {fr : Nat → AV} {a : Act} (E : Ext (fun _ => True) S T) (h : FRel S fr a) : FRel T fr a where
  v := fun i => VRel.ext E _ (AV.names_imp (fun _ hn => ⟨trivial, hn⟩) _ (h.n i)) (h.v i)
  n := fun i => AV.names_imp (fun _ hn => E.nonfree trivial hn) _ (h.n i)
  d := h.d

/-- one name's block is written: the rest stands -/
theorem HRel.write {S : Sit} (H : HRel S) {n : Nat} (hl : cellLive (S.hp n)) (c : Cell) (w' : World) (hs : sameShape (S.hp n) c)
    (hw : ∀ b, blockOf (S.ρ n) ≠ some b → w'.heap[b]? = S.w.heap[b]?) (hsz : w'.heap.size = S.w.heap.size)
    (hob : Ext (fun _ => True) S { S with w := w', hp := upd S.hp n c } → ObjAt { S with w := w', hp := upd S.hp n c } n c)
    (hnb : ∀ cs, c = .box cs → AV.namesL (fun m => S.hp m ≠ .free) cs) (hq : SameOut S.w w' := by first | exact ⟨rfl, rfl⟩ | (simp only [SameOut, *]; first | done | exact ⟨rfl, rfl⟩ | exact ⟨trivial, trivial⟩)) :
    HRel { S with w := w', hp := upd S.hp n c } ∧ Ext (fun _ => True) S { S with w := w', hp := upd S.hp n c } := by
  have hc : cellLive c := by
    cases hcc : S.hp n <;> rw [hcc] at hs <;> cases c <;> first | exact hs.elim | rfl
  have E : Ext (fun _ => True) S { S with w := w', hp := upd S.hp n c } := by
    refine ⟨fun b hb => ⟨hb, hw b fun e => H.notI hl e hb⟩, Nat.le_of_eq hsz.symm, rfl, fun b hb => hw b fun e => ?_, fun m _ hm => ?_, fun m _ hm => ?_, fun _ h _ => h, hq⟩
    · have := H.geB hl e; omega
    · by_cases e : m = n
      · subst e; right; exact ⟨rfl, by simp only [upd_same]; exact hs⟩
      · simp only [upd_other e]
        by_cases hlm : cellLive (S.hp m)
        · exact .inr ⟨trivial, sameShape_refl hlm⟩
        · left
          cases hcm : S.hp m <;> rw [hcm] at hlm hm <;> simp [cellLive, Cell.live] at hlm hm ⊢
    · have e : m ≠ n := fun e => by subst e; rw [hm] at hl; simp [cellLive, Cell.live] at hl
      simp only [upd_other e]; exact hm
  refine ⟨H.step n E (fun m hm => upd_other hm) (fun _ _ => rfl) (fun m hm hlm b hb => ⟨hw b fun e => H.ds n m b (fun e => hm e.symm) hl hlm e hb, id⟩) ?_ ?_ ?_ ?_, E⟩
  · simp only [upd_same]; exact hob E
  · intro m b hm hlm _ hb; exact H.ds n m b (fun e => hm e.symm) hl hlm hb
  · intro b hb; rw [hsz]; exact H.il b hb
  · intro cs hcs
    simp only [upd_same] at hcs
    refine AV.namesL_imp (fun m hm => ?_) cs (hnb cs hcs)
    exact E.nonfree trivial hm

theorem getElem?_push_lt {α : Type} {xs : Array α} {x : α} {b : Nat} (h : b < xs.size) : (xs.push x)[b]? = xs[b]? := by
  simp [Array.getElem?_push, Nat.ne_of_lt h]

/-- a new block under a free name -/
theorem HRel.alloc {S : Sit} (H : HRel S) {n : Nat} (hf : S.hp n = .free) (c : Cell) (v : Value) (w' : World) (x : Obj) (hw : w'.heap = S.w.heap.push x)
    (hb : blockOf v = some S.w.heap.size) (hnb : ∀ cs, c = .box cs → AV.namesL (fun m => S.hp m ≠ .free) cs)
    (hob : Ext (fun _ => True) S { S with w := w', ρ := upd S.ρ n v, hp := upd S.hp n c } → ObjAt { S with w := w', ρ := upd S.ρ n v, hp := upd S.hp n c } n c) (hq : SameOut S.w w' := by first | exact ⟨rfl, rfl⟩ | (simp only [SameOut, *]; first | done | exact ⟨rfl, rfl⟩ | exact ⟨trivial, trivial⟩)) :
    HRel { S with w := w', ρ := upd S.ρ n v, hp := upd S.hp n c } ∧ Ext (fun _ => True) S { S with w := w', ρ := upd S.ρ n v, hp := upd S.hp n c } := by
  have E : Ext (fun _ => True) S { S with w := w', ρ := upd S.ρ n v, hp := upd S.hp n c } := by
    refine ⟨fun b hb => ⟨hb, ?_⟩, by simp [hw], rfl, fun b hb => ?_, fun m _ hm => ?_, fun m _ hm => ?_, fun _ h _ => h, hq⟩
    · rw [hw]; exact getElem?_push_lt (H.il b hb)
    · rw [hw]; exact getElem?_push_lt (Nat.lt_of_lt_of_le hb H.bl)
    · have e : m ≠ n := fun e => hm (e ▸ hf)
      simp only [upd_other e]
      by_cases hlm : cellLive (S.hp m)
      · exact .inr ⟨trivial, sameShape_refl hlm⟩
      · left
        cases hcm : S.hp m <;> rw [hcm] at hlm hm <;> simp [cellLive, Cell.live] at hlm hm ⊢
    · have e : m ≠ n := fun e => by rw [e, hf] at hm; cases hm
      simp only [upd_other e]; exact hm
  refine ⟨H.step n E (fun m hm => upd_other hm) (fun m hm => upd_other hm) (fun m hm hlm b hb => ⟨?_, id⟩) ?_ ?_ ?_ ?_, E⟩
  · simp only [hw]; exact getElem?_push_lt (H.lt hlm hb)
  · simp only [upd_same]; exact hob E
  · intro m b hm hlm _ hb' hc
    simp only [upd_same] at hb'
    rw [hb] at hb'
    cases hb'
    exact Nat.lt_irrefl _ (H.lt hlm hc)
  · intro b hb; have := H.il b hb; simp [hw]; omega
  · intro cs hcs
    simp only [upd_same] at hcs
    exact AV.namesL_imp (fun m hm => E.nonfree trivial hm) cs (hnb cs hcs)

/-- a name is used up; its block may become immutable -/
theorem HRel.bury {S : Sit} (H : HRel S) {n : Nat} (hl : cellLive (S.hp n)) (J : Nat → Prop) (hJ : ∀ b, J b → blockOf (S.ρ n) = some b) :
    HRel { S with I := fun b => S.I b ∨ J b, hp := upd S.hp n .dead } ∧ Ext (fun _ => True) S { S with I := fun b => S.I b ∨ J b, hp := upd S.hp n .dead } := by
  have E : Ext (fun _ => True) S { S with I := fun b => S.I b ∨ J b, hp := upd S.hp n .dead } := by
    refine ⟨fun b hb => ⟨.inl hb, rfl⟩, Nat.le_refl _, rfl, fun b hb => rfl, fun m _ hm => ?_, fun m _ hm => ?_, fun b hb hlt => hb.elim id fun hj => absurd (H.geB hl (hJ b hj)) (by omega), ⟨rfl, rfl⟩⟩
    · by_cases e : m = n
      · subst e; left; simp only [upd_same]
      · simp only [upd_other e]
        by_cases hlm : cellLive (S.hp m)
        · exact .inr ⟨trivial, sameShape_refl hlm⟩
        · left
          cases hcm : S.hp m <;> rw [hcm] at hlm hm <;> simp [cellLive, Cell.live] at hlm hm ⊢
    · by_cases e : m = n
      · subst e; simp only [upd_same]
      · simp only [upd_other e]; exact hm
  refine ⟨H.step n E (fun m hm => upd_other hm) (fun _ _ => rfl) (fun m hm hlm b hb => ⟨rfl, fun h => h.elim id fun hj => ?_⟩) ?_ ?_ ?_ ?_, E⟩
  · exact absurd hb (H.ds n m b (fun e => hm e.symm) hl hlm (hJ b hj))
  · simp only [upd_same]; trivial
  · intro m b _ _ hd; simp only [upd_same] at hd; simp [cellLive, Cell.live] at hd
  · intro b hb
    rcases hb with hb | hb
    · exact H.il b hb
    · exact H.lt hl (hJ b hb)
  · intro cs hcs; simp only [upd_same] at hcs; cases hcs

end Go.AM
