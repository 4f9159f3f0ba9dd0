/- Steps of the heap: one name changes. -/
import Derived.Test.YtdjbokdohackdaaA4
namespace Go.AM
open Go

theorem live_iff {c : Cell} : cellLive c ↔ c ≠ .free ∧ c ≠ .dead := by
  unfold cellLive
  cases c <;> simp [Cell.live]

theorem Ext.nonfree {p : Nat → Prop} {S T : Sit} (E : Ext p S T) {n : Nat} (hp : p n) (h : S.hp n ≠ .free) : T.hp n ≠ .free := by
  rcases E.f n hp h with e | ⟨_, e⟩
  · rw [e]; simp
  · intro hc
    rw [hc] at e
    cases hs : S.hp n <;> rw [hs] at e <;> exact e.elim

theorem EntriesAt.ext {p : Nat → Prop} {S T : Sit} (E : Ext p S T) {k v : Kind} : ∀ {es : List (k.T × v.T)} {l : List MapEntry}, EntriesAt S.w S.I k v es l → EntriesAt T.w T.I k v es l
  | [], _, h => h
  | p :: r, l, h => by
    obtain ⟨m, s, rfl, g1, g2, g3⟩ := h
    refine ⟨m, s, rfl, ?_, ?_, g3.ext E⟩
    · unfold VK at g1 ⊢
      split
      · rename_i hk; rw [if_pos hk] at g1; obtain ⟨vs, a1, a2⟩ := g1; exact ⟨vs, a1, RelK.ext E a2⟩
      · rename_i hk; rw [if_neg hk] at g1; exact RelK.ext E g1
    · unfold VK at g2 ⊢
      split
      · rename_i hk; rw [if_pos hk] at g2; obtain ⟨vs, a1, a2⟩ := g2; exact ⟨vs, a1, RelK.ext E a2⟩
      · rename_i hk; rw [if_neg hk] at g2; exact RelK.ext E g2

/-- the blocks of an object are its own -/
theorem ObjAt.blk {S : Sit} {n : Nat} {c : Cell} (h : ObjAt S n c) (hl : cellLive c) {b : Nat} (hb : hasBlk (S.ρ n) b) : b < S.w.heap.size ∧ ¬ S.I b ∧ ¬ S.B b := by
  cases c with
  | free => simp [cellLive, Cell.live] at hl
  | dead => simp [cellLive, Cell.live] at hl
  | box cs =>
    obtain ⟨b', d, e, h1, h2, h3, h4, _⟩ := h
    rw [show S.ρ n = _ from h1] at hb
    replace hb : some b' = some b := hb
    cases hb
    exact ⟨(Array.getElem?_eq_some_iff.1 h2).1, h3, h4⟩
  | row e xs =>
    rcases h with ⟨h1, _⟩ | ⟨b', cap, d, el, h1, h2, h3, h4, _⟩
    · rw [h1] at hb; replace hb : none = some b := hb; cases hb
    · rw [show S.ρ n = _ from h1] at hb
      replace hb : some b' = some b := hb
      cases hb
      exact ⟨(Array.getElem?_eq_some_iff.1 h2).1, h3, h4⟩
  | map k v es =>
    obtain ⟨r, ms, cl, h1, h2, h3, h4, _⟩ := h
    rw [h1] at hb
    replace hb : some r = some b := hb
    cases hb
    exact ⟨(Array.getElem?_eq_some_iff.1 h2).1, h3, h4⟩
  | mrow k v ess =>
    obtain ⟨b', cap, d, el, ms, h1, h2, h3, hB, h4, h5, h6, h7, h8, h9, h10⟩ := h
    rw [h1] at hb
    obtain ⟨u, hu, hb⟩ := hb
    rcases List.mem_cons.1 hu with rfl | hu
    · replace hb : some b' = some b := hb
      cases hb
      exact ⟨(Array.getElem?_eq_some_iff.1 h2).1, h3, hB⟩
    · obtain ⟨i, hi, e⟩ := List.mem_iff_getElem.1 hu
      obtain ⟨m, g1, r, ents, cl, g2, g3, g4, g5, g6⟩ := h10 i _ (List.getElem?_eq_getElem (by omega))
      rw [List.getElem?_eq_getElem hi, Option.some.injEq, e] at g1
      subst g1
      rw [g2] at hb
      replace hb : some r = some b := hb
      cases hb
      exact ⟨(Array.getElem?_eq_some_iff.1 g3).1, g4, g5⟩

theorem ObjAt.later {S T : Sit} (E : Ext (fun _ => True) S T) {n : Nat} {c : Cell} (h : ObjAt S n c) (hn : ∀ cs, c = .box cs → AV.namesL (fun m => S.hp m ≠ .free) cs)
    (hρ : T.ρ n = S.ρ n) (hb : ∀ b, hasBlk (S.ρ n) b → T.w.heap[b]? = S.w.heap[b]? ∧ (T.I b → S.I b)) : ObjAt T n c := by
  cases c with
  | free => trivial
  | dead => trivial
  | box cs =>
    obtain ⟨b, d, e, h1, h2, h3, hB, h4, h5⟩ := h
    have hbb := hb b (by rw [show S.ρ n = _ from h1]; exact rfl)
    refine ⟨b, d, e, by unfold blockAt; rw [hρ]; exact h1, hbb.1.trans h2, fun hI => h3 (hbb.2 hI), by rw [E.b]; exact hB, ?_⟩
    exact ⟨VRelL.ext E cs (AV.namesL_imp (fun m hm => ⟨trivial, hm⟩) cs (hn cs rfl)) h4, h5⟩
  | row e xs =>
    rcases h with ⟨h1, h2⟩ | ⟨b, cap, d, el, h1, h2, h3, hB, h4, h5, h6, h7⟩
    · exact .inl ⟨hρ.trans h1, h2⟩
    · have hbb := hb b (by rw [show S.ρ n = _ from h1]; exact rfl)
      refine .inr ⟨b, cap, d, el, by unfold rowAtV; rw [hρ]; exact h1, hbb.1.trans h2, fun hI => h3 (hbb.2 hI), by rw [E.b]; exact hB, h4, h5, h6, fun i hi => ?_⟩
      obtain ⟨us, g1, g2⟩ := h7 i hi
      exact ⟨us, RelK.ext E g1, g2⟩
  | map k v es =>
    obtain ⟨r, ms, cl, h1, h2, h3, hB, h4⟩ := h
    have hbb := hb r (by rw [h1]; exact rfl)
    exact ⟨r, ms, cl, hρ.trans h1, hbb.1.trans h2, fun hI => h3 (hbb.2 hI), by rw [E.b]; exact hB, h4.1.ext E, h4.2⟩
  | mrow k v ess =>
    obtain ⟨b, cap, d, el, ms, h1, h2, h3, hB, h4, h5, h6, h7, h8, h9, h10⟩ := h
    have hbb := hb b (by rw [h1]; exact ⟨_, List.mem_cons_self .., rfl⟩)
    refine ⟨b, cap, d, el, ms, hρ.trans h1, hbb.1.trans h2, fun hI => h3 (hbb.2 hI), by rw [E.b]; exact hB, h4, h5, h6, h7, h8, h9, fun i es hi => ?_⟩
    obtain ⟨m, g1, r, ents, cl, g2, g3, g4, g5, g6⟩ := h10 i es hi
    have hbr := hb r (by rw [h1]; exact ⟨m, List.mem_cons_of_mem _ (List.mem_of_getElem? g1), by rw [g2]; rfl⟩)
    exact ⟨m, g1, r, ents, cl, g2, hbr.1.trans g3, fun hI => g4 (hbr.2 hI), by rw [E.b]; exact g5, g6.1.ext E, g6.2⟩

theorem HRel.step {S T : Sit} (H : HRel S) (N : Nat) (E : Ext (fun _ => True) S T)
    (hhp : ∀ m, m ≠ N → T.hp m = S.hp m) (hρ : ∀ m, m ≠ N → T.ρ m = S.ρ m)
    (hw : ∀ m, m ≠ N → cellLive (S.hp m) → ∀ b, hasBlk (S.ρ m) b → T.w.heap[b]? = S.w.heap[b]? ∧ (T.I b → S.I b))
    (hob : ObjAt T N (T.hp N))
    (hds : ∀ m b, m ≠ N → cellLive (S.hp m) → cellLive (T.hp N) → hasBlk (T.ρ N) b → ¬ hasBlk (S.ρ m) b)
    (hil : ∀ b, T.I b → b < T.w.heap.size)
    (hnb : ∀ cs, T.hp N = .box cs → AV.namesL (fun m => T.hp m ≠ .free) cs) : HRel T where
  ob := fun n => by
    by_cases hn : n = N
    · subst hn; exact hob
    · rw [hhp n hn]
      by_cases hl : cellLive (S.hp n)
      · exact (H.ob n).later E (fun cs hcs => H.nb n cs hcs) (hρ n hn) (hw n hn hl)
      · have : S.hp n = .free ∨ S.hp n = .dead := by
          cases hc : S.hp n <;> rw [hc] at hl <;> simp [cellLive, Cell.live] at hl <;> simp
        rcases this with e | e <;> rw [e] <;> trivial
  ds := fun n m b hnm hn hm hb => by
    by_cases h1 : n = N
    · subst h1
      have hm' : m ≠ n := fun e => hnm e.symm
      rw [hhp m hm'] at hm
      rw [hρ m hm']
      exact hds m b hm' hm hn hb
    · rw [hhp n h1] at hn
      rw [hρ n h1] at hb
      by_cases h2 : m = N
      · subst h2
        intro hc
        exact hds n b h1 hn hm hc hb
      · rw [hhp m h2] at hm
        rw [hρ m h2]
        exact H.ds n m b hnm hn hm hb
  il := hil
  bl := fun b hb => by rw [E.b] at hb; exact Nat.lt_of_lt_of_le (H.bl b hb) E.s
  nb := fun n cs hcs => by
    by_cases hn : n = N
    · subst hn; exact hnb cs hcs
    · rw [hhp n hn] at hcs
      exact AV.namesL_imp (fun m hm => E.nonfree trivial hm) cs (H.nb n cs hcs)

/-- the world has changed at immutable or foreign blocks only (draws, new blocks) -/
theorem HRel.world {S T : Sit} (H : HRel S) (E : Ext (fun _ => True) S T) (hhp : T.hp = S.hp) (hρ : T.ρ = S.ρ)
    (hw : ∀ b, b < S.w.heap.size → T.w.heap[b]? = S.w.heap[b]?) (hI : ∀ b, b < S.w.heap.size → T.I b → S.I b) (hil : ∀ b, T.I b → b < T.w.heap.size) : HRel T where
  ob := fun n => by
    rw [hhp]
    by_cases hl : cellLive (S.hp n)
    · refine (H.ob n).later E (fun cs hcs => H.nb n cs hcs) (by rw [hρ]) fun b hb => ?_
      have hlt : b < S.w.heap.size := ((H.ob n).blk hl hb).1
      exact ⟨hw b hlt, hI b hlt⟩
    · have : S.hp n = .free ∨ S.hp n = .dead := by
        cases hc : S.hp n <;> rw [hc] at hl <;> simp [cellLive, Cell.live] at hl <;> simp
      rcases this with e | e <;> rw [e] <;> trivial
  ds := by rw [hhp, hρ]; exact H.ds
  il := hil
  bl := fun b hb => by rw [E.b] at hb; exact Nat.lt_of_lt_of_le (H.bl b hb) E.s
  nb := fun n cs hcs => by rw [hhp] at hcs ⊢; exact H.nb n cs hcs

theorem HRel.lt {S : Sit} (H : HRel S) {n b : Nat} (hl : cellLive (S.hp n)) (hb : hasBlk (S.ρ n) b) : b < S.w.heap.size := ((H.ob n).blk hl hb).1
theorem HRel.notI {S : Sit} (H : HRel S) {n b : Nat} (hl : cellLive (S.hp n)) (hb : hasBlk (S.ρ n) b) : ¬ S.I b := ((H.ob n).blk hl hb).2.1
theorem HRel.geB {S : Sit} (H : HRel S) {n b : Nat} (hl : cellLive (S.hp n)) (hb : hasBlk (S.ρ n) b) : ¬ S.B b := ((H.ob n).blk hl hb).2.2

theorem tuple_inj {u u' : Value} {ms ms' : List Value} (e : Value.tuple (u :: ms).toArray = Value.tuple (u' :: ms').toArray) : u = u' ∧ ms = ms' := by
  injection e with e
  have := congrArg Array.toList e
  exact List.cons.inj this
theorem slice_inj {b b' l l' c c' : Nat} (e : Value.slice (some ⟨b, 0, none⟩) l c = Value.slice (some ⟨b', 0, none⟩) l' c') : b = b' ∧ l = l' ∧ c = c' := by
  injection e with e1 e2 e3
  injection e1 with e1
  injection e1 with e1
  exact ⟨e1, e2, e3⟩

theorem HRel.newB {S : Sit} (H : HRel S) : ¬ S.B S.w.heap.size := fun hb => Nat.lt_irrefl _ (H.bl _ hb)

theorem upd_same {α : Type} (f : Nat → α) (n : Nat) (x : α) : upd f n x n = x := by simp [upd]
theorem upd_other {α : Type} {f : Nat → α} {n m : Nat} {x : α} (h : m ≠ n) : upd f n x m = f m := by simp [upd, h]

theorem sameShape_refl {c : Cell} (h : cellLive c) : sameShape c c := by
  cases c <;> simp [cellLive, Cell.live] at h <;> simp [sameShape]

theorem Ext.refl {p : Nat → Prop} (S : Sit) : Ext p S S where
  i := fun _ h => ⟨h, rfl⟩
  s := Nat.le_refl _
  b := rfl
  o := fun _ _ => rfl
  f := fun n _ h => by
    by_cases hl : cellLive (S.hp n)
    · exact .inr ⟨rfl, sameShape_refl hl⟩
    · left
      cases hc : S.hp n <;> rw [hc] at hl h <;> simp [cellLive, Cell.live] at hl h ⊢
  g := fun _ _ h => h
  j := fun _ h _ => h
  q := ⟨rfl, rfl⟩

theorem sameShape_trans {a b c : Cell} (h : sameShape a b) (h' : sameShape b c) : sameShape a c := by
  cases a <;> cases b <;> simp only [sameShape] at h <;> cases c <;> simp only [sameShape] at h' ⊢
  · exact h'.trans h
  · exact ⟨h'.1.trans h.1, h'.2.trans h.2⟩
  · exact ⟨h'.1.trans h.1, h'.2.trans h.2⟩
  · exact ⟨h'.1.trans h.1, h'.2.1.trans h.2.1, h'.2.2.trans h.2.2⟩

theorem Ext.trans {p : Nat → Prop} {S T U : Sit} (h : Ext p S T) (h' : Ext p T U) : Ext p S U where
  i := fun b hb => ⟨(h'.i b (h.i b hb).1).1, (h'.i b (h.i b hb).1).2.trans (h.i b hb).2⟩
  s := Nat.le_trans h.s h'.s
  b := h'.b.trans h.b
  o := fun b hb => (h'.o b (by rw [h.b]; exact hb)).trans (h.o b hb)
  f := fun n hp hn => by
    rcases h.f n hp hn with e | ⟨e1, e2⟩
    · exact .inl (h'.g n hp e)
    · rcases h'.f n hp (h.nonfree hp hn) with e | ⟨e3, e4⟩
      · exact .inl e
      · exact .inr ⟨e3.trans e1, sameShape_trans e2 e4⟩
  g := fun n hp hn => h'.g n hp (h.g n hp hn)
  j := fun b hb hlt => h.j b (h'.j b hb (by rw [h.b]; exact hlt)) hlt
  q := ⟨h'.q.1.trans h.q.1, h'.q.2.trans h.q.2⟩

theorem Ext.weaken {p q : Nat → Prop} {S T : Sit} (h : Ext p S T) (hq : ∀ n, q n → p n) : Ext q S T :=
  ⟨h.i, h.s, h.b, h.o, fun n hn => h.f n (hq n hn), fun n hn => h.g n (hq n hn), h.j, h.q⟩

theorem FRel.ext {S T : Sit} {fr : Nat → AV} {a : Act} (E : Ext (fun _ => True) S T) (h : FRel S fr a) : FRel T fr a where
  v := fun i => VRel.ext E _ (AV.names_imp (fun _ hn => ⟨trivial, hn⟩) _ (h.n i)) (h.v i)
  n := fun i => AV.names_imp (fun _ hn => E.nonfree trivial hn) _ (h.n i)
  d := h.d

/-- one name's block is written: the rest stands -/
theorem HRel.write {S : Sit} (H : HRel S) {n : Nat} (hl : cellLive (S.hp n)) (c : Cell) (w' : World) (hs : sameShape (S.hp n) c)
    (hw : ∀ b, ¬ hasBlk (S.ρ n) b → w'.heap[b]? = S.w.heap[b]?) (hsz : w'.heap.size = S.w.heap.size)
    (hob : Ext (fun _ => True) S { S with w := w', hp := upd S.hp n c } → ObjAt { S with w := w', hp := upd S.hp n c } n c)
    (hnb : ∀ cs, c = .box cs → AV.namesL (fun m => S.hp m ≠ .free) cs) (hq : SameOut S.w w' := by first | exact ⟨rfl, rfl⟩ | (simp only [SameOut, *]; first | done | exact ⟨rfl, rfl⟩ | exact ⟨trivial, trivial⟩)) :
    HRel { S with w := w', hp := upd S.hp n c } ∧ Ext (fun _ => True) S { S with w := w', hp := upd S.hp n c } := by
  have hc : cellLive c := by
    cases hcc : S.hp n <;> rw [hcc] at hs <;> cases c <;> first | exact hs.elim | rfl
  have E : Ext (fun _ => True) S { S with w := w', hp := upd S.hp n c } := by
    refine ⟨fun b hb => ⟨hb, hw b fun e => H.notI hl e hb⟩, Nat.le_of_eq hsz.symm, rfl, fun b hb => hw b fun e => ?_, fun m _ hm => ?_, fun m _ hm => ?_, fun _ h _ => h, hq⟩
    · exact H.geB hl e hb
    · by_cases e : m = n
      · subst e; right; exact ⟨rfl, by simp only [upd_same]; exact hs⟩
      · simp only [upd_other e]
        by_cases hlm : cellLive (S.hp m)
        · exact .inr ⟨trivial, sameShape_refl hlm⟩
        · left
          cases hcm : S.hp m <;> rw [hcm] at hlm hm <;> simp [cellLive, Cell.live] at hlm hm ⊢
    · have e : m ≠ n := fun e => by subst e; rw [hm] at hl; simp [cellLive, Cell.live] at hl
      simp only [upd_other e]; exact hm
  refine ⟨H.step n E (fun m hm => upd_other hm) (fun _ _ => rfl) (fun m hm hlm b hb => ⟨hw b fun e => H.ds n m b (fun e => hm e.symm) hl hlm e hb, id⟩) ?_ ?_ ?_ ?_, E⟩
  · simp only [upd_same]; exact hob E
  · intro m b hm hlm _ hb; exact H.ds n m b (fun e => hm e.symm) hl hlm hb
  · intro b hb; rw [hsz]; exact H.il b hb
  · intro cs hcs
    simp only [upd_same] at hcs
    refine AV.namesL_imp (fun m hm => ?_) cs (hnb cs hcs)
    exact E.nonfree trivial hm

theorem getElem?_push_lt {α : Type} {xs : Array α} {x : α} {b : Nat} (h : b < xs.size) : (xs.push x)[b]? = xs[b]? := by
  simp [Array.getElem?_push, Nat.ne_of_lt h]

/-- a new block under a free name -/
theorem HRel.alloc {S : Sit} (H : HRel S) {n : Nat} (hf : S.hp n = .free) (c : Cell) (v : Value) (w' : World) (x : Obj) (hw : w'.heap = S.w.heap.push x)
    (hb : blockOf v = some S.w.heap.size) (hnb : ∀ cs, c = .box cs → AV.namesL (fun m => S.hp m ≠ .free) cs)
    (hob : Ext (fun _ => True) S { S with w := w', ρ := upd S.ρ n v, hp := upd S.hp n c } → ObjAt { S with w := w', ρ := upd S.ρ n v, hp := upd S.hp n c } n c) (hq : SameOut S.w w' := by first | exact ⟨rfl, rfl⟩ | (simp only [SameOut, *]; first | done | exact ⟨rfl, rfl⟩ | exact ⟨trivial, trivial⟩))
    (hnt : ∀ b, hasBlk v b → blockOf v = some b := by exact fun _ h => h) :
    HRel { S with w := w', ρ := upd S.ρ n v, hp := upd S.hp n c } ∧ Ext (fun _ => True) S { S with w := w', ρ := upd S.ρ n v, hp := upd S.hp n c } := by
  have E : Ext (fun _ => True) S { S with w := w', ρ := upd S.ρ n v, hp := upd S.hp n c } := by
    refine ⟨fun b hb => ⟨hb, ?_⟩, by simp [hw], rfl, fun b hb => ?_, fun m _ hm => ?_, fun m _ hm => ?_, fun _ h _ => h, hq⟩
    · rw [hw]; exact getElem?_push_lt (H.il b hb)
    · rw [hw]; exact getElem?_push_lt (H.bl b hb)
    · have e : m ≠ n := fun e => hm (e ▸ hf)
      simp only [upd_other e]
      by_cases hlm : cellLive (S.hp m)
      · exact .inr ⟨trivial, sameShape_refl hlm⟩
      · left
        cases hcm : S.hp m <;> rw [hcm] at hlm hm <;> simp [cellLive, Cell.live] at hlm hm ⊢
    · have e : m ≠ n := fun e => by rw [e, hf] at hm; cases hm
      simp only [upd_other e]; exact hm
  refine ⟨H.step n E (fun m hm => upd_other hm) (fun m hm => upd_other hm) (fun m hm hlm b hb => ⟨?_, id⟩) ?_ ?_ ?_ ?_, E⟩
  · simp only [hw]; exact getElem?_push_lt (H.lt hlm hb)
  · simp only [upd_same]; exact hob E
  · intro m b hm hlm _ hb' hc
    simp only [upd_same] at hb'
    replace hb' := hnt b hb'
    rw [hb] at hb'
    cases hb'
    exact Nat.lt_irrefl _ (H.lt hlm hc)
  · intro b hb; have := H.il b hb; simp [hw]; omega
  · intro cs hcs
    simp only [upd_same] at hcs
    exact AV.namesL_imp (fun m hm => E.nonfree trivial hm) cs (hnb cs hcs)

/-- a name is used up; its block may become immutable -/
theorem HRel.bury {S : Sit} (H : HRel S) {n : Nat} (hl : cellLive (S.hp n)) (J : Nat → Prop) (hJ : ∀ b, J b → hasBlk (S.ρ n) b) :
    HRel { S with I := fun b => S.I b ∨ J b, hp := upd S.hp n .dead } ∧ Ext (fun _ => True) S { S with I := fun b => S.I b ∨ J b, hp := upd S.hp n .dead } := by
  have E : Ext (fun _ => True) S { S with I := fun b => S.I b ∨ J b, hp := upd S.hp n .dead } := by
    refine ⟨fun b hb => ⟨.inl hb, rfl⟩, Nat.le_refl _, rfl, fun b hb => rfl, fun m _ hm => ?_, fun m _ hm => ?_, fun b hb hlt => hb.elim id fun hj => absurd hlt (H.geB hl (hJ b hj)), ⟨rfl, rfl⟩⟩
    · by_cases e : m = n
      · subst e; left; simp only [upd_same]
      · simp only [upd_other e]
        by_cases hlm : cellLive (S.hp m)
        · exact .inr ⟨trivial, sameShape_refl hlm⟩
        · left
          cases hcm : S.hp m <;> rw [hcm] at hlm hm <;> simp [cellLive, Cell.live] at hlm hm ⊢
    · by_cases e : m = n
      · subst e; simp only [upd_same]
      · simp only [upd_other e]; exact hm
  refine ⟨H.step n E (fun m hm => upd_other hm) (fun _ _ => rfl) (fun m hm hlm b hb => ⟨rfl, fun h => h.elim id fun hj => ?_⟩) ?_ ?_ ?_ ?_, E⟩
  · exact absurd hb (H.ds n m b (fun e => hm e.symm) hl hlm (hJ b hj))
  · simp only [upd_same]; trivial
  · intro m b _ _ hd; simp only [upd_same] at hd; simp [cellLive, Cell.live] at hd
  · intro b hb
    rcases hb with hb | hb
    · exact H.il b hb
    · exact H.lt hl (hJ b hb)
  · intro cs hcs; simp only [upd_same] at hcs; cases hcs

/-- a free name takes a block that nobody owns -/
theorem HRel.fresh {S : Sit} (H : HRel S) {n : Nat} (hf : S.hp n = .free) (c : Cell) (v : Value) (w' : World) (hsz : S.w.heap.size ≤ w'.heap.size)
    (hw : ∀ b, b < S.w.heap.size → ¬ hasBlk v b → w'.heap[b]? = S.w.heap[b]?)
    (hv : ∀ b, hasBlk v b → ¬ S.I b ∧ ¬ S.B b ∧ ∀ m, cellLive (S.hp m) → ¬ hasBlk (S.ρ m) b)
    (hnb : ∀ cs, c = .box cs → AV.namesL (fun m => S.hp m ≠ .free) cs)
    (hob : Ext (fun _ => True) S { S with w := w', ρ := upd S.ρ n v, hp := upd S.hp n c } → ObjAt { S with w := w', ρ := upd S.ρ n v, hp := upd S.hp n c } n c) (hq : SameOut S.w w' := by first | exact ⟨rfl, rfl⟩ | (simp only [SameOut, *]; first | done | exact ⟨rfl, rfl⟩ | exact ⟨trivial, trivial⟩)) :
    HRel { S with w := w', ρ := upd S.ρ n v, hp := upd S.hp n c } ∧ Ext (fun _ => True) S { S with w := w', ρ := upd S.ρ n v, hp := upd S.hp n c } := by
  have E : Ext (fun _ => True) S { S with w := w', ρ := upd S.ρ n v, hp := upd S.hp n c } := by
    refine ⟨fun b hb => ⟨hb, hw b (H.il b hb) fun e => (hv b e).1 hb⟩, hsz, rfl, fun b hb => hw b (H.bl b hb) fun e => ?_, fun m _ hm => ?_, fun m _ hm => ?_, fun _ h _ => h, hq⟩
    · exact (hv b e).2.1 hb
    · have e : m ≠ n := fun e => hm (e ▸ hf)
      simp only [upd_other e]
      by_cases hlm : cellLive (S.hp m)
      · exact .inr ⟨trivial, sameShape_refl hlm⟩
      · left
        cases hcm : S.hp m <;> rw [hcm] at hlm hm <;> simp [cellLive, Cell.live] at hlm hm ⊢
    · have e : m ≠ n := fun e => by rw [e, hf] at hm; cases hm
      simp only [upd_other e]; exact hm
  refine ⟨H.step n E (fun m hm => upd_other hm) (fun m hm => upd_other hm) (fun m hm hlm b hb => ⟨?_, id⟩) ?_ ?_ ?_ ?_, E⟩
  · exact hw b (H.lt hlm hb) fun e => (hv b e).2.2 m hlm hb
  · simp only [upd_same]; exact hob E
  · intro m b hm hlm _ hb'
    simp only [upd_same] at hb'
    exact (hv b hb').2.2 m hlm
  · intro b hb; exact Nat.lt_of_lt_of_le (H.il b hb) hsz
  · intro cs hcs
    simp only [upd_same] at hcs
    exact AV.namesL_imp (fun m hm => E.nonfree trivial hm) cs (hnb cs hcs)

end Go.AM
