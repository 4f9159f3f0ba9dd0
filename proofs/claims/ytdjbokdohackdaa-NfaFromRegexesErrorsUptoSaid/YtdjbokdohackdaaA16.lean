/- The commands at regions. -/
import Derived.Test.YtdjbokdohackdaaA15
namespace Go.AM
open Go

/-- a state of one frame: the heap's relation and the frame's -/
structure Good (S : Sit) (st : St) (sz : Nat) (a : Act) : Prop where
  h : HRel S
  f : FRel S st.fr a
  e : S.hp = st.hp
  z : a.tmps.size = sz

abbrev Below' (base : Nat) : Nat → Prop := fun n => n < base

theorem keep_sound {S : Sit} {st : St} {sz base : Nat} {a : Act} (G : Good S st sz a) (slots names : List Nat) :
    ∃ T, T.w = S.w ∧ Good T (keepSt base slots names st) sz a ∧ Ext (Below' base) S T := by
  have M : Mask (keepP base names st.hp) S { S with hp := (keepSt base slots names st).hp } := by
    refine ⟨rfl, rfl, rfl, rfl, fun n => ?_⟩
    simp only [keepSt, G.e]
    by_cases hb : n < base
    · rw [if_pos hb]; exact .inl rfl
    · rw [if_neg hb, look_names]
      unfold keepP
      by_cases hc : names.contains n = true
      · rw [if_pos hc]
        by_cases hl : (st.hp n).live = true
        · rw [if_pos hl]; exact .inl rfl
        · rw [if_neg hl]; right; simp [hb]; simpa using fun _ => hl
      · rw [if_neg hc]; right; simp only [Bool.not_eq_true] at hc; rw [hc]; simp [hb]
  refine ⟨{ S with hp := (keepSt base slots names st).hp }, rfl, ⟨M.hrel G.h, ?_, rfl, G.z⟩, M.ext fun n hn hf hfr => ?_⟩
  · exact (M.frel G.f).look slots
  · have hn : n < base := hn
    have : (keepSt base slots names st).hp n = (S.hp n).only (keepP base names st.hp) := by simp only [keepSt, G.e]; rw [if_pos hn]
    simp only [this] at hfr
    exact only_free hf hfr

theorem FRel.upd {S : Sit} {fr : Nat → AV} {a : Act} (F : FRel S fr a) {s : Nat} {c : AV} (hv : VRel S c (a.tmps.getD s undef)) (hn : c.names (fun m => S.hp m ≠ .free)) : FRel S (upd fr s c) a where
  v := fun i => by
    unfold Go.AM.upd
    split
    · rename_i h; subst h; exact hv
    · exact F.v i
  n := fun i => by
    unfold Go.AM.upd
    split
    · exact hn
    · exact F.n i
  d := F.d

theorem notName_self (n : Nat) : notName (some n) n = false := by simp [notName]
theorem notName_other {n m : Nat} (h : m ≠ n) : notName (some n) m = true := by simp [notName, h]

/-- the name of o is used up and forgotten everywhere -/
theorem buryAll {S : Sit} (H : HRel S) (o : Option Nat) (ho : ∀ n, o = some n → cellLive (S.hp n)) (J : Nat → Prop) (hJ : ∀ b, J b → ∃ n, o = some n ∧ hasBlk (S.ρ n) b) (x : Cell) (hx : x = .free ∨ x = .dead) :
    let T : Sit := { S with I := fun b => S.I b ∨ J b, hp := fun i => if o = some i then x else (S.hp i).only (notName o) }
    HRel T ∧ (∀ (c : AV) (v : Value), c.names (fun m => S.hp m ≠ .free) → VRel S c v → VRel T (c.only (notName o)) v) ∧ (∀ c : AV, c.names (fun m => S.hp m ≠ .free) → (c.only (notName o)).names (fun m => T.hp m ≠ .free)) ∧
      (∀ base, (∀ n, o = some n → n < base → x = .dead) → Ext (Below' base) S T) ∧ (∀ b, S.I b → T.I b ∧ T.w.heap[b]? = S.w.heap[b]?) := by
  intro T
  cases o with
  | none =>
    have M : Mask (notName none) { S with I := T.I } T := ⟨rfl, rfl, rfl, rfl, fun n => .inl (by simp [T])⟩
    have hI : T.I = S.I := by
      funext b
      simp only [T]
      apply propext
      constructor
      · rintro (h | h)
        · exact h
        · obtain ⟨n, hn, _⟩ := hJ b h; cases hn
      · exact .inl
    rw [hI] at M
    refine ⟨M.hrel H, fun c v _ hv => VRel.mask M c hv, fun c hn => AV.names_imp (fun _ hm => M.nonfree hm) _ (AV.names_only _ hn), fun base _ => M.ext fun n _ hf hfr => ?_, fun b hb => ⟨by rw [hI]; exact hb, rfl⟩⟩
    simp only [T, reduceCtorEq, if_false] at hfr
    exact only_free hf hfr
  | some n =>
    obtain ⟨H1, E1⟩ := H.bury (ho n rfl) J (fun b hb => by obtain ⟨m, hm, hb⟩ := hJ b hb; cases hm; exact hb)
    have M : Mask (notName (some n)) { S with I := fun b => S.I b ∨ J b, hp := upd S.hp n .dead } T := by
      refine ⟨rfl, rfl, rfl, rfl, fun m => ?_⟩
      simp only [T]
      by_cases hm : m = n
      · subst hm
        right
        rw [if_pos rfl]
        exact ⟨notName_self m, hx⟩
      · left
        rw [if_neg (fun e => hm (by cases e; rfl)), upd_other hm]
    have hnn : ∀ c : AV, c.names (fun m => S.hp m ≠ .free) → c.names (fun m => (upd S.hp n .dead) m ≠ .free) := fun c hc =>
      AV.names_imp (fun m hm => E1.nonfree trivial hm) c hc
    refine ⟨M.hrel H1, fun c v hc hv => VRel.mask M _ (VRel.ext E1 c (AV.names_imp (fun _ hm => ⟨trivial, hm⟩) c hc) hv), fun c hn => AV.names_imp (fun _ hm => M.nonfree hm) _ (AV.names_only _ (hnn c hn)), fun base hb => ?_, fun b hb => ⟨.inl hb, rfl⟩⟩
    · refine ⟨fun b hb => ⟨.inl hb, rfl⟩, Nat.le_refl _, rfl, fun _ _ => rfl, fun m hm hf => ?_, fun m hm hd => ?_, fun b hb hlt => hb.elim id fun hj => by
        obtain ⟨k, hk, hb⟩ := hJ b hj
        exact absurd hlt (H.geB (ho k hk) hb), ⟨rfl, rfl⟩⟩
      · by_cases hmn : m = n
        · subst hmn; left; simp only [T, if_true]; exact hb m rfl hm
        · simp only [T, if_neg (show ¬ (some n = some m) from fun e => hmn (by cases e; rfl))]
          by_cases hl : cellLive (S.hp m)
          · exact .inr ⟨trivial, sameShape_only hl⟩
          · left
            cases hc : S.hp m <;> rw [hc] at hl hf <;> simp [cellLive, Cell.live] at hl hf ⊢ <;> rfl
      · by_cases hmn : m = n
        · subst hmn; simp only [T, if_true]; exact hb m rfl hm
        · simp only [T, if_neg (show ¬ (some n = some m) from fun e => hmn (by cases e; rfl))]
          rw [hd]; rfl

theorem row_cut {S : Sit} (H : HRel S) {n : Nat} {e : Kind} {xs : List e.T} (hn : S.hp n = .row e xs) (k : Nat) (hk : k ≤ xs.length) {a : Option Addr} {cap : Nat} (hρ : S.ρ n = .slice a xs.length cap)
    {T : Sit} (hw : T.w = S.w) (hI : ∀ b, S.I b → T.I b) (hB : T.B = S.B) (hnI : ∀ b, hasBlk (S.ρ n) b → ¬ T.I b) {m : Nat} (hm : T.ρ m = .slice a k cap) : ObjAt T m (.row e (xs.take k)) := by
  have ho := H.ob n
  rw [hn] at ho
  rcases ho with ⟨g1, g2⟩ | ⟨b, cap', c, E', g1, g2, g3, g4, g5, g6, g7, g8⟩
  · rw [g1] at hρ
    simp only [Value.slice.injEq] at hρ
    obtain ⟨rfl, h2, rfl⟩ := hρ
    left
    have : k = 0 := by omega
    subst this
    exact ⟨hm, by simp⟩
  · unfold rowAtV at g1
    rw [g1] at hρ
    simp only [Value.slice.injEq] at hρ
    obtain ⟨rfl, _, rfl⟩ := hρ
    right
    refine ⟨b, cap', c, E', by unfold rowAtV; rw [List.length_take, Nat.min_eq_left hk]; exact hm, by rw [hw]; exact g2, hnI b (by rw [g1]; exact rfl), by rw [hB]; exact g4, by rw [List.length_take]; omega, g6, g7, fun i hi => ?_⟩
    rw [List.length_take] at hi
    obtain ⟨us, q1, q2⟩ := g8 i (by omega)
    refine ⟨us, ?_, q2⟩
    rw [List.getD_eq_getElem?_getD, List.getElem?_take, if_pos (by omega), ← List.getD_eq_getElem?_getD]
    exact RelK.later (fun b hb => ⟨hI b hb, by rw [hw]⟩) e q1

/-- what rowAt finds -/
theorem rowAt_inv {S : Sit} (H : HRel S) {e : Kind} {c : AV} {v : Value} {xs : List e.T} {o : Option Nat} (hv : VRel S c v) (h : rowAt S.hp e c = some (xs, o)) :
    (o = none ∧ v = .slice none 0 0 ∧ xs = []) ∨
    ∃ n ys k a cap, o = some n ∧ S.hp n = .row e ys ∧ k ≤ ys.length ∧ xs = ys.take k ∧ S.ρ n = .slice a ys.length cap ∧ v = .slice a k cap := by
  have hrow : ∀ n ys, S.hp n = .row e ys → ∃ a cap, S.ρ n = .slice a ys.length cap := by
    intro n ys hn
    have ho := H.ob n
    rw [hn] at ho
    rcases ho with ⟨g1, g2⟩ | ⟨b, cap, c, E', g1, _⟩
    · exact ⟨none, 0, by rw [g1, g2]⟩
    · exact ⟨_, cap, g1⟩
  unfold rowAt at h
  split at h
  · simp only [Option.some.injEq, Prod.mk.injEq] at h
    exact .inl ⟨h.2.symm, hv.nilsl_inv, h.1.symm⟩
  · rename_i n
    split at h
    · rename_i e' ys hn
      split at h
      · rename_i hee
        subst hee
        simp only [Option.some.injEq, Prod.mk.injEq] at h
        obtain ⟨rfl, rfl⟩ := h
        obtain ⟨a, cap, hr⟩ := hrow n _ hn
        unfold VRel at hv
        rw [hn] at hv
        exact .inr ⟨n, ys, ys.length, a, cap, rfl, hn, Nat.le_refl _, by simp, hr, hv.2.trans hr⟩
      · cases h
    · cases h
  · rename_i n k
    split at h
    · rename_i e' ys hn
      split at h
      · rename_i hee
        subst hee
        simp only [Option.some.injEq, Prod.mk.injEq] at h
        obtain ⟨rfl, rfl⟩ := h
        unfold VRel at hv
        rw [hn] at hv
        obtain ⟨_, a, cap, h1, h2, h3⟩ := hv
        exact .inr ⟨n, ys, k, a, cap, rfl, hn, h2, rfl, h1, h3⟩
      · cases h
    · cases h
  · cases h

/-- a row gets a new name -/
theorem renameC_sound {S : Sit} {st st' : St} {a : Act} (H : HRel S) (F : FRel S st.fr a) (e0 : S.hp = st.hp) {cl : Cell} {v : Value} {o : Option Nat} {n : Nat} (h : renameC st o n cl = some st')
    (hlo : ∀ m, o = some m → cellLive (S.hp m)) (hnb : ∀ cs, cl ≠ .box cs) (hblk : ∀ b, hasBlk v b → ∃ m, o = some m ∧ hasBlk (S.ρ m) b)
    (hob : ∀ T : Sit, T.w = S.w → T.I = S.I → T.B = S.B → T.ρ n = v → ObjAt T n cl) :
    ∃ T, T.w = S.w ∧ HRel T ∧ FRel T st'.fr a ∧ T.hp = st'.hp ∧ T.hp n = cl ∧ T.ρ n = v ∧ (∀ base, (o = some n → base ≤ n) → Ext (Below' base) S T) ∧
      (∀ (d : AV) (u : Value), d.names (fun m => S.hp m ≠ .free) → VRel S d u → VRel T (d.only (notName o)) u) ∧ (∀ m, m ≠ n → o ≠ some m → T.hp m = (S.hp m).only (notName o) ∧ T.ρ m = S.ρ m) := by
  unfold renameC at h
  simp only at h
  split at h
  · rename_i hfree
    simp only [Option.some.injEq] at h
    subst h
    obtain ⟨H1, hV, hN, hE, hIw⟩ := buryAll H o hlo (fun _ => False) (fun b hb => hb.elim) (if o = some n then .free else .dead) (by split; exact .inl rfl; exact .inr rfl)
    have hI1 : (fun b => S.I b ∨ False) = S.I := by funext b; simp
    simp only [hI1] at H1 hV hN hE hIw
    -- the name n is free there
    have hn1 : (if o = some n then (if o = some n then Cell.free else .dead) else (S.hp n).only (notName o)) = .free := by
      by_cases ho : o = some n
      · rw [if_pos ho, if_pos ho]
      · rw [if_neg ho] at hfree ⊢
        have : S.hp n = .free := by
          rw [e0]
          cases o with
          | none => exact hfree
          | some m =>
            have hnm : n ≠ m := fun e => ho (by rw [e])
            have h1 : upd st.hp m .dead n = .free := hfree
            have h2 : upd st.hp m .dead n = st.hp n := upd_other hnm
            exact h2.symm.trans h1
        rw [this]; rfl
    obtain ⟨H2, E2⟩ := HRel.fresh (S := { S with hp := fun i => if o = some i then (if o = some n then Cell.free else .dead) else (S.hp i).only (notName o) }) H1 (n := n) hn1 cl v S.w (Nat.le_refl _)
      (fun b _ _ => rfl)
      (fun b hb => by
        obtain ⟨m, h1, hbm⟩ := hblk b hb
        have hlm := hlo m h1
        refine ⟨H.notI hlm hbm, H.geB hlm hbm, fun m' hm' hbm' => ?_⟩
        by_cases hmm : m' = m
        · subst hmm
          simp only [h1, if_true] at hm'
          split at hm' <;> cases hm'
        · refine H.ds m m' b (fun e => hmm e.symm) hlm ?_ hbm hbm'
          simp only [h1, if_neg (show ¬ (some m = some m') from fun e => hmm (by cases e; rfl))] at hm'
          unfold cellLive at hm' ⊢
          rwa [only_live] at hm')
      (fun cs hcs => (hnb cs hcs).elim)
      (fun _ => hob _ rfl rfl rfl (by simp only [upd_same]))
    have hhp : upd (fun i => if o = some i then (if o = some n then Cell.free else .dead) else (S.hp i).only (notName o)) n cl =
        upd (fun i => ((match o with | some m => upd st.hp m .dead | none => st.hp) i).only (notName o)) n cl := by
      funext i
      unfold upd
      by_cases hi : i = n
      · rw [if_pos hi, if_pos hi]
      · rw [if_neg hi, if_neg hi, e0]
        cases o with
        | none => simp
        | some m =>
          by_cases him : i = m
          · subst him
            have : i ≠ n := hi
            have h1 : ¬ (some i = some n) := fun e => hi (by cases e; rfl)
            simp only [if_true, if_neg h1]
            rfl
          · have him' : m ≠ i := fun e => him e.symm
            simp [him, him']
    refine ⟨{ S with ρ := upd S.ρ n v, hp := upd (fun i => if o = some i then (if o = some n then Cell.free else .dead) else (S.hp i).only (notName o)) n cl }, rfl, H2, ?_, hhp, by simp only [upd_same], by simp only [upd_same], fun base hb => ?_, fun d u hd hu => ?_, fun m hm hom => ?_⟩
    · refine FRel.ext E2 ⟨fun i => hV _ _ (F.n i) (F.v i), fun i => hN _ (F.n i), F.d⟩
    · refine (hE base fun m hm hlt => ?_).trans (E2.weaken fun _ _ => trivial)
      by_cases ho : o = some n
      · have := hb ho; rw [ho] at hm; cases hm; omega
      · rw [if_neg ho]
    · exact VRel.ext E2 _ (AV.names_imp (fun _ hm => ⟨trivial, hm⟩) _ (hN d hd)) (hV d u hd hu)
    · simp only [upd_other hm, if_neg hom, and_self]
  · cases h

theorem rename_sound {S : Sit} {st st' : St} {a : Act} (H : HRel S) (F : FRel S st.fr a) (e0 : S.hp = st.hp) {e : Kind} {c : AV} {v : Value} {xs : List e.T} {o : Option Nat} (hv : VRel S c v)
    (hr : rowAt st.hp e c = some (xs, o)) {n : Nat} (h : rename st o n e xs = some st') :
    ∃ T, T.w = S.w ∧ HRel T ∧ FRel T st'.fr a ∧ T.hp = st'.hp ∧ T.hp n = .row e xs ∧ T.ρ n = v ∧ (∀ base, (o = some n → base ≤ n) → Ext (Below' base) S T) ∧
      (∀ (d : AV) (u : Value), d.names (fun m => S.hp m ≠ .free) → VRel S d u → VRel T (d.only (notName o)) u) ∧ (∀ m, m ≠ n → o ≠ some m → T.hp m = (S.hp m).only (notName o) ∧ T.ρ m = S.ρ m) ∧ v.oneCell' = true := by
  rw [← e0] at hr
  have hinv := rowAt_inv H hv hr
  have hone : v.oneCell' = true := by
    rcases hinv with ⟨_, h2, _⟩ | ⟨_, _, _, _, _, _, _, _, _, _, h2⟩ <;> rw [h2] <;> rfl
  obtain ⟨T, g1, g2, g3, g4, g5, g6, g7, g8, g9⟩ := renameC_sound H F e0 (v := v) h (fun m hm => by
      rcases hinv with ⟨h1, _⟩ | ⟨m', ys, k, ad, cap, h1, h2, _⟩
      · rw [h1] at hm; cases hm
      · rw [h1] at hm; cases hm; rw [h2]; rfl) (fun cs hcs => by cases hcs)
    (fun b hb => by
      rcases hinv with ⟨_, h2, _⟩ | ⟨m, ys, k, ad, cap, h1, h2, h3, h4, h5, h6⟩
      · rw [h2] at hb; replace hb : none = some b := hb; cases hb
      · refine ⟨m, h1, ?_⟩
        rw [h6] at hb; rw [h5]
        cases ad with
        | none => replace hb : none = some b := hb; cases hb
        | some ad => exact hb)
    (fun T hw hI hB hρ => by
      rcases hinv with ⟨h1, h2, h3⟩ | ⟨m, ys, k, ad, cap, h1, h2, h3, h4, h5, h6⟩
      · subst h3; left; exact ⟨hρ.trans h2, rfl⟩
      · subst h4
        refine row_cut H h2 k h3 h5 hw (fun b hb => by rw [hI]; exact hb) hB (fun b hb => ?_) (hρ.trans h6)
        rw [hI]
        exact H.notI (by rw [h2]; rfl) hb)
  exact ⟨T, g1, g2, g3, g4, g5, g6, g7, g8, g9, hone⟩

end Go.AM
