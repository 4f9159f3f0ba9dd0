/- Each command keeps the relation. -/
import Derived.Test.YtdjbokdohackdaaA16
namespace Go.AM
open Go

theorem notName_none : notName none = fun _ => true := by funext m; rfl

theorem VRel.ref_mk {S : Sit} {n : Nat} {e : Kind} {xs : List e.T} {v : Value} (h1 : v.oneCell' = true) (h : S.hp n = .row e xs) (hv : S.ρ n = v) : VRel S (.ref n) v := by
  unfold VRel
  rw [h]
  exact ⟨h1, hv.symm⟩

theorem adopt_sound {S : Sit} {st st' : St} {sz base : Nat} {a : Act} (G : Good S st sz a) {s n : Nat} {e : Kind} (h : (Cmd.adopt s e n).run base st = some st') :
    ∃ T, T.w = S.w ∧ Good T st' sz a ∧ Ext (Below' base) S T := by
  simp only [Cmd.run, Option.bind_eq_some_iff] at h
  obtain ⟨⟨xs, o⟩, h1, h2⟩ := h
  split at h2
  · rename_i hb
    simp only [Option.map_eq_some_iff] at h2
    obtain ⟨st1, h3, rfl⟩ := h2
    obtain ⟨T, w, HT, FT, ht, hn, hr, hE, _, _, hone⟩ := rename_sound G.h G.f G.e (G.f.v s) h1 h3
    refine ⟨T, w, ⟨HT, FT.upd (VRel.ref_mk hone hn hr) ?_, ht, G.z⟩, hE base fun _ => hb⟩
    unfold AV.names
    rw [hn]
    simp
  · cases h2

/-- what a cell of a box is known as changes -/
theorem recell {T : Sit} (H : HRel T) {m : Nat} {cs : List AV} (hm : T.hp m = .box cs) {c : Nat} {x : AV}
    (hx : ∀ b d E, blockAt (T.ρ m) b → T.w.heap[b]? = some (.cells d E (0, 0)) → VRel T x (d.toList.getD c undef)) (hn : x.names (fun i => T.hp i ≠ .free)) :
    HRel { T with hp := upd T.hp m (.box (cs.set c x)) } ∧ Ext Top T { T with hp := upd T.hp m (.box (cs.set c x)) } := by
  have hl : cellLive (T.hp m) := by rw [hm]; rfl
  have hnm : AV.namesL (fun i => T.hp i ≠ .free) (cs.set c x) := AV.namesL_of fun y hy => by
    rcases List.mem_or_eq_of_mem_set hy with hy | hy
    · exact AV.namesL_mem (H.nb m cs hm) hy
    · subst hy; exact hn
  refine H.write hl (.box (cs.set c x)) T.w (by rw [hm]; simp [sameShape]) (fun b _ => rfl) rfl (fun E => ?_) (fun ds hds => by cases hds; exact hnm)
  have ho := H.ob m
  rw [hm] at ho
  obtain ⟨b, d, el, g1, g2, g3, g4, g5, g6⟩ := ho
  refine ⟨b, d, el, g1, g2, g3, g4, ?_, g6⟩
  refine VRelL.ext E _ (AV.namesL_imp (fun _ hm => ⟨trivial, hm⟩) _ hnm) ?_
  have := VRelL.set (i := c) g5 (hx b d el g1 g2)
  by_cases hc : c < d.toList.length
  · have e2 : d.toList.set c (d.toList.getD c undef) = d.toList := by
      apply List.ext_getElem?
      intro i
      rw [List.getElem?_set]
      split
      · rename_i hi; subst hi
        rw [List.getD_eq_getElem?_getD]
        simp [List.getElem?_eq_getElem hc]
      · rfl
    rwa [e2] at this
  · have hlen := g5.length
    rw [List.set_eq_of_length_le (by omega), List.set_eq_of_length_le (l := d.toList) (by omega)] at this
    rw [List.set_eq_of_length_le (by omega)]
    exact this

theorem setCell_sound {S : Sit} {st st' : St} {sz : Nat} {a : Act} (G : Good S st sz a) {m c : Nat} {x : AV} (h : setCellAt st m c x = some st')
    (hx : ∀ b d E, blockAt (S.ρ m) b → S.w.heap[b]? = some (.cells d E (0, 0)) → VRel S x (d.toList.getD c undef)) (hn : x.names (fun i => S.hp i ≠ .free)) :
    ∃ T, T.w = S.w ∧ Good T st' sz a ∧ Ext Top S T := by
  unfold setCellAt at h
  split at h
  · rename_i cs hcs
    split at h
    · simp only [Option.some.injEq] at h
      subst h
      obtain ⟨H', E'⟩ := recell G.h (by rw [G.e]; exact hcs) hx hn
      exact ⟨{ S with hp := upd S.hp m (.box (cs.set c x)) }, rfl, ⟨H', G.f.ext E', by simp only [G.e], G.z⟩, E'⟩
    · cases h
  · cases h

/-- what a cell of a box holds -/
theorem cell_value {S : Sit} (H : HRel S) {m : Nat} {cs : List AV} (hm : S.hp m = .box cs) : ∃ b d E, blockAt (S.ρ m) b ∧ S.w.heap[b]? = some (.cells d E (0, 0)) ∧
    ∀ c, VRel S (cs.getD c .undef) (d.toList.getD c undef) := by
  have ho := H.ob m
  rw [hm] at ho
  obtain ⟨b, d, el, g1, g2, g3, g4, g5, g6⟩ := ho
  refine ⟨b, d, el, g1, g2, fun c => ?_⟩
  by_cases hc : c < cs.length
  · obtain ⟨v, h1, h2⟩ := g5.get (List.getElem?_eq_getElem hc)
    rw [List.getD_eq_getElem?_getD, List.getD_eq_getElem?_getD, h1, List.getElem?_eq_getElem hc]
    exact h2
  · rw [List.getD_eq_getElem?_getD, List.getElem?_eq_none (by omega)]
    exact .undef_mk

theorem adoptCell_sound {S : Sit} {st st' : St} {sz base : Nat} {a : Act} (G : Good S st sz a) {m c n : Nat} {e : Kind} (h : (Cmd.adoptCell m c e n).run base st = some st') :
    ∃ T, T.w = S.w ∧ Good T st' sz a ∧ Ext (Below' base) S T := by
  simp only [Cmd.run, Option.bind_eq_some_iff] at h
  obtain ⟨⟨xs, o⟩, h1, h2⟩ := h
  split at h2
  · cases h2
  · rename_i hb
    simp only [Option.bind_eq_some_iff] at h2
    obtain ⟨st1, h3, h4⟩ := h2
    unfold setCellAt at h4
    split at h4
    · rename_i ds hds
      -- before: m was a box too
      have hcases : ∃ cs, st.hp m = .box cs := by
        unfold cellAt at h1
        split at h1
        · rename_i cs hcs; exact ⟨cs, hcs⟩
        · simp [rowAt] at h1
      obtain ⟨cs, hcs⟩ := hcases
      have hcs' : S.hp m = .box cs := by rw [G.e]; exact hcs
      obtain ⟨b, d, E, v1, v2, v3⟩ := cell_value G.h hcs'
      have hca : cellAt st m c = cs.getD c .undef := by simp only [cellAt, hcs]
      obtain ⟨T, w, HT, FT, ht, hn, hr, hE, _, hm, hone⟩ := rename_sound G.h G.f G.e (v3 c) (by rw [← hca]; exact h1) h3
      have hmn : m ≠ n := fun e => hb (.inl e)
      have hom : o ≠ some m := by
        rintro rfl
        rcases rowAt_inv G.h (v3 c) (by rw [← hca, G.e]; exact h1) with ⟨h5, _⟩ | ⟨n', ys, _, _, _, h5, h6, _⟩
        · cases h5
        · cases h5; rw [hcs'] at h6; cases h6
      have hTm := hm m hmn hom
      have GT : Good T st1 sz a := ⟨HT, FT, ht, G.z⟩
      obtain ⟨U, hU, GU, EU⟩ := setCell_sound (x := .ref n) GT (st' := st') (m := m) (c := c) (by unfold setCellAt; rw [hds]; exact h4)
        (fun b' d' E' q1 q2 => by
          rw [hTm.2] at q1
          have : b' = b := by
            unfold blockAt at q1 v1
            rw [v1] at q1
            simp only [Value.pointer.injEq, Option.some.injEq, Addr.mk.injEq] at q1
            exact q1.1.symm
          subst this
          rw [w, v2] at q2
          simp only [Option.some.injEq, Obj.cells.injEq] at q2
          obtain ⟨rfl, _⟩ := q2
          exact VRel.ref_mk hone hn hr) (by unfold AV.names; rw [hn]; simp)
      refine ⟨U, hU.trans w, GU, (hE base fun ho => ?_).trans (EU.weaken fun _ _ => trivial)⟩
      rcases Nat.lt_or_ge n base with hlt | hge
      · exact absurd (.inr ⟨ho, hlt⟩) hb
      · exact hge
    · cases h4

theorem adoptM_sound {S : Sit} {st st' : St} {sz base : Nat} {a : Act} (G : Good S st sz a) {m c n : Nat} (h : (Cmd.adoptM m c n).run base st = some st') :
    ∃ T, T.w = S.w ∧ Good T st' sz a ∧ Ext (Below' base) S T := by
  simp only [Cmd.run] at h
  split at h
  · rename_i o hca
    split at h
    · rename_i k v ess hes
      split at h
      · cases h
      · rename_i hb
        simp only [Option.bind_eq_some_iff] at h
        obtain ⟨st1, h3, h4⟩ := h
        unfold setCellAt at h4
        split at h4
        · rename_i ds hds
          have hcases : ∃ cs, st.hp m = .box cs := by
            unfold cellAt at hca
            split at hca
            · rename_i cs hcs; exact ⟨cs, hcs⟩
            · cases hca
          obtain ⟨cs, hcs⟩ := hcases
          have hcs' : S.hp m = .box cs := by rw [G.e]; exact hcs
          have hes' : S.hp o = .mrow k v ess := by rw [G.e]; exact hes
          obtain ⟨b, d, E, v1, v2, v3⟩ := cell_value G.h hcs'
          have hca' : cs.getD c .undef = .ref o := by rw [← hca]; simp only [cellAt, hcs]
          have hv := v3 c
          rw [hca'] at hv
          unfold VRel at hv
          rw [hes'] at hv
          obtain ⟨hone, ms, hρo⟩ := hv
          have hlo : cellLive (S.hp o) := by rw [hes']; rfl
          obtain ⟨T, w, HT, FT, ht, hn, hr, hE, _, hm⟩ := renameC_sound G.h G.f G.e (v := S.ρ o) h3 (fun m' hm' => by cases hm'; exact hlo) (fun cs hc => by cases hc) (fun b hb => ⟨o, rfl, hb⟩)
            (fun T hw hI hB hρ => by
              have ho' := G.h.ob o
              rw [hes'] at ho'
              unfold ObjAt MapAt at ho' ⊢
              rw [hρ, hw, hI, hB]; exact ho')
          have hmn : m ≠ n := fun e => hb (.inl e)
          have hom : some o ≠ some m := by
            intro e
            cases e
            exact hb (.inr (.inl rfl))
          have hTm := hm m hmn hom
          have GT : Good T st1 sz a := ⟨HT, FT, ht, G.z⟩
          obtain ⟨U, hU, GU, EU⟩ := setCell_sound (x := .ref n) GT (st' := st') (m := m) (c := c) (by unfold setCellAt; rw [hds]; exact h4)
            (fun b' d' E' q1 q2 => by
              rw [hTm.2] at q1
              have : b' = b := by
                unfold blockAt at q1 v1
                rw [v1] at q1
                simp only [Value.pointer.injEq, Option.some.injEq, Addr.mk.injEq] at q1
                exact q1.1.symm
              subst this
              rw [w, v2] at q2
              simp only [Option.some.injEq, Obj.cells.injEq] at q2
              obtain ⟨rfl, _⟩ := q2
              exact mrow_mk hone hn (hr.trans hρo)) (by unfold AV.names; rw [hn]; simp)
          refine ⟨U, hU.trans w, GU, (hE base fun ho => ?_).trans (EU.weaken fun _ _ => trivial)⟩
          rcases Nat.lt_or_ge n base with hlt | hge
          · exact absurd (.inr (.inr ⟨by cases ho; rfl, hlt⟩)) hb
          · exact hge
        · cases h4
    · cases h
  · cases h

mutual
theorem only_true : ∀ c : AV, c.only (fun _ => true) = c
  | .ref _ | .pref _ _ | .ptr _ _ | .eptr _ _ _ | .aptr _ _ _ _ | .mapr _ | .mref _ _ | .keys _ _ _ => by unfold AV.only; rfl
  | .iptr cs => by unfold AV.only; rw [onlyL_true cs]
  | .fn f cap => by unfold AV.only; rw [onlyL_true cap]
  | .agg cs => by unfold AV.only; rw [onlyL_true cs]
  | .tup cs => by unfold AV.only; rw [onlyL_true cs]
  | .undef | .bool _ | .int _ _ | .str _ | .sl _ _ | .nilsl | .nilp | .nilfn | .nilmap | .nilif => by unfold AV.only; rfl
theorem onlyL_true : ∀ cs : List AV, AV.onlyL (fun _ => true) cs = cs
  | [] => rfl
  | c :: r => by unfold AV.onlyL; rw [only_true c, onlyL_true r]
end

theorem Cell.only_true (c : Cell) : c.only (fun _ => true) = c := by
  cases c <;> simp [Cell.only, onlyL_true]

/-- what freezing finds -/
theorem frozenAt_sound {S : Sit} (H : HRel S) {c : AV} {v : Value} (hv : VRel S c v) {y : AV} {o : Option Nat} (h : frozenAt S.hp c = some (y, o)) :
    (∀ n, o = some n → cellLive (S.hp n)) ∧ (∀ n cs, o = some n → S.hp n ≠ .box cs) ∧ y.closed = true ∧
    ∀ T : Sit, T.w = S.w → (∀ b, S.I b → T.I b) → (∀ n b, o = some n → hasBlk (S.ρ n) b → T.I b) → VRel T y v := by
  have hrow : ∀ (n k : Nat) (e : Kind) (ys : List e.T), S.hp n = .row e ys → k ≤ ys.length → (∃ a cap, S.ρ n = .slice a ys.length cap ∧ v = .slice a k cap) →
      ∀ T : Sit, T.w = S.w → (∀ b, S.I b → T.I b) → (∀ b, hasBlk (S.ρ n) b → T.I b) → VRel T (.sl e (ys.take k)) v := by
    intro n k e ys hn hk ⟨a, cap, h1, h2⟩ T hw hI hJ
    refine .sl_mk ?_
    have ho := H.ob n
    rw [hn] at ho
    have hlen : (ys.take k).length = k := by rw [List.length_take]; omega
    rcases ho with ⟨g1, g2⟩ | ⟨b, cap', c, E', g1, g2, g3, g4, g5, g6, g7, g8⟩
    · rw [g1] at h1
      simp only [Value.slice.injEq] at h1
      obtain ⟨rfl, h3, rfl⟩ := h1
      have : k = 0 := by omega
      subst this
      exact ⟨none, 0, 0, by rw [h2], by simp, Nat.le_refl _, .inl rfl⟩
    · unfold rowAtV at g1
      rw [g1] at h1
      simp only [Value.slice.injEq] at h1
      obtain ⟨rfl, _, rfl⟩ := h1
      refine ⟨_, k, cap', by rw [h2], hlen.symm, by omega, .inr ⟨b, 0, rfl, hJ b (by rw [g1]; rfl), fun i hi => ?_⟩⟩
      obtain ⟨us, q1, q2⟩ := g8 i (by omega)
      refine ⟨us, ?_, fun j u hj => ?_⟩
      · show RelK T.w T.I e ((List.take k ys).getD i e.dflt) us
        rw [List.getD_eq_getElem?_getD, List.getElem?_take, if_pos hi, ← List.getD_eq_getElem?_getD]
        exact RelK.later (fun b hb => ⟨hI b hb, by rw [hw]⟩) e q1
      · rw [hw, Nat.zero_add]
        exact (cell_of_row S.w b _ c E' (0, 0) g2).trans (q2 j u hj)
  have hslice : ∀ n e ys, S.hp n = .row e ys → ∃ a cap, S.ρ n = .slice a ys.length cap := by
    intro n e ys hn
    have ho := H.ob n
    rw [hn] at ho
    rcases ho with ⟨g1, g2⟩ | ⟨b, cap, c, E', g1, _⟩
    · exact ⟨none, 0, by rw [g1, g2]⟩
    · exact ⟨_, cap, g1⟩
  unfold frozenAt at h
  split at h
  · simp only [Option.some.injEq, Prod.mk.injEq] at h
    obtain ⟨rfl, rfl⟩ := h
    exact ⟨(fun _ h => nomatch h), (fun _ _ h => nomatch h), rfl, fun T _ _ _ => by unfold VRel at hv ⊢; exact hv⟩
  · simp only [Option.some.injEq, Prod.mk.injEq] at h
    obtain ⟨rfl, rfl⟩ := h
    exact ⟨(fun _ h => nomatch h), (fun _ _ h => nomatch h), rfl, fun T hw hI _ => by
      unfold VRel at hv ⊢; exact RelK.later (fun b hb => ⟨hI b hb, by rw [hw]⟩) _ hv⟩
  · rename_i n
    split at h
    · rename_i e xs hn
      simp only [Option.some.injEq, Prod.mk.injEq] at h
      obtain ⟨rfl, rfl⟩ := h
      refine ⟨(fun m hm => by cases hm; rw [hn]; rfl), (fun m cs hm hc => by cases hm; rw [hn] at hc; cases hc), rfl, fun T hw hI hJ => ?_⟩
      unfold VRel at hv
      rw [hn] at hv
      obtain ⟨a, cap, hs⟩ := hslice n e xs hn
      have := hrow n xs.length e xs hn (Nat.le_refl _) ⟨a, cap, hs, hv.2.trans hs⟩ T hw hI (fun b hb => hJ n b rfl hb)
      rwa [List.take_length] at this
    · cases h
  · rename_i n k
    split at h
    · rename_i e xs hn
      simp only [Option.some.injEq, Prod.mk.injEq] at h
      obtain ⟨rfl, rfl⟩ := h
      refine ⟨(fun m hm => by cases hm; rw [hn]; rfl), (fun m cs hm hc => by cases hm; rw [hn] at hc; cases hc), rfl, fun T hw hI hJ => ?_⟩
      unfold VRel at hv
      rw [hn] at hv
      obtain ⟨_, a, cap, h1, h2, h3⟩ := hv
      exact hrow n k e xs hn h2 ⟨a, cap, h1, h3⟩ T hw hI (fun b hb => hJ n b rfl hb)
    · cases h
  · cases h

theorem bury_sound {S : Sit} {st : St} {sz : Nat} {a : Act} (G : Good S st sz a) (o : Option Nat) (ho : ∀ n, o = some n → cellLive (S.hp n)) :
    ∃ T, T.w = S.w ∧ Good T (bury st o) sz a ∧ (∀ base, Ext (Below' base) S T) ∧ (∀ b, S.I b → T.I b) ∧ (∀ n b, o = some n → hasBlk (S.ρ n) b → T.I b) ∧ T.ρ = S.ρ := by
  obtain ⟨H1, hV, hN, hE, hI⟩ := buryAll G.h o ho (fun b => ∃ n, o = some n ∧ hasBlk (S.ρ n) b) (fun b h => h) .dead (.inr rfl)
  refine ⟨{ S with I := fun b => S.I b ∨ ∃ n, o = some n ∧ hasBlk (S.ρ n) b, hp := fun i => if o = some i then .dead else (S.hp i).only (notName o) }, rfl, ⟨H1, ?_, ?_, G.z⟩, fun base => hE base fun _ _ _ => rfl, fun b hb => (hI b hb).1, fun n b h1 h2 => .inr ⟨n, h1, h2⟩, rfl⟩
  · have F1 : FRel { S with I := fun b => S.I b ∨ ∃ n, o = some n ∧ hasBlk (S.ρ n) b, hp := fun i => if o = some i then .dead else (S.hp i).only (notName o) } (fun i => (st.fr i).only (notName o)) a := ⟨fun i => hV _ _ (G.f.n i) (G.f.v i), fun i => hN _ (G.f.n i), G.f.d⟩
    cases o with
    | none => simp only [notName_none, only_true] at F1; exact F1
    | some n => exact F1
  · cases o with
    | none => simp only [bury, reduceCtorEq, if_false, notName_none, Cell.only_true, G.e]
    | some n =>
      funext i
      simp only [bury, upd, G.e]
      by_cases hi : i = n
      · subst hi; simp
      · rw [if_neg (fun e => hi (by cases e; rfl)), if_neg hi]

theorem freeze_sound {S : Sit} {st st' : St} {sz base : Nat} {a : Act} (G : Good S st sz a) {s : Nat} (h : (Cmd.freeze s).run base st = some st') :
    ∃ T, T.w = S.w ∧ Good T st' sz a ∧ Ext (Below' base) S T := by
  simp only [Cmd.run, Option.map_eq_some_iff] at h
  obtain ⟨⟨y, o⟩, h1, rfl⟩ := h
  rw [← G.e] at h1
  obtain ⟨k1, _, k2, k3⟩ := frozenAt_sound G.h (G.f.v s) h1
  obtain ⟨T, w, GT, E, hI, hJ, _⟩ := bury_sound G o k1
  exact ⟨T, w, ⟨GT.h, GT.f.upd (k3 T w hI hJ) (AV.names_closed y k2), GT.e, GT.z⟩, E base⟩

theorem freezeCell_sound {S : Sit} {st st' : St} {sz base : Nat} {a : Act} (G : Good S st sz a) {m c : Nat} (h : (Cmd.freezeCell m c).run base st = some st') :
    ∃ T, T.w = S.w ∧ Good T st' sz a ∧ Ext (Below' base) S T := by
  simp only [Cmd.run, Option.bind_eq_some_iff] at h
  obtain ⟨⟨y, o⟩, h1, h2⟩ := h
  have hcases : ∃ cs, st.hp m = .box cs := by
    unfold cellAt at h1
    split at h1
    · rename_i cs hcs; exact ⟨cs, hcs⟩
    · simp [frozenAt] at h1
  obtain ⟨cs, hcs⟩ := hcases
  have hcs' : S.hp m = .box cs := by rw [G.e]; exact hcs
  obtain ⟨b, d, E, v1, v2, v3⟩ := cell_value G.h hcs'
  have hca : cellAt st m c = cs.getD c .undef := by simp only [cellAt, hcs]
  rw [← G.e, hca] at h1
  obtain ⟨k1, _, k2, k3⟩ := frozenAt_sound G.h (v3 c) h1
  obtain ⟨T, w, GT, E1, hI, hJ, hρ⟩ := bury_sound G o k1
  obtain ⟨U, hU, GU, EU⟩ := setCell_sound (x := y) GT (st' := st') (m := m) (c := c) h2
    (fun b' d' E' q1 q2 => by
      rw [hρ] at q1
      have : b' = b := by
        unfold blockAt at q1 v1
        rw [v1] at q1
        simp only [Value.pointer.injEq, Option.some.injEq, Addr.mk.injEq] at q1
        exact q1.1.symm
      subst this
      rw [w, v2] at q2
      simp only [Option.some.injEq, Obj.cells.injEq] at q2
      obtain ⟨rfl, _⟩ := q2
      exact k3 T w hI hJ) (AV.names_closed y k2)
  exact ⟨U, hU.trans w, GU, (E1 base).trans (EU.weaken fun _ _ => trivial)⟩

theorem cmd_sound {S : Sit} {st st' : St} {sz base : Nat} {a : Act} (G : Good S st sz a) {c : Cmd} (h : c.run base st = some st') :
    ∃ T, T.w = S.w ∧ Good T st' sz a ∧ Ext (Below' base) S T := by
  cases c with
  | adopt s e n => exact adopt_sound G h
  | adoptCell m c e n => exact adoptCell_sound G h
  | adoptM m c n => exact adoptM_sound G h
  | freeze s => exact freeze_sound G h
  | freezeCell m c => exact freezeCell_sound G h
  | keep slots names =>
    simp only [Cmd.run, Option.some.injEq] at h
    subst h
    exact keep_sound G slots names

theorem cmds_sound {base : Nat} : ∀ {l : List Cmd} {S : Sit} {st st' : St} {sz : Nat} {a : Act}, Good S st sz a → runCmds base l st = some st' →
    ∃ T, T.w = S.w ∧ Good T st' sz a ∧ Ext (Below' base) S T
  | [], S, st, st', sz, a, G, h => by
    simp only [runCmds, Option.some.injEq] at h
    subst h
    exact ⟨S, rfl, G, Ext.refl S⟩
  | c :: r, S, st, st', sz, a, G, h => by
    simp only [runCmds, Option.bind_eq_some_iff] at h
    obtain ⟨st1, h1, h2⟩ := h
    obtain ⟨T, w, GT, E⟩ := cmd_sound G h1
    obtain ⟨U, w', GU, E'⟩ := cmds_sound GT h2
    exact ⟨U, w'.trans w, GU, E.trans E'⟩

end Go.AM
