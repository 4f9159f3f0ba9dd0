/- Each operation: what the abstract machine says of it the model does. Second part: memory. -/
import Derived.Test.YtdjbokdohackdaaA7
namespace Go.AM
open Go

theorem res_rel {S : Sit} {k : Kind} {cs : List AV} {us : List Value} {v : AV} (h : VRelL S cs us) (h1 : ∀ u ∈ us, u.oneCell' = true) (he : k.res cs = some v) :
    us.length = k.size ∧ VRel S v (if k.isAgg = true then .agg us.toArray else us.headD undef) := by
  unfold Kind.res at he
  split at he
  · rename_i hl
    refine ⟨h.length.trans hl, ?_⟩
    split at he
    · rename_i ha
      simp only [Option.some.injEq] at he
      subst he
      rw [if_pos ha]
      unfold VRel
      exact ⟨us, rfl, h, h1⟩
    · rename_i ha
      rw [if_neg ha]
      split at he
      · simp only [Option.some.injEq] at he
        subst he
        obtain ⟨u, s, rfl, h2, h3⟩ := h.cons_inv
        exact h2
      · cases he
  · cases he

theorem res_names {p : Nat → Prop} {k : Kind} {cs : List AV} {v : AV} (h : AV.namesL p cs) (he : k.res cs = some v) : v.names p := by
  unfold Kind.res at he
  split at he
  · split at he
    · simp only [Option.some.injEq] at he; subst he; unfold AV.names; exact h
    · split at he
      · simp only [Option.some.injEq] at he; subst he; unfold AV.namesL at h; exact h.1
      · cases he
  · cases he

theorem namesL_drop {p : Nat → Prop} {cs : List AV} (n : Nat) (h : AV.namesL p cs) : AV.namesL p (cs.drop n) :=
  AV.namesL_of fun _ hc => AV.namesL_mem h (List.mem_of_mem_drop hc)
theorem namesL_take {p : Nat → Prop} {cs : List AV} (n : Nat) (h : AV.namesL p cs) : AV.namesL p (cs.take n) :=
  AV.namesL_of fun _ hc => AV.namesL_mem h (List.mem_of_mem_take hc)

/-- an oper's operands -/
theorem evs_rel {S : Sit} {fr : Nat → AV} {a : Act} (F : FRel S fr a) (parts : Array (Nat × Operand)) :
    ∀ (i : Nat) (p : Nat × AV) (v : Nat × Value), (parts.toList.map fun p => (p.1, ev fr p.2))[i]? = some p → (parts.toList.map fun p => (p.1, a.eval p.2))[i]? = some v →
      p.1 = v.1 ∧ VRel S p.2 v.2 := by
  intro i p v h1 h2
  rw [List.getElem?_map] at h1 h2
  cases hp : parts.toList[i]? with
  | none => rw [hp] at h1; cases h1
  | some q =>
    rw [hp] at h1 h2
    simp only [Option.map_some, Option.some.injEq] at h1 h2
    subst h1 h2
    exact ⟨rfl, ev_rel F _⟩

theorem intsOf_rel {S : Sit} {k : IntKind} : ∀ {cs : List AV} {us : List Value} {l : List Int}, VRelL S cs us → intsOf k cs = some l → us = l.map (Value.int k) ∧ l.length = cs.length
  | [], us, l, h, he => by simp only [intsOf, Option.some.injEq] at he; subst he; exact ⟨h.nil_inv, rfl⟩
  | c :: cs, us, l, h, he => by
    unfold intsOf at he
    split at he
    · rename_i hc; cases hc
    · rename_i k' n r hc
      cases hc
      split at he
      · rename_i hk
        subst hk
        simp only [Option.bind_eq_some_iff] at he
        obtain ⟨l', h1, he⟩ := he
        simp only [Option.some.injEq] at he
        subst he
        obtain ⟨u, s, rfl, h2, h3⟩ := h.cons_inv
        obtain ⟨e1, e2⟩ := intsOf_rel h3 h1
        exact ⟨by rw [h2.int_inv, e1]; rfl, by simp [e2]⟩
      · cases he
    · cases he

section ops
variable {P : Program} {Γ : TEnv} {call : Call} {S : Sit} {fr : Nat → AV} {a : Act} {R : Type} {K : AV → Hp → Option R} {r : R}
  {next : Act → World → Prop} {Q : Exit → Act → World → Prop} {nm : Nat}

theorem sound_box {o : Oper} {t : Nat} {x : Operand} (ho : o.op = .box t x) (H : HRel S) (F : FRel S fr a)
    (h : (aop Γ nm (ev fr) (.box t x)).run call K S.hp = some r) (hP : Post S K r fun v w => next (a.put o.dst v) w) : o.wp P a S.w next Q := by
  simp only [aop] at h
  obtain ⟨k, hk, h⟩ := run_opt_inv h
  obtain ⟨cs, hcs, h⟩ := run_opt_inv h
  split at h
  · obtain ⟨hf, h⟩ := run_new_inv h
    obtain ⟨hv, hone⟩ := leaves_rel (ev_rel F x) hcs
    have hnm := AV.leaves_names (ev_names F x) hcs
    obtain ⟨H', E'⟩ := H.alloc hf (.box cs) (.pointer (some ⟨S.w.heap.size, 0, none⟩)) (S.w.alloc (.cells (a.eval x).cells t)) _ rfl rfl
      (fun ds hds => by cases hds; exact hnm)
      (fun E => ⟨S.w.heap.size, (a.eval x).cells, t, by simp [blockAt, upd_same], heap_alloc_new _ _, fun hI => Nat.lt_irrefl _ (H.il _ hI), H.newB,
        VRelL.ext E _ (AV.namesL_imp (fun m hm => ⟨trivial, hm⟩) _ hnm) hv, hone⟩)
    refine wp_value (v := .pointer (some ⟨S.w.heap.size, 0, none⟩)) (w' := S.w.alloc (.cells (a.eval x).cells t)) ?_ (hP (.ptr nm 0) _ _ h H' E' ?_ ?_)
    · simp [execOp, ho, Instr.box, newVar, newRow]
    · unfold VRel
      refine ⟨rfl, ?_⟩
      simp only [upd_same]
      exact ⟨S.w.heap.size, rfl, rfl⟩
    · unfold AV.names; simp [upd_same]
  · cases h

theorem sound_load (hΓ : Γ.ok P = true) {o : Oper} {t : Nat} {x : Operand} (ho : o.op = .load t x) (H : HRel S) (F : FRel S fr a)
    (h : (aop Γ nm (ev fr) (.load t x)).run call K S.hp = some r) (hP : Post S K r fun v w => next (a.put o.dst v) w) : o.wp P a S.w next Q := by
  simp only [aop] at h
  obtain ⟨k, hk, h⟩ := run_opt_inv h
  obtain ⟨T⟩ := kOk_ty (TEnv.kind_ok hΓ hk)
  have hx := ev_rel F x
  have hn := ev_names F x
  have fin : ∀ (b oo : Nat) (us : List Value) (cs : List AV) (v : AV), a.eval x = .pointer (some ⟨b, oo, none⟩) → CellsAt S.w b oo us → VRelL S cs us → (∀ u ∈ us, u.oneCell' = true) →
      AV.namesL (fun m => S.hp m ≠ .free) cs → k.res cs = some v → K v S.hp = some r → o.wp P a S.w next Q := by
    intro b oo us cs v hp hc hv h1 hnn he hkk
    obtain ⟨hl, hr⟩ := res_rel hv h1 he
    refine wp_value ?_ (hP.stay H hkk hr (res_names hnn he))
    simp only [execOp, ho, hp, Instr.loadAt, Instr.sureAddr, Sem.run_bind, Sem.run_pure, Result.andThen_ok, T.run_load S.w hc hl Kind.size_leaf]
  split at h
  · rename_i n off he
    rw [he] at hx hn
    have h := run_rd_inv h
    split at h
    · rename_i cs hcs
      obtain ⟨v, hv, h⟩ := run_opt_inv h
      unfold VRel at hx
      rw [hcs] at hx
      obtain ⟨_, b, hb, hp⟩ := hx
      have ho' := H.ob n
      rw [hcs] at ho'
      obtain ⟨b', c, E, g1, g2, g3, g4, g5, g6⟩ := ho'
      have : b' = b := by unfold blockAt at g1 hb; rw [g1] at hb; simpa using hb
      subst this
      have hc : CellsAt S.w b' 0 c.toList := fun j u hu => by rw [Nat.zero_add, cell_of_row S.w b' j c E (0, 0) g2]; simpa using hu
      have hd := (hc.drop off).take k.size
      rw [Nat.zero_add] at hd
      exact fin b' off _ _ v hp hd ((g5.drop off).take k.size) (fun u hu => g6 u (List.mem_of_mem_drop (List.mem_of_mem_take hu)))
        (namesL_take _ (namesL_drop _ (H.nb n cs hcs))) hv (run_pure_inv h)
    · cases h
  · rename_i n i sub he
    rw [he] at hx hn
    have h := run_rd_inv h
    split at h
    · rename_i el xs hcs
      obtain ⟨v, hv, h⟩ := run_opt_inv h
      unfold VRel at hx
      rw [hcs] at hx
      obtain ⟨_, hi, b, cap, hb, hp⟩ := hx
      have ho' := H.ob n
      rw [hcs] at ho'
      rcases ho' with ⟨g1, g2⟩ | ⟨b', cap', c, E, g1, g2, g3, g4, g5, g6, g7, g8⟩
      · omega
      · have : b' = b := by unfold rowAtV at g1 hb; rw [g1] at hb; simp at hb; exact hb.1
        subst this
        obtain ⟨us, g9, g10⟩ := g8 i hi
        have hc : CellsAt S.w b' (i * el.size) us := fun j u hu => by rw [cell_of_row S.w b' _ c E (0, 0) g2]; exact g10 j u hu
        exact fin b' (i * el.size + sub) _ _ v hp ((hc.drop sub).take k.size) (((flat_rel el g9).drop sub).take k.size)
          (fun u hu => RelK.ones el g9 u (List.mem_of_mem_drop (List.mem_of_mem_take hu)))
          (namesL_take _ (namesL_drop _ (flat_names el _))) hv (run_pure_inv h)
    · rename_i k' v' ess hcs
      split at h
      · rename_i hk1
        obtain ⟨hk1, hs⟩ := hk1
        unfold VRel at hx
        rw [hcs] at hx
        obtain ⟨_, hi, b, cap, ms, hρ, hp⟩ := hx
        have ho' := H.ob n
        rw [hcs] at ho'
        obtain ⟨b', cap', c, E, ms', g1, g2, g3, g4, g5, g6, g7, g8, g9, g10, g11⟩ := ho'
        obtain ⟨e1, rfl⟩ := tuple_inj (g1.symm.trans hρ)
        obtain ⟨rfl, _, rfl⟩ := slice_inj e1
        obtain ⟨m, q1, r', ents, cl, q2, _⟩ := g11 i _ (List.getElem?_eq_getElem hi)
        have hone : m.oneCell' = true := by rw [q2]; rfl
        have hv : VRel S (.mref n i) m := by
          unfold VRel
          rw [hcs]
          exact ⟨hone, hi, _, ms', g1, q1⟩
        refine fin b' i [m] [.mref n i] (.mref n i) hp (fun j u hu => ?_) (.one hv) (fun u hu => by simp at hu; rw [hu]; exact hone) ?_ (by rw [hk1]; rfl) (run_pure_inv h)
        · cases j with
          | zero =>
            simp only [List.getElem?_cons_zero, Option.some.injEq] at hu
            subst hu
            rw [Nat.add_zero, cell_of_row S.w b' i c E (0, 0) g2]
            exact (g10 i m q1).1
          | succ j => simp at hu
        · unfold AV.namesL AV.names AV.namesL
          exact ⟨by rw [hcs]; simp, trivial⟩
      · cases h
    · cases h
  · rename_i cs he
    rw [he] at hx hn
    obtain ⟨v, hv, h⟩ := run_opt_inv h
    unfold VRel at hx
    obtain ⟨b, oo, us, hp, hI, h1, h2, h3⟩ := hx
    unfold AV.names at hn
    exact fin b oo _ _ v hp (h2.take k.size) (h1.take k.size) (fun u hu => h3 u (List.mem_of_mem_take hu)) (namesL_take _ hn) hv (run_pure_inv h)
  · rename_i n off cnt i he
    rw [he] at hx hn
    have h := run_rd_inv h
    split at h
    · rename_i cs hcs
      split at h
      · rename_i ik _
        obtain ⟨l, hl, h⟩ := run_opt_inv h
        unfold VRel at hx
        rw [hcs] at hx
        obtain ⟨_, hi, hoff, b, hb, hp⟩ := hx
        have ho' := H.ob n
        rw [hcs] at ho'
        obtain ⟨b', c, E, g1, g2, g3, g4, g5, g6⟩ := ho'
        have : b' = b := by unfold blockAt at g1 hb; rw [g1] at hb; simpa using hb
        subst this
        have hc : CellsAt S.w b' 0 c.toList := fun j u hu => by rw [Nat.zero_add, cell_of_row S.w b' j c E (0, 0) g2]; simpa using hu
        obtain ⟨e1, e2⟩ := intsOf_rel ((g5.drop off).take cnt) hl
        have hlen : l.length = cnt := by rw [e2]; simp; omega
        have hget : (c.toList.drop off)[i]? = some (.int ik (l.getD i 0)) := by
          have h3 : ((c.toList.drop off).take cnt)[i]? = (l.map (Value.int ik))[i]? := by rw [e1]
          rw [List.getElem?_take, if_pos hi, List.getElem?_map] at h3
          rw [h3, List.getElem?_eq_getElem (by omega)]
          simp [List.getD_eq_getElem?_getD, List.getElem?_eq_getElem (show i < l.length by omega)]
        refine fin b' (off + i) [.int ik (l.getD i 0)] [.int ik (l.getD i 0)] _ hp ?_ (.one .int_mk) (by simp [Value.oneCell']) (by simp [AV.namesL, AV.names]) rfl (run_pure_inv h)
        intro j u hu
        cases j with
        | zero =>
          simp only [List.getElem?_cons_zero, Option.some.injEq] at hu
          subst hu
          rw [List.getElem?_drop] at hget
          have := hc _ _ hget
          simpa using this
        | succ j => simp at hu
      · cases h
    · cases h
  · cases h

theorem splice_length {cs ls : List AV} {off : Nat} (h : off + ls.length ≤ cs.length) : (splice cs off ls).length = cs.length := by
  unfold splice; simp; omega

theorem splice_names {p : Nat → Prop} {cs ls : List AV} {off : Nat} (h : AV.namesL p cs) (h2 : AV.namesL p ls) : AV.namesL p (splice cs off ls) := by
  unfold splice
  rw [AV.namesL_append, AV.namesL_append]
  exact ⟨⟨namesL_take _ h, h2⟩, namesL_drop _ h⟩

theorem seg_get {α : Type} {l vs : List α} {o m : Nat} (h : o + vs.length ≤ l.length) :
    (l.take o ++ vs ++ l.drop (o + vs.length))[m]? = if o ≤ m ∧ m < o + vs.length then vs[m - o]? else l[m]? := by
  have hto : (l.take o).length = o := by simp; omega
  by_cases h1 : m < o
  · rw [if_neg (by omega), List.append_assoc, List.getElem?_append_left (by omega), List.getElem?_take, if_pos h1]
  · by_cases h2 : m < o + vs.length
    · rw [if_pos ⟨by omega, h2⟩, List.append_assoc, List.getElem?_append_right (by omega), hto, List.getElem?_append_left (by omega)]
    · rw [if_neg (by omega), List.getElem?_append_right (by simp; omega), List.getElem?_drop]
      congr 1
      simp
      omega

theorem setRow_size (w : World) (b : Nat) (c : Array Value) : (w.setRow b c).heap.size = w.heap.size := by simp [World.setRow]

theorem sound_store (hΓ : Γ.ok P = true) {o : Oper} {t : Nat} {x y : Operand} (ho : o.op = .store t x y) (H : HRel S) (F : FRel S fr a)
    (h : (aop Γ nm (ev fr) (.store t x y)).run call K S.hp = some r) (hP : Post S K r fun v w => next (a.put o.dst v) w) : o.wp P a S.w next Q := by
  simp only [aop] at h
  obtain ⟨k, hk, h⟩ := run_opt_inv h
  obtain ⟨T⟩ := kOk_ty (TEnv.kind_ok hΓ hk)
  have hx := ev_rel F x
  obtain ⟨ls, hls, h⟩ := run_opt_inv h
  obtain ⟨hv, hone⟩ := leaves_rel (ev_rel F y) hls
  have hnm := AV.leaves_names (ev_names F y) hls
  split at h
  · rename_i hlen
    have hvl : (a.eval y).cells.toList.length = k.size := by rw [hv.length, hlen]
    have fin : ∀ (n b off : Nat) (c : Array Value) (E : TypeId) (c' : Cell), a.eval x = .pointer (some ⟨b, off, none⟩) → cellLive (S.hp n) → hasBlk (S.ρ n) b →
        S.w.heap[b]? = some (.cells c E (0, 0)) → off + k.size ≤ c.size → sameShape (S.hp n) c' →
        (∀ S' : Sit, S'.ρ = S.ρ → S'.I = S.I → S'.B = S.B → Ext Top S S' → S'.w.heap[b]? = some (.cells (c.toList.take off ++ (a.eval y).cells.toList ++ c.toList.drop (off + k.size)).toArray E (0, 0)) → ObjAt S' n c') →
        (∀ cs, c' = .box cs → AV.namesL (fun m => S.hp m ≠ .free) cs) →
        K .undef (upd S.hp n c') = some r → o.wp P a S.w next Q := by
      intro n b off c E c' hp hl hb hg hfit hs hob hnb hkk
      have hrun := T.run_store S.w hg hvl hfit hone
      obtain ⟨H', E'⟩ := H.write hl c' (S.w.setRow b (c.toList.take off ++ (a.eval y).cells.toList ++ c.toList.drop (off + k.size)).toArray) hs
        (fun b' hb' => setRow_other _ _ _ _ (fun e => hb' (e ▸ hb))) (setRow_size _ _ _)
        (fun E' => hob _ rfl rfl rfl E' (setRow_heap S.w b c _ E (0, 0) hg)) hnb
      refine wp_skipped (w' := S.w.setRow b (c.toList.take off ++ (a.eval y).cells.toList ++ c.toList.drop (off + k.size)).toArray) ?_
        (hP .undef undef _ hkk H' E' .undef_mk (by unfold AV.names; trivial))
      simp only [execOp, ho, hp, Instr.storeAt, Instr.sureAddr, Sem.run_bind, Sem.run_pure, Result.andThen_ok, hrun]
    split at h
    · rename_i n off he
      rw [he] at hx
      have h := run_rd_inv h
      split at h
      · rename_i cs hcs
        split at h
        · rename_i hfit
          unfold VRel at hx
          rw [hcs] at hx
          obtain ⟨_, b, hb, hp⟩ := hx
          have ho' := H.ob n
          rw [hcs] at ho'
          obtain ⟨b', c, E, g1, g2, g3, g4, g5, g6⟩ := ho'
          have : b' = b := by unfold blockAt at g1 hb; rw [g1] at hb; simpa using hb
          subst this
          have hcl : c.toList.length = cs.length := g5.length
          refine fin n b' off c E _ hp (by rw [hcs]; rfl) (by rw [show S.ρ n = _ from hb]; rfl) g2 (by simp at hcl; omega)
            (by rw [hcs]; exact splice_length (by omega)) ?_ ?_ (run_pure_inv (run_wr_inv h))
          · intro S' e1 e2 e3 E' hw
            refine box_obj (b := b') (by rw [e1]; exact hb) hw (by rw [e2]; exact g3) (by rw [e3]; exact g4) ?_ ?_
            · have h5 := VRelL.ext E' cs (AV.namesL_imp (fun m hm => ⟨trivial, hm⟩) _ (H.nb n cs hcs)) g5
              have h6 := VRelL.ext E' ls (AV.namesL_imp (fun m hm => ⟨trivial, hm⟩) _ hnm) hv
              have := h5.splice off h6
              rwa [hvl] at this
            · intro u hu
              rcases List.mem_append.1 hu with hu | hu
              · rcases List.mem_append.1 hu with hu | hu
                · exact g6 u (List.mem_of_mem_take hu)
                · exact hone u hu
              · exact g6 u (List.mem_of_mem_drop hu)
          · intro ds hds
            cases hds
            exact splice_names (H.nb n cs hcs) hnm
        · cases h
      · cases h
    · rename_i n i sub he
      rw [he] at hx
      have h := run_rd_inv h
      split at h
      · rename_i el xs hcs
        split at h
        · rename_i hfit
          obtain ⟨z, hz, h⟩ := run_opt_inv h
          unfold VRel at hx
          rw [hcs] at hx
          obtain ⟨_, hi, b, cap, hb, hp⟩ := hx
          have ho' := H.ob n
          rw [hcs] at ho'
          rcases ho' with ⟨g1, g2⟩ | ⟨b', cap', c, E, g1, g2, g3, g4, g5, g6, g7, g8⟩
          · omega
          · have : b' = b := by unfold rowAtV at g1 hb; rw [g1] at hb; simp at hb; exact hb.1
            subst this
            obtain ⟨us, g9, g10⟩ := g8 i hi
            have hus := RelK.length el g9
            have hrow : (i + 1) * el.size ≤ c.size := by rw [g7]; exact Nat.mul_le_mul_right _ (by omega)
            rw [Nat.succ_mul] at hrow
            refine fin n b' (i * el.size + sub) c E (.row el (xs.set i z)) hp (by rw [hcs]; rfl) (by rw [show S.ρ n = _ from g1]; rfl) g2 (by omega)
              (by rw [hcs]; exact ⟨rfl, by simp⟩) ?_ (fun cs hcs => by cases hcs) (run_pure_inv (run_wr_inv h))
            intro S' e1 e2 e3 E' hw
            refine .inr ⟨b', cap', _, E, by unfold rowAtV; rw [e1, List.length_set]; exact g1, hw, by rw [e2]; exact g3, by rw [e3]; exact g4, by rw [List.length_set]; exact g5, g6, ?_, ?_⟩
            · have hvs : (a.eval y).cells.size = k.size := by simpa using hvl
              simp; omega
            · intro j hj
              rw [List.length_set] at hj
              by_cases hji : j = i
              · subst hji
                have h7 := oneL_rel ((flat_rel el g9).splice sub hv) hz
                refine ⟨_, by rw [List.getD_eq_getElem?_getD, List.getElem?_set_self hj]; exact RelK.ext E' h7, ?_⟩
                intro m u hm
                have hml := (List.getElem?_eq_some_iff.1 hm).1
                rw [seg_get (by omega)] at hm
                simp only [List.getElem?_toArray]
                rw [show j * el.size + sub + k.size = j * el.size + sub + (a.eval y).cells.toList.length from by rw [hvl], seg_get (by simp [hvl]; omega)]
                split at hm
                · rename_i hc
                  rw [if_pos (by omega)]
                  rwa [show j * el.size + m - (j * el.size + sub) = m - sub from by omega]
                · rename_i hc
                  rw [if_neg (by omega)]
                  have := g10 m u hm
                  simpa using this
              · obtain ⟨us', h8, h9⟩ := g8 j hj
                have hus' := RelK.length el h8
                refine ⟨us', by rw [List.getD_eq_getElem?_getD, List.getElem?_set_ne (fun e => hji e.symm), ← List.getD_eq_getElem?_getD]; exact RelK.ext E' h8, ?_⟩
                intro m u hm
                have hml := (List.getElem?_eq_some_iff.1 hm).1
                simp only [List.getElem?_toArray]
                rw [show i * el.size + sub + k.size = i * el.size + sub + (a.eval y).cells.toList.length from by rw [hvl], seg_get (by simp [hvl]; omega)]
                have hne : ¬ (i * el.size + sub ≤ j * el.size + m ∧ j * el.size + m < i * el.size + sub + (a.eval y).cells.toList.length) := by
                  rcases Nat.lt_or_gt_of_ne hji with hlt | hgt
                  · have := Nat.mul_le_mul_right el.size (show j + 1 ≤ i from hlt)
                    rw [Nat.succ_mul] at this
                    omega
                  · have := Nat.mul_le_mul_right el.size (show i + 1 ≤ j from hgt)
                    rw [Nat.succ_mul] at this
                    rw [hvl]
                    omega
                rw [if_neg hne]
                have := h9 m u hm
                simpa using this
        · cases h
      · cases h
    · rename_i n off cnt i he
      rw [he] at hx
      have h := run_rd_inv h
      split at h
      · rename_i cs hcs
        split at h
        · rename_i ik ik' v hyv _ _
          split at h
          · rename_i hik
            subst hik
            obtain ⟨l, hl, h⟩ := run_opt_inv h
            unfold VRel at hx
            rw [hcs] at hx
            obtain ⟨_, hi, hoff, b, hb, hp⟩ := hx
            have ho' := H.ob n
            rw [hcs] at ho'
            obtain ⟨b', c, E, g1, g2, g3, g4, g5, g6⟩ := ho'
            have : b' = b := by unfold blockAt at g1 hb; rw [g1] at hb; simpa using hb
            subst this
            have hcl : c.toList.length = cs.length := g5.length
            obtain ⟨e1, e2⟩ := intsOf_rel ((g5.drop off).take cnt) hl
            have hlen : l.length = cnt := by rw [e2]; simp; omega
            have hyv' := ev_rel F y
            rw [hyv] at hyv'
            have hyv' := hyv'.int_inv
            have hnew : (List.range cnt).map (fun j => AV.int ik' ((l.set i v).getD j 0)) = (l.set i v).map (AV.int ik') := by
              have := range_getD (l.set i v) 0
              rw [List.length_set, hlen] at this
              conv => rhs; rw [← this]
              rw [List.map_map]
              rfl
            have hints : ∀ (m : List Int) (S : Sit), VRelL S (m.map (AV.int ik')) (m.map (Value.int ik')) := by
              intro m S
              induction m with
              | nil => exact .nil
              | cons z m ih => exact .cons .int_mk ih
            have hk1 : Kind.size (.int ik') = 1 := rfl
            have hcells : (c.toList.take (off + i) ++ (a.eval y).cells.toList ++ c.toList.drop (off + i + (Kind.int ik').size)) =
                c.toList.take off ++ (l.set i v).map (Value.int ik') ++ c.toList.drop (off + cnt) := by
              rw [hyv', hk1]
              apply List.ext_getElem?
              intro m
              have q1 := seg_get (l := c.toList) (vs := [Value.int ik' v]) (o := off + i) (m := m) (by simp at hcl ⊢; omega)
              have q2 := seg_get (l := c.toList) (vs := (l.set i v).map (Value.int ik')) (o := off) (m := m) (by simp at hcl ⊢; omega)
              simp only [List.length_map, List.length_set, hlen] at q2
              simp only [List.length_cons, List.length_nil, Nat.zero_add] at q1
              rw [show (Value.int ik' v).cells.toList = [Value.int ik' v] from rfl, q1, q2]
              by_cases c1 : off ≤ m ∧ m < off + cnt
              · rw [if_pos c1]
                by_cases c2 : m = off + i
                · subst c2
                  rw [if_pos (by omega), Nat.sub_self, show off + i - off = i from by omega, List.getElem?_map, List.getElem?_set_self (by omega)]
                  rfl
                · rw [if_neg (by omega), List.getElem?_map, List.getElem?_set_ne (by omega)]
                  have h3 : ((c.toList.drop off).take cnt)[m - off]? = (l.map (Value.int ik'))[m - off]? := by rw [e1]
                  rw [List.getElem?_take, if_pos (by omega), List.getElem?_drop, List.getElem?_map] at h3
                  rw [← h3]
                  congr 1
                  omega
              · rw [if_neg c1, if_neg (by omega)]
            refine fin n b' (off + i) c E _ hp (by rw [hcs]; rfl) (by rw [show S.ρ n = _ from hb]; rfl) g2 (by rw [hk1]; simp at hcl; omega)
              (by rw [hcs]; exact splice_length (by simp; omega)) ?_ ?_ (run_pure_inv (run_wr_inv h))
            · intro S' q1 q2 q3 E' hw
              rw [hcells] at hw
              refine box_obj (b := b') (by rw [q1]; exact hb) hw (by rw [q2]; exact g3) (by rw [q3]; exact g4) ?_ ?_
              · have h5 := VRelL.ext E' cs (AV.namesL_imp (fun m hm => ⟨trivial, hm⟩) _ (H.nb n cs hcs)) g5
                have := h5.splice off (hints (l.set i v) S')
                rw [hnew]
                simpa [hlen] using this
              · intro u hu
                rcases List.mem_append.1 hu with hu | hu
                · rcases List.mem_append.1 hu with hu | hu
                  · exact g6 u (List.mem_of_mem_take hu)
                  · obtain ⟨z, _, rfl⟩ := List.mem_map.1 hu; rfl
                · exact g6 u (List.mem_of_mem_drop hu)
            · intro ds hds
              cases hds
              refine splice_names (H.nb n cs hcs) (AV.namesL_of fun c hc => ?_)
              obtain ⟨j, _, rfl⟩ := List.mem_map.1 hc
              unfold AV.names; trivial
          · cases h
        · cases h
      · cases h
    · cases h
  · cases h

end ops
end Go.AM
