/- Each operation, fourth part: maps, make, slicing, append, numbers, calls. -/
import Derived.Test.YtdjbokdohackdaaA11
import Derived.Laws.Slices
namespace Go.AM
open Go

theorem RelL.replicate {α : Type} {R : α → List Value → Prop} {d : α} {zs : List Value} (h : R d zs) : ∀ n, RelL R (List.replicate n d) (List.replicate n zs).flatten
  | 0 => rfl
  | n + 1 => by rw [List.replicate_succ, List.replicate_succ, List.flatten_cons]; exact ⟨zs, _, rfl, h, RelL.replicate h n⟩

/-- an abstract call's answer is the function's: it returns, leaves all that was there, and its value holds no reference -/
def SoundCall (P : Program) (call : Call) : Prop :=
  ∀ (f : Nat) (args : List AV) (r : AV), call.av f args = some r →
    ∀ (w : World) (I : Nat → Prop) (vs : List Value), (∀ b, I b → b < w.heap.size) → VRelL ⟨w, I, fun _ => .nilIface, fun _ => .free, fun b => b < w.heap.size⟩ args vs →
      Calls P f vs.toArray w fun e w' => ∃ v, e = .returned v ∧ r.closed = true ∧ w.heap.size ≤ w'.heap.size ∧ (∀ b, b < w.heap.size → w'.heap[b]? = w.heap[b]?) ∧ SameOut w w' ∧
        VRel ⟨w', fun b => I b ∨ (w.heap.size ≤ b ∧ b < w'.heap.size), fun _ => .nilIface, fun _ => .free, fun b => b < w.heap.size⟩ r v

mutual
theorem VRel.closed {S T : Sit} (hI : ∀ b, S.I b → T.I b ∧ T.w.heap[b]? = S.w.heap[b]?) : ∀ (c : AV) {v : Value}, c.closed = true → VRel S c v → VRel T c v
  | .undef, v, _, h => by unfold VRel; trivial
  | .bool _, v, _, h => by unfold VRel at h ⊢; exact h
  | .int _ _, v, _, h => by unfold VRel at h ⊢; exact h
  | .str _, v, _, h => by unfold VRel at h ⊢; exact h
  | .sl e xs, v, _, h => by unfold VRel at h ⊢; exact RelK.later hI _ h
  | .nilsl, v, _, h => by unfold VRel at h ⊢; exact h
  | .nilp, v, _, h => by unfold VRel at h ⊢; exact h
  | .nilfn, v, _, h => by unfold VRel at h ⊢; exact h
  | .nilmap, v, _, h => by unfold VRel at h ⊢; exact h
  | .nilif, v, _, h => by unfold VRel at h ⊢; exact h
  | .ref _, _, hc, _ => by simp [AV.closed] at hc
  | .pref _ _, _, hc, _ => by simp [AV.closed] at hc
  | .ptr _ _, _, hc, _ => by simp [AV.closed] at hc
  | .eptr _ _ _, _, hc, _ => by simp [AV.closed] at hc
  | .aptr _ _ _ _, _, hc, _ => by simp [AV.closed] at hc
  | .mapr _, _, hc, _ => by simp [AV.closed] at hc
  | .mref _ _, _, hc, _ => by simp [AV.closed] at hc
  | .keys _ _ _, _, hc, _ => by simp [AV.closed] at hc
  | .iptr _, _, hc, _ => by simp [AV.closed] at hc
  | .fn f cap, v, hc, h => by
    unfold AV.closed at hc
    unfold VRel at h ⊢
    obtain ⟨vs, h1, h2⟩ := h
    exact ⟨vs, h1, VRelL.closed hI cap hc h2⟩
  | .agg cs, v, hc, h => by
    unfold AV.closed at hc
    unfold VRel at h ⊢
    obtain ⟨vs, h1, h2, h3⟩ := h
    exact ⟨vs, h1, VRelL.closed hI cs hc h2, h3⟩
  | .tup cs, v, hc, h => by
    unfold AV.closed at hc
    unfold VRel at h ⊢
    obtain ⟨vs, h1, h2⟩ := h
    exact ⟨vs, h1, VRelL.closed hI cs hc h2⟩
theorem VRelL.closed {S T : Sit} (hI : ∀ b, S.I b → T.I b ∧ T.w.heap[b]? = S.w.heap[b]?) : ∀ (cs : List AV) {vs : List Value}, AV.closedL cs = true → VRelL S cs vs → VRelL T cs vs
  | [], vs, _, h => by rw [h.nil_inv]; exact .nil
  | c :: cs, vs, hc, h => by
    have hc : (c.closed && AV.closedL cs) = true := hc
    rw [Bool.and_eq_true] at hc
    obtain ⟨v, s, rfl, h1, h2⟩ := h.cons_inv
    exact .cons (VRel.closed hI c hc.1 h1) (VRelL.closed hI cs hc.2 h2)
end

theorem VK.later {w w' : World} {I I' : Nat → Prop} (hI : ∀ b, I b → I' b ∧ w'.heap[b]? = w.heap[b]?) {k : Kind} {x : k.T} {v : Value} (h : VK w I k x v) : VK w' I' k x v := by
  unfold VK at h ⊢
  split
  · rename_i hk; rw [if_pos hk] at h; obtain ⟨vs, a1, a2⟩ := h; exact ⟨vs, a1, RelK.later hI k a2⟩
  · rename_i hk; rw [if_neg hk] at h; exact RelK.later hI k h

theorem EntriesAt.later {w w' : World} {I I' : Nat → Prop} (hI : ∀ b, I b → I' b ∧ w'.heap[b]? = w.heap[b]?) {k v : Kind} : ∀ {es : List (k.T × v.T)} {ms : List MapEntry}, EntriesAt w I k v es ms → EntriesAt w' I' k v es ms
  | [], _, h => h
  | _ :: _, _, ⟨m, s, e, h1, h2, h3⟩ => ⟨m, s, e, h1.later hI, h2.later hI, EntriesAt.later hI h3⟩

theorem one_rel {S : Sit} {k : Kind} {c : AV} {x : k.T} {v : Value} (h : VRel S c v) (he : one k c = some x) : VK S.w S.I k x v := by
  unfold one at he
  by_cases ha : k.isAgg = c.isAgg
  · rw [if_pos ha] at he
    simp only [Option.bind_eq_some_iff] at he
    obtain ⟨cs, hcs, he⟩ := he
    unfold VK
    cases hca : c.isAgg with
    | true =>
      rw [if_pos (ha.trans hca)]
      cases c <;> simp [AV.isAgg] at hca
      simp only [AV.leaves, Option.some.injEq] at hcs
      subst hcs
      unfold VRel at h
      obtain ⟨vs, rfl, h1, h2⟩ := h
      exact ⟨vs, rfl, oneL_rel h1 he⟩
    | false =>
      have hka := ha.trans hca
      rw [if_neg (by simp [hka])]
      obtain ⟨h1, h2⟩ := leaves_rel h hcs
      have hr := oneL_rel h1 he
      have : v.cells = #[v] := by
        cases v <;> try rfl
        rename_i vs
        exfalso
        cases c <;> simp only [AV.leaves, AV.isAgg, Option.some.injEq, reduceCtorEq, Bool.true_eq_false] at hcs hca
        all_goals
          unfold VRel at h
          first
            | (cases h; done)
            | (obtain ⟨a, len, cap, q, _⟩ := h; simp at q; done)
            | (obtain ⟨q, _⟩ := h; simp [Value.oneCell'] at q; done)
            | (obtain ⟨b, o, us, q, _⟩ := h; cases q; done)
            | (obtain ⟨us, q, _⟩ := h; cases q; done)
            | (simp [strOf] at h; done)
      rw [this] at hr
      simpa using hr
  · rw [if_neg ha] at he
    cases he

theorem ofK_rel {S : Sit} {k : Kind} {x : k.T} {v : Value} (h : VK S.w S.I k x v) : VRel S (ofK k x) v := by
  unfold ofK
  cases ha : k.isAgg with
  | true =>
    obtain ⟨vs, rfl, h1⟩ := h.agg ha
    rw [if_pos rfl]
    unfold VRel
    exact ⟨vs, rfl, flat_rel k h1, RelK.ones k h1⟩
  | false =>
    have h1 := flat_rel k (h.leaf ha)
    simp only [Bool.false_eq_true, if_false]
    split
    · rename_i c hc
      rw [hc] at h1
      obtain ⟨u, s, e, h2, h3⟩ := h1.cons_inv
      simp at e
      rw [e.1]
      exact h2
    · exact .undef_mk

theorem ofK_names {p : Nat → Prop} (k : Kind) (x : k.T) : (ofK k x).names p := by
  unfold ofK
  split
  · unfold AV.names; exact flat_names k x
  · split
    · rename_i c hc
      have := flat_names (p := p) k x
      rw [hc] at this
      unfold AV.namesL at this
      exact this.1
    · unfold AV.names; trivial

section ops
variable {P : Program} {Γ : TEnv} {call : Call} {S : Sit} {fr : Nat → AV} {a : Act} {R : Type} {K : AV → Hp → Option R} {r : R}
  {next : Act → World → Prop} {Q : Exit → Act → World → Prop} {nm : Nat}

theorem sound_makeMap {o : Oper} {t : Nat} {rv : Option Operand} (ho : o.op = .makeMap t rv) (H : HRel S)
    (h : (aop Γ nm (ev fr) (.makeMap t rv)).run call K S.hp = some r) (hP : Post S K r fun v w => next (a.put o.dst v) w) : o.wp P a S.w next Q := by
  cases rv with
  | some _ => cases h
  | none =>
    simp only [aop] at h
    obtain ⟨kv, hk, h⟩ := run_opt_inv h
    obtain ⟨hf, h⟩ := run_new_inv h
    obtain ⟨H', E'⟩ := H.alloc hf (.map kv.1 kv.2 []) (.map (some S.w.heap.size)) (S.w.alloc (.map #[] 0)) _ rfl rfl (fun cs hcs => by cases hcs)
      (fun E => ⟨S.w.heap.size, #[], 0, by simp [upd_same], heap_alloc_new _ _, fun hI => Nat.lt_irrefl _ (H.il _ hI), H.newB, rfl, MapKept.stamped_empty 0⟩)
    refine wp_value (v := .map (some S.w.heap.size)) (w' := S.w.alloc (.map #[] 0)) ?_ (hP (.mapr nm) _ _ h H' E' ?_ ?_)
    · simp [execOp, ho, Instr.makeMap]
    · unfold VRel
      refine ⟨rfl, ?_⟩
      simp only [upd_same]
    · unfold AV.names; simp [upd_same]

theorem sound_makeSlice (hΓ : Γ.ok P = true) {o : Oper} {t : Nat} {l c : Operand} (ho : o.op = .makeSlice t l c) (H : HRel S) (F : FRel S fr a)
    (h : (aop Γ nm (ev fr) (.makeSlice t l c)).run call K S.hp = some r) (hP : Post S K r fun v w => next (a.put o.dst v) w) : o.wp P a S.w next Q := by
  simp only [aop] at h
  obtain ⟨k, hk, h⟩ := run_opt_inv h
  have hok := TEnv.kind_ok hΓ hk
  have hl := ev_rel F l
  have hc := ev_rel F c
  split at h
  · rename_i el z z' hz hz'
    obtain ⟨hcond, h⟩ := run_brf_inv h
    obtain ⟨hf, hfin⟩ := run_new_inv h
    clear h
    simp only [decide_eq_true_eq] at hcond
    obtain ⟨rfl, h0, hlim⟩ := hcond
    obtain ⟨E, hu, hE⟩ := kOk_slice hok
    obtain ⟨TE⟩ := kOk_ty hE
    rw [hz] at hl
    rw [hz'] at hc
    have hl := hl.int_inv
    have hc := hc.int_inv
    unfold lim at hlim
    have hb := TE.bytes
    have hbytes : (TE.i.bytes : Int) * z ≤ 281474976710656 := by
      have h1 : (TE.i.bytes : Int) * z ≤ 128 * z := Int.mul_le_mul_of_nonneg_right (by omega) h0
      omega
    have hr := run_make (P := P) S.w t E TE.i TE.z hu TE.hi TE.hz .i64 .i64 z z h0 (Int.le_refl _) hbytes (by omega)
    have hzl : TE.z.cells.size = el.size := by
      have := RelK.length el (zero_rel (w := S.w) (I := S.I) el TE.zero)
      simpa using this
    have hmade := madeCells_list TE.z.cells z.toNat
    rw [hzl] at hmade
    have hrel := RelL.replicate (zero_rel (w := S.w) (I := S.I) el TE.zero) z.toNat
    rw [← hmade] at hrel
    obtain ⟨H', E', hv, hnm⟩ := H.newRow hf el (List.replicate z.toNat el.dflt) z.toNat (madeCells TE.z.cells (z.toNat * el.size)) E (S.w.alloc (.cells (madeCells TE.z.cells (z.toNat * el.size)) E)) rfl
      (by simp) (by rw [maxLen_val]; omega) (size_madeCells _ _)
      (fun i hi => by
        obtain ⟨us, h1, h2⟩ := hrel.get (d := el.dflt) (fun x vs hh => RelK.length el hh) i hi
        exact ⟨us, h1, fun j u hu => by have := h2 j u hu; simpa using this⟩)
    simp only [List.length_replicate] at H' E' hv hnm
    refine wp_value ?_ (hP (.ref nm) _ _ hfin H' E' hv hnm)
    rw [TE.size] at hr
    simp only [execOp, ho, hl, hc, hr, Sem.run_bind, Result.andThen_ok, Sem.run_pure]
  · cases h

theorem optInt_rel (F : FRel S fr a) {o : Option Operand} {l : Option Int} (h : optInt (ev fr) o = some l) :
    (o = none ∧ l = none) ∨ ∃ x k z, o = some x ∧ l = some z ∧ a.eval x = .int k z := by
  cases o with
  | none => simp only [optInt, Option.some.injEq] at h; exact .inl ⟨rfl, h.symm⟩
  | some x =>
    simp only [optInt] at h
    split at h
    · rename_i k z hz
      have hx := ev_rel F x
      rw [hz] at hx
      simp only [Option.some.injEq] at h
      exact .inr ⟨x, k, z, rfl, h.symm, hx.int_inv⟩
    · cases h

/-- the bounds of a slice expression, as the model takes them -/
theorem run_bounds (F : FRel S fr a) {lo hi : Option Operand} {l h : Option Int} (hl : optInt (ev fr) lo = some l) (hh : optInt (ev fr) hi = some h) (b : Bool) (len cap : Nat) (hc : len ≤ cap)
    (h1 : 0 ≤ l.getD 0) (h2 : l.getD 0 ≤ h.getD len) (h3 : h.getD len ≤ len) (w : World) :
    (Instr.sliceBounds b len cap (lo.map a.eval) (hi.map a.eval) none).run P w = .ok ((l.getD 0).toNat, (h.getD len).toNat, cap) w := by
  unfold Instr.sliceBounds
  rcases optInt_rel F hh with ⟨rfl, rfl⟩ | ⟨x, k, z, rfl, rfl, hx⟩
  · rcases optInt_rel F hl with ⟨rfl, rfl⟩ | ⟨x', k', z', rfl, rfl, hx'⟩
    · simp
    · simp only [Option.getD_some, Option.getD_none] at h1 h2 h3
      simp [hx', run_sliceBound w k' z' _ _ h1 (show z' ≤ (len : Int) from h2)]
  · rcases optInt_rel F hl with ⟨rfl, rfl⟩ | ⟨x', k', z', rfl, rfl, hx'⟩
    · simp only [Option.getD_some, Option.getD_none] at h1 h2 h3
      simp [hx, run_sliceBound w k z cap _ h2 (by omega)]
    · simp only [Option.getD_some] at h1 h2 h3
      simp [hx, hx', run_sliceBound w k z cap _ (by omega) (by omega), run_sliceBound w k' z' z.toNat _ h1 (by omega)]

theorem sound_slice (hΓ : Γ.ok P = true) {o : Oper} {t : Nat} {x : Operand} {lo hi mx : Option Operand} (ho : o.op = .slice t x lo hi mx) (H : HRel S) (F : FRel S fr a)
    (h : (aop Γ nm (ev fr) (.slice t x lo hi mx)).run call K S.hp = some r) (hP : Post S K r fun v w => next (a.put o.dst v) w) : o.wp P a S.w next Q := by
  cases mx with
  | some _ => cases h
  | none =>
    simp only [aop] at h
    obtain ⟨k, hk, ha⟩ := run_opt_inv h
    clear h
    obtain ⟨l, hl, hb⟩ := run_opt_inv ha
    clear ha
    obtain ⟨hh, hhi, h⟩ := run_opt_inv hb
    clear hb
    have hok := TEnv.kind_ok hΓ hk
    have hx := ev_rel F x
    have hn := ev_names F x
    split at h
    · rename_i ke el xs hxs
      obtain ⟨E, hu, hE⟩ := kOk_slice hok
      obtain ⟨TE⟩ := kOk_ty hE
      rw [hxs] at hx
      split at h
      · rename_i hke
        obtain ⟨hc, hfin⟩ := run_brf_inv h
        clear h
        subst hke
        simp only [decide_eq_true_eq] at hc
        obtain ⟨ad, len, cap, hp, hlen, hcap, hs⟩ := hx.sl_inv
        have hp : a.eval x = .slice ad len cap := by simpa using hp
        subst hlen
        have hb := run_bounds (P := P) F hl hhi true xs.length cap hcap hc.1 hc.2.1 hc.2.2 S.w
        generalize l.getD 0 = lv at hc hb hfin
        generalize hh.getD (xs.length : Int) = hv at hc hb hfin
        refine wp_value (v := .slice (if cap = lv.toNat then ad else ad.map (·.add (lv.toNat * el.size))) (hv.toNat - lv.toNat) (cap - lv.toNat)) ?_ (hP.stay H (run_pure_inv hfin) ?_ (by unfold AV.names; trivial))
        · simp only [execOp, ho, hp, Instr.sliceAt, Instr.slice, Sem.run_bind, run_underlying hu, Result.andThen_ok, Option.map_none, hb, TE.run_size, Sem.run_pure]
        · refine .sl_mk ⟨_, _, _, rfl, by rw [List.length_drop, List.length_take]; omega, by omega, ?_⟩
          rcases hs with hs | ⟨b, oo, rfl, hI, hs⟩
          · left; omega
          · by_cases hz : hv.toNat - lv.toNat = 0
            · exact .inl hz
            · right
              rw [if_neg (by omega)]
              refine ⟨b, oo + lv.toNat * el.size, by simp [Addr.add_lit], hI, fun i hi' => ?_⟩
              obtain ⟨us, h1, h2⟩ := hs (lv.toNat + i) (by omega)
              refine ⟨us, ?_, by rw [show oo + lv.toNat * el.size + i * el.size = oo + (lv.toNat + i) * el.size from by rw [Nat.add_mul]; omega]; exact h2⟩
              show RelK S.w S.I el (((xs.take hv.toNat).drop lv.toNat).getD i el.dflt) us
              rw [List.getD_eq_getElem?_getD, List.getElem?_drop, List.getElem?_take, if_pos (by omega), ← List.getD_eq_getElem?_getD]
              exact h1
      · cases h
    · rename_i ke n hxs
      obtain ⟨E, hu, hE⟩ := kOk_slice hok
      obtain ⟨TE⟩ := kOk_ty hE
      rw [hxs] at hx hn
      replace h := run_rd_inv h
      split at h
      · rename_i el xs hes
        split at h
        · rename_i hke
          obtain ⟨hc, hfin⟩ := run_brf_inv h
          clear h
          obtain ⟨hk1, rfl⟩ := hke
          subst hk1
          simp only [decide_eq_true_eq] at hc
          unfold VRel at hx
          rw [hes] at hx
          obtain ⟨_, hp⟩ := hx
          have hrow : ∃ ad cap, S.ρ n = .slice ad xs.length cap ∧ xs.length ≤ cap := by
            have ho' := H.ob n
            rw [hes] at ho'
            rcases ho' with ⟨g1, g2⟩ | ⟨b, cap, c, E', g1, g2, g3, g4, g5, _⟩
            · exact ⟨none, 0, by rw [g1, g2], by omega⟩
            · exact ⟨_, cap, g1, g5⟩
          obtain ⟨ad, cap, hr1, hr2⟩ := hrow
          have hb := run_bounds (P := P) F hl hhi true xs.length cap hr2 (by simp) (by simpa using hc.1) hc.2 S.w
          simp only [Option.getD_none, Int.toNat_zero] at hb
          generalize hh.getD (xs.length : Int) = hv at hc hb hfin
          refine wp_value (v := .slice ad hv.toNat cap) ?_ (hP.stay H (run_pure_inv hfin) ?_ hn)
          · rw [hr1] at hp
            simp only [execOp, ho, hp, Instr.sliceAt, Instr.slice, Sem.run_bind, run_underlying hu, Result.andThen_ok, Option.map_none, hb, TE.run_size, Sem.run_pure]
            by_cases hcz : cap = 0
            · simp [hcz]
            · rw [if_neg hcz]
              cases ad <;> simp [Addr.add_zero']
          · unfold VRel
            refine ⟨rfl, ?_⟩
            rw [hes]
            exact ⟨ad, cap, hr1, by omega, rfl⟩
        · cases h
      · cases h
    · rename_i s hxs
      rw [hxs] at hx
      obtain ⟨hc, hfin⟩ := run_brf_inv h
      clear h
      simp only [decide_eq_true_eq] at hc
      have hp := hx.str_inv
      have hb := run_bounds (P := P) F hl hhi false s.length s.length (Nat.le_refl _) hc.1 hc.2.1 hc.2.2 S.w
      generalize l.getD 0 = lv at hc hb hfin
      generalize hh.getD (s.length : Int) = hv at hc hb hfin
      have hsz : (ByteArray.mk s.toArray).size = s.length := by simp [ByteArray.size]
      refine wp_value (v := .string ((ByteArray.mk s.toArray).extract lv.toNat hv.toNat)) ?_ (hP.stay H (run_pure_inv hfin) ?_ (by unfold AV.names; trivial))
      · simp only [execOp, ho, hp, strOf, Instr.sliceAt, Instr.slice, Sem.run_bind, run_underlying (kOk_str hok), Result.andThen_ok, Option.map_none, Option.isSome_none, Bool.false_eq_true, if_false, hsz, hb, Sem.run_pure]
      · unfold VRel strOf
        congr 1
        apply ByteArray.ext
        apply Array.ext'
        simp [ByteArray.data_extract, List.extract_eq_take_drop, List.drop_take]
    · cases h

theorem run_fnChain_inv {k v : Kind} {x : k.T} : ∀ {es : List (k.T × v.T)} {h : Hp}, (fnChain k v x es).run call K h = some r → K (ofK v ((mget k x es).getD v.dflt)) h = some r
  | [], _, e => run_pure_inv e
  | p :: es, _, e => by
    unfold fnChain at e
    unfold mget
    rcases run_br_inv e with ⟨hb, e⟩ | ⟨hb, e⟩
    · rw [if_pos hb]; exact run_pure_inv e
    · rw [if_neg (by simp [hb])]; exact run_fnChain_inv e

theorem sound_lookup (hΓ : Γ.ok P = true) {o : Oper} {t : Nat} {x i : Operand} {ok : Bool} (ho : o.op = .lookup t x i ok) (H : HRel S) (F : FRel S fr a)
    (h : (aop Γ nm (ev fr) (.lookup t x i ok)).run call K S.hp = some r) (hP : Post S K r fun v w => next (a.put o.dst v) w) : o.wp P a S.w next Q := by
  simp only [aop] at h
  obtain ⟨⟨kk, vk⟩, hk, h⟩ := run_opt_inv h
  obtain ⟨KT, VT, hu, hK, hV, hdp⟩ := TEnv.map_ok hΓ hk
  obtain ⟨TV⟩ := kOk_ty hV
  split at h
  · rename_i hko
    obtain ⟨key, hkey, h⟩ := run_opt_inv h
    have hi := one_rel (ev_rel F i) hkey
    have hx := ev_rel F x
    split at h
    · rename_i n hxn
      rw [hxn] at hx
      replace h := run_rd_inv h
      split at h
      · rename_i k v es hes
        split at h
        · rename_i hkk
          simp only at hkk hK hko hi hV TV h hdp
          subst hkk
          simp only at h
          split at h
          · rename_i hvv
            subst hvv
            unfold VRel at hx
            rw [hes] at hx
            obtain ⟨_, hp⟩ := hx
            have ho' := H.ob n
            rw [hes] at ho'
            obtain ⟨rb, ms, cl, g1, g2, g3, g4, g5⟩ := ho'
            obtain ⟨res, hf, hm⟩ := findKey_rel hK hko hdp hi g5.1
            have hchk := checkKey_rel (P := P) (w := S.w) ms.isEmpty hK hko 10000 (by omega) hi
            have hgo : (getObj rb).run P S.w = .ok (.map ms cl) S.w := by simp [getObj, Sem.run, g2]
            obtain ⟨u, hrun, hu'⟩ : ∃ u : Value, (Instr.lookup t (a.eval x) (a.eval i) ok).run P S.w = .ok (if ok then .tuple #[u, .bool (mget k key es).isSome] else u) S.w ∧ VK S.w S.I v ((mget k key es).getD v.dflt) u := by
              rw [hp, g1]
              simp only [Instr.lookup, Sem.run_bind, run_underlying hu, Result.andThen_ok, hgo, Sem.run_pure, hchk, hf]
              rw [mfind_get key es 0]
              cases hfm : mfind k key es 0 with
              | none =>
                rw [hfm] at hm
                cases res with
                | some q => exact hm.elim
                | none =>
                  refine ⟨TV.z, ?_, ?_⟩
                  · simp [TV.run_zero]
                  · have hzr := zero_rel (w := S.w) (I := S.I) v TV.zero
                    unfold VK
                    cases hva : v.isAgg with
                    | true =>
                      rw [if_pos rfl]
                      have := TV.zagg
                      rw [hva] at this
                      cases hz : TV.z with
                      | agg zs => rw [hz] at hzr; exact ⟨zs.toList, by simp, hzr⟩
                      | _ => rw [hz] at this; simp [aggV] at this
                    | false =>
                      rw [if_neg (by simp)]
                      have := TV.zagg
                      rw [hva] at this
                      have hc : TV.z.cells = #[TV.z] := by cases hz : TV.z <;> first | rfl | (rw [hz] at this; simp [aggV] at this)
                      rw [hc] at hzr
                      simpa using hzr
              | some q =>
                rw [hfm] at hm
                cases res with
                | none => exact hm.elim
                | some q' =>
                  obtain ⟨j, y⟩ := q
                  obtain ⟨j', u⟩ := q'
                  exact ⟨u, by simp, by simpa using hm.2⟩
            cases ok with
            | true =>
              refine wp_value ?_ (hP.stay H (run_pure_inv h) ?_ ?_) (v := .tuple #[u, .bool (mget k key es).isSome])
              · simp only [execOp, ho, hrun, Sem.run_bind, Result.andThen_ok, Sem.run_pure, if_true]
              · unfold VRel; exact ⟨[u, .bool (mget k key es).isSome], rfl, .cons (ofK_rel hu') (.one .bool_mk)⟩
              · unfold AV.names AV.namesL AV.namesL AV.namesL; exact ⟨ofK_names _ _, by unfold AV.names; trivial, trivial⟩
            | false =>
              have hK' : K (ofK v ((mget k key es).getD v.dflt)) S.hp = some r := by
                rw [if_neg (by simp)] at h
                split at h
                · exact run_fnChain_inv h
                · exact run_pure_inv h
              refine wp_value ?_ (hP.stay H hK' (ofK_rel hu') (ofK_names _ _)) (v := u)
              simp [execOp, ho, hrun]
          · cases h
        · cases h
      · cases h
    · cases h
  · cases h

/-- an update of a map -/
theorem mapUpdate_run {t : Nat} {m i x : Operand} {k v : Kind} {KT VT : TypeId} (hu : P.underlying t = some (.map KT VT)) (hK : kOk P k KT = true) (hdp : k.deep ≤ 50) (hko : k.keyOk = true)
    {key : k.T} {val : v.T} (hi : VK S.w S.I k key (a.eval i)) (hy : VK S.w S.I v val (a.eval x)) {rb : Nat} {ms : Array MapEntry} {cl : Nat} {es : List (k.T × v.T)}
    (hp : a.eval m = .map (some rb)) (g2 : S.w.heap[rb]? = some (.map ms cl)) (g5 : EntriesAt S.w S.I k v es ms.toList) (gs : MapKept.Stamped ms cl) :
    ∃ ms' cl', (Instr.mapUpdate t (a.eval m) (a.eval i) (a.eval x)).run P S.w = .ok () { S.w with heap := S.w.heap.setIfInBounds rb (.map ms' cl') } ∧
      EntriesAt S.w S.I k v (mput k key val es) ms'.toList ∧ MapKept.Stamped ms' cl' := by
  obtain ⟨res, hf, hm⟩ := findKey_rel hK hko hdp hi g5
  have hchk := checkKey_rel (P := P) (w := S.w) false hK hko 10000 (by omega) hi
  have hgo : (getObj rb).run P S.w = .ok (.map ms cl) S.w := by simp [getObj, Sem.run, g2]
  have hso : ∀ ob : Obj, (setObj rb ob).run P S.w = .ok () { S.w with heap := S.w.heap.setIfInBounds rb ob } := fun ob => by simp [setObj, Sem.run, g2]
  have hlt : rb < S.w.heap.size := (Array.getElem?_eq_some_iff.1 g2).1
  rw [hp]
  simp only [Instr.mapUpdate, Sem.run_bind, run_underlying hu, Result.andThen_ok, hgo, hchk, hf]
  obtain ⟨q1, q2⟩ := mfind_put (k := k) key val es 0
  cases hfm : mfind k key es 0 with
  | none =>
    rw [hfm] at hm
    cases res with
    | some q => exact hm.elim
    | none =>
      refine ⟨_, _, by simp only [hso]; rfl, ?_⟩
      rw [q1 hfm, Array.toList_push]
      refine ⟨EntriesAt.append hi hy g5, MapKept.stamped_push gs fun x hx e => ?_⟩
      obtain ⟨p, hp1, hp2⟩ := EntriesAt.mem g5 hx
      rw [e] at hp2
      exact mfind_none key es 0 hfm p hp1 (key_injV hko hi hp2)
  | some q =>
    rw [hfm] at hm
    obtain ⟨j, y⟩ := q
    cases res with
    | none => exact hm.elim
    | some q' =>
      obtain ⟨j', u⟩ := q'
      obtain ⟨rfl, hu'⟩ := hm
      obtain ⟨n', q, e1, e2, e3, e4⟩ := q2 j' y hfm
      rw [Nat.zero_add] at e1
      subst e1
      have hkq := eqB_true hko e3
      obtain ⟨me, m1, m2, m3⟩ := EntriesAt.get g5 e2
      rw [← hkq] at m2
      have m1' : ms[j']? = some me := by simpa using m1
      obtain ⟨hs1, hs2⟩ := key_same hko m2 hi
      refine ⟨_, _, by
        simp only [m1', Option.map_some, Option.getD_some, Instr.keyThatStays, hs1, hs2, if_true, Sem.run_bind, Sem.run_pure, Result.andThen_ok, hso]
        rfl, ?_⟩
      rw [e4]
      have hmod : (ms.modify j' fun e => { e with key := a.eval i, val := a.eval x }).toList = ms.toList.set j' { me with key := a.eval i, val := a.eval x } := by
        apply List.ext_getElem?
        intro z
        simp only [Array.getElem?_toList, Array.getElem?_modify]
        by_cases hz : j' = z
        · subst hz
          rw [if_pos rfl, m1', List.getElem?_set_self (by simpa using (Array.getElem?_eq_some_iff.1 m1').1)]
          rfl
        · rw [if_neg hz, List.getElem?_set_ne hz]
          simp
      rw [hmod]
      refine ⟨EntriesAt.set (m := { me with key := a.eval i, val := a.eval x }) hi hy j' g5, MapKept.stamped_modify gs j' _ (fun _ _ => rfl) fun e _ he => ?_⟩
      rw [m1', Option.some.injEq] at he
      subst he
      exact hs1.symm

theorem sound_mapUpdate (hΓ : Γ.ok P = true) {o : Oper} {t : Nat} {m i x : Operand} (ho : o.op = .mapUpdate t m i x ∨ o.op = .insert t m i x) (H : HRel S) (F : FRel S fr a)
    (h : (aop Γ nm (ev fr) (.mapUpdate t m i x)).run call K S.hp = some r) (hP : Post S K r fun v w => next (a.put o.dst v) w) : o.wp P a S.w next Q := by
  simp only [aop] at h
  obtain ⟨⟨kk, vk⟩, hk, h⟩ := run_opt_inv h
  obtain ⟨KT, VT, hu, hK, hV, hdp⟩ := TEnv.map_ok hΓ hk
  split at h
  · rename_i hko
    obtain ⟨key, hkey, h⟩ := run_opt_inv h
    obtain ⟨val, hval, h⟩ := run_opt_inv h
    have hi := one_rel (ev_rel F i) hkey
    have hy := one_rel (ev_rel F x) hval
    have hx := ev_rel F m
    split at h
    · rename_i n hxn
      rw [hxn] at hx
      replace h := run_rd_inv h
      split at h
      · rename_i k v es hes
        split at h
        · rename_i hkk
          obtain ⟨hk1, hk2⟩ := hkk
          simp only at hk1 hk2 hK hko hi hV h hdp hy
          subst hk1 hk2
          simp only at h
          replace h := run_wr_inv h
          unfold VRel at hx
          rw [hes] at hx
          obtain ⟨_, hp⟩ := hx
          have ho' := H.ob n
          rw [hes] at ho'
          obtain ⟨rb, ms, cl, g1, g2, g3, g4, g5⟩ := ho'
          have hlt : rb < S.w.heap.size := (Array.getElem?_eq_some_iff.1 g2).1
          obtain ⟨ms', cl', hrun, hent⟩ := mapUpdate_run (a := a) hu hK hdp hko hi hy (hp.trans g1) g2 g5.1 g5.2
          obtain ⟨H', E'⟩ := H.write (n := n) (by rw [hes]; rfl) (.map k v (mput k key val es)) { S.w with heap := S.w.heap.setIfInBounds rb (.map ms' cl') } (by rw [hes]; exact ⟨rfl, rfl⟩)
            (fun b hb => by
              have : b ≠ rb := fun e => hb (by rw [g1, e]; rfl)
              simp [Ne.symm this])
            (by simp)
            (fun E => ⟨rb, ms', cl', g1, by simp [hlt], g3, g4, EntriesAt.later E.i hent.1, hent.2⟩)
            (fun cs hcs => by cases hcs)
          refine wp_skipped (w' := { S.w with heap := S.w.heap.setIfInBounds rb (.map ms' cl') }) ?_ (hP .undef undef _ (run_pure_inv h) H' E' .undef_mk (by unfold AV.names; trivial))
          rcases ho with ho | ho <;> simp only [execOp, ho, hrun, Sem.run_bind, Result.andThen_ok, Sem.run_pure]
        · cases h
      · cases h
    · rename_i n j hxn
      rw [hxn] at hx
      replace h := run_rd_inv h
      split at h
      · rename_i k v ess hes
        split at h
        · rename_i hkk
          obtain ⟨hk1, hk2⟩ := hkk
          simp only at hk1 hk2 hK hko hi hV h hdp hy
          subst hk1 hk2
          simp only at h
          replace h := run_wr_inv h
          unfold VRel at hx
          rw [hes] at hx
          obtain ⟨_, hj, u, ms, hρ, hmj⟩ := hx
          have ho' := H.ob n
          rw [hes] at ho'
          obtain ⟨b, cap, c, E, ms1, q1, q2, q3, q4, q5, q6, q7, q8, q9, q10, q11⟩ := ho'
          obtain ⟨_, rfl⟩ := tuple_inj (q1.symm.trans hρ)
          obtain ⟨mv, p1, rb, ents, cl, p2, p3, p4, p5, p6⟩ := q11 j _ (List.getElem?_eq_getElem hj)
          have emv : a.eval m = .map (some rb) := by rw [hmj] at p1; cases p1; exact p2
          have egd : ess.getD j [] = ess[j] := by rw [List.getD_eq_getElem?_getD, List.getElem?_eq_getElem hj]; rfl
          have hlt : rb < S.w.heap.size := (Array.getElem?_eq_some_iff.1 p3).1
          obtain ⟨ms', cl', hrun, hent⟩ := mapUpdate_run (a := a) hu hK hdp hko hi hy emv p3 p6.1 p6.2
          have hbrb : b ≠ rb := fun e => (q10 j mv p1).2 (by rw [p2]; show some rb = some b; rw [e])
          have hself : hasBlk (S.ρ n) rb := by rw [q1]; exact ⟨mv, List.mem_cons_of_mem _ (List.mem_of_getElem? p1), by rw [p2]; rfl⟩
          obtain ⟨H', E'⟩ := H.write (n := n) (by rw [hes]; rfl) (.mrow k v (ess.set j (mput k key val (ess.getD j [])))) { S.w with heap := S.w.heap.setIfInBounds rb (.map ms' cl') } (by rw [hes]; exact ⟨rfl, rfl, by simp⟩)
            (fun b' hb => by
              have : b' ≠ rb := fun e => hb (e ▸ hself)
              simp [Ne.symm this])
            (by simp)
            (fun E' => ⟨b, cap, c, E, ms1, by simpa using q1, by simp [Ne.symm hbrb]; exact q2, q3, q4, by simpa using q5, q6, q7, by simpa using q8, q9, q10, fun i' es' hes' => by
              by_cases e : j = i'
              · subst e
                rw [List.getElem?_set_self hj, Option.some.injEq] at hes'
                subst hes'
                rw [egd]
                exact ⟨mv, p1, rb, ms', cl', p2, by simp [hlt], p4, p5, EntriesAt.later E'.i hent.1, hent.2⟩
              · rw [List.getElem?_set_ne e] at hes'
                obtain ⟨m2, y1, rb2, en2, cl2, y2, y3, y4, y5, y6⟩ := q11 i' es' hes'
                have hne : rb ≠ rb2 := fun e2 => q9 j i' _ _ e p1 y1 (by rw [p2, y2, e2])
                exact ⟨m2, y1, rb2, en2, cl2, y2, by simp [hne]; exact y3, y4, y5, EntriesAt.later E'.i y6.1, y6.2⟩⟩)
            (fun cs hcs => by cases hcs)
          refine wp_skipped (w' := { S.w with heap := S.w.heap.setIfInBounds rb (.map ms' cl') }) ?_ (hP .undef undef _ (run_pure_inv h) H' E' .undef_mk (by unfold AV.names; trivial))
          rcases ho with ho | ho <;> simp only [execOp, ho, hrun, Sem.run_bind, Result.andThen_ok, Sem.run_pure]
        · cases h
      · cases h
    · cases h
  · cases h

end ops
end Go.AM
