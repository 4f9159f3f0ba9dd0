/- One operation in its frame; a region in the order of its text. -/
import Derived.Test.YtdjbokdohackdaaA17
namespace Go.AM
open Go

theorem put_size (a : Act) (d : Option Tmp) (v : Value) : (a.put d v).tmps.size = a.tmps.size := by
  cases d <;> simp [Act.put]

theorem put_defers (a : Act) (d : Option Tmp) (v : Value) : (a.put d v).defers = a.defers := by
  cases d <;> rfl

theorem put_sound {S : Sit} {st st' : St} {sz : Nat} {a : Act} (G : Good S st sz a) {o : Oper} {av : AV} {v : Value} (hv : VRel S av v) (hn : av.names (fun m => S.hp m ≠ .free))
    (h : putDst sz o av st = some st') : Good S st' sz (a.put o.dst v) := by
  unfold putDst at h
  split at h
  · rename_i hd
    cases h
    rw [hd]
    exact G
  · rename_i d hd
    split at h
    · rename_i hlt
      cases h
      refine ⟨G.h, ⟨fun i => ?_, fun i => ?_, by rw [put_defers]; exact G.f.d⟩, G.e, by rw [put_size]; exact G.z⟩
      · have hds : d < a.tmps.size := by rw [G.z]; exact hlt
        rw [hd]
        simp only [Act.put, upd]
        by_cases hi : i = d
        · subst hi
          rw [if_pos rfl]
          simpa [Array.getD, hds] using hv
        · rw [if_neg hi]
          have := G.f.v i
          rwa [Array.getD_eq_getD_getElem?, Array.getElem?_setIfInBounds_ne (Ne.symm hi), ← Array.getD_eq_getD_getElem?]
      · simp only [upd]
        split
        · exact hn
        · exact G.f.n i
    · cases h

theorem tup0_mk {S : Sit} : VRel S (.tup []) undef := by unfold VRel; exact ⟨[], rfl, .nil⟩

/-- what a shared call's function does -/
def SoundEnter (P : Program) {R : Type} (enter : Enter R) : Prop :=
  ∀ (ctx : List Nat) (base g : Nat) (args : List AV) (K : AV → Hp → Option R) (hp : Hp) (r : R), enter ctx base g args K hp = some r →
    (∃ fn, P.funcs[g]? = some fn ∧ fn.body.isSome = true ∧ fn.name ≠ "runtime.NumGoroutine") ∧
    ∀ (S : Sit) (vs : List Value), HRel S → S.hp = hp → VRelL S args vs → AV.namesL (fun m => S.hp m ≠ .free) args →
      Calls P g vs.toArray S.w fun e w' => ∃ (v : Value) (av : AV) (T : Sit), e = .returned v ∧ T.w = w' ∧ HRel T ∧ Ext (Below' base) S T ∧ VRel T av v ∧ av.closed = true ∧ K av T.hp = some r

/-- f hands back a new slice with the elements that g says -/
def SoundNew (P : Program) (f : Nat) (g : List AV → Option ((e : Kind) × Option (List e.T))) : Prop :=
  (∃ fn, P.funcs[f]? = some fn ∧ fn.body.isSome = true ∧ fn.name ≠ "runtime.NumGoroutine") ∧
  ∀ (args : List AV) (r : (e : Kind) × Option (List e.T)) (xs : List r.1.T), g args = some r → r.2 = some xs →
    ∀ (w : World) (I : Nat → Prop) (vs : List Value), (∀ b, I b → b < w.heap.size) → VRelL ⟨w, I, fun _ => .nilIface, fun _ => .free, fun b => b < w.heap.size⟩ args vs →
      Calls P f vs.toArray w fun en w' => ∃ v, en = .returned v ∧ w.heap.size ≤ w'.heap.size ∧ (∀ b, b < w.heap.size → w'.heap[b]? = w.heap[b]?) ∧ SameOut w w' ∧
        v.oneCell' = true ∧ ObjAt ⟨w', I, fun _ => v, fun _ => .free, fun b => b < w.heap.size⟩ 0 (.row r.1 xs)

/-- what the soundness of a piece of code leans on -/
structure Base (P : Program) (O : Orc) (Γ : TEnv) {R : Type} (enter : Enter R) : Prop where
  X : Special P Γ O.call
  Γ : Γ.ok P = true
  C : SoundCall P O.call
  fs : ∀ g as r, O.call.av g as = some r → ∃ fn, P.funcs[g]? = some fn ∧ fn.body.isSome = true ∧ fn.name ≠ "runtime.NumGoroutine"
  E : SoundEnter P enter
  N : ∀ f, (∀ args, O.fresh f args = none) ∨ SoundNew P f (O.fresh f)

def below (S : Sit) (base : Nat) : Sit := { S with hp := fun n => if n < base then (S.hp n).only (fun n => n < base) else .free }

theorem mask_below (S : Sit) (base : Nat) : Mask (fun n => n < base) S (below S base) :=
  ⟨rfl, rfl, rfl, rfl, fun n => by
    by_cases hn : n < base
    · left; simp only [below, if_pos hn]
    · right; simp [below, hn]⟩

section
variable {P : Program} {O : Orc} {Γ : TEnv} {R : Type} {enter : Enter R}

theorem opRun_sound (B : Base P O Γ enter) {F : Fn} {o : Oper} {K : St → Option R} {S : Sit} {st : St} {a : Act} {r : R} {next : Act → World → Prop} {Q : Exit → Act → World → Prop}
    (G : Good S st F.sz a) (h : opRun O Γ enter F o K st = some r)
    (hK : ∀ T st' a', Good T st' F.sz a' → Ext (Below' F.base) S T → K st' = some r → next a' T.w) : o.wp P a S.w next Q := by
  unfold opRun at h
  split at h
  · rename_i g args hs
    unfold isShared at hs
    split at hs
    · rename_i f opargs types hop
      split at hs
      · rename_i g' cap hf
        split at hs
        · cases hs
        · split at hs
          · cases hs
          simp only [Option.some.injEq, Prod.mk.injEq] at hs
          obtain ⟨rfl, rfl⟩ := hs
          obtain ⟨⟨fn, hfn, hb, hnm⟩, hcall⟩ := B.E _ _ _ _ _ _ _ h
          obtain ⟨vs, hvs, hrun⟩ := run_call hop G.f hf hfn hb hnm
          unfold Oper.wp
          rw [hrun]
          simp only [Oper.upon]
          have M := mask_below S (F.base + 1000)
          have hnames : AV.namesL (fun m => S.hp m ≠ .free) (opargs.toList.map (ev st.fr) ++ cap) := by
            refine (AV.namesL_append _ _).2 ⟨(args_rel G.f opargs.toList).2, ?_⟩
            have := ev_names G.f f
            rw [hf] at this
            unfold AV.names at this
            exact this
          refine Calls.mono (hcall (below S (F.base + 1000)) vs (M.hrel G.h) (by simp only [below, G.e]) (VRelL.mask M _ hvs) (AV.namesL_imp (fun n hn => M.nonfree hn) _ (AV.namesL_only _ hnames))) fun e w' he => ?_
          obtain ⟨v, av, T, rfl, rfl, HT, ET, hv, hcl, hk⟩ := he
          simp only [Option.bind_eq_some_iff] at hk
          obtain ⟨st', hput, hk⟩ := hk
          have FT : FRel T (fun i => (st.fr i).only (fun n => n < F.base + 1000)) a := by
            have hn1 : ∀ i, ((st.fr i).only (fun n => n < F.base + 1000)).names (fun n => Below' (F.base + 1000) n ∧ (below S (F.base + 1000)).hp n ≠ .free) := fun i =>
              AV.names_imp (fun n hn => ⟨by simpa using hn.1, M.nonfree hn⟩) _ (AV.names_only _ (G.f.n i))
            exact ⟨fun i => VRel.ext ET _ (hn1 i) ((M.frel G.f).v i), fun i => AV.names_imp (fun n hn => ET.nonfree hn.1 hn.2) _ (hn1 i), G.f.d⟩
          refine hK T st' _ (put_sound ⟨HT, FT, rfl, G.z⟩ hv (AV.names_closed _ hcl) hput) ?_ hk
          refine (Ext.weaken (p := Below' (F.base + 1000)) (T := below S (F.base + 1000)) ?_ fun n (hn : n < F.base) => (show n < F.base + 1000 by omega)).trans (ET.weaken fun n (hn : n < F.base) => (show n < F.base + 1000 by omega))
          exact M.ext fun n hn hf hfr => by
            simp only [below, if_pos (show n < F.base + 1000 from hn)] at hfr
            exact only_free hf hfr
      · cases hs
    · cases hs
  · split at h
    · rename_i g hs
      unfold freshOf at hs
      split at hs
      · rename_i f opargs types hop
        split at hs
        · rename_i g' cap hf
          split at hs
          · rename_i hcl
            simp only [Option.bind_eq_some_iff] at h
            obtain ⟨xs, hxs, h⟩ := h
            split at h
            · rename_i hfree
              simp only [Option.bind_eq_some_iff] at h
              obtain ⟨st', hput, hk⟩ := h
              rcases B.N g' with hno | ⟨⟨fn, hfn, hb, hnm⟩, hnew⟩
              · rw [hno] at hs; cases hs
              obtain ⟨vs, hvs, hrun⟩ := run_call hop G.f hf hfn hb hnm
              unfold Oper.wp
              rw [hrun]
              simp only [Oper.upon]
              have hvs' : VRelL ⟨S.w, S.I, fun _ => .nilIface, fun _ => .free, fun b => b < S.w.heap.size⟩ (opargs.toList.map (ev st.fr) ++ cap) vs :=
                VRelL.closed (S := S) (T := ⟨S.w, S.I, fun _ => .nilIface, fun _ => .free, fun b => b < S.w.heap.size⟩) (fun b hb => ⟨hb, rfl⟩) _ hcl hvs
              refine Calls.mono (hnew _ _ xs hs hxs S.w S.I vs G.h.il hvs') fun en w' he => ?_
              obtain ⟨v, rfl, hsz, hold, hout, hone, hob⟩ := he
              have hf0 : S.hp (F.base + o.dst.getD 0) = .free := by rw [G.e]; exact hfree
              generalize hnm0 : F.base + o.dst.getD 0 = nm at *
              have ET : Ext Top S ⟨w', S.I, upd S.ρ nm v, upd S.hp nm (.row g.1 xs), S.B⟩ := by
                refine ⟨fun b hb => ⟨hb, hold b (G.h.il b hb)⟩, hsz, rfl, fun b hb => hold b (G.h.bl b hb), fun m _ hm => ?_, fun m _ hm => ?_, fun _ h _ => h, hout⟩
                · have e : m ≠ nm := fun e => hm (e ▸ hf0)
                  simp only [upd_other e]
                  by_cases hlm : cellLive (S.hp m)
                  · exact .inr ⟨trivial, sameShape_refl hlm⟩
                  · left
                    cases hcm : S.hp m <;> rw [hcm] at hlm hm <;> simp [cellLive, Cell.live] at hlm hm ⊢
                · have e : m ≠ nm := fun e => by rw [e, hf0] at hm; cases hm
                  simp only [upd_other e]; exact hm
              have hob' : ObjAt ⟨w', S.I, upd S.ρ nm v, upd S.hp nm (.row g.1 xs), S.B⟩ nm (.row g.1 xs) := by
                rcases hob with ⟨h1, h2⟩ | ⟨b, cap', c, E, h1, h2, h3, h4, h5⟩
                · exact .inl ⟨by simp only [upd_same]; exact h1, h2⟩
                · exact .inr ⟨b, cap', c, E, by simp only [upd_same]; exact h1, h2, h3, fun hB => h4 (G.h.bl _ hB), h5⟩
              have hblk : ∀ b, hasBlk v b → S.w.heap.size ≤ b := by
                intro b hbv
                rcases hob with ⟨h1, h2⟩ | ⟨b', cap', c, E, h1, h2, h3, h4, h5⟩
                · simp only at h1; rw [h1] at hbv; replace hbv : none = some b := hbv; cases hbv
                · unfold rowAtV at h1; simp only at h1; rw [h1] at hbv; replace hbv : some b' = some b := hbv; cases hbv; simp only at h4; omega
              have HT : HRel ⟨w', S.I, upd S.ρ nm v, upd S.hp nm (.row g.1 xs), S.B⟩ := by
                refine G.h.step nm ET (fun m hm => upd_other hm) (fun m hm => upd_other hm) (fun m hm hlm b hb => ⟨hold b (G.h.lt hlm hb), id⟩) ?_ ?_ ?_ ?_
                · simp only [upd_same]; exact hob'
                · intro m b hm hlm _ hb' hc
                  simp only [upd_same] at hb'
                  exact absurd (G.h.lt hlm hc) (by have := hblk b hb'; omega)
                · intro b hb; exact Nat.lt_of_lt_of_le (G.h.il b hb) hsz
                · intro cs hcs
                  simp only [upd_same] at hcs
                  cases hcs
              refine hK ⟨w', S.I, upd S.ρ nm v, upd S.hp nm (.row g.1 xs), S.B⟩ st' _ (put_sound (st := { st with hp := upd st.hp nm (.row g.1 xs) }) ⟨HT, G.f.ext ET, by rw [G.e], G.z⟩ ?_ ?_ hput) (ET.weaken fun _ _ => trivial) hk
              · unfold VRel
                simp only [upd_same]
                exact ⟨hone, trivial⟩
              · show (upd S.hp nm (.row g.1 xs)) nm ≠ .free
                rw [upd_same]; simp
            · cases h
          · cases hs
        · cases hs
      · cases hs
    rw [← G.e] at h
    refine op_sound B.Γ B.C B.fs B.X G.h G.f h fun av v T hk HT ET hv hn => ?_
    simp only [Option.bind_eq_some_iff] at hk
    obtain ⟨st', hput, hk⟩ := hk
    exact hK T st' _ (put_sound (st := { st with hp := T.hp }) ⟨HT, G.f.ext ET, rfl, G.z⟩ hv hn hput) (ET.weaken fun _ _ => trivial) hk

theorem upd_self {α : Type} {f : Nat → α} {n : Nat} {x : α} (h : f n = x) : upd f n x = f := by
  funext m
  unfold upd
  split
  · rename_i e; rw [e, h]
  · rfl

/-- a guard reads what the slot holds -/
theorem guard_wanted {S : Sit} {fr : Nat → AV} {a : Act} (F : FRel S fr a) {ops : Array Oper} {o : Oper} {j d : Nat} {want b : Bool} (hg : o.guard = some (j, want)) (hs : guardSlot ops j = some d)
    (hd : d < a.tmps.size) (hb : fr d = .bool b) : Region.wanted o (yielded ops a.tmps) = (b == want) := by
  have hv := F.v d
  rw [hb] at hv
  have hv := hv.bool_inv
  rw [Array.getD_eq_getD_getElem?, Array.getElem?_eq_getElem hd] at hv
  simp only [Option.getD_some] at hv
  unfold guardSlot at hs
  simp only [Region.wanted, hg, yielded, hs, Option.bind_some, Array.getElem?_eq_getElem hd, hv]
  cases b <;> cases want <;> rfl

theorem guard_size {S : Sit} {fr : Nat → AV} {a : Act} (F : FRel S fr a) {d : Nat} {b : Bool} (hb : fr d = .bool b) : d < a.tmps.size := by
  rcases Nat.lt_or_ge d a.tmps.size with h | h
  · exact h
  · have hv := F.v d
    rw [hb] at hv
    have hv := hv.bool_inv
    rw [Array.getD_eq_getD_getElem?, Array.getElem?_eq_none h] at hv
    cases hv

/-- a guard that was skipped itself -/
theorem guard_none {S : Sit} {fr : Nat → AV} {a : Act} (F : FRel S fr a) {ops : Array Oper} {o : Oper} {j d : Nat} {want : Bool} (hg : o.guard = some (j, want)) (hs : guardSlot ops j = some d)
    (hb : fr d = .tup []) : Region.wanted o (yielded ops a.tmps) = false := by
  have hv := F.v d
  rw [hb] at hv
  unfold VRel at hv
  obtain ⟨vs, hv, h0⟩ := hv
  have h0 := h0.nil_inv
  subst h0
  rw [Array.getD_eq_getD_getElem?] at hv
  unfold guardSlot at hs
  simp only [Region.wanted, hg, yielded, hs, Option.bind_some]
  cases hc : a.tmps[d]? with
  | none => rfl
  | some v =>
    rw [hc] at hv
    simp only [Option.getD_some] at hv
    subst hv
    rfl

theorem opsRun_sound (B : Base P O Γ enter) {F : Fn} {ops : Array Oper} {K : St → Option R} {r : R} {Q : Exit → Act → World → Prop} {S0 : Sit}
    (hK : ∀ T st' a', Good T st' F.sz a' → Ext (Below' F.base) S0 T → K st' = some r → Q .normal a' T.w) :
    ∀ (n : Nat) (l : List Oper), l.length = n → n ≤ ops.size → (∀ i, l[i]? = ops[ops.size - n + i]?) → ∀ {S : Sit} {st : St} {a : Act}, Good S st F.sz a → Ext (Below' F.base) S0 S →
      opsRun O Γ enter F ops K l st = some r → wpOps P ops Q ((List.range n).map fun i => ops.size - n + i) a S.w := by
  intro n
  induction n with
  | zero =>
    intro l hl _ _ S st a G E h
    cases l with
    | nil => exact hK S st a G E h
    | cons => cases hl
  | succ n ih =>
    intro l hl hn hat S st a G E h
    cases l with
    | nil => cases hl
    | cons o rest =>
      have hrest : rest.length = n := by simpa using hl
      have hat' : ∀ i, rest[i]? = ops[ops.size - n + i]? := fun i => by
        have := hat (i + 1)
        simp only [List.getElem?_cons_succ] at this
        rw [this]
        congr 1
        omega
      have ho : ops[ops.size - (n + 1)]? = some o := by
        have := hat 0
        simpa using this.symm
      have hlist : ((List.range (n + 1)).map fun i => ops.size - (n + 1) + i) = (ops.size - (n + 1)) :: (List.range n).map fun i => ops.size - n + i := by
        rw [List.range_succ_eq_map]
        simp only [List.map_cons, Nat.add_zero, List.map_map, List.cons.injEq, true_and]
        apply List.map_congr_left
        intro i _
        simp only [Function.comp]
        omega
      rw [hlist, wpOps_cons]
      have next : ∀ T st' a', Good T st' F.sz a' → Ext (Below' F.base) S T → opsRun O Γ enter F ops K rest st' = some r → wpOps P ops Q ((List.range n).map fun i => ops.size - n + i) a' T.w :=
        fun T st' a' GT ET hk => ih rest hrest (by omega) hat' GT (E.trans ET) hk
      unfold wpOp
      simp only [ho]
      unfold opsRun at h
      have skip : ∀ st1 : St, st1 = st → (putDst F.sz o (.tup []) st1).bind (opsRun O Γ enter F ops K rest) = some r → wpOps P ops Q ((List.range n).map fun i => ops.size - n + i) (a.put o.dst undef) S.w := by
        rintro st1 rfl h
        simp only [Option.bind_eq_some_iff] at h
        obtain ⟨st', hput, hk⟩ := h
        exact next S st' _ (put_sound G tup0_mk (AV.names_closed _ rfl) hput) (Ext.refl S) hk
      split at h
      · rename_i hg
        have hw : Region.wanted o (yielded ops a.tmps) = true := by simp [Region.wanted, hg]
        rw [if_pos hw]
        exact .inl (opRun_sound B G h next)
      · rename_i j want hg
        split at h
        · cases h
        · rename_i d hs
          split at h
          · rename_i b hb
            have hw := guard_wanted G.f hg hs (guard_size G.f hb) hb
            rw [hw]
            cases b
            · rw [if_neg (by simp)] at h
              have he : ({ st with fr := upd st.fr d (.bool false) } : St) = st := by rw [upd_self hb]
              cases want
              · rw [if_neg (by simp), he] at h
                rw [if_pos (by rfl)]
                exact .inl (opRun_sound B G h next)
              · rw [if_pos rfl] at h
                rw [if_neg (by simp)]
                exact skip _ he h
            · rw [if_pos rfl] at h
              have he : ({ st with fr := upd st.fr d (.bool true) } : St) = st := by rw [upd_self hb]
              cases want
              · rw [if_neg (by simp)] at h
                rw [if_neg (by simp)]
                exact skip _ he h
              · rw [if_pos rfl, he] at h
                rw [if_pos (by rfl)]
                exact .inl (opRun_sound B G h next)
          · rename_i hb
            rw [guard_none G.f hg hs hb, if_neg (by simp)]
            exact skip st rfl h
          · cases h

end
end Go.AM
