/- A whole function, sound. -/
import Derived.Test.YtdjbokdohackdaaA22
import Derived.Laws.Sem
namespace Go.AM
open Go

section
variable {P : Program} {O : Orc} {Γ : TEnv}

/-! ### results -/

noncomputable def readVar (tmps : Array Value) : ResultVar → Sem Value
  | .tmp t => pure (tmps.getD t undef)
  | .cell a t => do loadVar t (← asAddr (tmps.getD a undef))

theorem resultOf_sound (hΓ : Γ.ok P = true) {S : Sit} {st : St} {sz : Nat} {a : Act} (G : Good S st sz a) {x : ResultVar} {av : AV} (h : resultOf Γ st x = some av) :
    ∃ v, (readVar a.tmps x).run P S.w = .ok v S.w ∧ VRel S av v := by
  cases x with
  | tmp t =>
    simp only [resultOf, Option.some.injEq] at h
    subst h
    exact ⟨_, rfl, G.f.v t⟩
  | cell b t =>
    simp only [resultOf, Option.bind_eq_some_iff] at h
    obtain ⟨k, hk, h⟩ := h
    obtain ⟨T⟩ := kOk_ty (TEnv.kind_ok hΓ hk)
    split at h
    · rename_i n off hp
      split at h
      · rename_i cs hcs
        rw [← G.e] at hcs
        have hv := G.f.v b
        rw [hp] at hv
        unfold VRel at hv
        rw [hcs] at hv
        obtain ⟨_, blk, hb, hv⟩ := hv
        have ho := G.h.ob n
        rw [hcs] at ho
        obtain ⟨b', c, E, g1, g2, g3, g4, g5, g6⟩ := ho
        have : b' = blk := by unfold blockAt at g1 hb; rw [g1] at hb; simpa using hb
        subst this
        have hc : CellsAt S.w b' 0 c.toList := fun j u hu => by rw [Nat.zero_add, cell_of_row S.w b' j c E (0, 0) g2]; simpa using hu
        have hd := (hc.drop off).take k.size
        rw [Nat.zero_add] at hd
        obtain ⟨hl, hr⟩ := res_rel ((g5.drop off).take k.size) (fun u hu => g6 u (List.mem_of_mem_drop (List.mem_of_mem_take hu))) h
        refine ⟨_, ?_, hr⟩
        simp only [readVar, hv, asAddr, Sem.run_bind, Sem.run_pure, Result.andThen_ok, T.run_load S.w hd hl Kind.size_leaf]
      · cases h
    · cases h

theorem mapM_run {α : Type} {S : Sit} {f : α → Sem Value} {g : α → Option AV} (h : ∀ x av, g x = some av → ∃ v, (f x).run P S.w = .ok v S.w ∧ VRel S av v) :
    ∀ (l : List α) {avs : List AV}, allSome g l = some avs → ∃ vs, (l.mapM f).run P S.w = .ok vs S.w ∧ VRelL S avs vs
  | [], avs, e => by simp only [allSome, Option.some.injEq] at e; subst e; exact ⟨[], rfl, .nil⟩
  | x :: l, avs, e => by
    simp only [allSome, Option.bind_eq_some_iff, Option.map_eq_some_iff] at e
    obtain ⟨av, h1, ys, h2, rfl⟩ := e
    obtain ⟨v, r1, r2⟩ := h x av h1
    obtain ⟨vs, r3, r4⟩ := mapM_run h l h2
    refine ⟨v :: vs, ?_, .cons r2 r4⟩
    rw [List.mapM_cons]
    simp only [Sem.run_bind, r1, Result.andThen_ok, r3, Sem.run_pure]

theorem results_sound (hΓ : Γ.ok P = true) {S : Sit} {st : St} {sz : Nat} {a : Act} (G : Good S st sz a) {fn : Func} {av : AV} (h : resultsOf Γ fn st = some av) :
    ∃ v, (results fn a.tmps).run P S.w = .ok v S.w ∧ VRel S av v := by
  unfold resultsOf at h
  simp only [Option.map_eq_some_iff] at h
  obtain ⟨avs, h1, h2⟩ := h
  obtain ⟨vs, r1, r2⟩ := mapM_run (P := P) (f := readVar a.tmps) (fun x av hx => resultOf_sound hΓ G hx) fn.results.toList h1
  have e : results fn a.tmps = (fn.results.mapM (readVar a.tmps) >>= fun vs => pure (if h : vs.size = 1 then vs[0] else .tuple vs)) := by
    unfold results
    congr 1
  have hrun : (results fn a.tmps).run P S.w = .ok (if h : vs.toArray.size = 1 then vs.toArray[0] else .tuple vs.toArray) S.w := by
    rw [e, Array.mapM_eq_mapM_toList]
    simp only [Sem.run_bind, map_eq_pure_bind, r1, Result.andThen_ok, Sem.run_pure]
  refine ⟨_, hrun, ?_⟩
  subst h2
  have hlen := r2.length
  match avs, vs, r2, hlen with
  | [], [], r2, _ => unfold VRel; exact ⟨[], by simp, r2⟩
  | [x], [v], r2, _ =>
    obtain ⟨v', s, e1, h1, _⟩ := r2.cons_inv
    cases e1
    simpa using h1
  | x :: y :: r, v :: u :: s, r2, _ => unfold VRel; exact ⟨v :: u :: s, by simp, r2⟩

/-! ### leaving a frame -/

def retire (S : Sit) (base : Nat) : Sit :=
  { S with I := fun b => S.I b ∨ ∃ n, base ≤ n ∧ cellLive (S.hp n) ∧ hasBlk (S.ρ n) b, hp := fun n => if n < base then (S.hp n).only (fun n => n < base) else .free }

theorem retire_sound {S : Sit} (H : HRel S) (base : Nat) : HRel (retire S base) ∧ Ext (Below' base) S (retire S base) := by
  have M := mask_below S base
  have H1 := M.hrel H
  have E : Ext Top (below S base) (retire S base) := by
    refine ⟨fun b hb => ⟨.inl hb, rfl⟩, Nat.le_refl _, rfl, fun _ _ => rfl, fun n _ hn => ?_, fun n _ hn => hn, fun b hb hlt => hb.elim id fun ⟨n, _, hl, hbn⟩ => ?_, ⟨rfl, rfl⟩⟩
    · by_cases hl : cellLive ((below S base).hp n)
      · exact .inr ⟨rfl, sameShape_refl hl⟩
      · left
        cases hcc : (below S base).hp n with
        | free => exact absurd hcc hn
        | dead => exact hcc
        | _ => rw [hcc] at hl; exact absurd rfl hl
    · exact absurd hlt (H.geB hl hbn)
  have hlive : ∀ n, cellLive ((below S base).hp n) → n < base ∧ cellLive (S.hp n) := fun n hl => by
    simp only [below] at hl
    split at hl
    · rename_i hn
      unfold cellLive at hl ⊢
      rw [only_live] at hl
      exact ⟨hn, hl⟩
    · cases hl
  refine ⟨⟨fun n => ?_, fun n m b hnm hn hm hb => H1.ds n m b hnm hn hm hb, fun b hb => ?_, H1.bl, fun n cs hcs => H1.nb n cs hcs⟩, ?_⟩
  · by_cases hl : cellLive ((below S base).hp n)
    · refine (H1.ob n).later E (fun cs hcs => H1.nb n cs hcs) rfl fun b hb => ⟨rfl, fun hI => hI.elim id fun ⟨m, hm, hlm, hbm⟩ => ?_⟩
      obtain ⟨h1, h2⟩ := hlive n hl
      exact absurd hb (H.ds m n b (by omega) hlm h2 hbm)
    · have : (below S base).hp n = .free ∨ (below S base).hp n = .dead := by
        cases hc : (below S base).hp n <;> rw [hc] at hl <;> simp [cellLive, Cell.live] at hl <;> simp
      show ObjAt _ n ((below S base).hp n)
      rcases this with e | e <;> rw [e] <;> trivial
  · rcases hb with hb | ⟨n, _, hl, hbn⟩
    · exact H.il b hb
    · exact H.lt hl hbn
  · refine (Ext.trans (T := below S base) (M.ext fun n hn hf hfr => ?_) (E.weaken fun _ _ => trivial))
    simp only [below, if_pos (show n < base from hn)] at hfr
    exact only_free hf hfr

mutual
theorem purify_sound {S : Sit} (H : HRel S) {base : Nat} : ∀ (c : AV) {v : Value} {c' : AV}, VRel S c v → purify base S.hp c = some c' → c'.closed = true ∧ VRel (retire S base) c' v
  | .ref n, v, c', hv, h => by
    unfold purify at h
    split at h
    · rename_i hb
      split at h
      · rename_i e xs hn
        cases h
        obtain ⟨k1, _, k2, k3⟩ := frozenAt_sound H hv (y := .sl e xs) (o := some n) (by simp [frozenAt, hn])
        exact ⟨k2, k3 (retire S base) rfl (fun b hb => .inl hb) fun m b hm hbm => by cases hm; exact .inr ⟨n, hb, k1 n rfl, hbm⟩⟩
      · cases h
    · cases h
  | .pref n k, v, c', hv, h => by
    unfold purify at h
    split at h
    · rename_i hb
      split at h
      · rename_i e xs hn
        cases h
        obtain ⟨k1, _, k2, k3⟩ := frozenAt_sound H hv (y := .sl e (xs.take k)) (o := some n) (by simp [frozenAt, hn])
        exact ⟨k2, k3 (retire S base) rfl (fun b hb => .inl hb) fun m b hm hbm => by cases hm; exact .inr ⟨n, hb, k1 n rfl, hbm⟩⟩
      · cases h
    · cases h
  | .agg cs, v, c', hv, h => by
    unfold purify at h
    simp only [Option.map_eq_some_iff] at h
    obtain ⟨ds, h1, rfl⟩ := h
    unfold VRel at hv
    obtain ⟨vs, rfl, h2, h3⟩ := hv
    obtain ⟨k1, k2⟩ := purifyL_sound H cs h2 h1
    exact ⟨by unfold AV.closed; exact k1, by unfold VRel; exact ⟨vs, rfl, k2, h3⟩⟩
  | .tup cs, v, c', hv, h => by
    unfold purify at h
    simp only [Option.map_eq_some_iff] at h
    obtain ⟨ds, h1, rfl⟩ := h
    unfold VRel at hv
    obtain ⟨vs, rfl, h2⟩ := hv
    obtain ⟨k1, k2⟩ := purifyL_sound H cs h2 h1
    exact ⟨by unfold AV.closed; exact k1, by unfold VRel; exact ⟨vs, rfl, k2⟩⟩
  | .sl e xs, v, c', hv, h => by
    unfold purify at h; cases h
    refine ⟨rfl, ?_⟩
    unfold VRel at hv ⊢
    exact RelK.later (fun b hb => ⟨.inl hb, rfl⟩) _ hv
  | .bool _, v, c', hv, h => by unfold purify at h; cases h; exact ⟨rfl, by unfold VRel at hv ⊢; exact hv⟩
  | .int _ _, v, c', hv, h => by unfold purify at h; cases h; exact ⟨rfl, by unfold VRel at hv ⊢; exact hv⟩
  | .str _, v, c', hv, h => by unfold purify at h; cases h; exact ⟨rfl, by unfold VRel at hv ⊢; exact hv⟩
  | .nilsl, v, c', hv, h => by unfold purify at h; cases h; exact ⟨rfl, by unfold VRel at hv ⊢; exact hv⟩
  | .nilp, v, c', hv, h => by unfold purify at h; cases h; exact ⟨rfl, by unfold VRel at hv ⊢; exact hv⟩
  | .nilmap, v, c', hv, h => by unfold purify at h; cases h; exact ⟨rfl, by unfold VRel at hv ⊢; exact hv⟩
  | .nilfn, v, c', hv, h => by unfold purify at h; cases h; exact ⟨rfl, by unfold VRel at hv ⊢; exact hv⟩
  | .nilif, v, c', hv, h => by unfold purify at h; cases h; exact ⟨rfl, by unfold VRel at hv ⊢; exact hv⟩
  | .undef, v, c', _, h => by unfold purify at h; cases h
  | .ptr _ _, v, c', _, h => by unfold purify at h; cases h
  | .eptr _ _ _, v, c', _, h => by unfold purify at h; cases h
  | .aptr _ _ _ _, v, c', _, h => by unfold purify at h; cases h
  | .iptr _, v, c', _, h => by unfold purify at h; cases h
  | .mapr _, v, c', _, h => by unfold purify at h; cases h
  | .fn _ _, v, c', _, h => by unfold purify at h; cases h
theorem purifyL_sound {S : Sit} (H : HRel S) {base : Nat} : ∀ (cs : List AV) {vs : List Value} {ds : List AV}, VRelL S cs vs → purifyL base S.hp cs = some ds → AV.closedL ds = true ∧ VRelL (retire S base) ds vs
  | [], vs, ds, hv, h => by
    unfold purifyL at h; cases h
    cases hv.nil_inv
    exact ⟨rfl, .nil⟩
  | c :: r, vs, ds, hv, h => by
    unfold purifyL at h
    simp only [Option.bind_eq_some_iff, Option.map_eq_some_iff] at h
    obtain ⟨x, h1, y, h2, rfl⟩ := h
    obtain ⟨v, s, rfl, h3, h4⟩ := hv.cons_inv
    obtain ⟨k1, k2⟩ := purify_sound H c h3 h1
    obtain ⟨k3, k4⟩ := purifyL_sound H r h4 h2
    exact ⟨by unfold AV.closedL; rw [k1, k3]; rfl, .cons k2 k4⟩
end

/-! ### entering a function -/

/-- all loops that the oracle answers are backed -/
def LoopsAll (P : Program) (O : Orc) (Γ : TEnv) (D : Nat) : Prop :=
  ∀ (d : Nat) (ctx : List Nat) (g : Nat) (fn : Func) (c : Code), ctx.length + d = D → P.funcs[g]? = some fn → fn.body = some c → ctx.head? = some g →
    ∀ b ∈ loopBodies c, LoopOk O Γ (fun R => enterD (R := R) P O Γ D d) ⟨ctx, 1000 * (ctx.length - 1), fn.ntmps⟩ b

theorem args_good {S : Sit} (H : HRel S) {args : List AV} {vs : List Value} (hv : VRelL S args vs) (hn : AV.namesL (fun m => S.hp m ≠ .free) args) {n : Nat} (hl : args.length ≤ n) :
    Good S { fr := argsFr args, hp := S.hp } n { tmps := vs.toArray ++ Array.replicate (n - vs.toArray.size) undef, defers := [] } := by
  have hlen := hv.length
  refine ⟨H, ⟨fun i => ?_, fun i => ?_, rfl⟩, rfl, by simp; omega⟩
  · unfold argsFr
    by_cases hi : i < args.length
    · obtain ⟨v, h1, h2⟩ := hv.get (List.getElem?_eq_getElem hi)
      have h3 : i < vs.length := by omega
      have e : (vs.toArray ++ Array.replicate (n - vs.toArray.size) undef).getD i undef = v := by
        rw [Array.getD_eq_getD_getElem?, Array.getElem?_append_left (by simpa using h3)]
        simp only [List.getElem?_toArray, h1, Option.getD_some]
      show VRel S (args.getD i .undef) ((vs.toArray ++ Array.replicate (n - vs.toArray.size) undef).getD i undef)
      rw [e, List.getD_eq_getElem?_getD, List.getElem?_eq_getElem hi]
      exact h2
    · show VRel S (args.getD i .undef) _
      rw [List.getD_eq_getElem?_getD, List.getElem?_eq_none (by omega)]
      exact .undef_mk
  · unfold argsFr
    by_cases hi : i < args.length
    · show (args.getD i .undef).names _
      rw [List.getD_eq_getElem?_getD, List.getElem?_eq_getElem hi]
      exact AV.namesL_mem hn (List.getElem_mem hi)
    · show (args.getD i .undef).names _
      rw [List.getD_eq_getElem?_getD, List.getElem?_eq_none (by omega)]
      exact AV.names_closed _ rfl

theorem enter_sound (hX : Special P Γ O.call) (hm : P.follows .mixedOrders = true) (hΓ : Γ.ok P = true) (hC : SoundCall P O.call)
    (hfs : ∀ g as r, O.call.av g as = some r → ∃ fn, P.funcs[g]? = some fn ∧ fn.body.isSome = true ∧ fn.name ≠ "runtime.NumGoroutine")
    (hng : ∀ fn ∈ P.funcs, fn.name ≠ "runtime.NumGoroutine") (hN : ∀ f, (∀ args, O.fresh f args = none) ∨ SoundNew P f (O.fresh f)) {D : Nat} (hL : LoopsAll P O Γ D) :
    ∀ (d : Nat) (R : Type), SoundEnter (R := R) P (enterD P O Γ D d) := by
  intro d
  induction d with
  | zero => intro R ctx base g args K hp r h; cases h
  | succ d ih =>
    intro R ctx base g args K hp r h
    unfold enterD at h
    split at h
    · cases h
    · rename_i fn hfn
      split at h
      · cases h
      · rename_i c hc
        split at h
        · rename_i hcond
          obtain ⟨rfl, c2, c3, c4⟩ := hcond
          refine ⟨⟨fn, hfn, by simp [hc], hng fn (Array.mem_of_getElem? hfn)⟩, fun S vs H hhp hv hn => ?_⟩
          subst hhp
          have B : ∀ R, Base P O Γ ((fun R => enterD (R := R) P O Γ D d) R) := fun R => ⟨hX, hΓ, hC, hfs, ih R, hN⟩
          refine calls_of_wp hfn hc (exec_sound (En := fun R => enterD (R := R) P O Γ D d) B hm (F := ⟨ctx, 1000 * (ctx.length - 1), fn.ntmps⟩) c (hL d ctx g fn c c3 hfn hc c2) (args_good H hv hn c4) h ?_)
          intro e T st' a' GT ET hk
          have fin : ((runCmds (1000 * (ctx.length - 1)) (O.leave ctx) st').bind fun st => (resultsOf Γ fn st).bind fun v => (purify (1000 * (ctx.length - 1)) st.hp v).bind fun v =>
                K v (fun n => if n < 1000 * (ctx.length - 1) then (st.hp n).only (fun n => n < 1000 * (ctx.length - 1)) else .free)) = some r →
              a'.defers = [] ∧ ∃ v, (results fn a'.tmps).run P T.w = .ok v T.w ∧ ∃ (v' : Value) (av : AV) (U : Sit), Ending.returned v = Ending.returned v' ∧ U.w = T.w ∧ HRel U ∧ Ext (Below' (1000 * (ctx.length - 1))) S U ∧ VRel U av v' ∧ av.closed = true ∧ K av U.hp = some r := by
            intro hk
            simp only [Option.bind_eq_some_iff] at hk
            obtain ⟨st2, k1, av, k2, av', k3, k4⟩ := hk
            obtain ⟨T2, w2, G2, E2⟩ := cmds_sound GT k1
            obtain ⟨v, r1, r2⟩ := results_sound hΓ G2 k2
            rw [← G2.e] at k3 k4
            obtain ⟨p1, p2⟩ := purify_sound G2.h av r2 k3
            obtain ⟨H3, E3⟩ := retire_sound G2.h (1000 * (ctx.length - 1))
            rw [w2] at r1
            exact ⟨GT.f.d, v, r1, v, av', retire T2 (1000 * (ctx.length - 1)), rfl, w2, H3, (ET.trans E2).trans E3, p2, p1, k4⟩
          cases e with
          | normal => exact fin hk
          | ret => exact fin hk
          | exit i => cases hk
        · cases h

theorem AV.closed_ofK (k : Kind) (x : k.T) : (ofK k x).closed = true := by
  unfold ofK
  split
  · unfold AV.closed; exact flat_closed k x
  · have := flat_closed k x
    split
    · rename_i c hc
      rw [hc] at this
      unfold AV.closedL at this
      simp only [Bool.and_eq_true] at this
      exact this.1
    · rfl

/-! ### functions and tables -/

/-- f does what the typed g says -/
def SoundFn (P : Program) (f : Nat) (g : List AV → Option ((r : RSh) × Option r.T)) : Prop :=
  (∃ fn, P.funcs[f]? = some fn ∧ fn.body.isSome = true ∧ fn.name ≠ "runtime.NumGoroutine") ∧
  ∀ (args : List AV) (r : AV), ((g args).bind fun p => p.2.map p.1.can) = some r →
    ∀ (w : World) (I : Nat → Prop) (vs : List Value), (∀ b, I b → b < w.heap.size) → VRelL ⟨w, I, fun _ => .nilIface, fun _ => .free, fun b => b < w.heap.size⟩ args vs →
      Calls P f vs.toArray w fun e w' => ∃ v, e = .returned v ∧ r.closed = true ∧ w.heap.size ≤ w'.heap.size ∧ (∀ b, b < w.heap.size → w'.heap[b]? = w.heap[b]?) ∧ SameOut w w' ∧
        VRel ⟨w', fun b => I b ∨ (w.heap.size ≤ b ∧ b < w'.heap.size), fun _ => .nilIface, fun _ => .free, fun b => b < w.heap.size⟩ r v

theorem look_mem' {α : Type} {d : α} : ∀ {l : List (Nat × α)} {n : Nat}, look d l n = d ∨ (n, look d l n) ∈ l
  | [], n => .inl rfl
  | (k, v) :: r, n => by
    unfold look
    split
    · rename_i h; subst h; exact .inr (by simp)
    · rcases look_mem' (d := d) (l := r) (n := n) with h | h
      · exact .inl h
      · exact .inr (List.mem_cons_of_mem _ h)

theorem tbl_sound {t : Tbl} {pt : PTbl} (h : ∀ e ∈ t, SoundFn P e.1 e.2) : SoundCall P (callOf t pt) ∧ ∀ g as r, (callOf t pt).av g as = some r → ∃ fn, P.funcs[g]? = some fn ∧ fn.body.isSome = true ∧ fn.name ≠ "runtime.NumGoroutine" := by
  have key : ∀ f args r, (callOf t pt).av f args = some r → ∃ g, SoundFn P f g ∧ ((g args).bind fun p => p.2.map p.1.can) = some r := by
    intro f args r hr
    replace hr : ((look (fun _ => none) t f args).bind fun p => p.2.map p.1.can) = some r := hr
    rcases look_mem' (d := fun _ => none) (l := t) (n := f) with e | e
    · rw [e] at hr; cases hr
    · exact ⟨_, h _ e, hr⟩
  refine ⟨fun f args r hr => ?_, fun f args r hr => ?_⟩
  · obtain ⟨g, h1, h2⟩ := key f args r hr
    exact h1.2 args r h2
  · obtain ⟨g, h1, h2⟩ := key f args r hr
    exact h1.1

theorem canK_closed : ∀ (ks : List Kind) (x : ShL (ks.map Sh.kd)), AV.closedL (canL (ks.map Sh.kd) x) = true
  | [], _ => rfl
  | k :: ks, x => by
    show ((ofK k x.1).closed && AV.closedL (canL (ks.map Sh.kd) x.2)) = true
    rw [canK_closed ks x.2, Bool.and_true]
    exact AV.closed_ofK k x.1

theorem RSh.can_closed (r : RSh) (x : r.T) : (r.can x).closed = true := by
  cases r with
  | one k => exact AV.closed_ofK k x
  | tup ks => unfold RSh.can AV.closed; exact canK_closed ks x

theorem RSh.dec_sound : ∀ (r : RSh) {c : AV} {x : r.T}, r.dec c = some x → ∀ (S : Sit) (v : Value), VRel S c v → VRel S (r.can x) v
  | .one k, c, x, h, S, v, hv => ofK_rel (one_rel hv h)
  | .tup ks, c, x, h, S, v, hv => by
    cases c <;> simp only [RSh.dec, reduceCtorEq] at h
    unfold VRel at hv
    obtain ⟨vs, rfl, h1⟩ := hv
    show VRel S (.tup (canL (ks.map Sh.kd) x)) _
    unfold VRel
    exact ⟨vs, rfl, (decL_sound _ h).1 S vs h1⟩

/-- one function, on canonical arguments -/
theorem fn_canon (hX : Special P Γ O.call) (hm : P.follows .mixedOrders = true) (hng : ∀ fn ∈ P.funcs, fn.name ≠ "runtime.NumGoroutine") (hΓ : Γ.ok P = true) {t : Tbl} {pt : PTbl} (ht : ∀ e ∈ t, SoundFn P e.1 e.2) (hO : O.call = callOf t pt) (hN : ∀ f, (∀ args, O.fresh f args = none) ∨ SoundNew P f (O.fresh f))
    {D : Nat} (hL : LoopsAll P O Γ D) {f : Nat} (hf : ∃ fn, P.funcs[f]? = some fn ∧ fn.body.isSome = true) {ks : List Kind} {rs : RSh} {F : ShL (ks.map Sh.kd) → Option rs.T}
    (h : ∀ x r, F x = some r → fexec P O Γ D f rs (canL (ks.map Sh.kd) x) = some r) : SoundFn P f (fnOf ks rs F) := by
  obtain ⟨fn, hfn, hb⟩ := hf
  refine ⟨⟨fn, hfn, hb, hng fn (Array.mem_of_getElem? hfn)⟩, fun args r hr => ?_⟩
  unfold fnOf at hr
  simp only [Option.bind_eq_some_iff, Option.some.injEq, Option.map_eq_some_iff] at hr
  obtain ⟨_, ⟨x, hx, rfl⟩, y, hy, rfl⟩ := hr
  replace hy : F x = some y := hy
  have hx1 := h x y hy
  obtain ⟨k1, _, _⟩ := decL_sound _ hx
  obtain ⟨t1, t2⟩ := tbl_sound (pt := pt) ht
  have hE := enter_sound hX hm hΓ (by rw [hO]; exact t1) (by rw [hO]; exact t2) hng hN hL D rs.T
  obtain ⟨_, hE⟩ := hE _ _ _ _ _ _ _ hx1
  intro w I vs hI hv
  have H : HRel ⟨w, I, fun _ => .nilIface, fun _ => .free, fun b => b < w.heap.size⟩ :=
    ⟨fun n => trivial, fun n m b _ hn => by simp [cellLive, Cell.live] at hn, hI, fun _ h => h, fun n cs hcs => by cases hcs⟩
  refine Calls.mono (hE _ vs H rfl (k1 _ _ hv) (AV.namesL_closed _ (canK_closed ks x))) fun e w' he => ?_
  obtain ⟨v, av, T, rfl, rfl, HT, ET, hv, hc, hk⟩ := he
  refine ⟨v, rfl, rs.can_closed y, ET.s, ET.o, ET.q, ?_⟩
  refine VRel.closed (S := T) (T := ⟨T.w, fun b => I b ∨ (w.heap.size ≤ b ∧ b < T.w.heap.size), fun _ => .nilIface, fun _ => .free, fun b => b < w.heap.size⟩) (fun b hb => ⟨?_, rfl⟩) _ (rs.can_closed y) (rs.dec_sound hk _ _ hv)
  rcases Nat.lt_or_ge b w.heap.size with hlt | hge
  · exact .inl (ET.j b hb hlt)
  · exact .inr ⟨hge, HT.il b hb⟩

theorem fn_limit {f : Nat} {ks : List Kind} {rs : RSh} {G : Nat → ShL (ks.map Sh.kd) → Option rs.T} {g : ShL (ks.map Sh.kd) → Option rs.T} (h : ∀ m, SoundFn P f (fnOf ks rs (G m)))
    (hg : ∀ x r, g x = some r → ∃ m, G m x = some r) : SoundFn P f (fnOf ks rs g) :=
  ⟨(h 0).1, fun args r hr => by
    unfold fnOf at hr
    simp only [Option.bind_eq_some_iff, Option.some.injEq, Option.map_eq_some_iff] at hr
    obtain ⟨_, ⟨x, hx, rfl⟩, y, hy, rfl⟩ := hr
    obtain ⟨m, hm⟩ := hg x y hy
    exact (h m).2 args _ (by unfold fnOf; simp only [hx, Option.bind_some, hm, Option.map_some])⟩

/-! ### limits -/

/-- more rounds than any loop takes; the kernel cannot look at it -/
theorem fuel_ex : ∃ n : Nat, n = 2 ^ 70 := ⟨_, rfl⟩
noncomputable def fuel : Nat := Classical.choose fuel_ex
theorem fuel_eq : fuel = 2 ^ 70 := Classical.choose_spec fuel_ex

/-- what L says within that many rounds -/
noncomputable def limit {α β : Type} (L : Nat → α → Option β) (x : α) : Option β := L fuel x

theorem limit_eq {α β : Type} {L : Nat → α → Option β} {x : α} {r : β} {N : Nat} (h : ∀ n, N ≤ n → L n x = some r) (hN : N ≤ 2 ^ 70) : limit L x = some r := h _ (by rw [fuel_eq]; exact hN)

/-- the same, for the kernel to run -/
def flimit {α β : Type} (L : Nat → α → Option β) (x : α) : Option β := L (2 ^ 70) x
theorem limit_flimit {α β : Type} {L L' : Nat → α → Option β} (h : ∀ n x, L n x = L' n x) : limit L = flimit L' := by
  funext x
  unfold limit flimit
  rw [h, fuel_eq]

end
end Go.AM
