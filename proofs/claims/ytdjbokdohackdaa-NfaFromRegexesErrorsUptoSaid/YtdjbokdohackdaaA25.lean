/- A function that copies a slice and asks first whether it is nil. -/
import Derived.Test.YtdjbokdohackdaaA24
import Derived.Laws.Cover3
namespace Go.AM
open Go

noncomputable def noEnter : Enters := fun _ _ _ _ _ _ _ => none

/-- a new slice's elements -/
def newRes (k : IntKind) (hp : Hp) : AV → Option (List Int)
  | .nilsl => some []
  | .ref n => match hp n with
    | .row (.int k') xs => if k' = k then some xs else none
    | _ => none
  | _ => none

theorem clone_sound {P : Program} {Γ : TEnv} (hm : P.follows .mixedOrders = true) (hng : ∀ fn ∈ P.funcs, fn.name ≠ "runtime.NumGoroutine") (hΓ : Γ.ok P = true)
    {f : Nat} {fn : Func} {i0 i1 T T' : Nat} {ops0 ops1 : Array Oper} {oa ob : Oper} {x y : Code} {O : Orc} (hC : O.call = callOf []) (hN : ∀ f args, O.fresh f args = none)
    (hfn : P.funcs[f]? = some fn) (hb : fn.body = some (.seq (.region i0 ops0 false) (.seq (.seq (.region i1 ops1 false) (.cond (.tmp 4) x .skip)) y)))
    (hops : ops1 = #[oa, ob]) (hga : oa.guard = none) (hgb : ob.guard = none) (hdb : ob.dst = some 4) (hob : ob.op = .binOp .eql T (.tmp 3) (.const (.slice none 0 0)) T')
    (k : IntKind) (hT : Γ.kind T = some (.slice (.int k))) (hsz : 4 < fn.ntmps) (hlx : loopBodies x = []) (hly : loopBodies y = [])
    (F : ShL ([Kind.slice (.int k)].map Sh.kd) → Option (List Int))
    (h : ∀ xs r, F (xs, ()) = some r → ∃ st0 st1 : St,
      execC O Γ (noEnter St) ⟨[f], 0, fn.ntmps⟩ (.region i0 ops0 false) (fun e' st => match e' with | .normal => some st | _ => none) { fr := argsFr [.sl (.int k) xs], hp := fun _ => .free } = some st0 ∧
      (runCmds 0 (O.cmds [f] i1) st0 = some st0) ∧
      opRun O Γ (noEnter St) ⟨[f], 0, fn.ntmps⟩ oa (fun st => some st) st0 = some st1 ∧
      st1.fr 3 = .sl (.int k) xs ∧
      ∀ b : Bool, (b = true → xs = []) →
        execC O Γ (noEnter (List Int)) ⟨[f], 0, fn.ntmps⟩ (.cond (.tmp 4) x .skip) (fun e' st => match e' with
            | .normal => execC O Γ (noEnter (List Int)) ⟨[f], 0, fn.ntmps⟩ y (fun e' st => match e' with
                | .exit _ => none
                | _ => (resultsOf Γ fn st).bind fun v => newRes k st.hp v) st
            | .exit _ => none
            | .ret => (resultsOf Γ fn st).bind fun v => newRes k st.hp v)
          { st1 with fr := upd st1.fr 4 (.bool b) } = some r)
    (hX : Γ.procs = [] ∧ Γ.keysOf = none := by exact ⟨rfl, rfl⟩) :
    SoundNew P f (newOf [.slice (.int k)] (.int k) F) := by
  refine ⟨⟨fn, hfn, by simp [hb], hng fn (Array.mem_of_getElem? hfn)⟩, fun args r r0 hr hr0 => ?_⟩
  unfold newOf at hr
  simp only [Option.bind_eq_some_iff, Option.some.injEq] at hr
  obtain ⟨z, hx, rfl⟩ := hr
  obtain ⟨xs, ⟨⟩⟩ := z
  revert r0
  intro (r' : List Int) hy
  replace hy : F (xs, ()) = some r' := hy
  obtain ⟨k1, _, _⟩ := decL_sound _ hx
  obtain ⟨t1, t2⟩ := tbl_sound (P := P) (t := []) (pt := []) all_nil
  intro w I vs hI hv
  have H : HRel ⟨w, I, fun _ => .nilIface, fun _ => .free, fun b => b < w.heap.size⟩ :=
    ⟨fun n => trivial, fun n m b _ hn => by simp [cellLive, Cell.live] at hn, hI, fun _ h => h, fun n cs hcs => by cases hcs⟩
  have hv1 := k1 _ _ hv
  obtain ⟨st0, st1, h0, hcm, ha, h3, hrest⟩ := h xs r' hy
  have B : ∀ R, Base P O Γ (noEnter R) := fun R => ⟨Special.none hX.1 hX.2, hΓ, by rw [hC]; exact t1, by rw [hC]; exact t2, fun _ _ _ _ _ _ _ h => (by cases h), fun f => .inl (hN f)⟩
  have e1 : canL ([Kind.slice (.int k)].map Sh.kd) (xs, ()) = [.sl (.int k) xs] := rfl
  rw [e1] at hv1
  have G0 := args_good H hv1 (n := fn.ntmps) (AV.namesL_closed _ rfl) (by simp only [List.length_singleton]; omega)
  -- leaving
  have fin : ∀ (e' : Ex) {T2 : Sit} {st2 : St} {a2 : Act}, (e' = .normal ∨ e' = .ret) → Good T2 st2 fn.ntmps a2 → Ext (Below' 0) ⟨w, I, fun _ => .nilIface, fun _ => .free, fun b => b < w.heap.size⟩ T2 →
      ((resultsOf Γ fn st2).bind fun v => newRes k st2.hp v) = some r' →
      bodyPost P fn (fun en w' => ∃ v, en = .returned v ∧ w.heap.size ≤ w'.heap.size ∧ (∀ b, b < w.heap.size → w'.heap[b]? = w.heap[b]?) ∧ SameOut w w' ∧ v.oneCell' = true ∧ ObjAt ⟨w', I, fun _ => v, fun _ => .free, fun b => b < w.heap.size⟩ 0 (.row (.int k) r')) (exOf e') a2 T2.w := by
    intro e' T2 st2 a2 he' G2 ET hk
    have main : a2.defers = [] ∧ ∃ v, (results fn a2.tmps).run P T2.w = .ok v T2.w ∧ (fun en w' => ∃ v, en = .returned v ∧ w.heap.size ≤ w'.heap.size ∧ (∀ b, b < w.heap.size → w'.heap[b]? = w.heap[b]?) ∧ SameOut w w' ∧ v.oneCell' = true ∧ ObjAt ⟨w', I, fun _ => v, fun _ => .free, fun b => b < w.heap.size⟩ 0 (.row (.int k) r')) (Ending.returned v) T2.w := by
      simp only [Option.bind_eq_some_iff] at hk
      obtain ⟨av, k2, k4⟩ := hk
      obtain ⟨v, r1, r2⟩ := results_sound hΓ G2 k2
      refine ⟨G2.f.d, v, r1, v, rfl, ET.s, ET.o, ET.q, ?_⟩
      unfold newRes at k4
      split at k4
      · cases k4
        rw [r2.nilsl_inv]
        exact ⟨rfl, .inl ⟨rfl, rfl⟩⟩
      · rename_i n
        split at k4
        · rename_i k' ys hn
          split at k4
          · rename_i hk'
            subst hk'
            cases k4
            rw [← G2.e] at hn
            unfold VRel at r2
            rw [hn] at r2
            have ho := G2.h.ob n
            rw [hn] at ho
            refine ⟨r2.1, ?_⟩
            have hv0 : v = T2.ρ n := r2.2
            rcases ho with ⟨h1, h2⟩ | ⟨b, cap', c, E, h1, h2, h3, h4, h5, h6, h7, h8⟩
            · exact .inl ⟨by rw [hv0]; exact h1, h2⟩
            · rw [ET.b] at h4
              refine .inr ⟨b, cap', c, E, by rw [hv0]; exact h1, h2, fun hb => ?_, h4, h5, h6, h7, h8⟩
              have := hI b hb
              exact absurd h4 (by simp only; omega)
          · cases k4
        · cases k4
      · cases k4
    rcases he' with rfl | rfl <;> exact main
  refine calls_of_wp hfn hb (wp_seq (exec_sound (En := noEnter) B hm (F := ⟨[f], 0, fn.ntmps⟩) (.region i0 ops0 false) (fun b hb => nomatch hb) G0 h0 fun e' T0 st0' a0 GT0 ET0 hk0 => ?_))
  cases e' with
  | normal =>
    simp only [Option.some.injEq] at hk0
    subst hk0
    show (Code.seq (.seq (.region i1 ops1 false) (.cond (.tmp 4) x .skip)) y).wp P _ a0 T0.w
    refine wp_seq (wp_seq (wp_region ?_))
    have hrange : List.range ops1.size = [0, 1] := by rw [hops]; rfl
    rw [hrange, wpOps_cons]
    unfold wpOp
    have hget0 : ops1[0]? = some oa := by rw [hops]; rfl
    have hget1 : ops1[1]? = some ob := by rw [hops]; rfl
    simp only [hget0]
    rw [if_pos (by simp [Region.wanted, hga])]
    left
    refine opRun_sound (B St) GT0 ha fun T1 st1' a1 GT1 ET1 hk1 => ?_
    simp only [Option.some.injEq] at hk1
    have hk2 := hk1.symm
    subst hk2
    rw [wpOps_cons]
    unfold wpOp
    simp only [hget1]
    rw [if_pos (by simp [Region.wanted, hgb])]
    left
    -- the comparison
    have hv3 : VRel T1 (.sl (.int k) xs) (a1.tmps.getD 3 undef) := by rw [← h3]; exact GT1.f.v 3
    obtain ⟨a, len, cap, hva, hlen, _, hsl⟩ := hv3.sl_inv
    simp only [List.cons.injEq, and_true] at hva
    obtain ⟨E, hE, _⟩ := kOk_slice (TEnv.kind_ok hΓ hT)
    have heval : a1.eval (.tmp 3) = .slice a len cap := hva
    have hrun : (execOp a1.eval ob).run P T1.w = .ok (.value (.bool a.isNone)) T1.w := by
      have hg := eqGuard_none (P := P) (op := .eql) (t := T) (x := .tmp 3) (y := .const (.slice none 0 0)) (v := .slice a len cap) (u := .slice none 0 0) T1.w (fun l m h => by cases h.1) (fun h => by cases h.1)
      have h2 : (binOp .eql T (.slice a len cap) (.slice none 0 0)).run P T1.w = .ok (.bool a.isNone) T1.w := by
        simp only [binOp, Sem.run_bind, run_equal_slice_nil T1.w T E a len cap hE, Result.andThen_ok, Sem.run_pure]
      simp only [execOp, hob, heval]
      have hc : a1.eval (.const (.slice none 0 0)) = .slice none 0 0 := rfl
      simp only [hc, hg, h2, Sem.run_bind, Result.andThen_ok, Sem.run_pure]
    unfold Oper.wp
    rw [hrun]
    simp only [Oper.upon]
    have hnil : a.isNone = true → xs = [] := by
      intro ha0
      rcases hsl with h0 | ⟨b, o, e1, _⟩
      · rw [hlen] at h0
        exact List.eq_nil_of_length_eq_zero h0
      · rw [e1] at ha0; cases ha0
    have hput : putDst fn.ntmps ob (.bool a.isNone) st1 = some { st1 with fr := upd st1.fr 4 (.bool a.isNone) } := by
      unfold putDst
      rw [hdb]
      simp only [if_pos hsz]
    have G2 := put_sound GT1 (VRel.bool_mk (b := a.isNone)) (AV.names_closed _ rfl) hput
    have hfinal := hrest a.isNone hnil
    refine exec_sound (En := noEnter) B hm (F := ⟨[f], 0, fn.ntmps⟩) (.cond (.tmp 4) x .skip) (fun b hb => by
        replace hb : b ∈ loopBodies x ++ [] := hb
        rw [hlx] at hb
        cases hb) G2 hfinal fun e2 T3 st3 a3 GT3 ET3 hk3 => ?_
    have ET13 := ((ET0.trans ET1).trans ET3)
    cases e2 with
    | normal =>
      refine exec_sound (En := noEnter) B hm (F := ⟨[f], 0, fn.ntmps⟩) y (fun b hb => by
        rw [hly] at hb
        cases hb) GT3 hk3 fun e4 T4 st4 a4 GT4 ET4 hk4 => ?_
      cases e4 with
      | exit i => cases hk4
      | normal => exact fin .normal (.inl rfl) GT4 (ET13.trans ET4) hk4
      | ret => exact fin .ret (.inr rfl) GT4 (ET13.trans ET4) hk4
    | exit i => cases hk3
    | ret => exact fin .ret (.inr rfl) GT3 ET13 hk3
  | exit i => cases hk0
  | ret => cases hk0

end Go.AM
