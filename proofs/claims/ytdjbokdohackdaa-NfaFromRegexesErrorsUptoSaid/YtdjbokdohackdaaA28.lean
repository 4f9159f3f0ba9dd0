/- A procedure's pure form. -/
import Derived.Test.YtdjbokdohackdaaA27
namespace Go.AM
open Go

def CSh.liveB : CSh → Bool
  | .dead | .free => false
  | _ => true

theorem CSh.dec_live : ∀ {s : CSh} {c : Cell} {x : s.T}, s.dec c = some x → s.liveB = true → cellLive c
  | .box _, .box _, _, _, _ => rfl
  | .row _, .row _ _, _, _, _ => rfl
  | .map _ _, .map _ _ _, _, _, _ => rfl
  | .mrow _ _, .mrow _ _ _, _, _, _ => rfl
  | .box _, .free, _, h, _ | .box _, .dead, _, h, _ | .box _, .row _ _, _, h, _ | .box _, .map _ _ _, _, h, _ | .box _, .mrow _ _ _, _, h, _ => by simp [CSh.dec] at h
  | .row _, .free, _, h, _ | .row _, .dead, _, h, _ | .row _, .box _, _, h, _ | .row _, .map _ _ _, _, h, _ | .row _, .mrow _ _ _, _, h, _ => by simp [CSh.dec] at h
  | .map _ _, .free, _, h, _ | .map _ _, .dead, _, h, _ | .map _ _, .box _, _, h, _ | .map _ _, .row _ _, _, h, _ | .map _ _, .mrow _ _ _, _, h, _ => by simp [CSh.dec] at h
  | .mrow _ _, .free, _, h, _ | .mrow _ _, .dead, _, h, _ | .mrow _ _, .box _, _, h, _ | .mrow _ _, .row _ _, _, h, _ | .mrow _ _, .map _ _ _, _, h, _ => by simp [CSh.dec] at h
  | .dead, _, _, _, h => by cases h
  | .free, _, _, _, h => by cases h

theorem decCL_live : ∀ {l : List CSh} {cs : List Cell} {x : CShL l}, decCL l cs = some x → l.all CSh.liveB = true → (∀ c ∈ cs, cellLive c) ∧ cs.length = l.length
  | [], [], _, _, _ => ⟨fun _ h => (by cases h), rfl⟩
  | s :: l, c :: cs, x, h, hl => by
    simp only [decCL, Option.bind_eq_some_iff] at h
    obtain ⟨a, h1, b, h2, h3⟩ := h
    simp only [List.all_cons, Bool.and_eq_true] at hl
    obtain ⟨k1, k2⟩ := decCL_live h2 hl.2
    refine ⟨fun d hd => ?_, by simp [k2]⟩
    rcases List.mem_cons.1 hd with rfl | hd
    · exact CSh.dec_live h1 hl.1
    · exact k1 d hd
  | _ :: _, [], _, h, _ => by cases h
  | [], _ :: _, _, h, _ => by cases h

theorem canCL_length : ∀ (l : List CSh) (x : CShL l), (canCL l x).length = l.length
  | [], _ => rfl
  | s :: l, x => by show (canCL l x.2).length + 1 = l.length + 1; rw [canCL_length l]

/-- a procedure's run: cells under names below 1000, its frame's names from 1000 on -/
noncomputable def pexec (P : Program) (O : Orc) (Γ : TEnv) (D : Nat) (g : Nat) (r : RSh) (cs' : List CSh) (nin nout : List Nat) (args : List AV) (cells : List Cell) : Option (r.T × CShL cs') :=
  enterD P O Γ D (D - 1) [g, g] 1000 g args (fun v h => (r.dec v).bind fun a => (decCL cs' (nout.map fun n => (h n).only (fun m => nout.contains m))).bind fun b => some (a, b)) (fun n => look .free (nin.zip cells) n)

section
variable {P : Program} {Γ : TEnv} {O : Orc}

theorem look_zip_live : ∀ {ns : List Nat} {cs : List Cell} (n : Nat), (∀ c ∈ cs, cellLive c) → cs.length = ns.length → (if ns.contains n = true then cellLive (look .free (ns.zip cs) n) else look .free (ns.zip cs) n = .free)
  | [], _, n, _, _ => by simp [look]
  | m :: ns, [], n, _, h => by simp at h
  | m :: ns, c :: cs, n, hl, h => by
    rw [List.contains_cons]
    show if (n == m || ns.contains n) = true then cellLive (if n = m then c else look .free (ns.zip cs) n) else (if n = m then c else look .free (ns.zip cs) n) = .free
    by_cases e : n = m
    · rw [if_pos (by simp [e]), if_pos e]; exact hl c (by simp)
    · have e2 : (n == m || ns.contains n) = ns.contains n := by simp [e]
      rw [e2, if_neg e]
      exact look_zip_live n (fun c hc => hl c (by simp [hc])) (by simpa using h)

/-- one procedure, on canonical arguments and cells -/
theorem proc_canon (hX : Special P Γ O.call) (hm : P.follows .mixedOrders = true) (hng : ∀ fn ∈ P.funcs, fn.name ≠ "runtime.NumGoroutine") (hΓ : Γ.ok P = true) {t : Tbl} {pt : PTbl} (ht : ∀ e ∈ t, SoundFn P e.1 e.2) (hO : O.call = callOf t pt) (hN : ∀ f, (∀ args, O.fresh f args = none) ∨ SoundNew P f (O.fresh f))
    {D : Nat} (hL : LoopsAll P O Γ D) {f : Nat} (hf : ∃ fn, P.funcs[f]? = some fn ∧ fn.body.isSome = true) {ss : List Sh} {cs cs' : List CSh} {rs : RSh} {nin nout : List Nat} {F : ShL ss × CShL cs → Option (rs.T × CShL cs')}
    (hlc : cs.all CSh.liveB = true) (hlt : nin.all (fun n => decide (n < 1000)) = true) (hlt' : nout.all (fun n => decide (n < 1000)) = true)
    (h : ∀ x r, F x = some r → pexec P O Γ D f rs cs' nin nout (canL ss x.1) (canCL cs x.2) = some r) : SoundProc P f nin nout (procPv (procOf ss cs rs cs' F)) := by
  obtain ⟨fn, hfn, hb⟩ := hf
  refine ⟨⟨fn, hfn, hb, hng fn (Array.mem_of_getElem? hfn)⟩, fun args cells v cells' hF hl hl' S vs H hhp hv hn => ?_⟩
  unfold procPv procOf at hF
  simp only [Option.bind_eq_some_iff, Option.map_eq_some_iff] at hF
  obtain ⟨q, ⟨x, hx, y, hy, hq⟩, hF⟩ := hF
  simp only [Option.some.injEq] at hq
  subst hq
  obtain ⟨⟨a, b⟩, hab, hvc⟩ := hF
  simp only [Prod.mk.injEq] at hvc
  obtain ⟨rfl, rfl⟩ := hvc
  replace hab : F (x, y) = some (a, b) := hab
  have hx1 := h (x, y) (a, b) hab
  obtain ⟨hlive, hclen⟩ := decCL_live hy hlc
  obtain ⟨k1, k2, k3⟩ := decL_sound _ hx
  obtain ⟨t1, t2⟩ := tbl_sound (P := P) (pt := pt) ht
  have hE := enter_sound hX hm hΓ (by rw [hO]; exact t1) (by rw [hO]; exact t2) hng hN hL (D - 1) (rs.T × CShL cs')
  obtain ⟨_, hE⟩ := hE _ _ _ _ _ _ _ hx1
  -- the same situation, in canonical form
  have G0 := args_good H hv hn (n := args.length) (Nat.le_refl _)
  have hcan : ∀ n, CanC (S.hp n) (look .free (nin.zip (canCL cs y)) n) := fun n => by
    rw [hhp]; exact decCL_sound .free cs hy nin n
  obtain ⟨G1, E1⟩ := canon_good (st' := { fr := argsFr args, hp := fun n => look .free (nin.zip (canCL cs y)) n }) G0 hcan (fun i => ⟨fun _ _ h => h, fun _ h => h⟩)
  have hv1 : VRelL { S with hp := fun n => look .free (nin.zip (canCL cs y)) n } args vs := VRelL.ext E1 args (AV.namesL_imp (fun m hm => ⟨trivial, hm⟩) _ hn) hv
  have hn1 : AV.namesL (fun m => look .free (nin.zip (canCL cs y)) m ≠ .free) args := AV.namesL_imp (fun m hm => (hcan m).free hm) _ hn
  refine Calls.mono (hE { S with hp := fun n => look .free (nin.zip (canCL cs y)) n } vs G1.h rfl (k1 _ _ hv1) (k2 _ hn1)) fun e w' he => ?_
  obtain ⟨u, av, T, rfl, rfl, HT, ET, hvT, hc, hk⟩ := he
  simp only [Option.bind_eq_some_iff, Option.some.injEq, Prod.mk.injEq] at hk
  obtain ⟨a', ha', b', hb', rfl, rfl⟩ := hk
  -- what stays
  have GT := args_good HT (args := []) (vs := []) .nil (by unfold AV.namesL; trivial) (n := 0) (Nat.le_refl _)
  obtain ⟨T1, w1, G2, E2, I2⟩ := stOf_good GT ET [] nout
  have hpl : ∀ n, (if n < 1000 then (match look .free (nin.zip (canCL cs y)) n with | .free => Cell.free | _ => .dead) else .free) = if nin.contains n = true then .dead else .free := fun n => by
    have hz := look_zip_live (ns := nin) (cs := cells) n hlive hl
    have hcn := (decCL_sound .free cs hy nin n)
    by_cases hc : nin.contains n = true
    · rw [if_pos hc] at hz ⊢
      have : n < 1000 := by
        have := List.all_eq_true.1 hlt n (List.contains_iff_mem.1 hc)
        simpa using this
      rw [if_pos this]
      have hl2 : cellLive (look .free (nin.zip (canCL cs y)) n) := by unfold cellLive; rw [hcn.live]; exact hz
      split
      · rename_i e; rw [e] at hl2; cases hl2
      · rfl
    · rw [if_neg hc] at hz ⊢
      split
      · have : look .free (nin.zip (canCL cs y)) n = .free := by
          rcases hcn with e | ⟨cs1, _, e, _⟩
          · rw [e, hz]
          · rw [hz] at e; cases e
        rw [this]
      · rfl
  have hhp2 : ∀ n, T1.hp n = look (if nin.contains n = true then .dead else .free) (nout.zip (nout.map fun n => (T.hp n).only (fun m => nout.contains m))) n := fun n => by
    rw [G2.e]
    show look (if n < 1000 then (match look .free (nin.zip (canCL cs y)) n with | .free => Cell.free | _ => .dead) else .free) (nout.map fun n => (n, (T.hp n).only (fun m => nout.contains m))) n = _
    rw [hpl n, zip_map]
  obtain ⟨G3, E3⟩ := canon_good (st' := { fr := fun _ => .undef, hp := fun n => look (if nin.contains n = true then .dead else .free) (nout.zip (canCL cs' b')) n }) G2 (fun n => by
    rw [← G2.e, hhp2 n]; exact decCL_sound _ cs' hb' nout n) (fun i => ⟨fun _ _ _ => .undef_mk, fun p _ => AV.names_closed _ rfl⟩)
  refine ⟨u, { T1 with hp := fun n => look (if nin.contains n = true then .dead else .free) (nout.zip (canCL cs' b')) n }, rfl, w1, G3.h, ?_, rs.can_closed a', ?_, rfl⟩
  · -- from the caller's objects on
    have E23 := E2.thenTop E3
    refine ⟨fun b hb => E23.i b hb, E23.s, E23.b, E23.o, fun n _ hf => ?_, fun n _ hd => ?_, E23.j, E23.q⟩
    · have hf1 := (hcan n).free hf
      by_cases hn : n < 1000
      · rcases E23.f n hn hf1 with hd | ⟨g1, g2⟩
        · exact .inl hd
        · right
          refine ⟨g1, ?_⟩
          have hlv : cellLive (S.hp n) := by
            have hz := look_zip_live (ns := nin) (cs := cells) n hlive hl
            rw [hhp] at hf ⊢
            split at hz
            · exact hz
            · exact absurd hz hf
          exact sameShape_trans ((hcan n).shape hlv) g2
      · exfalso
        apply hf
        rw [hhp]
        have hz := look_zip_live (ns := nin) (cs := cells) n hlive hl
        rw [if_neg (fun hc => hn (by
          have := List.all_eq_true.1 hlt n (List.contains_iff_mem.1 hc)
          simpa using this))] at hz
        exact hz
    · exfalso
      have hz := look_zip_live (ns := nin) (cs := cells) n hlive hl
      rw [hhp] at hd
      simp only at hd
      split at hz
      · rw [hd] at hz; cases hz
      · rw [hd] at hz; cases hz
  · have hI : ∀ b, T.I b → T1.I b ∧ T1.w.heap[b]? = T.w.heap[b]? := fun b hb => by
      exact ⟨by rw [I2]; exact hb, by rw [w1]⟩
    exact VRel.closed (S := T) (T := { T1 with hp := fun n => look (if nin.contains n = true then .dead else .free) (nout.zip (canCL cs' b')) n }) hI _ (rs.can_closed a') (rs.dec_sound ha' _ _ hvT)
end
end Go.AM
