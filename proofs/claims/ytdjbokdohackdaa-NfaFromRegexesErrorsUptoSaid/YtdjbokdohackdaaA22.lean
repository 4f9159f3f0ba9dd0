/- Execution, sound. -/
import Derived.Test.YtdjbokdohackdaaA21
import Derived.LoopN
namespace Go.AM
open Go

def exOf : Ex → Exit
  | .normal => .normal
  | .exit i => .exit i
  | .ret => .ret

/-- the loops of a piece of code, the outer ones first -/
noncomputable def loopBodies (c : Code) : List Code :=
  Code.rec (motive := fun _ => List Code)
    [] (fun _ _ _ => []) (fun _ _ x y => x ++ y) (fun _ _ _ x y => x ++ y) (fun _ _ x => x) (fun b x => b :: x)
    (fun _ _ _ _ _ _ => []) (fun _ => []) (fun _ _ => []) (fun _ => []) (fun _ => []) [] (fun _ => []) c

abbrev Enters := ∀ R : Type, Enter R

/-- a loop's oracle is backed: it is the limit of functions that each run one round more -/
def LoopOk (O : Orc) (Γ : TEnv) (En : Enters) (F : Fn) (body : Code) : Prop :=
  ∀ g, O.loop F.ctx (firstRegion body) = some g →
    ∃ L : Nat → ShL g.ss × CShL g.cs → Option (Outs g.outs), (∀ x r, g.fn x = some r → ∃ n, L n x = some r) ∧ (∀ x, L 0 x = none) ∧
      ∀ m old x r, L (m + 1) x = some r →
        execC O Γ (En (Outs g.outs)) F body (loopK F.base g.head g.ss g.cs g.outs (L m)) (loopSt F.base g.head old (canL g.ss x.1) (canCL g.cs x.2)) = some r

section
variable {P : Program} {O : Orc} {Γ : TEnv} {En : Enters}

theorem exec_sound (B : ∀ R, Base P O Γ (En R)) (hm : P.follows .mixedOrders = true) {F : Fn} : ∀ (c : Code), (∀ b ∈ loopBodies c, LoopOk O Γ En F b) →
    ∀ {R : Type} {K : Ex → St → Option R} {r : R} {Q : Exit → Act → World → Prop} {S : Sit} {st : St} {a : Act}, Good S st F.sz a → execC O Γ (En R) F c K st = some r →
      (∀ e T st' a', Good T st' F.sz a' → Ext (Below' F.base) S T → K e st' = some r → Q (exOf e) a' T.w) → c.wp P Q a S.w := by
  intro c
  induction c with
  | skip => intro _ R K r Q S st a G h hK; exact wp_skip (hK .normal S st a G (Ext.refl S) h)
  | region id ops draw =>
    intro _ R K r Q S st a G h hK
    replace h : (runCmds F.base (O.cmds F.ctx id) st).bind (fun st =>
      if draw = true then opsRunF O Γ F ops (fun fs st => if orderOk ops fs = true then K .normal st else none) ops.toList [] st
      else opsRun O Γ (En R) F ops (K .normal) ops.toList st) = some r := h
    simp only [Option.bind_eq_some_iff] at h
    obtain ⟨st1, h1, h2⟩ := h
    obtain ⟨T, w, GT, ET⟩ := cmds_sound G h1
    rw [← w]
    cases draw
    · rw [if_neg (by simp)] at h2
      have := opsRun_sound (B R) (S0 := T) (Q := Q) (fun U st' a' GU EU hk => hK .normal U st' a' GU (ET.trans EU) hk) ops.size ops.toList (by simp) (Nat.le_refl _) (fun i => by simp) GT (Ext.refl T) h2
      refine wp_region ?_
      simpa using this
    · rw [if_pos rfl] at h2
      exact region_draw_sound (B R) hm GT h2 fun U st' a' GU EU hk => hK .normal U st' a' GU (ET.trans EU) hk
  | seq x y ihx ihy =>
    intro hL R K r Q S st a G h hK
    refine wp_seq (ihx (fun b hb => hL b (List.mem_append_left _ hb)) G (K := fun e st => match e with | .normal => execC O Γ (En R) F y K st | e => K e st) h fun e T st' a' GT ET hk => ?_)
    cases e with
    | normal => exact ihy (fun b hb => hL b (List.mem_append_right _ hb)) GT hk fun e U st'' a'' GU EU hk' => hK e U st'' a'' GU (ET.trans EU) hk'
    | exit i => exact hK (.exit i) T st' a' GT ET hk
    | ret => exact hK .ret T st' a' GT ET hk
  | cond c x y ihx ihy =>
    intro hL R K r Q S st a G h hK
    have hx := fun (e : execC O Γ (En R) F x K st = some r) => ihx (fun b hb => hL b (List.mem_append_left _ hb)) G e hK
    have hy := fun (e : execC O Γ (En R) F y K st = some r) => ihy (fun b hb => hL b (List.mem_append_right _ hb)) G e hK
    cases c with
    | tmp d =>
      replace h : (match st.fr d with
        | .bool b => if b = true then execC O Γ (En R) F x K { st with fr := upd st.fr d (.bool true) } else execC O Γ (En R) F y K { st with fr := upd st.fr d (.bool false) }
        | _ => none) = some r := h
      split at h
      · rename_i b hb
        have hv := (hb ▸ G.f.v d : VRel S (.bool b) _).bool_inv
        have he : a.eval (.tmp d) = .bool b := hv
        cases b
        · rw [if_neg (by simp), upd_self hb] at h
          exact wp_cond_false he (hy h)
        · rw [if_pos rfl, upd_self hb] at h
          exact wp_cond_true he (hx h)
      · cases h
    | const v =>
      cases v with
      | bool b =>
        replace h : (if b = true then execC O Γ (En R) F x K st else execC O Γ (En R) F y K st) = some r := h
        cases b
        · exact wp_cond_false rfl (hy h)
        · exact wp_cond_true rfl (hx h)
      | _ => cases h
    | _ => cases h
  | block id x ih =>
    intro hL R K r Q S st a G h hK
    refine wp_block (ih hL G (K := fun e st => match e with | .exit i => if i = id then K .normal st else K (.exit i) st | e => K e st) h fun e T st' a' GT ET hk => ?_)
    cases e with
    | normal => exact hK .normal T st' a' GT ET hk
    | exit i =>
      replace hk : (if i = id then K .normal st' else K (.exit i) st') = some r := hk
      show (if i = id then Q .normal a' T.w else Q (.exit i) a' T.w)
      by_cases hi : i = id
      · rw [if_pos hi] at hk ⊢
        exact hK .normal T st' a' GT ET hk
      · rw [if_neg hi] at hk ⊢
        exact hK (.exit i) T st' a' GT ET hk
    | ret => exact hK .ret T st' a' GT ET hk
  | loop body ih =>
    intro hL R K r Q S st a G h hK
    have hLb : ∀ b ∈ loopBodies body, LoopOk O Γ En F b := fun b hb => hL b (List.mem_cons_of_mem _ hb)
    replace h : (match O.loop F.ctx (firstRegion body) with
      | some g => (loopState F.base g.head st).bind fun p => (decL g.ss p.1).bind fun x => (decCL g.cs p.2).bind fun y =>
          (g.fn (x, y)).bind fun r => outElim (fun e avs cells => K e (stOf F.base st.hp avs cells)) g.outs r
      | none => none) = some r := h
    split at h
    · rename_i g hg
      simp only [Option.bind_eq_some_iff] at h
      obtain ⟨p, h1, x, hx, y, hy, res, h2, h3⟩ := h
      obtain ⟨L, l1, l2, l3⟩ := hL body (List.mem_cons_self ..) g hg
      obtain ⟨n, hn⟩ := l1 _ _ h2
      have key : ∀ m x, L m x = some res → ∀ (U : Sit) (a' : Act), Good U (loopSt F.base g.head S.hp (canL g.ss x.1) (canCL g.cs x.2)) F.sz a' → Ext (Below' F.base) S U →
          Code.rounds P body Q m a' U.w := by
        intro m
        induction m with
        | zero => intro x hl; rw [l2] at hl; cases hl
        | succ m ihm =>
          intro x hl U a' GU EU
          rw [rounds_succ]
          refine ih hLb GU (l3 m S.hp x res hl) fun e T st' a'' GT ET hk => ?_
          have fin : ∀ e : Ex, outInj g.outs e st' = some res → Q (exOf e) a'' T.w := by
            intro e hk
            obtain ⟨o, z, _, hz, hel⟩ := outInj_sound g.outs hk
            obtain ⟨T', w', GT', ET'⟩ := out_good GT (EU.trans ET) hz
            rw [← w']
            refine hK e T' _ a'' GT' ET' ?_
            rw [hel, ← G.e] at h3
            exact h3
          cases e with
          | normal =>
            simp only [loopK, Option.bind_eq_some_iff] at hk
            obtain ⟨q, q1, x', q2, y', q3, q4⟩ := hk
            obtain ⟨T', w', GT', ET'⟩ := loopSt_good GT (EU.trans ET) q1
            obtain ⟨T2, w2, G2, E2⟩ := dec_canon q2 q3 T' F.sz a'' GT'
            show Code.rounds P body Q m a'' T.w
            rw [← w', ← w2]
            exact ihm (x', y') q4 T2 a'' G2 (E2 S ET')
          | exit i => exact fin (.exit i) hk
          | ret => exact fin .ret hk
      obtain ⟨T, w, GT, ET⟩ := loopSt_good G (Ext.refl S) h1
      obtain ⟨T2, w2, G2, E2⟩ := dec_canon hx hy T F.sz a GT
      rw [← w, ← w2]
      exact wp_loop_rounds n (key n (x, y) hn T2 a G2 (E2 S ET))
    · cases h
  | exit id => intro _ R K r Q S st a G h hK; exact wp_exit (hK (.exit id) S st a G (Ext.refl S) h)
  | ret => intro _ R K r Q S st a G h hK; exact wp_ret (hK .ret S st a G (Ext.refl S) h)
  | _ => intro _ R K r Q S st a G h hK; cases h

end
end Go.AM
