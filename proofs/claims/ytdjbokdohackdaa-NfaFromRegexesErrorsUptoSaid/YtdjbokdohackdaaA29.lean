/- A procedure's pure form, out of its table; recursion. -/
import Derived.Test.YtdjbokdohackdaaA28
namespace Go.AM
open Go

section
variable {P : Program} {Γ : TEnv}

theorem fresh_of {fr : FTbl} (hfr : ∀ e ∈ fr, SoundNew P e.1 e.2) (g : Nat) : (∀ args, look (fun _ => none) fr g args = none) ∨ SoundNew P g (fun args => look (fun _ => none) fr g args) := by
  rcases look_mem' (d := fun _ => none) (l := fr) (n := g) with e | e
  · left; intro args; rw [e]
  · right; exact hfr _ e

theorem body_of {f : Nat} (hf : (P.funcs[f]?.bind (·.body)).isSome = true) : ∃ fn, P.funcs[f]? = some fn ∧ fn.body.isSome = true := by
  cases hc : P.funcs[f]? with
  | none => rw [hc] at hf; cases hf
  | some fn => rw [hc] at hf; exact ⟨fn, rfl, hf⟩

/-- A PROCEDURE'S PURE FORM. -/
theorem proc_pure (hm : P.follows .mixedOrders = true) (hng : ∀ fn ∈ P.funcs, fn.name ≠ "runtime.NumGoroutine") (hΓ : Γ.ok P = true) {t : Tbl} (ht : ∀ e ∈ t, SoundFn P e.1 e.2)
    {ls : List LoopEnt} {cmds : List (List Nat × Nat × List Cmd)} {leaves : List (List Nat × List Cmd)} {fr : FTbl} {pt : PTbl} {D : Nat} (hL : ∀ e ∈ ls, LoopCert P (mkOrc t ls cmds leaves fr pt) Γ D e)
    {f : Nat} (hf : (P.funcs[f]?.bind (·.body)).isSome = true) {ss : List Sh} {cs cs' : List CSh} {rs : RSh} {nin nout : List Nat} {F : ShL ss × CShL cs → Option (rs.T × CShL cs')}
    (hlc : cs.all CSh.liveB = true) (hlt : nin.all (fun n => decide (n < 1000)) = true) (hlt' : nout.all (fun n => decide (n < 1000)) = true)
    (h : ∀ x r, F x = some r → pexec P (mkOrc t ls cmds leaves fr pt) Γ D f rs cs' nin nout (canL ss x.1) (canCL cs x.2) = some r)
    (hfr : ∀ e ∈ fr, SoundNew P e.1 e.2 := by exact all_nil) (hX : Special P Γ (callOf t pt) := by exact Special.none rfl rfl) : SoundProc P f nin nout (procPv (procOf ss cs rs cs' F)) :=
  proc_canon (pt := pt) hX hm hng hΓ ht rfl (fresh_of hfr) (loops_all hL) (body_of hf) hlc hlt hlt' h

/-- recursion: what holds of each depth -/
theorem fn_rec (hng : ∀ fn ∈ P.funcs, fn.name ≠ "runtime.NumGoroutine") {f : Nat} (hf : (P.funcs[f]?.bind (·.body)).isSome = true) {ks : List Kind} {rs : RSh} {G : Nat → ShL (ks.map Sh.kd) → Option rs.T} (h0 : ∀ x, G 0 x = none)
    (hs : ∀ n, SoundFn P f (fnOf ks rs (G n)) → SoundFn P f (fnOf ks rs (G (n + 1)))) : ∀ n, SoundFn P f (fnOf ks rs (G n))
  | 0 => by
    obtain ⟨fn, hfn, hb⟩ := body_of hf
    refine ⟨⟨fn, hfn, hb, hng fn (Array.mem_of_getElem? hfn)⟩, fun args r hr => ?_⟩
    unfold fnOf at hr
    simp only [Option.bind_eq_some_iff, Option.some.injEq, Option.map_eq_some_iff] at hr
    obtain ⟨_, ⟨x, hx, rfl⟩, y, hy, rfl⟩ := hr
    replace hy : G 0 x = some y := hy
    rw [h0] at hy
    cases hy
  | n + 1 => hs n (fn_rec hng hf h0 hs n)

theorem proc_rec (hng : ∀ fn ∈ P.funcs, fn.name ≠ "runtime.NumGoroutine") {f : Nat} (hf : (P.funcs[f]?.bind (·.body)).isSome = true) {ss : List Sh} {cs cs' : List CSh} {rs : RSh} {nin nout : List Nat} {G : Nat → ShL ss × CShL cs → Option (rs.T × CShL cs')} (h0 : ∀ x, G 0 x = none)
    (hs : ∀ n, SoundProc P f nin nout (procPv (procOf ss cs rs cs' (G n))) → SoundProc P f nin nout (procPv (procOf ss cs rs cs' (G (n + 1))))) : ∀ n, SoundProc P f nin nout (procPv (procOf ss cs rs cs' (G n)))
  | 0 => by
    obtain ⟨fn, hfn, hb⟩ := body_of hf
    refine ⟨⟨fn, hfn, hb, hng fn (Array.mem_of_getElem? hfn)⟩, fun args cells v cells' hF => ?_⟩
    unfold procPv procOf at hF
    simp only [Option.bind_eq_some_iff, Option.map_eq_some_iff] at hF
    obtain ⟨q, ⟨x, hx, y, hy, hq⟩, hF⟩ := hF
    simp only [Option.some.injEq] at hq
    subst hq
    obtain ⟨ab, hab, _⟩ := hF
    replace hab : G 0 (x, y) = some ab := hab
    rw [h0] at hab
    cases hab
  | n + 1 => hs n (proc_rec hng hf h0 hs n)
end
end Go.AM
