/- Certificates of loops and functions. -/
import Derived.Test.YtdjbokdohackdaaA23
namespace Go.AM
open Go

theorem all_nil {α : Type} {p : α → Prop} : ∀ x ∈ ([] : List α), p x := fun _ h => nomatch h
theorem all_cons {α : Type} {p : α → Prop} {a : α} {l : List α} (h : p a) (h2 : ∀ x ∈ l, p x) : ∀ x ∈ a :: l, p x := fun x hx => by
  rcases List.mem_cons.1 hx with e | e
  · subst e; exact h
  · exact h2 x e

theorem limit_fn {α β : Type} {L : Nat → α → Option β} (x : α) (r : β) (h : limit L x = some r) : ∃ n, L n x = some r := ⟨_, h⟩

/-- no function is the one that the model treats apart -/
theorem names_ok {P : Program} (h : (P.funcs.toList.all fun fn => fn.name != "runtime.NumGoroutine") = true) : ∀ fn ∈ P.funcs, fn.name ≠ "runtime.NumGoroutine" := fun fn hf => by
  have := List.all_eq_true.1 h fn (Array.mem_toList_iff.2 hf)
  simpa using this

section
variable {P : Program} {Γ : TEnv}

/-- nothing is treated apart -/
theorem Special.none {call : Call} (h1 : Γ.procs = []) (h2 : Γ.keysOf = Option.none) : Special P Γ call := by
  refine ⟨fun nm g pd h => ?_, fun f c h => ?_, fun g c h => ?_⟩
  · unfold TEnv.proc at h; rw [h1] at h; simp at h
  · rw [h2] at h; cases h
  · obtain ⟨⟨f, h⟩, _⟩ := h; rw [h2] at h; cases h

/-- what a procedure's typed form says of values and cells -/
def procPv (F : List AV → List Cell → Option ((o : RSh × List CSh) × Option (o.1.T × CShL o.2))) : List AV → List Cell → Option (AV × List Cell) :=
  fun args cells => (F args cells).bind fun p => p.2.map fun x => (p.1.1.can x.1, canCL p.1.2 x.2)

/-- these procedures are known -/
theorem Special.procs {t : Tbl} {pt : PTbl} (h1 : ∀ q ∈ Γ.procs, SoundProc P q.1.2 (q.2.1.map (·.2)) (q.2.2.map (·.2)) (procPv (look (fun _ _ => Option.none) pt q.1.2)))
    (h2 : ∀ f c, Γ.keysOf = some (f, c) → KeysOk P f c) (h3 : ∀ g c, (∃ f, Γ.keysOf = some (f, c)) ∧ Γ.sorted = some g → SortedOk P g c) : Special P Γ (callOf t pt) :=
  ⟨fun nm g pd h => by
    unfold TEnv.proc at h
    simp only [Option.map_eq_some_iff] at h
    obtain ⟨q, h4, rfl⟩ := h
    have h5 := List.find?_some h4
    simp only [Bool.and_eq_true, beq_iff_eq] at h5
    have h6 := h1 q (List.mem_of_find?_eq_some h4)
    rw [h5.2] at h6
    exact h6, h2, h3⟩

noncomputable def nthLoop (P : Program) (f k : Nat) : Code :=
  match P.funcs[f]? with
  | some fn => match fn.body with
    | some c => (loopBodies c).getD k .skip
    | none => .skip
  | none => .skip

def tmpsOf (P : Program) (f : Nat) : Nat := match P.funcs[f]? with | some fn => fn.ntmps | none => 0

/-- only the k-th loop of f begins with that region -/
noncomputable def onlyLoop (P : Program) (f k id : Nat) : Bool :=
  match P.funcs[f]? with
  | some fn => match fn.body with
    | some c => (loopBodies c).zipIdx.all fun p => firstRegion p.1 != id || p.2 == k
    | none => false
  | none => false

/-- what shows that a loop's pure function is right -/
structure LoopCert (P : Program) (O : Orc) (Γ : TEnv) (D : Nat) (e : LoopEnt) : Prop where
  ex : ∃ (f k : Nat) (L : Nat → ShL e.ss × CShL e.cs → Option (Outs e.outs)),
    e.ctx.head? = some f ∧ onlyLoop P f k e.id = true ∧ e.ctx.length ≤ D ∧
    (∀ x r, e.fn x = some r → ∃ n, L n x = some r) ∧ (∀ x, L 0 x = none) ∧
    ∀ m old x r, L (m + 1) x = some r →
      execC O Γ (enterD P O Γ D (D - e.ctx.length)) ⟨e.ctx, 1000 * (e.ctx.length - 1), tmpsOf P f⟩ (nthLoop P f k)
        (loopK (1000 * (e.ctx.length - 1)) e.head e.ss e.cs e.outs (L m))
        (loopSt (1000 * (e.ctx.length - 1)) e.head old (canL e.ss x.1) (canCL e.cs x.2)) = some r

theorem loops_all {t : Tbl} {ls : List LoopEnt} {cmds : List (List Nat × Nat × List Cmd)} {leaves : List (List Nat × List Cmd)} {fr : FTbl} {pt : PTbl} {D : Nat}
    (h : ∀ e ∈ ls, LoopCert P (mkOrc t ls cmds leaves fr pt) Γ D e) : LoopsAll P (mkOrc t ls cmds leaves fr pt) Γ D := by
  intro d ctx g fn c hd hfn hc hg b hb e he
  replace he : (ls.find? fun e => e.id == firstRegion b && e.ctx == ctx) = some e := he
  have hmem := List.mem_of_find?_eq_some he
  have hp := List.find?_some he
  simp only [Bool.and_eq_true, beq_iff_eq] at hp
  obtain ⟨hid, hctx⟩ := hp
  obtain ⟨f, k, L, k1, k2, k3, k4, k5, k6⟩ := (h e hmem).ex
  have hf : f = g := by rw [hctx, hg] at k1; cases k1; rfl
  subst hf
  have hbody : b = nthLoop P f k := by
    unfold onlyLoop at k2
    unfold nthLoop
    simp only [hfn, hc] at k2 ⊢
    obtain ⟨j, hj⟩ := List.getElem?_of_mem hb
    have := List.all_eq_true.1 k2 (b, j) (List.mem_zipIdx_iff_getElem?.2 hj)
    simp only [Bool.or_eq_true, bne_iff_ne, ne_eq, beq_iff_eq, hid, not_true, false_or] at this
    subst this
    rw [List.getD_eq_getElem?_getD, hj]
    rfl
  have hsz : fn.ntmps = tmpsOf P f := by unfold tmpsOf; rw [hfn]
  refine ⟨L, k4, k5, fun m old x r hl => ?_⟩
  have := k6 m old x r hl
  have hd' : D - e.ctx.length = d := by rw [hctx]; omega
  rw [hbody, hsz]
  rw [hctx] at this hd'
  rw [hd'] at this
  exact this

/-- A FUNCTION'S PURE FORM. -/
theorem fn_pure (hm : P.follows .mixedOrders = true) (hng : ∀ fn ∈ P.funcs, fn.name ≠ "runtime.NumGoroutine") (hΓ : Γ.ok P = true) {t : Tbl} (ht : ∀ e ∈ t, SoundFn P e.1 e.2)
    {ls : List LoopEnt} {cmds : List (List Nat × Nat × List Cmd)} {leaves : List (List Nat × List Cmd)} {fr : FTbl} {pt : PTbl} {D : Nat} (hL : ∀ e ∈ ls, LoopCert P (mkOrc t ls cmds leaves fr pt) Γ D e)
    {f : Nat} (hf : (P.funcs[f]?.bind (·.body)).isSome = true) {ks : List Kind} {rs : RSh} {F : ShL (ks.map Sh.kd) → Option rs.T}
    (h : ∀ x r, F x = some r → fexec P (mkOrc t ls cmds leaves fr pt) Γ D f rs (canL (ks.map Sh.kd) x) = some r)
    (hfr : ∀ e ∈ fr, SoundNew P e.1 e.2 := by exact all_nil) (hX : Special P Γ (callOf t pt) := by exact Special.none rfl rfl) : SoundFn P f (fnOf ks rs F) := by
  have hf' : ∃ fn, P.funcs[f]? = some fn ∧ fn.body.isSome = true := by
    cases hc : P.funcs[f]? with
    | none => rw [hc] at hf; cases hf
    | some fn => rw [hc] at hf; exact ⟨fn, rfl, hf⟩
  refine fn_canon (pt := pt) hX hm hng hΓ ht rfl (fun g => ?_) (loops_all hL) hf' h
  show (∀ args, look (fun _ => none) fr g args = none) ∨ SoundNew P g (fun args => look (fun _ => none) fr g args)
  rcases look_mem' (d := fun _ => none) (l := fr) (n := g) with e | e
  · left; intro args; rw [e]
  · right; exact hfr _ e

end
end Go.AM
