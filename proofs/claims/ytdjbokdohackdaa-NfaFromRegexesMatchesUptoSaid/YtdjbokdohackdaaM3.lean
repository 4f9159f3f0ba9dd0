import Derived.Test.YtdjbokdohackdaaM2
import Derived.LoopN
import Derived.Laws.Sem
import Derived.Laws.Cover3
import Derived.ChangeArms
import Derived.Carry
import Derived.ProofKit
/- A region that draws its order: its operations, in any order that its edges allow, do what they do in the order of the text. -/
namespace Go.AM
open Go

/-! ### what an operation looks at -/

theorem list_map_congr {e e' : Operand → AV} {l : List Operand} (h : ∀ x ∈ l, e x = e' x) : l.map e = l.map e' := List.map_congr_left h

theorem parts_congr {e e' : Operand → AV} {parts : Array (Nat × Operand)} (h : ∀ x ∈ (parts.toList.map (·.2)).toArray, e x = e' x) :
    (parts.toList.map fun p => (p.1, e p.2)) = parts.toList.map fun p => (p.1, e' p.2) :=
  List.map_congr_left fun p hp => by rw [h p.2 (by simp only [List.mem_toArray, List.mem_map]; exact ⟨p, hp, rfl⟩)]

theorem isShared_congr {Γ : TEnv} {nm : Nat} {e e' : Operand → AV} (op : Op) (h : ∀ x ∈ op.operands, e x = e' x) : isShared Γ nm e op = isShared Γ nm e' op := by
  unfold isShared
  split
  · rename_i f args types
    simp only [Op.operands, Call.operands] at h
    rw [h f (by simp), list_map_congr (e := e) (e' := e') (l := args.toList) fun x hx => h x (by simp [Array.mem_toList_iff.1 hx])]
  · rfl

theorem aop_congr {Γ : TEnv} {nm : Nat} {e e' : Operand → AV} (op : Op) (h : ∀ x ∈ op.operands, e x = e' x) : aop Γ nm e op = aop Γ nm e' op := by
  cases op with
  | call c =>
    obtain ⟨callee, args, argTypes⟩ := c
    simp only [Op.operands, Call.operands] at h
    have ha := list_map_congr (e := e) (e' := e') (l := args.toList) fun x hx => h x (by simp [Array.mem_toList_iff.1 hx])
    cases callee with
    | value f => simp only [aop, h f (by simp), ha]
    | invoke r m => rfl
    | builtin b =>
      cases b with
      | len =>
        simp only [aop]
        split
        · rename_i x t hx _
          rw [h x (by have : x ∈ args.toList := by rw [hx]; simp
                      simp [Array.mem_toList_iff.1 this])]
        · rfl
      | append =>
        simp only [aop]
        split
        · rename_i s x t u hx _
          have hs : s ∈ args.toList := by rw [hx]; simp
          have hx' : x ∈ args.toList := by rw [hx]; simp
          rw [h s (by simp [Array.mem_toList_iff.1 hs]), h x (by simp [Array.mem_toList_iff.1 hx'])]
        · rfl
      | copy =>
        simp only [aop]
        split
        · rename_i s x t u hx _
          have hs : s ∈ args.toList := by rw [hx]; simp
          have hx' : x ∈ args.toList := by rw [hx]; simp
          rw [h s (by simp [Array.mem_toList_iff.1 hs]), h x (by simp [Array.mem_toList_iff.1 hx'])]
        · rfl
      | _ => rfl
  | build t ps => simp only [Op.operands] at h; simp only [aop, parts_congr h]
  | buildSlice t n ps => simp only [Op.operands] at h; simp only [aop, parts_congr h]
  | makeFunc fn first cap =>
    simp only [Op.operands] at h
    have ha := list_map_congr (e := e) (e' := e') (l := cap.toList) fun x hx => h x (by simp [Array.mem_toList_iff.1 hx])
    cases fn <;> simp only [aop, ha]
  | makeMap t r => cases r <;> simp only [aop]
  | slice t x lo hi mx =>
    simp only [Op.operands] at h
    have hx : e x = e' x := h x (by simp)
    have hl : optInt e lo = optInt e' lo := by
      cases lo with
      | none => rfl
      | some y => simp only [optInt, h y (by simp)]
    have hh : optInt e hi = optInt e' hi := by
      cases hi with
      | none => rfl
      | some y => simp only [optInt, h y (by simp)]
    cases mx <;> simp only [aop, hx, hl, hh]
  | unOp op t x => simp only [Op.operands] at h; simp only [aop, h x (by simp)]
  | _ => simp only [Op.operands] at h; simp_all [aop]

/-! ### a run and its footprint -/

abbrev Out := AV × Hp × Fp

noncomputable def M.out (call : Call) (m : M) : Hp → Fp → Option Out := m.runF call fun v h f => some (v, h, f)

theorem M.runF_out {call : Call} {R : Type} {K : AV → Hp → Fp → Option R} (m : M) : ∀ (h : Hp) (f : Fp), m.runF call K h f = (m.out call h f).bind fun p => K p.1 p.2.1 p.2.2 := by
  induction m with
  | pure v => intro h f; rfl
  | fail => intro h f; rfl
  | br b x y ihx ihy =>
    intro h f
    cases b
    · exact ihy h f
    · exact ihx h f
  | rd n k ih => intro h f; exact ih (h n) h _
  | wr n c x ih => intro h f; exact ih _ _
  | call g args k ih =>
    intro h f
    show ((call.fn g args).bind fun p => p.2.bind fun x => (k (p.1.can x)).runF call K h f) = ((call.fn g args).bind fun p => p.2.bind fun x => (k (p.1.can x)).out call h f).bind _
    rw [callBind (G := fun v => (k v).runF call K h f), callBind (G := fun v => (k v).out call h f)]
    cases call.av g args with
    | none => rfl
    | some v => exact ih v h f
  | pcall g args cells k ih =>
    intro h f
    show ((call.proc g args cells).bind fun p => p.2.bind fun x => (k (p.1.1.can x.1) (canCL p.1.2 x.2)).runF call K h f) = ((call.proc g args cells).bind fun p => p.2.bind fun x => (k (p.1.1.can x.1) (canCL p.1.2 x.2)).out call h f).bind _
    rw [pcallBind (G := fun v cs => (k v cs).runF call K h f), pcallBind (G := fun v cs => (k v cs).out call h f)]
    cases call.pv g args cells with
    | none => rfl
    | some v => exact ih v.1 v.2 h f

theorem M.run_out {call : Call} {R : Type} {K : AV → Hp → Option R} (m : M) : ∀ (h : Hp) (f : Fp) {p : Out}, m.out call h f = some p → m.run call K h = K p.1 p.2.1 := by
  induction m with
  | pure v => intro h f p e; cases e; rfl
  | fail => intro h f p e; cases e
  | br b x y ihx ihy =>
    intro h f p e
    cases b
    · exact ihy h f e
    · exact ihx h f e
  | rd n k ih => intro h f p e; exact ih (h n) h _ e
  | wr n c x ih => intro h f p e; exact ih _ _ e
  | call g args k ih =>
    intro h f p e
    replace e : ((call.fn g args).bind fun p => p.2.bind fun x => (k (p.1.can x)).out call h f) = some p := e
    rw [callBind (G := fun v => (k v).out call h f)] at e
    show ((call.fn g args).bind fun p => p.2.bind fun x => (k (p.1.can x)).run call K h) = _
    rw [callBind (G := fun v => (k v).run call K h)]
    cases hc : call.av g args with
    | none => rw [hc] at e; cases e
    | some v => rw [hc] at e; exact ih v h f e
  | pcall g args cells k ih =>
    intro h f p e
    replace e : ((call.proc g args cells).bind fun p => p.2.bind fun x => (k (p.1.1.can x.1) (canCL p.1.2 x.2)).out call h f) = some p := e
    rw [pcallBind (G := fun v cs => (k v cs).out call h f)] at e
    show ((call.proc g args cells).bind fun p => p.2.bind fun x => (k (p.1.1.can x.1) (canCL p.1.2 x.2)).run call K h) = _
    rw [pcallBind (G := fun v cs => (k v cs).run call K h)]
    cases hc : call.pv g args cells with
    | none => rw [hc] at e; cases e
    | some v => rw [hc] at e; exact ih v.1 v.2 h f e

theorem M.out_grows {call : Call} (m : M) : ∀ (h : Hp) (f : Fp) {p : Out}, m.out call h f = some p → (∀ n ∈ f.rn, n ∈ p.2.2.rn) ∧ (∀ n ∈ f.wn, n ∈ p.2.2.wn) := by
  induction m with
  | pure v => intro h f p e; cases e; exact ⟨fun _ h => h, fun _ h => h⟩
  | fail => intro h f p e; cases e
  | br b x y ihx ihy =>
    intro h f p e
    cases b
    · exact ihy h f e
    · exact ihx h f e
  | rd n k ih =>
    intro h f p e
    obtain ⟨h1, h2⟩ := ih (h n) h _ e
    exact ⟨fun m hm => h1 m (List.mem_cons_of_mem _ hm), h2⟩
  | wr n c x ih =>
    intro h f p e
    obtain ⟨h1, h2⟩ := ih _ _ e
    exact ⟨h1, fun m hm => h2 m (List.mem_cons_of_mem _ hm)⟩
  | call g args k ih =>
    intro h f p e
    replace e : ((call.fn g args).bind fun p => p.2.bind fun x => (k (p.1.can x)).out call h f) = some p := e
    rw [callBind (G := fun v => (k v).out call h f)] at e
    cases hc : call.av g args with
    | none => rw [hc] at e; cases e
    | some v => rw [hc] at e; exact ih v h f e
  | pcall g args cells k ih =>
    intro h f p e
    replace e : ((call.proc g args cells).bind fun p => p.2.bind fun x => (k (p.1.1.can x.1) (canCL p.1.2 x.2)).out call h f) = some p := e
    rw [pcallBind (G := fun v cs => (k v cs).out call h f)] at e
    cases hc : call.pv g args cells with
    | none => rw [hc] at e; cases e
    | some v => rw [hc] at e; exact ih v.1 v.2 h f e

/-- a run looks at what it reads, and changes what it writes -/
theorem M.out_local {call : Call} (m : M) : ∀ (h g : Hp) (f : Fp) {v : AV} {h' : Hp} {f' : Fp}, m.out call h f = some (v, h', f') → (∀ n ∈ f'.rn, g n = h n) →
    ∃ g', m.out call g f = some (v, g', f') ∧ ∀ n, (h' n = h n ∧ g' n = g n) ∨ (n ∈ f'.wn ∧ g' n = h' n) := by
  induction m with
  | pure v => intro h g f v' h' f' e _; cases e; exact ⟨g, rfl, fun n => .inl ⟨rfl, rfl⟩⟩
  | fail => intro h g f v' h' f' e _; cases e
  | br b x y ihx ihy =>
    intro h g f v' h' f' e hr
    cases b
    · exact ihy h g f e hr
    · exact ihx h g f e hr
  | rd n k ih =>
    intro h g f v' h' f' e hr
    replace e : (k (h n)).out call h { f with rn := n :: f.rn } = some (v', h', f') := e
    have hn : g n = h n := hr n ((M.out_grows _ _ _ e).1 n (by simp))
    obtain ⟨g', e', hg⟩ := ih (h n) h g _ e hr
    refine ⟨g', ?_, hg⟩
    show (k (g n)).out call g _ = _
    rw [hn]
    exact e'
  | wr n c x ih =>
    intro h g f v' h' f' e hr
    replace e : x.out call (upd h n c) { f with wn := n :: f.wn } = some (v', h', f') := e
    have hw : n ∈ f'.wn := (M.out_grows _ _ _ e).2 n (by simp)
    obtain ⟨g', e', hg⟩ := ih (upd h n c) (upd g n c) _ e (fun m hm => by unfold upd; split; rfl; exact hr m hm)
    refine ⟨g', e', fun m => ?_⟩
    rcases hg m with ⟨h1, h2⟩ | h1
    · by_cases hm : m = n
      · subst hm
        right
        refine ⟨hw, ?_⟩
        rw [h1, h2, upd_same, upd_same]
      · left
        rw [upd_other hm] at h1 h2
        exact ⟨h1, h2⟩
    · exact .inr h1
  | call f2 args k ih =>
    intro h g f v' h' f' e hr
    replace e : ((call.fn f2 args).bind fun p => p.2.bind fun x => (k (p.1.can x)).out call h f) = some (v', h', f') := e
    rw [callBind (G := fun v => (k v).out call h f)] at e
    cases hc : call.av f2 args with
    | none => rw [hc] at e; cases e
    | some v =>
      rw [hc] at e
      obtain ⟨g', e', hg⟩ := ih v h g f e hr
      refine ⟨g', ?_, hg⟩
      show ((call.fn f2 args).bind fun p => p.2.bind fun x => (k (p.1.can x)).out call g f) = _
      rw [callBind (G := fun v => (k v).out call g f), hc]
      exact e'
  | pcall f2 args cells k ih =>
    intro h g f v' h' f' e hr
    replace e : ((call.proc f2 args cells).bind fun p => p.2.bind fun x => (k (p.1.1.can x.1) (canCL p.1.2 x.2)).out call h f) = some (v', h', f') := e
    rw [pcallBind (G := fun v cs => (k v cs).out call h f)] at e
    cases hc : call.pv f2 args cells with
    | none => rw [hc] at e; cases e
    | some v =>
      rw [hc] at e
      obtain ⟨g', e', hg⟩ := ih v.1 v.2 h g f e hr
      refine ⟨g', ?_, hg⟩
      show ((call.proc f2 args cells).bind fun p => p.2.bind fun x => (k (p.1.1.can x.1) (canCL p.1.2 x.2)).out call g f) = _
      rw [pcallBind (G := fun v cs => (k v cs).out call g f), hc]
      exact e'

/-! ### one operation -/
section
variable (O : Orc) (Γ : TEnv) (F : Fn) (ops : Array Oper)

/-- whether an operation is wanted -/
def wantA (fr : Nat → AV) (o : Oper) : Option Bool :=
  match o.guard with
  | none => some true
  | some (j, want) => match guardSlot ops j with
    | none => none
    | some d => match fr d with
      | .bool b => some (b == want)
      | .tup [] => some false
      | _ => none

noncomputable def effF (o : Oper) (fr : Nat → AV) (h : Hp) : Option Out :=
  (wantA ops fr o).bind fun b => if b = true then
      (if (isShared Γ (F.base + o.dst.getD 0) (ev fr) o.op).isSome = true then none else (aop Γ (F.base + o.dst.getD 0) (ev fr) o.op).out O.call h ⟨[], []⟩)
    else some (.tup [], h, ⟨[], []⟩)

noncomputable def stepF (o : Oper) (st : St) : Option (St × Fp) :=
  (effF O Γ F ops o st.fr st.hp).bind fun p => (putDst F.sz o p.1 { st with hp := p.2.1 }).map fun st' => (st', p.2.2)

theorem opsRunF_step {R : Type} {K : List Fp → St → Option R} {o : Oper} {rest : List Oper} {fs : List Fp} {st : St} {r : R} (h : opsRunF O Γ F ops K (o :: rest) fs st = some r) :
    ∃ st' f, stepF O Γ F ops o st = some (st', f) ∧ opsRunF O Γ F ops K rest (f :: fs) st' = some r := by
  have go : ∀ st1 : St, st1 = st → wantA ops st.fr o = some true → (match isShared Γ (F.base + o.dst.getD 0) (ev st1.fr) o.op with
      | some _ => none
      | none => (aop Γ (F.base + o.dst.getD 0) (ev st1.fr) o.op).runF O.call (fun v h f => (putDst F.sz o v { st1 with hp := h }).bind (opsRunF O Γ F ops K rest (f :: fs))) st1.hp ⟨[], []⟩) = some r →
      ∃ st' f, stepF O Γ F ops o st = some (st', f) ∧ opsRunF O Γ F ops K rest (f :: fs) st' = some r := by
    rintro st1 rfl hw hh
    split at hh
    · cases hh
    · rename_i hs
      rw [M.runF_out] at hh
      simp only [Option.bind_eq_some_iff] at hh
      obtain ⟨p, hp, st', hput, hk⟩ := hh
      refine ⟨st', p.2.2, ?_, hk⟩
      simp [stepF, effF, hw, hs, hp, hput]
  have skip : ∀ st1 : St, st1 = st → wantA ops st.fr o = some false → (putDst F.sz o (.tup []) st1).bind (opsRunF O Γ F ops K rest (⟨[], []⟩ :: fs)) = some r →
      ∃ st' f, stepF O Γ F ops o st = some (st', f) ∧ opsRunF O Γ F ops K rest (f :: fs) st' = some r := by
    rintro st1 rfl hw hh
    simp only [Option.bind_eq_some_iff] at hh
    obtain ⟨st', hput, hk⟩ := hh
    refine ⟨st', _, ?_, hk⟩
    simp [stepF, effF, hw, hput]
  unfold opsRunF at h
  simp only at h
  split at h
  · rename_i hg
    exact go st rfl (by simp [wantA, hg]) h
  · rename_i j want hg
    split at h
    · cases h
    · rename_i d hs
      split at h
      · rename_i b hb
        have hw : wantA ops st.fr o = some (b == want) := by simp [wantA, hg, hs, hb]
        have he : ({ st with fr := upd st.fr d (.bool b) } : St) = st := by rw [upd_self hb]
        cases b
        · rw [if_neg (by simp)] at h
          cases want
          · rw [if_neg (by simp)] at h
            exact go _ he hw h
          · rw [if_pos rfl] at h
            exact skip _ he hw h
        · rw [if_pos rfl] at h
          cases want
          · rw [if_neg (by simp)] at h
            exact skip _ he hw h
          · rw [if_pos rfl] at h
            exact go _ he hw h
      · rename_i hb
        exact skip st rfl (by simp [wantA, hg, hs, hb]) h
      · cases h

variable {O Γ F ops}

theorem ev_agree {fr fr' : Nat → AV} {o : Oper} (h : ∀ d ∈ o.looksAt ops, fr' d = fr d) : ∀ x ∈ o.op.operands, ev fr' x = ev fr x := by
  intro x hx
  cases x with
  | tmp t => exact h t (List.mem_append_left _ (List.mem_filterMap.2 ⟨.tmp t, by simpa using hx, rfl⟩))
  | _ => rfl

theorem wantA_agree {fr fr' : Nat → AV} {o : Oper} (h : ∀ d ∈ o.looksAt ops, fr' d = fr d) : wantA ops fr' o = wantA ops fr o := by
  unfold wantA
  cases hg : o.guard with
  | none => rfl
  | some p =>
    obtain ⟨j, want⟩ := p
    simp only
    cases hs : guardSlot ops j with
    | none => rfl
    | some d =>
      simp only
      rw [h d (List.mem_append_right _ (by unfold guardSlot at hs; simp [hg, hs]))]

theorem effF_local {o : Oper} {fr fr' : Nat → AV} {h g : Hp} {v : AV} {h' : Hp} {f : Fp} (hf : ∀ d ∈ o.looksAt ops, fr' d = fr d) (e : effF O Γ F ops o fr h = some (v, h', f))
    (hr : ∀ n ∈ f.rn, g n = h n) : ∃ g', effF O Γ F ops o fr' g = some (v, g', f) ∧ ∀ n, (h' n = h n ∧ g' n = g n) ∨ (n ∈ f.wn ∧ g' n = h' n) := by
  unfold effF at e ⊢
  rw [wantA_agree hf]
  simp only [Option.bind_eq_some_iff] at e ⊢
  obtain ⟨b, hb, e⟩ := e
  cases b
  · rw [if_neg (by simp)] at e
    simp only [Option.some.injEq, Prod.mk.injEq] at e
    obtain ⟨rfl, rfl, rfl⟩ := e
    exact ⟨g, ⟨false, hb, rfl⟩, fun n => .inl ⟨rfl, rfl⟩⟩
  · rw [if_pos rfl] at e
    split at e
    · cases e
    · rename_i hs
      obtain ⟨g', e', hg⟩ := M.out_local _ h g _ e hr
      refine ⟨g', ⟨true, hb, ?_⟩, hg⟩
      rw [if_pos rfl, isShared_congr (e := ev fr') (e' := ev fr) o.op (ev_agree hf), if_neg hs, aop_congr (e := ev fr') (e' := ev fr) o.op (ev_agree hf)]
      exact e'

theorem effF_writes {o : Oper} {fr : Nat → AV} {h : Hp} {v : AV} {h' : Hp} {f : Fp} (e : effF O Γ F ops o fr h = some (v, h', f)) (n : Nat) : h' n = h n ∨ n ∈ f.wn := by
  obtain ⟨g', e', hg⟩ := effF_local (fr' := fr) (g := h) (fun _ _ => rfl) e (fun _ _ => rfl)
  rcases hg n with h1 | h1
  · exact .inl h1.1
  · exact .inr h1.1

theorem stepF_inv {o : Oper} {st st' : St} {f : Fp} (h : stepF O Γ F ops o st = some (st', f)) : ∃ v h', effF O Γ F ops o st.fr st.hp = some (v, h', f) ∧ putDst F.sz o v { st with hp := h' } = some st' := by
  unfold stepF at h
  simp only [Option.bind_eq_some_iff, Option.map_eq_some_iff, Prod.mk.injEq] at h
  obtain ⟨⟨v, h', f'⟩, h1, st1, h2, rfl, rfl⟩ := h
  exact ⟨v, h', h1, h2⟩

theorem stepF_mk {o : Oper} {st st' : St} {f : Fp} {v : AV} {h' : Hp} (h1 : effF O Γ F ops o st.fr st.hp = some (v, h', f)) (h2 : putDst F.sz o v { st with hp := h' } = some st') :
    stepF O Γ F ops o st = some (st', f) := by
  simp [stepF, h1, h2]

theorem putDst_inv {sz : Nat} {o : Oper} {v : AV} {st st' : St} (h : putDst sz o v st = some st') : st'.hp = st.hp ∧ (∀ d, o.dst ≠ some d → st'.fr d = st.fr d) ∧
    ((o.dst = none ∧ st'.fr = st.fr) ∨ ∃ d, o.dst = some d ∧ d < sz ∧ st'.fr = upd st.fr d v) := by
  unfold putDst at h
  split at h
  · rename_i hd; cases h; exact ⟨rfl, fun _ _ => rfl, .inl ⟨hd, rfl⟩⟩
  · rename_i d hd
    split at h
    · rename_i hlt
      cases h
      exact ⟨rfl, fun e he => by simp only [upd]; rw [if_neg (fun h => he (by rw [hd, h]))], .inr ⟨d, hd, hlt, rfl⟩⟩
    · cases h

theorem putDst_mk {sz : Nat} {o : Oper} {v : AV} {st : St} (h : ∀ d, o.dst = some d → d < sz) : ∃ st', putDst sz o v st = some st' := by
  unfold putDst
  split
  · exact ⟨_, rfl⟩
  · rename_i d hd
    rw [if_pos (h d hd)]
    exact ⟨_, rfl⟩

theorem indep_iff {f g : Fp} (h : f.indep g = true) : (∀ n ∈ f.wn, n ∉ g.rn ∧ n ∉ g.wn) ∧ ∀ n ∈ g.wn, n ∉ f.rn ∧ n ∉ f.wn := by
  unfold Fp.indep disjoint at h
  simp only [Bool.and_eq_true, List.all_eq_true, Bool.not_eq_true', List.contains_eq_mem, List.mem_append, decide_eq_false_iff_not, not_or] at h
  exact h

theorem stepF_swap {x y : Oper} {s t u : St} {fx fy : Fp} (hxy : x.apart ops y = true) (hind : fx.indep fy = true)
    (h1 : stepF O Γ F ops x s = some (t, fx)) (h2 : stepF O Γ F ops y t = some (u, fy)) :
    ∃ t', stepF O Γ F ops y s = some (t', fy) ∧ stepF O Γ F ops x t' = some (u, fx) := by
  obtain ⟨a1, a2, a3⟩ := Oper.apart_spec hxy
  obtain ⟨i1, i2⟩ := indep_iff hind
  obtain ⟨vx, hx, ex, px⟩ := stepF_inv h1
  obtain ⟨vy, hy, ey, py⟩ := stepF_inv h2
  obtain ⟨q1, q2, q3⟩ := putDst_inv px
  obtain ⟨r1, r2, r3⟩ := putDst_inv py
  simp only at q1 q2 q3 r1 r2 r3
  rw [q1] at ey
  obtain ⟨gy, ey', hgy⟩ := effF_local (fr' := s.fr) (g := s.hp) (fun d hd => (q2 d (fun e => a1 d e hd)).symm) ey (fun n hn => by
    rcases effF_writes ex n with h | h
    · exact h.symm
    · exact absurd hn (i1 n h).1)
  obtain ⟨t', pt⟩ := putDst_mk (v := vy) (st := { s with hp := gy }) (o := y) (sz := F.sz) (fun d hd => by
    rcases r3 with ⟨h, _⟩ | ⟨d', h, hlt, _⟩
    · rw [h] at hd; cases hd
    · rw [h] at hd; cases hd; exact hlt)
  obtain ⟨w1, w2, w3⟩ := putDst_inv pt
  simp only at w1 w2 w3
  obtain ⟨gx, ex', hgx⟩ := effF_local (fr' := t'.fr) (g := gy) (fun d hd => w2 d (fun e => a3 d e hd)) ex (fun n hn => by
    rcases effF_writes ey' n with h | h
    · exact h
    · exact absurd hn (i2 n h).1)
  have hheap : gx = hy := by
    funext n
    rcases hgx n with ⟨h3, h4⟩ | ⟨h3, h4⟩
    · rcases hgy n with ⟨h5, h6⟩ | ⟨h5, h6⟩
      · rw [h4, h6, h5, h3]
      · rw [h4, h6]
    · rcases hgy n with ⟨h5, h6⟩ | ⟨h5, h6⟩
      · rw [h4, h5]
      · exact absurd h5 (i1 n h3).2
  subst hheap
  refine ⟨t', stepF_mk ey' pt, ?_⟩
  have : putDst F.sz x vx { t' with hp := gx } = some u := by
    have hu : u = { fr := u.fr, hp := gx } := by rw [← r1]
    rw [hu]
    unfold putDst
    rcases q3 with ⟨hd, hq⟩ | ⟨d, hd, hlt, hq⟩
    · rw [hd]
      simp only [Option.some.injEq, St.mk.injEq, and_true]
      rcases r3 with ⟨hd', hr⟩ | ⟨d', hd', _, hr⟩
      · rcases w3 with ⟨_, hw⟩ | ⟨d'', hd'', _⟩
        · rw [hw, hr, hq]
        · rw [hd'] at hd''; cases hd''
      · rcases w3 with ⟨hd'', _⟩ | ⟨d'', hd'', _, hw⟩
        · rw [hd'] at hd''; cases hd''
        · rw [hd'] at hd''; cases hd''; rw [hw, hr, hq]
    · rw [hd]
      simp only [if_pos hlt, Option.some.injEq, St.mk.injEq, and_true]
      rcases r3 with ⟨hd', hr⟩ | ⟨d', hd', _, hr⟩
      · rcases w3 with ⟨_, hw⟩ | ⟨d'', hd'', _⟩
        · rw [hw, hr, hq]
        · rw [hd'] at hd''; cases hd''
      · rcases w3 with ⟨hd'', _⟩ | ⟨d'', hd'', _, hw⟩
        · rw [hd'] at hd''; cases hd''
        · rw [hd'] at hd''; cases hd''; rw [hw, hr, hq]
          funext i
          have hne : d ≠ d' := fun e => a2 d hd (by rw [hd', e])
          unfold upd
          by_cases h3 : i = d
          · have h4 : i ≠ d' := fun e => hne (h3.symm.trans e)
            simp [h3, hne]
          · simp [h3]
  exact stepF_mk (by rw [w1]; exact ex') this

/-! ### sequences -/

def Runs (fp : Nat → Fp) : List Nat → St → St → Prop
  | [], s, t => s = t
  | i :: l, s, t => ∃ u, (∃ o, ops[i]? = some o ∧ stepF O Γ F ops o s = some (u, fp i)) ∧ Runs fp l u t

theorem Runs.front {fp : Nat → Fp} {i : Nat} {o : Oper} (ho : ops[i]? = some o) {l2 : List Nat} : ∀ (l1 : List Nat) {s t : St}, Runs (O := O) (Γ := Γ) (F := F) (ops := ops) fp (l1 ++ i :: l2) s t →
    (∀ j ∈ l1, ∀ x, ops[j]? = some x → x.apart ops o = true ∧ (fp j).indep (fp i) = true) →
    ∃ u, stepF O Γ F ops o s = some (u, fp i) ∧ Runs (O := O) (Γ := Γ) (F := F) (ops := ops) fp (l1 ++ l2) u t
  | [], s, t, h, _ => by
    obtain ⟨u, ⟨o', ho', h1⟩, h2⟩ := h
    rw [ho] at ho'
    cases ho'
    exact ⟨u, h1, h2⟩
  | j :: l1, s, t, h, hc => by
    obtain ⟨u, ⟨x, hx, h1⟩, h2⟩ := h
    obtain ⟨v, h3, h4⟩ := Runs.front ho l1 h2 (fun k hk => hc k (List.mem_cons_of_mem _ hk))
    obtain ⟨c1, c2⟩ := hc j (by simp) x hx
    obtain ⟨t', h5, h6⟩ := stepF_swap c1 c2 h1 h3
    exact ⟨t', h5, v, ⟨x, hx, h6⟩, h4⟩

theorem opsRunF_runs {R : Type} {K : List Fp → St → Option R} {r : R} : ∀ (l : List Oper) (fs : List Fp) {st : St}, (∀ i, l[i]? = ops[fs.length + i]?) → opsRunF O Γ F ops K l fs st = some r →
    ∃ fsf st', K fsf st' = some r ∧ (∃ m, fsf = m ++ fs ∧ m.length = l.length) ∧ Runs (O := O) (Γ := Γ) (F := F) (ops := ops) (fun i => fsf.reverse.getD i ⟨[], []⟩) ((List.range l.length).map (fs.length + ·)) st st'
  | [], fs, st, _, h => ⟨fs, st, h, ⟨[], rfl, rfl⟩, rfl⟩
  | o :: rest, fs, st, hat, h => by
    obtain ⟨st1, f, h1, h2⟩ := opsRunF_step O Γ F ops h
    have hat' : ∀ i, rest[i]? = ops[(f :: fs).length + i]? := fun i => by
      have := hat (i + 1)
      simp only [List.getElem?_cons_succ] at this
      rw [this, List.length_cons]
      congr 1
      omega
    obtain ⟨fsf, st', h3, ⟨m, rfl, hm⟩, h5⟩ := opsRunF_runs rest (f :: fs) hat' h2
    refine ⟨m ++ f :: fs, st', h3, ⟨m ++ [f], by simp, by simp [hm]⟩, ?_⟩
    rw [List.length_cons, List.range_succ_eq_map]
    simp only [List.map_cons, Nat.add_zero, List.map_map]
    refine ⟨st1, ⟨o, by simpa using (hat 0).symm, ?_⟩, ?_⟩
    · have : (m ++ f :: fs).reverse.getD fs.length ⟨[], []⟩ = f := by
        rw [List.reverse_append, List.reverse_cons, List.append_assoc, List.getD_eq_getElem?_getD, List.getElem?_append_right (by simp)]
        simp
      show stepF O Γ F ops o st = some (st1, (m ++ f :: fs).reverse.getD fs.length ⟨[], []⟩)
      rw [this]
      exact h1
    · have e : ((List.range rest.length).map ((fs.length + ·) ∘ Nat.succ)) = (List.range rest.length).map ((f :: fs).length + ·) := by
        apply List.map_congr_left
        intro i _
        simp only [Function.comp, List.length_cons]
        omega
      rw [e]
      exact h5

end
end Go.AM

/- A region that draws its order, sound. -/
namespace Go.AM
open Go

/-! ### what 'before' says -/

def edgesIn (ops : Array Oper) (L : Nat → Prop) (i : Nat) : Prop := ∀ o, ops[i]? = some o → ∀ e ∈ o.after, Region.binds .any e = true → L e.on

theorem or_testBit {a b j : Nat} (h : (a ||| b).testBit j = true) : a.testBit j = true ∨ b.testBit j = true := by
  simpa [Nat.testBit_or] using h

theorem fold_before {L : Nat → Prop} {acc : Array Nat} : ∀ (l : List Edge) (s : Nat), (∀ e ∈ l, Region.binds .any e = true → L e.on ∧ ∀ j, (acc.getD e.on 0).testBit j = true → L j) →
    (∀ j, s.testBit j = true → L j) → ∀ j, (l.foldl (fun s e => if Region.binds .any e = true then s ||| 2 ^ e.on ||| acc.getD e.on 0 else s) s).testBit j = true → L j
  | [], _, _, hs, j, h => hs j h
  | e :: l, s, he, hs, j, h => by
    rw [List.foldl_cons] at h
    refine fold_before l _ (fun e' h' => he e' (List.mem_cons_of_mem _ h')) ?_ j h
    intro k hk
    split at hk
    · rename_i hb
      obtain ⟨h1, h2⟩ := he e (by simp) hb
      rcases or_testBit hk with hk | hk
      · rcases or_testBit hk with hk | hk
        · exact hs k hk
        · rw [Nat.testBit_two_pow] at hk
          have : e.on = k := by simpa using hk
          exact this ▸ h1
      · exact h2 k hk
    · exact hs k hk

theorem before_acc {ops : Array Oper} {L : Nat → Prop} (hL : ∀ i, L i → edgesIn ops L i) : ∀ (l : List Oper) (acc : Array Nat), (∀ i, l[i]? = ops[acc.size + i]?) →
    (∀ i, i < acc.size → edgesIn ops L i → ∀ j, (acc.getD i 0).testBit j = true → L j) →
    ∀ i, edgesIn ops L i → ∀ j, ((l.foldl (fun acc o => acc.push (o.after.foldl (fun s e => if Region.binds .any e = true then s ||| 2 ^ e.on ||| acc.getD e.on 0 else s) 0)) acc).getD i 0).testBit j = true → L j
  | [], acc, _, ha, i, hi, j, hj => by
    simp only [List.foldl_nil] at hj
    rcases Nat.lt_or_ge i acc.size with h | h
    · exact ha i h hi j hj
    · simp [Array.getD, Nat.not_lt.2 h] at hj
  | o :: l, acc, hat, ha, i, hi, j, hj => by
    rw [List.foldl_cons] at hj
    refine before_acc hL l _ (fun k => ?_) ?_ i hi j hj
    · have := hat (k + 1)
      simp only [List.getElem?_cons_succ] at this
      rw [this, Array.size_push]
      congr 1
      omega
    · intro k hk hek m hm
      rw [Array.size_push] at hk
      by_cases hks : k < acc.size
      · have e : (acc.push (o.after.foldl (fun s e => if Region.binds .any e = true then s ||| 2 ^ e.on ||| acc.getD e.on 0 else s) 0)).getD k 0 = acc.getD k 0 := by
          rw [Array.getD_eq_getD_getElem?, Array.getElem?_push_lt hks, Array.getD_eq_getD_getElem?, Array.getElem?_eq_getElem hks]
        rw [e] at hm
        exact ha k hks hek m hm
      · have hk' : k = acc.size := by omega
        subst hk'
        have e : (acc.push (o.after.foldl (fun s e => if Region.binds .any e = true then s ||| 2 ^ e.on ||| acc.getD e.on 0 else s) 0)).getD acc.size 0 = o.after.foldl (fun s e => if Region.binds .any e = true then s ||| 2 ^ e.on ||| acc.getD e.on 0 else s) 0 := by
          rw [Array.getD_eq_getD_getElem?, Array.getElem?_push_size]
          rfl
        rw [e, ← Array.foldl_toList] at hm
        have ho : ops[acc.size]? = some o := by simpa using (hat 0).symm
        refine fold_before o.after.toList 0 (fun e he hb => ?_) (fun k hk => by simp at hk) m hm
        have h1 : L e.on := hek o ho e (Array.mem_toList_iff.1 he) hb
        refine ⟨h1, fun k hk => ?_⟩
        rcases Nat.lt_or_ge e.on acc.size with h | h
        · exact ha e.on h (hL e.on h1) k hk
        · simp [Array.getD, Nat.not_lt.2 h] at hk

theorem before_spec {ops : Array Oper} {L : Nat → Prop} (hL : ∀ i, L i → edgesIn ops L i) {i : Nat} (hi : edgesIn ops L i) {j : Nat} (hj : ((Region.before ops).getD i 0).testBit j = true) : L j := by
  unfold Region.before at hj
  rw [← Array.foldl_toList] at hj
  exact before_acc hL ops.toList #[] (fun i => by simp) (fun i h => by simp at h) i hi j hj

section
variable {P : Program} {O : Orc} {Γ : TEnv} {R : Type} {enter : Enter R}

theorem step_sound (B : Base P O Γ enter) {F : Fn} {ops : Array Oper} {o : Oper} {S : Sit} {st u : St} {f : Fp} {a : Act} {next : Act → World → Prop} {Q : Exit → Act → World → Prop} {i : Nat} (ho : ops[i]? = some o)
    (G : Good S st F.sz a) (h : stepF O Γ F ops o st = some (u, f)) (hK : ∀ T a', Good T u F.sz a' → Ext (Below' F.base) S T → next a' T.w) : wpOp P ops Q i next a S.w := by
  obtain ⟨v, h', e, p⟩ := stepF_inv h
  unfold effF at e
  simp only [Option.bind_eq_some_iff] at e
  obtain ⟨b, hb, e⟩ := e
  have hw : Region.wanted o (yielded ops a.tmps) = b := by
    unfold wantA at hb
    cases hg : o.guard with
    | none => simp only [hg, Option.some.injEq] at hb; simp [Region.wanted, hg, hb]
    | some q =>
      obtain ⟨j, want⟩ := q
      simp only [hg] at hb
      split at hb
      · cases hb
      · rename_i d hs
        split at hb
        · rename_i c hc
          simp only [Option.some.injEq] at hb
          rw [guard_wanted G.f hg hs (guard_size G.f hc) hc, hb]
        · rename_i hc
          simp only [Option.some.injEq] at hb
          rw [guard_none G.f hg hs hc, hb]
        · cases hb
  unfold wpOp
  simp only [ho]
  rw [hw]
  cases b
  · rw [if_neg (by simp)] at e ⊢
    simp only [Option.some.injEq, Prod.mk.injEq] at e
    obtain ⟨rfl, rfl, rfl⟩ := e
    exact hK S _ (put_sound G tup0_mk (AV.names_closed _ rfl) p) (Ext.refl S)
  · rw [if_pos rfl] at e ⊢
    split at e
    · cases e
    · have hrun := M.run_out (K := fun v h => putDst F.sz o v { st with hp := h }) _ _ _ e
      simp only at hrun
      rw [p, ← G.e] at hrun
      refine .inl (op_sound B.Γ B.C B.fs B.X G.h G.f hrun fun av v T hk HT ET hv hn => ?_)
      exact hK T _ (put_sound (st := { st with hp := T.hp }) ⟨HT, G.f.ext ET, rfl, G.z⟩ hv hn hk) (ET.weaken fun _ _ => trivial)

/-- the operations that are not listed yet, in the order of the text -/
def rest (ops : Array Oper) (listed : Array Bool) : List Nat := (List.range ops.size).filter fun i => !listed.getD i true

theorem mem_rest {ops : Array Oper} {listed : Array Bool} {i : Nat} : i ∈ rest ops listed ↔ i < ops.size ∧ listed.getD i true = false := by
  simp [rest]

theorem rest_sorted (ops : Array Oper) (listed : Array Bool) : (rest ops listed).Pairwise (· < ·) :=
  List.Pairwise.filter _ List.pairwise_lt_range

theorem rest_set {ops : Array Oper} {listed : Array Bool} {i : Nat} {l1 l2 : List Nat} (h : rest ops listed = l1 ++ i :: l2) : rest ops (listed.setIfInBounds i true) = l1 ++ l2 := by
  have hs := rest_sorted ops listed
  have hi : i ∈ rest ops listed := by rw [h]; simp
  have hlt : i < listed.size := by
    rcases Nat.lt_or_ge i listed.size with h' | h'
    · exact h'
    · have := (mem_rest.1 hi).2
      simp [Array.getD, Nat.not_lt.2 h'] at this
  have e : rest ops (listed.setIfInBounds i true) = (rest ops listed).filter (· != i) := by
    unfold rest
    rw [List.filter_filter]
    apply List.filter_congr
    intro k _
    by_cases hk : k = i
    · subst hk
      simp [hlt]
    · rw [getD_set_ne true (Ne.symm hk)]
      simp [hk]
  rw [e, h, List.filter_append, List.filter_cons]
  rw [h, List.pairwise_append] at hs
  obtain ⟨_, h2, h3⟩ := hs
  rw [List.pairwise_cons] at h2
  have f1 : l1.filter (· != i) = l1 := List.filter_eq_self.2 fun k hk => by
    have := h3 k hk i (by simp)
    simp; omega
  have f2 : l2.filter (· != i) = l2 := List.filter_eq_self.2 fun k hk => by
    have := h2.1 k hk
    simp; omega
  simp [f1, f2]

theorem any_sound (B : Base P O Γ enter) {F : Fn} {ops : Array Oper} {Q : Exit → Act → World → Prop} {S0 : Sit} {stE : St} {fp : Nat → Fp}
    (hback : ∀ i o, ops[i]? = some o → ∀ e ∈ o.after, Region.binds .any e = true → e.on < i)
    (hind : ∀ (i j : Nat) oi oj, j < i → ops[i]? = some oi → ops[j]? = some oj → ((Region.before ops).getD i 0).testBit j = true ∨ (oj.apart ops oi = true ∧ (fp j).indep (fp i) = true))
    (hK : ∀ T a', Good T stE F.sz a' → Ext (Below' F.base) S0 T → Q .normal a' T.w) :
    ∀ (fuel : Nat) (listed : Array Bool) {S : Sit} {st : St} {a : Act}, listed.size = ops.size → (∀ i, listed.getD i false = true → edgesIn ops (fun j => listed.getD j false = true) i) →
      (rest ops listed).length ≤ fuel → Good S st F.sz a → Ext (Below' F.base) S0 S → Runs (O := O) (Γ := Γ) (F := F) (ops := ops) fp (rest ops listed) st stE →
      wpAny P .any ops Q fuel listed a S.w := by
  intro fuel
  have hfin : ∀ (listed : Array Bool) {S : Sit} {st : St} {a : Act}, listed.size = ops.size → Good S st F.sz a → Ext (Below' F.base) S0 S → Runs (O := O) (Γ := Γ) (F := F) (ops := ops) fp (rest ops listed) st stE →
      Region.ready .any ops listed = [] → Q .normal a S.w := by
    intro listed S st a hsz G E hruns hr
    cases hrest : rest ops listed with
    | nil =>
      rw [hrest] at hruns
      cases hruns
      exact hK S a G E
    | cons i l =>
      exfalso
      have hi : i ∈ rest ops listed := by rw [hrest]; simp
      obtain ⟨h1, h2⟩ := mem_rest.1 hi
      have : i ∈ Region.ready .any ops listed := by
        refine mem_ready.2 ⟨h2, ops[i], Array.getElem?_eq_getElem h1, fun e he hb => ?_⟩
        have hlt := hback i _ (Array.getElem?_eq_getElem h1) e he hb
        cases hl : listed.getD e.on false with
        | true => rfl
        | false =>
          exfalso
          have he2 : e.on < listed.size := by omega
          have hm : e.on ∈ rest ops listed := mem_rest.2 ⟨by omega, by
            rw [Array.getD_eq_getD_getElem?, Array.getElem?_eq_getElem he2] at hl ⊢
            exact hl⟩
          have hs := rest_sorted ops listed
          rw [hrest, List.pairwise_cons] at hs
          rw [hrest] at hm
          rcases List.mem_cons.1 hm with h | h
          · omega
          · have := hs.1 _ h; omega
      rw [hr] at this
      cases this
  induction fuel with
  | zero =>
    intro listed S st a hsz hcl hlen G E hruns
    have hnil : rest ops listed = [] := List.eq_nil_of_length_eq_zero (by omega)
    have hr : Region.ready .any ops listed = [] := by
      apply List.eq_nil_iff_forall_not_mem.2
      intro i hi
      obtain ⟨h1, o, ho, _⟩ := mem_ready.1 hi
      have : i ∈ rest ops listed := mem_rest.2 ⟨(Array.getElem?_eq_some_iff.1 ho).1, h1⟩
      rw [hnil] at this
      cases this
    exact ⟨hr, hfin listed hsz G E hruns hr⟩
  | succ fuel ih =>
    intro listed S st a hsz hcl hlen G E hruns
    refine ⟨hfin listed hsz G E hruns, fun i hi => ?_⟩
    obtain ⟨h1, o, ho, hall⟩ := mem_ready.1 hi
    have hlt : i < ops.size := (Array.getElem?_eq_some_iff.1 ho).1
    have hmem : i ∈ rest ops listed := mem_rest.2 ⟨hlt, h1⟩
    obtain ⟨l1, l2, hl⟩ := List.append_of_mem hmem
    have hs := rest_sorted ops listed
    rw [hl, List.pairwise_append] at hs
    have hrs := rest_set hl
    rw [hl] at hruns hlen
    have hedge : edgesIn ops (fun j => listed.getD j false = true) i := fun o' ho' e he hb => by
      rw [ho] at ho'; cases ho'; exact hall e he hb
    obtain ⟨u, hu, hruns'⟩ := hruns.front ho l1 fun j hj x hx => by
      have hji : j < i := hs.2.2 j hj i (by simp)
      rcases hind i j o x hji ho hx with hb | hb
      · exfalso
        have h2 : listed.getD j false = true := before_spec hcl hedge hb
        have hjr : j ∈ rest ops listed := by rw [hl]; exact List.mem_append_left _ hj
        have h3 := (mem_rest.1 hjr).2
        have hjs : j < listed.size := by omega
        rw [Array.getD_eq_getD_getElem?, Array.getElem?_eq_getElem hjs] at h2 h3
        simp only [Option.getD_some] at h2 h3
        rw [h2] at h3
        cases h3
      · exact hb
    refine step_sound B ho G hu fun T a' GT ET => ih (listed.setIfInBounds i true) (by simp [hsz]) ?_ ?_ GT (E.trans ET) (by rw [hrs]; exact hruns')
    · intro k hk o' ho' e he hb
      by_cases hki : i = k
      · subst hki
        exact getD_set_true (hedge o' ho' e he hb)
      · rw [getD_set_ne false hki] at hk
        exact getD_set_true (hcl k hk o' ho' e he hb)
    · rw [hrs]
      simp only [List.length_append, List.length_cons] at hlen ⊢
      omega

theorem drawn_good {S : Sit} {st : St} {sz : Nat} {a : Act} (G : Good S st sz a) (p : Nat → Prop) : Good { S with w := { S.w with drawn := S.w.drawn + 1 } } st sz a ∧ Ext p S { S with w := { S.w with drawn := S.w.drawn + 1 } } := by
  have E : Ext Top S { S with w := { S.w with drawn := S.w.drawn + 1 } } := by
    refine ⟨fun b hb => ⟨hb, rfl⟩, Nat.le_refl _, rfl, fun _ _ => rfl, fun n _ hn => ?_, fun n _ hn => hn, fun _ h _ => h, ⟨rfl, rfl⟩⟩
    by_cases hl : cellLive (S.hp n)
    · exact .inr ⟨rfl, sameShape_refl hl⟩
    · left
      cases hcc : S.hp n <;> rw [hcc] at hl hn <;> simp [cellLive, Cell.live] at hl hn ⊢
  exact ⟨⟨G.h.world E rfl rfl (fun _ _ => rfl) (fun _ _ h => h) (fun b hb => G.h.il b hb), G.f.ext E, G.e, G.z⟩, E.weaken fun _ _ => trivial⟩

theorem region_draw_sound (B : Base P O Γ enter) (hm : P.follows .mixedOrders = true) {F : Fn} {id : Nat} {ops : Array Oper} {K : St → Option R} {r : R} {Q : Exit → Act → World → Prop} {S : Sit} {st : St} {a : Act}
    (G : Good S st F.sz a) (h : opsRunF O Γ F ops (fun fs st => if orderOk ops fs = true then K st else none) ops.toList [] st = some r)
    (hK : ∀ T st' a', Good T st' F.sz a' → Ext (Below' F.base) S T → K st' = some r → Q .normal a' T.w) : (Code.region id ops true).wp P Q a S.w := by
  obtain ⟨fsf, stE, hk, ⟨m, rfl, hlen⟩, hruns⟩ := opsRunF_runs ops.toList [] (fun i => by simp) h
  simp only [List.append_nil, Array.length_toList] at hk hruns hlen
  split at hk
  · rename_i hok
    unfold orderOk at hok
    simp only [List.all_eq_true, List.mem_range, Bool.and_eq_true, Bool.or_eq_true, decide_eq_true_eq, Bool.not_eq_true', CheckFast.beforeF_eq] at hok
    have hget : ∀ {i : Nat} {o : Oper}, ops[i]? = some o → i < ops.size ∧ ops.getD i default = o := fun {i o} ho => by
      obtain ⟨h1, h2⟩ := Array.getElem?_eq_some_iff.1 ho
      exact ⟨h1, by simp [Array.getD, h1, h2]⟩
    obtain ⟨G', E'⟩ := drawn_good G (Below' F.base)
    refine wp_region_any hm (any_sound (S0 := S) (S := { S with w := { S.w with drawn := S.w.drawn + 1 } }) (fp := fun i => m.reverse.getD i ⟨[], []⟩) B ?_ ?_ (fun T a' GT ET => hK T stE a' GT ET hk) ops.size (Array.replicate ops.size false) (by simp) ?_ ?_ G' E' ?_)
    · intro i o ho e he hb
      obtain ⟨h1, h2⟩ := hget ho
      have := (hok i h1).1 e (by rw [h2]; exact Array.mem_toList_iff.2 he)
      rw [hb] at this
      simpa using this
    · intro i j oi oj hji hoi hoj
      obtain ⟨h1, h2⟩ := hget hoi
      obtain ⟨h3, h4⟩ := hget hoj
      have := (hok i h1).2 j hji
      rw [h2, h4] at this
      rcases this with h | h
      · exact .inl h
      · exact .inr ⟨h.1.1, h.2⟩
    · intro i hi
      simp [Array.getD] at hi
    · exact Nat.le_trans (List.length_filter_le _ _) (by simp)
    · have e : rest ops (Array.replicate ops.size false) = (List.range ops.size).map (([] : List Fp).length + ·) := by
        unfold rest
        rw [List.filter_eq_self.2]
        · simp
        · intro i hi
          simp [Array.getD, List.mem_range.1 hi]
      rw [e]
      exact hruns
  · cases hk

end
end Go.AM

/- Canonical states. -/
namespace Go.AM
open Go

theorem ptrsAre_eq : ∀ {ps : List Nat} {cap : List AV}, ptrsAre ps cap = true → cap = ps.map fun n => .ptr n 0
  | [], [], _ => rfl
  | n :: r, c :: vs, h => by
    cases c <;> simp only [ptrsAre, Bool.and_eq_true, beq_iff_eq, Bool.false_eq_true] at h
    obtain ⟨⟨rfl, rfl⟩, h⟩ := h
    rw [List.map_cons, ptrsAre_eq h]
  | [], _ :: _, h => by simp [ptrsAre] at h
  | _ :: _, [], h => by simp [ptrsAre] at h

theorem Sh.dec_sound : ∀ (s : Sh) {c : AV} {x : s.T}, s.dec c = some x → (∀ (S : Sit) (v : Value), VRel S c v → VRel S (s.can x) v) ∧ ∀ p : Nat → Prop, c.names p → (s.can x).names p
  | .kd k, c, x, h => ⟨fun _ _ hv => ofK_rel (one_rel hv h), fun _ _ => ofK_names k x⟩
  | .junk, c, x, h => ⟨fun _ _ _ => .undef_mk, fun _ _ => AV.names_closed _ rfl⟩
  | .fnp f ps, c, x, h => by
    cases c <;> simp only [Sh.dec, reduceCtorEq] at h
    split at h
    · rename_i e; subst e
      split at h
      · rename_i e
        rw [ptrsAre_eq e]
        exact ⟨fun _ _ hv => hv, fun _ hn => hn⟩
      · cases h
    · cases h
  | .ref n, c, x, h => by
    cases c <;> simp only [Sh.dec, reduceCtorEq] at h
    split at h
    · rename_i e; subst e; exact ⟨fun _ _ hv => hv, fun _ hn => hn⟩
    · cases h
  | .mapr n, c, x, h => by
    cases c <;> simp only [Sh.dec, reduceCtorEq] at h
    split at h
    · rename_i e; subst e; exact ⟨fun _ _ hv => hv, fun _ hn => hn⟩
    · cases h
  | .ptr n o, c, x, h => by
    cases c <;> simp only [Sh.dec, reduceCtorEq] at h
    split at h
    · rename_i e; subst e
      split at h
      · rename_i e; subst e; exact ⟨fun _ _ hv => hv, fun _ hn => hn⟩
      · cases h
    · cases h

theorem decL_sound : ∀ (l : List Sh) {cs : List AV} {x : ShL l}, decL l cs = some x → (∀ (S : Sit) (vs : List Value), VRelL S cs vs → VRelL S (canL l x) vs) ∧ (∀ p : Nat → Prop, AV.namesL p cs → AV.namesL p (canL l x)) ∧ (canL l x).length = cs.length
  | [], [], x, _ => ⟨fun _ _ h => h, fun _ h => h, rfl⟩
  | s :: r, c :: cs, x, h => by
    simp only [decL, Option.bind_eq_some_iff] at h
    obtain ⟨a, h1, b, h2, h3⟩ := h
    simp only [Option.some.injEq] at h3
    subst h3
    obtain ⟨k1, k2⟩ := s.dec_sound h1
    obtain ⟨k3, k4, k5⟩ := decL_sound r h2
    refine ⟨fun S vs hv => ?_, fun p hn => ⟨k2 p hn.1, k4 p hn.2⟩, by simp [canL, k5]⟩
    obtain ⟨v, us, rfl, h4, h5⟩ := hv.cons_inv
    exact .cons (k1 S v h4) (k3 S us h5)
  | _ :: _, [], x, h => by cases h
  | [], _ :: _, x, h => by cases h

def CanC (c c' : Cell) : Prop :=
  c' = c ∨ ∃ cs cs', c = .box cs ∧ c' = .box cs' ∧ cs'.length = cs.length ∧ (∀ (S : Sit) (vs : List Value), VRelL S cs vs → VRelL S cs' vs) ∧ ∀ p : Nat → Prop, AV.namesL p cs → AV.namesL p cs'

theorem CSh.dec_sound : ∀ (s : CSh) {c : Cell} {x : s.T}, s.dec c = some x → CanC c (s.can x)
  | .box l, c, x, h => by
    cases c <;> simp only [CSh.dec, reduceCtorEq] at h
    obtain ⟨k1, k2, k3⟩ := decL_sound l h
    exact .inr ⟨_, _, rfl, rfl, k3, k1, k2⟩
  | .row e, c, x, h => by
    cases c <;> simp only [CSh.dec, reduceCtorEq] at h
    split at h
    · rename_i e; subst e
      simp only [Option.some.injEq] at h
      subst h
      exact .inl rfl
    · cases h
  | .map k v, c, x, h => by
    cases c <;> simp only [CSh.dec, reduceCtorEq] at h
    split at h
    · rename_i e; obtain ⟨rfl, rfl⟩ := e
      simp only [Option.some.injEq] at h
      subst h
      exact .inl rfl
    · cases h
  | .mrow k v, c, x, h => by
    cases c <;> simp only [CSh.dec, reduceCtorEq] at h
    split at h
    · rename_i e; obtain ⟨rfl, rfl⟩ := e
      simp only [Option.some.injEq] at h
      subst h
      exact .inl rfl
    · cases h
  | .dead, c, x, h => by cases c <;> simp only [CSh.dec, reduceCtorEq] at h; exact .inl rfl
  | .free, c, x, h => by cases c <;> simp only [CSh.dec, reduceCtorEq] at h; exact .inl rfl

theorem decCL_sound (d : Cell) : ∀ (l : List CSh) {cs : List Cell} {x : CShL l}, decCL l cs = some x → ∀ (names : List Nat) (n : Nat), CanC (look d (names.zip cs) n) (look d (names.zip (canCL l x)) n)
  | [], [], x, _, names, n => by cases names <;> exact .inl rfl
  | s :: r, c :: cs, x, h, names, n => by
    simp only [decCL, Option.bind_eq_some_iff] at h
    obtain ⟨a, h1, b, h2, h3⟩ := h
    simp only [Option.some.injEq] at h3
    subst h3
    cases names with
    | nil => exact .inl rfl
    | cons m names =>
      simp only [canCL, List.zip_cons_cons, look]
      split
      · exact s.dec_sound h1
      · exact decCL_sound d r h2 names n
  | _ :: _, [], x, h, _, _ => by cases h
  | [], _ :: _, x, h, _, _ => by cases h

theorem decL_look : ∀ (l : List Sh) {cs : List AV} {x : ShL l}, decL l cs = some x → ∀ (slots : List Nat) (i : Nat),
    (∀ (S : Sit) (v : Value), VRel S (look .undef (slots.zip cs) i) v → VRel S (look .undef (slots.zip (canL l x)) i) v) ∧ ∀ p : Nat → Prop, (look .undef (slots.zip cs) i).names p → (look .undef (slots.zip (canL l x)) i).names p
  | [], [], x, _, slots, i => by cases slots <;> exact ⟨fun _ _ h => h, fun _ h => h⟩
  | s :: r, c :: cs, x, h, slots, i => by
    simp only [decL, Option.bind_eq_some_iff] at h
    obtain ⟨a, h1, b, h2, h3⟩ := h
    simp only [Option.some.injEq] at h3
    subst h3
    cases slots with
    | nil => exact ⟨fun _ _ h => h, fun _ h => h⟩
    | cons m slots =>
      simp only [canL, List.zip_cons_cons, look]
      split
      · exact s.dec_sound h1
      · exact decL_look r h2 slots i
  | _ :: _, [], x, h, _, _ => by cases h
  | [], _ :: _, x, h, _, _ => by cases h

theorem CanC.shape {c c' : Cell} (h : CanC c c') (hl : cellLive c) : sameShape c c' := by
  rcases h with rfl | ⟨cs, cs', rfl, rfl, h1, _⟩
  · exact sameShape_refl hl
  · exact h1

theorem CanC.live {c c' : Cell} (h : CanC c c') : c'.live = c.live := by
  rcases h with rfl | ⟨cs, cs', rfl, rfl, h1, _⟩ <;> rfl

theorem CanC.free {c c' : Cell} (h : CanC c c') (hf : c ≠ .free) : c' ≠ .free := by
  rcases h with rfl | ⟨cs, cs', rfl, rfl, h1, _⟩
  · exact hf
  · simp

theorem CanC.dead {c c' : Cell} (h : CanC c c') (hf : c = .dead) : c' = .dead := by
  rcases h with rfl | ⟨cs, cs', rfl, rfl, h1, _⟩
  · exact hf
  · cases hf

/-- the same situation, otherwise known -/
theorem canon_good {U : Sit} {st st' : St} {sz : Nat} {a : Act} (G : Good U st sz a) (hc : ∀ n, CanC (st.hp n) (st'.hp n))
    (hf : ∀ i, (∀ (S : Sit) (v : Value), VRel S (st.fr i) v → VRel S (st'.fr i) v) ∧ ∀ p : Nat → Prop, (st.fr i).names p → (st'.fr i).names p) :
    Good { U with hp := st'.hp } st' sz a ∧ Ext Top U { U with hp := st'.hp } := by
  have hc' : ∀ n, CanC (U.hp n) (st'.hp n) := by rw [G.e]; exact hc
  have E : Ext Top U { U with hp := st'.hp } := by
    refine ⟨fun b hb => ⟨hb, rfl⟩, Nat.le_refl _, rfl, fun _ _ => rfl, fun n _ hn => ?_, fun n _ hn => (hc' n).dead hn, fun _ h _ => h, ⟨rfl, rfl⟩⟩
    by_cases hl : cellLive (U.hp n)
    · exact .inr ⟨rfl, (hc' n).shape hl⟩
    · left
      have : U.hp n = .dead := by cases hcc : U.hp n <;> rw [hcc] at hl hn <;> simp [cellLive, Cell.live] at hl hn ⊢
      exact (hc' n).dead this
  have hlive : ∀ n, cellLive (st'.hp n) → cellLive (U.hp n) := fun n h => by unfold cellLive at h ⊢; rw [← (hc' n).live]; exact h
  refine ⟨⟨⟨fun n => ?_, fun n m b hnm hn hm hb => G.h.ds n m b hnm (hlive n hn) (hlive m hm) hb, G.h.il, G.h.bl, fun n cs hcs => ?_⟩, ⟨fun i => ?_, fun i => ?_, G.f.d⟩, rfl, G.z⟩, E⟩
  · have ho := (G.h.ob n).later E (fun cs hcs => G.h.nb n cs hcs) rfl (fun b _ => ⟨rfl, id⟩)
    rcases hc' n with e | ⟨cs, cs', e1, e2, h1, h2, h3⟩
    · show ObjAt _ n (st'.hp n)
      rw [e]
      exact ho
    · show ObjAt _ n (st'.hp n)
      rw [e2]
      rw [e1] at ho
      obtain ⟨b, d, el, g1, g2, g3, g4, g5, g6⟩ := ho
      exact ⟨b, d, el, g1, g2, g3, g4, h2 _ _ g5, g6⟩
  · replace hcs : st'.hp n = .box cs := hcs
    refine AV.namesL_imp (fun m (hm : U.hp m ≠ .free) => (hc' m).free hm) cs ?_
    rcases hc' n with e | ⟨ds, ds', e1, e2, h1, h2, h3⟩
    · rw [hcs] at e; exact G.h.nb n cs e.symm
    · rw [hcs] at e2; cases e2; exact h3 _ (G.h.nb n ds e1)
  · exact VRel.ext E _ (AV.names_imp (fun m hm => ⟨trivial, hm⟩) _ ((hf i).2 _ (G.f.n i))) ((hf i).1 _ _ (G.f.v i))
  · exact AV.names_imp (fun m hm => E.nonfree trivial hm) _ ((hf i).2 _ (G.f.n i))

theorem Ext.thenTop {p : Nat → Prop} {S T U : Sit} (h : Ext p S T) (h' : Ext Top T U) : Ext p S U := h.trans (h'.weaken fun _ _ => trivial)

/-- another abstract state of the same frame -/
def Canon (base : Nat) (h : LoopIn) (old : Hp) (avs : List AV) (cells : List Cell) (avs' : List AV) (cells' : List Cell) : Prop :=
  ∀ (U : Sit) (sz : Nat) (a : Act), Good U (loopSt base h old avs cells) sz a → ∃ U', U'.w = U.w ∧ Good U' (loopSt base h old avs' cells') sz a ∧ ∀ S, Ext (Below' base) S U → Ext (Below' base) S U'

theorem dec_canon {base : Nat} {h : LoopIn} {old : Hp} {ss : List Sh} {cs : List CSh} {avs : List AV} {cells : List Cell} {x : ShL ss} {y : CShL cs} (hx : decL ss avs = some x) (hy : decCL cs cells = some y) :
    Canon base h old avs cells (canL ss x) (canCL cs y) := by
  intro U sz a G
  obtain ⟨G', E'⟩ := canon_good (st' := loopSt base h old (canL ss x) (canCL cs y)) G (fun n => decCL_sound _ cs hy h.names n) (fun i => decL_look ss hx h.slots i)
  exact ⟨{ U with hp := (loopSt base h old (canL ss x) (canCL cs y)).hp }, rfl, G', fun S E => E.thenTop E'⟩

theorem zip_map {α β : Type} (f : α → β) : ∀ l : List α, l.zip (l.map f) = l.map fun i => (i, f i)
  | [] => rfl
  | a :: l => by simp [zip_map f l]

theorem stOf_good {S U : Sit} {st : St} {sz base : Nat} {a : Act} (G : Good U st sz a) (E : Ext (Below' base) S U) (slots names : List Nat) :
    ∃ T, T.w = U.w ∧ Good T (stOf base S.hp (listed slots names st).1 (listed slots names st).2) sz a ∧ Ext (Below' base) S T ∧ T.I = U.I := by
  have hhp : ∀ n, (stOf base S.hp (listed slots names st).1 (listed slots names st).2).hp n = if names.contains n = true then (U.hp n).only (fun n => names.contains n) else
      (if n < base then (match S.hp n with | .free => .free | _ => .dead) else .free) := by
    intro n
    simp only [stOf, listed]
    rw [look_names, G.e]
    rfl
  have M : Mask (fun n => names.contains n) U { U with hp := (stOf base S.hp (listed slots names st).1 (listed slots names st).2).hp } := by
    refine ⟨rfl, rfl, rfl, rfl, fun n => ?_⟩
    simp only [hhp]
    by_cases hc : names.contains n = true
    · left; rw [if_pos hc]
    · right
      rw [if_neg hc]
      refine ⟨by simpa using hc, ?_⟩
      split
      · split
        · exact .inl rfl
        · exact .inr rfl
      · exact .inl rfl
  refine ⟨{ U with hp := (stOf base S.hp (listed slots names st).1 (listed slots names st).2).hp }, rfl, ⟨M.hrel G.h, ?_, rfl, G.z⟩, ?_, rfl⟩
  · exact (M.frel G.f).look slots
  · refine ⟨fun b hb => E.i b hb, E.s, E.b, E.o, fun n hn hf => ?_, fun n hn hd => ?_, E.j, E.q⟩
    · have hn : n < base := hn
      simp only [hhp]
      by_cases hc : names.contains n = true
      · rw [if_pos hc]
        rcases E.f n hn hf with h | ⟨h1, h2⟩
        · left; rw [h]; rfl
        · right
          refine ⟨h1, ?_⟩
          have hl : cellLive (U.hp n) := by
            cases hs : S.hp n <;> rw [hs] at h2 <;> cases hu : U.hp n <;> rw [hu] at h2 <;> first | exact h2.elim | rfl
          exact sameShape_trans h2 (sameShape_only hl)
      · left
        rw [if_neg hc, if_pos hn]
    · have hn : n < base := hn
      simp only [hhp]
      by_cases hc : names.contains n = true
      · rw [if_pos hc, E.g n hn hd]; rfl
      · rw [if_neg hc, if_pos hn]; simp only [hd]

theorem loopSt_good {S U : Sit} {st : St} {sz base : Nat} {a : Act} (G : Good U st sz a) (E : Ext (Below' base) S U) {h : LoopIn} {p : List AV × List Cell} (hp : loopState base h st = some p) :
    ∃ T, T.w = U.w ∧ Good T (loopSt base h S.hp p.1 p.2) sz a ∧ Ext (Below' base) S T := by
  unfold loopState at hp
  simp only [Option.map_eq_some_iff] at hp
  obtain ⟨st1, h1, rfl⟩ := hp
  obtain ⟨V, w, GV, EV⟩ := cmds_sound G h1
  obtain ⟨T, w', GT, ET, _⟩ := stOf_good GV (E.trans EV) h.slots h.names
  refine ⟨T, w'.trans w, ?_, ET⟩
  unfold loopSt
  simp only [zip_map]
  exact GT

theorem Ex.same_eq {a b : Ex} (h : a.same b = true) : a = b := by
  cases a <;> cases b <;> simp [Ex.same] at h <;> simp [h]

/-- the way out that was taken, and its state -/
theorem outInj_sound : ∀ (l : List OutSh) {e : Ex} {st : St} {res : Outs l}, outInj l e st = some res →
    ∃ (o : OutSh) (z : o.T), o.ex = e ∧ outOf o st = some z ∧ ∀ (R : Type) (f : Ex → List (Nat × AV) → List (Nat × Cell) → R), outElim f l res = f e (o.slots.zip (canL o.ss z.1)) (o.names.zip (canCL o.cs z.2))
  | [], e, st, res, h => by cases h
  | [o], e, st, res, h => by
    unfold outInj at h
    split at h
    · rename_i he
      have he := Ex.same_eq he
      subst he
      exact ⟨o, res, rfl, h, fun R f => rfl⟩
    · cases h
  | o :: p :: r, e, st, res, h => by
    unfold outInj at h
    split at h
    · rename_i he
      have he := Ex.same_eq he
      subst he
      simp only [Option.bind_eq_some_iff, Option.some.injEq] at h
      obtain ⟨x, h1, rfl⟩ := h
      exact ⟨o, x, rfl, h1, fun R f => rfl⟩
    · simp only [Option.bind_eq_some_iff, Option.some.injEq] at h
      obtain ⟨x, h1, rfl⟩ := h
      obtain ⟨o', z, h2, h3, h4⟩ := outInj_sound (p :: r) h1
      exact ⟨o', z, h2, h3, fun R f => h4 R f⟩

theorem out_good {S U : Sit} {st : St} {sz base : Nat} {a : Act} (G : Good U st sz a) (E : Ext (Below' base) S U) {o : OutSh} {z : o.T} (h : outOf o st = some z) :
    ∃ T, T.w = U.w ∧ Good T (stOf base S.hp (o.slots.zip (canL o.ss z.1)) (o.names.zip (canCL o.cs z.2))) sz a ∧ Ext (Below' base) S T := by
  unfold outOf at h
  simp only [Option.bind_eq_some_iff, Option.some.injEq] at h
  obtain ⟨x, h1, y, h2, rfl⟩ := h
  obtain ⟨T, w, GT, ET, _⟩ := stOf_good G E o.slots o.names
  have GT' : Good T (loopSt base ⟨[], o.slots, o.names⟩ S.hp (o.slots.map fun i => (st.fr i).only (fun n => o.names.contains n)) (o.names.map fun n => (st.hp n).only (fun n => o.names.contains n))) sz a := by
    unfold loopSt
    simp only [zip_map]
    exact GT
  obtain ⟨T', w', G', E'⟩ := dec_canon (h := ⟨[], o.slots, o.names⟩) (old := S.hp) h1 h2 T sz a GT'
  exact ⟨T', w'.trans w, G', E' S ET⟩

end Go.AM

/- Execution, sound. -/
namespace Go.AM
open Go

def exOf : Ex → Exit
  | .normal => .normal
  | .exit i => .exit i
  | .ret => .ret

/-- the loops of a piece of code, the outer ones first -/
noncomputable def loopBodies (c : Code) : List Code :=
  Code.rec (motive := fun _ => List Code)
    [] (fun _ _ _ => []) (fun _ _ x y => x ++ y) (fun _ _ _ x y => x ++ y) (fun _ _ x => x) (fun b x => b :: x)
    (fun _ _ _ _ _ _ => []) (fun _ => []) (fun _ _ => []) (fun _ => []) (fun _ => []) [] (fun _ => []) c

abbrev Enters := ∀ R : Type, Enter R

/-- a loop's oracle is backed: it is the limit of functions that each run one round more -/
def LoopOk (O : Orc) (Γ : TEnv) (En : Enters) (F : Fn) (body : Code) : Prop :=
  ∀ g, O.loop F.ctx (firstRegion body) = some g →
    ∃ L : Nat → ShL g.ss × CShL g.cs → Option (Outs g.outs), (∀ x r, g.fn x = some r → ∃ n, L n x = some r) ∧ (∀ x, L 0 x = none) ∧
      ∀ m old x r, L (m + 1) x = some r →
        execC O Γ (En (Outs g.outs)) F body (loopK F.base g.head g.ss g.cs g.outs (L m)) (loopSt F.base g.head old (canL g.ss x.1) (canCL g.cs x.2)) = some r

section
variable {P : Program} {O : Orc} {Γ : TEnv} {En : Enters}

theorem exec_sound (B : ∀ R, Base P O Γ (En R)) (hm : P.follows .mixedOrders = true) {F : Fn} : ∀ (c : Code), (∀ b ∈ loopBodies c, LoopOk O Γ En F b) →
    ∀ {R : Type} {K : Ex → St → Option R} {r : R} {Q : Exit → Act → World → Prop} {S : Sit} {st : St} {a : Act}, Good S st F.sz a → execC O Γ (En R) F c K st = some r →
      (∀ e T st' a', Good T st' F.sz a' → Ext (Below' F.base) S T → K e st' = some r → Q (exOf e) a' T.w) → c.wp P Q a S.w := by
  intro c
  induction c with
  | skip => intro _ R K r Q S st a G h hK; exact wp_skip (hK .normal S st a G (Ext.refl S) h)
  | region id ops draw =>
    intro _ R K r Q S st a G h hK
    replace h : (runCmds F.base (O.cmds F.ctx id) st).bind (fun st =>
      if draw = true then opsRunF O Γ F ops (fun fs st => if orderOk ops fs = true then K .normal st else none) ops.toList [] st
      else opsRun O Γ (En R) F ops (K .normal) ops.toList st) = some r := h
    simp only [Option.bind_eq_some_iff] at h
    obtain ⟨st1, h1, h2⟩ := h
    obtain ⟨T, w, GT, ET⟩ := cmds_sound G h1
    rw [← w]
    cases draw
    · rw [if_neg (by simp)] at h2
      have := opsRun_sound (B R) (S0 := T) (Q := Q) (fun U st' a' GU EU hk => hK .normal U st' a' GU (ET.trans EU) hk) ops.size ops.toList (by simp) (Nat.le_refl _) (fun i => by simp) GT (Ext.refl T) h2
      refine wp_region ?_
      simpa using this
    · rw [if_pos rfl] at h2
      exact region_draw_sound (B R) hm GT h2 fun U st' a' GU EU hk => hK .normal U st' a' GU (ET.trans EU) hk
  | seq x y ihx ihy =>
    intro hL R K r Q S st a G h hK
    refine wp_seq (ihx (fun b hb => hL b (List.mem_append_left _ hb)) G (K := fun e st => match e with | .normal => execC O Γ (En R) F y K st | e => K e st) h fun e T st' a' GT ET hk => ?_)
    cases e with
    | normal => exact ihy (fun b hb => hL b (List.mem_append_right _ hb)) GT hk fun e U st'' a'' GU EU hk' => hK e U st'' a'' GU (ET.trans EU) hk'
    | exit i => exact hK (.exit i) T st' a' GT ET hk
    | ret => exact hK .ret T st' a' GT ET hk
  | cond c x y ihx ihy =>
    intro hL R K r Q S st a G h hK
    have hx := fun (e : execC O Γ (En R) F x K st = some r) => ihx (fun b hb => hL b (List.mem_append_left _ hb)) G e hK
    have hy := fun (e : execC O Γ (En R) F y K st = some r) => ihy (fun b hb => hL b (List.mem_append_right _ hb)) G e hK
    cases c with
    | tmp d =>
      replace h : (match st.fr d with
        | .bool b => if b = true then execC O Γ (En R) F x K { st with fr := upd st.fr d (.bool true) } else execC O Γ (En R) F y K { st with fr := upd st.fr d (.bool false) }
        | _ => none) = some r := h
      split at h
      · rename_i b hb
        have hv := (hb ▸ G.f.v d : VRel S (.bool b) _).bool_inv
        have he : a.eval (.tmp d) = .bool b := hv
        cases b
        · rw [if_neg (by simp), upd_self hb] at h
          exact wp_cond_false he (hy h)
        · rw [if_pos rfl, upd_self hb] at h
          exact wp_cond_true he (hx h)
      · cases h
    | const v =>
      cases v with
      | bool b =>
        replace h : (if b = true then execC O Γ (En R) F x K st else execC O Γ (En R) F y K st) = some r := h
        cases b
        · exact wp_cond_false rfl (hy h)
        · exact wp_cond_true rfl (hx h)
      | _ => cases h
    | _ => cases h
  | block id x ih =>
    intro hL R K r Q S st a G h hK
    refine wp_block (ih hL G (K := fun e st => match e with | .exit i => if i = id then K .normal st else K (.exit i) st | e => K e st) h fun e T st' a' GT ET hk => ?_)
    cases e with
    | normal => exact hK .normal T st' a' GT ET hk
    | exit i =>
      replace hk : (if i = id then K .normal st' else K (.exit i) st') = some r := hk
      show (if i = id then Q .normal a' T.w else Q (.exit i) a' T.w)
      by_cases hi : i = id
      · rw [if_pos hi] at hk ⊢
        exact hK .normal T st' a' GT ET hk
      · rw [if_neg hi] at hk ⊢
        exact hK (.exit i) T st' a' GT ET hk
    | ret => exact hK .ret T st' a' GT ET hk
  | loop body ih =>
    intro hL R K r Q S st a G h hK
    have hLb : ∀ b ∈ loopBodies body, LoopOk O Γ En F b := fun b hb => hL b (List.mem_cons_of_mem _ hb)
    replace h : (match O.loop F.ctx (firstRegion body) with
      | some g => (loopState F.base g.head st).bind fun p => (decL g.ss p.1).bind fun x => (decCL g.cs p.2).bind fun y =>
          (g.fn (x, y)).bind fun r => outElim (fun e avs cells => K e (stOf F.base st.hp avs cells)) g.outs r
      | none => none) = some r := h
    split at h
    · rename_i g hg
      simp only [Option.bind_eq_some_iff] at h
      obtain ⟨p, h1, x, hx, y, hy, res, h2, h3⟩ := h
      obtain ⟨L, l1, l2, l3⟩ := hL body (List.mem_cons_self ..) g hg
      obtain ⟨n, hn⟩ := l1 _ _ h2
      have key : ∀ m x, L m x = some res → ∀ (U : Sit) (a' : Act), Good U (loopSt F.base g.head S.hp (canL g.ss x.1) (canCL g.cs x.2)) F.sz a' → Ext (Below' F.base) S U →
          Code.rounds P body Q m a' U.w := by
        intro m
        induction m with
        | zero => intro x hl; rw [l2] at hl; cases hl
        | succ m ihm =>
          intro x hl U a' GU EU
          rw [rounds_succ]
          refine ih hLb GU (l3 m S.hp x res hl) fun e T st' a'' GT ET hk => ?_
          have fin : ∀ e : Ex, outInj g.outs e st' = some res → Q (exOf e) a'' T.w := by
            intro e hk
            obtain ⟨o, z, _, hz, hel⟩ := outInj_sound g.outs hk
            obtain ⟨T', w', GT', ET'⟩ := out_good GT (EU.trans ET) hz
            rw [← w']
            refine hK e T' _ a'' GT' ET' ?_
            rw [hel, ← G.e] at h3
            exact h3
          cases e with
          | normal =>
            simp only [loopK, Option.bind_eq_some_iff] at hk
            obtain ⟨q, q1, x', q2, y', q3, q4⟩ := hk
            obtain ⟨T', w', GT', ET'⟩ := loopSt_good GT (EU.trans ET) q1
            obtain ⟨T2, w2, G2, E2⟩ := dec_canon q2 q3 T' F.sz a'' GT'
            show Code.rounds P body Q m a'' T.w
            rw [← w', ← w2]
            exact ihm (x', y') q4 T2 a'' G2 (E2 S ET')
          | exit i => exact fin (.exit i) hk
          | ret => exact fin .ret hk
      obtain ⟨T, w, GT, ET⟩ := loopSt_good G (Ext.refl S) h1
      obtain ⟨T2, w2, G2, E2⟩ := dec_canon hx hy T F.sz a GT
      rw [← w, ← w2]
      exact wp_loop_rounds n (key n (x, y) hn T2 a G2 (E2 S ET))
    · cases h
  | exit id => intro _ R K r Q S st a G h hK; exact wp_exit (hK (.exit id) S st a G (Ext.refl S) h)
  | ret => intro _ R K r Q S st a G h hK; exact wp_ret (hK .ret S st a G (Ext.refl S) h)
  | _ => intro _ R K r Q S st a G h hK; cases h

end
end Go.AM

/- A whole function, sound. -/
namespace Go.AM
open Go

section
variable {P : Program} {O : Orc} {Γ : TEnv}

/-! ### results -/

noncomputable def readVar (tmps : Array Value) : ResultVar → Sem Value
  | .tmp t => pure (tmps.getD t undef)
  | .cell a t => do loadVar t (← asAddr (tmps.getD a undef))

theorem resultOf_sound (hΓ : Γ.ok P = true) {S : Sit} {st : St} {sz : Nat} {a : Act} (G : Good S st sz a) {x : ResultVar} {av : AV} (h : resultOf Γ st x = some av) :
    ∃ v, (readVar a.tmps x).run P S.w = .ok v S.w ∧ VRel S av v := by
  cases x with
  | tmp t =>
    simp only [resultOf, Option.some.injEq] at h
    subst h
    exact ⟨_, rfl, G.f.v t⟩
  | cell b t =>
    simp only [resultOf, Option.bind_eq_some_iff] at h
    obtain ⟨k, hk, h⟩ := h
    obtain ⟨T⟩ := kOk_ty (TEnv.kind_ok hΓ hk)
    split at h
    · rename_i n off hp
      split at h
      · rename_i cs hcs
        rw [← G.e] at hcs
        have hv := G.f.v b
        rw [hp] at hv
        unfold VRel at hv
        rw [hcs] at hv
        obtain ⟨_, blk, hb, hv⟩ := hv
        have ho := G.h.ob n
        rw [hcs] at ho
        obtain ⟨b', c, E, g1, g2, g3, g4, g5, g6⟩ := ho
        have : b' = blk := by unfold blockAt at g1 hb; rw [g1] at hb; simpa using hb
        subst this
        have hc : CellsAt S.w b' 0 c.toList := fun j u hu => by rw [Nat.zero_add, cell_of_row S.w b' j c E (0, 0) g2]; simpa using hu
        have hd := (hc.drop off).take k.size
        rw [Nat.zero_add] at hd
        obtain ⟨hl, hr⟩ := res_rel ((g5.drop off).take k.size) (fun u hu => g6 u (List.mem_of_mem_drop (List.mem_of_mem_take hu))) h
        refine ⟨_, ?_, hr⟩
        simp only [readVar, hv, asAddr, Sem.run_bind, Sem.run_pure, Result.andThen_ok, T.run_load S.w hd hl Kind.size_leaf]
      · cases h
    · cases h

theorem mapM_run {α : Type} {S : Sit} {f : α → Sem Value} {g : α → Option AV} (h : ∀ x av, g x = some av → ∃ v, (f x).run P S.w = .ok v S.w ∧ VRel S av v) :
    ∀ (l : List α) {avs : List AV}, allSome g l = some avs → ∃ vs, (l.mapM f).run P S.w = .ok vs S.w ∧ VRelL S avs vs
  | [], avs, e => by simp only [allSome, Option.some.injEq] at e; subst e; exact ⟨[], rfl, .nil⟩
  | x :: l, avs, e => by
    simp only [allSome, Option.bind_eq_some_iff, Option.map_eq_some_iff] at e
    obtain ⟨av, h1, ys, h2, rfl⟩ := e
    obtain ⟨v, r1, r2⟩ := h x av h1
    obtain ⟨vs, r3, r4⟩ := mapM_run h l h2
    refine ⟨v :: vs, ?_, .cons r2 r4⟩
    rw [List.mapM_cons]
    simp only [Sem.run_bind, r1, Result.andThen_ok, r3, Sem.run_pure]

theorem results_sound (hΓ : Γ.ok P = true) {S : Sit} {st : St} {sz : Nat} {a : Act} (G : Good S st sz a) {fn : Func} {av : AV} (h : resultsOf Γ fn st = some av) :
    ∃ v, (results fn a.tmps).run P S.w = .ok v S.w ∧ VRel S av v := by
  unfold resultsOf at h
  simp only [Option.map_eq_some_iff] at h
  obtain ⟨avs, h1, h2⟩ := h
  obtain ⟨vs, r1, r2⟩ := mapM_run (P := P) (f := readVar a.tmps) (fun x av hx => resultOf_sound hΓ G hx) fn.results.toList h1
  have e : results fn a.tmps = (fn.results.mapM (readVar a.tmps) >>= fun vs => pure (if h : vs.size = 1 then vs[0] else .tuple vs)) := by
    unfold results
    congr 1
  have hrun : (results fn a.tmps).run P S.w = .ok (if h : vs.toArray.size = 1 then vs.toArray[0] else .tuple vs.toArray) S.w := by
    rw [e, Array.mapM_eq_mapM_toList]
    simp only [Sem.run_bind, map_eq_pure_bind, r1, Result.andThen_ok, Sem.run_pure]
  refine ⟨_, hrun, ?_⟩
  subst h2
  have hlen := r2.length
  match avs, vs, r2, hlen with
  | [], [], r2, _ => unfold VRel; exact ⟨[], by simp, r2⟩
  | [x], [v], r2, _ =>
    obtain ⟨v', s, e1, h1, _⟩ := r2.cons_inv
    cases e1
    simpa using h1
  | x :: y :: r, v :: u :: s, r2, _ => unfold VRel; exact ⟨v :: u :: s, by simp, r2⟩

/-! ### leaving a frame -/

def retire (S : Sit) (base : Nat) : Sit :=
  { S with I := fun b => S.I b ∨ ∃ n, base ≤ n ∧ cellLive (S.hp n) ∧ hasBlk (S.ρ n) b, hp := fun n => if n < base then (S.hp n).only (fun n => n < base) else .free }

theorem retire_sound {S : Sit} (H : HRel S) (base : Nat) : HRel (retire S base) ∧ Ext (Below' base) S (retire S base) := by
  have M := mask_below S base
  have H1 := M.hrel H
  have E : Ext Top (below S base) (retire S base) := by
    refine ⟨fun b hb => ⟨.inl hb, rfl⟩, Nat.le_refl _, rfl, fun _ _ => rfl, fun n _ hn => ?_, fun n _ hn => hn, fun b hb hlt => hb.elim id fun ⟨n, _, hl, hbn⟩ => ?_, ⟨rfl, rfl⟩⟩
    · by_cases hl : cellLive ((below S base).hp n)
      · exact .inr ⟨rfl, sameShape_refl hl⟩
      · left
        cases hcc : (below S base).hp n with
        | free => exact absurd hcc hn
        | dead => exact hcc
        | _ => rw [hcc] at hl; exact absurd rfl hl
    · exact absurd hlt (H.geB hl hbn)
  have hlive : ∀ n, cellLive ((below S base).hp n) → n < base ∧ cellLive (S.hp n) := fun n hl => by
    simp only [below] at hl
    split at hl
    · rename_i hn
      unfold cellLive at hl ⊢
      rw [only_live] at hl
      exact ⟨hn, hl⟩
    · cases hl
  refine ⟨⟨fun n => ?_, fun n m b hnm hn hm hb => H1.ds n m b hnm hn hm hb, fun b hb => ?_, H1.bl, fun n cs hcs => H1.nb n cs hcs⟩, ?_⟩
  · by_cases hl : cellLive ((below S base).hp n)
    · refine (H1.ob n).later E (fun cs hcs => H1.nb n cs hcs) rfl fun b hb => ⟨rfl, fun hI => hI.elim id fun ⟨m, hm, hlm, hbm⟩ => ?_⟩
      obtain ⟨h1, h2⟩ := hlive n hl
      exact absurd hb (H.ds m n b (by omega) hlm h2 hbm)
    · have : (below S base).hp n = .free ∨ (below S base).hp n = .dead := by
        cases hc : (below S base).hp n <;> rw [hc] at hl <;> simp [cellLive, Cell.live] at hl <;> simp
      show ObjAt _ n ((below S base).hp n)
      rcases this with e | e <;> rw [e] <;> trivial
  · rcases hb with hb | ⟨n, _, hl, hbn⟩
    · exact H.il b hb
    · exact H.lt hl hbn
  · refine (Ext.trans (T := below S base) (M.ext fun n hn hf hfr => ?_) (E.weaken fun _ _ => trivial))
    simp only [below, if_pos (show n < base from hn)] at hfr
    exact only_free hf hfr

mutual
theorem purify_sound {S : Sit} (H : HRel S) {base : Nat} : ∀ (c : AV) {v : Value} {c' : AV}, VRel S c v → purify base S.hp c = some c' → c'.closed = true ∧ VRel (retire S base) c' v
  | .ref n, v, c', hv, h => by
    unfold purify at h
    split at h
    · rename_i hb
      split at h
      · rename_i e xs hn
        cases h
        obtain ⟨k1, _, k2, k3⟩ := frozenAt_sound H hv (y := .sl e xs) (o := some n) (by simp [frozenAt, hn])
        exact ⟨k2, k3 (retire S base) rfl (fun b hb => .inl hb) fun m b hm hbm => by cases hm; exact .inr ⟨n, hb, k1 n rfl, hbm⟩⟩
      · cases h
    · cases h
  | .pref n k, v, c', hv, h => by
    unfold purify at h
    split at h
    · rename_i hb
      split at h
      · rename_i e xs hn
        cases h
        obtain ⟨k1, _, k2, k3⟩ := frozenAt_sound H hv (y := .sl e (xs.take k)) (o := some n) (by simp [frozenAt, hn])
        exact ⟨k2, k3 (retire S base) rfl (fun b hb => .inl hb) fun m b hm hbm => by cases hm; exact .inr ⟨n, hb, k1 n rfl, hbm⟩⟩
      · cases h
    · cases h
  | .agg cs, v, c', hv, h => by
    unfold purify at h
    simp only [Option.map_eq_some_iff] at h
    obtain ⟨ds, h1, rfl⟩ := h
    unfold VRel at hv
    obtain ⟨vs, rfl, h2, h3⟩ := hv
    obtain ⟨k1, k2⟩ := purifyL_sound H cs h2 h1
    exact ⟨by unfold AV.closed; exact k1, by unfold VRel; exact ⟨vs, rfl, k2, h3⟩⟩
  | .tup cs, v, c', hv, h => by
    unfold purify at h
    simp only [Option.map_eq_some_iff] at h
    obtain ⟨ds, h1, rfl⟩ := h
    unfold VRel at hv
    obtain ⟨vs, rfl, h2⟩ := hv
    obtain ⟨k1, k2⟩ := purifyL_sound H cs h2 h1
    exact ⟨by unfold AV.closed; exact k1, by unfold VRel; exact ⟨vs, rfl, k2⟩⟩
  | .sl e xs, v, c', hv, h => by
    unfold purify at h; cases h
    refine ⟨rfl, ?_⟩
    unfold VRel at hv ⊢
    exact RelK.later (fun b hb => ⟨.inl hb, rfl⟩) _ hv
  | .bool _, v, c', hv, h => by unfold purify at h; cases h; exact ⟨rfl, by unfold VRel at hv ⊢; exact hv⟩
  | .int _ _, v, c', hv, h => by unfold purify at h; cases h; exact ⟨rfl, by unfold VRel at hv ⊢; exact hv⟩
  | .str _, v, c', hv, h => by unfold purify at h; cases h; exact ⟨rfl, by unfold VRel at hv ⊢; exact hv⟩
  | .nilsl, v, c', hv, h => by unfold purify at h; cases h; exact ⟨rfl, by unfold VRel at hv ⊢; exact hv⟩
  | .nilp, v, c', hv, h => by unfold purify at h; cases h; exact ⟨rfl, by unfold VRel at hv ⊢; exact hv⟩
  | .nilmap, v, c', hv, h => by unfold purify at h; cases h; exact ⟨rfl, by unfold VRel at hv ⊢; exact hv⟩
  | .nilfn, v, c', hv, h => by unfold purify at h; cases h; exact ⟨rfl, by unfold VRel at hv ⊢; exact hv⟩
  | .nilif, v, c', hv, h => by unfold purify at h; cases h; exact ⟨rfl, by unfold VRel at hv ⊢; exact hv⟩
  | .undef, v, c', _, h => by unfold purify at h; cases h
  | .ptr _ _, v, c', _, h => by unfold purify at h; cases h
  | .eptr _ _ _, v, c', _, h => by unfold purify at h; cases h
  | .aptr _ _ _ _, v, c', _, h => by unfold purify at h; cases h
  | .iptr _, v, c', _, h => by unfold purify at h; cases h
  | .mapr _, v, c', _, h => by unfold purify at h; cases h
  | .fn _ _, v, c', _, h => by unfold purify at h; cases h
theorem purifyL_sound {S : Sit} (H : HRel S) {base : Nat} : ∀ (cs : List AV) {vs : List Value} {ds : List AV}, VRelL S cs vs → purifyL base S.hp cs = some ds → AV.closedL ds = true ∧ VRelL (retire S base) ds vs
  | [], vs, ds, hv, h => by
    unfold purifyL at h; cases h
    cases hv.nil_inv
    exact ⟨rfl, .nil⟩
  | c :: r, vs, ds, hv, h => by
    unfold purifyL at h
    simp only [Option.bind_eq_some_iff, Option.map_eq_some_iff] at h
    obtain ⟨x, h1, y, h2, rfl⟩ := h
    obtain ⟨v, s, rfl, h3, h4⟩ := hv.cons_inv
    obtain ⟨k1, k2⟩ := purify_sound H c h3 h1
    obtain ⟨k3, k4⟩ := purifyL_sound H r h4 h2
    exact ⟨by unfold AV.closedL; rw [k1, k3]; rfl, .cons k2 k4⟩
end

/-! ### entering a function -/

/-- all loops that the oracle answers are backed -/
def LoopsAll (P : Program) (O : Orc) (Γ : TEnv) (D : Nat) : Prop :=
  ∀ (d : Nat) (ctx : List Nat) (g : Nat) (fn : Func) (c : Code), ctx.length + d = D → P.funcs[g]? = some fn → fn.body = some c → ctx.head? = some g →
    ∀ b ∈ loopBodies c, LoopOk O Γ (fun R => enterD (R := R) P O Γ D d) ⟨ctx, 1000 * (ctx.length - 1), fn.ntmps⟩ b

theorem args_good {S : Sit} (H : HRel S) {args : List AV} {vs : List Value} (hv : VRelL S args vs) (hn : AV.namesL (fun m => S.hp m ≠ .free) args) {n : Nat} (hl : args.length ≤ n) :
    Good S { fr := argsFr args, hp := S.hp } n { tmps := vs.toArray ++ Array.replicate (n - vs.toArray.size) undef, defers := [] } := by
  have hlen := hv.length
  refine ⟨H, ⟨fun i => ?_, fun i => ?_, rfl⟩, rfl, by simp; omega⟩
  · unfold argsFr
    by_cases hi : i < args.length
    · obtain ⟨v, h1, h2⟩ := hv.get (List.getElem?_eq_getElem hi)
      have h3 : i < vs.length := by omega
      have e : (vs.toArray ++ Array.replicate (n - vs.toArray.size) undef).getD i undef = v := by
        rw [Array.getD_eq_getD_getElem?, Array.getElem?_append_left (by simpa using h3)]
        simp only [List.getElem?_toArray, h1, Option.getD_some]
      show VRel S (args.getD i .undef) ((vs.toArray ++ Array.replicate (n - vs.toArray.size) undef).getD i undef)
      rw [e, List.getD_eq_getElem?_getD, List.getElem?_eq_getElem hi]
      exact h2
    · show VRel S (args.getD i .undef) _
      rw [List.getD_eq_getElem?_getD, List.getElem?_eq_none (by omega)]
      exact .undef_mk
  · unfold argsFr
    by_cases hi : i < args.length
    · show (args.getD i .undef).names _
      rw [List.getD_eq_getElem?_getD, List.getElem?_eq_getElem hi]
      exact AV.namesL_mem hn (List.getElem_mem hi)
    · show (args.getD i .undef).names _
      rw [List.getD_eq_getElem?_getD, List.getElem?_eq_none (by omega)]
      exact AV.names_closed _ rfl

theorem enter_sound (hX : Special P Γ O.call) (hm : P.follows .mixedOrders = true) (hΓ : Γ.ok P = true) (hC : SoundCall P O.call)
    (hfs : ∀ g as r, O.call.av g as = some r → ∃ fn, P.funcs[g]? = some fn ∧ fn.body.isSome = true ∧ fn.name ≠ "runtime.NumGoroutine")
    (hng : ∀ fn ∈ P.funcs, fn.name ≠ "runtime.NumGoroutine") (hN : ∀ f, (∀ args, O.fresh f args = none) ∨ SoundNew P f (O.fresh f)) {D : Nat} (hL : LoopsAll P O Γ D) :
    ∀ (d : Nat) (R : Type), SoundEnter (R := R) P (enterD P O Γ D d) := by
  intro d
  induction d with
  | zero => intro R ctx base g args K hp r h; cases h
  | succ d ih =>
    intro R ctx base g args K hp r h
    unfold enterD at h
    split at h
    · cases h
    · rename_i fn hfn
      split at h
      · cases h
      · rename_i c hc
        split at h
        · rename_i hcond
          obtain ⟨rfl, c2, c3, c4⟩ := hcond
          refine ⟨⟨fn, hfn, by simp [hc], hng fn (Array.mem_of_getElem? hfn)⟩, fun S vs H hhp hv hn => ?_⟩
          subst hhp
          have B : ∀ R, Base P O Γ ((fun R => enterD (R := R) P O Γ D d) R) := fun R => ⟨hX, hΓ, hC, hfs, ih R, hN⟩
          refine calls_of_wp hfn hc (exec_sound (En := fun R => enterD (R := R) P O Γ D d) B hm (F := ⟨ctx, 1000 * (ctx.length - 1), fn.ntmps⟩) c (hL d ctx g fn c c3 hfn hc c2) (args_good H hv hn c4) h ?_)
          intro e T st' a' GT ET hk
          have fin : ((runCmds (1000 * (ctx.length - 1)) (O.leave ctx) st').bind fun st => (resultsOf Γ fn st).bind fun v => (purify (1000 * (ctx.length - 1)) st.hp v).bind fun v =>
                K v (fun n => if n < 1000 * (ctx.length - 1) then (st.hp n).only (fun n => n < 1000 * (ctx.length - 1)) else .free)) = some r →
              a'.defers = [] ∧ ∃ v, (results fn a'.tmps).run P T.w = .ok v T.w ∧ ∃ (v' : Value) (av : AV) (U : Sit), Ending.returned v = Ending.returned v' ∧ U.w = T.w ∧ HRel U ∧ Ext (Below' (1000 * (ctx.length - 1))) S U ∧ VRel U av v' ∧ av.closed = true ∧ K av U.hp = some r := by
            intro hk
            simp only [Option.bind_eq_some_iff] at hk
            obtain ⟨st2, k1, av, k2, av', k3, k4⟩ := hk
            obtain ⟨T2, w2, G2, E2⟩ := cmds_sound GT k1
            obtain ⟨v, r1, r2⟩ := results_sound hΓ G2 k2
            rw [← G2.e] at k3 k4
            obtain ⟨p1, p2⟩ := purify_sound G2.h av r2 k3
            obtain ⟨H3, E3⟩ := retire_sound G2.h (1000 * (ctx.length - 1))
            rw [w2] at r1
            exact ⟨GT.f.d, v, r1, v, av', retire T2 (1000 * (ctx.length - 1)), rfl, w2, H3, (ET.trans E2).trans E3, p2, p1, k4⟩
          cases e with
          | normal => exact fin hk
          | ret => exact fin hk
          | exit i => cases hk
        · cases h

theorem AV.closed_ofK (k : Kind) (x : k.T) : (ofK k x).closed = true := by
  unfold ofK
  split
  · unfold AV.closed; exact flat_closed k x
  · have := flat_closed k x
    split
    · rename_i c hc
      rw [hc] at this
      unfold AV.closedL at this
      simp only [Bool.and_eq_true] at this
      exact this.1
    · rfl

/-! ### functions and tables -/

/-- f does what the typed g says -/
def SoundFn (P : Program) (f : Nat) (g : List AV → Option ((r : RSh) × Option r.T)) : Prop :=
  (∃ fn, P.funcs[f]? = some fn ∧ fn.body.isSome = true ∧ fn.name ≠ "runtime.NumGoroutine") ∧
  ∀ (args : List AV) (r : AV), ((g args).bind fun p => p.2.map p.1.can) = some r →
    ∀ (w : World) (I : Nat → Prop) (vs : List Value), (∀ b, I b → b < w.heap.size) → VRelL ⟨w, I, fun _ => .nilIface, fun _ => .free, fun b => b < w.heap.size⟩ args vs →
      Calls P f vs.toArray w fun e w' => ∃ v, e = .returned v ∧ r.closed = true ∧ w.heap.size ≤ w'.heap.size ∧ (∀ b, b < w.heap.size → w'.heap[b]? = w.heap[b]?) ∧ SameOut w w' ∧
        VRel ⟨w', fun b => I b ∨ (w.heap.size ≤ b ∧ b < w'.heap.size), fun _ => .nilIface, fun _ => .free, fun b => b < w.heap.size⟩ r v

theorem look_mem' {α : Type} {d : α} : ∀ {l : List (Nat × α)} {n : Nat}, look d l n = d ∨ (n, look d l n) ∈ l
  | [], n => .inl rfl
  | (k, v) :: r, n => by
    unfold look
    split
    · rename_i h; subst h; exact .inr (by simp)
    · rcases look_mem' (d := d) (l := r) (n := n) with h | h
      · exact .inl h
      · exact .inr (List.mem_cons_of_mem _ h)

theorem tbl_sound {t : Tbl} {pt : PTbl} (h : ∀ e ∈ t, SoundFn P e.1 e.2) : SoundCall P (callOf t pt) ∧ ∀ g as r, (callOf t pt).av g as = some r → ∃ fn, P.funcs[g]? = some fn ∧ fn.body.isSome = true ∧ fn.name ≠ "runtime.NumGoroutine" := by
  have key : ∀ f args r, (callOf t pt).av f args = some r → ∃ g, SoundFn P f g ∧ ((g args).bind fun p => p.2.map p.1.can) = some r := by
    intro f args r hr
    replace hr : ((look (fun _ => none) t f args).bind fun p => p.2.map p.1.can) = some r := hr
    rcases look_mem' (d := fun _ => none) (l := t) (n := f) with e | e
    · rw [e] at hr; cases hr
    · exact ⟨_, h _ e, hr⟩
  refine ⟨fun f args r hr => ?_, fun f args r hr => ?_⟩
  · obtain ⟨g, h1, h2⟩ := key f args r hr
    exact h1.2 args r h2
  · obtain ⟨g, h1, h2⟩ := key f args r hr
    exact h1.1

theorem canK_closed : ∀ (ks : List Kind) (x : ShL (ks.map Sh.kd)), AV.closedL (canL (ks.map Sh.kd) x) = true
  | [], _ => rfl
  | k :: ks, x => by
    show ((ofK k x.1).closed && AV.closedL (canL (ks.map Sh.kd) x.2)) = true
    rw [canK_closed ks x.2, Bool.and_true]
    exact AV.closed_ofK k x.1

theorem RSh.can_closed (r : RSh) (x : r.T) : (r.can x).closed = true := by
  cases r with
  | one k => exact AV.closed_ofK k x
  | tup ks => unfold RSh.can AV.closed; exact canK_closed ks x

theorem RSh.dec_sound : ∀ (r : RSh) {c : AV} {x : r.T}, r.dec c = some x → ∀ (S : Sit) (v : Value), VRel S c v → VRel S (r.can x) v
  | .one k, c, x, h, S, v, hv => ofK_rel (one_rel hv h)
  | .tup ks, c, x, h, S, v, hv => by
    cases c <;> simp only [RSh.dec, reduceCtorEq] at h
    unfold VRel at hv
    obtain ⟨vs, rfl, h1⟩ := hv
    show VRel S (.tup (canL (ks.map Sh.kd) x)) _
    unfold VRel
    exact ⟨vs, rfl, (decL_sound _ h).1 S vs h1⟩

/-- one function, on canonical arguments -/
theorem fn_canon (hX : Special P Γ O.call) (hm : P.follows .mixedOrders = true) (hng : ∀ fn ∈ P.funcs, fn.name ≠ "runtime.NumGoroutine") (hΓ : Γ.ok P = true) {t : Tbl} {pt : PTbl} (ht : ∀ e ∈ t, SoundFn P e.1 e.2) (hO : O.call = callOf t pt) (hN : ∀ f, (∀ args, O.fresh f args = none) ∨ SoundNew P f (O.fresh f))
    {D : Nat} (hL : LoopsAll P O Γ D) {f : Nat} (hf : ∃ fn, P.funcs[f]? = some fn ∧ fn.body.isSome = true) {ks : List Kind} {rs : RSh} {F : ShL (ks.map Sh.kd) → Option rs.T}
    (h : ∀ x r, F x = some r → fexec P O Γ D f rs (canL (ks.map Sh.kd) x) = some r) : SoundFn P f (fnOf ks rs F) := by
  obtain ⟨fn, hfn, hb⟩ := hf
  refine ⟨⟨fn, hfn, hb, hng fn (Array.mem_of_getElem? hfn)⟩, fun args r hr => ?_⟩
  unfold fnOf at hr
  simp only [Option.bind_eq_some_iff, Option.some.injEq, Option.map_eq_some_iff] at hr
  obtain ⟨_, ⟨x, hx, rfl⟩, y, hy, rfl⟩ := hr
  replace hy : F x = some y := hy
  have hx1 := h x y hy
  obtain ⟨k1, _, _⟩ := decL_sound _ hx
  obtain ⟨t1, t2⟩ := tbl_sound (pt := pt) ht
  have hE := enter_sound hX hm hΓ (by rw [hO]; exact t1) (by rw [hO]; exact t2) hng hN hL D rs.T
  obtain ⟨_, hE⟩ := hE _ _ _ _ _ _ _ hx1
  intro w I vs hI hv
  have H : HRel ⟨w, I, fun _ => .nilIface, fun _ => .free, fun b => b < w.heap.size⟩ :=
    ⟨fun n => trivial, fun n m b _ hn => by simp [cellLive, Cell.live] at hn, hI, fun _ h => h, fun n cs hcs => by cases hcs⟩
  refine Calls.mono (hE _ vs H rfl (k1 _ _ hv) (AV.namesL_closed _ (canK_closed ks x))) fun e w' he => ?_
  obtain ⟨v, av, T, rfl, rfl, HT, ET, hv, hc, hk⟩ := he
  refine ⟨v, rfl, rs.can_closed y, ET.s, ET.o, ET.q, ?_⟩
  refine VRel.closed (S := T) (T := ⟨T.w, fun b => I b ∨ (w.heap.size ≤ b ∧ b < T.w.heap.size), fun _ => .nilIface, fun _ => .free, fun b => b < w.heap.size⟩) (fun b hb => ⟨?_, rfl⟩) _ (rs.can_closed y) (rs.dec_sound hk _ _ hv)
  rcases Nat.lt_or_ge b w.heap.size with hlt | hge
  · exact .inl (ET.j b hb hlt)
  · exact .inr ⟨hge, HT.il b hb⟩

theorem fn_limit {f : Nat} {ks : List Kind} {rs : RSh} {G : Nat → ShL (ks.map Sh.kd) → Option rs.T} {g : ShL (ks.map Sh.kd) → Option rs.T} (h : ∀ m, SoundFn P f (fnOf ks rs (G m)))
    (hg : ∀ x r, g x = some r → ∃ m, G m x = some r) : SoundFn P f (fnOf ks rs g) :=
  ⟨(h 0).1, fun args r hr => by
    unfold fnOf at hr
    simp only [Option.bind_eq_some_iff, Option.some.injEq, Option.map_eq_some_iff] at hr
    obtain ⟨_, ⟨x, hx, rfl⟩, y, hy, rfl⟩ := hr
    obtain ⟨m, hm⟩ := hg x y hy
    exact (h m).2 args _ (by unfold fnOf; simp only [hx, Option.bind_some, hm, Option.map_some])⟩

/-! ### limits -/

/-- more rounds than any loop takes; the kernel cannot look at it -/
theorem fuel_ex : ∃ n : Nat, n = 2 ^ 70 := ⟨_, rfl⟩
noncomputable def fuel : Nat := Classical.choose fuel_ex
theorem fuel_eq : fuel = 2 ^ 70 := Classical.choose_spec fuel_ex

/-- what L says within that many rounds -/
noncomputable def limit {α β : Type} (L : Nat → α → Option β) (x : α) : Option β := L fuel x

theorem limit_eq {α β : Type} {L : Nat → α → Option β} {x : α} {r : β} {N : Nat} (h : ∀ n, N ≤ n → L n x = some r) (hN : N ≤ 2 ^ 70) : limit L x = some r := h _ (by rw [fuel_eq]; exact hN)

/-- the same, for the kernel to run -/
def flimit {α β : Type} (L : Nat → α → Option β) (x : α) : Option β := L (2 ^ 70) x
theorem limit_flimit {α β : Type} {L L' : Nat → α → Option β} (h : ∀ n x, L n x = L' n x) : limit L = flimit L' := by
  funext x
  unfold limit flimit
  rw [h, fuel_eq]

end
end Go.AM

/- Certificates of loops and functions. -/
namespace Go.AM
open Go

theorem all_nil {α : Type} {p : α → Prop} : ∀ x ∈ ([] : List α), p x := fun _ h => nomatch h
theorem all_cons {α : Type} {p : α → Prop} {a : α} {l : List α} (h : p a) (h2 : ∀ x ∈ l, p x) : ∀ x ∈ a :: l, p x := fun x hx => by
  rcases List.mem_cons.1 hx with e | e
  · subst e; exact h
  · exact h2 x e

theorem limit_fn {α β : Type} {L : Nat → α → Option β} (x : α) (r : β) (h : limit L x = some r) : ∃ n, L n x = some r := ⟨_, h⟩

/-- no function is the one that the model treats apart -/
theorem names_ok {P : Program} (h : (P.funcs.toList.all fun fn => fn.name != "runtime.NumGoroutine") = true) : ∀ fn ∈ P.funcs, fn.name ≠ "runtime.NumGoroutine" := fun fn hf => by
  have := List.all_eq_true.1 h fn (Array.mem_toList_iff.2 hf)
  simpa using this

section
variable {P : Program} {Γ : TEnv}

/-- nothing is treated apart -/
theorem Special.none {call : Call} (h1 : Γ.procs = []) (h2 : Γ.keysOf = Option.none) : Special P Γ call := by
  refine ⟨fun nm g pd h => ?_, fun f c h => ?_, fun g c h => ?_⟩
  · unfold TEnv.proc at h; rw [h1] at h; simp at h
  · rw [h2] at h; cases h
  · obtain ⟨⟨f, h⟩, _⟩ := h; rw [h2] at h; cases h

/-- what a procedure's typed form says of values and cells -/
def procPv (F : List AV → List Cell → Option ((o : RSh × List CSh) × Option (o.1.T × CShL o.2))) : List AV → List Cell → Option (AV × List Cell) :=
  fun args cells => (F args cells).bind fun p => p.2.map fun x => (p.1.1.can x.1, canCL p.1.2 x.2)

/-- these procedures are known -/
theorem Special.procs {t : Tbl} {pt : PTbl} (h1 : ∀ q ∈ Γ.procs, SoundProc P q.1.2 (q.2.1.map (·.2)) (q.2.2.map (·.2)) (procPv (look (fun _ _ => Option.none) pt q.1.2)))
    (h2 : ∀ f c, Γ.keysOf = some (f, c) → KeysOk P f c) (h3 : ∀ g c, (∃ f, Γ.keysOf = some (f, c)) ∧ Γ.sorted = some g → SortedOk P g c) : Special P Γ (callOf t pt) :=
  ⟨fun nm g pd h => by
    unfold TEnv.proc at h
    simp only [Option.map_eq_some_iff] at h
    obtain ⟨q, h4, rfl⟩ := h
    have h5 := List.find?_some h4
    simp only [Bool.and_eq_true, beq_iff_eq] at h5
    have h6 := h1 q (List.mem_of_find?_eq_some h4)
    rw [h5.2] at h6
    exact h6, h2, h3⟩

noncomputable def nthLoop (P : Program) (f k : Nat) : Code :=
  match P.funcs[f]? with
  | some fn => match fn.body with
    | some c => (loopBodies c).getD k .skip
    | none => .skip
  | none => .skip

def tmpsOf (P : Program) (f : Nat) : Nat := match P.funcs[f]? with | some fn => fn.ntmps | none => 0

/-- only the k-th loop of f begins with that region -/
noncomputable def onlyLoop (P : Program) (f k id : Nat) : Bool :=
  match P.funcs[f]? with
  | some fn => match fn.body with
    | some c => (loopBodies c).zipIdx.all fun p => firstRegion p.1 != id || p.2 == k
    | none => false
  | none => false

/-- what shows that a loop's pure function is right -/
structure LoopCert (P : Program) (O : Orc) (Γ : TEnv) (D : Nat) (e : LoopEnt) : Prop where
  ex : ∃ (f k : Nat) (L : Nat → ShL e.ss × CShL e.cs → Option (Outs e.outs)),
    e.ctx.head? = some f ∧ onlyLoop P f k e.id = true ∧ e.ctx.length ≤ D ∧
    (∀ x r, e.fn x = some r → ∃ n, L n x = some r) ∧ (∀ x, L 0 x = none) ∧
    ∀ m old x r, L (m + 1) x = some r →
      execC O Γ (enterD P O Γ D (D - e.ctx.length)) ⟨e.ctx, 1000 * (e.ctx.length - 1), tmpsOf P f⟩ (nthLoop P f k)
        (loopK (1000 * (e.ctx.length - 1)) e.head e.ss e.cs e.outs (L m))
        (loopSt (1000 * (e.ctx.length - 1)) e.head old (canL e.ss x.1) (canCL e.cs x.2)) = some r

theorem loops_all {t : Tbl} {ls : List LoopEnt} {cmds : List (List Nat × Nat × List Cmd)} {leaves : List (List Nat × List Cmd)} {fr : FTbl} {pt : PTbl} {D : Nat}
    (h : ∀ e ∈ ls, LoopCert P (mkOrc t ls cmds leaves fr pt) Γ D e) : LoopsAll P (mkOrc t ls cmds leaves fr pt) Γ D := by
  intro d ctx g fn c hd hfn hc hg b hb e he
  replace he : (ls.find? fun e => e.id == firstRegion b && e.ctx == ctx) = some e := he
  have hmem := List.mem_of_find?_eq_some he
  have hp := List.find?_some he
  simp only [Bool.and_eq_true, beq_iff_eq] at hp
  obtain ⟨hid, hctx⟩ := hp
  obtain ⟨f, k, L, k1, k2, k3, k4, k5, k6⟩ := (h e hmem).ex
  have hf : f = g := by rw [hctx, hg] at k1; cases k1; rfl
  subst hf
  have hbody : b = nthLoop P f k := by
    unfold onlyLoop at k2
    unfold nthLoop
    simp only [hfn, hc] at k2 ⊢
    obtain ⟨j, hj⟩ := List.getElem?_of_mem hb
    have := List.all_eq_true.1 k2 (b, j) (List.mem_zipIdx_iff_getElem?.2 hj)
    simp only [Bool.or_eq_true, bne_iff_ne, ne_eq, beq_iff_eq, hid, not_true, false_or] at this
    subst this
    rw [List.getD_eq_getElem?_getD, hj]
    rfl
  have hsz : fn.ntmps = tmpsOf P f := by unfold tmpsOf; rw [hfn]
  refine ⟨L, k4, k5, fun m old x r hl => ?_⟩
  have := k6 m old x r hl
  have hd' : D - e.ctx.length = d := by rw [hctx]; omega
  rw [hbody, hsz]
  rw [hctx] at this hd'
  rw [hd'] at this
  exact this

/-- A FUNCTION'S PURE FORM. -/
theorem fn_pure (hm : P.follows .mixedOrders = true) (hng : ∀ fn ∈ P.funcs, fn.name ≠ "runtime.NumGoroutine") (hΓ : Γ.ok P = true) {t : Tbl} (ht : ∀ e ∈ t, SoundFn P e.1 e.2)
    {ls : List LoopEnt} {cmds : List (List Nat × Nat × List Cmd)} {leaves : List (List Nat × List Cmd)} {fr : FTbl} {pt : PTbl} {D : Nat} (hL : ∀ e ∈ ls, LoopCert P (mkOrc t ls cmds leaves fr pt) Γ D e)
    {f : Nat} (hf : (P.funcs[f]?.bind (·.body)).isSome = true) {ks : List Kind} {rs : RSh} {F : ShL (ks.map Sh.kd) → Option rs.T}
    (h : ∀ x r, F x = some r → fexec P (mkOrc t ls cmds leaves fr pt) Γ D f rs (canL (ks.map Sh.kd) x) = some r)
    (hfr : ∀ e ∈ fr, SoundNew P e.1 e.2 := by exact all_nil) (hX : Special P Γ (callOf t pt) := by exact Special.none rfl rfl) : SoundFn P f (fnOf ks rs F) := by
  have hf' : ∃ fn, P.funcs[f]? = some fn ∧ fn.body.isSome = true := by
    cases hc : P.funcs[f]? with
    | none => rw [hc] at hf; cases hf
    | some fn => rw [hc] at hf; exact ⟨fn, rfl, hf⟩
  refine fn_canon (pt := pt) hX hm hng hΓ ht rfl (fun g => ?_) (loops_all hL) hf' h
  show (∀ args, look (fun _ => none) fr g args = none) ∨ SoundNew P g (fun args => look (fun _ => none) fr g args)
  rcases look_mem' (d := fun _ => none) (l := fr) (n := g) with e | e
  · left; intro args; rw [e]
  · right; exact hfr _ e

end
end Go.AM

/- A function that copies a slice and asks first whether it is nil. -/
namespace Go.AM
open Go

noncomputable def noEnter : Enters := fun _ _ _ _ _ _ _ => none

/-- a new slice's elements -/
def newRes (k : IntKind) (hp : Hp) : AV → Option (List Int)
  | .nilsl => some []
  | .ref n => match hp n with
    | .row (.int k') xs => if k' = k then some xs else none
    | _ => none
  | _ => none

theorem clone_sound {P : Program} {Γ : TEnv} (hm : P.follows .mixedOrders = true) (hng : ∀ fn ∈ P.funcs, fn.name ≠ "runtime.NumGoroutine") (hΓ : Γ.ok P = true)
    {f : Nat} {fn : Func} {i0 i1 T T' : Nat} {ops0 ops1 : Array Oper} {oa ob : Oper} {x y : Code} {O : Orc} (hC : O.call = callOf []) (hN : ∀ f args, O.fresh f args = none)
    (hfn : P.funcs[f]? = some fn) (hb : fn.body = some (.seq (.region i0 ops0 false) (.seq (.seq (.region i1 ops1 false) (.cond (.tmp 4) x .skip)) y)))
    (hops : ops1 = #[oa, ob]) (hga : oa.guard = none) (hgb : ob.guard = none) (hdb : ob.dst = some 4) (hob : ob.op = .binOp .eql T (.tmp 3) (.const (.slice none 0 0)) T')
    (k : IntKind) (hT : Γ.kind T = some (.slice (.int k))) (hsz : 4 < fn.ntmps) (hlx : loopBodies x = []) (hly : loopBodies y = [])
    (F : ShL ([Kind.slice (.int k)].map Sh.kd) → Option (List Int))
    (h : ∀ xs r, F (xs, ()) = some r → ∃ st0 st1 : St,
      execC O Γ (noEnter St) ⟨[f], 0, fn.ntmps⟩ (.region i0 ops0 false) (fun e' st => match e' with | .normal => some st | _ => none) { fr := argsFr [.sl (.int k) xs], hp := fun _ => .free } = some st0 ∧
      (runCmds 0 (O.cmds [f] i1) st0 = some st0) ∧
      opRun O Γ (noEnter St) ⟨[f], 0, fn.ntmps⟩ oa (fun st => some st) st0 = some st1 ∧
      st1.fr 3 = .sl (.int k) xs ∧
      ∀ b : Bool, (b = true → xs = []) →
        execC O Γ (noEnter (List Int)) ⟨[f], 0, fn.ntmps⟩ (.cond (.tmp 4) x .skip) (fun e' st => match e' with
            | .normal => execC O Γ (noEnter (List Int)) ⟨[f], 0, fn.ntmps⟩ y (fun e' st => match e' with
                | .exit _ => none
                | _ => (resultsOf Γ fn st).bind fun v => newRes k st.hp v) st
            | .exit _ => none
            | .ret => (resultsOf Γ fn st).bind fun v => newRes k st.hp v)
          { st1 with fr := upd st1.fr 4 (.bool b) } = some r)
    (hX : Γ.procs = [] ∧ Γ.keysOf = none := by exact ⟨rfl, rfl⟩) :
    SoundNew P f (newOf [.slice (.int k)] (.int k) F) := by
  refine ⟨⟨fn, hfn, by simp [hb], hng fn (Array.mem_of_getElem? hfn)⟩, fun args r r0 hr hr0 => ?_⟩
  unfold newOf at hr
  simp only [Option.bind_eq_some_iff, Option.some.injEq] at hr
  obtain ⟨z, hx, rfl⟩ := hr
  obtain ⟨xs, ⟨⟩⟩ := z
  revert r0
  intro (r' : List Int) hy
  replace hy : F (xs, ()) = some r' := hy
  obtain ⟨k1, _, _⟩ := decL_sound _ hx
  obtain ⟨t1, t2⟩ := tbl_sound (P := P) (t := []) (pt := []) all_nil
  intro w I vs hI hv
  have H : HRel ⟨w, I, fun _ => .nilIface, fun _ => .free, fun b => b < w.heap.size⟩ :=
    ⟨fun n => trivial, fun n m b _ hn => by simp [cellLive, Cell.live] at hn, hI, fun _ h => h, fun n cs hcs => by cases hcs⟩
  have hv1 := k1 _ _ hv
  obtain ⟨st0, st1, h0, hcm, ha, h3, hrest⟩ := h xs r' hy
  have B : ∀ R, Base P O Γ (noEnter R) := fun R => ⟨Special.none hX.1 hX.2, hΓ, by rw [hC]; exact t1, by rw [hC]; exact t2, fun _ _ _ _ _ _ _ h => (by cases h), fun f => .inl (hN f)⟩
  have e1 : canL ([Kind.slice (.int k)].map Sh.kd) (xs, ()) = [.sl (.int k) xs] := rfl
  rw [e1] at hv1
  have G0 := args_good H hv1 (n := fn.ntmps) (AV.namesL_closed _ rfl) (by simp only [List.length_singleton]; omega)
  -- leaving
  have fin : ∀ (e' : Ex) {T2 : Sit} {st2 : St} {a2 : Act}, (e' = .normal ∨ e' = .ret) → Good T2 st2 fn.ntmps a2 → Ext (Below' 0) ⟨w, I, fun _ => .nilIface, fun _ => .free, fun b => b < w.heap.size⟩ T2 →
      ((resultsOf Γ fn st2).bind fun v => newRes k st2.hp v) = some r' →
      bodyPost P fn (fun en w' => ∃ v, en = .returned v ∧ w.heap.size ≤ w'.heap.size ∧ (∀ b, b < w.heap.size → w'.heap[b]? = w.heap[b]?) ∧ SameOut w w' ∧ v.oneCell' = true ∧ ObjAt ⟨w', I, fun _ => v, fun _ => .free, fun b => b < w.heap.size⟩ 0 (.row (.int k) r')) (exOf e') a2 T2.w := by
    intro e' T2 st2 a2 he' G2 ET hk
    have main : a2.defers = [] ∧ ∃ v, (results fn a2.tmps).run P T2.w = .ok v T2.w ∧ (fun en w' => ∃ v, en = .returned v ∧ w.heap.size ≤ w'.heap.size ∧ (∀ b, b < w.heap.size → w'.heap[b]? = w.heap[b]?) ∧ SameOut w w' ∧ v.oneCell' = true ∧ ObjAt ⟨w', I, fun _ => v, fun _ => .free, fun b => b < w.heap.size⟩ 0 (.row (.int k) r')) (Ending.returned v) T2.w := by
      simp only [Option.bind_eq_some_iff] at hk
      obtain ⟨av, k2, k4⟩ := hk
      obtain ⟨v, r1, r2⟩ := results_sound hΓ G2 k2
      refine ⟨G2.f.d, v, r1, v, rfl, ET.s, ET.o, ET.q, ?_⟩
      unfold newRes at k4
      split at k4
      · cases k4
        rw [r2.nilsl_inv]
        exact ⟨rfl, .inl ⟨rfl, rfl⟩⟩
      · rename_i n
        split at k4
        · rename_i k' ys hn
          split at k4
          · rename_i hk'
            subst hk'
            cases k4
            rw [← G2.e] at hn
            unfold VRel at r2
            rw [hn] at r2
            have ho := G2.h.ob n
            rw [hn] at ho
            refine ⟨r2.1, ?_⟩
            have hv0 : v = T2.ρ n := r2.2
            rcases ho with ⟨h1, h2⟩ | ⟨b, cap', c, E, h1, h2, h3, h4, h5, h6, h7, h8⟩
            · exact .inl ⟨by rw [hv0]; exact h1, h2⟩
            · rw [ET.b] at h4
              refine .inr ⟨b, cap', c, E, by rw [hv0]; exact h1, h2, fun hb => ?_, h4, h5, h6, h7, h8⟩
              have := hI b hb
              exact absurd h4 (by simp only; omega)
          · cases k4
        · cases k4
      · cases k4
    rcases he' with rfl | rfl <;> exact main
  refine calls_of_wp hfn hb (wp_seq (exec_sound (En := noEnter) B hm (F := ⟨[f], 0, fn.ntmps⟩) (.region i0 ops0 false) (fun b hb => nomatch hb) G0 h0 fun e' T0 st0' a0 GT0 ET0 hk0 => ?_))
  cases e' with
  | normal =>
    simp only [Option.some.injEq] at hk0
    subst hk0
    show (Code.seq (.seq (.region i1 ops1 false) (.cond (.tmp 4) x .skip)) y).wp P _ a0 T0.w
    refine wp_seq (wp_seq (wp_region ?_))
    have hrange : List.range ops1.size = [0, 1] := by rw [hops]; rfl
    rw [hrange, wpOps_cons]
    unfold wpOp
    have hget0 : ops1[0]? = some oa := by rw [hops]; rfl
    have hget1 : ops1[1]? = some ob := by rw [hops]; rfl
    simp only [hget0]
    rw [if_pos (by simp [Region.wanted, hga])]
    left
    refine opRun_sound (B St) GT0 ha fun T1 st1' a1 GT1 ET1 hk1 => ?_
    simp only [Option.some.injEq] at hk1
    have hk2 := hk1.symm
    subst hk2
    rw [wpOps_cons]
    unfold wpOp
    simp only [hget1]
    rw [if_pos (by simp [Region.wanted, hgb])]
    left
    -- the comparison
    have hv3 : VRel T1 (.sl (.int k) xs) (a1.tmps.getD 3 undef) := by rw [← h3]; exact GT1.f.v 3
    obtain ⟨a, len, cap, hva, hlen, _, hsl⟩ := hv3.sl_inv
    simp only [List.cons.injEq, and_true] at hva
    obtain ⟨E, hE, _⟩ := kOk_slice (TEnv.kind_ok hΓ hT)
    have heval : a1.eval (.tmp 3) = .slice a len cap := hva
    have hrun : (execOp a1.eval ob).run P T1.w = .ok (.value (.bool a.isNone)) T1.w := by
      have hg := eqGuard_none (P := P) (op := .eql) (t := T) (x := .tmp 3) (y := .const (.slice none 0 0)) (v := .slice a len cap) (u := .slice none 0 0) T1.w (fun l m h => by cases h.1) (fun h => by cases h.1)
      have h2 : (binOp .eql T (.slice a len cap) (.slice none 0 0)).run P T1.w = .ok (.bool a.isNone) T1.w := by
        simp only [binOp, Sem.run_bind, run_equal_slice_nil T1.w T E a len cap hE, Result.andThen_ok, Sem.run_pure]
      simp only [execOp, hob, heval]
      have hc : a1.eval (.const (.slice none 0 0)) = .slice none 0 0 := rfl
      simp only [hc, hg, h2, Sem.run_bind, Result.andThen_ok, Sem.run_pure]
    unfold Oper.wp
    rw [hrun]
    simp only [Oper.upon]
    have hnil : a.isNone = true → xs = [] := by
      intro ha0
      rcases hsl with h0 | ⟨b, o, e1, _⟩
      · rw [hlen] at h0
        exact List.eq_nil_of_length_eq_zero h0
      · rw [e1] at ha0; cases ha0
    have hput : putDst fn.ntmps ob (.bool a.isNone) st1 = some { st1 with fr := upd st1.fr 4 (.bool a.isNone) } := by
      unfold putDst
      rw [hdb]
      simp only [if_pos hsz]
    have G2 := put_sound GT1 (VRel.bool_mk (b := a.isNone)) (AV.names_closed _ rfl) hput
    have hfinal := hrest a.isNone hnil
    refine exec_sound (En := noEnter) B hm (F := ⟨[f], 0, fn.ntmps⟩) (.cond (.tmp 4) x .skip) (fun b hb => by
        replace hb : b ∈ loopBodies x ++ [] := hb
        rw [hlx] at hb
        cases hb) G2 hfinal fun e2 T3 st3 a3 GT3 ET3 hk3 => ?_
    have ET13 := ((ET0.trans ET1).trans ET3)
    cases e2 with
    | normal =>
      refine exec_sound (En := noEnter) B hm (F := ⟨[f], 0, fn.ntmps⟩) y (fun b hb => by
        rw [hly] at hb
        cases hb) GT3 hk3 fun e4 T4 st4 a4 GT4 ET4 hk4 => ?_
      cases e4 with
      | exit i => cases hk4
      | normal => exact fin .normal (.inl rfl) GT4 (ET13.trans ET4) hk4
      | ret => exact fin .ret (.inr rfl) GT4 (ET13.trans ET4) hk4
    | exit i => cases hk3
    | ret => exact fin .ret (.inr rfl) GT3 ET13 hk3
  | exit i => cases hk0
  | ret => cases hk0

end Go.AM

/- Arguments: what the row reads of an argument is a value of its kind. -/
namespace Go.AM
open Go

def wfInt (k : IntKind) (n : Int) : Prop := k.min ≤ n ∧ n ≤ k.max

/-- within its kind's bounds -/
def wfK : (k : Kind) → k.T → Prop
  | .int k, n => wfInt k n
  | .str, s => s.length ≤ maxLen
  | .slice e, xs => List.length (xs : List e.T) ≤ maxLen ∧ ∀ x ∈ (xs : List e.T), wfK e x
  | .pair a b, x => wfK a x.1 ∧ wfK b x.2
  | .arr n e, xs => List.length (xs : List e.T) = n ∧ ∀ x ∈ (xs : List e.T), wfK e x
  | _, _ => True

def Kind.argOk : Kind → Bool
  | .dyn _ | .rx | .fnk => false
  | .slice e => e.argOk && e.size != 0
  | .pair a b => a.argOk && b.argOk
  | .arr _ e => e.argOk
  | _ => true

theorem mapM_all {α β : Type} {f : α → Option β} : ∀ {l : List α} {ys : List β}, l.mapM f = some ys → ∀ (i : Nat) (x : α), l[i]? = some x → ∃ y, f x = some y
  | [], _, _, i, x, h => by simp at h
  | a :: l, ys, h, i, x, hx => by
    simp only [List.mapM_cons, Option.pure_def, Option.bind_eq_bind, Option.bind_eq_some_iff] at h
    obtain ⟨y, h1, zs, h2, _⟩ := h
    cases i with
    | zero => simp at hx; subst hx; exact ⟨y, h1⟩
    | succ i => exact mapM_all h2 i x (by simpa using hx)

theorem cells_len {w : World} {base : Nat} {a : Addr} {n : Nat} {us : List Value} (h : w.cells? base a n = some us) : us.length = n ∧ ∀ i, i < n → w.cell? (a.add i) = us[i]? := by
  unfold World.cells? at h
  split at h
  · have key : ∀ (l : List Nat) (us : List Value), l.mapM (fun i => w.cell? (a.add i)) = some us → us.length = l.length ∧ ∀ (j i : Nat), l[j]? = some i → w.cell? (a.add i) = us[j]? := by
      intro l
      induction l with
      | nil => intro us h; simp at h; subst h; exact ⟨rfl, fun j i h => by simp at h⟩
      | cons b l ih =>
        intro us h
        simp only [List.mapM_cons, Option.pure_def, Option.bind_eq_bind, Option.bind_eq_some_iff, Option.some.injEq] at h
        obtain ⟨y, h1, zs, h2, rfl⟩ := h
        obtain ⟨k1, k2⟩ := ih zs h2
        refine ⟨by simp [k1], fun j i hj => ?_⟩
        cases j with
        | zero => simp at hj; subst hj; simpa using h1
        | succ j => simpa using k2 j i (by simpa using hj)
    obtain ⟨k1, k2⟩ := key _ _ h
    exact ⟨by simpa using k1, fun i hi => k2 i i (by simp [hi])⟩
  · cases h

theorem choose_list {α : Type} {p : Nat → α → Prop} (n : Nat) (h : ∀ i, i < n → ∃ x, p i x) : ∃ xs : List α, xs.length = n ∧ ∀ (i : Nat) (x : α), xs[i]? = some x → p i x := by
  induction n with
  | zero => exact ⟨[], rfl, fun i x h => by simp at h⟩
  | succ n ih =>
    obtain ⟨xs, h1, h2⟩ := ih fun i hi => h i (by omega)
    obtain ⟨x, hx⟩ := h n (by omega)
    refine ⟨xs ++ [x], by simp [h1], fun i y hy => ?_⟩
    by_cases hi : i < n
    · rw [List.getElem?_append_left (by omega)] at hy; exact h2 i y hy
    · rw [List.getElem?_append_right (by omega)] at hy
      have hlt := (List.getElem?_eq_some_iff.1 hy).1
      simp at hlt
      have : i = n := by omega
      subst this
      simp [h1] at hy
      subst hy
      exact hx

theorem kOk_cells {P : Program} {k : Kind} {t : Nat} (h : kOk P k t = true) : P.cellsOf t = k.size := by
  obtain ⟨T⟩ := kOk_ty h
  unfold Program.cellsOf
  rw [T.hi]
  exact T.size

theorem RelL.of_parts {α : Type} {R : α → List Value → Prop} {n : Nat} {d : α} : ∀ {xs : List α} {cs : List Value}, cs.length = xs.length * n → (∀ (i : Nat) (x : α), xs[i]? = some x → R x ((cs.drop (i * n)).take n)) → RelL R xs cs
  | [], cs, hl, _ => by simp at hl; subst hl; rfl
  | x :: xs, cs, hl, h => by
    refine ⟨cs.take n, cs.drop n, by simp, by simpa using h 0 x rfl, RelL.of_parts (n := n) (d := d) (by simp at hl ⊢; rw [hl, Nat.add_mul]; omega) fun i y hy => ?_⟩
    have := h (i + 1) y (by simpa using hy)
    rw [Nat.add_mul, Nat.one_mul] at this
    rw [List.drop_drop, Nat.add_comm]
    exact this

section
variable {H : Type} {enc : TypeId × Value → H} {P : Program}

mutual
theorem read_kind (w : World) : ∀ (k : Kind), k.argOk = true → ∀ {t fuel : Nat} {cs : List Value} {x : DataW H × List MemPlace}, kOk P k t = true → DataW.trod enc P w 0 (fun _ => true) true fuel t cs = some x →
    ∃ y : k.T, wfK k y ∧ RelK w (fun b => b < w.heap.size) k y cs
  | .bool, _, t, fuel, cs, x, hk, h => by
    obtain ⟨b, rfl, _⟩ := DataW.trod_bool (kOk_bool hk) h
    exact ⟨b, trivial, rfl⟩
  | .int k, _, t, fuel, cs, x, hk, h => by
    obtain ⟨n, rfl, _, hw⟩ := DataW.trod_int (kOk_int hk) h
    simp only [Lit.wf, Bool.and_eq_true, decide_eq_true_eq] at hw
    exact ⟨n, hw, rfl⟩
  | .str, _, t, fuel, cs, x, hk, h => by
    obtain ⟨s, rfl, _, hs⟩ := DataW.trod_string (kOk_str hk) h
    refine ⟨s.data.toList, ?_, ?_⟩
    · show s.data.toList.length ≤ maxLen
      rw [Array.length_toList]; exact hs
    · show [Value.string s] = [strOf s.data.toList]
      simp [strOf]
  | .slice e, ha, t, fuel, cs, x, hk, h => by
    simp only [Kind.argOk, Bool.and_eq_true, bne_iff_ne, ne_eq] at ha
    obtain ⟨E, hu, he⟩ := kOk_slice hk
    have hce := kOk_cells he
    rcases DataW.trod_slice hu h with ⟨rfl, _⟩ | ⟨a, len, cap, elems, rest, n, _, rfl, rfl, _, hl, hm, hlen, hel, _, _⟩
    · exact ⟨([] : List e.T), ⟨by simp, fun x hx => by cases hx⟩, RelK.nilsl e⟩
    · have each : ∀ i, i < len → ∃ y : e.T, wfK e y ∧ ∃ us, w.cells? 0 (a.add (i * e.size)) e.size = some us ∧ RelK w (fun b => b < w.heap.size) e y us := by
        intro i hi
        have h1 := hel i hi
        rw [List.getElem?_eq_getElem (by omega), hce, Option.bind_eq_some_iff] at h1
        obtain ⟨us, h2, h3⟩ := h1
        obtain ⟨y, g1, g2⟩ := read_kind w e ha.1 he h3
        exact ⟨y, g1, us, h2, g2⟩
      obtain ⟨xs, hxl, hx⟩ := choose_list len each
      refine ⟨xs, ⟨by rw [hxl]; omega, fun y hy => ?_⟩, ⟨some a, len, cap, rfl, hxl.symm, hl, ?_⟩⟩
      · obtain ⟨i, hi⟩ := List.getElem?_of_mem hy
        exact (hx i y hi).1
      · rcases Nat.eq_zero_or_pos len with h0 | hpos
        · exact .inl h0
        · right
          have h0 : w.cell? a ≠ none := by
            obtain ⟨y, _, us, h2, _⟩ := each 0 hpos
            obtain ⟨k1, k2⟩ := cells_len h2
            have := k2 0 (by omega)
            rw [List.getElem?_eq_getElem (by omega)] at this
            simp only [Nat.zero_mul, Addr.add, if_true] at this
            rw [this]; simp
          have hspot : a.spot = none ∧ a.block < w.heap.size := by
            unfold World.cell? at h0
            split at h0
            · rename_i c E' fr hb
              refine ⟨?_, (Array.getElem?_eq_some_iff.1 hb).1⟩
              cases hs : a.spot with
              | none => rfl
              | some s => rw [hs] at h0; simp at h0
            · exact absurd rfl h0
          refine ⟨a.block, a.off, by rw [← hspot.1], hspot.2, fun i hi => ?_⟩
          have hget : xs[i]? = some (xs.getD i e.dflt) := by
            rw [List.getD_eq_getElem?_getD, List.getElem?_eq_getElem (by omega)]; rfl
          obtain ⟨_, us, h2, h3⟩ := hx i _ hget
          refine ⟨us, h3, fun j u hj => ?_⟩
          obtain ⟨k1, k2⟩ := cells_len h2
          have hjl : j < e.size := by rw [← k1]; exact (List.getElem?_eq_some_iff.1 hj).1
          have := k2 j hjl
          rw [hj] at this
          rw [← this]
          congr 1
          obtain ⟨ab, ao, asp⟩ := a
          obtain ⟨rfl, _⟩ := hspot
          simp only [Addr.add]
          split <;> split <;> simp_all <;> omega
  | .unit, _, t, fuel, cs, x, hk, h => by
    have hc := kOk_cells hk
    unfold kOk at hk
    simp only [Bool.and_eq_true] at hk
    replace hk := hk.2
    split at hk
    · rename_i fs hu
      obtain ⟨_, _, _, _, hl, _⟩ := DataW.trod_struct hu h
      refine ⟨(), trivial, ?_⟩
      show cs = []
      rw [hc] at hl
      exact List.eq_nil_of_length_eq_zero hl
    · cases hk
  | .pair k l, ha, t, fuel, cs, x, hk, h => by
    simp only [Kind.argOk, Bool.and_eq_true] at ha
    have hc := kOk_cells hk
    unfold kOk at hk
    simp only [Bool.and_eq_true] at hk
    replace hk := hk.2
    split at hk
    · rename_i fs hu
      split at hk
      · rename_i f r hfs
        simp only [Bool.and_eq_true, beq_iff_eq] at hk
        obtain ⟨⟨⟨h0, _⟩, hka⟩, hkb⟩ := hk
        obtain ⟨xs, n, _, _, hl, hxl, hall⟩ := DataW.trod_struct hu h
        have hsz : fs.size = r.length + 1 := by rw [← Array.length_toList, hfs]; rfl
        have each : ∀ (i : Nat) (g : Field), (f :: r)[i]? = some g → ∃ y, DataW.trod enc P w 0 (fun _ => true) true n g.type ((cs.drop g.offset).take (P.cellsOf g.type)) = some y := by
          intro i g hg
          rw [← hfs] at hg
          have h1 := hall i g (by simpa using hg)
          have hi := (List.getElem?_eq_some_iff.1 hg).1
          rw [Array.length_toList] at hi
          rw [List.getElem?_eq_getElem (by omega)] at h1
          exact ⟨_, h1⟩
        obtain ⟨y1, h1⟩ := each 0 f rfl
        rw [h0, List.drop_zero, kOk_cells hka] at h1
        obtain ⟨p, p1, p2⟩ := read_kind w k ha.1 hka h1
        obtain ⟨q, q1, q2⟩ := read_fields w l ha.2 (cs := cs) hkb (fun i g hg => each (i + 1) g (by simpa using hg)) (by rw [hl, hc]; rfl)
        exact ⟨(p, q), ⟨p1, q1⟩, cs.take k.size, cs.drop k.size, by simp, p2, q2⟩
      · cases hk
    · cases hk
  | .arr n e, ha, t, fuel, cs, x, hk, h => by
    have hc := kOk_cells hk
    obtain ⟨E, hu, he⟩ := kOk_arr hk
    have hce := kOk_cells he
    cases fuel with
    | zero => simp [DataW.trod] at h
    | succ m =>
      unfold DataW.trod at h
      simp only [hu] at h
      split at h
      · rename_i hlen
        simp only [Option.map_eq_some_iff] at h
        obtain ⟨ys, hys, _⟩ := h
        have each : ∀ i, i < n → ∃ y : e.T, wfK e y ∧ RelK w (fun b => b < w.heap.size) e y ((cs.drop (i * e.size)).take e.size) := by
          intro i hi
          obtain ⟨z, hz⟩ := mapM_all hys i i (by simp [hi])
          rw [hce] at hz
          exact read_kind w e ha he hz
        obtain ⟨xs, hxl, hx⟩ := choose_list n each
        refine ⟨xs, ⟨hxl, fun y hy => ?_⟩, hxl, RelL.of_parts (n := e.size) (d := e.dflt) (by rw [hlen, hc, hxl]; rfl) fun i y hy => (hx i y hy).2⟩
        obtain ⟨i, hi⟩ := List.getElem?_of_mem hy
        exact (hx i y hi).1
      · cases h
  | .dyn _, ha, _, _, _, _, _, _ => by cases ha
  | .rx, ha, _, _, _, _, _, _ => by cases ha
  | .fnk, ha, _, _, _, _, _, _ => by cases ha
theorem read_fields (w : World) : ∀ (k : Kind), k.argOk = true → ∀ {fs : List Field} {off n : Nat} {cs : List Value}, fieldsOk P k fs off = true →
    (∀ (i : Nat) (g : Field), fs[i]? = some g → ∃ y, DataW.trod enc P w 0 (fun _ => true) true n g.type ((cs.drop g.offset).take (P.cellsOf g.type)) = some y) → cs.length = off + k.size →
    ∃ y : k.T, wfK k y ∧ RelK w (fun b => b < w.heap.size) k y (cs.drop off)
  | .unit, _, fs, off, n, cs, hf, h, hl => by
    refine ⟨(), trivial, ?_⟩
    show cs.drop off = []
    exact List.drop_eq_nil_of_le (by rw [hl]; exact Nat.le_refl _)
  | .pair k l, ha, fs, off, n, cs, hf, h, hl => by
    simp only [Kind.argOk, Bool.and_eq_true] at ha
    cases fs with
    | nil => simp [fieldsOk] at hf
    | cons f r =>
      simp only [fieldsOk, Bool.and_eq_true, beq_iff_eq] at hf
      obtain ⟨⟨⟨h0, _⟩, hka⟩, hkb⟩ := hf
      obtain ⟨y1, h1⟩ := h 0 f rfl
      rw [h0, kOk_cells hka] at h1
      obtain ⟨p, p1, p2⟩ := read_kind w k ha.1 hka h1
      obtain ⟨q, q1, q2⟩ := read_fields w l ha.2 (cs := cs) hkb (fun i g hg => h (i + 1) g (by simpa using hg)) (by rw [hl]; simp only [Kind.size]; omega)
      refine ⟨(p, q), ⟨p1, q1⟩, (cs.drop off).take k.size, cs.drop (off + k.size), ?_, p2, q2⟩
      rw [← List.drop_drop]
      exact (List.take_append_drop _ _).symm
  | .bool, _, fs, off, n, cs, hf, h, hl => by simp [fieldsOk] at hf
  | .int _, _, fs, off, n, cs, hf, h, hl => by simp [fieldsOk] at hf
  | .str, _, fs, off, n, cs, hf, h, hl => by simp [fieldsOk] at hf
  | .dyn _, _, fs, off, n, cs, hf, h, hl => by simp [fieldsOk] at hf
  | .slice _, _, fs, off, n, cs, hf, h, hl => by simp [fieldsOk] at hf
  | .arr _ _, _, fs, off, n, cs, hf, h, hl => by simp [fieldsOk] at hf
  | .rx, _, fs, off, n, cs, hf, h, hl => by simp [fieldsOk] at hf
  | .fnk, _, fs, off, n, cs, hf, h, hl => by simp [fieldsOk] at hf
end
end
end Go.AM

/- A law's row out of its pure form. -/
namespace Go.AM
open Go Go.ChangeShapes Go.WideShapes Go.ChangeAt Go.RowKit

def wfL : (ks : List Kind) → ShL (ks.map Sh.kd) → Prop
  | [], _ => True
  | k :: r, x => wfK k x.1 ∧ wfL r x.2

def argsOk (P : Program) : List Kind → List Nat → Bool
  | [], [] => true
  | k :: ks, t :: ts => kOk P k t && k.argOk && P.readableRec t && decide (t < P.types.size) && argsOk P ks ts
  | _, _ => false

abbrev allOld (W : World) : Sit := ⟨W, fun b => b < W.heap.size, fun _ => .nilIface, fun _ => .free, fun b => b < W.heap.size⟩

theorem manyOf_flat {e : Kind} (h : ∀ (x : e.T) (rest : List AV), wfK e x → e.unflat (e.flat x ++ rest) = some (x, rest)) :
    ∀ (xs : List e.T) (rest : List AV), (∀ x ∈ xs, wfK e x) → manyOf e.unflat xs.length (xs.flatMap e.flat ++ rest) = some (xs, rest)
  | [], rest, _ => rfl
  | x :: xs, rest, hx => by
    simp only [List.length_cons, List.flatMap_cons, List.append_assoc, manyOf, h x _ (hx x (by simp)), Option.bind_some, manyOf_flat h xs rest fun y hy => hx y (List.mem_cons_of_mem _ hy)]

theorem unflat_flat : ∀ (k : Kind), k.argOk = true → ∀ (x : k.T) (rest : List AV), wfK k x → k.unflat (k.flat x ++ rest) = some (x, rest)
  | .bool, _, x, rest, _ => rfl
  | .int k, _, x, rest, _ => by simp [Kind.unflat, Kind.flat, unInt]
  | .str, _, x, rest, _ => rfl
  | .slice e, _, x, rest, _ => by simp [Kind.unflat, Kind.flat, unSl]
  | .unit, _, x, rest, _ => rfl
  | .pair a b, ha, x, rest, hx => by
    simp only [Kind.argOk, Bool.and_eq_true] at ha
    simp only [Kind.unflat, Kind.flat, List.append_assoc, unflat_flat a ha.1 x.1 _ hx.1, Option.bind_some, unflat_flat b ha.2 x.2 _ hx.2]
  | .arr n e, ha, x, rest, hx => by
    have hl : List.length (x : List e.T) = n := hx.1
    have key : manyOf e.unflat (List.length (x : List e.T)) ((List.range (List.length (x : List e.T))).flatMap (fun i => e.flat ((x : List e.T).getD i e.dflt)) ++ rest) = some (x, rest) := by
      rw [range_flatMap]
      exact manyOf_flat (unflat_flat e ha) x rest hx.2
    rw [hl] at key
    simp only [Kind.unflat, Kind.flat]
    rw [key]
    rfl
  | .dyn _, ha, _, _, _ => by cases ha
  | .rx, ha, _, _, _ => by cases ha

theorem one_ofK {k : Kind} (ha : k.argOk = true) {x : k.T} (hx : wfK k x) : one k (ofK k x) = some x := by
  have h := unflat_flat k ha x [] hx
  rw [List.append_nil] at h
  have hl : oneL k (k.flat x) = some x := by unfold oneL; rw [h]; rfl
  cases hagg : k.isAgg with
  | true =>
    unfold one ofK
    simp only [hagg, if_true, AV.isAgg, AV.leaves, Option.bind_some]
    exact hl
  | false =>
    cases k with
    | dyn d => cases ha
    | bool => exact hl
    | int i => exact hl
    | str => exact hl
    | slice e => exact hl
    | fnk => cases ha
    | _ => cases hagg

section
variable {H : Type} {enc : TypeId × Value → H} {P : Program} {W : World} {base : Nat}

theorem read_arg {k : Kind} (ha : k.argOk = true) {t : Nat} (hk : kOk P k t = true) {v : Value} (hv : Value.okWide P W .any base t v) {d : DataW H} {ps : List MemPlace}
    (h : DataW.Trod enc P W 0 (fun _ => true) true t v d ps) : ∃ x : k.T, wfK k x ∧ VRel (allOld W) (ofK k x) v := by
  obtain ⟨fuel, hf⟩ := h
  obtain ⟨x, hx, hr⟩ := read_kind W k ha hk hf
  refine ⟨x, hx, ?_⟩
  have hfl := flat_rel (S := allOld W) k hr
  have hones := RelK.ones k hr
  cases hagg : k.isAgg with
  | true =>
    have hstruct : ∃ cs, v = .agg cs := by
      obtain ⟨T⟩ := kOk_ty hk
      have h1 := T.agg W
      rw [hagg] at h1
      unfold Value.okWide at hv
      cases hu : P.underlying t with
      | none => simp [isAgg, underlying, hu] at h1
      | some dsc =>
        rw [run_isAgg hu] at h1
        rw [hu] at hv
        cases dsc <;> simp at h1 <;> (obtain ⟨cs, h2, _⟩ := hv; exact ⟨cs, h2⟩)
    obtain ⟨cs, rfl⟩ := hstruct
    unfold ofK
    rw [if_pos hagg]
    unfold VRel
    exact ⟨cs.toList, by simp, hfl, hones⟩
  | false =>
    have hone : ∃ u c, v.cells.toList = [u] ∧ k.flat x = [c] ∧ v = u := by
      cases k with
      | bool =>
        obtain ⟨b, rfl⟩ := okWide_bool (kOk_bool hk) hv
        exact ⟨_, _, rfl, rfl, rfl⟩
      | int i =>
        obtain ⟨b, rfl⟩ := okWide_int (kOk_int hk) hv
        exact ⟨_, _, rfl, rfl, rfl⟩
      | str =>
        obtain ⟨b, rfl⟩ := okWide_string (kOk_str hk) hv
        exact ⟨_, _, rfl, rfl, rfl⟩
      | slice e =>
        obtain ⟨E, hu, _⟩ := kOk_slice hk
        obtain ⟨a, l, c, rfl⟩ := okWide_slice hu hv
        exact ⟨_, _, rfl, rfl, rfl⟩
      | dyn d => cases ha
      | fnk => cases ha
      | _ => cases hagg
    obtain ⟨u, c, h1, h2, rfl⟩ := hone
    unfold ofK
    rw [if_neg (by simp [hagg]), h2]
    rw [h1, h2] at hfl
    obtain ⟨v', s, e1, h3, _⟩ := hfl.cons_inv
    cases e1
    exact h3

theorem read_args : ∀ (ks : List Kind) {ts : List Nat} {vs : List Value} {ds : List (DataW H)} {ps : List MemPlace}, argsOk P ks ts = true →
    (∀ (j : Nat) t v, ts[j]? = some t → vs[j]? = some v → Value.okWide P W .any base t v) → DataW.TrodAll enc P W 0 (fun _ => true) true ts vs ds ps →
    ds.length = ks.length ∧ ∃ x : ShL (ks.map Sh.kd), wfL ks x ∧ VRelL (allOld W) (canL (ks.map Sh.kd) x) vs
  | [], ts, vs, ds, ps, hk, hv, h => by
    cases ts with
    | nil =>
      obtain ⟨rfl, rfl, _⟩ := trodAll_nil h
      exact ⟨rfl, (), trivial, .nil⟩
    | cons => cases hk
  | k :: ks, ts, vs, ds, ps, hk, hv, h => by
    cases ts with
    | nil => cases hk
    | cons t ts =>
      simp only [argsOk, Bool.and_eq_true] at hk
      obtain ⟨v, vs1, d, ds1, a, b, rfl, rfl, rfl, h1, h2⟩ := trodAll_cons h
      obtain ⟨x, x1, x2⟩ := read_arg hk.1.1.1.2 hk.1.1.1.1 (hv 0 t v rfl rfl) h1
      obtain ⟨hl, y, y1, y2⟩ := read_args ks hk.2 (fun j t v ht hv' => hv (j + 1) t v (by simpa using ht) (by simpa using hv')) h2
      exact ⟨by simp [hl], (x, y), ⟨x1, y1⟩, .cons x2 y2⟩

theorem decL_canL : ∀ (ks : List Kind) {ts : List Nat}, argsOk P ks ts = true → ∀ (x : ShL (ks.map Sh.kd)), wfL ks x → decL (ks.map Sh.kd) (canL (ks.map Sh.kd) x) = some x
  | [], _, _, _, _ => rfl
  | k :: ks, ts, hk, x, hx => by
    cases ts with
    | nil => cases hk
    | cons t ts =>
      simp only [argsOk, Bool.and_eq_true] at hk
      have h1 : (Sh.kd k).dec ((Sh.kd k).can x.1) = some x.1 := one_ofK hk.1.1.1.2 hx.1
      show ((Sh.kd k).dec ((Sh.kd k).can x.1)).bind _ = _
      rw [h1, Option.bind_some]
      have h2 := decL_canL ks hk.2 x.2 hx.2
      exact (congrArg (fun o => Option.bind o fun y => some (x.1, y)) h2)

theorem args_back (hl : laidOutB P = true) {W' : World} (hold : ∀ b, b < W.heap.size → W'.heap[b]? = W.heap[b]?) : ∀ (ks : List Kind) {ts : List Nat} {vs : List Value} {ds : List (DataW H)} {ps : List MemPlace}, argsOk P ks ts = true →
    DataW.TrodAll enc P W 0 (fun _ => true) true ts vs ds ps → (∀ x ∈ ps, x.block < W.heap.size) → DataW.TrodAll enc P W' 0 (fun b => decide (b < W.heap.size)) true ts vs ds ps
  | [], ts, vs, ds, ps, hk, h, _ => by
    cases ts with
    | nil =>
      obtain ⟨rfl, rfl, rfl⟩ := trodAll_nil h
      exact rfl
    | cons => cases hk
  | k :: ks, ts, vs, ds, ps, hk, h, hlt => by
    cases ts with
    | nil => cases hk
    | cons t ts =>
      simp only [argsOk, Bool.and_eq_true, decide_eq_true_eq] at hk
      obtain ⟨v, vs1, d, ds1, a, b, rfl, rfl, rfl, h1, h2⟩ := trodAll_cons h
      refine ⟨a, b, ?_, args_back hl hold ks hk.2 h2 (fun x hx => hlt x (List.mem_append_right _ hx)), rfl⟩
      refine WideElems.Trod_stays hl hk.1.1.2 hk.1.2 h1 (fun x hx => ?_) (fun x hx => by simpa using hlt x (List.mem_append_left _ hx))
      have hb := hlt x (List.mem_append_left _ hx)
      cases x with
      | cell b o => exact World.cell?_of_block (w := W) (hold b hb)
      | map b => exact hold b hb

/-- A LAW: its pure form answers true at each argument within its kind's bounds. -/
theorem law_contract {f : Nat} {fn : Func} {s : ChangeSpec} {ks : List Kind} {p : ShL (ks.map Sh.kd) → Option Bool} (hs : SoundFn P f (fnOf ks (.one .bool) p)) (hvars : s.vars = [])
    (hspec : ∀ (H : Type) (ds : List (DataW H)), ds.length = ks.length → s.fn H ds = { results := [.lit (.bool true)], args := ds }) (hk : argsOk P ks fn.params.toList = true)
    {tb : Nat} (hr : fn.resultTypes = #[tb]) (hb : P.underlying tb = some .bool) (hlaid : laidOutB P = true) (hp : ∀ x, wfL ks x → p x = some true)
    {args : Array Value} {ds gs : List (DataW H)} {before : List MemPlace}
    (hval : ∀ (j : Nat) t v, fn.params[j]? = some t → args[j]? = some v → Value.okWide P W .any base t v)
    (hW : DataW.Whole enc P fn.params.toList s.vars false W args.toList ds gs before) :
    Calls P f args W fun e W' => ∃ v, e = .returned v ∧ s.post enc P fn false true false false W args v W' := by
  have hW' := hW
  obtain ⟨pp, q, hA, hV, rfl, hfz, hnd⟩ := hW
  rw [hvars] at hV
  obtain ⟨rfl, rfl⟩ := trodVars_none hV
  obtain ⟨hlen, x, hx, hrel⟩ := read_args ks hk (fun j t v ht hv => hval j t v (by simpa using ht) (by simpa using hv)) hA
  have hcan : decL (ks.map Sh.kd) (canL (ks.map Sh.kd) x) = some x := decL_canL ks hk x hx
  have hpx := hp x hx
  have hcall := hs.2 (canL (ks.map Sh.kd) x) (.bool true) (by unfold fnOf; rw [hcan]; simp only [Option.bind_some, hpx, Option.map_some]; rfl) W (fun b => b < W.heap.size) args.toList (fun b hb => hb) hrel
  refine Calls.mono hcall fun e W' he => ?_
  obtain ⟨v, rfl, _, hsz, hold, hout, hv⟩ := he
  have hv := hv.bool_inv
  subst hv
  refine ⟨_, rfl, ds, [], pp ++ [], [], pp, [], hW', ?_, ?_, ?_, ?_, fun h => by cases h⟩
  · rw [List.append_nil, hspec H ds hlen, hr]
    exact trodAll_mk1 (shut_bool hb _)
  · rw [List.append_nil, hspec H ds hlen]
    exact args_back hlaid hold ks hk hA (fun z hz => by simpa using hW'.lt z (List.mem_append_left _ hz))
  · rw [List.append_nil, hspec H ds hlen, hvars]
    exact rfl
  · refine ⟨hout.1, hout.2, fun i hi => ?_⟩
    rw [hold i hi]
    split <;> simp_all

end
end Go.AM

/- Plain laws: loops. -/
namespace Go.AM
open Go

theorem wrap_i64 {z : Int} (h1 : -9223372036854775808 ≤ z) (h2 : z ≤ 9223372036854775807) : IntKind.i64.wrap z = z := by
  rw [IntKind.wrap_i64]; omega

theorem wrap_nat {i : Nat} (h : i < 9223372036854775807) : IntKind.i64.wrap ((i : Int) + 1) = ((i + 1 : Nat) : Int) := by
  rw [wrap_i64 (by omega) (by omega)]
  exact (Int.natCast_add i 1).symm

section
variable {α β : Type} {L : Nat → α → Option β}

/-- N rounds, then the way out -/
theorem for_rule {N : Nat} {S : Nat → α} {r : β} (hstep : ∀ i, i < N → ∀ n, L (n + 1) (S i) = L n (S (i + 1))) (hend : ∀ n, L (n + 1) (S N) = some r) (hN : N < 2 ^ 70) : limit L (S 0) = some r := by
  have key : ∀ k, k ≤ N → ∀ n, N - k + 1 ≤ n → L n (S k) = some r := by
    intro k hk
    induction hd : N - k generalizing k with
    | zero =>
      intro n hn
      have : k = N := by omega
      subst this
      obtain ⟨m, rfl⟩ : ∃ m, n = m + 1 := ⟨n - 1, by omega⟩
      exact hend m
    | succ d ih =>
      intro n hn
      obtain ⟨m, rfl⟩ : ∃ m, n = m + 1 := ⟨n - 1, by omega⟩
      rw [hstep k (by omega)]
      exact ih (k + 1) (by omega) (by omega) m (by omega)
  exact limit_eq (N := N + 1) (fun n hn => key 0 (by omega) n (by omega)) (by omega)

/-- rounds that keep Inv and lower m, until a way out that Q fits -/
theorem loop_rule {x0 : α} (Inv : α → Prop) (m : α → Nat) (Q : β → Prop) (h0 : Inv x0) (hm : m x0 < 2 ^ 70)
    (step : ∀ x, Inv x → (∃ r, Q r ∧ ∀ n, L (n + 1) x = some r) ∨ ∃ x', Inv x' ∧ m x' < m x ∧ ∀ n, L (n + 1) x = L n x') : ∃ r, limit L x0 = some r ∧ Q r := by
  have key : ∀ k x, Inv x → m x ≤ k → ∃ r, Q r ∧ ∀ n, k + 1 ≤ n → L n x = some r := by
    intro k
    induction k with
    | zero =>
      intro x hx hk
      rcases step x hx with ⟨r, h1, h2⟩ | ⟨x', _, h2, _⟩
      · exact ⟨r, h1, fun n hn => by obtain ⟨j, rfl⟩ : ∃ j, n = j + 1 := ⟨n - 1, by omega⟩; exact h2 j⟩
      · omega
    | succ k ih =>
      intro x hx hk
      rcases step x hx with ⟨r, h1, h2⟩ | ⟨x', h1, h2, h3⟩
      · exact ⟨r, h1, fun n hn => by obtain ⟨j, rfl⟩ : ∃ j, n = j + 1 := ⟨n - 1, by omega⟩; exact h2 j⟩
      · obtain ⟨r, h4, h5⟩ := ih x' h1 (by omega)
        exact ⟨r, h4, fun n hn => by obtain ⟨j, rfl⟩ : ∃ j, n = j + 1 := ⟨n - 1, by omega⟩; rw [h3]; exact h5 j (by omega)⟩
  obtain ⟨r, h1, h2⟩ := key (m x0) x0 h0 (Nat.le_refl _)
  exact ⟨r, limit_eq h2 (by omega), h1⟩

/-- the same, over a description of the states -/
theorem state_rule {σ : Type} (S : σ → α) (Inv : σ → Prop) (m : σ → Nat) (Q : β → Prop) (s0 : σ) (h0 : Inv s0) (hm : m s0 < 2 ^ 70)
    (step : ∀ s, Inv s → (∃ r, Q r ∧ ∀ n, L (n + 1) (S s) = some r) ∨ ∃ s', Inv s' ∧ m s' < m s ∧ ∀ n, L (n + 1) (S s) = L n (S s')) : ∃ r, limit L (S s0) = some r ∧ Q r := by
  have key : ∀ k s, Inv s → m s ≤ k → ∃ r, Q r ∧ ∀ n, k + 1 ≤ n → L n (S s) = some r := by
    intro k
    induction k with
    | zero =>
      intro x hx hk
      rcases step x hx with ⟨r, h1, h2⟩ | ⟨x', _, h2, _⟩
      · exact ⟨r, h1, fun n hn => by obtain ⟨j, rfl⟩ : ∃ j, n = j + 1 := ⟨n - 1, by omega⟩; exact h2 j⟩
      · omega
    | succ k ih =>
      intro x hx hk
      rcases step x hx with ⟨r, h1, h2⟩ | ⟨x', h1, h2, h3⟩
      · exact ⟨r, h1, fun n hn => by obtain ⟨j, rfl⟩ : ∃ j, n = j + 1 := ⟨n - 1, by omega⟩; exact h2 j⟩
      · obtain ⟨r, h4, h5⟩ := ih x' h1 (by omega)
        exact ⟨r, h4, fun n hn => by obtain ⟨j, rfl⟩ : ∃ j, n = j + 1 := ⟨n - 1, by omega⟩; rw [h3]; exact h5 j (by omega)⟩
  obtain ⟨r, h1, h2⟩ := key (m s0) s0 h0 (Nat.le_refl _)
  exact ⟨r, limit_eq h2 (by omega), h1⟩
end

/-- all, or the first that is not -/
theorem all_or_first (N : Nat) (p : Nat → Prop) : (∀ i, i < N → p i) ∨ ∃ k, k < N ∧ ¬ p k ∧ ∀ i, i < k → p i := by
  induction N with
  | zero => left; intro i hi; omega
  | succ N ih =>
    rcases ih with h | ⟨k, h1, h2, h3⟩
    · by_cases hp : p N
      · left
        intro i hi
        by_cases e : i = N
        · subst e; exact hp
        · exact h i (by omega)
      · right; exact ⟨N, by omega, hp, h⟩
    · right; exact ⟨k, by omega, h2, h3⟩

theorem getD_mem {α : Type} {l : List α} {d : α} {i : Nat} (h : i < l.length) : l.getD i d ∈ l := by
  rw [List.getD_eq_getElem?_getD, List.getElem?_eq_getElem h]
  exact List.getElem_mem h

theorem all_getD {α : Type} {l : List α} {d : α} {p : α → Prop} : (∀ x ∈ l, p x) ↔ ∀ i, i < l.length → p (l.getD i d) := by
  constructor
  · intro h i hi; exact h _ (getD_mem hi)
  · intro h x hx
    obtain ⟨i, hi, rfl⟩ := List.mem_iff_getElem.1 hx
    have := h i hi
    rwa [List.getD_eq_getElem?_getD, List.getElem?_eq_getElem hi] at this

theorem ct {p : Prop} [Decidable p] (h : p) : decide p = true := decide_eq_true h
theorem cf {p : Prop} [Decidable p] (h : ¬ p) : ¬ decide p = true := by simp [h]
theorem cnt {p : Prop} [Decidable p] (h : ¬ p) : (!decide p) = true := by simp [h]
theorem cnf {p : Prop} [Decidable p] (h : p) : ¬ (!decide p) = true := by simp [h]
theorem ff : ¬ (false = true) := by simp
theorem nft : (!false) = true := rfl
theorem ntf : ¬ ((!true) = true) := by simp
theorem lt_nat {i n : Nat} (h : i < n) : decide ((i : Int) < (n : Int)) = true := ct (by omega)
theorem nlt_nat {n : Nat} : ¬ decide ((n : Int) < (n : Int)) = true := cf (by omega)

theorem wrap_u8 {i : Nat} (h : i < 256) : IntKind.u8.wrap (i : Int) = (i : Int) := by
  have e : ∀ i : Fin 256, IntKind.u8.wrap ((i.val : Nat) : Int) = ((i.val : Nat) : Int) := by decide +kernel
  exact e ⟨i, h⟩

theorem byte_one {i : Nat} : ([((i : Nat) : Int)] : List Int).map (fun n => UInt8.ofNat n.toNat) = [UInt8.ofNat i] := by simp

theorem getD_map {α β : Type} {f : α → β} {l : List α} {d : α} {i : Nat} : (l.map f).getD i (f d) = f (l.getD i d) := by
  rw [List.getD_eq_getElem?_getD, List.getD_eq_getElem?_getD, List.getElem?_map]
  cases l[i]? <;> rfl

/-! ### maps -/

def EqOk (k : Kind) : Prop := ∀ x y : k.T, k.eqB x y = true ↔ x = y
theorem eqOk_int (k : IntKind) : EqOk (.int k) := fun x y => by show decide (x = y) = true ↔ x = y; simp
theorem eqOk_str : EqOk .str := fun x y => by show decide (x = y) = true ↔ x = y; simp
theorem eqOk_unit : EqOk .unit := fun x y => by cases x; cases y; exact ⟨fun _ => rfl, fun _ => rfl⟩
theorem eqOk_pair {a b : Kind} (ha : EqOk a) (hb : EqOk b) : EqOk (.pair a b) := fun x y => by
  show (a.eqB x.1 y.1 && b.eqB x.2 y.2) = true ↔ x = y
  rw [Bool.and_eq_true, ha, hb]
  exact ⟨fun h => Prod.ext h.1 h.2, fun h => by rw [h]; exact ⟨rfl, rfl⟩⟩

theorem mget_mput_same {k : Kind} (hk : EqOk k) {v : Type} (x : k.T) (y : v) : ∀ es : List (k.T × v), mget k x (mput k x y es) = some y
  | [] => by simp [mput, mget, (hk x x).2 rfl]
  | p :: r => by
    unfold mput
    split
    · simp [mget, (hk x x).2 rfl]
    · rename_i h
      unfold mget
      rw [if_neg h]
      exact mget_mput_same hk x y r

theorem mget_mput_other {k : Kind} (hk : EqOk k) {v : Type} {x z : k.T} (hxz : z ≠ x) (y : v) : ∀ es : List (k.T × v), mget k z (mput k x y es) = mget k z es
  | [] => by
    show (if k.eqB z x = true then some y else none) = none
    rw [if_neg fun h => hxz ((hk _ _).1 h)]
  | p :: r => by
    unfold mput
    split
    · rename_i h
      have e := (hk _ _).1 h
      show (if k.eqB z x = true then some y else mget k z r) = if k.eqB z p.1 = true then some p.2 else mget k z r
      rw [← e, if_neg (fun h => hxz ((hk _ _).1 h)), if_neg (fun h => hxz ((hk _ _).1 h))]
    · unfold mget
      split
      · rfl
      · exact mget_mput_other hk hxz y r

theorem mput_length {k : Kind} {v : Type} (x : k.T) (y : v) : ∀ es : List (k.T × v), (mput k x y es).length = es.length + (if (mget k x es).isSome = true then 0 else 1)
  | [] => rfl
  | p :: r => by
    unfold mput mget
    split
    · simp
    · simp only [List.length_cons, mput_length x y r]
      split <;> omega

theorem in_range {i n : Nat} (h : i < n) : decide (0 ≤ (i : Int) ∧ (i : Int) < (n : Int)) = true := by simp; omega

end Go.AM

/- Lists of marks. -/
namespace Go.AM
open Go

theorem getD_set {α : Type} {l : List α} {d x : α} {i j : Nat} (hj : j < l.length) : (l.set i x).getD j d = if i = j then x else l.getD j d := by
  rw [List.getD_eq_getElem?_getD, List.getElem?_set]
  by_cases e : i = j
  · subst e; simp [hj]
  · rw [if_neg e, if_neg e, List.getD_eq_getElem?_getD]

theorem count_set {L : List Bool} {s : Nat} (hs : s < L.length) (h : L.getD s false = false) : (L.set s true).count true = L.count true + 1 := by
  rw [List.count_set hs]
  rw [List.getD_eq_getElem?_getD, List.getElem?_eq_getElem hs] at h
  simp only [Option.getD_some] at h
  simp [h]
theorem take_snoc {α : Type} {l : List α} {d : α} {i : Nat} (h : i < l.length) : l.take (i + 1) = l.take i ++ [l.getD i d] := by
  rw [List.take_succ_eq_append_getElem h, List.getD_eq_getElem?_getD, List.getElem?_eq_getElem h]
  rfl

theorem map_getD {α β : Type} {f : α → β} {l : List α} {d : α} {d' : β} {j : Nat} (h : j < l.length) : (l.map f).getD j d' = f (l.getD j d) := by
  rw [List.getD_eq_getElem?_getD, List.getElem?_map, List.getD_eq_getElem?_getD, List.getElem?_eq_getElem h]
  simp only [Option.map_some, Option.getD_some]

theorem ext_getD {α : Type} {l m : List α} (d : α) (hl : l.length = m.length) (h : ∀ i, i < l.length → l.getD i d = m.getD i d) : l = m := by
  apply List.ext_getElem? fun i => ?_
  by_cases hi : i < l.length
  · have := h i hi
    rw [List.getD_eq_getElem?_getD, List.getD_eq_getElem?_getD, List.getElem?_eq_getElem hi, List.getElem?_eq_getElem (by omega)] at this
    rw [List.getElem?_eq_getElem hi, List.getElem?_eq_getElem (by omega)]
    exact congrArg some this
  · rw [List.getElem?_eq_none (by omega), List.getElem?_eq_none (by omega)]

theorem map_range_getD {α : Type} {f : Nat → α} {d : α} {n j : Nat} (h : j < n) : ((List.range n).map f).getD j d = f j := by
  rw [List.getD_eq_getElem?_getD, List.getElem?_map, List.getElem?_range h]
  rfl

/-- a list's last letter -/
theorem snoc_ind {α : Type} {p : List α → Prop} (h0 : p []) (h1 : ∀ l a, p l → p (l ++ [a])) (l : List α) : p l := by
  have : ∀ l : List α, p l.reverse := by
    intro l
    induction l with
    | nil => exact h0
    | cons a l ih => rw [List.reverse_cons]; exact h1 _ _ ih
  have := this l.reverse
  rwa [List.reverse_reverse] at this
end Go.AM

/- Regular expressions as trees: validity by depth, counts, the position automaton's parts. -/
namespace Go.AM
open Go

abbrev rxd : Rx := Rx.mk 0 [0, 0, 0, 0] []
/-- as it is read back -/
def nrm (r : Rx) : Rx := Rx.mk r.kind [r.set.getD 0 0, r.set.getD 1 0, r.set.getD 2 0, r.set.getD 3 0] r.kids

theorem nrm_eq {r : Rx} (h : r.set.length = 4) : nrm r = r := by
  obtain ⟨k, s, ks⟩ := r
  match s, h with
  | [a, b, c, d], _ => rfl

def zset (s : List Int) : Bool := Kind.eqB (.arr 4 (.int .u64)) [s.getD 0 0, s.getD 1 0, s.getD 2 0, s.getD 3 0] [(0 : Int), (0 : Int), (0 : Int), (0 : Int)]

/-- four words in each node -/
def Four : Nat → Rx → Prop
  | 0, _ => True
  | d + 1, r => r.set.length = 4 ∧ ∀ k ∈ r.kids, Four d k

/-- the node itself is in order -/
def nodeOk (r : Rx) : Bool :=
  ((r.kind == 3) != zset r.set) &&
  (((r.kind == 1 || r.kind == 2 || r.kind == 3) && decide (r.kids.length = 0)) || ((r.kind == 4 || r.kind == 5) && decide (2 ≤ r.kids.length)) || (r.kind == 6 && decide (r.kids.length = 1)))

/-- valid within d levels -/
def VR : Nat → Rx → Prop
  | 0, _ => False
  | d + 1, r => nodeOk r = true ∧ ∀ k ∈ r.kids, VR d k

-- counts
mutual
def nn : Rx → Nat
  | .mk _ _ ks => 1 + nnL ks
def nnL : List Rx → Nat
  | [] => 0
  | r :: rs => nn r + nnL rs
end
mutual
/-- the sets of the leaves, from left to right -/
def lv : Rx → List (List Int)
  | .mk k s ks => if k = 3 then [s] else if k = 4 then lvL ks else if k = 5 then lvL ks else if k = 6 then lvL ks else []
def lvL : List Rx → List (List Int)
  | [] => []
  | r :: rs => lv r ++ lvL rs
end

theorem nnL_append : ∀ l m : List Rx, nnL (l ++ m) = nnL l + nnL m
  | [], m => by simp [nnL]
  | r :: l, m => by simp only [List.cons_append, nnL, nnL_append l m]; omega
theorem lvL_append : ∀ l m : List Rx, lvL (l ++ m) = lvL l ++ lvL m
  | [], m => by simp [lvL]
  | r :: l, m => by simp only [List.cons_append, lvL, lvL_append l m, List.append_assoc]

mutual
theorem lv_le : ∀ r : Rx, (lv r).length ≤ nn r
  | .mk k s ks => by
    have := lvL_le ks
    unfold lv nn
    split
    · simp only [List.length_singleton]; omega
    · split
      · omega
      · split
        · omega
        · split
          · omega
          · exact Nat.zero_le _
theorem lvL_le : ∀ l : List Rx, (lvL l).length ≤ nnL l
  | [] => by simp [lvL]
  | r :: l => by
    have h1 := lv_le r
    have h2 := lvL_le l
    unfold lvL nnL
    rw [List.length_append]; omega
end

/-- what an expression is in the automaton: nullable, first and last positions -/
structure Pt where
  n : Bool
  f : List Int
  l : List Int

def prs (a b : List Int) : List (Int × Int) := a.flatMap fun p => b.map fun q => (p, q)

/-- the state of a concatenation's loop -/
def catP (x y : Pt) : Pt := ⟨x.n && y.n, if x.n then x.f ++ y.f else x.f, if y.n then x.l ++ y.l else y.l⟩
def uniP (x y : Pt) : Pt := ⟨x.n || y.n, x.f ++ y.f, x.l ++ y.l⟩

-- the part of an expression behind o leaves, and the pairs that it links
mutual
def gl : Rx → Nat → Pt
  | .mk k _ ks, o => if k = 2 then ⟨true, [], []⟩ else if k = 3 then ⟨false, [((o + 1 : Nat) : Int)], [((o + 1 : Nat) : Int)]⟩ else if k = 4 then glC ks o ⟨true, [], []⟩ else if k = 5 then glU ks o ⟨false, [], []⟩
      else if k = 6 then ⟨true, (glU ks o ⟨false, [], []⟩).f, (glU ks o ⟨false, [], []⟩).l⟩ else ⟨false, [], []⟩
def glC : List Rx → Nat → Pt → Pt
  | [], _, x => x
  | r :: rs, o, x => glC rs (o + (lv r).length) (catP x (gl r o))
def glU : List Rx → Nat → Pt → Pt
  | [], _, x => x
  | r :: rs, o, x => glU rs (o + (lv r).length) (uniP x (gl r o))
end
mutual
def fl : Rx → Nat → List (Int × Int)
  | .mk k _ ks, o => if k = 4 then flC ks o ⟨true, [], []⟩ else if k = 5 then flU ks o else if k = 6 then flU ks o ++ prs (glU ks o ⟨false, [], []⟩).l (glU ks o ⟨false, [], []⟩).f else []
def flC : List Rx → Nat → Pt → List (Int × Int)
  | [], _, _ => []
  | r :: rs, o, x => fl r o ++ prs x.l (gl r o).f ++ flC rs (o + (lv r).length) (catP x (gl r o))
def flU : List Rx → Nat → List (Int × Int)
  | [], _ => []
  | r :: rs, o => fl r o ++ flU rs (o + (lv r).length)
end

theorem glC_append : ∀ (l m : List Rx) (o : Nat) (x : Pt), glC (l ++ m) o x = glC m (o + (lvL l).length) (glC l o x)
  | [], m, o, x => by simp [glC, lvL]
  | r :: l, m, o, x => by simp only [List.cons_append, glC, lvL, glC_append l m, List.length_append, Nat.add_assoc]
theorem glU_append : ∀ (l m : List Rx) (o : Nat) (x : Pt), glU (l ++ m) o x = glU m (o + (lvL l).length) (glU l o x)
  | [], m, o, x => by simp [glU, lvL]
  | r :: l, m, o, x => by simp only [List.cons_append, glU, lvL, glU_append l m, List.length_append, Nat.add_assoc]
theorem flC_append : ∀ (l m : List Rx) (o : Nat) (x : Pt), flC (l ++ m) o x = flC l o x ++ flC m (o + (lvL l).length) (glC l o x)
  | [], m, o, x => by simp [flC, glC, lvL]
  | r :: l, m, o, x => by simp only [List.cons_append, flC, glC, lvL, flC_append l m, List.length_append, Nat.add_assoc, List.append_assoc]
theorem flU_append : ∀ (l m : List Rx) (o : Nat), flU (l ++ m) o = flU l o ++ flU m (o + (lvL l).length)
  | [], m, o => by simp [flU, lvL]
  | r :: l, m, o => by simp only [List.cons_append, flU, lvL, flU_append l m, List.length_append, Nat.add_assoc, List.append_assoc]

/-- positions between o and o + m, not more than m -/
def Pin (o m : Nat) (x : Pt) : Prop := (∀ q ∈ x.f, (o : Int) < q ∧ q ≤ ((o + m : Nat) : Int)) ∧ (∀ q ∈ x.l, (o : Int) < q ∧ q ≤ ((o + m : Nat) : Int)) ∧ x.f.length ≤ m ∧ x.l.length ≤ m

theorem Pin.cat {o m k : Nat} {x y : Pt} (hx : Pin o m x) (hy : Pin (o + m) k y) : Pin o (m + k) (catP x y) := by
  obtain ⟨a1, a2, a3, a4⟩ := hx
  obtain ⟨b1, b2, b3, b4⟩ := hy
  unfold catP
  refine ⟨fun q hq => ?_, fun q hq => ?_, ?_, ?_⟩
  · simp only at hq
    split at hq
    · rcases List.mem_append.1 hq with h | h
      · have := a1 q h; omega
      · have := b1 q h; omega
    · have := a1 q hq; omega
  · simp only at hq
    split at hq
    · rcases List.mem_append.1 hq with h | h
      · have := a2 q h; omega
      · have := b2 q h; omega
    · have := b2 q hq; omega
  · simp only
    split
    · rw [List.length_append]; omega
    · omega
  · simp only
    split
    · rw [List.length_append]; omega
    · omega
theorem Pin.uni {o m k : Nat} {x y : Pt} (hx : Pin o m x) (hy : Pin (o + m) k y) : Pin o (m + k) (uniP x y) := by
  obtain ⟨a1, a2, a3, a4⟩ := hx
  obtain ⟨b1, b2, b3, b4⟩ := hy
  unfold uniP
  refine ⟨fun q hq => ?_, fun q hq => ?_, ?_, ?_⟩
  · rcases List.mem_append.1 hq with h | h
    · have := a1 q h; omega
    · have := b1 q h; omega
  · rcases List.mem_append.1 hq with h | h
    · have := a2 q h; omega
    · have := b2 q h; omega
  · simp only [List.length_append]; omega
  · simp only [List.length_append]; omega

theorem Pin.nil (o m : Nat) (b : Bool) : Pin o m ⟨b, [], []⟩ := ⟨fun _ h => (by cases h), fun _ h => (by cases h), Nat.zero_le _, Nat.zero_le _⟩

mutual
theorem gl_pin : ∀ (r : Rx) (o : Nat), Pin o (lv r).length (gl r o)
  | .mk k s ks, o => by
    unfold gl lv
    by_cases h2 : k = 2
    · rw [if_pos h2]; exact .nil _ _ _
    · rw [if_neg h2]
      by_cases h3 : k = 3
      · rw [if_pos h3, if_pos h3]
        refine ⟨fun q hq => ?_, fun q hq => ?_, by simp, by simp⟩
        · simp only [List.mem_singleton] at hq; subst hq; simp only [List.length_singleton]; omega
        · simp only [List.mem_singleton] at hq; subst hq; simp only [List.length_singleton]; omega
      · rw [if_neg h3, if_neg h3]
        by_cases h4 : k = 4
        · rw [if_pos h4, if_pos h4]
          have := glC_pin ks o 0 ⟨true, [], []⟩ (.nil _ _ _)
          simpa using this
        · rw [if_neg h4, if_neg h4]
          by_cases h5 : k = 5
          · rw [if_pos h5, if_pos h5]
            have := glU_pin ks o 0 ⟨false, [], []⟩ (.nil _ _ _)
            simpa using this
          · rw [if_neg h5, if_neg h5]
            by_cases h6 : k = 6
            · rw [if_pos h6, if_pos h6]
              have := glU_pin ks o 0 ⟨false, [], []⟩ (.nil _ _ _)
              simpa [Pin] using this
            · rw [if_neg h6, if_neg h6]; exact .nil _ _ _
theorem glC_pin : ∀ (l : List Rx) (o m : Nat) (x : Pt), Pin o m x → Pin o (m + (lvL l).length) (glC l (o + m) x)
  | [], o, m, x, h => by simpa [glC, lvL] using h
  | r :: l, o, m, x, h => by
    unfold glC lvL
    have := glC_pin l o (m + (lv r).length) _ (h.cat (gl_pin r (o + m)))
    rw [List.length_append, ← Nat.add_assoc, Nat.add_assoc o m]
    exact this
theorem glU_pin : ∀ (l : List Rx) (o m : Nat) (x : Pt), Pin o m x → Pin o (m + (lvL l).length) (glU l (o + m) x)
  | [], o, m, x, h => by simpa [glU, lvL] using h
  | r :: l, o, m, x, h => by
    unfold glU lvL
    have := glU_pin l o (m + (lv r).length) _ (h.uni (gl_pin r (o + m)))
    rw [List.length_append, ← Nat.add_assoc, Nat.add_assoc o m]
    exact this
end

/-- pairs of positions between o and o + m -/
def FIn (o m : Nat) (ps : List (Int × Int)) : Prop := ∀ x ∈ ps, ((o : Int) < x.1 ∧ x.1 ≤ ((o + m : Nat) : Int)) ∧ ((o : Int) < x.2 ∧ x.2 ≤ ((o + m : Nat) : Int))

theorem mem_prs {a b : List Int} {x : Int × Int} : x ∈ prs a b ↔ x.1 ∈ a ∧ x.2 ∈ b := by
  unfold prs
  simp only [List.mem_flatMap, List.mem_map]
  constructor
  · rintro ⟨p, hp, q, hq, rfl⟩; exact ⟨hp, hq⟩
  · rintro ⟨h1, h2⟩; exact ⟨x.1, h1, x.2, h2, rfl⟩

theorem FIn.mono {o m o' m' : Nat} {ps : List (Int × Int)} (h : FIn o m ps) (h1 : o' ≤ o) (h2 : o + m ≤ o' + m') : FIn o' m' ps := fun x hx => by
  have := h x hx
  constructor <;> constructor <;> omega

mutual
theorem fl_in : ∀ (r : Rx) (o : Nat), FIn o (lv r).length (fl r o)
  | .mk k s ks, o => by
    unfold fl lv
    by_cases h3 : k = 3
    · subst h3
      rw [if_neg (show ¬ (3 : Int) = 4 by decide), if_neg (show ¬ (3 : Int) = 5 by decide), if_neg (show ¬ (3 : Int) = 6 by decide)]
      exact fun x hx => by cases hx
    · rw [if_neg h3]
      by_cases h4 : k = 4
      · rw [if_pos h4, if_pos h4]
        have := flC_in ks o 0 ⟨true, [], []⟩ (.nil _ _ _)
        simpa using this
      · rw [if_neg h4, if_neg h4]
        by_cases h5 : k = 5
        · rw [if_pos h5, if_pos h5]; exact flU_in ks o
        · rw [if_neg h5, if_neg h5]
          by_cases h6 : k = 6
          · rw [if_pos h6, if_pos h6]
            have hp := glU_pin ks o 0 ⟨false, [], []⟩ (.nil _ _ _)
            simp only [Nat.add_zero, Nat.zero_add] at hp
            intro x hx
            rcases List.mem_append.1 hx with h | h
            · exact flU_in ks o x h
            · obtain ⟨g1, g2⟩ := mem_prs.1 h
              exact ⟨hp.2.1 _ g1, hp.1 _ g2⟩
          · rw [if_neg h6, if_neg h6]; exact fun x hx => by cases hx
theorem flC_in : ∀ (l : List Rx) (o m : Nat) (x : Pt), Pin o m x → FIn o (m + (lvL l).length) (flC l (o + m) x)
  | [], o, m, x, h => fun x hx => by unfold flC at hx; cases hx
  | r :: l, o, m, x, h => by
    unfold flC lvL
    have hg := gl_pin r (o + m)
    have ih := flC_in l o (m + (lv r).length) _ (h.cat hg)
    rw [List.length_append]
    intro z hz
    rcases List.mem_append.1 hz with hz | hz
    · rcases List.mem_append.1 hz with hz | hz
      · exact (fl_in r (o + m)).mono (by omega) (by omega) z hz
      · obtain ⟨g1, g2⟩ := mem_prs.1 hz
        have a1 := h.2.1 _ g1
        have a2 := hg.1 _ g2
        constructor <;> constructor <;> omega
    · rw [Nat.add_assoc o m] at hz
      exact FIn.mono ih (Nat.le_refl _) (by omega) z hz
theorem flU_in : ∀ (l : List Rx) (o : Nat), FIn o (lvL l).length (flU l o)
  | [], o => fun x hx => by unfold flU at hx; cases hx
  | r :: l, o => by
    unfold flU lvL
    rw [List.length_append]
    intro z hz
    rcases List.mem_append.1 hz with hz | hz
    · exact (fl_in r o).mono (by omega) (by omega) z hz
    · exact (flU_in l (o + (lv r).length)).mono (by omega) (by omega) z hz
end

/-- the maps behind the states, with the pairs -/
def putP (B : List (List (Int × Bool))) (x : Int × Int) : List (List (Int × Bool)) := B.set x.1.toNat (mput (.int .i64) x.2 true (B.getD x.1.toNat []))
def appP (ps : List (Int × Int)) (B : List (List (Int × Bool))) : List (List (Int × Bool)) := ps.foldl putP B

theorem appP_append (a b : List (Int × Int)) (B : List (List (Int × Bool))) : appP (a ++ b) B = appP b (appP a B) := List.foldl_append
theorem putP_length (B : List (List (Int × Bool))) (x : Int × Int) : (putP B x).length = B.length := List.length_set
theorem appP_length : ∀ (ps : List (Int × Int)) (B : List (List (Int × Bool))), (appP ps B).length = B.length
  | [], _ => rfl
  | x :: ps, B => by show (appP ps (putP B x)).length = _; rw [appP_length ps, putP_length]

theorem appP_behind : ∀ (ps : List (Int × Int)) (B C : List (List (Int × Bool))), (∀ x ∈ ps, x.1.toNat < B.length) → appP ps (B ++ C) = appP ps B ++ C
  | [], _, _, _ => rfl
  | x :: ps, B, C, h => by
    show appP ps (putP (B ++ C) x) = appP ps (putP B x) ++ C
    have h1 := h x (by simp)
    have e : putP (B ++ C) x = putP B x ++ C := by
      unfold putP
      rw [List.set_append_left _ _ h1, List.getD_eq_getElem?_getD, List.getElem?_append_left h1, List.getD_eq_getElem?_getD]
    rw [e]
    exact appP_behind ps _ C fun y hy => by rw [putP_length]; exact h y (by simp [hy])
end Go.AM

/- A procedure's pure form. -/
namespace Go.AM
open Go

def CSh.liveB : CSh → Bool
  | .dead | .free => false
  | _ => true

theorem CSh.dec_live : ∀ {s : CSh} {c : Cell} {x : s.T}, s.dec c = some x → s.liveB = true → cellLive c
  | .box _, .box _, _, _, _ => rfl
  | .row _, .row _ _, _, _, _ => rfl
  | .map _ _, .map _ _ _, _, _, _ => rfl
  | .mrow _ _, .mrow _ _ _, _, _, _ => rfl
  | .box _, .free, _, h, _ | .box _, .dead, _, h, _ | .box _, .row _ _, _, h, _ | .box _, .map _ _ _, _, h, _ | .box _, .mrow _ _ _, _, h, _ => by simp [CSh.dec] at h
  | .row _, .free, _, h, _ | .row _, .dead, _, h, _ | .row _, .box _, _, h, _ | .row _, .map _ _ _, _, h, _ | .row _, .mrow _ _ _, _, h, _ => by simp [CSh.dec] at h
  | .map _ _, .free, _, h, _ | .map _ _, .dead, _, h, _ | .map _ _, .box _, _, h, _ | .map _ _, .row _ _, _, h, _ | .map _ _, .mrow _ _ _, _, h, _ => by simp [CSh.dec] at h
  | .mrow _ _, .free, _, h, _ | .mrow _ _, .dead, _, h, _ | .mrow _ _, .box _, _, h, _ | .mrow _ _, .row _ _, _, h, _ | .mrow _ _, .map _ _ _, _, h, _ => by simp [CSh.dec] at h
  | .dead, _, _, _, h => by cases h
  | .free, _, _, _, h => by cases h

theorem decCL_live : ∀ {l : List CSh} {cs : List Cell} {x : CShL l}, decCL l cs = some x → l.all CSh.liveB = true → (∀ c ∈ cs, cellLive c) ∧ cs.length = l.length
  | [], [], _, _, _ => ⟨fun _ h => (by cases h), rfl⟩
  | s :: l, c :: cs, x, h, hl => by
    simp only [decCL, Option.bind_eq_some_iff] at h
    obtain ⟨a, h1, b, h2, h3⟩ := h
    simp only [List.all_cons, Bool.and_eq_true] at hl
    obtain ⟨k1, k2⟩ := decCL_live h2 hl.2
    refine ⟨fun d hd => ?_, by simp [k2]⟩
    rcases List.mem_cons.1 hd with rfl | hd
    · exact CSh.dec_live h1 hl.1
    · exact k1 d hd
  | _ :: _, [], _, h, _ => by cases h
  | [], _ :: _, _, h, _ => by cases h

theorem canCL_length : ∀ (l : List CSh) (x : CShL l), (canCL l x).length = l.length
  | [], _ => rfl
  | s :: l, x => by show (canCL l x.2).length + 1 = l.length + 1; rw [canCL_length l]

/-- a procedure's run: cells under names below 1000, its frame's names from 1000 on -/
noncomputable def pexec (P : Program) (O : Orc) (Γ : TEnv) (D : Nat) (g : Nat) (r : RSh) (cs' : List CSh) (nin nout : List Nat) (args : List AV) (cells : List Cell) : Option (r.T × CShL cs') :=
  enterD P O Γ D (D - 1) [g, g] 1000 g args (fun v h => (r.dec v).bind fun a => (decCL cs' (nout.map fun n => (h n).only (fun m => nout.contains m))).bind fun b => some (a, b)) (fun n => look .free (nin.zip cells) n)

section
variable {P : Program} {Γ : TEnv} {O : Orc}

theorem look_zip_live : ∀ {ns : List Nat} {cs : List Cell} (n : Nat), (∀ c ∈ cs, cellLive c) → cs.length = ns.length → (if ns.contains n = true then cellLive (look .free (ns.zip cs) n) else look .free (ns.zip cs) n = .free)
  | [], _, n, _, _ => by simp [look]
  | m :: ns, [], n, _, h => by simp at h
  | m :: ns, c :: cs, n, hl, h => by
    rw [List.contains_cons]
    show if (n == m || ns.contains n) = true then cellLive (if n = m then c else look .free (ns.zip cs) n) else (if n = m then c else look .free (ns.zip cs) n) = .free
    by_cases e : n = m
    · rw [if_pos (by simp [e]), if_pos e]; exact hl c (by simp)
    · have e2 : (n == m || ns.contains n) = ns.contains n := by simp [e]
      rw [e2, if_neg e]
      exact look_zip_live n (fun c hc => hl c (by simp [hc])) (by simpa using h)

/-- one procedure, on canonical arguments and cells -/
theorem proc_canon (hX : Special P Γ O.call) (hm : P.follows .mixedOrders = true) (hng : ∀ fn ∈ P.funcs, fn.name ≠ "runtime.NumGoroutine") (hΓ : Γ.ok P = true) {t : Tbl} {pt : PTbl} (ht : ∀ e ∈ t, SoundFn P e.1 e.2) (hO : O.call = callOf t pt) (hN : ∀ f, (∀ args, O.fresh f args = none) ∨ SoundNew P f (O.fresh f))
    {D : Nat} (hL : LoopsAll P O Γ D) {f : Nat} (hf : ∃ fn, P.funcs[f]? = some fn ∧ fn.body.isSome = true) {ss : List Sh} {cs cs' : List CSh} {rs : RSh} {nin nout : List Nat} {F : ShL ss × CShL cs → Option (rs.T × CShL cs')}
    (hlc : cs.all CSh.liveB = true) (hlt : nin.all (fun n => decide (n < 1000)) = true) (hlt' : nout.all (fun n => decide (n < 1000)) = true)
    (h : ∀ x r, F x = some r → pexec P O Γ D f rs cs' nin nout (canL ss x.1) (canCL cs x.2) = some r) : SoundProc P f nin nout (procPv (procOf ss cs rs cs' F)) := by
  obtain ⟨fn, hfn, hb⟩ := hf
  refine ⟨⟨fn, hfn, hb, hng fn (Array.mem_of_getElem? hfn)⟩, fun args cells v cells' hF hl hl' S vs H hhp hv hn => ?_⟩
  unfold procPv procOf at hF
  simp only [Option.bind_eq_some_iff, Option.map_eq_some_iff] at hF
  obtain ⟨q, ⟨x, hx, y, hy, hq⟩, hF⟩ := hF
  simp only [Option.some.injEq] at hq
  subst hq
  obtain ⟨⟨a, b⟩, hab, hvc⟩ := hF
  simp only [Prod.mk.injEq] at hvc
  obtain ⟨rfl, rfl⟩ := hvc
  replace hab : F (x, y) = some (a, b) := hab
  have hx1 := h (x, y) (a, b) hab
  obtain ⟨hlive, hclen⟩ := decCL_live hy hlc
  obtain ⟨k1, k2, k3⟩ := decL_sound _ hx
  obtain ⟨t1, t2⟩ := tbl_sound (P := P) (pt := pt) ht
  have hE := enter_sound hX hm hΓ (by rw [hO]; exact t1) (by rw [hO]; exact t2) hng hN hL (D - 1) (rs.T × CShL cs')
  obtain ⟨_, hE⟩ := hE _ _ _ _ _ _ _ hx1
  -- the same situation, in canonical form
  have G0 := args_good H hv hn (n := args.length) (Nat.le_refl _)
  have hcan : ∀ n, CanC (S.hp n) (look .free (nin.zip (canCL cs y)) n) := fun n => by
    rw [hhp]; exact decCL_sound .free cs hy nin n
  obtain ⟨G1, E1⟩ := canon_good (st' := { fr := argsFr args, hp := fun n => look .free (nin.zip (canCL cs y)) n }) G0 hcan (fun i => ⟨fun _ _ h => h, fun _ h => h⟩)
  have hv1 : VRelL { S with hp := fun n => look .free (nin.zip (canCL cs y)) n } args vs := VRelL.ext E1 args (AV.namesL_imp (fun m hm => ⟨trivial, hm⟩) _ hn) hv
  have hn1 : AV.namesL (fun m => look .free (nin.zip (canCL cs y)) m ≠ .free) args := AV.namesL_imp (fun m hm => (hcan m).free hm) _ hn
  refine Calls.mono (hE { S with hp := fun n => look .free (nin.zip (canCL cs y)) n } vs G1.h rfl (k1 _ _ hv1) (k2 _ hn1)) fun e w' he => ?_
  obtain ⟨u, av, T, rfl, rfl, HT, ET, hvT, hc, hk⟩ := he
  simp only [Option.bind_eq_some_iff, Option.some.injEq, Prod.mk.injEq] at hk
  obtain ⟨a', ha', b', hb', rfl, rfl⟩ := hk
  -- what stays
  have GT := args_good HT (args := []) (vs := []) .nil (by unfold AV.namesL; trivial) (n := 0) (Nat.le_refl _)
  obtain ⟨T1, w1, G2, E2, I2⟩ := stOf_good GT ET [] nout
  have hpl : ∀ n, (if n < 1000 then (match look .free (nin.zip (canCL cs y)) n with | .free => Cell.free | _ => .dead) else .free) = if nin.contains n = true then .dead else .free := fun n => by
    have hz := look_zip_live (ns := nin) (cs := cells) n hlive hl
    have hcn := (decCL_sound .free cs hy nin n)
    by_cases hc : nin.contains n = true
    · rw [if_pos hc] at hz ⊢
      have : n < 1000 := by
        have := List.all_eq_true.1 hlt n (List.contains_iff_mem.1 hc)
        simpa using this
      rw [if_pos this]
      have hl2 : cellLive (look .free (nin.zip (canCL cs y)) n) := by unfold cellLive; rw [hcn.live]; exact hz
      split
      · rename_i e; rw [e] at hl2; cases hl2
      · rfl
    · rw [if_neg hc] at hz ⊢
      split
      · have : look .free (nin.zip (canCL cs y)) n = .free := by
          rcases hcn with e | ⟨cs1, _, e, _⟩
          · rw [e, hz]
          · rw [hz] at e; cases e
        rw [this]
      · rfl
  have hhp2 : ∀ n, T1.hp n = look (if nin.contains n = true then .dead else .free) (nout.zip (nout.map fun n => (T.hp n).only (fun m => nout.contains m))) n := fun n => by
    rw [G2.e]
    show look (if n < 1000 then (match look .free (nin.zip (canCL cs y)) n with | .free => Cell.free | _ => .dead) else .free) (nout.map fun n => (n, (T.hp n).only (fun m => nout.contains m))) n = _
    rw [hpl n, zip_map]
  obtain ⟨G3, E3⟩ := canon_good (st' := { fr := fun _ => .undef, hp := fun n => look (if nin.contains n = true then .dead else .free) (nout.zip (canCL cs' b')) n }) G2 (fun n => by
    rw [← G2.e, hhp2 n]; exact decCL_sound _ cs' hb' nout n) (fun i => ⟨fun _ _ _ => .undef_mk, fun p _ => AV.names_closed _ rfl⟩)
  refine ⟨u, { T1 with hp := fun n => look (if nin.contains n = true then .dead else .free) (nout.zip (canCL cs' b')) n }, rfl, w1, G3.h, ?_, rs.can_closed a', ?_, rfl⟩
  · -- from the caller's objects on
    have E23 := E2.thenTop E3
    refine ⟨fun b hb => E23.i b hb, E23.s, E23.b, E23.o, fun n _ hf => ?_, fun n _ hd => ?_, E23.j, E23.q⟩
    · have hf1 := (hcan n).free hf
      by_cases hn : n < 1000
      · rcases E23.f n hn hf1 with hd | ⟨g1, g2⟩
        · exact .inl hd
        · right
          refine ⟨g1, ?_⟩
          have hlv : cellLive (S.hp n) := by
            have hz := look_zip_live (ns := nin) (cs := cells) n hlive hl
            rw [hhp] at hf ⊢
            split at hz
            · exact hz
            · exact absurd hz hf
          exact sameShape_trans ((hcan n).shape hlv) g2
      · exfalso
        apply hf
        rw [hhp]
        have hz := look_zip_live (ns := nin) (cs := cells) n hlive hl
        rw [if_neg (fun hc => hn (by
          have := List.all_eq_true.1 hlt n (List.contains_iff_mem.1 hc)
          simpa using this))] at hz
        exact hz
    · exfalso
      have hz := look_zip_live (ns := nin) (cs := cells) n hlive hl
      rw [hhp] at hd
      simp only at hd
      split at hz
      · rw [hd] at hz; cases hz
      · rw [hd] at hz; cases hz
  · have hI : ∀ b, T.I b → T1.I b ∧ T1.w.heap[b]? = T.w.heap[b]? := fun b hb => by
      exact ⟨by rw [I2]; exact hb, by rw [w1]⟩
    exact VRel.closed (S := T) (T := { T1 with hp := fun n => look (if nin.contains n = true then .dead else .free) (nout.zip (canCL cs' b')) n }) hI _ (rs.can_closed a') (rs.dec_sound ha' _ _ hvT)
end
end Go.AM

/- A procedure's pure form, out of its table; recursion. -/
namespace Go.AM
open Go

section
variable {P : Program} {Γ : TEnv}

theorem fresh_of {fr : FTbl} (hfr : ∀ e ∈ fr, SoundNew P e.1 e.2) (g : Nat) : (∀ args, look (fun _ => none) fr g args = none) ∨ SoundNew P g (fun args => look (fun _ => none) fr g args) := by
  rcases look_mem' (d := fun _ => none) (l := fr) (n := g) with e | e
  · left; intro args; rw [e]
  · right; exact hfr _ e

theorem body_of {f : Nat} (hf : (P.funcs[f]?.bind (·.body)).isSome = true) : ∃ fn, P.funcs[f]? = some fn ∧ fn.body.isSome = true := by
  cases hc : P.funcs[f]? with
  | none => rw [hc] at hf; cases hf
  | some fn => rw [hc] at hf; exact ⟨fn, rfl, hf⟩

/-- A PROCEDURE'S PURE FORM. -/
theorem proc_pure (hm : P.follows .mixedOrders = true) (hng : ∀ fn ∈ P.funcs, fn.name ≠ "runtime.NumGoroutine") (hΓ : Γ.ok P = true) {t : Tbl} (ht : ∀ e ∈ t, SoundFn P e.1 e.2)
    {ls : List LoopEnt} {cmds : List (List Nat × Nat × List Cmd)} {leaves : List (List Nat × List Cmd)} {fr : FTbl} {pt : PTbl} {D : Nat} (hL : ∀ e ∈ ls, LoopCert P (mkOrc t ls cmds leaves fr pt) Γ D e)
    {f : Nat} (hf : (P.funcs[f]?.bind (·.body)).isSome = true) {ss : List Sh} {cs cs' : List CSh} {rs : RSh} {nin nout : List Nat} {F : ShL ss × CShL cs → Option (rs.T × CShL cs')}
    (hlc : cs.all CSh.liveB = true) (hlt : nin.all (fun n => decide (n < 1000)) = true) (hlt' : nout.all (fun n => decide (n < 1000)) = true)
    (h : ∀ x r, F x = some r → pexec P (mkOrc t ls cmds leaves fr pt) Γ D f rs cs' nin nout (canL ss x.1) (canCL cs x.2) = some r)
    (hfr : ∀ e ∈ fr, SoundNew P e.1 e.2 := by exact all_nil) (hX : Special P Γ (callOf t pt) := by exact Special.none rfl rfl) : SoundProc P f nin nout (procPv (procOf ss cs rs cs' F)) :=
  proc_canon (pt := pt) hX hm hng hΓ ht rfl (fresh_of hfr) (loops_all hL) (body_of hf) hlc hlt hlt' h

/-- recursion: what holds of each depth -/
theorem fn_rec (hng : ∀ fn ∈ P.funcs, fn.name ≠ "runtime.NumGoroutine") {f : Nat} (hf : (P.funcs[f]?.bind (·.body)).isSome = true) {ks : List Kind} {rs : RSh} {G : Nat → ShL (ks.map Sh.kd) → Option rs.T} (h0 : ∀ x, G 0 x = none)
    (hs : ∀ n, SoundFn P f (fnOf ks rs (G n)) → SoundFn P f (fnOf ks rs (G (n + 1)))) : ∀ n, SoundFn P f (fnOf ks rs (G n))
  | 0 => by
    obtain ⟨fn, hfn, hb⟩ := body_of hf
    refine ⟨⟨fn, hfn, hb, hng fn (Array.mem_of_getElem? hfn)⟩, fun args r hr => ?_⟩
    unfold fnOf at hr
    simp only [Option.bind_eq_some_iff, Option.some.injEq, Option.map_eq_some_iff] at hr
    obtain ⟨_, ⟨x, hx, rfl⟩, y, hy, rfl⟩ := hr
    replace hy : G 0 x = some y := hy
    rw [h0] at hy
    cases hy
  | n + 1 => hs n (fn_rec hng hf h0 hs n)

theorem proc_rec (hng : ∀ fn ∈ P.funcs, fn.name ≠ "runtime.NumGoroutine") {f : Nat} (hf : (P.funcs[f]?.bind (·.body)).isSome = true) {ss : List Sh} {cs cs' : List CSh} {rs : RSh} {nin nout : List Nat} {G : Nat → ShL ss × CShL cs → Option (rs.T × CShL cs')} (h0 : ∀ x, G 0 x = none)
    (hs : ∀ n, SoundProc P f nin nout (procPv (procOf ss cs rs cs' (G n))) → SoundProc P f nin nout (procPv (procOf ss cs rs cs' (G (n + 1))))) : ∀ n, SoundProc P f nin nout (procPv (procOf ss cs rs cs' (G n)))
  | 0 => by
    obtain ⟨fn, hfn, hb⟩ := body_of hf
    refine ⟨⟨fn, hfn, hb, hng fn (Array.mem_of_getElem? hfn)⟩, fun args cells v cells' hF => ?_⟩
    unfold procPv procOf at hF
    simp only [Option.bind_eq_some_iff, Option.map_eq_some_iff] at hF
    obtain ⟨q, ⟨x, hx, y, hy, hq⟩, hF⟩ := hF
    simp only [Option.some.injEq] at hq
    subst hq
    obtain ⟨ab, hab, _⟩ := hF
    replace hab : G 0 (x, y) = some ab := hab
    rw [h0] at hab
    cases hab
  | n + 1 => hs n (proc_rec hng hf h0 hs n)
end
end Go.AM
