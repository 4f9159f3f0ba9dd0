/- A region that draws its order: its operations, in any order that its edges allow, do what they do in the order of the text. -/
import Derived.Test.YtdjbokdohackdaaA18
namespace Go.AM
open Go

/-! ### what an operation looks at -/

theorem list_map_congr {e e' : Operand → AV} {l : List Operand} (h : ∀ x ∈ l, e x = e' x) : l.map e = l.map e' := List.map_congr_left h

theorem parts_congr {e e' : Operand → AV} {parts : Array (Nat × Operand)} (h : ∀ x ∈ (parts.toList.map (·.2)).toArray, e x = e' x) :
    (parts.toList.map fun p => (p.1, e p.2)) = parts.toList.map fun p => (p.1, e' p.2) :=
  List.map_congr_left fun p hp => by rw [h p.2 (by simp only [List.mem_toArray, List.mem_map]; exact ⟨p, hp, rfl⟩)]

theorem isShared_congr {Γ : TEnv} {nm : Nat} {e e' : Operand → AV} (op : Op) (h : ∀ x ∈ op.operands, e x = e' x) : isShared Γ nm e op = isShared Γ nm e' op := by
  unfold isShared
  split
  · rename_i f args types
    simp only [Op.operands, Call.operands] at h
    rw [h f (by simp), list_map_congr (e := e) (e' := e') (l := args.toList) fun x hx => h x (by simp [Array.mem_toList_iff.1 hx])]
  · rfl

theorem aop_congr {Γ : TEnv} {nm : Nat} {e e' : Operand → AV} (op : Op) (h : ∀ x ∈ op.operands, e x = e' x) : aop Γ nm e op = aop Γ nm e' op := by
  cases op with
  | call c =>
    obtain ⟨callee, args, argTypes⟩ := c
    simp only [Op.operands, Call.operands] at h
    have ha := list_map_congr (e := e) (e' := e') (l := args.toList) fun x hx => h x (by simp [Array.mem_toList_iff.1 hx])
    cases callee with
    | value f => simp only [aop, h f (by simp), ha]
    | invoke r m => rfl
    | builtin b =>
      cases b with
      | len =>
        simp only [aop]
        split
        · rename_i x t hx _
          rw [h x (by have : x ∈ args.toList := by rw [hx]; simp
                      simp [Array.mem_toList_iff.1 this])]
        · rfl
      | append =>
        simp only [aop]
        split
        · rename_i s x t u hx _
          have hs : s ∈ args.toList := by rw [hx]; simp
          have hx' : x ∈ args.toList := by rw [hx]; simp
          rw [h s (by simp [Array.mem_toList_iff.1 hs]), h x (by simp [Array.mem_toList_iff.1 hx'])]
        · rfl
      | copy =>
        simp only [aop]
        split
        · rename_i s x t u hx _
          have hs : s ∈ args.toList := by rw [hx]; simp
          have hx' : x ∈ args.toList := by rw [hx]; simp
          rw [h s (by simp [Array.mem_toList_iff.1 hs]), h x (by simp [Array.mem_toList_iff.1 hx'])]
        · rfl
      | _ => rfl
  | build t ps => simp only [Op.operands] at h; simp only [aop, parts_congr h]
  | buildSlice t n ps => simp only [Op.operands] at h; simp only [aop, parts_congr h]
  | makeFunc fn first cap =>
    simp only [Op.operands] at h
    have ha := list_map_congr (e := e) (e' := e') (l := cap.toList) fun x hx => h x (by simp [Array.mem_toList_iff.1 hx])
    cases fn <;> simp only [aop, ha]
  | makeMap t r => cases r <;> simp only [aop]
  | slice t x lo hi mx =>
    simp only [Op.operands] at h
    have hx : e x = e' x := h x (by simp)
    have hl : optInt e lo = optInt e' lo := by
      cases lo with
      | none => rfl
      | some y => simp only [optInt, h y (by simp)]
    have hh : optInt e hi = optInt e' hi := by
      cases hi with
      | none => rfl
      | some y => simp only [optInt, h y (by simp)]
    cases mx <;> simp only [aop, hx, hl, hh]
  | unOp op t x => simp only [Op.operands] at h; simp only [aop, h x (by simp)]
  | _ => simp only [Op.operands] at h; simp_all [aop]

/-! ### a run and its footprint -/

abbrev Out := AV × Hp × Fp

noncomputable def M.out (call : Call) (m : M) : Hp → Fp → Option Out := m.runF call fun v h f => some (v, h, f)

theorem M.runF_out {call : Call} {R : Type} {K : AV → Hp → Fp → Option R} (m : M) : ∀ (h : Hp) (f : Fp), m.runF call K h f = (m.out call h f).bind fun p => K p.1 p.2.1 p.2.2 := by
  induction m with
  | pure v => intro h f; rfl
  | fail => intro h f; rfl
  | br b x y ihx ihy =>
    intro h f
    cases b
    · exact ihy h f
    · exact ihx h f
  | rd n k ih => intro h f; exact ih (h n) h _
  | wr n c x ih => intro h f; exact ih _ _
  | call g args k ih =>
    intro h f
    show ((call.fn g args).bind fun p => p.2.bind fun x => (k (p.1.can x)).runF call K h f) = ((call.fn g args).bind fun p => p.2.bind fun x => (k (p.1.can x)).out call h f).bind _
    rw [callBind (G := fun v => (k v).runF call K h f), callBind (G := fun v => (k v).out call h f)]
    cases call.av g args with
    | none => rfl
    | some v => exact ih v h f
  | pcall g args cells k ih =>
    intro h f
    show ((call.proc g args cells).bind fun p => p.2.bind fun x => (k (p.1.1.can x.1) (canCL p.1.2 x.2)).runF call K h f) = ((call.proc g args cells).bind fun p => p.2.bind fun x => (k (p.1.1.can x.1) (canCL p.1.2 x.2)).out call h f).bind _
    rw [pcallBind (G := fun v cs => (k v cs).runF call K h f), pcallBind (G := fun v cs => (k v cs).out call h f)]
    cases call.pv g args cells with
    | none => rfl
    | some v => exact ih v.1 v.2 h f

theorem M.run_out {call : Call} {R : Type} {K : AV → Hp → Option R} (m : M) : ∀ (h : Hp) (f : Fp) {p : Out}, m.out call h f = some p → m.run call K h = K p.1 p.2.1 := by
  induction m with
  | pure v => intro h f p e; cases e; rfl
  | fail => intro h f p e; cases e
  | br b x y ihx ihy =>
    intro h f p e
    cases b
    · exact ihy h f e
    · exact ihx h f e
  | rd n k ih => intro h f p e; exact ih (h n) h _ e
  | wr n c x ih => intro h f p e; exact ih _ _ e
  | call g args k ih =>
    intro h f p e
    replace e : ((call.fn g args).bind fun p => p.2.bind fun x => (k (p.1.can x)).out call h f) = some p := e
    rw [callBind (G := fun v => (k v).out call h f)] at e
    show ((call.fn g args).bind fun p => p.2.bind fun x => (k (p.1.can x)).run call K h) = _
    rw [callBind (G := fun v => (k v).run call K h)]
    cases hc : call.av g args with
    | none => rw [hc] at e; cases e
    | some v => rw [hc] at e; exact ih v h f e
  | pcall g args cells k ih =>
    intro h f p e
    replace e : ((call.proc g args cells).bind fun p => p.2.bind fun x => (k (p.1.1.can x.1) (canCL p.1.2 x.2)).out call h f) = some p := e
    rw [pcallBind (G := fun v cs => (k v cs).out call h f)] at e
    show ((call.proc g args cells).bind fun p => p.2.bind fun x => (k (p.1.1.can x.1) (canCL p.1.2 x.2)).run call K h) = _
    rw [pcallBind (G := fun v cs => (k v cs).run call K h)]
    cases hc : call.pv g args cells with
    | none => rw [hc] at e; cases e
    | some v => rw [hc] at e; exact ih v.1 v.2 h f e

theorem M.out_grows {call : Call} (m : M) : ∀ (h : Hp) (f : Fp) {p : Out}, m.out call h f = some p → (∀ n ∈ f.rn, n ∈ p.2.2.rn) ∧ (∀ n ∈ f.wn, n ∈ p.2.2.wn) := by
  induction m with
  | pure v => intro h f p e; cases e; exact ⟨fun _ h => h, fun _ h => h⟩
  | fail => intro h f p e; cases e
  | br b x y ihx ihy =>
    intro h f p e
    cases b
    · exact ihy h f e
    · exact ihx h f e
  | rd n k ih =>
    intro h f p e
    obtain ⟨h1, h2⟩ := ih (h n) h _ e
    exact ⟨fun m hm => h1 m (List.mem_cons_of_mem _ hm), h2⟩
  | wr n c x ih =>
    intro h f p e
    obtain ⟨h1, h2⟩ := ih _ _ e
    exact ⟨h1, fun m hm => h2 m (List.mem_cons_of_mem _ hm)⟩
  | call g args k ih =>
    intro h f p e
    replace e : ((call.fn g args).bind fun p => p.2.bind fun x => (k (p.1.can x)).out call h f) = some p := e
    rw [callBind (G := fun v => (k v).out call h f)] at e
    cases hc : call.av g args with
    | none => rw [hc] at e; cases e
    | some v => rw [hc] at e; exact ih v h f e
  | pcall g args cells k ih =>
    intro h f p e
    replace e : ((call.proc g args cells).bind fun p => p.2.bind fun x => (k (p.1.1.can x.1) (canCL p.1.2 x.2)).out call h f) = some p := e
    rw [pcallBind (G := fun v cs => (k v cs).out call h f)] at e
    cases hc : call.pv g args cells with
    | none => rw [hc] at e; cases e
    | some v => rw [hc] at e; exact ih v.1 v.2 h f e

/-- a run looks at what it reads, and changes what it writes -/
theorem M.out_local {call : Call} (m : M) : ∀ (h g : Hp) (f : Fp) {v : AV} {h' : Hp} {f' : Fp}, m.out call h f = some (v, h', f') → (∀ n ∈ f'.rn, g n = h n) →
    ∃ g', m.out call g f = some (v, g', f') ∧ ∀ n, (h' n = h n ∧ g' n = g n) ∨ (n ∈ f'.wn ∧ g' n = h' n) := by
  induction m with
  | pure v => intro h g f v' h' f' e _; cases e; exact ⟨g, rfl, fun n => .inl ⟨rfl, rfl⟩⟩
  | fail => intro h g f v' h' f' e _; cases e
  | br b x y ihx ihy =>
    intro h g f v' h' f' e hr
    cases b
    · exact ihy h g f e hr
    · exact ihx h g f e hr
  | rd n k ih =>
    intro h g f v' h' f' e hr
    replace e : (k (h n)).out call h { f with rn := n :: f.rn } = some (v', h', f') := e
    have hn : g n = h n := hr n ((M.out_grows _ _ _ e).1 n (by simp))
    obtain ⟨g', e', hg⟩ := ih (h n) h g _ e hr
    refine ⟨g', ?_, hg⟩
    show (k (g n)).out call g _ = _
    rw [hn]
    exact e'
  | wr n c x ih =>
    intro h g f v' h' f' e hr
    replace e : x.out call (upd h n c) { f with wn := n :: f.wn } = some (v', h', f') := e
    have hw : n ∈ f'.wn := (M.out_grows _ _ _ e).2 n (by simp)
    obtain ⟨g', e', hg⟩ := ih (upd h n c) (upd g n c) _ e (fun m hm => by unfold upd; split; rfl; exact hr m hm)
    refine ⟨g', e', fun m => ?_⟩
    rcases hg m with ⟨h1, h2⟩ | h1
    · by_cases hm : m = n
      · subst hm
        right
        refine ⟨hw, ?_⟩
        rw [h1, h2, upd_same, upd_same]
      · left
        rw [upd_other hm] at h1 h2
        exact ⟨h1, h2⟩
    · exact .inr h1
  | call f2 args k ih =>
    intro h g f v' h' f' e hr
    replace e : ((call.fn f2 args).bind fun p => p.2.bind fun x => (k (p.1.can x)).out call h f) = some (v', h', f') := e
    rw [callBind (G := fun v => (k v).out call h f)] at e
    cases hc : call.av f2 args with
    | none => rw [hc] at e; cases e
    | some v =>
      rw [hc] at e
      obtain ⟨g', e', hg⟩ := ih v h g f e hr
      refine ⟨g', ?_, hg⟩
      show ((call.fn f2 args).bind fun p => p.2.bind fun x => (k (p.1.can x)).out call g f) = _
      rw [callBind (G := fun v => (k v).out call g f), hc]
      exact e'
  | pcall f2 args cells k ih =>
    intro h g f v' h' f' e hr
    replace e : ((call.proc f2 args cells).bind fun p => p.2.bind fun x => (k (p.1.1.can x.1) (canCL p.1.2 x.2)).out call h f) = some (v', h', f') := e
    rw [pcallBind (G := fun v cs => (k v cs).out call h f)] at e
    cases hc : call.pv f2 args cells with
    | none => rw [hc] at e; cases e
    | some v =>
      rw [hc] at e
      obtain ⟨g', e', hg⟩ := ih v.1 v.2 h g f e hr
      refine ⟨g', ?_, hg⟩
      show ((call.proc f2 args cells).bind fun p => p.2.bind fun x => (k (p.1.1.can x.1) (canCL p.1.2 x.2)).out call g f) = _
      rw [pcallBind (G := fun v cs => (k v cs).out call g f), hc]
      exact e'

/-! ### one operation -/
section
variable (O : Orc) (Γ : TEnv) (F : Fn) (ops : Array Oper)

/-- whether an operation is wanted -/
def wantA (fr : Nat → AV) (o : Oper) : Option Bool :=
  match o.guard with
  | none => some true
  | some (j, want) => match guardSlot ops j with
    | none => none
    | some d => match fr d with
      | .bool b => some (b == want)
      | .tup [] => some false
      | _ => none

noncomputable def effF (o : Oper) (fr : Nat → AV) (h : Hp) : Option Out :=
  (wantA ops fr o).bind fun b => if b = true then
      (if (isShared Γ (F.base + o.dst.getD 0) (ev fr) o.op).isSome = true then none else (aop Γ (F.base + o.dst.getD 0) (ev fr) o.op).out O.call h ⟨[], []⟩)
    else some (.tup [], h, ⟨[], []⟩)

noncomputable def stepF (o : Oper) (st : St) : Option (St × Fp) :=
  (effF O Γ F ops o st.fr st.hp).bind fun p => (putDst F.sz o p.1 { st with hp := p.2.1 }).map fun st' => (st', p.2.2)

theorem opsRunF_step {R : Type} {K : List Fp → St → Option R} {o : Oper} {rest : List Oper} {fs : List Fp} {st : St} {r : R} (h : opsRunF O Γ F ops K (o :: rest) fs st = some r) :
    ∃ st' f, stepF O Γ F ops o st = some (st', f) ∧ opsRunF O Γ F ops K rest (f :: fs) st' = some r := by
  have go : ∀ st1 : St, st1 = st → wantA ops st.fr o = some true → (match isShared Γ (F.base + o.dst.getD 0) (ev st1.fr) o.op with
      | some _ => none
      | none => (aop Γ (F.base + o.dst.getD 0) (ev st1.fr) o.op).runF O.call (fun v h f => (putDst F.sz o v { st1 with hp := h }).bind (opsRunF O Γ F ops K rest (f :: fs))) st1.hp ⟨[], []⟩) = some r →
      ∃ st' f, stepF O Γ F ops o st = some (st', f) ∧ opsRunF O Γ F ops K rest (f :: fs) st' = some r := by
    rintro st1 rfl hw hh
    split at hh
    · cases hh
    · rename_i hs
      rw [M.runF_out] at hh
      simp only [Option.bind_eq_some_iff] at hh
      obtain ⟨p, hp, st', hput, hk⟩ := hh
      refine ⟨st', p.2.2, ?_, hk⟩
      simp [stepF, effF, hw, hs, hp, hput]
  have skip : ∀ st1 : St, st1 = st → wantA ops st.fr o = some false → (putDst F.sz o (.tup []) st1).bind (opsRunF O Γ F ops K rest (⟨[], []⟩ :: fs)) = some r →
      ∃ st' f, stepF O Γ F ops o st = some (st', f) ∧ opsRunF O Γ F ops K rest (f :: fs) st' = some r := by
    rintro st1 rfl hw hh
    simp only [Option.bind_eq_some_iff] at hh
    obtain ⟨st', hput, hk⟩ := hh
    refine ⟨st', _, ?_, hk⟩
    simp [stepF, effF, hw, hput]
  unfold opsRunF at h
  simp only at h
  split at h
  · rename_i hg
    exact go st rfl (by simp [wantA, hg]) h
  · rename_i j want hg
    split at h
    · cases h
    · rename_i d hs
      split at h
      · rename_i b hb
        have hw : wantA ops st.fr o = some (b == want) := by simp [wantA, hg, hs, hb]
        have he : ({ st with fr := upd st.fr d (.bool b) } : St) = st := by rw [upd_self hb]
        cases b
        · rw [if_neg (by simp)] at h
          cases want
          · rw [if_neg (by simp)] at h
            exact go _ he hw h
          · rw [if_pos rfl] at h
            exact skip _ he hw h
        · rw [if_pos rfl] at h
          cases want
          · rw [if_neg (by simp)] at h
            exact skip _ he hw h
          · rw [if_pos rfl] at h
            exact go _ he hw h
      · rename_i hb
        exact skip st rfl (by simp [wantA, hg, hs, hb]) h
      · cases h

variable {O Γ F ops}

theorem ev_agree {fr fr' : Nat → AV} {o : Oper} (h : ∀ d ∈ o.looksAt ops, fr' d = fr d) : ∀ x ∈ o.op.operands, ev fr' x = ev fr x := by
  intro x hx
  cases x with
  | tmp t => exact h t (List.mem_append_left _ (List.mem_filterMap.2 ⟨.tmp t, by simpa using hx, rfl⟩))
  | _ => rfl

theorem wantA_agree {fr fr' : Nat → AV} {o : Oper} (h : ∀ d ∈ o.looksAt ops, fr' d = fr d) : wantA ops fr' o = wantA ops fr o := by
  unfold wantA
  cases hg : o.guard with
  | none => rfl
  | some p =>
    obtain ⟨j, want⟩ := p
    simp only
    cases hs : guardSlot ops j with
    | none => rfl
    | some d =>
      simp only
      rw [h d (List.mem_append_right _ (by unfold guardSlot at hs; simp [hg, hs]))]

theorem effF_local {o : Oper} {fr fr' : Nat → AV} {h g : Hp} {v : AV} {h' : Hp} {f : Fp} (hf : ∀ d ∈ o.looksAt ops, fr' d = fr d) (e : effF O Γ F ops o fr h = some (v, h', f))
    (hr : ∀ n ∈ f.rn, g n = h n) : ∃ g', effF O Γ F ops o fr' g = some (v, g', f) ∧ ∀ n, (h' n = h n ∧ g' n = g n) ∨ (n ∈ f.wn ∧ g' n = h' n) := by
  unfold effF at e ⊢
  rw [wantA_agree hf]
  simp only [Option.bind_eq_some_iff] at e ⊢
  obtain ⟨b, hb, e⟩ := e
  cases b
  · rw [if_neg (by simp)] at e
    simp only [Option.some.injEq, Prod.mk.injEq] at e
    obtain ⟨rfl, rfl, rfl⟩ := e
    exact ⟨g, ⟨false, hb, rfl⟩, fun n => .inl ⟨rfl, rfl⟩⟩
  · rw [if_pos rfl] at e
    split at e
    · cases e
    · rename_i hs
      obtain ⟨g', e', hg⟩ := M.out_local _ h g _ e hr
      refine ⟨g', ⟨true, hb, ?_⟩, hg⟩
      rw [if_pos rfl, isShared_congr (e := ev fr') (e' := ev fr) o.op (ev_agree hf), if_neg hs, aop_congr (e := ev fr') (e' := ev fr) o.op (ev_agree hf)]
      exact e'

theorem effF_writes {o : Oper} {fr : Nat → AV} {h : Hp} {v : AV} {h' : Hp} {f : Fp} (e : effF O Γ F ops o fr h = some (v, h', f)) (n : Nat) : h' n = h n ∨ n ∈ f.wn := by
  obtain ⟨g', e', hg⟩ := effF_local (fr' := fr) (g := h) (fun _ _ => rfl) e (fun _ _ => rfl)
  rcases hg n with h1 | h1
  · exact .inl h1.1
  · exact .inr h1.1

theorem stepF_inv {o : Oper} {st st' : St} {f : Fp} (h : stepF O Γ F ops o st = some (st', f)) : ∃ v h', effF O Γ F ops o st.fr st.hp = some (v, h', f) ∧ putDst F.sz o v { st with hp := h' } = some st' := by
  unfold stepF at h
  simp only [Option.bind_eq_some_iff, Option.map_eq_some_iff, Prod.mk.injEq] at h
  obtain ⟨⟨v, h', f'⟩, h1, st1, h2, rfl, rfl⟩ := h
  exact ⟨v, h', h1, h2⟩

theorem stepF_mk {o : Oper} {st st' : St} {f : Fp} {v : AV} {h' : Hp} (h1 : effF O Γ F ops o st.fr st.hp = some (v, h', f)) (h2 : putDst F.sz o v { st with hp := h' } = some st') :
    stepF O Γ F ops o st = some (st', f) := by
  simp [stepF, h1, h2]

theorem putDst_inv {sz : Nat} {o : Oper} {v : AV} {st st' : St} (h : putDst sz o v st = some st') : st'.hp = st.hp ∧ (∀ d, o.dst ≠ some d → st'.fr d = st.fr d) ∧
    ((o.dst = none ∧ st'.fr = st.fr) ∨ ∃ d, o.dst = some d ∧ d < sz ∧ st'.fr = upd st.fr d v) := by
  unfold putDst at h
  split at h
  · rename_i hd; cases h; exact ⟨rfl, fun _ _ => rfl, .inl ⟨hd, rfl⟩⟩
  · rename_i d hd
    split at h
    · rename_i hlt
      cases h
      exact ⟨rfl, fun e he => by simp only [upd]; rw [if_neg (fun h => he (by rw [hd, h]))], .inr ⟨d, hd, hlt, rfl⟩⟩
    · cases h

theorem putDst_mk {sz : Nat} {o : Oper} {v : AV} {st : St} (h : ∀ d, o.dst = some d → d < sz) : ∃ st', putDst sz o v st = some st' := by
  unfold putDst
  split
  · exact ⟨_, rfl⟩
  · rename_i d hd
    rw [if_pos (h d hd)]
    exact ⟨_, rfl⟩

theorem indep_iff {f g : Fp} (h : f.indep g = true) : (∀ n ∈ f.wn, n ∉ g.rn ∧ n ∉ g.wn) ∧ ∀ n ∈ g.wn, n ∉ f.rn ∧ n ∉ f.wn := by
  unfold Fp.indep disjoint at h
  simp only [Bool.and_eq_true, List.all_eq_true, Bool.not_eq_true', List.contains_eq_mem, List.mem_append, decide_eq_false_iff_not, not_or] at h
  exact h

theorem stepF_swap {x y : Oper} {s t u : St} {fx fy : Fp} (hxy : x.apart ops y = true) (hind : fx.indep fy = true)
    (h1 : stepF O Γ F ops x s = some (t, fx)) (h2 : stepF O Γ F ops y t = some (u, fy)) :
    ∃ t', stepF O Γ F ops y s = some (t', fy) ∧ stepF O Γ F ops x t' = some (u, fx) := by
  obtain ⟨a1, a2, a3⟩ := Oper.apart_spec hxy
  obtain ⟨i1, i2⟩ := indep_iff hind
  obtain ⟨vx, hx, ex, px⟩ := stepF_inv h1
  obtain ⟨vy, hy, ey, py⟩ := stepF_inv h2
  obtain ⟨q1, q2, q3⟩ := putDst_inv px
  obtain ⟨r1, r2, r3⟩ := putDst_inv py
  simp only at q1 q2 q3 r1 r2 r3
  rw [q1] at ey
  obtain ⟨gy, ey', hgy⟩ := effF_local (fr' := s.fr) (g := s.hp) (fun d hd => (q2 d (fun e => a1 d e hd)).symm) ey (fun n hn => by
    rcases effF_writes ex n with h | h
    · exact h.symm
    · exact absurd hn (i1 n h).1)
  obtain ⟨t', pt⟩ := putDst_mk (v := vy) (st := { s with hp := gy }) (o := y) (sz := F.sz) (fun d hd => by
    rcases r3 with ⟨h, _⟩ | ⟨d', h, hlt, _⟩
    · rw [h] at hd; cases hd
    · rw [h] at hd; cases hd; exact hlt)
  obtain ⟨w1, w2, w3⟩ := putDst_inv pt
  simp only at w1 w2 w3
  obtain ⟨gx, ex', hgx⟩ := effF_local (fr' := t'.fr) (g := gy) (fun d hd => w2 d (fun e => a3 d e hd)) ex (fun n hn => by
    rcases effF_writes ey' n with h | h
    · exact h
    · exact absurd hn (i2 n h).1)
  have hheap : gx = hy := by
    funext n
    rcases hgx n with ⟨h3, h4⟩ | ⟨h3, h4⟩
    · rcases hgy n with ⟨h5, h6⟩ | ⟨h5, h6⟩
      · rw [h4, h6, h5, h3]
      · rw [h4, h6]
    · rcases hgy n with ⟨h5, h6⟩ | ⟨h5, h6⟩
      · rw [h4, h5]
      · exact absurd h5 (i1 n h3).2
  subst hheap
  refine ⟨t', stepF_mk ey' pt, ?_⟩
  have : putDst F.sz x vx { t' with hp := gx } = some u := by
    have hu : u = { fr := u.fr, hp := gx } := by rw [← r1]
    rw [hu]
    unfold putDst
    rcases q3 with ⟨hd, hq⟩ | ⟨d, hd, hlt, hq⟩
    · rw [hd]
      simp only [Option.some.injEq, St.mk.injEq, and_true]
      rcases r3 with ⟨hd', hr⟩ | ⟨d', hd', _, hr⟩
      · rcases w3 with ⟨_, hw⟩ | ⟨d'', hd'', _⟩
        · rw [hw, hr, hq]
        · rw [hd'] at hd''; cases hd''
      · rcases w3 with ⟨hd'', _⟩ | ⟨d'', hd'', _, hw⟩
        · rw [hd'] at hd''; cases hd''
        · rw [hd'] at hd''; cases hd''; rw [hw, hr, hq]
    · rw [hd]
      simp only [if_pos hlt, Option.some.injEq, St.mk.injEq, and_true]
      rcases r3 with ⟨hd', hr⟩ | ⟨d', hd', _, hr⟩
      · rcases w3 with ⟨_, hw⟩ | ⟨d'', hd'', _⟩
        · rw [hw, hr, hq]
        · rw [hd'] at hd''; cases hd''
      · rcases w3 with ⟨hd'', _⟩ | ⟨d'', hd'', _, hw⟩
        · rw [hd'] at hd''; cases hd''
        · rw [hd'] at hd''; cases hd''; rw [hw, hr, hq]
          funext i
          have hne : d ≠ d' := fun e => a2 d hd (by rw [hd', e])
          unfold upd
          by_cases h3 : i = d
          · have h4 : i ≠ d' := fun e => hne (h3.symm.trans e)
            simp [h3, hne]
          · simp [h3]
  exact stepF_mk (by rw [w1]; exact ex') this

/-! ### sequences -/

def Runs (fp : Nat → Fp) : List Nat → St → St → Prop
  | [], s, t => s = t
  | i :: l, s, t => ∃ u, (∃ o, ops[i]? = some o ∧ stepF O Γ F ops o s = some (u, fp i)) ∧ Runs fp l u t

theorem Runs.front {fp : Nat → Fp} {i : Nat} {o : Oper} (ho : ops[i]? = some o) {l2 : List Nat} : ∀ (l1 : List Nat) {s t : St}, Runs (O := O) (Γ := Γ) (F := F) (ops := ops) fp (l1 ++ i :: l2) s t →
    (∀ j ∈ l1, ∀ x, ops[j]? = some x → x.apart ops o = true ∧ (fp j).indep (fp i) = true) →
    ∃ u, stepF O Γ F ops o s = some (u, fp i) ∧ Runs (O := O) (Γ := Γ) (F := F) (ops := ops) fp (l1 ++ l2) u t
  | [], s, t, h, _ => by
    obtain ⟨u, ⟨o', ho', h1⟩, h2⟩ := h
    rw [ho] at ho'
    cases ho'
    exact ⟨u, h1, h2⟩
  | j :: l1, s, t, h, hc => by
    obtain ⟨u, ⟨x, hx, h1⟩, h2⟩ := h
    obtain ⟨v, h3, h4⟩ := Runs.front ho l1 h2 (fun k hk => hc k (List.mem_cons_of_mem _ hk))
    obtain ⟨c1, c2⟩ := hc j (by simp) x hx
    obtain ⟨t', h5, h6⟩ := stepF_swap c1 c2 h1 h3
    exact ⟨t', h5, v, ⟨x, hx, h6⟩, h4⟩

theorem opsRunF_runs {R : Type} {K : List Fp → St → Option R} {r : R} : ∀ (l : List Oper) (fs : List Fp) {st : St}, (∀ i, l[i]? = ops[fs.length + i]?) → opsRunF O Γ F ops K l fs st = some r →
    ∃ fsf st', K fsf st' = some r ∧ (∃ m, fsf = m ++ fs ∧ m.length = l.length) ∧ Runs (O := O) (Γ := Γ) (F := F) (ops := ops) (fun i => fsf.reverse.getD i ⟨[], []⟩) ((List.range l.length).map (fs.length + ·)) st st'
  | [], fs, st, _, h => ⟨fs, st, h, ⟨[], rfl, rfl⟩, rfl⟩
  | o :: rest, fs, st, hat, h => by
    obtain ⟨st1, f, h1, h2⟩ := opsRunF_step O Γ F ops h
    have hat' : ∀ i, rest[i]? = ops[(f :: fs).length + i]? := fun i => by
      have := hat (i + 1)
      simp only [List.getElem?_cons_succ] at this
      rw [this, List.length_cons]
      congr 1
      omega
    obtain ⟨fsf, st', h3, ⟨m, rfl, hm⟩, h5⟩ := opsRunF_runs rest (f :: fs) hat' h2
    refine ⟨m ++ f :: fs, st', h3, ⟨m ++ [f], by simp, by simp [hm]⟩, ?_⟩
    rw [List.length_cons, List.range_succ_eq_map]
    simp only [List.map_cons, Nat.add_zero, List.map_map]
    refine ⟨st1, ⟨o, by simpa using (hat 0).symm, ?_⟩, ?_⟩
    · have : (m ++ f :: fs).reverse.getD fs.length ⟨[], []⟩ = f := by
        rw [List.reverse_append, List.reverse_cons, List.append_assoc, List.getD_eq_getElem?_getD, List.getElem?_append_right (by simp)]
        simp
      show stepF O Γ F ops o st = some (st1, (m ++ f :: fs).reverse.getD fs.length ⟨[], []⟩)
      rw [this]
      exact h1
    · have e : ((List.range rest.length).map ((fs.length + ·) ∘ Nat.succ)) = (List.range rest.length).map ((f :: fs).length + ·) := by
        apply List.map_congr_left
        intro i _
        simp only [Function.comp, List.length_cons]
        omega
      rw [e]
      exact h5

end
end Go.AM
