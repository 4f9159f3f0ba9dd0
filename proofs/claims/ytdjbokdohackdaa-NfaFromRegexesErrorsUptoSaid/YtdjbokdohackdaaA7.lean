/- Each operation: what the abstract machine says of it the model does. First part. -/
import Derived.Test.YtdjbokdohackdaaA6
namespace Go.AM
open Go

abbrev Top : Nat → Prop := fun _ => True

/-- what follows an operation: every value and situation that the abstract run allows -/
def Post {R : Type} (S : Sit) (K : AV → Hp → Option R) (r : R) (next : Value → World → Prop) : Prop :=
  ∀ (av : AV) (v : Value) (T : Sit), K av T.hp = some r → HRel T → Ext Top S T → VRel T av v → av.names (fun m => T.hp m ≠ .free) → next v T.w

theorem wp_value {P : Program} {o : Oper} {a : Act} {w w' : World} {next : Act → World → Prop} {Q : Exit → Act → World → Prop} {v : Value}
    (h : (execOp a.eval o).run P w = .ok (.value v) w') (hn : next (a.put o.dst v) w') : o.wp P a w next Q := by
  unfold Oper.wp; rw [h]; exact hn

theorem wp_skipped {P : Program} {o : Oper} {a : Act} {w w' : World} {next : Act → World → Prop} {Q : Exit → Act → World → Prop}
    (h : (execOp a.eval o).run P w = .ok .skip w') (hn : next (a.put o.dst undef) w') : o.wp P a w next Q := by
  unfold Oper.wp; rw [h]; exact hn

theorem cval_rel {S : Sit} (v : Value) : VRel S (cval v) v := by
  unfold cval
  split <;> first | (unfold VRel; rfl) | (unfold VRel; trivial)

theorem cval_closed (v : Value) : (cval v).closed = true := by
  unfold cval
  split <;> rfl

theorem ev_rel {S : Sit} {fr : Nat → AV} {a : Act} (F : FRel S fr a) (x : Operand) : VRel S (ev fr x) (a.eval x) := by
  cases x with
  | tmp t => exact F.v t
  | const v => exact cval_rel v
  | func f => unfold VRel ev; exact ⟨[], rfl, .nil⟩
  | global g => exact .undef_mk

theorem ev_names {S : Sit} {fr : Nat → AV} {a : Act} (F : FRel S fr a) (x : Operand) : (ev fr x).names (fun m => S.hp m ≠ .free) := by
  cases x with
  | tmp t => exact F.n t
  | const v => exact AV.names_closed _ (cval_closed v)
  | func f => unfold ev; exact AV.names_closed _ rfl
  | global g => unfold ev; exact AV.names_closed _ rfl

theorem callBind {call : Call} {R : Type} {f : Nat} {args : List AV} {G : AV → Option R} : ((call.fn f args).bind fun p => p.2.bind fun x => G (p.1.can x)) = (call.av f args).bind G := by
  unfold Call.av
  cases call.fn f args with
  | none => rfl
  | some p =>
    obtain ⟨s, o⟩ := p
    cases o <;> rfl

theorem pcallBind {call : Call} {R : Type} {f : Nat} {args : List AV} {cells : List Cell} {G : AV → List Cell → Option R} : ((call.proc f args cells).bind fun p => p.2.bind fun x => G (p.1.1.can x.1) (canCL p.1.2 x.2)) = (call.pv f args cells).bind fun p => G p.1 p.2 := by
  unfold Call.pv
  cases call.proc f args cells with
  | none => rfl
  | some p =>
    obtain ⟨s, o⟩ := p
    cases o <;> rfl

section run
variable {call : Call} {R : Type} {K : AV → Hp → Option R} {h : Hp} {r : R}

theorem run_pure_inv {v : AV} (e : (M.pure v).run call K h = some r) : K v h = some r := e
theorem run_fail_inv (e : M.fail.run call K h = some r) : False := by cases e
theorem run_br_inv {b : Bool} {x y : M} (e : (M.br b x y).run call K h = some r) : (b = true ∧ x.run call K h = some r) ∨ (b = false ∧ y.run call K h = some r) := by
  cases b
  · exact .inr ⟨rfl, e⟩
  · exact .inl ⟨rfl, e⟩
theorem run_brf_inv {b : Bool} {x : M} (e : (M.br b x .fail).run call K h = some r) : b = true ∧ x.run call K h = some r := by
  rcases run_br_inv e with e | ⟨_, e⟩
  · exact e
  · exact (run_fail_inv e).elim
theorem run_rd_inv {n : Nat} {k : Cell → M} (e : (M.rd n k).run call K h = some r) : (k (h n)).run call K h = some r := e
theorem run_wr_inv {n : Nat} {c : Cell} {x : M} (e : (M.wr n c x).run call K h = some r) : x.run call K (upd h n c) = some r := e
theorem run_call_inv {f : Nat} {args : List AV} {k : AV → M} (e : (M.call f args k).run call K h = some r) : ∃ v, call.av f args = some v ∧ (k v).run call K h = some r := by
  replace e : ((call.fn f args).bind fun p => p.2.bind fun x => (k (p.1.can x)).run call K h) = some r := e
  rw [callBind (G := fun v => (k v).run call K h), Option.bind_eq_some_iff] at e
  exact e
theorem run_pcall_inv {f : Nat} {args : List AV} {cells : List Cell} {k : AV → List Cell → M} (e : (M.pcall f args cells k).run call K h = some r) :
    ∃ v cells', call.pv f args cells = some (v, cells') ∧ (k v cells').run call K h = some r := by
  replace e : ((call.proc f args cells).bind fun p => p.2.bind fun x => (k (p.1.1.can x.1) (canCL p.1.2 x.2)).run call K h) = some r := e
  rw [pcallBind (G := fun v cs => (k v cs).run call K h), Option.bind_eq_some_iff] at e
  obtain ⟨⟨v, cs⟩, h1, h2⟩ := e
  exact ⟨v, cs, h1, h2⟩
theorem run_opt_inv {α : Type} {o : Option α} {k : α → M} (e : (M.ofOpt o k).run call K h = some r) : ∃ x, o = some x ∧ (k x).run call K h = some r := by
  cases o with
  | none => cases e
  | some x => exact ⟨x, rfl, e⟩
theorem run_new_inv {n : Nat} {c : Cell} {v : AV} (e : (M.new n c v).run call K h = some r) : h n = .free ∧ K v (upd h n c) = some r := by
  unfold M.new at e
  have e := run_rd_inv e
  cases hn : h n <;> rw [hn] at e
  case free => exact ⟨rfl, e⟩
  all_goals cases e
end run

theorem zero_closed : ∀ (k : Kind), AV.closedL k.zero = true
  | .bool => rfl
  | .int _ => rfl
  | .str => rfl
  | .dyn d => by unfold Kind.zero dynZero; split <;> rfl
  | .unit => rfl
  | .slice _ => rfl
  | .pair a b => by unfold Kind.zero; rw [AV.closedL_append, zero_closed a, zero_closed b]; rfl
  | .arr n e => by
    unfold Kind.zero
    induction n with
    | zero => rfl
    | succ n ih => rw [List.replicate_succ, List.flatten_cons, AV.closedL_append, zero_closed e, ih]; rfl
  | .rx => rfl
  | .fnk => rfl

theorem areZero_append : ∀ {cs ds : List AV} {vs : List Value}, areZero (cs ++ ds) vs = true → ∃ l r, vs = l ++ r ∧ areZero cs l = true ∧ areZero ds r = true
  | [], _, vs, h => ⟨[], vs, rfl, rfl, h⟩
  | c :: cs, ds, [], h => by simp [areZero] at h
  | c :: cs, ds, v :: vs, h => by
    simp only [List.cons_append, areZero, Bool.and_eq_true] at h
    obtain ⟨l, r, rfl, h1, h2⟩ := areZero_append h.2
    exact ⟨v :: l, r, rfl, by simp [areZero, h.1, h1], h2⟩

theorem areZero_one {c : AV} {vs : List Value} (h : areZero [c] vs = true) : ∃ v, vs = [v] ∧ isZero c v = true := by
  cases vs with
  | nil => simp [areZero] at h
  | cons v r =>
    cases r with
    | nil => simp [areZero] at h; exact ⟨v, rfl, h⟩
    | cons _ _ => simp [areZero] at h

theorem int_zero {k : IntKind} {l : List Value} (h : areZero [.int k 0] l = true) : l = [.int k 0] := by
  obtain ⟨v, rfl, h'⟩ := areZero_one h
  unfold isZero at h'
  split at h' <;> simp_all

theorem zeros_rel {α : Type} {R : α → List Value → Prop} {d : α} {zs : List AV} (hR : ∀ vs, areZero zs vs = true → R d vs) :
    ∀ (n : Nat) {vs : List Value}, areZero (List.replicate n zs).flatten vs = true → RelL R (List.replicate n d) vs
  | 0, [], _ => rfl
  | 0, _ :: _, h => by simp [areZero] at h
  | n + 1, vs, h => by
    rw [List.replicate_succ, List.flatten_cons] at h
    obtain ⟨l, r, rfl, h1, h2⟩ := areZero_append h
    exact ⟨l, r, rfl, hR l h1, zeros_rel hR n h2⟩

theorem zero_rel {w : World} {I : Nat → Prop} : ∀ (k : Kind) {vs : List Value}, areZero k.zero vs = true → RelK w I k k.dflt vs
  | .bool, vs, h => by
    obtain ⟨v, rfl, h'⟩ := areZero_one h
    unfold isZero at h'
    split at h' <;> simp_all [RelK, Kind.dflt]
  | .int k, vs, h => by
    obtain ⟨v, rfl, h'⟩ := areZero_one h
    unfold isZero at h'
    split at h' <;> simp_all [RelK, Kind.dflt]
  | .str, vs, h => by
    obtain ⟨v, rfl, h'⟩ := areZero_one h
    unfold isZero at h'
    split at h'
    all_goals try (simp_all; done)
    rename_i s t hs
    cases hs
    simp only [decide_eq_true_eq] at h'
    show [Value.string t] = [strOf []]
    rw [← h']
    rfl
  | .dyn d, vs, h => by
    obtain ⟨v, rfl, _⟩ := areZero_one h
    have := (areZero_rel (S := ⟨w, I, fun _ => .nilIface, fun _ => .free, fun _ => False⟩) h).2 v (by simp)
    exact ⟨v, rfl, this⟩
  | .slice e, vs, h => by
    obtain ⟨v, rfl, h'⟩ := areZero_one h
    unfold isZero at h'
    split at h'
    all_goals try (simp_all; done)
    exact RelK.nilsl e
  | .fnk, vs, h => by
    obtain ⟨v, rfl, h'⟩ := areZero_one h
    unfold isZero at h'
    split at h'
    all_goals try (simp_all; done)
    exact rfl
  | .unit, vs, h => by
    cases vs with
    | nil => rfl
    | cons _ _ => simp [areZero, Kind.zero] at h
  | .pair a b, vs, h => by
    obtain ⟨l, r, rfl, h1, h2⟩ := areZero_append h
    exact ⟨l, r, rfl, zero_rel a h1, zero_rel b h2⟩
  | .arr n e, vs, h => by
    refine ⟨by simp [Kind.dflt], ?_⟩
    unfold Kind.zero at h
    show RelL (RelK w I e) (List.replicate n e.dflt) vs
    exact zeros_rel (fun vs hh => zero_rel e hh) n h
  | .rx, vs, h => by
    obtain ⟨l0, r0, rfl, h0, h⟩ := areZero_append (cs := [.int .i64 0]) h
    obtain ⟨l1, r1, rfl, h1, h⟩ := areZero_append (cs := [.int .u64 0]) h
    obtain ⟨l2, r2, rfl, h2, h⟩ := areZero_append (cs := [.int .u64 0]) h
    obtain ⟨l3, r3, rfl, h3, h⟩ := areZero_append (cs := [.int .u64 0]) h
    obtain ⟨l4, r4, rfl, h4, h⟩ := areZero_append (cs := [.int .u64 0]) h
    obtain rfl := int_zero h0
    obtain rfl := int_zero h1
    obtain rfl := int_zero h2
    obtain rfl := int_zero h3
    obtain rfl := int_zero h4
    obtain ⟨v, rfl, h'⟩ := areZero_one h
    unfold isZero at h'
    split at h'
    all_goals try (simp_all; done)
    exact RelRx.of_kids (s := [0, 0, 0, 0]) rfl (RelK.nilsl .rx)

theorem madeCells_list (z : Array Value) : ∀ (n : Nat), (madeCells z (n * z.size)).toList = (List.replicate n z.toList).flatten := by
  intro n
  induction n with
  | zero => simp [madeCells]
  | succ n ih =>
    rw [List.replicate_succ', List.flatten_append, ← ih]
    simp only [madeCells, Array.toList_map, Array.toList_range, Nat.succ_mul, List.range_add, List.map_append, List.map_map, List.flatten_cons, List.flatten_nil, List.append_nil]
    congr 1
    apply List.ext_getElem
    · simp
    · intro j h1 h2
      simp at h1 h2
      have : (n * z.size + j) % z.size = j := by rw [Nat.mul_comm, Nat.mul_add_mod]; exact Nat.mod_eq_of_lt h2
      simp [this, h2]

theorem foldl_put (off : Nat) : ∀ (l : List Value) (k : Nat) (cells : Array Value), off + k + l.length ≤ cells.size →
    ((l.zipIdx k).foldl (fun cs (c : Value × Nat) => cs.setIfInBounds (off + c.2) c.1) cells).toList = cells.toList.take (off + k) ++ l ++ cells.toList.drop (off + k + l.length)
  | [], k, cells, _ => by simp
  | c :: l, k, cells, h => by
    simp only [List.length_cons] at h
    rw [List.zipIdx_cons, List.foldl_cons, foldl_put off l (k + 1) _ (by simp; omega)]
    have e := list_seg_step cells.toList (off + k) c l (by simp; omega)
    simpa [Array.toList_setIfInBounds, Nat.add_assoc] using e

theorem fill_rel {S : Sit} {at_ place : Nat → Option (Nat × Nat)} (hAt : ∀ i p, at_ i = some p → place i = some p) :
    ∀ {ps : List (Nat × AV)} {vs : List (Nat × Value)} {z z' : List AV} {cells : Array Value}, ps.length = vs.length →
      (∀ (i : Nat) (p : Nat × AV) (v : Nat × Value), ps[i]? = some p → vs[i]? = some v → p.1 = v.1 ∧ VRel S p.2 v.2) → VRelL S z cells.toList → (∀ u ∈ cells.toList, u.oneCell' = true) → putParts at_ ps z = some z' →
      ∃ cells', Instr.fill place cells vs = some cells' ∧ VRelL S z' cells'.toList ∧ (∀ u ∈ cells'.toList, u.oneCell' = true)
  | [], [], z, z', cells, _, _, hz, h1, he => by
    simp only [putParts, Option.some.injEq] at he
    subst he
    exact ⟨cells, rfl, hz, h1⟩
  | [], _ :: _, _, _, _, hl, _, _, _, _ => by simp at hl
  | _ :: _, [], _, _, _, hl, _, _, _, _ => by simp at hl
  | (i, c) :: ps, (i', v) :: vs, z, z', cells, hl, hps, hz, h1, he => by
    simp only [putParts, Option.bind_eq_some_iff] at he
    obtain ⟨⟨off, size⟩, ha, cs, hcs, he⟩ := he
    split at he
    · rename_i hc
      obtain ⟨rfl, hv⟩ := hps 0 (i, c) (i', v) rfl rfl
      simp only at hc hv
      obtain ⟨hr, hone⟩ := leaves_rel hv hcs
      have hlen : v.cells.size = size := by rw [← hc.1]; simpa using hr.length
      have hzl : cells.size = z.length := by simpa using hz.length
      have hput := foldl_put off v.cells.toList 0 cells (by simp [hlen]; omega)
      simp only [Nat.add_zero] at hput
      have hr' := hz.splice off hr
      rw [← hput] at hr'
      obtain ⟨cells', g1, g2, g3⟩ := fill_rel hAt (ps := ps) (vs := vs) (by simpa using hl) (fun j p u h1 h2 => hps (j + 1) p u (by simpa using h1) (by simpa using h2)) hr'
        (fun u hu => by
          rw [hput] at hu
          rcases List.mem_append.1 hu with hu | hu
          · rcases List.mem_append.1 hu with hu | hu
            · exact h1 u (List.mem_of_mem_take hu)
            · exact hone u hu
          · exact h1 u (List.mem_of_mem_drop hu)) he
      refine ⟨cells', ?_, g2, g3⟩
      have hp := hAt i (off, size) ha
      have hcond : (decide (v.cells.size ≠ size) || decide (off + v.cells.size > cells.size)) = false := by
        have h1 : ¬ (off + v.cells.size > cells.size) := by omega
        simp [hlen]; omega
      simp only [Instr.fill, hp]
      simp only [hcond, Bool.false_eq_true, if_false]
      rw [← g1]
      congr 1
      rw [← Array.foldl_toList]
      simp
    · cases he

section ops
variable {P : Program} {Γ : TEnv} {call : Call} {S : Sit} {fr : Nat → AV} {a : Act} {R : Type} {K : AV → Hp → Option R} {r : R}
  {next : Act → World → Prop} {Q : Exit → Act → World → Prop} {nm : Nat}

/-- an operation that leaves the heap alone and yields v -/
theorem Post.stay {next' : Value → World → Prop} (hP : Post S K r next') (H : HRel S) {av : AV} {v : Value} (hk : K av S.hp = some r) (hv : VRel S av v)
    (hn : av.names (fun m => S.hp m ≠ .free)) : next' v S.w := hP av v S hk H (Ext.refl S) hv hn

theorem sound_move {o : Oper} {x : Operand} (ho : o.op = .move x ∨ o.op = .assign x) (H : HRel S) (F : FRel S fr a)
    (h : (M.pure (ev fr x)).run call K S.hp = some r) (hP : Post S K r fun v w => next (a.put o.dst v) w) : o.wp P a S.w next Q := by
  have hk := run_pure_inv h
  refine wp_value (v := a.eval x) ?_ (hP.stay H hk (ev_rel F x) (ev_names F x))
  rcases ho with ho | ho <;> simp [execOp, ho]

theorem sound_pick {o : Oper} {c x y : Operand} (ho : o.op = .pick c x y) (H : HRel S) (F : FRel S fr a)
    (h : (aop Γ nm (ev fr) (.pick c x y)).run call K S.hp = some r) (hP : Post S K r fun v w => next (a.put o.dst v) w) : o.wp P a S.w next Q := by
  simp only [aop] at h
  split at h
  · rename_i t ht
    have hc := ev_rel F c
    rw [ht] at hc
    have hc := hc.bool_inv
    rcases run_br_inv h with ⟨rfl, h⟩ | ⟨rfl, h⟩
    · refine wp_value (v := a.eval x) ?_ (hP.stay H (run_pure_inv (call := call) h) (ev_rel F x) (ev_names F x))
      simp [execOp, ho, hc, asBool]
    · refine wp_value (v := a.eval y) ?_ (hP.stay H (run_pure_inv (call := call) h) (ev_rel F y) (ev_names F y))
      simp [execOp, ho, hc, asBool]
  · cases h

theorem box_obj {n b : Nat} {cs : List AV} {vs : List Value} {E : TypeId} {T : Sit} (hρ : blockAt (T.ρ n) b) (hw : T.w.heap[b]? = some (.cells vs.toArray E (0, 0)))
    (hI : ¬ T.I b) (hB : ¬ T.B b) (hv : VRelL T cs vs) (h1 : ∀ u ∈ vs, u.oneCell' = true) : ObjAt T n (.box cs) :=
  ⟨b, vs.toArray, E, hρ, hw, hI, hB, by simpa using hv, by simpa using h1⟩

theorem sound_alloc (hΓ : Γ.ok P = true) {o : Oper} {t : Nat} (ho : o.op = .alloc t) (H : HRel S) 
    (h : (aop Γ nm (ev fr) (.alloc t)).run call K S.hp = some r) (hP : Post S K r fun v w => next (a.put o.dst v) w) : o.wp P a S.w next Q := by
  simp only [aop] at h
  obtain ⟨k, hk, h⟩ := run_opt_inv h
  obtain ⟨hf, h⟩ := run_new_inv h
  obtain ⟨T⟩ := kOk_ty (TEnv.kind_ok hΓ hk)
  obtain ⟨hz, hone⟩ := areZero_rel (S := S) T.zero
  have hcl := zero_closed k
  obtain ⟨H', E'⟩ := H.alloc hf (.box k.zero) (.pointer (some ⟨S.w.heap.size, 0, none⟩)) (S.w.alloc (.cells T.z.cells t)) _ rfl rfl
    (fun cs hcs => by cases hcs; exact AV.namesL_closed _ hcl)
    (fun E => ⟨S.w.heap.size, T.z.cells, t, by simp [blockAt, upd_same], heap_alloc_new _ _, fun hI => Nat.lt_irrefl _ (H.il _ hI), H.newB,
      VRelL.ext E _ (AV.namesL_closed _ hcl) hz, hone⟩)
  refine wp_value (v := .pointer (some ⟨S.w.heap.size, 0, none⟩)) (w' := S.w.alloc (.cells T.z.cells t)) ?_ (hP (.ptr nm 0) _ _ h H' E' ?_ ?_)
  · simp [execOp, ho, Instr.alloc, T.run_zero, newVar, newRow]
  · unfold VRel
    refine ⟨rfl, ?_⟩
    simp only [upd_same]
    exact ⟨S.w.heap.size, rfl, rfl⟩
  · unfold AV.names; simp [upd_same]

end ops
end Go.AM
