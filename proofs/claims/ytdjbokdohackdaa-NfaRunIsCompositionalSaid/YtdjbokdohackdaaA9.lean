/- Each operation, third part: composite literals, addresses of fields and elements. -/
import Derived.Test.YtdjbokdohackdaaA8
namespace Go.AM
open Go

theorem mapM_cons_some {α β : Type} {f : α → Option β} {x : α} {l : List α} {y : β} {r : List β} (h1 : f x = some y) (h2 : l.mapM f = some r) : (x :: l).mapM f = some (y :: r) := by
  simp [List.mapM_cons, h1, h2]

abbrev placeOf (P : Program) (f : Field) : Option (Nat × Nat) := (P.info? f.type).map fun i => (f.offset, i.size)

theorem TyIs.place {P : Program} {k : Kind} {f : Field} (T : TyIs P k f.type) : placeOf P f = some (f.offset, k.size) := by
  simp [placeOf, T.hi, T.size]

theorem fieldsOk_places {P : Program} : ∀ {k : Kind} {fs : List Field} {off : Nat}, fieldsOk P k fs off = true →
    ∃ places, fs.mapM (placeOf P) = some places ∧ ∀ i o fk, k.fieldAt i = some (o, fk) → places[i]? = some (off + o, fk.size)
  | .unit, [], off, _ => ⟨[], by simp, fun i o fk h => by simp [Kind.fieldAt] at h⟩
  | .unit, _ :: _, off, h => by simp [fieldsOk] at h
  | .pair a b, [], off, h => by simp [fieldsOk] at h
  | .pair a b, f :: r, off, h => by
    simp only [fieldsOk, Bool.and_eq_true, beq_iff_eq] at h
    obtain ⟨T⟩ := kOk_ty h.1.2
    obtain ⟨places, h1, h2⟩ := fieldsOk_places h.2
    refine ⟨(f.offset, a.size) :: places, mapM_cons_some T.place h1, fun i o fk he => ?_⟩
    cases i with
    | zero =>
      simp only [Kind.fieldAt, Option.some.injEq, Prod.mk.injEq] at he
      obtain ⟨rfl, rfl⟩ := he
      simp [h.1.1.1]
    | succ i =>
      simp only [Kind.fieldAt, Option.bind_eq_some_iff] at he
      obtain ⟨⟨o', k'⟩, h3, he⟩ := he
      simp only [Option.some.injEq, Prod.mk.injEq] at he
      obtain ⟨rfl, rfl⟩ := he
      have := h2 i o' k' h3
      simp only [List.getElem?_cons_succ, this, Option.some.injEq, Prod.mk.injEq, and_true]
      omega
  | .bool, _, _, h => by simp [fieldsOk] at h
  | .int _, _, _, h => by simp [fieldsOk] at h
  | .str, _, _, h => by simp [fieldsOk] at h
  | .dyn _, _, _, h => by simp [fieldsOk] at h
  | .slice _, _, _, h => by simp [fieldsOk] at h
  | .arr _ _, _, _, h => by simp [fieldsOk] at h
  | .rx, _, _, h => by simp [fieldsOk] at h

theorem kOk_places {P : Program} {k : Kind} {t : Nat} (h : kOk P k t = true) (hk : (match k with | .pair _ _ | .unit | .rx => true | _ => false) = true) :
    ∃ fs places, P.underlying t = some (.struct fs) ∧ fs.toList.mapM (placeOf P) = some places ∧ ∀ i o fk, k.fieldAt i = some (o, fk) → places[i]? = some (o, fk.size) := by
  cases k with
  | unit =>
    unfold kOk at h
    simp only [Bool.and_eq_true] at h
    split at h
    · rename_i fs hu
      have : fs.toList = [] := by simpa using h.2
      exact ⟨fs, [], hu, by rw [this]; simp, fun i o fk h => by simp [Kind.fieldAt] at h⟩
    · simp at h
  | pair a b =>
    unfold kOk at h
    simp only [Bool.and_eq_true] at h
    split at h
    · rename_i fs hu
      have h2 : fieldsOk P (.pair a b) fs.toList 0 = true := by
        unfold fieldsOk
        split at h
        · rename_i f r hl
          rw [hl]
          simp only [Bool.and_eq_true] at h ⊢
          simp only [Nat.zero_add]
          exact h.2
        · simp at h
      obtain ⟨places, g1, g2⟩ := fieldsOk_places h2
      exact ⟨fs, places, hu, g1, fun i o fk he => by rw [g2 i o fk he, Nat.zero_add]⟩
    · simp at h
  | rx =>
    unfold kOk at h
    simp only [Bool.and_eq_true] at h
    split at h
    · rename_i fs hu
      split at h
      · rename_i f0 f1 f2 hl
        simp only [Bool.and_eq_true, beq_iff_eq] at h
        obtain ⟨_, ⟨⟨⟨⟨⟨⟨⟨o0, o1⟩, o2⟩, i0⟩, i1⟩, i2⟩, u0⟩, u1⟩, u2⟩ := h
        obtain ⟨x0, _, j0, _, s0, _⟩ := infoOk_get i0
        obtain ⟨x1, _, j1, _, s1, _⟩ := infoOk_get i1
        obtain ⟨x2, _, j2, _, s2, _⟩ := infoOk_get i2
        refine ⟨fs, [(0, 1), (1, 4), (5, 1)], hu, ?_, ?_⟩
        · rw [hl]
          refine mapM_cons_some ?_ (mapM_cons_some ?_ (mapM_cons_some ?_ (by simp)))
          · simp [placeOf, j0, o0, s0, Kind.size]
          · simp [placeOf, j1, o1, s1, Kind.size]
          · simp [placeOf, j2, o2, s2, Kind.size]
        · intro i o fk he
          match i, he with
          | 0, he => simp only [Kind.fieldAt, Option.some.injEq, Prod.mk.injEq] at he; obtain ⟨rfl, rfl⟩ := he; rfl
          | 1, he => simp only [Kind.fieldAt, Option.some.injEq, Prod.mk.injEq] at he; obtain ⟨rfl, rfl⟩ := he; rfl
          | 2, he => simp only [Kind.fieldAt, Option.some.injEq, Prod.mk.injEq] at he; obtain ⟨rfl, rfl⟩ := he; rfl
          | n + 3, he => simp [Kind.fieldAt] at he
      · simp at h
    · simp at h
  | _ => simp at hk

theorem RelL.get {α : Type} {R : α → List Value → Prop} {sz : Nat} {d : α} (hsz : ∀ x vs, R x vs → vs.length = sz) : ∀ {xs : List α} {vs : List Value}, RelL R xs vs → ∀ i, i < xs.length →
    ∃ us, R (xs.getD i d) us ∧ ∀ j u, us[j]? = some u → vs[i * sz + j]? = some u
  | [], _, _, i, hi => by simp at hi
  | x :: xs, vs, ⟨l, r, e, h1, h2⟩, i, hi => by
    subst e
    cases i with
    | zero =>
      refine ⟨l, by simpa using h1, fun j u hu => ?_⟩
      rw [Nat.zero_mul, Nat.zero_add, List.getElem?_append_left (List.getElem?_eq_some_iff.1 hu).1]
      exact hu
    | succ i =>
      obtain ⟨us, h3, h4⟩ := RelL.get hsz h2 i (by simpa using hi)
      refine ⟨us, by simpa using h3, fun j u hu => ?_⟩
      rw [List.getElem?_append_right (by rw [hsz _ _ h1, Nat.succ_mul]; omega), hsz _ _ h1]
      have := h4 j u hu
      rwa [show (i + 1) * sz + j - sz = i * sz + j from by rw [Nat.succ_mul]; omega]

section ops
variable {P : Program} {Γ : TEnv} {call : Call} {S : Sit} {fr : Nat → AV} {a : Act} {R : Type} {K : AV → Hp → Option R} {r : R}
  {next : Act → World → Prop} {Q : Exit → Act → World → Prop} {nm : Nat}

theorem putParts_names {p : Nat → Prop} {at_ : Nat → Option (Nat × Nat)} : ∀ {ps : List (Nat × AV)} {z z' : List AV}, (∀ q ∈ ps, q.2.names p) → AV.namesL p z → putParts at_ ps z = some z' → AV.namesL p z'
  | [], z, z', _, hz, he => by simp only [putParts, Option.some.injEq] at he; subst he; exact hz
  | (i, v) :: ps, z, z', hp, hz, he => by
    simp only [putParts, Option.bind_eq_some_iff] at he
    obtain ⟨q, _, cs, hcs, he⟩ := he
    split at he
    · exact putParts_names (fun q hq => hp q (List.mem_cons_of_mem _ hq)) (splice_names hz (AV.leaves_names (hp (i, v) (List.mem_cons_self ..)) hcs)) he
    · cases he

theorem parts_names {S : Sit} {fr : Nat → AV} {a : Act} (F : FRel S fr a) (parts : Array (Nat × Operand)) : ∀ q ∈ parts.toList.map (fun p => (p.1, ev fr p.2)), q.2.names (fun m => S.hp m ≠ .free) := by
  intro q hq
  obtain ⟨p, _, rfl⟩ := List.mem_map.1 hq
  exact ev_names F _

theorem sound_build (hΓ : Γ.ok P = true) {o : Oper} {t : Nat} {parts : Array (Nat × Operand)} (ho : o.op = .build t parts) (H : HRel S) (F : FRel S fr a)
    (h : (aop Γ nm (ev fr) (.build t parts)).run call K S.hp = some r) (hP : Post S K r fun v w => next (a.put o.dst v) w) : o.wp P a S.w next Q := by
  simp only [aop] at h
  obtain ⟨k, hk, h⟩ := run_opt_inv h
  have hok := TEnv.kind_ok hΓ hk
  obtain ⟨T⟩ := kOk_ty hok
  obtain ⟨hz, hz1⟩ := areZero_rel (S := S) T.zero
  have fin : ∀ (at_ place : Nat → Option (Nat × Nat)) (z : List AV), (∀ i p, at_ i = some p → place i = some p) →
      putParts at_ (parts.toList.map fun p => (p.1, ev fr p.2)) k.zero = some z →
      (∀ cells, Instr.fill place T.z.cells (parts.toList.map fun p => (p.1, a.eval p.2)) = some cells → P.built t (parts.toList.map fun p => (p.1, a.eval p.2)) = some cells) →
      K (.agg z) S.hp = some r → o.wp P a S.w next Q := by
    intro at_ place z hat hput hb hkk
    obtain ⟨cells, g1, g2, g3⟩ := fill_rel hat (by simp) (evs_rel F parts) hz hz1 hput
    have hrun := run_build S.w t (parts.map fun p => (p.1, a.eval p.2)) cells (by simpa using hb cells g1)
    refine wp_value (v := .agg cells) ?_ (hP.stay H hkk ?_ ?_)
    · simp only [execOp, ho, hrun, Sem.run_bind, Sem.run_pure, Result.andThen_ok]
    · unfold VRel; exact ⟨cells.toList, by simp, g2, g3⟩
    · unfold AV.names; exact putParts_names (parts_names F parts) (AV.namesL_closed _ (zero_closed k)) hput
  split at h
  · rename_i n el
    obtain ⟨z, hz, h⟩ := run_opt_inv h
    obtain ⟨E, hu, hE⟩ := kOk_arr hok
    obtain ⟨TE⟩ := kOk_ty hE
    refine fin _ (fun i => some (i * el.size, el.size)) z (fun i p hp => hp) hz ?_ (run_pure_inv h)
    intro cells hc
    simp only [Program.built, T.hi, hu, T.hz, TE.hi, TE.size]
    exact hc
  · obtain ⟨z, hz, h⟩ := run_opt_inv h
    obtain ⟨fs, places, hu, hm, hp⟩ := kOk_places hok rfl
    refine fin _ (places.toArray[·]?) z (fun i p hip => ?_) hz ?_ (run_pure_inv h)
    · simp only [Option.map_eq_some_iff] at hip
      obtain ⟨⟨o', fk⟩, h1, h2⟩ := hip
      subst h2
      simpa using hp i o' fk h1
    · intro cells hc
      have hm' : fs.toList.mapM (fun f => (P.info? f.type).map fun i => (f.offset, i.size)) = some places := hm
      simp only [Program.built, T.hi, hu, T.hz, hm']
      exact hc
  · obtain ⟨z, hz, h⟩ := run_opt_inv h
    obtain ⟨fs, places, hu, hm, hp⟩ := kOk_places hok rfl
    refine fin _ (places.toArray[·]?) z (fun i p hip => ?_) hz ?_ (run_pure_inv h)
    · simp only [Option.map_eq_some_iff] at hip
      obtain ⟨⟨o', fk⟩, h1, h2⟩ := hip
      subst h2
      simpa using hp i o' fk h1
    · intro cells hc
      have hm' : fs.toList.mapM (fun f => (P.info? f.type).map fun i => (f.offset, i.size)) = some places := hm
      simp only [Program.built, T.hi, hu, T.hz, hm']
      exact hc
  · obtain ⟨z, hz, h⟩ := run_opt_inv h
    obtain ⟨fs, places, hu, hm, hp⟩ := kOk_places hok rfl
    refine fin _ (places.toArray[·]?) z (fun i p hip => ?_) hz ?_ (run_pure_inv h)
    · simp only [Option.map_eq_some_iff] at hip
      obtain ⟨⟨o', fk⟩, h1, h2⟩ := hip
      subst h2
      simpa using hp i o' fk h1
    · intro cells hc
      have hm' : fs.toList.mapM (fun f => (P.info? f.type).map fun i => (f.offset, i.size)) = some places := hm
      simp only [Program.built, T.hi, hu, T.hz, hm']
      exact hc
  · cases h

theorem maxLen_val : maxLen = 9223372036854775807 := rfl

/-- a new row -/
theorem HRel.newRow {S : Sit} (H : HRel S) {n : Nat} (hf : S.hp n = .free) (el : Kind) (xs : List el.T) (cap : Nat) (c : Array Value) (E : TypeId) (w' : World) (hw : w'.heap = S.w.heap.push (.cells c E))
    (hlc : xs.length ≤ cap) (hcap : cap ≤ maxLen) (hc : c.size = cap * el.size)
    (hel : ∀ i, i < xs.length → ∃ us, RelK S.w S.I el (xs.getD i el.dflt) us ∧ ∀ j u, us[j]? = some u → c[i * el.size + j]? = some u) (hq : SameOut S.w w' := by first | exact ⟨rfl, rfl⟩ | (simp only [SameOut, *]; first | done | exact ⟨rfl, rfl⟩ | exact ⟨trivial, trivial⟩)) :
    let T : Sit := { S with w := w', ρ := upd S.ρ n (.slice (some ⟨S.w.heap.size, 0, none⟩) xs.length cap), hp := upd S.hp n (.row el xs) }
    HRel T ∧ Ext Top S T ∧ VRel T (.ref n) (.slice (some ⟨S.w.heap.size, 0, none⟩) xs.length cap) ∧ (AV.ref n).names (fun m => T.hp m ≠ .free) := by
  intro T
  obtain ⟨H', E'⟩ := H.alloc hf (.row el xs) (.slice (some ⟨S.w.heap.size, 0, none⟩) xs.length cap) w' _ hw rfl
    (fun cs hcs => by cases hcs)
    (fun E' => .inr ⟨S.w.heap.size, cap, c, E, by simp [rowAtV, upd_same], by simp [hw], fun hI => Nat.lt_irrefl _ (H.il _ hI), H.newB, hlc, hcap, hc, fun i hi => by
      obtain ⟨us, h1, h2⟩ := hel i hi
      exact ⟨us, RelK.ext E' h1, h2⟩⟩) hq
  refine ⟨H', E', ?_, ?_⟩
  · unfold VRel
    refine ⟨rfl, ?_⟩
    simp only [T, upd_same]
  · unfold AV.names; simp [T, upd_same]

/-- a slice literal's cells -/
theorem buildSlice_run {o : Oper} {t n : Nat} {parts : Array (Nat × Operand)} (ho : o.op = .buildSlice t n parts) (F : FRel S fr a) {el : Kind} {E : TypeId} (hu : P.underlying t = some (.slice E)) (TE : TyIs P el E)
    (hlim : n ≤ 16777216 ∧ n * el.size ≤ 16777216) {z : List AV} (hz : putParts (fun i => some (i * el.size, el.size)) (parts.toList.map fun p => (p.1, ev fr p.2)) ((List.replicate n el.zero).flatten) = some z) :
    ∃ cells : Array Value, VRelL S z cells.toList ∧ (∀ u ∈ cells.toList, u.oneCell' = true) ∧ (execOp a.eval o).run P S.w = .ok (.value (.slice (some ⟨S.w.heap.size, 0, none⟩) n n)) (S.w.alloc (.cells cells E)) := by
  obtain ⟨hz0, hz1⟩ := areZero_rel (S := S) TE.zero
  have hzl : TE.z.cells.size = el.size := by
    have := RelK.length el (zero_rel (w := S.w) (I := S.I) el TE.zero)
    simpa using this
  have hrep : ∀ m, VRelL S ((List.replicate m el.zero).flatten) ((List.replicate m TE.z.cells.toList).flatten) ∧ ∀ u ∈ (List.replicate m TE.z.cells.toList).flatten, u.oneCell' = true := by
    intro m
    induction m with
    | zero => exact ⟨.nil, by simp⟩
    | succ m ih =>
      rw [List.replicate_succ, List.replicate_succ, List.flatten_cons, List.flatten_cons]
      exact ⟨hz0.append ih.1, fun u hu => (List.mem_append.1 hu).elim (hz1 u) (ih.2 u)⟩
  have hmade := madeCells_list TE.z.cells n
  obtain ⟨cells, g1, g2, g3⟩ := fill_rel (at_ := fun i => some (i * el.size, el.size)) (place := fun i => some (i * el.size, el.size)) (cells := madeCells TE.z.cells (n * TE.z.cells.size))
    (fun i p hp => hp) (by simp) (evs_rel F parts) (by rw [hmade]; exact (hrep n).1) (by rw [hmade]; exact (hrep n).2) hz
  refine ⟨cells, g2, g3, ?_⟩
  have hfill : Instr.fill (fun i => some (i * el.size, el.size)) ((Array.range (n * el.size)).map (TE.z.cells[· % TE.z.cells.size]!)) (parts.toList.map fun p => (p.1, a.eval p.2)) = some cells := by
    rw [hzl] at g1; exact g1
  have hsz2 := TE.run_size S.w
  simp only [execOp, ho, Instr.buildSlice, Sem.run_bind, run_underlying hu, Result.andThen_ok, hsz2]
  rw [if_neg (by omega)]
  by_cases h0 : n * el.size = 0
  · rw [if_pos h0]
    have hfill0 : Instr.fill (fun i => some (i * el.size, el.size)) ((Array.range (n * el.size)).map ((#[] : Array Value)[· % (#[] : Array Value).size]!)) (parts.toList.map fun p => (p.1, a.eval p.2)) = some cells := by
      have e0 : ∀ f : Nat → Value, (Array.range 0).map f = #[] := fun f => by apply Array.ext'; simp
      rw [← hfill, h0, e0, e0]
    simp only [Sem.run_bind, Sem.run_pure, Result.andThen_ok, Array.toList_map]
    rw [hfill0]
    simp [Go.newRow]
  · rw [if_neg h0]
    simp only [Sem.run_bind, Sem.run_pure, Result.andThen_ok, TE.run_zero, Array.toList_map]
    rw [hfill]
    simp [Go.newRow]

theorem mrow_mk {n : Nat} {T : Sit} {v : Value} {k v' : Kind} {ess : List (List (k.T × v'.T))} {ms : List Value} (h1 : v.oneCell' = true) (h : T.hp n = .mrow k v' ess) (hv : T.ρ n = .tuple (v :: ms).toArray) : VRel T (.ref n) v := by
  unfold VRel
  rw [h]
  exact ⟨h1, ms, hv⟩

theorem sound_buildSlice (hΓ : Γ.ok P = true) {o : Oper} {t n : Nat} {parts : Array (Nat × Operand)} (ho : o.op = .buildSlice t n parts) (H : HRel S) (F : FRel S fr a)
    (h : (aop Γ nm (ev fr) (.buildSlice t n parts)).run call K S.hp = some r) (hP : Post S K r fun v w => next (a.put o.dst v) w) : o.wp P a S.w next Q := by
  simp only [aop] at h
  obtain ⟨k, hk, h⟩ := run_opt_inv h
  have hok := TEnv.kind_ok hΓ hk
  split at h
  · split at h
    · rename_i m hparts _
      · replace h := run_rd_inv h
        split at h
        · rename_i k v es hm
          obtain ⟨hf, h⟩ := run_new_inv (run_wr_inv h)
          obtain ⟨E, hu, hE⟩ := kOk_slice hok
          obtain ⟨TE⟩ := kOk_ty hE
          have hz : putParts (fun i => some (i * (Kind.dyn 1).size, (Kind.dyn 1).size)) (parts.toList.map fun p => (p.1, ev fr p.2)) ((List.replicate 1 (Kind.dyn 1).zero).flatten) = some [.mapr m] := by
            rw [hparts]
            rfl
          obtain ⟨cells, g1, g2, hrun⟩ := buildSlice_run ho F hu TE ⟨by omega, by show 1 * 1 ≤ _; omega⟩ hz
          obtain ⟨mv, s, e, g3, g4⟩ := g1.cons_inv
          have := g4.nil_inv
          subst this
          have hmlive : cellLive (S.hp m) := by rw [hm]; rfl
          have hmn : m ≠ nm := fun e => by subst e; rw [upd_same] at hf; cases hf
          have hf' : S.hp nm = .free := by rw [upd_other (fun e => hmn e.symm)] at hf; exact hf
          obtain ⟨H1, E1⟩ := H.bury hmlive (fun _ => False) (fun b hb => hb.elim)
          have hI1 : (fun b => S.I b ∨ False) = S.I := by funext b; simp
          rw [hI1] at H1 E1
          have hob := H.ob m
          rw [hm] at hob
          obtain ⟨r', ents, cl, o1, o2, o3, o4, o5⟩ := hob
          unfold VRel at g3
          rw [hm] at g3
          have emv : mv = .map (some r') := g3.2.trans o1
          have ecells : cells = #[.map (some r')] := by apply Array.ext'; rw [e, emv]
          have hr'lt := (Array.getElem?_eq_some_iff.1 o2).1
          obtain ⟨H2, E2⟩ := H1.fresh hf (.mrow k v [es]) (.tuple (.slice (some ⟨S.w.heap.size, 0, none⟩) 1 1 :: [.map (some r')]).toArray) (S.w.alloc (.cells cells E)) (by simp)
            (fun b hb _ => getElem?_push_lt hb)
            (fun b hb => by
              obtain ⟨u, hu, hb⟩ := hb
              simp only [List.mem_cons, List.not_mem_nil, or_false] at hu
              rcases hu with rfl | rfl
              · replace hb : some S.w.heap.size = some b := hb
                cases hb
                exact ⟨fun hI => Nat.lt_irrefl _ (H.il _ hI), H.newB, fun q hq hbq => Nat.lt_irrefl _ (H1.lt hq hbq)⟩
              · replace hb : some r' = some b := hb
                cases hb
                refine ⟨o3, o4, fun q hq hbq => ?_⟩
                by_cases hqm : q = m
                · subst hqm; simp only [upd_same] at hq; cases hq
                · simp only [upd_other hqm] at hq
                  exact H.ds m q r' (fun e => hqm e.symm) hmlive hq (by rw [o1]; exact rfl) hbq)
            (fun cs hcs => by cases hcs)
            (fun E2 => ⟨S.w.heap.size, 1, cells, E, [.map (some r')], by simp only [upd_same]; rfl, heap_alloc_new _ _, fun hI => Nat.lt_irrefl _ (H.il _ hI), H.newB, by simp, by rw [maxLen_val]; omega, by rw [ecells]; rfl, rfl, fun i j u u' hij hi hj => by (cases i <;> cases j <;> simp at hij hi hj),
              fun i u hu => by
                cases i with
                | zero =>
                  simp only [List.getElem?_cons_zero, Option.some.injEq] at hu
                  subst hu
                  refine ⟨by rw [ecells]; rfl, fun e => ?_⟩
                  replace e : some r' = some S.w.heap.size := e
                  cases e
                  exact Nat.lt_irrefl _ hr'lt
                | succ i => simp at hu,
              fun i es' hes => by
                cases i with
                | zero =>
                  simp only [List.getElem?_cons_zero, Option.some.injEq] at hes
                  subst hes
                  exact ⟨_, rfl, r', ents, cl, rfl, (getElem?_push_lt hr'lt).trans o2, o3, o4, (o5.1.ext E1).ext E2, o5.2⟩
                | succ i => simp at hes⟩)
          refine wp_value hrun (hP (.ref nm) _ _ h H2 (E1.trans E2) (mrow_mk rfl (by simp only [upd_same]; rfl) (by simp only [upd_same]; rfl)) ?_)
          unfold AV.names; simp [upd_same]
        · cases h
    · cases h
  · rename_i el _
    split at h
    · rename_i hlim
      obtain ⟨z, hz, h⟩ := run_opt_inv h
      obtain ⟨xs, hxs, h⟩ := run_opt_inv h
      obtain ⟨E, hu, hE⟩ := kOk_slice hok
      obtain ⟨TE⟩ := kOk_ty hE
      obtain ⟨cells, g2, g3, hrun⟩ := buildSlice_run ho F hu TE hlim hz
      obtain ⟨hn, hrel⟩ := listOf_rel g2 hxs
      have hsz : cells.size = n * el.size := by
        have := hrel.length (fun x vs hh => RelK.length el hh)
        rw [hn] at this
        simpa using this
      replace hrun : (execOp a.eval o).run P S.w = .ok (.value (.slice (some ⟨S.w.heap.size, 0, none⟩) xs.length n)) (S.w.alloc (.cells cells E)) := by rw [hn]; exact hrun
      split at h
      · rename_i himm
        have halloc : (S.w.alloc (.cells cells E)).heap = S.w.heap.push (.cells cells E) := rfl
        have E1 : Ext Top S { S with w := S.w.alloc (.cells cells E), I := fun b => S.I b ∨ b = S.w.heap.size } := by
          refine ⟨fun b hb => ⟨.inl hb, getElem?_push_lt (H.il b hb)⟩, by rw [halloc]; simp, rfl, fun b hb => getElem?_push_lt (H.bl b hb), fun m _ hm => ?_, fun m _ hm => hm, fun b hb hlt => hb.elim id fun e => absurd hlt (e ▸ H.newB), ⟨rfl, rfl⟩⟩
          by_cases hl : cellLive (S.hp m)
          · exact .inr ⟨rfl, sameShape_refl hl⟩
          · left
            cases hcc : S.hp m <;> rw [hcc] at hl hm <;> simp [cellLive, Cell.live] at hl hm ⊢
        have H1 : HRel { S with w := S.w.alloc (.cells cells E), I := fun b => S.I b ∨ b = S.w.heap.size } :=
          H.world E1 rfl rfl (fun b hb => getElem?_push_lt hb) (fun b hb hI => hI.elim id fun e => by omega)
            (fun b hb => by
              have e : (S.w.alloc (.cells cells E)).heap.size = S.w.heap.size + 1 := by rw [halloc]; simp
              rcases hb with hb | hb
              · have := H.il b hb; simp only [e]; omega
              · simp only [e]; omega)
        refine wp_value hrun (hP (.sl el xs) _ { S with w := S.w.alloc (.cells cells E), I := fun b => S.I b ∨ b = S.w.heap.size } (run_pure_inv h) H1 E1 ?_ (AV.names_closed _ rfl))
        refine .sl_mk ⟨_, _, _, rfl, rfl, by omega, .inr ⟨S.w.heap.size, 0, rfl, .inr rfl, fun i hi => ?_⟩⟩
        obtain ⟨us, h1, h2⟩ := hrel.get (d := el.dflt) (fun x vs hh => RelK.length el hh) i (by simpa using hi)
        refine ⟨us, RelK.ext E1 h1, fun j u hu => ?_⟩
        rw [cell_of_row (S.w.alloc (.cells cells E)) S.w.heap.size _ cells E (0, 0) (by rw [halloc]; simp), Nat.zero_add]
        have := h2 j u hu
        simpa using this
      · obtain ⟨hf, h⟩ := run_new_inv h
        obtain ⟨H', E', hv, hnm⟩ := H.newRow hf el xs n cells E (S.w.alloc (.cells cells E)) rfl (by omega) (by rw [maxLen_val]; omega) (by rw [hsz])
          (fun i hi => by
            obtain ⟨us, h1, h2⟩ := hrel.get (d := el.dflt) (fun x vs hh => RelK.length el hh) i hi
            exact ⟨us, h1, fun j u hu => by have := h2 j u hu; simpa using this⟩)
        exact wp_value hrun (hP (.ref nm) _ _ h H' E' hv hnm)
    · cases h
  · cases h

theorem sound_fieldAddr (hΓ : Γ.ok P = true) {o : Oper} {t f : Nat} {x : Operand} (ho : o.op = .fieldAddr t x f) (H : HRel S) (F : FRel S fr a)
    (h : (aop Γ nm (ev fr) (.fieldAddr t x f)).run call K S.hp = some r) (hP : Post S K r fun v w => next (a.put o.dst v) w) : o.wp P a S.w next Q := by
  simp only [aop] at h
  obtain ⟨k, hk, h⟩ := run_opt_inv h
  have hok := TEnv.kind_ok hΓ hk
  obtain ⟨⟨off, fk⟩, hfa, h⟩ := run_opt_inv h
  obtain ⟨fs, fld, hu, hfs, hoff, ⟨T⟩, hsz⟩ := kOk_field hok hfa
  have hx := ev_rel F x
  have hn := ev_names F x
  split at h
  · cases h
  · rename_i hne
    have fin : ∀ (b oo : Nat) (v : AV), a.eval x = .pointer (some ⟨b, oo, none⟩) → K v S.hp = some r → VRel S v (.pointer (some ⟨b, oo + off, none⟩)) → v.names (fun m => S.hp m ≠ .free) → o.wp P a S.w next Q := by
      intro b oo v hp hkk hv hnn
      refine wp_value (v := .pointer (some ⟨b, oo + off, none⟩)) ?_ (hP.stay H hkk hv hnn)
      simp only [execOp, ho, hp, Instr.fieldAt, Sem.run_bind, run_underlying hu, Result.andThen_ok, hfs, Instr.sureAddr, Sem.run_pure, fieldPlace, T.run_size]
      rw [if_neg hne]
      simp [Addr.add_lit, hoff]
    split at h
    · rename_i n oo he
      rw [he] at hx hn
      unfold VRel at hx
      obtain ⟨h1, h2⟩ := hx
      replace h := run_rd_inv h
      split at h
      · rename_i cs hc
        rw [hc] at h2
        obtain ⟨b, hb, hp⟩ := h2
        exact fin b oo _ hp (run_pure_inv h) (by unfold VRel; refine ⟨rfl, ?_⟩; rw [hc]; exact ⟨b, hb, rfl⟩) hn
      · cases h
    · rename_i n i sub he
      rw [he] at hx hn
      unfold VRel at hx
      obtain ⟨h1, h2⟩ := hx
      replace h := run_rd_inv h
      split at h
      · rename_i el xs hc
        rw [hc] at h2
        obtain ⟨hi, b, cap, hb, hp⟩ := h2
        exact fin b _ _ hp (run_pure_inv h) (by unfold VRel; refine ⟨rfl, ?_⟩; rw [hc]; exact ⟨hi, b, cap, hb, by rw [Nat.add_assoc]⟩) hn
      · cases h
    · rename_i cs he
      rw [he] at hx hn
      unfold VRel at hx
      obtain ⟨b, oo, us, hp, hI, h1, h2, h3⟩ := hx
      unfold AV.names at hn
      refine fin b oo _ hp (run_pure_inv h) ?_ (by unfold AV.names; exact namesL_drop _ hn)
      unfold VRel
      exact ⟨b, oo + off, us.drop off, rfl, hI, h1.drop off, h2.drop off, fun u hu => h3 u (List.mem_of_mem_drop hu)⟩
    · cases h

theorem sound_field (hΓ : Γ.ok P = true) {o : Oper} {t f : Nat} {x : Operand} (ho : o.op = .field t x f) (H : HRel S) (F : FRel S fr a)
    (h : (aop Γ nm (ev fr) (.field t x f)).run call K S.hp = some r) (hP : Post S K r fun v w => next (a.put o.dst v) w) : o.wp P a S.w next Q := by
  simp only [aop] at h
  obtain ⟨k, hk, h⟩ := run_opt_inv h
  have hok := TEnv.kind_ok hΓ hk
  obtain ⟨⟨off, fk⟩, hfa, h⟩ := run_opt_inv h
  obtain ⟨fs, fld, hu, hfs, hoff, ⟨T⟩, hsz⟩ := kOk_field hok hfa
  have hx := ev_rel F x
  have hn := ev_names F x
  split at h
  · rename_i cs he
    rw [he] at hx hn
    split at h
    · rename_i hlen
      obtain ⟨v, hv, h⟩ := run_opt_inv h
      unfold VRel at hx
      obtain ⟨vs, hp, h1, h2⟩ := hx
      unfold AV.names at hn
      have hvl := h1.length
      obtain ⟨hl, hr⟩ := res_rel ((h1.drop off).take fk.size) (fun u hu => h2 u (List.mem_of_mem_drop (List.mem_of_mem_take hu))) hv
      refine wp_value ?_ (hP.stay H (run_pure_inv h) hr (res_names (namesL_take _ (namesL_drop _ hn)) hv))
      simp only [execOp, ho, hp, Instr.field, Sem.run_bind, run_underlying hu, Result.andThen_ok, hfs, asAgg, Sem.run_pure, part, T.agg S.w, hoff]
      cases ha : fk.isAgg with
      | true =>
        simp only [if_true, Sem.run_bind, T.run_size, Result.andThen_ok, Sem.run_pure]
        congr 3
        apply Array.ext'
        simp [List.extract_eq_take_drop]
      | false =>
        have h1' := Kind.size_leaf ha
        simp only [Bool.false_eq_true, if_false]
        have hlt : off < vs.length := by omega
        simp [h1', hlt, List.headD_eq_head?_getD, List.head?_take, List.head?_drop]
    · cases h
  · cases h

theorem run_indexAt_slice {t E : TypeId} {es : Nat} {b oo len cap : Nat} {k : IntKind} {z : Int} {w : World} (hu : P.underlying t = some (.slice E)) (hs : (sizeOf E).run P w = .ok es w)
    (h0 : 0 ≤ z) (h1 : z < (len : Int)) : (Instr.indexAt t (.slice (some ⟨b, oo, none⟩) len cap) (.int k z)).run P w = .ok (.pointer (some ⟨b, oo + z.toNat * es, none⟩)) w := by
  simp [Instr.indexAt, asIntOf, run_underlying hu, h0, h1, hs, Addr.add_lit]

theorem sound_indexAddr (hΓ : Γ.ok P = true) {o : Oper} {t : Nat} {x i : Operand} (ho : o.op = .indexAddr t x i) (H : HRel S) (F : FRel S fr a)
    (h : (aop Γ nm (ev fr) (.indexAddr t x i)).run call K S.hp = some r) (hP : Post S K r fun v w => next (a.put o.dst v) w) : o.wp P a S.w next Q := by
  simp only [aop] at h
  obtain ⟨k, hk, h⟩ := run_opt_inv h
  have hok := TEnv.kind_ok hΓ hk
  have hx := ev_rel F x
  have hn := ev_names F x
  have hi := ev_rel F i
  split at h
  · rename_i ke ik z hz
    obtain ⟨E, hu, hE⟩ := kOk_slice hok
    obtain ⟨TE⟩ := kOk_ty hE
    rw [hz] at hi
    have hi := hi.int_inv
    have fin : ∀ (b oo len cap : Nat) (v : AV), a.eval x = .slice (some ⟨b, oo, none⟩) len cap → 0 ≤ z → z < (len : Int) → K v S.hp = some r →
        VRel S v (.pointer (some ⟨b, oo + z.toNat * ke.size, none⟩)) → v.names (fun m => S.hp m ≠ .free) → o.wp P a S.w next Q := by
      intro b oo len cap v hp h0 h1 hkk hv hnn
      refine wp_value ?_ (hP.stay H hkk hv hnn)
      simp only [execOp, ho, hp, hi, Sem.run_bind, run_indexAt_slice hu (TE.run_size S.w) h0 h1, Result.andThen_ok, Sem.run_pure]
    split at h
    · rename_i el xs hxs
      split at h
      · rename_i hke
        subst hke
        obtain ⟨hc, h⟩ := run_brf_inv h
        simp only [decide_eq_true_eq] at hc
        rw [hxs] at hx
        obtain ⟨ad, len, cap, hp, hl, hcap, hs⟩ := hx.sl_inv
        have hp : a.eval x = .slice ad len cap := by simpa using hp
        rcases hs with hs | ⟨b, oo, rfl, hI, hs⟩
        · omega
        · obtain ⟨us, h1, h2⟩ := hs z.toNat (by omega)
          refine fin b oo len cap _ hp hc.1 (by omega) (run_pure_inv h) ?_ (by unfold AV.names; exact flat_names el _)
          unfold VRel
          exact ⟨b, _, us, rfl, hI, flat_rel el h1, h2, RelK.ones el h1⟩
      · cases h
    · rename_i n hxs
      replace h := run_rd_inv h
      rw [hxs] at hx hn
      unfold VRel at hx
      split at h
      · rename_i el xs hcs
        split at h
        · rename_i hke
          subst hke
          obtain ⟨hc, h⟩ := run_brf_inv h
          simp only [decide_eq_true_eq] at hc
          rw [hcs] at hx
          obtain ⟨_, hp⟩ := hx
          have ho' := H.ob n
          rw [hcs] at ho'
          rcases ho' with ⟨g1, g2⟩ | ⟨b, cap, c, E', g1, g2, g3, g4, g5, g6, g7, g8⟩
          · omega
          · refine fin b 0 xs.length cap _ (by rw [hp]; exact g1) hc.1 hc.2 (run_pure_inv h) ?_ hn
            unfold VRel
            refine ⟨rfl, ?_⟩
            rw [hcs]
            exact ⟨by omega, b, cap, g1, by simp⟩
        · cases h
      · rename_i k' v' ess hcs
        split at h
        · rename_i hke
          subst hke
          obtain ⟨hc, h⟩ := run_brf_inv h
          simp only [decide_eq_true_eq] at hc
          rw [hcs] at hx
          obtain ⟨_, ms0, hp⟩ := hx
          have ho' := H.ob n
          rw [hcs] at ho'
          obtain ⟨b, cap, c, E', ms, g1, _⟩ := ho'
          obtain ⟨e1, _⟩ := tuple_inj (g1.symm.trans hp)
          refine fin b 0 ess.length cap _ e1.symm hc.1 hc.2 (run_pure_inv h) ?_ hn
          unfold VRel
          refine ⟨rfl, ?_⟩
          rw [hcs]
          exact ⟨by omega, b, cap, ms, g1, by simp [Kind.size]⟩
        · cases h
      · cases h
    · rename_i n j hxs
      replace h := run_rd_inv h
      rw [hxs] at hx hn
      unfold VRel at hx
      split at h
      · rename_i el xs hcs
        split at h
        · rename_i hke
          subst hke
          obtain ⟨hc, h⟩ := run_brf_inv h
          simp only [decide_eq_true_eq] at hc
          rw [hcs] at hx
          obtain ⟨_, ad, cap, hp1, hj, hp⟩ := hx
          have ho' := H.ob n
          rw [hcs] at ho'
          rcases ho' with ⟨g1, g2⟩ | ⟨b, cap', c, E', g1, g2, g3, g4, g5, g6, g7, g8⟩
          · omega
          · have : ad = some ⟨b, 0, none⟩ ∧ cap = cap' := by unfold rowAtV at g1; rw [g1] at hp1; simp at hp1; exact ⟨hp1.1.symm, hp1.2.symm⟩
            obtain ⟨rfl, rfl⟩ := this
            refine fin b 0 j cap _ hp hc.1 hc.2 (run_pure_inv h) ?_ hn
            unfold VRel
            refine ⟨rfl, ?_⟩
            rw [hcs]
            exact ⟨by omega, b, cap, g1, by simp⟩
        · cases h
      · cases h
    · cases h
  · rename_i cnt ike ik z hz
    obtain ⟨E, hu, hE⟩ := kOk_arr hok
    obtain ⟨TE⟩ := kOk_ty hE
    rw [hz] at hi
    have hi := hi.int_inv
    split at h
    · rename_i n off hxs
      replace h := run_rd_inv h
      rw [hxs] at hx hn
      unfold VRel at hx
      split at h
      · rename_i cs hcs
        split at h
        · rename_i hfit
          obtain ⟨hc, h⟩ := run_brf_inv h
          simp only [decide_eq_true_eq] at hc
          rw [hcs] at hx
          obtain ⟨_, b, hb, hp⟩ := hx
          refine wp_value (v := .pointer (some ⟨b, off + z.toNat, none⟩)) ?_ (hP.stay H (run_pure_inv h) ?_ hn)
          · have hsz := TE.run_size S.w
            rw [show Kind.size (.int ike) = 1 from rfl] at hsz
            simp [execOp, ho, hp, hi, Instr.indexAt, asIntOf, run_underlying hu, Instr.sureAddr, hc.1, hc.2, hsz, Addr.add_lit]
          · unfold VRel
            refine ⟨rfl, ?_⟩
            rw [hcs]
            exact ⟨by omega, hfit, b, hb, rfl⟩
        · cases h
      · cases h
    · rename_i n i0 sub hxs
      replace h := run_rd_inv h
      rw [hxs] at hx hn
      unfold VRel at hx
      split at h
      · rename_i el xs hcs
        obtain ⟨hc, h⟩ := run_brf_inv h
        simp only [decide_eq_true_eq] at hc
        rw [hcs] at hx
        obtain ⟨_, hi0, b, cap, hb, hp⟩ := hx
        refine wp_value (v := .pointer (some ⟨b, i0 * el.size + sub + z.toNat, none⟩)) ?_ (hP.stay H (run_pure_inv h) ?_ hn)
        · have hsz := TE.run_size S.w
          rw [show Kind.size (.int ike) = 1 from rfl] at hsz
          simp [execOp, ho, hp, hi, Instr.indexAt, asIntOf, run_underlying hu, Instr.sureAddr, hc.1, hc.2, hsz, Addr.add_lit]
        · unfold VRel
          refine ⟨rfl, ?_⟩
          rw [hcs]
          exact ⟨hi0, b, cap, hb, by rw [Nat.add_assoc]⟩
      · cases h
    · cases h
  · cases h

theorem sound_index (hΓ : Γ.ok P = true) {o : Oper} {t : Nat} {x i : Operand} (ho : o.op = .index t x i) (H : HRel S) (F : FRel S fr a)
    (h : (aop Γ nm (ev fr) (.index t x i)).run call K S.hp = some r) (hP : Post S K r fun v w => next (a.put o.dst v) w) : o.wp P a S.w next Q := by
  simp only [aop] at h
  obtain ⟨k, hk, h⟩ := run_opt_inv h
  have hok := TEnv.kind_ok hΓ hk
  have hx := ev_rel F x
  have hi := ev_rel F i
  split at h
  · rename_i s ik z hs hz
    obtain ⟨hc, h⟩ := run_brf_inv h
    simp only [decide_eq_true_eq] at hc
    rw [hs] at hx
    rw [hz] at hi
    have hp := hx.str_inv
    have hi := hi.int_inv
    have hlt : z.toNat < s.length := by omega
    refine wp_value (v := .int .u8 ((s.getD z.toNat 0).toNat : Int)) ?_ (hP.stay H (run_pure_inv h) .int_mk (by unfold AV.names; trivial))
    have hg : (ByteArray.mk s.toArray)[z.toNat]? = some (s.getD z.toNat 0) := by
      rw [getElem?_pos _ _ (by simpa [ByteArray.size] using hlt)]
      simp [List.getD_eq_getElem?_getD, List.getElem?_eq_getElem hlt, ByteArray.getElem_eq_getElem_data]
    simp [execOp, ho, hp, hi, Instr.index, asIntOf, run_underlying (kOk_str hok), strOf, hc.1, hg]
  · rename_i n ike cs ik z hcs hz
    obtain ⟨l, hl, h⟩ := run_opt_inv h
    split at h
    · rename_i hn
      obtain ⟨hc, h⟩ := run_brf_inv h
      simp only [decide_eq_true_eq] at hc
      obtain ⟨E, hu, hE⟩ := kOk_arr hok
      obtain ⟨TE⟩ := kOk_ty hE
      have hsz := TE.run_size S.w
      rw [show Kind.size (.int ike) = 1 from rfl] at hsz
      rw [hcs] at hx
      rw [hz] at hi
      have hi := hi.int_inv
      unfold VRel at hx
      obtain ⟨vs, hp, h1, h2⟩ := hx
      obtain ⟨e1, e2⟩ := intsOf_rel h1 hl
      have hlt : z.toNat < l.length := by omega
      refine wp_value (v := .int ike (l.getD z.toNat 0)) ?_ (hP.stay H (run_pure_inv h) .int_mk (by unfold AV.names; trivial))
      have hag := TE.agg S.w
      simp [execOp, ho, hp, hi, Instr.index, asIntOf, run_underlying hu, hc.1, hc.2, hsz, part, hag, Kind.isAgg, e1, hlt]
    · cases h
  · cases h

end ops
end Go.AM
