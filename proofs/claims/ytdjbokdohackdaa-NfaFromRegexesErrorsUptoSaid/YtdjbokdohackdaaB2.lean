/- A call of a procedure, sound. -/
import Derived.Test.YtdjbokdohackdaaB1
namespace Go.AM
open Go

/-- g does what F says to its arguments and to the objects that it is given under the names nin; it leaves those of the names nout -/
def SoundProc (P : Program) (g : Nat) (nin nout : List Nat) (F : List AV → List Cell → Option (AV × List Cell)) : Prop :=
  (∃ fn, P.funcs[g]? = some fn ∧ fn.body.isSome = true ∧ fn.name ≠ "runtime.NumGoroutine") ∧
  ∀ (args : List AV) (cells : List Cell) (v : AV) (cells' : List Cell), F args cells = some (v, cells') → cells.length = nin.length → cells'.length = nout.length →
    ∀ (S : Sit) (vs : List Value), HRel S → S.hp = (fun n => look .free (nin.zip cells) n) → VRelL S args vs → AV.namesL (fun m => S.hp m ≠ .free) args →
      Calls P g vs.toArray S.w fun e w' => ∃ (u : Value) (T : Sit), e = .returned u ∧ T.w = w' ∧ HRel T ∧ Ext (fun _ => True) S T ∧ v.closed = true ∧ VRel T v u ∧
        T.hp = (fun n => look (if nin.contains n = true then .dead else .free) (nout.zip cells') n)

/-- the heap after the call -/
def finHp (ns ms : List (Nat × Nat)) (cells' : List Cell) (h : Hp) : Hp := fun n =>
  look (if (ns.map (·.1)).contains n = true then .dead else h n) ((ms.map (·.1)).zip (cells'.map (Cell.ren (pinv ms)))) n

structure ProcOk (ns ms : List (Nat × Nat)) : Prop where
  n1 : nodupB (ns.map (·.1)) = true
  n2 : nodupB (ns.map (·.2)) = true
  m1 : nodupB (ms.map (·.1)) = true
  m2 : nodupB (ms.map (·.2)) = true
  e : ∀ p ∈ ms, ∀ q ∈ ns, (p.1 = q.1 ↔ p.2 = q.2)

theorem procOk_of {ns ms : List (Nat × Nat)} (h : procOk ns ms = true) : ProcOk ns ms := by
  unfold procOk at h
  simp only [Bool.and_eq_true] at h
  obtain ⟨⟨⟨⟨h1, h2⟩, h3⟩, h4⟩, h5⟩ := h
  refine ⟨h1, h2, h3, h4, fun p hp q hq => ?_⟩
  have := List.all_eq_true.1 (List.all_eq_true.1 h5 p hp) q hq
  simp only [beq_iff_eq] at this
  constructor
  · intro e
    have e1 : (p.1 == q.1) = true := by simp [e]
    rw [e1] at this
    simpa using this.symm
  · intro e
    have e1 : (p.2 == q.2) = true := by simp [e]
    rw [e1] at this
    simpa using this

/-! ### what the machine's run of such a call says -/

section run
variable {call : Call} {R : Type} {K : AV → Hp → Option R} {r : R}

theorem run_rdAll_inv : ∀ {l : List Nat} {k : List Cell → M} {h : Hp}, (rdAll l k).run call K h = some r → (∀ n ∈ l, cellLive (h n)) ∧ (k (l.map h)).run call K h = some r
  | [], _, _, e => ⟨fun _ hn => (by cases hn), e⟩
  | n :: l, k, h, e => by
    unfold rdAll at e
    replace e := run_rd_inv e
    split at e
    · rename_i hl
      obtain ⟨h1, h2⟩ := run_rdAll_inv e
      refine ⟨fun m hm => ?_, h2⟩
      rcases List.mem_cons.1 hm with rfl | hm
      · exact hl
      · exact h1 m hm
    · exact (run_fail_inv e).elim

theorem run_wrDead_inv : ∀ {l : List Nat} {x : M} {h : Hp}, (wrDead l x).run call K h = some r → x.run call K (fun n => if l.contains n = true then .dead else h n) = some r
  | [], _, _, e => e
  | n :: l, x, h, e => by
    unfold wrDead at e
    replace e := run_wrDead_inv (run_wr_inv e)
    have : (fun m => if l.contains m = true then Cell.dead else upd h n .dead m) = fun m => if (n :: l).contains m = true then .dead else h m := by
      funext m
      unfold upd
      by_cases hm : m = n
      · subst hm; simp
      · rw [if_neg hm]
        have : (n :: l).contains m = l.contains m := by
          rw [List.contains_cons]
          have : (m == n) = false := by simp [hm]
          rw [this, Bool.false_or]
        rw [this]
    rw [this] at e
    exact e

theorem run_wrNew_inv {old : List (Nat × Nat)} : ∀ {l : List ((Nat × Nat) × Cell)} {x : M} {h : Hp}, (wrNew old l x).run call K h = some r → nodupB (l.map fun q => q.1.1) = true →
    (∀ q ∈ l, q.1 ∈ old ∨ h q.1.1 = .free) ∧ x.run call K (fun n => look (h n) (l.map fun q => (q.1.1, q.2)) n) = some r
  | [], _, _, e, _ => ⟨fun _ hq => by (cases hq), e⟩
  | (p, c) :: l, x, h, e, hn => by
    obtain ⟨n1, n2⟩ := nodupB_cons hn
    have step : (wrNew old l x).run call K (upd h p.1 c) = some r → (∀ q ∈ l, q.1 ∈ old ∨ h q.1.1 = .free) ∧ x.run call K (fun n => look (h n) (((p, c) :: l).map fun q => (q.1.1, q.2)) n) = some r := by
      intro e
      obtain ⟨h1, h2⟩ := run_wrNew_inv e n2
      refine ⟨fun q hq => (h1 q hq).imp id fun hf => ?_, ?_⟩
      · rwa [upd_other (n1 _ (List.mem_map.2 ⟨q, hq, rfl⟩))] at hf
      · have : (fun n => look (upd h p.1 c n) (l.map fun q => (q.1.1, q.2)) n) = fun n => look (h n) (((p, c) :: l).map fun q => (q.1.1, q.2)) n := by
          funext n
          show _ = (if n = p.1 then c else look (h n) (l.map fun q => (q.1.1, q.2)) n)
          by_cases hnp : n = p.1
          · subst hnp
            rw [if_pos rfl, upd_same]
            refine look_none fun q hq => ?_
            obtain ⟨q', hq', rfl⟩ := List.mem_map.1 hq
            exact n1 _ (List.mem_map.2 ⟨q', hq', rfl⟩)
          · rw [if_neg hnp, upd_other hnp]
        rw [this] at h2
        exact h2
    unfold wrNew at e
    split at e
    · rename_i ho
      obtain ⟨h1, h2⟩ := step (run_wr_inv e)
      refine ⟨fun q hq => ?_, h2⟩
      rcases List.mem_cons.1 hq with rfl | hq
      · exact .inl (by simpa using ho)
      · exact h1 q hq
    · replace e := run_rd_inv e
      split at e
      · rename_i hf
        obtain ⟨h1, h2⟩ := step (run_wr_inv e)
        refine ⟨fun q hq => ?_, h2⟩
        rcases List.mem_cons.1 hq with rfl | hq
        · exact .inr hf
        · exact h1 q hq
      · exact (run_fail_inv e).elim

theorem run_procM_inv {g : Nat} {ns ms : List (Nat × Nat)} {args : List AV} {h : Hp} (e : (procM g ns ms args).run call K h = some r) :
    ProcOk ns ms ∧ (∀ p ∈ ns, cellLive (h p.1)) ∧ ∃ v cells', call.pv g (AV.renL (pmap ns) args) (ns.map fun p => (h p.1).ren (pmap ns)) = some (v, cells') ∧ cells'.length = ms.length ∧ (∀ c ∈ cells', cellLive c) ∧
      (∀ p ∈ ms, p ∈ ns ∨ h p.1 = .free) ∧ K v (finHp ns ms cells' h) = some r := by
  unfold procM at e
  split at e
  · rename_i hok
    have O := procOk_of hok
    obtain ⟨h1, h2⟩ := run_rdAll_inv e
    obtain ⟨v, cells', h3, h4⟩ := run_pcall_inv h2
    split at h4
    · rename_i hc
      simp only [Bool.and_eq_true, decide_eq_true_eq, List.all_eq_true] at hc
      have hlen : (cells'.map (Cell.ren (pinv ms))).length = ms.length := by rw [List.length_map]; exact hc.1
      have e1 : (ms.zip (cells'.map (Cell.ren (pinv ms)))).map (fun q => q.1.1) = ms.map (·.1) := by
        rw [show (fun q : (Nat × Nat) × Cell => q.1.1) = (fun p : Nat × Nat => p.1) ∘ Prod.fst from rfl, ← List.map_map, List.map_fst_zip (by omega)]
      have e2 : (ms.zip (cells'.map (Cell.ren (pinv ms)))).map (fun q => (q.1.1, q.2)) = (ms.map (·.1)).zip (cells'.map (Cell.ren (pinv ms))) := by
        rw [List.zip_map_left]
        rfl
      obtain ⟨h5, h6⟩ := run_wrNew_inv (run_wrDead_inv h4) (by rw [e1]; exact O.m1)
      rw [e2] at h6
      have hin : ∀ p ∈ ns, ∀ n, n = p.1 → ((ns.filter fun p => !ms.contains p).map (·.1)).contains n = true ∨ ∃ q ∈ ms, q.1 = n := by
        intro p hp n hn
        by_cases hm : p ∈ ms
        · exact .inr ⟨p, hm, hn.symm⟩
        · left
          rw [List.contains_iff_mem]
          exact List.mem_map.2 ⟨p, List.mem_filter.2 ⟨hp, by simpa using hm⟩, hn.symm⟩
      have hfin : (fun n => look (if ((ns.filter fun p => !ms.contains p).map (·.1)).contains n = true then Cell.dead else h n) ((ms.map (·.1)).zip (cells'.map (Cell.ren (pinv ms)))) n) = finHp ns ms cells' h := by
        funext n
        unfold finHp
        by_cases hq : ∃ q ∈ ms, q.1 = n
        · obtain ⟨q, hq, rfl⟩ := hq
          obtain ⟨i, hi, e⟩ := List.mem_iff_getElem.1 hq
          have hi' : i < (cells'.map (Cell.ren (pinv ms))).length := by omega
          have k1 : (ms.map (·.1))[i]? = some q.1 := by rw [List.getElem?_map, List.getElem?_eq_getElem hi, e]; rfl
          rw [look_zip O.m1 k1 (List.getElem?_eq_getElem hi'), look_zip O.m1 k1 (List.getElem?_eq_getElem hi')]
        · have hno : ∀ q ∈ ms.map (·.1), q ≠ n := fun q hq' e => by
            obtain ⟨p, hp, rfl⟩ := List.mem_map.1 hq'
            exact hq ⟨p, hp, e⟩
          rw [look_zip_none hno, look_zip_none hno]
          by_cases hn : ∃ p ∈ ns, p.1 = n
          · obtain ⟨p, hp, rfl⟩ := hn
            have c1 : (ns.map (·.1)).contains p.1 = true := by rw [List.contains_iff_mem]; exact List.mem_map.2 ⟨p, hp, rfl⟩
            rcases hin p hp p.1 rfl with hd | hd
            · rw [if_pos hd, if_pos c1]
            · exact absurd hd hq
          · rw [if_neg, if_neg]
            · intro hc; rw [List.contains_iff_mem] at hc; obtain ⟨p, hp, e⟩ := List.mem_map.1 hc; exact hn ⟨p, hp, e⟩
            · intro hc; rw [List.contains_iff_mem] at hc; obtain ⟨p, hp, e⟩ := List.mem_map.1 hc; exact hn ⟨p, (List.mem_filter.1 hp).1, e⟩
      rw [hfin] at h6
      rw [List.map_map, List.map_map] at h3
      refine ⟨O, fun p hp => h1 _ (List.mem_map.2 ⟨p, hp, rfl⟩), v, cells', h3, hc.1, fun c hcc => hc.2 c hcc, fun p hp => ?_, run_pure_inv h6⟩
      obtain ⟨i, hi, e⟩ := List.mem_iff_getElem.1 hp
      have hi' : i < (ms.zip (cells'.map (Cell.ren (pinv ms)))).length := by rw [List.length_zip]; omega
      have hz := h5 ((ms.zip (cells'.map (Cell.ren (pinv ms))))[i]) (List.getElem_mem hi')
      rw [List.getElem_zip, e] at hz
      refine hz.imp id fun hf => ?_
      by_cases hns : p ∈ ns
      · have : ((ns.filter fun p => !ms.contains p).map (·.1)).contains p.1 = true ∨ ¬ ((ns.filter fun p => !ms.contains p).map (·.1)).contains p.1 = true := Classical.em _
        rcases this with hd | hd
        · rw [if_pos hd] at hf; cases hf
        · rw [if_neg hd] at hf; exact hf
      · rw [if_neg] at hf
        · exact hf
        · intro hc2
          rw [List.contains_iff_mem] at hc2
          obtain ⟨q, hq, e3⟩ := List.mem_map.1 hc2
          have hqn := (List.mem_filter.1 hq).1
          have e4 := (O.e p hp q hqn).1 e3.symm
          exact hns (by rw [show p = q from Prod.ext e3.symm e4]; exact hqn)
    · exact (run_fail_inv h4).elim
  · exact (run_fail_inv e).elim
end run

/-! ### the step -/

theorem proc_step {P : Program} {g : Nat} {F : List AV → List Cell → Option (AV × List Cell)} {ns ms : List (Nat × Nat)} (hP : SoundProc P g (ns.map (·.2)) (ms.map (·.2)) F) (O : ProcOk ns ms)
    {S : Sit} (H : HRel S) {args : List AV} {vs : List Value} (hv : VRelL S args vs) (hlive : ∀ p ∈ ns, cellLive (S.hp p.1)) {v : AV} {cells' : List Cell}
    (hF : F (AV.renL (pmap ns) args) (ns.map fun p => (S.hp p.1).ren (pmap ns)) = some (v, cells')) (hlen : cells'.length = ms.length) (hlive' : ∀ c ∈ cells', cellLive c) (hnew : ∀ p ∈ ms, p ∈ ns ∨ S.hp p.1 = .free) :
    Calls P g vs.toArray S.w fun e w' => ∃ (u : Value) (U : Sit), e = .returned u ∧ U.w = w' ∧ HRel U ∧ Ext (fun _ => True) S U ∧ v.closed = true ∧ VRel U v u ∧ U.hp = finHp ns ms cells' S.hp := by
  -- the caller's objects as the procedure sees them
  let S' : Sit := ⟨S.w, S.I, fun c => match pinv ns c with | some n => S.ρ n | none => .nilIface, fun n => look .free ((ns.map (·.2)).zip (ns.map fun p => (S.hp p.1).ren (pmap ns))) n,
    fun b => S.B b ∨ ∃ m, cellLive (S.hp m) ∧ (∀ p ∈ ns, p.1 ≠ m) ∧ hasBlk (S.ρ m) b⟩
  have f1 : ∀ p ∈ ns, S'.hp p.2 = (S.hp p.1).ren (pmap ns) := fun p hp => by
    show look .free ((ns.map (·.2)).zip (ns.map fun p => (S.hp p.1).ren (pmap ns))) p.2 = _
    rw [List.zip_map']
    exact look_mem_of (f := fun p : Nat × Nat => (p.2, (S.hp p.1).ren (pmap ns))) O.n2 hp
  have f2 : ∀ n, (∀ p ∈ ns, p.2 ≠ n) → S'.hp n = .free := fun n hn => look_zip_none fun q hq => by
    obtain ⟨p, hp, rfl⟩ := List.mem_map.1 hq
    exact hn p hp
  have f3 : ∀ p ∈ ns, S'.ρ p.2 = S.ρ p.1 := fun p hp => by
    show (match pinv ns p.2 with | some n => S.ρ n | none => .nilIface) = _
    rw [pinv_of O.n2 (n := p.1) (m := p.2) hp]
  have fl : ∀ p ∈ ns, cellLive (S'.hp p.2) := fun p hp => by
    rw [f1 p hp]; unfold cellLive; rw [ren_live]; exact hlive p hp
  have fcase : ∀ n, (∃ p ∈ ns, p.2 = n) ∨ S'.hp n = .free := fun n => by
    by_cases h : ∃ p ∈ ns, p.2 = n
    · exact .inl h
    · exact .inr (f2 n fun p hp e => h ⟨p, hp, e⟩)
  have R : Ren (pmap ns) S S' := ⟨rfl, fun _ h => h, fun n m hnm => ⟨f3 _ (pmap_mem hnm), f1 _ (pmap_mem hnm)⟩⟩
  have hne : ∀ p ∈ ns, ∀ b, hasBlk (S.ρ p.1) b → ¬ S'.B b := fun p hp b hb hB => by
    rcases hB with hB | ⟨m, h1, h2, h3⟩
    · exact H.geB (hlive p hp) hb hB
    · exact H.ds p.1 m b (h2 p hp) (hlive p hp) h1 hb h3
  have H' : HRel S' := by
    refine ⟨fun n => ?_, fun n m b hnm hn hm hb => ?_, H.il, fun b hb => ?_, fun n cs hcs => ?_⟩
    · rcases fcase n with ⟨p, hp, rfl⟩ | h
      · rw [f1 p hp]
        exact ObjAt.ren R (H.ob p.1) (f3 p hp) fun b hb => ⟨H.notI (hlive p hp) hb, hne p hp b hb⟩
      · rw [h]; trivial
    · rcases fcase n with ⟨p, hp, rfl⟩ | h
      · rcases fcase m with ⟨q, hq, rfl⟩ | h
        · rw [f3 p hp] at hb
          rw [f3 q hq]
          refine H.ds p.1 q.1 b (fun e => hnm ?_) (hlive p hp) (hlive q hq) hb
          have h1 := pmap_of O.n1 (n := p.1) (m := p.2) hp
          have h2 := pmap_of O.n1 (n := q.1) (m := q.2) hq
          rw [e, h2] at h1
          exact (Option.some.inj h1).symm
        · rw [h] at hm; cases hm
      · rw [h] at hn; cases hn
    · rcases hb with hb | ⟨m, h1, _, h3⟩
      · exact H.bl b hb
      · exact H.lt h1 h3
    · rcases fcase n with ⟨p, hp, rfl⟩ | h
      · rw [f1 p hp] at hcs
        cases hc : S.hp p.1 <;> rw [hc] at hcs <;> simp only [Cell.ren, Cell.box.injEq, reduceCtorEq] at hcs
        subst hcs
        refine AV.namesL_ren (fun n0 m hnm hf => ?_) _
        have := fl _ (pmap_mem hnm)
        rw [hf] at this; cases this
      · rw [h] at hcs; cases hcs
  refine Calls.mono (hP.2 _ _ v cells' hF (by simp) (by simp [hlen]) S' vs H' rfl (VRelL.ren R args hv) (AV.namesL_ren (fun n m hnm hf => by have := fl _ (pmap_mem hnm); rw [hf] at this; cases this) args)) fun e w' he => ?_
  obtain ⟨u, T, rfl, rfl, HT, ET, hcl, hvu, hThp⟩ := he
  -- back
  have hx : ∀ p ∈ ms, ∃ x ∈ cells', T.hp p.2 = x ∧ finHp ns ms cells' S.hp p.1 = x.ren (pinv ms) := fun p hp => by
    obtain ⟨i, hi, e⟩ := List.mem_iff_getElem.1 hp
    have hi' : i < cells'.length := by omega
    refine ⟨cells'[i], List.getElem_mem hi', ?_, ?_⟩
    · rw [hThp]
      exact look_zip O.m2 (by rw [List.getElem?_map, List.getElem?_eq_getElem hi, e]; rfl) (List.getElem?_eq_getElem hi')
    · exact look_zip O.m1 (i := i) (by rw [List.getElem?_map, List.getElem?_eq_getElem hi, e]; rfl) (by rw [List.getElem?_map, List.getElem?_eq_getElem hi']; rfl)
  let U : Sit := ⟨T.w, T.I, fun n => match pmap ms n with | some c => T.ρ c | none => S.ρ n, finHp ns ms cells' S.hp, S.B⟩
  have u1 : ∀ p ∈ ms, U.hp p.1 = (T.hp p.2).ren (pinv ms) ∧ U.ρ p.1 = T.ρ p.2 ∧ cellLive (T.hp p.2) := fun p hp => by
    obtain ⟨x, hx1, hx2, hx3⟩ := hx p hp
    refine ⟨by rw [hx2]; exact hx3, ?_, by rw [hx2]; exact hlive' x hx1⟩
    show (match pmap ms p.1 with | some c => T.ρ c | none => S.ρ p.1) = _
    rw [pmap_of O.m1 (n := p.1) (m := p.2) hp]
  have u2 : ∀ n, (∀ p ∈ ms, p.1 ≠ n) → U.hp n = (if (ns.map (·.1)).contains n = true then .dead else S.hp n) ∧ U.ρ n = S.ρ n := fun n hn => by
    refine ⟨look_zip_none fun q hq => ?_, ?_⟩
    · obtain ⟨p, hp, rfl⟩ := List.mem_map.1 hq
      exact hn p hp
    · show (match pmap ms n with | some c => T.ρ c | none => S.ρ n) = _
      have : pmap ms n = none := look_none fun q hq => by
        obtain ⟨p, hp, rfl⟩ := List.mem_map.1 hq
        exact hn p hp
      rw [this]
  have hnsIn : ∀ n, (ns.map (·.1)).contains n = true ↔ ∃ p ∈ ns, p.1 = n := fun n => by
    rw [List.contains_iff_mem, List.mem_map]
  -- the three sorts of names
  have ucase : ∀ n, (∃ p ∈ ms, p.1 = n) ∨ ((∀ p ∈ ms, p.1 ≠ n) ∧ (∃ p ∈ ns, p.1 = n) ∧ U.hp n = .dead) ∨ ((∀ p ∈ ns, p.1 ≠ n) ∧ U.hp n = S.hp n ∧ U.ρ n = S.ρ n) := fun n => by
    by_cases h : ∃ p ∈ ms, p.1 = n
    · exact .inl h
    · have hno : ∀ p ∈ ms, p.1 ≠ n := fun p hp e => h ⟨p, hp, e⟩
      obtain ⟨a1, a2⟩ := u2 n hno
      by_cases hn : ∃ p ∈ ns, p.1 = n
      · rw [if_pos ((hnsIn n).2 hn)] at a1
        exact .inr (.inl ⟨hno, hn, a1⟩)
      · rw [if_neg fun hc => hn ((hnsIn n).1 hc)] at a1
        exact .inr (.inr ⟨fun p hp e => hn ⟨p, hp, e⟩, a1, a2⟩)
  have E : Ext (fun _ => True) S U := by
    refine ⟨fun b hb => ET.i b hb, ET.s, rfl, fun b hb => ET.o b (.inl hb), fun n _ hn => ?_, fun n _ hn => ?_, fun b hI hB => ET.j b hI (.inl hB), ET.q⟩
    · rcases ucase n with ⟨p, hp, rfl⟩ | ⟨_, _, h⟩ | ⟨_, h1, h2⟩
      · obtain ⟨a1, a2, a3⟩ := u1 p hp
        rcases hnew p hp with hns | hf
        · have hnf : S'.hp p.2 ≠ .free := fun h => by have := fl p hns; rw [h] at this; cases this
          rcases ET.f p.2 trivial hnf with hd | ⟨g1, g2⟩
          · rw [hd] at a3; cases a3
          · right
            rw [f1 p hns] at g2
            refine ⟨by rw [a2, g1]; exact f3 p hns, ?_⟩
            rw [a1]
            exact sameShape_ren g2
        · exact absurd hf hn
      · exact .inl h
      · rw [h1, h2]
        by_cases hl : cellLive (S.hp n)
        · exact .inr ⟨rfl, sameShape_refl hl⟩
        · left
          cases hc : S.hp n <;> rw [hc] at hl hn <;> simp [cellLive, Cell.live] at hl hn ⊢
    · rcases ucase n with ⟨p, hp, rfl⟩ | ⟨_, ⟨p, hp, rfl⟩, h⟩ | ⟨_, h1, h2⟩
      · rcases hnew p hp with hns | hf
        · have := hlive p hns; rw [hn] at this; cases this
        · rw [hn] at hf; cases hf
      · exact h
      · rw [h1]; exact hn
  have hTB : ∀ b, S'.B b → T.B b := fun b hb => by rw [ET.b]; exact hb
  have RU : Ren (pinv ms) T U := ⟨rfl, fun _ h => h, fun c n hcn => ⟨(u1 _ (pinv_mem hcn)).2.1, (u1 _ (pinv_mem hcn)).1⟩⟩
  have HU : HRel U := by
    refine ⟨fun n => ?_, fun n m b hnm hn hm hb => ?_, HT.il, fun b hb => Nat.lt_of_lt_of_le (H.bl b hb) ET.s, fun n cs hcs => ?_⟩
    · rcases ucase n with ⟨p, hp, rfl⟩ | ⟨_, _, h⟩ | ⟨h0, h1, h2⟩
      · obtain ⟨a1, a2, a3⟩ := u1 p hp
        rw [a1]
        exact ObjAt.ren RU (HT.ob p.2) a2 fun b hb => ⟨HT.notI a3 hb, fun hB => HT.geB a3 hb (hTB b (.inl hB))⟩
      · rw [h]; trivial
      · rw [h1]
        by_cases hl : cellLive (S.hp n)
        · refine (H.ob n).later E (fun cs hcs => H.nb n cs hcs) h2 fun b hb => ?_
          have hB : S'.B b := .inr ⟨n, hl, h0, hb⟩
          exact ⟨ET.o b hB, fun hI => ET.j b hI hB⟩
        · have : S.hp n = .free ∨ S.hp n = .dead := by
            cases hc : S.hp n <;> rw [hc] at hl <;> simp [cellLive, Cell.live] at hl <;> simp
          rcases this with e | e <;> rw [e] <;> trivial
    · have out : ∀ n, cellLive (U.hp n) → (∃ p ∈ ms, p.1 = n) ∨ ((∀ p ∈ ns, p.1 ≠ n) ∧ cellLive (S.hp n) ∧ U.ρ n = S.ρ n) := fun n hn => by
        rcases ucase n with h | ⟨_, _, h⟩ | ⟨h0, h1, h2⟩
        · exact .inl h
        · rw [h] at hn; cases hn
        · exact .inr ⟨h0, by rw [← h1]; exact hn, h2⟩
      rcases out n hn with ⟨p, hp, rfl⟩ | ⟨a1, a2, a3⟩
      · obtain ⟨p1, p2, p3⟩ := u1 p hp
        rw [p2] at hb
        rcases out m hm with ⟨q, hq, rfl⟩ | ⟨a1, a2, a3⟩
        · obtain ⟨q1, q2, q3⟩ := u1 q hq
          rw [q2]
          refine HT.ds p.2 q.2 b (fun e => hnm ?_) p3 q3 hb
          have h1 := pinv_of O.m2 (n := p.1) (m := p.2) hp
          have h2 := pinv_of O.m2 (n := q.1) (m := q.2) hq
          rw [e, h2] at h1
          exact (Option.some.inj h1).symm
        · rw [a3]
          exact fun hbm => HT.geB p3 hb (hTB b (.inr ⟨m, a2, a1, hbm⟩))
      · rw [a3] at hb
        rcases out m hm with ⟨q, hq, rfl⟩ | ⟨c1, c2, c3⟩
        · obtain ⟨q1, q2, q3⟩ := u1 q hq
          rw [q2]
          exact fun hbm => HT.geB q3 hbm (hTB b (.inr ⟨n, a2, a1, hb⟩))
        · rw [c3]
          exact H.ds n m b hnm a2 c2 hb
    · rcases ucase n with ⟨p, hp, rfl⟩ | ⟨_, _, h⟩ | ⟨h0, h1, h2⟩
      · obtain ⟨a1, a2, a3⟩ := u1 p hp
        rw [a1] at hcs
        cases hc : T.hp p.2 <;> rw [hc] at hcs <;> simp only [Cell.ren, Cell.box.injEq, reduceCtorEq] at hcs
        subst hcs
        refine AV.namesL_ren (fun c0 n0 hcn hf => ?_) _
        obtain ⟨q1, q2, q3⟩ := u1 _ (pinv_mem hcn)
        simp only at q1 q3
        rw [q1] at hf
        have : cellLive ((T.hp c0).ren (pinv ms)) := by unfold cellLive; rw [ren_live]; exact q3
        rw [hf] at this; cases this
      · rw [h] at hcs; cases hcs
      · rw [h1] at hcs
        exact AV.namesL_imp (fun m hm => E.nonfree trivial hm) cs (H.nb n cs hcs)
  exact ⟨u, U, rfl, rfl, HU, E, hcl, VRel.closed (S := T) (T := U) (fun b hb => ⟨hb, rfl⟩) v hcl hvu, rfl⟩
end Go.AM
