/- Each operation, fifth part: append, conversions, numbers, calls. -/
import Derived.Test.YtdjbokdohackdaaA12
import Derived.Lib.ConvBytes
import Derived.Laws.BytesArg
namespace Go.AM
open Go

/-- what a slice value covers -/
def ElemsAt (S : Sit) (e : Kind) (xs : List e.T) (v : Value) : Prop :=
  ∃ a len cap, v = .slice a len cap ∧ len = xs.length ∧ (len = 0 ∨ ∃ b o, a = some ⟨b, o, none⟩ ∧ ∀ i, i < len → ∃ us, RelK S.w S.I e (xs.getD i e.dflt) us ∧ CellsAt S.w b (o + i * e.size) us)

theorem row_elems {S : Sit} (H : HRel S) {n : Nat} {e : Kind} {xs : List e.T} (hn : S.hp n = .row e xs) : ElemsAt S e xs (S.ρ n) := by
  have ho := H.ob n
  rw [hn] at ho
  rcases ho with ⟨g1, g2⟩ | ⟨b, cap, c, E', g1, g2, g3, g4, g5, g6, g7, g8⟩
  · exact ⟨none, 0, 0, g1, g2.symm, .inl rfl⟩
  · refine ⟨some ⟨b, 0, none⟩, xs.length, cap, g1, rfl, .inr ⟨b, 0, rfl, fun i hi => ?_⟩⟩
    obtain ⟨us, h1, h2⟩ := g8 i hi
    exact ⟨us, h1, fun j u hu => by rw [Nat.zero_add, cell_of_row S.w b _ c E' (0, 0) g2]; exact h2 j u hu⟩

theorem elems_inv {S : Sit} (H : HRel S) {call : Call} {R : Type} {K : AV → Hp → Option R} {r : R} {e : Kind} {v : AV} {val : Value} {k : List e.T → M} (hv : VRel S v val)
    (h : (M.elems e v k).run call K S.hp = some r) : ∃ xs, ElemsAt S e xs val ∧ (k xs).run call K S.hp = some r := by
  unfold M.elems at h
  split at h
  · exact ⟨[], ⟨none, 0, 0, hv.nilsl_inv, rfl, .inl rfl⟩, h⟩
  · split at h
    · rename_i hee
      subst hee
      obtain ⟨a, len, cap, hp, hl, hc, hs⟩ := hv.sl_inv
      refine ⟨_, ⟨a, len, cap, by simpa using hp, hl, ?_⟩, h⟩
      rcases hs with hs | ⟨b, o, e1, _, hs⟩
      · exact .inl hs
      · exact .inr ⟨b, o, e1, hs⟩
    · cases h
  · rename_i n
    replace h := run_rd_inv h
    split at h
    · rename_i e' xs hn
      split at h
      · rename_i hee
        subst hee
        unfold VRel at hv
        rw [hn] at hv
        obtain ⟨_, rfl⟩ := hv
        exact ⟨xs, row_elems H hn, h⟩
      · cases h
    · cases h
  · rename_i n j
    replace h := run_rd_inv h
    split at h
    · rename_i e' xs hn
      split at h
      · rename_i hee
        subst hee
        unfold VRel at hv
        rw [hn] at hv
        obtain ⟨_, a, cap, h1, h2, rfl⟩ := hv
        obtain ⟨a', len, cap', g1, g2, g3⟩ := row_elems H hn
        rw [g1] at h1
        simp only [Value.slice.injEq] at h1
        obtain ⟨rfl, rfl, rfl⟩ := h1
        refine ⟨xs.take j, ⟨a', j, cap', rfl, by rw [List.length_take]; omega, ?_⟩, h⟩
        rcases g3 with g3 | ⟨b, o, e1, g3⟩
        · left; omega
        · refine .inr ⟨b, o, e1, fun i hi => ?_⟩
          obtain ⟨us, q1, q2⟩ := g3 i (by omega)
          exact ⟨us, by rw [List.getD_eq_getElem?_getD, List.getElem?_take, if_pos hi, ← List.getD_eq_getElem?_getD]; exact q1, q2⟩
      · cases h
    · cases h
  · cases h

/-- the elements' cells, one list -/
theorem ElemsAt.cells {S : Sit} {P : Program} {e : Kind} {xs : List e.T} {v : Value} (h : ElemsAt S e xs v) :
    ∃ news : List Value, news.length = xs.length * e.size ∧ RelL (RelK S.w S.I e) xs news ∧ (∀ u ∈ news, u.oneCell' = true) ∧ (Builtin.lenOf v).run P S.w = .ok xs.length S.w ∧
      (Builtin.firstCells e.size xs.length v).run P S.w = .ok news.toArray S.w ∧ (Builtin.firstCells e.size xs.length v).run P S.w.drew = .ok news.toArray S.w.drew := by
  obtain ⟨a, len, cap, rfl, rfl, h⟩ := h
  rcases h with h | ⟨b, o, rfl, h⟩
  · have hx : xs = [] := List.eq_nil_of_length_eq_zero h
    subst hx
    refine ⟨[], by simp, rfl, by simp, rfl, ?_, ?_⟩ <;> cases a <;> simp [Builtin.firstCells, loadCells, loadCellsFrom]
  · have key : ∀ (ys : List e.T) (o' : Nat), (∀ i, i < ys.length → ∃ us, RelK S.w S.I e (ys.getD i e.dflt) us ∧ CellsAt S.w b (o' + i * e.size) us) →
        ∃ news : List Value, RelL (RelK S.w S.I e) ys news ∧ CellsAt S.w b o' news := by
      intro ys
      induction ys with
      | nil => intro o' _; exact ⟨[], rfl, fun j u hu => by simp at hu⟩
      | cons y ys ih =>
        intro o' hh
        obtain ⟨us, h1, h2⟩ := hh 0 (by simp)
        obtain ⟨news, h3, h4⟩ := ih (o' + e.size) (fun i hi => by
          obtain ⟨us, q1, q2⟩ := hh (i + 1) (by simpa using hi)
          exact ⟨us, by simpa using q1, by rwa [show o' + e.size + i * e.size = o' + (i + 1) * e.size from by rw [Nat.succ_mul]; omega]⟩)
        simp only [List.getD_cons_zero, Nat.zero_mul, Nat.add_zero] at h1 h2
        refine ⟨us ++ news, ⟨us, news, rfl, h1, h3⟩, fun j u hu => ?_⟩
        have hl := RelK.length e h1
        by_cases hj : j < us.length
        · rw [List.getElem?_append_left hj] at hu; exact h2 j u hu
        · rw [List.getElem?_append_right (by omega)] at hu
          have := h4 _ u hu
          rwa [show o' + e.size + (j - us.length) = o' + j from by omega] at this
    obtain ⟨news, h1, h2⟩ := key xs o h
    have hl : news.length = xs.length * e.size := h1.length (fun x vs hh => RelK.length e hh)
    refine ⟨news, hl, h1, h1.all (fun x vs hh => RelK.ones e hh), rfl, ?_, ?_⟩
    · exact run_firstCells_some (P := P) S.w e.size xs.length ⟨b, o, none⟩ _ _ news hl (fun j u hu => by rw [Addr.add_lit]; exact h2 j u hu)
    · exact run_firstCells_some (P := P) S.w.drew e.size xs.length ⟨b, o, none⟩ _ _ news hl (fun j u hu => by rw [Addr.add_lit]; exact h2 j u hu)

section append
variable {P : Program} (w : World)

theorem run_append_room2 (t ty e E : TypeId) (i : TypeInfo) (ht : P.underlying t = some (.slice e)) (hi : P.info? e = some i)
    (g sLen sCap : Nat) (cur : Array Value) (hg : w.heap[g]? = some (.cells cur E (0, 0)))
    (x : Value) (m : Nat) (news : List Value) (hx : (Builtin.lenOf x).run P w = .ok m w) (hf : (Builtin.firstCells i.size m x).run P w = .ok news.toArray w) (h1 : ∀ u ∈ news, u.oneCell' = true)
    (hroom : sLen + m ≤ sCap) (hfit : sLen * i.size + news.length ≤ cur.size) :
    (Builtin.append_ #[t, t] ty #[.slice (some ⟨g, 0, none⟩) sLen sCap, x]).run P w =
      .ok (.slice (some ⟨g, 0, none⟩) (sLen + m) sCap) (w.setRow g (cur.toList.take (sLen * i.size) ++ news ++ cur.toList.drop (sLen * i.size + news.length)).toArray) := by
  have hst := run_storeCells_at P g (sLen * i.size) E news 0 cur w hg (by simpa using hfit) h1
  simp only [Nat.add_zero] at hst
  simp [Builtin.append_, run_underlying ht, sizeOf, typeInfo, hi, hx, hroom, hf, Addr.add_lit, hst]

theorem run_append_grow2 (t ty e : TypeId) (i : TypeInfo) (z : Value) (ht : P.underlying t = some (.slice e)) (hi : P.info? e = some i) (hz : i.zero = some z)
    (base : Option Addr) (sLen sCap : Nat) (olds : List Value) (hfo : (Builtin.firstCells i.size sLen (.slice base sLen sCap)).run P w.drew = .ok olds.toArray w.drew)
    (x : Value) (n : Nat) (news : List Value) (hx : (Builtin.lenOf x).run P w = .ok n w) (hf : (Builtin.firstCells i.size n x).run P w.drew = .ok news.toArray w.drew)
    (hg : sCap < sLen + n) (h63 : ((sLen + n : Nat) : Int) ≤ 9223372036854775807) (hfit : Builtin.nextslicecap (sLen + n) sCap * i.bytes ≤ 281474976710656) :
    (Builtin.append_ #[t, t] ty #[.slice base sLen sCap, x]).run P w =
      .ok (.slice (some ⟨w.heap.size, 0, none⟩) (sLen + n) (grownCap w (sLen + n) sCap e))
        (w.drew.alloc (.cells (olds.toArray ++ news.toArray ++ Builtin.zeroCells z.cells (grownCap w (sLen + n) sCap e - (sLen + n))) e)) := by
  have hn : ¬ (sLen + n ≤ sCap) := by omega
  have h63' : ¬ (9223372036854775807 < ((sLen : Int) + (n : Int))) := by omega
  have h48' : ¬ (281474976710656 < Builtin.nextslicecap (sLen + n) sCap * i.bytes) := by omega
  simp [Builtin.append_, run_underlying ht, sizeOf, typeInfo, zeroValue, hi, hz, hx, hn, h63', h48', Question.forced, hf, hfo, newRow, grownCap]
  congr 2
  apply Array.ext'
  simp [List.append_assoc]

theorem run_append_none2 (t ty e : TypeId) (i : TypeInfo) (ht : P.underlying t = some (.slice e)) (hi : P.info? e = some i)
    (x : Value) (hx : (Builtin.lenOf x).run P w = .ok 0 w) (hf : (Builtin.firstCells i.size 0 x).run P w = .ok #[] w) :
    (Builtin.append_ #[t, t] ty #[.slice none 0 0, x]).run P w = .ok (.slice none 0 0) w := by
  simp [Builtin.append_, run_underlying ht, sizeOf, typeInfo, hi, hx, hf]
end append

section ops
variable {P : Program} {Γ : TEnv} {call : Call} {S : Sit} {fr : Nat → AV} {a : Act} {R : Type} {K : AV → Hp → Option R} {r : R}
  {next : Act → World → Prop} {Q : Exit → Act → World → Prop} {nm : Nat}

theorem RelL.append {α : Type} {R : α → List Value → Prop} : ∀ {xs ys : List α} {vs us : List Value}, RelL R xs vs → RelL R ys us → RelL R (xs ++ ys) (vs ++ us)
  | [], _, vs, _, h, h2 => by rw [show vs = [] from h]; exact h2
  | _ :: _, _, _, _, ⟨l, r, e, h1, h3⟩, h2 => by subst e; exact ⟨l, _, by rw [List.append_assoc], h1, RelL.append h3 h2⟩

/-- the appended row, wherever it lies -/
theorem append_fresh (H : HRel S) (hf : S.hp nm = .free) (el : Kind) (zs : List el.T) (cells : List Value) (hz : RelL (RelK S.w S.I el) zs cells) (v : Value) (w' : World) (hsz : S.w.heap.size ≤ w'.heap.size)
    (hw : ∀ b, b < S.w.heap.size → ¬ hasBlk v b → w'.heap[b]? = S.w.heap[b]?)
    (hv : ∀ b, hasBlk v b → ¬ S.I b ∧ ¬ S.B b ∧ ∀ m, cellLive (S.hp m) → ¬ hasBlk (S.ρ m) b)
    (hrow : (v = .slice none 0 0 ∧ zs.length = 0) ∨ ∃ (b cap : Nat) (c : Array Value) (E : TypeId), rowAtV v b zs.length cap ∧ w'.heap[b]? = some (.cells c E (0, 0)) ∧ zs.length ≤ cap ∧ cap ≤ maxLen ∧ c.size = cap * el.size ∧ ∀ (j : Nat) (u : Value), cells[j]? = some u → c[j]? = some u) (hq : SameOut S.w w' := by first | exact ⟨rfl, rfl⟩ | (simp only [SameOut, *]; first | done | exact ⟨rfl, rfl⟩ | exact ⟨trivial, trivial⟩)) :
    let T : Sit := { S with w := w', ρ := upd S.ρ nm v, hp := upd S.hp nm (.row el zs) }
    HRel T ∧ Ext Top S T ∧ VRel T (.ref nm) v ∧ (AV.ref nm).names (fun m => T.hp m ≠ .free) := by
  intro T
  obtain ⟨H', E'⟩ := H.fresh hf (.row el zs) v w' hsz hw hv (fun cs hcs => by cases hcs) (fun E' => by
    rcases hrow with ⟨h1, h2⟩ | ⟨b, cap, c, E, h1, h2, h3, h4, h5, h6⟩
    · exact .inl ⟨by simp only [upd_same]; exact h1, h2⟩
    · have hb := hv b (by rw [show v = _ from h1]; exact rfl)
      refine .inr ⟨b, cap, c, E, by simp only [upd_same]; exact h1, h2, hb.1, hb.2.1, h3, h4, h5, fun i hi => ?_⟩
      obtain ⟨us, q1, q2⟩ := hz.get (d := el.dflt) (fun x vs hh => RelK.length el hh) i hi
      exact ⟨us, RelK.ext E' q1, fun j u hu => h6 _ u (q2 j u hu)⟩) hq
  refine ⟨H', E', ?_, ?_⟩
  · unfold VRel
    refine ⟨?_, ?_⟩
    · rcases hrow with ⟨h1, _⟩ | ⟨b, cap, c, E, h1, _⟩
      · rw [h1]; rfl
      · rw [show v = _ from h1]; rfl
    · simp only [T, upd_same]
  · unfold AV.names; simp [T, upd_same]

theorem sound_append (hΓ : Γ.ok P = true) {o : Oper} {args : Array Operand} {argTypes : Array TypeId} (ho : o.op = .call { callee := .builtin .append, args := args, argTypes := argTypes }) (H : HRel S) (F : FRel S fr a)
    (h : (aop Γ nm (ev fr) (.call { callee := .builtin .append, args := args, argTypes := argTypes })).run call K S.hp = some r) (hP : Post S K r fun v w => next (a.put o.dst v) w) : o.wp P a S.w next Q := by
  simp only [aop] at h
  split at h
  · rename_i s x t u hargs htys
    split at h
    · rename_i el2 hkt hku
      split at h
      · rename_i htu
        subst htu
        obtain ⟨E, hu, hE⟩ := kOk_slice (TEnv.kind_ok hΓ hkt)
        obtain ⟨TE⟩ := kOk_ty hE
        have hexec : ∀ v w', (Builtin.append_ #[t, t] o.type #[a.eval s, a.eval x]).run P S.w = .ok v w' → (execOp a.eval o).run P S.w = .ok (.value v) w' := by
          intro v w' hr
          have e1 : args = #[s, x] := by apply Array.ext'; simpa using hargs
          have e2 : argTypes = #[t, t] := by apply Array.ext'; simpa using htys
          subst e1 e2
          simp only [execOp, ho, resolve, invoke, builtin, Sem.run_bind, Sem.run_pure, Result.andThen_ok, List.map_toArray, List.map_cons, List.map_nil, hr]
        split at h
        · rename_i n m hsn hxm
          split at h
          · cases h
          · rename_i hnm
            replace h := run_rd_inv h
            split at h
            · rename_i k v ess hn
              replace h := run_rd_inv h
              split at h
              · rename_i k' v' ess' hm
                split at h
                · rename_i hkk
                  obtain ⟨rfl, rfl⟩ := hkk
                  obtain ⟨hc, h1⟩ := run_brf_inv h
                  clear h
                  obtain ⟨hf, h⟩ := run_new_inv (run_wr_inv (run_wr_inv h1))
                  clear h1
                  simp only [decide_eq_true_eq] at hc
                  unfold lim at hc
                  have hs := ev_rel F s
                  have hx := ev_rel F x
                  rw [hsn] at hs
                  rw [hxm] at hx
                  unfold VRel at hs hx
                  rw [hn] at hs
                  rw [hm] at hx
                  obtain ⟨_, ms0, es0⟩ := hs
                  obtain ⟨_, ms9, ex0⟩ := hx
                  have hon := H.ob n
                  rw [hn] at hon
                  obtain ⟨b, cap, c, E1, ms, a1, a2, a3, a4, a5, a6, a7, a8, a9, a10, a11⟩ := hon
                  have hom := H.ob m
                  rw [hm] at hom
                  obtain ⟨b2, cap2, c2, E2, ms2, b1, b2', b3, b4, b5, b6, b7, b8, b9, b10, b11⟩ := hom
                  have es1 := (tuple_inj (a1.symm.trans es0)).1.symm
                  have ex1 := (tuple_inj (b1.symm.trans ex0)).1.symm
                  have hnl : cellLive (S.hp n) := by rw [hn]; rfl
                  have hml : cellLive (S.hp m) := by rw [hm]; rfl
                  have bn : ∀ q, (q = b ∨ ∃ u ∈ ms, blockOf u = some q) ↔ hasBlk (S.ρ n) q := fun q => by
                    rw [a1]
                    constructor
                    · rintro (rfl | ⟨u, hu, e⟩)
                      · exact ⟨_, List.mem_cons_self .., rfl⟩
                      · exact ⟨u, List.mem_cons_of_mem _ hu, e⟩
                    · rintro ⟨u, hu, e⟩
                      rcases List.mem_cons.1 hu with rfl | hu
                      · left; replace e : some b = some q := e; cases e; rfl
                      · exact .inr ⟨u, hu, e⟩
                  have bm : ∀ q, (∃ u ∈ ms2, blockOf u = some q) → hasBlk (S.ρ m) q := fun q ⟨u, hu, e⟩ => by
                    rw [b1]; exact ⟨u, List.mem_cons_of_mem _ hu, e⟩
                  obtain ⟨H1, E1'⟩ := H.bury hnl (fun _ => False) (fun b hb => hb.elim)
                  have hI1 : (fun b => S.I b ∨ False) = S.I := by funext b; simp
                  rw [hI1] at H1 E1'
                  have hml1 : cellLive (upd S.hp n .dead m) := by rw [upd_other (fun e => hnm e.symm)]; exact hml
                  obtain ⟨H2, E2'⟩ := H1.bury (n := m) hml1 (fun _ => False) (fun b hb => hb.elim)
                  rw [hI1] at H2 E2'
                  have key : ∀ (q cap' : Nat) (c' : Array Value) (E' : TypeId) (w' : World), S.w.heap.size ≤ w'.heap.size → (∀ z, z < S.w.heap.size → z ≠ q → w'.heap[z]? = S.w.heap[z]?) → w'.heap[q]? = some (.cells c' E' (0, 0)) →
                      (q = b ∨ q = S.w.heap.size) → ess.length + ess'.length ≤ cap' → cap' ≤ maxLen → c'.size = cap' → (∀ (i : Nat) (u : Value), (ms ++ ms2)[i]? = some u → c'[i]? = some u) → SameOut S.w w' →
                      (Builtin.append_ #[t, t] o.type #[a.eval s, a.eval x]).run P S.w = .ok (.slice (some ⟨q, 0, none⟩) (ess.length + ess'.length) cap') w' → o.wp P a S.w next Q := by
                    intro q cap' c' E' w' hsz hold hq hqb hcap hmax hcs hget hout hrun
                    have hfree : ∀ z, hasBlk (.tuple (.slice (some ⟨q, 0, none⟩) (ess ++ ess').length cap' :: (ms ++ ms2)).toArray) z → z = q ∨ hasBlk (S.ρ n) z ∨ hasBlk (S.ρ m) z := by
                      rintro z ⟨u, hu, e⟩
                      rcases List.mem_cons.1 hu with rfl | hu
                      · left; replace e : some q = some z := e; cases e; rfl
                      · rcases List.mem_append.1 hu with hu | hu
                        · exact .inr (.inl ((bn z).1 (.inr ⟨u, hu, e⟩)))
                        · exact .inr (.inr (bm z ⟨u, hu, e⟩))
                    have hqn : q = S.w.heap.size ∨ hasBlk (S.ρ n) q := hqb.elim (fun e => .inr ((bn q).1 (.inl e))) .inl
                    have hothers : ∀ z, (z = S.w.heap.size ∨ hasBlk (S.ρ n) z ∨ hasBlk (S.ρ m) z) → ¬ S.I z ∧ ¬ S.B z ∧ ∀ y, cellLive (upd (upd S.hp n .dead) m .dead y) → ¬ hasBlk (S.ρ y) z := by
                      rintro z (rfl | hz | hz)
                      · exact ⟨fun hI => Nat.lt_irrefl _ (H.il _ hI), H.newB, fun y hy hby => Nat.lt_irrefl _ (H2.lt hy hby)⟩
                      · refine ⟨H.notI hnl hz, H.geB hnl hz, fun y hy hby => ?_⟩
                        by_cases e1 : y = m
                        · subst e1; rw [upd_same] at hy; cases hy
                        · rw [upd_other e1] at hy
                          by_cases e2 : y = n
                          · subst e2; rw [upd_same] at hy; cases hy
                          · rw [upd_other e2] at hy; exact H.ds n y z (fun e => e2 e.symm) hnl hy hz hby
                      · refine ⟨H.notI hml hz, H.geB hml hz, fun y hy hby => ?_⟩
                        by_cases e1 : y = m
                        · subst e1; rw [upd_same] at hy; cases hy
                        · rw [upd_other e1] at hy
                          by_cases e2 : y = n
                          · subst e2; rw [upd_same] at hy; cases hy
                          · rw [upd_other e2] at hy; exact H.ds m y z (fun e => e1 e.symm) hml hy hz hby
                    have hneq : ∀ z, (∃ u ∈ ms, blockOf u = some z) ∨ hasBlk (S.ρ m) z → z < S.w.heap.size ∧ z ≠ q := by
                      intro z hz
                      have hlt : z < S.w.heap.size := hz.elim (fun hz => H.lt hnl ((bn z).1 (.inr hz))) (fun hz => H.lt hml hz)
                      refine ⟨hlt, fun e => ?_⟩
                      rcases hqb with e2 | e2
                      · rcases hz with ⟨u, hu, e3⟩ | hz
                        · obtain ⟨i, hi, e4⟩ := List.mem_iff_getElem.1 hu
                          exact (a10 i u (by rw [List.getElem?_eq_getElem hi, e4])).2 (by rw [e3, e, e2])
                        · exact H.ds n m z hnm hnl hml ((bn z).1 (.inl (e.trans e2))) hz
                      · omega
                    obtain ⟨H3, E3⟩ := H2.fresh (n := nm) hf (.mrow k' v' (ess ++ ess')) (.tuple (.slice (some ⟨q, 0, none⟩) (ess ++ ess').length cap' :: (ms ++ ms2)).toArray) w' hsz
                      (fun z hz hnz => hold z hz fun e => hnz ⟨_, List.mem_cons_self .., by rw [e]; rfl⟩)
                      (fun z hz => hothers z (by rcases hfree z hz with e | h | h
                                                 · rw [e]; exact hqn.elim .inl (fun h => .inr (.inl h))
                                                 · exact .inr (.inl h)
                                                 · exact .inr (.inr h)))
                      (fun cs hcs => by cases hcs)
                      (fun E3 => ⟨q, cap', c', E', ms ++ ms2, by simp only [upd_same], hq, (hothers q (hqn.elim .inl (fun h => .inr (.inl h)))).1, (hothers q (hqn.elim .inl (fun h => .inr (.inl h)))).2.1, by rw [List.length_append]; exact hcap, hmax, hcs, by rw [List.length_append, List.length_append, a8, b8],
                        fun i j u u' hij hi hj e => by
                          rw [List.getElem?_append] at hi hj
                          have hsome : ∀ (l : List Value) (i : Nat) (u : Value), l[i]? = some u → u ∈ l := fun l i u h => List.mem_of_getElem? h
                          have hblk2 : ∀ u, u ∈ ms2 → ∃ z, blockOf u = some z := fun u hu => by
                            obtain ⟨i, hi, e4⟩ := List.mem_iff_getElem.1 hu
                            obtain ⟨mv, p1, rb, en, cl, p2, _⟩ := b11 i _ (List.getElem?_eq_getElem (by omega))
                            rw [List.getElem?_eq_getElem hi, e4] at p1
                            cases p1
                            exact ⟨rb, by rw [p2]; rfl⟩
                          split at hi <;> split at hj
                          · exact a9 i j u u' hij hi hj e
                          · obtain ⟨z, hz⟩ := hblk2 u' (hsome _ _ _ hj)
                            exact H.ds n m z hnm hnl hml ((bn z).1 (.inr ⟨u, hsome _ _ _ hi, e.trans hz⟩)) (bm z ⟨u', hsome _ _ _ hj, hz⟩)
                          · obtain ⟨z, hz⟩ := hblk2 u (hsome _ _ _ hi)
                            exact H.ds n m z hnm hnl hml ((bn z).1 (.inr ⟨u', hsome _ _ _ hj, e.symm.trans hz⟩)) (bm z ⟨u, hsome _ _ _ hi, hz⟩)
                          · exact b9 _ _ u u' (by omega) hi hj e,
                        fun i u hi => ⟨hget i u hi, fun e => by
                          have hmem := List.mem_of_getElem? hi
                          rcases List.mem_append.1 hmem with hu | hu
                          · exact (hneq q (.inl ⟨u, hu, e⟩)).2 rfl
                          · exact (hneq q (.inr (bm q ⟨u, hu, e⟩))).2 rfl⟩,
                        fun i es hi => by
                          rw [List.getElem?_append] at hi
                          split at hi
                          · rename_i hlt
                            obtain ⟨mv, p1, rb, en, cl, p2, p3, p4, p5, p6⟩ := a11 i es hi
                            have hz := hneq rb (.inl ⟨mv, List.mem_of_getElem? p1, by rw [p2]; rfl⟩)
                            exact ⟨mv, by rw [List.getElem?_append_left (by omega)]; exact p1, rb, en, cl, p2, (hold rb hz.1 hz.2).trans p3, p4, p5, ((p6.1.ext E1').ext E2').ext E3, p6.2⟩
                          · rename_i hge
                            obtain ⟨mv, p1, rb, en, cl, p2, p3, p4, p5, p6⟩ := b11 _ es hi
                            have hz := hneq rb (.inr (bm rb ⟨mv, List.mem_of_getElem? p1, by rw [p2]; rfl⟩))
                            exact ⟨mv, by rw [List.getElem?_append_right (by omega), a8]; exact p1, rb, en, cl, p2, (hold rb hz.1 hz.2).trans p3, p4, p5, ((p6.1.ext E1').ext E2').ext E3, p6.2⟩⟩) hout
                    rw [List.length_append] at H3 E3
                    refine wp_value (hexec _ _ hrun) (hP (.ref nm) _ _ h H3 ((E1'.trans E2').trans E3) (mrow_mk (ms := ms ++ ms2) rfl (by simp only [upd_same]; rfl) (by simp only [upd_same])) ?_)
                    unfold AV.names; simp [upd_same]
                  have n1 : ms2.length = ess'.length * TE.i.size := by rw [TE.size, b8]; exact (Nat.mul_one _).symm
                  have n3 : ∀ u ∈ ms2, u.oneCell' = true := fun u hu => by
                    obtain ⟨i, hi, e4⟩ := List.mem_iff_getElem.1 hu
                    obtain ⟨mv, p1, rb, en, cl, p2, _⟩ := b11 i _ (List.getElem?_eq_getElem (by omega))
                    rw [List.getElem?_eq_getElem hi, e4] at p1
                    cases p1
                    rw [p2]; rfl
                  have hc2 : ∀ (w : World), w.heap[b2]? = S.w.heap[b2]? → ∀ (j : Nat) (u : Value), ms2[j]? = some u → w.cell? ((⟨b2, 0, none⟩ : Addr).add j) = some u := fun w hw j u hu => by
                    rw [Addr.add_lit, Nat.zero_add, cell_of_row w b2 j c2 E2 (0, 0) (hw.trans b2')]
                    exact (b10 j u hu).1
                  have hc1 : ∀ (w : World), w.heap[b]? = S.w.heap[b]? → ∀ (j : Nat) (u : Value), ms[j]? = some u → w.cell? ((⟨b, 0, none⟩ : Addr).add j) = some u := fun w hw j u hu => by
                    rw [Addr.add_lit, Nat.zero_add, cell_of_row w b j c E1 (0, 0) (hw.trans a2)]
                    exact (a10 j u hu).1
                  have n5 := run_firstCells_some (P := P) S.w TE.i.size ess'.length ⟨b2, 0, none⟩ ess'.length cap2 ms2 n1 (hc2 S.w rfl)
                  have n6 := run_firstCells_some (P := P) S.w.drew TE.i.size ess'.length ⟨b2, 0, none⟩ ess'.length cap2 ms2 n1 (hc2 S.w.drew rfl)
                  have o6 := run_firstCells_some (P := P) S.w.drew TE.i.size ess.length ⟨b, 0, none⟩ ess.length cap ms (by rw [TE.size, a8]; exact (Nat.mul_one _).symm) (hc1 S.w.drew rfl)
                  have n4 : (Builtin.lenOf (a.eval x)).run P S.w = .ok ess'.length S.w := by rw [ex1]; rfl
                  rw [← ex1] at n5 n6
                  have hsz1 : TE.i.size = 1 := TE.size
                  by_cases hroom : ess.length + ess'.length ≤ cap
                  · have hfit : ess.length * TE.i.size + ms2.length ≤ c.size := by rw [hsz1, b8, a7]; omega
                    have hr := run_append_room2 (P := P) S.w t o.type E E1 TE.i hu TE.hi b ess.length cap c a2 (a.eval x) ess'.length ms2 n4 n5 n3 hroom hfit
                    rw [hsz1, Nat.mul_one] at hr
                    refine key b cap (c.toList.take ess.length ++ ms2 ++ c.toList.drop (ess.length + ms2.length)).toArray E1 _ (by rw [setRow_size]; exact Nat.le_refl _) (fun z _ hz => setRow_other _ _ _ _ hz) (setRow_heap S.w b c _ E1 (0, 0) a2) (.inl rfl) hroom a6 (by simp; omega) (fun i u hi => ?_) ⟨rfl, rfl⟩ (by rw [es1]; exact hr)
                    rw [List.getElem?_toArray, seg_get (by simp; omega)]
                    rw [List.getElem?_append] at hi
                    split at hi
                    · rename_i hlt
                      rw [if_neg (by omega)]
                      have := (a10 i u hi).1
                      simpa using this
                    · rename_i hge
                      have := (List.getElem?_eq_some_iff.1 hi).1
                      rw [if_pos (by omega), ← a8]
                      exact hi
                  · have hb := TE.bytes
                    have hcap : Builtin.nextslicecap (ess.length + ess'.length) cap * TE.i.bytes ≤ 281474976710656 := growslice_fits (by omega) (by
                      have : (ess.length + ess'.length) * TE.i.bytes ≤ (ess.length + ess'.length) * 128 := Nat.mul_le_mul_left _ hb
                      omega)
                    have hr := run_append_grow2 (P := P) S.w t o.type E TE.i TE.z hu TE.hi TE.hz (some ⟨b, 0, none⟩) ess.length cap ms o6 (a.eval x) ess'.length ms2 n4 n6 (by omega) (by omega) hcap
                    have hge := grownCap_ge S.w (ess.length + ess'.length) cap E
                    have hzs : TE.z.cells.size = 1 := by
                      have := RelK.length (.dyn 1) (zero_rel (w := S.w) (I := S.I) (.dyn 1) TE.zero)
                      simpa [Kind.size] using this
                    refine key S.w.heap.size (grownCap S.w (ess.length + ess'.length) cap E) _ E _ (by simp) (fun z hz _ => heap_alloc_old S.w.drew _ z hz) (heap_alloc_new S.w.drew _) (.inr rfl) hge (grownCap_le_maxLen S.w _ cap E (by rw [maxLen_val]; omega)) ?_ (fun i u hi => ?_) ⟨rfl, rfl⟩ (by rw [es1]; exact hr)
                    · simp only [Array.size_append, List.size_toArray, size_zeroCells, hzs, a8, b8, Nat.mul_one]
                      omega
                    · have hlt := (List.getElem?_eq_some_iff.1 hi).1
                      rw [Array.getElem?_append_left (by simpa using hlt)]
                      simpa using hi
                · cases h
              · cases h
            · cases h
        · cases h
      · cases h
    · rename_i el el2 _ hkt hku
      split at h
      · rename_i htu
        subst htu
        obtain ⟨E, hu, hE⟩ := kOk_slice (TEnv.kind_ok hΓ hkt)
        obtain ⟨TE⟩ := kOk_ty hE
        have hs := ev_rel F s
        obtain ⟨ys, hys, h2⟩ := elems_inv H (ev_rel F x) h
        clear h
        obtain ⟨news, n1, n2, n3, n4, n5, n6⟩ := hys.cells (P := P)
        have hb := TE.bytes
        have hexec : ∀ v w', (Builtin.append_ #[t, t] o.type #[a.eval s, a.eval x]).run P S.w = .ok v w' → (execOp a.eval o).run P S.w = .ok (.value v) w' := by
          intro v w' hr
          have e1 : args = #[s, x] := by apply Array.ext'; simpa using hargs
          have e2 : argTypes = #[t, t] := by apply Array.ext'; simpa using htys
          subst e1 e2
          simp only [execOp, ho, resolve, invoke, builtin, Sem.run_bind, Sem.run_pure, Result.andThen_ok, List.map_toArray, List.map_cons, List.map_nil, hr]
        -- an empty base
        have nilCase : ∀ (S1 : Sit), S1.w = S.w → S1.I = S.I → HRel S1 → Ext Top S S1 → S1.hp nm = .free → a.eval s = .slice none 0 0 → ys.length ≤ lim → K (.ref nm) (upd S1.hp nm (.row el ys)) = some r → o.wp P a S.w next Q := by
          intro S1 e1 e2 H1 E1 hf hv hlim hk
          unfold lim at hlim
          by_cases hm : ys.length = 0
          · rw [hm] at n4 n5
            have hnews : news = [] := List.eq_nil_of_length_eq_zero (by rw [n1, hm]; simp)
            subst hnews
            have hr := run_append_none2 (P := P) S.w t o.type E TE.i hu TE.hi (a.eval x) n4 (by rw [TE.size]; exact n5)
            obtain ⟨H', E', hv', hn'⟩ := append_fresh (nm := nm) H1 hf el ys [] (by rw [e1, e2]; exact n2) (.slice none 0 0) S.w (by rw [e1]; exact Nat.le_refl _) (fun b _ _ => by rw [e1]) (fun b hb => by (replace hb : none = some b := hb; cases hb)) (.inl ⟨rfl, hm⟩)
            exact wp_value (hexec _ _ (by rw [hv]; exact hr)) (hP _ _ _ hk H' (E1.trans E') hv' hn')
          · have hcap : Builtin.nextslicecap (0 + ys.length) 0 * TE.i.bytes ≤ 281474976710656 := growslice_fits (by omega) (by
              have : (0 + ys.length) * TE.i.bytes ≤ (0 + ys.length) * 128 := Nat.mul_le_mul_left _ hb
              omega)
            have hfo : (Builtin.firstCells TE.i.size 0 (.slice none 0 0)).run P S.w.drew = .ok ([] : List Value).toArray S.w.drew := rfl
            have hr := run_append_grow2 (P := P) S.w t o.type E TE.i TE.z hu TE.hi TE.hz none 0 0 [] hfo (a.eval x) ys.length news n4 (by rw [TE.size]; exact n6) (by omega) (by omega) hcap
            simp only [Nat.zero_add] at hr
            have hge := grownCap_ge S.w ys.length 0 E
            obtain ⟨H', E', hv', hn'⟩ := append_fresh (nm := nm) H1 hf el ys news (by rw [e1, e2]; exact n2) (.slice (some ⟨S.w.heap.size, 0, none⟩) ys.length (grownCap S.w ys.length 0 E))
              (S.w.drew.alloc (.cells (([] : List Value).toArray ++ news.toArray ++ Builtin.zeroCells TE.z.cells (grownCap S.w ys.length 0 E - ys.length)) E)) (by rw [e1]; simp)
              (fun b hb _ => by rw [e1] at hb ⊢; exact heap_alloc_old S.w.drew _ b hb)
              (fun b hb => by
                replace hb : some _ = some b := hb
                simp only [Option.some.injEq] at hb
                subst hb
                refine ⟨fun hI => ?_, by have := H1.newB; rw [e1] at this; exact this, fun m hm hbm => ?_⟩
                · have := H1.il _ hI; rw [e1] at this; exact Nat.lt_irrefl _ this
                · have := H1.lt hm hbm; rw [e1] at this; exact Nat.lt_irrefl _ this)
              (.inr ⟨S.w.heap.size, _, _, E, rfl, heap_alloc_new S.w.drew _, hge, grownCap_le_maxLen S.w ys.length 0 E (by rw [maxLen_val]; omega), by
                have hzs : TE.z.cells.size = el.size := by
                  have := RelK.length el (zero_rel (w := S.w) (I := S.I) el TE.zero)
                  simpa using this
                simp only [Array.size_append, List.size_toArray, size_zeroCells, hzs, n1, List.length_nil, Nat.zero_add, ← Nat.add_mul]
                congr 1
                omega, fun j u hj => by
                  have hlt := (List.getElem?_eq_some_iff.1 hj).1
                  rw [Array.getElem?_append_left (by simpa using hlt), Array.getElem?_append_right (by simp)]
                  simpa using hj⟩)
            exact wp_value (hexec _ _ (by rw [hv]; exact hr)) (hP _ _ _ hk H' (E1.trans E') hv' hn')
        split at h2
        · rename_i hsn
          rw [hsn] at hs
          obtain ⟨hc, h3⟩ := run_brf_inv h2
          obtain ⟨hf, h4⟩ := run_new_inv h3
          simp only [decide_eq_true_eq] at hc
          exact nilCase S rfl rfl H (Ext.refl S) hf hs.nilsl_inv hc h4
        · rename_i n hsn
          rw [hsn] at hs
          replace h2 := run_rd_inv h2
          split at h2
          · rename_i el' xs hxs
            split at h2
            · rename_i hee
              obtain ⟨hc, h3⟩ := run_brf_inv h2
              clear h2
              subst hee
              obtain ⟨hf, h5⟩ := run_new_inv (run_wr_inv h3)
              clear h3
              simp only [decide_eq_true_eq] at hc
              unfold lim at hc
              unfold VRel at hs
              rw [hxs] at hs
              obtain ⟨_, hv⟩ := hs
              have hlive : cellLive (S.hp n) := by rw [hxs]; rfl
              obtain ⟨H1, E1⟩ := H.bury hlive (fun _ => False) (fun b hb => hb.elim)
              have hI1 : (fun b => S.I b ∨ False) = S.I := by funext b; simp
              rw [hI1] at H1 E1
              have ho' := H.ob n
              rw [hxs] at ho'
              rcases ho' with ⟨g1, g2⟩ | ⟨b, cap, c, E', g1, g2, g3, g4, g5, g6, g7, g8⟩
              · have hx0 : xs = [] := List.eq_nil_of_length_eq_zero g2
                subst hx0
                exact nilCase { S with hp := upd S.hp n .dead } rfl rfl H1 E1 hf (hv.trans g1) (by unfold lim; simpa using hc) (by simpa using h5)
              · have hv : a.eval s = .slice (some ⟨b, 0, none⟩) xs.length cap := hv.trans g1
                obtain ⟨olds, o1, o2, o3, o4, o5, o6⟩ := (row_elems H hxs).cells (P := P)
                have hold : ∀ (j : Nat) (u : Value), olds[j]? = some u → c[j]? = some u := by
                  have hel := row_elems H hxs
                  have hlf := o5
                  rw [g1] at hlf
                  have hcl : ∀ j, j < olds.length → S.w.cell? ⟨b, 0 + j, none⟩ = c[j]? := fun j _ => by rw [Nat.zero_add]; exact cell_of_row S.w b j c E' (0, 0) g2
                  have hsz : olds.length ≤ c.size := by rw [o1, g7]; exact Nat.mul_le_mul_right _ g5
                  have hrun := run_loadCells_list (P := P) S.w ⟨b, 0, none⟩ (c.toList.take olds.length) (fun j u hu => by
                    rw [Addr.add_lit, Nat.zero_add, cell_of_row S.w b j c E' (0, 0) g2]
                    rw [List.getElem?_take] at hu
                    split at hu
                    · simpa using hu
                    · cases hu)
                  have htl : (c.toList.take olds.length).length = olds.length := by simp; omega
                  rw [htl, o1] at hrun
                  have : (Builtin.firstCells el'.size xs.length (Value.slice (some ⟨b, 0, none⟩) xs.length cap)).run P S.w = .ok (c.toList.take (xs.length * el'.size)).toArray S.w := hrun
                  rw [this] at hlf
                  simp only [Result.ok.injEq, and_true] at hlf
                  have he : c.toList.take (xs.length * el'.size) = olds := by
                    have := congrArg Array.toList hlf
                    simpa using this
                  intro j u hu
                  rw [← he, List.getElem?_take] at hu
                  split at hu
                  · simpa using hu
                  · cases hu
                have hblk : ∀ v' ys', v' = Value.slice (some ⟨b, 0, none⟩) ys' cap → ∀ b', hasBlk v' b' → ¬ S.I b' ∧ ¬ S.B b' ∧ ∀ m, cellLive (upd S.hp n Cell.dead m) → ¬ hasBlk (S.ρ m) b' := by
                  intro v' ys' e b' hb'
                  subst e
                  replace hb' : some b = some b' := hb'
                  simp only [Option.some.injEq] at hb'
                  subst hb'
                  refine ⟨g3, g4, fun m hm hbm => ?_⟩
                  by_cases hmn : m = n
                  · subst hmn; rw [upd_same] at hm; cases hm
                  · rw [upd_other hmn] at hm
                    exact H.ds n m b (fun e => hmn e.symm) hlive hm (by rw [show S.ρ n = _ from g1]; exact rfl) hbm
                by_cases hroom : xs.length + ys.length ≤ cap
                · have hfit : xs.length * el'.size + news.length ≤ c.size := by rw [n1, g7, ← Nat.add_mul]; exact Nat.mul_le_mul_right _ hroom
                  have hr := run_append_room2 (P := P) S.w t o.type E E' TE.i hu TE.hi b xs.length cap c g2 (a.eval x) ys.length news n4 (by rw [TE.size]; exact n5) n3 hroom (by rw [TE.size]; exact hfit)
                  rw [TE.size] at hr
                  obtain ⟨H', E2, hv', hn'⟩ := append_fresh (nm := nm) H1 hf el' (xs ++ ys) (olds ++ news) (o2.append n2) (.slice (some ⟨b, 0, none⟩) (xs.length + ys.length) cap)
                    (S.w.setRow b (c.toList.take (xs.length * el'.size) ++ news ++ c.toList.drop (xs.length * el'.size + news.length)).toArray) (by rw [setRow_size]; exact Nat.le_refl _)
                    (fun b' _ hne => setRow_other _ _ _ _ (fun e => hne (by rw [e]; exact rfl)))
                    (hblk _ _ rfl)
                    (.inr ⟨b, cap, _, E', by unfold rowAtV; rw [List.length_append], setRow_heap S.w b c _ E' (0, 0) g2, by rw [List.length_append]; exact hroom, g6, by simp; omega, fun j u hj => by
                      rw [List.getElem?_toArray, seg_get (by simpa using hfit)]
                      by_cases hjl : j < olds.length
                      · rw [if_neg (by rw [o1] at hjl; omega)]
                        rw [List.getElem?_append_left hjl] at hj
                        simpa using hold j u hj
                      · rw [List.getElem?_append_right (by omega)] at hj
                        have := (List.getElem?_eq_some_iff.1 hj).1
                        rw [if_pos (by rw [o1] at hjl this; omega), ← o1]
                        exact hj⟩)
                  exact wp_value (hexec _ _ (by rw [hv]; exact hr)) (hP _ _ _ h5 H' (E1.trans E2) hv' hn')
                · have hcap : Builtin.nextslicecap (xs.length + ys.length) cap * TE.i.bytes ≤ 281474976710656 := growslice_fits (by omega) (by
                    have : (xs.length + ys.length) * TE.i.bytes ≤ (xs.length + ys.length) * 128 := Nat.mul_le_mul_left _ hb
                    omega)
                  rw [show S.ρ n = _ from g1] at o6
                  have hr := run_append_grow2 (P := P) S.w t o.type E TE.i TE.z hu TE.hi TE.hz (some ⟨b, 0, none⟩) xs.length cap olds (by rw [TE.size]; exact o6) (a.eval x) ys.length news n4 (by rw [TE.size]; exact n6) (by omega) (by omega) hcap
                  have hge := grownCap_ge S.w (xs.length + ys.length) cap E
                  obtain ⟨H', E2, hv', hn'⟩ := append_fresh (nm := nm) H1 hf el' (xs ++ ys) (olds ++ news) (o2.append n2) (.slice (some ⟨S.w.heap.size, 0, none⟩) (xs.length + ys.length) (grownCap S.w (xs.length + ys.length) cap E))
                    (S.w.drew.alloc (.cells (olds.toArray ++ news.toArray ++ Builtin.zeroCells TE.z.cells (grownCap S.w (xs.length + ys.length) cap E - (xs.length + ys.length))) E)) (by simp)
                    (fun b hb _ => heap_alloc_old S.w.drew _ b hb)
                    (fun b hb => by
                      replace hb : some _ = some b := hb
                      simp only [Option.some.injEq] at hb
                      subst hb
                      exact ⟨fun hI => Nat.lt_irrefl _ (H1.il _ hI), H1.newB, fun m hm hbm => Nat.lt_irrefl _ (H1.lt hm hbm)⟩)
                    (.inr ⟨S.w.heap.size, _, _, E, by unfold rowAtV; rw [List.length_append], heap_alloc_new S.w.drew _, by rw [List.length_append]; exact hge, grownCap_le_maxLen S.w _ cap E (by rw [maxLen_val]; omega), by
                      have hzs : TE.z.cells.size = el'.size := by
                        have := RelK.length el' (zero_rel (w := S.w) (I := S.I) el' TE.zero)
                        simpa using this
                      simp only [Array.size_append, List.size_toArray, size_zeroCells, hzs, n1, o1, ← Nat.add_mul]
                      congr 1
                      omega, fun j u hj => by
                        have hlt := (List.getElem?_eq_some_iff.1 hj).1
                        rw [Array.getElem?_append_left (by simpa using hlt)]
                        simpa using hj⟩)
                  exact wp_value (hexec _ _ (by rw [hv]; exact hr)) (hP _ _ _ h5 H' (E1.trans E2) hv' hn')
            · cases h2
          · cases h2
        · cases h2
      · cases h
    · cases h
  · cases h
end ops
end Go.AM
