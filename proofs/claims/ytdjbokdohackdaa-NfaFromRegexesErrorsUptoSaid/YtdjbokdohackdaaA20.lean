/- A region that draws its order, sound. -/
import Derived.Test.YtdjbokdohackdaaA19
namespace Go.AM
open Go

/-! ### what 'before' says -/

def edgesIn (ops : Array Oper) (L : Nat → Prop) (i : Nat) : Prop := ∀ o, ops[i]? = some o → ∀ e ∈ o.after, Region.binds .any e = true → L e.on

theorem or_testBit {a b j : Nat} (h : (a ||| b).testBit j = true) : a.testBit j = true ∨ b.testBit j = true := by
  simpa [Nat.testBit_or] using h

theorem fold_before {L : Nat → Prop} {acc : Array Nat} : ∀ (l : List Edge) (s : Nat), (∀ e ∈ l, Region.binds .any e = true → L e.on ∧ ∀ j, (acc.getD e.on 0).testBit j = true → L j) →
    (∀ j, s.testBit j = true → L j) → ∀ j, (l.foldl (fun s e => if Region.binds .any e = true then s ||| 2 ^ e.on ||| acc.getD e.on 0 else s) s).testBit j = true → L j
  | [], _, _, hs, j, h => hs j h
  | e :: l, s, he, hs, j, h => by
    rw [List.foldl_cons] at h
    refine fold_before l _ (fun e' h' => he e' (List.mem_cons_of_mem _ h')) ?_ j h
    intro k hk
    split at hk
    · rename_i hb
      obtain ⟨h1, h2⟩ := he e (by simp) hb
      rcases or_testBit hk with hk | hk
      · rcases or_testBit hk with hk | hk
        · exact hs k hk
        · rw [Nat.testBit_two_pow] at hk
          have : e.on = k := by simpa using hk
          exact this ▸ h1
      · exact h2 k hk
    · exact hs k hk

theorem before_acc {ops : Array Oper} {L : Nat → Prop} (hL : ∀ i, L i → edgesIn ops L i) : ∀ (l : List Oper) (acc : Array Nat), (∀ i, l[i]? = ops[acc.size + i]?) →
    (∀ i, i < acc.size → edgesIn ops L i → ∀ j, (acc.getD i 0).testBit j = true → L j) →
    ∀ i, edgesIn ops L i → ∀ j, ((l.foldl (fun acc o => acc.push (o.after.foldl (fun s e => if Region.binds .any e = true then s ||| 2 ^ e.on ||| acc.getD e.on 0 else s) 0)) acc).getD i 0).testBit j = true → L j
  | [], acc, _, ha, i, hi, j, hj => by
    simp only [List.foldl_nil] at hj
    rcases Nat.lt_or_ge i acc.size with h | h
    · exact ha i h hi j hj
    · simp [Array.getD, Nat.not_lt.2 h] at hj
  | o :: l, acc, hat, ha, i, hi, j, hj => by
    rw [List.foldl_cons] at hj
    refine before_acc hL l _ (fun k => ?_) ?_ i hi j hj
    · have := hat (k + 1)
      simp only [List.getElem?_cons_succ] at this
      rw [this, Array.size_push]
      congr 1
      omega
    · intro k hk hek m hm
      rw [Array.size_push] at hk
      by_cases hks : k < acc.size
      · have e : (acc.push (o.after.foldl (fun s e => if Region.binds .any e = true then s ||| 2 ^ e.on ||| acc.getD e.on 0 else s) 0)).getD k 0 = acc.getD k 0 := by
          rw [Array.getD_eq_getD_getElem?, Array.getElem?_push_lt hks, Array.getD_eq_getD_getElem?, Array.getElem?_eq_getElem hks]
        rw [e] at hm
        exact ha k hks hek m hm
      · have hk' : k = acc.size := by omega
        subst hk'
        have e : (acc.push (o.after.foldl (fun s e => if Region.binds .any e = true then s ||| 2 ^ e.on ||| acc.getD e.on 0 else s) 0)).getD acc.size 0 = o.after.foldl (fun s e => if Region.binds .any e = true then s ||| 2 ^ e.on ||| acc.getD e.on 0 else s) 0 := by
          rw [Array.getD_eq_getD_getElem?, Array.getElem?_push_size]
          rfl
        rw [e, ← Array.foldl_toList] at hm
        have ho : ops[acc.size]? = some o := by simpa using (hat 0).symm
        refine fold_before o.after.toList 0 (fun e he hb => ?_) (fun k hk => by simp at hk) m hm
        have h1 : L e.on := hek o ho e (Array.mem_toList_iff.1 he) hb
        refine ⟨h1, fun k hk => ?_⟩
        rcases Nat.lt_or_ge e.on acc.size with h | h
        · exact ha e.on h (hL e.on h1) k hk
        · simp [Array.getD, Nat.not_lt.2 h] at hk

theorem before_spec {ops : Array Oper} {L : Nat → Prop} (hL : ∀ i, L i → edgesIn ops L i) {i : Nat} (hi : edgesIn ops L i) {j : Nat} (hj : ((Region.before ops).getD i 0).testBit j = true) : L j := by
  unfold Region.before at hj
  rw [← Array.foldl_toList] at hj
  exact before_acc hL ops.toList #[] (fun i => by simp) (fun i h => by simp at h) i hi j hj

section
variable {P : Program} {O : Orc} {Γ : TEnv} {R : Type} {enter : Enter R}

theorem step_sound (B : Base P O Γ enter) {F : Fn} {ops : Array Oper} {o : Oper} {S : Sit} {st u : St} {f : Fp} {a : Act} {next : Act → World → Prop} {Q : Exit → Act → World → Prop} {i : Nat} (ho : ops[i]? = some o)
    (G : Good S st F.sz a) (h : stepF O Γ F ops o st = some (u, f)) (hK : ∀ T a', Good T u F.sz a' → Ext (Below' F.base) S T → next a' T.w) : wpOp P ops Q i next a S.w := by
  obtain ⟨v, h', e, p⟩ := stepF_inv h
  unfold effF at e
  simp only [Option.bind_eq_some_iff] at e
  obtain ⟨b, hb, e⟩ := e
  have hw : Region.wanted o (yielded ops a.tmps) = b := by
    unfold wantA at hb
    cases hg : o.guard with
    | none => simp only [hg, Option.some.injEq] at hb; simp [Region.wanted, hg, hb]
    | some q =>
      obtain ⟨j, want⟩ := q
      simp only [hg] at hb
      split at hb
      · cases hb
      · rename_i d hs
        split at hb
        · rename_i c hc
          simp only [Option.some.injEq] at hb
          rw [guard_wanted G.f hg hs (guard_size G.f hc) hc, hb]
        · rename_i hc
          simp only [Option.some.injEq] at hb
          rw [guard_none G.f hg hs hc, hb]
        · cases hb
  unfold wpOp
  simp only [ho]
  rw [hw]
  cases b
  · rw [if_neg (by simp)] at e ⊢
    simp only [Option.some.injEq, Prod.mk.injEq] at e
    obtain ⟨rfl, rfl, rfl⟩ := e
    exact hK S _ (put_sound G tup0_mk (AV.names_closed _ rfl) p) (Ext.refl S)
  · rw [if_pos rfl] at e ⊢
    split at e
    · cases e
    · have hrun := M.run_out (K := fun v h => putDst F.sz o v { st with hp := h }) _ _ _ e
      simp only at hrun
      rw [p, ← G.e] at hrun
      refine .inl (op_sound B.Γ B.C B.fs B.X G.h G.f hrun fun av v T hk HT ET hv hn => ?_)
      exact hK T _ (put_sound (st := { st with hp := T.hp }) ⟨HT, G.f.ext ET, rfl, G.z⟩ hv hn hk) (ET.weaken fun _ _ => trivial)

/-- the operations that are not listed yet, in the order of the text -/
def rest (ops : Array Oper) (listed : Array Bool) : List Nat := (List.range ops.size).filter fun i => !listed.getD i true

theorem mem_rest {ops : Array Oper} {listed : Array Bool} {i : Nat} : i ∈ rest ops listed ↔ i < ops.size ∧ listed.getD i true = false := by
  simp [rest]

theorem rest_sorted (ops : Array Oper) (listed : Array Bool) : (rest ops listed).Pairwise (· < ·) :=
  List.Pairwise.filter _ List.pairwise_lt_range

theorem rest_set {ops : Array Oper} {listed : Array Bool} {i : Nat} {l1 l2 : List Nat} (h : rest ops listed = l1 ++ i :: l2) : rest ops (listed.setIfInBounds i true) = l1 ++ l2 := by
  have hs := rest_sorted ops listed
  have hi : i ∈ rest ops listed := by rw [h]; simp
  have hlt : i < listed.size := by
    rcases Nat.lt_or_ge i listed.size with h' | h'
    · exact h'
    · have := (mem_rest.1 hi).2
      simp [Array.getD, Nat.not_lt.2 h'] at this
  have e : rest ops (listed.setIfInBounds i true) = (rest ops listed).filter (· != i) := by
    unfold rest
    rw [List.filter_filter]
    apply List.filter_congr
    intro k _
    by_cases hk : k = i
    · subst hk
      simp [hlt]
    · rw [getD_set_ne true (Ne.symm hk)]
      simp [hk]
  rw [e, h, List.filter_append, List.filter_cons]
  rw [h, List.pairwise_append] at hs
  obtain ⟨_, h2, h3⟩ := hs
  rw [List.pairwise_cons] at h2
  have f1 : l1.filter (· != i) = l1 := List.filter_eq_self.2 fun k hk => by
    have := h3 k hk i (by simp)
    simp; omega
  have f2 : l2.filter (· != i) = l2 := List.filter_eq_self.2 fun k hk => by
    have := h2.1 k hk
    simp; omega
  simp [f1, f2]

theorem any_sound (B : Base P O Γ enter) {F : Fn} {ops : Array Oper} {Q : Exit → Act → World → Prop} {S0 : Sit} {stE : St} {fp : Nat → Fp}
    (hback : ∀ i o, ops[i]? = some o → ∀ e ∈ o.after, Region.binds .any e = true → e.on < i)
    (hind : ∀ (i j : Nat) oi oj, j < i → ops[i]? = some oi → ops[j]? = some oj → ((Region.before ops).getD i 0).testBit j = true ∨ (oj.apart ops oi = true ∧ (fp j).indep (fp i) = true))
    (hK : ∀ T a', Good T stE F.sz a' → Ext (Below' F.base) S0 T → Q .normal a' T.w) :
    ∀ (fuel : Nat) (listed : Array Bool) {S : Sit} {st : St} {a : Act}, listed.size = ops.size → (∀ i, listed.getD i false = true → edgesIn ops (fun j => listed.getD j false = true) i) →
      (rest ops listed).length ≤ fuel → Good S st F.sz a → Ext (Below' F.base) S0 S → Runs (O := O) (Γ := Γ) (F := F) (ops := ops) fp (rest ops listed) st stE →
      wpAny P .any ops Q fuel listed a S.w := by
  intro fuel
  have hfin : ∀ (listed : Array Bool) {S : Sit} {st : St} {a : Act}, listed.size = ops.size → Good S st F.sz a → Ext (Below' F.base) S0 S → Runs (O := O) (Γ := Γ) (F := F) (ops := ops) fp (rest ops listed) st stE →
      Region.ready .any ops listed = [] → Q .normal a S.w := by
    intro listed S st a hsz G E hruns hr
    cases hrest : rest ops listed with
    | nil =>
      rw [hrest] at hruns
      cases hruns
      exact hK S a G E
    | cons i l =>
      exfalso
      have hi : i ∈ rest ops listed := by rw [hrest]; simp
      obtain ⟨h1, h2⟩ := mem_rest.1 hi
      have : i ∈ Region.ready .any ops listed := by
        refine mem_ready.2 ⟨h2, ops[i], Array.getElem?_eq_getElem h1, fun e he hb => ?_⟩
        have hlt := hback i _ (Array.getElem?_eq_getElem h1) e he hb
        cases hl : listed.getD e.on false with
        | true => rfl
        | false =>
          exfalso
          have he2 : e.on < listed.size := by omega
          have hm : e.on ∈ rest ops listed := mem_rest.2 ⟨by omega, by
            rw [Array.getD_eq_getD_getElem?, Array.getElem?_eq_getElem he2] at hl ⊢
            exact hl⟩
          have hs := rest_sorted ops listed
          rw [hrest, List.pairwise_cons] at hs
          rw [hrest] at hm
          rcases List.mem_cons.1 hm with h | h
          · omega
          · have := hs.1 _ h; omega
      rw [hr] at this
      cases this
  induction fuel with
  | zero =>
    intro listed S st a hsz hcl hlen G E hruns
    have hnil : rest ops listed = [] := List.eq_nil_of_length_eq_zero (by omega)
    have hr : Region.ready .any ops listed = [] := by
      apply List.eq_nil_iff_forall_not_mem.2
      intro i hi
      obtain ⟨h1, o, ho, _⟩ := mem_ready.1 hi
      have : i ∈ rest ops listed := mem_rest.2 ⟨(Array.getElem?_eq_some_iff.1 ho).1, h1⟩
      rw [hnil] at this
      cases this
    exact ⟨hr, hfin listed hsz G E hruns hr⟩
  | succ fuel ih =>
    intro listed S st a hsz hcl hlen G E hruns
    refine ⟨hfin listed hsz G E hruns, fun i hi => ?_⟩
    obtain ⟨h1, o, ho, hall⟩ := mem_ready.1 hi
    have hlt : i < ops.size := (Array.getElem?_eq_some_iff.1 ho).1
    have hmem : i ∈ rest ops listed := mem_rest.2 ⟨hlt, h1⟩
    obtain ⟨l1, l2, hl⟩ := List.append_of_mem hmem
    have hs := rest_sorted ops listed
    rw [hl, List.pairwise_append] at hs
    have hrs := rest_set hl
    rw [hl] at hruns hlen
    have hedge : edgesIn ops (fun j => listed.getD j false = true) i := fun o' ho' e he hb => by
      rw [ho] at ho'; cases ho'; exact hall e he hb
    obtain ⟨u, hu, hruns'⟩ := hruns.front ho l1 fun j hj x hx => by
      have hji : j < i := hs.2.2 j hj i (by simp)
      rcases hind i j o x hji ho hx with hb | hb
      · exfalso
        have h2 : listed.getD j false = true := before_spec hcl hedge hb
        have hjr : j ∈ rest ops listed := by rw [hl]; exact List.mem_append_left _ hj
        have h3 := (mem_rest.1 hjr).2
        have hjs : j < listed.size := by omega
        rw [Array.getD_eq_getD_getElem?, Array.getElem?_eq_getElem hjs] at h2 h3
        simp only [Option.getD_some] at h2 h3
        rw [h2] at h3
        cases h3
      · exact hb
    refine step_sound B ho G hu fun T a' GT ET => ih (listed.setIfInBounds i true) (by simp [hsz]) ?_ ?_ GT (E.trans ET) (by rw [hrs]; exact hruns')
    · intro k hk o' ho' e he hb
      by_cases hki : i = k
      · subst hki
        exact getD_set_true (hedge o' ho' e he hb)
      · rw [getD_set_ne false hki] at hk
        exact getD_set_true (hcl k hk o' ho' e he hb)
    · rw [hrs]
      simp only [List.length_append, List.length_cons] at hlen ⊢
      omega

theorem drawn_good {S : Sit} {st : St} {sz : Nat} {a : Act} (G : Good S st sz a) (p : Nat → Prop) : Good { S with w := { S.w with drawn := S.w.drawn + 1 } } st sz a ∧ Ext p S { S with w := { S.w with drawn := S.w.drawn + 1 } } := by
  have E : Ext Top S { S with w := { S.w with drawn := S.w.drawn + 1 } } := by
    refine ⟨fun b hb => ⟨hb, rfl⟩, Nat.le_refl _, rfl, fun _ _ => rfl, fun n _ hn => ?_, fun n _ hn => hn, fun _ h _ => h, ⟨rfl, rfl⟩⟩
    by_cases hl : cellLive (S.hp n)
    · exact .inr ⟨rfl, sameShape_refl hl⟩
    · left
      cases hcc : S.hp n <;> rw [hcc] at hl hn <;> simp [cellLive, Cell.live] at hl hn ⊢
  exact ⟨⟨G.h.world E rfl rfl (fun _ _ => rfl) (fun _ _ h => h) (fun b hb => G.h.il b hb), G.f.ext E, G.e, G.z⟩, E.weaken fun _ _ => trivial⟩

theorem region_draw_sound (B : Base P O Γ enter) (hm : P.follows .mixedOrders = true) {F : Fn} {id : Nat} {ops : Array Oper} {K : St → Option R} {r : R} {Q : Exit → Act → World → Prop} {S : Sit} {st : St} {a : Act}
    (G : Good S st F.sz a) (h : opsRunF O Γ F ops (fun fs st => if orderOk ops fs = true then K st else none) ops.toList [] st = some r)
    (hK : ∀ T st' a', Good T st' F.sz a' → Ext (Below' F.base) S T → K st' = some r → Q .normal a' T.w) : (Code.region id ops true).wp P Q a S.w := by
  obtain ⟨fsf, stE, hk, ⟨m, rfl, hlen⟩, hruns⟩ := opsRunF_runs ops.toList [] (fun i => by simp) h
  simp only [List.append_nil, Array.length_toList] at hk hruns hlen
  split at hk
  · rename_i hok
    unfold orderOk at hok
    simp only [List.all_eq_true, List.mem_range, Bool.and_eq_true, Bool.or_eq_true, decide_eq_true_eq, Bool.not_eq_true', CheckFast.beforeF_eq] at hok
    have hget : ∀ {i : Nat} {o : Oper}, ops[i]? = some o → i < ops.size ∧ ops.getD i default = o := fun {i o} ho => by
      obtain ⟨h1, h2⟩ := Array.getElem?_eq_some_iff.1 ho
      exact ⟨h1, by simp [Array.getD, h1, h2]⟩
    obtain ⟨G', E'⟩ := drawn_good G (Below' F.base)
    refine wp_region_any hm (any_sound (S0 := S) (S := { S with w := { S.w with drawn := S.w.drawn + 1 } }) (fp := fun i => m.reverse.getD i ⟨[], []⟩) B ?_ ?_ (fun T a' GT ET => hK T stE a' GT ET hk) ops.size (Array.replicate ops.size false) (by simp) ?_ ?_ G' E' ?_)
    · intro i o ho e he hb
      obtain ⟨h1, h2⟩ := hget ho
      have := (hok i h1).1 e (by rw [h2]; exact Array.mem_toList_iff.2 he)
      rw [hb] at this
      simpa using this
    · intro i j oi oj hji hoi hoj
      obtain ⟨h1, h2⟩ := hget hoi
      obtain ⟨h3, h4⟩ := hget hoj
      have := (hok i h1).2 j hji
      rw [h2, h4] at this
      rcases this with h | h
      · exact .inl h
      · exact .inr ⟨h.1.1, h.2⟩
    · intro i hi
      simp [Array.getD] at hi
    · exact Nat.le_trans (List.length_filter_le _ _) (by simp)
    · have e : rest ops (Array.replicate ops.size false) = (List.range ops.size).map (([] : List Fp).length + ·) := by
        unfold rest
        rw [List.filter_eq_self.2]
        · simp
        · intro i hi
          simp [Array.getD, List.mem_range.1 hi]
      rw [e]
      exact hruns
  · cases hk

end
end Go.AM
