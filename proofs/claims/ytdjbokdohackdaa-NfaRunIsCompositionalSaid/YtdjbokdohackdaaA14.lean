/- Each operation, sixth part: conversions, numbers, calls; all of them together. -/
import Derived.Test.YtdjbokdohackdaaB3
namespace Go.AM
open Go

section ops
variable {P : Program} {Γ : TEnv} {call : Call} {S : Sit} {fr : Nat → AV} {a : Act} {R : Type} {K : AV → Hp → Option R} {r : R}
  {next : Act → World → Prop} {Q : Exit → Act → World → Prop} {nm : Nat}

theorem plain_names {p : Nat → Prop} {c : AV} (h : c.closed = true) : c.names p := AV.names_closed c h

theorem sound_convert (hΓ : Γ.ok P = true) {o : Oper} {s d : Nat} {x : Operand} (ho : o.op = .convert s d x) (H : HRel S) (F : FRel S fr a)
    (h : (aop Γ nm (ev fr) (.convert s d x)).run call K S.hp = some r) (hP : Post S K r fun v w => next (a.put o.dst v) w) : o.wp P a S.w next Q := by
  simp only [aop] at h
  have hx := ev_rel F x
  split at h
  · rename_i ks kd q n hs hd hxn
    rw [hxn] at hx
    have hx := hx.int_inv
    refine wp_value (v := .int kd (kd.wrap n)) ?_ (hP.stay H (run_pure_inv h) .int_mk (plain_names rfl))
    simp [execOp, ho, hx, convert, run_underlying (kOk_int (TEnv.kind_ok hΓ hs)), run_underlying (kOk_int (TEnv.kind_ok hΓ hd)), Conv.intToInt]
  · rename_i t hs hd hxn
    rw [hxn] at hx
    have hx := hx.str_inv
    refine wp_value (v := strOf t) ?_ (hP.stay H (run_pure_inv h) .str_mk (plain_names rfl))
    simp [execOp, ho, hx, strOf, convert, run_underlying (kOk_str (TEnv.kind_ok hΓ hs)), run_underlying (kOk_str (TEnv.kind_ok hΓ hd))]
  · rename_i hs hd
    obtain ⟨xs, hxs, h2⟩ := elems_inv H hx h
    obtain ⟨E, hu, hE⟩ := kOk_slice (TEnv.kind_ok hΓ hs)
    have hE := kOk_int hE
    have hds := kOk_str (TEnv.kind_ok hΓ hd)
    refine wp_value (v := strOf (xs.map fun n => UInt8.ofNat n.toNat)) ?_ (hP.stay H (run_pure_inv h2) .str_mk (plain_names rfl))
    obtain ⟨ad, len, cap, hv, hl, hc⟩ := hxs
    have hrun : (convert s d (a.eval x)).run P S.w = .ok (strOf (xs.map fun n => UInt8.ofNat n.toNat)) S.w := by
      rw [hv]
      rcases hc with hc | ⟨b, oo, rfl, hc⟩
      · have hx0 : xs = [] := List.eq_nil_of_length_eq_zero (by omega)
        subst hx0
        cases ad with
        | none => rw [run_convert_bytes_nil S.w s E hu hE _ _ d hds]; rfl
        | some ad =>
          rw [run_convert_bytes_string S.w s d E _ len cap hu hE hds, run_bytesToString S.w ad len cap [] (by rw [hc]; rfl)]
          rfl
      · exact run_convert_bytes_arg S.w s E hu hE b oo len cap xs hl.symm (fun i hi => by
          obtain ⟨us, h1, h3⟩ := hc i hi
          have h1 : us = [.int .u8 (xs.getD i 0)] := h1
          have := h3 0 (.int .u8 (xs.getD i 0)) (by rw [h1]; rfl)
          simpa [Kind.size] using this) d hds
    simp only [execOp, ho, hrun, Sem.run_bind, Result.andThen_ok, Sem.run_pure]
  · rename_i t hs hd hxn
    rw [hxn] at hx
    have hx := hx.str_inv
    obtain ⟨E, hu, hE⟩ := kOk_slice (TEnv.kind_ok hΓ hd)
    have hE := kOk_int hE
    have hss := kOk_str (TEnv.kind_ok hΓ hs)
    have hrun := Lib.run_convert_string_bytes (P := P) S.w s d E ⟨t.toArray⟩ hss hu hE
    have hsz : (ByteArray.mk t.toArray).size = t.length := by simp [ByteArray.size]
    have hge := grownCap_ge S.w (ByteArray.mk t.toArray).size 0 E
    have E1 : Ext Top S { S with w := Lib.bytesWorld S.w E ⟨t.toArray⟩, I := fun b => S.I b ∨ b = S.w.heap.size } := by
      refine ⟨fun b hb => ⟨.inl hb, Lib.bytesWorld_at_old _ _ _ _ (H.il b hb)⟩, by rw [Lib.bytesWorld_size]; omega, rfl, fun b hb => Lib.bytesWorld_at_old _ _ _ _ (H.bl b hb), fun n _ hn => ?_, fun n _ hn => hn, fun b hb hlt => hb.elim id fun e => absurd hlt (e ▸ H.newB), ⟨rfl, rfl⟩⟩
      by_cases hl : cellLive (S.hp n)
      · exact .inr ⟨rfl, sameShape_refl hl⟩
      · left
        cases hc : S.hp n <;> rw [hc] at hl hn <;> simp [cellLive, Cell.live] at hl hn ⊢
    have H1 : HRel { S with w := Lib.bytesWorld S.w E ⟨t.toArray⟩, I := fun b => S.I b ∨ b = S.w.heap.size } :=
      H.world E1 rfl rfl (fun b hb => Lib.bytesWorld_at_old _ _ _ _ hb) (fun b hb hI => hI.elim id fun e => by omega)
        (fun b hb => by rw [Lib.bytesWorld_size]; rcases hb with hb | hb; · have := H.il b hb; omega
                        · omega)
    refine wp_value (v := .slice (some ⟨S.w.heap.size, 0, none⟩) t.length (grownCap S.w (ByteArray.mk t.toArray).size 0 E)) (w' := Lib.bytesWorld S.w E ⟨t.toArray⟩) ?_
      (hP (.sl (.int .u8) (t.map fun b => (b.toNat : Int))) _ _ (run_pure_inv h) H1 E1 ?_ (plain_names rfl))
    · rw [hsz] at hrun
      simp only [execOp, ho, hx, strOf, hrun, Sem.run_bind, Result.andThen_ok, Sem.run_pure, hsz]
    · refine .sl_mk ⟨_, _, _, rfl, by simp, by rw [hsz] at hge; exact hge, ?_⟩
      refine .inr ⟨S.w.heap.size, 0, rfl, .inr rfl, fun i hi => ?_⟩
      refine ⟨[.int .u8 ((t.getD i 0).toNat : Int)], ?_, fun j u hu => ?_⟩
      · show [Value.int .u8 ((t.getD i 0).toNat : Int)] = [Value.int .u8 ((t.map fun b => (b.toNat : Int)).getD i 0)]
        rw [List.getD_eq_getElem?_getD, List.getD_eq_getElem?_getD, List.getElem?_map, List.getElem?_eq_getElem hi]
        rfl
      · cases j with
        | zero =>
          simp only [List.getElem?_cons_zero, Option.some.injEq] at hu
          subst hu
          have := Lib.bytesWorld_cell S.w E ⟨t.toArray⟩ i (by rw [hsz]; exact hi)
          simpa [Kind.size] using this
        | succ j => simp at hu
  · cases h

theorem eqGuard_none {op : BinOp} {t : Nat} {x y : Operand} {v u : Value} (w : World)
    (h : ∀ l m, ¬ (v = .agg l ∧ u = .agg m)) (h2 : ¬ (v = .nilIface ∧ u = .nilIface)) : (eqGuard op t x y v u).run P w = .ok () w := by
  cases op <;> first
    | rfl
    | (cases v <;> cases u <;> first | rfl | (exact absurd ⟨rfl, rfl⟩ h2) | (exact absurd ⟨rfl, rfl⟩ (h _ _)))

theorem eqGuard_agg {op : BinOp} {t : Nat} {x y : Operand} {l m : Array Value} (w : World) (h : P.eqGuardType P.depth t = false) : (eqGuard op t x y (.agg l) (.agg m)).run P w = .ok () w := by
  cases op <;> first
    | rfl
    | (simp [eqGuard, h])

theorem run_intBin (w : World) {op : BinOp} {k : IntKind} {a b : Int} {t : Nat} (h1 : op ≠ .shl) (h2 : op ≠ .shr) (h3 : op ≠ .quo) (h4 : op ≠ .rem) :
    (∀ c, iarith op k a b = some c → (binOp op t (.int k a) (.int k b)).run P w = .ok (.int k c) w) ∧
    (∀ c, iarith op k a b = none → ibits op k a b = some c → (binOp op t (.int k a) (.int k b)).run P w = .ok (.int k c) w) ∧
    (∀ c, iarith op k a b = none → ibits op k a b = none → icmp op a b = some c → (binOp op t (.int k a) (.int k b)).run P w = .ok (.bool c) w) := by
  refine ⟨fun c h => ?_, fun c h h' => ?_, fun c h h' h'' => ?_⟩
  · cases op <;> first | (exact absurd rfl h1) | (exact absurd rfl h2) | (exact absurd rfl h3) | (exact absurd rfl h4) | (cases h; done) |
      (simp only [iarith, Option.some.injEq] at h; subst h; simp [binOp, Op.intArith])
  · cases op <;> first | (exact absurd rfl h1) | (exact absurd rfl h2) | (exact absurd rfl h3) | (exact absurd rfl h4) | (cases h'; done) | (cases h; done) |
      (simp only [ibits, Option.some.injEq] at h'; subst h'; simp [binOp, Op.intBits])
  · cases op <;> first | (exact absurd rfl h1) | (exact absurd rfl h2) | (exact absurd rfl h3) | (exact absurd rfl h4) | (cases h''; done) | (cases h'; done) | (cases h; done) |
      (simp only [icmp, Option.some.injEq] at h''; subst h''; simp [binOp, Op.intCmp]; done) |
      (simp only [icmp, Option.some.injEq] at h''; subst h''; simp [binOp, Op.intCmp]; rfl)

theorem sound_binOp (hΓ : Γ.ok P = true) {o : Oper} {op : BinOp} {t ty : Nat} {x y : Operand} (ho : o.op = .binOp op t x y ty) (H : HRel S) (F : FRel S fr a)
    (h : (aop Γ nm (ev fr) (.binOp op t x y ty)).run call K S.hp = some r) (hP : Post S K r fun v w => next (a.put o.dst v) w) : o.wp P a S.w next Q := by
  simp only [aop] at h
  have hx := ev_rel F x
  have hy := ev_rel F y
  have fin : ∀ (c : AV) (v : Value), (eqGuard op t x y (a.eval x) (a.eval y)).run P S.w = .ok () S.w → (binOp op t (a.eval x) (a.eval y)).run P S.w = .ok v S.w → K c S.hp = some r → VRel S c v → c.closed = true → o.wp P a S.w next Q := by
    intro c v hg hr hk hv hc
    refine wp_value (v := v) ?_ (hP.stay H hk hv (plain_names hc))
    simp only [execOp, ho, hg, hr, Sem.run_bind, Result.andThen_ok, Sem.run_pure]
  have ints : ∀ (k k' : IntKind) (n m : Int), ev fr x = .int k n → ev fr y = .int k' m → a.eval x = .int k n ∧ a.eval y = .int k' m ∧ (eqGuard op t x y (a.eval x) (a.eval y)).run P S.w = .ok () S.w := by
    intro k k' n m h1 h2
    rw [h1] at hx
    rw [h2] at hy
    refine ⟨hx.int_inv, hy.int_inv, ?_⟩
    rw [hx.int_inv, hy.int_inv]
    exact eqGuard_none S.w (fun l m h => by cases h.1) (fun h => by cases h.1)
  have strs : ∀ (n m : List UInt8), ev fr x = .str n → ev fr y = .str m → a.eval x = strOf n ∧ a.eval y = strOf m ∧ (eqGuard op t x y (a.eval x) (a.eval y)).run P S.w = .ok () S.w := by
    intro n m h1 h2
    rw [h1] at hx
    rw [h2] at hy
    refine ⟨hx.str_inv, hy.str_inv, ?_⟩
    rw [hx.str_inv, hy.str_inv]
    exact eqGuard_none S.w (fun l m h => by cases h.1) (fun h => by cases h.1)
  have bools : ∀ (n m : Bool), ev fr x = .bool n → ev fr y = .bool m → a.eval x = .bool n ∧ a.eval y = .bool m ∧ (eqGuard op t x y (a.eval x) (a.eval y)).run P S.w = .ok () S.w ∧
      (Γ.kind t = some .bool → (Op.equalIn Op.maxDepth t (.bool n) (.bool m)).run P S.w = .ok (n == m) S.w) := by
    intro n m h1 h2
    rw [h1] at hx
    rw [h2] at hy
    refine ⟨hx.bool_inv, hy.bool_inv, ?_, fun hk => ?_⟩
    · rw [hx.bool_inv, hy.bool_inv]
      exact eqGuard_none S.w (fun l m h => by cases h.1) (fun h => by cases h.1)
    · exact run_equalIn_bool' S.w 9999 t n m (kOk_bool (TEnv.kind_ok hΓ hk))
  have beqd : ∀ n m : List UInt8, (n == m) = decide (n = m) := by
    intro n m
    cases hh : decide (n = m) with
    | true => simp only [decide_eq_true_eq] at hh; rw [hh]; simp
    | false => simp only [decide_eq_false_iff_not] at hh; simp [hh]
  have szs : ∀ n : List UInt8, (ByteArray.mk n.toArray).size = n.length := fun n => by simp [ByteArray.size]
  unfold binM at h
  split at h
  · rename_i k n k' m h1 h2
    obtain ⟨e1, e2, hg⟩ := ints _ _ _ _ h1 h2
    obtain ⟨hc, h⟩ := run_brf_inv h
    simp only [decide_eq_true_eq] at hc
    refine fin _ _ hg ?_ (run_pure_inv h) .int_mk rfl
    rw [e1, e2]
    have : ¬ (m < 0) := by omega
    simp [binOp, Op.shift, this]
  · rename_i k n k' m h1 h2
    obtain ⟨e1, e2, hg⟩ := ints _ _ _ _ h1 h2
    obtain ⟨hc, h⟩ := run_brf_inv h
    simp only [decide_eq_true_eq] at hc
    refine fin _ _ hg ?_ (run_pure_inv h) .int_mk rfl
    rw [e1, e2]
    have : ¬ (m < 0) := by omega
    simp [binOp, Op.shift, this]
  · rename_i k n k' m h1 h2
    obtain ⟨e1, e2, hg⟩ := ints _ _ _ _ h1 h2
    split at h
    · rename_i hk
      subst hk
      rcases run_br_inv h with ⟨_, h⟩ | ⟨hc, h⟩
      · cases h
      · simp only [decide_eq_false_iff_not] at hc
        refine fin _ _ hg ?_ (run_pure_inv h) .int_mk rfl
        rw [e1, e2]
        simp [binOp, Op.intDiv, hc]
    · cases h
  · rename_i k n k' m h1 h2
    obtain ⟨e1, e2, hg⟩ := ints _ _ _ _ h1 h2
    split at h
    · rename_i hk
      subst hk
      rcases run_br_inv h with ⟨_, h⟩ | ⟨hc, h⟩
      · cases h
      · simp only [decide_eq_false_iff_not] at hc
        refine fin _ _ hg ?_ (run_pure_inv h) .int_mk rfl
        rw [e1, e2]
        simp [binOp, Op.intDiv, hc]
    · cases h
  · rename_i op _ _ _ k n k' m hsl hsr hqu hre h1 h2
    obtain ⟨e1, e2, hg⟩ := ints _ _ _ _ h1 h2
    split at h
    · rename_i hk
      subst hk
      obtain ⟨q1, q2, q3⟩ := run_intBin (P := P) S.w (op := op) (k := k) (a := n) (b := m) (t := t) hsl hsr hqu hre
      split at h
      · rename_i c hc
        exact fin _ _ hg (by rw [e1, e2]; exact q1 c hc) (run_pure_inv h) .int_mk rfl
      · rename_i hc0
        split at h
        · rename_i c hc
          exact fin _ _ hg (by rw [e1, e2]; exact q2 c hc0 hc) (run_pure_inv h) .int_mk rfl
        · rename_i hc1
          split at h
          · rename_i c hc
            exact fin _ _ hg (by rw [e1, e2]; exact q3 c hc0 hc1 hc) (run_pure_inv h) .bool_mk rfl
          · cases h
    · cases h
  · rename_i n m h1 h2
    obtain ⟨e1, e2, hg⟩ := strs _ _ h1 h2
    obtain ⟨hc, h⟩ := run_brf_inv h
    simp only [decide_eq_true_eq] at hc
    unfold lim at hc
    refine fin _ (strOf (n ++ m)) hg ?_ (run_pure_inv h) .str_mk rfl
    rw [e1, e2]
    have hmx : IntKind.i64.max = 9223372036854775807 := by decide
    have : ¬ (((ByteArray.mk n.toArray).size + (ByteArray.mk m.toArray).size : Nat) : Int) > IntKind.i64.max := by rw [szs, szs, hmx]; omega
    simp only [strOf, binOp, Op.stringOp]
    rw [if_neg this]
    simp only [Sem.run_pure]
    congr 2
  · rename_i n m h1 h2
    obtain ⟨e1, e2, hg⟩ := strs _ _ h1 h2
    refine fin _ (.bool (decide (n = m))) hg ?_ (run_pure_inv h) .bool_mk rfl
    rw [e1, e2]
    simp [strOf, binOp, Op.stringOp, beqd]
  · rename_i n m h1 h2
    obtain ⟨e1, e2, hg⟩ := strs _ _ h1 h2
    refine fin _ (.bool (!decide (n = m))) hg ?_ (run_pure_inv h) .bool_mk rfl
    rw [e1, e2]
    simp [strOf, binOp, Op.stringOp, beqd]
  · rename_i n m h1 h2
    obtain ⟨e1, e2, hg⟩ := strs _ _ h1 h2
    refine fin _ (.bool (Op.bytesLess n m)) hg ?_ (run_pure_inv h) .bool_mk rfl
    rw [e1, e2]
    simp [strOf, binOp, Op.stringOp]
  · rename_i n m h1 h2
    obtain ⟨e1, e2, hg⟩ := strs _ _ h1 h2
    refine fin _ (.bool (Op.bytesLess n m || decide (n = m))) hg ?_ (run_pure_inv h) .bool_mk rfl
    rw [e1, e2]
    simp [strOf, binOp, Op.stringOp, beqd]
  · rename_i n m h1 h2
    obtain ⟨e1, e2, hg⟩ := strs _ _ h1 h2
    refine fin _ (.bool (!(Op.bytesLess n m || decide (n = m)))) hg ?_ (run_pure_inv h) .bool_mk rfl
    rw [e1, e2]
    simp [strOf, binOp, Op.stringOp, beqd]
  · rename_i n m h1 h2
    obtain ⟨e1, e2, hg⟩ := strs _ _ h1 h2
    refine fin _ (.bool (!Op.bytesLess n m)) hg ?_ (run_pure_inv h) .bool_mk rfl
    rw [e1, e2]
    simp [strOf, binOp, Op.stringOp]
  · rename_i n m h1 h2
    obtain ⟨e1, e2, hg, hr⟩ := bools n m h1 h2
    split at h
    case isFalse => cases h
    rename_i hk
    replace hr := hr hk
    refine fin _ (.bool (n == m)) hg ?_ (run_pure_inv h) .bool_mk rfl
    rw [e1, e2]
    simp only [binOp, Op.equal, Sem.run_bind, hr, Result.andThen_ok, Sem.run_pure]
  · rename_i n m h1 h2
    obtain ⟨e1, e2, hg, hr⟩ := bools n m h1 h2
    split at h
    case isFalse => cases h
    rename_i hk
    replace hr := hr hk
    refine fin _ (.bool (!(n == m))) hg ?_ (run_pure_inv h) .bool_mk rfl
    rw [e1, e2]
    simp only [binOp, Op.equal, Sem.run_bind, hr, Result.andThen_ok, Sem.run_pure]
  · rename_i op _ _ _ l m h1 h2
    obtain ⟨e, he, ha⟩ := run_opt_inv h
    clear h
    obtain ⟨k, hk, h⟩ := run_opt_inv ha
    clear ha
    split at h
    · rename_i hkk
      simp only [Bool.and_eq_true] at hkk
      obtain ⟨p, hp, ha⟩ := run_opt_inv h
      clear h
      obtain ⟨q, hq, h⟩ := run_opt_inv ha
      clear ha
      rw [h1] at hx
      rw [h2] at hy
      have hok := TEnv.kind_ok hΓ hk
      obtain ⟨hd1, hd2⟩ := TEnv.kind_deep hΓ hk
      have hpv : VK S.w S.I k p (a.eval x) := one_rel hx (by unfold one; rw [if_pos (by rw [hkk.2]; rfl)]; exact hp)
      have hqv : VK S.w S.I k q (a.eval y) := one_rel hy (by unfold one; rw [if_pos (by rw [hkk.2]; rfl)]; exact hq)
      have heq := equalIn_rel (P := P) hok hkk.1 Op.maxDepth (by unfold Op.maxDepth; omega) hpv hqv
      have hgu := eqGuard_off hok hkk.1 P.depth (by omega)
      obtain ⟨vs, hvx, _⟩ := hpv.agg hkk.2
      obtain ⟨us, huy, _⟩ := hqv.agg hkk.2
      have hg : (eqGuard op t x y (a.eval x) (a.eval y)).run P S.w = .ok () S.w := by rw [hvx, huy]; exact eqGuard_agg S.w hgu
      refine fin _ (.bool (if e = true then k.eqB p q else !(k.eqB p q))) hg ?_ (run_pure_inv h) .bool_mk rfl
      rw [hvx, huy] at heq ⊢
      cases op <;> simp [isEq] at he
      · subst he
        simp [binOp, Op.equal, heq]
      · subst he
        simp [binOp, Op.equal, heq]
    · cases h
  · cases h

theorem sound_unOp {o : Oper} {op : UnOp} {t : Nat} {x : Operand} (ho : o.op = .unOp op t x) (H : HRel S) (F : FRel S fr a)
    (h : (aop Γ nm (ev fr) (.unOp op t x)).run call K S.hp = some r) (hP : Post S K r fun v w => next (a.put o.dst v) w) : o.wp P a S.w next Q := by
  simp only [aop] at h
  have hx := ev_rel F x
  split at h
  · rename_i b hb
    rw [hb] at hx
    refine wp_value (v := .bool (!b)) ?_ (hP.stay H (run_pure_inv h) .bool_mk (plain_names rfl))
    simp [execOp, ho, hx.bool_inv, Op.unary]
  · rename_i k n hb
    rw [hb] at hx
    refine wp_value (v := .int k (k.wrap (0 - n))) ?_ (hP.stay H (run_pure_inv h) .int_mk (plain_names rfl))
    simp [execOp, ho, hx.int_inv, Op.unary, Op.intArith]
  · rename_i k n hb
    rw [hb] at hx
    obtain ⟨c, hc, h⟩ := run_opt_inv h
    refine wp_value (v := .int k c) ?_ (hP.stay H (run_pure_inv h) .int_mk (plain_names rfl))
    simp only [ibits, Option.some.injEq] at hc
    subst hc
    simp [execOp, ho, hx.int_inv, Op.unary, Op.intBits]
  · cases h

theorem sound_extract {o : Oper} {x : Operand} {i : Nat} (ho : o.op = .extract x i) (H : HRel S) (F : FRel S fr a)
    (h : (aop Γ nm (ev fr) (.extract x i)).run call K S.hp = some r) (hP : Post S K r fun v w => next (a.put o.dst v) w) : o.wp P a S.w next Q := by
  simp only [aop] at h
  have hx := ev_rel F x
  have hn := ev_names F x
  split at h
  · rename_i vs hvs
    rw [hvs] at hx hn
    split at h
    · rename_i v hv
      unfold VRel at hx
      obtain ⟨us, hp, hr⟩ := hx
      obtain ⟨u, hu, hvu⟩ := hr.get hv
      unfold AV.names at hn
      refine wp_value (v := u) ?_ (hP.stay H (run_pure_inv h) hvu (AV.namesL_mem hn (List.mem_of_getElem? hv)))
      simp [execOp, ho, hp, Instr.extract, hu]
    · cases h
  · cases h

theorem args_rel (F : FRel S fr a) : ∀ (l : List Operand), VRelL S (l.map (ev fr)) (l.map a.eval) ∧ AV.namesL (fun m => S.hp m ≠ .free) (l.map (ev fr))
  | [] => ⟨.nil, by unfold List.map AV.namesL; trivial⟩
  | x :: l => by
    obtain ⟨h1, h2⟩ := args_rel F l
    refine ⟨.cons (ev_rel F x) h1, ?_⟩
    rw [List.map_cons]
    unfold AV.namesL
    exact ⟨ev_names F x, h2⟩

theorem sound_makeFunc {o : Oper} {fn : Go.Fn} {first cap : Array Operand} (ho : o.op = .makeFunc fn first cap) (H : HRel S) (F : FRel S fr a)
    (h : (aop Γ nm (ev fr) (.makeFunc fn first cap)).run call K S.hp = some r) (hP : Post S K r fun v w => next (a.put o.dst v) w) : o.wp P a S.w next Q := by
  cases fn with
  | func f =>
    simp only [aop] at h
    split at h
    · rename_i h0
      obtain ⟨h1, h2⟩ := args_rel F cap.toList
      refine wp_value (v := .func (.func f) #[] (cap.map a.eval)) ?_ (hP.stay H (run_pure_inv h) ?_ (by unfold AV.names; exact h2))
      · have : first = #[] := Array.eq_empty_of_size_eq_zero h0
        subst this
        simp [execOp, ho, Instr.makeFunc]
      · unfold VRel; exact ⟨cap.toList.map a.eval, by congr 1; apply Array.ext'; simp, h1⟩
    · cases h
  | _ => cases h

theorem sound_len (hΓ : Γ.ok P = true) {o : Oper} {args : Array Operand} {argTypes : Array TypeId} (ho : o.op = .call { callee := .builtin .len, args := args, argTypes := argTypes }) (H : HRel S) (F : FRel S fr a)
    (h : (aop Γ nm (ev fr) (.call { callee := .builtin .len, args := args, argTypes := argTypes })).run call K S.hp = some r) (hP : Post S K r fun v w => next (a.put o.dst v) w) : o.wp P a S.w next Q := by
  simp only [aop] at h
  split at h
  · rename_i x t hargs htys
    have hx := ev_rel F x
    have fin : ∀ n : Nat, (Builtin.len_ #[t] o.type #[a.eval x]).run P S.w = .ok (goInt n) S.w → K (.int .i64 (n : Int)) S.hp = some r → o.wp P a S.w next Q := by
      intro n hr hk
      have e1 : args = #[x] := by apply Array.ext'; simpa using hargs
      have e2 : argTypes = #[t] := by apply Array.ext'; simpa using htys
      subst e1 e2
      refine wp_value (v := goInt n) ?_ (hP.stay H hk (.int_mk) (plain_names rfl))
      simp only [execOp, ho, resolve, invoke, builtin, Sem.run_bind, Sem.run_pure, Result.andThen_ok, List.map_toArray, List.map_cons, List.map_nil, hr]
    have slices : ∀ (k : Kind), Γ.kind t = some k → k.isSlice = true → ∀ (ad : Option Addr) (n c : Nat), a.eval x = .slice ad n c → (Builtin.len_ #[t] o.type #[a.eval x]).run P S.w = .ok (goInt n) S.w := by
      intro k hk hs ad n c hv
      cases k <;> simp [Kind.isSlice] at hs
      obtain ⟨E, hu, _⟩ := kOk_slice (TEnv.kind_ok hΓ hk)
      rw [hv]
      simp [Builtin.len_, run_underlying hu]
    split at h
    · rename_i s hxs
      split at h
      · rename_i hk
        rw [hxs] at hx
        refine fin s.length ?_ (run_pure_inv h)
        rw [hx.str_inv]
        have hsz : (ByteArray.mk s.toArray).size = s.length := by simp [ByteArray.size]
        simp [Builtin.len_, run_underlying (kOk_str (TEnv.kind_ok hΓ hk)), strOf, hsz]
      · cases h
    · rename_i n hxs
      rw [hxs] at hx
      split at h
      · rename_i hm
        replace h := run_rd_inv h
        split at h
        · rename_i k v es hes
          obtain ⟨kv, hkv⟩ := Option.isSome_iff_exists.1 hm
          obtain ⟨KT, VT, hu, _⟩ := TEnv.map_ok hΓ hkv
          unfold VRel at hx
          rw [hes] at hx
          have ho' := H.ob n
          rw [hes] at ho'
          obtain ⟨rb, ms, cl, g1, g2, g3, g4, g5⟩ := ho'
          refine fin es.length ?_ (run_pure_inv h)
          have hgo : (getObj rb).run P S.w = .ok (.map ms cl) S.w := by simp [getObj, Sem.run, g2]
          have hln : ms.size = es.length := by simpa using g5.1.length
          rw [hx.2, g1]
          simp [Builtin.len_, run_underlying hu, hgo, hln]
        · cases h
      · cases h
    · rename_i e xs hxs
      obtain ⟨k, hk, h⟩ := run_opt_inv h
      split at h
      · rename_i hs
        rw [hxs] at hx
        obtain ⟨ad, len, cap, hp, hl, hcap, _⟩ := hx.sl_inv
        have hp : a.eval x = .slice ad len cap := by simpa using hp
        exact fin xs.length (by rw [← hl]; exact slices k hk hs ad len cap hp) (run_pure_inv h)
      · cases h
    · rename_i hxs
      obtain ⟨k, hk, h⟩ := run_opt_inv h
      split at h
      · rename_i hs
        rw [hxs] at hx
        exact fin 0 (slices k hk hs none 0 0 hx.nilsl_inv) (run_pure_inv h)
      · cases h
    · rename_i n hxs
      obtain ⟨k, hk, h⟩ := run_opt_inv h
      split at h
      · rename_i hs
        rw [hxs] at hx
        replace h := run_rd_inv h
        split at h
        · rename_i e xs hes
          unfold VRel at hx
          rw [hes] at hx
          obtain ⟨ad, len, cap, g1, g2, _⟩ := row_elems H hes
          exact fin xs.length (by rw [← g2]; exact slices k hk hs ad len cap (hx.2.trans g1)) (run_pure_inv h)
        · rename_i k' v' ess hes
          unfold VRel at hx
          rw [hes] at hx
          obtain ⟨_, ms, e0⟩ := hx
          have ho' := H.ob n
          rw [hes] at ho'
          obtain ⟨b, cap, c, E, ms1, q1, _⟩ := ho'
          exact fin ess.length (slices k hk hs _ ess.length cap (tuple_inj (q1.symm.trans e0)).1.symm) (run_pure_inv h)
        · cases h
      · cases h
    · rename_i n j hxs
      obtain ⟨k, hk, h⟩ := run_opt_inv h
      split at h
      · rename_i hs
        rw [hxs] at hx
        replace h := run_rd_inv h
        split at h
        · rename_i e xs hes
          unfold VRel at hx
          rw [hes] at hx
          obtain ⟨_, ad, cap, g1, g2, g3⟩ := hx
          exact fin j (slices k hk hs ad j cap g3) (run_pure_inv h)
        · cases h
      · cases h
    · cases h
  · cases h

theorem AV.closedL_mem {c : AV} : ∀ {l : List AV}, AV.closedL l = true → c ∈ l → c.closed = true
  | [], _, h => by cases h
  | d :: l, hc, h => by
    have hc : (d.closed && AV.closedL l) = true := hc
    rw [Bool.and_eq_true] at hc
    cases h with
    | head => exact hc.1
    | tail _ h => exact AV.closedL_mem hc.2 h

/-- callee, arguments: what a call through a function value asks -/
theorem run_call {o : Oper} {f : Operand} {args : Array Operand} {argTypes : Array TypeId} (ho : o.op = .call { callee := .value f, args := args, argTypes := argTypes }) (F : FRel S fr a) {g : Nat} {cap : List AV}
    (hf : ev fr f = .fn g cap) {fn : Func} (hfn : P.funcs[g]? = some fn) (hb : fn.body.isSome = true) (hnm : fn.name ≠ "runtime.NumGoroutine") :
    ∃ vs : List Value, VRelL S (args.toList.map (ev fr) ++ cap) vs ∧ (execOp a.eval o).run P S.w = .ok (.enter g vs.toArray) S.w := by
  have hx := ev_rel F f
  rw [hf] at hx
  unfold VRel at hx
  obtain ⟨us, hp, hu⟩ := hx
  obtain ⟨h1, _⟩ := args_rel F args.toList
  refine ⟨args.toList.map a.eval ++ us, h1.append hu, ?_⟩
  have hbn : fn.body.isNone = false := by cases hb' : fn.body <;> simp [hb'] at hb ⊢
  simp only [execOp, ho, resolve, hp, Deferred.ofValue, Sem.run_bind, Sem.run_pure, Result.andThen_ok, invoke, callFunc, run_program, hfn]
  simp [hnm, hbn]

/-- the procedures and the functions that are treated apart are what the machine takes them for -/
structure Special (P : Program) (Γ : TEnv) (call : Call) : Prop where
  pr : ∀ nm g pd, Γ.proc nm g = some pd → SoundProc P g (pd.1.map (·.2)) (pd.2.map (·.2)) (call.pv g)
  ke : ∀ f c, Γ.keysOf = some (f, c) → KeysOk P f c
  so : ∀ g c, (∃ f, Γ.keysOf = some (f, c)) ∧ Γ.sorted = some g → SortedOk P g c

theorem special_keys {g : Nat} {l : List AV} {c n i : Nat} (h : Γ.special g l = some (.inl (c, n, i))) : l = [.mref n i] ∧ Γ.keysOf = some (g, c) := by
  unfold TEnv.special at h
  split at h
  · split at h
    · rename_i f c' hk
      split at h
      · rename_i e
        simp only [Option.some.injEq, Sum.inl.injEq, Prod.mk.injEq] at h
        obtain ⟨rfl, rfl, rfl⟩ := h
        exact ⟨rfl, by rw [hk, e]⟩
      · cases h
    · cases h
  · split at h
    · split at h <;> cases h
    · cases h
  · cases h

theorem special_sorted {g : Nat} {l : List AV} {n i : Nat} (h : Γ.special g l = some (.inr (n, i))) : ∃ c, l = [.keys c n i] ∧ (∃ f, Γ.keysOf = some (f, c)) ∧ Γ.sorted = some g := by
  unfold TEnv.special at h
  split at h
  · split at h
    · split at h <;> cases h
    · cases h
  · split at h
    · rename_i f c' hk
      split at h
      · rename_i e
        simp only [Option.some.injEq, Sum.inr.injEq, Prod.mk.injEq] at h
        obtain ⟨rfl, rfl⟩ := h
        obtain ⟨rfl, e2⟩ := e
        exact ⟨_, rfl, ⟨f, hk⟩, e2⟩
      · cases h
    · cases h
  · cases h

theorem sound_call {o : Oper} {f : Operand} {args : Array Operand} {argTypes : Array TypeId} (hC : SoundCall P call)
    (hfs : ∀ g as r, call.av g as = some r → ∃ fn, P.funcs[g]? = some fn ∧ fn.body.isSome = true ∧ fn.name ≠ "runtime.NumGoroutine")
    (hX : Special P Γ call)
    (ho : o.op = .call { callee := .value f, args := args, argTypes := argTypes }) (H : HRel S) (F : FRel S fr a)
    (h : (aop Γ nm (ev fr) (.call { callee := .value f, args := args, argTypes := argTypes })).run call K S.hp = some r) (hP : Post S K r fun v w => next (a.put o.dst v) w) : o.wp P a S.w next Q := by
  simp only [aop] at h
  split at h
  · rename_i g cap hf
    split at h
    · rename_i hcl
      obtain ⟨av, hav, h⟩ := run_call_inv h
      obtain ⟨fn, hfn, hb, hnm⟩ := hfs _ _ _ hav
      obtain ⟨vs, hvs, hrun⟩ := run_call ho F hf hfn hb hnm
      have hcalls := hC _ _ _ hav
      have hvs' : VRelL ⟨S.w, S.I, fun _ => .nilIface, fun _ => .free, fun b => b < S.w.heap.size⟩ (args.toList.map (ev fr) ++ cap) vs := VRelL.closed (S := S) (T := ⟨S.w, S.I, fun _ => .nilIface, fun _ => .free, fun b => b < S.w.heap.size⟩) (fun b hb => ⟨hb, rfl⟩) _ hcl hvs
      have hh := hcalls S.w S.I vs H.il hvs'
      unfold Oper.wp
      rw [hrun]
      simp only [Oper.upon]
      refine Calls.mono hh fun e w' he => ?_
      obtain ⟨v, rfl, hc, hsz, hold, hout, hv⟩ := he
      have E1 : Ext Top S { S with w := w', I := fun b => S.I b ∨ (S.w.heap.size ≤ b ∧ b < w'.heap.size) } := by
        refine ⟨fun b hb => ⟨.inl hb, hold b (H.il b hb)⟩, hsz, rfl, fun b hb => hold b (H.bl b hb), fun n _ hn => ?_, fun n _ hn => hn, fun b hb hlt => hb.elim id fun e => absurd (H.bl b hlt) (by omega), hout⟩
        by_cases hl : cellLive (S.hp n)
        · exact .inr ⟨rfl, sameShape_refl hl⟩
        · left
          cases hcc : S.hp n <;> rw [hcc] at hl hn <;> simp [cellLive, Cell.live] at hl hn ⊢
      have H1 : HRel { S with w := w', I := fun b => S.I b ∨ (S.w.heap.size ≤ b ∧ b < w'.heap.size) } :=
        H.world E1 rfl rfl hold (fun b hb hI => hI.elim id fun e => by omega) (fun b hb => hb.elim (fun hb => Nat.lt_of_lt_of_le (H.il b hb) hsz) (fun hb => hb.2))
      exact hP av v { S with w := w', I := fun b => S.I b ∨ (S.w.heap.size ≤ b ∧ b < w'.heap.size) } (run_pure_inv h) H1 E1 (VRel.closed (S := ⟨w', fun b => S.I b ∨ (S.w.heap.size ≤ b ∧ b < w'.heap.size), fun _ => .nilIface, fun _ => .free, fun b => b < S.w.heap.size⟩) (T := { S with w := w', I := fun b => S.I b ∨ (S.w.heap.size ≤ b ∧ b < w'.heap.size) }) (fun b hb => ⟨hb, rfl⟩) av hc hv) (plain_names hc)
    · split at h
      · rename_i pd hpd
        obtain ⟨O, hlv, v, cells', hpv, hlen, hlv', hnew, hK⟩ := run_procM_inv h
        obtain ⟨hP1, hP2⟩ := hX.pr _ _ _ hpd
        obtain ⟨fn, hfn, hb, hnm⟩ := hP1
        obtain ⟨vs, hvs, hrun⟩ := run_call ho F hf hfn hb hnm
        have hnames : AV.namesL (fun m => S.hp m ≠ .free) (args.toList.map (ev fr) ++ cap) := by
          refine (AV.namesL_append _ _).2 ⟨(args_rel F args.toList).2, ?_⟩
          have := ev_names F f
          rw [hf] at this
          unfold AV.names at this
          exact this
        unfold Oper.wp
        rw [hrun]
        simp only [Oper.upon]
        refine Calls.mono (proc_step (F := call.pv g) ⟨⟨fn, hfn, hb, hnm⟩, hP2⟩ O H hvs hlv hpv hlen hlv' hnew) fun e w' he => ?_
        obtain ⟨u, U, rfl, rfl, HU, EU, hcl, hvu, hhp⟩ := he
        exact hP v u U (by rw [hhp]; exact hK) HU EU hvu (AV.names_closed _ hcl)
      · split at h
        · rename_i c n i hsp
          obtain ⟨hargs, hkk⟩ := special_keys hsp
          obtain ⟨⟨fn, hfn, hb, hnm⟩, E, hcalls⟩ := hX.ke _ _ hkk
          obtain ⟨vs, hvs, hrun⟩ := run_call ho F hf hfn hb hnm
          rw [hargs] at hvs
          obtain ⟨mv, s, rfl, hmv, hs⟩ := hvs.cons_inv
          have := hs.nil_inv
          subst this
          replace h := run_rd_inv h
          split at h
          · rename_i v' ess hes
            have hmv' := hmv
            unfold VRel at hmv'
            rw [hes] at hmv'
            obtain ⟨hone, hi, u0, ms, hρ, hms⟩ := hmv'
            have hob := H.ob n
            rw [hes] at hob
            obtain ⟨b, cap', c', E', ms1, q1, q2, q3, q4, q5, q6, q7, q8, q9, q10, q11⟩ := hob
            obtain ⟨_, rfl⟩ := tuple_inj (q1.symm.trans hρ)
            obtain ⟨mv2, p1, r', ents, cl, p2, _⟩ := q11 i _ (List.getElem?_eq_getElem hi)
            have emv : mv = .map (some r') := by rw [hms] at p1; cases p1; exact p2
            unfold Oper.wp
            rw [hrun]
            simp only [Oper.upon]
            have hc := hcalls S.w (some r')
            rw [← emv] at hc
            refine Calls.mono hc fun en w' he => ?_
            obtain ⟨rfl, rfl⟩ := he
            have halloc : (S.w.alloc (.cells #[mv] E)).heap = S.w.heap.push (.cells #[mv] E) := rfl
            have E1 : Ext Top S { S with w := S.w.alloc (.cells #[mv] E), I := fun b => S.I b ∨ b = S.w.heap.size } := by
              refine ⟨fun b hb => ⟨.inl hb, getElem?_push_lt (H.il b hb)⟩, by rw [halloc]; simp, rfl, fun b hb => getElem?_push_lt (H.bl b hb), fun m _ hm => ?_, fun m _ hm => hm, fun b hb hlt => hb.elim id fun e => absurd hlt (e ▸ H.newB), ⟨rfl, rfl⟩⟩
              by_cases hl : cellLive (S.hp m)
              · exact .inr ⟨rfl, sameShape_refl hl⟩
              · left
                cases hcc : S.hp m <;> rw [hcc] at hl hm <;> simp [cellLive, Cell.live] at hl hm ⊢
            have H1 : HRel { S with w := S.w.alloc (.cells #[mv] E), I := fun b => S.I b ∨ b = S.w.heap.size } :=
              H.world E1 rfl rfl (fun b hb => getElem?_push_lt hb) (fun b hb hI => hI.elim id fun e => by omega)
                (fun b hb => by
                  have e : (S.w.alloc (.cells #[mv] E)).heap.size = S.w.heap.size + 1 := by rw [halloc]; simp
                  rcases hb with hb | hb
                  · have := H.il b hb; simp only [e]; omega
                  · simp only [e]; omega)
            refine hP (.keys c n i) _ { S with w := S.w.alloc (.cells #[mv] E), I := fun b => S.I b ∨ b = S.w.heap.size } (run_pure_inv h) H1 E1 ?_ ?_
            · unfold VRel
              refine ⟨rfl, S.w.heap.size, mv, rfl, .inr rfl, fun j u hu => ?_, ?_⟩
              · cases j with
                | zero =>
                  simp only [List.getElem?_cons_zero, Option.some.injEq] at hu
                  subst hu
                  rw [cell_of_row (S.w.alloc (.cells #[mv] E)) S.w.heap.size _ #[mv] E (0, 0) (by rw [halloc]; simp)]
                  rfl
                | succ j => simp at hu
              · simp only [hes]
                exact ⟨hi, u0, ms1, hρ, hms⟩
            · unfold AV.names
              rw [hes]; simp
          · cases h
        · rename_i n i hsp
          obtain ⟨c, hargs, hss⟩ := special_sorted hsp
          obtain ⟨⟨fn, hfn, hb, hnm⟩, hcalls⟩ := hX.so _ _ hss
          obtain ⟨vs, hvs, hrun⟩ := run_call ho F hf hfn hb hnm
          rw [hargs] at hvs
          obtain ⟨kv, s, rfl, hkv, hs⟩ := hvs.cons_inv
          have := hs.nil_inv
          subst this
          replace h := run_rd_inv h
          split at h
          · rename_i v' ess hes
            obtain ⟨hbr, h⟩ := run_brf_inv h
            obtain ⟨hfree, h⟩ := run_new_inv h
            simp only [Bool.and_eq_true, decide_eq_true_eq] at hbr
            unfold VRel at hkv
            rw [hes] at hkv
            obtain ⟨_, b0, mv, rfl, hI0, hc0, hi, u0, ms, hρ, hms⟩ := hkv
            have hob := H.ob n
            rw [hes] at hob
            obtain ⟨b, cap', c', E', ms1, q1, q2, q3, q4, q5, q6, q7, q8, q9, q10, q11⟩ := hob
            obtain ⟨_, rfl⟩ := tuple_inj (q1.symm.trans hρ)
            obtain ⟨mv2, p1, r', ents, cl, p2, p3, p4, p5, p6, p7⟩ := q11 i _ (List.getElem?_eq_getElem hi)
            have emv : mv = .map (some r') := by rw [hms] at p1; cases p1; exact p2
            subst emv
            have egd : ess.getD i [] = ess[i] := by rw [List.getD_eq_getElem?_getD, List.getElem?_eq_getElem hi]; rfl
            rw [egd] at hbr h
            have hkeys : ∀ (es : List (Int × v'.T)) (l : List MapEntry), EntriesAt S.w S.I (.int .i64) v' es l → l.map (·.key) = (es.map (·.1)).map (Value.int .i64) := by
              intro es
              induction es with
              | nil => intro l hl; rw [show l = [] from hl]; rfl
              | cons p es ih =>
                rintro l ⟨m, s, rfl, k1, k2, k3⟩
                have : m.key = Value.int .i64 p.1 := by
                  have := k1.leaf rfl
                  have e : [m.key] = [Value.int .i64 p.1] := this
                  simpa using e
                rw [List.map_cons, List.map_cons, List.map_cons, ih s k3, this]
            have hsz : ents.size = (ess[i]).length := by simpa using p6.length
            have hc := hcalls S.w S.I b0 r' ents cl ((ess[i]).map (·.1)) H.il (by have := hc0 0 (.map (some r')) rfl; simpa using this) p3 p7 (by rw [hsz]; exact hbr.1) (hkeys _ _ p6) hbr.2
            unfold Oper.wp
            rw [hrun]
            simp only [Oper.upon]
            refine Calls.mono hc fun en w' he => ?_
            obtain ⟨v, rfl, hsz', hold, hout, hone, hobj⟩ := he
            have hblk : ∀ z, hasBlk v z → S.w.heap.size ≤ z := by
              intro z hz
              rcases hobj with ⟨h1, h2⟩ | ⟨b', cap', c', E, h1, h2, h3, h4, h5⟩
              · simp only at h1; rw [h1] at hz; replace hz : none = some z := hz; cases hz
              · unfold rowAtV at h1; simp only at h1; rw [h1] at hz; replace hz : some b' = some z := hz; cases hz; simp only at h4; omega
            obtain ⟨H', E'⟩ := H.fresh hfree (.row (.int .i64) (sortedInts ((ess[i]).map (·.1)))) v w' hsz' (fun z hz _ => hold z hz)
              (fun z hz => by
                have := hblk z hz
                exact ⟨fun hI => by have := H.il z hI; omega, fun hB => by have := H.bl z hB; omega, fun m hm hbm => by have := H.lt hm hbm; omega⟩)
              (fun cs hcs => by cases hcs)
              (fun E' => by
                rcases hobj with ⟨h1, h2⟩ | ⟨b', cap', c', E, h1, h2, h3, h4, h5⟩
                · exact .inl ⟨by simp only [upd_same]; exact h1, h2⟩
                · simp only at h4
                  exact .inr ⟨b', cap', c', E, by simp only [upd_same]; exact h1, h2, h3, fun hB => h4 (H.bl _ hB), h5⟩) hout
            refine hP (.ref nm) v _ h H' E' ?_ ?_
            · unfold VRel
              refine ⟨hone, ?_⟩
              simp only [upd_same]
            · unfold AV.names; simp [upd_same]
          · cases h
        · cases h
  · cases h

theorem sound_copy (hΓ : Γ.ok P = true) {o : Oper} {args : Array Operand} {argTypes : Array TypeId} (ho : o.op = .call { callee := .builtin .copy, args := args, argTypes := argTypes }) (H : HRel S) (F : FRel S fr a)
    (h : (aop Γ nm (ev fr) (.call { callee := .builtin .copy, args := args, argTypes := argTypes })).run call K S.hp = some r) (hP : Post S K r fun v w => next (a.put o.dst v) w) : o.wp P a S.w next Q := by
  simp only [aop] at h
  split at h
  · rename_i d s t u hargs htys
    split at h
    · rename_i el hkt
      obtain ⟨E, hu, hE⟩ := kOk_slice (TEnv.kind_ok hΓ hkt)
      obtain ⟨TE⟩ := kOk_ty hE
      obtain ⟨ys, hys, h⟩ := elems_inv H (ev_rel F s) h
      have hd := ev_rel F d
      split at h
      · rename_i n hdn
        rw [hdn] at hd
        unfold VRel at hd
        replace h := run_rd_inv h
        split at h
        · rename_i el' xs hcs
          split at h
          · rename_i hee
            subst hee
            obtain ⟨hc, h⟩ := run_brf_inv h
            simp only [decide_eq_true_eq] at hc
            rw [hcs] at hd
            obtain ⟨_, hp⟩ := hd
            have ho' := H.ob n
            rw [hcs] at ho'
            rcases ho' with ⟨g1, g2⟩ | ⟨b, cap, c, Ec, g1, g2, g3, g4, g5, g6, g7, g8⟩
            · omega
            · obtain ⟨news, n1, n2, n3, n4, n5, _⟩ := ElemsAt.cells (P := P) hys
              have hcl : cellLive (S.hp n) := by rw [hcs]; rfl
              have hb : hasBlk (S.ρ n) b := by unfold rowAtV at g1; rw [g1]; rfl
              have hnl : news.length ≤ c.size := by
                rw [n1, g7]; exact Nat.mul_le_mul_right _ (by omega)
              have hst := run_storeCells_at P b 0 Ec news 0 c S.w g2 (by simpa using hnl) n3
              have hrun : (Builtin.copy_ #[t, u] o.type #[a.eval d, a.eval s]).run P S.w = .ok (.int .i64 (ys.length : Int)) (S.w.setRow b (news ++ c.toList.drop news.length).toArray) := by
                unfold rowAtV at g1
                have hp' : a.eval d = .slice (some ⟨b, 0, none⟩) xs.length cap := by rw [hp]; exact g1
                have hmin : Nat.min ys.length xs.length = ys.length := Nat.min_eq_left hc.1
                simp only [Nat.zero_add, List.take_zero, List.nil_append] at hst
                simp [Builtin.copy_, run_underlying hu, hp', n4, hmin, TE.run_size, n5, hst, goInt]
              obtain ⟨H', E'⟩ := H.write hcl (.row el' (ys ++ xs.drop ys.length)) (S.w.setRow b (news ++ c.toList.drop news.length).toArray) (by rw [hcs]; exact ⟨rfl, by simp; omega⟩)
                (fun b' hb' => setRow_other _ _ _ _ (fun e => hb' (e ▸ hb))) (setRow_size _ _ _)
                (fun E' => by
                  have hlen : (ys ++ xs.drop ys.length).length = xs.length := by simp; omega
                  refine .inr ⟨b, cap, _, Ec, by unfold rowAtV at g1 ⊢; rw [hlen]; exact g1, setRow_heap S.w b c _ Ec (0, 0) g2, g3, g4, by rw [hlen]; exact g5, g6, by simp; omega, fun i hi => ?_⟩
                  rw [hlen] at hi
                  by_cases hiy : i < ys.length
                  · obtain ⟨us, q1, q2⟩ := RelL.get (d := el'.dflt) (fun x vs hh => RelK.length el' hh) n2 i hiy
                    refine ⟨us, RelK.later (fun b hb => ⟨E'.i b hb |>.1, E'.i b hb |>.2⟩) el' (by rw [List.getD_eq_getElem?_getD, List.getElem?_append_left hiy, ← List.getD_eq_getElem?_getD]; exact q1), fun j u hj => ?_⟩
                    have q3 := q2 j u hj
                    have hlt := (List.getElem?_eq_some_iff.1 q3).1
                    rw [List.getElem?_toArray, List.getElem?_append_left hlt]
                    exact q3
                  · obtain ⟨us, q1, q2⟩ := g8 i hi
                    refine ⟨us, RelK.later (fun b hb => ⟨E'.i b hb |>.1, E'.i b hb |>.2⟩) el' (by rw [List.getD_eq_getElem?_getD, List.getElem?_append_right (by omega), List.getElem?_drop, show ys.length + (i - ys.length) = i by omega, ← List.getD_eq_getElem?_getD]; exact q1), fun j u hj => ?_⟩
                    have q3 := q2 j u hj
                    have hle : news.length ≤ i * el'.size + j := by
                      rw [n1]
                      have : ys.length * el'.size ≤ i * el'.size := Nat.mul_le_mul_right _ (by omega)
                      omega
                    rw [List.getElem?_toArray, List.getElem?_append_right hle, List.getElem?_drop, show news.length + (i * el'.size + j - news.length) = i * el'.size + j by omega]
                    simpa using q3)
                (fun cs hcs => by cases hcs)
              have hexec : (execOp a.eval o).run P S.w = .ok (.value (.int .i64 (ys.length : Int))) (S.w.setRow b (news ++ c.toList.drop news.length).toArray) := by
                have e1 : args = #[d, s] := by apply Array.ext'; simpa using hargs
                have e2 : argTypes = #[t, u] := by apply Array.ext'; simpa using htys
                subst e1 e2
                simp only [execOp, ho, resolve, invoke, builtin, Sem.run_bind, Sem.run_pure, Result.andThen_ok, List.map_toArray, List.map_cons, List.map_nil, hrun]
              exact wp_value hexec (hP _ _ _ (run_pure_inv (run_wr_inv h)) H' E' .int_mk (plain_names rfl))
          · cases h
        · cases h
      · cases h
    · cases h
  · cases h

theorem sound_nilCheck {o : Oper} {x : Operand} (ho : o.op = .nilCheck x) (H : HRel S) (F : FRel S fr a)
    (h : (aop Γ nm (ev fr) (.nilCheck x)).run call K S.hp = some r) (hP : Post S K r fun v w => next (a.put o.dst v) w) : o.wp P a S.w next Q := by
  simp only [aop] at h
  have hx := ev_rel F x
  have hn := ev_names F x
  split at h
  · rename_i n off he
    rw [he] at hx hn
    unfold VRel at hx
    obtain ⟨h1, h2⟩ := hx
    replace h := run_rd_inv h
    split at h
    · rename_i cs hc
      rw [hc] at h2
      obtain ⟨b, hb, hp⟩ := h2
      refine wp_value (v := .pointer (some ⟨b, off, none⟩)) ?_ (hP.stay H (run_pure_inv h) (by unfold VRel; refine ⟨rfl, ?_⟩; rw [hc]; exact ⟨b, hb, rfl⟩) hn)
      simp [execOp, ho, hp]
    · cases h
  · cases h

/-- ALL OPERATIONS. -/
theorem op_sound (hΓ : Γ.ok P = true) (hC : SoundCall P call)
    (hfs : ∀ g as r, call.av g as = some r → ∃ fn, P.funcs[g]? = some fn ∧ fn.body.isSome = true ∧ fn.name ≠ "runtime.NumGoroutine")
    (hX : Special P Γ call)
    {o : Oper} (H : HRel S) (F : FRel S fr a) (h : (aop Γ nm (ev fr) o.op).run call K S.hp = some r) (hP : Post S K r fun v w => next (a.put o.dst v) w) : o.wp P a S.w next Q := by
  generalize ho : o.op = op at h
  cases op with
  | move x => exact sound_move (.inl ho) H F h hP
  | nilCheck x => exact sound_nilCheck ho H F h hP
  | assign x => exact sound_move (.inr ho) H F h hP
  | pick c x y => exact sound_pick ho H F h hP
  | alloc t => exact sound_alloc hΓ ho H h hP
  | box t x => exact sound_box ho H F h hP
  | build t parts => exact sound_build hΓ ho H F h hP
  | buildSlice t n parts => exact sound_buildSlice hΓ ho H F h hP
  | insert t m k x => exact sound_mapUpdate (nm := nm) hΓ (.inr ho) H F h hP
  | load t x => exact sound_load hΓ ho H F h hP
  | store t x y => exact sound_store hΓ ho H F h hP
  | binOp op t x y ty => exact sound_binOp hΓ ho H F h hP
  | unOp op t x => exact sound_unOp ho H F h hP
  | convert s d x => exact sound_convert hΓ ho H F h hP
  | makeFunc fn first cap => exact sound_makeFunc ho H F h hP
  | makeMap t rv => exact sound_makeMap ho H h hP
  | makeSlice t l c => exact sound_makeSlice hΓ ho H F h hP
  | slice t x lo hi mx => exact sound_slice hΓ ho H F h hP
  | fieldAddr t x f => exact sound_fieldAddr hΓ ho H F h hP
  | field t x f => exact sound_field hΓ ho H F h hP
  | indexAddr t x i => exact sound_indexAddr hΓ ho H F h hP
  | index t x i => exact sound_index hΓ ho H F h hP
  | lookup t x i ok => exact sound_lookup hΓ ho H F h hP
  | mapUpdate t m k x => exact sound_mapUpdate hΓ (.inl ho) H F h hP
  | extract x i => exact sound_extract ho H F h hP
  | call c =>
    obtain ⟨callee, args, argTypes⟩ := c
    cases callee with
    | value f => exact sound_call hC hfs hX ho H F h hP
    | invoke r m => cases h
    | builtin b =>
      cases b with
      | len => exact sound_len hΓ ho H F h hP
      | append => exact sound_append hΓ ho H F h hP
      | copy => exact sound_copy hΓ ho H F h hP
      | _ => cases h
  | _ => cases h

end ops
end Go.AM
