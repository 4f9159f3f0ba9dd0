/- Equality of plain values, keys of maps. -/
import Derived.Test.YtdjbokdohackdaaA9
import Derived.Laws.StructEq
import Derived.ChangeKeysEq
namespace Go.AM
open Go

theorem run_part {P : Program} {k : Kind} {t : TypeId} (T : TyIs P k t) {w : World} {I : Nat → Prop} {x : k.T} {l pre post : List Value} {cs : Array Value} {off : Nat}
    (hc : cs.toList = pre ++ l ++ post) (hp : pre.length = off) (h : RelK w I k x l) : ∃ v, (part t cs off).run P w = .ok v w ∧ VK w I k x v := by
  have hl := RelK.length k h
  cases ha : k.isAgg with
  | true =>
    refine ⟨.agg l.toArray, ?_, by unfold VK; rw [if_pos ha]; exact ⟨l, rfl, h⟩⟩
    simp only [part, Sem.run_bind, T.agg w, Result.andThen_ok, ha, if_true, T.run_size, Sem.run_pure]
    congr 3
    apply Array.ext'
    subst hp
    rw [Array.toList_extract, hc, ← hl]
    simp [List.extract_eq_take_drop]
  | false =>
    have h1 := Kind.size_leaf ha
    rw [h1] at hl
    match l, hl with
    | [u], _ =>
      refine ⟨u, ?_, by unfold VK; rw [if_neg (by simp [ha])]; exact h⟩
      have : cs[off]? = some u := by
        rw [← Array.getElem?_toList, hc]
        subst hp
        simp
      simp [part, T.agg w, ha, this]

theorem VK.leaf {w : World} {I : Nat → Prop} {k : Kind} {x : k.T} {v : Value} (h : VK w I k x v) (ha : k.isAgg = false) : RelK w I k x [v] := by
  unfold VK at h; rw [if_neg (by simp [ha])] at h; exact h
theorem VK.agg {w : World} {I : Nat → Prop} {k : Kind} {x : k.T} {v : Value} (h : VK w I k x v) (ha : k.isAgg = true) : ∃ vs : List Value, v = .agg vs.toArray ∧ RelK w I k x vs := by
  unfold VK at h; rw [if_pos ha] at h; exact h

theorem strOf_eq (a b : List UInt8) : (ByteArray.mk a.toArray == ByteArray.mk b.toArray) = decide (a = b) := by
  have h1 : (ByteArray.mk a.toArray == ByteArray.mk b.toArray) = (a == b) := by
    show ((a.toArray : Array UInt8) == b.toArray) = (a == b)
    simp
  rw [h1]
  cases h : decide (a = b) with
  | true => simp only [decide_eq_true_eq] at h; subst h; simp
  | false => simp only [decide_eq_false_iff_not] at h; simp [h]

theorem toList_mk (a : List UInt8) : (ByteArray.mk a.toArray).toList = a := by
  rw [ByteArray.toList_eq]

section eq
variable {P : Program} {w : World} {I : Nat → Prop}

mutual
theorem equalIn_rel : ∀ {k : Kind} {t : TypeId}, kOk P k t = true → k.eqOk = true → ∀ d, k.deep ≤ d → ∀ {x y : k.T} {v u : Value}, VK w I k x v → VK w I k y u →
    (Op.equalIn d t v u).run P w = .ok (k.eqB x y) w
  | .bool, t, h, he, d, hd, x, y, v, u, hv, hu => by
    obtain ⟨d, rfl⟩ : ∃ e, d = e + 1 := ⟨d - 1, by simp [Kind.deep] at hd; omega⟩
    have e1 : v = .bool x := by simpa [RelK] using hv.leaf rfl
    have e2 : u = .bool y := by simpa [RelK] using hu.leaf rfl
    subst e1 e2
    simp [Op.equalIn, run_underlying (kOk_bool h), Kind.eqB]
  | .int k, t, h, he, d, hd, x, y, v, u, hv, hu => by
    obtain ⟨d, rfl⟩ : ∃ e, d = e + 1 := ⟨d - 1, by simp [Kind.deep] at hd; omega⟩
    have e1 : v = .int k x := by simpa [RelK] using hv.leaf rfl
    have e2 : u = .int k y := by simpa [RelK] using hu.leaf rfl
    subst e1 e2
    rw [run_equalIn_int w d t k k x y (kOk_int h)]
    congr 1
  | .str, t, h, he, d, hd, x, y, v, u, hv, hu => by
    obtain ⟨d, rfl⟩ : ∃ e, d = e + 1 := ⟨d - 1, by simp [Kind.deep] at hd; omega⟩
    have e1 : v = strOf x := by simpa [RelK] using hv.leaf rfl
    have e2 : u = strOf y := by simpa [RelK] using hu.leaf rfl
    subst e1 e2
    unfold strOf
    rw [run_equalIn_string w d t _ _ (kOk_str h), toList_mk, toList_mk]
    congr 1
    unfold Kind.eqB
    cases hh : decide ((x : List UInt8) = y) with
    | true => simp only [decide_eq_true_eq] at hh; rw [hh]; simp
    | false => simp only [decide_eq_false_iff_not] at hh; simp [hh]
  | .dyn _, t, h, he, _, _, _, _, _, _, _, _ => by simp [Kind.eqOk] at he
  | .slice _, t, h, he, _, _, _, _, _, _, _, _ => by simp [Kind.eqOk] at he
  | .rx, t, h, he, _, _, _, _, _, _, _, _ => by simp [Kind.eqOk] at he
  | .unit, t, h, he, d, hd, x, y, v, u, hv, hu => by
    obtain ⟨d, rfl⟩ : ∃ e, d = e + 1 := ⟨d - 1, by simp [Kind.deep] at hd; omega⟩
    unfold kOk at h
    simp only [Bool.and_eq_true, Bool.not_eq_true'] at h
    split at h
    · rename_i fs hut
      have hfs : P.fieldsOf t = fs := by simp [Program.fieldsOf, hut]
      have hnil : fs.toList = [] := by simpa using h.2
      obtain ⟨l, rfl, hl⟩ := hv.agg rfl
      obtain ⟨m, rfl, hm⟩ := hu.agg rfl
      rw [run_equalIn_struct w d t _ _ (by rw [hfs]; exact hut) h.1.2, hfs, hnil]
      rfl
    · simp at h
  | .pair a b, t, h, he, d, hd, x, y, v, u, hv, hu => by
    obtain ⟨d, rfl⟩ : ∃ e, d = e + 1 := ⟨d - 1, by simp [Kind.deep] at hd; omega⟩
    unfold kOk at h
    simp only [Bool.and_eq_true] at h
    split at h
    · rename_i fs hut
      have hfs : P.fieldsOf t = fs := by simp [Program.fieldsOf, hut]
      have hst : P.stoodInHeld t = false := by
        have := h.1.2
        rw [he] at this
        simpa using this
      obtain ⟨l, rfl, hl⟩ := hv.agg rfl
      obtain ⟨m, rfl, hm⟩ := hu.agg rfl
      rw [run_equalIn_struct w d t _ _ (by rw [hfs]; exact hut) hst, hfs]
      split at h
      · rename_i f r hlst
        simp only [Bool.and_eq_true, beq_iff_eq, bne_iff_ne, ne_eq] at h
        obtain ⟨_, ⟨⟨ho, hn⟩, hf⟩, hr⟩ := h
        rw [hlst]
        simp only [Kind.eqOk, Bool.and_eq_true] at he
        simp only [Kind.deep] at hd
        obtain ⟨l1, l2, rfl, h1, h2⟩ := hl
        obtain ⟨m1, m2, rfl, h3, h4⟩ := hm
        obtain ⟨T⟩ := kOk_ty hf
        obtain ⟨p, hp, hpv⟩ := run_part T (cs := (l1 ++ l2).toArray) (pre := []) (post := l2) (off := f.offset) (by simp) (by simp [ho]) h1
        obtain ⟨q, hq, hqv⟩ := run_part T (cs := (m1 ++ m2).toArray) (pre := []) (post := m2) (off := f.offset) (by simp) (by simp [ho]) h3
        have e1 := equalIn_rel hf he.1 d (by omega) hpv hqv
        simp only [Op.eqFields, hn, ne_eq, not_false_eq_true, if_true, Sem.run_bind, hp, hq, e1, Result.andThen_ok]
        rw [show Kind.eqB (.pair a b) x y = (a.eqB x.1 y.1 && b.eqB x.2 y.2) from rfl]
        cases a.eqB x.1 y.1 with
        | false => simp
        | true =>
          have hl1 := RelK.length a h1
          have hm1 := RelK.length a h3
          have := eqFields_rel (k := b) hr he.2 d (by omega) (pre := l1) (pre' := m1) (l := l2) (m := m2) (x := x.2) (y := y.2) hl1 hm1 h2 h4
          simpa using this
      · simp at h
    · simp at h
  | .arr n e, t, h, he, d, hd, x, y, v, u, hv, hu => by
    obtain ⟨d, rfl⟩ : ∃ e, d = e + 1 := ⟨d - 1, by simp [Kind.deep] at hd; omega⟩
    obtain ⟨E, hut, hE⟩ := kOk_arr h
    obtain ⟨T⟩ := kOk_ty hE
    obtain ⟨l, rfl, hlen, hl⟩ := hv.agg rfl
    obtain ⟨m, rfl, hlen', hm⟩ := hu.agg rfl
    rw [run_equalIn_array w d _ _ hut T.hi]
    have hcs : P.cellsOf E = e.size := by simp [Program.cellsOf, T.hi, T.size]
    simp only [Kind.eqOk] at he
    simp only [Kind.deep] at hd
    rw [hcs]
    have key : ∀ (xs ys : List e.T) (pre pre' l m : List Value) (i : Nat), xs.length = ys.length → pre.length = i * e.size → pre'.length = i * e.size → RelL (RelK w I e) xs l → RelL (RelK w I e) ys m →
        (Op.eqItems d E e.size (pre ++ l).toArray (pre' ++ m).toArray (List.range' i xs.length)).run P w = .ok (listEqB e.eqB xs ys) w := by
      intro xs
      induction xs with
      | nil =>
        intro ys pre pre' l m i hlen _ _ _ _
        match ys, hlen with
        | [], _ => rfl
      | cons z xs ih =>
        intro ys pre pre' l m i hlen hp hp' h1 h2
        match ys, hlen with
        | z' :: ys, hlen =>
          obtain ⟨l1, l2, rfl, g1, g2⟩ := h1
          obtain ⟨m1, m2, rfl, g3, g4⟩ := h2
          obtain ⟨p, hpp, hpv⟩ := run_part T (cs := (pre ++ (l1 ++ l2)).toArray) (pre := pre) (post := l2) (off := i * e.size) (by simp) hp g1
          obtain ⟨q, hqq, hqv⟩ := run_part T (cs := (pre' ++ (m1 ++ m2)).toArray) (pre := pre') (post := m2) (off := i * e.size) (by simp) hp' g3
          have e1 := equalIn_rel hE he d (by omega) hpv hqv
          rw [List.length_cons, List.range'_succ]
          simp only [Op.eqItems, Sem.run_bind, hpp, hqq, e1, Result.andThen_ok]
          unfold listEqB
          cases e.eqB z z' with
          | false => simp
          | true =>
            have := ih ys (pre ++ l1) (pre' ++ m1) l2 m2 (i + 1) (by simpa using hlen) (by rw [List.length_append, hp, RelK.length e g1, Nat.succ_mul]) (by rw [List.length_append, hp', RelK.length e g3, Nat.succ_mul]) g2 g4
            simpa using this
    have := key x y [] [] l m 0 (by rw [hlen, hlen']) (by simp) (by simp) hl hm
    rw [List.range_eq_range']
    rw [hlen] at this
    rw [show Kind.eqB (.arr n e) x y = listEqB e.eqB x y from rfl]
    simpa using this
theorem eqFields_rel : ∀ {k : Kind} {fs : List Field} {off : Nat}, fieldsOk P k fs off = true → k.eqOk = true → ∀ d, k.deep ≤ d + 1 → ∀ {x y : k.T} {pre pre' l m : List Value}, pre.length = off → pre'.length = off →
    RelK w I k x l → RelK w I k y m → (Op.eqFields d (pre ++ l).toArray (pre' ++ m).toArray fs).run P w = .ok (k.eqB x y) w
  | .unit, fs, off, h, he, d, hd, x, y, pre, pre', l, m, hp, hp', hl, hm => by
    cases fs with
    | nil => rfl
    | cons _ _ => simp [fieldsOk] at h
  | .pair a b, fs, off, h, he, d, hd, x, y, pre, pre', l, m, hp, hp', hl, hm => by
    cases fs with
    | nil => simp [fieldsOk] at h
    | cons f r =>
      simp only [fieldsOk, Bool.and_eq_true, beq_iff_eq, bne_iff_ne, ne_eq] at h
      obtain ⟨⟨⟨ho, hn⟩, hf⟩, hr⟩ := h
      simp only [Kind.eqOk, Bool.and_eq_true] at he
      simp only [Kind.deep] at hd
      obtain ⟨l1, l2, rfl, h1, h2⟩ := hl
      obtain ⟨m1, m2, rfl, h3, h4⟩ := hm
      obtain ⟨T⟩ := kOk_ty hf
      obtain ⟨p, hpp, hpv⟩ := run_part T (cs := (pre ++ (l1 ++ l2)).toArray) (pre := pre) (post := l2) (off := f.offset) (by simp) (by rw [ho]; exact hp) h1
      obtain ⟨q, hqq, hqv⟩ := run_part T (cs := (pre' ++ (m1 ++ m2)).toArray) (pre := pre') (post := m2) (off := f.offset) (by simp) (by rw [ho]; exact hp') h3
      have e1 := equalIn_rel hf he.1 d (by omega) hpv hqv
      simp only [Op.eqFields, hn, ne_eq, not_false_eq_true, if_true, Sem.run_bind, hpp, hqq, e1, Result.andThen_ok]
      rw [show Kind.eqB (.pair a b) x y = (a.eqB x.1 y.1 && b.eqB x.2 y.2) from rfl]
      cases a.eqB x.1 y.1 with
      | false => simp
      | true =>
        have := eqFields_rel (k := b) hr he.2 d (by omega) (pre := pre ++ l1) (pre' := pre' ++ m1) (l := l2) (m := m2) (x := x.2) (y := y.2)
          (by rw [List.length_append, hp, RelK.length a h1]) (by rw [List.length_append, hp', RelK.length a h3]) h2 h4
        simpa using this
  | .bool, fs, off, h, _, _, _, _, _, _, _, _, _, _, _, _, _ => by simp [fieldsOk] at h
  | .int _, fs, off, h, _, _, _, _, _, _, _, _, _, _, _, _, _ => by simp [fieldsOk] at h
  | .str, fs, off, h, _, _, _, _, _, _, _, _, _, _, _, _, _ => by simp [fieldsOk] at h
  | .dyn _, fs, off, h, _, _, _, _, _, _, _, _, _, _, _, _, _ => by simp [fieldsOk] at h
  | .slice _, fs, off, h, _, _, _, _, _, _, _, _, _, _, _, _, _ => by simp [fieldsOk] at h
  | .arr _ _, fs, off, h, _, _, _, _, _, _, _, _, _, _, _, _, _ => by simp [fieldsOk] at h
  | .rx, fs, off, h, _, _, _, _, _, _, _, _, _, _, _, _, _ => by simp [fieldsOk] at h
end
end eq
end Go.AM
