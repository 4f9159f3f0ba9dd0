/- The types: what the kinds say of the program's table; loads and stores of whole variables. -/
import Derived.Test.YtdjbokdohackdaaA5
namespace Go.AM
open Go

def isZero : AV → Value → Bool
  | .bool a, .bool b => a == b
  | .int k n, .int k' m => decide (k = k') && decide (n = m)
  | .str s, .string t => decide (t.data.toList = s)
  | .nilsl, .slice none 0 0 => true
  | .nilp, .pointer none => true
  | .nilmap, .map none => true
  | .nilfn, .nilFunc => true
  | .nilif, .nilIface => true
  | _, _ => false

def areZero : List AV → List Value → Bool
  | [], [] => true
  | a :: r, v :: s => isZero a v && areZero r s
  | _, _ => false

def aggV : Value → Bool
  | .agg _ => true
  | _ => false

def infoOk (P : Program) (k : Kind) (t : TypeId) : Bool :=
  match P.info? t with
  | some i => i.size == k.size && decide (i.bytes ≤ 128) && (match i.zero with | some z => areZero k.zero z.cells.toList && aggV z == k.isAgg | none => false)
  | none => false

mutual
def kOk (P : Program) : Kind → TypeId → Bool
  | .bool, t => infoOk P .bool t && (match P.underlying t with | some .bool => true | _ => false)
  | .int k, t => infoOk P (.int k) t && (match P.underlying t with | some (.int k') => decide (k = k') | _ => false)
  | .str, t => infoOk P .str t && (match P.underlying t with | some .string => true | _ => false)
  | .dyn d, t => infoOk P (.dyn d) t && (match P.underlying t with | some (.pointer _) => d == 0 | some (.map _ _) => d == 1 | some (.func _ _ _) => d == 2 | some (.interface _) => d == 3 | _ => false)
  | .slice e, t => infoOk P (.slice e) t && (match P.underlying t with | some (.slice E) => kOk P e E | _ => false)
  | .unit, t => infoOk P .unit t && !P.stoodInHeld t && (match P.underlying t with | some (.struct fs) => fs.toList.isEmpty | _ => false)
  | .pair a b, t => infoOk P (.pair a b) t && (!(Kind.pair a b).eqOk || !P.stoodInHeld t) && (match P.underlying t with
    | some (.struct fs) => (match fs.toList with
      | f :: r => f.offset == 0 && f.name != "_" && kOk P a f.type && fieldsOk P b r a.size
      | [] => false)
    | _ => false)
  | .arr n e, t => infoOk P (.arr n e) t && (match P.underlying t with | some (.array m E) => m == n && kOk P e E | _ => false)
  | .rx, t => infoOk P .rx t && (match P.underlying t with
    | some (.struct fs) => (match fs.toList with
      | [f, g, h] => f.offset == 0 && g.offset == 1 && h.offset == 5 && infoOk P (.int .i64) f.type && infoOk P (.arr 4 (.int .u64)) g.type && infoOk P (.slice .rx) h.type &&
          (match P.underlying f.type with | some (.int .i64) => true | _ => false) && (match P.underlying g.type with | some (.array _ _) => true | _ => false) &&
          (match P.underlying h.type with | some (.slice _) => true | _ => false)
      | _ => false)
    | _ => false)
  | .fnk, t => infoOk P .fnk t && (match P.underlying t with | some (.func _ _ _) => true | _ => false)
def fieldsOk (P : Program) : Kind → List Field → Nat → Bool
  | .unit, [], _ => true
  | .pair a b, f :: r, off => f.offset == off && f.name != "_" && kOk P a f.type && fieldsOk P b r (off + a.size)
  | _, _, _ => false
end

def TEnv.ok (Γ : TEnv) (P : Program) : Bool :=
  Γ.kinds.all (fun p => kOk P p.2 p.1 && decide (p.2.deep ≤ 50)) && decide (50 ≤ P.depth) &&
  Γ.maps.all (fun p => match P.underlying p.1 with | some (.map K V) => kOk P p.2.1 K && kOk P p.2.2 V && decide (p.2.1.deep ≤ 50) | _ => false)

/-- what is needed of one type: its row, and whether it is a struct or an array -/
structure TyIs (P : Program) (k : Kind) (t : TypeId) where
  i : TypeInfo
  z : Value
  hi : P.info? t = some i
  hz : i.zero = some z
  size : i.size = k.size
  bytes : i.bytes ≤ 128
  zero : areZero k.zero z.cells.toList = true
  zagg : aggV z = k.isAgg
  agg : ∀ w, (isAgg t).run P w = .ok k.isAgg w

theorem infoOk_get {P : Program} {k : Kind} {t : TypeId} (h : infoOk P k t = true) :
    ∃ i z, P.info? t = some i ∧ i.zero = some z ∧ i.size = k.size ∧ i.bytes ≤ 128 ∧ areZero k.zero z.cells.toList = true ∧ aggV z = k.isAgg := by
  unfold infoOk at h
  cases hi : P.info? t with
  | none => rw [hi] at h; simp at h
  | some i =>
    rw [hi] at h
    simp only [Bool.and_eq_true, beq_iff_eq, decide_eq_true_eq] at h
    cases hz : i.zero with
    | none => rw [hz] at h; simp at h
    | some z =>
      rw [hz] at h
      simp only [Bool.and_eq_true, beq_iff_eq] at h
      exact ⟨i, z, rfl, hz, h.1.1, h.1.2, h.2.1, h.2.2⟩

theorem run_isAgg {P : Program} {t : TypeId} {d : TypeDesc} (h : P.underlying t = some d) (w : World) :
    (isAgg t).run P w = .ok (match d with | .struct _ | .array _ _ => true | _ => false) w := by
  simp only [isAgg, Sem.run_bind, run_underlying h, Result.andThen_ok]
  cases d <;> rfl

theorem TyIs.mk' {P : Program} {k : Kind} {t : TypeId} (h : infoOk P k t = true) {d : TypeDesc} (hd : P.underlying t = some d)
    (ha : (match d with | .struct _ | .array _ _ => true | _ => false) = k.isAgg) : Nonempty (TyIs P k t) := by
  obtain ⟨i, z, h1, h2, h3, h4, h5, h6⟩ := infoOk_get h
  exact ⟨⟨i, z, h1, h2, h3, h4, h5, h6, fun w => by rw [run_isAgg hd, ha]⟩⟩

theorem kOk_ty {P : Program} : ∀ {k : Kind} {t : TypeId}, kOk P k t = true → Nonempty (TyIs P k t)
  | .bool, t, h => by
    unfold kOk at h
    simp only [Bool.and_eq_true] at h
    split at h
    · exact TyIs.mk' h.1 ‹_› rfl
    · simp at h
  | .int k, t, h => by
    unfold kOk at h
    simp only [Bool.and_eq_true] at h
    split at h
    · exact TyIs.mk' h.1 ‹_› rfl
    · simp at h
  | .str, t, h => by
    unfold kOk at h
    simp only [Bool.and_eq_true] at h
    split at h
    · exact TyIs.mk' h.1 ‹_› rfl
    · simp at h
  | .dyn d, t, h => by
    unfold kOk at h
    simp only [Bool.and_eq_true] at h
    split at h
    · exact TyIs.mk' h.1 ‹_› rfl
    · exact TyIs.mk' h.1 ‹_› rfl
    · exact TyIs.mk' h.1 ‹_› rfl
    · exact TyIs.mk' h.1 ‹_› rfl
    · simp at h
  | .slice e, t, h => by
    unfold kOk at h
    simp only [Bool.and_eq_true] at h
    split at h
    · exact TyIs.mk' h.1 ‹_› rfl
    · simp at h
  | .unit, t, h => by
    unfold kOk at h
    simp only [Bool.and_eq_true] at h
    split at h
    · exact TyIs.mk' h.1.1 ‹_› rfl
    · simp at h
  | .pair a b, t, h => by
    unfold kOk at h
    simp only [Bool.and_eq_true] at h
    split at h
    · exact TyIs.mk' h.1.1 ‹_› rfl
    · simp at h
  | .arr n e, t, h => by
    unfold kOk at h
    simp only [Bool.and_eq_true] at h
    split at h
    · exact TyIs.mk' h.1 ‹_› rfl
    · simp at h
  | .rx, t, h => by
    unfold kOk at h
    simp only [Bool.and_eq_true] at h
    split at h
    · exact TyIs.mk' h.1 ‹_› rfl
    · simp at h
  | .fnk, t, h => by
    unfold kOk at h
    simp only [Bool.and_eq_true] at h
    split at h
    · exact TyIs.mk' h.1 ‹_› rfl
    · simp at h

theorem kOk_slice {P : Program} {e : Kind} {t : TypeId} (h : kOk P (.slice e) t = true) : ∃ E, P.underlying t = some (.slice E) ∧ kOk P e E = true := by
  unfold kOk at h
  simp only [Bool.and_eq_true] at h
  split at h
  · exact ⟨_, ‹_›, h.2⟩
  · simp at h

theorem kOk_arr {P : Program} {n : Nat} {e : Kind} {t : TypeId} (h : kOk P (.arr n e) t = true) : ∃ E, P.underlying t = some (.array n E) ∧ kOk P e E = true := by
  unfold kOk at h
  simp only [Bool.and_eq_true] at h
  split at h
  · simp only [Bool.and_eq_true, beq_iff_eq] at h
    obtain ⟨_, rfl, h⟩ := h
    exact ⟨_, ‹_›, h⟩
  · simp at h

theorem kOk_int {P : Program} {k : IntKind} {t : TypeId} (h : kOk P (.int k) t = true) : P.underlying t = some (.int k) := by
  unfold kOk at h
  simp only [Bool.and_eq_true] at h
  split at h
  · simp only [decide_eq_true_eq] at h
    obtain ⟨_, rfl⟩ := h
    exact ‹_›
  · simp at h

theorem kOk_str {P : Program} {t : TypeId} (h : kOk P .str t = true) : P.underlying t = some .string := by
  unfold kOk at h
  simp only [Bool.and_eq_true] at h
  split at h
  · rename_i hu; exact hu
  · simp at h

theorem kOk_bool {P : Program} {t : TypeId} (h : kOk P .bool t = true) : P.underlying t = some .bool := by
  unfold kOk at h
  simp only [Bool.and_eq_true] at h
  split at h
  · rename_i hu; exact hu
  · simp at h

theorem fieldsOk_at {P : Program} : ∀ {k : Kind} {fs : List Field} {off f : Nat} {o : Nat} {fk : Kind}, fieldsOk P k fs off = true → k.fieldAt f = some (o, fk) →
    ∃ fld, fs[f]? = some fld ∧ fld.offset = off + o ∧ Nonempty (TyIs P fk fld.type) ∧ o + fk.size ≤ k.size
  | .pair a b, fs, off, 0, o, fk, h, he => by
    cases fs with
    | nil => simp [fieldsOk] at h
    | cons f r =>
      simp only [fieldsOk, Bool.and_eq_true, beq_iff_eq] at h
      simp only [Kind.fieldAt, Option.some.injEq, Prod.mk.injEq] at he
      obtain ⟨rfl, rfl⟩ := he
      exact ⟨f, rfl, by rw [h.1.1.1]; rfl, kOk_ty h.1.2, by simp [Kind.size]⟩
  | .pair a b, fs, off, f + 1, o, fk, h, he => by
    cases fs with
    | nil => simp [fieldsOk] at h
    | cons g r =>
      simp only [fieldsOk, Bool.and_eq_true, beq_iff_eq] at h
      simp only [Kind.fieldAt, Option.bind_eq_some_iff] at he
      obtain ⟨⟨o', k'⟩, h1, he⟩ := he
      simp only [Option.some.injEq, Prod.mk.injEq] at he
      obtain ⟨rfl, rfl⟩ := he
      obtain ⟨fld, g1, g2, g3, g4⟩ := fieldsOk_at h.2 h1
      exact ⟨fld, by simpa using g1, by rw [g2]; omega, g3, by simp [Kind.size]; omega⟩
  | .unit, fs, off, f, o, fk, h, he => by simp [Kind.fieldAt] at he
  | .bool, fs, off, f, o, fk, h, he => by simp [Kind.fieldAt] at he
  | .int _, fs, off, f, o, fk, h, he => by simp [Kind.fieldAt] at he
  | .str, fs, off, f, o, fk, h, he => by simp [Kind.fieldAt] at he
  | .dyn _, fs, off, f, o, fk, h, he => by simp [Kind.fieldAt] at he
  | .slice _, fs, off, f, o, fk, h, he => by simp [Kind.fieldAt] at he
  | .arr _ _, fs, off, f, o, fk, h, he => by simp [Kind.fieldAt] at he
  | .rx, fs, off, f, o, fk, h, he => by simp [fieldsOk] at h

theorem kOk_field {P : Program} {k : Kind} {t f o : Nat} {fk : Kind} (h : kOk P k t = true) (he : k.fieldAt f = some (o, fk)) :
    ∃ fs fld, P.underlying t = some (.struct fs) ∧ fs[f]? = some fld ∧ fld.offset = o ∧ Nonempty (TyIs P fk fld.type) ∧ o + fk.size ≤ k.size := by
  cases k with
  | pair a b =>
    unfold kOk at h
    simp only [Bool.and_eq_true] at h
    split at h
    · rename_i fs hu
      have h2 : fieldsOk P (.pair a b) fs.toList 0 = true := by
        unfold fieldsOk
        split at h
        · rename_i f r hl
          rw [hl]
          simp only [Bool.and_eq_true] at h ⊢
          simp only [Nat.zero_add]
          exact h.2
        · simp at h
      obtain ⟨fld, g1, g2, g3, g4⟩ := fieldsOk_at h2 he
      exact ⟨fs, fld, hu, by simpa using g1, by simpa using g2, g3, g4⟩
    · simp at h
  | rx =>
    unfold kOk at h
    simp only [Bool.and_eq_true] at h
    split at h
    · rename_i fs hu
      split at h
      · rename_i f0 f1 f2 hl
        simp only [Bool.and_eq_true, beq_iff_eq] at h
        obtain ⟨_, ⟨⟨⟨⟨⟨⟨⟨o0, o1⟩, o2⟩, i0⟩, i1⟩, i2⟩, u0⟩, u1⟩, u2⟩ := h
        have hget : ∀ n : Nat, fs[n]? = fs.toList[n]? := fun n => by simp
        match f, he with
        | 0, he =>
          simp only [Kind.fieldAt, Option.some.injEq, Prod.mk.injEq] at he
          obtain ⟨rfl, rfl⟩ := he
          split at u0
          · exact ⟨fs, f0, hu, by rw [hget, hl]; rfl, o0, TyIs.mk' i0 ‹_› rfl, by simp [Kind.size]⟩
          · cases u0
        | 1, he =>
          simp only [Kind.fieldAt, Option.some.injEq, Prod.mk.injEq] at he
          obtain ⟨rfl, rfl⟩ := he
          split at u1
          · exact ⟨fs, f1, hu, by rw [hget, hl]; rfl, o1, TyIs.mk' i1 ‹_› rfl, by simp [Kind.size]⟩
          · cases u1
        | 2, he =>
          simp only [Kind.fieldAt, Option.some.injEq, Prod.mk.injEq] at he
          obtain ⟨rfl, rfl⟩ := he
          split at u2
          · exact ⟨fs, f2, hu, by rw [hget, hl]; rfl, o2, TyIs.mk' i2 ‹_› rfl, by simp [Kind.size]⟩
          · cases u2
        | n + 3, he => simp [Kind.fieldAt] at he
      · simp at h
    · simp at h
  | _ => simp [Kind.fieldAt] at he

theorem look_mem {α : Type} : ∀ {l : List (Nat × α)} {n : Nat} {x : α}, look none (l.map fun p => (p.1, some p.2)) n = some x → (n, x) ∈ l
  | [], n, x, h => by simp [look] at h
  | (k, v) :: r, n, x, h => by
    simp only [List.map_cons, look] at h
    split at h
    · rename_i he
      cases h
      subst he
      exact List.mem_cons_self ..
    · exact List.mem_cons_of_mem _ (look_mem h)

theorem TEnv.kind_ok {Γ : TEnv} {P : Program} (h : Γ.ok P = true) {t : Nat} {k : Kind} (hk : Γ.kind t = some k) : kOk P k t = true := by
  unfold TEnv.ok at h
  simp only [Bool.and_eq_true, List.all_eq_true] at h
  exact (h.1.1 (t, k) (look_mem hk)).1

theorem TEnv.kind_deep {Γ : TEnv} {P : Program} (h : Γ.ok P = true) {t : Nat} {k : Kind} (hk : Γ.kind t = some k) : k.deep ≤ 50 ∧ 50 ≤ P.depth := by
  unfold TEnv.ok at h
  simp only [Bool.and_eq_true, List.all_eq_true, decide_eq_true_eq] at h
  exact ⟨(h.1.1 (t, k) (look_mem hk)).2, h.1.2⟩

theorem TEnv.map_ok {Γ : TEnv} {P : Program} (h : Γ.ok P = true) {t : Nat} {k : Kind × Kind} (hk : Γ.map t = some k) :
    ∃ K V, P.underlying t = some (.map K V) ∧ kOk P k.1 K = true ∧ kOk P k.2 V = true ∧ k.1.deep ≤ 50 := by
  unfold TEnv.ok at h
  simp only [Bool.and_eq_true, List.all_eq_true] at h
  have := h.2 (t, k) (look_mem hk)
  simp only at this
  split at this
  · simp only [Bool.and_eq_true, decide_eq_true_eq] at this; exact ⟨_, _, ‹_›, this.1.1, this.1.2, this.2⟩
  · simp at this

theorem areZero_rel {S : Sit} : ∀ {cs : List AV} {vs : List Value}, areZero cs vs = true → VRelL S cs vs ∧ ∀ u ∈ vs, u.oneCell' = true
  | [], [], _ => ⟨.nil, by simp⟩
  | a :: r, v :: s, h => by
    simp only [areZero, Bool.and_eq_true] at h
    obtain ⟨h2, h3⟩ := areZero_rel h.2
    have : VRel S a v ∧ v.oneCell' = true := by
      have h1 := h.1
      unfold isZero at h1
      split at h1
      · simp only [beq_iff_eq] at h1; subst h1; exact ⟨.bool_mk, rfl⟩
      · simp only [Bool.and_eq_true, decide_eq_true_eq] at h1; obtain ⟨rfl, rfl⟩ := h1; exact ⟨.int_mk, rfl⟩
      · rename_i s t
        simp only [decide_eq_true_eq] at h1
        subst h1
        refine ⟨?_, rfl⟩
        unfold VRel strOf
        rfl
      all_goals first | (refine ⟨?_, rfl⟩; unfold VRel; rfl) | (simp at h1; done)
    exact ⟨.cons this.1 h2, fun u hu => by
      cases hu with
      | head => exact this.2
      | tail _ hu => exact h3 u hu⟩
  | [], _ :: _, h => by simp [areZero] at h
  | _ :: _, [], h => by simp [areZero] at h

section
variable {P : Program} {k : Kind} {t : TypeId} (T : TyIs P k t) (w : World)
include T

theorem TyIs.run_size : (sizeOf t).run P w = .ok k.size w := by simp [sizeOf, typeInfo, T.hi, T.size]
theorem TyIs.run_zero : (zeroValue t).run P w = .ok T.z w := by simp [zeroValue, typeInfo, T.hi, T.hz]

theorem TyIs.run_load {b o : Nat} {us : List Value} (h : CellsAt w b o us) (hl : us.length = k.size) (hone : k.isAgg = false → k.size = 1) :
    (loadVar t ⟨b, o, none⟩).run P w = .ok (if k.isAgg = true then .agg us.toArray else us.headD undef) w := by
  unfold loadVar
  simp only [Sem.run_bind, T.agg w, Result.andThen_ok]
  cases ha : k.isAgg with
  | true =>
    have := run_loadCells_list (P := P) w ⟨b, o, none⟩ us (fun j v hv => by rw [Addr.add_lit]; exact h j v hv)
    rw [hl] at this
    simp [T.run_size w, this]
  | false =>
    have h1 := hone ha
    match us, hl.trans h1 with
    | [u], _ =>
      have := h 0 u rfl
      simp at this
      simp [this]

theorem TyIs.run_store {b o : Nat} {v : Value} {c : Array Value} {E : TypeId} (hg : w.heap[b]? = some (.cells c E (0, 0))) (hl : v.cells.toList.length = k.size)
    (hfit : o + k.size ≤ c.size) (h1 : ∀ u ∈ v.cells.toList, u.oneCell' = true) :
    (storeVar t ⟨b, o, none⟩ v).run P w = .ok () (w.setRow b (c.toList.take o ++ v.cells.toList ++ c.toList.drop (o + k.size)).toArray) := by
  unfold storeVar
  have hs : v.cells.size = k.size := by simpa using hl
  have := run_storeCells_at P b o E v.cells.toList 0 c w hg (by simpa [hl] using hfit) h1
  simp only [Nat.add_zero] at this
  simp only [Sem.run_bind, T.run_size w, Result.andThen_ok, hs, ne_eq, not_true, if_false, hl] at this ⊢
  exact this
end

theorem Kind.size_leaf {k : Kind} (h : k.isAgg = false) : k.size = 1 := by
  cases k <;> simp [Kind.isAgg] at h <;> rfl

end Go.AM
