/- Arguments: what the row reads of an argument is a value of its kind. -/
import Derived.Test.YtdjbokdohackdaaA25
import Derived.ChangeArms
import Derived.Carry
namespace Go.AM
open Go

def wfInt (k : IntKind) (n : Int) : Prop := k.min ≤ n ∧ n ≤ k.max

/-- within its kind's bounds -/
def wfK : (k : Kind) → k.T → Prop
  | .int k, n => wfInt k n
  | .str, s => s.length ≤ maxLen
  | .slice e, xs => List.length (xs : List e.T) ≤ maxLen ∧ ∀ x ∈ (xs : List e.T), wfK e x
  | .pair a b, x => wfK a x.1 ∧ wfK b x.2
  | .arr n e, xs => List.length (xs : List e.T) = n ∧ ∀ x ∈ (xs : List e.T), wfK e x
  | _, _ => True

def Kind.argOk : Kind → Bool
  | .dyn _ | .rx | .fnk => false
  | .slice e => e.argOk && e.size != 0
  | .pair a b => a.argOk && b.argOk
  | .arr _ e => e.argOk
  | _ => true

theorem mapM_all {α β : Type} {f : α → Option β} : ∀ {l : List α} {ys : List β}, l.mapM f = some ys → ∀ (i : Nat) (x : α), l[i]? = some x → ∃ y, f x = some y
  | [], _, _, i, x, h => by simp at h
  | a :: l, ys, h, i, x, hx => by
    simp only [List.mapM_cons, Option.pure_def, Option.bind_eq_bind, Option.bind_eq_some_iff] at h
    obtain ⟨y, h1, zs, h2, _⟩ := h
    cases i with
    | zero => simp at hx; subst hx; exact ⟨y, h1⟩
    | succ i => exact mapM_all h2 i x (by simpa using hx)

theorem cells_len {w : World} {base : Nat} {a : Addr} {n : Nat} {us : List Value} (h : w.cells? base a n = some us) : us.length = n ∧ ∀ i, i < n → w.cell? (a.add i) = us[i]? := by
  unfold World.cells? at h
  split at h
  · have key : ∀ (l : List Nat) (us : List Value), l.mapM (fun i => w.cell? (a.add i)) = some us → us.length = l.length ∧ ∀ (j i : Nat), l[j]? = some i → w.cell? (a.add i) = us[j]? := by
      intro l
      induction l with
      | nil => intro us h; simp at h; subst h; exact ⟨rfl, fun j i h => by simp at h⟩
      | cons b l ih =>
        intro us h
        simp only [List.mapM_cons, Option.pure_def, Option.bind_eq_bind, Option.bind_eq_some_iff, Option.some.injEq] at h
        obtain ⟨y, h1, zs, h2, rfl⟩ := h
        obtain ⟨k1, k2⟩ := ih zs h2
        refine ⟨by simp [k1], fun j i hj => ?_⟩
        cases j with
        | zero => simp at hj; subst hj; simpa using h1
        | succ j => simpa using k2 j i (by simpa using hj)
    obtain ⟨k1, k2⟩ := key _ _ h
    exact ⟨by simpa using k1, fun i hi => k2 i i (by simp [hi])⟩
  · cases h

theorem choose_list {α : Type} {p : Nat → α → Prop} (n : Nat) (h : ∀ i, i < n → ∃ x, p i x) : ∃ xs : List α, xs.length = n ∧ ∀ (i : Nat) (x : α), xs[i]? = some x → p i x := by
  induction n with
  | zero => exact ⟨[], rfl, fun i x h => by simp at h⟩
  | succ n ih =>
    obtain ⟨xs, h1, h2⟩ := ih fun i hi => h i (by omega)
    obtain ⟨x, hx⟩ := h n (by omega)
    refine ⟨xs ++ [x], by simp [h1], fun i y hy => ?_⟩
    by_cases hi : i < n
    · rw [List.getElem?_append_left (by omega)] at hy; exact h2 i y hy
    · rw [List.getElem?_append_right (by omega)] at hy
      have hlt := (List.getElem?_eq_some_iff.1 hy).1
      simp at hlt
      have : i = n := by omega
      subst this
      simp [h1] at hy
      subst hy
      exact hx

theorem kOk_cells {P : Program} {k : Kind} {t : Nat} (h : kOk P k t = true) : P.cellsOf t = k.size := by
  obtain ⟨T⟩ := kOk_ty h
  unfold Program.cellsOf
  rw [T.hi]
  exact T.size

theorem RelL.of_parts {α : Type} {R : α → List Value → Prop} {n : Nat} {d : α} : ∀ {xs : List α} {cs : List Value}, cs.length = xs.length * n → (∀ (i : Nat) (x : α), xs[i]? = some x → R x ((cs.drop (i * n)).take n)) → RelL R xs cs
  | [], cs, hl, _ => by simp at hl; subst hl; rfl
  | x :: xs, cs, hl, h => by
    refine ⟨cs.take n, cs.drop n, by simp, by simpa using h 0 x rfl, RelL.of_parts (n := n) (d := d) (by simp at hl ⊢; rw [hl, Nat.add_mul]; omega) fun i y hy => ?_⟩
    have := h (i + 1) y (by simpa using hy)
    rw [Nat.add_mul, Nat.one_mul] at this
    rw [List.drop_drop, Nat.add_comm]
    exact this

section
variable {H : Type} {enc : TypeId × Value → H} {P : Program}

mutual
theorem read_kind (w : World) : ∀ (k : Kind), k.argOk = true → ∀ {t fuel : Nat} {cs : List Value} {x : DataW H × List MemPlace}, kOk P k t = true → DataW.trod enc P w 0 (fun _ => true) true fuel t cs = some x →
    ∃ y : k.T, wfK k y ∧ RelK w (fun b => b < w.heap.size) k y cs
  | .bool, _, t, fuel, cs, x, hk, h => by
    obtain ⟨b, rfl, _⟩ := DataW.trod_bool (kOk_bool hk) h
    exact ⟨b, trivial, rfl⟩
  | .int k, _, t, fuel, cs, x, hk, h => by
    obtain ⟨n, rfl, _, hw⟩ := DataW.trod_int (kOk_int hk) h
    simp only [Lit.wf, Bool.and_eq_true, decide_eq_true_eq] at hw
    exact ⟨n, hw, rfl⟩
  | .str, _, t, fuel, cs, x, hk, h => by
    obtain ⟨s, rfl, _, hs⟩ := DataW.trod_string (kOk_str hk) h
    refine ⟨s.data.toList, ?_, ?_⟩
    · show s.data.toList.length ≤ maxLen
      rw [Array.length_toList]; exact hs
    · show [Value.string s] = [strOf s.data.toList]
      simp [strOf]
  | .slice e, ha, t, fuel, cs, x, hk, h => by
    simp only [Kind.argOk, Bool.and_eq_true, bne_iff_ne, ne_eq] at ha
    obtain ⟨E, hu, he⟩ := kOk_slice hk
    have hce := kOk_cells he
    rcases DataW.trod_slice hu h with ⟨rfl, _⟩ | ⟨a, len, cap, elems, rest, n, _, rfl, rfl, _, hl, hm, hlen, hel, _, _⟩
    · exact ⟨([] : List e.T), ⟨by simp, fun x hx => by cases hx⟩, RelK.nilsl e⟩
    · have each : ∀ i, i < len → ∃ y : e.T, wfK e y ∧ ∃ us, w.cells? 0 (a.add (i * e.size)) e.size = some us ∧ RelK w (fun b => b < w.heap.size) e y us := by
        intro i hi
        have h1 := hel i hi
        rw [List.getElem?_eq_getElem (by omega), hce, Option.bind_eq_some_iff] at h1
        obtain ⟨us, h2, h3⟩ := h1
        obtain ⟨y, g1, g2⟩ := read_kind w e ha.1 he h3
        exact ⟨y, g1, us, h2, g2⟩
      obtain ⟨xs, hxl, hx⟩ := choose_list len each
      refine ⟨xs, ⟨by rw [hxl]; omega, fun y hy => ?_⟩, ⟨some a, len, cap, rfl, hxl.symm, hl, ?_⟩⟩
      · obtain ⟨i, hi⟩ := List.getElem?_of_mem hy
        exact (hx i y hi).1
      · rcases Nat.eq_zero_or_pos len with h0 | hpos
        · exact .inl h0
        · right
          have h0 : w.cell? a ≠ none := by
            obtain ⟨y, _, us, h2, _⟩ := each 0 hpos
            obtain ⟨k1, k2⟩ := cells_len h2
            have := k2 0 (by omega)
            rw [List.getElem?_eq_getElem (by omega)] at this
            simp only [Nat.zero_mul, Addr.add, if_true] at this
            rw [this]; simp
          have hspot : a.spot = none ∧ a.block < w.heap.size := by
            unfold World.cell? at h0
            split at h0
            · rename_i c E' fr hb
              refine ⟨?_, (Array.getElem?_eq_some_iff.1 hb).1⟩
              cases hs : a.spot with
              | none => rfl
              | some s => rw [hs] at h0; simp at h0
            · exact absurd rfl h0
          refine ⟨a.block, a.off, by rw [← hspot.1], hspot.2, fun i hi => ?_⟩
          have hget : xs[i]? = some (xs.getD i e.dflt) := by
            rw [List.getD_eq_getElem?_getD, List.getElem?_eq_getElem (by omega)]; rfl
          obtain ⟨_, us, h2, h3⟩ := hx i _ hget
          refine ⟨us, h3, fun j u hj => ?_⟩
          obtain ⟨k1, k2⟩ := cells_len h2
          have hjl : j < e.size := by rw [← k1]; exact (List.getElem?_eq_some_iff.1 hj).1
          have := k2 j hjl
          rw [hj] at this
          rw [← this]
          congr 1
          obtain ⟨ab, ao, asp⟩ := a
          obtain ⟨rfl, _⟩ := hspot
          simp only [Addr.add]
          split <;> split <;> simp_all <;> omega
  | .unit, _, t, fuel, cs, x, hk, h => by
    have hc := kOk_cells hk
    unfold kOk at hk
    simp only [Bool.and_eq_true] at hk
    replace hk := hk.2
    split at hk
    · rename_i fs hu
      obtain ⟨_, _, _, _, hl, _⟩ := DataW.trod_struct hu h
      refine ⟨(), trivial, ?_⟩
      show cs = []
      rw [hc] at hl
      exact List.eq_nil_of_length_eq_zero hl
    · cases hk
  | .pair k l, ha, t, fuel, cs, x, hk, h => by
    simp only [Kind.argOk, Bool.and_eq_true] at ha
    have hc := kOk_cells hk
    unfold kOk at hk
    simp only [Bool.and_eq_true] at hk
    replace hk := hk.2
    split at hk
    · rename_i fs hu
      split at hk
      · rename_i f r hfs
        simp only [Bool.and_eq_true, beq_iff_eq] at hk
        obtain ⟨⟨⟨h0, _⟩, hka⟩, hkb⟩ := hk
        obtain ⟨xs, n, _, _, hl, hxl, hall⟩ := DataW.trod_struct hu h
        have hsz : fs.size = r.length + 1 := by rw [← Array.length_toList, hfs]; rfl
        have each : ∀ (i : Nat) (g : Field), (f :: r)[i]? = some g → ∃ y, DataW.trod enc P w 0 (fun _ => true) true n g.type ((cs.drop g.offset).take (P.cellsOf g.type)) = some y := by
          intro i g hg
          rw [← hfs] at hg
          have h1 := hall i g (by simpa using hg)
          have hi := (List.getElem?_eq_some_iff.1 hg).1
          rw [Array.length_toList] at hi
          rw [List.getElem?_eq_getElem (by omega)] at h1
          exact ⟨_, h1⟩
        obtain ⟨y1, h1⟩ := each 0 f rfl
        rw [h0, List.drop_zero, kOk_cells hka] at h1
        obtain ⟨p, p1, p2⟩ := read_kind w k ha.1 hka h1
        obtain ⟨q, q1, q2⟩ := read_fields w l ha.2 (cs := cs) hkb (fun i g hg => each (i + 1) g (by simpa using hg)) (by rw [hl, hc]; rfl)
        exact ⟨(p, q), ⟨p1, q1⟩, cs.take k.size, cs.drop k.size, by simp, p2, q2⟩
      · cases hk
    · cases hk
  | .arr n e, ha, t, fuel, cs, x, hk, h => by
    have hc := kOk_cells hk
    obtain ⟨E, hu, he⟩ := kOk_arr hk
    have hce := kOk_cells he
    cases fuel with
    | zero => simp [DataW.trod] at h
    | succ m =>
      unfold DataW.trod at h
      simp only [hu] at h
      split at h
      · rename_i hlen
        simp only [Option.map_eq_some_iff] at h
        obtain ⟨ys, hys, _⟩ := h
        have each : ∀ i, i < n → ∃ y : e.T, wfK e y ∧ RelK w (fun b => b < w.heap.size) e y ((cs.drop (i * e.size)).take e.size) := by
          intro i hi
          obtain ⟨z, hz⟩ := mapM_all hys i i (by simp [hi])
          rw [hce] at hz
          exact read_kind w e ha he hz
        obtain ⟨xs, hxl, hx⟩ := choose_list n each
        refine ⟨xs, ⟨hxl, fun y hy => ?_⟩, hxl, RelL.of_parts (n := e.size) (d := e.dflt) (by rw [hlen, hc, hxl]; rfl) fun i y hy => (hx i y hy).2⟩
        obtain ⟨i, hi⟩ := List.getElem?_of_mem hy
        exact (hx i y hi).1
      · cases h
  | .dyn _, ha, _, _, _, _, _, _ => by cases ha
  | .rx, ha, _, _, _, _, _, _ => by cases ha
  | .fnk, ha, _, _, _, _, _, _ => by cases ha
theorem read_fields (w : World) : ∀ (k : Kind), k.argOk = true → ∀ {fs : List Field} {off n : Nat} {cs : List Value}, fieldsOk P k fs off = true →
    (∀ (i : Nat) (g : Field), fs[i]? = some g → ∃ y, DataW.trod enc P w 0 (fun _ => true) true n g.type ((cs.drop g.offset).take (P.cellsOf g.type)) = some y) → cs.length = off + k.size →
    ∃ y : k.T, wfK k y ∧ RelK w (fun b => b < w.heap.size) k y (cs.drop off)
  | .unit, _, fs, off, n, cs, hf, h, hl => by
    refine ⟨(), trivial, ?_⟩
    show cs.drop off = []
    exact List.drop_eq_nil_of_le (by rw [hl]; exact Nat.le_refl _)
  | .pair k l, ha, fs, off, n, cs, hf, h, hl => by
    simp only [Kind.argOk, Bool.and_eq_true] at ha
    cases fs with
    | nil => simp [fieldsOk] at hf
    | cons f r =>
      simp only [fieldsOk, Bool.and_eq_true, beq_iff_eq] at hf
      obtain ⟨⟨⟨h0, _⟩, hka⟩, hkb⟩ := hf
      obtain ⟨y1, h1⟩ := h 0 f rfl
      rw [h0, kOk_cells hka] at h1
      obtain ⟨p, p1, p2⟩ := read_kind w k ha.1 hka h1
      obtain ⟨q, q1, q2⟩ := read_fields w l ha.2 (cs := cs) hkb (fun i g hg => h (i + 1) g (by simpa using hg)) (by rw [hl]; simp only [Kind.size]; omega)
      refine ⟨(p, q), ⟨p1, q1⟩, (cs.drop off).take k.size, cs.drop (off + k.size), ?_, p2, q2⟩
      rw [← List.drop_drop]
      exact (List.take_append_drop _ _).symm
  | .bool, _, fs, off, n, cs, hf, h, hl => by simp [fieldsOk] at hf
  | .int _, _, fs, off, n, cs, hf, h, hl => by simp [fieldsOk] at hf
  | .str, _, fs, off, n, cs, hf, h, hl => by simp [fieldsOk] at hf
  | .dyn _, _, fs, off, n, cs, hf, h, hl => by simp [fieldsOk] at hf
  | .slice _, _, fs, off, n, cs, hf, h, hl => by simp [fieldsOk] at hf
  | .arr _ _, _, fs, off, n, cs, hf, h, hl => by simp [fieldsOk] at hf
  | .rx, _, fs, off, n, cs, hf, h, hl => by simp [fieldsOk] at hf
  | .fnk, _, fs, off, n, cs, hf, h, hl => by simp [fieldsOk] at hf
end
end
end Go.AM
