/- Laws of the relation: lengths, later worlds, literals taken apart and put together. -/
import Derived.Test.YtdjbokdohackdaaA2
namespace Go.AM
open Go

theorem cell_of_same {w w' : World} {b o : Nat} (h : w'.heap[b]? = w.heap[b]?) : w'.cell? ⟨b, o, none⟩ = w.cell? ⟨b, o, none⟩ := by
  simp [World.cell?, h]

theorem CellsAt.same {w w' : World} {b o : Nat} {us : List Value} (h : CellsAt w b o us) (e : w'.heap[b]? = w.heap[b]?) : CellsAt w' b o us :=
  fun j u hu => (cell_of_same e).trans (h j u hu)

theorem RelL.imp {α : Type} {R R' : α → List Value → Prop} (h : ∀ x vs, R x vs → R' x vs) : ∀ {xs : List α} {vs : List Value}, RelL R xs vs → RelL R' xs vs
  | [], _, hh => hh
  | _ :: _, _, ⟨l, r, e, h1, h2⟩ => ⟨l, r, e, h _ _ h1, RelL.imp h h2⟩

section later
variable {w w' : World} {I I' : Nat → Prop} (hI : ∀ b, I b → I' b ∧ w'.heap[b]? = w.heap[b]?)
include hI

theorem SliceAt.later {size n : Nat} {R R' : Nat → List Value → Prop} (hR : ∀ i us, R i us → R' i us) {a : Option Addr} (h : SliceAt w I size n R a) : SliceAt w' I' size n R' a := by
  rcases h with h | ⟨b, o, rfl, hb, h⟩
  · exact .inl h
  · refine .inr ⟨b, o, rfl, (hI b hb).1, fun i hi => ?_⟩
    obtain ⟨us, h1, h2⟩ := h i hi
    exact ⟨us, hR i us h1, h2.same (hI b hb).2⟩

mutual
theorem RelRx.later : ∀ (x : Rx) {vs : List Value}, RelRx w I x vs → RelRx w' I' x vs
  | .mk k s kids, vs, h => by
    unfold RelRx at h ⊢
    obtain ⟨hs, a, len, cap, hv, hl, hc, h⟩ := h
    refine ⟨hs, a, len, cap, hv, hl, hc, ?_⟩
    rcases h with h | ⟨b, o, ha, hb, h⟩
    · exact .inl h
    · exact .inr ⟨b, o, ha, (hI b hb).1, RelRx.go_later kids hb h⟩
theorem RelRx.go_later : ∀ (l : List Rx) {b o : Nat}, I b → RelRx.go w I b l o → RelRx.go w' I' b l o
  | [], _, _, _, _ => by unfold RelRx.go; trivial
  | x :: r, b, o, hb, h => by
    unfold RelRx.go at h ⊢
    obtain ⟨⟨us, h1, h2⟩, h3⟩ := h
    exact ⟨⟨us, RelRx.later x h1, h2.same (hI b hb).2⟩, RelRx.go_later r hb h3⟩
end

theorem RelK.later : ∀ (k : Kind) {x : k.T} {vs : List Value}, RelK w I k x vs → RelK w' I' k x vs
  | .bool, _, _, h => h
  | .int _, _, _, h => h
  | .str, _, _, h => h
  | .dyn _, _, _, h => h
  | .unit, _, _, h => h
  | .slice e, xs, vs, h => by
    obtain ⟨a, len, cap, h1, h2, h3, h4⟩ := h
    exact ⟨a, len, cap, h1, h2, h3, SliceAt.later hI (fun i us hh => RelK.later e hh) h4⟩
  | .pair a b, x, vs, ⟨l, r, e, h1, h2⟩ => ⟨l, r, e, RelK.later a h1, RelK.later b h2⟩
  | .arr n e, xs, vs, ⟨h1, h2⟩ => ⟨h1, h2.imp (fun x vs hh => RelK.later e hh)⟩
  | .rx, x, vs, h => RelRx.later hI x h
  | .fnk, _, _, h => h
end later

theorem fnV_one (f : Option Nat) : (fnV f).oneCell' = true := by cases f <;> rfl

theorem RelL.length {α : Type} {R : α → List Value → Prop} {n : Nat} (h : ∀ x vs, R x vs → vs.length = n) : ∀ {xs : List α} {vs : List Value}, RelL R xs vs → vs.length = xs.length * n
  | [], _, hh => by rw [show _ = [] from hh]; simp
  | _ :: xs, _, ⟨l, r, e, h1, h2⟩ => by rw [e, List.length_append, h _ _ h1, RelL.length h h2, List.length_cons, Nat.succ_mul]; omega

theorem RelL.all {α : Type} {R : α → List Value → Prop} {p : Value → Prop} (h : ∀ x vs, R x vs → ∀ u ∈ vs, p u) : ∀ {xs : List α} {vs : List Value}, RelL R xs vs → ∀ u ∈ vs, p u
  | [], _, hh, u, hu => by rw [show _ = [] from hh] at hu; cases hu
  | _ :: xs, _, ⟨l, r, e, h1, h2⟩, u, hu => by
    rw [e] at hu
    rcases List.mem_append.1 hu with hu | hu
    · exact h _ _ h1 u hu
    · exact RelL.all h h2 u hu

theorem RelRx.length {w : World} {I : Nat → Prop} : ∀ (x : Rx) {vs : List Value}, RelRx w I x vs → vs.length = 6
  | .mk k s kids, vs, h => by unfold RelRx at h; obtain ⟨_, a, len, cap, rfl, _⟩ := h; rfl

theorem RelRx.ones {w : World} {I : Nat → Prop} : ∀ (x : Rx) {vs : List Value}, RelRx w I x vs → ∀ u ∈ vs, u.oneCell' = true
  | .mk k s kids, vs, h, u, hu => by
    unfold RelRx at h
    obtain ⟨_, a, len, cap, rfl, _⟩ := h
    simp at hu
    rcases hu with rfl | rfl | rfl | rfl | rfl | rfl <;> rfl

theorem RelK.length {w : World} {I : Nat → Prop} : ∀ (k : Kind) {x : k.T} {vs : List Value}, RelK w I k x vs → vs.length = k.size
  | .bool, _, _, h => by rw [show _ = _ from h]; rfl
  | .int _, _, _, h => by rw [show _ = _ from h]; rfl
  | .str, _, _, h => by rw [show _ = _ from h]; rfl
  | .dyn _, _, _, ⟨v, h, _⟩ => by rw [h]; rfl
  | .unit, _, _, h => by rw [show _ = _ from h]; rfl
  | .slice e, xs, vs, ⟨a, len, cap, h, _⟩ => by rw [h]; rfl
  | .pair a b, x, vs, ⟨l, r, e, h1, h2⟩ => by rw [e, List.length_append, RelK.length a h1, RelK.length b h2]; rfl
  | .arr n e, xs, vs, ⟨h1, h2⟩ => by rw [h2.length (fun x vs hh => RelK.length e hh), h1]; rfl
  | .rx, x, vs, h => RelRx.length x h
  | .fnk, _, _, h => by rw [show _ = _ from h]; rfl

theorem RelK.ones {w : World} {I : Nat → Prop} : ∀ (k : Kind) {x : k.T} {vs : List Value}, RelK w I k x vs → ∀ u ∈ vs, u.oneCell' = true
  | .bool, _, _, h, u, hu => by rw [show _ = _ from h] at hu; simp at hu; rw [hu]; rfl
  | .int _, _, _, h, u, hu => by rw [show _ = _ from h] at hu; simp at hu; rw [hu]; rfl
  | .str, _, _, h, u, hu => by rw [show _ = _ from h] at hu; simp at hu; rw [hu]; rfl
  | .dyn _, _, _, ⟨v, h, h'⟩, u, hu => by rw [h] at hu; simp at hu; rw [hu]; exact h'
  | .unit, _, _, h, u, hu => by rw [show _ = _ from h] at hu; cases hu
  | .slice e, xs, vs, ⟨a, len, cap, h, _⟩, u, hu => by rw [h] at hu; simp at hu; rw [hu]; rfl
  | .pair a b, x, vs, ⟨l, r, e, h1, h2⟩, u, hu => by
    rw [e] at hu
    rcases List.mem_append.1 hu with hu | hu
    · exact RelK.ones a h1 u hu
    · exact RelK.ones b h2 u hu
  | .arr n e, xs, vs, ⟨h1, h2⟩, u, hu => h2.all (fun x vs hh => RelK.ones e hh) u hu
  | .rx, x, vs, h, u, hu => RelRx.ones x h u hu
  | .fnk, f, _, h, u, hu => by rw [show _ = _ from h] at hu; simp at hu; rw [hu]; exact fnV_one f

section lists
variable {S : Sit}

theorem VRelL.length : ∀ {cs : List AV} {vs : List Value}, VRelL S cs vs → vs.length = cs.length
  | [], _, h => by unfold VRelL at h; rw [h]; rfl
  | _ :: _, _, h => by unfold VRelL at h; obtain ⟨v, s, rfl, _, h2⟩ := h; simp [VRelL.length h2]

theorem VRelL.nil : VRelL S [] [] := by unfold VRelL; rfl
theorem VRelL.cons {a : AV} {v : Value} {cs : List AV} {vs : List Value} (h : VRel S a v) (h2 : VRelL S cs vs) : VRelL S (a :: cs) (v :: vs) := by
  unfold VRelL; exact ⟨v, vs, rfl, h, h2⟩
theorem VRelL.one {a : AV} {v : Value} (h : VRel S a v) : VRelL S [a] [v] := .cons h .nil
theorem VRelL.cons_inv {a : AV} {cs : List AV} {vs : List Value} (h : VRelL S (a :: cs) vs) : ∃ v s, vs = v :: s ∧ VRel S a v ∧ VRelL S cs s := by
  unfold VRelL at h; exact h
theorem VRelL.nil_inv {vs : List Value} (h : VRelL S [] vs) : vs = [] := by unfold VRelL at h; exact h

theorem VRelL.append : ∀ {cs ds : List AV} {vs us : List Value}, VRelL S cs vs → VRelL S ds us → VRelL S (cs ++ ds) (vs ++ us)
  | [], _, _, _, h, h2 => by rw [h.nil_inv]; exact h2
  | _ :: _, _, _, _, h, h2 => by obtain ⟨v, s, rfl, h1, h3⟩ := h.cons_inv; exact .cons h1 (VRelL.append h3 h2)

theorem VRelL.split : ∀ {cs ds : List AV} {vs : List Value}, VRelL S (cs ++ ds) vs → ∃ l r, vs = l ++ r ∧ VRelL S cs l ∧ VRelL S ds r
  | [], _, vs, h => ⟨[], vs, rfl, .nil, h⟩
  | _ :: _, _, _, h => by
    obtain ⟨v, s, rfl, h1, h3⟩ := VRelL.cons_inv h
    obtain ⟨l, r, rfl, h4, h5⟩ := VRelL.split h3
    exact ⟨v :: l, r, rfl, .cons h1 h4, h5⟩

theorem VRelL.take {cs : List AV} {vs : List Value} (n : Nat) (h : VRelL S cs vs) : VRelL S (cs.take n) (vs.take n) := by
  induction n generalizing cs vs with
  | zero => simpa using VRelL.nil
  | succ n ih =>
    cases cs with
    | nil => rw [h.nil_inv]; simpa using VRelL.nil
    | cons c cs => obtain ⟨v, s, rfl, h1, h2⟩ := h.cons_inv; exact .cons h1 (ih h2)

theorem VRelL.drop {cs : List AV} {vs : List Value} (n : Nat) (h : VRelL S cs vs) : VRelL S (cs.drop n) (vs.drop n) := by
  induction n generalizing cs vs with
  | zero => simpa using h
  | succ n ih =>
    cases cs with
    | nil => rw [h.nil_inv]; simpa using VRelL.nil
    | cons c cs => obtain ⟨v, s, rfl, h1, h2⟩ := h.cons_inv; exact ih h2

theorem VRelL.get {cs : List AV} {vs : List Value} {i : Nat} {c : AV} (h : VRelL S cs vs) (hc : cs[i]? = some c) : ∃ v, vs[i]? = some v ∧ VRel S c v := by
  induction i generalizing cs vs with
  | zero =>
    cases cs with
    | nil => simp at hc
    | cons d cs => obtain ⟨v, s, rfl, h1, h2⟩ := h.cons_inv; simp at hc; subst hc; exact ⟨v, rfl, h1⟩
  | succ n ih =>
    cases cs with
    | nil => simp at hc
    | cons d cs => obtain ⟨v, s, rfl, h1, h2⟩ := h.cons_inv; simp at hc; exact ih h2 hc

theorem VRelL.set {cs : List AV} {vs : List Value} {i : Nat} {c : AV} {v : Value} (h : VRelL S cs vs) (hc : VRel S c v) : VRelL S (cs.set i c) (vs.set i v) := by
  induction i generalizing cs vs with
  | zero =>
    cases cs with
    | nil => rw [h.nil_inv]; simpa using VRelL.nil
    | cons d cs => obtain ⟨v, s, rfl, h1, h2⟩ := h.cons_inv; exact .cons hc h2
  | succ n ih =>
    cases cs with
    | nil => rw [h.nil_inv]; simpa using VRelL.nil
    | cons d cs => obtain ⟨v, s, rfl, h1, h2⟩ := h.cons_inv; exact .cons h1 (ih h2)

theorem VRelL.splice {cs ds : List AV} {vs us : List Value} (off : Nat) (h : VRelL S cs vs) (h2 : VRelL S ds us) :
    VRelL S (splice cs off ds) (vs.take off ++ us ++ vs.drop (off + us.length)) := by
  unfold Go.AM.splice
  rw [h2.length]
  exact ((h.take off).append h2).append (h.drop _)
end lists

theorem CellsAt.split {w : World} {b o : Nat} {us vs : List Value} (h : CellsAt w b o (us ++ vs)) : CellsAt w b o us ∧ CellsAt w b (o + us.length) vs := by
  refine ⟨fun j u hu => h j u ?_, fun j u hu => ?_⟩
  · rw [List.getElem?_append_left (by exact (List.getElem?_eq_some_iff.1 hu).1)]; exact hu
  · have := h (us.length + j) u (by rw [List.getElem?_append_right (by omega)]; simpa using hu)
    rwa [show o + us.length + j = o + (us.length + j) from by omega]

theorem CellsAt.drop {w : World} {b o : Nat} {us : List Value} (n : Nat) (h : CellsAt w b o us) : CellsAt w b (o + n) (us.drop n) := by
  intro j u hu
  rw [List.getElem?_drop] at hu
  have := h _ _ hu
  rwa [show o + n + j = o + (n + j) from by omega]

theorem CellsAt.take {w : World} {b o : Nat} {us : List Value} (n : Nat) (h : CellsAt w b o us) : CellsAt w b o (us.take n) := by
  intro j u hu
  rw [List.getElem?_take] at hu
  split at hu
  · exact h _ _ hu
  · cases hu

theorem RelRx.go_iff {w : World} {I : Nat → Prop} {b : Nat} : ∀ (l : List Rx) (o : Nat), RelRx.go w I b l o ↔ ∀ i, i < l.length → ∃ us, RelRx w I (l.getD i (Kind.rx).dflt) us ∧ CellsAt w b (o + i * 6) us
  | [], o => by unfold RelRx.go; simp
  | x :: r, o => by
    unfold RelRx.go
    rw [RelRx.go_iff r (o + 6)]
    constructor
    · rintro ⟨h1, h2⟩ i hi
      cases i with
      | zero => simpa using h1
      | succ i =>
        obtain ⟨us, h3, h4⟩ := h2 i (by simpa using hi)
        exact ⟨us, by simpa using h3, by rwa [show o + (i + 1) * 6 = o + 6 + i * 6 from by omega]⟩
    · intro h
      refine ⟨by simpa using h 0 (by simp), fun i hi => ?_⟩
      obtain ⟨us, h3, h4⟩ := h (i + 1) (by simpa using hi)
      exact ⟨us, by simpa using h3, by rwa [show o + (i + 1) * 6 = o + 6 + i * 6 from by omega] at h4⟩

theorem RelRx.kids {w : World} {I : Nat → Prop} {k : Int} {s : List Int} {kids : List Rx} {vs : List Value} (h : RelRx w I (.mk k s kids) vs) :
    s.length = 4 ∧ ∃ v, vs = [.int .i64 k, .int .u64 (s.getD 0 0), .int .u64 (s.getD 1 0), .int .u64 (s.getD 2 0), .int .u64 (s.getD 3 0), v] ∧ RelK w I (.slice .rx) kids [v] := by
  unfold RelRx at h
  obtain ⟨hs, a, len, cap, rfl, hl, hc, h⟩ := h
  refine ⟨hs, _, rfl, a, len, cap, rfl, hl, hc, ?_⟩
  rcases h with h | ⟨b, o, ha, hb, h⟩
  · exact .inl (hl.trans h)
  · refine .inr ⟨b, o, ha, hb, fun i hi => ?_⟩
    exact (RelRx.go_iff kids o).1 h i (hl ▸ hi)

theorem RelRx.of_kids {w : World} {I : Nat → Prop} {k : Int} {s : List Int} {kids : List Rx} {v : Value} (hs : s.length = 4) (h : RelK w I (.slice .rx) kids [v]) :
    RelRx w I (.mk k s kids) [.int .i64 k, .int .u64 (s.getD 0 0), .int .u64 (s.getD 1 0), .int .u64 (s.getD 2 0), .int .u64 (s.getD 3 0), v] := by
  obtain ⟨a, len, cap, h1, hl, hc, h⟩ := h
  obtain rfl : v = .slice a len cap := by simpa using h1
  unfold RelRx
  refine ⟨hs, a, len, cap, rfl, hl, hc, ?_⟩
  rcases h with h | ⟨b, o, ha, hb, h⟩
  · exact .inl (hl.symm.trans h)
  · exact .inr ⟨b, o, ha, hb, (RelRx.go_iff kids o).2 fun i hi => h i (hl ▸ hi)⟩

end Go.AM
