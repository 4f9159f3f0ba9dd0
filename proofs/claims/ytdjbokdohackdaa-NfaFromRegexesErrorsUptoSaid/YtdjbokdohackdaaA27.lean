/- A law's row out of its pure form. -/
import Derived.Test.YtdjbokdohackdaaA26
import Derived.ProofKit
namespace Go.AM
open Go Go.ChangeShapes Go.WideShapes Go.ChangeAt Go.RowKit

def wfL : (ks : List Kind) → ShL (ks.map Sh.kd) → Prop
  | [], _ => True
  | k :: r, x => wfK k x.1 ∧ wfL r x.2

def argsOk (P : Program) : List Kind → List Nat → Bool
  | [], [] => true
  | k :: ks, t :: ts => kOk P k t && k.argOk && P.readableRec t && decide (t < P.types.size) && argsOk P ks ts
  | _, _ => false

abbrev allOld (W : World) : Sit := ⟨W, fun b => b < W.heap.size, fun _ => .nilIface, fun _ => .free, fun b => b < W.heap.size⟩

theorem manyOf_flat {e : Kind} (h : ∀ (x : e.T) (rest : List AV), wfK e x → e.unflat (e.flat x ++ rest) = some (x, rest)) :
    ∀ (xs : List e.T) (rest : List AV), (∀ x ∈ xs, wfK e x) → manyOf e.unflat xs.length (xs.flatMap e.flat ++ rest) = some (xs, rest)
  | [], rest, _ => rfl
  | x :: xs, rest, hx => by
    simp only [List.length_cons, List.flatMap_cons, List.append_assoc, manyOf, h x _ (hx x (by simp)), Option.bind_some, manyOf_flat h xs rest fun y hy => hx y (List.mem_cons_of_mem _ hy)]

theorem unflat_flat : ∀ (k : Kind), k.argOk = true → ∀ (x : k.T) (rest : List AV), wfK k x → k.unflat (k.flat x ++ rest) = some (x, rest)
  | .bool, _, x, rest, _ => rfl
  | .int k, _, x, rest, _ => by simp [Kind.unflat, Kind.flat, unInt]
  | .str, _, x, rest, _ => rfl
  | .slice e, _, x, rest, _ => by simp [Kind.unflat, Kind.flat, unSl]
  | .unit, _, x, rest, _ => rfl
  | .pair a b, ha, x, rest, hx => by
    simp only [Kind.argOk, Bool.and_eq_true] at ha
    simp only [Kind.unflat, Kind.flat, List.append_assoc, unflat_flat a ha.1 x.1 _ hx.1, Option.bind_some, unflat_flat b ha.2 x.2 _ hx.2]
  | .arr n e, ha, x, rest, hx => by
    have hl : List.length (x : List e.T) = n := hx.1
    have key : manyOf e.unflat (List.length (x : List e.T)) ((List.range (List.length (x : List e.T))).flatMap (fun i => e.flat ((x : List e.T).getD i e.dflt)) ++ rest) = some (x, rest) := by
      rw [range_flatMap]
      exact manyOf_flat (unflat_flat e ha) x rest hx.2
    rw [hl] at key
    simp only [Kind.unflat, Kind.flat]
    rw [key]
    rfl
  | .dyn _, ha, _, _, _ => by cases ha
  | .rx, ha, _, _, _ => by cases ha

theorem one_ofK {k : Kind} (ha : k.argOk = true) {x : k.T} (hx : wfK k x) : one k (ofK k x) = some x := by
  have h := unflat_flat k ha x [] hx
  rw [List.append_nil] at h
  have hl : oneL k (k.flat x) = some x := by unfold oneL; rw [h]; rfl
  cases hagg : k.isAgg with
  | true =>
    unfold one ofK
    simp only [hagg, if_true, AV.isAgg, AV.leaves, Option.bind_some]
    exact hl
  | false =>
    cases k with
    | dyn d => cases ha
    | bool => exact hl
    | int i => exact hl
    | str => exact hl
    | slice e => exact hl
    | fnk => cases ha
    | _ => cases hagg

section
variable {H : Type} {enc : TypeId × Value → H} {P : Program} {W : World} {base : Nat}

theorem read_arg {k : Kind} (ha : k.argOk = true) {t : Nat} (hk : kOk P k t = true) {v : Value} (hv : Value.okWide P W .any base t v) {d : DataW H} {ps : List MemPlace}
    (h : DataW.Trod enc P W 0 (fun _ => true) true t v d ps) : ∃ x : k.T, wfK k x ∧ VRel (allOld W) (ofK k x) v := by
  obtain ⟨fuel, hf⟩ := h
  obtain ⟨x, hx, hr⟩ := read_kind W k ha hk hf
  refine ⟨x, hx, ?_⟩
  have hfl := flat_rel (S := allOld W) k hr
  have hones := RelK.ones k hr
  cases hagg : k.isAgg with
  | true =>
    have hstruct : ∃ cs, v = .agg cs := by
      obtain ⟨T⟩ := kOk_ty hk
      have h1 := T.agg W
      rw [hagg] at h1
      unfold Value.okWide at hv
      cases hu : P.underlying t with
      | none => simp [isAgg, underlying, hu] at h1
      | some dsc =>
        rw [run_isAgg hu] at h1
        rw [hu] at hv
        cases dsc <;> simp at h1 <;> (obtain ⟨cs, h2, _⟩ := hv; exact ⟨cs, h2⟩)
    obtain ⟨cs, rfl⟩ := hstruct
    unfold ofK
    rw [if_pos hagg]
    unfold VRel
    exact ⟨cs.toList, by simp, hfl, hones⟩
  | false =>
    have hone : ∃ u c, v.cells.toList = [u] ∧ k.flat x = [c] ∧ v = u := by
      cases k with
      | bool =>
        obtain ⟨b, rfl⟩ := okWide_bool (kOk_bool hk) hv
        exact ⟨_, _, rfl, rfl, rfl⟩
      | int i =>
        obtain ⟨b, rfl⟩ := okWide_int (kOk_int hk) hv
        exact ⟨_, _, rfl, rfl, rfl⟩
      | str =>
        obtain ⟨b, rfl⟩ := okWide_string (kOk_str hk) hv
        exact ⟨_, _, rfl, rfl, rfl⟩
      | slice e =>
        obtain ⟨E, hu, _⟩ := kOk_slice hk
        obtain ⟨a, l, c, rfl⟩ := okWide_slice hu hv
        exact ⟨_, _, rfl, rfl, rfl⟩
      | dyn d => cases ha
      | fnk => cases ha
      | _ => cases hagg
    obtain ⟨u, c, h1, h2, rfl⟩ := hone
    unfold ofK
    rw [if_neg (by simp [hagg]), h2]
    rw [h1, h2] at hfl
    obtain ⟨v', s, e1, h3, _⟩ := hfl.cons_inv
    cases e1
    exact h3

theorem read_args : ∀ (ks : List Kind) {ts : List Nat} {vs : List Value} {ds : List (DataW H)} {ps : List MemPlace}, argsOk P ks ts = true →
    (∀ (j : Nat) t v, ts[j]? = some t → vs[j]? = some v → Value.okWide P W .any base t v) → DataW.TrodAll enc P W 0 (fun _ => true) true ts vs ds ps →
    ds.length = ks.length ∧ ∃ x : ShL (ks.map Sh.kd), wfL ks x ∧ VRelL (allOld W) (canL (ks.map Sh.kd) x) vs
  | [], ts, vs, ds, ps, hk, hv, h => by
    cases ts with
    | nil =>
      obtain ⟨rfl, rfl, _⟩ := trodAll_nil h
      exact ⟨rfl, (), trivial, .nil⟩
    | cons => cases hk
  | k :: ks, ts, vs, ds, ps, hk, hv, h => by
    cases ts with
    | nil => cases hk
    | cons t ts =>
      simp only [argsOk, Bool.and_eq_true] at hk
      obtain ⟨v, vs1, d, ds1, a, b, rfl, rfl, rfl, h1, h2⟩ := trodAll_cons h
      obtain ⟨x, x1, x2⟩ := read_arg hk.1.1.1.2 hk.1.1.1.1 (hv 0 t v rfl rfl) h1
      obtain ⟨hl, y, y1, y2⟩ := read_args ks hk.2 (fun j t v ht hv' => hv (j + 1) t v (by simpa using ht) (by simpa using hv')) h2
      exact ⟨by simp [hl], (x, y), ⟨x1, y1⟩, .cons x2 y2⟩

theorem decL_canL : ∀ (ks : List Kind) {ts : List Nat}, argsOk P ks ts = true → ∀ (x : ShL (ks.map Sh.kd)), wfL ks x → decL (ks.map Sh.kd) (canL (ks.map Sh.kd) x) = some x
  | [], _, _, _, _ => rfl
  | k :: ks, ts, hk, x, hx => by
    cases ts with
    | nil => cases hk
    | cons t ts =>
      simp only [argsOk, Bool.and_eq_true] at hk
      have h1 : (Sh.kd k).dec ((Sh.kd k).can x.1) = some x.1 := one_ofK hk.1.1.1.2 hx.1
      show ((Sh.kd k).dec ((Sh.kd k).can x.1)).bind _ = _
      rw [h1, Option.bind_some]
      have h2 := decL_canL ks hk.2 x.2 hx.2
      exact (congrArg (fun o => Option.bind o fun y => some (x.1, y)) h2)

theorem args_back (hl : laidOutB P = true) {W' : World} (hold : ∀ b, b < W.heap.size → W'.heap[b]? = W.heap[b]?) : ∀ (ks : List Kind) {ts : List Nat} {vs : List Value} {ds : List (DataW H)} {ps : List MemPlace}, argsOk P ks ts = true →
    DataW.TrodAll enc P W 0 (fun _ => true) true ts vs ds ps → (∀ x ∈ ps, x.block < W.heap.size) → DataW.TrodAll enc P W' 0 (fun b => decide (b < W.heap.size)) true ts vs ds ps
  | [], ts, vs, ds, ps, hk, h, _ => by
    cases ts with
    | nil =>
      obtain ⟨rfl, rfl, rfl⟩ := trodAll_nil h
      exact rfl
    | cons => cases hk
  | k :: ks, ts, vs, ds, ps, hk, h, hlt => by
    cases ts with
    | nil => cases hk
    | cons t ts =>
      simp only [argsOk, Bool.and_eq_true, decide_eq_true_eq] at hk
      obtain ⟨v, vs1, d, ds1, a, b, rfl, rfl, rfl, h1, h2⟩ := trodAll_cons h
      refine ⟨a, b, ?_, args_back hl hold ks hk.2 h2 (fun x hx => hlt x (List.mem_append_right _ hx)), rfl⟩
      refine WideElems.Trod_stays hl hk.1.1.2 hk.1.2 h1 (fun x hx => ?_) (fun x hx => by simpa using hlt x (List.mem_append_left _ hx))
      have hb := hlt x (List.mem_append_left _ hx)
      cases x with
      | cell b o => exact World.cell?_of_block (w := W) (hold b hb)
      | map b => exact hold b hb

/-- A LAW: its pure form answers true at each argument within its kind's bounds. -/
theorem law_contract {f : Nat} {fn : Func} {s : ChangeSpec} {ks : List Kind} {p : ShL (ks.map Sh.kd) → Option Bool} (hs : SoundFn P f (fnOf ks (.one .bool) p)) (hvars : s.vars = [])
    (hspec : ∀ (H : Type) (ds : List (DataW H)), ds.length = ks.length → s.fn H ds = { results := [.lit (.bool true)], args := ds }) (hk : argsOk P ks fn.params.toList = true)
    {tb : Nat} (hr : fn.resultTypes = #[tb]) (hb : P.underlying tb = some .bool) (hlaid : laidOutB P = true) (hp : ∀ x, wfL ks x → p x = some true)
    {args : Array Value} {ds gs : List (DataW H)} {before : List MemPlace}
    (hval : ∀ (j : Nat) t v, fn.params[j]? = some t → args[j]? = some v → Value.okWide P W .any base t v)
    (hW : DataW.Whole enc P fn.params.toList s.vars false W args.toList ds gs before) :
    Calls P f args W fun e W' => ∃ v, e = .returned v ∧ s.post enc P fn false true false false W args v W' := by
  have hW' := hW
  obtain ⟨pp, q, hA, hV, rfl, hfz, hnd⟩ := hW
  rw [hvars] at hV
  obtain ⟨rfl, rfl⟩ := trodVars_none hV
  obtain ⟨hlen, x, hx, hrel⟩ := read_args ks hk (fun j t v ht hv => hval j t v (by simpa using ht) (by simpa using hv)) hA
  have hcan : decL (ks.map Sh.kd) (canL (ks.map Sh.kd) x) = some x := decL_canL ks hk x hx
  have hpx := hp x hx
  have hcall := hs.2 (canL (ks.map Sh.kd) x) (.bool true) (by unfold fnOf; rw [hcan]; simp only [Option.bind_some, hpx, Option.map_some]; rfl) W (fun b => b < W.heap.size) args.toList (fun b hb => hb) hrel
  refine Calls.mono hcall fun e W' he => ?_
  obtain ⟨v, rfl, _, hsz, hold, hout, hv⟩ := he
  have hv := hv.bool_inv
  subst hv
  refine ⟨_, rfl, ds, [], pp ++ [], [], pp, [], hW', ?_, ?_, ?_, ?_, fun h => by cases h⟩
  · rw [List.append_nil, hspec H ds hlen, hr]
    exact trodAll_mk1 (shut_bool hb _)
  · rw [List.append_nil, hspec H ds hlen]
    exact args_back hlaid hold ks hk hA (fun z hz => by simpa using hW'.lt z (List.mem_append_left _ hz))
  · rw [List.append_nil, hspec H ds hlen, hvars]
    exact rfl
  · refine ⟨hout.1, hout.2, fun i hi => ?_⟩
    rw [hold i hi]
    split <;> simp_all

end
end Go.AM
