import Derived.Test.YtdjbokdohackdaaM7
import Derived.Test.YtdjbokdohackdaaRows
/- The law on matches, plain. -/
namespace Go.AM
open Go

/-- what byte leads to a state -/
def Tl (l : List Rx) (x : Int) (b : UInt8) : Prop := hasB (nrm4 ((lvL l).getD (x - 1).toNat (List.replicate 4 0))) b.toNat = true

theorem hasB_nrm (s : List Int) (b : Nat) : hasB (nrm4 s) b = hasB s b := rfl

theorem Carry_all (l : List Rx) : Carry hbF (Tl l) 0 (lvL l) := fun i s h b => by
  unfold Tl hbF
  rw [hasB_nrm, show (((0 + i + 1 : Nat) : Int) - 1).toNat = i by omega, List.getD_eq_getElem?_getD, h]
  rfl

theorem split_at {l : List Rx} {k : Nat} (h : k < l.length) : l = l.take k ++ ex l k :: l.drop (k + 1) := by
  have e : ex l k = l[k] := by
    unfold ex
    rw [List.getD_eq_getElem?_getD, List.getElem?_eq_getElem h]
    rfl
  rw [e, ← List.drop_eq_getElem_cons h, List.take_append_drop]

theorem Carry_ex {l : List Rx} {k : Nat} (h : k < l.length) : Carry hbF (Tl l) (off l k) (lv (ex l k)) := by
  have hc := Carry_all l
  have e : lvL l = lvL (l.take k) ++ (lv (ex l k) ++ lvL (l.drop (k + 1))) := by
    conv => lhs; rw [split_at h]
    rw [lvL_append]
    rfl
  rw [e] at hc
  have := hc.right.left
  rw [Nat.zero_add] at this
  exact this

section
variable {l : List Rx}

abbrev arcsA (l : List Rx) : List Arc := arcsTo (lvL l) (mapsA l) ((lvL l).length + 1)

theorem mem_arcsA {a : Arc} : a ∈ arcsA l ↔ ∃ p q, (p, q) ∈ flA l 0 ∧ a = arcOf (lvL l) p q := by
  unfold arcsA
  constructor
  · intro h
    obtain ⟨p, q, h1, h2, h3⟩ := mem_arcsTo.1 h
    exact ⟨(p : Int), q, ((mapsA_keys l h1).2 q).1 h2, h3⟩
  · rintro ⟨p, q, h1, h2⟩
    have := flA_in l 0 _ h1
    simp only at this
    have e : ((p.toNat : Nat) : Int) = p := by omega
    refine mem_arcsTo.2 ⟨p.toNat, q, by omega, ((mapsA_keys l (by omega)).2 q).2 (by rw [e]; exact h1), by rw [e]; exact h2⟩

theorem rc_arcsA {S : List Int} {q : Nat} : RC (arcsA l) ((lvL l).length + 1) S q ↔ q < (lvL l).length + 1 ∧ (q : Int) ∈ S := by
  constructor
  · intro h
    induction h with
    | base q h1 h2 => exact ⟨h1, h2⟩
    | step i p q h1 h2 _ _ _ _ =>
      obtain ⟨p', q', _, e⟩ := mem_arcsA.1 (getD_mem (d := ad) h1)
      rw [e] at h2
      cases h2
  · exact fun ⟨h1, h2⟩ => .base q h1 h2

open Classical in
theorem frF_arcsA {S : List Int} {p : Nat} (hp : p < (lvL l).length + 1) : (frF (arcsA l) ((lvL l).length + 1) S).getD p false = true ↔ (p : Int) ∈ S := by
  unfold frF
  rw [map_range_getD hp, decide_eq_true_eq, rc_arcsA]
  exact ⟨fun h => h.2, fun h => ⟨hp, h⟩⟩

theorem mem_stp {S : List Int} {x : Int} {b : UInt8} : x ∈ stp (arcsA l) ((lvL l).length + 1) S b.toNat ↔ ∃ p ∈ S, (p, x) ∈ flA l 0 ∧ Tl l x b := by
  unfold stp
  rw [mem_clo]
  constructor
  · rintro ⟨q, rfl, _, h2⟩
    have h3 := (rc_arcsA.1 h2).2
    unfold tgt at h3
    obtain ⟨a, ha, he⟩ := List.mem_map.1 h3
    rw [List.mem_filter] at ha
    obtain ⟨p, q', hpq, rfl⟩ := mem_arcsA.1 ha.1
    have hin := flA_in l 0 _ hpq
    simp only at hin
    have e1 : (arcOf (lvL l) p q').1 = p := rfl
    have e2 : (arcOf (lvL l) p q').2.1 = q' := rfl
    have e3 : setOf (arcOf (lvL l) p q') = nrm4 ((lvL l).getD (q' - 1).toNat (List.replicate 4 0)) := rfl
    rw [e2] at he
    subst he
    have hc := ha.2
    rw [Bool.and_eq_true, Bool.and_eq_true, e1, e3] at hc
    have := (frF_arcsA (S := S) (p := p.toNat) (by omega)).1 hc.1.2
    rw [show ((p.toNat : Nat) : Int) = p by omega] at this
    exact ⟨p, this, hpq, hc.2⟩
  · rintro ⟨p, hp, hpq, hT⟩
    have hin := flA_in l 0 _ hpq
    simp only at hin
    refine ⟨x.toNat, by omega, by omega, rc_arcsA.2 ⟨by omega, ?_⟩⟩
    rw [show ((x.toNat : Nat) : Int) = x by omega]
    unfold tgt
    refine List.mem_map.2 ⟨arcOf (lvL l) p x, List.mem_filter.2 ⟨mem_arcsA.2 ⟨p, x, hpq, rfl⟩, ?_⟩, rfl⟩
    rw [Bool.and_eq_true, Bool.and_eq_true]
    refine ⟨⟨rfl, ?_⟩, hT⟩
    have e1 : (arcOf (lvL l) p x).1 = p := rfl
    rw [e1]
    refine (frF_arcsA (by omega)).2 ?_
    rw [show ((p.toNat : Nat) : Int) = p by omega]
    exact hp

theorem mem_start {x : Int} : x ∈ clo (arcsA l) ((lvL l).length + 1) [0] ↔ x = 0 := by
  rw [mem_clo]
  constructor
  · rintro ⟨q, rfl, _, h2⟩
    have := (rc_arcsA.1 h2).2
    simpa using this
  · rintro rfl
    exact ⟨0, rfl, by omega, rc_arcsA.2 ⟨by omega, by simp⟩⟩

theorem mem_run (w : List UInt8) {x : Int} : x ∈ runN (arcsA l) ((lvL l).length + 1) (clo (arcsA l) ((lvL l).length + 1) [0]) w ↔ (w = [] ∧ x = 0) ∨ En (fun q => ((0 : Int), q) ∈ flA l 0) (mF (flA l 0)) (Tl l) w x := by
  induction w using snoc_ind generalizing x with
  | h0 =>
    show x ∈ clo _ _ _ ↔ _
    rw [mem_start]
    constructor
    · exact fun h => .inl ⟨rfl, h⟩
    · rintro (⟨_, h⟩ | h)
      · exact h
      · exact absurd rfl h.ne
  | h1 w b ih =>
    rw [runN_append]
    show x ∈ stp _ _ _ b.toNat ↔ _
    rw [mem_stp]
    constructor
    · rintro ⟨p, hp, hpx, hT⟩
      right
      rcases ih.1 hp with ⟨rfl, rfl⟩ | h
      · exact .one b x hpx hT
      · exact .more w p x b h hpx hT
    · rintro (⟨h, _⟩ | h)
      · exact absurd h (by simp)
      · generalize hw : w ++ [b] = v at h
        cases h with
        | one b' q h1 h2 =>
          have : w = [] ∧ b = b' := by
            have e := List.append_inj' (s₁ := w) (s₂ := []) (t₁ := [b]) (t₂ := [b']) (by simpa using hw) rfl
            exact ⟨e.1, by simpa using e.2⟩
          obtain ⟨rfl, rfl⟩ := this
          exact ⟨0, ih.2 (.inl ⟨rfl, rfl⟩), h1, h2⟩
        | more w' p q b' h1 h2 h3 =>
          have e := List.append_inj' hw rfl
          obtain ⟨rfl, e2⟩ := e
          have : b = b' := by simpa using e2
          subst this
          exact ⟨p, ih.2 (.inr h1), h2, h3⟩

/-- accepted numbers of the states that a word leads to -/
theorem run_acc (w : List UInt8) : (∀ x ∈ runN (arcsA l) ((lvL l).length + 1) (clo (arcsA l) ((lvL l).length + 1) [0]) w, 0 ≤ (acA l 0 0 [-1]).getD x.toNat 0 → ∃ i, i < l.length ∧ (acA l 0 0 [-1]).getD x.toNat 0 = (i : Int) ∧ Mt hbF (ex l i) w) ∧
    (∀ i, i < l.length → Mt hbF (ex l i) w → ∃ x ∈ runN (arcsA l) ((lvL l).length + 1) (clo (arcsA l) ((lvL l).length + 1) [0]) w, 0 ≤ (acA l 0 0 [-1]).getD x.toNat 0 ∧ (acA l 0 0 [-1]).getD x.toNat 0 ≤ (i : Int)) := by
  have hz := (acA_zero l 0 0 [-1] rfl).2 (show ([(-1 : Int)] : List Int).getD 0 0 < 0 by decide)
  simp only [Nat.zero_add] at hz
  have hk : ∀ k, k < l.length → ∀ w, Ac (Tl l) (gl (ex l k) (off l k)) (fl (ex l k) (off l k)) w ↔ Mt hbF (ex l k) w := fun k h w => gk (ex l k) (off l k) (Carry_ex h) w
  have hnul : ∀ k, k < l.length → ((gl (ex l k) (off l k)).n = true ↔ Mt hbF (ex l k) []) := fun k h => Ac.nil_iff.symm.trans (hk k h [])
  have hpos : ∀ k, k < l.length → ∀ x : Int, ((off l k : Nat) : Int) < x → x ≤ ((off l k + (lv (ex l k)).length : Nat) : Int) → (acA l 0 0 [-1]).getD x.toNat 0 = if x ∈ (gl (ex l k) (off l k)).l then (k : Int) else -1 := fun k h x h1 h2 => by
    have := acA_pos l 0 0 [-1] rfl k h x.toNat (by omega) (by omega)
    rw [Nat.zero_add, show ((x.toNat : Nat) : Int) = x by omega, Nat.zero_add] at this
    exact this
  constructor
  · intro x hx h0
    rcases (mem_run w).1 hx with ⟨rfl, rfl⟩ | h
    · rcases hz with ⟨_, h2⟩ | ⟨k, h1, h2, _, h4⟩
      · have h0' : 0 ≤ (acA l 0 0 [-1]).getD 0 0 := h0
        omega
      · exact ⟨k, h1, h4, (hnul k h1).1 h2⟩
    · obtain ⟨k, hkl, he⟩ := En_flA.1 h
      have hr := En_range (gl_pin (ex l k) (off l k)) (fl_in (ex l k) (off l k)) he
      have hp := hpos k hkl x hr.1 hr.2
      by_cases hl : x ∈ (gl (ex l k) (off l k)).l
      · rw [if_pos hl] at hp
        exact ⟨k, hkl, hp, (hk k hkl w).1 (.inr ⟨x, hl, he⟩)⟩
      · rw [if_neg hl] at hp
        omega
  · intro i hi hm
    rcases (hk i hi w).2 hm with ⟨rfl, hn⟩ | ⟨q, hq, he⟩
    · rcases hz with ⟨h1, _⟩ | ⟨k, h1, h2, h3, h4⟩
      · rw [h1 i hi] at hn; cases hn
      · refine ⟨0, (mem_run []).2 (.inl ⟨rfl, rfl⟩), ?_⟩
        have hki : k ≤ i := by
          by_cases h : i < k
          · rw [h3 i h] at hn; cases hn
          · omega
        have h4' : (acA l 0 0 [-1]).getD (0 : Int).toNat 0 = (k : Int) := h4
        rw [h4']
        omega
    · have hr := En_range (gl_pin (ex l i) (off l i)) (fl_in (ex l i) (off l i)) he
      have hp := hpos i hi q hr.1 hr.2
      rw [if_pos hq] at hp
      refine ⟨q, (mem_run w).2 (.inr (En_flA.2 ⟨i, hi, he⟩)), ?_⟩
      rw [hp]; omega
end

theorem plain309 {l : List Rx} {w : List UInt8} (hw : ∀ r ∈ l, wfR r) (hn : nnL l ≤ 1152921504606846976) : p309 (l, w, ()) = some true := by
  obtain ⟨b, h23, hb⟩ := p323_spec hw hn
  simp only [p309]
  rw [awake_true, Option.bind_some, if_neg (by decide), h23, Option.bind_some]
  cases b with
  | false => rw [if_pos nft]
  | true =>
    obtain ⟨hl, hv, h180⟩ := hb rfl
    rw [if_neg ntf]
    by_cases h12 : (w.length : Int) > 12
    · rw [if_pos (ct h12)]
    · rw [if_neg (cf h12)]
      have hlv := lvL_le l
      have h24 := (p324_spec hw (by omega) hn).2.2 hv (by omega)
      have h25 := p325_spec hw hv (by omega) (by omega)
      have h39 := p39_nfaA (l := l) (by omega)
      have hal : (arcsA l).length ≤ 1000000 := by
        have h1 := arcsTo_len (mapsA_KB l) ((lvL l).length + 1) (by rw [mapsA_length]; exact Nat.le_refl _)
        have h2 : ((lvL l).length + 1) * (lvL l).length ≤ 200 * 200 := Nat.mul_le_mul (by omega) (by omega)
        unfold arcsA; omega
      have hacl : (acA l 0 0 [-1]).length = (lvL l).length + 1 := by rw [acA_length]; simp [Nat.add_comm]
      have h26 := p326_refl (st := (nfaA l).1) (start := (nfaA l).2.1) (arcs := (nfaA l).2.2.1) (acc := (nfaA l).2.2.2.1) (by show (arcsA l).length ≤ _; omega) (by show (acA l 0 0 [-1]).length ≤ _; omega)
      have V := nfaA_valid (l := l) (by omega)
      have h20 := p320_many (N := (lvL l).length + 1) (st := (nfaA l).1) (start := (nfaA l).2.1) (arcs := (nfaA l).2.2.1) (acc := (nfaA l).2.2.2.1) rfl (by omega) V.ar hal hacl (w := w) (by omega)
      obtain ⟨x, h27, hx⟩ := p327_spec hw hv (by omega) (w := w) (by omega)
      rw [h24, Option.bind_some, h25, Option.bind_some, if_pos (ct rfl), h39, Option.bind_some, if_pos rfl]
      simp only
      rw [h26, Option.bind_some, if_pos rfl, h20, Option.bind_some, h27, Option.bind_some]
      congr 1
      apply decide_eq_true
      have hacc := run_acc (l := l) w
      have hlac := lacc_spec (acA l 0 0 [-1]) (runN (arcsA l) ((lvL l).length + 1) (clo (arcsA l) ((lvL l).length + 1) [0]) w)
      show lacc (acA l 0 0 [-1]) (runN (arcsA l) ((lvL l).length + 1) (clo (arcsA l) ((lvL l).length + 1) [0]) w) = x
      rcases hlac with ⟨e1, e2⟩ | ⟨q, hq, e1, e2, e3⟩
      · rw [e1]
        rcases hx with ⟨rfl, _⟩ | ⟨i, hi, rfl, hm, _⟩
        · rfl
        · obtain ⟨p, hp, h1, _⟩ := hacc.2 i hi hm
          have := e2 p hp; omega
      · obtain ⟨k, hk, e4, hm⟩ := hacc.1 q hq e1
        rw [e2, e4]
        rcases hx with ⟨rfl, hno⟩ | ⟨i, hi, rfl, hmi, hfirst⟩
        · exact absurd hm (hno _ (getD_mem hk))
        · rcases Nat.lt_trichotomy k i with hlt | heq | hgt
          · exact absurd hm (hfirst k hlt)
          · rw [heq]
          · obtain ⟨p, hp, h1, h2⟩ := hacc.2 i hi hmi
            have := e3 p hp h1; omega

theorem pure309 (l : List Rx) (y : ShL (([.str] : List Kind).map Sh.kd)) (hw : ∀ r ∈ l, wfR r) (hn : nnL l ≤ 1048576) (_ : wfL [.str] y) : p309 (l, y) = some true := by
  obtain ⟨w, ⟨⟩⟩ := y
  exact plain309 hw (by omega)
end Go.AM

/- Arguments that are lists of expressions: what the row reads of them; the bound on their bulk. -/
namespace Go.AM
open Go Go.ChangeShapes Go.WideShapes Go.ChangeAt Go.RowKit Go.Proofs Go.Proofs.Ytdjbokdohackdaa

noncomputable def fs50 : Array Field := match Try.prog.underlying 50 with | some (.struct fs) => fs | _ => #[]
theorem hu50 : Try.prog.underlying 50 = some (.struct fs50) := by kernel_rfl
theorem hf50 : fs50.toList.map (fun f => (f.type, f.offset)) = [(3, 0), (48, 1), (37, 5)] := by kernel_rfl
theorem hu37 : Try.prog.underlying 37 = some (.slice 50) := by kernel_rfl
theorem hc50 : Try.prog.cellsOf 50 = 6 := by kernel_rfl
theorem hc3 : Try.prog.cellsOf 3 = 1 := by kernel_rfl
theorem hc48 : Try.prog.cellsOf 48 = 4 := by kernel_rfl
theorem hc37 : Try.prog.cellsOf 37 = 1 := by kernel_rfl
theorem hk3 : kOk Try.prog (.int .i64) 3 = true := by kernel_rfl
theorem hk48 : kOk Try.prog (.arr 4 (.int .u64)) 48 = true := by kernel_rfl

section
variable {H : Type} {enc : TypeId × Value → H}

theorem sum_le : ∀ (ys : List Rx) (ds : List (DataW H)), ys.length = ds.length → (∀ (i : Nat) (y : Rx) (d : DataW H), ys[i]? = some y → ds[i]? = some d → nn y ≤ Rows.uptoBulk d) → nnL ys ≤ Rows.uptoBulkAll ds
  | [], _, _, _ => by unfold nnL; exact Nat.zero_le _
  | y :: ys, [], h, _ => by simp at h
  | y :: ys, d :: ds, h, hi => by
    have h1 := hi 0 y d rfl rfl
    have h2 := sum_le ys ds (by simpa using h) fun i y' d' h1 h2 => hi (i + 1) y' d' (by simpa using h1) (by simpa using h2)
    unfold nnL Rows.uptoBulkAll
    omega

/-- what is said of one expression that is read -/
def RxRead (w : World) (d : DataW H) (cs : List Value) (y : Rx) : Prop := wfR y ∧ nn y ≤ Rows.uptoBulk d ∧ RelRx w (fun b => b < w.heap.size) y cs

theorem read_rxs (w : World) {fuel : Nat} (ih : ∀ m, m < fuel → ∀ {cs : List Value} {x : DataW H × List MemPlace}, DataW.trod enc Try.prog w 0 (fun _ => true) true m 50 cs = some x → ∃ y, RxRead w x.1 cs y)
    {cs : List Value} {x : DataW H × List MemPlace} (h : DataW.trod enc Try.prog w 0 (fun _ => true) true fuel 37 cs = some x) :
    ∃ ys : List Rx, ys.length ≤ maxLen ∧ (∀ y ∈ ys, wfR y) ∧ nnL ys + 1 ≤ Rows.uptoBulk x.1 ∧ RelK w (fun b => b < w.heap.size) (.slice .rx) ys cs := by
  rcases DataW.trod_slice hu37 h with ⟨rfl, rfl⟩ | ⟨a, len, cap, elems, rest, n, hfu, rfl, rfl, _, hl, hm, hlen, hel, _, _⟩
  · exact ⟨[], Nat.zero_le _, fun y hy => (by cases hy), by simp [nnL, Rows.uptoBulk], RelK.nilsl .rx⟩
  · have each : ∀ i, i < len → ∃ y : Rx, ∃ e us, elems[i]? = some e ∧ w.cells? 0 (a.add (i * 6)) 6 = some us ∧ RxRead w e.1 us y := by
      intro i hi
      have h1 := hel i hi
      rw [List.getElem?_eq_getElem (by omega), hc50, Option.bind_eq_some_iff] at h1
      obtain ⟨us, h2, h3⟩ := h1
      obtain ⟨y, hy⟩ := ih n (by omega) h3
      exact ⟨y, _, us, List.getElem?_eq_getElem (by omega), h2, hy⟩
    obtain ⟨xs, hxl, hx⟩ := choose_list len each
    refine ⟨xs, by omega, fun y hy => ?_, ?_, ⟨some a, len, cap, rfl, hxl.symm, hl, ?_⟩⟩
    · obtain ⟨i, hi⟩ := List.getElem?_of_mem hy
      obtain ⟨e, us, _, _, h3⟩ := hx i y hi
      exact h3.1
    · have := sum_le xs (elems.map (·.1)) (by simp [hxl, hlen]) fun i y d h1 h2 => by
        obtain ⟨e, us, g1, _, g3⟩ := hx i y h1
        rw [List.getElem?_map, g1] at h2
        simp only [Option.map_some, Option.some.injEq] at h2
        rw [← h2]
        exact g3.2.1
      simp only [Rows.uptoBulk]
      omega
    · rcases Nat.eq_zero_or_pos len with h0 | hpos
      · exact .inl h0
      · right
        have h0 : w.cell? a ≠ none := by
          obtain ⟨y, e, us, _, h2, _⟩ := each 0 hpos
          obtain ⟨k1, k2⟩ := cells_len h2
          have := k2 0 (by omega)
          rw [List.getElem?_eq_getElem (by omega)] at this
          simp only [Nat.zero_mul, Addr.add, if_true] at this
          rw [this]; simp
        have hspot : a.spot = none ∧ a.block < w.heap.size := by
          unfold World.cell? at h0
          split at h0
          · rename_i c E' fr hb
            refine ⟨?_, (Array.getElem?_eq_some_iff.1 hb).1⟩
            cases hs : a.spot with
            | none => rfl
            | some s => rw [hs] at h0; simp at h0
          · exact absurd rfl h0
        refine ⟨a.block, a.off, by rw [← hspot.1], hspot.2, fun i hi => ?_⟩
        have hget : xs[i]? = some (xs.getD i (Kind.rx).dflt) := by
          rw [List.getD_eq_getElem?_getD, List.getElem?_eq_getElem (by omega)]; rfl
        obtain ⟨e, us, _, h2, h3⟩ := hx i _ hget
        refine ⟨us, h3.2.2, fun j u hj => ?_⟩
        obtain ⟨k1, k2⟩ := cells_len h2
        have hjl : j < 6 := by rw [← k1]; exact (List.getElem?_eq_some_iff.1 hj).1
        have := k2 j hjl
        rw [hj] at this
        rw [← this]
        congr 1
        obtain ⟨ab, ao, asp⟩ := a
        obtain ⟨rfl, _⟩ := hspot
        simp only [Addr.add, Kind.size]
        split <;> split <;> simp_all <;> omega

theorem read_rx (w : World) : ∀ (fuel : Nat) {cs : List Value} {x : DataW H × List MemPlace}, DataW.trod enc Try.prog w 0 (fun _ => true) true fuel 50 cs = some x → ∃ y, RxRead w x.1 cs y := by
  intro fuel
  induction fuel using Nat.strongRecOn with
  | _ fuel ih =>
    intro cs x h
    obtain ⟨xs, n, hfu, rfl, hl, hxl, hall⟩ := DataW.trod_struct hu50 h
    have hsz : fs50.toList.length = 3 := by have := congrArg List.length hf50; simpa using this
    obtain ⟨f, g, k, hfs⟩ : ∃ f g k, fs50.toList = [f, g, k] := by
      match hh : fs50.toList, hsz with
      | [f, g, k], _ => exact ⟨f, g, k, rfl⟩
    have hf := hf50
    rw [hfs] at hf
    simp only [List.map_cons, List.map_nil, List.cons.injEq, Prod.mk.injEq, and_true] at hf
    obtain ⟨⟨f1, f2⟩, ⟨g1, g2⟩, k1, k2⟩ := hf
    have hx3 : xs.length = 3 := by rw [hxl, ← Array.length_toList]; exact hsz
    obtain ⟨x1, x2, x3, rfl⟩ : ∃ x1 x2 x3, xs = [x1, x2, x3] := by
      match xs, hx3 with
      | [x1, x2, x3], _ => exact ⟨x1, x2, x3, rfl⟩
    have at_ : ∀ (i : Nat) (q : Field), fs50.toList[i]? = some q → fs50[i]? = some q := fun i q h => by simpa using h
    have e1 := hall 0 f (at_ 0 f (by rw [hfs]; rfl))
    have e2 := hall 1 g (at_ 1 g (by rw [hfs]; rfl))
    have e3 := hall 2 k (at_ 2 k (by rw [hfs]; rfl))
    rw [f1, f2, hc3] at e1
    rw [g1, g2, hc48] at e2
    rw [k1, k2, hc37] at e3
    simp only [List.getElem?_cons_zero, List.getElem?_cons_succ, List.drop_zero] at e1 e2 e3
    obtain ⟨kd, c1, rfl, _⟩ := DataW.trod_int (kOk_int hk3) e1
    obtain ⟨st, s1, s2⟩ := read_kind w (.arr 4 (.int .u64)) rfl hk48 e2
    obtain ⟨ks, q1, q2, q3, q4⟩ := read_rxs (enc := enc) w (fuel := n) (fun m hm => ih m (by omega)) e3
    obtain ⟨s3, _⟩ := s1
    obtain ⟨_, s4⟩ := s2
    refine ⟨Rx.mk kd st ks, ?_, ?_, ?_⟩
    · unfold wfR
      refine ⟨s3, q1, ?_⟩
      have : ∀ l : List Rx, (∀ y ∈ l, wfR y) → wfRL l := by
        intro l
        induction l with
        | nil => intro _; trivial
        | cons a l ih => intro h; exact ⟨h a (by simp), ih fun y hy => h y (by simp [hy])⟩
      exact this ks q2
    · unfold nn
      simp only [Rows.uptoBulk, List.map_cons, List.map_nil, Rows.uptoBulkAll]
      omega
    · unfold RelRx
      obtain ⟨a, len, cap, r1, r2, r3, r4⟩ := q4
      match st, s3, s4 with
      | [a0, a1, a2, a3], _, s4 =>
        have hcs : cs = cs.take 1 ++ ((cs.drop 1).take 4 ++ (cs.drop 5).take 1) := by
          rw [hc50] at hl
          have h5 : (cs.drop 5).take 1 = cs.drop 5 := List.take_of_length_le (by simp; omega)
          rw [h5, show cs.drop 5 = (cs.drop 1).drop 4 by simp, List.take_append_drop, List.take_append_drop]
        have hu4 : (cs.drop 1).take 4 = [.int .u64 a0, .int .u64 a1, .int .u64 a2, .int .u64 a3] := by
          obtain ⟨l1, t1, e1, h1, l2, t2, e2, h2, l3, t3, e3, h3, l4, t4, e4, h4, h5⟩ := s4
          replace h1 : l1 = [.int .u64 a0] := h1
          replace h2 : l2 = [.int .u64 a1] := h2
          replace h3 : l3 = [.int .u64 a2] := h3
          replace h4 : l4 = [.int .u64 a3] := h4
          replace h5 : t4 = [] := h5
          rw [e1, e2, e3, e4, h1, h2, h3, h4, h5]
          rfl
        refine ⟨rfl, a, len, cap, ?_, r2, r3, ?_⟩
        · rw [hcs, c1, hu4, r1]; rfl
        · rcases r4 with h0 | ⟨b, o, r5, r6, r7⟩
          · exact .inl (by rw [← r2]; exact h0)
          · exact .inr ⟨b, o, r5, r6, (RelRx.go_iff ks o).2 fun i hi => r7 i (by rw [r2]; exact hi)⟩

theorem args_back2 {P : Program} {W : World} (hl : laidOutB P = true) {W' : World} (hold : ∀ b, b < W.heap.size → W'.heap[b]? = W.heap[b]?) : ∀ {ts : List Nat} {vs : List Value} {ds : List (DataW H)} {ps : List MemPlace}, (∀ t ∈ ts, P.readableRec t = true ∧ t < P.types.size) →
    DataW.TrodAll enc P W 0 (fun _ => true) true ts vs ds ps → (∀ x ∈ ps, x.block < W.heap.size) → DataW.TrodAll enc P W' 0 (fun b => decide (b < W.heap.size)) true ts vs ds ps
  | [], vs, ds, ps, hk, h, _ => by
    obtain ⟨rfl, rfl, rfl⟩ := trodAll_nil h
    exact rfl
  | t :: ts, vs, ds, ps, hk, h, hlt => by
    obtain ⟨v, vs1, d, ds1, a, b, rfl, rfl, rfl, h1, h2⟩ := trodAll_cons h
    have hkt := hk t (by simp)
    refine ⟨a, b, ?_, args_back2 hl hold (fun t ht => hk t (by simp [ht])) h2 (fun x hx => hlt x (List.mem_append_right _ hx)), rfl⟩
    refine WideElems.Trod_stays hl hkt.1 hkt.2 h1 (fun x hx => ?_) (fun x hx => by simpa using hlt x (List.mem_append_left _ hx))
    have hb := hlt x (List.mem_append_left _ hx)
    cases x with
    | cell b o => exact World.cell?_of_block (w := W) (hold b hb)
    | map b => exact hold b hb

theorem argsOk_readable {P : Program} : ∀ {ks : List Kind} {ts : List Nat}, argsOk P ks ts = true → ∀ t ∈ ts, P.readableRec t = true ∧ t < P.types.size
  | [], [], _, t, ht => by cases ht
  | k :: ks, t :: ts, h, t', ht => by
    simp only [argsOk, Bool.and_eq_true, decide_eq_true_eq] at h
    rcases List.mem_cons.1 ht with rfl | ht
    · exact ⟨h.1.1.2, h.1.2⟩
    · exact argsOk_readable h.2 t' ht
  | [], _ :: _, h, _, _ => by cases h
  | _ :: _, [], h, _, _ => by cases h

set_option maxRecDepth 100000 in
/-- A LAW on a list of expressions and what else: its pure form answers true at arguments of little bulk. -/
theorem law_contract_rx {f : Nat} {fn : Func} {s : ChangeSpec} {ks : List Kind} {p : ShL ((Kind.slice .rx :: ks).map Sh.kd) → Option Bool} (hs : SoundFn Try.prog f (fnOf (.slice .rx :: ks) (.one .bool) p)) (hvars : s.vars = [])
    (hspec : ∀ (H : Type) (ds : List (DataW H)), ds.length = ks.length + 1 → s.fn H ds = { results := [.lit (.bool true)], args := ds }) {ts : List Nat} (hpar : fn.params.toList = 37 :: ts) (hk : argsOk Try.prog ks ts = true)
    (h37 : Try.prog.readableRec 37 = true) (h37' : 37 < Try.prog.types.size)
    {tb : Nat} (hr : fn.resultTypes = #[tb]) (hb : Try.prog.underlying tb = some .bool) (hlaid : laidOutB Try.prog = true)
    (hp : ∀ (l : List Rx) (y : ShL (ks.map Sh.kd)), (∀ r ∈ l, wfR r) → nnL l ≤ 1048576 → wfL ks y → p (l, y) = some true)
    {W : World} {base : Nat} {args : Array Value} {ds gs : List (DataW H)} {before : List MemPlace}
    (hval : ∀ (j : Nat) t v, fn.params[j]? = some t → args[j]? = some v → Value.okWide Try.prog W .any base t v)
    (hW : DataW.Whole enc Try.prog fn.params.toList s.vars false W args.toList ds gs before) (hbulk : Rows.uptoSmall H (ds ++ gs) = true) :
    Calls Try.prog f args W fun e W' => ∃ v, e = .returned v ∧ s.post enc Try.prog fn false true false false W args v W' := by
  have hW' := hW
  obtain ⟨pp, q, hA, hV, rfl, hfz, hnd⟩ := hW
  rw [hvars] at hV
  obtain ⟨rfl, rfl⟩ := trodVars_none hV
  have hb2 : Rows.uptoBulkAll ds ≤ 1048576 := by
    simp only [Rows.uptoSmall, List.append_nil, decide_eq_true_eq] at hbulk
    exact hbulk
  have hA' := hA
  rw [hpar] at hA'
  obtain ⟨v0, vs1, d0, ds1, a0, b0, hargs, rfl, rfl, ⟨fuel, h1⟩, h2⟩ := trodAll_cons hA'
  obtain ⟨l, l1, l2, l3, l4⟩ := read_rxs (enc := enc) W (fuel := fuel) (fun m _ _ _ h => read_rx W m h) h1
  have hpj : ∀ j, fn.params[j]? = (37 :: ts)[j]? := fun j => by rw [← hpar, Array.getElem?_toList]
  have haj : ∀ j, args[j]? = (v0 :: vs1)[j]? := fun j => by rw [← hargs, Array.getElem?_toList]
  have hval' : ∀ (j : Nat) (t : TypeId) (v : Value), ts[j]? = some t → vs1[j]? = some v → Value.okWide Try.prog W .any base t v := by
    intro j t v ht hv
    apply hval (j + 1) t v
    · rw [hpj, List.getElem?_cons_succ]; exact ht
    · rw [haj, List.getElem?_cons_succ]; exact hv
  obtain ⟨hlen, y, hy, hrel⟩ := read_args (W := W) (base := base) ks hk hval' h2
  have hv0 := hval 0 37 v0 (by rw [hpj]; rfl) (by rw [haj]; rfl)
  obtain ⟨a, len, cap, rfl⟩ := okWide_slice hu37 hv0
  have hcan : decL ((Kind.slice .rx :: ks).map Sh.kd) (canL ((Kind.slice .rx :: ks).map Sh.kd) (l, y)) = some (l, y) := by
    have h3 := decL_canL ks hk y hy
    have h4 : (Sh.kd (.slice .rx)).dec ((Sh.kd (.slice .rx)).can l) = some l := by
      show one (.slice .rx) (.sl .rx l) = some l
      simp [one, Kind.isAgg, AV.isAgg, AV.leaves, oneL, Kind.unflat, unSl]
    show ((Sh.kd (.slice .rx)).dec ((Sh.kd (.slice .rx)).can l)).bind _ = _
    rw [h4, Option.bind_some]
    exact (congrArg (fun o => Option.bind o fun z => some (l, z)) h3)
  have hrel' : VRelL (allOld W) (canL ((Kind.slice .rx :: ks).map Sh.kd) (l, y)) args.toList := by
    rw [hargs]
    refine .cons ?_ hrel
    show VRel (allOld W) (.sl .rx l) _
    unfold VRel
    exact l4
  have hbd : nnL l ≤ 1048576 := by
    have l3' : nnL l + 1 ≤ Rows.uptoBulk d0 := l3
    simp only [Rows.uptoBulkAll] at hb2
    omega
  have hpx := hp l y l2 hbd hy
  have hcall := hs.2 (canL ((Kind.slice .rx :: ks).map Sh.kd) (l, y)) (.bool true) (by unfold fnOf; rw [hcan]; simp only [Option.bind_some, hpx, Option.map_some]; rfl) W (fun b => b < W.heap.size) args.toList (fun b hb => hb) hrel'
  refine Calls.mono hcall fun e W' he => ?_
  obtain ⟨v, rfl, _, hsz, hold, hout, hv⟩ := he
  have hv := hv.bool_inv
  subst hv
  have hdl : (d0 :: ds1).length = ks.length + 1 := by simp [hlen]
  refine ⟨_, rfl, d0 :: ds1, [], (a0 ++ b0) ++ [], [], a0 ++ b0, [], hW', ?_, ?_, ?_, ?_, fun h => by cases h⟩
  · rw [List.append_nil, hspec H _ hdl, hr]
    exact trodAll_mk1 (shut_bool hb _)
  · rw [List.append_nil, hspec H _ hdl]
    refine args_back2 hlaid hold (fun t ht => ?_) hA (fun z hz => by simpa using hW'.lt z (List.mem_append_left _ hz))
    rw [hpar] at ht
    rcases List.mem_cons.1 ht with rfl | ht
    · exact ⟨h37, h37'⟩
    · exact argsOk_readable hk t ht
  · rw [List.append_nil, hspec H _ hdl, hvars]
    exact rfl
  · refine ⟨hout.1, hout.2, fun i hi => ?_⟩
    rw [hold i hi]
    split <;> simp_all
end
end Go.AM
