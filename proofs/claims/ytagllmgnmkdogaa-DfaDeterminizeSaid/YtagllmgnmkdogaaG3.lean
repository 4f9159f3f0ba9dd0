/- Functions in pure form: each is sound over the program. -/
import Derived.Test.YtagllmgnmkdogaaG2
namespace Go.AM
open Go Go.Proofs

noncomputable def O60 : Orc := mkOrc [] [] [] [] []

/-- emendate/byteset.Has -/
noncomputable def p60 : ((List (Int)) × (Int) × Unit) → Option (Bool)
  | (x0, x1, ()) =>
    if decide ((64 : Int) = 0) = true then
      none
    else
      if decide (0 ≤ (IntKind.u8.wrap (x1.tdiv (64 : Int))) ∧ (IntKind.u8.wrap (x1.tdiv (64 : Int))) < (4 : Int)) = true then
        if decide ((64 : Int) = 0) = true then
          none
        else
          if decide (0 ≤ (x1.tmod (64 : Int))) = true then
            some (decide ((IntKind.u64.wrap ((BitVec.ofInt (IntKind.u64.bits) (([(x0.getD 0 0), (x0.getD 1 0), (x0.getD 2 0), (x0.getD 3 0)].getD (IntKind.u8.wrap (x1.tdiv (64 : Int))).toNat 0).fdiv (2 ^ (min (x1.tmod (64 : Int)).toNat (IntKind.u64.bits)))) &&& BitVec.ofInt (IntKind.u64.bits) (1 : Int)).toNat : Nat)) = (1 : Int)))
          else
            none
      else
        none

theorem s60 : SoundFn Try.prog 60 (fnOf [(.arr 4 (.int .u64)), (.int .u8)] (.one .bool) p60) :=
  fn_pure hm0 hng0 hΓ0 (t := []) all_nil (ls := []) (cmds := []) (leaves := []) (fr := []) (D := 1) all_nil (by kernel_rfl) (hfr := all_nil) fun x r h => by
    obtain ⟨x0, x1, ⟨⟩⟩ := x
    refine Eq.trans ?_ h
    kernel_rfl

noncomputable def O65 : Orc := mkOrc [] [] [] [] []

/-- emendate/emendateref07.Has -/
noncomputable def p65 : ((List (Int)) × (Int) × Unit) → Option (Bool)
  | (x0, x1, ()) =>
    if decide ((64 : Int) = 0) = true then
      none
    else
      if decide (0 ≤ (IntKind.u8.wrap (x1.tdiv (64 : Int))) ∧ (IntKind.u8.wrap (x1.tdiv (64 : Int))) < (4 : Int)) = true then
        if decide ((64 : Int) = 0) = true then
          none
        else
          if decide (0 ≤ (x1.tmod (64 : Int))) = true then
            some (decide ((IntKind.u64.wrap ((BitVec.ofInt (IntKind.u64.bits) (([(x0.getD 0 0), (x0.getD 1 0), (x0.getD 2 0), (x0.getD 3 0)].getD (IntKind.u8.wrap (x1.tdiv (64 : Int))).toNat 0).fdiv (2 ^ (min (x1.tmod (64 : Int)).toNat (IntKind.u64.bits)))) &&& BitVec.ofInt (IntKind.u64.bits) (1 : Int)).toNat : Nat)) = (1 : Int)))
          else
            none
      else
        none

theorem s65 : SoundFn Try.prog 65 (fnOf [(.arr 4 (.int .u64)), (.int .u8)] (.one .bool) p65) :=
  fn_pure hm0 hng0 hΓ0 (t := []) all_nil (ls := []) (cmds := []) (leaves := []) (fr := []) (D := 1) all_nil (by kernel_rfl) (hfr := all_nil) fun x r h => by
    obtain ⟨x0, x1, ⟨⟩⟩ := x
    refine Eq.trans ?_ h
    kernel_rfl

def Γ62 : TEnv := { Γ0 with imm := [16] }
theorem hΓ62 : Γ62.ok Try.prog = true := hΓ0

noncomputable def L62_3 : Nat → ((Unit × (List (Bool)) × (Int) × (Int) × Unit) × ((List (Int)) × Unit)) → Option ((Unit × Unit) × ((List (Int)) × Unit))
  | 0, _ => none
  | n + 1, ((_, x6, x7, x8, ()), (y3, ())) =>
    if (decide (x8 < x7)) = true then
      if decide (0 ≤ x8 ∧ x8 < (x6.length : Int)) = true then
        if (x6.getD x8.toNat false) = true then
          if decide (y3.length + ([x8] : List (Int)).length ≤ lim) = true then
            L62_3 n (((), x6, x7, (IntKind.i64.wrap (x8 + (1 : Int))), ()), ((y3 ++ ([x8] : List (Int))), ()))
          else
            none
        else
          L62_3 n (((), x6, x7, (IntKind.i64.wrap (x8 + (1 : Int))), ()), (y3, ()))
      else
        none
    else
      some (((), ()), (y3, ()))

noncomputable def EL62_3 : LoopEnt := ⟨[62], 3, ⟨[.keep [3, 6, 7, 8] [3, 17], .adopt 3 (.int .i64) 3], [3, 6, 7, 8], [3]⟩, [.ref 3, .kd (.slice .bool), .kd (.int .i64), .kd (.int .i64)], [.row (.int .i64)], [⟨(.exit 0), [3], [.ref 3], [3], [.row (.int .i64)]⟩], limit L62_3⟩

noncomputable def O62 : Orc := mkOrc [] [EL62_3] [] [] []

theorem cL62_3 : LoopCert Try.prog O62 Γ62 1 EL62_3 :=
  ⟨⟨62, 0, L62_3, rfl, by kernel_rfl, by decide, limit_fn, fun _ => rfl, fun m old x r h => by
    obtain ⟨⟨x3, x6, x7, x8, ⟨⟩⟩, y3, ⟨⟩⟩ := x
    refine Eq.trans ?_ h
    kernel_rfl⟩⟩

/-- emendate/nfa.sorted -/
noncomputable def p62 : ((List (Bool)) × Unit) → Option (List (Int))
  | (x0, ()) =>
    (limit L62_3 (((), x0, (x0.length : Int), (0 : Int), ()), (([] : List (Int)), ()))).bind fun r1 =>
    some r1.2.1

theorem s62 : SoundFn Try.prog 62 (fnOf [(.slice .bool)] (.one (.slice (.int .i64))) p62) :=
  fn_pure hm0 hng0 hΓ62 (t := []) all_nil (ls := [EL62_3]) (cmds := []) (leaves := []) (fr := []) (D := 1) (all_cons cL62_3 all_nil) (by kernel_rfl) (hfr := all_nil) fun x r h => by
    obtain ⟨x0, ⟨⟩⟩ := x
    refine Eq.trans ?_ h
    kernel_rfl

def Γ64 : TEnv := { Γ0 with imm := [17] }
theorem hΓ64 : Γ64.ok Try.prog = true := hΓ0

noncomputable def L64_3 : Nat → (((List (Bool)) × Unit × (Int) × Unit) × ((List (Int)) × Unit)) → Option ((Unit × Unit) × ((List (Int)) × Unit))
  | 0, _ => none
  | n + 1, ((x0, _, x4, ()), (y3, ())) =>
    if (decide (x4 < (x0.length : Int))) = true then
      if decide (0 ≤ x4 ∧ x4 < (x0.length : Int)) = true then
        if (x0.getD x4.toNat false) = true then
          if decide (y3.length + ([x4] : List (Int)).length ≤ lim) = true then
            L64_3 n ((x0, (), (IntKind.i64.wrap (x4 + (1 : Int))), ()), ((y3 ++ ([x4] : List (Int))), ()))
          else
            none
        else
          L64_3 n ((x0, (), (IntKind.i64.wrap (x4 + (1 : Int))), ()), (y3, ()))
      else
        none
    else
      some (((), ()), (y3, ()))

noncomputable def EL64_3 : LoopEnt := ⟨[64], 3, ⟨[.keep [0, 3, 4] [3, 18], .adopt 3 (.int .i64) 3], [0, 3, 4], [3]⟩, [.kd (.slice .bool), .ref 3, .kd (.int .i64)], [.row (.int .i64)], [⟨(.exit 0), [3], [.ref 3], [3], [.row (.int .i64)]⟩], limit L64_3⟩

noncomputable def O64 : Orc := mkOrc [] [EL64_3] [] [] []

theorem cL64_3 : LoopCert Try.prog O64 Γ64 1 EL64_3 :=
  ⟨⟨64, 0, L64_3, rfl, by kernel_rfl, by decide, limit_fn, fun _ => rfl, fun m old x r h => by
    obtain ⟨⟨x0, x3, x4, ⟨⟩⟩, y3, ⟨⟩⟩ := x
    refine Eq.trans ?_ h
    kernel_rfl⟩⟩

/-- emendate/emendateref09.list -/
noncomputable def p64 : ((List (Bool)) × Unit) → Option (List (Int))
  | (x0, ()) =>
    (limit L64_3 ((x0, (), (0 : Int), ()), (([] : List (Int)), ()))).bind fun r1 =>
    some r1.2.1

theorem s64 : SoundFn Try.prog 64 (fnOf [(.slice .bool)] (.one (.slice (.int .i64))) p64) :=
  fn_pure hm0 hng0 hΓ64 (t := []) all_nil (ls := [EL64_3]) (cmds := []) (leaves := []) (fr := []) (D := 1) (all_cons cL64_3 all_nil) (by kernel_rfl) (hfr := all_nil) fun x r h => by
    obtain ⟨x0, ⟨⟩⟩ := x
    refine Eq.trans ?_ h
    kernel_rfl

noncomputable def L63_2 : Nat → (((List (List (Int))) × (Int) × (Int) × (Int) × Unit) × (Unit)) → Option ((((Bool) × Unit) × (Unit)) ⊕ ((Unit) × (Unit)))
  | 0, _ => none
  | n + 1, ((x0, x1, x2, x7, ()), ()) =>
    if (decide (x7 < (x0.length : Int))) = true then
      if decide (0 ≤ x7 ∧ x7 < (x0.length : Int)) = true then
        (p65 ([((x0.getD x7.toNat (List.replicate 4 0)).getD 0 0), ((x0.getD x7.toNat (List.replicate 4 0)).getD 1 0), ((x0.getD x7.toNat (List.replicate 4 0)).getD 2 0), ((x0.getD x7.toNat (List.replicate 4 0)).getD 3 0)], x1, ())).bind fun c1 =>
        if decide (0 ≤ x7 ∧ x7 < (x0.length : Int)) = true then
          (p65 ([((x0.getD x7.toNat (List.replicate 4 0)).getD 0 0), ((x0.getD x7.toNat (List.replicate 4 0)).getD 1 0), ((x0.getD x7.toNat (List.replicate 4 0)).getD 2 0), ((x0.getD x7.toNat (List.replicate 4 0)).getD 3 0)], x2, ())).bind fun c2 =>
          if (!(c1 == c2)) = true then
            some (.inl ((false, ()), ()))
          else
            L63_2 n ((x0, x1, x2, (IntKind.i64.wrap (x7 + (1 : Int))), ()), ())
        else
          none
      else
        none
    else
      some (.inr ((), ()))

noncomputable def EL63_2 : LoopEnt := ⟨[63], 2, ⟨[], [0, 1, 2, 7], []⟩, [.kd (.slice (.arr 4 (.int .u64))), .kd (.int .u8), .kd (.int .u8), .kd (.int .i64)], [], [⟨.ret, [6], [.kd .bool], [], []⟩, ⟨(.exit 0), [], [], [], []⟩], limit L63_2⟩

noncomputable def O63 : Orc := mkOrc [(65, fnOf [(.arr 4 (.int .u64)), (.int .u8)] (.one .bool) p65)] [EL63_2] [] [] []

theorem cL63_2 : LoopCert Try.prog O63 Γ0 1 EL63_2 :=
  ⟨⟨63, 0, L63_2, rfl, by kernel_rfl, by decide, limit_fn, fun _ => rfl, fun m old x r h => by
    obtain ⟨⟨x0, x1, x2, x7, ⟨⟩⟩, ⟨⟩⟩ := x
    refine Eq.trans ?_ h
    kernel_rfl⟩⟩

/-- emendate/emendateref07.equivalent -/
noncomputable def p63 : ((List (List (Int))) × (Int) × (Int) × Unit) → Option (Bool)
  | (x0, x1, x2, ()) =>
    (limit L63_2 ((x0, x1, x2, (0 : Int), ()), ())).bind (Sum.elim (fun r1 =>
      some r1.1.1) (fun _ =>
      some true))

theorem s63 : SoundFn Try.prog 63 (fnOf [(.slice (.arr 4 (.int .u64))), (.int .u8), (.int .u8)] (.one .bool) p63) :=
  fn_pure hm0 hng0 hΓ0 (t := [(65, fnOf [(.arr 4 (.int .u64)), (.int .u8)] (.one .bool) p65)]) (all_cons s65 all_nil) (ls := [EL63_2]) (cmds := []) (leaves := []) (fr := []) (D := 1) (all_cons cL63_2 all_nil) (by kernel_rfl) (hfr := all_nil) fun x r h => by
    obtain ⟨x0, x1, x2, ⟨⟩⟩ := x
    refine Eq.trans ?_ h
    kernel_rfl

noncomputable def L46_8 : Nat → (((List (List (Int))) × Unit × (Int) × (Int) × (Int) × Unit) × ((List (Int)) × Unit)) → Option (((List (List (Int))) × Unit × (Int) × (Int) × Unit) × ((List (Int)) × Unit))
  | 0, _ => none
  | n + 1, ((x0, _, x4, x5, x6, ()), (y7, ())) =>
    if (decide (x6 < x5)) = true then
      (p63 (x0, (IntKind.u8.wrap x6), (IntKind.u8.wrap x5), ())).bind fun c1 =>
      if c1 = true then
        if decide (0 ≤ x6 ∧ x6 < (y7.length : Int)) = true then
          if decide (0 ≤ x5 ∧ x5 < (y7.length : Int)) = true then
            some ((x0, (), x4, x5, ()), ((y7.set x5.toNat (y7.getD x6.toNat 0)), ()))
          else
            none
        else
          none
      else
        L46_8 n ((x0, (), x4, x5, (IntKind.i64.wrap (x6 + (1 : Int))), ()), (y7, ()))
    else
      some ((x0, (), x4, x5, ()), (y7, ()))

noncomputable def EL46_8 : LoopEnt := ⟨[46], 8, ⟨[], [0, 3, 4, 5, 6], [7]⟩, [.kd (.slice (.arr 4 (.int .u64))), .ref 7, .kd (.int .i64), .kd (.int .i64), .kd (.int .i64)], [.row (.int .i64)], [⟨(.exit 2), [0, 3, 4, 5], [.kd (.slice (.arr 4 (.int .u64))), .ref 7, .kd (.int .i64), .kd (.int .i64)], [7], [.row (.int .i64)]⟩], limit L46_8⟩

noncomputable def L46_4 : Nat → (((List (List (Int))) × Unit × (Int) × (Int) × Unit) × ((List (Int)) × Unit)) → Option ((Unit × Unit) × ((List (Int)) × Unit))
  | 0, _ => none
  | n + 1, ((x0, _, x4, x5, ()), (y7, ())) =>
    if (decide (x5 < (256 : Int))) = true then
      if decide (0 ≤ x5 ∧ x5 < (y7.length : Int)) = true then
        (limit L46_8 ((x0, (), x4, x5, (0 : Int), ()), ((y7.set x5.toNat x4), ()))).bind fun r1 =>
        if decide (0 ≤ r1.1.2.2.2.1 ∧ r1.1.2.2.2.1 < (r1.2.1.length : Int)) = true then
          if (decide ((r1.2.1.getD r1.1.2.2.2.1.toNat 0) = r1.1.2.2.1)) = true then
            L46_4 n ((r1.1.1, (), (IntKind.i64.wrap (r1.1.2.2.1 + (1 : Int))), (IntKind.i64.wrap (r1.1.2.2.2.1 + (1 : Int))), ()), (r1.2.1, ()))
          else
            L46_4 n ((r1.1.1, (), r1.1.2.2.1, (IntKind.i64.wrap (r1.1.2.2.2.1 + (1 : Int))), ()), (r1.2.1, ()))
        else
          none
      else
        none
    else
      some (((), ()), (y7, ()))

noncomputable def EL46_4 : LoopEnt := ⟨[46], 4, ⟨[], [0, 3, 4, 5], [7]⟩, [.kd (.slice (.arr 4 (.int .u64))), .ref 7, .kd (.int .i64), .kd (.int .i64)], [.row (.int .i64)], [⟨(.exit 0), [3], [.ref 7], [7], [.row (.int .i64)]⟩], limit L46_4⟩

noncomputable def O46 : Orc := mkOrc [(63, fnOf [(.slice (.arr 4 (.int .u64))), (.int .u8), (.int .u8)] (.one .bool) p63)] [EL46_8, EL46_4] [] [] []

theorem cL46_8 : LoopCert Try.prog O46 Γ0 1 EL46_8 :=
  ⟨⟨46, 1, L46_8, rfl, by kernel_rfl, by decide, limit_fn, fun _ => rfl, fun m old x r h => by
    obtain ⟨⟨x0, x3, x4, x5, x6, ⟨⟩⟩, y7, ⟨⟩⟩ := x
    refine Eq.trans ?_ h
    kernel_rfl⟩⟩

theorem cL46_4 : LoopCert Try.prog O46 Γ0 1 EL46_4 :=
  ⟨⟨46, 0, L46_4, rfl, by kernel_rfl, by decide, limit_fn, fun _ => rfl, fun m old x r h => by
    obtain ⟨⟨x0, x3, x4, x5, ⟨⟩⟩, y7, ⟨⟩⟩ := x
    refine Eq.trans ?_ h
    kernel_rfl⟩⟩

/-- emendate/emendateref07.Classes -/
noncomputable def p46 : ((List (List (Int))) × Unit) → Option (List (Int))
  | (x0, ()) =>
    if decide ((256 : Int) = (256 : Int) ∧ 0 ≤ (256 : Int) ∧ (256 : Int) ≤ (lim : Int)) = true then
      (limit L46_4 ((x0, (), (0 : Int), (0 : Int), ()), ((List.replicate (256 : Int).toNat (0 : Int)), ()))).bind fun r1 =>
      some r1.2.1
    else
      none

theorem s46 : SoundFn Try.prog 46 (fnOf [(.slice (.arr 4 (.int .u64)))] (.one (.slice (.int .i64))) p46) :=
  fn_pure hm0 hng0 hΓ0 (t := [(63, fnOf [(.slice (.arr 4 (.int .u64))), (.int .u8), (.int .u8)] (.one .bool) p63)]) (all_cons s63 all_nil) (ls := [EL46_8, EL46_4]) (cmds := []) (leaves := []) (fr := []) (D := 1) (all_cons cL46_8 (all_cons cL46_4 all_nil)) (by kernel_rfl) (hfr := all_nil) fun x r h => by
    obtain ⟨x0, ⟨⟩⟩ := x
    refine Eq.trans ?_ h
    kernel_rfl

noncomputable def L40_8 : Nat → (((List (List (Int))) × Unit × Unit × (Int) × Unit × (Int) × (Int) × (List (List (Int))) × (Int) × (Int) × Unit) × ((List (Int)) × (List ((List UInt8) × (Int))) × (List (Int)) × Unit)) → Option (((List (List (Int))) × Unit × Unit × (Int) × Unit × (Int) × (Int) × Unit) × ((List (Int)) × (List ((List UInt8) × (Int))) × (List (Int)) × Unit))
  | 0, _ => none
  | n + 1, ((x0, _, _, x5, _, x14, x15, x21, x22, x23, ()), (y11, y12, y20, ())) =>
    if (decide (x23 < x22)) = true then
      if decide (0 ≤ x23 ∧ x23 < (x21.length : Int)) = true then
        (p60 ([((x21.getD x23.toNat (List.replicate 4 0)).getD 0 0), ((x21.getD x23.toNat (List.replicate 4 0)).getD 1 0), ((x21.getD x23.toNat (List.replicate 4 0)).getD 2 0), ((x21.getD x23.toNat (List.replicate 4 0)).getD 3 0)], (IntKind.u8.wrap x5), ())).bind fun c1 =>
        if c1 = true then
          if decide (0 ≤ x23 ∧ x23 < (y20.length : Int)) = true then
            L40_8 n ((x0, (), (), x5, (), x14, x15, x21, x22, (IntKind.i64.wrap (x23 + (1 : Int))), ()), (y11, y12, (y20.set x23.toNat (1 : Int)), ()))
          else
            none
        else
          L40_8 n ((x0, (), (), x5, (), x14, x15, x21, x22, (IntKind.i64.wrap (x23 + (1 : Int))), ()), (y11, y12, y20, ()))
      else
        none
    else
      some ((x0, (), (), x5, (), x14, x15, ()), (y11, y12, y20, ()))

noncomputable def EL40_8 : LoopEnt := ⟨[40], 8, ⟨[], [0, 3, 4, 5, 6, 14, 15, 21, 22, 23], [11, 12, 20]⟩, [.kd (.slice (.arr 4 (.int .u64))), .ref 11, .mapr 12, .kd (.int .i64), .ref 20, .kd (.int .i64), .kd (.int .i64), .kd (.slice (.arr 4 (.int .u64))), .kd (.int .i64), .kd (.int .i64)], [.row (.int .i64), .map .str (.int .i64), .row (.int .u8)], [⟨(.exit 2), [0, 3, 4, 5, 6, 14, 15], [.kd (.slice (.arr 4 (.int .u64))), .ref 11, .mapr 12, .kd (.int .i64), .ref 20, .kd (.int .i64), .kd (.int .i64)], [11, 12, 20], [.row (.int .i64), .map .str (.int .i64), .row (.int .u8)]⟩], limit L40_8⟩

noncomputable def L40_4 : Nat → (((List (List (Int))) × Unit × Unit × (Int) × (Int) × Unit) × ((List (Int)) × (List ((List UInt8) × (Int))) × Unit)) → Option ((Unit × Unit) × ((List (Int)) × Unit))
  | 0, _ => none
  | n + 1, ((x0, _, _, x14, x15, ()), (y11, y12, ())) =>
    if (decide (x15 < x14)) = true then
      if decide ((x0.length : Int) = (x0.length : Int) ∧ 0 ≤ (x0.length : Int) ∧ (x0.length : Int) ≤ (lim : Int)) = true then
        (limit L40_8 ((x0, (), (), x15, (), x14, x15, x0, (x0.length : Int), (0 : Int), ()), (y11, y12, (List.replicate (x0.length : Int).toNat (0 : Int)), ()))).bind fun r1 =>
        if (!(mget .str (r1.2.2.2.1.map fun n => UInt8.ofNat n.toNat) r1.2.2.1).isSome) = true then
          if decide (0 ≤ r1.1.2.2.2.1 ∧ r1.1.2.2.2.1 < (r1.2.1.length : Int)) = true then
            L40_4 n ((r1.1.1, (), (), r1.1.2.2.2.2.2.1, (IntKind.i64.wrap (r1.1.2.2.2.2.2.2.1 + (1 : Int))), ()), ((r1.2.1.set r1.1.2.2.2.1.toNat (r1.2.2.1.length : Int)), (mput .str (r1.2.2.2.1.map fun n => UInt8.ofNat n.toNat) (r1.2.2.1.length : Int) r1.2.2.1), ()))
          else
            none
        else
          if decide (0 ≤ r1.1.2.2.2.1 ∧ r1.1.2.2.2.1 < (r1.2.1.length : Int)) = true then
            L40_4 n ((r1.1.1, (), (), r1.1.2.2.2.2.2.1, (IntKind.i64.wrap (r1.1.2.2.2.2.2.2.1 + (1 : Int))), ()), ((r1.2.1.set r1.1.2.2.2.1.toNat ((mget .str (r1.2.2.2.1.map fun n => UInt8.ofNat n.toNat) r1.2.2.1).getD 0)), r1.2.2.1, ()))
          else
            none
      else
        none
    else
      some (((), ()), (y11, ()))

noncomputable def EL40_4 : LoopEnt := ⟨[40], 4, ⟨[], [0, 3, 4, 14, 15], [11, 12]⟩, [.kd (.slice (.arr 4 (.int .u64))), .ref 11, .mapr 12, .kd (.int .i64), .kd (.int .i64)], [.row (.int .i64), .map .str (.int .i64)], [⟨(.exit 0), [3], [.ref 11], [11], [.row (.int .i64)]⟩], limit L40_4⟩

noncomputable def O40 : Orc := mkOrc [(60, fnOf [(.arr 4 (.int .u64)), (.int .u8)] (.one .bool) p60)] [EL40_8, EL40_4] [] [] []

theorem cL40_8 : LoopCert Try.prog O40 Γ0 1 EL40_8 :=
  ⟨⟨40, 1, L40_8, rfl, by kernel_rfl, by decide, limit_fn, fun _ => rfl, fun m old x r h => by
    obtain ⟨⟨x0, x3, x4, x5, x6, x14, x15, x21, x22, x23, ⟨⟩⟩, y11, y12, y20, ⟨⟩⟩ := x
    refine Eq.trans ?_ h
    kernel_rfl⟩⟩

theorem cL40_4 : LoopCert Try.prog O40 Γ0 1 EL40_4 :=
  ⟨⟨40, 0, L40_4, rfl, by kernel_rfl, by decide, limit_fn, fun _ => rfl, fun m old x r h => by
    obtain ⟨⟨x0, x3, x4, x14, x15, ⟨⟩⟩, y11, y12, ⟨⟩⟩ := x
    refine Eq.trans ?_ h
    kernel_rfl⟩⟩

/-- emendate/byteset.Classes -/
noncomputable def p40 : ((List (List (Int))) × Unit) → Option (List (Int))
  | (x0, ()) =>
    if decide ((256 : Int) = (256 : Int) ∧ 0 ≤ (256 : Int) ∧ (256 : Int) ≤ (lim : Int)) = true then
      (limit L40_4 ((x0, (), (), ((List.replicate (256 : Int).toNat (0 : Int)).length : Int), (0 : Int), ()), ((List.replicate (256 : Int).toNat (0 : Int)), ([] : List ((List UInt8) × (Int))), ()))).bind fun r1 =>
      some r1.2.1
    else
      none

theorem s40 : SoundFn Try.prog 40 (fnOf [(.slice (.arr 4 (.int .u64)))] (.one (.slice (.int .i64))) p40) :=
  fn_pure hm0 hng0 hΓ0 (t := [(60, fnOf [(.arr 4 (.int .u64)), (.int .u8)] (.one .bool) p60)]) (all_cons s60 all_nil) (ls := [EL40_8, EL40_4]) (cmds := []) (leaves := []) (fr := []) (D := 1) (all_cons cL40_8 (all_cons cL40_4 all_nil)) (by kernel_rfl) (hfr := all_nil) fun x r h => by
    obtain ⟨x0, ⟨⟩⟩ := x
    refine Eq.trans ?_ h
    kernel_rfl

noncomputable def L44_3 : Nat → ((Unit × (Int) × (List (Int)) × (Int) × (Int) × Unit) × (((Int) × (Int) × (List ((Int) × ((Int) × ((Bool) × ((List (Int)) × (Unit)))))) × (List (Int)) × Unit) × Unit)) → Option (((Int) × Unit) × (Unit))
  | 0, _ => none
  | n + 1, ((_, x5, x9, x10, x11, ()), (y2, ())) =>
    if (decide (x11 < x10)) = true then
      if decide (0 ≤ x11 ∧ x11 < (x9.length : Int)) = true then
        if decide (0 ≤ (x9.getD x11.toNat 0) ∧ (x9.getD x11.toNat 0) < (y2.2.2.2.1.length : Int)) = true then
          if (decide ((y2.2.2.2.1.getD (x9.getD x11.toNat 0).toNat 0) ≥ (0 : Int))) = true then
            if (decide (x5 < (0 : Int))) = true then
              L44_3 n (((), (y2.2.2.2.1.getD (x9.getD x11.toNat 0).toNat 0), x9, x10, (IntKind.i64.wrap (x11 + (1 : Int))), ()), ((y2.1, y2.2.1, y2.2.2.1, y2.2.2.2.1, ()), ()))
            else
              if (decide ((y2.2.2.2.1.getD (x9.getD x11.toNat 0).toNat 0) < x5)) = true then
                L44_3 n (((), (y2.2.2.2.1.getD (x9.getD x11.toNat 0).toNat 0), x9, x10, (IntKind.i64.wrap (x11 + (1 : Int))), ()), ((y2.1, y2.2.1, y2.2.2.1, y2.2.2.2.1, ()), ()))
              else
                L44_3 n (((), x5, x9, x10, (IntKind.i64.wrap (x11 + (1 : Int))), ()), ((y2.1, y2.2.1, y2.2.2.1, y2.2.2.2.1, ()), ()))
          else
            L44_3 n (((), x5, x9, x10, (IntKind.i64.wrap (x11 + (1 : Int))), ()), ((y2.1, y2.2.1, y2.2.2.1, y2.2.2.2.1, ()), ()))
        else
          none
      else
        none
    else
      some ((x5, ()), ())

noncomputable def EL44_3 : LoopEnt := ⟨[44], 3, ⟨[], [2, 5, 9, 10, 11], [2]⟩, [.ptr 2 0, .kd (.int .i64), .kd (.slice (.int .i64)), .kd (.int .i64), .kd (.int .i64)], [.box [.kd (.int .i64), .kd (.int .i64), .kd (.slice (.pair (.int .i64) (.pair (.int .i64) (.pair .bool (.pair (.arr 4 (.int .u64)) .unit))))), .kd (.slice (.int .i64))]], [⟨(.exit 0), [5], [.kd (.int .i64)], [], []⟩], limit L44_3⟩

noncomputable def O44 : Orc := mkOrc [] [EL44_3] [] [] []

theorem cL44_3 : LoopCert Try.prog O44 Γ0 1 EL44_3 :=
  ⟨⟨44, 0, L44_3, rfl, by kernel_rfl, by decide, limit_fn, fun _ => rfl, fun m old x r h => by
    obtain ⟨⟨x2, x5, x9, x10, x11, ⟨⟩⟩, y2, ⟨⟩⟩ := x
    refine Eq.trans ?_ h
    kernel_rfl⟩⟩

/-- emendate/dfa.accepts -/
noncomputable def p44 : (((Int) × ((Int) × ((List ((Int) × ((Int) × ((Bool) × ((List (Int)) × (Unit)))))) × ((List (Int)) × (Unit))))) × (List (Int)) × Unit) → Option (Int)
  | (x0, x1, ()) =>
    (limit L44_3 (((), (-1 : Int), x1, (x1.length : Int), (0 : Int), ()), ((x0.1, x0.2.1, x0.2.2.1, x0.2.2.2.1, ()), ()))).bind fun r1 =>
    some r1.1.1

theorem s44 : SoundFn Try.prog 44 (fnOf [(.pair (.int .i64) (.pair (.int .i64) (.pair (.slice (.pair (.int .i64) (.pair (.int .i64) (.pair .bool (.pair (.arr 4 (.int .u64)) .unit))))) (.pair (.slice (.int .i64)) .unit)))), (.slice (.int .i64))] (.one (.int .i64)) p44) :=
  fn_pure hm0 hng0 hΓ0 (t := []) all_nil (ls := [EL44_3]) (cmds := []) (leaves := []) (fr := []) (D := 1) (all_cons cL44_3 all_nil) (by kernel_rfl) (hfr := all_nil) fun x r h => by
    obtain ⟨x0, x1, ⟨⟩⟩ := x
    refine Eq.trans ?_ h
    kernel_rfl

noncomputable def L51_3 : Nat → (((List (Int)) × Unit × (Int) × (Int) × Unit) × (((Int) × (Int) × (List ((Int) × ((Int) × ((Bool) × ((List (Int)) × (Unit)))))) × (List (Int)) × Unit) × Unit)) → Option (((Int) × Unit) × (Unit))
  | 0, _ => none
  | n + 1, ((x1, _, x5, x6, ()), (y2, ())) =>
    if (decide (x6 < (x1.length : Int))) = true then
      if decide (0 ≤ x6 ∧ x6 < (x1.length : Int)) = true then
        if decide (0 ≤ (x1.getD x6.toNat 0) ∧ (x1.getD x6.toNat 0) < (y2.2.2.2.1.length : Int)) = true then
          if (decide ((y2.2.2.2.1.getD (x1.getD x6.toNat 0).toNat 0) ≥ (0 : Int))) = true then
            if (decide (x5 < (0 : Int))) = true then
              L51_3 n ((x1, (), (y2.2.2.2.1.getD (x1.getD x6.toNat 0).toNat 0), (IntKind.i64.wrap (x6 + (1 : Int))), ()), ((y2.1, y2.2.1, y2.2.2.1, y2.2.2.2.1, ()), ()))
            else
              if (decide ((y2.2.2.2.1.getD (x1.getD x6.toNat 0).toNat 0) < x5)) = true then
                L51_3 n ((x1, (), (y2.2.2.2.1.getD (x1.getD x6.toNat 0).toNat 0), (IntKind.i64.wrap (x6 + (1 : Int))), ()), ((y2.1, y2.2.1, y2.2.2.1, y2.2.2.2.1, ()), ()))
              else
                L51_3 n ((x1, (), x5, (IntKind.i64.wrap (x6 + (1 : Int))), ()), ((y2.1, y2.2.1, y2.2.2.1, y2.2.2.2.1, ()), ()))
          else
            L51_3 n ((x1, (), x5, (IntKind.i64.wrap (x6 + (1 : Int))), ()), ((y2.1, y2.2.1, y2.2.2.1, y2.2.2.2.1, ()), ()))
        else
          none
      else
        none
    else
      some ((x5, ()), ())

noncomputable def EL51_3 : LoopEnt := ⟨[51], 3, ⟨[], [1, 2, 5, 6], [2]⟩, [.kd (.slice (.int .i64)), .ptr 2 0, .kd (.int .i64), .kd (.int .i64)], [.box [.kd (.int .i64), .kd (.int .i64), .kd (.slice (.pair (.int .i64) (.pair (.int .i64) (.pair .bool (.pair (.arr 4 (.int .u64)) .unit))))), .kd (.slice (.int .i64))]], [⟨(.exit 0), [5], [.kd (.int .i64)], [], []⟩], limit L51_3⟩

noncomputable def O51 : Orc := mkOrc [] [EL51_3] [] [] []

theorem cL51_3 : LoopCert Try.prog O51 Γ0 1 EL51_3 :=
  ⟨⟨51, 0, L51_3, rfl, by kernel_rfl, by decide, limit_fn, fun _ => rfl, fun m old x r h => by
    obtain ⟨⟨x1, x2, x5, x6, ⟨⟩⟩, y2, ⟨⟩⟩ := x
    refine Eq.trans ?_ h
    kernel_rfl⟩⟩

/-- emendate/emendateref10.least -/
noncomputable def p51 : (((Int) × ((Int) × ((List ((Int) × ((Int) × ((Bool) × ((List (Int)) × (Unit)))))) × ((List (Int)) × (Unit))))) × (List (Int)) × Unit) → Option (Int)
  | (x0, x1, ()) =>
    (limit L51_3 ((x1, (), (-1 : Int), (0 : Int), ()), ((x0.1, x0.2.1, x0.2.2.1, x0.2.2.2.1, ()), ()))).bind fun r1 =>
    some r1.1.1

theorem s51 : SoundFn Try.prog 51 (fnOf [(.pair (.int .i64) (.pair (.int .i64) (.pair (.slice (.pair (.int .i64) (.pair (.int .i64) (.pair .bool (.pair (.arr 4 (.int .u64)) .unit))))) (.pair (.slice (.int .i64)) .unit)))), (.slice (.int .i64))] (.one (.int .i64)) p51) :=
  fn_pure hm0 hng0 hΓ0 (t := []) all_nil (ls := [EL51_3]) (cmds := []) (leaves := []) (fr := []) (D := 1) (all_cons cL51_3 all_nil) (by kernel_rfl) (hfr := all_nil) fun x r h => by
    obtain ⟨x0, x1, ⟨⟩⟩ := x
    refine Eq.trans ?_ h
    kernel_rfl

noncomputable def L50_2 : Nat → (((List (List (Int))) × (List (Int)) × (Int) × Unit) × (Unit)) → Option ((((Int) × Unit) × (Unit)) ⊕ ((Unit) × (Unit)))
  | 0, _ => none
  | n + 1, ((x0, x1, x5, ()), ()) =>
    if (decide (x5 < (x0.length : Int))) = true then
      if decide (0 ≤ x5 ∧ x5 < (x0.length : Int)) = true then
        (p19 ((x0.getD x5.toNat []), x1, ())).bind fun c1 =>
        if c1 = true then
          some (.inl ((x5, ()), ()))
        else
          L50_2 n ((x0, x1, (IntKind.i64.wrap (x5 + (1 : Int))), ()), ())
      else
        none
    else
      some (.inr ((), ()))

noncomputable def EL50_2 : LoopEnt := ⟨[50], 2, ⟨[], [0, 1, 5], []⟩, [.kd (.slice (.slice (.int .i64))), .kd (.slice (.int .i64)), .kd (.int .i64)], [], [⟨.ret, [4], [.kd (.int .i64)], [], []⟩, ⟨(.exit 0), [], [], [], []⟩], limit L50_2⟩

noncomputable def O50 : Orc := mkOrc [(19, fnOf [(.slice (.int .i64)), (.slice (.int .i64))] (.one .bool) p19)] [EL50_2] [] [] []

theorem cL50_2 : LoopCert Try.prog O50 Γ0 1 EL50_2 :=
  ⟨⟨50, 0, L50_2, rfl, by kernel_rfl, by decide, limit_fn, fun _ => rfl, fun m old x r h => by
    obtain ⟨⟨x0, x1, x5, ⟨⟩⟩, ⟨⟩⟩ := x
    refine Eq.trans ?_ h
    kernel_rfl⟩⟩

/-- emendate/emendateref10.find -/
noncomputable def p50 : ((List (List (Int))) × (List (Int)) × Unit) → Option (Int)
  | (x0, x1, ()) =>
    (limit L50_2 ((x0, x1, (0 : Int), ()), ())).bind (Sum.elim (fun r1 =>
      some r1.1.1) (fun _ =>
      some (-1 : Int)))

theorem s50 : SoundFn Try.prog 50 (fnOf [(.slice (.slice (.int .i64))), (.slice (.int .i64))] (.one (.int .i64)) p50) :=
  fn_pure hm0 hng0 hΓ0 (t := [(19, fnOf [(.slice (.int .i64)), (.slice (.int .i64))] (.one .bool) p19)]) (all_cons s19 all_nil) (ls := [EL50_2]) (cmds := []) (leaves := []) (fr := []) (D := 1) (all_cons cL50_2 all_nil) (by kernel_rfl) (hfr := all_nil) fun x r h => by
    obtain ⟨x0, x1, ⟨⟩⟩ := x
    refine Eq.trans ?_ h
    kernel_rfl

noncomputable def L52_3 : Nat → (((List (Int)) × Unit × (Int) × (Int) × Unit) × (((Int) × (Int) × (List ((Int) × ((Int) × ((Bool) × ((List (Int)) × (Unit)))))) × (List (Int)) × Unit) × Unit)) → Option (((Int) × Unit) × (Unit))
  | 0, _ => none
  | n + 1, ((x1, _, x5, x6, ()), (y2, ())) =>
    if (decide (x6 < (x1.length : Int))) = true then
      if decide (0 ≤ x6 ∧ x6 < (x1.length : Int)) = true then
        if decide (0 ≤ (x1.getD x6.toNat 0) ∧ (x1.getD x6.toNat 0) < (y2.2.2.2.1.length : Int)) = true then
          if (decide ((y2.2.2.2.1.getD (x1.getD x6.toNat 0).toNat 0) ≥ (0 : Int))) = true then
            if (decide (x5 < (0 : Int))) = true then
              L52_3 n ((x1, (), (y2.2.2.2.1.getD (x1.getD x6.toNat 0).toNat 0), (IntKind.i64.wrap (x6 + (1 : Int))), ()), ((y2.1, y2.2.1, y2.2.2.1, y2.2.2.2.1, ()), ()))
            else
              if (decide ((y2.2.2.2.1.getD (x1.getD x6.toNat 0).toNat 0) < x5)) = true then
                L52_3 n ((x1, (), (y2.2.2.2.1.getD (x1.getD x6.toNat 0).toNat 0), (IntKind.i64.wrap (x6 + (1 : Int))), ()), ((y2.1, y2.2.1, y2.2.2.1, y2.2.2.2.1, ()), ()))
              else
                L52_3 n ((x1, (), x5, (IntKind.i64.wrap (x6 + (1 : Int))), ()), ((y2.1, y2.2.1, y2.2.2.1, y2.2.2.2.1, ()), ()))
          else
            L52_3 n ((x1, (), x5, (IntKind.i64.wrap (x6 + (1 : Int))), ()), ((y2.1, y2.2.1, y2.2.2.1, y2.2.2.2.1, ()), ()))
        else
          none
      else
        none
    else
      some ((x5, ()), ())

noncomputable def EL52_3 : LoopEnt := ⟨[52], 3, ⟨[], [1, 2, 5, 6], [2]⟩, [.kd (.slice (.int .i64)), .ptr 2 0, .kd (.int .i64), .kd (.int .i64)], [.box [.kd (.int .i64), .kd (.int .i64), .kd (.slice (.pair (.int .i64) (.pair (.int .i64) (.pair .bool (.pair (.arr 4 (.int .u64)) .unit))))), .kd (.slice (.int .i64))]], [⟨(.exit 0), [5], [.kd (.int .i64)], [], []⟩], limit L52_3⟩

noncomputable def O52 : Orc := mkOrc [] [EL52_3] [] [] []

theorem cL52_3 : LoopCert Try.prog O52 Γ0 1 EL52_3 :=
  ⟨⟨52, 0, L52_3, rfl, by kernel_rfl, by decide, limit_fn, fun _ => rfl, fun m old x r h => by
    obtain ⟨⟨x1, x2, x5, x6, ⟨⟩⟩, y2, ⟨⟩⟩ := x
    refine Eq.trans ?_ h
    kernel_rfl⟩⟩

/-- emendate/emendateref09.Accepted -/
noncomputable def p52 : (((Int) × ((Int) × ((List ((Int) × ((Int) × ((Bool) × ((List (Int)) × (Unit)))))) × ((List (Int)) × (Unit))))) × (List (Int)) × Unit) → Option (Int)
  | (x0, x1, ()) =>
    (limit L52_3 ((x1, (), (-1 : Int), (0 : Int), ()), ((x0.1, x0.2.1, x0.2.2.1, x0.2.2.2.1, ()), ()))).bind fun r1 =>
    some r1.1.1

theorem s52 : SoundFn Try.prog 52 (fnOf [(.pair (.int .i64) (.pair (.int .i64) (.pair (.slice (.pair (.int .i64) (.pair (.int .i64) (.pair .bool (.pair (.arr 4 (.int .u64)) .unit))))) (.pair (.slice (.int .i64)) .unit)))), (.slice (.int .i64))] (.one (.int .i64)) p52) :=
  fn_pure hm0 hng0 hΓ0 (t := []) all_nil (ls := [EL52_3]) (cmds := []) (leaves := []) (fr := []) (D := 1) (all_cons cL52_3 all_nil) (by kernel_rfl) (hfr := all_nil) fun x r h => by
    obtain ⟨x0, x1, ⟨⟩⟩ := x
    refine Eq.trans ?_ h
    kernel_rfl

noncomputable def O20 : Orc := mkOrc [] [] [] [] []

/-- emendate/emendatelaw10.few -/
noncomputable def p20 : (((Int) × ((Int) × ((List ((Int) × ((Int) × ((Bool) × ((List (Int)) × (Unit)))))) × ((List (Int)) × (Unit))))) × Unit) → Option (Bool)
  | (x0, ()) =>
    if (decide (x0.1 ≤ (9 : Int))) = true then
      if (decide ((x0.2.2.1.length : Int) ≤ (16 : Int))) = true then
        some (decide ((x0.2.2.2.1.length : Int) ≤ (20 : Int)))
      else
        some false
    else
      some false

theorem s20 : SoundFn Try.prog 20 (fnOf [(.pair (.int .i64) (.pair (.int .i64) (.pair (.slice (.pair (.int .i64) (.pair (.int .i64) (.pair .bool (.pair (.arr 4 (.int .u64)) .unit))))) (.pair (.slice (.int .i64)) .unit))))] (.one .bool) p20) :=
  fn_pure hm0 hng0 hΓ0 (t := []) all_nil (ls := []) (cmds := []) (leaves := []) (fr := []) (D := 1) all_nil (by kernel_rfl) (hfr := all_nil) fun x r h => by
    obtain ⟨x0, ⟨⟩⟩ := x
    refine Eq.trans ?_ h
    kernel_rfl

noncomputable def O59 : Orc := mkOrc [] [] [] [] []

/-- emendate/nfa.Valid$2 -/
noncomputable def p59 : ((Int) × Unit) → Option (Bool)
  | (x0, ()) =>
    some (decide (x0 < (-1 : Int)))

theorem s59 : SoundFn Try.prog 59 (fnOf [(.int .i64)] (.one .bool) p59) :=
  fn_pure hm0 hng0 hΓ0 (t := []) all_nil (ls := []) (cmds := []) (leaves := []) (fr := []) (D := 1) all_nil (by kernel_rfl) (hfr := all_nil) fun x r h => by
    obtain ⟨x0, ⟨⟩⟩ := x
    refine Eq.trans ?_ h
    kernel_rfl

noncomputable def L39_5 : Nat → ((Unit × Unit × (List ((Int) × ((Int) × ((Bool) × ((List (Int)) × (Unit)))))) × (Int) × (Int) × Unit) × (((Int) × (Int) × (List ((Int) × ((Int) × ((Bool) × ((List (Int)) × (Unit)))))) × (List (Int)) × Unit) × Unit)) → Option ((((Bool) × Unit) × (Unit)) ⊕ ((Unit × Unit) × (((Int) × (Int) × (List ((Int) × ((Int) × ((Bool) × ((List (Int)) × (Unit)))))) × (List (Int)) × Unit) × Unit)))
  | 0, _ => none
  | n + 1, ((_, _, x31, x32, x33, ()), (y1, ())) =>
    if (decide (x33 < x32)) = true then
      if decide (0 ≤ x33 ∧ x33 < (x31.length : Int)) = true then
        if (decide ((x31.getD x33.toNat (0, (0, (false, ((List.replicate 4 0), ()))))).1 ≥ (0 : Int))) = true then
          if (!(decide ((x31.getD x33.toNat (0, (0, (false, ((List.replicate 4 0), ()))))).1 < y1.1))) = true then
            some (.inl ((false, ()), ()))
          else
            if (decide ((x31.getD x33.toNat (0, (0, (false, ((List.replicate 4 0), ()))))).2.1 ≥ (0 : Int))) = true then
              if (!(decide ((x31.getD x33.toNat (0, (0, (false, ((List.replicate 4 0), ()))))).2.1 < y1.1))) = true then
                some (.inl ((false, ()), ()))
              else
                if (x31.getD x33.toNat (0, (0, (false, ((List.replicate 4 0), ()))))).2.2.1 = true then
                  if (!(Kind.eqB (.arr 4 (.int .u64)) [((x31.getD x33.toNat (0, (0, (false, ((List.replicate 4 0), ()))))).2.2.2.1.getD 0 0), ((x31.getD x33.toNat (0, (0, (false, ((List.replicate 4 0), ()))))).2.2.2.1.getD 1 0), ((x31.getD x33.toNat (0, (0, (false, ((List.replicate 4 0), ()))))).2.2.2.1.getD 2 0), ((x31.getD x33.toNat (0, (0, (false, ((List.replicate 4 0), ()))))).2.2.2.1.getD 3 0)] [(0 : Int), (0 : Int), (0 : Int), (0 : Int)])) = true then
                    some (.inl ((false, ()), ()))
                  else
                    L39_5 n (((), (), x31, x32, (IntKind.i64.wrap (x33 + (1 : Int))), ()), ((y1.1, y1.2.1, y1.2.2.1, y1.2.2.2.1, ()), ()))
                else
                  L39_5 n (((), (), x31, x32, (IntKind.i64.wrap (x33 + (1 : Int))), ()), ((y1.1, y1.2.1, y1.2.2.1, y1.2.2.2.1, ()), ()))
            else
              some (.inl ((false, ()), ()))
        else
          some (.inl ((false, ()), ()))
      else
        none
    else
      some (.inr (((), ()), ((y1.1, y1.2.1, y1.2.2.1, y1.2.2.2.1, ()), ())))

noncomputable def EL39_5 : LoopEnt := ⟨[39], 5, ⟨[], [1, 3, 31, 32, 33], [1]⟩, [.ptr 1 0, .fnp 58 [1], .kd (.slice (.pair (.int .i64) (.pair (.int .i64) (.pair .bool (.pair (.arr 4 (.int .u64)) .unit))))), .kd (.int .i64), .kd (.int .i64)], [.box [.kd (.int .i64), .kd (.int .i64), .kd (.slice (.pair (.int .i64) (.pair (.int .i64) (.pair .bool (.pair (.arr 4 (.int .u64)) .unit))))), .kd (.slice (.int .i64))]], [⟨.ret, [2], [.kd .bool], [], []⟩, ⟨(.exit 0), [1], [.ptr 1 0], [1], [.box [.kd (.int .i64), .kd (.int .i64), .kd (.slice (.pair (.int .i64) (.pair (.int .i64) (.pair .bool (.pair (.arr 4 (.int .u64)) .unit))))), .kd (.slice (.int .i64))]]⟩], limit L39_5⟩

noncomputable def L54_27_39_2 : Nat → (((List (Int)) × Unit × (Int) × (Int) × Unit) × (((Int) × (Int) × (List ((Int) × ((Int) × ((Bool) × ((List (Int)) × (Unit)))))) × (List (Int)) × Unit) × Unit)) → Option ((((Int) × Unit) × (((Int) × (Int) × (List ((Int) × ((Int) × ((Bool) × ((List (Int)) × (Unit)))))) × (List (Int)) × Unit) × Unit)) ⊕ ((Unit) × (((Int) × (Int) × (List ((Int) × ((Int) × ((Bool) × ((List (Int)) × (Unit)))))) × (List (Int)) × Unit) × Unit)))
  | 0, _ => none
  | n + 1, ((x0, _, x7, x8, ()), (y1, ())) =>
    if (decide (x8 < x7)) = true then
      if decide (0 ≤ x8 ∧ x8 < (x0.length : Int)) = true then
        (p59 ((x0.getD x8.toNat 0), ())).bind fun c1 =>
        if c1 = true then
          some (.inl ((x8, ()), ((y1.1, y1.2.1, y1.2.2.1, y1.2.2.2.1, ()), ())))
        else
          L54_27_39_2 n ((x0, (), x7, (IntKind.i64.wrap (x8 + (1 : Int))), ()), ((y1.1, y1.2.1, y1.2.2.1, y1.2.2.2.1, ()), ()))
      else
        none
    else
      some (.inr ((), ((y1.1, y1.2.1, y1.2.2.1, y1.2.2.2.1, ()), ())))

noncomputable def EL54_27_39_2 : LoopEnt := ⟨[54, 27, 39], 2, ⟨[], [0, 1, 7, 8], [1]⟩, [.kd (.slice (.int .i64)), .fnp 59 [], .kd (.int .i64), .kd (.int .i64)], [.box [.kd (.int .i64), .kd (.int .i64), .kd (.slice (.pair (.int .i64) (.pair (.int .i64) (.pair .bool (.pair (.arr 4 (.int .u64)) .unit))))), .kd (.slice (.int .i64))]], [⟨.ret, [4], [.kd (.int .i64)], [1], [.box [.kd (.int .i64), .kd (.int .i64), .kd (.slice (.pair (.int .i64) (.pair (.int .i64) (.pair .bool (.pair (.arr 4 (.int .u64)) .unit))))), .kd (.slice (.int .i64))]]⟩, ⟨(.exit 0), [], [], [1], [.box [.kd (.int .i64), .kd (.int .i64), .kd (.slice (.pair (.int .i64) (.pair (.int .i64) (.pair .bool (.pair (.arr 4 (.int .u64)) .unit))))), .kd (.slice (.int .i64))]]⟩], limit L54_27_39_2⟩

noncomputable def O39 : Orc := mkOrc [(59, fnOf [(.int .i64)] (.one .bool) p59)] [EL39_5, EL54_27_39_2] [] [] []

theorem cL39_5 : LoopCert Try.prog O39 Γ0 3 EL39_5 :=
  ⟨⟨39, 0, L39_5, rfl, by kernel_rfl, by decide, limit_fn, fun _ => rfl, fun m old x r h => by
    obtain ⟨⟨x1, x3, x31, x32, x33, ⟨⟩⟩, y1, ⟨⟩⟩ := x
    refine Eq.trans ?_ h
    kernel_rfl⟩⟩

theorem cL54_27_39_2 : LoopCert Try.prog O39 Γ0 3 EL54_27_39_2 :=
  ⟨⟨54, 0, L54_27_39_2, rfl, by kernel_rfl, by decide, limit_fn, fun _ => rfl, fun m old x r h => by
    obtain ⟨⟨x0, x1, x7, x8, ⟨⟩⟩, y1, ⟨⟩⟩ := x
    refine Eq.trans ?_ h
    kernel_rfl⟩⟩

/-- emendate/nfa.Valid -/
noncomputable def p39 : (((Int) × ((Int) × ((List ((Int) × ((Int) × ((Bool) × ((List (Int)) × (Unit)))))) × ((List (Int)) × (Unit))))) × Unit) → Option (Bool)
  | (x0, ()) =>
    if (decide (x0.1 < (1 : Int))) = true then
      some false
    else
      if (decide (x0.1 > (2000 : Int))) = true then
        some false
      else
        if (decide (x0.2.1 ≥ (0 : Int))) = true then
          if (!(decide (x0.2.1 < x0.1))) = true then
            some false
          else
            if (!decide ((x0.2.2.2.1.length : Int) = x0.1)) = true then
              some false
            else
              (limit L39_5 (((), (), x0.2.2.1, (x0.2.2.1.length : Int), (0 : Int), ()), ((x0.1, x0.2.1, x0.2.2.1, x0.2.2.2.1, ()), ()))).bind (Sum.elim (fun r1 =>
                some r1.1.1) (fun r1 =>
                (limit L54_27_39_2 ((r1.2.1.2.2.2.1, (), (r1.2.1.2.2.2.1.length : Int), (0 : Int), ()), ((r1.2.1.1, r1.2.1.2.1, r1.2.1.2.2.1, r1.2.1.2.2.2.1, ()), ()))).bind (Sum.elim (fun r2 =>
                  some (!(decide (r2.1.1 ≥ (0 : Int))))) (fun _ =>
                  some (!(decide ((-1 : Int) ≥ (0 : Int))))))))
        else
          some false

theorem s39 : SoundFn Try.prog 39 (fnOf [(.pair (.int .i64) (.pair (.int .i64) (.pair (.slice (.pair (.int .i64) (.pair (.int .i64) (.pair .bool (.pair (.arr 4 (.int .u64)) .unit))))) (.pair (.slice (.int .i64)) .unit))))] (.one .bool) p39) :=
  fn_pure hm0 hng0 hΓ0 (t := [(59, fnOf [(.int .i64)] (.one .bool) p59)]) (all_cons s59 all_nil) (ls := [EL39_5, EL54_27_39_2]) (cmds := []) (leaves := []) (fr := []) (D := 3) (all_cons cL39_5 (all_cons cL54_27_39_2 all_nil)) (by kernel_rfl) (hfr := all_nil) fun x r h => by
    obtain ⟨x0, ⟨⟩⟩ := x
    refine Eq.trans ?_ h
    kernel_rfl

noncomputable def L45_4 : Nat → ((Unit × (Int) × Unit) × (((Int) × (Int) × (List ((Int) × ((Int) × ((Bool) × ((List (Int)) × (Unit)))))) × (List (Int)) × Unit) × Unit)) → Option ((((Bool) × Unit) × (Unit)) ⊕ ((Unit × Unit) × (((Int) × (Int) × (List ((Int) × ((Int) × ((Bool) × ((List (Int)) × (Unit)))))) × (List (Int)) × Unit) × Unit)))
  | 0, _ => none
  | n + 1, ((_, x3, ()), (y1, ())) =>
    if (decide (x3 < (y1.2.2.2.1.length : Int))) = true then
      if decide (0 ≤ x3 ∧ x3 < (y1.2.2.2.1.length : Int)) = true then
        if (decide ((y1.2.2.2.1.getD x3.toNat 0) < (-1 : Int))) = true then
          some (.inl ((false, ()), ()))
        else
          L45_4 n (((), (IntKind.i64.wrap (x3 + (1 : Int))), ()), ((y1.1, y1.2.1, y1.2.2.1, y1.2.2.2.1, ()), ()))
      else
        none
    else
      some (.inr (((), ()), ((y1.1, y1.2.1, y1.2.2.1, y1.2.2.2.1, ()), ())))

noncomputable def EL45_4 : LoopEnt := ⟨[45], 4, ⟨[], [1, 3], [1]⟩, [.ptr 1 0, .kd (.int .i64)], [.box [.kd (.int .i64), .kd (.int .i64), .kd (.slice (.pair (.int .i64) (.pair (.int .i64) (.pair .bool (.pair (.arr 4 (.int .u64)) .unit))))), .kd (.slice (.int .i64))]], [⟨.ret, [2], [.kd .bool], [], []⟩, ⟨(.exit 0), [1], [.ptr 1 0], [1], [.box [.kd (.int .i64), .kd (.int .i64), .kd (.slice (.pair (.int .i64) (.pair (.int .i64) (.pair .bool (.pair (.arr 4 (.int .u64)) .unit))))), .kd (.slice (.int .i64))]]⟩], limit L45_4⟩

noncomputable def L45_9 : Nat → ((Unit × (Int) × Unit) × (((Int) × (Int) × (List ((Int) × ((Int) × ((Bool) × ((List (Int)) × (Unit)))))) × (List (Int)) × Unit) × Unit)) → Option ((((Bool) × Unit) × (Unit)) ⊕ ((Unit) × (Unit)))
  | 0, _ => none
  | n + 1, ((_, x4, ()), (y1, ())) =>
    if (decide (x4 < (y1.2.2.1.length : Int))) = true then
      if decide (0 ≤ x4 ∧ x4 < (y1.2.2.1.length : Int)) = true then
        if (decide ((y1.2.2.1.getD x4.toNat (0, (0, (false, ((List.replicate 4 0), ()))))).1 < (0 : Int))) = true then
          some (.inl ((false, ()), ()))
        else
          if (decide ((y1.2.2.1.getD x4.toNat (0, (0, (false, ((List.replicate 4 0), ()))))).1 ≥ y1.1)) = true then
            some (.inl ((false, ()), ()))
          else
            if (decide ((y1.2.2.1.getD x4.toNat (0, (0, (false, ((List.replicate 4 0), ()))))).2.1 < (0 : Int))) = true then
              some (.inl ((false, ()), ()))
            else
              if (decide ((y1.2.2.1.getD x4.toNat (0, (0, (false, ((List.replicate 4 0), ()))))).2.1 ≥ y1.1)) = true then
                some (.inl ((false, ()), ()))
              else
                if (y1.2.2.1.getD x4.toNat (0, (0, (false, ((List.replicate 4 0), ()))))).2.2.1 = true then
                  if (!(Kind.eqB (.arr 4 (.int .u64)) [((y1.2.2.1.getD x4.toNat (0, (0, (false, ((List.replicate 4 0), ()))))).2.2.2.1.getD 0 0), ((y1.2.2.1.getD x4.toNat (0, (0, (false, ((List.replicate 4 0), ()))))).2.2.2.1.getD 1 0), ((y1.2.2.1.getD x4.toNat (0, (0, (false, ((List.replicate 4 0), ()))))).2.2.2.1.getD 2 0), ((y1.2.2.1.getD x4.toNat (0, (0, (false, ((List.replicate 4 0), ()))))).2.2.2.1.getD 3 0)] [(0 : Int), (0 : Int), (0 : Int), (0 : Int)])) = true then
                    some (.inl ((false, ()), ()))
                  else
                    L45_9 n (((), (IntKind.i64.wrap (x4 + (1 : Int))), ()), ((y1.1, y1.2.1, y1.2.2.1, y1.2.2.2.1, ()), ()))
                else
                  L45_9 n (((), (IntKind.i64.wrap (x4 + (1 : Int))), ()), ((y1.1, y1.2.1, y1.2.2.1, y1.2.2.2.1, ()), ()))
      else
        none
    else
      some (.inr ((), ()))

noncomputable def EL45_9 : LoopEnt := ⟨[45], 9, ⟨[], [1, 4], [1]⟩, [.ptr 1 0, .kd (.int .i64)], [.box [.kd (.int .i64), .kd (.int .i64), .kd (.slice (.pair (.int .i64) (.pair (.int .i64) (.pair .bool (.pair (.arr 4 (.int .u64)) .unit))))), .kd (.slice (.int .i64))]], [⟨.ret, [2], [.kd .bool], [], []⟩, ⟨(.exit 2), [], [], [], []⟩], limit L45_9⟩

noncomputable def O45 : Orc := mkOrc [] [EL45_4, EL45_9] [] [] []

theorem cL45_4 : LoopCert Try.prog O45 Γ0 1 EL45_4 :=
  ⟨⟨45, 0, L45_4, rfl, by kernel_rfl, by decide, limit_fn, fun _ => rfl, fun m old x r h => by
    obtain ⟨⟨x1, x3, ⟨⟩⟩, y1, ⟨⟩⟩ := x
    refine Eq.trans ?_ h
    kernel_rfl⟩⟩

theorem cL45_9 : LoopCert Try.prog O45 Γ0 1 EL45_9 :=
  ⟨⟨45, 1, L45_9, rfl, by kernel_rfl, by decide, limit_fn, fun _ => rfl, fun m old x r h => by
    obtain ⟨⟨x1, x4, ⟨⟩⟩, y1, ⟨⟩⟩ := x
    refine Eq.trans ?_ h
    kernel_rfl⟩⟩

/-- emendate/emendateref09.Valid -/
noncomputable def p45 : (((Int) × ((Int) × ((List ((Int) × ((Int) × ((Bool) × ((List (Int)) × (Unit)))))) × ((List (Int)) × (Unit))))) × Unit) → Option (Bool)
  | (x0, ()) =>
    if (decide (x0.1 < (1 : Int))) = true then
      some false
    else
      if (decide (x0.1 > (2000 : Int))) = true then
        some false
      else
        if (decide (x0.2.1 < (0 : Int))) = true then
          some false
        else
          if (decide (x0.2.1 ≥ x0.1)) = true then
            some false
          else
            if (!decide ((x0.2.2.2.1.length : Int) = x0.1)) = true then
              some false
            else
              (limit L45_4 (((), (0 : Int), ()), ((x0.1, x0.2.1, x0.2.2.1, x0.2.2.2.1, ()), ()))).bind (Sum.elim (fun r1 =>
                some r1.1.1) (fun r1 =>
                (limit L45_9 (((), (0 : Int), ()), ((r1.2.1.1, r1.2.1.2.1, r1.2.1.2.2.1, r1.2.1.2.2.2.1, ()), ()))).bind (Sum.elim (fun r2 =>
                  some r2.1.1) (fun _ =>
                  some true))))

theorem s45 : SoundFn Try.prog 45 (fnOf [(.pair (.int .i64) (.pair (.int .i64) (.pair (.slice (.pair (.int .i64) (.pair (.int .i64) (.pair .bool (.pair (.arr 4 (.int .u64)) .unit))))) (.pair (.slice (.int .i64)) .unit))))] (.one .bool) p45) :=
  fn_pure hm0 hng0 hΓ0 (t := []) all_nil (ls := [EL45_4, EL45_9]) (cmds := []) (leaves := []) (fr := []) (D := 1) (all_cons cL45_4 (all_cons cL45_9 all_nil)) (by kernel_rfl) (hfr := all_nil) fun x r h => by
    obtain ⟨x0, ⟨⟩⟩ := x
    refine Eq.trans ?_ h
    kernel_rfl

noncomputable def L48_3 : Nat → (((List (Int)) × Unit × Unit × (Int) × Unit) × (((Int) × (Int) × (List ((Int) × ((Int) × ((Bool) × ((List (Int)) × (Unit)))))) × (List (Int)) × Unit) × (List (Bool)) × Unit)) → Option ((Unit × Unit × Unit) × (((Int) × (Int) × (List ((Int) × ((Int) × ((Bool) × ((List (Int)) × (Unit)))))) × (List (Int)) × Unit) × (List (Bool)) × Unit))
  | 0, _ => none
  | n + 1, ((x1, _, _, x6, ()), (y2, y12, ())) =>
    if (decide (x6 < (x1.length : Int))) = true then
      if decide (0 ≤ x6 ∧ x6 < (x1.length : Int)) = true then
        if (decide ((x1.getD x6.toNat 0) ≥ (0 : Int))) = true then
          if decide (0 ≤ x6 ∧ x6 < (x1.length : Int)) = true then
            if (decide ((x1.getD x6.toNat 0) < y2.1)) = true then
              if decide (0 ≤ x6 ∧ x6 < (x1.length : Int)) = true then
                if decide (0 ≤ (x1.getD x6.toNat 0) ∧ (x1.getD x6.toNat 0) < (y12.length : Int)) = true then
                  L48_3 n ((x1, (), (), (IntKind.i64.wrap (x6 + (1 : Int))), ()), ((y2.1, y2.2.1, y2.2.2.1, y2.2.2.2.1, ()), (y12.set (x1.getD x6.toNat 0).toNat true), ()))
                else
                  none
              else
                none
            else
              L48_3 n ((x1, (), (), (IntKind.i64.wrap (x6 + (1 : Int))), ()), ((y2.1, y2.2.1, y2.2.2.1, y2.2.2.2.1, ()), y12, ()))
          else
            none
        else
          L48_3 n ((x1, (), (), (IntKind.i64.wrap (x6 + (1 : Int))), ()), ((y2.1, y2.2.1, y2.2.2.1, y2.2.2.2.1, ()), y12, ()))
      else
        none
    else
      some (((), (), ()), ((y2.1, y2.2.1, y2.2.2.1, y2.2.2.2.1, ()), y12, ()))

noncomputable def EL48_3 : LoopEnt := ⟨[48], 3, ⟨[], [1, 2, 5, 6], [2, 12]⟩, [.kd (.slice (.int .i64)), .ptr 2 0, .ref 12, .kd (.int .i64)], [.box [.kd (.int .i64), .kd (.int .i64), .kd (.slice (.pair (.int .i64) (.pair (.int .i64) (.pair .bool (.pair (.arr 4 (.int .u64)) .unit))))), .kd (.slice (.int .i64))], .row .bool], [⟨(.exit 0), [2, 5], [.ptr 2 0, .ref 12], [2, 12], [.box [.kd (.int .i64), .kd (.int .i64), .kd (.slice (.pair (.int .i64) (.pair (.int .i64) (.pair .bool (.pair (.arr 4 (.int .u64)) .unit))))), .kd (.slice (.int .i64))], .row .bool]⟩], limit L48_3⟩

noncomputable def L48_11 : Nat → ((Unit × Unit × (Bool) × (Int) × Unit) × (((Int) × (Int) × (List ((Int) × ((Int) × ((Bool) × ((List (Int)) × (Unit)))))) × (List (Int)) × Unit) × (List (Bool)) × Unit)) → Option ((Unit × Unit × (Bool) × Unit) × (((Int) × (Int) × (List ((Int) × ((Int) × ((Bool) × ((List (Int)) × (Unit)))))) × (List (Int)) × Unit) × (List (Bool)) × Unit))
  | 0, _ => none
  | n + 1, ((_, _, x7, x8, ()), (y2, y12, ())) =>
    if (decide (x8 < (y2.2.2.1.length : Int))) = true then
      if decide (0 ≤ x8 ∧ x8 < (y2.2.2.1.length : Int)) = true then
        if (y2.2.2.1.getD x8.toNat (0, (0, (false, ((List.replicate 4 0), ()))))).2.2.1 = true then
          if decide (0 ≤ (y2.2.2.1.getD x8.toNat (0, (0, (false, ((List.replicate 4 0), ()))))).1 ∧ (y2.2.2.1.getD x8.toNat (0, (0, (false, ((List.replicate 4 0), ()))))).1 < (y12.length : Int)) = true then
            if (y12.getD (y2.2.2.1.getD x8.toNat (0, (0, (false, ((List.replicate 4 0), ()))))).1.toNat false) = true then
              if decide (0 ≤ (y2.2.2.1.getD x8.toNat (0, (0, (false, ((List.replicate 4 0), ()))))).2.1 ∧ (y2.2.2.1.getD x8.toNat (0, (0, (false, ((List.replicate 4 0), ()))))).2.1 < (y12.length : Int)) = true then
                if (!(y12.getD (y2.2.2.1.getD x8.toNat (0, (0, (false, ((List.replicate 4 0), ()))))).2.1.toNat false)) = true then
                  if decide (0 ≤ (y2.2.2.1.getD x8.toNat (0, (0, (false, ((List.replicate 4 0), ()))))).2.1 ∧ (y2.2.2.1.getD x8.toNat (0, (0, (false, ((List.replicate 4 0), ()))))).2.1 < (y12.length : Int)) = true then
                    L48_11 n (((), (), true, (IntKind.i64.wrap (x8 + (1 : Int))), ()), ((y2.1, y2.2.1, y2.2.2.1, y2.2.2.2.1, ()), (y12.set (y2.2.2.1.getD x8.toNat (0, (0, (false, ((List.replicate 4 0), ()))))).2.1.toNat true), ()))
                  else
                    none
                else
                  L48_11 n (((), (), x7, (IntKind.i64.wrap (x8 + (1 : Int))), ()), ((y2.1, y2.2.1, y2.2.2.1, y2.2.2.2.1, ()), y12, ()))
              else
                none
            else
              L48_11 n (((), (), x7, (IntKind.i64.wrap (x8 + (1 : Int))), ()), ((y2.1, y2.2.1, y2.2.2.1, y2.2.2.2.1, ()), y12, ()))
          else
            none
        else
          L48_11 n (((), (), x7, (IntKind.i64.wrap (x8 + (1 : Int))), ()), ((y2.1, y2.2.1, y2.2.2.1, y2.2.2.2.1, ()), y12, ()))
      else
        none
    else
      some (((), (), x7, ()), ((y2.1, y2.2.1, y2.2.2.1, y2.2.2.2.1, ()), y12, ()))

noncomputable def EL48_11 : LoopEnt := ⟨[48], 11, ⟨[], [2, 5, 7, 8], [2, 12]⟩, [.ptr 2 0, .ref 12, .kd .bool, .kd (.int .i64)], [.box [.kd (.int .i64), .kd (.int .i64), .kd (.slice (.pair (.int .i64) (.pair (.int .i64) (.pair .bool (.pair (.arr 4 (.int .u64)) .unit))))), .kd (.slice (.int .i64))], .row .bool], [⟨(.exit 4), [2, 5, 7], [.ptr 2 0, .ref 12, .kd .bool], [2, 12], [.box [.kd (.int .i64), .kd (.int .i64), .kd (.slice (.pair (.int .i64) (.pair (.int .i64) (.pair .bool (.pair (.arr 4 (.int .u64)) .unit))))), .kd (.slice (.int .i64))], .row .bool]⟩], limit L48_11⟩

noncomputable def L48_8 : Nat → ((Unit × Unit × (Bool) × Unit) × (((Int) × (Int) × (List ((Int) × ((Int) × ((Bool) × ((List (Int)) × (Unit)))))) × (List (Int)) × Unit) × (List (Bool)) × Unit)) → Option ((Unit × Unit) × ((List (Bool)) × Unit))
  | 0, _ => none
  | n + 1, ((_, _, x7, ()), (y2, y12, ())) =>
    if x7 = true then
      (limit L48_11 (((), (), false, (0 : Int), ()), ((y2.1, y2.2.1, y2.2.2.1, y2.2.2.2.1, ()), y12, ()))).bind fun r1 =>
      L48_8 n (((), (), r1.1.2.2.1, ()), ((r1.2.1.1, r1.2.1.2.1, r1.2.1.2.2.1, r1.2.1.2.2.2.1, ()), r1.2.2.1, ()))
    else
      some (((), ()), (y12, ()))

noncomputable def EL48_8 : LoopEnt := ⟨[48], 8, ⟨[], [2, 5, 7], [2, 12]⟩, [.ptr 2 0, .ref 12, .kd .bool], [.box [.kd (.int .i64), .kd (.int .i64), .kd (.slice (.pair (.int .i64) (.pair (.int .i64) (.pair .bool (.pair (.arr 4 (.int .u64)) .unit))))), .kd (.slice (.int .i64))], .row .bool], [⟨(.exit 2), [5], [.ref 12], [12], [.row .bool]⟩], limit L48_8⟩

noncomputable def L64_48_3 : Nat → ((Unit × Unit × (Int) × Unit) × ((List (Bool)) × (List (Int)) × Unit)) → Option ((Unit × Unit) × ((List (Bool)) × (List (Int)) × Unit))
  | 0, _ => none
  | n + 1, ((_, _, x4, ()), (y12, y1003, ())) =>
    if (decide (x4 < (y12.length : Int))) = true then
      if decide (0 ≤ x4 ∧ x4 < (y12.length : Int)) = true then
        if (y12.getD x4.toNat false) = true then
          if decide (y1003.length + ([x4] : List (Int)).length ≤ lim) = true then
            L64_48_3 n (((), (), (IntKind.i64.wrap (x4 + (1 : Int))), ()), (y12, (y1003 ++ ([x4] : List (Int))), ()))
          else
            none
        else
          L64_48_3 n (((), (), (IntKind.i64.wrap (x4 + (1 : Int))), ()), (y12, y1003, ()))
      else
        none
    else
      some (((), ()), (y12, y1003, ()))

noncomputable def EL64_48_3 : LoopEnt := ⟨[64, 48], 3, ⟨[.keep [0, 3, 4] [12, 1003, 1018], .adopt 3 (.int .i64) 1003], [0, 3, 4], [12, 1003]⟩, [.ref 12, .ref 1003, .kd (.int .i64)], [.row .bool, .row (.int .i64)], [⟨(.exit 0), [3], [.ref 1003], [12, 1003], [.row .bool, .row (.int .i64)]⟩], limit L64_48_3⟩

noncomputable def O48 : Orc := mkOrc [] [EL48_3, EL48_11, EL48_8, EL64_48_3] [] [] []

theorem cL48_3 : LoopCert Try.prog O48 Γ0 2 EL48_3 :=
  ⟨⟨48, 0, L48_3, rfl, by kernel_rfl, by decide, limit_fn, fun _ => rfl, fun m old x r h => by
    obtain ⟨⟨x1, x2, x5, x6, ⟨⟩⟩, y2, y12, ⟨⟩⟩ := x
    refine Eq.trans ?_ h
    kernel_rfl⟩⟩

theorem cL48_11 : LoopCert Try.prog O48 Γ0 2 EL48_11 :=
  ⟨⟨48, 2, L48_11, rfl, by kernel_rfl, by decide, limit_fn, fun _ => rfl, fun m old x r h => by
    obtain ⟨⟨x2, x5, x7, x8, ⟨⟩⟩, y2, y12, ⟨⟩⟩ := x
    refine Eq.trans ?_ h
    kernel_rfl⟩⟩

theorem cL48_8 : LoopCert Try.prog O48 Γ0 2 EL48_8 :=
  ⟨⟨48, 1, L48_8, rfl, by kernel_rfl, by decide, limit_fn, fun _ => rfl, fun m old x r h => by
    obtain ⟨⟨x2, x5, x7, ⟨⟩⟩, y2, y12, ⟨⟩⟩ := x
    refine Eq.trans ?_ h
    kernel_rfl⟩⟩

theorem cL64_48_3 : LoopCert Try.prog O48 Γ0 2 EL64_48_3 :=
  ⟨⟨64, 0, L64_48_3, rfl, by kernel_rfl, by decide, limit_fn, fun _ => rfl, fun m old x r h => by
    obtain ⟨⟨x0, x3, x4, ⟨⟩⟩, y12, y1003, ⟨⟩⟩ := x
    refine Eq.trans ?_ h
    kernel_rfl⟩⟩

/-- emendate/emendateref09.Closure -/
noncomputable def p48 : (((Int) × ((Int) × ((List ((Int) × ((Int) × ((Bool) × ((List (Int)) × (Unit)))))) × ((List (Int)) × (Unit))))) × (List (Int)) × Unit) → Option (List (Int))
  | (x0, x1, ()) =>
    if decide (x0.1 = x0.1 ∧ 0 ≤ x0.1 ∧ x0.1 ≤ (lim : Int)) = true then
      (limit L48_3 ((x1, (), (), (0 : Int), ()), ((x0.1, x0.2.1, x0.2.2.1, x0.2.2.2.1, ()), (List.replicate x0.1.toNat false), ()))).bind fun r1 =>
      (limit L48_8 (((), (), true, ()), ((r1.2.1.1, r1.2.1.2.1, r1.2.1.2.2.1, r1.2.1.2.2.2.1, ()), r1.2.2.1, ()))).bind fun r2 =>
      (limit L64_48_3 (((), (), (0 : Int), ()), (r2.2.1, ([] : List (Int)), ()))).bind fun r3 =>
      some r3.2.2.1
    else
      none

theorem s48 : SoundFn Try.prog 48 (fnOf [(.pair (.int .i64) (.pair (.int .i64) (.pair (.slice (.pair (.int .i64) (.pair (.int .i64) (.pair .bool (.pair (.arr 4 (.int .u64)) .unit))))) (.pair (.slice (.int .i64)) .unit)))), (.slice (.int .i64))] (.one (.slice (.int .i64))) p48) :=
  fn_pure hm0 hng0 hΓ0 (t := []) all_nil (ls := [EL48_3, EL48_11, EL48_8, EL64_48_3]) (cmds := []) (leaves := []) (fr := []) (D := 2) (all_cons cL48_3 (all_cons cL48_11 (all_cons cL48_8 (all_cons cL64_48_3 all_nil)))) (by kernel_rfl) (hfr := all_nil) fun x r h => by
    obtain ⟨x0, x1, ⟨⟩⟩ := x
    refine Eq.trans ?_ h
    kernel_rfl

noncomputable def L41_5 : Nat → ((Unit × Unit × Unit × Unit × (List (Int)) × (Int) × (Int) × Unit) × (((Int) × (Int) × (List ((Int) × ((Int) × ((Bool) × ((List (Int)) × (Unit)))))) × (List (Int)) × Unit) × (Unit × Unit) × (Unit × Unit) × (List (Bool)) × (List (Int)) × Unit)) → Option ((Unit × Unit × Unit × Unit × Unit) × (((Int) × (Int) × (List ((Int) × ((Int) × ((Bool) × ((List (Int)) × (Unit)))))) × (List (Int)) × Unit) × (Unit × Unit) × (Unit × Unit) × (List (Bool)) × (List (Int)) × Unit))
  | 0, _ => none
  | n + 1, ((_, _, _, _, x17, x18, x19, ()), (y2, _, _, y15, y306, ())) =>
    if (decide (x19 < x18)) = true then
      if decide (0 ≤ x19 ∧ x19 < (x17.length : Int)) = true then
        if (decide ((x17.getD x19.toNat 0) ≥ (0 : Int))) = true then
          if (decide ((x17.getD x19.toNat 0) < y2.1)) = true then
            if decide (0 ≤ (x17.getD x19.toNat 0) ∧ (x17.getD x19.toNat 0) < (y15.length : Int)) = true then
              if (!(y15.getD (x17.getD x19.toNat 0).toNat false)) = true then
                if decide (0 ≤ (x17.getD x19.toNat 0) ∧ (x17.getD x19.toNat 0) < (y15.length : Int)) = true then
                  if decide (y306.length + ([(x17.getD x19.toNat 0)] : List (Int)).length ≤ lim) = true then
                    L41_5 n (((), (), (), (), x17, x18, (IntKind.i64.wrap (x19 + (1 : Int))), ()), ((y2.1, y2.2.1, y2.2.2.1, y2.2.2.2.1, ()), ((), ()), ((), ()), (y15.set (x17.getD x19.toNat 0).toNat true), (y306 ++ ([(x17.getD x19.toNat 0)] : List (Int))), ()))
                  else
                    none
                else
                  none
              else
                L41_5 n (((), (), (), (), x17, x18, (IntKind.i64.wrap (x19 + (1 : Int))), ()), ((y2.1, y2.2.1, y2.2.2.1, y2.2.2.2.1, ()), ((), ()), ((), ()), y15, y306, ()))
            else
              none
          else
            L41_5 n (((), (), (), (), x17, x18, (IntKind.i64.wrap (x19 + (1 : Int))), ()), ((y2.1, y2.2.1, y2.2.2.1, y2.2.2.2.1, ()), ((), ()), ((), ()), y15, y306, ()))
        else
          L41_5 n (((), (), (), (), x17, x18, (IntKind.i64.wrap (x19 + (1 : Int))), ()), ((y2.1, y2.2.1, y2.2.2.1, y2.2.2.2.1, ()), ((), ()), ((), ()), y15, y306, ()))
      else
        none
    else
      some (((), (), (), (), ()), ((y2.1, y2.2.1, y2.2.2.1, y2.2.2.2.1, ()), ((), ()), ((), ()), y15, y306, ()))

noncomputable def EL41_5 : LoopEnt := ⟨[41], 5, ⟨[.keep [2, 5, 6, 7, 17, 18, 19] [2, 5, 6, 15, 307], .adoptCell 6 0 (.int .i64) 306], [2, 5, 6, 7, 17, 18, 19], [2, 5, 6, 15, 306]⟩, [.ptr 2 0, .ptr 5 0, .ptr 6 0, .fnp 61 [2, 5, 6], .kd (.slice (.int .i64)), .kd (.int .i64), .kd (.int .i64)], [.box [.kd (.int .i64), .kd (.int .i64), .kd (.slice (.pair (.int .i64) (.pair (.int .i64) (.pair .bool (.pair (.arr 4 (.int .u64)) .unit))))), .kd (.slice (.int .i64))], .box [.ref 15], .box [.ref 306], .row .bool, .row (.int .i64)], [⟨(.exit 0), [2, 5, 6, 7], [.ptr 2 0, .ptr 5 0, .ptr 6 0, .fnp 61 [2, 5, 6]], [2, 5, 6, 15, 306], [.box [.kd (.int .i64), .kd (.int .i64), .kd (.slice (.pair (.int .i64) (.pair (.int .i64) (.pair .bool (.pair (.arr 4 (.int .u64)) .unit))))), .kd (.slice (.int .i64))], .box [.ref 15], .box [.ref 306], .row .bool, .row (.int .i64)]⟩], limit L41_5⟩

noncomputable def L41_13 : Nat → ((Unit × Unit × Unit × Unit × (Int) × (List ((Int) × ((Int) × ((Bool) × ((List (Int)) × (Unit)))))) × (Int) × (Int) × Unit) × (((Int) × (Int) × (List ((Int) × ((Int) × ((Bool) × ((List (Int)) × (Unit)))))) × (List (Int)) × Unit) × (Unit × Unit) × (Unit × Unit) × (List (Bool)) × (List (Int)) × Unit)) → Option ((Unit × Unit × Unit × Unit × Unit) × (((Int) × (Int) × (List ((Int) × ((Int) × ((Bool) × ((List (Int)) × (Unit)))))) × (List (Int)) × Unit) × (Unit × Unit) × (Unit × Unit) × (List (Bool)) × (List (Int)) × Unit))
  | 0, _ => none
  | n + 1, ((_, _, _, _, x10, x42, x43, x44, ()), (y2, _, _, y15, y306, ())) =>
    if (decide (x44 < x43)) = true then
      if decide (0 ≤ x44 ∧ x44 < (x42.length : Int)) = true then
        if (x42.getD x44.toNat (0, (0, (false, ((List.replicate 4 0), ()))))).2.2.1 = true then
          if (decide ((x42.getD x44.toNat (0, (0, (false, ((List.replicate 4 0), ()))))).1 = x10)) = true then
            if (decide ((x42.getD x44.toNat (0, (0, (false, ((List.replicate 4 0), ()))))).2.1 ≥ (0 : Int))) = true then
              if (decide ((x42.getD x44.toNat (0, (0, (false, ((List.replicate 4 0), ()))))).2.1 < y2.1)) = true then
                if decide (0 ≤ (x42.getD x44.toNat (0, (0, (false, ((List.replicate 4 0), ()))))).2.1 ∧ (x42.getD x44.toNat (0, (0, (false, ((List.replicate 4 0), ()))))).2.1 < (y15.length : Int)) = true then
                  if (!(y15.getD (x42.getD x44.toNat (0, (0, (false, ((List.replicate 4 0), ()))))).2.1.toNat false)) = true then
                    if decide (0 ≤ (x42.getD x44.toNat (0, (0, (false, ((List.replicate 4 0), ()))))).2.1 ∧ (x42.getD x44.toNat (0, (0, (false, ((List.replicate 4 0), ()))))).2.1 < (y15.length : Int)) = true then
                      if decide (y306.length + ([(x42.getD x44.toNat (0, (0, (false, ((List.replicate 4 0), ()))))).2.1] : List (Int)).length ≤ lim) = true then
                        L41_13 n (((), (), (), (), x10, x42, x43, (IntKind.i64.wrap (x44 + (1 : Int))), ()), ((y2.1, y2.2.1, y2.2.2.1, y2.2.2.2.1, ()), ((), ()), ((), ()), (y15.set (x42.getD x44.toNat (0, (0, (false, ((List.replicate 4 0), ()))))).2.1.toNat true), (y306 ++ ([(x42.getD x44.toNat (0, (0, (false, ((List.replicate 4 0), ()))))).2.1] : List (Int))), ()))
                      else
                        none
                    else
                      none
                  else
                    L41_13 n (((), (), (), (), x10, x42, x43, (IntKind.i64.wrap (x44 + (1 : Int))), ()), ((y2.1, y2.2.1, y2.2.2.1, y2.2.2.2.1, ()), ((), ()), ((), ()), y15, y306, ()))
                else
                  none
              else
                L41_13 n (((), (), (), (), x10, x42, x43, (IntKind.i64.wrap (x44 + (1 : Int))), ()), ((y2.1, y2.2.1, y2.2.2.1, y2.2.2.2.1, ()), ((), ()), ((), ()), y15, y306, ()))
            else
              L41_13 n (((), (), (), (), x10, x42, x43, (IntKind.i64.wrap (x44 + (1 : Int))), ()), ((y2.1, y2.2.1, y2.2.2.1, y2.2.2.2.1, ()), ((), ()), ((), ()), y15, y306, ()))
          else
            L41_13 n (((), (), (), (), x10, x42, x43, (IntKind.i64.wrap (x44 + (1 : Int))), ()), ((y2.1, y2.2.1, y2.2.2.1, y2.2.2.2.1, ()), ((), ()), ((), ()), y15, y306, ()))
        else
          L41_13 n (((), (), (), (), x10, x42, x43, (IntKind.i64.wrap (x44 + (1 : Int))), ()), ((y2.1, y2.2.1, y2.2.2.1, y2.2.2.2.1, ()), ((), ()), ((), ()), y15, y306, ()))
      else
        none
    else
      some (((), (), (), (), ()), ((y2.1, y2.2.1, y2.2.2.1, y2.2.2.2.1, ()), ((), ()), ((), ()), y15, y306, ()))

noncomputable def EL41_13 : LoopEnt := ⟨[41], 13, ⟨[.keep [2, 5, 6, 7, 10, 42, 43, 44] [2, 5, 6, 15, 306, 307], .adoptCell 6 0 (.int .i64) 306], [2, 5, 6, 7, 10, 42, 43, 44], [2, 5, 6, 15, 306]⟩, [.ptr 2 0, .ptr 5 0, .ptr 6 0, .fnp 61 [2, 5, 6], .kd (.int .i64), .kd (.slice (.pair (.int .i64) (.pair (.int .i64) (.pair .bool (.pair (.arr 4 (.int .u64)) .unit))))), .kd (.int .i64), .kd (.int .i64)], [.box [.kd (.int .i64), .kd (.int .i64), .kd (.slice (.pair (.int .i64) (.pair (.int .i64) (.pair .bool (.pair (.arr 4 (.int .u64)) .unit))))), .kd (.slice (.int .i64))], .box [.ref 15], .box [.ref 306], .row .bool, .row (.int .i64)], [⟨(.exit 4), [2, 5, 6, 7], [.ptr 2 0, .ptr 5 0, .ptr 6 0, .fnp 61 [2, 5, 6]], [2, 5, 6, 15, 306], [.box [.kd (.int .i64), .kd (.int .i64), .kd (.slice (.pair (.int .i64) (.pair (.int .i64) (.pair .bool (.pair (.arr 4 (.int .u64)) .unit))))), .kd (.slice (.int .i64))], .box [.ref 15], .box [.ref 306], .row .bool, .row (.int .i64)]⟩], limit L41_13⟩

noncomputable def L41_9 : Nat → ((Unit × Unit × Unit × Unit × Unit) × (((Int) × (Int) × (List ((Int) × ((Int) × ((Bool) × ((List (Int)) × (Unit)))))) × (List (Int)) × Unit) × (Unit × Unit) × (Unit × Unit) × (List (Bool)) × (List (Int)) × Unit)) → Option ((Unit × Unit) × ((Unit × Unit) × (List (Bool)) × Unit))
  | 0, _ => none
  | n + 1, ((_, _, _, _, ()), (y2, _, _, y15, y306, ())) =>
    if (decide ((y306.length : Int) > (0 : Int))) = true then
      if decide (0 ≤ (IntKind.i64.wrap ((y306.length : Int) - (1 : Int))) ∧ (IntKind.i64.wrap ((y306.length : Int) - (1 : Int))) < (y306.length : Int)) = true then
        if decide (0 ≤ (IntKind.i64.wrap ((y306.length : Int) - (1 : Int))) ∧ (IntKind.i64.wrap ((y306.length : Int) - (1 : Int))) ≤ (y306.length : Int)) = true then
          (limit L41_13 (((), (), (), (), (y306.getD (IntKind.i64.wrap ((y306.length : Int) - (1 : Int))).toNat 0), y2.2.2.1, (y2.2.2.1.length : Int), (0 : Int), ()), ((y2.1, y2.2.1, y2.2.2.1, y2.2.2.2.1, ()), ((), ()), ((), ()), y15, (y306.take (IntKind.i64.wrap ((y306.length : Int) - (1 : Int))).toNat), ()))).bind fun r1 =>
          L41_9 n (((), (), (), (), ()), ((r1.2.1.1, r1.2.1.2.1, r1.2.1.2.2.1, r1.2.1.2.2.2.1, ()), ((), ()), ((), ()), r1.2.2.2.2.1, r1.2.2.2.2.2.1, ()))
        else
          none
      else
        none
    else
      some (((), ()), (((), ()), y15, ()))

noncomputable def EL41_9 : LoopEnt := ⟨[41], 9, ⟨[.keep [2, 5, 6, 7] [2, 5, 6, 15, 306], .adoptCell 6 0 (.int .i64) 306], [2, 5, 6, 7], [2, 5, 6, 15, 306]⟩, [.ptr 2 0, .ptr 5 0, .ptr 6 0, .fnp 61 [2, 5, 6]], [.box [.kd (.int .i64), .kd (.int .i64), .kd (.slice (.pair (.int .i64) (.pair (.int .i64) (.pair .bool (.pair (.arr 4 (.int .u64)) .unit))))), .kd (.slice (.int .i64))], .box [.ref 15], .box [.ref 306], .row .bool, .row (.int .i64)], [⟨(.exit 2), [5], [.ptr 5 0], [5, 15], [.box [.ref 15], .row .bool]⟩], limit L41_9⟩

noncomputable def L62_41_3 : Nat → ((Unit × Unit × (Int) × (Int) × Unit) × ((Unit × Unit) × (List (Bool)) × (List (Int)) × Unit)) → Option ((Unit × Unit) × ((Unit × Unit) × (List (Bool)) × (List (Int)) × Unit))
  | 0, _ => none
  | n + 1, ((_, _, x7, x8, ()), (_, y15, y1003, ())) =>
    if (decide (x8 < x7)) = true then
      if decide (0 ≤ x8 ∧ x8 < (y15.length : Int)) = true then
        if (y15.getD x8.toNat false) = true then
          if decide (y1003.length + ([x8] : List (Int)).length ≤ lim) = true then
            L62_41_3 n (((), (), x7, (IntKind.i64.wrap (x8 + (1 : Int))), ()), (((), ()), y15, (y1003 ++ ([x8] : List (Int))), ()))
          else
            none
        else
          L62_41_3 n (((), (), x7, (IntKind.i64.wrap (x8 + (1 : Int))), ()), (((), ()), y15, y1003, ()))
      else
        none
    else
      some (((), ()), (((), ()), y15, y1003, ()))

noncomputable def EL62_41_3 : LoopEnt := ⟨[62, 41], 3, ⟨[.keep [3, 6, 7, 8] [15, 1003, 1017], .adopt 3 (.int .i64) 1003], [3, 6, 7, 8], [5, 15, 1003]⟩, [.ref 1003, .ref 15, .kd (.int .i64), .kd (.int .i64)], [.box [.ref 15], .row .bool, .row (.int .i64)], [⟨(.exit 0), [3], [.ref 1003], [5, 15, 1003], [.box [.ref 15], .row .bool, .row (.int .i64)]⟩], limit L62_41_3⟩

noncomputable def O41 : Orc := mkOrc [] [EL41_5, EL41_13, EL41_9, EL62_41_3] [] [([61, 41], [.adoptCell 6 0 (.int .i64) 307])] []

theorem cL41_5 : LoopCert Try.prog O41 Γ0 2 EL41_5 :=
  ⟨⟨41, 0, L41_5, rfl, by kernel_rfl, by decide, limit_fn, fun _ => rfl, fun m old x r h => by
    obtain ⟨⟨x2, x5, x6, x7, x17, x18, x19, ⟨⟩⟩, y2, y5, y6, y15, y306, ⟨⟩⟩ := x
    refine Eq.trans ?_ h
    kernel_rfl⟩⟩

theorem cL41_13 : LoopCert Try.prog O41 Γ0 2 EL41_13 :=
  ⟨⟨41, 2, L41_13, rfl, by kernel_rfl, by decide, limit_fn, fun _ => rfl, fun m old x r h => by
    obtain ⟨⟨x2, x5, x6, x7, x10, x42, x43, x44, ⟨⟩⟩, y2, y5, y6, y15, y306, ⟨⟩⟩ := x
    refine Eq.trans ?_ h
    kernel_rfl⟩⟩

theorem cL41_9 : LoopCert Try.prog O41 Γ0 2 EL41_9 :=
  ⟨⟨41, 1, L41_9, rfl, by kernel_rfl, by decide, limit_fn, fun _ => rfl, fun m old x r h => by
    obtain ⟨⟨x2, x5, x6, x7, ⟨⟩⟩, y2, y5, y6, y15, y306, ⟨⟩⟩ := x
    refine Eq.trans ?_ h
    kernel_rfl⟩⟩

theorem cL62_41_3 : LoopCert Try.prog O41 Γ0 2 EL62_41_3 :=
  ⟨⟨62, 0, L62_41_3, rfl, by kernel_rfl, by decide, limit_fn, fun _ => rfl, fun m old x r h => by
    obtain ⟨⟨x3, x6, x7, x8, ⟨⟩⟩, y5, y15, y1003, ⟨⟩⟩ := x
    refine Eq.trans ?_ h
    kernel_rfl⟩⟩

/-- emendate/nfa.Closure -/
noncomputable def p41 : (((Int) × ((Int) × ((List ((Int) × ((Int) × ((Bool) × ((List (Int)) × (Unit)))))) × ((List (Int)) × (Unit))))) × (List (Int)) × Unit) → Option (List (Int))
  | (x0, x1, ()) =>
    if decide (x0.1 = x0.1 ∧ 0 ≤ x0.1 ∧ x0.1 ≤ (lim : Int)) = true then
      (limit L41_5 (((), (), (), (), x1, (x1.length : Int), (0 : Int), ()), ((x0.1, x0.2.1, x0.2.2.1, x0.2.2.2.1, ()), ((), ()), ((), ()), (List.replicate x0.1.toNat false), ([] : List (Int)), ()))).bind fun r1 =>
      (limit L41_9 (((), (), (), (), ()), ((r1.2.1.1, r1.2.1.2.1, r1.2.1.2.2.1, r1.2.1.2.2.2.1, ()), ((), ()), ((), ()), r1.2.2.2.2.1, r1.2.2.2.2.2.1, ()))).bind fun r2 =>
      (limit L62_41_3 (((), (), (r2.2.2.1.length : Int), (0 : Int), ()), (((), ()), r2.2.2.1, ([] : List (Int)), ()))).bind fun r3 =>
      some r3.2.2.2.1
    else
      none

theorem s41 : SoundFn Try.prog 41 (fnOf [(.pair (.int .i64) (.pair (.int .i64) (.pair (.slice (.pair (.int .i64) (.pair (.int .i64) (.pair .bool (.pair (.arr 4 (.int .u64)) .unit))))) (.pair (.slice (.int .i64)) .unit)))), (.slice (.int .i64))] (.one (.slice (.int .i64))) p41) :=
  fn_pure hm0 hng0 hΓ0 (t := []) all_nil (ls := [EL41_5, EL41_13, EL41_9, EL62_41_3]) (cmds := []) (leaves := [([61, 41], [.adoptCell 6 0 (.int .i64) 307])]) (fr := []) (D := 2) (all_cons cL41_5 (all_cons cL41_13 (all_cons cL41_9 (all_cons cL62_41_3 all_nil)))) (by kernel_rfl) (hfr := all_nil) fun x r h => by
    obtain ⟨x0, x1, ⟨⟩⟩ := x
    refine Eq.trans ?_ h
    kernel_rfl

def Γ49 : TEnv := { Γ0 with imm := [62] }
theorem hΓ49 : Γ49.ok Try.prog = true := hΓ0

noncomputable def L49_4 : Nat → (((Int) × Unit × Unit × (List (Int)) × (Int) × Unit) × (((Int) × (Int) × (List ((Int) × ((Int) × ((Bool) × ((List (Int)) × (Unit)))))) × (List (Int)) × Unit) × (List (Bool)) × Unit)) → Option (((Int) × Unit × Unit × Unit) × (((Int) × (Int) × (List ((Int) × ((Int) × ((Bool) × ((List (Int)) × (Unit)))))) × (List (Int)) × Unit) × (List (Bool)) × Unit))
  | 0, _ => none
  | n + 1, ((x2, _, _, x8, x9, ()), (y3, y15, ())) =>
    if (decide (x9 < (x8.length : Int))) = true then
      if decide (0 ≤ x9 ∧ x9 < (x8.length : Int)) = true then
        if decide (0 ≤ (x8.getD x9.toNat 0) ∧ (x8.getD x9.toNat 0) < (y15.length : Int)) = true then
          L49_4 n ((x2, (), (), x8, (IntKind.i64.wrap (x9 + (1 : Int))), ()), ((y3.1, y3.2.1, y3.2.2.1, y3.2.2.2.1, ()), (y15.set (x8.getD x9.toNat 0).toNat true), ()))
        else
          none
      else
        none
    else
      some ((x2, (), (), ()), ((y3.1, y3.2.1, y3.2.2.1, y3.2.2.2.1, ()), y15, ()))

noncomputable def EL49_4 : LoopEnt := ⟨[49], 4, ⟨[], [2, 3, 7, 8, 9], [3, 15]⟩, [.kd (.int .u8), .ptr 3 0, .ref 15, .kd (.slice (.int .i64)), .kd (.int .i64)], [.box [.kd (.int .i64), .kd (.int .i64), .kd (.slice (.pair (.int .i64) (.pair (.int .i64) (.pair .bool (.pair (.arr 4 (.int .u64)) .unit))))), .kd (.slice (.int .i64))], .row .bool], [⟨(.exit 0), [2, 3, 7], [.kd (.int .u8), .ptr 3 0, .ref 15], [3, 15], [.box [.kd (.int .i64), .kd (.int .i64), .kd (.slice (.pair (.int .i64) (.pair (.int .i64) (.pair .bool (.pair (.arr 4 (.int .u64)) .unit))))), .kd (.slice (.int .i64))], .row .bool]⟩], limit L49_4⟩

noncomputable def L49_9 : Nat → (((Int) × Unit × Unit × Unit × (Int) × Unit) × (((Int) × (Int) × (List ((Int) × ((Int) × ((Bool) × ((List (Int)) × (Unit)))))) × (List (Int)) × Unit) × (List (Int)) × (List (Bool)) × Unit)) → Option ((Unit × Unit × Unit) × (((Int) × (Int) × (List ((Int) × ((Int) × ((Bool) × ((List (Int)) × (Unit)))))) × (List (Int)) × Unit) × (List (Int)) × Unit))
  | 0, _ => none
  | n + 1, ((x2, _, _, _, x11, ()), (y3, y10, y15, ())) =>
    if (decide (x11 < (y3.2.2.1.length : Int))) = true then
      if decide (0 ≤ x11 ∧ x11 < (y3.2.2.1.length : Int)) = true then
        if (!(y3.2.2.1.getD x11.toNat (0, (0, (false, ((List.replicate 4 0), ()))))).2.2.1) = true then
          if decide (0 ≤ (y3.2.2.1.getD x11.toNat (0, (0, (false, ((List.replicate 4 0), ()))))).1 ∧ (y3.2.2.1.getD x11.toNat (0, (0, (false, ((List.replicate 4 0), ()))))).1 < (y15.length : Int)) = true then
            if (y15.getD (y3.2.2.1.getD x11.toNat (0, (0, (false, ((List.replicate 4 0), ()))))).1.toNat false) = true then
              (p65 ([((y3.2.2.1.getD x11.toNat (0, (0, (false, ((List.replicate 4 0), ()))))).2.2.2.1.getD 0 0), ((y3.2.2.1.getD x11.toNat (0, (0, (false, ((List.replicate 4 0), ()))))).2.2.2.1.getD 1 0), ((y3.2.2.1.getD x11.toNat (0, (0, (false, ((List.replicate 4 0), ()))))).2.2.2.1.getD 2 0), ((y3.2.2.1.getD x11.toNat (0, (0, (false, ((List.replicate 4 0), ()))))).2.2.2.1.getD 3 0)], x2, ())).bind fun c1 =>
              if c1 = true then
                if decide (y10.length + ([(y3.2.2.1.getD x11.toNat (0, (0, (false, ((List.replicate 4 0), ()))))).2.1] : List (Int)).length ≤ lim) = true then
                  L49_9 n ((x2, (), (), (), (IntKind.i64.wrap (x11 + (1 : Int))), ()), ((y3.1, y3.2.1, y3.2.2.1, y3.2.2.2.1, ()), (y10 ++ ([(y3.2.2.1.getD x11.toNat (0, (0, (false, ((List.replicate 4 0), ()))))).2.1] : List (Int))), y15, ()))
                else
                  none
              else
                L49_9 n ((x2, (), (), (), (IntKind.i64.wrap (x11 + (1 : Int))), ()), ((y3.1, y3.2.1, y3.2.2.1, y3.2.2.2.1, ()), y10, y15, ()))
            else
              L49_9 n ((x2, (), (), (), (IntKind.i64.wrap (x11 + (1 : Int))), ()), ((y3.1, y3.2.1, y3.2.2.1, y3.2.2.2.1, ()), y10, y15, ()))
          else
            none
        else
          L49_9 n ((x2, (), (), (), (IntKind.i64.wrap (x11 + (1 : Int))), ()), ((y3.1, y3.2.1, y3.2.2.1, y3.2.2.2.1, ()), y10, y15, ()))
      else
        none
    else
      some (((), (), ()), ((y3.1, y3.2.1, y3.2.2.1, y3.2.2.2.1, ()), y10, ()))

noncomputable def EL49_9 : LoopEnt := ⟨[49], 9, ⟨[.keep [2, 3, 7, 10, 11] [3, 10, 15, 63], .adopt 10 (.int .i64) 10], [2, 3, 7, 10, 11], [3, 10, 15]⟩, [.kd (.int .u8), .ptr 3 0, .ref 15, .ref 10, .kd (.int .i64)], [.box [.kd (.int .i64), .kd (.int .i64), .kd (.slice (.pair (.int .i64) (.pair (.int .i64) (.pair .bool (.pair (.arr 4 (.int .u64)) .unit))))), .kd (.slice (.int .i64))], .row (.int .i64), .row .bool], [⟨(.exit 2), [3, 10], [.ptr 3 0, .ref 10], [3, 10], [.box [.kd (.int .i64), .kd (.int .i64), .kd (.slice (.pair (.int .i64) (.pair (.int .i64) (.pair .bool (.pair (.arr 4 (.int .u64)) .unit))))), .kd (.slice (.int .i64))], .row (.int .i64)]⟩], limit L49_9⟩

noncomputable def L48_49_3 : Nat → ((Unit × Unit × Unit × (Int) × Unit) × (((Int) × (Int) × (List ((Int) × ((Int) × ((Bool) × ((List (Int)) × (Unit)))))) × (List (Int)) × Unit) × (List (Int)) × ((Int) × (Int) × (List ((Int) × ((Int) × ((Bool) × ((List (Int)) × (Unit)))))) × (List (Int)) × Unit) × (List (Bool)) × Unit)) → Option ((Unit × Unit × Unit) × (((Int) × (Int) × (List ((Int) × ((Int) × ((Bool) × ((List (Int)) × (Unit)))))) × (List (Int)) × Unit) × (List (Int)) × ((Int) × (Int) × (List ((Int) × ((Int) × ((Bool) × ((List (Int)) × (Unit)))))) × (List (Int)) × Unit) × (List (Bool)) × Unit))
  | 0, _ => none
  | n + 1, ((_, _, _, x6, ()), (y3, y10, y1002, y1012, ())) =>
    if (decide (x6 < (y10.length : Int))) = true then
      if decide (0 ≤ x6 ∧ x6 < (y10.length : Int)) = true then
        if (decide ((y10.getD x6.toNat 0) ≥ (0 : Int))) = true then
          if decide (0 ≤ x6 ∧ x6 < (y10.length : Int)) = true then
            if (decide ((y10.getD x6.toNat 0) < y1002.1)) = true then
              if decide (0 ≤ x6 ∧ x6 < (y10.length : Int)) = true then
                if decide (0 ≤ (y10.getD x6.toNat 0) ∧ (y10.getD x6.toNat 0) < (y1012.length : Int)) = true then
                  L48_49_3 n (((), (), (), (IntKind.i64.wrap (x6 + (1 : Int))), ()), ((y3.1, y3.2.1, y3.2.2.1, y3.2.2.2.1, ()), y10, (y1002.1, y1002.2.1, y1002.2.2.1, y1002.2.2.2.1, ()), (y1012.set (y10.getD x6.toNat 0).toNat true), ()))
                else
                  none
              else
                none
            else
              L48_49_3 n (((), (), (), (IntKind.i64.wrap (x6 + (1 : Int))), ()), ((y3.1, y3.2.1, y3.2.2.1, y3.2.2.2.1, ()), y10, (y1002.1, y1002.2.1, y1002.2.2.1, y1002.2.2.2.1, ()), y1012, ()))
          else
            none
        else
          L48_49_3 n (((), (), (), (IntKind.i64.wrap (x6 + (1 : Int))), ()), ((y3.1, y3.2.1, y3.2.2.1, y3.2.2.2.1, ()), y10, (y1002.1, y1002.2.1, y1002.2.2.1, y1002.2.2.2.1, ()), y1012, ()))
      else
        none
    else
      some (((), (), ()), ((y3.1, y3.2.1, y3.2.2.1, y3.2.2.2.1, ()), y10, (y1002.1, y1002.2.1, y1002.2.2.1, y1002.2.2.2.1, ()), y1012, ()))

noncomputable def EL48_49_3 : LoopEnt := ⟨[48, 49], 3, ⟨[], [1, 2, 5, 6], [3, 10, 1002, 1012]⟩, [.ref 10, .ptr 1002 0, .ref 1012, .kd (.int .i64)], [.box [.kd (.int .i64), .kd (.int .i64), .kd (.slice (.pair (.int .i64) (.pair (.int .i64) (.pair .bool (.pair (.arr 4 (.int .u64)) .unit))))), .kd (.slice (.int .i64))], .row (.int .i64), .box [.kd (.int .i64), .kd (.int .i64), .kd (.slice (.pair (.int .i64) (.pair (.int .i64) (.pair .bool (.pair (.arr 4 (.int .u64)) .unit))))), .kd (.slice (.int .i64))], .row .bool], [⟨(.exit 0), [2, 5], [.ptr 1002 0, .ref 1012], [3, 10, 1002, 1012], [.box [.kd (.int .i64), .kd (.int .i64), .kd (.slice (.pair (.int .i64) (.pair (.int .i64) (.pair .bool (.pair (.arr 4 (.int .u64)) .unit))))), .kd (.slice (.int .i64))], .row (.int .i64), .box [.kd (.int .i64), .kd (.int .i64), .kd (.slice (.pair (.int .i64) (.pair (.int .i64) (.pair .bool (.pair (.arr 4 (.int .u64)) .unit))))), .kd (.slice (.int .i64))], .row .bool]⟩], limit L48_49_3⟩

noncomputable def L48_49_11 : Nat → ((Unit × Unit × (Bool) × (Int) × Unit) × (((Int) × (Int) × (List ((Int) × ((Int) × ((Bool) × ((List (Int)) × (Unit)))))) × (List (Int)) × Unit) × (List (Int)) × ((Int) × (Int) × (List ((Int) × ((Int) × ((Bool) × ((List (Int)) × (Unit)))))) × (List (Int)) × Unit) × (List (Bool)) × Unit)) → Option ((Unit × Unit × (Bool) × Unit) × (((Int) × (Int) × (List ((Int) × ((Int) × ((Bool) × ((List (Int)) × (Unit)))))) × (List (Int)) × Unit) × (List (Int)) × ((Int) × (Int) × (List ((Int) × ((Int) × ((Bool) × ((List (Int)) × (Unit)))))) × (List (Int)) × Unit) × (List (Bool)) × Unit))
  | 0, _ => none
  | n + 1, ((_, _, x7, x8, ()), (y3, y10, y1002, y1012, ())) =>
    if (decide (x8 < (y1002.2.2.1.length : Int))) = true then
      if decide (0 ≤ x8 ∧ x8 < (y1002.2.2.1.length : Int)) = true then
        if (y1002.2.2.1.getD x8.toNat (0, (0, (false, ((List.replicate 4 0), ()))))).2.2.1 = true then
          if decide (0 ≤ (y1002.2.2.1.getD x8.toNat (0, (0, (false, ((List.replicate 4 0), ()))))).1 ∧ (y1002.2.2.1.getD x8.toNat (0, (0, (false, ((List.replicate 4 0), ()))))).1 < (y1012.length : Int)) = true then
            if (y1012.getD (y1002.2.2.1.getD x8.toNat (0, (0, (false, ((List.replicate 4 0), ()))))).1.toNat false) = true then
              if decide (0 ≤ (y1002.2.2.1.getD x8.toNat (0, (0, (false, ((List.replicate 4 0), ()))))).2.1 ∧ (y1002.2.2.1.getD x8.toNat (0, (0, (false, ((List.replicate 4 0), ()))))).2.1 < (y1012.length : Int)) = true then
                if (!(y1012.getD (y1002.2.2.1.getD x8.toNat (0, (0, (false, ((List.replicate 4 0), ()))))).2.1.toNat false)) = true then
                  if decide (0 ≤ (y1002.2.2.1.getD x8.toNat (0, (0, (false, ((List.replicate 4 0), ()))))).2.1 ∧ (y1002.2.2.1.getD x8.toNat (0, (0, (false, ((List.replicate 4 0), ()))))).2.1 < (y1012.length : Int)) = true then
                    L48_49_11 n (((), (), true, (IntKind.i64.wrap (x8 + (1 : Int))), ()), ((y3.1, y3.2.1, y3.2.2.1, y3.2.2.2.1, ()), y10, (y1002.1, y1002.2.1, y1002.2.2.1, y1002.2.2.2.1, ()), (y1012.set (y1002.2.2.1.getD x8.toNat (0, (0, (false, ((List.replicate 4 0), ()))))).2.1.toNat true), ()))
                  else
                    none
                else
                  L48_49_11 n (((), (), x7, (IntKind.i64.wrap (x8 + (1 : Int))), ()), ((y3.1, y3.2.1, y3.2.2.1, y3.2.2.2.1, ()), y10, (y1002.1, y1002.2.1, y1002.2.2.1, y1002.2.2.2.1, ()), y1012, ()))
              else
                none
            else
              L48_49_11 n (((), (), x7, (IntKind.i64.wrap (x8 + (1 : Int))), ()), ((y3.1, y3.2.1, y3.2.2.1, y3.2.2.2.1, ()), y10, (y1002.1, y1002.2.1, y1002.2.2.1, y1002.2.2.2.1, ()), y1012, ()))
          else
            none
        else
          L48_49_11 n (((), (), x7, (IntKind.i64.wrap (x8 + (1 : Int))), ()), ((y3.1, y3.2.1, y3.2.2.1, y3.2.2.2.1, ()), y10, (y1002.1, y1002.2.1, y1002.2.2.1, y1002.2.2.2.1, ()), y1012, ()))
      else
        none
    else
      some (((), (), x7, ()), ((y3.1, y3.2.1, y3.2.2.1, y3.2.2.2.1, ()), y10, (y1002.1, y1002.2.1, y1002.2.2.1, y1002.2.2.2.1, ()), y1012, ()))

noncomputable def EL48_49_11 : LoopEnt := ⟨[48, 49], 11, ⟨[], [2, 5, 7, 8], [3, 10, 1002, 1012]⟩, [.ptr 1002 0, .ref 1012, .kd .bool, .kd (.int .i64)], [.box [.kd (.int .i64), .kd (.int .i64), .kd (.slice (.pair (.int .i64) (.pair (.int .i64) (.pair .bool (.pair (.arr 4 (.int .u64)) .unit))))), .kd (.slice (.int .i64))], .row (.int .i64), .box [.kd (.int .i64), .kd (.int .i64), .kd (.slice (.pair (.int .i64) (.pair (.int .i64) (.pair .bool (.pair (.arr 4 (.int .u64)) .unit))))), .kd (.slice (.int .i64))], .row .bool], [⟨(.exit 4), [2, 5, 7], [.ptr 1002 0, .ref 1012, .kd .bool], [3, 10, 1002, 1012], [.box [.kd (.int .i64), .kd (.int .i64), .kd (.slice (.pair (.int .i64) (.pair (.int .i64) (.pair .bool (.pair (.arr 4 (.int .u64)) .unit))))), .kd (.slice (.int .i64))], .row (.int .i64), .box [.kd (.int .i64), .kd (.int .i64), .kd (.slice (.pair (.int .i64) (.pair (.int .i64) (.pair .bool (.pair (.arr 4 (.int .u64)) .unit))))), .kd (.slice (.int .i64))], .row .bool]⟩], limit L48_49_11⟩

noncomputable def L48_49_8 : Nat → ((Unit × Unit × (Bool) × Unit) × (((Int) × (Int) × (List ((Int) × ((Int) × ((Bool) × ((List (Int)) × (Unit)))))) × (List (Int)) × Unit) × (List (Int)) × ((Int) × (Int) × (List ((Int) × ((Int) × ((Bool) × ((List (Int)) × (Unit)))))) × (List (Int)) × Unit) × (List (Bool)) × Unit)) → Option ((Unit × Unit) × (((Int) × (Int) × (List ((Int) × ((Int) × ((Bool) × ((List (Int)) × (Unit)))))) × (List (Int)) × Unit) × (List (Int)) × (List (Bool)) × Unit))
  | 0, _ => none
  | n + 1, ((_, _, x7, ()), (y3, y10, y1002, y1012, ())) =>
    if x7 = true then
      (limit L48_49_11 (((), (), false, (0 : Int), ()), ((y3.1, y3.2.1, y3.2.2.1, y3.2.2.2.1, ()), y10, (y1002.1, y1002.2.1, y1002.2.2.1, y1002.2.2.2.1, ()), y1012, ()))).bind fun r1 =>
      L48_49_8 n (((), (), r1.1.2.2.1, ()), ((r1.2.1.1, r1.2.1.2.1, r1.2.1.2.2.1, r1.2.1.2.2.2.1, ()), r1.2.2.1, (r1.2.2.2.1.1, r1.2.2.2.1.2.1, r1.2.2.2.1.2.2.1, r1.2.2.2.1.2.2.2.1, ()), r1.2.2.2.2.1, ()))
    else
      some (((), ()), ((y3.1, y3.2.1, y3.2.2.1, y3.2.2.2.1, ()), y10, y1012, ()))

noncomputable def EL48_49_8 : LoopEnt := ⟨[48, 49], 8, ⟨[], [2, 5, 7], [3, 10, 1002, 1012]⟩, [.ptr 1002 0, .ref 1012, .kd .bool], [.box [.kd (.int .i64), .kd (.int .i64), .kd (.slice (.pair (.int .i64) (.pair (.int .i64) (.pair .bool (.pair (.arr 4 (.int .u64)) .unit))))), .kd (.slice (.int .i64))], .row (.int .i64), .box [.kd (.int .i64), .kd (.int .i64), .kd (.slice (.pair (.int .i64) (.pair (.int .i64) (.pair .bool (.pair (.arr 4 (.int .u64)) .unit))))), .kd (.slice (.int .i64))], .row .bool], [⟨(.exit 2), [5], [.ref 1012], [3, 10, 1012], [.box [.kd (.int .i64), .kd (.int .i64), .kd (.slice (.pair (.int .i64) (.pair (.int .i64) (.pair .bool (.pair (.arr 4 (.int .u64)) .unit))))), .kd (.slice (.int .i64))], .row (.int .i64), .row .bool]⟩], limit L48_49_8⟩

noncomputable def L64_48_49_3 : Nat → ((Unit × Unit × (Int) × Unit) × (((Int) × (Int) × (List ((Int) × ((Int) × ((Bool) × ((List (Int)) × (Unit)))))) × (List (Int)) × Unit) × (List (Int)) × (List (Bool)) × (List (Int)) × Unit)) → Option ((Unit × Unit) × (((Int) × (Int) × (List ((Int) × ((Int) × ((Bool) × ((List (Int)) × (Unit)))))) × (List (Int)) × Unit) × (List (Int)) × (List (Bool)) × (List (Int)) × Unit))
  | 0, _ => none
  | n + 1, ((_, _, x4, ()), (y3, y10, y1012, y2003, ())) =>
    if (decide (x4 < (y1012.length : Int))) = true then
      if decide (0 ≤ x4 ∧ x4 < (y1012.length : Int)) = true then
        if (y1012.getD x4.toNat false) = true then
          if decide (y2003.length + ([x4] : List (Int)).length ≤ lim) = true then
            L64_48_49_3 n (((), (), (IntKind.i64.wrap (x4 + (1 : Int))), ()), ((y3.1, y3.2.1, y3.2.2.1, y3.2.2.2.1, ()), y10, y1012, (y2003 ++ ([x4] : List (Int))), ()))
          else
            none
        else
          L64_48_49_3 n (((), (), (IntKind.i64.wrap (x4 + (1 : Int))), ()), ((y3.1, y3.2.1, y3.2.2.1, y3.2.2.2.1, ()), y10, y1012, y2003, ()))
      else
        none
    else
      some (((), ()), ((y3.1, y3.2.1, y3.2.2.1, y3.2.2.2.1, ()), y10, y1012, y2003, ()))

noncomputable def EL64_48_49_3 : LoopEnt := ⟨[64, 48, 49], 3, ⟨[.keep [0, 3, 4] [1012, 2003, 2018], .adopt 3 (.int .i64) 2003], [0, 3, 4], [3, 10, 1012, 2003]⟩, [.ref 1012, .ref 2003, .kd (.int .i64)], [.box [.kd (.int .i64), .kd (.int .i64), .kd (.slice (.pair (.int .i64) (.pair (.int .i64) (.pair .bool (.pair (.arr 4 (.int .u64)) .unit))))), .kd (.slice (.int .i64))], .row (.int .i64), .row .bool, .row (.int .i64)], [⟨(.exit 0), [3], [.ref 2003], [3, 10, 1012, 2003], [.box [.kd (.int .i64), .kd (.int .i64), .kd (.slice (.pair (.int .i64) (.pair (.int .i64) (.pair .bool (.pair (.arr 4 (.int .u64)) .unit))))), .kd (.slice (.int .i64))], .row (.int .i64), .row .bool, .row (.int .i64)]⟩], limit L64_48_49_3⟩

noncomputable def O49 : Orc := mkOrc [(48, fnOf [(.pair (.int .i64) (.pair (.int .i64) (.pair (.slice (.pair (.int .i64) (.pair (.int .i64) (.pair .bool (.pair (.arr 4 (.int .u64)) .unit))))) (.pair (.slice (.int .i64)) .unit)))), (.slice (.int .i64))] (.one (.slice (.int .i64))) p48), (65, fnOf [(.arr 4 (.int .u64)), (.int .u8)] (.one .bool) p65)] [EL49_4, EL49_9, EL48_49_3, EL48_49_11, EL48_49_8, EL64_48_49_3] [] [] []

theorem cL49_4 : LoopCert Try.prog O49 Γ49 3 EL49_4 :=
  ⟨⟨49, 0, L49_4, rfl, by kernel_rfl, by decide, limit_fn, fun _ => rfl, fun m old x r h => by
    obtain ⟨⟨x2, x3, x7, x8, x9, ⟨⟩⟩, y3, y15, ⟨⟩⟩ := x
    refine Eq.trans ?_ h
    kernel_rfl⟩⟩

theorem cL49_9 : LoopCert Try.prog O49 Γ49 3 EL49_9 :=
  ⟨⟨49, 1, L49_9, rfl, by kernel_rfl, by decide, limit_fn, fun _ => rfl, fun m old x r h => by
    obtain ⟨⟨x2, x3, x7, x10, x11, ⟨⟩⟩, y3, y10, y15, ⟨⟩⟩ := x
    refine Eq.trans ?_ h
    kernel_rfl⟩⟩

theorem cL48_49_3 : LoopCert Try.prog O49 Γ49 3 EL48_49_3 :=
  ⟨⟨48, 0, L48_49_3, rfl, by kernel_rfl, by decide, limit_fn, fun _ => rfl, fun m old x r h => by
    obtain ⟨⟨x1, x2, x5, x6, ⟨⟩⟩, y3, y10, y1002, y1012, ⟨⟩⟩ := x
    refine Eq.trans ?_ h
    kernel_rfl⟩⟩

theorem cL48_49_11 : LoopCert Try.prog O49 Γ49 3 EL48_49_11 :=
  ⟨⟨48, 2, L48_49_11, rfl, by kernel_rfl, by decide, limit_fn, fun _ => rfl, fun m old x r h => by
    obtain ⟨⟨x2, x5, x7, x8, ⟨⟩⟩, y3, y10, y1002, y1012, ⟨⟩⟩ := x
    refine Eq.trans ?_ h
    kernel_rfl⟩⟩

theorem cL48_49_8 : LoopCert Try.prog O49 Γ49 3 EL48_49_8 :=
  ⟨⟨48, 1, L48_49_8, rfl, by kernel_rfl, by decide, limit_fn, fun _ => rfl, fun m old x r h => by
    obtain ⟨⟨x2, x5, x7, ⟨⟩⟩, y3, y10, y1002, y1012, ⟨⟩⟩ := x
    refine Eq.trans ?_ h
    kernel_rfl⟩⟩

theorem cL64_48_49_3 : LoopCert Try.prog O49 Γ49 3 EL64_48_49_3 :=
  ⟨⟨64, 0, L64_48_49_3, rfl, by kernel_rfl, by decide, limit_fn, fun _ => rfl, fun m old x r h => by
    obtain ⟨⟨x0, x3, x4, ⟨⟩⟩, y3, y10, y1012, y2003, ⟨⟩⟩ := x
    refine Eq.trans ?_ h
    kernel_rfl⟩⟩

/-- emendate/emendateref09.Step -/
noncomputable def p49 : (((Int) × ((Int) × ((List ((Int) × ((Int) × ((Bool) × ((List (Int)) × (Unit)))))) × ((List (Int)) × (Unit))))) × (List (Int)) × (Int) × Unit) → Option (List (Int))
  | (x0, x1, x2, ()) =>
    if decide (x0.1 = x0.1 ∧ 0 ≤ x0.1 ∧ x0.1 ≤ (lim : Int)) = true then
      (p48 ((x0.1, (x0.2.1, (x0.2.2.1, (x0.2.2.2.1, ())))), x1, ())).bind fun c1 =>
      (limit L49_4 ((x2, (), (), c1, (0 : Int), ()), ((x0.1, x0.2.1, x0.2.2.1, x0.2.2.2.1, ()), (List.replicate x0.1.toNat false), ()))).bind fun r2 =>
      (limit L49_9 ((r2.1.1, (), (), (), (0 : Int), ()), ((r2.2.1.1, r2.2.1.2.1, r2.2.1.2.2.1, r2.2.1.2.2.2.1, ()), ([] : List (Int)), r2.2.2.1, ()))).bind fun r3 =>
      if decide (r3.2.1.1 = r3.2.1.1 ∧ 0 ≤ r3.2.1.1 ∧ r3.2.1.1 ≤ (lim : Int)) = true then
        (limit L48_49_3 (((), (), (), (0 : Int), ()), ((r3.2.1.1, r3.2.1.2.1, r3.2.1.2.2.1, r3.2.1.2.2.2.1, ()), r3.2.2.1, (r3.2.1.1, r3.2.1.2.1, r3.2.1.2.2.1, r3.2.1.2.2.2.1, ()), (List.replicate r3.2.1.1.toNat false), ()))).bind fun r4 =>
        (limit L48_49_8 (((), (), true, ()), ((r4.2.1.1, r4.2.1.2.1, r4.2.1.2.2.1, r4.2.1.2.2.2.1, ()), r4.2.2.1, (r4.2.2.2.1.1, r4.2.2.2.1.2.1, r4.2.2.2.1.2.2.1, r4.2.2.2.1.2.2.2.1, ()), r4.2.2.2.2.1, ()))).bind fun r5 =>
        (limit L64_48_49_3 (((), (), (0 : Int), ()), ((r5.2.1.1, r5.2.1.2.1, r5.2.1.2.2.1, r5.2.1.2.2.2.1, ()), r5.2.2.1, r5.2.2.2.1, ([] : List (Int)), ()))).bind fun r6 =>
        some r6.2.2.2.2.1
      else
        none
    else
      none

theorem s49 : SoundFn Try.prog 49 (fnOf [(.pair (.int .i64) (.pair (.int .i64) (.pair (.slice (.pair (.int .i64) (.pair (.int .i64) (.pair .bool (.pair (.arr 4 (.int .u64)) .unit))))) (.pair (.slice (.int .i64)) .unit)))), (.slice (.int .i64)), (.int .u8)] (.one (.slice (.int .i64))) p49) :=
  fn_pure hm0 hng0 hΓ49 (t := [(48, fnOf [(.pair (.int .i64) (.pair (.int .i64) (.pair (.slice (.pair (.int .i64) (.pair (.int .i64) (.pair .bool (.pair (.arr 4 (.int .u64)) .unit))))) (.pair (.slice (.int .i64)) .unit)))), (.slice (.int .i64))] (.one (.slice (.int .i64))) p48), (65, fnOf [(.arr 4 (.int .u64)), (.int .u8)] (.one .bool) p65)]) (all_cons s48 (all_cons s65 all_nil)) (ls := [EL49_4, EL49_9, EL48_49_3, EL48_49_11, EL48_49_8, EL64_48_49_3]) (cmds := []) (leaves := []) (fr := []) (D := 3) (all_cons cL49_4 (all_cons cL49_9 (all_cons cL48_49_3 (all_cons cL48_49_11 (all_cons cL48_49_8 (all_cons cL64_48_49_3 all_nil)))))) (by kernel_rfl) (hfr := all_nil) fun x r h => by
    obtain ⟨x0, x1, x2, ⟨⟩⟩ := x
    refine Eq.trans ?_ h
    kernel_rfl

def Γ43 : TEnv := { Γ0 with imm := [54] }
theorem hΓ43 : Γ43.ok Try.prog = true := hΓ0

noncomputable def L43_3 : Nat → (((Int) × Unit × Unit × (List (Int)) × (Int) × (Int) × Unit) × (((Int) × (Int) × (List ((Int) × ((Int) × ((Bool) × ((List (Int)) × (Unit)))))) × (List (Int)) × Unit) × (List (Bool)) × Unit)) → Option (((Int) × Unit × Unit × Unit) × (((Int) × (Int) × (List ((Int) × ((Int) × ((Bool) × ((List (Int)) × (Unit)))))) × (List (Int)) × Unit) × (List (Bool)) × Unit))
  | 0, _ => none
  | n + 1, ((x2, _, _, x18, x19, x20, ()), (y3, y15, ())) =>
    if (decide (x20 < x19)) = true then
      if decide (0 ≤ x20 ∧ x20 < (x18.length : Int)) = true then
        if decide (0 ≤ (x18.getD x20.toNat 0) ∧ (x18.getD x20.toNat 0) < (y15.length : Int)) = true then
          L43_3 n ((x2, (), (), x18, x19, (IntKind.i64.wrap (x20 + (1 : Int))), ()), ((y3.1, y3.2.1, y3.2.2.1, y3.2.2.2.1, ()), (y15.set (x18.getD x20.toNat 0).toNat true), ()))
        else
          none
      else
        none
    else
      some ((x2, (), (), ()), ((y3.1, y3.2.1, y3.2.2.1, y3.2.2.2.1, ()), y15, ()))

noncomputable def EL43_3 : LoopEnt := ⟨[43], 3, ⟨[], [2, 3, 7, 18, 19, 20], [3, 15]⟩, [.kd (.int .u8), .ptr 3 0, .ref 15, .kd (.slice (.int .i64)), .kd (.int .i64), .kd (.int .i64)], [.box [.kd (.int .i64), .kd (.int .i64), .kd (.slice (.pair (.int .i64) (.pair (.int .i64) (.pair .bool (.pair (.arr 4 (.int .u64)) .unit))))), .kd (.slice (.int .i64))], .row .bool], [⟨(.exit 0), [2, 3, 7], [.kd (.int .u8), .ptr 3 0, .ref 15], [3, 15], [.box [.kd (.int .i64), .kd (.int .i64), .kd (.slice (.pair (.int .i64) (.pair (.int .i64) (.pair .bool (.pair (.arr 4 (.int .u64)) .unit))))), .kd (.slice (.int .i64))], .row .bool]⟩], limit L43_3⟩

noncomputable def L43_9 : Nat → (((Int) × Unit × Unit × Unit × (List ((Int) × ((Int) × ((Bool) × ((List (Int)) × (Unit)))))) × (Int) × (Int) × Unit) × (((Int) × (Int) × (List ((Int) × ((Int) × ((Bool) × ((List (Int)) × (Unit)))))) × (List (Int)) × Unit) × (List (Int)) × (List (Bool)) × Unit)) → Option ((Unit × Unit × Unit) × (((Int) × (Int) × (List ((Int) × ((Int) × ((Bool) × ((List (Int)) × (Unit)))))) × (List (Int)) × Unit) × (List (Int)) × Unit))
  | 0, _ => none
  | n + 1, ((x2, _, _, _, x29, x30, x31, ()), (y3, y10, y15, ())) =>
    if (decide (x31 < x30)) = true then
      if decide (0 ≤ x31 ∧ x31 < (x29.length : Int)) = true then
        if (!(x29.getD x31.toNat (0, (0, (false, ((List.replicate 4 0), ()))))).2.2.1) = true then
          if decide (0 ≤ (x29.getD x31.toNat (0, (0, (false, ((List.replicate 4 0), ()))))).1 ∧ (x29.getD x31.toNat (0, (0, (false, ((List.replicate 4 0), ()))))).1 < (y15.length : Int)) = true then
            if (y15.getD (x29.getD x31.toNat (0, (0, (false, ((List.replicate 4 0), ()))))).1.toNat false) = true then
              (p60 ([((x29.getD x31.toNat (0, (0, (false, ((List.replicate 4 0), ()))))).2.2.2.1.getD 0 0), ((x29.getD x31.toNat (0, (0, (false, ((List.replicate 4 0), ()))))).2.2.2.1.getD 1 0), ((x29.getD x31.toNat (0, (0, (false, ((List.replicate 4 0), ()))))).2.2.2.1.getD 2 0), ((x29.getD x31.toNat (0, (0, (false, ((List.replicate 4 0), ()))))).2.2.2.1.getD 3 0)], x2, ())).bind fun c1 =>
              if c1 = true then
                if decide (y10.length + ([(x29.getD x31.toNat (0, (0, (false, ((List.replicate 4 0), ()))))).2.1] : List (Int)).length ≤ lim) = true then
                  L43_9 n ((x2, (), (), (), x29, x30, (IntKind.i64.wrap (x31 + (1 : Int))), ()), ((y3.1, y3.2.1, y3.2.2.1, y3.2.2.2.1, ()), (y10 ++ ([(x29.getD x31.toNat (0, (0, (false, ((List.replicate 4 0), ()))))).2.1] : List (Int))), y15, ()))
                else
                  none
              else
                L43_9 n ((x2, (), (), (), x29, x30, (IntKind.i64.wrap (x31 + (1 : Int))), ()), ((y3.1, y3.2.1, y3.2.2.1, y3.2.2.2.1, ()), y10, y15, ()))
            else
              L43_9 n ((x2, (), (), (), x29, x30, (IntKind.i64.wrap (x31 + (1 : Int))), ()), ((y3.1, y3.2.1, y3.2.2.1, y3.2.2.2.1, ()), y10, y15, ()))
          else
            none
        else
          L43_9 n ((x2, (), (), (), x29, x30, (IntKind.i64.wrap (x31 + (1 : Int))), ()), ((y3.1, y3.2.1, y3.2.2.1, y3.2.2.2.1, ()), y10, y15, ()))
      else
        none
    else
      some (((), (), ()), ((y3.1, y3.2.1, y3.2.2.1, y3.2.2.2.1, ()), y10, ()))

noncomputable def EL43_9 : LoopEnt := ⟨[43], 9, ⟨[.keep [2, 3, 7, 10, 29, 30, 31] [3, 10, 15, 55], .adopt 10 (.int .i64) 10], [2, 3, 7, 10, 29, 30, 31], [3, 10, 15]⟩, [.kd (.int .u8), .ptr 3 0, .ref 15, .ref 10, .kd (.slice (.pair (.int .i64) (.pair (.int .i64) (.pair .bool (.pair (.arr 4 (.int .u64)) .unit))))), .kd (.int .i64), .kd (.int .i64)], [.box [.kd (.int .i64), .kd (.int .i64), .kd (.slice (.pair (.int .i64) (.pair (.int .i64) (.pair .bool (.pair (.arr 4 (.int .u64)) .unit))))), .kd (.slice (.int .i64))], .row (.int .i64), .row .bool], [⟨(.exit 2), [3, 10], [.ptr 3 0, .ref 10], [3, 10], [.box [.kd (.int .i64), .kd (.int .i64), .kd (.slice (.pair (.int .i64) (.pair (.int .i64) (.pair .bool (.pair (.arr 4 (.int .u64)) .unit))))), .kd (.slice (.int .i64))], .row (.int .i64)]⟩], limit L43_9⟩

noncomputable def O43 : Orc := mkOrc [(41, fnOf [(.pair (.int .i64) (.pair (.int .i64) (.pair (.slice (.pair (.int .i64) (.pair (.int .i64) (.pair .bool (.pair (.arr 4 (.int .u64)) .unit))))) (.pair (.slice (.int .i64)) .unit)))), (.slice (.int .i64))] (.one (.slice (.int .i64))) p41), (60, fnOf [(.arr 4 (.int .u64)), (.int .u8)] (.one .bool) p60)] [EL43_3, EL43_9] [([43], 14, [.freeze 10])] [] []

theorem cL43_3 : LoopCert Try.prog O43 Γ43 1 EL43_3 :=
  ⟨⟨43, 0, L43_3, rfl, by kernel_rfl, by decide, limit_fn, fun _ => rfl, fun m old x r h => by
    obtain ⟨⟨x2, x3, x7, x18, x19, x20, ⟨⟩⟩, y3, y15, ⟨⟩⟩ := x
    refine Eq.trans ?_ h
    kernel_rfl⟩⟩

theorem cL43_9 : LoopCert Try.prog O43 Γ43 1 EL43_9 :=
  ⟨⟨43, 1, L43_9, rfl, by kernel_rfl, by decide, limit_fn, fun _ => rfl, fun m old x r h => by
    obtain ⟨⟨x2, x3, x7, x10, x29, x30, x31, ⟨⟩⟩, y3, y10, y15, ⟨⟩⟩ := x
    refine Eq.trans ?_ h
    kernel_rfl⟩⟩

/-- emendate/nfa.Step -/
noncomputable def p43 : (((Int) × ((Int) × ((List ((Int) × ((Int) × ((Bool) × ((List (Int)) × (Unit)))))) × ((List (Int)) × (Unit))))) × (List (Int)) × (Int) × Unit) → Option (List (Int))
  | (x0, x1, x2, ()) =>
    if decide (x0.1 = x0.1 ∧ 0 ≤ x0.1 ∧ x0.1 ≤ (lim : Int)) = true then
      (p41 ((x0.1, (x0.2.1, (x0.2.2.1, (x0.2.2.2.1, ())))), x1, ())).bind fun c1 =>
      (limit L43_3 ((x2, (), (), c1, (c1.length : Int), (0 : Int), ()), ((x0.1, x0.2.1, x0.2.2.1, x0.2.2.2.1, ()), (List.replicate x0.1.toNat false), ()))).bind fun r2 =>
      (limit L43_9 ((r2.1.1, (), (), (), r2.2.1.2.2.1, (r2.2.1.2.2.1.length : Int), (0 : Int), ()), ((r2.2.1.1, r2.2.1.2.1, r2.2.1.2.2.1, r2.2.1.2.2.2.1, ()), ([] : List (Int)), r2.2.2.1, ()))).bind fun r3 =>
      (p41 ((r3.2.1.1, (r3.2.1.2.1, (r3.2.1.2.2.1, (r3.2.1.2.2.2.1, ())))), r3.2.2.1, ())).bind fun c4 =>
      some c4
    else
      none

theorem s43 : SoundFn Try.prog 43 (fnOf [(.pair (.int .i64) (.pair (.int .i64) (.pair (.slice (.pair (.int .i64) (.pair (.int .i64) (.pair .bool (.pair (.arr 4 (.int .u64)) .unit))))) (.pair (.slice (.int .i64)) .unit)))), (.slice (.int .i64)), (.int .u8)] (.one (.slice (.int .i64))) p43) :=
  fn_pure hm0 hng0 hΓ43 (t := [(41, fnOf [(.pair (.int .i64) (.pair (.int .i64) (.pair (.slice (.pair (.int .i64) (.pair (.int .i64) (.pair .bool (.pair (.arr 4 (.int .u64)) .unit))))) (.pair (.slice (.int .i64)) .unit)))), (.slice (.int .i64))] (.one (.slice (.int .i64))) p41), (60, fnOf [(.arr 4 (.int .u64)), (.int .u8)] (.one .bool) p60)]) (all_cons s41 (all_cons s60 all_nil)) (ls := [EL43_3, EL43_9]) (cmds := [([43], 14, [.freeze 10])]) (leaves := []) (fr := []) (D := 1) (all_cons cL43_3 (all_cons cL43_9 all_nil)) (by kernel_rfl) (hfr := all_nil) fun x r h => by
    obtain ⟨x0, x1, x2, ⟨⟩⟩ := x
    refine Eq.trans ?_ h
    kernel_rfl

def Γ42 : TEnv := { Γ0 with imm := [18] }
theorem hΓ42 : Γ42.ok Try.prog = true := hΓ0

noncomputable def L42_3 : Nat → ((Unit × (List (Int)) × (Int) × (Int) × Unit) × ((List (Int)) × Unit)) → Option ((Unit × Unit) × ((List (Int)) × Unit))
  | 0, _ => none
  | n + 1, ((_, x6, x7, x8, ()), (y3, ())) =>
    if (decide (x8 < x7)) = true then
      if decide (0 ≤ x8 ∧ x8 < (x6.length : Int)) = true then
        if decide (0 ≤ (8 : Int)) = true then
          if decide (y3.length + ([(IntKind.u8.wrap (x6.getD x8.toNat 0)), (IntKind.u8.wrap ((x6.getD x8.toNat 0).fdiv (2 ^ (min (8 : Int).toNat (IntKind.i64.bits)))))] : List (Int)).length ≤ lim) = true then
            L42_3 n (((), x6, x7, (IntKind.i64.wrap (x8 + (1 : Int))), ()), ((y3 ++ ([(IntKind.u8.wrap (x6.getD x8.toNat 0)), (IntKind.u8.wrap ((x6.getD x8.toNat 0).fdiv (2 ^ (min (8 : Int).toNat (IntKind.i64.bits)))))] : List (Int))), ()))
          else
            none
        else
          none
      else
        none
    else
      some (((), ()), (y3, ()))

noncomputable def EL42_3 : LoopEnt := ⟨[42], 3, ⟨[.keep [3, 6, 7, 8] [19], .adopt 3 (.int .u8) 3], [3, 6, 7, 8], [3]⟩, [.ref 3, .kd (.slice (.int .i64)), .kd (.int .i64), .kd (.int .i64)], [.row (.int .u8)], [⟨(.exit 0), [3], [.ref 3], [3], [.row (.int .u8)]⟩], limit L42_3⟩

noncomputable def O42 : Orc := mkOrc [] [EL42_3] [] [] []

theorem cL42_3 : LoopCert Try.prog O42 Γ42 1 EL42_3 :=
  ⟨⟨42, 0, L42_3, rfl, by kernel_rfl, by decide, limit_fn, fun _ => rfl, fun m old x r h => by
    obtain ⟨⟨x3, x6, x7, x8, ⟨⟩⟩, y3, ⟨⟩⟩ := x
    refine Eq.trans ?_ h
    kernel_rfl⟩⟩

/-- emendate/dfa.key -/
noncomputable def p42 : ((List (Int)) × Unit) → Option (List UInt8)
  | (x0, ()) =>
    (limit L42_3 (((), x0, (x0.length : Int), (0 : Int), ()), (([] : List (Int)), ()))).bind fun r1 =>
    some (r1.2.1.map fun n => UInt8.ofNat n.toNat)

theorem s42 : SoundFn Try.prog 42 (fnOf [(.slice (.int .i64))] (.one .str) p42) :=
  fn_pure hm0 hng0 hΓ42 (t := []) all_nil (ls := [EL42_3]) (cmds := []) (leaves := []) (fr := []) (D := 1) (all_cons cL42_3 all_nil) (by kernel_rfl) (hfr := all_nil) fun x r h => by
    obtain ⟨x0, ⟨⟩⟩ := x
    refine Eq.trans ?_ h
    kernel_rfl

def Γ23 : TEnv := { Γ0 with imm := [10] }
theorem hΓ23 : Γ23.ok Try.prog = true := hΓ0

noncomputable def L23_3 : Nat → (((List UInt8) × Unit × (List (Int)) × (Int) × Unit) × (((Int) × (Int) × (List ((Int) × ((Int) × ((Bool) × ((List (Int)) × (Unit)))))) × (List (Int)) × Unit) × Unit)) → Option ((Unit × (List (Int)) × Unit) × (((Int) × (Int) × (List ((Int) × ((Int) × ((Bool) × ((List (Int)) × (Unit)))))) × (List (Int)) × Unit) × Unit))
  | 0, _ => none
  | n + 1, ((x1, _, x5, x6, ()), (y2, ())) =>
    if (decide (x6 < (x1.length : Int))) = true then
      if decide (0 ≤ x6 ∧ x6 < (x1.length : Int)) = true then
        (p49 ((y2.1, (y2.2.1, (y2.2.2.1, (y2.2.2.2.1, ())))), x5, ((x1.getD x6.toNat 0).toNat : Int), ())).bind fun c1 =>
        L23_3 n ((x1, (), c1, (IntKind.i64.wrap (x6 + (1 : Int))), ()), ((y2.1, y2.2.1, y2.2.2.1, y2.2.2.2.1, ()), ()))
      else
        none
    else
      some (((), x5, ()), ((y2.1, y2.2.1, y2.2.2.1, y2.2.2.2.1, ()), ()))

noncomputable def EL23_3 : LoopEnt := ⟨[23], 3, ⟨[], [1, 2, 5, 6], [2]⟩, [.kd .str, .ptr 2 0, .kd (.slice (.int .i64)), .kd (.int .i64)], [.box [.kd (.int .i64), .kd (.int .i64), .kd (.slice (.pair (.int .i64) (.pair (.int .i64) (.pair .bool (.pair (.arr 4 (.int .u64)) .unit))))), .kd (.slice (.int .i64))]], [⟨(.exit 0), [2, 5], [.ptr 2 0, .kd (.slice (.int .i64))], [2], [.box [.kd (.int .i64), .kd (.int .i64), .kd (.slice (.pair (.int .i64) (.pair (.int .i64) (.pair .bool (.pair (.arr 4 (.int .u64)) .unit))))), .kd (.slice (.int .i64))]]⟩], limit L23_3⟩

noncomputable def O23 : Orc := mkOrc [(48, fnOf [(.pair (.int .i64) (.pair (.int .i64) (.pair (.slice (.pair (.int .i64) (.pair (.int .i64) (.pair .bool (.pair (.arr 4 (.int .u64)) .unit))))) (.pair (.slice (.int .i64)) .unit)))), (.slice (.int .i64))] (.one (.slice (.int .i64))) p48), (49, fnOf [(.pair (.int .i64) (.pair (.int .i64) (.pair (.slice (.pair (.int .i64) (.pair (.int .i64) (.pair .bool (.pair (.arr 4 (.int .u64)) .unit))))) (.pair (.slice (.int .i64)) .unit)))), (.slice (.int .i64)), (.int .u8)] (.one (.slice (.int .i64))) p49), (52, fnOf [(.pair (.int .i64) (.pair (.int .i64) (.pair (.slice (.pair (.int .i64) (.pair (.int .i64) (.pair .bool (.pair (.arr 4 (.int .u64)) .unit))))) (.pair (.slice (.int .i64)) .unit)))), (.slice (.int .i64))] (.one (.int .i64)) p52)] [EL23_3] [] [] []

theorem cL23_3 : LoopCert Try.prog O23 Γ23 1 EL23_3 :=
  ⟨⟨23, 0, L23_3, rfl, by kernel_rfl, by decide, limit_fn, fun _ => rfl, fun m old x r h => by
    obtain ⟨⟨x1, x2, x5, x6, ⟨⟩⟩, y2, ⟨⟩⟩ := x
    refine Eq.trans ?_ h
    kernel_rfl⟩⟩

/-- emendate/emendateref09.Run -/
noncomputable def p23 : (((Int) × ((Int) × ((List ((Int) × ((Int) × ((Bool) × ((List (Int)) × (Unit)))))) × ((List (Int)) × (Unit))))) × (List UInt8) × Unit) → Option (Int)
  | (x0, x1, ()) =>
    (p48 ((x0.1, (x0.2.1, (x0.2.2.1, (x0.2.2.2.1, ())))), ([x0.2.1] : List (Int)), ())).bind fun c1 =>
    (limit L23_3 ((x1, (), c1, (0 : Int), ()), ((x0.1, x0.2.1, x0.2.2.1, x0.2.2.2.1, ()), ()))).bind fun r2 =>
    (p52 ((r2.2.1.1, (r2.2.1.2.1, (r2.2.1.2.2.1, (r2.2.1.2.2.2.1, ())))), r2.1.2.1, ())).bind fun c3 =>
    some c3

theorem s23 : SoundFn Try.prog 23 (fnOf [(.pair (.int .i64) (.pair (.int .i64) (.pair (.slice (.pair (.int .i64) (.pair (.int .i64) (.pair .bool (.pair (.arr 4 (.int .u64)) .unit))))) (.pair (.slice (.int .i64)) .unit)))), .str] (.one (.int .i64)) p23) :=
  fn_pure hm0 hng0 hΓ23 (t := [(48, fnOf [(.pair (.int .i64) (.pair (.int .i64) (.pair (.slice (.pair (.int .i64) (.pair (.int .i64) (.pair .bool (.pair (.arr 4 (.int .u64)) .unit))))) (.pair (.slice (.int .i64)) .unit)))), (.slice (.int .i64))] (.one (.slice (.int .i64))) p48), (49, fnOf [(.pair (.int .i64) (.pair (.int .i64) (.pair (.slice (.pair (.int .i64) (.pair (.int .i64) (.pair .bool (.pair (.arr 4 (.int .u64)) .unit))))) (.pair (.slice (.int .i64)) .unit)))), (.slice (.int .i64)), (.int .u8)] (.one (.slice (.int .i64))) p49), (52, fnOf [(.pair (.int .i64) (.pair (.int .i64) (.pair (.slice (.pair (.int .i64) (.pair (.int .i64) (.pair .bool (.pair (.arr 4 (.int .u64)) .unit))))) (.pair (.slice (.int .i64)) .unit)))), (.slice (.int .i64))] (.one (.int .i64)) p52)]) (all_cons s48 (all_cons s49 (all_cons s52 all_nil))) (ls := [EL23_3]) (cmds := []) (leaves := []) (fr := []) (D := 1) (all_cons cL23_3 all_nil) (by kernel_rfl) (hfr := all_nil) fun x r h => by
    obtain ⟨x0, x1, ⟨⟩⟩ := x
    refine Eq.trans ?_ h
    kernel_rfl

def Γ22 : TEnv := { Γ0 with imm := [41, 50, 81, 92, 96, 104, 113] }
theorem hΓ22 : Γ22.ok Try.prog = true := hΓ0

noncomputable def L22_5 : Nat → ((Unit × Unit × Unit × (Int) × Unit) × (((Int) × (Int) × (List ((Int) × ((Int) × ((Bool) × ((List (Int)) × (Unit)))))) × (List (Int)) × Unit) × ((List (Int)) × (List (List (Int))) × (List (Int)) × Unit) × (List (List (Int))) × Unit)) → Option ((Unit × Unit × Unit × Unit) × (((Int) × (Int) × (List ((Int) × ((Int) × ((Bool) × ((List (Int)) × (Unit)))))) × (List (Int)) × Unit) × ((List (Int)) × (List (List (Int))) × (List (Int)) × Unit) × (List (List (Int))) × Unit))
  | 0, _ => none
  | n + 1, ((_, _, _, x5, ()), (y1, y2, y4, ())) =>
    if (decide (x5 < (y1.2.2.1.length : Int))) = true then
      if decide (0 ≤ x5 ∧ x5 < (y1.2.2.1.length : Int)) = true then
        if (!(y1.2.2.1.getD x5.toNat (0, (0, (false, ((List.replicate 4 0), ()))))).2.2.1) = true then
          if decide (0 ≤ x5 ∧ x5 < (y1.2.2.1.length : Int)) = true then
            if decide (y4.length + ([[((y1.2.2.1.getD x5.toNat (0, (0, (false, ((List.replicate 4 0), ()))))).2.2.2.1.getD 0 0), ((y1.2.2.1.getD x5.toNat (0, (0, (false, ((List.replicate 4 0), ()))))).2.2.2.1.getD 1 0), ((y1.2.2.1.getD x5.toNat (0, (0, (false, ((List.replicate 4 0), ()))))).2.2.2.1.getD 2 0), ((y1.2.2.1.getD x5.toNat (0, (0, (false, ((List.replicate 4 0), ()))))).2.2.2.1.getD 3 0)]] : List (List (Int))).length ≤ lim) = true then
              L22_5 n (((), (), (), (IntKind.i64.wrap (x5 + (1 : Int))), ()), ((y1.1, y1.2.1, y1.2.2.1, y1.2.2.2.1, ()), (y2.1, y2.2.1, y2.2.2.1, ()), (y4 ++ ([[((y1.2.2.1.getD x5.toNat (0, (0, (false, ((List.replicate 4 0), ()))))).2.2.2.1.getD 0 0), ((y1.2.2.1.getD x5.toNat (0, (0, (false, ((List.replicate 4 0), ()))))).2.2.2.1.getD 1 0), ((y1.2.2.1.getD x5.toNat (0, (0, (false, ((List.replicate 4 0), ()))))).2.2.2.1.getD 2 0), ((y1.2.2.1.getD x5.toNat (0, (0, (false, ((List.replicate 4 0), ()))))).2.2.2.1.getD 3 0)]] : List (List (Int)))), ()))
            else
              none
          else
            none
        else
          L22_5 n (((), (), (), (IntKind.i64.wrap (x5 + (1 : Int))), ()), ((y1.1, y1.2.1, y1.2.2.1, y1.2.2.2.1, ()), (y2.1, y2.2.1, y2.2.2.1, ()), y4, ()))
      else
        none
    else
      some (((), (), (), ()), ((y1.1, y1.2.1, y1.2.2.1, y1.2.2.2.1, ()), (y2.1, y2.2.1, y2.2.2.1, ()), y4, ()))

noncomputable def EL22_5 : LoopEnt := ⟨[22], 5, ⟨[.keep [1, 2, 4, 5] [1, 2, 4, 42], .adopt 4 (.arr 4 (.int .u64)) 4], [1, 2, 4, 5], [1, 2, 4]⟩, [.ptr 1 0, .ptr 2 0, .ref 4, .kd (.int .i64)], [.box [.kd (.int .i64), .kd (.int .i64), .kd (.slice (.pair (.int .i64) (.pair (.int .i64) (.pair .bool (.pair (.arr 4 (.int .u64)) .unit))))), .kd (.slice (.int .i64))], .box [.kd (.slice (.int .i64)), .kd (.slice (.slice (.int .i64))), .kd (.slice (.int .i64))], .row (.arr 4 (.int .u64))], [⟨(.exit 0), [1, 2, 4], [.ptr 1 0, .ptr 2 0, .ref 4], [1, 2, 4], [.box [.kd (.int .i64), .kd (.int .i64), .kd (.slice (.pair (.int .i64) (.pair (.int .i64) (.pair .bool (.pair (.arr 4 (.int .u64)) .unit))))), .kd (.slice (.int .i64))], .box [.kd (.slice (.int .i64)), .kd (.slice (.slice (.int .i64))), .kd (.slice (.int .i64))], .row (.arr 4 (.int .u64))]⟩], limit L22_5⟩

noncomputable def L63_46_22_2 : Nat → ((Unit × (Int) × (Int) × (Int) × Unit) × (((Int) × (Int) × (List ((Int) × ((Int) × ((Bool) × ((List (Int)) × (Unit)))))) × (List (Int)) × Unit) × ((List (Int)) × (List (List (Int))) × (List (Int)) × Unit) × (List (List (Int))) × (List (Int)) × Unit)) → Option ((((Bool) × Unit) × (((Int) × (Int) × (List ((Int) × ((Int) × ((Bool) × ((List (Int)) × (Unit)))))) × (List (Int)) × Unit) × ((List (Int)) × (List (List (Int))) × (List (Int)) × Unit) × (List (List (Int))) × (List (Int)) × Unit)) ⊕ ((Unit) × (((Int) × (Int) × (List ((Int) × ((Int) × ((Bool) × ((List (Int)) × (Unit)))))) × (List (Int)) × Unit) × ((List (Int)) × (List (List (Int))) × (List (Int)) × Unit) × (List (List (Int))) × (List (Int)) × Unit)))
  | 0, _ => none
  | n + 1, ((_, x1, x2, x7, ()), (y1, y2, y4, y1007, ())) =>
    if (decide (x7 < (y4.length : Int))) = true then
      if decide (0 ≤ x7 ∧ x7 < (y4.length : Int)) = true then
        (p65 ([((y4.getD x7.toNat (List.replicate 4 0)).getD 0 0), ((y4.getD x7.toNat (List.replicate 4 0)).getD 1 0), ((y4.getD x7.toNat (List.replicate 4 0)).getD 2 0), ((y4.getD x7.toNat (List.replicate 4 0)).getD 3 0)], x1, ())).bind fun c1 =>
        if decide (0 ≤ x7 ∧ x7 < (y4.length : Int)) = true then
          (p65 ([((y4.getD x7.toNat (List.replicate 4 0)).getD 0 0), ((y4.getD x7.toNat (List.replicate 4 0)).getD 1 0), ((y4.getD x7.toNat (List.replicate 4 0)).getD 2 0), ((y4.getD x7.toNat (List.replicate 4 0)).getD 3 0)], x2, ())).bind fun c2 =>
          if (!(c1 == c2)) = true then
            some (.inl ((false, ()), ((y1.1, y1.2.1, y1.2.2.1, y1.2.2.2.1, ()), (y2.1, y2.2.1, y2.2.2.1, ()), y4, y1007, ())))
          else
            L63_46_22_2 n (((), x1, x2, (IntKind.i64.wrap (x7 + (1 : Int))), ()), ((y1.1, y1.2.1, y1.2.2.1, y1.2.2.2.1, ()), (y2.1, y2.2.1, y2.2.2.1, ()), y4, y1007, ()))
        else
          none
      else
        none
    else
      some (.inr ((), ((y1.1, y1.2.1, y1.2.2.1, y1.2.2.2.1, ()), (y2.1, y2.2.1, y2.2.2.1, ()), y4, y1007, ())))

noncomputable def EL63_46_22_2 : LoopEnt := ⟨[63, 46, 22], 2, ⟨[], [0, 1, 2, 7], [1, 2, 4, 1007]⟩, [.ref 4, .kd (.int .u8), .kd (.int .u8), .kd (.int .i64)], [.box [.kd (.int .i64), .kd (.int .i64), .kd (.slice (.pair (.int .i64) (.pair (.int .i64) (.pair .bool (.pair (.arr 4 (.int .u64)) .unit))))), .kd (.slice (.int .i64))], .box [.kd (.slice (.int .i64)), .kd (.slice (.slice (.int .i64))), .kd (.slice (.int .i64))], .row (.arr 4 (.int .u64)), .row (.int .i64)], [⟨.ret, [6], [.kd .bool], [1, 2, 4, 1007], [.box [.kd (.int .i64), .kd (.int .i64), .kd (.slice (.pair (.int .i64) (.pair (.int .i64) (.pair .bool (.pair (.arr 4 (.int .u64)) .unit))))), .kd (.slice (.int .i64))], .box [.kd (.slice (.int .i64)), .kd (.slice (.slice (.int .i64))), .kd (.slice (.int .i64))], .row (.arr 4 (.int .u64)), .row (.int .i64)]⟩, ⟨(.exit 0), [], [], [1, 2, 4, 1007], [.box [.kd (.int .i64), .kd (.int .i64), .kd (.slice (.pair (.int .i64) (.pair (.int .i64) (.pair .bool (.pair (.arr 4 (.int .u64)) .unit))))), .kd (.slice (.int .i64))], .box [.kd (.slice (.int .i64)), .kd (.slice (.slice (.int .i64))), .kd (.slice (.int .i64))], .row (.arr 4 (.int .u64)), .row (.int .i64)]⟩], limit L63_46_22_2⟩

noncomputable def L46_22_8 : Nat → ((Unit × Unit × (Int) × (Int) × (Int) × Unit) × (((Int) × (Int) × (List ((Int) × ((Int) × ((Bool) × ((List (Int)) × (Unit)))))) × (List (Int)) × Unit) × ((List (Int)) × (List (List (Int))) × (List (Int)) × Unit) × (List (List (Int))) × (List (Int)) × Unit)) → Option ((Unit × Unit × (Int) × (Int) × Unit) × (((Int) × (Int) × (List ((Int) × ((Int) × ((Bool) × ((List (Int)) × (Unit)))))) × (List (Int)) × Unit) × ((List (Int)) × (List (List (Int))) × (List (Int)) × Unit) × (List (List (Int))) × (List (Int)) × Unit))
  | 0, _ => none
  | n + 1, ((_, _, x4, x5, x6, ()), (y1, y2, y4, y1007, ())) =>
    if (decide (x6 < x5)) = true then
      (limit L63_46_22_2 (((), (IntKind.u8.wrap x6), (IntKind.u8.wrap x5), (0 : Int), ()), ((y1.1, y1.2.1, y1.2.2.1, y1.2.2.2.1, ()), (y2.1, y2.2.1, y2.2.2.1, ()), y4, y1007, ()))).bind (Sum.elim (fun r1 =>
        if r1.1.1 = true then
          if decide (0 ≤ x6 ∧ x6 < (r1.2.2.2.2.1.length : Int)) = true then
            if decide (0 ≤ x5 ∧ x5 < (r1.2.2.2.2.1.length : Int)) = true then
              some (((), (), x4, x5, ()), ((r1.2.1.1, r1.2.1.2.1, r1.2.1.2.2.1, r1.2.1.2.2.2.1, ()), (r1.2.2.1.1, r1.2.2.1.2.1, r1.2.2.1.2.2.1, ()), r1.2.2.2.1, (r1.2.2.2.2.1.set x5.toNat (r1.2.2.2.2.1.getD x6.toNat 0)), ()))
            else
              none
          else
            none
        else
          L46_22_8 n (((), (), x4, x5, (IntKind.i64.wrap (x6 + (1 : Int))), ()), ((r1.2.1.1, r1.2.1.2.1, r1.2.1.2.2.1, r1.2.1.2.2.2.1, ()), (r1.2.2.1.1, r1.2.2.1.2.1, r1.2.2.1.2.2.1, ()), r1.2.2.2.1, r1.2.2.2.2.1, ()))) (fun r1 =>
        if decide (0 ≤ x6 ∧ x6 < (r1.2.2.2.2.1.length : Int)) = true then
          if decide (0 ≤ x5 ∧ x5 < (r1.2.2.2.2.1.length : Int)) = true then
            some (((), (), x4, x5, ()), ((r1.2.1.1, r1.2.1.2.1, r1.2.1.2.2.1, r1.2.1.2.2.2.1, ()), (r1.2.2.1.1, r1.2.2.1.2.1, r1.2.2.1.2.2.1, ()), r1.2.2.2.1, (r1.2.2.2.2.1.set x5.toNat (r1.2.2.2.2.1.getD x6.toNat 0)), ()))
          else
            none
        else
          none))
    else
      some (((), (), x4, x5, ()), ((y1.1, y1.2.1, y1.2.2.1, y1.2.2.2.1, ()), (y2.1, y2.2.1, y2.2.2.1, ()), y4, y1007, ()))

noncomputable def EL46_22_8 : LoopEnt := ⟨[46, 22], 8, ⟨[], [0, 3, 4, 5, 6], [1, 2, 4, 1007]⟩, [.ref 4, .ref 1007, .kd (.int .i64), .kd (.int .i64), .kd (.int .i64)], [.box [.kd (.int .i64), .kd (.int .i64), .kd (.slice (.pair (.int .i64) (.pair (.int .i64) (.pair .bool (.pair (.arr 4 (.int .u64)) .unit))))), .kd (.slice (.int .i64))], .box [.kd (.slice (.int .i64)), .kd (.slice (.slice (.int .i64))), .kd (.slice (.int .i64))], .row (.arr 4 (.int .u64)), .row (.int .i64)], [⟨(.exit 2), [0, 3, 4, 5], [.ref 4, .ref 1007, .kd (.int .i64), .kd (.int .i64)], [1, 2, 4, 1007], [.box [.kd (.int .i64), .kd (.int .i64), .kd (.slice (.pair (.int .i64) (.pair (.int .i64) (.pair .bool (.pair (.arr 4 (.int .u64)) .unit))))), .kd (.slice (.int .i64))], .box [.kd (.slice (.int .i64)), .kd (.slice (.slice (.int .i64))), .kd (.slice (.int .i64))], .row (.arr 4 (.int .u64)), .row (.int .i64)]⟩], limit L46_22_8⟩

noncomputable def L46_22_4 : Nat → ((Unit × Unit × (Int) × (Int) × Unit) × (((Int) × (Int) × (List ((Int) × ((Int) × ((Bool) × ((List (Int)) × (Unit)))))) × (List (Int)) × Unit) × ((List (Int)) × (List (List (Int))) × (List (Int)) × Unit) × (List (List (Int))) × (List (Int)) × Unit)) → Option ((Unit × Unit) × (((Int) × (Int) × (List ((Int) × ((Int) × ((Bool) × ((List (Int)) × (Unit)))))) × (List (Int)) × Unit) × ((List (Int)) × (List (List (Int))) × (List (Int)) × Unit) × (List (List (Int))) × (List (Int)) × Unit))
  | 0, _ => none
  | n + 1, ((_, _, x4, x5, ()), (y1, y2, y4, y1007, ())) =>
    if (decide (x5 < (256 : Int))) = true then
      if decide (0 ≤ x5 ∧ x5 < (y1007.length : Int)) = true then
        (limit L46_22_8 (((), (), x4, x5, (0 : Int), ()), ((y1.1, y1.2.1, y1.2.2.1, y1.2.2.2.1, ()), (y2.1, y2.2.1, y2.2.2.1, ()), y4, (y1007.set x5.toNat x4), ()))).bind fun r1 =>
        if decide (0 ≤ r1.1.2.2.2.1 ∧ r1.1.2.2.2.1 < (r1.2.2.2.2.1.length : Int)) = true then
          if (decide ((r1.2.2.2.2.1.getD r1.1.2.2.2.1.toNat 0) = r1.1.2.2.1)) = true then
            L46_22_4 n (((), (), (IntKind.i64.wrap (r1.1.2.2.1 + (1 : Int))), (IntKind.i64.wrap (r1.1.2.2.2.1 + (1 : Int))), ()), ((r1.2.1.1, r1.2.1.2.1, r1.2.1.2.2.1, r1.2.1.2.2.2.1, ()), (r1.2.2.1.1, r1.2.2.1.2.1, r1.2.2.1.2.2.1, ()), r1.2.2.2.1, r1.2.2.2.2.1, ()))
          else
            L46_22_4 n (((), (), r1.1.2.2.1, (IntKind.i64.wrap (r1.1.2.2.2.1 + (1 : Int))), ()), ((r1.2.1.1, r1.2.1.2.1, r1.2.1.2.2.1, r1.2.1.2.2.2.1, ()), (r1.2.2.1.1, r1.2.2.1.2.1, r1.2.2.1.2.2.1, ()), r1.2.2.2.1, r1.2.2.2.2.1, ()))
        else
          none
      else
        none
    else
      some (((), ()), ((y1.1, y1.2.1, y1.2.2.1, y1.2.2.2.1, ()), (y2.1, y2.2.1, y2.2.2.1, ()), y4, y1007, ()))

noncomputable def EL46_22_4 : LoopEnt := ⟨[46, 22], 4, ⟨[], [0, 3, 4, 5], [1, 2, 4, 1007]⟩, [.ref 4, .ref 1007, .kd (.int .i64), .kd (.int .i64)], [.box [.kd (.int .i64), .kd (.int .i64), .kd (.slice (.pair (.int .i64) (.pair (.int .i64) (.pair .bool (.pair (.arr 4 (.int .u64)) .unit))))), .kd (.slice (.int .i64))], .box [.kd (.slice (.int .i64)), .kd (.slice (.slice (.int .i64))), .kd (.slice (.int .i64))], .row (.arr 4 (.int .u64)), .row (.int .i64)], [⟨(.exit 0), [3], [.ref 1007], [1, 2, 4, 1007], [.box [.kd (.int .i64), .kd (.int .i64), .kd (.slice (.pair (.int .i64) (.pair (.int .i64) (.pair .bool (.pair (.arr 4 (.int .u64)) .unit))))), .kd (.slice (.int .i64))], .box [.kd (.slice (.int .i64)), .kd (.slice (.slice (.int .i64))), .kd (.slice (.int .i64))], .row (.arr 4 (.int .u64)), .row (.int .i64)]⟩], limit L46_22_4⟩

noncomputable def L50_22_2 : Nat → ((Unit × (List (Int)) × (Int) × Unit) × (((Int) × (Int) × (List ((Int) × ((Int) × ((Bool) × ((List (Int)) × (Unit)))))) × (List (Int)) × Unit) × ((List (Int)) × (List (List (Int))) × (List (Int)) × Unit) × (List (List (Int))) × (List (List (Int))) × (List (Int)) × (List (Int)) × Unit)) → Option ((((Int) × Unit) × (((Int) × (Int) × (List ((Int) × ((Int) × ((Bool) × ((List (Int)) × (Unit)))))) × (List (Int)) × Unit) × ((List (Int)) × (List (List (Int))) × (List (Int)) × Unit) × (List (List (Int))) × (List (List (Int))) × (List (Int)) × (List (Int)) × Unit)) ⊕ ((Unit) × (((Int) × (Int) × (List ((Int) × ((Int) × ((Bool) × ((List (Int)) × (Unit)))))) × (List (Int)) × Unit) × ((List (Int)) × (List (List (Int))) × (List (Int)) × Unit) × (List (List (Int))) × (List (List (Int))) × (List (Int)) × (List (Int)) × Unit)))
  | 0, _ => none
  | n + 1, ((_, x1, x5, ()), (y1, y2, y8, y9, y10, y12, ())) =>
    if (decide (x5 < (y8.length : Int))) = true then
      if decide (0 ≤ x5 ∧ x5 < (y8.length : Int)) = true then
        (p19 ((y8.getD x5.toNat []), x1, ())).bind fun c1 =>
        if c1 = true then
          some (.inl ((x5, ()), ((y1.1, y1.2.1, y1.2.2.1, y1.2.2.2.1, ()), (y2.1, y2.2.1, y2.2.2.1, ()), y8, y9, y10, y12, ())))
        else
          L50_22_2 n (((), x1, (IntKind.i64.wrap (x5 + (1 : Int))), ()), ((y1.1, y1.2.1, y1.2.2.1, y1.2.2.2.1, ()), (y2.1, y2.2.1, y2.2.2.1, ()), y8, y9, y10, y12, ()))
      else
        none
    else
      some (.inr ((), ((y1.1, y1.2.1, y1.2.2.1, y1.2.2.2.1, ()), (y2.1, y2.2.1, y2.2.2.1, ()), y8, y9, y10, y12, ())))

noncomputable def EL50_22_2 : LoopEnt := ⟨[50, 22], 2, ⟨[], [0, 1, 5], [1, 2, 8, 9, 10, 12]⟩, [.ref 8, .kd (.slice (.int .i64)), .kd (.int .i64)], [.box [.kd (.int .i64), .kd (.int .i64), .kd (.slice (.pair (.int .i64) (.pair (.int .i64) (.pair .bool (.pair (.arr 4 (.int .u64)) .unit))))), .kd (.slice (.int .i64))], .box [.kd (.slice (.int .i64)), .kd (.slice (.slice (.int .i64))), .kd (.slice (.int .i64))], .row (.slice (.int .i64)), .row (.slice (.int .i64)), .row (.int .i64), .row (.int .i64)], [⟨.ret, [4], [.kd (.int .i64)], [1, 2, 8, 9, 10, 12], [.box [.kd (.int .i64), .kd (.int .i64), .kd (.slice (.pair (.int .i64) (.pair (.int .i64) (.pair .bool (.pair (.arr 4 (.int .u64)) .unit))))), .kd (.slice (.int .i64))], .box [.kd (.slice (.int .i64)), .kd (.slice (.slice (.int .i64))), .kd (.slice (.int .i64))], .row (.slice (.int .i64)), .row (.slice (.int .i64)), .row (.int .i64), .row (.int .i64)]⟩, ⟨(.exit 0), [], [], [1, 2, 8, 9, 10, 12], [.box [.kd (.int .i64), .kd (.int .i64), .kd (.slice (.pair (.int .i64) (.pair (.int .i64) (.pair .bool (.pair (.arr 4 (.int .u64)) .unit))))), .kd (.slice (.int .i64))], .box [.kd (.slice (.int .i64)), .kd (.slice (.slice (.int .i64))), .kd (.slice (.int .i64))], .row (.slice (.int .i64)), .row (.slice (.int .i64)), .row (.int .i64), .row (.int .i64)]⟩], limit L50_22_2⟩

noncomputable def L22_19 : Nat → ((Unit × Unit × (List (Int)) × (List (Int)) × Unit × Unit × Unit × (Int) × Unit × (Int) × Unit) × (((Int) × (Int) × (List ((Int) × ((Int) × ((Bool) × ((List (Int)) × (Unit)))))) × (List (Int)) × Unit) × ((List (Int)) × (List (List (Int))) × (List (Int)) × Unit) × (List (List (Int))) × (List (List (Int))) × (List (Int)) × (List (Int)) × Unit)) → Option ((Unit × Unit × (List (Int)) × (List (Int)) × Unit × Unit × Unit × (Int) × Unit × Unit) × (((Int) × (Int) × (List ((Int) × ((Int) × ((Bool) × ((List (Int)) × (Unit)))))) × (List (Int)) × Unit) × ((List (Int)) × (List (List (Int))) × (List (Int)) × Unit) × (List (List (Int))) × (List (List (Int))) × (List (Int)) × (List (Int)) × Unit))
  | 0, _ => none
  | n + 1, ((_, _, x6, x7, _, _, _, x11, _, x13, ()), (y1, y2, y8, y9, y10, y12, ())) =>
    if (decide (x13 < (x7.length : Int))) = true then
      if decide (0 ≤ x11 ∧ x11 < (y8.length : Int)) = true then
        if decide (0 ≤ x13 ∧ x13 < (x7.length : Int)) = true then
          (p49 ((y1.1, (y1.2.1, (y1.2.2.1, (y1.2.2.2.1, ())))), (y8.getD x11.toNat []), (x7.getD x13.toNat 0), ())).bind fun c1 =>
          (p48 ((y1.1, (y1.2.1, (y1.2.2.1, (y1.2.2.2.1, ())))), c1, ())).bind fun c2 =>
          if (decide ((c2.length : Int) = (0 : Int))) = true then
            if decide (y12.length + ([(-1 : Int)] : List (Int)).length ≤ lim) = true then
              L22_19 n (((), (), x6, x7, (), (), (), x11, (), (IntKind.i64.wrap (x13 + (1 : Int))), ()), ((y1.1, y1.2.1, y1.2.2.1, y1.2.2.2.1, ()), (y2.1, y2.2.1, y2.2.2.1, ()), y8, y9, y10, (y12 ++ ([(-1 : Int)] : List (Int))), ()))
            else
              none
          else
            (limit L50_22_2 (((), c2, (0 : Int), ()), ((y1.1, y1.2.1, y1.2.2.1, y1.2.2.2.1, ()), (y2.1, y2.2.1, y2.2.2.1, ()), y8, y9, y10, y12, ()))).bind (Sum.elim (fun r3 =>
              if (decide (r3.1.1 < (0 : Int))) = true then
                if decide (r3.2.2.2.1.length + ([c2] : List (List (Int))).length ≤ lim) = true then
                  if decide (r3.2.2.2.2.2.2.1.length + ([(r3.2.2.2.1.length : Int)] : List (Int)).length ≤ lim) = true then
                    L22_19 n (((), (), x6, x7, (), (), (), x11, (), (IntKind.i64.wrap (x13 + (1 : Int))), ()), ((r3.2.1.1, r3.2.1.2.1, r3.2.1.2.2.1, r3.2.1.2.2.2.1, ()), (r3.2.2.1.1, r3.2.2.1.2.1, r3.2.2.1.2.2.1, ()), (r3.2.2.2.1 ++ ([c2] : List (List (Int)))), r3.2.2.2.2.1, r3.2.2.2.2.2.1, (r3.2.2.2.2.2.2.1 ++ ([(r3.2.2.2.1.length : Int)] : List (Int))), ()))
                  else
                    none
                else
                  none
              else
                if decide (r3.2.2.2.2.2.2.1.length + ([r3.1.1] : List (Int)).length ≤ lim) = true then
                  L22_19 n (((), (), x6, x7, (), (), (), x11, (), (IntKind.i64.wrap (x13 + (1 : Int))), ()), ((r3.2.1.1, r3.2.1.2.1, r3.2.1.2.2.1, r3.2.1.2.2.2.1, ()), (r3.2.2.1.1, r3.2.2.1.2.1, r3.2.2.1.2.2.1, ()), r3.2.2.2.1, r3.2.2.2.2.1, r3.2.2.2.2.2.1, (r3.2.2.2.2.2.2.1 ++ ([r3.1.1] : List (Int))), ()))
                else
                  none) (fun r3 =>
              if (decide ((-1 : Int) < (0 : Int))) = true then
                if decide (r3.2.2.2.1.length + ([c2] : List (List (Int))).length ≤ lim) = true then
                  if decide (r3.2.2.2.2.2.2.1.length + ([(r3.2.2.2.1.length : Int)] : List (Int)).length ≤ lim) = true then
                    L22_19 n (((), (), x6, x7, (), (), (), x11, (), (IntKind.i64.wrap (x13 + (1 : Int))), ()), ((r3.2.1.1, r3.2.1.2.1, r3.2.1.2.2.1, r3.2.1.2.2.2.1, ()), (r3.2.2.1.1, r3.2.2.1.2.1, r3.2.2.1.2.2.1, ()), (r3.2.2.2.1 ++ ([c2] : List (List (Int)))), r3.2.2.2.2.1, r3.2.2.2.2.2.1, (r3.2.2.2.2.2.2.1 ++ ([(r3.2.2.2.1.length : Int)] : List (Int))), ()))
                  else
                    none
                else
                  none
              else
                if decide (r3.2.2.2.2.2.2.1.length + ([(-1 : Int)] : List (Int)).length ≤ lim) = true then
                  L22_19 n (((), (), x6, x7, (), (), (), x11, (), (IntKind.i64.wrap (x13 + (1 : Int))), ()), ((r3.2.1.1, r3.2.1.2.1, r3.2.1.2.2.1, r3.2.1.2.2.2.1, ()), (r3.2.2.1.1, r3.2.2.1.2.1, r3.2.2.1.2.2.1, ()), r3.2.2.2.1, r3.2.2.2.2.1, r3.2.2.2.2.2.1, (r3.2.2.2.2.2.2.1 ++ ([(-1 : Int)] : List (Int))), ()))
                else
                  none))
        else
          none
      else
        none
    else
      some (((), (), x6, x7, (), (), (), x11, (), ()), ((y1.1, y1.2.1, y1.2.2.1, y1.2.2.2.1, ()), (y2.1, y2.2.1, y2.2.2.1, ()), y8, y9, y10, y12, ()))

noncomputable def EL22_19 : LoopEnt := ⟨[22], 19, ⟨[.keep [1, 2, 6, 7, 8, 9, 10, 11, 12, 13] [1, 2, 8, 9, 10, 82, 93, 97], .adopt 12 (.int .i64) 12, .adopt 8 (.slice (.int .i64)) 8], [1, 2, 6, 7, 8, 9, 10, 11, 12, 13], [1, 2, 8, 9, 10, 12]⟩, [.ptr 1 0, .ptr 2 0, .kd (.slice (.int .i64)), .kd (.slice (.int .u8)), .ref 8, .ref 9, .ref 10, .kd (.int .i64), .ref 12, .kd (.int .i64)], [.box [.kd (.int .i64), .kd (.int .i64), .kd (.slice (.pair (.int .i64) (.pair (.int .i64) (.pair .bool (.pair (.arr 4 (.int .u64)) .unit))))), .kd (.slice (.int .i64))], .box [.kd (.slice (.int .i64)), .kd (.slice (.slice (.int .i64))), .kd (.slice (.int .i64))], .row (.slice (.int .i64)), .row (.slice (.int .i64)), .row (.int .i64), .row (.int .i64)], [⟨(.exit 4), [1, 2, 6, 7, 8, 9, 10, 11, 12], [.ptr 1 0, .ptr 2 0, .kd (.slice (.int .i64)), .kd (.slice (.int .u8)), .ref 8, .ref 9, .ref 10, .kd (.int .i64), .ref 12], [1, 2, 8, 9, 10, 12], [.box [.kd (.int .i64), .kd (.int .i64), .kd (.slice (.pair (.int .i64) (.pair (.int .i64) (.pair .bool (.pair (.arr 4 (.int .u64)) .unit))))), .kd (.slice (.int .i64))], .box [.kd (.slice (.int .i64)), .kd (.slice (.slice (.int .i64))), .kd (.slice (.int .i64))], .row (.slice (.int .i64)), .row (.slice (.int .i64)), .row (.int .i64), .row (.int .i64)]⟩], limit L22_19⟩

noncomputable def L22_15 : Nat → ((Unit × Unit × (List (Int)) × (List (Int)) × Unit × Unit × Unit × (Int) × Unit) × (((Int) × (Int) × (List ((Int) × ((Int) × ((Bool) × ((List (Int)) × (Unit)))))) × (List (Int)) × Unit) × ((List (Int)) × (List (List (Int))) × (List (Int)) × Unit) × (List (List (Int))) × (List (List (Int))) × (List (Int)) × Unit)) → Option (((Unit × (Int) × Unit) × (((List (Int)) × (List (List (Int))) × (List (Int)) × Unit) × Unit)) ⊕ ((Unit × (List (Int)) × Unit × Unit × Unit) × (((List (Int)) × (List (List (Int))) × (List (Int)) × Unit) × (List (List (Int))) × (List (Int)) × Unit)))
  | 0, _ => none
  | n + 1, ((_, _, x6, x7, _, _, _, x11, ()), (y1, y2, y8, y9, y10, ())) =>
    if (decide (x11 < (y8.length : Int))) = true then
      (limit L22_19 (((), (), x6, x7, (), (), (), x11, (), (0 : Int), ()), ((y1.1, y1.2.1, y1.2.2.1, y1.2.2.2.1, ()), (y2.1, y2.2.1, y2.2.2.1, ()), y8, y9, y10, ([] : List (Int)), ()))).bind fun r1 =>
      if (decide ((r1.2.2.2.1.length : Int) > (500 : Int))) = true then
        some (.inl (((), (11 : Int), ()), ((([] : List (Int)), ([] : List (List (Int))), ([] : List (Int)), ()), ())))
      else
        if decide (r1.2.2.2.2.1.length + ([r1.2.2.2.2.2.2.1] : List (List (Int))).length ≤ lim) = true then
          if decide (0 ≤ r1.1.2.2.2.2.2.2.2.1 ∧ r1.1.2.2.2.2.2.2.2.1 < (r1.2.2.2.1.length : Int)) = true then
            (p51 ((r1.2.1.1, (r1.2.1.2.1, (r1.2.1.2.2.1, (r1.2.1.2.2.2.1, ())))), (r1.2.2.2.1.getD r1.1.2.2.2.2.2.2.2.1.toNat []), ())).bind fun c2 =>
            if decide (r1.2.2.2.2.2.1.length + ([c2] : List (Int)).length ≤ lim) = true then
              L22_15 n (((), (), r1.1.2.2.1, r1.1.2.2.2.1, (), (), (), (IntKind.i64.wrap (r1.1.2.2.2.2.2.2.2.1 + (1 : Int))), ()), ((r1.2.1.1, r1.2.1.2.1, r1.2.1.2.2.1, r1.2.1.2.2.2.1, ()), (r1.2.2.1.1, r1.2.2.1.2.1, r1.2.2.1.2.2.1, ()), r1.2.2.2.1, (r1.2.2.2.2.1 ++ ([r1.2.2.2.2.2.2.1] : List (List (Int)))), (r1.2.2.2.2.2.1 ++ ([c2] : List (Int))), ()))
            else
              none
          else
            none
        else
          none
    else
      some (.inr (((), x6, (), (), ()), ((y2.1, y2.2.1, y2.2.2.1, ()), y9, y10, ())))

noncomputable def EL22_15 : LoopEnt := ⟨[22], 15, ⟨[.keep [1, 2, 6, 7, 8, 9, 10, 11] [1, 2, 8, 52, 105, 114], .adopt 9 (.slice (.int .i64)) 9, .adopt 10 (.int .i64) 10, .adopt 8 (.slice (.int .i64)) 8], [1, 2, 6, 7, 8, 9, 10, 11], [1, 2, 8, 9, 10]⟩, [.ptr 1 0, .ptr 2 0, .kd (.slice (.int .i64)), .kd (.slice (.int .u8)), .ref 8, .ref 9, .ref 10, .kd (.int .i64)], [.box [.kd (.int .i64), .kd (.int .i64), .kd (.slice (.pair (.int .i64) (.pair (.int .i64) (.pair .bool (.pair (.arr 4 (.int .u64)) .unit))))), .kd (.slice (.int .i64))], .box [.kd (.slice (.int .i64)), .kd (.slice (.slice (.int .i64))), .kd (.slice (.int .i64))], .row (.slice (.int .i64)), .row (.slice (.int .i64)), .row (.int .i64)], [⟨.ret, [2, 3], [.ptr 2 0, .kd (.int .i64)], [2], [.box [.kd (.slice (.int .i64)), .kd (.slice (.slice (.int .i64))), .kd (.slice (.int .i64))]]⟩, ⟨(.exit 2), [2, 6, 9, 10], [.ptr 2 0, .kd (.slice (.int .i64)), .ref 9, .ref 10], [2, 9, 10], [.box [.kd (.slice (.int .i64)), .kd (.slice (.slice (.int .i64))), .kd (.slice (.int .i64))], .row (.slice (.int .i64)), .row (.int .i64)]⟩], limit L22_15⟩

noncomputable def O22 : Orc := mkOrc [(19, fnOf [(.slice (.int .i64)), (.slice (.int .i64))] (.one .bool) p19), (45, fnOf [(.pair (.int .i64) (.pair (.int .i64) (.pair (.slice (.pair (.int .i64) (.pair (.int .i64) (.pair .bool (.pair (.arr 4 (.int .u64)) .unit))))) (.pair (.slice (.int .i64)) .unit))))] (.one .bool) p45), (47, fnOf [(.slice (.int .i64))] (.one (.slice (.int .u8))) p47), (48, fnOf [(.pair (.int .i64) (.pair (.int .i64) (.pair (.slice (.pair (.int .i64) (.pair (.int .i64) (.pair .bool (.pair (.arr 4 (.int .u64)) .unit))))) (.pair (.slice (.int .i64)) .unit)))), (.slice (.int .i64))] (.one (.slice (.int .i64))) p48), (49, fnOf [(.pair (.int .i64) (.pair (.int .i64) (.pair (.slice (.pair (.int .i64) (.pair (.int .i64) (.pair .bool (.pair (.arr 4 (.int .u64)) .unit))))) (.pair (.slice (.int .i64)) .unit)))), (.slice (.int .i64)), (.int .u8)] (.one (.slice (.int .i64))) p49), (51, fnOf [(.pair (.int .i64) (.pair (.int .i64) (.pair (.slice (.pair (.int .i64) (.pair (.int .i64) (.pair .bool (.pair (.arr 4 (.int .u64)) .unit))))) (.pair (.slice (.int .i64)) .unit)))), (.slice (.int .i64))] (.one (.int .i64)) p51), (65, fnOf [(.arr 4 (.int .u64)), (.int .u8)] (.one .bool) p65)] [EL22_5, EL63_46_22_2, EL46_22_8, EL46_22_4, EL50_22_2, EL22_19, EL22_15] [([22], 31, [.freeze 12])] [] []

theorem cL22_5 : LoopCert Try.prog O22 Γ22 3 EL22_5 :=
  ⟨⟨22, 0, L22_5, rfl, by kernel_rfl, by decide, limit_fn, fun _ => rfl, fun m old x r h => by
    obtain ⟨⟨x1, x2, x4, x5, ⟨⟩⟩, y1, y2, y4, ⟨⟩⟩ := x
    refine Eq.trans ?_ h
    kernel_rfl⟩⟩

theorem cL63_46_22_2 : LoopCert Try.prog O22 Γ22 3 EL63_46_22_2 :=
  ⟨⟨63, 0, L63_46_22_2, rfl, by kernel_rfl, by decide, limit_fn, fun _ => rfl, fun m old x r h => by
    obtain ⟨⟨x0, x1, x2, x7, ⟨⟩⟩, y1, y2, y4, y1007, ⟨⟩⟩ := x
    refine Eq.trans ?_ h
    kernel_rfl⟩⟩

theorem cL46_22_8 : LoopCert Try.prog O22 Γ22 3 EL46_22_8 :=
  ⟨⟨46, 1, L46_22_8, rfl, by kernel_rfl, by decide, limit_fn, fun _ => rfl, fun m old x r h => by
    obtain ⟨⟨x0, x3, x4, x5, x6, ⟨⟩⟩, y1, y2, y4, y1007, ⟨⟩⟩ := x
    refine Eq.trans ?_ h
    kernel_rfl⟩⟩

theorem cL46_22_4 : LoopCert Try.prog O22 Γ22 3 EL46_22_4 :=
  ⟨⟨46, 0, L46_22_4, rfl, by kernel_rfl, by decide, limit_fn, fun _ => rfl, fun m old x r h => by
    obtain ⟨⟨x0, x3, x4, x5, ⟨⟩⟩, y1, y2, y4, y1007, ⟨⟩⟩ := x
    refine Eq.trans ?_ h
    kernel_rfl⟩⟩

theorem cL50_22_2 : LoopCert Try.prog O22 Γ22 3 EL50_22_2 :=
  ⟨⟨50, 0, L50_22_2, rfl, by kernel_rfl, by decide, limit_fn, fun _ => rfl, fun m old x r h => by
    obtain ⟨⟨x0, x1, x5, ⟨⟩⟩, y1, y2, y8, y9, y10, y12, ⟨⟩⟩ := x
    refine Eq.trans ?_ h
    kernel_rfl⟩⟩

theorem cL22_19 : LoopCert Try.prog O22 Γ22 3 EL22_19 :=
  ⟨⟨22, 2, L22_19, rfl, by kernel_rfl, by decide, limit_fn, fun _ => rfl, fun m old x r h => by
    obtain ⟨⟨x1, x2, x6, x7, x8, x9, x10, x11, x12, x13, ⟨⟩⟩, y1, y2, y8, y9, y10, y12, ⟨⟩⟩ := x
    refine Eq.trans ?_ h
    kernel_rfl⟩⟩

theorem cL22_15 : LoopCert Try.prog O22 Γ22 3 EL22_15 :=
  ⟨⟨22, 1, L22_15, rfl, by kernel_rfl, by decide, limit_fn, fun _ => rfl, fun m old x r h => by
    obtain ⟨⟨x1, x2, x6, x7, x8, x9, x10, x11, ⟨⟩⟩, y1, y2, y8, y9, y10, ⟨⟩⟩ := x
    refine Eq.trans ?_ h
    kernel_rfl⟩⟩

/-- emendate/emendateref10.Determinize -/
noncomputable def p22 : (((Int) × ((Int) × ((List ((Int) × ((Int) × ((Bool) × ((List (Int)) × (Unit)))))) × ((List (Int)) × (Unit))))) × Unit) → Option (((List (Int)) × ((List (List (Int))) × ((List (Int)) × (Unit)))) × (Int) × Unit)
  | (x0, ()) =>
    (p45 ((x0.1, (x0.2.1, (x0.2.2.1, (x0.2.2.2.1, ())))), ())).bind fun c1 =>
    if (!c1) = true then
      some ((([] : List (Int)), (([] : List (List (Int))), (([] : List (Int)), ()))), (1 : Int), ())
    else
      (limit L22_5 (((), (), (), (0 : Int), ()), ((x0.1, x0.2.1, x0.2.2.1, x0.2.2.2.1, ()), (([] : List (Int)), ([] : List (List (Int))), ([] : List (Int)), ()), ([] : List (List (Int))), ()))).bind fun r2 =>
      if decide ((256 : Int) = (256 : Int) ∧ 0 ≤ (256 : Int) ∧ (256 : Int) ≤ (lim : Int)) = true then
        (limit L46_22_4 (((), (), (0 : Int), (0 : Int), ()), ((r2.2.1.1, r2.2.1.2.1, r2.2.1.2.2.1, r2.2.1.2.2.2.1, ()), (r2.2.2.1.1, r2.2.2.1.2.1, r2.2.2.1.2.2.1, ()), r2.2.2.2.1, (List.replicate (256 : Int).toNat (0 : Int)), ()))).bind fun r3 =>
        (p47 (r3.2.2.2.2.1, ())).bind fun c4 =>
        (p48 ((r3.2.1.1, (r3.2.1.2.1, (r3.2.1.2.2.1, (r3.2.1.2.2.2.1, ())))), ([r3.2.1.2.1] : List (Int)), ())).bind fun c5 =>
        (limit L22_15 (((), (), r3.2.2.2.2.1, c4, (), (), (), (0 : Int), ()), ((r3.2.1.1, r3.2.1.2.1, r3.2.1.2.2.1, r3.2.1.2.2.2.1, ()), (r3.2.2.1.1, r3.2.2.1.2.1, r3.2.2.1.2.2.1, ()), ([c5] : List (List (Int))), ([] : List (List (Int))), ([] : List (Int)), ()))).bind (Sum.elim (fun r6 =>
          some ((r6.2.1.1, (r6.2.1.2.1, (r6.2.1.2.2.1, ()))), r6.1.2.1, ())) (fun r6 =>
          some ((r6.1.2.1, (r6.2.2.1, (r6.2.2.2.1, ()))), (0 : Int), ())))
      else
        none

theorem s22 : SoundFn Try.prog 22 (fnOf [(.pair (.int .i64) (.pair (.int .i64) (.pair (.slice (.pair (.int .i64) (.pair (.int .i64) (.pair .bool (.pair (.arr 4 (.int .u64)) .unit))))) (.pair (.slice (.int .i64)) .unit))))] (.tup [(.pair (.slice (.int .i64)) (.pair (.slice (.slice (.int .i64))) (.pair (.slice (.int .i64)) .unit))), (.int .i64)]) p22) :=
  fn_pure hm0 hng0 hΓ22 (t := [(19, fnOf [(.slice (.int .i64)), (.slice (.int .i64))] (.one .bool) p19), (45, fnOf [(.pair (.int .i64) (.pair (.int .i64) (.pair (.slice (.pair (.int .i64) (.pair (.int .i64) (.pair .bool (.pair (.arr 4 (.int .u64)) .unit))))) (.pair (.slice (.int .i64)) .unit))))] (.one .bool) p45), (47, fnOf [(.slice (.int .i64))] (.one (.slice (.int .u8))) p47), (48, fnOf [(.pair (.int .i64) (.pair (.int .i64) (.pair (.slice (.pair (.int .i64) (.pair (.int .i64) (.pair .bool (.pair (.arr 4 (.int .u64)) .unit))))) (.pair (.slice (.int .i64)) .unit)))), (.slice (.int .i64))] (.one (.slice (.int .i64))) p48), (49, fnOf [(.pair (.int .i64) (.pair (.int .i64) (.pair (.slice (.pair (.int .i64) (.pair (.int .i64) (.pair .bool (.pair (.arr 4 (.int .u64)) .unit))))) (.pair (.slice (.int .i64)) .unit)))), (.slice (.int .i64)), (.int .u8)] (.one (.slice (.int .i64))) p49), (51, fnOf [(.pair (.int .i64) (.pair (.int .i64) (.pair (.slice (.pair (.int .i64) (.pair (.int .i64) (.pair .bool (.pair (.arr 4 (.int .u64)) .unit))))) (.pair (.slice (.int .i64)) .unit)))), (.slice (.int .i64))] (.one (.int .i64)) p51), (65, fnOf [(.arr 4 (.int .u64)), (.int .u8)] (.one .bool) p65)]) (all_cons s19 (all_cons s45 (all_cons s47 (all_cons s48 (all_cons s49 (all_cons s51 (all_cons s65 all_nil))))))) (ls := [EL22_5, EL63_46_22_2, EL46_22_8, EL46_22_4, EL50_22_2, EL22_19, EL22_15]) (cmds := [([22], 31, [.freeze 12])]) (leaves := []) (fr := []) (D := 3) (all_cons cL22_5 (all_cons cL63_46_22_2 (all_cons cL46_22_8 (all_cons cL46_22_4 (all_cons cL50_22_2 (all_cons cL22_19 (all_cons cL22_15 all_nil))))))) (by kernel_rfl) (hfr := all_nil) fun x r h => by
    obtain ⟨x0, ⟨⟩⟩ := x
    refine Eq.trans ?_ h
    kernel_rfl

def Γ21 : TEnv := { Γ0 with imm := [32, 44, 102, 112, 123] }
theorem hΓ21 : Γ21.ok Try.prog = true := hΓ0

noncomputable def L21_5 : Nat → ((Unit × Unit × Unit × (List ((Int) × ((Int) × ((Bool) × ((List (Int)) × (Unit)))))) × (Int) × (Int) × Unit) × (((Int) × (Int) × (List ((Int) × ((Int) × ((Bool) × ((List (Int)) × (Unit)))))) × (List (Int)) × Unit) × ((List (Int)) × (List (List (Int))) × (List (Int)) × Unit) × (List (List (Int))) × Unit)) → Option ((Unit × Unit × Unit × Unit) × (((Int) × (Int) × (List ((Int) × ((Int) × ((Bool) × ((List (Int)) × (Unit)))))) × (List (Int)) × Unit) × ((List (Int)) × (List (List (Int))) × (List (Int)) × Unit) × (List (List (Int))) × Unit))
  | 0, _ => none
  | n + 1, ((_, _, _, x23, x24, x25, ()), (y1, y2, y4, ())) =>
    if (decide (x25 < x24)) = true then
      if decide (0 ≤ x25 ∧ x25 < (x23.length : Int)) = true then
        if decide (y4.length + ([[((x23.getD x25.toNat (0, (0, (false, ((List.replicate 4 0), ()))))).2.2.2.1.getD 0 0), ((x23.getD x25.toNat (0, (0, (false, ((List.replicate 4 0), ()))))).2.2.2.1.getD 1 0), ((x23.getD x25.toNat (0, (0, (false, ((List.replicate 4 0), ()))))).2.2.2.1.getD 2 0), ((x23.getD x25.toNat (0, (0, (false, ((List.replicate 4 0), ()))))).2.2.2.1.getD 3 0)]] : List (List (Int))).length ≤ lim) = true then
          L21_5 n (((), (), (), x23, x24, (IntKind.i64.wrap (x25 + (1 : Int))), ()), ((y1.1, y1.2.1, y1.2.2.1, y1.2.2.2.1, ()), (y2.1, y2.2.1, y2.2.2.1, ()), (y4 ++ ([[((x23.getD x25.toNat (0, (0, (false, ((List.replicate 4 0), ()))))).2.2.2.1.getD 0 0), ((x23.getD x25.toNat (0, (0, (false, ((List.replicate 4 0), ()))))).2.2.2.1.getD 1 0), ((x23.getD x25.toNat (0, (0, (false, ((List.replicate 4 0), ()))))).2.2.2.1.getD 2 0), ((x23.getD x25.toNat (0, (0, (false, ((List.replicate 4 0), ()))))).2.2.2.1.getD 3 0)]] : List (List (Int)))), ()))
        else
          none
      else
        none
    else
      some (((), (), (), ()), ((y1.1, y1.2.1, y1.2.2.1, y1.2.2.2.1, ()), (y2.1, y2.2.1, y2.2.2.1, ()), y4, ()))

noncomputable def EL21_5 : LoopEnt := ⟨[21], 5, ⟨[.keep [1, 2, 4, 23, 24, 25] [1, 2, 33], .adopt 4 (.arr 4 (.int .u64)) 4], [1, 2, 4, 23, 24, 25], [1, 2, 4]⟩, [.ptr 1 0, .ptr 2 0, .ref 4, .kd (.slice (.pair (.int .i64) (.pair (.int .i64) (.pair .bool (.pair (.arr 4 (.int .u64)) .unit))))), .kd (.int .i64), .kd (.int .i64)], [.box [.kd (.int .i64), .kd (.int .i64), .kd (.slice (.pair (.int .i64) (.pair (.int .i64) (.pair .bool (.pair (.arr 4 (.int .u64)) .unit))))), .kd (.slice (.int .i64))], .box [.kd (.slice (.int .i64)), .kd (.slice (.slice (.int .i64))), .kd (.slice (.int .i64))], .row (.arr 4 (.int .u64))], [⟨(.exit 0), [1, 2, 4], [.ptr 1 0, .ptr 2 0, .ref 4], [1, 2, 4], [.box [.kd (.int .i64), .kd (.int .i64), .kd (.slice (.pair (.int .i64) (.pair (.int .i64) (.pair .bool (.pair (.arr 4 (.int .u64)) .unit))))), .kd (.slice (.int .i64))], .box [.kd (.slice (.int .i64)), .kd (.slice (.slice (.int .i64))), .kd (.slice (.int .i64))], .row (.arr 4 (.int .u64))]⟩], limit L21_5⟩

noncomputable def L40_21_8 : Nat → ((Unit × Unit × Unit × (Int) × Unit × (Int) × (Int) × Unit × (Int) × (Int) × Unit) × (((Int) × (Int) × (List ((Int) × ((Int) × ((Bool) × ((List (Int)) × (Unit)))))) × (List (Int)) × Unit) × ((List (Int)) × (List (List (Int))) × (List (Int)) × Unit) × (List (List (Int))) × (List (Int)) × (List ((List UInt8) × (Int))) × (List (Int)) × Unit)) → Option ((Unit × Unit × Unit × (Int) × Unit × (Int) × (Int) × Unit) × (((Int) × (Int) × (List ((Int) × ((Int) × ((Bool) × ((List (Int)) × (Unit)))))) × (List (Int)) × Unit) × ((List (Int)) × (List (List (Int))) × (List (Int)) × Unit) × (List (List (Int))) × (List (Int)) × (List ((List UInt8) × (Int))) × (List (Int)) × Unit))
  | 0, _ => none
  | n + 1, ((_, _, _, x5, _, x14, x15, _, x22, x23, ()), (y1, y2, y4, y1011, y1012, y1020, ())) =>
    if (decide (x23 < x22)) = true then
      if decide (0 ≤ x23 ∧ x23 < (y4.length : Int)) = true then
        (p60 ([((y4.getD x23.toNat (List.replicate 4 0)).getD 0 0), ((y4.getD x23.toNat (List.replicate 4 0)).getD 1 0), ((y4.getD x23.toNat (List.replicate 4 0)).getD 2 0), ((y4.getD x23.toNat (List.replicate 4 0)).getD 3 0)], (IntKind.u8.wrap x5), ())).bind fun c1 =>
        if c1 = true then
          if decide (0 ≤ x23 ∧ x23 < (y1020.length : Int)) = true then
            L40_21_8 n (((), (), (), x5, (), x14, x15, (), x22, (IntKind.i64.wrap (x23 + (1 : Int))), ()), ((y1.1, y1.2.1, y1.2.2.1, y1.2.2.2.1, ()), (y2.1, y2.2.1, y2.2.2.1, ()), y4, y1011, y1012, (y1020.set x23.toNat (1 : Int)), ()))
          else
            none
        else
          L40_21_8 n (((), (), (), x5, (), x14, x15, (), x22, (IntKind.i64.wrap (x23 + (1 : Int))), ()), ((y1.1, y1.2.1, y1.2.2.1, y1.2.2.2.1, ()), (y2.1, y2.2.1, y2.2.2.1, ()), y4, y1011, y1012, y1020, ()))
      else
        none
    else
      some (((), (), (), x5, (), x14, x15, ()), ((y1.1, y1.2.1, y1.2.2.1, y1.2.2.2.1, ()), (y2.1, y2.2.1, y2.2.2.1, ()), y4, y1011, y1012, y1020, ()))

noncomputable def EL40_21_8 : LoopEnt := ⟨[40, 21], 8, ⟨[], [0, 3, 4, 5, 6, 14, 15, 21, 22, 23], [1, 2, 4, 1011, 1012, 1020]⟩, [.ref 4, .ref 1011, .mapr 1012, .kd (.int .i64), .ref 1020, .kd (.int .i64), .kd (.int .i64), .ref 4, .kd (.int .i64), .kd (.int .i64)], [.box [.kd (.int .i64), .kd (.int .i64), .kd (.slice (.pair (.int .i64) (.pair (.int .i64) (.pair .bool (.pair (.arr 4 (.int .u64)) .unit))))), .kd (.slice (.int .i64))], .box [.kd (.slice (.int .i64)), .kd (.slice (.slice (.int .i64))), .kd (.slice (.int .i64))], .row (.arr 4 (.int .u64)), .row (.int .i64), .map .str (.int .i64), .row (.int .u8)], [⟨(.exit 2), [0, 3, 4, 5, 6, 14, 15], [.ref 4, .ref 1011, .mapr 1012, .kd (.int .i64), .ref 1020, .kd (.int .i64), .kd (.int .i64)], [1, 2, 4, 1011, 1012, 1020], [.box [.kd (.int .i64), .kd (.int .i64), .kd (.slice (.pair (.int .i64) (.pair (.int .i64) (.pair .bool (.pair (.arr 4 (.int .u64)) .unit))))), .kd (.slice (.int .i64))], .box [.kd (.slice (.int .i64)), .kd (.slice (.slice (.int .i64))), .kd (.slice (.int .i64))], .row (.arr 4 (.int .u64)), .row (.int .i64), .map .str (.int .i64), .row (.int .u8)]⟩], limit L40_21_8⟩

noncomputable def L40_21_4 : Nat → ((Unit × Unit × Unit × (Int) × (Int) × Unit) × (((Int) × (Int) × (List ((Int) × ((Int) × ((Bool) × ((List (Int)) × (Unit)))))) × (List (Int)) × Unit) × ((List (Int)) × (List (List (Int))) × (List (Int)) × Unit) × (List (List (Int))) × (List (Int)) × (List ((List UInt8) × (Int))) × Unit)) → Option ((Unit × Unit) × (((Int) × (Int) × (List ((Int) × ((Int) × ((Bool) × ((List (Int)) × (Unit)))))) × (List (Int)) × Unit) × ((List (Int)) × (List (List (Int))) × (List (Int)) × Unit) × (List (List (Int))) × (List (Int)) × Unit))
  | 0, _ => none
  | n + 1, ((_, _, _, x14, x15, ()), (y1, y2, y4, y1011, y1012, ())) =>
    if (decide (x15 < x14)) = true then
      if decide ((y4.length : Int) = (y4.length : Int) ∧ 0 ≤ (y4.length : Int) ∧ (y4.length : Int) ≤ (lim : Int)) = true then
        (limit L40_21_8 (((), (), (), x15, (), x14, x15, (), (y4.length : Int), (0 : Int), ()), ((y1.1, y1.2.1, y1.2.2.1, y1.2.2.2.1, ()), (y2.1, y2.2.1, y2.2.2.1, ()), y4, y1011, y1012, (List.replicate (y4.length : Int).toNat (0 : Int)), ()))).bind fun r1 =>
        if (!(mget .str (r1.2.2.2.2.2.2.1.map fun n => UInt8.ofNat n.toNat) r1.2.2.2.2.2.1).isSome) = true then
          if decide (0 ≤ r1.1.2.2.2.1 ∧ r1.1.2.2.2.1 < (r1.2.2.2.2.1.length : Int)) = true then
            L40_21_4 n (((), (), (), r1.1.2.2.2.2.2.1, (IntKind.i64.wrap (r1.1.2.2.2.2.2.2.1 + (1 : Int))), ()), ((r1.2.1.1, r1.2.1.2.1, r1.2.1.2.2.1, r1.2.1.2.2.2.1, ()), (r1.2.2.1.1, r1.2.2.1.2.1, r1.2.2.1.2.2.1, ()), r1.2.2.2.1, (r1.2.2.2.2.1.set r1.1.2.2.2.1.toNat (r1.2.2.2.2.2.1.length : Int)), (mput .str (r1.2.2.2.2.2.2.1.map fun n => UInt8.ofNat n.toNat) (r1.2.2.2.2.2.1.length : Int) r1.2.2.2.2.2.1), ()))
          else
            none
        else
          if decide (0 ≤ r1.1.2.2.2.1 ∧ r1.1.2.2.2.1 < (r1.2.2.2.2.1.length : Int)) = true then
            L40_21_4 n (((), (), (), r1.1.2.2.2.2.2.1, (IntKind.i64.wrap (r1.1.2.2.2.2.2.2.1 + (1 : Int))), ()), ((r1.2.1.1, r1.2.1.2.1, r1.2.1.2.2.1, r1.2.1.2.2.2.1, ()), (r1.2.2.1.1, r1.2.2.1.2.1, r1.2.2.1.2.2.1, ()), r1.2.2.2.1, (r1.2.2.2.2.1.set r1.1.2.2.2.1.toNat ((mget .str (r1.2.2.2.2.2.2.1.map fun n => UInt8.ofNat n.toNat) r1.2.2.2.2.2.1).getD 0)), r1.2.2.2.2.2.1, ()))
          else
            none
      else
        none
    else
      some (((), ()), ((y1.1, y1.2.1, y1.2.2.1, y1.2.2.2.1, ()), (y2.1, y2.2.1, y2.2.2.1, ()), y4, y1011, ()))

noncomputable def EL40_21_4 : LoopEnt := ⟨[40, 21], 4, ⟨[], [0, 3, 4, 14, 15], [1, 2, 4, 1011, 1012]⟩, [.ref 4, .ref 1011, .mapr 1012, .kd (.int .i64), .kd (.int .i64)], [.box [.kd (.int .i64), .kd (.int .i64), .kd (.slice (.pair (.int .i64) (.pair (.int .i64) (.pair .bool (.pair (.arr 4 (.int .u64)) .unit))))), .kd (.slice (.int .i64))], .box [.kd (.slice (.int .i64)), .kd (.slice (.slice (.int .i64))), .kd (.slice (.int .i64))], .row (.arr 4 (.int .u64)), .row (.int .i64), .map .str (.int .i64)], [⟨(.exit 0), [3], [.ref 1011], [1, 2, 4, 1011], [.box [.kd (.int .i64), .kd (.int .i64), .kd (.slice (.pair (.int .i64) (.pair (.int .i64) (.pair .bool (.pair (.arr 4 (.int .u64)) .unit))))), .kd (.slice (.int .i64))], .box [.kd (.slice (.int .i64)), .kd (.slice (.slice (.int .i64))), .kd (.slice (.int .i64))], .row (.arr 4 (.int .u64)), .row (.int .i64)]⟩], limit L40_21_4⟩

noncomputable def L21_18 : Nat → ((Unit × Unit × Unit × (List (Int)) × Unit × Unit × (Int) × Unit × (List (Int)) × (Int) × (Int) × Unit) × (((Int) × (Int) × (List ((Int) × ((Int) × ((Bool) × ((List (Int)) × (Unit)))))) × (List (Int)) × Unit) × ((List (Int)) × (List (List (Int))) × (List (Int)) × Unit) × ((List (Int)) × Unit × Unit × Unit) × (List (List (Int))) × (List ((List UInt8) × (Int))) × (List (Int)) × (List (List (Int))) × (List (Int)) × Unit)) → Option (((Unit × (Int) × Unit) × (((List (Int)) × (List (List (Int))) × (List (Int)) × Unit) × Unit)) ⊕ ((Unit × Unit × Unit × (List (Int)) × Unit × Unit × (Int) × Unit × Unit) × (((Int) × (Int) × (List ((Int) × ((Int) × ((Bool) × ((List (Int)) × (Unit)))))) × (List (Int)) × Unit) × ((List (Int)) × (List (List (Int))) × (List (Int)) × Unit) × ((List (Int)) × Unit × Unit × Unit) × (List (List (Int))) × (List ((List UInt8) × (Int))) × (List (Int)) × (List (List (Int))) × (List (Int)) × Unit)))
  | 0, _ => none
  | n + 1, ((_, _, _, x8, _, _, x11, _, x62, x63, x64, ()), (y1, y2, y7, y9, y47, y61, y308, y309, ())) =>
    if (decide (x64 < x63)) = true then
      if decide (0 ≤ x64 ∧ x64 < (x62.length : Int)) = true then
        if decide (0 ≤ x11 ∧ x11 < (y9.length : Int)) = true then
          (p43 ((y1.1, (y1.2.1, (y1.2.2.1, (y1.2.2.2.1, ())))), (y9.getD x11.toNat []), (x62.getD x64.toNat 0), ())).bind fun c1 =>
          if decide (0 ≤ x64 ∧ x64 < (y61.length : Int)) = true then
            if (decide ((c1.length : Int) = (0 : Int))) = true then
              L21_18 n (((), (), (), x8, (), (), x11, (), x62, x63, (IntKind.i64.wrap (x64 + (1 : Int))), ()), ((y1.1, y1.2.1, y1.2.2.1, y1.2.2.2.1, ()), (y2.1, y2.2.1, y2.2.2.1, ()), (y7.1, (), (), ()), y9, y47, (y61.set x64.toNat (-1 : Int)), y308, y309, ()))
            else
              (p42 (c1, ())).bind fun c2 =>
              if (!(mget .str c2 y47).isSome) = true then
                if (decide ((y9.length : Int) = (500 : Int))) = true then
                  some (.inl (((), (11 : Int), ()), ((([] : List (Int)), ([] : List (List (Int))), ([] : List (Int)), ()), ())))
                else
                  (p42 (c1, ())).bind fun c3 =>
                  if decide (y9.length + ([c1] : List (List (Int))).length ≤ lim) = true then
                    if decide (0 ≤ x64 ∧ x64 < ((y61.set x64.toNat (-1 : Int)).length : Int)) = true then
                      L21_18 n (((), (), (), x8, (), (), x11, (), x62, x63, (IntKind.i64.wrap (x64 + (1 : Int))), ()), ((y1.1, y1.2.1, y1.2.2.1, y1.2.2.2.1, ()), (y2.1, y2.2.1, y2.2.2.1, ()), (y7.1, (), (), ()), (y9 ++ ([c1] : List (List (Int)))), (mput .str c3 (y9.length : Int) y47), ((y61.set x64.toNat (-1 : Int)).set x64.toNat (y9.length : Int)), y308, y309, ()))
                    else
                      none
                  else
                    none
              else
                if decide (0 ≤ x64 ∧ x64 < ((y61.set x64.toNat (-1 : Int)).length : Int)) = true then
                  L21_18 n (((), (), (), x8, (), (), x11, (), x62, x63, (IntKind.i64.wrap (x64 + (1 : Int))), ()), ((y1.1, y1.2.1, y1.2.2.1, y1.2.2.2.1, ()), (y2.1, y2.2.1, y2.2.2.1, ()), (y7.1, (), (), ()), y9, y47, ((y61.set x64.toNat (-1 : Int)).set x64.toNat ((mget .str c2 y47).getD 0)), y308, y309, ()))
                else
                  none
          else
            none
        else
          none
      else
        none
    else
      some (.inr (((), (), (), x8, (), (), x11, (), ()), ((y1.1, y1.2.1, y1.2.2.1, y1.2.2.2.1, ()), (y2.1, y2.2.1, y2.2.2.1, ()), (y7.1, (), (), ()), y9, y47, y61, y308, y309, ())))

noncomputable def EL21_18 : LoopEnt := ⟨[21], 18, ⟨[.keep [1, 2, 7, 8, 9, 10, 11, 12, 62, 63, 64] [1, 2, 7, 9, 47, 61, 103, 308, 309], .adopt 9 (.slice (.int .i64)) 9], [1, 2, 7, 8, 9, 10, 11, 12, 62, 63, 64], [1, 2, 7, 9, 47, 61, 308, 309]⟩, [.ptr 1 0, .ptr 2 0, .ptr 7 0, .kd (.slice (.int .u8)), .ref 9, .mapr 47, .kd (.int .i64), .ref 61, .kd (.slice (.int .u8)), .kd (.int .i64), .kd (.int .i64)], [.box [.kd (.int .i64), .kd (.int .i64), .kd (.slice (.pair (.int .i64) (.pair (.int .i64) (.pair .bool (.pair (.arr 4 (.int .u64)) .unit))))), .kd (.slice (.int .i64))], .box [.kd (.slice (.int .i64)), .kd (.slice (.slice (.int .i64))), .kd (.slice (.int .i64))], .box [.kd (.slice (.int .i64)), .ref 308, .ref 309], .row (.slice (.int .i64)), .map .str (.int .i64), .row (.int .i64), .row (.slice (.int .i64)), .row (.int .i64)], [⟨.ret, [2, 3], [.ptr 2 0, .kd (.int .i64)], [2], [.box [.kd (.slice (.int .i64)), .kd (.slice (.slice (.int .i64))), .kd (.slice (.int .i64))]]⟩, ⟨(.exit 4), [1, 2, 7, 8, 9, 10, 11, 12], [.ptr 1 0, .ptr 2 0, .ptr 7 0, .kd (.slice (.int .u8)), .ref 9, .mapr 47, .kd (.int .i64), .ref 61], [1, 2, 7, 9, 47, 61, 308, 309], [.box [.kd (.int .i64), .kd (.int .i64), .kd (.slice (.pair (.int .i64) (.pair (.int .i64) (.pair .bool (.pair (.arr 4 (.int .u64)) .unit))))), .kd (.slice (.int .i64))], .box [.kd (.slice (.int .i64)), .kd (.slice (.slice (.int .i64))), .kd (.slice (.int .i64))], .box [.kd (.slice (.int .i64)), .ref 308, .ref 309], .row (.slice (.int .i64)), .map .str (.int .i64), .row (.int .i64), .row (.slice (.int .i64)), .row (.int .i64)]⟩], limit L21_18⟩

noncomputable def L21_14 : Nat → ((Unit × Unit × Unit × (List (Int)) × Unit × Unit × (Int) × Unit) × (((Int) × (Int) × (List ((Int) × ((Int) × ((Bool) × ((List (Int)) × (Unit)))))) × (List (Int)) × Unit) × ((List (Int)) × (List (List (Int))) × (List (Int)) × Unit) × ((List (Int)) × Unit × Unit × Unit) × (List (List (Int))) × (List ((List UInt8) × (Int))) × (List (List (Int))) × (List (Int)) × Unit)) → Option (((Unit × (Int) × Unit) × (((List (Int)) × (List (List (Int))) × (List (Int)) × Unit) × Unit)) ⊕ ((Unit × Unit × Unit) × (((List (Int)) × (List (List (Int))) × (List (Int)) × Unit) × ((List (Int)) × Unit × Unit × Unit) × (List (List (Int))) × (List (Int)) × Unit)))
  | 0, _ => none
  | n + 1, ((_, _, _, x8, _, _, x11, ()), (y1, y2, y7, y9, y47, y308, y309, ())) =>
    if (decide (x11 < (y9.length : Int))) = true then
      if decide ((x8.length : Int) = (x8.length : Int) ∧ 0 ≤ (x8.length : Int) ∧ (x8.length : Int) ≤ (lim : Int)) = true then
        (limit L21_18 (((), (), (), x8, (), (), x11, (), x8, (x8.length : Int), (0 : Int), ()), ((y1.1, y1.2.1, y1.2.2.1, y1.2.2.2.1, ()), (y2.1, y2.2.1, y2.2.2.1, ()), (y7.1, (), (), ()), y9, y47, (List.replicate (x8.length : Int).toNat (0 : Int)), y308, y309, ()))).bind (Sum.elim (fun r1 =>
          some (.inl (((), r1.1.2.1, ()), ((r1.2.1.1, r1.2.1.2.1, r1.2.1.2.2.1, ()), ())))) (fun r1 =>
          if decide (r1.2.2.2.2.2.2.2.1.length + ([r1.2.2.2.2.2.2.1] : List (List (Int))).length ≤ lim) = true then
            if decide (0 ≤ r1.1.2.2.2.2.2.2.1 ∧ r1.1.2.2.2.2.2.2.1 < (r1.2.2.2.2.1.length : Int)) = true then
              (p44 ((r1.2.1.1, (r1.2.1.2.1, (r1.2.1.2.2.1, (r1.2.1.2.2.2.1, ())))), (r1.2.2.2.2.1.getD r1.1.2.2.2.2.2.2.1.toNat []), ())).bind fun c2 =>
              if decide (r1.2.2.2.2.2.2.2.2.1.length + ([c2] : List (Int)).length ≤ lim) = true then
                L21_14 n (((), (), (), r1.1.2.2.2.1, (), (), (IntKind.i64.wrap (r1.1.2.2.2.2.2.2.1 + (1 : Int))), ()), ((r1.2.1.1, r1.2.1.2.1, r1.2.1.2.2.1, r1.2.1.2.2.2.1, ()), (r1.2.2.1.1, r1.2.2.1.2.1, r1.2.2.1.2.2.1, ()), (r1.2.2.2.1.1, (), (), ()), r1.2.2.2.2.1, r1.2.2.2.2.2.1, (r1.2.2.2.2.2.2.2.1 ++ ([r1.2.2.2.2.2.2.1] : List (List (Int)))), (r1.2.2.2.2.2.2.2.2.1 ++ ([c2] : List (Int))), ()))
              else
                none
            else
              none
          else
            none))
      else
        none
    else
      some (.inr (((), (), ()), ((y2.1, y2.2.1, y2.2.2.1, ()), (y7.1, (), (), ()), y308, y309, ())))

noncomputable def EL21_14 : LoopEnt := ⟨[21], 14, ⟨[.keep [1, 2, 7, 8, 9, 10, 11] [1, 2, 7, 9, 46, 47, 113, 124], .adoptCell 7 1 (.slice (.int .i64)) 308, .adoptCell 7 2 (.int .i64) 309, .adopt 9 (.slice (.int .i64)) 9], [1, 2, 7, 8, 9, 10, 11], [1, 2, 7, 9, 47, 308, 309]⟩, [.ptr 1 0, .ptr 2 0, .ptr 7 0, .kd (.slice (.int .u8)), .ref 9, .mapr 47, .kd (.int .i64)], [.box [.kd (.int .i64), .kd (.int .i64), .kd (.slice (.pair (.int .i64) (.pair (.int .i64) (.pair .bool (.pair (.arr 4 (.int .u64)) .unit))))), .kd (.slice (.int .i64))], .box [.kd (.slice (.int .i64)), .kd (.slice (.slice (.int .i64))), .kd (.slice (.int .i64))], .box [.kd (.slice (.int .i64)), .ref 308, .ref 309], .row (.slice (.int .i64)), .map .str (.int .i64), .row (.slice (.int .i64)), .row (.int .i64)], [⟨.ret, [2, 3], [.ptr 2 0, .kd (.int .i64)], [2], [.box [.kd (.slice (.int .i64)), .kd (.slice (.slice (.int .i64))), .kd (.slice (.int .i64))]]⟩, ⟨(.exit 2), [2, 7], [.ptr 2 0, .ptr 7 0], [2, 7, 308, 309], [.box [.kd (.slice (.int .i64)), .kd (.slice (.slice (.int .i64))), .kd (.slice (.int .i64))], .box [.kd (.slice (.int .i64)), .ref 308, .ref 309], .row (.slice (.int .i64)), .row (.int .i64)]⟩], limit L21_14⟩

noncomputable def O21 : Orc := mkOrc [(38, fnOf [(.slice (.int .i64))] (.one (.slice (.int .u8))) p38), (39, fnOf [(.pair (.int .i64) (.pair (.int .i64) (.pair (.slice (.pair (.int .i64) (.pair (.int .i64) (.pair .bool (.pair (.arr 4 (.int .u64)) .unit))))) (.pair (.slice (.int .i64)) .unit))))] (.one .bool) p39), (41, fnOf [(.pair (.int .i64) (.pair (.int .i64) (.pair (.slice (.pair (.int .i64) (.pair (.int .i64) (.pair .bool (.pair (.arr 4 (.int .u64)) .unit))))) (.pair (.slice (.int .i64)) .unit)))), (.slice (.int .i64))] (.one (.slice (.int .i64))) p41), (42, fnOf [(.slice (.int .i64))] (.one .str) p42), (43, fnOf [(.pair (.int .i64) (.pair (.int .i64) (.pair (.slice (.pair (.int .i64) (.pair (.int .i64) (.pair .bool (.pair (.arr 4 (.int .u64)) .unit))))) (.pair (.slice (.int .i64)) .unit)))), (.slice (.int .i64)), (.int .u8)] (.one (.slice (.int .i64))) p43), (44, fnOf [(.pair (.int .i64) (.pair (.int .i64) (.pair (.slice (.pair (.int .i64) (.pair (.int .i64) (.pair .bool (.pair (.arr 4 (.int .u64)) .unit))))) (.pair (.slice (.int .i64)) .unit)))), (.slice (.int .i64))] (.one (.int .i64)) p44), (60, fnOf [(.arr 4 (.int .u64)), (.int .u8)] (.one .bool) p60)] [EL21_5, EL40_21_8, EL40_21_4, EL21_18, EL21_14] [([21], 32, [.freeze 12])] [] []

theorem cL21_5 : LoopCert Try.prog O21 Γ21 2 EL21_5 :=
  ⟨⟨21, 0, L21_5, rfl, by kernel_rfl, by decide, limit_fn, fun _ => rfl, fun m old x r h => by
    obtain ⟨⟨x1, x2, x4, x23, x24, x25, ⟨⟩⟩, y1, y2, y4, ⟨⟩⟩ := x
    refine Eq.trans ?_ h
    kernel_rfl⟩⟩

theorem cL40_21_8 : LoopCert Try.prog O21 Γ21 2 EL40_21_8 :=
  ⟨⟨40, 1, L40_21_8, rfl, by kernel_rfl, by decide, limit_fn, fun _ => rfl, fun m old x r h => by
    obtain ⟨⟨x0, x3, x4, x5, x6, x14, x15, x21, x22, x23, ⟨⟩⟩, y1, y2, y4, y1011, y1012, y1020, ⟨⟩⟩ := x
    refine Eq.trans ?_ h
    kernel_rfl⟩⟩

theorem cL40_21_4 : LoopCert Try.prog O21 Γ21 2 EL40_21_4 :=
  ⟨⟨40, 0, L40_21_4, rfl, by kernel_rfl, by decide, limit_fn, fun _ => rfl, fun m old x r h => by
    obtain ⟨⟨x0, x3, x4, x14, x15, ⟨⟩⟩, y1, y2, y4, y1011, y1012, ⟨⟩⟩ := x
    refine Eq.trans ?_ h
    kernel_rfl⟩⟩

theorem cL21_18 : LoopCert Try.prog O21 Γ21 2 EL21_18 :=
  ⟨⟨21, 2, L21_18, rfl, by kernel_rfl, by decide, limit_fn, fun _ => rfl, fun m old x r h => by
    obtain ⟨⟨x1, x2, x7, x8, x9, x10, x11, x12, x62, x63, x64, ⟨⟩⟩, y1, y2, y7, y9, y47, y61, y308, y309, ⟨⟩⟩ := x
    refine Eq.trans ?_ h
    kernel_rfl⟩⟩

theorem cL21_14 : LoopCert Try.prog O21 Γ21 2 EL21_14 :=
  ⟨⟨21, 1, L21_14, rfl, by kernel_rfl, by decide, limit_fn, fun _ => rfl, fun m old x r h => by
    obtain ⟨⟨x1, x2, x7, x8, x9, x10, x11, ⟨⟩⟩, y1, y2, y7, y9, y47, y308, y309, ⟨⟩⟩ := x
    refine Eq.trans ?_ h
    kernel_rfl⟩⟩

/-- emendate/dfa.Determinize -/
noncomputable def p21 : (((Int) × ((Int) × ((List ((Int) × ((Int) × ((Bool) × ((List (Int)) × (Unit)))))) × ((List (Int)) × (Unit))))) × Unit) → Option (((List (Int)) × ((List (List (Int))) × ((List (Int)) × (Unit)))) × (Int) × Unit)
  | (x0, ()) =>
    (p39 ((x0.1, (x0.2.1, (x0.2.2.1, (x0.2.2.2.1, ())))), ())).bind fun c1 =>
    if (!c1) = true then
      some ((([] : List (Int)), (([] : List (List (Int))), (([] : List (Int)), ()))), (1 : Int), ())
    else
      (limit L21_5 (((), (), (), x0.2.2.1, (x0.2.2.1.length : Int), (0 : Int), ()), ((x0.1, x0.2.1, x0.2.2.1, x0.2.2.2.1, ()), (([] : List (Int)), ([] : List (List (Int))), ([] : List (Int)), ()), ([] : List (List (Int))), ()))).bind fun r2 =>
      if decide ((256 : Int) = (256 : Int) ∧ 0 ≤ (256 : Int) ∧ (256 : Int) ≤ (lim : Int)) = true then
        (limit L40_21_4 (((), (), (), ((List.replicate (256 : Int).toNat (0 : Int)).length : Int), (0 : Int), ()), ((r2.2.1.1, r2.2.1.2.1, r2.2.1.2.2.1, r2.2.1.2.2.2.1, ()), (r2.2.2.1.1, r2.2.2.1.2.1, r2.2.2.1.2.2.1, ()), r2.2.2.2.1, (List.replicate (256 : Int).toNat (0 : Int)), ([] : List ((List UInt8) × (Int))), ()))).bind fun r3 =>
        (p38 (r3.2.2.2.2.1, ())).bind fun c4 =>
        (p41 ((r3.2.1.1, (r3.2.1.2.1, (r3.2.1.2.2.1, (r3.2.1.2.2.2.1, ())))), ([r3.2.1.2.1] : List (Int)), ())).bind fun c5 =>
        if decide (0 ≤ (0 : Int) ∧ (0 : Int) < (([c5] : List (List (Int))).length : Int)) = true then
          (p42 ((([c5] : List (List (Int))).getD (0 : Int).toNat []), ())).bind fun c6 =>
          (limit L21_14 (((), (), (), c4, (), (), (0 : Int), ()), ((r3.2.1.1, r3.2.1.2.1, r3.2.1.2.2.1, r3.2.1.2.2.2.1, ()), (r3.2.2.1.1, r3.2.2.1.2.1, r3.2.2.1.2.2.1, ()), (r3.2.2.2.2.1, (), (), ()), ([c5] : List (List (Int))), (mput .str c6 (0 : Int) ([] : List ((List UInt8) × (Int)))), ([] : List (List (Int))), ([] : List (Int)), ()))).bind (Sum.elim (fun r7 =>
            some ((r7.2.1.1, (r7.2.1.2.1, (r7.2.1.2.2.1, ()))), r7.1.2.1, ())) (fun r7 =>
            some ((r7.2.2.1.1, (r7.2.2.2.1, (r7.2.2.2.2.1, ()))), (0 : Int), ())))
        else
          none
      else
        none

theorem s21 : SoundFn Try.prog 21 (fnOf [(.pair (.int .i64) (.pair (.int .i64) (.pair (.slice (.pair (.int .i64) (.pair (.int .i64) (.pair .bool (.pair (.arr 4 (.int .u64)) .unit))))) (.pair (.slice (.int .i64)) .unit))))] (.tup [(.pair (.slice (.int .i64)) (.pair (.slice (.slice (.int .i64))) (.pair (.slice (.int .i64)) .unit))), (.int .i64)]) p21) :=
  fn_pure hm0 hng0 hΓ21 (t := [(38, fnOf [(.slice (.int .i64))] (.one (.slice (.int .u8))) p38), (39, fnOf [(.pair (.int .i64) (.pair (.int .i64) (.pair (.slice (.pair (.int .i64) (.pair (.int .i64) (.pair .bool (.pair (.arr 4 (.int .u64)) .unit))))) (.pair (.slice (.int .i64)) .unit))))] (.one .bool) p39), (41, fnOf [(.pair (.int .i64) (.pair (.int .i64) (.pair (.slice (.pair (.int .i64) (.pair (.int .i64) (.pair .bool (.pair (.arr 4 (.int .u64)) .unit))))) (.pair (.slice (.int .i64)) .unit)))), (.slice (.int .i64))] (.one (.slice (.int .i64))) p41), (42, fnOf [(.slice (.int .i64))] (.one .str) p42), (43, fnOf [(.pair (.int .i64) (.pair (.int .i64) (.pair (.slice (.pair (.int .i64) (.pair (.int .i64) (.pair .bool (.pair (.arr 4 (.int .u64)) .unit))))) (.pair (.slice (.int .i64)) .unit)))), (.slice (.int .i64)), (.int .u8)] (.one (.slice (.int .i64))) p43), (44, fnOf [(.pair (.int .i64) (.pair (.int .i64) (.pair (.slice (.pair (.int .i64) (.pair (.int .i64) (.pair .bool (.pair (.arr 4 (.int .u64)) .unit))))) (.pair (.slice (.int .i64)) .unit)))), (.slice (.int .i64))] (.one (.int .i64)) p44), (60, fnOf [(.arr 4 (.int .u64)), (.int .u8)] (.one .bool) p60)]) (all_cons s38 (all_cons s39 (all_cons s41 (all_cons s42 (all_cons s43 (all_cons s44 (all_cons s60 all_nil))))))) (ls := [EL21_5, EL40_21_8, EL40_21_4, EL21_18, EL21_14]) (cmds := [([21], 32, [.freeze 12])]) (leaves := []) (fr := []) (D := 2) (all_cons cL21_5 (all_cons cL40_21_8 (all_cons cL40_21_4 (all_cons cL21_18 (all_cons cL21_14 all_nil))))) (by kernel_rfl) (hfr := all_nil) fun x r h => by
    obtain ⟨x0, ⟨⟩⟩ := x
    refine Eq.trans ?_ h
    kernel_rfl

end Go.AM
