/- Functions in pure form: each is sound over the program. -/
import Derived.Test.YtdjbokdohackdaaK0
namespace Go.AM
open Go Go.Proofs

noncomputable def O60 : Orc := mkOrc [] [] [] [] []

/-- emendate/byteset.Has -/
noncomputable def p60 : ((List (Int)) × (Int) × Unit) → Option (Bool)
  | (x0, x1, ()) =>
    if decide ((64 : Int) = 0) = true then
      none
    else
      if decide (0 ≤ (IntKind.u8.wrap (x1.tdiv (64 : Int))) ∧ (IntKind.u8.wrap (x1.tdiv (64 : Int))) < (4 : Int)) = true then
        if decide ((64 : Int) = 0) = true then
          none
        else
          if decide (0 ≤ (x1.tmod (64 : Int))) = true then
            some (decide ((IntKind.u64.wrap ((BitVec.ofInt (IntKind.u64.bits) (([(x0.getD 0 0), (x0.getD 1 0), (x0.getD 2 0), (x0.getD 3 0)].getD (IntKind.u8.wrap (x1.tdiv (64 : Int))).toNat 0).fdiv (2 ^ (min (x1.tmod (64 : Int)).toNat (IntKind.u64.bits)))) &&& BitVec.ofInt (IntKind.u64.bits) (1 : Int)).toNat : Nat)) = (1 : Int)))
          else
            none
      else
        none

theorem s60 : SoundFn Try.prog 36 (fnOf [(.arr 4 (.int .u64)), (.int .u8)] (.one .bool) p60) :=
  fn_pure hm0 hng0 hΓ0 (t := []) all_nil (ls := []) (cmds := []) (leaves := []) (fr := []) (pt := []) (D := 1) all_nil (by kernel_rfl) (hfr := all_nil) fun x r h => by
    obtain ⟨x0, x1, ⟨⟩⟩ := x
    refine Eq.trans ?_ h
    kernel_rfl

noncomputable def O65 : Orc := mkOrc [] [] [] [] []

/-- emendate/emendateref07.Has -/
noncomputable def p65 : ((List (Int)) × (Int) × Unit) → Option (Bool)
  | (x0, x1, ()) =>
    if decide ((64 : Int) = 0) = true then
      none
    else
      if decide (0 ≤ (IntKind.u8.wrap (x1.tdiv (64 : Int))) ∧ (IntKind.u8.wrap (x1.tdiv (64 : Int))) < (4 : Int)) = true then
        if decide ((64 : Int) = 0) = true then
          none
        else
          if decide (0 ≤ (x1.tmod (64 : Int))) = true then
            some (decide ((IntKind.u64.wrap ((BitVec.ofInt (IntKind.u64.bits) (([(x0.getD 0 0), (x0.getD 1 0), (x0.getD 2 0), (x0.getD 3 0)].getD (IntKind.u8.wrap (x1.tdiv (64 : Int))).toNat 0).fdiv (2 ^ (min (x1.tmod (64 : Int)).toNat (IntKind.u64.bits)))) &&& BitVec.ofInt (IntKind.u64.bits) (1 : Int)).toNat : Nat)) = (1 : Int)))
          else
            none
      else
        none

theorem s65 : SoundFn Try.prog 37 (fnOf [(.arr 4 (.int .u64)), (.int .u8)] (.one .bool) p65) :=
  fn_pure hm0 hng0 hΓ0 (t := []) all_nil (ls := []) (cmds := []) (leaves := []) (fr := []) (pt := []) (D := 1) all_nil (by kernel_rfl) (hfr := all_nil) fun x r h => by
    obtain ⟨x0, x1, ⟨⟩⟩ := x
    refine Eq.trans ?_ h
    kernel_rfl

def Γ62 : TEnv := { Γ0 with imm := [16] }
theorem hΓ62 : Γ62.ok Try.prog = true := hΓ0

noncomputable def L62_3 : Nat → ((Unit × (List (Bool)) × (Int) × (Int) × Unit) × ((List (Int)) × Unit)) → Option ((Unit × Unit) × ((List (Int)) × Unit))
  | 0, _ => none
  | n + 1, ((_, x6, x7, x8, ()), (y3, ())) =>
    if (decide (x8 < x7)) = true then
      if decide (0 ≤ x8 ∧ x8 < (x6.length : Int)) = true then
        if (x6.getD x8.toNat false) = true then
          if decide (y3.length + ([x8] : List (Int)).length ≤ lim) = true then
            L62_3 n (((), x6, x7, (IntKind.i64.wrap (x8 + (1 : Int))), ()), ((y3 ++ ([x8] : List (Int))), ()))
          else
            none
        else
          L62_3 n (((), x6, x7, (IntKind.i64.wrap (x8 + (1 : Int))), ()), (y3, ()))
      else
        none
    else
      some (((), ()), (y3, ()))

noncomputable def EL62_3 : LoopEnt := ⟨[34], 3, ⟨[.keep [3, 6, 7, 8] [3, 17], .adopt 3 (.int .i64) 3], [3, 6, 7, 8], [3]⟩, [.ref 3, .kd (.slice .bool), .kd (.int .i64), .kd (.int .i64)], [.row (.int .i64)], [⟨(.exit 0), [3], [.ref 3], [3], [.row (.int .i64)]⟩], limit L62_3⟩

noncomputable def O62 : Orc := mkOrc [] [EL62_3] [] [] []

theorem cL62_3 : LoopCert Try.prog O62 Γ62 1 EL62_3 :=
  ⟨⟨34, 0, L62_3, rfl, by kernel_rfl, by decide, limit_fn, fun _ => rfl, fun m old x r h => by
    obtain ⟨⟨x3, x6, x7, x8, ⟨⟩⟩, y3, ⟨⟩⟩ := x
    refine Eq.trans ?_ h
    kernel_rfl⟩⟩

/-- emendate/nfa.sorted -/
noncomputable def p62 : ((List (Bool)) × Unit) → Option (List (Int))
  | (x0, ()) =>
    (limit L62_3 (((), x0, (x0.length : Int), (0 : Int), ()), (([] : List (Int)), ()))).bind fun r1 =>
    some r1.2.1

theorem s62 : SoundFn Try.prog 34 (fnOf [(.slice .bool)] (.one (.slice (.int .i64))) p62) :=
  fn_pure hm0 hng0 hΓ62 (t := []) all_nil (ls := [EL62_3]) (cmds := []) (leaves := []) (fr := []) (pt := []) (D := 1) (all_cons cL62_3 all_nil) (by kernel_rfl) (hfr := all_nil) fun x r h => by
    obtain ⟨x0, ⟨⟩⟩ := x
    refine Eq.trans ?_ h
    kernel_rfl

def Γ64 : TEnv := { Γ0 with imm := [17] }
theorem hΓ64 : Γ64.ok Try.prog = true := hΓ0

noncomputable def L64_3 : Nat → (((List (Bool)) × Unit × (Int) × Unit) × ((List (Int)) × Unit)) → Option ((Unit × Unit) × ((List (Int)) × Unit))
  | 0, _ => none
  | n + 1, ((x0, _, x4, ()), (y3, ())) =>
    if (decide (x4 < (x0.length : Int))) = true then
      if decide (0 ≤ x4 ∧ x4 < (x0.length : Int)) = true then
        if (x0.getD x4.toNat false) = true then
          if decide (y3.length + ([x4] : List (Int)).length ≤ lim) = true then
            L64_3 n ((x0, (), (IntKind.i64.wrap (x4 + (1 : Int))), ()), ((y3 ++ ([x4] : List (Int))), ()))
          else
            none
        else
          L64_3 n ((x0, (), (IntKind.i64.wrap (x4 + (1 : Int))), ()), (y3, ()))
      else
        none
    else
      some (((), ()), (y3, ()))

noncomputable def EL64_3 : LoopEnt := ⟨[35], 3, ⟨[.keep [0, 3, 4] [3, 18], .adopt 3 (.int .i64) 3], [0, 3, 4], [3]⟩, [.kd (.slice .bool), .ref 3, .kd (.int .i64)], [.row (.int .i64)], [⟨(.exit 0), [3], [.ref 3], [3], [.row (.int .i64)]⟩], limit L64_3⟩

noncomputable def O64 : Orc := mkOrc [] [EL64_3] [] [] []

theorem cL64_3 : LoopCert Try.prog O64 Γ64 1 EL64_3 :=
  ⟨⟨35, 0, L64_3, rfl, by kernel_rfl, by decide, limit_fn, fun _ => rfl, fun m old x r h => by
    obtain ⟨⟨x0, x3, x4, ⟨⟩⟩, y3, ⟨⟩⟩ := x
    refine Eq.trans ?_ h
    kernel_rfl⟩⟩

/-- emendate/emendateref09.list -/
noncomputable def p64 : ((List (Bool)) × Unit) → Option (List (Int))
  | (x0, ()) =>
    (limit L64_3 ((x0, (), (0 : Int), ()), (([] : List (Int)), ()))).bind fun r1 =>
    some r1.2.1

theorem s64 : SoundFn Try.prog 35 (fnOf [(.slice .bool)] (.one (.slice (.int .i64))) p64) :=
  fn_pure hm0 hng0 hΓ64 (t := []) all_nil (ls := [EL64_3]) (cmds := []) (leaves := []) (fr := []) (pt := []) (D := 1) (all_cons cL64_3 all_nil) (by kernel_rfl) (hfr := all_nil) fun x r h => by
    obtain ⟨x0, ⟨⟩⟩ := x
    refine Eq.trans ?_ h
    kernel_rfl

noncomputable def L52_3 : Nat → (((List (Int)) × Unit × (Int) × (Int) × Unit) × (((Int) × (Int) × (List ((Int) × ((Int) × ((Bool) × ((List (Int)) × (Unit)))))) × (List (Int)) × Unit) × Unit)) → Option (((Int) × Unit) × (Unit))
  | 0, _ => none
  | n + 1, ((x1, _, x5, x6, ()), (y2, ())) =>
    if (decide (x6 < (x1.length : Int))) = true then
      if decide (0 ≤ x6 ∧ x6 < (x1.length : Int)) = true then
        if decide (0 ≤ (x1.getD x6.toNat 0) ∧ (x1.getD x6.toNat 0) < (y2.2.2.2.1.length : Int)) = true then
          if (decide ((y2.2.2.2.1.getD (x1.getD x6.toNat 0).toNat 0) ≥ (0 : Int))) = true then
            if (decide (x5 < (0 : Int))) = true then
              L52_3 n ((x1, (), (y2.2.2.2.1.getD (x1.getD x6.toNat 0).toNat 0), (IntKind.i64.wrap (x6 + (1 : Int))), ()), ((y2.1, y2.2.1, y2.2.2.1, y2.2.2.2.1, ()), ()))
            else
              if (decide ((y2.2.2.2.1.getD (x1.getD x6.toNat 0).toNat 0) < x5)) = true then
                L52_3 n ((x1, (), (y2.2.2.2.1.getD (x1.getD x6.toNat 0).toNat 0), (IntKind.i64.wrap (x6 + (1 : Int))), ()), ((y2.1, y2.2.1, y2.2.2.1, y2.2.2.2.1, ()), ()))
              else
                L52_3 n ((x1, (), x5, (IntKind.i64.wrap (x6 + (1 : Int))), ()), ((y2.1, y2.2.1, y2.2.2.1, y2.2.2.2.1, ()), ()))
          else
            L52_3 n ((x1, (), x5, (IntKind.i64.wrap (x6 + (1 : Int))), ()), ((y2.1, y2.2.1, y2.2.2.1, y2.2.2.2.1, ()), ()))
        else
          none
      else
        none
    else
      some ((x5, ()), ())

noncomputable def EL52_3 : LoopEnt := ⟨[22], 3, ⟨[], [1, 2, 5, 6], [2]⟩, [.kd (.slice (.int .i64)), .ptr 2 0, .kd (.int .i64), .kd (.int .i64)], [.box [.kd (.int .i64), .kd (.int .i64), .kd (.slice (.pair (.int .i64) (.pair (.int .i64) (.pair .bool (.pair (.arr 4 (.int .u64)) .unit))))), .kd (.slice (.int .i64))]], [⟨(.exit 0), [5], [.kd (.int .i64)], [], []⟩], limit L52_3⟩

noncomputable def O52 : Orc := mkOrc [] [EL52_3] [] [] []

theorem cL52_3 : LoopCert Try.prog O52 Γ0 1 EL52_3 :=
  ⟨⟨22, 0, L52_3, rfl, by kernel_rfl, by decide, limit_fn, fun _ => rfl, fun m old x r h => by
    obtain ⟨⟨x1, x2, x5, x6, ⟨⟩⟩, y2, ⟨⟩⟩ := x
    refine Eq.trans ?_ h
    kernel_rfl⟩⟩

/-- emendate/emendateref09.Accepted -/
noncomputable def p52 : (((Int) × ((Int) × ((List ((Int) × ((Int) × ((Bool) × ((List (Int)) × (Unit)))))) × ((List (Int)) × (Unit))))) × (List (Int)) × Unit) → Option (Int)
  | (x0, x1, ()) =>
    (limit L52_3 ((x1, (), (-1 : Int), (0 : Int), ()), ((x0.1, x0.2.1, x0.2.2.1, x0.2.2.2.1, ()), ()))).bind fun r1 =>
    some r1.1.1

theorem s52 : SoundFn Try.prog 22 (fnOf [(.pair (.int .i64) (.pair (.int .i64) (.pair (.slice (.pair (.int .i64) (.pair (.int .i64) (.pair .bool (.pair (.arr 4 (.int .u64)) .unit))))) (.pair (.slice (.int .i64)) .unit)))), (.slice (.int .i64))] (.one (.int .i64)) p52) :=
  fn_pure hm0 hng0 hΓ0 (t := []) all_nil (ls := [EL52_3]) (cmds := []) (leaves := []) (fr := []) (pt := []) (D := 1) (all_cons cL52_3 all_nil) (by kernel_rfl) (hfr := all_nil) fun x r h => by
    obtain ⟨x0, x1, ⟨⟩⟩ := x
    refine Eq.trans ?_ h
    kernel_rfl

noncomputable def O59 : Orc := mkOrc [] [] [] [] []

/-- emendate/nfa.Valid$2 -/
noncomputable def p59 : ((Int) × Unit) → Option (Bool)
  | (x0, ()) =>
    some (decide (x0 < (-1 : Int)))

theorem s59 : SoundFn Try.prog 32 (fnOf [(.int .i64)] (.one .bool) p59) :=
  fn_pure hm0 hng0 hΓ0 (t := []) all_nil (ls := []) (cmds := []) (leaves := []) (fr := []) (pt := []) (D := 1) all_nil (by kernel_rfl) (hfr := all_nil) fun x r h => by
    obtain ⟨x0, ⟨⟩⟩ := x
    refine Eq.trans ?_ h
    kernel_rfl

noncomputable def L39_5 : Nat → ((Unit × Unit × (List ((Int) × ((Int) × ((Bool) × ((List (Int)) × (Unit)))))) × (Int) × (Int) × Unit) × (((Int) × (Int) × (List ((Int) × ((Int) × ((Bool) × ((List (Int)) × (Unit)))))) × (List (Int)) × Unit) × Unit)) → Option ((((Bool) × Unit) × (Unit)) ⊕ ((Unit × Unit) × (((Int) × (Int) × (List ((Int) × ((Int) × ((Bool) × ((List (Int)) × (Unit)))))) × (List (Int)) × Unit) × Unit)))
  | 0, _ => none
  | n + 1, ((_, _, x31, x32, x33, ()), (y1, ())) =>
    if (decide (x33 < x32)) = true then
      if decide (0 ≤ x33 ∧ x33 < (x31.length : Int)) = true then
        if (decide ((x31.getD x33.toNat (0, (0, (false, ((List.replicate 4 0), ()))))).1 ≥ (0 : Int))) = true then
          if (!(decide ((x31.getD x33.toNat (0, (0, (false, ((List.replicate 4 0), ()))))).1 < y1.1))) = true then
            some (.inl ((false, ()), ()))
          else
            if (decide ((x31.getD x33.toNat (0, (0, (false, ((List.replicate 4 0), ()))))).2.1 ≥ (0 : Int))) = true then
              if (!(decide ((x31.getD x33.toNat (0, (0, (false, ((List.replicate 4 0), ()))))).2.1 < y1.1))) = true then
                some (.inl ((false, ()), ()))
              else
                if (x31.getD x33.toNat (0, (0, (false, ((List.replicate 4 0), ()))))).2.2.1 = true then
                  if (!(Kind.eqB (.arr 4 (.int .u64)) [((x31.getD x33.toNat (0, (0, (false, ((List.replicate 4 0), ()))))).2.2.2.1.getD 0 0), ((x31.getD x33.toNat (0, (0, (false, ((List.replicate 4 0), ()))))).2.2.2.1.getD 1 0), ((x31.getD x33.toNat (0, (0, (false, ((List.replicate 4 0), ()))))).2.2.2.1.getD 2 0), ((x31.getD x33.toNat (0, (0, (false, ((List.replicate 4 0), ()))))).2.2.2.1.getD 3 0)] [(0 : Int), (0 : Int), (0 : Int), (0 : Int)])) = true then
                    some (.inl ((false, ()), ()))
                  else
                    L39_5 n (((), (), x31, x32, (IntKind.i64.wrap (x33 + (1 : Int))), ()), ((y1.1, y1.2.1, y1.2.2.1, y1.2.2.2.1, ()), ()))
                else
                  L39_5 n (((), (), x31, x32, (IntKind.i64.wrap (x33 + (1 : Int))), ()), ((y1.1, y1.2.1, y1.2.2.1, y1.2.2.2.1, ()), ()))
            else
              some (.inl ((false, ()), ()))
        else
          some (.inl ((false, ()), ()))
      else
        none
    else
      some (.inr (((), ()), ((y1.1, y1.2.1, y1.2.2.1, y1.2.2.2.1, ()), ())))

noncomputable def EL39_5 : LoopEnt := ⟨[12], 5, ⟨[], [1, 3, 31, 32, 33], [1]⟩, [.ptr 1 0, .fnp 30 [1], .kd (.slice (.pair (.int .i64) (.pair (.int .i64) (.pair .bool (.pair (.arr 4 (.int .u64)) .unit))))), .kd (.int .i64), .kd (.int .i64)], [.box [.kd (.int .i64), .kd (.int .i64), .kd (.slice (.pair (.int .i64) (.pair (.int .i64) (.pair .bool (.pair (.arr 4 (.int .u64)) .unit))))), .kd (.slice (.int .i64))]], [⟨.ret, [2], [.kd .bool], [], []⟩, ⟨(.exit 0), [1], [.ptr 1 0], [1], [.box [.kd (.int .i64), .kd (.int .i64), .kd (.slice (.pair (.int .i64) (.pair (.int .i64) (.pair .bool (.pair (.arr 4 (.int .u64)) .unit))))), .kd (.slice (.int .i64))]]⟩], limit L39_5⟩

noncomputable def L54_27_39_2 : Nat → (((List (Int)) × Unit × (Int) × (Int) × Unit) × (((Int) × (Int) × (List ((Int) × ((Int) × ((Bool) × ((List (Int)) × (Unit)))))) × (List (Int)) × Unit) × Unit)) → Option ((((Int) × Unit) × (((Int) × (Int) × (List ((Int) × ((Int) × ((Bool) × ((List (Int)) × (Unit)))))) × (List (Int)) × Unit) × Unit)) ⊕ ((Unit) × (((Int) × (Int) × (List ((Int) × ((Int) × ((Bool) × ((List (Int)) × (Unit)))))) × (List (Int)) × Unit) × Unit)))
  | 0, _ => none
  | n + 1, ((x0, _, x7, x8, ()), (y1, ())) =>
    if (decide (x8 < x7)) = true then
      if decide (0 ≤ x8 ∧ x8 < (x0.length : Int)) = true then
        (p59 ((x0.getD x8.toNat 0), ())).bind fun c1 =>
        if c1 = true then
          some (.inl ((x8, ()), ((y1.1, y1.2.1, y1.2.2.1, y1.2.2.2.1, ()), ())))
        else
          L54_27_39_2 n ((x0, (), x7, (IntKind.i64.wrap (x8 + (1 : Int))), ()), ((y1.1, y1.2.1, y1.2.2.1, y1.2.2.2.1, ()), ()))
      else
        none
    else
      some (.inr ((), ((y1.1, y1.2.1, y1.2.2.1, y1.2.2.2.1, ()), ())))

noncomputable def EL54_27_39_2 : LoopEnt := ⟨[49, 31, 12], 2, ⟨[], [0, 1, 7, 8], [1]⟩, [.kd (.slice (.int .i64)), .fnp 32 [], .kd (.int .i64), .kd (.int .i64)], [.box [.kd (.int .i64), .kd (.int .i64), .kd (.slice (.pair (.int .i64) (.pair (.int .i64) (.pair .bool (.pair (.arr 4 (.int .u64)) .unit))))), .kd (.slice (.int .i64))]], [⟨.ret, [4], [.kd (.int .i64)], [1], [.box [.kd (.int .i64), .kd (.int .i64), .kd (.slice (.pair (.int .i64) (.pair (.int .i64) (.pair .bool (.pair (.arr 4 (.int .u64)) .unit))))), .kd (.slice (.int .i64))]]⟩, ⟨(.exit 0), [], [], [1], [.box [.kd (.int .i64), .kd (.int .i64), .kd (.slice (.pair (.int .i64) (.pair (.int .i64) (.pair .bool (.pair (.arr 4 (.int .u64)) .unit))))), .kd (.slice (.int .i64))]]⟩], limit L54_27_39_2⟩

noncomputable def O39 : Orc := mkOrc [(32, fnOf [(.int .i64)] (.one .bool) p59)] [EL39_5, EL54_27_39_2] [] [] []

theorem cL39_5 : LoopCert Try.prog O39 Γ0 3 EL39_5 :=
  ⟨⟨12, 0, L39_5, rfl, by kernel_rfl, by decide, limit_fn, fun _ => rfl, fun m old x r h => by
    obtain ⟨⟨x1, x3, x31, x32, x33, ⟨⟩⟩, y1, ⟨⟩⟩ := x
    refine Eq.trans ?_ h
    kernel_rfl⟩⟩

theorem cL54_27_39_2 : LoopCert Try.prog O39 Γ0 3 EL54_27_39_2 :=
  ⟨⟨49, 0, L54_27_39_2, rfl, by kernel_rfl, by decide, limit_fn, fun _ => rfl, fun m old x r h => by
    obtain ⟨⟨x0, x1, x7, x8, ⟨⟩⟩, y1, ⟨⟩⟩ := x
    refine Eq.trans ?_ h
    kernel_rfl⟩⟩

/-- emendate/nfa.Valid -/
noncomputable def p39 : (((Int) × ((Int) × ((List ((Int) × ((Int) × ((Bool) × ((List (Int)) × (Unit)))))) × ((List (Int)) × (Unit))))) × Unit) → Option (Bool)
  | (x0, ()) =>
    if (decide (x0.1 < (1 : Int))) = true then
      some false
    else
      if (decide (x0.1 > (2000 : Int))) = true then
        some false
      else
        if (decide (x0.2.1 ≥ (0 : Int))) = true then
          if (!(decide (x0.2.1 < x0.1))) = true then
            some false
          else
            if (!decide ((x0.2.2.2.1.length : Int) = x0.1)) = true then
              some false
            else
              (limit L39_5 (((), (), x0.2.2.1, (x0.2.2.1.length : Int), (0 : Int), ()), ((x0.1, x0.2.1, x0.2.2.1, x0.2.2.2.1, ()), ()))).bind (Sum.elim (fun r1 =>
                some r1.1.1) (fun r1 =>
                (limit L54_27_39_2 ((r1.2.1.2.2.2.1, (), (r1.2.1.2.2.2.1.length : Int), (0 : Int), ()), ((r1.2.1.1, r1.2.1.2.1, r1.2.1.2.2.1, r1.2.1.2.2.2.1, ()), ()))).bind (Sum.elim (fun r2 =>
                  some (!(decide (r2.1.1 ≥ (0 : Int))))) (fun _ =>
                  some (!(decide ((-1 : Int) ≥ (0 : Int))))))))
        else
          some false

theorem s39 : SoundFn Try.prog 12 (fnOf [(.pair (.int .i64) (.pair (.int .i64) (.pair (.slice (.pair (.int .i64) (.pair (.int .i64) (.pair .bool (.pair (.arr 4 (.int .u64)) .unit))))) (.pair (.slice (.int .i64)) .unit))))] (.one .bool) p39) :=
  fn_pure hm0 hng0 hΓ0 (t := [(32, fnOf [(.int .i64)] (.one .bool) p59)]) (all_cons s59 all_nil) (ls := [EL39_5, EL54_27_39_2]) (cmds := []) (leaves := []) (fr := []) (pt := []) (D := 3) (all_cons cL39_5 (all_cons cL54_27_39_2 all_nil)) (by kernel_rfl) (hfr := all_nil) fun x r h => by
    obtain ⟨x0, ⟨⟩⟩ := x
    refine Eq.trans ?_ h
    kernel_rfl

noncomputable def L45_4 : Nat → ((Unit × (Int) × Unit) × (((Int) × (Int) × (List ((Int) × ((Int) × ((Bool) × ((List (Int)) × (Unit)))))) × (List (Int)) × Unit) × Unit)) → Option ((((Bool) × Unit) × (Unit)) ⊕ ((Unit × Unit) × (((Int) × (Int) × (List ((Int) × ((Int) × ((Bool) × ((List (Int)) × (Unit)))))) × (List (Int)) × Unit) × Unit)))
  | 0, _ => none
  | n + 1, ((_, x3, ()), (y1, ())) =>
    if (decide (x3 < (y1.2.2.2.1.length : Int))) = true then
      if decide (0 ≤ x3 ∧ x3 < (y1.2.2.2.1.length : Int)) = true then
        if (decide ((y1.2.2.2.1.getD x3.toNat 0) < (-1 : Int))) = true then
          some (.inl ((false, ()), ()))
        else
          L45_4 n (((), (IntKind.i64.wrap (x3 + (1 : Int))), ()), ((y1.1, y1.2.1, y1.2.2.1, y1.2.2.2.1, ()), ()))
      else
        none
    else
      some (.inr (((), ()), ((y1.1, y1.2.1, y1.2.2.1, y1.2.2.2.1, ()), ())))

noncomputable def EL45_4 : LoopEnt := ⟨[13], 4, ⟨[], [1, 3], [1]⟩, [.ptr 1 0, .kd (.int .i64)], [.box [.kd (.int .i64), .kd (.int .i64), .kd (.slice (.pair (.int .i64) (.pair (.int .i64) (.pair .bool (.pair (.arr 4 (.int .u64)) .unit))))), .kd (.slice (.int .i64))]], [⟨.ret, [2], [.kd .bool], [], []⟩, ⟨(.exit 0), [1], [.ptr 1 0], [1], [.box [.kd (.int .i64), .kd (.int .i64), .kd (.slice (.pair (.int .i64) (.pair (.int .i64) (.pair .bool (.pair (.arr 4 (.int .u64)) .unit))))), .kd (.slice (.int .i64))]]⟩], limit L45_4⟩

noncomputable def L45_9 : Nat → ((Unit × (Int) × Unit) × (((Int) × (Int) × (List ((Int) × ((Int) × ((Bool) × ((List (Int)) × (Unit)))))) × (List (Int)) × Unit) × Unit)) → Option ((((Bool) × Unit) × (Unit)) ⊕ ((Unit) × (Unit)))
  | 0, _ => none
  | n + 1, ((_, x4, ()), (y1, ())) =>
    if (decide (x4 < (y1.2.2.1.length : Int))) = true then
      if decide (0 ≤ x4 ∧ x4 < (y1.2.2.1.length : Int)) = true then
        if (decide ((y1.2.2.1.getD x4.toNat (0, (0, (false, ((List.replicate 4 0), ()))))).1 < (0 : Int))) = true then
          some (.inl ((false, ()), ()))
        else
          if (decide ((y1.2.2.1.getD x4.toNat (0, (0, (false, ((List.replicate 4 0), ()))))).1 ≥ y1.1)) = true then
            some (.inl ((false, ()), ()))
          else
            if (decide ((y1.2.2.1.getD x4.toNat (0, (0, (false, ((List.replicate 4 0), ()))))).2.1 < (0 : Int))) = true then
              some (.inl ((false, ()), ()))
            else
              if (decide ((y1.2.2.1.getD x4.toNat (0, (0, (false, ((List.replicate 4 0), ()))))).2.1 ≥ y1.1)) = true then
                some (.inl ((false, ()), ()))
              else
                if (y1.2.2.1.getD x4.toNat (0, (0, (false, ((List.replicate 4 0), ()))))).2.2.1 = true then
                  if (!(Kind.eqB (.arr 4 (.int .u64)) [((y1.2.2.1.getD x4.toNat (0, (0, (false, ((List.replicate 4 0), ()))))).2.2.2.1.getD 0 0), ((y1.2.2.1.getD x4.toNat (0, (0, (false, ((List.replicate 4 0), ()))))).2.2.2.1.getD 1 0), ((y1.2.2.1.getD x4.toNat (0, (0, (false, ((List.replicate 4 0), ()))))).2.2.2.1.getD 2 0), ((y1.2.2.1.getD x4.toNat (0, (0, (false, ((List.replicate 4 0), ()))))).2.2.2.1.getD 3 0)] [(0 : Int), (0 : Int), (0 : Int), (0 : Int)])) = true then
                    some (.inl ((false, ()), ()))
                  else
                    L45_9 n (((), (IntKind.i64.wrap (x4 + (1 : Int))), ()), ((y1.1, y1.2.1, y1.2.2.1, y1.2.2.2.1, ()), ()))
                else
                  L45_9 n (((), (IntKind.i64.wrap (x4 + (1 : Int))), ()), ((y1.1, y1.2.1, y1.2.2.1, y1.2.2.2.1, ()), ()))
      else
        none
    else
      some (.inr ((), ()))

noncomputable def EL45_9 : LoopEnt := ⟨[13], 9, ⟨[], [1, 4], [1]⟩, [.ptr 1 0, .kd (.int .i64)], [.box [.kd (.int .i64), .kd (.int .i64), .kd (.slice (.pair (.int .i64) (.pair (.int .i64) (.pair .bool (.pair (.arr 4 (.int .u64)) .unit))))), .kd (.slice (.int .i64))]], [⟨.ret, [2], [.kd .bool], [], []⟩, ⟨(.exit 2), [], [], [], []⟩], limit L45_9⟩

noncomputable def O45 : Orc := mkOrc [] [EL45_4, EL45_9] [] [] []

theorem cL45_4 : LoopCert Try.prog O45 Γ0 1 EL45_4 :=
  ⟨⟨13, 0, L45_4, rfl, by kernel_rfl, by decide, limit_fn, fun _ => rfl, fun m old x r h => by
    obtain ⟨⟨x1, x3, ⟨⟩⟩, y1, ⟨⟩⟩ := x
    refine Eq.trans ?_ h
    kernel_rfl⟩⟩

theorem cL45_9 : LoopCert Try.prog O45 Γ0 1 EL45_9 :=
  ⟨⟨13, 1, L45_9, rfl, by kernel_rfl, by decide, limit_fn, fun _ => rfl, fun m old x r h => by
    obtain ⟨⟨x1, x4, ⟨⟩⟩, y1, ⟨⟩⟩ := x
    refine Eq.trans ?_ h
    kernel_rfl⟩⟩

/-- emendate/emendateref09.Valid -/
noncomputable def p45 : (((Int) × ((Int) × ((List ((Int) × ((Int) × ((Bool) × ((List (Int)) × (Unit)))))) × ((List (Int)) × (Unit))))) × Unit) → Option (Bool)
  | (x0, ()) =>
    if (decide (x0.1 < (1 : Int))) = true then
      some false
    else
      if (decide (x0.1 > (2000 : Int))) = true then
        some false
      else
        if (decide (x0.2.1 < (0 : Int))) = true then
          some false
        else
          if (decide (x0.2.1 ≥ x0.1)) = true then
            some false
          else
            if (!decide ((x0.2.2.2.1.length : Int) = x0.1)) = true then
              some false
            else
              (limit L45_4 (((), (0 : Int), ()), ((x0.1, x0.2.1, x0.2.2.1, x0.2.2.2.1, ()), ()))).bind (Sum.elim (fun r1 =>
                some r1.1.1) (fun r1 =>
                (limit L45_9 (((), (0 : Int), ()), ((r1.2.1.1, r1.2.1.2.1, r1.2.1.2.2.1, r1.2.1.2.2.2.1, ()), ()))).bind (Sum.elim (fun r2 =>
                  some r2.1.1) (fun _ =>
                  some true))))

theorem s45 : SoundFn Try.prog 13 (fnOf [(.pair (.int .i64) (.pair (.int .i64) (.pair (.slice (.pair (.int .i64) (.pair (.int .i64) (.pair .bool (.pair (.arr 4 (.int .u64)) .unit))))) (.pair (.slice (.int .i64)) .unit))))] (.one .bool) p45) :=
  fn_pure hm0 hng0 hΓ0 (t := []) all_nil (ls := [EL45_4, EL45_9]) (cmds := []) (leaves := []) (fr := []) (pt := []) (D := 1) (all_cons cL45_4 (all_cons cL45_9 all_nil)) (by kernel_rfl) (hfr := all_nil) fun x r h => by
    obtain ⟨x0, ⟨⟩⟩ := x
    refine Eq.trans ?_ h
    kernel_rfl

noncomputable def L48_3 : Nat → (((List (Int)) × Unit × Unit × (Int) × Unit) × (((Int) × (Int) × (List ((Int) × ((Int) × ((Bool) × ((List (Int)) × (Unit)))))) × (List (Int)) × Unit) × (List (Bool)) × Unit)) → Option ((Unit × Unit × Unit) × (((Int) × (Int) × (List ((Int) × ((Int) × ((Bool) × ((List (Int)) × (Unit)))))) × (List (Int)) × Unit) × (List (Bool)) × Unit))
  | 0, _ => none
  | n + 1, ((x1, _, _, x6, ()), (y2, y12, ())) =>
    if (decide (x6 < (x1.length : Int))) = true then
      if decide (0 ≤ x6 ∧ x6 < (x1.length : Int)) = true then
        if (decide ((x1.getD x6.toNat 0) ≥ (0 : Int))) = true then
          if decide (0 ≤ x6 ∧ x6 < (x1.length : Int)) = true then
            if (decide ((x1.getD x6.toNat 0) < y2.1)) = true then
              if decide (0 ≤ x6 ∧ x6 < (x1.length : Int)) = true then
                if decide (0 ≤ (x1.getD x6.toNat 0) ∧ (x1.getD x6.toNat 0) < (y12.length : Int)) = true then
                  L48_3 n ((x1, (), (), (IntKind.i64.wrap (x6 + (1 : Int))), ()), ((y2.1, y2.2.1, y2.2.2.1, y2.2.2.2.1, ()), (y12.set (x1.getD x6.toNat 0).toNat true), ()))
                else
                  none
              else
                none
            else
              L48_3 n ((x1, (), (), (IntKind.i64.wrap (x6 + (1 : Int))), ()), ((y2.1, y2.2.1, y2.2.2.1, y2.2.2.2.1, ()), y12, ()))
          else
            none
        else
          L48_3 n ((x1, (), (), (IntKind.i64.wrap (x6 + (1 : Int))), ()), ((y2.1, y2.2.1, y2.2.2.1, y2.2.2.2.1, ()), y12, ()))
      else
        none
    else
      some (((), (), ()), ((y2.1, y2.2.1, y2.2.2.1, y2.2.2.2.1, ()), y12, ()))

noncomputable def EL48_3 : LoopEnt := ⟨[17], 3, ⟨[], [1, 2, 5, 6], [2, 12]⟩, [.kd (.slice (.int .i64)), .ptr 2 0, .ref 12, .kd (.int .i64)], [.box [.kd (.int .i64), .kd (.int .i64), .kd (.slice (.pair (.int .i64) (.pair (.int .i64) (.pair .bool (.pair (.arr 4 (.int .u64)) .unit))))), .kd (.slice (.int .i64))], .row .bool], [⟨(.exit 0), [2, 5], [.ptr 2 0, .ref 12], [2, 12], [.box [.kd (.int .i64), .kd (.int .i64), .kd (.slice (.pair (.int .i64) (.pair (.int .i64) (.pair .bool (.pair (.arr 4 (.int .u64)) .unit))))), .kd (.slice (.int .i64))], .row .bool]⟩], limit L48_3⟩

noncomputable def L48_11 : Nat → ((Unit × Unit × (Bool) × (Int) × Unit) × (((Int) × (Int) × (List ((Int) × ((Int) × ((Bool) × ((List (Int)) × (Unit)))))) × (List (Int)) × Unit) × (List (Bool)) × Unit)) → Option ((Unit × Unit × (Bool) × Unit) × (((Int) × (Int) × (List ((Int) × ((Int) × ((Bool) × ((List (Int)) × (Unit)))))) × (List (Int)) × Unit) × (List (Bool)) × Unit))
  | 0, _ => none
  | n + 1, ((_, _, x7, x8, ()), (y2, y12, ())) =>
    if (decide (x8 < (y2.2.2.1.length : Int))) = true then
      if decide (0 ≤ x8 ∧ x8 < (y2.2.2.1.length : Int)) = true then
        if (y2.2.2.1.getD x8.toNat (0, (0, (false, ((List.replicate 4 0), ()))))).2.2.1 = true then
          if decide (0 ≤ (y2.2.2.1.getD x8.toNat (0, (0, (false, ((List.replicate 4 0), ()))))).1 ∧ (y2.2.2.1.getD x8.toNat (0, (0, (false, ((List.replicate 4 0), ()))))).1 < (y12.length : Int)) = true then
            if (y12.getD (y2.2.2.1.getD x8.toNat (0, (0, (false, ((List.replicate 4 0), ()))))).1.toNat false) = true then
              if decide (0 ≤ (y2.2.2.1.getD x8.toNat (0, (0, (false, ((List.replicate 4 0), ()))))).2.1 ∧ (y2.2.2.1.getD x8.toNat (0, (0, (false, ((List.replicate 4 0), ()))))).2.1 < (y12.length : Int)) = true then
                if (!(y12.getD (y2.2.2.1.getD x8.toNat (0, (0, (false, ((List.replicate 4 0), ()))))).2.1.toNat false)) = true then
                  if decide (0 ≤ (y2.2.2.1.getD x8.toNat (0, (0, (false, ((List.replicate 4 0), ()))))).2.1 ∧ (y2.2.2.1.getD x8.toNat (0, (0, (false, ((List.replicate 4 0), ()))))).2.1 < (y12.length : Int)) = true then
                    L48_11 n (((), (), true, (IntKind.i64.wrap (x8 + (1 : Int))), ()), ((y2.1, y2.2.1, y2.2.2.1, y2.2.2.2.1, ()), (y12.set (y2.2.2.1.getD x8.toNat (0, (0, (false, ((List.replicate 4 0), ()))))).2.1.toNat true), ()))
                  else
                    none
                else
                  L48_11 n (((), (), x7, (IntKind.i64.wrap (x8 + (1 : Int))), ()), ((y2.1, y2.2.1, y2.2.2.1, y2.2.2.2.1, ()), y12, ()))
              else
                none
            else
              L48_11 n (((), (), x7, (IntKind.i64.wrap (x8 + (1 : Int))), ()), ((y2.1, y2.2.1, y2.2.2.1, y2.2.2.2.1, ()), y12, ()))
          else
            none
        else
          L48_11 n (((), (), x7, (IntKind.i64.wrap (x8 + (1 : Int))), ()), ((y2.1, y2.2.1, y2.2.2.1, y2.2.2.2.1, ()), y12, ()))
      else
        none
    else
      some (((), (), x7, ()), ((y2.1, y2.2.1, y2.2.2.1, y2.2.2.2.1, ()), y12, ()))

noncomputable def EL48_11 : LoopEnt := ⟨[17], 11, ⟨[], [2, 5, 7, 8], [2, 12]⟩, [.ptr 2 0, .ref 12, .kd .bool, .kd (.int .i64)], [.box [.kd (.int .i64), .kd (.int .i64), .kd (.slice (.pair (.int .i64) (.pair (.int .i64) (.pair .bool (.pair (.arr 4 (.int .u64)) .unit))))), .kd (.slice (.int .i64))], .row .bool], [⟨(.exit 4), [2, 5, 7], [.ptr 2 0, .ref 12, .kd .bool], [2, 12], [.box [.kd (.int .i64), .kd (.int .i64), .kd (.slice (.pair (.int .i64) (.pair (.int .i64) (.pair .bool (.pair (.arr 4 (.int .u64)) .unit))))), .kd (.slice (.int .i64))], .row .bool]⟩], limit L48_11⟩

noncomputable def L48_8 : Nat → ((Unit × Unit × (Bool) × Unit) × (((Int) × (Int) × (List ((Int) × ((Int) × ((Bool) × ((List (Int)) × (Unit)))))) × (List (Int)) × Unit) × (List (Bool)) × Unit)) → Option ((Unit × Unit) × ((List (Bool)) × Unit))
  | 0, _ => none
  | n + 1, ((_, _, x7, ()), (y2, y12, ())) =>
    if x7 = true then
      (limit L48_11 (((), (), false, (0 : Int), ()), ((y2.1, y2.2.1, y2.2.2.1, y2.2.2.2.1, ()), y12, ()))).bind fun r1 =>
      L48_8 n (((), (), r1.1.2.2.1, ()), ((r1.2.1.1, r1.2.1.2.1, r1.2.1.2.2.1, r1.2.1.2.2.2.1, ()), r1.2.2.1, ()))
    else
      some (((), ()), (y12, ()))

noncomputable def EL48_8 : LoopEnt := ⟨[17], 8, ⟨[], [2, 5, 7], [2, 12]⟩, [.ptr 2 0, .ref 12, .kd .bool], [.box [.kd (.int .i64), .kd (.int .i64), .kd (.slice (.pair (.int .i64) (.pair (.int .i64) (.pair .bool (.pair (.arr 4 (.int .u64)) .unit))))), .kd (.slice (.int .i64))], .row .bool], [⟨(.exit 2), [5], [.ref 12], [12], [.row .bool]⟩], limit L48_8⟩

noncomputable def L64_48_3 : Nat → ((Unit × Unit × (Int) × Unit) × ((List (Bool)) × (List (Int)) × Unit)) → Option ((Unit × Unit) × ((List (Bool)) × (List (Int)) × Unit))
  | 0, _ => none
  | n + 1, ((_, _, x4, ()), (y12, y1003, ())) =>
    if (decide (x4 < (y12.length : Int))) = true then
      if decide (0 ≤ x4 ∧ x4 < (y12.length : Int)) = true then
        if (y12.getD x4.toNat false) = true then
          if decide (y1003.length + ([x4] : List (Int)).length ≤ lim) = true then
            L64_48_3 n (((), (), (IntKind.i64.wrap (x4 + (1 : Int))), ()), (y12, (y1003 ++ ([x4] : List (Int))), ()))
          else
            none
        else
          L64_48_3 n (((), (), (IntKind.i64.wrap (x4 + (1 : Int))), ()), (y12, y1003, ()))
      else
        none
    else
      some (((), ()), (y12, y1003, ()))

noncomputable def EL64_48_3 : LoopEnt := ⟨[35, 17], 3, ⟨[.keep [0, 3, 4] [12, 1003, 1018], .adopt 3 (.int .i64) 1003], [0, 3, 4], [12, 1003]⟩, [.ref 12, .ref 1003, .kd (.int .i64)], [.row .bool, .row (.int .i64)], [⟨(.exit 0), [3], [.ref 1003], [12, 1003], [.row .bool, .row (.int .i64)]⟩], limit L64_48_3⟩

noncomputable def O48 : Orc := mkOrc [] [EL48_3, EL48_11, EL48_8, EL64_48_3] [] [] []

theorem cL48_3 : LoopCert Try.prog O48 Γ0 2 EL48_3 :=
  ⟨⟨17, 0, L48_3, rfl, by kernel_rfl, by decide, limit_fn, fun _ => rfl, fun m old x r h => by
    obtain ⟨⟨x1, x2, x5, x6, ⟨⟩⟩, y2, y12, ⟨⟩⟩ := x
    refine Eq.trans ?_ h
    kernel_rfl⟩⟩

theorem cL48_11 : LoopCert Try.prog O48 Γ0 2 EL48_11 :=
  ⟨⟨17, 2, L48_11, rfl, by kernel_rfl, by decide, limit_fn, fun _ => rfl, fun m old x r h => by
    obtain ⟨⟨x2, x5, x7, x8, ⟨⟩⟩, y2, y12, ⟨⟩⟩ := x
    refine Eq.trans ?_ h
    kernel_rfl⟩⟩

theorem cL48_8 : LoopCert Try.prog O48 Γ0 2 EL48_8 :=
  ⟨⟨17, 1, L48_8, rfl, by kernel_rfl, by decide, limit_fn, fun _ => rfl, fun m old x r h => by
    obtain ⟨⟨x2, x5, x7, ⟨⟩⟩, y2, y12, ⟨⟩⟩ := x
    refine Eq.trans ?_ h
    kernel_rfl⟩⟩

theorem cL64_48_3 : LoopCert Try.prog O48 Γ0 2 EL64_48_3 :=
  ⟨⟨35, 0, L64_48_3, rfl, by kernel_rfl, by decide, limit_fn, fun _ => rfl, fun m old x r h => by
    obtain ⟨⟨x0, x3, x4, ⟨⟩⟩, y12, y1003, ⟨⟩⟩ := x
    refine Eq.trans ?_ h
    kernel_rfl⟩⟩

/-- emendate/emendateref09.Closure -/
noncomputable def p48 : (((Int) × ((Int) × ((List ((Int) × ((Int) × ((Bool) × ((List (Int)) × (Unit)))))) × ((List (Int)) × (Unit))))) × (List (Int)) × Unit) → Option (List (Int))
  | (x0, x1, ()) =>
    if decide (x0.1 = x0.1 ∧ 0 ≤ x0.1 ∧ x0.1 ≤ (lim : Int)) = true then
      (limit L48_3 ((x1, (), (), (0 : Int), ()), ((x0.1, x0.2.1, x0.2.2.1, x0.2.2.2.1, ()), (List.replicate x0.1.toNat false), ()))).bind fun r1 =>
      (limit L48_8 (((), (), true, ()), ((r1.2.1.1, r1.2.1.2.1, r1.2.1.2.2.1, r1.2.1.2.2.2.1, ()), r1.2.2.1, ()))).bind fun r2 =>
      (limit L64_48_3 (((), (), (0 : Int), ()), (r2.2.1, ([] : List (Int)), ()))).bind fun r3 =>
      some r3.2.2.1
    else
      none

theorem s48 : SoundFn Try.prog 17 (fnOf [(.pair (.int .i64) (.pair (.int .i64) (.pair (.slice (.pair (.int .i64) (.pair (.int .i64) (.pair .bool (.pair (.arr 4 (.int .u64)) .unit))))) (.pair (.slice (.int .i64)) .unit)))), (.slice (.int .i64))] (.one (.slice (.int .i64))) p48) :=
  fn_pure hm0 hng0 hΓ0 (t := []) all_nil (ls := [EL48_3, EL48_11, EL48_8, EL64_48_3]) (cmds := []) (leaves := []) (fr := []) (pt := []) (D := 2) (all_cons cL48_3 (all_cons cL48_11 (all_cons cL48_8 (all_cons cL64_48_3 all_nil)))) (by kernel_rfl) (hfr := all_nil) fun x r h => by
    obtain ⟨x0, x1, ⟨⟩⟩ := x
    refine Eq.trans ?_ h
    kernel_rfl

noncomputable def L41_5 : Nat → ((Unit × Unit × Unit × Unit × (List (Int)) × (Int) × (Int) × Unit) × (((Int) × (Int) × (List ((Int) × ((Int) × ((Bool) × ((List (Int)) × (Unit)))))) × (List (Int)) × Unit) × (Unit × Unit) × (Unit × Unit) × (List (Bool)) × (List (Int)) × Unit)) → Option ((Unit × Unit × Unit × Unit × Unit) × (((Int) × (Int) × (List ((Int) × ((Int) × ((Bool) × ((List (Int)) × (Unit)))))) × (List (Int)) × Unit) × (Unit × Unit) × (Unit × Unit) × (List (Bool)) × (List (Int)) × Unit))
  | 0, _ => none
  | n + 1, ((_, _, _, _, x17, x18, x19, ()), (y2, _, _, y15, y306, ())) =>
    if (decide (x19 < x18)) = true then
      if decide (0 ≤ x19 ∧ x19 < (x17.length : Int)) = true then
        if (decide ((x17.getD x19.toNat 0) ≥ (0 : Int))) = true then
          if (decide ((x17.getD x19.toNat 0) < y2.1)) = true then
            if decide (0 ≤ (x17.getD x19.toNat 0) ∧ (x17.getD x19.toNat 0) < (y15.length : Int)) = true then
              if (!(y15.getD (x17.getD x19.toNat 0).toNat false)) = true then
                if decide (0 ≤ (x17.getD x19.toNat 0) ∧ (x17.getD x19.toNat 0) < (y15.length : Int)) = true then
                  if decide (y306.length + ([(x17.getD x19.toNat 0)] : List (Int)).length ≤ lim) = true then
                    L41_5 n (((), (), (), (), x17, x18, (IntKind.i64.wrap (x19 + (1 : Int))), ()), ((y2.1, y2.2.1, y2.2.2.1, y2.2.2.2.1, ()), ((), ()), ((), ()), (y15.set (x17.getD x19.toNat 0).toNat true), (y306 ++ ([(x17.getD x19.toNat 0)] : List (Int))), ()))
                  else
                    none
                else
                  none
              else
                L41_5 n (((), (), (), (), x17, x18, (IntKind.i64.wrap (x19 + (1 : Int))), ()), ((y2.1, y2.2.1, y2.2.2.1, y2.2.2.2.1, ()), ((), ()), ((), ()), y15, y306, ()))
            else
              none
          else
            L41_5 n (((), (), (), (), x17, x18, (IntKind.i64.wrap (x19 + (1 : Int))), ()), ((y2.1, y2.2.1, y2.2.2.1, y2.2.2.2.1, ()), ((), ()), ((), ()), y15, y306, ()))
        else
          L41_5 n (((), (), (), (), x17, x18, (IntKind.i64.wrap (x19 + (1 : Int))), ()), ((y2.1, y2.2.1, y2.2.2.1, y2.2.2.2.1, ()), ((), ()), ((), ()), y15, y306, ()))
      else
        none
    else
      some (((), (), (), (), ()), ((y2.1, y2.2.1, y2.2.2.1, y2.2.2.2.1, ()), ((), ()), ((), ()), y15, y306, ()))

noncomputable def EL41_5 : LoopEnt := ⟨[15], 5, ⟨[.keep [2, 5, 6, 7, 17, 18, 19] [2, 5, 6, 15, 307], .adoptCell 6 0 (.int .i64) 306], [2, 5, 6, 7, 17, 18, 19], [2, 5, 6, 15, 306]⟩, [.ptr 2 0, .ptr 5 0, .ptr 6 0, .fnp 33 [2, 5, 6], .kd (.slice (.int .i64)), .kd (.int .i64), .kd (.int .i64)], [.box [.kd (.int .i64), .kd (.int .i64), .kd (.slice (.pair (.int .i64) (.pair (.int .i64) (.pair .bool (.pair (.arr 4 (.int .u64)) .unit))))), .kd (.slice (.int .i64))], .box [.ref 15], .box [.ref 306], .row .bool, .row (.int .i64)], [⟨(.exit 0), [2, 5, 6, 7], [.ptr 2 0, .ptr 5 0, .ptr 6 0, .fnp 33 [2, 5, 6]], [2, 5, 6, 15, 306], [.box [.kd (.int .i64), .kd (.int .i64), .kd (.slice (.pair (.int .i64) (.pair (.int .i64) (.pair .bool (.pair (.arr 4 (.int .u64)) .unit))))), .kd (.slice (.int .i64))], .box [.ref 15], .box [.ref 306], .row .bool, .row (.int .i64)]⟩], limit L41_5⟩

noncomputable def L41_13 : Nat → ((Unit × Unit × Unit × Unit × (Int) × (List ((Int) × ((Int) × ((Bool) × ((List (Int)) × (Unit)))))) × (Int) × (Int) × Unit) × (((Int) × (Int) × (List ((Int) × ((Int) × ((Bool) × ((List (Int)) × (Unit)))))) × (List (Int)) × Unit) × (Unit × Unit) × (Unit × Unit) × (List (Bool)) × (List (Int)) × Unit)) → Option ((Unit × Unit × Unit × Unit × Unit) × (((Int) × (Int) × (List ((Int) × ((Int) × ((Bool) × ((List (Int)) × (Unit)))))) × (List (Int)) × Unit) × (Unit × Unit) × (Unit × Unit) × (List (Bool)) × (List (Int)) × Unit))
  | 0, _ => none
  | n + 1, ((_, _, _, _, x10, x42, x43, x44, ()), (y2, _, _, y15, y306, ())) =>
    if (decide (x44 < x43)) = true then
      if decide (0 ≤ x44 ∧ x44 < (x42.length : Int)) = true then
        if (x42.getD x44.toNat (0, (0, (false, ((List.replicate 4 0), ()))))).2.2.1 = true then
          if (decide ((x42.getD x44.toNat (0, (0, (false, ((List.replicate 4 0), ()))))).1 = x10)) = true then
            if (decide ((x42.getD x44.toNat (0, (0, (false, ((List.replicate 4 0), ()))))).2.1 ≥ (0 : Int))) = true then
              if (decide ((x42.getD x44.toNat (0, (0, (false, ((List.replicate 4 0), ()))))).2.1 < y2.1)) = true then
                if decide (0 ≤ (x42.getD x44.toNat (0, (0, (false, ((List.replicate 4 0), ()))))).2.1 ∧ (x42.getD x44.toNat (0, (0, (false, ((List.replicate 4 0), ()))))).2.1 < (y15.length : Int)) = true then
                  if (!(y15.getD (x42.getD x44.toNat (0, (0, (false, ((List.replicate 4 0), ()))))).2.1.toNat false)) = true then
                    if decide (0 ≤ (x42.getD x44.toNat (0, (0, (false, ((List.replicate 4 0), ()))))).2.1 ∧ (x42.getD x44.toNat (0, (0, (false, ((List.replicate 4 0), ()))))).2.1 < (y15.length : Int)) = true then
                      if decide (y306.length + ([(x42.getD x44.toNat (0, (0, (false, ((List.replicate 4 0), ()))))).2.1] : List (Int)).length ≤ lim) = true then
                        L41_13 n (((), (), (), (), x10, x42, x43, (IntKind.i64.wrap (x44 + (1 : Int))), ()), ((y2.1, y2.2.1, y2.2.2.1, y2.2.2.2.1, ()), ((), ()), ((), ()), (y15.set (x42.getD x44.toNat (0, (0, (false, ((List.replicate 4 0), ()))))).2.1.toNat true), (y306 ++ ([(x42.getD x44.toNat (0, (0, (false, ((List.replicate 4 0), ()))))).2.1] : List (Int))), ()))
                      else
                        none
                    else
                      none
                  else
                    L41_13 n (((), (), (), (), x10, x42, x43, (IntKind.i64.wrap (x44 + (1 : Int))), ()), ((y2.1, y2.2.1, y2.2.2.1, y2.2.2.2.1, ()), ((), ()), ((), ()), y15, y306, ()))
                else
                  none
              else
                L41_13 n (((), (), (), (), x10, x42, x43, (IntKind.i64.wrap (x44 + (1 : Int))), ()), ((y2.1, y2.2.1, y2.2.2.1, y2.2.2.2.1, ()), ((), ()), ((), ()), y15, y306, ()))
            else
              L41_13 n (((), (), (), (), x10, x42, x43, (IntKind.i64.wrap (x44 + (1 : Int))), ()), ((y2.1, y2.2.1, y2.2.2.1, y2.2.2.2.1, ()), ((), ()), ((), ()), y15, y306, ()))
          else
            L41_13 n (((), (), (), (), x10, x42, x43, (IntKind.i64.wrap (x44 + (1 : Int))), ()), ((y2.1, y2.2.1, y2.2.2.1, y2.2.2.2.1, ()), ((), ()), ((), ()), y15, y306, ()))
        else
          L41_13 n (((), (), (), (), x10, x42, x43, (IntKind.i64.wrap (x44 + (1 : Int))), ()), ((y2.1, y2.2.1, y2.2.2.1, y2.2.2.2.1, ()), ((), ()), ((), ()), y15, y306, ()))
      else
        none
    else
      some (((), (), (), (), ()), ((y2.1, y2.2.1, y2.2.2.1, y2.2.2.2.1, ()), ((), ()), ((), ()), y15, y306, ()))

noncomputable def EL41_13 : LoopEnt := ⟨[15], 13, ⟨[.keep [2, 5, 6, 7, 10, 42, 43, 44] [2, 5, 6, 15, 306, 307], .adoptCell 6 0 (.int .i64) 306], [2, 5, 6, 7, 10, 42, 43, 44], [2, 5, 6, 15, 306]⟩, [.ptr 2 0, .ptr 5 0, .ptr 6 0, .fnp 33 [2, 5, 6], .kd (.int .i64), .kd (.slice (.pair (.int .i64) (.pair (.int .i64) (.pair .bool (.pair (.arr 4 (.int .u64)) .unit))))), .kd (.int .i64), .kd (.int .i64)], [.box [.kd (.int .i64), .kd (.int .i64), .kd (.slice (.pair (.int .i64) (.pair (.int .i64) (.pair .bool (.pair (.arr 4 (.int .u64)) .unit))))), .kd (.slice (.int .i64))], .box [.ref 15], .box [.ref 306], .row .bool, .row (.int .i64)], [⟨(.exit 4), [2, 5, 6, 7], [.ptr 2 0, .ptr 5 0, .ptr 6 0, .fnp 33 [2, 5, 6]], [2, 5, 6, 15, 306], [.box [.kd (.int .i64), .kd (.int .i64), .kd (.slice (.pair (.int .i64) (.pair (.int .i64) (.pair .bool (.pair (.arr 4 (.int .u64)) .unit))))), .kd (.slice (.int .i64))], .box [.ref 15], .box [.ref 306], .row .bool, .row (.int .i64)]⟩], limit L41_13⟩

noncomputable def L41_9 : Nat → ((Unit × Unit × Unit × Unit × Unit) × (((Int) × (Int) × (List ((Int) × ((Int) × ((Bool) × ((List (Int)) × (Unit)))))) × (List (Int)) × Unit) × (Unit × Unit) × (Unit × Unit) × (List (Bool)) × (List (Int)) × Unit)) → Option ((Unit × Unit) × ((Unit × Unit) × (List (Bool)) × Unit))
  | 0, _ => none
  | n + 1, ((_, _, _, _, ()), (y2, _, _, y15, y306, ())) =>
    if (decide ((y306.length : Int) > (0 : Int))) = true then
      if decide (0 ≤ (IntKind.i64.wrap ((y306.length : Int) - (1 : Int))) ∧ (IntKind.i64.wrap ((y306.length : Int) - (1 : Int))) < (y306.length : Int)) = true then
        if decide (0 ≤ (IntKind.i64.wrap ((y306.length : Int) - (1 : Int))) ∧ (IntKind.i64.wrap ((y306.length : Int) - (1 : Int))) ≤ (y306.length : Int)) = true then
          (limit L41_13 (((), (), (), (), (y306.getD (IntKind.i64.wrap ((y306.length : Int) - (1 : Int))).toNat 0), y2.2.2.1, (y2.2.2.1.length : Int), (0 : Int), ()), ((y2.1, y2.2.1, y2.2.2.1, y2.2.2.2.1, ()), ((), ()), ((), ()), y15, (y306.take (IntKind.i64.wrap ((y306.length : Int) - (1 : Int))).toNat), ()))).bind fun r1 =>
          L41_9 n (((), (), (), (), ()), ((r1.2.1.1, r1.2.1.2.1, r1.2.1.2.2.1, r1.2.1.2.2.2.1, ()), ((), ()), ((), ()), r1.2.2.2.2.1, r1.2.2.2.2.2.1, ()))
        else
          none
      else
        none
    else
      some (((), ()), (((), ()), y15, ()))

noncomputable def EL41_9 : LoopEnt := ⟨[15], 9, ⟨[.keep [2, 5, 6, 7] [2, 5, 6, 15, 306], .adoptCell 6 0 (.int .i64) 306], [2, 5, 6, 7], [2, 5, 6, 15, 306]⟩, [.ptr 2 0, .ptr 5 0, .ptr 6 0, .fnp 33 [2, 5, 6]], [.box [.kd (.int .i64), .kd (.int .i64), .kd (.slice (.pair (.int .i64) (.pair (.int .i64) (.pair .bool (.pair (.arr 4 (.int .u64)) .unit))))), .kd (.slice (.int .i64))], .box [.ref 15], .box [.ref 306], .row .bool, .row (.int .i64)], [⟨(.exit 2), [5], [.ptr 5 0], [5, 15], [.box [.ref 15], .row .bool]⟩], limit L41_9⟩

noncomputable def L62_41_3 : Nat → ((Unit × Unit × (Int) × (Int) × Unit) × ((Unit × Unit) × (List (Bool)) × (List (Int)) × Unit)) → Option ((Unit × Unit) × ((Unit × Unit) × (List (Bool)) × (List (Int)) × Unit))
  | 0, _ => none
  | n + 1, ((_, _, x7, x8, ()), (_, y15, y1003, ())) =>
    if (decide (x8 < x7)) = true then
      if decide (0 ≤ x8 ∧ x8 < (y15.length : Int)) = true then
        if (y15.getD x8.toNat false) = true then
          if decide (y1003.length + ([x8] : List (Int)).length ≤ lim) = true then
            L62_41_3 n (((), (), x7, (IntKind.i64.wrap (x8 + (1 : Int))), ()), (((), ()), y15, (y1003 ++ ([x8] : List (Int))), ()))
          else
            none
        else
          L62_41_3 n (((), (), x7, (IntKind.i64.wrap (x8 + (1 : Int))), ()), (((), ()), y15, y1003, ()))
      else
        none
    else
      some (((), ()), (((), ()), y15, y1003, ()))

noncomputable def EL62_41_3 : LoopEnt := ⟨[34, 15], 3, ⟨[.keep [3, 6, 7, 8] [5, 15, 1003, 1017], .adopt 3 (.int .i64) 1003], [3, 6, 7, 8], [5, 15, 1003]⟩, [.ref 1003, .ref 15, .kd (.int .i64), .kd (.int .i64)], [.box [.ref 15], .row .bool, .row (.int .i64)], [⟨(.exit 0), [3], [.ref 1003], [5, 15, 1003], [.box [.ref 15], .row .bool, .row (.int .i64)]⟩], limit L62_41_3⟩

noncomputable def O41 : Orc := mkOrc [] [EL41_5, EL41_13, EL41_9, EL62_41_3] [] [([33, 15], [.adoptCell 6 0 (.int .i64) 307])] []

theorem cL41_5 : LoopCert Try.prog O41 Γ0 2 EL41_5 :=
  ⟨⟨15, 0, L41_5, rfl, by kernel_rfl, by decide, limit_fn, fun _ => rfl, fun m old x r h => by
    obtain ⟨⟨x2, x5, x6, x7, x17, x18, x19, ⟨⟩⟩, y2, y5, y6, y15, y306, ⟨⟩⟩ := x
    refine Eq.trans ?_ h
    kernel_rfl⟩⟩

theorem cL41_13 : LoopCert Try.prog O41 Γ0 2 EL41_13 :=
  ⟨⟨15, 2, L41_13, rfl, by kernel_rfl, by decide, limit_fn, fun _ => rfl, fun m old x r h => by
    obtain ⟨⟨x2, x5, x6, x7, x10, x42, x43, x44, ⟨⟩⟩, y2, y5, y6, y15, y306, ⟨⟩⟩ := x
    refine Eq.trans ?_ h
    kernel_rfl⟩⟩

theorem cL41_9 : LoopCert Try.prog O41 Γ0 2 EL41_9 :=
  ⟨⟨15, 1, L41_9, rfl, by kernel_rfl, by decide, limit_fn, fun _ => rfl, fun m old x r h => by
    obtain ⟨⟨x2, x5, x6, x7, ⟨⟩⟩, y2, y5, y6, y15, y306, ⟨⟩⟩ := x
    refine Eq.trans ?_ h
    kernel_rfl⟩⟩

theorem cL62_41_3 : LoopCert Try.prog O41 Γ0 2 EL62_41_3 :=
  ⟨⟨34, 0, L62_41_3, rfl, by kernel_rfl, by decide, limit_fn, fun _ => rfl, fun m old x r h => by
    obtain ⟨⟨x3, x6, x7, x8, ⟨⟩⟩, y5, y15, y1003, ⟨⟩⟩ := x
    refine Eq.trans ?_ h
    kernel_rfl⟩⟩

/-- emendate/nfa.Closure -/
noncomputable def p41 : (((Int) × ((Int) × ((List ((Int) × ((Int) × ((Bool) × ((List (Int)) × (Unit)))))) × ((List (Int)) × (Unit))))) × (List (Int)) × Unit) → Option (List (Int))
  | (x0, x1, ()) =>
    if decide (x0.1 = x0.1 ∧ 0 ≤ x0.1 ∧ x0.1 ≤ (lim : Int)) = true then
      (limit L41_5 (((), (), (), (), x1, (x1.length : Int), (0 : Int), ()), ((x0.1, x0.2.1, x0.2.2.1, x0.2.2.2.1, ()), ((), ()), ((), ()), (List.replicate x0.1.toNat false), ([] : List (Int)), ()))).bind fun r1 =>
      (limit L41_9 (((), (), (), (), ()), ((r1.2.1.1, r1.2.1.2.1, r1.2.1.2.2.1, r1.2.1.2.2.2.1, ()), ((), ()), ((), ()), r1.2.2.2.2.1, r1.2.2.2.2.2.1, ()))).bind fun r2 =>
      (limit L62_41_3 (((), (), (r2.2.2.1.length : Int), (0 : Int), ()), (((), ()), r2.2.2.1, ([] : List (Int)), ()))).bind fun r3 =>
      some r3.2.2.2.1
    else
      none

theorem s41 : SoundFn Try.prog 15 (fnOf [(.pair (.int .i64) (.pair (.int .i64) (.pair (.slice (.pair (.int .i64) (.pair (.int .i64) (.pair .bool (.pair (.arr 4 (.int .u64)) .unit))))) (.pair (.slice (.int .i64)) .unit)))), (.slice (.int .i64))] (.one (.slice (.int .i64))) p41) :=
  fn_pure hm0 hng0 hΓ0 (t := []) all_nil (ls := [EL41_5, EL41_13, EL41_9, EL62_41_3]) (cmds := []) (leaves := [([33, 15], [.adoptCell 6 0 (.int .i64) 307])]) (fr := []) (pt := []) (D := 2) (all_cons cL41_5 (all_cons cL41_13 (all_cons cL41_9 (all_cons cL62_41_3 all_nil)))) (by kernel_rfl) (hfr := all_nil) fun x r h => by
    obtain ⟨x0, x1, ⟨⟩⟩ := x
    refine Eq.trans ?_ h
    kernel_rfl

def Γ49 : TEnv := { Γ0 with imm := [62] }
theorem hΓ49 : Γ49.ok Try.prog = true := hΓ0

noncomputable def L49_4 : Nat → (((Int) × Unit × Unit × (List (Int)) × (Int) × Unit) × (((Int) × (Int) × (List ((Int) × ((Int) × ((Bool) × ((List (Int)) × (Unit)))))) × (List (Int)) × Unit) × (List (Bool)) × Unit)) → Option (((Int) × Unit × Unit × Unit) × (((Int) × (Int) × (List ((Int) × ((Int) × ((Bool) × ((List (Int)) × (Unit)))))) × (List (Int)) × Unit) × (List (Bool)) × Unit))
  | 0, _ => none
  | n + 1, ((x2, _, _, x8, x9, ()), (y3, y15, ())) =>
    if (decide (x9 < (x8.length : Int))) = true then
      if decide (0 ≤ x9 ∧ x9 < (x8.length : Int)) = true then
        if decide (0 ≤ (x8.getD x9.toNat 0) ∧ (x8.getD x9.toNat 0) < (y15.length : Int)) = true then
          L49_4 n ((x2, (), (), x8, (IntKind.i64.wrap (x9 + (1 : Int))), ()), ((y3.1, y3.2.1, y3.2.2.1, y3.2.2.2.1, ()), (y15.set (x8.getD x9.toNat 0).toNat true), ()))
        else
          none
      else
        none
    else
      some ((x2, (), (), ()), ((y3.1, y3.2.1, y3.2.2.1, y3.2.2.2.1, ()), y15, ()))

noncomputable def EL49_4 : LoopEnt := ⟨[19], 4, ⟨[], [2, 3, 7, 8, 9], [3, 15]⟩, [.kd (.int .u8), .ptr 3 0, .ref 15, .kd (.slice (.int .i64)), .kd (.int .i64)], [.box [.kd (.int .i64), .kd (.int .i64), .kd (.slice (.pair (.int .i64) (.pair (.int .i64) (.pair .bool (.pair (.arr 4 (.int .u64)) .unit))))), .kd (.slice (.int .i64))], .row .bool], [⟨(.exit 0), [2, 3, 7], [.kd (.int .u8), .ptr 3 0, .ref 15], [3, 15], [.box [.kd (.int .i64), .kd (.int .i64), .kd (.slice (.pair (.int .i64) (.pair (.int .i64) (.pair .bool (.pair (.arr 4 (.int .u64)) .unit))))), .kd (.slice (.int .i64))], .row .bool]⟩], limit L49_4⟩

noncomputable def L49_9 : Nat → (((Int) × Unit × Unit × Unit × (Int) × Unit) × (((Int) × (Int) × (List ((Int) × ((Int) × ((Bool) × ((List (Int)) × (Unit)))))) × (List (Int)) × Unit) × (List (Int)) × (List (Bool)) × Unit)) → Option ((Unit × Unit × Unit) × (((Int) × (Int) × (List ((Int) × ((Int) × ((Bool) × ((List (Int)) × (Unit)))))) × (List (Int)) × Unit) × (List (Int)) × Unit))
  | 0, _ => none
  | n + 1, ((x2, _, _, _, x11, ()), (y3, y10, y15, ())) =>
    if (decide (x11 < (y3.2.2.1.length : Int))) = true then
      if decide (0 ≤ x11 ∧ x11 < (y3.2.2.1.length : Int)) = true then
        if (!(y3.2.2.1.getD x11.toNat (0, (0, (false, ((List.replicate 4 0), ()))))).2.2.1) = true then
          if decide (0 ≤ (y3.2.2.1.getD x11.toNat (0, (0, (false, ((List.replicate 4 0), ()))))).1 ∧ (y3.2.2.1.getD x11.toNat (0, (0, (false, ((List.replicate 4 0), ()))))).1 < (y15.length : Int)) = true then
            if (y15.getD (y3.2.2.1.getD x11.toNat (0, (0, (false, ((List.replicate 4 0), ()))))).1.toNat false) = true then
              (p65 ([((y3.2.2.1.getD x11.toNat (0, (0, (false, ((List.replicate 4 0), ()))))).2.2.2.1.getD 0 0), ((y3.2.2.1.getD x11.toNat (0, (0, (false, ((List.replicate 4 0), ()))))).2.2.2.1.getD 1 0), ((y3.2.2.1.getD x11.toNat (0, (0, (false, ((List.replicate 4 0), ()))))).2.2.2.1.getD 2 0), ((y3.2.2.1.getD x11.toNat (0, (0, (false, ((List.replicate 4 0), ()))))).2.2.2.1.getD 3 0)], x2, ())).bind fun c1 =>
              if c1 = true then
                if decide (y10.length + ([(y3.2.2.1.getD x11.toNat (0, (0, (false, ((List.replicate 4 0), ()))))).2.1] : List (Int)).length ≤ lim) = true then
                  L49_9 n ((x2, (), (), (), (IntKind.i64.wrap (x11 + (1 : Int))), ()), ((y3.1, y3.2.1, y3.2.2.1, y3.2.2.2.1, ()), (y10 ++ ([(y3.2.2.1.getD x11.toNat (0, (0, (false, ((List.replicate 4 0), ()))))).2.1] : List (Int))), y15, ()))
                else
                  none
              else
                L49_9 n ((x2, (), (), (), (IntKind.i64.wrap (x11 + (1 : Int))), ()), ((y3.1, y3.2.1, y3.2.2.1, y3.2.2.2.1, ()), y10, y15, ()))
            else
              L49_9 n ((x2, (), (), (), (IntKind.i64.wrap (x11 + (1 : Int))), ()), ((y3.1, y3.2.1, y3.2.2.1, y3.2.2.2.1, ()), y10, y15, ()))
          else
            none
        else
          L49_9 n ((x2, (), (), (), (IntKind.i64.wrap (x11 + (1 : Int))), ()), ((y3.1, y3.2.1, y3.2.2.1, y3.2.2.2.1, ()), y10, y15, ()))
      else
        none
    else
      some (((), (), ()), ((y3.1, y3.2.1, y3.2.2.1, y3.2.2.2.1, ()), y10, ()))

noncomputable def EL49_9 : LoopEnt := ⟨[19], 9, ⟨[.keep [2, 3, 7, 10, 11] [3, 10, 15, 63], .adopt 10 (.int .i64) 10], [2, 3, 7, 10, 11], [3, 10, 15]⟩, [.kd (.int .u8), .ptr 3 0, .ref 15, .ref 10, .kd (.int .i64)], [.box [.kd (.int .i64), .kd (.int .i64), .kd (.slice (.pair (.int .i64) (.pair (.int .i64) (.pair .bool (.pair (.arr 4 (.int .u64)) .unit))))), .kd (.slice (.int .i64))], .row (.int .i64), .row .bool], [⟨(.exit 2), [3, 10], [.ptr 3 0, .ref 10], [3, 10], [.box [.kd (.int .i64), .kd (.int .i64), .kd (.slice (.pair (.int .i64) (.pair (.int .i64) (.pair .bool (.pair (.arr 4 (.int .u64)) .unit))))), .kd (.slice (.int .i64))], .row (.int .i64)]⟩], limit L49_9⟩

noncomputable def L48_49_3 : Nat → ((Unit × Unit × Unit × (Int) × Unit) × (((Int) × (Int) × (List ((Int) × ((Int) × ((Bool) × ((List (Int)) × (Unit)))))) × (List (Int)) × Unit) × (List (Int)) × ((Int) × (Int) × (List ((Int) × ((Int) × ((Bool) × ((List (Int)) × (Unit)))))) × (List (Int)) × Unit) × (List (Bool)) × Unit)) → Option ((Unit × Unit × Unit) × (((Int) × (Int) × (List ((Int) × ((Int) × ((Bool) × ((List (Int)) × (Unit)))))) × (List (Int)) × Unit) × (List (Int)) × ((Int) × (Int) × (List ((Int) × ((Int) × ((Bool) × ((List (Int)) × (Unit)))))) × (List (Int)) × Unit) × (List (Bool)) × Unit))
  | 0, _ => none
  | n + 1, ((_, _, _, x6, ()), (y3, y10, y1002, y1012, ())) =>
    if (decide (x6 < (y10.length : Int))) = true then
      if decide (0 ≤ x6 ∧ x6 < (y10.length : Int)) = true then
        if (decide ((y10.getD x6.toNat 0) ≥ (0 : Int))) = true then
          if decide (0 ≤ x6 ∧ x6 < (y10.length : Int)) = true then
            if (decide ((y10.getD x6.toNat 0) < y1002.1)) = true then
              if decide (0 ≤ x6 ∧ x6 < (y10.length : Int)) = true then
                if decide (0 ≤ (y10.getD x6.toNat 0) ∧ (y10.getD x6.toNat 0) < (y1012.length : Int)) = true then
                  L48_49_3 n (((), (), (), (IntKind.i64.wrap (x6 + (1 : Int))), ()), ((y3.1, y3.2.1, y3.2.2.1, y3.2.2.2.1, ()), y10, (y1002.1, y1002.2.1, y1002.2.2.1, y1002.2.2.2.1, ()), (y1012.set (y10.getD x6.toNat 0).toNat true), ()))
                else
                  none
              else
                none
            else
              L48_49_3 n (((), (), (), (IntKind.i64.wrap (x6 + (1 : Int))), ()), ((y3.1, y3.2.1, y3.2.2.1, y3.2.2.2.1, ()), y10, (y1002.1, y1002.2.1, y1002.2.2.1, y1002.2.2.2.1, ()), y1012, ()))
          else
            none
        else
          L48_49_3 n (((), (), (), (IntKind.i64.wrap (x6 + (1 : Int))), ()), ((y3.1, y3.2.1, y3.2.2.1, y3.2.2.2.1, ()), y10, (y1002.1, y1002.2.1, y1002.2.2.1, y1002.2.2.2.1, ()), y1012, ()))
      else
        none
    else
      some (((), (), ()), ((y3.1, y3.2.1, y3.2.2.1, y3.2.2.2.1, ()), y10, (y1002.1, y1002.2.1, y1002.2.2.1, y1002.2.2.2.1, ()), y1012, ()))

noncomputable def EL48_49_3 : LoopEnt := ⟨[17, 19], 3, ⟨[], [1, 2, 5, 6], [3, 10, 1002, 1012]⟩, [.ref 10, .ptr 1002 0, .ref 1012, .kd (.int .i64)], [.box [.kd (.int .i64), .kd (.int .i64), .kd (.slice (.pair (.int .i64) (.pair (.int .i64) (.pair .bool (.pair (.arr 4 (.int .u64)) .unit))))), .kd (.slice (.int .i64))], .row (.int .i64), .box [.kd (.int .i64), .kd (.int .i64), .kd (.slice (.pair (.int .i64) (.pair (.int .i64) (.pair .bool (.pair (.arr 4 (.int .u64)) .unit))))), .kd (.slice (.int .i64))], .row .bool], [⟨(.exit 0), [2, 5], [.ptr 1002 0, .ref 1012], [3, 10, 1002, 1012], [.box [.kd (.int .i64), .kd (.int .i64), .kd (.slice (.pair (.int .i64) (.pair (.int .i64) (.pair .bool (.pair (.arr 4 (.int .u64)) .unit))))), .kd (.slice (.int .i64))], .row (.int .i64), .box [.kd (.int .i64), .kd (.int .i64), .kd (.slice (.pair (.int .i64) (.pair (.int .i64) (.pair .bool (.pair (.arr 4 (.int .u64)) .unit))))), .kd (.slice (.int .i64))], .row .bool]⟩], limit L48_49_3⟩

noncomputable def L48_49_11 : Nat → ((Unit × Unit × (Bool) × (Int) × Unit) × (((Int) × (Int) × (List ((Int) × ((Int) × ((Bool) × ((List (Int)) × (Unit)))))) × (List (Int)) × Unit) × (List (Int)) × ((Int) × (Int) × (List ((Int) × ((Int) × ((Bool) × ((List (Int)) × (Unit)))))) × (List (Int)) × Unit) × (List (Bool)) × Unit)) → Option ((Unit × Unit × (Bool) × Unit) × (((Int) × (Int) × (List ((Int) × ((Int) × ((Bool) × ((List (Int)) × (Unit)))))) × (List (Int)) × Unit) × (List (Int)) × ((Int) × (Int) × (List ((Int) × ((Int) × ((Bool) × ((List (Int)) × (Unit)))))) × (List (Int)) × Unit) × (List (Bool)) × Unit))
  | 0, _ => none
  | n + 1, ((_, _, x7, x8, ()), (y3, y10, y1002, y1012, ())) =>
    if (decide (x8 < (y1002.2.2.1.length : Int))) = true then
      if decide (0 ≤ x8 ∧ x8 < (y1002.2.2.1.length : Int)) = true then
        if (y1002.2.2.1.getD x8.toNat (0, (0, (false, ((List.replicate 4 0), ()))))).2.2.1 = true then
          if decide (0 ≤ (y1002.2.2.1.getD x8.toNat (0, (0, (false, ((List.replicate 4 0), ()))))).1 ∧ (y1002.2.2.1.getD x8.toNat (0, (0, (false, ((List.replicate 4 0), ()))))).1 < (y1012.length : Int)) = true then
            if (y1012.getD (y1002.2.2.1.getD x8.toNat (0, (0, (false, ((List.replicate 4 0), ()))))).1.toNat false) = true then
              if decide (0 ≤ (y1002.2.2.1.getD x8.toNat (0, (0, (false, ((List.replicate 4 0), ()))))).2.1 ∧ (y1002.2.2.1.getD x8.toNat (0, (0, (false, ((List.replicate 4 0), ()))))).2.1 < (y1012.length : Int)) = true then
                if (!(y1012.getD (y1002.2.2.1.getD x8.toNat (0, (0, (false, ((List.replicate 4 0), ()))))).2.1.toNat false)) = true then
                  if decide (0 ≤ (y1002.2.2.1.getD x8.toNat (0, (0, (false, ((List.replicate 4 0), ()))))).2.1 ∧ (y1002.2.2.1.getD x8.toNat (0, (0, (false, ((List.replicate 4 0), ()))))).2.1 < (y1012.length : Int)) = true then
                    L48_49_11 n (((), (), true, (IntKind.i64.wrap (x8 + (1 : Int))), ()), ((y3.1, y3.2.1, y3.2.2.1, y3.2.2.2.1, ()), y10, (y1002.1, y1002.2.1, y1002.2.2.1, y1002.2.2.2.1, ()), (y1012.set (y1002.2.2.1.getD x8.toNat (0, (0, (false, ((List.replicate 4 0), ()))))).2.1.toNat true), ()))
                  else
                    none
                else
                  L48_49_11 n (((), (), x7, (IntKind.i64.wrap (x8 + (1 : Int))), ()), ((y3.1, y3.2.1, y3.2.2.1, y3.2.2.2.1, ()), y10, (y1002.1, y1002.2.1, y1002.2.2.1, y1002.2.2.2.1, ()), y1012, ()))
              else
                none
            else
              L48_49_11 n (((), (), x7, (IntKind.i64.wrap (x8 + (1 : Int))), ()), ((y3.1, y3.2.1, y3.2.2.1, y3.2.2.2.1, ()), y10, (y1002.1, y1002.2.1, y1002.2.2.1, y1002.2.2.2.1, ()), y1012, ()))
          else
            none
        else
          L48_49_11 n (((), (), x7, (IntKind.i64.wrap (x8 + (1 : Int))), ()), ((y3.1, y3.2.1, y3.2.2.1, y3.2.2.2.1, ()), y10, (y1002.1, y1002.2.1, y1002.2.2.1, y1002.2.2.2.1, ()), y1012, ()))
      else
        none
    else
      some (((), (), x7, ()), ((y3.1, y3.2.1, y3.2.2.1, y3.2.2.2.1, ()), y10, (y1002.1, y1002.2.1, y1002.2.2.1, y1002.2.2.2.1, ()), y1012, ()))

noncomputable def EL48_49_11 : LoopEnt := ⟨[17, 19], 11, ⟨[], [2, 5, 7, 8], [3, 10, 1002, 1012]⟩, [.ptr 1002 0, .ref 1012, .kd .bool, .kd (.int .i64)], [.box [.kd (.int .i64), .kd (.int .i64), .kd (.slice (.pair (.int .i64) (.pair (.int .i64) (.pair .bool (.pair (.arr 4 (.int .u64)) .unit))))), .kd (.slice (.int .i64))], .row (.int .i64), .box [.kd (.int .i64), .kd (.int .i64), .kd (.slice (.pair (.int .i64) (.pair (.int .i64) (.pair .bool (.pair (.arr 4 (.int .u64)) .unit))))), .kd (.slice (.int .i64))], .row .bool], [⟨(.exit 4), [2, 5, 7], [.ptr 1002 0, .ref 1012, .kd .bool], [3, 10, 1002, 1012], [.box [.kd (.int .i64), .kd (.int .i64), .kd (.slice (.pair (.int .i64) (.pair (.int .i64) (.pair .bool (.pair (.arr 4 (.int .u64)) .unit))))), .kd (.slice (.int .i64))], .row (.int .i64), .box [.kd (.int .i64), .kd (.int .i64), .kd (.slice (.pair (.int .i64) (.pair (.int .i64) (.pair .bool (.pair (.arr 4 (.int .u64)) .unit))))), .kd (.slice (.int .i64))], .row .bool]⟩], limit L48_49_11⟩

noncomputable def L48_49_8 : Nat → ((Unit × Unit × (Bool) × Unit) × (((Int) × (Int) × (List ((Int) × ((Int) × ((Bool) × ((List (Int)) × (Unit)))))) × (List (Int)) × Unit) × (List (Int)) × ((Int) × (Int) × (List ((Int) × ((Int) × ((Bool) × ((List (Int)) × (Unit)))))) × (List (Int)) × Unit) × (List (Bool)) × Unit)) → Option ((Unit × Unit) × (((Int) × (Int) × (List ((Int) × ((Int) × ((Bool) × ((List (Int)) × (Unit)))))) × (List (Int)) × Unit) × (List (Int)) × (List (Bool)) × Unit))
  | 0, _ => none
  | n + 1, ((_, _, x7, ()), (y3, y10, y1002, y1012, ())) =>
    if x7 = true then
      (limit L48_49_11 (((), (), false, (0 : Int), ()), ((y3.1, y3.2.1, y3.2.2.1, y3.2.2.2.1, ()), y10, (y1002.1, y1002.2.1, y1002.2.2.1, y1002.2.2.2.1, ()), y1012, ()))).bind fun r1 =>
      L48_49_8 n (((), (), r1.1.2.2.1, ()), ((r1.2.1.1, r1.2.1.2.1, r1.2.1.2.2.1, r1.2.1.2.2.2.1, ()), r1.2.2.1, (r1.2.2.2.1.1, r1.2.2.2.1.2.1, r1.2.2.2.1.2.2.1, r1.2.2.2.1.2.2.2.1, ()), r1.2.2.2.2.1, ()))
    else
      some (((), ()), ((y3.1, y3.2.1, y3.2.2.1, y3.2.2.2.1, ()), y10, y1012, ()))

noncomputable def EL48_49_8 : LoopEnt := ⟨[17, 19], 8, ⟨[], [2, 5, 7], [3, 10, 1002, 1012]⟩, [.ptr 1002 0, .ref 1012, .kd .bool], [.box [.kd (.int .i64), .kd (.int .i64), .kd (.slice (.pair (.int .i64) (.pair (.int .i64) (.pair .bool (.pair (.arr 4 (.int .u64)) .unit))))), .kd (.slice (.int .i64))], .row (.int .i64), .box [.kd (.int .i64), .kd (.int .i64), .kd (.slice (.pair (.int .i64) (.pair (.int .i64) (.pair .bool (.pair (.arr 4 (.int .u64)) .unit))))), .kd (.slice (.int .i64))], .row .bool], [⟨(.exit 2), [5], [.ref 1012], [3, 10, 1012], [.box [.kd (.int .i64), .kd (.int .i64), .kd (.slice (.pair (.int .i64) (.pair (.int .i64) (.pair .bool (.pair (.arr 4 (.int .u64)) .unit))))), .kd (.slice (.int .i64))], .row (.int .i64), .row .bool]⟩], limit L48_49_8⟩

noncomputable def L64_48_49_3 : Nat → ((Unit × Unit × (Int) × Unit) × (((Int) × (Int) × (List ((Int) × ((Int) × ((Bool) × ((List (Int)) × (Unit)))))) × (List (Int)) × Unit) × (List (Int)) × (List (Bool)) × (List (Int)) × Unit)) → Option ((Unit × Unit) × (((Int) × (Int) × (List ((Int) × ((Int) × ((Bool) × ((List (Int)) × (Unit)))))) × (List (Int)) × Unit) × (List (Int)) × (List (Bool)) × (List (Int)) × Unit))
  | 0, _ => none
  | n + 1, ((_, _, x4, ()), (y3, y10, y1012, y2003, ())) =>
    if (decide (x4 < (y1012.length : Int))) = true then
      if decide (0 ≤ x4 ∧ x4 < (y1012.length : Int)) = true then
        if (y1012.getD x4.toNat false) = true then
          if decide (y2003.length + ([x4] : List (Int)).length ≤ lim) = true then
            L64_48_49_3 n (((), (), (IntKind.i64.wrap (x4 + (1 : Int))), ()), ((y3.1, y3.2.1, y3.2.2.1, y3.2.2.2.1, ()), y10, y1012, (y2003 ++ ([x4] : List (Int))), ()))
          else
            none
        else
          L64_48_49_3 n (((), (), (IntKind.i64.wrap (x4 + (1 : Int))), ()), ((y3.1, y3.2.1, y3.2.2.1, y3.2.2.2.1, ()), y10, y1012, y2003, ()))
      else
        none
    else
      some (((), ()), ((y3.1, y3.2.1, y3.2.2.1, y3.2.2.2.1, ()), y10, y1012, y2003, ()))

noncomputable def EL64_48_49_3 : LoopEnt := ⟨[35, 17, 19], 3, ⟨[.keep [0, 3, 4] [3, 10, 1012, 2003, 2018], .adopt 3 (.int .i64) 2003], [0, 3, 4], [3, 10, 1012, 2003]⟩, [.ref 1012, .ref 2003, .kd (.int .i64)], [.box [.kd (.int .i64), .kd (.int .i64), .kd (.slice (.pair (.int .i64) (.pair (.int .i64) (.pair .bool (.pair (.arr 4 (.int .u64)) .unit))))), .kd (.slice (.int .i64))], .row (.int .i64), .row .bool, .row (.int .i64)], [⟨(.exit 0), [3], [.ref 2003], [3, 10, 1012, 2003], [.box [.kd (.int .i64), .kd (.int .i64), .kd (.slice (.pair (.int .i64) (.pair (.int .i64) (.pair .bool (.pair (.arr 4 (.int .u64)) .unit))))), .kd (.slice (.int .i64))], .row (.int .i64), .row .bool, .row (.int .i64)]⟩], limit L64_48_49_3⟩

noncomputable def O49 : Orc := mkOrc [(17, fnOf [(.pair (.int .i64) (.pair (.int .i64) (.pair (.slice (.pair (.int .i64) (.pair (.int .i64) (.pair .bool (.pair (.arr 4 (.int .u64)) .unit))))) (.pair (.slice (.int .i64)) .unit)))), (.slice (.int .i64))] (.one (.slice (.int .i64))) p48), (37, fnOf [(.arr 4 (.int .u64)), (.int .u8)] (.one .bool) p65)] [EL49_4, EL49_9, EL48_49_3, EL48_49_11, EL48_49_8, EL64_48_49_3] [] [] []

theorem cL49_4 : LoopCert Try.prog O49 Γ49 3 EL49_4 :=
  ⟨⟨19, 0, L49_4, rfl, by kernel_rfl, by decide, limit_fn, fun _ => rfl, fun m old x r h => by
    obtain ⟨⟨x2, x3, x7, x8, x9, ⟨⟩⟩, y3, y15, ⟨⟩⟩ := x
    refine Eq.trans ?_ h
    kernel_rfl⟩⟩

theorem cL49_9 : LoopCert Try.prog O49 Γ49 3 EL49_9 :=
  ⟨⟨19, 1, L49_9, rfl, by kernel_rfl, by decide, limit_fn, fun _ => rfl, fun m old x r h => by
    obtain ⟨⟨x2, x3, x7, x10, x11, ⟨⟩⟩, y3, y10, y15, ⟨⟩⟩ := x
    refine Eq.trans ?_ h
    kernel_rfl⟩⟩

theorem cL48_49_3 : LoopCert Try.prog O49 Γ49 3 EL48_49_3 :=
  ⟨⟨17, 0, L48_49_3, rfl, by kernel_rfl, by decide, limit_fn, fun _ => rfl, fun m old x r h => by
    obtain ⟨⟨x1, x2, x5, x6, ⟨⟩⟩, y3, y10, y1002, y1012, ⟨⟩⟩ := x
    refine Eq.trans ?_ h
    kernel_rfl⟩⟩

theorem cL48_49_11 : LoopCert Try.prog O49 Γ49 3 EL48_49_11 :=
  ⟨⟨17, 2, L48_49_11, rfl, by kernel_rfl, by decide, limit_fn, fun _ => rfl, fun m old x r h => by
    obtain ⟨⟨x2, x5, x7, x8, ⟨⟩⟩, y3, y10, y1002, y1012, ⟨⟩⟩ := x
    refine Eq.trans ?_ h
    kernel_rfl⟩⟩

theorem cL48_49_8 : LoopCert Try.prog O49 Γ49 3 EL48_49_8 :=
  ⟨⟨17, 1, L48_49_8, rfl, by kernel_rfl, by decide, limit_fn, fun _ => rfl, fun m old x r h => by
    obtain ⟨⟨x2, x5, x7, ⟨⟩⟩, y3, y10, y1002, y1012, ⟨⟩⟩ := x
    refine Eq.trans ?_ h
    kernel_rfl⟩⟩

theorem cL64_48_49_3 : LoopCert Try.prog O49 Γ49 3 EL64_48_49_3 :=
  ⟨⟨35, 0, L64_48_49_3, rfl, by kernel_rfl, by decide, limit_fn, fun _ => rfl, fun m old x r h => by
    obtain ⟨⟨x0, x3, x4, ⟨⟩⟩, y3, y10, y1012, y2003, ⟨⟩⟩ := x
    refine Eq.trans ?_ h
    kernel_rfl⟩⟩

/-- emendate/emendateref09.Step -/
noncomputable def p49 : (((Int) × ((Int) × ((List ((Int) × ((Int) × ((Bool) × ((List (Int)) × (Unit)))))) × ((List (Int)) × (Unit))))) × (List (Int)) × (Int) × Unit) → Option (List (Int))
  | (x0, x1, x2, ()) =>
    if decide (x0.1 = x0.1 ∧ 0 ≤ x0.1 ∧ x0.1 ≤ (lim : Int)) = true then
      (p48 ((x0.1, (x0.2.1, (x0.2.2.1, (x0.2.2.2.1, ())))), x1, ())).bind fun c1 =>
      (limit L49_4 ((x2, (), (), c1, (0 : Int), ()), ((x0.1, x0.2.1, x0.2.2.1, x0.2.2.2.1, ()), (List.replicate x0.1.toNat false), ()))).bind fun r2 =>
      (limit L49_9 ((r2.1.1, (), (), (), (0 : Int), ()), ((r2.2.1.1, r2.2.1.2.1, r2.2.1.2.2.1, r2.2.1.2.2.2.1, ()), ([] : List (Int)), r2.2.2.1, ()))).bind fun r3 =>
      if decide (r3.2.1.1 = r3.2.1.1 ∧ 0 ≤ r3.2.1.1 ∧ r3.2.1.1 ≤ (lim : Int)) = true then
        (limit L48_49_3 (((), (), (), (0 : Int), ()), ((r3.2.1.1, r3.2.1.2.1, r3.2.1.2.2.1, r3.2.1.2.2.2.1, ()), r3.2.2.1, (r3.2.1.1, r3.2.1.2.1, r3.2.1.2.2.1, r3.2.1.2.2.2.1, ()), (List.replicate r3.2.1.1.toNat false), ()))).bind fun r4 =>
        (limit L48_49_8 (((), (), true, ()), ((r4.2.1.1, r4.2.1.2.1, r4.2.1.2.2.1, r4.2.1.2.2.2.1, ()), r4.2.2.1, (r4.2.2.2.1.1, r4.2.2.2.1.2.1, r4.2.2.2.1.2.2.1, r4.2.2.2.1.2.2.2.1, ()), r4.2.2.2.2.1, ()))).bind fun r5 =>
        (limit L64_48_49_3 (((), (), (0 : Int), ()), ((r5.2.1.1, r5.2.1.2.1, r5.2.1.2.2.1, r5.2.1.2.2.2.1, ()), r5.2.2.1, r5.2.2.2.1, ([] : List (Int)), ()))).bind fun r6 =>
        some r6.2.2.2.2.1
      else
        none
    else
      none

theorem s49 : SoundFn Try.prog 19 (fnOf [(.pair (.int .i64) (.pair (.int .i64) (.pair (.slice (.pair (.int .i64) (.pair (.int .i64) (.pair .bool (.pair (.arr 4 (.int .u64)) .unit))))) (.pair (.slice (.int .i64)) .unit)))), (.slice (.int .i64)), (.int .u8)] (.one (.slice (.int .i64))) p49) :=
  fn_pure hm0 hng0 hΓ49 (t := [(17, fnOf [(.pair (.int .i64) (.pair (.int .i64) (.pair (.slice (.pair (.int .i64) (.pair (.int .i64) (.pair .bool (.pair (.arr 4 (.int .u64)) .unit))))) (.pair (.slice (.int .i64)) .unit)))), (.slice (.int .i64))] (.one (.slice (.int .i64))) p48), (37, fnOf [(.arr 4 (.int .u64)), (.int .u8)] (.one .bool) p65)]) (all_cons s48 (all_cons s65 all_nil)) (ls := [EL49_4, EL49_9, EL48_49_3, EL48_49_11, EL48_49_8, EL64_48_49_3]) (cmds := []) (leaves := []) (fr := []) (pt := []) (D := 3) (all_cons cL49_4 (all_cons cL49_9 (all_cons cL48_49_3 (all_cons cL48_49_11 (all_cons cL48_49_8 (all_cons cL64_48_49_3 all_nil)))))) (by kernel_rfl) (hfr := all_nil) fun x r h => by
    obtain ⟨x0, x1, x2, ⟨⟩⟩ := x
    refine Eq.trans ?_ h
    kernel_rfl

def Γ43 : TEnv := { Γ0 with imm := [54] }
theorem hΓ43 : Γ43.ok Try.prog = true := hΓ0

noncomputable def L43_3 : Nat → (((Int) × Unit × Unit × (List (Int)) × (Int) × (Int) × Unit) × (((Int) × (Int) × (List ((Int) × ((Int) × ((Bool) × ((List (Int)) × (Unit)))))) × (List (Int)) × Unit) × (List (Bool)) × Unit)) → Option (((Int) × Unit × Unit × Unit) × (((Int) × (Int) × (List ((Int) × ((Int) × ((Bool) × ((List (Int)) × (Unit)))))) × (List (Int)) × Unit) × (List (Bool)) × Unit))
  | 0, _ => none
  | n + 1, ((x2, _, _, x18, x19, x20, ()), (y3, y15, ())) =>
    if (decide (x20 < x19)) = true then
      if decide (0 ≤ x20 ∧ x20 < (x18.length : Int)) = true then
        if decide (0 ≤ (x18.getD x20.toNat 0) ∧ (x18.getD x20.toNat 0) < (y15.length : Int)) = true then
          L43_3 n ((x2, (), (), x18, x19, (IntKind.i64.wrap (x20 + (1 : Int))), ()), ((y3.1, y3.2.1, y3.2.2.1, y3.2.2.2.1, ()), (y15.set (x18.getD x20.toNat 0).toNat true), ()))
        else
          none
      else
        none
    else
      some ((x2, (), (), ()), ((y3.1, y3.2.1, y3.2.2.1, y3.2.2.2.1, ()), y15, ()))

noncomputable def EL43_3 : LoopEnt := ⟨[18], 3, ⟨[], [2, 3, 7, 18, 19, 20], [3, 15]⟩, [.kd (.int .u8), .ptr 3 0, .ref 15, .kd (.slice (.int .i64)), .kd (.int .i64), .kd (.int .i64)], [.box [.kd (.int .i64), .kd (.int .i64), .kd (.slice (.pair (.int .i64) (.pair (.int .i64) (.pair .bool (.pair (.arr 4 (.int .u64)) .unit))))), .kd (.slice (.int .i64))], .row .bool], [⟨(.exit 0), [2, 3, 7], [.kd (.int .u8), .ptr 3 0, .ref 15], [3, 15], [.box [.kd (.int .i64), .kd (.int .i64), .kd (.slice (.pair (.int .i64) (.pair (.int .i64) (.pair .bool (.pair (.arr 4 (.int .u64)) .unit))))), .kd (.slice (.int .i64))], .row .bool]⟩], limit L43_3⟩

noncomputable def L43_9 : Nat → (((Int) × Unit × Unit × Unit × (List ((Int) × ((Int) × ((Bool) × ((List (Int)) × (Unit)))))) × (Int) × (Int) × Unit) × (((Int) × (Int) × (List ((Int) × ((Int) × ((Bool) × ((List (Int)) × (Unit)))))) × (List (Int)) × Unit) × (List (Int)) × (List (Bool)) × Unit)) → Option ((Unit × Unit × Unit) × (((Int) × (Int) × (List ((Int) × ((Int) × ((Bool) × ((List (Int)) × (Unit)))))) × (List (Int)) × Unit) × (List (Int)) × Unit))
  | 0, _ => none
  | n + 1, ((x2, _, _, _, x29, x30, x31, ()), (y3, y10, y15, ())) =>
    if (decide (x31 < x30)) = true then
      if decide (0 ≤ x31 ∧ x31 < (x29.length : Int)) = true then
        if (!(x29.getD x31.toNat (0, (0, (false, ((List.replicate 4 0), ()))))).2.2.1) = true then
          if decide (0 ≤ (x29.getD x31.toNat (0, (0, (false, ((List.replicate 4 0), ()))))).1 ∧ (x29.getD x31.toNat (0, (0, (false, ((List.replicate 4 0), ()))))).1 < (y15.length : Int)) = true then
            if (y15.getD (x29.getD x31.toNat (0, (0, (false, ((List.replicate 4 0), ()))))).1.toNat false) = true then
              (p60 ([((x29.getD x31.toNat (0, (0, (false, ((List.replicate 4 0), ()))))).2.2.2.1.getD 0 0), ((x29.getD x31.toNat (0, (0, (false, ((List.replicate 4 0), ()))))).2.2.2.1.getD 1 0), ((x29.getD x31.toNat (0, (0, (false, ((List.replicate 4 0), ()))))).2.2.2.1.getD 2 0), ((x29.getD x31.toNat (0, (0, (false, ((List.replicate 4 0), ()))))).2.2.2.1.getD 3 0)], x2, ())).bind fun c1 =>
              if c1 = true then
                if decide (y10.length + ([(x29.getD x31.toNat (0, (0, (false, ((List.replicate 4 0), ()))))).2.1] : List (Int)).length ≤ lim) = true then
                  L43_9 n ((x2, (), (), (), x29, x30, (IntKind.i64.wrap (x31 + (1 : Int))), ()), ((y3.1, y3.2.1, y3.2.2.1, y3.2.2.2.1, ()), (y10 ++ ([(x29.getD x31.toNat (0, (0, (false, ((List.replicate 4 0), ()))))).2.1] : List (Int))), y15, ()))
                else
                  none
              else
                L43_9 n ((x2, (), (), (), x29, x30, (IntKind.i64.wrap (x31 + (1 : Int))), ()), ((y3.1, y3.2.1, y3.2.2.1, y3.2.2.2.1, ()), y10, y15, ()))
            else
              L43_9 n ((x2, (), (), (), x29, x30, (IntKind.i64.wrap (x31 + (1 : Int))), ()), ((y3.1, y3.2.1, y3.2.2.1, y3.2.2.2.1, ()), y10, y15, ()))
          else
            none
        else
          L43_9 n ((x2, (), (), (), x29, x30, (IntKind.i64.wrap (x31 + (1 : Int))), ()), ((y3.1, y3.2.1, y3.2.2.1, y3.2.2.2.1, ()), y10, y15, ()))
      else
        none
    else
      some (((), (), ()), ((y3.1, y3.2.1, y3.2.2.1, y3.2.2.2.1, ()), y10, ()))

noncomputable def EL43_9 : LoopEnt := ⟨[18], 9, ⟨[.keep [2, 3, 7, 10, 29, 30, 31] [3, 10, 15, 55], .adopt 10 (.int .i64) 10], [2, 3, 7, 10, 29, 30, 31], [3, 10, 15]⟩, [.kd (.int .u8), .ptr 3 0, .ref 15, .ref 10, .kd (.slice (.pair (.int .i64) (.pair (.int .i64) (.pair .bool (.pair (.arr 4 (.int .u64)) .unit))))), .kd (.int .i64), .kd (.int .i64)], [.box [.kd (.int .i64), .kd (.int .i64), .kd (.slice (.pair (.int .i64) (.pair (.int .i64) (.pair .bool (.pair (.arr 4 (.int .u64)) .unit))))), .kd (.slice (.int .i64))], .row (.int .i64), .row .bool], [⟨(.exit 2), [3, 10], [.ptr 3 0, .ref 10], [3, 10], [.box [.kd (.int .i64), .kd (.int .i64), .kd (.slice (.pair (.int .i64) (.pair (.int .i64) (.pair .bool (.pair (.arr 4 (.int .u64)) .unit))))), .kd (.slice (.int .i64))], .row (.int .i64)]⟩], limit L43_9⟩

noncomputable def O43 : Orc := mkOrc [(15, fnOf [(.pair (.int .i64) (.pair (.int .i64) (.pair (.slice (.pair (.int .i64) (.pair (.int .i64) (.pair .bool (.pair (.arr 4 (.int .u64)) .unit))))) (.pair (.slice (.int .i64)) .unit)))), (.slice (.int .i64))] (.one (.slice (.int .i64))) p41), (36, fnOf [(.arr 4 (.int .u64)), (.int .u8)] (.one .bool) p60)] [EL43_3, EL43_9] [([18], 14, [.freeze 10])] [] []

theorem cL43_3 : LoopCert Try.prog O43 Γ43 1 EL43_3 :=
  ⟨⟨18, 0, L43_3, rfl, by kernel_rfl, by decide, limit_fn, fun _ => rfl, fun m old x r h => by
    obtain ⟨⟨x2, x3, x7, x18, x19, x20, ⟨⟩⟩, y3, y15, ⟨⟩⟩ := x
    refine Eq.trans ?_ h
    kernel_rfl⟩⟩

theorem cL43_9 : LoopCert Try.prog O43 Γ43 1 EL43_9 :=
  ⟨⟨18, 1, L43_9, rfl, by kernel_rfl, by decide, limit_fn, fun _ => rfl, fun m old x r h => by
    obtain ⟨⟨x2, x3, x7, x10, x29, x30, x31, ⟨⟩⟩, y3, y10, y15, ⟨⟩⟩ := x
    refine Eq.trans ?_ h
    kernel_rfl⟩⟩

/-- emendate/nfa.Step -/
noncomputable def p43 : (((Int) × ((Int) × ((List ((Int) × ((Int) × ((Bool) × ((List (Int)) × (Unit)))))) × ((List (Int)) × (Unit))))) × (List (Int)) × (Int) × Unit) → Option (List (Int))
  | (x0, x1, x2, ()) =>
    if decide (x0.1 = x0.1 ∧ 0 ≤ x0.1 ∧ x0.1 ≤ (lim : Int)) = true then
      (p41 ((x0.1, (x0.2.1, (x0.2.2.1, (x0.2.2.2.1, ())))), x1, ())).bind fun c1 =>
      (limit L43_3 ((x2, (), (), c1, (c1.length : Int), (0 : Int), ()), ((x0.1, x0.2.1, x0.2.2.1, x0.2.2.2.1, ()), (List.replicate x0.1.toNat false), ()))).bind fun r2 =>
      (limit L43_9 ((r2.1.1, (), (), (), r2.2.1.2.2.1, (r2.2.1.2.2.1.length : Int), (0 : Int), ()), ((r2.2.1.1, r2.2.1.2.1, r2.2.1.2.2.1, r2.2.1.2.2.2.1, ()), ([] : List (Int)), r2.2.2.1, ()))).bind fun r3 =>
      (p41 ((r3.2.1.1, (r3.2.1.2.1, (r3.2.1.2.2.1, (r3.2.1.2.2.2.1, ())))), r3.2.2.1, ())).bind fun c4 =>
      some c4
    else
      none

theorem s43 : SoundFn Try.prog 18 (fnOf [(.pair (.int .i64) (.pair (.int .i64) (.pair (.slice (.pair (.int .i64) (.pair (.int .i64) (.pair .bool (.pair (.arr 4 (.int .u64)) .unit))))) (.pair (.slice (.int .i64)) .unit)))), (.slice (.int .i64)), (.int .u8)] (.one (.slice (.int .i64))) p43) :=
  fn_pure hm0 hng0 hΓ43 (t := [(15, fnOf [(.pair (.int .i64) (.pair (.int .i64) (.pair (.slice (.pair (.int .i64) (.pair (.int .i64) (.pair .bool (.pair (.arr 4 (.int .u64)) .unit))))) (.pair (.slice (.int .i64)) .unit)))), (.slice (.int .i64))] (.one (.slice (.int .i64))) p41), (36, fnOf [(.arr 4 (.int .u64)), (.int .u8)] (.one .bool) p60)]) (all_cons s41 (all_cons s60 all_nil)) (ls := [EL43_3, EL43_9]) (cmds := [([18], 14, [.freeze 10])]) (leaves := []) (fr := []) (pt := []) (D := 1) (all_cons cL43_3 (all_cons cL43_9 all_nil)) (by kernel_rfl) (hfr := all_nil) fun x r h => by
    obtain ⟨x0, x1, x2, ⟨⟩⟩ := x
    refine Eq.trans ?_ h
    kernel_rfl

def Γ23 : TEnv := { Γ0 with imm := [10] }
theorem hΓ23 : Γ23.ok Try.prog = true := hΓ0

noncomputable def L23_3 : Nat → (((List UInt8) × Unit × (List (Int)) × (Int) × Unit) × (((Int) × (Int) × (List ((Int) × ((Int) × ((Bool) × ((List (Int)) × (Unit)))))) × (List (Int)) × Unit) × Unit)) → Option ((Unit × (List (Int)) × Unit) × (((Int) × (Int) × (List ((Int) × ((Int) × ((Bool) × ((List (Int)) × (Unit)))))) × (List (Int)) × Unit) × Unit))
  | 0, _ => none
  | n + 1, ((x1, _, x5, x6, ()), (y2, ())) =>
    if (decide (x6 < (x1.length : Int))) = true then
      if decide (0 ≤ x6 ∧ x6 < (x1.length : Int)) = true then
        (p49 ((y2.1, (y2.2.1, (y2.2.2.1, (y2.2.2.2.1, ())))), x5, ((x1.getD x6.toNat 0).toNat : Int), ())).bind fun c1 =>
        L23_3 n ((x1, (), c1, (IntKind.i64.wrap (x6 + (1 : Int))), ()), ((y2.1, y2.2.1, y2.2.2.1, y2.2.2.2.1, ()), ()))
      else
        none
    else
      some (((), x5, ()), ((y2.1, y2.2.1, y2.2.2.1, y2.2.2.2.1, ()), ()))

noncomputable def EL23_3 : LoopEnt := ⟨[21], 3, ⟨[], [1, 2, 5, 6], [2]⟩, [.kd .str, .ptr 2 0, .kd (.slice (.int .i64)), .kd (.int .i64)], [.box [.kd (.int .i64), .kd (.int .i64), .kd (.slice (.pair (.int .i64) (.pair (.int .i64) (.pair .bool (.pair (.arr 4 (.int .u64)) .unit))))), .kd (.slice (.int .i64))]], [⟨(.exit 0), [2, 5], [.ptr 2 0, .kd (.slice (.int .i64))], [2], [.box [.kd (.int .i64), .kd (.int .i64), .kd (.slice (.pair (.int .i64) (.pair (.int .i64) (.pair .bool (.pair (.arr 4 (.int .u64)) .unit))))), .kd (.slice (.int .i64))]]⟩], limit L23_3⟩

noncomputable def O23 : Orc := mkOrc [(17, fnOf [(.pair (.int .i64) (.pair (.int .i64) (.pair (.slice (.pair (.int .i64) (.pair (.int .i64) (.pair .bool (.pair (.arr 4 (.int .u64)) .unit))))) (.pair (.slice (.int .i64)) .unit)))), (.slice (.int .i64))] (.one (.slice (.int .i64))) p48), (19, fnOf [(.pair (.int .i64) (.pair (.int .i64) (.pair (.slice (.pair (.int .i64) (.pair (.int .i64) (.pair .bool (.pair (.arr 4 (.int .u64)) .unit))))) (.pair (.slice (.int .i64)) .unit)))), (.slice (.int .i64)), (.int .u8)] (.one (.slice (.int .i64))) p49), (22, fnOf [(.pair (.int .i64) (.pair (.int .i64) (.pair (.slice (.pair (.int .i64) (.pair (.int .i64) (.pair .bool (.pair (.arr 4 (.int .u64)) .unit))))) (.pair (.slice (.int .i64)) .unit)))), (.slice (.int .i64))] (.one (.int .i64)) p52)] [EL23_3] [] [] []

theorem cL23_3 : LoopCert Try.prog O23 Γ23 1 EL23_3 :=
  ⟨⟨21, 0, L23_3, rfl, by kernel_rfl, by decide, limit_fn, fun _ => rfl, fun m old x r h => by
    obtain ⟨⟨x1, x2, x5, x6, ⟨⟩⟩, y2, ⟨⟩⟩ := x
    refine Eq.trans ?_ h
    kernel_rfl⟩⟩

/-- emendate/emendateref09.Run -/
noncomputable def p23 : (((Int) × ((Int) × ((List ((Int) × ((Int) × ((Bool) × ((List (Int)) × (Unit)))))) × ((List (Int)) × (Unit))))) × (List UInt8) × Unit) → Option (Int)
  | (x0, x1, ()) =>
    (p48 ((x0.1, (x0.2.1, (x0.2.2.1, (x0.2.2.2.1, ())))), ([x0.2.1] : List (Int)), ())).bind fun c1 =>
    (limit L23_3 ((x1, (), c1, (0 : Int), ()), ((x0.1, x0.2.1, x0.2.2.1, x0.2.2.2.1, ()), ()))).bind fun r2 =>
    (p52 ((r2.2.1.1, (r2.2.1.2.1, (r2.2.1.2.2.1, (r2.2.1.2.2.2.1, ())))), r2.1.2.1, ())).bind fun c3 =>
    some c3

theorem s23 : SoundFn Try.prog 21 (fnOf [(.pair (.int .i64) (.pair (.int .i64) (.pair (.slice (.pair (.int .i64) (.pair (.int .i64) (.pair .bool (.pair (.arr 4 (.int .u64)) .unit))))) (.pair (.slice (.int .i64)) .unit)))), .str] (.one (.int .i64)) p23) :=
  fn_pure hm0 hng0 hΓ23 (t := [(17, fnOf [(.pair (.int .i64) (.pair (.int .i64) (.pair (.slice (.pair (.int .i64) (.pair (.int .i64) (.pair .bool (.pair (.arr 4 (.int .u64)) .unit))))) (.pair (.slice (.int .i64)) .unit)))), (.slice (.int .i64))] (.one (.slice (.int .i64))) p48), (19, fnOf [(.pair (.int .i64) (.pair (.int .i64) (.pair (.slice (.pair (.int .i64) (.pair (.int .i64) (.pair .bool (.pair (.arr 4 (.int .u64)) .unit))))) (.pair (.slice (.int .i64)) .unit)))), (.slice (.int .i64)), (.int .u8)] (.one (.slice (.int .i64))) p49), (22, fnOf [(.pair (.int .i64) (.pair (.int .i64) (.pair (.slice (.pair (.int .i64) (.pair (.int .i64) (.pair .bool (.pair (.arr 4 (.int .u64)) .unit))))) (.pair (.slice (.int .i64)) .unit)))), (.slice (.int .i64))] (.one (.int .i64)) p52)]) (all_cons s48 (all_cons s49 (all_cons s52 all_nil))) (ls := [EL23_3]) (cmds := []) (leaves := []) (fr := []) (pt := []) (D := 1) (all_cons cL23_3 all_nil) (by kernel_rfl) (hfr := all_nil) fun x r h => by
    obtain ⟨x0, x1, ⟨⟩⟩ := x
    refine Eq.trans ?_ h
    kernel_rfl

noncomputable def L316_4 : Nat → (((List (Int)) × (List (Int)) × (Int) × Unit) × (Unit)) → Option ((((Bool) × Unit) × (Unit)) ⊕ ((Unit) × (Unit)))
  | 0, _ => none
  | n + 1, ((x0, x1, x5, ()), ()) =>
    if (decide (x5 < (x0.length : Int))) = true then
      if decide (0 ≤ x5 ∧ x5 < (x0.length : Int)) = true then
        if decide (0 ≤ x5 ∧ x5 < (x1.length : Int)) = true then
          if (!decide ((x0.getD x5.toNat 0) = (x1.getD x5.toNat 0))) = true then
            some (.inl ((false, ()), ()))
          else
            L316_4 n ((x0, x1, (IntKind.i64.wrap (x5 + (1 : Int))), ()), ())
        else
          none
      else
        none
    else
      some (.inr ((), ()))

noncomputable def EL316_4 : LoopEnt := ⟨[16], 4, ⟨[], [0, 1, 5], []⟩, [.kd (.slice (.int .i64)), .kd (.slice (.int .i64)), .kd (.int .i64)], [], [⟨.ret, [4], [.kd .bool], [], []⟩, ⟨(.exit 0), [], [], [], []⟩], limit L316_4⟩

noncomputable def O316 : Orc := mkOrc [] [EL316_4] [] [] []

theorem cL316_4 : LoopCert Try.prog O316 Γ0 1 EL316_4 :=
  ⟨⟨16, 0, L316_4, rfl, by kernel_rfl, by decide, limit_fn, fun _ => rfl, fun m old x r h => by
    obtain ⟨⟨x0, x1, x5, ⟨⟩⟩, ⟨⟩⟩ := x
    refine Eq.trans ?_ h
    kernel_rfl⟩⟩

/-- emendate/emendateref09.Same -/
noncomputable def p316 : ((List (Int)) × (List (Int)) × Unit) → Option (Bool)
  | (x0, x1, ()) =>
    if (!decide ((x0.length : Int) = (x1.length : Int))) = true then
      some false
    else
      (limit L316_4 ((x0, x1, (0 : Int), ()), ())).bind (Sum.elim (fun r1 =>
        some r1.1.1) (fun _ =>
        some true))

theorem s316 : SoundFn Try.prog 16 (fnOf [(.slice (.int .i64)), (.slice (.int .i64))] (.one .bool) p316) :=
  fn_pure hm0 hng0 hΓ0 (t := []) all_nil (ls := [EL316_4]) (cmds := []) (leaves := []) (fr := []) (pt := []) (D := 1) (all_cons cL316_4 all_nil) (by kernel_rfl) (hfr := all_nil) fun x r h => by
    obtain ⟨x0, x1, ⟨⟩⟩ := x
    refine Eq.trans ?_ h
    kernel_rfl

noncomputable def O314 : Orc := mkOrc [(13, fnOf [(.pair (.int .i64) (.pair (.int .i64) (.pair (.slice (.pair (.int .i64) (.pair (.int .i64) (.pair .bool (.pair (.arr 4 (.int .u64)) .unit))))) (.pair (.slice (.int .i64)) .unit))))] (.one .bool) p45)] [] [] [] []

/-- emendate/emendatelaw09.light -/
noncomputable def p314 : (((Int) × ((Int) × ((List ((Int) × ((Int) × ((Bool) × ((List (Int)) × (Unit)))))) × ((List (Int)) × (Unit))))) × Unit) → Option (Bool)
  | (x0, ()) =>
    if (decide ((x0.2.2.1.length : Int) ≤ (60 : Int))) = true then
      if (decide (x0.1 ≤ (40 : Int))) = true then
        (p45 ((x0.1, (x0.2.1, (x0.2.2.1, (x0.2.2.2.1, ())))), ())).bind fun c1 =>
        some c1
      else
        some false
    else
      some false

theorem s314 : SoundFn Try.prog 14 (fnOf [(.pair (.int .i64) (.pair (.int .i64) (.pair (.slice (.pair (.int .i64) (.pair (.int .i64) (.pair .bool (.pair (.arr 4 (.int .u64)) .unit))))) (.pair (.slice (.int .i64)) .unit))))] (.one .bool) p314) :=
  fn_pure hm0 hng0 hΓ0 (t := [(13, fnOf [(.pair (.int .i64) (.pair (.int .i64) (.pair (.slice (.pair (.int .i64) (.pair (.int .i64) (.pair .bool (.pair (.arr 4 (.int .u64)) .unit))))) (.pair (.slice (.int .i64)) .unit))))] (.one .bool) p45)]) (all_cons s45 all_nil) (ls := []) (cmds := []) (leaves := []) (fr := []) (pt := []) (D := 1) all_nil (by kernel_rfl) (hfr := all_nil) fun x r h => by
    obtain ⟨x0, ⟨⟩⟩ := x
    refine Eq.trans ?_ h
    kernel_rfl

end Go.AM
