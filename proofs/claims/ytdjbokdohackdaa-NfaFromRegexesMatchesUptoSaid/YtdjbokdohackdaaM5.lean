import Derived.Test.YtdjbokdohackdaaM4
/- Functions in pure form: each is sound over the program. -/
namespace Go.AM
open Go Go.Proofs

noncomputable def O60 : Orc := mkOrc [] [] [] [] []

/-- emendate/byteset.Has -/
noncomputable def p60 : ((List (Int)) × (Int) × Unit) → Option (Bool)
  | (x0, x1, ()) =>
    if decide ((64 : Int) = 0) = true then
      none
    else
      if decide (0 ≤ (IntKind.u8.wrap (x1.tdiv (64 : Int))) ∧ (IntKind.u8.wrap (x1.tdiv (64 : Int))) < (4 : Int)) = true then
        if decide ((64 : Int) = 0) = true then
          none
        else
          if decide (0 ≤ (x1.tmod (64 : Int))) = true then
            some (decide ((IntKind.u64.wrap ((BitVec.ofInt (IntKind.u64.bits) (([(x0.getD 0 0), (x0.getD 1 0), (x0.getD 2 0), (x0.getD 3 0)].getD (IntKind.u8.wrap (x1.tdiv (64 : Int))).toNat 0).fdiv (2 ^ (min (x1.tmod (64 : Int)).toNat (IntKind.u64.bits)))) &&& BitVec.ofInt (IntKind.u64.bits) (1 : Int)).toNat : Nat)) = (1 : Int)))
          else
            none
      else
        none

theorem s60 : SoundFn Try.prog 36 (fnOf [(.arr 4 (.int .u64)), (.int .u8)] (.one .bool) p60) :=
  fn_pure hm0 hng0 hΓ0 (t := []) all_nil (ls := []) (cmds := []) (leaves := []) (fr := []) (pt := []) (D := 1) all_nil (by kernel_rfl) (hfr := all_nil) fun x r h => by
    obtain ⟨x0, x1, ⟨⟩⟩ := x
    refine Eq.trans ?_ h
    kernel_rfl

noncomputable def O65 : Orc := mkOrc [] [] [] [] []

/-- emendate/emendateref07.Has -/
noncomputable def p65 : ((List (Int)) × (Int) × Unit) → Option (Bool)
  | (x0, x1, ()) =>
    if decide ((64 : Int) = 0) = true then
      none
    else
      if decide (0 ≤ (IntKind.u8.wrap (x1.tdiv (64 : Int))) ∧ (IntKind.u8.wrap (x1.tdiv (64 : Int))) < (4 : Int)) = true then
        if decide ((64 : Int) = 0) = true then
          none
        else
          if decide (0 ≤ (x1.tmod (64 : Int))) = true then
            some (decide ((IntKind.u64.wrap ((BitVec.ofInt (IntKind.u64.bits) (([(x0.getD 0 0), (x0.getD 1 0), (x0.getD 2 0), (x0.getD 3 0)].getD (IntKind.u8.wrap (x1.tdiv (64 : Int))).toNat 0).fdiv (2 ^ (min (x1.tmod (64 : Int)).toNat (IntKind.u64.bits)))) &&& BitVec.ofInt (IntKind.u64.bits) (1 : Int)).toNat : Nat)) = (1 : Int)))
          else
            none
      else
        none

theorem s65 : SoundFn Try.prog 37 (fnOf [(.arr 4 (.int .u64)), (.int .u8)] (.one .bool) p65) :=
  fn_pure hm0 hng0 hΓ0 (t := []) all_nil (ls := []) (cmds := []) (leaves := []) (fr := []) (pt := []) (D := 1) all_nil (by kernel_rfl) (hfr := all_nil) fun x r h => by
    obtain ⟨x0, x1, ⟨⟩⟩ := x
    refine Eq.trans ?_ h
    kernel_rfl

def Γ62 : TEnv := { Γ0 with imm := [16] }
theorem hΓ62 : Γ62.ok Try.prog = true := hΓ0

noncomputable def L62_3 : Nat → ((Unit × (List (Bool)) × (Int) × (Int) × Unit) × ((List (Int)) × Unit)) → Option ((Unit × Unit) × ((List (Int)) × Unit))
  | 0, _ => none
  | n + 1, ((_, x6, x7, x8, ()), (y3, ())) =>
    if (decide (x8 < x7)) = true then
      if decide (0 ≤ x8 ∧ x8 < (x6.length : Int)) = true then
        if (x6.getD x8.toNat false) = true then
          if decide (y3.length + ([x8] : List (Int)).length ≤ lim) = true then
            L62_3 n (((), x6, x7, (IntKind.i64.wrap (x8 + (1 : Int))), ()), ((y3 ++ ([x8] : List (Int))), ()))
          else
            none
        else
          L62_3 n (((), x6, x7, (IntKind.i64.wrap (x8 + (1 : Int))), ()), (y3, ()))
      else
        none
    else
      some (((), ()), (y3, ()))

noncomputable def EL62_3 : LoopEnt := ⟨[34], 3, ⟨[.keep [3, 6, 7, 8] [3, 17], .adopt 3 (.int .i64) 3], [3, 6, 7, 8], [3]⟩, [.ref 3, .kd (.slice .bool), .kd (.int .i64), .kd (.int .i64)], [.row (.int .i64)], [⟨(.exit 0), [3], [.ref 3], [3], [.row (.int .i64)]⟩], limit L62_3⟩

noncomputable def O62 : Orc := mkOrc [] [EL62_3] [] [] []

theorem cL62_3 : LoopCert Try.prog O62 Γ62 1 EL62_3 :=
  ⟨⟨34, 0, L62_3, rfl, by kernel_rfl, by decide, limit_fn, fun _ => rfl, fun m old x r h => by
    obtain ⟨⟨x3, x6, x7, x8, ⟨⟩⟩, y3, ⟨⟩⟩ := x
    refine Eq.trans ?_ h
    kernel_rfl⟩⟩

/-- emendate/nfa.sorted -/
noncomputable def p62 : ((List (Bool)) × Unit) → Option (List (Int))
  | (x0, ()) =>
    (limit L62_3 (((), x0, (x0.length : Int), (0 : Int), ()), (([] : List (Int)), ()))).bind fun r1 =>
    some r1.2.1

theorem s62 : SoundFn Try.prog 34 (fnOf [(.slice .bool)] (.one (.slice (.int .i64))) p62) :=
  fn_pure hm0 hng0 hΓ62 (t := []) all_nil (ls := [EL62_3]) (cmds := []) (leaves := []) (fr := []) (pt := []) (D := 1) (all_cons cL62_3 all_nil) (by kernel_rfl) (hfr := all_nil) fun x r h => by
    obtain ⟨x0, ⟨⟩⟩ := x
    refine Eq.trans ?_ h
    kernel_rfl

def Γ64 : TEnv := { Γ0 with imm := [17] }
theorem hΓ64 : Γ64.ok Try.prog = true := hΓ0

noncomputable def L64_3 : Nat → (((List (Bool)) × Unit × (Int) × Unit) × ((List (Int)) × Unit)) → Option ((Unit × Unit) × ((List (Int)) × Unit))
  | 0, _ => none
  | n + 1, ((x0, _, x4, ()), (y3, ())) =>
    if (decide (x4 < (x0.length : Int))) = true then
      if decide (0 ≤ x4 ∧ x4 < (x0.length : Int)) = true then
        if (x0.getD x4.toNat false) = true then
          if decide (y3.length + ([x4] : List (Int)).length ≤ lim) = true then
            L64_3 n ((x0, (), (IntKind.i64.wrap (x4 + (1 : Int))), ()), ((y3 ++ ([x4] : List (Int))), ()))
          else
            none
        else
          L64_3 n ((x0, (), (IntKind.i64.wrap (x4 + (1 : Int))), ()), (y3, ()))
      else
        none
    else
      some (((), ()), (y3, ()))

noncomputable def EL64_3 : LoopEnt := ⟨[35], 3, ⟨[.keep [0, 3, 4] [3, 18], .adopt 3 (.int .i64) 3], [0, 3, 4], [3]⟩, [.kd (.slice .bool), .ref 3, .kd (.int .i64)], [.row (.int .i64)], [⟨(.exit 0), [3], [.ref 3], [3], [.row (.int .i64)]⟩], limit L64_3⟩

noncomputable def O64 : Orc := mkOrc [] [EL64_3] [] [] []

theorem cL64_3 : LoopCert Try.prog O64 Γ64 1 EL64_3 :=
  ⟨⟨35, 0, L64_3, rfl, by kernel_rfl, by decide, limit_fn, fun _ => rfl, fun m old x r h => by
    obtain ⟨⟨x0, x3, x4, ⟨⟩⟩, y3, ⟨⟩⟩ := x
    refine Eq.trans ?_ h
    kernel_rfl⟩⟩

/-- emendate/emendateref09.list -/
noncomputable def p64 : ((List (Bool)) × Unit) → Option (List (Int))
  | (x0, ()) =>
    (limit L64_3 ((x0, (), (0 : Int), ()), (([] : List (Int)), ()))).bind fun r1 =>
    some r1.2.1

theorem s64 : SoundFn Try.prog 35 (fnOf [(.slice .bool)] (.one (.slice (.int .i64))) p64) :=
  fn_pure hm0 hng0 hΓ64 (t := []) all_nil (ls := [EL64_3]) (cmds := []) (leaves := []) (fr := []) (pt := []) (D := 1) (all_cons cL64_3 all_nil) (by kernel_rfl) (hfr := all_nil) fun x r h => by
    obtain ⟨x0, ⟨⟩⟩ := x
    refine Eq.trans ?_ h
    kernel_rfl

noncomputable def L52_3 : Nat → (((List (Int)) × Unit × (Int) × (Int) × Unit) × (((Int) × (Int) × (List ((Int) × ((Int) × ((Bool) × ((List (Int)) × (Unit)))))) × (List (Int)) × Unit) × Unit)) → Option (((Int) × Unit) × (Unit))
  | 0, _ => none
  | n + 1, ((x1, _, x5, x6, ()), (y2, ())) =>
    if (decide (x6 < (x1.length : Int))) = true then
      if decide (0 ≤ x6 ∧ x6 < (x1.length : Int)) = true then
        if decide (0 ≤ (x1.getD x6.toNat 0) ∧ (x1.getD x6.toNat 0) < (y2.2.2.2.1.length : Int)) = true then
          if (decide ((y2.2.2.2.1.getD (x1.getD x6.toNat 0).toNat 0) ≥ (0 : Int))) = true then
            if (decide (x5 < (0 : Int))) = true then
              L52_3 n ((x1, (), (y2.2.2.2.1.getD (x1.getD x6.toNat 0).toNat 0), (IntKind.i64.wrap (x6 + (1 : Int))), ()), ((y2.1, y2.2.1, y2.2.2.1, y2.2.2.2.1, ()), ()))
            else
              if (decide ((y2.2.2.2.1.getD (x1.getD x6.toNat 0).toNat 0) < x5)) = true then
                L52_3 n ((x1, (), (y2.2.2.2.1.getD (x1.getD x6.toNat 0).toNat 0), (IntKind.i64.wrap (x6 + (1 : Int))), ()), ((y2.1, y2.2.1, y2.2.2.1, y2.2.2.2.1, ()), ()))
              else
                L52_3 n ((x1, (), x5, (IntKind.i64.wrap (x6 + (1 : Int))), ()), ((y2.1, y2.2.1, y2.2.2.1, y2.2.2.2.1, ()), ()))
          else
            L52_3 n ((x1, (), x5, (IntKind.i64.wrap (x6 + (1 : Int))), ()), ((y2.1, y2.2.1, y2.2.2.1, y2.2.2.2.1, ()), ()))
        else
          none
      else
        none
    else
      some ((x5, ()), ())

noncomputable def EL52_3 : LoopEnt := ⟨[22], 3, ⟨[], [1, 2, 5, 6], [2]⟩, [.kd (.slice (.int .i64)), .ptr 2 0, .kd (.int .i64), .kd (.int .i64)], [.box [.kd (.int .i64), .kd (.int .i64), .kd (.slice (.pair (.int .i64) (.pair (.int .i64) (.pair .bool (.pair (.arr 4 (.int .u64)) .unit))))), .kd (.slice (.int .i64))]], [⟨(.exit 0), [5], [.kd (.int .i64)], [], []⟩], limit L52_3⟩

noncomputable def O52 : Orc := mkOrc [] [EL52_3] [] [] []

theorem cL52_3 : LoopCert Try.prog O52 Γ0 1 EL52_3 :=
  ⟨⟨22, 0, L52_3, rfl, by kernel_rfl, by decide, limit_fn, fun _ => rfl, fun m old x r h => by
    obtain ⟨⟨x1, x2, x5, x6, ⟨⟩⟩, y2, ⟨⟩⟩ := x
    refine Eq.trans ?_ h
    kernel_rfl⟩⟩

/-- emendate/emendateref09.Accepted -/
noncomputable def p52 : (((Int) × ((Int) × ((List ((Int) × ((Int) × ((Bool) × ((List (Int)) × (Unit)))))) × ((List (Int)) × (Unit))))) × (List (Int)) × Unit) → Option (Int)
  | (x0, x1, ()) =>
    (limit L52_3 ((x1, (), (-1 : Int), (0 : Int), ()), ((x0.1, x0.2.1, x0.2.2.1, x0.2.2.2.1, ()), ()))).bind fun r1 =>
    some r1.1.1

theorem s52 : SoundFn Try.prog 22 (fnOf [(.pair (.int .i64) (.pair (.int .i64) (.pair (.slice (.pair (.int .i64) (.pair (.int .i64) (.pair .bool (.pair (.arr 4 (.int .u64)) .unit))))) (.pair (.slice (.int .i64)) .unit)))), (.slice (.int .i64))] (.one (.int .i64)) p52) :=
  fn_pure hm0 hng0 hΓ0 (t := []) all_nil (ls := [EL52_3]) (cmds := []) (leaves := []) (fr := []) (pt := []) (D := 1) (all_cons cL52_3 all_nil) (by kernel_rfl) (hfr := all_nil) fun x r h => by
    obtain ⟨x0, x1, ⟨⟩⟩ := x
    refine Eq.trans ?_ h
    kernel_rfl

noncomputable def O59 : Orc := mkOrc [] [] [] [] []

/-- emendate/nfa.Valid$2 -/
noncomputable def p59 : ((Int) × Unit) → Option (Bool)
  | (x0, ()) =>
    some (decide (x0 < (-1 : Int)))

theorem s59 : SoundFn Try.prog 32 (fnOf [(.int .i64)] (.one .bool) p59) :=
  fn_pure hm0 hng0 hΓ0 (t := []) all_nil (ls := []) (cmds := []) (leaves := []) (fr := []) (pt := []) (D := 1) all_nil (by kernel_rfl) (hfr := all_nil) fun x r h => by
    obtain ⟨x0, ⟨⟩⟩ := x
    refine Eq.trans ?_ h
    kernel_rfl

noncomputable def L39_5 : Nat → ((Unit × Unit × (List ((Int) × ((Int) × ((Bool) × ((List (Int)) × (Unit)))))) × (Int) × (Int) × Unit) × (((Int) × (Int) × (List ((Int) × ((Int) × ((Bool) × ((List (Int)) × (Unit)))))) × (List (Int)) × Unit) × Unit)) → Option ((((Bool) × Unit) × (Unit)) ⊕ ((Unit × Unit) × (((Int) × (Int) × (List ((Int) × ((Int) × ((Bool) × ((List (Int)) × (Unit)))))) × (List (Int)) × Unit) × Unit)))
  | 0, _ => none
  | n + 1, ((_, _, x31, x32, x33, ()), (y1, ())) =>
    if (decide (x33 < x32)) = true then
      if decide (0 ≤ x33 ∧ x33 < (x31.length : Int)) = true then
        if (decide ((x31.getD x33.toNat (0, (0, (false, ((List.replicate 4 0), ()))))).1 ≥ (0 : Int))) = true then
          if (!(decide ((x31.getD x33.toNat (0, (0, (false, ((List.replicate 4 0), ()))))).1 < y1.1))) = true then
            some (.inl ((false, ()), ()))
          else
            if (decide ((x31.getD x33.toNat (0, (0, (false, ((List.replicate 4 0), ()))))).2.1 ≥ (0 : Int))) = true then
              if (!(decide ((x31.getD x33.toNat (0, (0, (false, ((List.replicate 4 0), ()))))).2.1 < y1.1))) = true then
                some (.inl ((false, ()), ()))
              else
                if (x31.getD x33.toNat (0, (0, (false, ((List.replicate 4 0), ()))))).2.2.1 = true then
                  if (!(Kind.eqB (.arr 4 (.int .u64)) [((x31.getD x33.toNat (0, (0, (false, ((List.replicate 4 0), ()))))).2.2.2.1.getD 0 0), ((x31.getD x33.toNat (0, (0, (false, ((List.replicate 4 0), ()))))).2.2.2.1.getD 1 0), ((x31.getD x33.toNat (0, (0, (false, ((List.replicate 4 0), ()))))).2.2.2.1.getD 2 0), ((x31.getD x33.toNat (0, (0, (false, ((List.replicate 4 0), ()))))).2.2.2.1.getD 3 0)] [(0 : Int), (0 : Int), (0 : Int), (0 : Int)])) = true then
                    some (.inl ((false, ()), ()))
                  else
                    L39_5 n (((), (), x31, x32, (IntKind.i64.wrap (x33 + (1 : Int))), ()), ((y1.1, y1.2.1, y1.2.2.1, y1.2.2.2.1, ()), ()))
                else
                  L39_5 n (((), (), x31, x32, (IntKind.i64.wrap (x33 + (1 : Int))), ()), ((y1.1, y1.2.1, y1.2.2.1, y1.2.2.2.1, ()), ()))
            else
              some (.inl ((false, ()), ()))
        else
          some (.inl ((false, ()), ()))
      else
        none
    else
      some (.inr (((), ()), ((y1.1, y1.2.1, y1.2.2.1, y1.2.2.2.1, ()), ())))

noncomputable def EL39_5 : LoopEnt := ⟨[12], 5, ⟨[], [1, 3, 31, 32, 33], [1]⟩, [.ptr 1 0, .fnp 30 [1], .kd (.slice (.pair (.int .i64) (.pair (.int .i64) (.pair .bool (.pair (.arr 4 (.int .u64)) .unit))))), .kd (.int .i64), .kd (.int .i64)], [.box [.kd (.int .i64), .kd (.int .i64), .kd (.slice (.pair (.int .i64) (.pair (.int .i64) (.pair .bool (.pair (.arr 4 (.int .u64)) .unit))))), .kd (.slice (.int .i64))]], [⟨.ret, [2], [.kd .bool], [], []⟩, ⟨(.exit 0), [1], [.ptr 1 0], [1], [.box [.kd (.int .i64), .kd (.int .i64), .kd (.slice (.pair (.int .i64) (.pair (.int .i64) (.pair .bool (.pair (.arr 4 (.int .u64)) .unit))))), .kd (.slice (.int .i64))]]⟩], limit L39_5⟩

noncomputable def L54_27_39_2 : Nat → (((List (Int)) × Unit × (Int) × (Int) × Unit) × (((Int) × (Int) × (List ((Int) × ((Int) × ((Bool) × ((List (Int)) × (Unit)))))) × (List (Int)) × Unit) × Unit)) → Option ((((Int) × Unit) × (((Int) × (Int) × (List ((Int) × ((Int) × ((Bool) × ((List (Int)) × (Unit)))))) × (List (Int)) × Unit) × Unit)) ⊕ ((Unit) × (((Int) × (Int) × (List ((Int) × ((Int) × ((Bool) × ((List (Int)) × (Unit)))))) × (List (Int)) × Unit) × Unit)))
  | 0, _ => none
  | n + 1, ((x0, _, x7, x8, ()), (y1, ())) =>
    if (decide (x8 < x7)) = true then
      if decide (0 ≤ x8 ∧ x8 < (x0.length : Int)) = true then
        (p59 ((x0.getD x8.toNat 0), ())).bind fun c1 =>
        if c1 = true then
          some (.inl ((x8, ()), ((y1.1, y1.2.1, y1.2.2.1, y1.2.2.2.1, ()), ())))
        else
          L54_27_39_2 n ((x0, (), x7, (IntKind.i64.wrap (x8 + (1 : Int))), ()), ((y1.1, y1.2.1, y1.2.2.1, y1.2.2.2.1, ()), ()))
      else
        none
    else
      some (.inr ((), ((y1.1, y1.2.1, y1.2.2.1, y1.2.2.2.1, ()), ())))

noncomputable def EL54_27_39_2 : LoopEnt := ⟨[49, 31, 12], 2, ⟨[], [0, 1, 7, 8], [1]⟩, [.kd (.slice (.int .i64)), .fnp 32 [], .kd (.int .i64), .kd (.int .i64)], [.box [.kd (.int .i64), .kd (.int .i64), .kd (.slice (.pair (.int .i64) (.pair (.int .i64) (.pair .bool (.pair (.arr 4 (.int .u64)) .unit))))), .kd (.slice (.int .i64))]], [⟨.ret, [4], [.kd (.int .i64)], [1], [.box [.kd (.int .i64), .kd (.int .i64), .kd (.slice (.pair (.int .i64) (.pair (.int .i64) (.pair .bool (.pair (.arr 4 (.int .u64)) .unit))))), .kd (.slice (.int .i64))]]⟩, ⟨(.exit 0), [], [], [1], [.box [.kd (.int .i64), .kd (.int .i64), .kd (.slice (.pair (.int .i64) (.pair (.int .i64) (.pair .bool (.pair (.arr 4 (.int .u64)) .unit))))), .kd (.slice (.int .i64))]]⟩], limit L54_27_39_2⟩

noncomputable def O39 : Orc := mkOrc [(32, fnOf [(.int .i64)] (.one .bool) p59)] [EL39_5, EL54_27_39_2] [] [] []

theorem cL39_5 : LoopCert Try.prog O39 Γ0 3 EL39_5 :=
  ⟨⟨12, 0, L39_5, rfl, by kernel_rfl, by decide, limit_fn, fun _ => rfl, fun m old x r h => by
    obtain ⟨⟨x1, x3, x31, x32, x33, ⟨⟩⟩, y1, ⟨⟩⟩ := x
    refine Eq.trans ?_ h
    kernel_rfl⟩⟩

theorem cL54_27_39_2 : LoopCert Try.prog O39 Γ0 3 EL54_27_39_2 :=
  ⟨⟨49, 0, L54_27_39_2, rfl, by kernel_rfl, by decide, limit_fn, fun _ => rfl, fun m old x r h => by
    obtain ⟨⟨x0, x1, x7, x8, ⟨⟩⟩, y1, ⟨⟩⟩ := x
    refine Eq.trans ?_ h
    kernel_rfl⟩⟩

/-- emendate/nfa.Valid -/
noncomputable def p39 : (((Int) × ((Int) × ((List ((Int) × ((Int) × ((Bool) × ((List (Int)) × (Unit)))))) × ((List (Int)) × (Unit))))) × Unit) → Option (Bool)
  | (x0, ()) =>
    if (decide (x0.1 < (1 : Int))) = true then
      some false
    else
      if (decide (x0.1 > (2000 : Int))) = true then
        some false
      else
        if (decide (x0.2.1 ≥ (0 : Int))) = true then
          if (!(decide (x0.2.1 < x0.1))) = true then
            some false
          else
            if (!decide ((x0.2.2.2.1.length : Int) = x0.1)) = true then
              some false
            else
              (limit L39_5 (((), (), x0.2.2.1, (x0.2.2.1.length : Int), (0 : Int), ()), ((x0.1, x0.2.1, x0.2.2.1, x0.2.2.2.1, ()), ()))).bind (Sum.elim (fun r1 =>
                some r1.1.1) (fun r1 =>
                (limit L54_27_39_2 ((r1.2.1.2.2.2.1, (), (r1.2.1.2.2.2.1.length : Int), (0 : Int), ()), ((r1.2.1.1, r1.2.1.2.1, r1.2.1.2.2.1, r1.2.1.2.2.2.1, ()), ()))).bind (Sum.elim (fun r2 =>
                  some (!(decide (r2.1.1 ≥ (0 : Int))))) (fun _ =>
                  some (!(decide ((-1 : Int) ≥ (0 : Int))))))))
        else
          some false

theorem s39 : SoundFn Try.prog 12 (fnOf [(.pair (.int .i64) (.pair (.int .i64) (.pair (.slice (.pair (.int .i64) (.pair (.int .i64) (.pair .bool (.pair (.arr 4 (.int .u64)) .unit))))) (.pair (.slice (.int .i64)) .unit))))] (.one .bool) p39) :=
  fn_pure hm0 hng0 hΓ0 (t := [(32, fnOf [(.int .i64)] (.one .bool) p59)]) (all_cons s59 all_nil) (ls := [EL39_5, EL54_27_39_2]) (cmds := []) (leaves := []) (fr := []) (pt := []) (D := 3) (all_cons cL39_5 (all_cons cL54_27_39_2 all_nil)) (by kernel_rfl) (hfr := all_nil) fun x r h => by
    obtain ⟨x0, ⟨⟩⟩ := x
    refine Eq.trans ?_ h
    kernel_rfl

noncomputable def L45_4 : Nat → ((Unit × (Int) × Unit) × (((Int) × (Int) × (List ((Int) × ((Int) × ((Bool) × ((List (Int)) × (Unit)))))) × (List (Int)) × Unit) × Unit)) → Option ((((Bool) × Unit) × (Unit)) ⊕ ((Unit × Unit) × (((Int) × (Int) × (List ((Int) × ((Int) × ((Bool) × ((List (Int)) × (Unit)))))) × (List (Int)) × Unit) × Unit)))
  | 0, _ => none
  | n + 1, ((_, x3, ()), (y1, ())) =>
    if (decide (x3 < (y1.2.2.2.1.length : Int))) = true then
      if decide (0 ≤ x3 ∧ x3 < (y1.2.2.2.1.length : Int)) = true then
        if (decide ((y1.2.2.2.1.getD x3.toNat 0) < (-1 : Int))) = true then
          some (.inl ((false, ()), ()))
        else
          L45_4 n (((), (IntKind.i64.wrap (x3 + (1 : Int))), ()), ((y1.1, y1.2.1, y1.2.2.1, y1.2.2.2.1, ()), ()))
      else
        none
    else
      some (.inr (((), ()), ((y1.1, y1.2.1, y1.2.2.1, y1.2.2.2.1, ()), ())))

noncomputable def EL45_4 : LoopEnt := ⟨[13], 4, ⟨[], [1, 3], [1]⟩, [.ptr 1 0, .kd (.int .i64)], [.box [.kd (.int .i64), .kd (.int .i64), .kd (.slice (.pair (.int .i64) (.pair (.int .i64) (.pair .bool (.pair (.arr 4 (.int .u64)) .unit))))), .kd (.slice (.int .i64))]], [⟨.ret, [2], [.kd .bool], [], []⟩, ⟨(.exit 0), [1], [.ptr 1 0], [1], [.box [.kd (.int .i64), .kd (.int .i64), .kd (.slice (.pair (.int .i64) (.pair (.int .i64) (.pair .bool (.pair (.arr 4 (.int .u64)) .unit))))), .kd (.slice (.int .i64))]]⟩], limit L45_4⟩

noncomputable def L45_9 : Nat → ((Unit × (Int) × Unit) × (((Int) × (Int) × (List ((Int) × ((Int) × ((Bool) × ((List (Int)) × (Unit)))))) × (List (Int)) × Unit) × Unit)) → Option ((((Bool) × Unit) × (Unit)) ⊕ ((Unit) × (Unit)))
  | 0, _ => none
  | n + 1, ((_, x4, ()), (y1, ())) =>
    if (decide (x4 < (y1.2.2.1.length : Int))) = true then
      if decide (0 ≤ x4 ∧ x4 < (y1.2.2.1.length : Int)) = true then
        if (decide ((y1.2.2.1.getD x4.toNat (0, (0, (false, ((List.replicate 4 0), ()))))).1 < (0 : Int))) = true then
          some (.inl ((false, ()), ()))
        else
          if (decide ((y1.2.2.1.getD x4.toNat (0, (0, (false, ((List.replicate 4 0), ()))))).1 ≥ y1.1)) = true then
            some (.inl ((false, ()), ()))
          else
            if (decide ((y1.2.2.1.getD x4.toNat (0, (0, (false, ((List.replicate 4 0), ()))))).2.1 < (0 : Int))) = true then
              some (.inl ((false, ()), ()))
            else
              if (decide ((y1.2.2.1.getD x4.toNat (0, (0, (false, ((List.replicate 4 0), ()))))).2.1 ≥ y1.1)) = true then
                some (.inl ((false, ()), ()))
              else
                if (y1.2.2.1.getD x4.toNat (0, (0, (false, ((List.replicate 4 0), ()))))).2.2.1 = true then
                  if (!(Kind.eqB (.arr 4 (.int .u64)) [((y1.2.2.1.getD x4.toNat (0, (0, (false, ((List.replicate 4 0), ()))))).2.2.2.1.getD 0 0), ((y1.2.2.1.getD x4.toNat (0, (0, (false, ((List.replicate 4 0), ()))))).2.2.2.1.getD 1 0), ((y1.2.2.1.getD x4.toNat (0, (0, (false, ((List.replicate 4 0), ()))))).2.2.2.1.getD 2 0), ((y1.2.2.1.getD x4.toNat (0, (0, (false, ((List.replicate 4 0), ()))))).2.2.2.1.getD 3 0)] [(0 : Int), (0 : Int), (0 : Int), (0 : Int)])) = true then
                    some (.inl ((false, ()), ()))
                  else
                    L45_9 n (((), (IntKind.i64.wrap (x4 + (1 : Int))), ()), ((y1.1, y1.2.1, y1.2.2.1, y1.2.2.2.1, ()), ()))
                else
                  L45_9 n (((), (IntKind.i64.wrap (x4 + (1 : Int))), ()), ((y1.1, y1.2.1, y1.2.2.1, y1.2.2.2.1, ()), ()))
      else
        none
    else
      some (.inr ((), ()))

noncomputable def EL45_9 : LoopEnt := ⟨[13], 9, ⟨[], [1, 4], [1]⟩, [.ptr 1 0, .kd (.int .i64)], [.box [.kd (.int .i64), .kd (.int .i64), .kd (.slice (.pair (.int .i64) (.pair (.int .i64) (.pair .bool (.pair (.arr 4 (.int .u64)) .unit))))), .kd (.slice (.int .i64))]], [⟨.ret, [2], [.kd .bool], [], []⟩, ⟨(.exit 2), [], [], [], []⟩], limit L45_9⟩

noncomputable def O45 : Orc := mkOrc [] [EL45_4, EL45_9] [] [] []

theorem cL45_4 : LoopCert Try.prog O45 Γ0 1 EL45_4 :=
  ⟨⟨13, 0, L45_4, rfl, by kernel_rfl, by decide, limit_fn, fun _ => rfl, fun m old x r h => by
    obtain ⟨⟨x1, x3, ⟨⟩⟩, y1, ⟨⟩⟩ := x
    refine Eq.trans ?_ h
    kernel_rfl⟩⟩

theorem cL45_9 : LoopCert Try.prog O45 Γ0 1 EL45_9 :=
  ⟨⟨13, 1, L45_9, rfl, by kernel_rfl, by decide, limit_fn, fun _ => rfl, fun m old x r h => by
    obtain ⟨⟨x1, x4, ⟨⟩⟩, y1, ⟨⟩⟩ := x
    refine Eq.trans ?_ h
    kernel_rfl⟩⟩

/-- emendate/emendateref09.Valid -/
noncomputable def p45 : (((Int) × ((Int) × ((List ((Int) × ((Int) × ((Bool) × ((List (Int)) × (Unit)))))) × ((List (Int)) × (Unit))))) × Unit) → Option (Bool)
  | (x0, ()) =>
    if (decide (x0.1 < (1 : Int))) = true then
      some false
    else
      if (decide (x0.1 > (2000 : Int))) = true then
        some false
      else
        if (decide (x0.2.1 < (0 : Int))) = true then
          some false
        else
          if (decide (x0.2.1 ≥ x0.1)) = true then
            some false
          else
            if (!decide ((x0.2.2.2.1.length : Int) = x0.1)) = true then
              some false
            else
              (limit L45_4 (((), (0 : Int), ()), ((x0.1, x0.2.1, x0.2.2.1, x0.2.2.2.1, ()), ()))).bind (Sum.elim (fun r1 =>
                some r1.1.1) (fun r1 =>
                (limit L45_9 (((), (0 : Int), ()), ((r1.2.1.1, r1.2.1.2.1, r1.2.1.2.2.1, r1.2.1.2.2.2.1, ()), ()))).bind (Sum.elim (fun r2 =>
                  some r2.1.1) (fun _ =>
                  some true))))

theorem s45 : SoundFn Try.prog 13 (fnOf [(.pair (.int .i64) (.pair (.int .i64) (.pair (.slice (.pair (.int .i64) (.pair (.int .i64) (.pair .bool (.pair (.arr 4 (.int .u64)) .unit))))) (.pair (.slice (.int .i64)) .unit))))] (.one .bool) p45) :=
  fn_pure hm0 hng0 hΓ0 (t := []) all_nil (ls := [EL45_4, EL45_9]) (cmds := []) (leaves := []) (fr := []) (pt := []) (D := 1) (all_cons cL45_4 (all_cons cL45_9 all_nil)) (by kernel_rfl) (hfr := all_nil) fun x r h => by
    obtain ⟨x0, ⟨⟩⟩ := x
    refine Eq.trans ?_ h
    kernel_rfl

noncomputable def L48_3 : Nat → (((List (Int)) × Unit × Unit × (Int) × Unit) × (((Int) × (Int) × (List ((Int) × ((Int) × ((Bool) × ((List (Int)) × (Unit)))))) × (List (Int)) × Unit) × (List (Bool)) × Unit)) → Option ((Unit × Unit × Unit) × (((Int) × (Int) × (List ((Int) × ((Int) × ((Bool) × ((List (Int)) × (Unit)))))) × (List (Int)) × Unit) × (List (Bool)) × Unit))
  | 0, _ => none
  | n + 1, ((x1, _, _, x6, ()), (y2, y12, ())) =>
    if (decide (x6 < (x1.length : Int))) = true then
      if decide (0 ≤ x6 ∧ x6 < (x1.length : Int)) = true then
        if (decide ((x1.getD x6.toNat 0) ≥ (0 : Int))) = true then
          if decide (0 ≤ x6 ∧ x6 < (x1.length : Int)) = true then
            if (decide ((x1.getD x6.toNat 0) < y2.1)) = true then
              if decide (0 ≤ x6 ∧ x6 < (x1.length : Int)) = true then
                if decide (0 ≤ (x1.getD x6.toNat 0) ∧ (x1.getD x6.toNat 0) < (y12.length : Int)) = true then
                  L48_3 n ((x1, (), (), (IntKind.i64.wrap (x6 + (1 : Int))), ()), ((y2.1, y2.2.1, y2.2.2.1, y2.2.2.2.1, ()), (y12.set (x1.getD x6.toNat 0).toNat true), ()))
                else
                  none
              else
                none
            else
              L48_3 n ((x1, (), (), (IntKind.i64.wrap (x6 + (1 : Int))), ()), ((y2.1, y2.2.1, y2.2.2.1, y2.2.2.2.1, ()), y12, ()))
          else
            none
        else
          L48_3 n ((x1, (), (), (IntKind.i64.wrap (x6 + (1 : Int))), ()), ((y2.1, y2.2.1, y2.2.2.1, y2.2.2.2.1, ()), y12, ()))
      else
        none
    else
      some (((), (), ()), ((y2.1, y2.2.1, y2.2.2.1, y2.2.2.2.1, ()), y12, ()))

noncomputable def EL48_3 : LoopEnt := ⟨[17], 3, ⟨[], [1, 2, 5, 6], [2, 12]⟩, [.kd (.slice (.int .i64)), .ptr 2 0, .ref 12, .kd (.int .i64)], [.box [.kd (.int .i64), .kd (.int .i64), .kd (.slice (.pair (.int .i64) (.pair (.int .i64) (.pair .bool (.pair (.arr 4 (.int .u64)) .unit))))), .kd (.slice (.int .i64))], .row .bool], [⟨(.exit 0), [2, 5], [.ptr 2 0, .ref 12], [2, 12], [.box [.kd (.int .i64), .kd (.int .i64), .kd (.slice (.pair (.int .i64) (.pair (.int .i64) (.pair .bool (.pair (.arr 4 (.int .u64)) .unit))))), .kd (.slice (.int .i64))], .row .bool]⟩], limit L48_3⟩

noncomputable def L48_11 : Nat → ((Unit × Unit × (Bool) × (Int) × Unit) × (((Int) × (Int) × (List ((Int) × ((Int) × ((Bool) × ((List (Int)) × (Unit)))))) × (List (Int)) × Unit) × (List (Bool)) × Unit)) → Option ((Unit × Unit × (Bool) × Unit) × (((Int) × (Int) × (List ((Int) × ((Int) × ((Bool) × ((List (Int)) × (Unit)))))) × (List (Int)) × Unit) × (List (Bool)) × Unit))
  | 0, _ => none
  | n + 1, ((_, _, x7, x8, ()), (y2, y12, ())) =>
    if (decide (x8 < (y2.2.2.1.length : Int))) = true then
      if decide (0 ≤ x8 ∧ x8 < (y2.2.2.1.length : Int)) = true then
        if (y2.2.2.1.getD x8.toNat (0, (0, (false, ((List.replicate 4 0), ()))))).2.2.1 = true then
          if decide (0 ≤ (y2.2.2.1.getD x8.toNat (0, (0, (false, ((List.replicate 4 0), ()))))).1 ∧ (y2.2.2.1.getD x8.toNat (0, (0, (false, ((List.replicate 4 0), ()))))).1 < (y12.length : Int)) = true then
            if (y12.getD (y2.2.2.1.getD x8.toNat (0, (0, (false, ((List.replicate 4 0), ()))))).1.toNat false) = true then
              if decide (0 ≤ (y2.2.2.1.getD x8.toNat (0, (0, (false, ((List.replicate 4 0), ()))))).2.1 ∧ (y2.2.2.1.getD x8.toNat (0, (0, (false, ((List.replicate 4 0), ()))))).2.1 < (y12.length : Int)) = true then
                if (!(y12.getD (y2.2.2.1.getD x8.toNat (0, (0, (false, ((List.replicate 4 0), ()))))).2.1.toNat false)) = true then
                  if decide (0 ≤ (y2.2.2.1.getD x8.toNat (0, (0, (false, ((List.replicate 4 0), ()))))).2.1 ∧ (y2.2.2.1.getD x8.toNat (0, (0, (false, ((List.replicate 4 0), ()))))).2.1 < (y12.length : Int)) = true then
                    L48_11 n (((), (), true, (IntKind.i64.wrap (x8 + (1 : Int))), ()), ((y2.1, y2.2.1, y2.2.2.1, y2.2.2.2.1, ()), (y12.set (y2.2.2.1.getD x8.toNat (0, (0, (false, ((List.replicate 4 0), ()))))).2.1.toNat true), ()))
                  else
                    none
                else
                  L48_11 n (((), (), x7, (IntKind.i64.wrap (x8 + (1 : Int))), ()), ((y2.1, y2.2.1, y2.2.2.1, y2.2.2.2.1, ()), y12, ()))
              else
                none
            else
              L48_11 n (((), (), x7, (IntKind.i64.wrap (x8 + (1 : Int))), ()), ((y2.1, y2.2.1, y2.2.2.1, y2.2.2.2.1, ()), y12, ()))
          else
            none
        else
          L48_11 n (((), (), x7, (IntKind.i64.wrap (x8 + (1 : Int))), ()), ((y2.1, y2.2.1, y2.2.2.1, y2.2.2.2.1, ()), y12, ()))
      else
        none
    else
      some (((), (), x7, ()), ((y2.1, y2.2.1, y2.2.2.1, y2.2.2.2.1, ()), y12, ()))

noncomputable def EL48_11 : LoopEnt := ⟨[17], 11, ⟨[], [2, 5, 7, 8], [2, 12]⟩, [.ptr 2 0, .ref 12, .kd .bool, .kd (.int .i64)], [.box [.kd (.int .i64), .kd (.int .i64), .kd (.slice (.pair (.int .i64) (.pair (.int .i64) (.pair .bool (.pair (.arr 4 (.int .u64)) .unit))))), .kd (.slice (.int .i64))], .row .bool], [⟨(.exit 4), [2, 5, 7], [.ptr 2 0, .ref 12, .kd .bool], [2, 12], [.box [.kd (.int .i64), .kd (.int .i64), .kd (.slice (.pair (.int .i64) (.pair (.int .i64) (.pair .bool (.pair (.arr 4 (.int .u64)) .unit))))), .kd (.slice (.int .i64))], .row .bool]⟩], limit L48_11⟩

noncomputable def L48_8 : Nat → ((Unit × Unit × (Bool) × Unit) × (((Int) × (Int) × (List ((Int) × ((Int) × ((Bool) × ((List (Int)) × (Unit)))))) × (List (Int)) × Unit) × (List (Bool)) × Unit)) → Option ((Unit × Unit) × ((List (Bool)) × Unit))
  | 0, _ => none
  | n + 1, ((_, _, x7, ()), (y2, y12, ())) =>
    if x7 = true then
      (limit L48_11 (((), (), false, (0 : Int), ()), ((y2.1, y2.2.1, y2.2.2.1, y2.2.2.2.1, ()), y12, ()))).bind fun r1 =>
      L48_8 n (((), (), r1.1.2.2.1, ()), ((r1.2.1.1, r1.2.1.2.1, r1.2.1.2.2.1, r1.2.1.2.2.2.1, ()), r1.2.2.1, ()))
    else
      some (((), ()), (y12, ()))

noncomputable def EL48_8 : LoopEnt := ⟨[17], 8, ⟨[], [2, 5, 7], [2, 12]⟩, [.ptr 2 0, .ref 12, .kd .bool], [.box [.kd (.int .i64), .kd (.int .i64), .kd (.slice (.pair (.int .i64) (.pair (.int .i64) (.pair .bool (.pair (.arr 4 (.int .u64)) .unit))))), .kd (.slice (.int .i64))], .row .bool], [⟨(.exit 2), [5], [.ref 12], [12], [.row .bool]⟩], limit L48_8⟩

noncomputable def L64_48_3 : Nat → ((Unit × Unit × (Int) × Unit) × ((List (Bool)) × (List (Int)) × Unit)) → Option ((Unit × Unit) × ((List (Bool)) × (List (Int)) × Unit))
  | 0, _ => none
  | n + 1, ((_, _, x4, ()), (y12, y1003, ())) =>
    if (decide (x4 < (y12.length : Int))) = true then
      if decide (0 ≤ x4 ∧ x4 < (y12.length : Int)) = true then
        if (y12.getD x4.toNat false) = true then
          if decide (y1003.length + ([x4] : List (Int)).length ≤ lim) = true then
            L64_48_3 n (((), (), (IntKind.i64.wrap (x4 + (1 : Int))), ()), (y12, (y1003 ++ ([x4] : List (Int))), ()))
          else
            none
        else
          L64_48_3 n (((), (), (IntKind.i64.wrap (x4 + (1 : Int))), ()), (y12, y1003, ()))
      else
        none
    else
      some (((), ()), (y12, y1003, ()))

noncomputable def EL64_48_3 : LoopEnt := ⟨[35, 17], 3, ⟨[.keep [0, 3, 4] [12, 1003, 1018], .adopt 3 (.int .i64) 1003], [0, 3, 4], [12, 1003]⟩, [.ref 12, .ref 1003, .kd (.int .i64)], [.row .bool, .row (.int .i64)], [⟨(.exit 0), [3], [.ref 1003], [12, 1003], [.row .bool, .row (.int .i64)]⟩], limit L64_48_3⟩

noncomputable def O48 : Orc := mkOrc [] [EL48_3, EL48_11, EL48_8, EL64_48_3] [] [] []

theorem cL48_3 : LoopCert Try.prog O48 Γ0 2 EL48_3 :=
  ⟨⟨17, 0, L48_3, rfl, by kernel_rfl, by decide, limit_fn, fun _ => rfl, fun m old x r h => by
    obtain ⟨⟨x1, x2, x5, x6, ⟨⟩⟩, y2, y12, ⟨⟩⟩ := x
    refine Eq.trans ?_ h
    kernel_rfl⟩⟩

theorem cL48_11 : LoopCert Try.prog O48 Γ0 2 EL48_11 :=
  ⟨⟨17, 2, L48_11, rfl, by kernel_rfl, by decide, limit_fn, fun _ => rfl, fun m old x r h => by
    obtain ⟨⟨x2, x5, x7, x8, ⟨⟩⟩, y2, y12, ⟨⟩⟩ := x
    refine Eq.trans ?_ h
    kernel_rfl⟩⟩

theorem cL48_8 : LoopCert Try.prog O48 Γ0 2 EL48_8 :=
  ⟨⟨17, 1, L48_8, rfl, by kernel_rfl, by decide, limit_fn, fun _ => rfl, fun m old x r h => by
    obtain ⟨⟨x2, x5, x7, ⟨⟩⟩, y2, y12, ⟨⟩⟩ := x
    refine Eq.trans ?_ h
    kernel_rfl⟩⟩

theorem cL64_48_3 : LoopCert Try.prog O48 Γ0 2 EL64_48_3 :=
  ⟨⟨35, 0, L64_48_3, rfl, by kernel_rfl, by decide, limit_fn, fun _ => rfl, fun m old x r h => by
    obtain ⟨⟨x0, x3, x4, ⟨⟩⟩, y12, y1003, ⟨⟩⟩ := x
    refine Eq.trans ?_ h
    kernel_rfl⟩⟩

/-- emendate/emendateref09.Closure -/
noncomputable def p48 : (((Int) × ((Int) × ((List ((Int) × ((Int) × ((Bool) × ((List (Int)) × (Unit)))))) × ((List (Int)) × (Unit))))) × (List (Int)) × Unit) → Option (List (Int))
  | (x0, x1, ()) =>
    if decide (x0.1 = x0.1 ∧ 0 ≤ x0.1 ∧ x0.1 ≤ (lim : Int)) = true then
      (limit L48_3 ((x1, (), (), (0 : Int), ()), ((x0.1, x0.2.1, x0.2.2.1, x0.2.2.2.1, ()), (List.replicate x0.1.toNat false), ()))).bind fun r1 =>
      (limit L48_8 (((), (), true, ()), ((r1.2.1.1, r1.2.1.2.1, r1.2.1.2.2.1, r1.2.1.2.2.2.1, ()), r1.2.2.1, ()))).bind fun r2 =>
      (limit L64_48_3 (((), (), (0 : Int), ()), (r2.2.1, ([] : List (Int)), ()))).bind fun r3 =>
      some r3.2.2.1
    else
      none

theorem s48 : SoundFn Try.prog 17 (fnOf [(.pair (.int .i64) (.pair (.int .i64) (.pair (.slice (.pair (.int .i64) (.pair (.int .i64) (.pair .bool (.pair (.arr 4 (.int .u64)) .unit))))) (.pair (.slice (.int .i64)) .unit)))), (.slice (.int .i64))] (.one (.slice (.int .i64))) p48) :=
  fn_pure hm0 hng0 hΓ0 (t := []) all_nil (ls := [EL48_3, EL48_11, EL48_8, EL64_48_3]) (cmds := []) (leaves := []) (fr := []) (pt := []) (D := 2) (all_cons cL48_3 (all_cons cL48_11 (all_cons cL48_8 (all_cons cL64_48_3 all_nil)))) (by kernel_rfl) (hfr := all_nil) fun x r h => by
    obtain ⟨x0, x1, ⟨⟩⟩ := x
    refine Eq.trans ?_ h
    kernel_rfl

noncomputable def L41_5 : Nat → ((Unit × Unit × Unit × Unit × (List (Int)) × (Int) × (Int) × Unit) × (((Int) × (Int) × (List ((Int) × ((Int) × ((Bool) × ((List (Int)) × (Unit)))))) × (List (Int)) × Unit) × (Unit × Unit) × (Unit × Unit) × (List (Bool)) × (List (Int)) × Unit)) → Option ((Unit × Unit × Unit × Unit × Unit) × (((Int) × (Int) × (List ((Int) × ((Int) × ((Bool) × ((List (Int)) × (Unit)))))) × (List (Int)) × Unit) × (Unit × Unit) × (Unit × Unit) × (List (Bool)) × (List (Int)) × Unit))
  | 0, _ => none
  | n + 1, ((_, _, _, _, x17, x18, x19, ()), (y2, _, _, y15, y306, ())) =>
    if (decide (x19 < x18)) = true then
      if decide (0 ≤ x19 ∧ x19 < (x17.length : Int)) = true then
        if (decide ((x17.getD x19.toNat 0) ≥ (0 : Int))) = true then
          if (decide ((x17.getD x19.toNat 0) < y2.1)) = true then
            if decide (0 ≤ (x17.getD x19.toNat 0) ∧ (x17.getD x19.toNat 0) < (y15.length : Int)) = true then
              if (!(y15.getD (x17.getD x19.toNat 0).toNat false)) = true then
                if decide (0 ≤ (x17.getD x19.toNat 0) ∧ (x17.getD x19.toNat 0) < (y15.length : Int)) = true then
                  if decide (y306.length + ([(x17.getD x19.toNat 0)] : List (Int)).length ≤ lim) = true then
                    L41_5 n (((), (), (), (), x17, x18, (IntKind.i64.wrap (x19 + (1 : Int))), ()), ((y2.1, y2.2.1, y2.2.2.1, y2.2.2.2.1, ()), ((), ()), ((), ()), (y15.set (x17.getD x19.toNat 0).toNat true), (y306 ++ ([(x17.getD x19.toNat 0)] : List (Int))), ()))
                  else
                    none
                else
                  none
              else
                L41_5 n (((), (), (), (), x17, x18, (IntKind.i64.wrap (x19 + (1 : Int))), ()), ((y2.1, y2.2.1, y2.2.2.1, y2.2.2.2.1, ()), ((), ()), ((), ()), y15, y306, ()))
            else
              none
          else
            L41_5 n (((), (), (), (), x17, x18, (IntKind.i64.wrap (x19 + (1 : Int))), ()), ((y2.1, y2.2.1, y2.2.2.1, y2.2.2.2.1, ()), ((), ()), ((), ()), y15, y306, ()))
        else
          L41_5 n (((), (), (), (), x17, x18, (IntKind.i64.wrap (x19 + (1 : Int))), ()), ((y2.1, y2.2.1, y2.2.2.1, y2.2.2.2.1, ()), ((), ()), ((), ()), y15, y306, ()))
      else
        none
    else
      some (((), (), (), (), ()), ((y2.1, y2.2.1, y2.2.2.1, y2.2.2.2.1, ()), ((), ()), ((), ()), y15, y306, ()))

noncomputable def EL41_5 : LoopEnt := ⟨[15], 5, ⟨[.keep [2, 5, 6, 7, 17, 18, 19] [2, 5, 6, 15, 307], .adoptCell 6 0 (.int .i64) 306], [2, 5, 6, 7, 17, 18, 19], [2, 5, 6, 15, 306]⟩, [.ptr 2 0, .ptr 5 0, .ptr 6 0, .fnp 33 [2, 5, 6], .kd (.slice (.int .i64)), .kd (.int .i64), .kd (.int .i64)], [.box [.kd (.int .i64), .kd (.int .i64), .kd (.slice (.pair (.int .i64) (.pair (.int .i64) (.pair .bool (.pair (.arr 4 (.int .u64)) .unit))))), .kd (.slice (.int .i64))], .box [.ref 15], .box [.ref 306], .row .bool, .row (.int .i64)], [⟨(.exit 0), [2, 5, 6, 7], [.ptr 2 0, .ptr 5 0, .ptr 6 0, .fnp 33 [2, 5, 6]], [2, 5, 6, 15, 306], [.box [.kd (.int .i64), .kd (.int .i64), .kd (.slice (.pair (.int .i64) (.pair (.int .i64) (.pair .bool (.pair (.arr 4 (.int .u64)) .unit))))), .kd (.slice (.int .i64))], .box [.ref 15], .box [.ref 306], .row .bool, .row (.int .i64)]⟩], limit L41_5⟩

noncomputable def L41_13 : Nat → ((Unit × Unit × Unit × Unit × (Int) × (List ((Int) × ((Int) × ((Bool) × ((List (Int)) × (Unit)))))) × (Int) × (Int) × Unit) × (((Int) × (Int) × (List ((Int) × ((Int) × ((Bool) × ((List (Int)) × (Unit)))))) × (List (Int)) × Unit) × (Unit × Unit) × (Unit × Unit) × (List (Bool)) × (List (Int)) × Unit)) → Option ((Unit × Unit × Unit × Unit × Unit) × (((Int) × (Int) × (List ((Int) × ((Int) × ((Bool) × ((List (Int)) × (Unit)))))) × (List (Int)) × Unit) × (Unit × Unit) × (Unit × Unit) × (List (Bool)) × (List (Int)) × Unit))
  | 0, _ => none
  | n + 1, ((_, _, _, _, x10, x42, x43, x44, ()), (y2, _, _, y15, y306, ())) =>
    if (decide (x44 < x43)) = true then
      if decide (0 ≤ x44 ∧ x44 < (x42.length : Int)) = true then
        if (x42.getD x44.toNat (0, (0, (false, ((List.replicate 4 0), ()))))).2.2.1 = true then
          if (decide ((x42.getD x44.toNat (0, (0, (false, ((List.replicate 4 0), ()))))).1 = x10)) = true then
            if (decide ((x42.getD x44.toNat (0, (0, (false, ((List.replicate 4 0), ()))))).2.1 ≥ (0 : Int))) = true then
              if (decide ((x42.getD x44.toNat (0, (0, (false, ((List.replicate 4 0), ()))))).2.1 < y2.1)) = true then
                if decide (0 ≤ (x42.getD x44.toNat (0, (0, (false, ((List.replicate 4 0), ()))))).2.1 ∧ (x42.getD x44.toNat (0, (0, (false, ((List.replicate 4 0), ()))))).2.1 < (y15.length : Int)) = true then
                  if (!(y15.getD (x42.getD x44.toNat (0, (0, (false, ((List.replicate 4 0), ()))))).2.1.toNat false)) = true then
                    if decide (0 ≤ (x42.getD x44.toNat (0, (0, (false, ((List.replicate 4 0), ()))))).2.1 ∧ (x42.getD x44.toNat (0, (0, (false, ((List.replicate 4 0), ()))))).2.1 < (y15.length : Int)) = true then
                      if decide (y306.length + ([(x42.getD x44.toNat (0, (0, (false, ((List.replicate 4 0), ()))))).2.1] : List (Int)).length ≤ lim) = true then
                        L41_13 n (((), (), (), (), x10, x42, x43, (IntKind.i64.wrap (x44 + (1 : Int))), ()), ((y2.1, y2.2.1, y2.2.2.1, y2.2.2.2.1, ()), ((), ()), ((), ()), (y15.set (x42.getD x44.toNat (0, (0, (false, ((List.replicate 4 0), ()))))).2.1.toNat true), (y306 ++ ([(x42.getD x44.toNat (0, (0, (false, ((List.replicate 4 0), ()))))).2.1] : List (Int))), ()))
                      else
                        none
                    else
                      none
                  else
                    L41_13 n (((), (), (), (), x10, x42, x43, (IntKind.i64.wrap (x44 + (1 : Int))), ()), ((y2.1, y2.2.1, y2.2.2.1, y2.2.2.2.1, ()), ((), ()), ((), ()), y15, y306, ()))
                else
                  none
              else
                L41_13 n (((), (), (), (), x10, x42, x43, (IntKind.i64.wrap (x44 + (1 : Int))), ()), ((y2.1, y2.2.1, y2.2.2.1, y2.2.2.2.1, ()), ((), ()), ((), ()), y15, y306, ()))
            else
              L41_13 n (((), (), (), (), x10, x42, x43, (IntKind.i64.wrap (x44 + (1 : Int))), ()), ((y2.1, y2.2.1, y2.2.2.1, y2.2.2.2.1, ()), ((), ()), ((), ()), y15, y306, ()))
          else
            L41_13 n (((), (), (), (), x10, x42, x43, (IntKind.i64.wrap (x44 + (1 : Int))), ()), ((y2.1, y2.2.1, y2.2.2.1, y2.2.2.2.1, ()), ((), ()), ((), ()), y15, y306, ()))
        else
          L41_13 n (((), (), (), (), x10, x42, x43, (IntKind.i64.wrap (x44 + (1 : Int))), ()), ((y2.1, y2.2.1, y2.2.2.1, y2.2.2.2.1, ()), ((), ()), ((), ()), y15, y306, ()))
      else
        none
    else
      some (((), (), (), (), ()), ((y2.1, y2.2.1, y2.2.2.1, y2.2.2.2.1, ()), ((), ()), ((), ()), y15, y306, ()))

noncomputable def EL41_13 : LoopEnt := ⟨[15], 13, ⟨[.keep [2, 5, 6, 7, 10, 42, 43, 44] [2, 5, 6, 15, 306, 307], .adoptCell 6 0 (.int .i64) 306], [2, 5, 6, 7, 10, 42, 43, 44], [2, 5, 6, 15, 306]⟩, [.ptr 2 0, .ptr 5 0, .ptr 6 0, .fnp 33 [2, 5, 6], .kd (.int .i64), .kd (.slice (.pair (.int .i64) (.pair (.int .i64) (.pair .bool (.pair (.arr 4 (.int .u64)) .unit))))), .kd (.int .i64), .kd (.int .i64)], [.box [.kd (.int .i64), .kd (.int .i64), .kd (.slice (.pair (.int .i64) (.pair (.int .i64) (.pair .bool (.pair (.arr 4 (.int .u64)) .unit))))), .kd (.slice (.int .i64))], .box [.ref 15], .box [.ref 306], .row .bool, .row (.int .i64)], [⟨(.exit 4), [2, 5, 6, 7], [.ptr 2 0, .ptr 5 0, .ptr 6 0, .fnp 33 [2, 5, 6]], [2, 5, 6, 15, 306], [.box [.kd (.int .i64), .kd (.int .i64), .kd (.slice (.pair (.int .i64) (.pair (.int .i64) (.pair .bool (.pair (.arr 4 (.int .u64)) .unit))))), .kd (.slice (.int .i64))], .box [.ref 15], .box [.ref 306], .row .bool, .row (.int .i64)]⟩], limit L41_13⟩

noncomputable def L41_9 : Nat → ((Unit × Unit × Unit × Unit × Unit) × (((Int) × (Int) × (List ((Int) × ((Int) × ((Bool) × ((List (Int)) × (Unit)))))) × (List (Int)) × Unit) × (Unit × Unit) × (Unit × Unit) × (List (Bool)) × (List (Int)) × Unit)) → Option ((Unit × Unit) × ((Unit × Unit) × (List (Bool)) × Unit))
  | 0, _ => none
  | n + 1, ((_, _, _, _, ()), (y2, _, _, y15, y306, ())) =>
    if (decide ((y306.length : Int) > (0 : Int))) = true then
      if decide (0 ≤ (IntKind.i64.wrap ((y306.length : Int) - (1 : Int))) ∧ (IntKind.i64.wrap ((y306.length : Int) - (1 : Int))) < (y306.length : Int)) = true then
        if decide (0 ≤ (IntKind.i64.wrap ((y306.length : Int) - (1 : Int))) ∧ (IntKind.i64.wrap ((y306.length : Int) - (1 : Int))) ≤ (y306.length : Int)) = true then
          (limit L41_13 (((), (), (), (), (y306.getD (IntKind.i64.wrap ((y306.length : Int) - (1 : Int))).toNat 0), y2.2.2.1, (y2.2.2.1.length : Int), (0 : Int), ()), ((y2.1, y2.2.1, y2.2.2.1, y2.2.2.2.1, ()), ((), ()), ((), ()), y15, (y306.take (IntKind.i64.wrap ((y306.length : Int) - (1 : Int))).toNat), ()))).bind fun r1 =>
          L41_9 n (((), (), (), (), ()), ((r1.2.1.1, r1.2.1.2.1, r1.2.1.2.2.1, r1.2.1.2.2.2.1, ()), ((), ()), ((), ()), r1.2.2.2.2.1, r1.2.2.2.2.2.1, ()))
        else
          none
      else
        none
    else
      some (((), ()), (((), ()), y15, ()))

noncomputable def EL41_9 : LoopEnt := ⟨[15], 9, ⟨[.keep [2, 5, 6, 7] [2, 5, 6, 15, 306], .adoptCell 6 0 (.int .i64) 306], [2, 5, 6, 7], [2, 5, 6, 15, 306]⟩, [.ptr 2 0, .ptr 5 0, .ptr 6 0, .fnp 33 [2, 5, 6]], [.box [.kd (.int .i64), .kd (.int .i64), .kd (.slice (.pair (.int .i64) (.pair (.int .i64) (.pair .bool (.pair (.arr 4 (.int .u64)) .unit))))), .kd (.slice (.int .i64))], .box [.ref 15], .box [.ref 306], .row .bool, .row (.int .i64)], [⟨(.exit 2), [5], [.ptr 5 0], [5, 15], [.box [.ref 15], .row .bool]⟩], limit L41_9⟩

noncomputable def L62_41_3 : Nat → ((Unit × Unit × (Int) × (Int) × Unit) × ((Unit × Unit) × (List (Bool)) × (List (Int)) × Unit)) → Option ((Unit × Unit) × ((Unit × Unit) × (List (Bool)) × (List (Int)) × Unit))
  | 0, _ => none
  | n + 1, ((_, _, x7, x8, ()), (_, y15, y1003, ())) =>
    if (decide (x8 < x7)) = true then
      if decide (0 ≤ x8 ∧ x8 < (y15.length : Int)) = true then
        if (y15.getD x8.toNat false) = true then
          if decide (y1003.length + ([x8] : List (Int)).length ≤ lim) = true then
            L62_41_3 n (((), (), x7, (IntKind.i64.wrap (x8 + (1 : Int))), ()), (((), ()), y15, (y1003 ++ ([x8] : List (Int))), ()))
          else
            none
        else
          L62_41_3 n (((), (), x7, (IntKind.i64.wrap (x8 + (1 : Int))), ()), (((), ()), y15, y1003, ()))
      else
        none
    else
      some (((), ()), (((), ()), y15, y1003, ()))

noncomputable def EL62_41_3 : LoopEnt := ⟨[34, 15], 3, ⟨[.keep [3, 6, 7, 8] [5, 15, 1003, 1017], .adopt 3 (.int .i64) 1003], [3, 6, 7, 8], [5, 15, 1003]⟩, [.ref 1003, .ref 15, .kd (.int .i64), .kd (.int .i64)], [.box [.ref 15], .row .bool, .row (.int .i64)], [⟨(.exit 0), [3], [.ref 1003], [5, 15, 1003], [.box [.ref 15], .row .bool, .row (.int .i64)]⟩], limit L62_41_3⟩

noncomputable def O41 : Orc := mkOrc [] [EL41_5, EL41_13, EL41_9, EL62_41_3] [] [([33, 15], [.adoptCell 6 0 (.int .i64) 307])] []

theorem cL41_5 : LoopCert Try.prog O41 Γ0 2 EL41_5 :=
  ⟨⟨15, 0, L41_5, rfl, by kernel_rfl, by decide, limit_fn, fun _ => rfl, fun m old x r h => by
    obtain ⟨⟨x2, x5, x6, x7, x17, x18, x19, ⟨⟩⟩, y2, y5, y6, y15, y306, ⟨⟩⟩ := x
    refine Eq.trans ?_ h
    kernel_rfl⟩⟩

theorem cL41_13 : LoopCert Try.prog O41 Γ0 2 EL41_13 :=
  ⟨⟨15, 2, L41_13, rfl, by kernel_rfl, by decide, limit_fn, fun _ => rfl, fun m old x r h => by
    obtain ⟨⟨x2, x5, x6, x7, x10, x42, x43, x44, ⟨⟩⟩, y2, y5, y6, y15, y306, ⟨⟩⟩ := x
    refine Eq.trans ?_ h
    kernel_rfl⟩⟩

theorem cL41_9 : LoopCert Try.prog O41 Γ0 2 EL41_9 :=
  ⟨⟨15, 1, L41_9, rfl, by kernel_rfl, by decide, limit_fn, fun _ => rfl, fun m old x r h => by
    obtain ⟨⟨x2, x5, x6, x7, ⟨⟩⟩, y2, y5, y6, y15, y306, ⟨⟩⟩ := x
    refine Eq.trans ?_ h
    kernel_rfl⟩⟩

theorem cL62_41_3 : LoopCert Try.prog O41 Γ0 2 EL62_41_3 :=
  ⟨⟨34, 0, L62_41_3, rfl, by kernel_rfl, by decide, limit_fn, fun _ => rfl, fun m old x r h => by
    obtain ⟨⟨x3, x6, x7, x8, ⟨⟩⟩, y5, y15, y1003, ⟨⟩⟩ := x
    refine Eq.trans ?_ h
    kernel_rfl⟩⟩

/-- emendate/nfa.Closure -/
noncomputable def p41 : (((Int) × ((Int) × ((List ((Int) × ((Int) × ((Bool) × ((List (Int)) × (Unit)))))) × ((List (Int)) × (Unit))))) × (List (Int)) × Unit) → Option (List (Int))
  | (x0, x1, ()) =>
    if decide (x0.1 = x0.1 ∧ 0 ≤ x0.1 ∧ x0.1 ≤ (lim : Int)) = true then
      (limit L41_5 (((), (), (), (), x1, (x1.length : Int), (0 : Int), ()), ((x0.1, x0.2.1, x0.2.2.1, x0.2.2.2.1, ()), ((), ()), ((), ()), (List.replicate x0.1.toNat false), ([] : List (Int)), ()))).bind fun r1 =>
      (limit L41_9 (((), (), (), (), ()), ((r1.2.1.1, r1.2.1.2.1, r1.2.1.2.2.1, r1.2.1.2.2.2.1, ()), ((), ()), ((), ()), r1.2.2.2.2.1, r1.2.2.2.2.2.1, ()))).bind fun r2 =>
      (limit L62_41_3 (((), (), (r2.2.2.1.length : Int), (0 : Int), ()), (((), ()), r2.2.2.1, ([] : List (Int)), ()))).bind fun r3 =>
      some r3.2.2.2.1
    else
      none

theorem s41 : SoundFn Try.prog 15 (fnOf [(.pair (.int .i64) (.pair (.int .i64) (.pair (.slice (.pair (.int .i64) (.pair (.int .i64) (.pair .bool (.pair (.arr 4 (.int .u64)) .unit))))) (.pair (.slice (.int .i64)) .unit)))), (.slice (.int .i64))] (.one (.slice (.int .i64))) p41) :=
  fn_pure hm0 hng0 hΓ0 (t := []) all_nil (ls := [EL41_5, EL41_13, EL41_9, EL62_41_3]) (cmds := []) (leaves := [([33, 15], [.adoptCell 6 0 (.int .i64) 307])]) (fr := []) (pt := []) (D := 2) (all_cons cL41_5 (all_cons cL41_13 (all_cons cL41_9 (all_cons cL62_41_3 all_nil)))) (by kernel_rfl) (hfr := all_nil) fun x r h => by
    obtain ⟨x0, x1, ⟨⟩⟩ := x
    refine Eq.trans ?_ h
    kernel_rfl

def Γ49 : TEnv := { Γ0 with imm := [62] }
theorem hΓ49 : Γ49.ok Try.prog = true := hΓ0

noncomputable def L49_4 : Nat → (((Int) × Unit × Unit × (List (Int)) × (Int) × Unit) × (((Int) × (Int) × (List ((Int) × ((Int) × ((Bool) × ((List (Int)) × (Unit)))))) × (List (Int)) × Unit) × (List (Bool)) × Unit)) → Option (((Int) × Unit × Unit × Unit) × (((Int) × (Int) × (List ((Int) × ((Int) × ((Bool) × ((List (Int)) × (Unit)))))) × (List (Int)) × Unit) × (List (Bool)) × Unit))
  | 0, _ => none
  | n + 1, ((x2, _, _, x8, x9, ()), (y3, y15, ())) =>
    if (decide (x9 < (x8.length : Int))) = true then
      if decide (0 ≤ x9 ∧ x9 < (x8.length : Int)) = true then
        if decide (0 ≤ (x8.getD x9.toNat 0) ∧ (x8.getD x9.toNat 0) < (y15.length : Int)) = true then
          L49_4 n ((x2, (), (), x8, (IntKind.i64.wrap (x9 + (1 : Int))), ()), ((y3.1, y3.2.1, y3.2.2.1, y3.2.2.2.1, ()), (y15.set (x8.getD x9.toNat 0).toNat true), ()))
        else
          none
      else
        none
    else
      some ((x2, (), (), ()), ((y3.1, y3.2.1, y3.2.2.1, y3.2.2.2.1, ()), y15, ()))

noncomputable def EL49_4 : LoopEnt := ⟨[19], 4, ⟨[], [2, 3, 7, 8, 9], [3, 15]⟩, [.kd (.int .u8), .ptr 3 0, .ref 15, .kd (.slice (.int .i64)), .kd (.int .i64)], [.box [.kd (.int .i64), .kd (.int .i64), .kd (.slice (.pair (.int .i64) (.pair (.int .i64) (.pair .bool (.pair (.arr 4 (.int .u64)) .unit))))), .kd (.slice (.int .i64))], .row .bool], [⟨(.exit 0), [2, 3, 7], [.kd (.int .u8), .ptr 3 0, .ref 15], [3, 15], [.box [.kd (.int .i64), .kd (.int .i64), .kd (.slice (.pair (.int .i64) (.pair (.int .i64) (.pair .bool (.pair (.arr 4 (.int .u64)) .unit))))), .kd (.slice (.int .i64))], .row .bool]⟩], limit L49_4⟩

noncomputable def L49_9 : Nat → (((Int) × Unit × Unit × Unit × (Int) × Unit) × (((Int) × (Int) × (List ((Int) × ((Int) × ((Bool) × ((List (Int)) × (Unit)))))) × (List (Int)) × Unit) × (List (Int)) × (List (Bool)) × Unit)) → Option ((Unit × Unit × Unit) × (((Int) × (Int) × (List ((Int) × ((Int) × ((Bool) × ((List (Int)) × (Unit)))))) × (List (Int)) × Unit) × (List (Int)) × Unit))
  | 0, _ => none
  | n + 1, ((x2, _, _, _, x11, ()), (y3, y10, y15, ())) =>
    if (decide (x11 < (y3.2.2.1.length : Int))) = true then
      if decide (0 ≤ x11 ∧ x11 < (y3.2.2.1.length : Int)) = true then
        if (!(y3.2.2.1.getD x11.toNat (0, (0, (false, ((List.replicate 4 0), ()))))).2.2.1) = true then
          if decide (0 ≤ (y3.2.2.1.getD x11.toNat (0, (0, (false, ((List.replicate 4 0), ()))))).1 ∧ (y3.2.2.1.getD x11.toNat (0, (0, (false, ((List.replicate 4 0), ()))))).1 < (y15.length : Int)) = true then
            if (y15.getD (y3.2.2.1.getD x11.toNat (0, (0, (false, ((List.replicate 4 0), ()))))).1.toNat false) = true then
              (p65 ([((y3.2.2.1.getD x11.toNat (0, (0, (false, ((List.replicate 4 0), ()))))).2.2.2.1.getD 0 0), ((y3.2.2.1.getD x11.toNat (0, (0, (false, ((List.replicate 4 0), ()))))).2.2.2.1.getD 1 0), ((y3.2.2.1.getD x11.toNat (0, (0, (false, ((List.replicate 4 0), ()))))).2.2.2.1.getD 2 0), ((y3.2.2.1.getD x11.toNat (0, (0, (false, ((List.replicate 4 0), ()))))).2.2.2.1.getD 3 0)], x2, ())).bind fun c1 =>
              if c1 = true then
                if decide (y10.length + ([(y3.2.2.1.getD x11.toNat (0, (0, (false, ((List.replicate 4 0), ()))))).2.1] : List (Int)).length ≤ lim) = true then
                  L49_9 n ((x2, (), (), (), (IntKind.i64.wrap (x11 + (1 : Int))), ()), ((y3.1, y3.2.1, y3.2.2.1, y3.2.2.2.1, ()), (y10 ++ ([(y3.2.2.1.getD x11.toNat (0, (0, (false, ((List.replicate 4 0), ()))))).2.1] : List (Int))), y15, ()))
                else
                  none
              else
                L49_9 n ((x2, (), (), (), (IntKind.i64.wrap (x11 + (1 : Int))), ()), ((y3.1, y3.2.1, y3.2.2.1, y3.2.2.2.1, ()), y10, y15, ()))
            else
              L49_9 n ((x2, (), (), (), (IntKind.i64.wrap (x11 + (1 : Int))), ()), ((y3.1, y3.2.1, y3.2.2.1, y3.2.2.2.1, ()), y10, y15, ()))
          else
            none
        else
          L49_9 n ((x2, (), (), (), (IntKind.i64.wrap (x11 + (1 : Int))), ()), ((y3.1, y3.2.1, y3.2.2.1, y3.2.2.2.1, ()), y10, y15, ()))
      else
        none
    else
      some (((), (), ()), ((y3.1, y3.2.1, y3.2.2.1, y3.2.2.2.1, ()), y10, ()))

noncomputable def EL49_9 : LoopEnt := ⟨[19], 9, ⟨[.keep [2, 3, 7, 10, 11] [3, 10, 15, 63], .adopt 10 (.int .i64) 10], [2, 3, 7, 10, 11], [3, 10, 15]⟩, [.kd (.int .u8), .ptr 3 0, .ref 15, .ref 10, .kd (.int .i64)], [.box [.kd (.int .i64), .kd (.int .i64), .kd (.slice (.pair (.int .i64) (.pair (.int .i64) (.pair .bool (.pair (.arr 4 (.int .u64)) .unit))))), .kd (.slice (.int .i64))], .row (.int .i64), .row .bool], [⟨(.exit 2), [3, 10], [.ptr 3 0, .ref 10], [3, 10], [.box [.kd (.int .i64), .kd (.int .i64), .kd (.slice (.pair (.int .i64) (.pair (.int .i64) (.pair .bool (.pair (.arr 4 (.int .u64)) .unit))))), .kd (.slice (.int .i64))], .row (.int .i64)]⟩], limit L49_9⟩

noncomputable def L48_49_3 : Nat → ((Unit × Unit × Unit × (Int) × Unit) × (((Int) × (Int) × (List ((Int) × ((Int) × ((Bool) × ((List (Int)) × (Unit)))))) × (List (Int)) × Unit) × (List (Int)) × ((Int) × (Int) × (List ((Int) × ((Int) × ((Bool) × ((List (Int)) × (Unit)))))) × (List (Int)) × Unit) × (List (Bool)) × Unit)) → Option ((Unit × Unit × Unit) × (((Int) × (Int) × (List ((Int) × ((Int) × ((Bool) × ((List (Int)) × (Unit)))))) × (List (Int)) × Unit) × (List (Int)) × ((Int) × (Int) × (List ((Int) × ((Int) × ((Bool) × ((List (Int)) × (Unit)))))) × (List (Int)) × Unit) × (List (Bool)) × Unit))
  | 0, _ => none
  | n + 1, ((_, _, _, x6, ()), (y3, y10, y1002, y1012, ())) =>
    if (decide (x6 < (y10.length : Int))) = true then
      if decide (0 ≤ x6 ∧ x6 < (y10.length : Int)) = true then
        if (decide ((y10.getD x6.toNat 0) ≥ (0 : Int))) = true then
          if decide (0 ≤ x6 ∧ x6 < (y10.length : Int)) = true then
            if (decide ((y10.getD x6.toNat 0) < y1002.1)) = true then
              if decide (0 ≤ x6 ∧ x6 < (y10.length : Int)) = true then
                if decide (0 ≤ (y10.getD x6.toNat 0) ∧ (y10.getD x6.toNat 0) < (y1012.length : Int)) = true then
                  L48_49_3 n (((), (), (), (IntKind.i64.wrap (x6 + (1 : Int))), ()), ((y3.1, y3.2.1, y3.2.2.1, y3.2.2.2.1, ()), y10, (y1002.1, y1002.2.1, y1002.2.2.1, y1002.2.2.2.1, ()), (y1012.set (y10.getD x6.toNat 0).toNat true), ()))
                else
                  none
              else
                none
            else
              L48_49_3 n (((), (), (), (IntKind.i64.wrap (x6 + (1 : Int))), ()), ((y3.1, y3.2.1, y3.2.2.1, y3.2.2.2.1, ()), y10, (y1002.1, y1002.2.1, y1002.2.2.1, y1002.2.2.2.1, ()), y1012, ()))
          else
            none
        else
          L48_49_3 n (((), (), (), (IntKind.i64.wrap (x6 + (1 : Int))), ()), ((y3.1, y3.2.1, y3.2.2.1, y3.2.2.2.1, ()), y10, (y1002.1, y1002.2.1, y1002.2.2.1, y1002.2.2.2.1, ()), y1012, ()))
      else
        none
    else
      some (((), (), ()), ((y3.1, y3.2.1, y3.2.2.1, y3.2.2.2.1, ()), y10, (y1002.1, y1002.2.1, y1002.2.2.1, y1002.2.2.2.1, ()), y1012, ()))

noncomputable def EL48_49_3 : LoopEnt := ⟨[17, 19], 3, ⟨[], [1, 2, 5, 6], [3, 10, 1002, 1012]⟩, [.ref 10, .ptr 1002 0, .ref 1012, .kd (.int .i64)], [.box [.kd (.int .i64), .kd (.int .i64), .kd (.slice (.pair (.int .i64) (.pair (.int .i64) (.pair .bool (.pair (.arr 4 (.int .u64)) .unit))))), .kd (.slice (.int .i64))], .row (.int .i64), .box [.kd (.int .i64), .kd (.int .i64), .kd (.slice (.pair (.int .i64) (.pair (.int .i64) (.pair .bool (.pair (.arr 4 (.int .u64)) .unit))))), .kd (.slice (.int .i64))], .row .bool], [⟨(.exit 0), [2, 5], [.ptr 1002 0, .ref 1012], [3, 10, 1002, 1012], [.box [.kd (.int .i64), .kd (.int .i64), .kd (.slice (.pair (.int .i64) (.pair (.int .i64) (.pair .bool (.pair (.arr 4 (.int .u64)) .unit))))), .kd (.slice (.int .i64))], .row (.int .i64), .box [.kd (.int .i64), .kd (.int .i64), .kd (.slice (.pair (.int .i64) (.pair (.int .i64) (.pair .bool (.pair (.arr 4 (.int .u64)) .unit))))), .kd (.slice (.int .i64))], .row .bool]⟩], limit L48_49_3⟩

noncomputable def L48_49_11 : Nat → ((Unit × Unit × (Bool) × (Int) × Unit) × (((Int) × (Int) × (List ((Int) × ((Int) × ((Bool) × ((List (Int)) × (Unit)))))) × (List (Int)) × Unit) × (List (Int)) × ((Int) × (Int) × (List ((Int) × ((Int) × ((Bool) × ((List (Int)) × (Unit)))))) × (List (Int)) × Unit) × (List (Bool)) × Unit)) → Option ((Unit × Unit × (Bool) × Unit) × (((Int) × (Int) × (List ((Int) × ((Int) × ((Bool) × ((List (Int)) × (Unit)))))) × (List (Int)) × Unit) × (List (Int)) × ((Int) × (Int) × (List ((Int) × ((Int) × ((Bool) × ((List (Int)) × (Unit)))))) × (List (Int)) × Unit) × (List (Bool)) × Unit))
  | 0, _ => none
  | n + 1, ((_, _, x7, x8, ()), (y3, y10, y1002, y1012, ())) =>
    if (decide (x8 < (y1002.2.2.1.length : Int))) = true then
      if decide (0 ≤ x8 ∧ x8 < (y1002.2.2.1.length : Int)) = true then
        if (y1002.2.2.1.getD x8.toNat (0, (0, (false, ((List.replicate 4 0), ()))))).2.2.1 = true then
          if decide (0 ≤ (y1002.2.2.1.getD x8.toNat (0, (0, (false, ((List.replicate 4 0), ()))))).1 ∧ (y1002.2.2.1.getD x8.toNat (0, (0, (false, ((List.replicate 4 0), ()))))).1 < (y1012.length : Int)) = true then
            if (y1012.getD (y1002.2.2.1.getD x8.toNat (0, (0, (false, ((List.replicate 4 0), ()))))).1.toNat false) = true then
              if decide (0 ≤ (y1002.2.2.1.getD x8.toNat (0, (0, (false, ((List.replicate 4 0), ()))))).2.1 ∧ (y1002.2.2.1.getD x8.toNat (0, (0, (false, ((List.replicate 4 0), ()))))).2.1 < (y1012.length : Int)) = true then
                if (!(y1012.getD (y1002.2.2.1.getD x8.toNat (0, (0, (false, ((List.replicate 4 0), ()))))).2.1.toNat false)) = true then
                  if decide (0 ≤ (y1002.2.2.1.getD x8.toNat (0, (0, (false, ((List.replicate 4 0), ()))))).2.1 ∧ (y1002.2.2.1.getD x8.toNat (0, (0, (false, ((List.replicate 4 0), ()))))).2.1 < (y1012.length : Int)) = true then
                    L48_49_11 n (((), (), true, (IntKind.i64.wrap (x8 + (1 : Int))), ()), ((y3.1, y3.2.1, y3.2.2.1, y3.2.2.2.1, ()), y10, (y1002.1, y1002.2.1, y1002.2.2.1, y1002.2.2.2.1, ()), (y1012.set (y1002.2.2.1.getD x8.toNat (0, (0, (false, ((List.replicate 4 0), ()))))).2.1.toNat true), ()))
                  else
                    none
                else
                  L48_49_11 n (((), (), x7, (IntKind.i64.wrap (x8 + (1 : Int))), ()), ((y3.1, y3.2.1, y3.2.2.1, y3.2.2.2.1, ()), y10, (y1002.1, y1002.2.1, y1002.2.2.1, y1002.2.2.2.1, ()), y1012, ()))
              else
                none
            else
              L48_49_11 n (((), (), x7, (IntKind.i64.wrap (x8 + (1 : Int))), ()), ((y3.1, y3.2.1, y3.2.2.1, y3.2.2.2.1, ()), y10, (y1002.1, y1002.2.1, y1002.2.2.1, y1002.2.2.2.1, ()), y1012, ()))
          else
            none
        else
          L48_49_11 n (((), (), x7, (IntKind.i64.wrap (x8 + (1 : Int))), ()), ((y3.1, y3.2.1, y3.2.2.1, y3.2.2.2.1, ()), y10, (y1002.1, y1002.2.1, y1002.2.2.1, y1002.2.2.2.1, ()), y1012, ()))
      else
        none
    else
      some (((), (), x7, ()), ((y3.1, y3.2.1, y3.2.2.1, y3.2.2.2.1, ()), y10, (y1002.1, y1002.2.1, y1002.2.2.1, y1002.2.2.2.1, ()), y1012, ()))

noncomputable def EL48_49_11 : LoopEnt := ⟨[17, 19], 11, ⟨[], [2, 5, 7, 8], [3, 10, 1002, 1012]⟩, [.ptr 1002 0, .ref 1012, .kd .bool, .kd (.int .i64)], [.box [.kd (.int .i64), .kd (.int .i64), .kd (.slice (.pair (.int .i64) (.pair (.int .i64) (.pair .bool (.pair (.arr 4 (.int .u64)) .unit))))), .kd (.slice (.int .i64))], .row (.int .i64), .box [.kd (.int .i64), .kd (.int .i64), .kd (.slice (.pair (.int .i64) (.pair (.int .i64) (.pair .bool (.pair (.arr 4 (.int .u64)) .unit))))), .kd (.slice (.int .i64))], .row .bool], [⟨(.exit 4), [2, 5, 7], [.ptr 1002 0, .ref 1012, .kd .bool], [3, 10, 1002, 1012], [.box [.kd (.int .i64), .kd (.int .i64), .kd (.slice (.pair (.int .i64) (.pair (.int .i64) (.pair .bool (.pair (.arr 4 (.int .u64)) .unit))))), .kd (.slice (.int .i64))], .row (.int .i64), .box [.kd (.int .i64), .kd (.int .i64), .kd (.slice (.pair (.int .i64) (.pair (.int .i64) (.pair .bool (.pair (.arr 4 (.int .u64)) .unit))))), .kd (.slice (.int .i64))], .row .bool]⟩], limit L48_49_11⟩

noncomputable def L48_49_8 : Nat → ((Unit × Unit × (Bool) × Unit) × (((Int) × (Int) × (List ((Int) × ((Int) × ((Bool) × ((List (Int)) × (Unit)))))) × (List (Int)) × Unit) × (List (Int)) × ((Int) × (Int) × (List ((Int) × ((Int) × ((Bool) × ((List (Int)) × (Unit)))))) × (List (Int)) × Unit) × (List (Bool)) × Unit)) → Option ((Unit × Unit) × (((Int) × (Int) × (List ((Int) × ((Int) × ((Bool) × ((List (Int)) × (Unit)))))) × (List (Int)) × Unit) × (List (Int)) × (List (Bool)) × Unit))
  | 0, _ => none
  | n + 1, ((_, _, x7, ()), (y3, y10, y1002, y1012, ())) =>
    if x7 = true then
      (limit L48_49_11 (((), (), false, (0 : Int), ()), ((y3.1, y3.2.1, y3.2.2.1, y3.2.2.2.1, ()), y10, (y1002.1, y1002.2.1, y1002.2.2.1, y1002.2.2.2.1, ()), y1012, ()))).bind fun r1 =>
      L48_49_8 n (((), (), r1.1.2.2.1, ()), ((r1.2.1.1, r1.2.1.2.1, r1.2.1.2.2.1, r1.2.1.2.2.2.1, ()), r1.2.2.1, (r1.2.2.2.1.1, r1.2.2.2.1.2.1, r1.2.2.2.1.2.2.1, r1.2.2.2.1.2.2.2.1, ()), r1.2.2.2.2.1, ()))
    else
      some (((), ()), ((y3.1, y3.2.1, y3.2.2.1, y3.2.2.2.1, ()), y10, y1012, ()))

noncomputable def EL48_49_8 : LoopEnt := ⟨[17, 19], 8, ⟨[], [2, 5, 7], [3, 10, 1002, 1012]⟩, [.ptr 1002 0, .ref 1012, .kd .bool], [.box [.kd (.int .i64), .kd (.int .i64), .kd (.slice (.pair (.int .i64) (.pair (.int .i64) (.pair .bool (.pair (.arr 4 (.int .u64)) .unit))))), .kd (.slice (.int .i64))], .row (.int .i64), .box [.kd (.int .i64), .kd (.int .i64), .kd (.slice (.pair (.int .i64) (.pair (.int .i64) (.pair .bool (.pair (.arr 4 (.int .u64)) .unit))))), .kd (.slice (.int .i64))], .row .bool], [⟨(.exit 2), [5], [.ref 1012], [3, 10, 1012], [.box [.kd (.int .i64), .kd (.int .i64), .kd (.slice (.pair (.int .i64) (.pair (.int .i64) (.pair .bool (.pair (.arr 4 (.int .u64)) .unit))))), .kd (.slice (.int .i64))], .row (.int .i64), .row .bool]⟩], limit L48_49_8⟩

noncomputable def L64_48_49_3 : Nat → ((Unit × Unit × (Int) × Unit) × (((Int) × (Int) × (List ((Int) × ((Int) × ((Bool) × ((List (Int)) × (Unit)))))) × (List (Int)) × Unit) × (List (Int)) × (List (Bool)) × (List (Int)) × Unit)) → Option ((Unit × Unit) × (((Int) × (Int) × (List ((Int) × ((Int) × ((Bool) × ((List (Int)) × (Unit)))))) × (List (Int)) × Unit) × (List (Int)) × (List (Bool)) × (List (Int)) × Unit))
  | 0, _ => none
  | n + 1, ((_, _, x4, ()), (y3, y10, y1012, y2003, ())) =>
    if (decide (x4 < (y1012.length : Int))) = true then
      if decide (0 ≤ x4 ∧ x4 < (y1012.length : Int)) = true then
        if (y1012.getD x4.toNat false) = true then
          if decide (y2003.length + ([x4] : List (Int)).length ≤ lim) = true then
            L64_48_49_3 n (((), (), (IntKind.i64.wrap (x4 + (1 : Int))), ()), ((y3.1, y3.2.1, y3.2.2.1, y3.2.2.2.1, ()), y10, y1012, (y2003 ++ ([x4] : List (Int))), ()))
          else
            none
        else
          L64_48_49_3 n (((), (), (IntKind.i64.wrap (x4 + (1 : Int))), ()), ((y3.1, y3.2.1, y3.2.2.1, y3.2.2.2.1, ()), y10, y1012, y2003, ()))
      else
        none
    else
      some (((), ()), ((y3.1, y3.2.1, y3.2.2.1, y3.2.2.2.1, ()), y10, y1012, y2003, ()))

noncomputable def EL64_48_49_3 : LoopEnt := ⟨[35, 17, 19], 3, ⟨[.keep [0, 3, 4] [3, 10, 1012, 2003, 2018], .adopt 3 (.int .i64) 2003], [0, 3, 4], [3, 10, 1012, 2003]⟩, [.ref 1012, .ref 2003, .kd (.int .i64)], [.box [.kd (.int .i64), .kd (.int .i64), .kd (.slice (.pair (.int .i64) (.pair (.int .i64) (.pair .bool (.pair (.arr 4 (.int .u64)) .unit))))), .kd (.slice (.int .i64))], .row (.int .i64), .row .bool, .row (.int .i64)], [⟨(.exit 0), [3], [.ref 2003], [3, 10, 1012, 2003], [.box [.kd (.int .i64), .kd (.int .i64), .kd (.slice (.pair (.int .i64) (.pair (.int .i64) (.pair .bool (.pair (.arr 4 (.int .u64)) .unit))))), .kd (.slice (.int .i64))], .row (.int .i64), .row .bool, .row (.int .i64)]⟩], limit L64_48_49_3⟩

noncomputable def O49 : Orc := mkOrc [(17, fnOf [(.pair (.int .i64) (.pair (.int .i64) (.pair (.slice (.pair (.int .i64) (.pair (.int .i64) (.pair .bool (.pair (.arr 4 (.int .u64)) .unit))))) (.pair (.slice (.int .i64)) .unit)))), (.slice (.int .i64))] (.one (.slice (.int .i64))) p48), (37, fnOf [(.arr 4 (.int .u64)), (.int .u8)] (.one .bool) p65)] [EL49_4, EL49_9, EL48_49_3, EL48_49_11, EL48_49_8, EL64_48_49_3] [] [] []

theorem cL49_4 : LoopCert Try.prog O49 Γ49 3 EL49_4 :=
  ⟨⟨19, 0, L49_4, rfl, by kernel_rfl, by decide, limit_fn, fun _ => rfl, fun m old x r h => by
    obtain ⟨⟨x2, x3, x7, x8, x9, ⟨⟩⟩, y3, y15, ⟨⟩⟩ := x
    refine Eq.trans ?_ h
    kernel_rfl⟩⟩

theorem cL49_9 : LoopCert Try.prog O49 Γ49 3 EL49_9 :=
  ⟨⟨19, 1, L49_9, rfl, by kernel_rfl, by decide, limit_fn, fun _ => rfl, fun m old x r h => by
    obtain ⟨⟨x2, x3, x7, x10, x11, ⟨⟩⟩, y3, y10, y15, ⟨⟩⟩ := x
    refine Eq.trans ?_ h
    kernel_rfl⟩⟩

theorem cL48_49_3 : LoopCert Try.prog O49 Γ49 3 EL48_49_3 :=
  ⟨⟨17, 0, L48_49_3, rfl, by kernel_rfl, by decide, limit_fn, fun _ => rfl, fun m old x r h => by
    obtain ⟨⟨x1, x2, x5, x6, ⟨⟩⟩, y3, y10, y1002, y1012, ⟨⟩⟩ := x
    refine Eq.trans ?_ h
    kernel_rfl⟩⟩

theorem cL48_49_11 : LoopCert Try.prog O49 Γ49 3 EL48_49_11 :=
  ⟨⟨17, 2, L48_49_11, rfl, by kernel_rfl, by decide, limit_fn, fun _ => rfl, fun m old x r h => by
    obtain ⟨⟨x2, x5, x7, x8, ⟨⟩⟩, y3, y10, y1002, y1012, ⟨⟩⟩ := x
    refine Eq.trans ?_ h
    kernel_rfl⟩⟩

theorem cL48_49_8 : LoopCert Try.prog O49 Γ49 3 EL48_49_8 :=
  ⟨⟨17, 1, L48_49_8, rfl, by kernel_rfl, by decide, limit_fn, fun _ => rfl, fun m old x r h => by
    obtain ⟨⟨x2, x5, x7, ⟨⟩⟩, y3, y10, y1002, y1012, ⟨⟩⟩ := x
    refine Eq.trans ?_ h
    kernel_rfl⟩⟩

theorem cL64_48_49_3 : LoopCert Try.prog O49 Γ49 3 EL64_48_49_3 :=
  ⟨⟨35, 0, L64_48_49_3, rfl, by kernel_rfl, by decide, limit_fn, fun _ => rfl, fun m old x r h => by
    obtain ⟨⟨x0, x3, x4, ⟨⟩⟩, y3, y10, y1012, y2003, ⟨⟩⟩ := x
    refine Eq.trans ?_ h
    kernel_rfl⟩⟩

/-- emendate/emendateref09.Step -/
noncomputable def p49 : (((Int) × ((Int) × ((List ((Int) × ((Int) × ((Bool) × ((List (Int)) × (Unit)))))) × ((List (Int)) × (Unit))))) × (List (Int)) × (Int) × Unit) → Option (List (Int))
  | (x0, x1, x2, ()) =>
    if decide (x0.1 = x0.1 ∧ 0 ≤ x0.1 ∧ x0.1 ≤ (lim : Int)) = true then
      (p48 ((x0.1, (x0.2.1, (x0.2.2.1, (x0.2.2.2.1, ())))), x1, ())).bind fun c1 =>
      (limit L49_4 ((x2, (), (), c1, (0 : Int), ()), ((x0.1, x0.2.1, x0.2.2.1, x0.2.2.2.1, ()), (List.replicate x0.1.toNat false), ()))).bind fun r2 =>
      (limit L49_9 ((r2.1.1, (), (), (), (0 : Int), ()), ((r2.2.1.1, r2.2.1.2.1, r2.2.1.2.2.1, r2.2.1.2.2.2.1, ()), ([] : List (Int)), r2.2.2.1, ()))).bind fun r3 =>
      if decide (r3.2.1.1 = r3.2.1.1 ∧ 0 ≤ r3.2.1.1 ∧ r3.2.1.1 ≤ (lim : Int)) = true then
        (limit L48_49_3 (((), (), (), (0 : Int), ()), ((r3.2.1.1, r3.2.1.2.1, r3.2.1.2.2.1, r3.2.1.2.2.2.1, ()), r3.2.2.1, (r3.2.1.1, r3.2.1.2.1, r3.2.1.2.2.1, r3.2.1.2.2.2.1, ()), (List.replicate r3.2.1.1.toNat false), ()))).bind fun r4 =>
        (limit L48_49_8 (((), (), true, ()), ((r4.2.1.1, r4.2.1.2.1, r4.2.1.2.2.1, r4.2.1.2.2.2.1, ()), r4.2.2.1, (r4.2.2.2.1.1, r4.2.2.2.1.2.1, r4.2.2.2.1.2.2.1, r4.2.2.2.1.2.2.2.1, ()), r4.2.2.2.2.1, ()))).bind fun r5 =>
        (limit L64_48_49_3 (((), (), (0 : Int), ()), ((r5.2.1.1, r5.2.1.2.1, r5.2.1.2.2.1, r5.2.1.2.2.2.1, ()), r5.2.2.1, r5.2.2.2.1, ([] : List (Int)), ()))).bind fun r6 =>
        some r6.2.2.2.2.1
      else
        none
    else
      none

theorem s49 : SoundFn Try.prog 19 (fnOf [(.pair (.int .i64) (.pair (.int .i64) (.pair (.slice (.pair (.int .i64) (.pair (.int .i64) (.pair .bool (.pair (.arr 4 (.int .u64)) .unit))))) (.pair (.slice (.int .i64)) .unit)))), (.slice (.int .i64)), (.int .u8)] (.one (.slice (.int .i64))) p49) :=
  fn_pure hm0 hng0 hΓ49 (t := [(17, fnOf [(.pair (.int .i64) (.pair (.int .i64) (.pair (.slice (.pair (.int .i64) (.pair (.int .i64) (.pair .bool (.pair (.arr 4 (.int .u64)) .unit))))) (.pair (.slice (.int .i64)) .unit)))), (.slice (.int .i64))] (.one (.slice (.int .i64))) p48), (37, fnOf [(.arr 4 (.int .u64)), (.int .u8)] (.one .bool) p65)]) (all_cons s48 (all_cons s65 all_nil)) (ls := [EL49_4, EL49_9, EL48_49_3, EL48_49_11, EL48_49_8, EL64_48_49_3]) (cmds := []) (leaves := []) (fr := []) (pt := []) (D := 3) (all_cons cL49_4 (all_cons cL49_9 (all_cons cL48_49_3 (all_cons cL48_49_11 (all_cons cL48_49_8 (all_cons cL64_48_49_3 all_nil)))))) (by kernel_rfl) (hfr := all_nil) fun x r h => by
    obtain ⟨x0, x1, x2, ⟨⟩⟩ := x
    refine Eq.trans ?_ h
    kernel_rfl

def Γ43 : TEnv := { Γ0 with imm := [54] }
theorem hΓ43 : Γ43.ok Try.prog = true := hΓ0

noncomputable def L43_3 : Nat → (((Int) × Unit × Unit × (List (Int)) × (Int) × (Int) × Unit) × (((Int) × (Int) × (List ((Int) × ((Int) × ((Bool) × ((List (Int)) × (Unit)))))) × (List (Int)) × Unit) × (List (Bool)) × Unit)) → Option (((Int) × Unit × Unit × Unit) × (((Int) × (Int) × (List ((Int) × ((Int) × ((Bool) × ((List (Int)) × (Unit)))))) × (List (Int)) × Unit) × (List (Bool)) × Unit))
  | 0, _ => none
  | n + 1, ((x2, _, _, x18, x19, x20, ()), (y3, y15, ())) =>
    if (decide (x20 < x19)) = true then
      if decide (0 ≤ x20 ∧ x20 < (x18.length : Int)) = true then
        if decide (0 ≤ (x18.getD x20.toNat 0) ∧ (x18.getD x20.toNat 0) < (y15.length : Int)) = true then
          L43_3 n ((x2, (), (), x18, x19, (IntKind.i64.wrap (x20 + (1 : Int))), ()), ((y3.1, y3.2.1, y3.2.2.1, y3.2.2.2.1, ()), (y15.set (x18.getD x20.toNat 0).toNat true), ()))
        else
          none
      else
        none
    else
      some ((x2, (), (), ()), ((y3.1, y3.2.1, y3.2.2.1, y3.2.2.2.1, ()), y15, ()))

noncomputable def EL43_3 : LoopEnt := ⟨[18], 3, ⟨[], [2, 3, 7, 18, 19, 20], [3, 15]⟩, [.kd (.int .u8), .ptr 3 0, .ref 15, .kd (.slice (.int .i64)), .kd (.int .i64), .kd (.int .i64)], [.box [.kd (.int .i64), .kd (.int .i64), .kd (.slice (.pair (.int .i64) (.pair (.int .i64) (.pair .bool (.pair (.arr 4 (.int .u64)) .unit))))), .kd (.slice (.int .i64))], .row .bool], [⟨(.exit 0), [2, 3, 7], [.kd (.int .u8), .ptr 3 0, .ref 15], [3, 15], [.box [.kd (.int .i64), .kd (.int .i64), .kd (.slice (.pair (.int .i64) (.pair (.int .i64) (.pair .bool (.pair (.arr 4 (.int .u64)) .unit))))), .kd (.slice (.int .i64))], .row .bool]⟩], limit L43_3⟩

noncomputable def L43_9 : Nat → (((Int) × Unit × Unit × Unit × (List ((Int) × ((Int) × ((Bool) × ((List (Int)) × (Unit)))))) × (Int) × (Int) × Unit) × (((Int) × (Int) × (List ((Int) × ((Int) × ((Bool) × ((List (Int)) × (Unit)))))) × (List (Int)) × Unit) × (List (Int)) × (List (Bool)) × Unit)) → Option ((Unit × Unit × Unit) × (((Int) × (Int) × (List ((Int) × ((Int) × ((Bool) × ((List (Int)) × (Unit)))))) × (List (Int)) × Unit) × (List (Int)) × Unit))
  | 0, _ => none
  | n + 1, ((x2, _, _, _, x29, x30, x31, ()), (y3, y10, y15, ())) =>
    if (decide (x31 < x30)) = true then
      if decide (0 ≤ x31 ∧ x31 < (x29.length : Int)) = true then
        if (!(x29.getD x31.toNat (0, (0, (false, ((List.replicate 4 0), ()))))).2.2.1) = true then
          if decide (0 ≤ (x29.getD x31.toNat (0, (0, (false, ((List.replicate 4 0), ()))))).1 ∧ (x29.getD x31.toNat (0, (0, (false, ((List.replicate 4 0), ()))))).1 < (y15.length : Int)) = true then
            if (y15.getD (x29.getD x31.toNat (0, (0, (false, ((List.replicate 4 0), ()))))).1.toNat false) = true then
              (p60 ([((x29.getD x31.toNat (0, (0, (false, ((List.replicate 4 0), ()))))).2.2.2.1.getD 0 0), ((x29.getD x31.toNat (0, (0, (false, ((List.replicate 4 0), ()))))).2.2.2.1.getD 1 0), ((x29.getD x31.toNat (0, (0, (false, ((List.replicate 4 0), ()))))).2.2.2.1.getD 2 0), ((x29.getD x31.toNat (0, (0, (false, ((List.replicate 4 0), ()))))).2.2.2.1.getD 3 0)], x2, ())).bind fun c1 =>
              if c1 = true then
                if decide (y10.length + ([(x29.getD x31.toNat (0, (0, (false, ((List.replicate 4 0), ()))))).2.1] : List (Int)).length ≤ lim) = true then
                  L43_9 n ((x2, (), (), (), x29, x30, (IntKind.i64.wrap (x31 + (1 : Int))), ()), ((y3.1, y3.2.1, y3.2.2.1, y3.2.2.2.1, ()), (y10 ++ ([(x29.getD x31.toNat (0, (0, (false, ((List.replicate 4 0), ()))))).2.1] : List (Int))), y15, ()))
                else
                  none
              else
                L43_9 n ((x2, (), (), (), x29, x30, (IntKind.i64.wrap (x31 + (1 : Int))), ()), ((y3.1, y3.2.1, y3.2.2.1, y3.2.2.2.1, ()), y10, y15, ()))
            else
              L43_9 n ((x2, (), (), (), x29, x30, (IntKind.i64.wrap (x31 + (1 : Int))), ()), ((y3.1, y3.2.1, y3.2.2.1, y3.2.2.2.1, ()), y10, y15, ()))
          else
            none
        else
          L43_9 n ((x2, (), (), (), x29, x30, (IntKind.i64.wrap (x31 + (1 : Int))), ()), ((y3.1, y3.2.1, y3.2.2.1, y3.2.2.2.1, ()), y10, y15, ()))
      else
        none
    else
      some (((), (), ()), ((y3.1, y3.2.1, y3.2.2.1, y3.2.2.2.1, ()), y10, ()))

noncomputable def EL43_9 : LoopEnt := ⟨[18], 9, ⟨[.keep [2, 3, 7, 10, 29, 30, 31] [3, 10, 15, 55], .adopt 10 (.int .i64) 10], [2, 3, 7, 10, 29, 30, 31], [3, 10, 15]⟩, [.kd (.int .u8), .ptr 3 0, .ref 15, .ref 10, .kd (.slice (.pair (.int .i64) (.pair (.int .i64) (.pair .bool (.pair (.arr 4 (.int .u64)) .unit))))), .kd (.int .i64), .kd (.int .i64)], [.box [.kd (.int .i64), .kd (.int .i64), .kd (.slice (.pair (.int .i64) (.pair (.int .i64) (.pair .bool (.pair (.arr 4 (.int .u64)) .unit))))), .kd (.slice (.int .i64))], .row (.int .i64), .row .bool], [⟨(.exit 2), [3, 10], [.ptr 3 0, .ref 10], [3, 10], [.box [.kd (.int .i64), .kd (.int .i64), .kd (.slice (.pair (.int .i64) (.pair (.int .i64) (.pair .bool (.pair (.arr 4 (.int .u64)) .unit))))), .kd (.slice (.int .i64))], .row (.int .i64)]⟩], limit L43_9⟩

noncomputable def O43 : Orc := mkOrc [(15, fnOf [(.pair (.int .i64) (.pair (.int .i64) (.pair (.slice (.pair (.int .i64) (.pair (.int .i64) (.pair .bool (.pair (.arr 4 (.int .u64)) .unit))))) (.pair (.slice (.int .i64)) .unit)))), (.slice (.int .i64))] (.one (.slice (.int .i64))) p41), (36, fnOf [(.arr 4 (.int .u64)), (.int .u8)] (.one .bool) p60)] [EL43_3, EL43_9] [([18], 14, [.freeze 10])] [] []

theorem cL43_3 : LoopCert Try.prog O43 Γ43 1 EL43_3 :=
  ⟨⟨18, 0, L43_3, rfl, by kernel_rfl, by decide, limit_fn, fun _ => rfl, fun m old x r h => by
    obtain ⟨⟨x2, x3, x7, x18, x19, x20, ⟨⟩⟩, y3, y15, ⟨⟩⟩ := x
    refine Eq.trans ?_ h
    kernel_rfl⟩⟩

theorem cL43_9 : LoopCert Try.prog O43 Γ43 1 EL43_9 :=
  ⟨⟨18, 1, L43_9, rfl, by kernel_rfl, by decide, limit_fn, fun _ => rfl, fun m old x r h => by
    obtain ⟨⟨x2, x3, x7, x10, x29, x30, x31, ⟨⟩⟩, y3, y10, y15, ⟨⟩⟩ := x
    refine Eq.trans ?_ h
    kernel_rfl⟩⟩

/-- emendate/nfa.Step -/
noncomputable def p43 : (((Int) × ((Int) × ((List ((Int) × ((Int) × ((Bool) × ((List (Int)) × (Unit)))))) × ((List (Int)) × (Unit))))) × (List (Int)) × (Int) × Unit) → Option (List (Int))
  | (x0, x1, x2, ()) =>
    if decide (x0.1 = x0.1 ∧ 0 ≤ x0.1 ∧ x0.1 ≤ (lim : Int)) = true then
      (p41 ((x0.1, (x0.2.1, (x0.2.2.1, (x0.2.2.2.1, ())))), x1, ())).bind fun c1 =>
      (limit L43_3 ((x2, (), (), c1, (c1.length : Int), (0 : Int), ()), ((x0.1, x0.2.1, x0.2.2.1, x0.2.2.2.1, ()), (List.replicate x0.1.toNat false), ()))).bind fun r2 =>
      (limit L43_9 ((r2.1.1, (), (), (), r2.2.1.2.2.1, (r2.2.1.2.2.1.length : Int), (0 : Int), ()), ((r2.2.1.1, r2.2.1.2.1, r2.2.1.2.2.1, r2.2.1.2.2.2.1, ()), ([] : List (Int)), r2.2.2.1, ()))).bind fun r3 =>
      (p41 ((r3.2.1.1, (r3.2.1.2.1, (r3.2.1.2.2.1, (r3.2.1.2.2.2.1, ())))), r3.2.2.1, ())).bind fun c4 =>
      some c4
    else
      none

theorem s43 : SoundFn Try.prog 18 (fnOf [(.pair (.int .i64) (.pair (.int .i64) (.pair (.slice (.pair (.int .i64) (.pair (.int .i64) (.pair .bool (.pair (.arr 4 (.int .u64)) .unit))))) (.pair (.slice (.int .i64)) .unit)))), (.slice (.int .i64)), (.int .u8)] (.one (.slice (.int .i64))) p43) :=
  fn_pure hm0 hng0 hΓ43 (t := [(15, fnOf [(.pair (.int .i64) (.pair (.int .i64) (.pair (.slice (.pair (.int .i64) (.pair (.int .i64) (.pair .bool (.pair (.arr 4 (.int .u64)) .unit))))) (.pair (.slice (.int .i64)) .unit)))), (.slice (.int .i64))] (.one (.slice (.int .i64))) p41), (36, fnOf [(.arr 4 (.int .u64)), (.int .u8)] (.one .bool) p60)]) (all_cons s41 (all_cons s60 all_nil)) (ls := [EL43_3, EL43_9]) (cmds := [([18], 14, [.freeze 10])]) (leaves := []) (fr := []) (pt := []) (D := 1) (all_cons cL43_3 (all_cons cL43_9 all_nil)) (by kernel_rfl) (hfr := all_nil) fun x r h => by
    obtain ⟨x0, x1, x2, ⟨⟩⟩ := x
    refine Eq.trans ?_ h
    kernel_rfl

def Γ23 : TEnv := { Γ0 with imm := [10] }
theorem hΓ23 : Γ23.ok Try.prog = true := hΓ0

noncomputable def L23_3 : Nat → (((List UInt8) × Unit × (List (Int)) × (Int) × Unit) × (((Int) × (Int) × (List ((Int) × ((Int) × ((Bool) × ((List (Int)) × (Unit)))))) × (List (Int)) × Unit) × Unit)) → Option ((Unit × (List (Int)) × Unit) × (((Int) × (Int) × (List ((Int) × ((Int) × ((Bool) × ((List (Int)) × (Unit)))))) × (List (Int)) × Unit) × Unit))
  | 0, _ => none
  | n + 1, ((x1, _, x5, x6, ()), (y2, ())) =>
    if (decide (x6 < (x1.length : Int))) = true then
      if decide (0 ≤ x6 ∧ x6 < (x1.length : Int)) = true then
        (p49 ((y2.1, (y2.2.1, (y2.2.2.1, (y2.2.2.2.1, ())))), x5, ((x1.getD x6.toNat 0).toNat : Int), ())).bind fun c1 =>
        L23_3 n ((x1, (), c1, (IntKind.i64.wrap (x6 + (1 : Int))), ()), ((y2.1, y2.2.1, y2.2.2.1, y2.2.2.2.1, ()), ()))
      else
        none
    else
      some (((), x5, ()), ((y2.1, y2.2.1, y2.2.2.1, y2.2.2.2.1, ()), ()))

noncomputable def EL23_3 : LoopEnt := ⟨[21], 3, ⟨[], [1, 2, 5, 6], [2]⟩, [.kd .str, .ptr 2 0, .kd (.slice (.int .i64)), .kd (.int .i64)], [.box [.kd (.int .i64), .kd (.int .i64), .kd (.slice (.pair (.int .i64) (.pair (.int .i64) (.pair .bool (.pair (.arr 4 (.int .u64)) .unit))))), .kd (.slice (.int .i64))]], [⟨(.exit 0), [2, 5], [.ptr 2 0, .kd (.slice (.int .i64))], [2], [.box [.kd (.int .i64), .kd (.int .i64), .kd (.slice (.pair (.int .i64) (.pair (.int .i64) (.pair .bool (.pair (.arr 4 (.int .u64)) .unit))))), .kd (.slice (.int .i64))]]⟩], limit L23_3⟩

noncomputable def O23 : Orc := mkOrc [(17, fnOf [(.pair (.int .i64) (.pair (.int .i64) (.pair (.slice (.pair (.int .i64) (.pair (.int .i64) (.pair .bool (.pair (.arr 4 (.int .u64)) .unit))))) (.pair (.slice (.int .i64)) .unit)))), (.slice (.int .i64))] (.one (.slice (.int .i64))) p48), (19, fnOf [(.pair (.int .i64) (.pair (.int .i64) (.pair (.slice (.pair (.int .i64) (.pair (.int .i64) (.pair .bool (.pair (.arr 4 (.int .u64)) .unit))))) (.pair (.slice (.int .i64)) .unit)))), (.slice (.int .i64)), (.int .u8)] (.one (.slice (.int .i64))) p49), (22, fnOf [(.pair (.int .i64) (.pair (.int .i64) (.pair (.slice (.pair (.int .i64) (.pair (.int .i64) (.pair .bool (.pair (.arr 4 (.int .u64)) .unit))))) (.pair (.slice (.int .i64)) .unit)))), (.slice (.int .i64))] (.one (.int .i64)) p52)] [EL23_3] [] [] []

theorem cL23_3 : LoopCert Try.prog O23 Γ23 1 EL23_3 :=
  ⟨⟨21, 0, L23_3, rfl, by kernel_rfl, by decide, limit_fn, fun _ => rfl, fun m old x r h => by
    obtain ⟨⟨x1, x2, x5, x6, ⟨⟩⟩, y2, ⟨⟩⟩ := x
    refine Eq.trans ?_ h
    kernel_rfl⟩⟩

/-- emendate/emendateref09.Run -/
noncomputable def p23 : (((Int) × ((Int) × ((List ((Int) × ((Int) × ((Bool) × ((List (Int)) × (Unit)))))) × ((List (Int)) × (Unit))))) × (List UInt8) × Unit) → Option (Int)
  | (x0, x1, ()) =>
    (p48 ((x0.1, (x0.2.1, (x0.2.2.1, (x0.2.2.2.1, ())))), ([x0.2.1] : List (Int)), ())).bind fun c1 =>
    (limit L23_3 ((x1, (), c1, (0 : Int), ()), ((x0.1, x0.2.1, x0.2.2.1, x0.2.2.2.1, ()), ()))).bind fun r2 =>
    (p52 ((r2.2.1.1, (r2.2.1.2.1, (r2.2.1.2.2.1, (r2.2.1.2.2.2.1, ())))), r2.1.2.1, ())).bind fun c3 =>
    some c3

theorem s23 : SoundFn Try.prog 21 (fnOf [(.pair (.int .i64) (.pair (.int .i64) (.pair (.slice (.pair (.int .i64) (.pair (.int .i64) (.pair .bool (.pair (.arr 4 (.int .u64)) .unit))))) (.pair (.slice (.int .i64)) .unit)))), .str] (.one (.int .i64)) p23) :=
  fn_pure hm0 hng0 hΓ23 (t := [(17, fnOf [(.pair (.int .i64) (.pair (.int .i64) (.pair (.slice (.pair (.int .i64) (.pair (.int .i64) (.pair .bool (.pair (.arr 4 (.int .u64)) .unit))))) (.pair (.slice (.int .i64)) .unit)))), (.slice (.int .i64))] (.one (.slice (.int .i64))) p48), (19, fnOf [(.pair (.int .i64) (.pair (.int .i64) (.pair (.slice (.pair (.int .i64) (.pair (.int .i64) (.pair .bool (.pair (.arr 4 (.int .u64)) .unit))))) (.pair (.slice (.int .i64)) .unit)))), (.slice (.int .i64)), (.int .u8)] (.one (.slice (.int .i64))) p49), (22, fnOf [(.pair (.int .i64) (.pair (.int .i64) (.pair (.slice (.pair (.int .i64) (.pair (.int .i64) (.pair .bool (.pair (.arr 4 (.int .u64)) .unit))))) (.pair (.slice (.int .i64)) .unit)))), (.slice (.int .i64))] (.one (.int .i64)) p52)]) (all_cons s48 (all_cons s49 (all_cons s52 all_nil))) (ls := [EL23_3]) (cmds := []) (leaves := []) (fr := []) (pt := []) (D := 1) (all_cons cL23_3 all_nil) (by kernel_rfl) (hfr := all_nil) fun x r h => by
    obtain ⟨x0, x1, ⟨⟩⟩ := x
    refine Eq.trans ?_ h
    kernel_rfl

noncomputable def L316_4 : Nat → (((List (Int)) × (List (Int)) × (Int) × Unit) × (Unit)) → Option ((((Bool) × Unit) × (Unit)) ⊕ ((Unit) × (Unit)))
  | 0, _ => none
  | n + 1, ((x0, x1, x5, ()), ()) =>
    if (decide (x5 < (x0.length : Int))) = true then
      if decide (0 ≤ x5 ∧ x5 < (x0.length : Int)) = true then
        if decide (0 ≤ x5 ∧ x5 < (x1.length : Int)) = true then
          if (!decide ((x0.getD x5.toNat 0) = (x1.getD x5.toNat 0))) = true then
            some (.inl ((false, ()), ()))
          else
            L316_4 n ((x0, x1, (IntKind.i64.wrap (x5 + (1 : Int))), ()), ())
        else
          none
      else
        none
    else
      some (.inr ((), ()))

noncomputable def EL316_4 : LoopEnt := ⟨[16], 4, ⟨[], [0, 1, 5], []⟩, [.kd (.slice (.int .i64)), .kd (.slice (.int .i64)), .kd (.int .i64)], [], [⟨.ret, [4], [.kd .bool], [], []⟩, ⟨(.exit 0), [], [], [], []⟩], limit L316_4⟩

noncomputable def O316 : Orc := mkOrc [] [EL316_4] [] [] []

theorem cL316_4 : LoopCert Try.prog O316 Γ0 1 EL316_4 :=
  ⟨⟨16, 0, L316_4, rfl, by kernel_rfl, by decide, limit_fn, fun _ => rfl, fun m old x r h => by
    obtain ⟨⟨x0, x1, x5, ⟨⟩⟩, ⟨⟩⟩ := x
    refine Eq.trans ?_ h
    kernel_rfl⟩⟩

/-- emendate/emendateref09.Same -/
noncomputable def p316 : ((List (Int)) × (List (Int)) × Unit) → Option (Bool)
  | (x0, x1, ()) =>
    if (!decide ((x0.length : Int) = (x1.length : Int))) = true then
      some false
    else
      (limit L316_4 ((x0, x1, (0 : Int), ()), ())).bind (Sum.elim (fun r1 =>
        some r1.1.1) (fun _ =>
        some true))

theorem s316 : SoundFn Try.prog 16 (fnOf [(.slice (.int .i64)), (.slice (.int .i64))] (.one .bool) p316) :=
  fn_pure hm0 hng0 hΓ0 (t := []) all_nil (ls := [EL316_4]) (cmds := []) (leaves := []) (fr := []) (pt := []) (D := 1) (all_cons cL316_4 all_nil) (by kernel_rfl) (hfr := all_nil) fun x r h => by
    obtain ⟨x0, x1, ⟨⟩⟩ := x
    refine Eq.trans ?_ h
    kernel_rfl

noncomputable def O314 : Orc := mkOrc [(13, fnOf [(.pair (.int .i64) (.pair (.int .i64) (.pair (.slice (.pair (.int .i64) (.pair (.int .i64) (.pair .bool (.pair (.arr 4 (.int .u64)) .unit))))) (.pair (.slice (.int .i64)) .unit))))] (.one .bool) p45)] [] [] [] []

/-- emendate/emendatelaw09.light -/
noncomputable def p314 : (((Int) × ((Int) × ((List ((Int) × ((Int) × ((Bool) × ((List (Int)) × (Unit)))))) × ((List (Int)) × (Unit))))) × Unit) → Option (Bool)
  | (x0, ()) =>
    if (decide ((x0.2.2.1.length : Int) ≤ (60 : Int))) = true then
      if (decide (x0.1 ≤ (40 : Int))) = true then
        (p45 ((x0.1, (x0.2.1, (x0.2.2.1, (x0.2.2.2.1, ())))), ())).bind fun c1 =>
        some c1
      else
        some false
    else
      some false

theorem s314 : SoundFn Try.prog 14 (fnOf [(.pair (.int .i64) (.pair (.int .i64) (.pair (.slice (.pair (.int .i64) (.pair (.int .i64) (.pair .bool (.pair (.arr 4 (.int .u64)) .unit))))) (.pair (.slice (.int .i64)) .unit))))] (.one .bool) p314) :=
  fn_pure hm0 hng0 hΓ0 (t := [(13, fnOf [(.pair (.int .i64) (.pair (.int .i64) (.pair (.slice (.pair (.int .i64) (.pair (.int .i64) (.pair .bool (.pair (.arr 4 (.int .u64)) .unit))))) (.pair (.slice (.int .i64)) .unit))))] (.one .bool) p45)]) (all_cons s45 all_nil) (ls := []) (cmds := []) (leaves := []) (fr := []) (pt := []) (D := 1) all_nil (by kernel_rfl) (hfr := all_nil) fun x r h => by
    obtain ⟨x0, ⟨⟩⟩ := x
    refine Eq.trans ?_ h
    kernel_rfl

end Go.AM

/- Functions in pure form: each is sound over the program. -/
namespace Go.AM
open Go Go.Proofs

noncomputable def L351_17 (E51 : ((Rx) × (Int) × Unit) → Option (Bool)) : Nat → (((Int) × (List (Rx)) × (Int) × (Int) × Unit) × (Unit)) → Option ((((Bool) × Unit) × (Unit)) ⊕ ((Unit) × (Unit)))
  | 0, _ => none
  | n + 1, ((x1, x48, x49, x50, ()), ()) =>
    if (decide (x50 < x49)) = true then
      if decide (0 ≤ x50 ∧ x50 < (x48.length : Int)) = true then
        (E51 ((Rx.mk (x48.getD x50.toNat (Rx.mk 0 [0, 0, 0, 0] [])).kind [((x48.getD x50.toNat (Rx.mk 0 [0, 0, 0, 0] [])).set.getD 0 0), ((x48.getD x50.toNat (Rx.mk 0 [0, 0, 0, 0] [])).set.getD 1 0), ((x48.getD x50.toNat (Rx.mk 0 [0, 0, 0, 0] [])).set.getD 2 0), ((x48.getD x50.toNat (Rx.mk 0 [0, 0, 0, 0] [])).set.getD 3 0)] (x48.getD x50.toNat (Rx.mk 0 [0, 0, 0, 0] [])).kids), (IntKind.i64.wrap (x1 - (1 : Int))), ())).bind fun c1 =>
        if (!c1) = true then
          some (.inl ((false, ()), ()))
        else
          L351_17 E51 n ((x1, x48, x49, (IntKind.i64.wrap (x50 + (1 : Int))), ()), ())
      else
        none
    else
      some (.inr ((), ()))

noncomputable def EL351_17 (E51 : ((Rx) × (Int) × Unit) → Option (Bool)) : LoopEnt := ⟨[51], 17, ⟨[], [1, 48, 49, 50], []⟩, [.kd (.int .i64), .kd (.slice .rx), .kd (.int .i64), .kd (.int .i64)], [], [⟨.ret, [4], [.kd .bool], [], []⟩, ⟨(.exit 1), [], [], [], []⟩], limit (L351_17 E51)⟩

noncomputable def O351 (E51 : ((Rx) × (Int) × Unit) → Option (Bool)) : Orc := mkOrc [(51, fnOf [.rx, (.int .i64)] (.one .bool) E51)] [(EL351_17 E51)] [] [] []

theorem cL351_17 (E51 : ((Rx) × (Int) × Unit) → Option (Bool)) : LoopCert Try.prog (O351 E51) Γ0 1 (EL351_17 E51) :=
  ⟨⟨51, 0, (L351_17 E51), rfl, by kernel_rfl, Nat.le_of_ble_eq_true (by kernel_rfl), limit_fn, fun _ => rfl, fun m old x r h => by
    obtain ⟨⟨x1, x48, x49, x50, ⟨⟩⟩, ⟨⟩⟩ := x
    refine Eq.trans ?_ h
    kernel_rfl⟩⟩

/-- emendate/regex.valid -/
noncomputable def p351b (E51 : ((Rx) × (Int) × Unit) → Option (Bool)) : ((Rx) × (Int) × Unit) → Option (Bool)
  | (x0, x1, ()) =>
    if (decide (x1 = (0 : Int))) = true then
      some false
    else
      if ((decide (x0.kind = (3 : Int))) == (Kind.eqB (.arr 4 (.int .u64)) [(x0.set.getD 0 0), (x0.set.getD 1 0), (x0.set.getD 2 0), (x0.set.getD 3 0)] [(0 : Int), (0 : Int), (0 : Int), (0 : Int)])) = true then
        some false
      else
        if (decide (x0.kind = (1 : Int))) = true then
          if (decide ((x0.kids.length : Int) < (0 : Int))) = true then
            some false
          else
            if (decide ((x0.kids.length : Int) > (0 : Int))) = true then
              some false
            else
              (limit (L351_17 E51) ((x1, x0.kids, (x0.kids.length : Int), (0 : Int), ()), ())).bind (Sum.elim (fun r1 =>
                some r1.1.1) (fun _ =>
                some true))
        else
          if (decide (x0.kind = (2 : Int))) = true then
            if (decide ((x0.kids.length : Int) < (0 : Int))) = true then
              some false
            else
              if (decide ((x0.kids.length : Int) > (0 : Int))) = true then
                some false
              else
                (limit (L351_17 E51) ((x1, x0.kids, (x0.kids.length : Int), (0 : Int), ()), ())).bind (Sum.elim (fun r2 =>
                  some r2.1.1) (fun _ =>
                  some true))
          else
            if (decide (x0.kind = (3 : Int))) = true then
              if (decide ((x0.kids.length : Int) < (0 : Int))) = true then
                some false
              else
                if (decide ((x0.kids.length : Int) > (0 : Int))) = true then
                  some false
                else
                  (limit (L351_17 E51) ((x1, x0.kids, (x0.kids.length : Int), (0 : Int), ()), ())).bind (Sum.elim (fun r3 =>
                    some r3.1.1) (fun _ =>
                    some true))
            else
              if (decide (x0.kind = (4 : Int))) = true then
                if (decide ((x0.kids.length : Int) < (2 : Int))) = true then
                  some false
                else
                  if (decide ((x0.kids.length : Int) > (x0.kids.length : Int))) = true then
                    some false
                  else
                    (limit (L351_17 E51) ((x1, x0.kids, (x0.kids.length : Int), (0 : Int), ()), ())).bind (Sum.elim (fun r4 =>
                      some r4.1.1) (fun _ =>
                      some true))
              else
                if (decide (x0.kind = (5 : Int))) = true then
                  if (decide ((x0.kids.length : Int) < (2 : Int))) = true then
                    some false
                  else
                    if (decide ((x0.kids.length : Int) > (x0.kids.length : Int))) = true then
                      some false
                    else
                      (limit (L351_17 E51) ((x1, x0.kids, (x0.kids.length : Int), (0 : Int), ()), ())).bind (Sum.elim (fun r5 =>
                        some r5.1.1) (fun _ =>
                        some true))
                else
                  if (decide (x0.kind = (6 : Int))) = true then
                    if (decide ((x0.kids.length : Int) < (1 : Int))) = true then
                      some false
                    else
                      if (decide ((x0.kids.length : Int) > (1 : Int))) = true then
                        some false
                      else
                        (limit (L351_17 E51) ((x1, x0.kids, (x0.kids.length : Int), (0 : Int), ()), ())).bind (Sum.elim (fun r6 =>
                          some r6.1.1) (fun _ =>
                          some true))
                  else
                    some false

theorem s351b (E51 : ((Rx) × (Int) × Unit) → Option (Bool)) (hE51 : SoundFn Try.prog 51 (fnOf [.rx, (.int .i64)] (.one .bool) E51)) : SoundFn Try.prog 51 (fnOf [.rx, (.int .i64)] (.one .bool) (p351b E51)) :=
  fn_pure hm0 hng0 hΓ0 (t := [(51, fnOf [.rx, (.int .i64)] (.one .bool) E51)]) (all_cons hE51 all_nil) (ls := [(EL351_17 E51)]) (cmds := []) (leaves := []) (fr := []) (pt := []) (D := 1) (all_cons (cL351_17 E51) all_nil) (by kernel_rfl) (hfr := all_nil) fun x r h => by
    obtain ⟨x0, x1, ⟨⟩⟩ := x
    refine Eq.trans ?_ h
    kernel_rfl

noncomputable def p351n : Nat → ((Rx) × (Int) × Unit) → Option (Bool)
  | 0, _ => none
  | n + 1, x => p351b (p351n n) x

theorem s351n : ∀ n, SoundFn Try.prog 51 (fnOf [.rx, (.int .i64)] (.one .bool) (p351n n)) :=
  fn_rec hng0 (by kernel_rfl) (fun _ => rfl) fun n h => s351b (p351n n) h

noncomputable def p351 : ((Rx) × (Int) × Unit) → Option (Bool) := limit p351n

theorem s351 : SoundFn Try.prog 51 (fnOf [.rx, (.int .i64)] (.one .bool) p351) := s351n fuel

noncomputable def O340 : Orc := mkOrc [(51, fnOf [.rx, (.int .i64)] (.one .bool) p351)] [] [] [] []

/-- emendate/regex.Valid -/
noncomputable def p340 : ((Rx) × Unit) → Option (Bool)
  | (x0, ()) =>
    (p351 ((Rx.mk x0.kind [(x0.set.getD 0 0), (x0.set.getD 1 0), (x0.set.getD 2 0), (x0.set.getD 3 0)] x0.kids), (30 : Int), ())).bind fun c1 =>
    some c1

theorem s340 : SoundFn Try.prog 40 (fnOf [.rx] (.one .bool) p340) :=
  fn_pure hm0 hng0 hΓ0 (t := [(51, fnOf [.rx, (.int .i64)] (.one .bool) p351)]) (all_cons s351 all_nil) (ls := []) (cmds := []) (leaves := []) (fr := []) (pt := []) (D := 1) all_nil (by kernel_rfl) (hfr := all_nil) fun x r h => by
    obtain ⟨x0, ⟨⟩⟩ := x
    refine Eq.trans ?_ h
    kernel_rfl

noncomputable def L341_3 (E41 : ((Rx) × Unit) → Option (Int)) : Nat → (((Int) × (List (Rx)) × (Int) × (Int) × Unit) × (Unit)) → Option (((Int) × Unit) × (Unit))
  | 0, _ => none
  | n + 1, ((x3, x7, x8, x9, ()), ()) =>
    if (decide (x9 < x8)) = true then
      if decide (0 ≤ x9 ∧ x9 < (x7.length : Int)) = true then
        (E41 ((Rx.mk (x7.getD x9.toNat (Rx.mk 0 [0, 0, 0, 0] [])).kind [((x7.getD x9.toNat (Rx.mk 0 [0, 0, 0, 0] [])).set.getD 0 0), ((x7.getD x9.toNat (Rx.mk 0 [0, 0, 0, 0] [])).set.getD 1 0), ((x7.getD x9.toNat (Rx.mk 0 [0, 0, 0, 0] [])).set.getD 2 0), ((x7.getD x9.toNat (Rx.mk 0 [0, 0, 0, 0] [])).set.getD 3 0)] (x7.getD x9.toNat (Rx.mk 0 [0, 0, 0, 0] [])).kids), ())).bind fun c1 =>
        L341_3 E41 n (((IntKind.i64.wrap (x3 + c1)), x7, x8, (IntKind.i64.wrap (x9 + (1 : Int))), ()), ())
      else
        none
    else
      some ((x3, ()), ())

noncomputable def EL341_3 (E41 : ((Rx) × Unit) → Option (Int)) : LoopEnt := ⟨[41], 3, ⟨[], [3, 7, 8, 9], []⟩, [.kd (.int .i64), .kd (.slice .rx), .kd (.int .i64), .kd (.int .i64)], [], [⟨(.exit 0), [3], [.kd (.int .i64)], [], []⟩], limit (L341_3 E41)⟩

noncomputable def O341 (E41 : ((Rx) × Unit) → Option (Int)) : Orc := mkOrc [(41, fnOf [.rx] (.one (.int .i64)) E41)] [(EL341_3 E41)] [] [] []

theorem cL341_3 (E41 : ((Rx) × Unit) → Option (Int)) : LoopCert Try.prog (O341 E41) Γ0 1 (EL341_3 E41) :=
  ⟨⟨41, 0, (L341_3 E41), rfl, by kernel_rfl, Nat.le_of_ble_eq_true (by kernel_rfl), limit_fn, fun _ => rfl, fun m old x r h => by
    obtain ⟨⟨x3, x7, x8, x9, ⟨⟩⟩, ⟨⟩⟩ := x
    refine Eq.trans ?_ h
    kernel_rfl⟩⟩

/-- emendate/nfa.nodes -/
noncomputable def p341b (E41 : ((Rx) × Unit) → Option (Int)) : ((Rx) × Unit) → Option (Int)
  | (x0, ()) =>
    (limit (L341_3 E41) (((1 : Int), x0.kids, (x0.kids.length : Int), (0 : Int), ()), ())).bind fun r1 =>
    some r1.1.1

theorem s341b (E41 : ((Rx) × Unit) → Option (Int)) (hE41 : SoundFn Try.prog 41 (fnOf [.rx] (.one (.int .i64)) E41)) : SoundFn Try.prog 41 (fnOf [.rx] (.one (.int .i64)) (p341b E41)) :=
  fn_pure hm0 hng0 hΓ0 (t := [(41, fnOf [.rx] (.one (.int .i64)) E41)]) (all_cons hE41 all_nil) (ls := [(EL341_3 E41)]) (cmds := []) (leaves := []) (fr := []) (pt := []) (D := 1) (all_cons (cL341_3 E41) all_nil) (by kernel_rfl) (hfr := all_nil) fun x r h => by
    obtain ⟨x0, ⟨⟩⟩ := x
    refine Eq.trans ?_ h
    kernel_rfl

noncomputable def p341n : Nat → ((Rx) × Unit) → Option (Int)
  | 0, _ => none
  | n + 1, x => p341b (p341n n) x

theorem s341n : ∀ n, SoundFn Try.prog 41 (fnOf [.rx] (.one (.int .i64)) (p341n n)) :=
  fn_rec hng0 (by kernel_rfl) (fun _ => rfl) fun n h => s341b (p341n n) h

noncomputable def p341 : ((Rx) × Unit) → Option (Int) := limit p341n

theorem s341 : SoundFn Try.prog 41 (fnOf [.rx] (.one (.int .i64)) p341) := s341n fuel

noncomputable def L363_3 : Nat → (((List (List (Int))) × (Int) × (List (List (Int))) × (Int) × (Int) × Unit) × (Unit)) → Option (((List (List (Int))) × (Int) × Unit) × (Unit))
  | 0, _ => none
  | n + 1, ((x0, x3, x9, x10, x11, ()), ()) =>
    if (decide (x11 < x10)) = true then
      if decide (0 ≤ x11 ∧ x11 < (x9.length : Int)) = true then
        if (decide ((IntKind.i64.wrap (x3 + ((x9.getD x11.toNat []).length : Int))) < (0 : Int))) = true then
          none
        else
          L363_3 n ((x0, (IntKind.i64.wrap (x3 + ((x9.getD x11.toNat []).length : Int))), x9, x10, (IntKind.i64.wrap (x11 + (1 : Int))), ()), ())
      else
        none
    else
      some ((x0, x3, ()), ())

noncomputable def EL363_3 : LoopEnt := ⟨[63], 3, ⟨[], [0, 3, 9, 10, 11], []⟩, [.kd (.slice (.slice (.int .i64))), .kd (.int .i64), .kd (.slice (.slice (.int .i64))), .kd (.int .i64), .kd (.int .i64)], [], [⟨(.exit 0), [0, 3], [.kd (.slice (.slice (.int .i64))), .kd (.int .i64)], [], []⟩], limit L363_3⟩

noncomputable def L363_11 : Nat → ((Unit × (List (List (Int))) × (Int) × (Int) × Unit) × ((List (Int)) × Unit)) → Option ((Unit × Unit) × ((List (Int)) × Unit))
  | 0, _ => none
  | n + 1, ((_, x25, x26, x27, ()), (y6, ())) =>
    if (decide (x27 < x26)) = true then
      if decide (0 ≤ x27 ∧ x27 < (x25.length : Int)) = true then
        if decide (y6.length + (x25.getD x27.toNat []).length ≤ lim) = true then
          L363_11 n (((), x25, x26, (IntKind.i64.wrap (x27 + (1 : Int))), ()), ((y6 ++ (x25.getD x27.toNat [])), ()))
        else
          none
      else
        none
    else
      some (((), ()), (y6, ()))

noncomputable def EL363_11 : LoopEnt := ⟨[63], 11, ⟨[.keep [6, 25, 26, 27] [24, 33], .adopt 6 (.int .i64) 6], [6, 25, 26, 27], [6]⟩, [.ref 6, .kd (.slice (.slice (.int .i64))), .kd (.int .i64), .kd (.int .i64)], [.row (.int .i64)], [⟨(.exit 2), [6], [.ref 6], [6], [.row (.int .i64)]⟩], limit L363_11⟩

noncomputable def O363 : Orc := mkOrc [] [EL363_3, EL363_11] [] [] [(68, growNew)]

theorem cL363_3 : LoopCert Try.prog O363 Γ0 1 EL363_3 :=
  ⟨⟨63, 0, L363_3, rfl, by kernel_rfl, by decide, limit_fn, fun _ => rfl, fun m old x r h => by
    obtain ⟨⟨x0, x3, x9, x10, x11, ⟨⟩⟩, ⟨⟩⟩ := x
    refine Eq.trans ?_ h
    kernel_rfl⟩⟩

theorem cL363_11 : LoopCert Try.prog O363 Γ0 1 EL363_11 :=
  ⟨⟨63, 1, L363_11, rfl, by kernel_rfl, by decide, limit_fn, fun _ => rfl, fun m old x r h => by
    obtain ⟨⟨x6, x25, x26, x27, ⟨⟩⟩, y6, ⟨⟩⟩ := x
    refine Eq.trans ?_ h
    kernel_rfl⟩⟩

/-- slices.Concat[[]int,int] -/
noncomputable def p363 : ((List (List (Int))) × Unit) → Option (List (Int))
  | (x0, ()) =>
    (limit L363_3 ((x0, (0 : Int), x0, (x0.length : Int), (0 : Int), ()), ())).bind fun r1 =>
    (p368 r1.1.2.1).bind fun c2 =>
    (limit L363_11 (((), r1.1.1, (r1.1.1.length : Int), (0 : Int), ()), (c2, ()))).bind fun r3 =>
    some r3.2.1

theorem s363 : SoundFn Try.prog 63 (fnOf [(.slice (.slice (.int .i64)))] (.one (.slice (.int .i64))) p363) :=
  fn_pure hm0 hng0 hΓ0 (t := []) all_nil (ls := [EL363_3, EL363_11]) (cmds := []) (leaves := []) (fr := [(68, growNew)]) (pt := []) (D := 1) (all_cons cL363_3 (all_cons cL363_11 all_nil)) (by kernel_rfl) (hfr := (all_cons s368 all_nil)) fun x r h => by
    obtain ⟨x0, ⟨⟩⟩ := x
    refine Eq.trans ?_ h
    kernel_rfl

noncomputable def L343_343_4 : Nat → ((Unit × (List (Int)) × (Int) × (List (Int)) × (Int) × (Int) × (List (Int)) × (Int) × (Int) × Unit) × ((Unit × Unit × Unit) × (List (List (Int))) × (List (List ((Int) × (Bool)))) × Unit)) → Option ((Unit × (List (Int)) × (List (Int)) × (Int) × (Int) × Unit) × ((Unit × Unit × Unit) × (List (List (Int))) × (List (List ((Int) × (Bool)))) × Unit))
  | 0, _ => none
  | n + 1, ((_, x2, x7, x10, x11, x12, x16, x17, x18, ()), (_, y1, y2, ())) =>
    if (decide (x18 < x17)) = true then
      if decide (0 ≤ x18 ∧ x18 < (x16.length : Int)) = true then
        if decide (0 ≤ x7 ∧ x7 < (y2.length : Int)) = true then
          L343_343_4 n (((), x2, x7, x10, x11, x12, x16, x17, (IntKind.i64.wrap (x18 + (1 : Int))), ()), (((), (), ()), y1, (y2.set x7.toNat (mput (.int .i64) (x16.getD x18.toNat 0) true (y2.getD x7.toNat []))), ()))
        else
          none
      else
        none
    else
      some (((), x2, x10, x11, x12, ()), (((), (), ()), y1, y2, ()))

noncomputable def EL343_343_4 : LoopEnt := ⟨[43, 43], 4, ⟨[], [0, 2, 7, 10, 11, 12, 16, 17, 18], [0, 1, 2]⟩, [.ptr 0 0, .kd (.slice (.int .i64)), .kd (.int .i64), .kd (.slice (.int .i64)), .kd (.int .i64), .kd (.int .i64), .kd (.slice (.int .i64)), .kd (.int .i64), .kd (.int .i64)], [.box [.ref 1, .ref 2], .row (.arr 4 (.int .u64)), .mrow (.int .i64) .bool], [⟨(.exit 2), [0, 2, 10, 11, 12], [.ptr 0 0, .kd (.slice (.int .i64)), .kd (.slice (.int .i64)), .kd (.int .i64), .kd (.int .i64)], [0, 1, 2], [.box [.ref 1, .ref 2], .row (.arr 4 (.int .u64)), .mrow (.int .i64) .bool]⟩], limit L343_343_4⟩

noncomputable def L343_343_1 : Nat → ((Unit × (List (Int)) × (List (Int)) × (Int) × (Int) × Unit) × ((Unit × Unit × Unit) × (List (List (Int))) × (List (List ((Int) × (Bool)))) × Unit)) → Option ((Unit) × ((Unit × Unit × Unit) × (List (List (Int))) × (List (List ((Int) × (Bool)))) × Unit))
  | 0, _ => none
  | n + 1, ((_, x2, x10, x11, x12, ()), (_, y1, y2, ())) =>
    if (decide (x12 < x11)) = true then
      if decide (0 ≤ x12 ∧ x12 < (x10.length : Int)) = true then
        (limit L343_343_4 (((), x2, (x10.getD x12.toNat 0), x10, x11, x12, x2, (x2.length : Int), (0 : Int), ()), (((), (), ()), y1, y2, ()))).bind fun r1 =>
        L343_343_1 n (((), r1.1.2.1, r1.1.2.2.1, r1.1.2.2.2.1, (IntKind.i64.wrap (r1.1.2.2.2.2.1 + (1 : Int))), ()), (((), (), ()), r1.2.2.1, r1.2.2.2.1, ()))
      else
        none
    else
      some ((), (((), (), ()), y1, y2, ()))

noncomputable def EL343_343_1 : LoopEnt := ⟨[43, 43], 1, ⟨[], [0, 2, 10, 11, 12], [0, 1, 2]⟩, [.ptr 0 0, .kd (.slice (.int .i64)), .kd (.slice (.int .i64)), .kd (.int .i64), .kd (.int .i64)], [.box [.ref 1, .ref 2], .row (.arr 4 (.int .u64)), .mrow (.int .i64) .bool], [⟨(.exit 0), [], [], [0, 1, 2], [.box [.ref 1, .ref 2], .row (.arr 4 (.int .u64)), .mrow (.int .i64) .bool]⟩], limit L343_343_1⟩

noncomputable def O343 : Orc := mkOrc [] [EL343_343_4, EL343_343_1] [] [] []

theorem cL343_343_4 : LoopCert Try.prog O343 Γ0 2 EL343_343_4 :=
  ⟨⟨43, 1, L343_343_4, rfl, by kernel_rfl, by decide, limit_fn, fun _ => rfl, fun m old x r h => by
    obtain ⟨⟨x0, x2, x7, x10, x11, x12, x16, x17, x18, ⟨⟩⟩, y0, y1, y2, ⟨⟩⟩ := x
    refine Eq.trans ?_ h
    kernel_rfl⟩⟩

theorem cL343_343_1 : LoopCert Try.prog O343 Γ0 2 EL343_343_1 :=
  ⟨⟨43, 0, L343_343_1, rfl, by kernel_rfl, by decide, limit_fn, fun _ => rfl, fun m old x r h => by
    obtain ⟨⟨x0, x2, x10, x11, x12, ⟨⟩⟩, y0, y1, y2, ⟨⟩⟩ := x
    refine Eq.trans ?_ h
    kernel_rfl⟩⟩

/-- (*emendate/nfa.builder).link -/
noncomputable def p343 : ((Unit × (List (Int)) × (List (Int)) × Unit) × ((Unit × Unit × Unit) × (List (List (Int))) × (List (List ((Int) × (Bool)))) × Unit)) → Option ((Unit) × ((Unit × Unit × Unit) × (List (List (Int))) × (List (List ((Int) × (Bool)))) × Unit))
  | ((_, x1, x2, ()), (_, y1, y2, ())) =>
    (limit L343_343_1 (((), x2, x1, (x1.length : Int), (0 : Int), ()), (((), (), ()), y1, y2, ()))).bind fun r1 =>
    some ((), (((), (), ()), r1.2.2.1, r1.2.2.2.1, ()))

theorem s343 : SoundProc Try.prog 43 [0, 1, 2] [0, 1, 2] (procPv (procOf [.ptr 0 0, .kd (.slice (.int .i64)), .kd (.slice (.int .i64))] [.box [.ref 1, .ref 2], .row (.arr 4 (.int .u64)), .mrow (.int .i64) .bool] (.tup []) [.box [.ref 1, .ref 2], .row (.arr 4 (.int .u64)), .mrow (.int .i64) .bool] p343)) :=
  proc_pure hm0 hng0 hΓ0 (t := []) all_nil (ls := [EL343_343_4, EL343_343_1]) (cmds := []) (leaves := []) (fr := []) (pt := []) (D := 2) (all_cons cL343_343_4 (all_cons cL343_343_1 all_nil)) (by kernel_rfl) (by kernel_rfl) (by kernel_rfl) (by kernel_rfl) (hfr := all_nil) fun x r h => by
    obtain ⟨⟨x0, x1, x2, ⟨⟩⟩, y0, y1, y2, ⟨⟩⟩ := x
    refine Eq.trans ?_ h
    kernel_rfl

noncomputable def O352 : Orc := mkOrc [] [] [] [([52, 52], [.adoptCell 0 0 (.arr 4 (.int .u64)) 3, .adoptM 0 1 4])] []

/-- (*emendate/nfa.builder).none -/
noncomputable def p352 : ((Unit × (Rx) × Unit) × ((Unit × Unit × Unit) × (List (List (Int))) × (List (List ((Int) × (Bool)))) × Unit)) → Option (((Bool) × ((List (Int)) × ((List (Int)) × (Unit)))) × ((Unit × Unit × Unit) × (List (List (Int))) × (List (List ((Int) × (Bool)))) × Unit))
  | ((_, _, ()), (_, y1, y2, ())) =>
    some ((false, (([] : List (Int)), (([] : List (Int)), ()))), (((), (), ()), y1, y2, ()))

theorem s352 : SoundProc Try.prog 52 [0, 1, 2] [0, 3, 4] (procPv (procOf [.ptr 0 0, .kd .rx] [.box [.ref 1, .ref 2], .row (.arr 4 (.int .u64)), .mrow (.int .i64) .bool] (.one (.pair .bool (.pair (.slice (.int .i64)) (.pair (.slice (.int .i64)) .unit)))) [.box [.ref 3, .ref 4], .row (.arr 4 (.int .u64)), .mrow (.int .i64) .bool] p352)) :=
  proc_pure hm0 hng0 hΓ0 (t := []) all_nil (ls := []) (cmds := []) (leaves := [([52, 52], [.adoptCell 0 0 (.arr 4 (.int .u64)) 3, .adoptM 0 1 4])]) (fr := []) (pt := []) (D := 2) all_nil (by kernel_rfl) (by kernel_rfl) (by kernel_rfl) (by kernel_rfl) (hfr := all_nil) fun x r h => by
    obtain ⟨⟨x0, x1, ⟨⟩⟩, y0, y1, y2, ⟨⟩⟩ := x
    refine Eq.trans ?_ h
    kernel_rfl

noncomputable def O353 : Orc := mkOrc [] [] [] [([53, 53], [.adoptCell 0 0 (.arr 4 (.int .u64)) 3, .adoptM 0 1 4])] []

/-- (*emendate/nfa.builder).empty -/
noncomputable def p353 : ((Unit × (Rx) × Unit) × ((Unit × Unit × Unit) × (List (List (Int))) × (List (List ((Int) × (Bool)))) × Unit)) → Option (((Bool) × ((List (Int)) × ((List (Int)) × (Unit)))) × ((Unit × Unit × Unit) × (List (List (Int))) × (List (List ((Int) × (Bool)))) × Unit))
  | ((_, _, ()), (_, y1, y2, ())) =>
    some ((true, (([] : List (Int)), (([] : List (Int)), ()))), (((), (), ()), y1, y2, ()))

theorem s353 : SoundProc Try.prog 53 [0, 1, 2] [0, 3, 4] (procPv (procOf [.ptr 0 0, .kd .rx] [.box [.ref 1, .ref 2], .row (.arr 4 (.int .u64)), .mrow (.int .i64) .bool] (.one (.pair .bool (.pair (.slice (.int .i64)) (.pair (.slice (.int .i64)) .unit)))) [.box [.ref 3, .ref 4], .row (.arr 4 (.int .u64)), .mrow (.int .i64) .bool] p353)) :=
  proc_pure hm0 hng0 hΓ0 (t := []) all_nil (ls := []) (cmds := []) (leaves := [([53, 53], [.adoptCell 0 0 (.arr 4 (.int .u64)) 3, .adoptM 0 1 4])]) (fr := []) (pt := []) (D := 2) all_nil (by kernel_rfl) (by kernel_rfl) (by kernel_rfl) (by kernel_rfl) (hfr := all_nil) fun x r h => by
    obtain ⟨⟨x0, x1, ⟨⟩⟩, y0, y1, y2, ⟨⟩⟩ := x
    refine Eq.trans ?_ h
    kernel_rfl

def Γ354 : TEnv := { Γ0 with imm := [1013, 1023, 1032] }
theorem hΓ354 : Γ354.ok Try.prog = true := hΓ0

noncomputable def O354 : Orc := mkOrc [] [] [] [([54, 54], [.adoptCell 0 0 (.arr 4 (.int .u64)) 3, .adoptM 0 1 4])] []

/-- (*emendate/nfa.builder).set -/
noncomputable def p354 : ((Unit × (Rx) × Unit) × ((Unit × Unit × Unit) × (List (List (Int))) × (List (List ((Int) × (Bool)))) × Unit)) → Option (((Bool) × ((List (Int)) × ((List (Int)) × (Unit)))) × ((Unit × Unit × Unit) × (List (List (Int))) × (List (List ((Int) × (Bool)))) × Unit))
  | ((_, x1, ()), (_, y1, y2, ())) =>
    if decide (y1.length + ([[(x1.set.getD 0 0), (x1.set.getD 1 0), (x1.set.getD 2 0), (x1.set.getD 3 0)]] : List (List (Int))).length ≤ lim) = true then
      if decide (y2.length + ([([] : List ((Int) × (Bool)))] : List (List ((Int) × (Bool)))).length ≤ lim) = true then
        some ((false, (([((y1 ++ ([[(x1.set.getD 0 0), (x1.set.getD 1 0), (x1.set.getD 2 0), (x1.set.getD 3 0)]] : List (List (Int)))).length : Int)] : List (Int)), (([((y1 ++ ([[(x1.set.getD 0 0), (x1.set.getD 1 0), (x1.set.getD 2 0), (x1.set.getD 3 0)]] : List (List (Int)))).length : Int)] : List (Int)), ()))), (((), (), ()), (y1 ++ ([[(x1.set.getD 0 0), (x1.set.getD 1 0), (x1.set.getD 2 0), (x1.set.getD 3 0)]] : List (List (Int)))), (y2 ++ ([([] : List ((Int) × (Bool)))] : List (List ((Int) × (Bool))))), ()))
      else
        none
    else
      none

theorem s354 : SoundProc Try.prog 54 [0, 1, 2] [0, 3, 4] (procPv (procOf [.ptr 0 0, .kd .rx] [.box [.ref 1, .ref 2], .row (.arr 4 (.int .u64)), .mrow (.int .i64) .bool] (.one (.pair .bool (.pair (.slice (.int .i64)) (.pair (.slice (.int .i64)) .unit)))) [.box [.ref 3, .ref 4], .row (.arr 4 (.int .u64)), .mrow (.int .i64) .bool] p354)) :=
  proc_pure hm0 hng0 hΓ354 (t := []) all_nil (ls := []) (cmds := []) (leaves := [([54, 54], [.adoptCell 0 0 (.arr 4 (.int .u64)) 3, .adoptM 0 1 4])]) (fr := []) (pt := []) (D := 2) all_nil (by kernel_rfl) (by kernel_rfl) (by kernel_rfl) (by kernel_rfl) (hfr := all_nil) fun x r h => by
    obtain ⟨⟨x0, x1, ⟨⟩⟩, y0, y1, y2, ⟨⟩⟩ := x
    refine Eq.trans ?_ h
    kernel_rfl

def Γ355 : TEnv := { Γ0 with imm := [1032, 1041], procs := [((1019, 42), ([(0, 0), (1400, 1), (1401, 2)], [(0, 0), (1402, 3), (1403, 4)])), ((1025, 43), ([(0, 0), (1402, 1), (1403, 2)], [(0, 0), (1402, 1), (1403, 2)]))] }
theorem hΓ355 : Γ355.ok Try.prog = true := hΓ0

noncomputable def L355_355_3 (E42 : ((Unit × (Rx) × Unit) × ((Unit × Unit × Unit) × (List (List (Int))) × (List (List ((Int) × (Bool)))) × Unit)) → Option (((Bool) × ((List (Int)) × ((List (Int)) × (Unit)))) × ((Unit × Unit × Unit) × (List (List (Int))) × (List (List ((Int) × (Bool)))) × Unit))) : Nat → ((Unit × Unit × Unit × (List (Rx)) × (Int) × (Int) × Unit) × ((Unit × Unit × Unit) × ((Bool) × (List (Int)) × (List (Int)) × Unit) × ((Bool) × (List (Int)) × (List (Int)) × Unit) × (List (List (Int))) × (List (List ((Int) × (Bool)))) × Unit)) → Option ((Unit × Unit × Unit) × ((Unit × Unit × Unit) × ((Bool) × (List (Int)) × (List (Int)) × Unit) × ((Bool) × (List (Int)) × (List (Int)) × Unit) × (List (List (Int))) × (List (List ((Int) × (Bool)))) × Unit))
  | 0, _ => none
  | n + 1, ((_, _, _, x11, x12, x13, ()), (_, y1004, y1005, y1400, y1401, ())) =>
    if (decide (x13 < x12)) = true then
      if decide (0 ≤ x13 ∧ x13 < (x11.length : Int)) = true then
        (E42 (((), (Rx.mk (x11.getD x13.toNat (Rx.mk 0 [0, 0, 0, 0] [])).kind [((x11.getD x13.toNat (Rx.mk 0 [0, 0, 0, 0] [])).set.getD 0 0), ((x11.getD x13.toNat (Rx.mk 0 [0, 0, 0, 0] [])).set.getD 1 0), ((x11.getD x13.toNat (Rx.mk 0 [0, 0, 0, 0] [])).set.getD 2 0), ((x11.getD x13.toNat (Rx.mk 0 [0, 0, 0, 0] [])).set.getD 3 0)] (x11.getD x13.toNat (Rx.mk 0 [0, 0, 0, 0] [])).kids), ()), (((), (), ()), y1400, y1401, ()))).bind fun c1 =>
        (p343 (((), y1005.2.2.1, c1.1.2.1, ()), (((), (), ()), c1.2.2.1, c1.2.2.2.1, ()))).bind fun c2 =>
        if y1005.1 = true then
          (p363 (([y1005.2.1, c1.1.2.1] : List (List (Int))), ())).bind fun c3 =>
          if c1.1.1 = true then
            (p363 (([y1005.2.2.1, c1.1.2.2.1] : List (List (Int))), ())).bind fun c4 =>
            if y1005.1 = true then
              L355_355_3 E42 n (((), (), (), x11, x12, (IntKind.i64.wrap (x13 + (1 : Int))), ()), (((), (), ()), (y1004.1, y1004.2.1, y1004.2.2.1, ()), (c1.1.1, c3, c4, ()), c2.2.2.1, c2.2.2.2.1, ()))
            else
              L355_355_3 E42 n (((), (), (), x11, x12, (IntKind.i64.wrap (x13 + (1 : Int))), ()), (((), (), ()), (y1004.1, y1004.2.1, y1004.2.2.1, ()), (false, c3, c4, ()), c2.2.2.1, c2.2.2.2.1, ()))
          else
            if y1005.1 = true then
              L355_355_3 E42 n (((), (), (), x11, x12, (IntKind.i64.wrap (x13 + (1 : Int))), ()), (((), (), ()), (y1004.1, y1004.2.1, y1004.2.2.1, ()), (c1.1.1, c3, c1.1.2.2.1, ()), c2.2.2.1, c2.2.2.2.1, ()))
            else
              L355_355_3 E42 n (((), (), (), x11, x12, (IntKind.i64.wrap (x13 + (1 : Int))), ()), (((), (), ()), (y1004.1, y1004.2.1, y1004.2.2.1, ()), (false, c3, c1.1.2.2.1, ()), c2.2.2.1, c2.2.2.2.1, ()))
        else
          if c1.1.1 = true then
            (p363 (([y1005.2.2.1, c1.1.2.2.1] : List (List (Int))), ())).bind fun c5 =>
            if y1005.1 = true then
              L355_355_3 E42 n (((), (), (), x11, x12, (IntKind.i64.wrap (x13 + (1 : Int))), ()), (((), (), ()), (y1004.1, y1004.2.1, y1004.2.2.1, ()), (c1.1.1, y1005.2.1, c5, ()), c2.2.2.1, c2.2.2.2.1, ()))
            else
              L355_355_3 E42 n (((), (), (), x11, x12, (IntKind.i64.wrap (x13 + (1 : Int))), ()), (((), (), ()), (y1004.1, y1004.2.1, y1004.2.2.1, ()), (false, y1005.2.1, c5, ()), c2.2.2.1, c2.2.2.2.1, ()))
          else
            if y1005.1 = true then
              L355_355_3 E42 n (((), (), (), x11, x12, (IntKind.i64.wrap (x13 + (1 : Int))), ()), (((), (), ()), (y1004.1, y1004.2.1, y1004.2.2.1, ()), (c1.1.1, y1005.2.1, c1.1.2.2.1, ()), c2.2.2.1, c2.2.2.2.1, ()))
            else
              L355_355_3 E42 n (((), (), (), x11, x12, (IntKind.i64.wrap (x13 + (1 : Int))), ()), (((), (), ()), (y1004.1, y1004.2.1, y1004.2.2.1, ()), (false, y1005.2.1, c1.1.2.2.1, ()), c2.2.2.1, c2.2.2.2.1, ()))
      else
        none
    else
      some (((), (), ()), (((), (), ()), (y1004.1, y1004.2.1, y1004.2.2.1, ()), (y1005.1, y1005.2.1, y1005.2.2.1, ()), y1400, y1401, ()))

noncomputable def EL355_355_3 (E42 : ((Unit × (Rx) × Unit) × ((Unit × Unit × Unit) × (List (List (Int))) × (List (List ((Int) × (Bool)))) × Unit)) → Option (((Bool) × ((List (Int)) × ((List (Int)) × (Unit)))) × ((Unit × Unit × Unit) × (List (List (Int))) × (List (List ((Int) × (Bool)))) × Unit))) : LoopEnt := ⟨[55, 55], 3, ⟨[.keep [0, 4, 5, 11, 12, 13] [0, 1, 2, 1004, 1005, 1402, 1403], .adoptCell 0 0 (.arr 4 (.int .u64)) 1400, .adoptM 0 1 1401], [0, 4, 5, 11, 12, 13], [0, 1004, 1005, 1400, 1401]⟩, [.ptr 0 0, .ptr 1004 0, .ptr 1005 0, .kd (.slice .rx), .kd (.int .i64), .kd (.int .i64)], [.box [.ref 1400, .ref 1401], .box [.kd .bool, .kd (.slice (.int .i64)), .kd (.slice (.int .i64))], .box [.kd .bool, .kd (.slice (.int .i64)), .kd (.slice (.int .i64))], .row (.arr 4 (.int .u64)), .mrow (.int .i64) .bool], [⟨(.exit 0), [4, 5], [.ptr 1004 0, .ptr 1005 0], [0, 1004, 1005, 1400, 1401], [.box [.ref 1400, .ref 1401], .box [.kd .bool, .kd (.slice (.int .i64)), .kd (.slice (.int .i64))], .box [.kd .bool, .kd (.slice (.int .i64)), .kd (.slice (.int .i64))], .row (.arr 4 (.int .u64)), .mrow (.int .i64) .bool]⟩], limit (L355_355_3 E42)⟩

noncomputable def O355 (E42 : ((Unit × (Rx) × Unit) × ((Unit × Unit × Unit) × (List (List (Int))) × (List (List ((Int) × (Bool)))) × Unit)) → Option (((Bool) × ((List (Int)) × ((List (Int)) × (Unit)))) × ((Unit × Unit × Unit) × (List (List (Int))) × (List (List ((Int) × (Bool)))) × Unit))) : Orc := mkOrc [(63, fnOf [(.slice (.slice (.int .i64)))] (.one (.slice (.int .i64))) p363)] [(EL355_355_3 E42)] [] [([55, 55], [.adoptCell 0 0 (.arr 4 (.int .u64)) 3, .adoptM 0 1 4])] [] [(42, procOf [.ptr 0 0, .kd .rx] [.box [.ref 1, .ref 2], .row (.arr 4 (.int .u64)), .mrow (.int .i64) .bool] (.one (.pair .bool (.pair (.slice (.int .i64)) (.pair (.slice (.int .i64)) .unit)))) [.box [.ref 3, .ref 4], .row (.arr 4 (.int .u64)), .mrow (.int .i64) .bool] E42), (43, procOf [.ptr 0 0, .kd (.slice (.int .i64)), .kd (.slice (.int .i64))] [.box [.ref 1, .ref 2], .row (.arr 4 (.int .u64)), .mrow (.int .i64) .bool] (.tup []) [.box [.ref 1, .ref 2], .row (.arr 4 (.int .u64)), .mrow (.int .i64) .bool] p343)]

theorem cL355_355_3 (E42 : ((Unit × (Rx) × Unit) × ((Unit × Unit × Unit) × (List (List (Int))) × (List (List ((Int) × (Bool)))) × Unit)) → Option (((Bool) × ((List (Int)) × ((List (Int)) × (Unit)))) × ((Unit × Unit × Unit) × (List (List (Int))) × (List (List ((Int) × (Bool)))) × Unit))) : LoopCert Try.prog (O355 E42) Γ355 2 (EL355_355_3 E42) :=
  ⟨⟨55, 0, (L355_355_3 E42), rfl, by kernel_rfl, Nat.le_of_ble_eq_true (by kernel_rfl), limit_fn, fun _ => rfl, fun m old x r h => by
    obtain ⟨⟨x0, x4, x5, x11, x12, x13, ⟨⟩⟩, y0, y1004, y1005, y1400, y1401, ⟨⟩⟩ := x
    refine Eq.trans ?_ h
    kernel_rfl⟩⟩

/-- (*emendate/nfa.builder).concat -/
noncomputable def p355 (E42 : ((Unit × (Rx) × Unit) × ((Unit × Unit × Unit) × (List (List (Int))) × (List (List ((Int) × (Bool)))) × Unit)) → Option (((Bool) × ((List (Int)) × ((List (Int)) × (Unit)))) × ((Unit × Unit × Unit) × (List (List (Int))) × (List (List ((Int) × (Bool)))) × Unit))) : ((Unit × (Rx) × Unit) × ((Unit × Unit × Unit) × (List (List (Int))) × (List (List ((Int) × (Bool)))) × Unit)) → Option (((Bool) × ((List (Int)) × ((List (Int)) × (Unit)))) × ((Unit × Unit × Unit) × (List (List (Int))) × (List (List ((Int) × (Bool)))) × Unit))
  | ((_, x1, ()), (_, y1, y2, ())) =>
    (limit (L355_355_3 E42) (((), (), (), x1.kids, (x1.kids.length : Int), (0 : Int), ()), (((), (), ()), (false, ([] : List (Int)), ([] : List (Int)), ()), (true, ([] : List (Int)), ([] : List (Int)), ()), y1, y2, ()))).bind fun r1 =>
    some ((r1.2.2.2.1.1, (r1.2.2.2.1.2.1, (r1.2.2.2.1.2.2.1, ()))), (((), (), ()), r1.2.2.2.2.1, r1.2.2.2.2.2.1, ()))

theorem s355 (E42 : ((Unit × (Rx) × Unit) × ((Unit × Unit × Unit) × (List (List (Int))) × (List (List ((Int) × (Bool)))) × Unit)) → Option (((Bool) × ((List (Int)) × ((List (Int)) × (Unit)))) × ((Unit × Unit × Unit) × (List (List (Int))) × (List (List ((Int) × (Bool)))) × Unit))) (hE42 : SoundProc Try.prog 42 [0, 1, 2] [0, 3, 4] (procPv (procOf [.ptr 0 0, .kd .rx] [.box [.ref 1, .ref 2], .row (.arr 4 (.int .u64)), .mrow (.int .i64) .bool] (.one (.pair .bool (.pair (.slice (.int .i64)) (.pair (.slice (.int .i64)) .unit)))) [.box [.ref 3, .ref 4], .row (.arr 4 (.int .u64)), .mrow (.int .i64) .bool] E42))) : SoundProc Try.prog 55 [0, 1, 2] [0, 3, 4] (procPv (procOf [.ptr 0 0, .kd .rx] [.box [.ref 1, .ref 2], .row (.arr 4 (.int .u64)), .mrow (.int .i64) .bool] (.one (.pair .bool (.pair (.slice (.int .i64)) (.pair (.slice (.int .i64)) .unit)))) [.box [.ref 3, .ref 4], .row (.arr 4 (.int .u64)), .mrow (.int .i64) .bool] (p355 E42))) :=
  proc_pure hm0 hng0 hΓ355 (t := [(63, fnOf [(.slice (.slice (.int .i64)))] (.one (.slice (.int .i64))) p363)]) (all_cons s363 all_nil) (ls := [(EL355_355_3 E42)]) (cmds := []) (leaves := [([55, 55], [.adoptCell 0 0 (.arr 4 (.int .u64)) 3, .adoptM 0 1 4])]) (fr := []) (pt := [(42, procOf [.ptr 0 0, .kd .rx] [.box [.ref 1, .ref 2], .row (.arr 4 (.int .u64)), .mrow (.int .i64) .bool] (.one (.pair .bool (.pair (.slice (.int .i64)) (.pair (.slice (.int .i64)) .unit)))) [.box [.ref 3, .ref 4], .row (.arr 4 (.int .u64)), .mrow (.int .i64) .bool] E42), (43, procOf [.ptr 0 0, .kd (.slice (.int .i64)), .kd (.slice (.int .i64))] [.box [.ref 1, .ref 2], .row (.arr 4 (.int .u64)), .mrow (.int .i64) .bool] (.tup []) [.box [.ref 1, .ref 2], .row (.arr 4 (.int .u64)), .mrow (.int .i64) .bool] p343)]) (D := 2) (all_cons (cL355_355_3 E42) all_nil) (by kernel_rfl) (by kernel_rfl) (by kernel_rfl) (by kernel_rfl) (hfr := all_nil) (hX := Special.procs (all_cons hE42 (all_cons s343 all_nil)) (fun _ _ h => by cases h) (fun _ _ h => by obtain ⟨⟨_, h⟩, _⟩ := h; cases h)) fun x r h => by
    obtain ⟨⟨x0, x1, ⟨⟩⟩, y0, y1, y2, ⟨⟩⟩ := x
    refine Eq.trans ?_ h
    kernel_rfl

def Γ356 : TEnv := { Γ0 with imm := [1029, 1035], procs := [((1018, 42), ([(0, 0), (1400, 1), (1401, 2)], [(0, 0), (1402, 3), (1403, 4)]))] }
theorem hΓ356 : Γ356.ok Try.prog = true := hΓ0

noncomputable def L356_356_3 (E42 : ((Unit × (Rx) × Unit) × ((Unit × Unit × Unit) × (List (List (Int))) × (List (List ((Int) × (Bool)))) × Unit)) → Option (((Bool) × ((List (Int)) × ((List (Int)) × (Unit)))) × ((Unit × Unit × Unit) × (List (List (Int))) × (List (List ((Int) × (Bool)))) × Unit))) : Nat → ((Unit × Unit × Unit × (List (Rx)) × (Int) × (Int) × Unit) × ((Unit × Unit × Unit) × ((Bool) × (List (Int)) × (List (Int)) × Unit) × ((Bool) × (List (Int)) × (List (Int)) × Unit) × (List (List (Int))) × (List (List ((Int) × (Bool)))) × Unit)) → Option ((Unit × Unit × Unit) × ((Unit × Unit × Unit) × ((Bool) × (List (Int)) × (List (Int)) × Unit) × ((Bool) × (List (Int)) × (List (Int)) × Unit) × (List (List (Int))) × (List (List ((Int) × (Bool)))) × Unit))
  | 0, _ => none
  | n + 1, ((_, _, _, x10, x11, x12, ()), (_, y1004, y1005, y1400, y1401, ())) =>
    if (decide (x12 < x11)) = true then
      if decide (0 ≤ x12 ∧ x12 < (x10.length : Int)) = true then
        (E42 (((), (Rx.mk (x10.getD x12.toNat (Rx.mk 0 [0, 0, 0, 0] [])).kind [((x10.getD x12.toNat (Rx.mk 0 [0, 0, 0, 0] [])).set.getD 0 0), ((x10.getD x12.toNat (Rx.mk 0 [0, 0, 0, 0] [])).set.getD 1 0), ((x10.getD x12.toNat (Rx.mk 0 [0, 0, 0, 0] [])).set.getD 2 0), ((x10.getD x12.toNat (Rx.mk 0 [0, 0, 0, 0] [])).set.getD 3 0)] (x10.getD x12.toNat (Rx.mk 0 [0, 0, 0, 0] [])).kids), ()), (((), (), ()), y1400, y1401, ()))).bind fun c1 =>
        if y1005.1 = true then
          (p363 (([y1005.2.1, c1.1.2.1] : List (List (Int))), ())).bind fun c2 =>
          (p363 (([y1005.2.2.1, c1.1.2.2.1] : List (List (Int))), ())).bind fun c3 =>
          L356_356_3 E42 n (((), (), (), x10, x11, (IntKind.i64.wrap (x12 + (1 : Int))), ()), (((), (), ()), (y1004.1, y1004.2.1, y1004.2.2.1, ()), (true, c2, c3, ()), c1.2.2.1, c1.2.2.2.1, ()))
        else
          (p363 (([y1005.2.1, c1.1.2.1] : List (List (Int))), ())).bind fun c4 =>
          (p363 (([y1005.2.2.1, c1.1.2.2.1] : List (List (Int))), ())).bind fun c5 =>
          L356_356_3 E42 n (((), (), (), x10, x11, (IntKind.i64.wrap (x12 + (1 : Int))), ()), (((), (), ()), (y1004.1, y1004.2.1, y1004.2.2.1, ()), (c1.1.1, c4, c5, ()), c1.2.2.1, c1.2.2.2.1, ()))
      else
        none
    else
      some (((), (), ()), (((), (), ()), (y1004.1, y1004.2.1, y1004.2.2.1, ()), (y1005.1, y1005.2.1, y1005.2.2.1, ()), y1400, y1401, ()))

noncomputable def EL356_356_3 (E42 : ((Unit × (Rx) × Unit) × ((Unit × Unit × Unit) × (List (List (Int))) × (List (List ((Int) × (Bool)))) × Unit)) → Option (((Bool) × ((List (Int)) × ((List (Int)) × (Unit)))) × ((Unit × Unit × Unit) × (List (List (Int))) × (List (List ((Int) × (Bool)))) × Unit))) : LoopEnt := ⟨[56, 56], 3, ⟨[.keep [0, 4, 5, 10, 11, 12] [0, 1, 2, 1004, 1005, 1402, 1403], .adoptCell 0 0 (.arr 4 (.int .u64)) 1400, .adoptM 0 1 1401], [0, 4, 5, 10, 11, 12], [0, 1004, 1005, 1400, 1401]⟩, [.ptr 0 0, .ptr 1004 0, .ptr 1005 0, .kd (.slice .rx), .kd (.int .i64), .kd (.int .i64)], [.box [.ref 1400, .ref 1401], .box [.kd .bool, .kd (.slice (.int .i64)), .kd (.slice (.int .i64))], .box [.kd .bool, .kd (.slice (.int .i64)), .kd (.slice (.int .i64))], .row (.arr 4 (.int .u64)), .mrow (.int .i64) .bool], [⟨(.exit 0), [4, 5], [.ptr 1004 0, .ptr 1005 0], [0, 1004, 1005, 1400, 1401], [.box [.ref 1400, .ref 1401], .box [.kd .bool, .kd (.slice (.int .i64)), .kd (.slice (.int .i64))], .box [.kd .bool, .kd (.slice (.int .i64)), .kd (.slice (.int .i64))], .row (.arr 4 (.int .u64)), .mrow (.int .i64) .bool]⟩], limit (L356_356_3 E42)⟩

noncomputable def O356 (E42 : ((Unit × (Rx) × Unit) × ((Unit × Unit × Unit) × (List (List (Int))) × (List (List ((Int) × (Bool)))) × Unit)) → Option (((Bool) × ((List (Int)) × ((List (Int)) × (Unit)))) × ((Unit × Unit × Unit) × (List (List (Int))) × (List (List ((Int) × (Bool)))) × Unit))) : Orc := mkOrc [(63, fnOf [(.slice (.slice (.int .i64)))] (.one (.slice (.int .i64))) p363)] [(EL356_356_3 E42)] [] [([56, 56], [.adoptCell 0 0 (.arr 4 (.int .u64)) 3, .adoptM 0 1 4])] [] [(42, procOf [.ptr 0 0, .kd .rx] [.box [.ref 1, .ref 2], .row (.arr 4 (.int .u64)), .mrow (.int .i64) .bool] (.one (.pair .bool (.pair (.slice (.int .i64)) (.pair (.slice (.int .i64)) .unit)))) [.box [.ref 3, .ref 4], .row (.arr 4 (.int .u64)), .mrow (.int .i64) .bool] E42)]

theorem cL356_356_3 (E42 : ((Unit × (Rx) × Unit) × ((Unit × Unit × Unit) × (List (List (Int))) × (List (List ((Int) × (Bool)))) × Unit)) → Option (((Bool) × ((List (Int)) × ((List (Int)) × (Unit)))) × ((Unit × Unit × Unit) × (List (List (Int))) × (List (List ((Int) × (Bool)))) × Unit))) : LoopCert Try.prog (O356 E42) Γ356 2 (EL356_356_3 E42) :=
  ⟨⟨56, 0, (L356_356_3 E42), rfl, by kernel_rfl, Nat.le_of_ble_eq_true (by kernel_rfl), limit_fn, fun _ => rfl, fun m old x r h => by
    obtain ⟨⟨x0, x4, x5, x10, x11, x12, ⟨⟩⟩, y0, y1004, y1005, y1400, y1401, ⟨⟩⟩ := x
    refine Eq.trans ?_ h
    kernel_rfl⟩⟩

/-- (*emendate/nfa.builder).union -/
noncomputable def p356 (E42 : ((Unit × (Rx) × Unit) × ((Unit × Unit × Unit) × (List (List (Int))) × (List (List ((Int) × (Bool)))) × Unit)) → Option (((Bool) × ((List (Int)) × ((List (Int)) × (Unit)))) × ((Unit × Unit × Unit) × (List (List (Int))) × (List (List ((Int) × (Bool)))) × Unit))) : ((Unit × (Rx) × Unit) × ((Unit × Unit × Unit) × (List (List (Int))) × (List (List ((Int) × (Bool)))) × Unit)) → Option (((Bool) × ((List (Int)) × ((List (Int)) × (Unit)))) × ((Unit × Unit × Unit) × (List (List (Int))) × (List (List ((Int) × (Bool)))) × Unit))
  | ((_, x1, ()), (_, y1, y2, ())) =>
    (limit (L356_356_3 E42) (((), (), (), x1.kids, (x1.kids.length : Int), (0 : Int), ()), (((), (), ()), (false, ([] : List (Int)), ([] : List (Int)), ()), (false, ([] : List (Int)), ([] : List (Int)), ()), y1, y2, ()))).bind fun r1 =>
    some ((r1.2.2.2.1.1, (r1.2.2.2.1.2.1, (r1.2.2.2.1.2.2.1, ()))), (((), (), ()), r1.2.2.2.2.1, r1.2.2.2.2.2.1, ()))

theorem s356 (E42 : ((Unit × (Rx) × Unit) × ((Unit × Unit × Unit) × (List (List (Int))) × (List (List ((Int) × (Bool)))) × Unit)) → Option (((Bool) × ((List (Int)) × ((List (Int)) × (Unit)))) × ((Unit × Unit × Unit) × (List (List (Int))) × (List (List ((Int) × (Bool)))) × Unit))) (hE42 : SoundProc Try.prog 42 [0, 1, 2] [0, 3, 4] (procPv (procOf [.ptr 0 0, .kd .rx] [.box [.ref 1, .ref 2], .row (.arr 4 (.int .u64)), .mrow (.int .i64) .bool] (.one (.pair .bool (.pair (.slice (.int .i64)) (.pair (.slice (.int .i64)) .unit)))) [.box [.ref 3, .ref 4], .row (.arr 4 (.int .u64)), .mrow (.int .i64) .bool] E42))) : SoundProc Try.prog 56 [0, 1, 2] [0, 3, 4] (procPv (procOf [.ptr 0 0, .kd .rx] [.box [.ref 1, .ref 2], .row (.arr 4 (.int .u64)), .mrow (.int .i64) .bool] (.one (.pair .bool (.pair (.slice (.int .i64)) (.pair (.slice (.int .i64)) .unit)))) [.box [.ref 3, .ref 4], .row (.arr 4 (.int .u64)), .mrow (.int .i64) .bool] (p356 E42))) :=
  proc_pure hm0 hng0 hΓ356 (t := [(63, fnOf [(.slice (.slice (.int .i64)))] (.one (.slice (.int .i64))) p363)]) (all_cons s363 all_nil) (ls := [(EL356_356_3 E42)]) (cmds := []) (leaves := [([56, 56], [.adoptCell 0 0 (.arr 4 (.int .u64)) 3, .adoptM 0 1 4])]) (fr := []) (pt := [(42, procOf [.ptr 0 0, .kd .rx] [.box [.ref 1, .ref 2], .row (.arr 4 (.int .u64)), .mrow (.int .i64) .bool] (.one (.pair .bool (.pair (.slice (.int .i64)) (.pair (.slice (.int .i64)) .unit)))) [.box [.ref 3, .ref 4], .row (.arr 4 (.int .u64)), .mrow (.int .i64) .bool] E42)]) (D := 2) (all_cons (cL356_356_3 E42) all_nil) (by kernel_rfl) (by kernel_rfl) (by kernel_rfl) (by kernel_rfl) (hfr := all_nil) (hX := Special.procs (all_cons hE42 all_nil) (fun _ _ h => by cases h) (fun _ _ h => by obtain ⟨⟨_, h⟩, _⟩ := h; cases h)) fun x r h => by
    obtain ⟨⟨x0, x1, ⟨⟩⟩, y0, y1, y2, ⟨⟩⟩ := x
    refine Eq.trans ?_ h
    kernel_rfl

def Γ357 : TEnv := { Γ0 with procs := [((1011, 42), ([(0, 0), (1, 1), (2, 2)], [(0, 0), (1402, 3), (1403, 4)])), ((1017, 43), ([(0, 0), (1402, 1), (1403, 2)], [(0, 0), (1402, 1), (1403, 2)]))] }
theorem hΓ357 : Γ357.ok Try.prog = true := hΓ0

noncomputable def O357 (E42 : ((Unit × (Rx) × Unit) × ((Unit × Unit × Unit) × (List (List (Int))) × (List (List ((Int) × (Bool)))) × Unit)) → Option (((Bool) × ((List (Int)) × ((List (Int)) × (Unit)))) × ((Unit × Unit × Unit) × (List (List (Int))) × (List (List ((Int) × (Bool)))) × Unit))) : Orc := mkOrc [] [] [] [([57, 57], [.adoptCell 0 0 (.arr 4 (.int .u64)) 3, .adoptM 0 1 4])] [] [(42, procOf [.ptr 0 0, .kd .rx] [.box [.ref 1, .ref 2], .row (.arr 4 (.int .u64)), .mrow (.int .i64) .bool] (.one (.pair .bool (.pair (.slice (.int .i64)) (.pair (.slice (.int .i64)) .unit)))) [.box [.ref 3, .ref 4], .row (.arr 4 (.int .u64)), .mrow (.int .i64) .bool] E42), (43, procOf [.ptr 0 0, .kd (.slice (.int .i64)), .kd (.slice (.int .i64))] [.box [.ref 1, .ref 2], .row (.arr 4 (.int .u64)), .mrow (.int .i64) .bool] (.tup []) [.box [.ref 1, .ref 2], .row (.arr 4 (.int .u64)), .mrow (.int .i64) .bool] p343)]

/-- (*emendate/nfa.builder).star -/
noncomputable def p357 (E42 : ((Unit × (Rx) × Unit) × ((Unit × Unit × Unit) × (List (List (Int))) × (List (List ((Int) × (Bool)))) × Unit)) → Option (((Bool) × ((List (Int)) × ((List (Int)) × (Unit)))) × ((Unit × Unit × Unit) × (List (List (Int))) × (List (List ((Int) × (Bool)))) × Unit))) : ((Unit × (Rx) × Unit) × ((Unit × Unit × Unit) × (List (List (Int))) × (List (List ((Int) × (Bool)))) × Unit)) → Option (((Bool) × ((List (Int)) × ((List (Int)) × (Unit)))) × ((Unit × Unit × Unit) × (List (List (Int))) × (List (List ((Int) × (Bool)))) × Unit))
  | ((_, x1, ()), (_, y1, y2, ())) =>
    if decide (0 ≤ (0 : Int) ∧ (0 : Int) < (x1.kids.length : Int)) = true then
      (E42 (((), (Rx.mk (x1.kids.getD (0 : Int).toNat (Rx.mk 0 [0, 0, 0, 0] [])).kind [((x1.kids.getD (0 : Int).toNat (Rx.mk 0 [0, 0, 0, 0] [])).set.getD 0 0), ((x1.kids.getD (0 : Int).toNat (Rx.mk 0 [0, 0, 0, 0] [])).set.getD 1 0), ((x1.kids.getD (0 : Int).toNat (Rx.mk 0 [0, 0, 0, 0] [])).set.getD 2 0), ((x1.kids.getD (0 : Int).toNat (Rx.mk 0 [0, 0, 0, 0] [])).set.getD 3 0)] (x1.kids.getD (0 : Int).toNat (Rx.mk 0 [0, 0, 0, 0] [])).kids), ()), (((), (), ()), y1, y2, ()))).bind fun c1 =>
      (p343 (((), c1.1.2.2.1, c1.1.2.1, ()), (((), (), ()), c1.2.2.1, c1.2.2.2.1, ()))).bind fun c2 =>
      some ((true, (c1.1.2.1, (c1.1.2.2.1, ()))), (((), (), ()), c2.2.2.1, c2.2.2.2.1, ()))
    else
      none

theorem s357 (E42 : ((Unit × (Rx) × Unit) × ((Unit × Unit × Unit) × (List (List (Int))) × (List (List ((Int) × (Bool)))) × Unit)) → Option (((Bool) × ((List (Int)) × ((List (Int)) × (Unit)))) × ((Unit × Unit × Unit) × (List (List (Int))) × (List (List ((Int) × (Bool)))) × Unit))) (hE42 : SoundProc Try.prog 42 [0, 1, 2] [0, 3, 4] (procPv (procOf [.ptr 0 0, .kd .rx] [.box [.ref 1, .ref 2], .row (.arr 4 (.int .u64)), .mrow (.int .i64) .bool] (.one (.pair .bool (.pair (.slice (.int .i64)) (.pair (.slice (.int .i64)) .unit)))) [.box [.ref 3, .ref 4], .row (.arr 4 (.int .u64)), .mrow (.int .i64) .bool] E42))) : SoundProc Try.prog 57 [0, 1, 2] [0, 3, 4] (procPv (procOf [.ptr 0 0, .kd .rx] [.box [.ref 1, .ref 2], .row (.arr 4 (.int .u64)), .mrow (.int .i64) .bool] (.one (.pair .bool (.pair (.slice (.int .i64)) (.pair (.slice (.int .i64)) .unit)))) [.box [.ref 3, .ref 4], .row (.arr 4 (.int .u64)), .mrow (.int .i64) .bool] (p357 E42))) :=
  proc_pure hm0 hng0 hΓ357 (t := []) all_nil (ls := []) (cmds := []) (leaves := [([57, 57], [.adoptCell 0 0 (.arr 4 (.int .u64)) 3, .adoptM 0 1 4])]) (fr := []) (pt := [(42, procOf [.ptr 0 0, .kd .rx] [.box [.ref 1, .ref 2], .row (.arr 4 (.int .u64)), .mrow (.int .i64) .bool] (.one (.pair .bool (.pair (.slice (.int .i64)) (.pair (.slice (.int .i64)) .unit)))) [.box [.ref 3, .ref 4], .row (.arr 4 (.int .u64)), .mrow (.int .i64) .bool] E42), (43, procOf [.ptr 0 0, .kd (.slice (.int .i64)), .kd (.slice (.int .i64))] [.box [.ref 1, .ref 2], .row (.arr 4 (.int .u64)), .mrow (.int .i64) .bool] (.tup []) [.box [.ref 1, .ref 2], .row (.arr 4 (.int .u64)), .mrow (.int .i64) .bool] p343)]) (D := 2) all_nil (by kernel_rfl) (by kernel_rfl) (by kernel_rfl) (by kernel_rfl) (hfr := all_nil) (hX := Special.procs (all_cons hE42 (all_cons s343 all_nil)) (fun _ _ h => by cases h) (fun _ _ h => by obtain ⟨⟨_, h⟩, _⟩ := h; cases h)) fun x r h => by
    obtain ⟨⟨x0, x1, ⟨⟩⟩, y0, y1, y2, ⟨⟩⟩ := x
    refine Eq.trans ?_ h
    kernel_rfl

def Γ342 : TEnv := { Γ0 with procs := [((1014, 52), ([(0, 0), (1, 1), (2, 2)], [(0, 0), (3, 3), (4, 4)])), ((1014, 53), ([(0, 0), (1, 1), (2, 2)], [(0, 0), (3, 3), (4, 4)])), ((1014, 54), ([(0, 0), (1, 1), (2, 2)], [(0, 0), (3, 3), (4, 4)])), ((1014, 55), ([(0, 0), (1, 1), (2, 2)], [(0, 0), (3, 3), (4, 4)])), ((1014, 56), ([(0, 0), (1, 1), (2, 2)], [(0, 0), (3, 3), (4, 4)])), ((1014, 57), ([(0, 0), (1, 1), (2, 2)], [(0, 0), (3, 3), (4, 4)]))] }
theorem hΓ342 : Γ342.ok Try.prog = true := hΓ0

noncomputable def O342 (E42 : ((Unit × (Rx) × Unit) × ((Unit × Unit × Unit) × (List (List (Int))) × (List (List ((Int) × (Bool)))) × Unit)) → Option (((Bool) × ((List (Int)) × ((List (Int)) × (Unit)))) × ((Unit × Unit × Unit) × (List (List (Int))) × (List (List ((Int) × (Bool)))) × Unit))) : Orc := mkOrc [] [] [] [([42, 42], [])] [] [(52, procOf [.ptr 0 0, .kd .rx] [.box [.ref 1, .ref 2], .row (.arr 4 (.int .u64)), .mrow (.int .i64) .bool] (.one (.pair .bool (.pair (.slice (.int .i64)) (.pair (.slice (.int .i64)) .unit)))) [.box [.ref 3, .ref 4], .row (.arr 4 (.int .u64)), .mrow (.int .i64) .bool] p352), (53, procOf [.ptr 0 0, .kd .rx] [.box [.ref 1, .ref 2], .row (.arr 4 (.int .u64)), .mrow (.int .i64) .bool] (.one (.pair .bool (.pair (.slice (.int .i64)) (.pair (.slice (.int .i64)) .unit)))) [.box [.ref 3, .ref 4], .row (.arr 4 (.int .u64)), .mrow (.int .i64) .bool] p353), (54, procOf [.ptr 0 0, .kd .rx] [.box [.ref 1, .ref 2], .row (.arr 4 (.int .u64)), .mrow (.int .i64) .bool] (.one (.pair .bool (.pair (.slice (.int .i64)) (.pair (.slice (.int .i64)) .unit)))) [.box [.ref 3, .ref 4], .row (.arr 4 (.int .u64)), .mrow (.int .i64) .bool] p354), (55, procOf [.ptr 0 0, .kd .rx] [.box [.ref 1, .ref 2], .row (.arr 4 (.int .u64)), .mrow (.int .i64) .bool] (.one (.pair .bool (.pair (.slice (.int .i64)) (.pair (.slice (.int .i64)) .unit)))) [.box [.ref 3, .ref 4], .row (.arr 4 (.int .u64)), .mrow (.int .i64) .bool] (p355 E42)), (56, procOf [.ptr 0 0, .kd .rx] [.box [.ref 1, .ref 2], .row (.arr 4 (.int .u64)), .mrow (.int .i64) .bool] (.one (.pair .bool (.pair (.slice (.int .i64)) (.pair (.slice (.int .i64)) .unit)))) [.box [.ref 3, .ref 4], .row (.arr 4 (.int .u64)), .mrow (.int .i64) .bool] (p356 E42)), (57, procOf [.ptr 0 0, .kd .rx] [.box [.ref 1, .ref 2], .row (.arr 4 (.int .u64)), .mrow (.int .i64) .bool] (.one (.pair .bool (.pair (.slice (.int .i64)) (.pair (.slice (.int .i64)) .unit)))) [.box [.ref 3, .ref 4], .row (.arr 4 (.int .u64)), .mrow (.int .i64) .bool] (p357 E42))]

/-- (*emendate/nfa.builder).expr -/
noncomputable def p342b (E42 : ((Unit × (Rx) × Unit) × ((Unit × Unit × Unit) × (List (List (Int))) × (List (List ((Int) × (Bool)))) × Unit)) → Option (((Bool) × ((List (Int)) × ((List (Int)) × (Unit)))) × ((Unit × Unit × Unit) × (List (List (Int))) × (List (List ((Int) × (Bool)))) × Unit))) : ((Unit × (Rx) × Unit) × ((Unit × Unit × Unit) × (List (List (Int))) × (List (List ((Int) × (Bool)))) × Unit)) → Option (((Bool) × ((List (Int)) × ((List (Int)) × (Unit)))) × ((Unit × Unit × Unit) × (List (List (Int))) × (List (List ((Int) × (Bool)))) × Unit))
  | ((_, x1, ()), (_, y1, y2, ())) =>
    if (decide (x1.kind = (1 : Int))) = true then
      (p352 (((), (Rx.mk x1.kind [(x1.set.getD 0 0), (x1.set.getD 1 0), (x1.set.getD 2 0), (x1.set.getD 3 0)] x1.kids), ()), (((), (), ()), y1, y2, ()))).bind fun c1 =>
      some ((c1.1.1, (c1.1.2.1, (c1.1.2.2.1, ()))), (((), (), ()), c1.2.2.1, c1.2.2.2.1, ()))
    else
      if (decide (x1.kind = (2 : Int))) = true then
        (p353 (((), (Rx.mk x1.kind [(x1.set.getD 0 0), (x1.set.getD 1 0), (x1.set.getD 2 0), (x1.set.getD 3 0)] x1.kids), ()), (((), (), ()), y1, y2, ()))).bind fun c2 =>
        some ((c2.1.1, (c2.1.2.1, (c2.1.2.2.1, ()))), (((), (), ()), c2.2.2.1, c2.2.2.2.1, ()))
      else
        if (decide (x1.kind = (3 : Int))) = true then
          (p354 (((), (Rx.mk x1.kind [(x1.set.getD 0 0), (x1.set.getD 1 0), (x1.set.getD 2 0), (x1.set.getD 3 0)] x1.kids), ()), (((), (), ()), y1, y2, ()))).bind fun c3 =>
          some ((c3.1.1, (c3.1.2.1, (c3.1.2.2.1, ()))), (((), (), ()), c3.2.2.1, c3.2.2.2.1, ()))
        else
          if (decide (x1.kind = (4 : Int))) = true then
            ((p355 E42) (((), (Rx.mk x1.kind [(x1.set.getD 0 0), (x1.set.getD 1 0), (x1.set.getD 2 0), (x1.set.getD 3 0)] x1.kids), ()), (((), (), ()), y1, y2, ()))).bind fun c4 =>
            some ((c4.1.1, (c4.1.2.1, (c4.1.2.2.1, ()))), (((), (), ()), c4.2.2.1, c4.2.2.2.1, ()))
          else
            if (decide (x1.kind = (5 : Int))) = true then
              ((p356 E42) (((), (Rx.mk x1.kind [(x1.set.getD 0 0), (x1.set.getD 1 0), (x1.set.getD 2 0), (x1.set.getD 3 0)] x1.kids), ()), (((), (), ()), y1, y2, ()))).bind fun c5 =>
              some ((c5.1.1, (c5.1.2.1, (c5.1.2.2.1, ()))), (((), (), ()), c5.2.2.1, c5.2.2.2.1, ()))
            else
              if (decide (x1.kind = (6 : Int))) = true then
                ((p357 E42) (((), (Rx.mk x1.kind [(x1.set.getD 0 0), (x1.set.getD 1 0), (x1.set.getD 2 0), (x1.set.getD 3 0)] x1.kids), ()), (((), (), ()), y1, y2, ()))).bind fun c6 =>
                some ((c6.1.1, (c6.1.2.1, (c6.1.2.2.1, ()))), (((), (), ()), c6.2.2.1, c6.2.2.2.1, ()))
              else
                none

theorem s342b (E42 : ((Unit × (Rx) × Unit) × ((Unit × Unit × Unit) × (List (List (Int))) × (List (List ((Int) × (Bool)))) × Unit)) → Option (((Bool) × ((List (Int)) × ((List (Int)) × (Unit)))) × ((Unit × Unit × Unit) × (List (List (Int))) × (List (List ((Int) × (Bool)))) × Unit))) (hE42 : SoundProc Try.prog 42 [0, 1, 2] [0, 3, 4] (procPv (procOf [.ptr 0 0, .kd .rx] [.box [.ref 1, .ref 2], .row (.arr 4 (.int .u64)), .mrow (.int .i64) .bool] (.one (.pair .bool (.pair (.slice (.int .i64)) (.pair (.slice (.int .i64)) .unit)))) [.box [.ref 3, .ref 4], .row (.arr 4 (.int .u64)), .mrow (.int .i64) .bool] E42))) : SoundProc Try.prog 42 [0, 1, 2] [0, 3, 4] (procPv (procOf [.ptr 0 0, .kd .rx] [.box [.ref 1, .ref 2], .row (.arr 4 (.int .u64)), .mrow (.int .i64) .bool] (.one (.pair .bool (.pair (.slice (.int .i64)) (.pair (.slice (.int .i64)) .unit)))) [.box [.ref 3, .ref 4], .row (.arr 4 (.int .u64)), .mrow (.int .i64) .bool] (p342b E42))) :=
  proc_pure hm0 hng0 hΓ342 (t := []) all_nil (ls := []) (cmds := []) (leaves := [([42, 42], [])]) (fr := []) (pt := [(52, procOf [.ptr 0 0, .kd .rx] [.box [.ref 1, .ref 2], .row (.arr 4 (.int .u64)), .mrow (.int .i64) .bool] (.one (.pair .bool (.pair (.slice (.int .i64)) (.pair (.slice (.int .i64)) .unit)))) [.box [.ref 3, .ref 4], .row (.arr 4 (.int .u64)), .mrow (.int .i64) .bool] p352), (53, procOf [.ptr 0 0, .kd .rx] [.box [.ref 1, .ref 2], .row (.arr 4 (.int .u64)), .mrow (.int .i64) .bool] (.one (.pair .bool (.pair (.slice (.int .i64)) (.pair (.slice (.int .i64)) .unit)))) [.box [.ref 3, .ref 4], .row (.arr 4 (.int .u64)), .mrow (.int .i64) .bool] p353), (54, procOf [.ptr 0 0, .kd .rx] [.box [.ref 1, .ref 2], .row (.arr 4 (.int .u64)), .mrow (.int .i64) .bool] (.one (.pair .bool (.pair (.slice (.int .i64)) (.pair (.slice (.int .i64)) .unit)))) [.box [.ref 3, .ref 4], .row (.arr 4 (.int .u64)), .mrow (.int .i64) .bool] p354), (55, procOf [.ptr 0 0, .kd .rx] [.box [.ref 1, .ref 2], .row (.arr 4 (.int .u64)), .mrow (.int .i64) .bool] (.one (.pair .bool (.pair (.slice (.int .i64)) (.pair (.slice (.int .i64)) .unit)))) [.box [.ref 3, .ref 4], .row (.arr 4 (.int .u64)), .mrow (.int .i64) .bool] (p355 E42)), (56, procOf [.ptr 0 0, .kd .rx] [.box [.ref 1, .ref 2], .row (.arr 4 (.int .u64)), .mrow (.int .i64) .bool] (.one (.pair .bool (.pair (.slice (.int .i64)) (.pair (.slice (.int .i64)) .unit)))) [.box [.ref 3, .ref 4], .row (.arr 4 (.int .u64)), .mrow (.int .i64) .bool] (p356 E42)), (57, procOf [.ptr 0 0, .kd .rx] [.box [.ref 1, .ref 2], .row (.arr 4 (.int .u64)), .mrow (.int .i64) .bool] (.one (.pair .bool (.pair (.slice (.int .i64)) (.pair (.slice (.int .i64)) .unit)))) [.box [.ref 3, .ref 4], .row (.arr 4 (.int .u64)), .mrow (.int .i64) .bool] (p357 E42))]) (D := 2) all_nil (by kernel_rfl) (by kernel_rfl) (by kernel_rfl) (by kernel_rfl) (hfr := all_nil) (hX := Special.procs (all_cons s352 (all_cons s353 (all_cons s354 (all_cons (s355 E42 hE42) (all_cons (s356 E42 hE42) (all_cons (s357 E42 hE42) all_nil)))))) (fun _ _ h => by cases h) (fun _ _ h => by obtain ⟨⟨_, h⟩, _⟩ := h; cases h)) fun x r h => by
    obtain ⟨⟨x0, x1, ⟨⟩⟩, y0, y1, y2, ⟨⟩⟩ := x
    refine Eq.trans ?_ h
    kernel_rfl

noncomputable def p342n : Nat → ((Unit × (Rx) × Unit) × ((Unit × Unit × Unit) × (List (List (Int))) × (List (List ((Int) × (Bool)))) × Unit)) → Option (((Bool) × ((List (Int)) × ((List (Int)) × (Unit)))) × ((Unit × Unit × Unit) × (List (List (Int))) × (List (List ((Int) × (Bool)))) × Unit))
  | 0, _ => none
  | n + 1, x => p342b (p342n n) x

theorem s342n : ∀ n, SoundProc Try.prog 42 [0, 1, 2] [0, 3, 4] (procPv (procOf [.ptr 0 0, .kd .rx] [.box [.ref 1, .ref 2], .row (.arr 4 (.int .u64)), .mrow (.int .i64) .bool] (.one (.pair .bool (.pair (.slice (.int .i64)) (.pair (.slice (.int .i64)) .unit)))) [.box [.ref 3, .ref 4], .row (.arr 4 (.int .u64)), .mrow (.int .i64) .bool] (p342n n))) :=
  proc_rec hng0 (by kernel_rfl) (fun _ => rfl) fun n h => s342b (p342n n) h

noncomputable def p342 : ((Unit × (Rx) × Unit) × ((Unit × Unit × Unit) × (List (List (Int))) × (List (List ((Int) × (Bool)))) × Unit)) → Option (((Bool) × ((List (Int)) × ((List (Int)) × (Unit)))) × ((Unit × Unit × Unit) × (List (List (Int))) × (List (List ((Int) × (Bool)))) × Unit)) := limit p342n

theorem s342 : SoundProc Try.prog 42 [0, 1, 2] [0, 3, 4] (procPv (procOf [.ptr 0 0, .kd .rx] [.box [.ref 1, .ref 2], .row (.arr 4 (.int .u64)), .mrow (.int .i64) .bool] (.one (.pair .bool (.pair (.slice (.int .i64)) (.pair (.slice (.int .i64)) .unit)))) [.box [.ref 3, .ref 4], .row (.arr 4 (.int .u64)), .mrow (.int .i64) .bool] p342)) := s342n fuel

def Γ324 : TEnv := { Γ0 with imm := [53, 66, 127], procs := [((51, 42), ([(40, 0), (440, 1), (441, 2)], [(40, 0), (442, 3), (443, 4)])), ((56, 43), ([(40, 0), (442, 1), (443, 2)], [(40, 0), (442, 1), (443, 2)]))], keysOf := some (45, 60), sorted := some 44 }
theorem hΓ324 : Γ324.ok Try.prog = true := hΓ0

noncomputable def L324_3 : Nat → (((List (Rx)) × Unit × (Int) × (List (Rx)) × (Int) × (Int) × Unit) × (((Int) × (Int) × (List ((Int) × ((Int) × ((Bool) × ((List (Int)) × (Unit)))))) × (List (Int)) × Unit) × Unit)) → Option (((Unit × (Int) × Unit) × (((Int) × (Int) × (List ((Int) × ((Int) × ((Bool) × ((List (Int)) × (Unit)))))) × (List (Int)) × Unit) × Unit)) ⊕ (((List (Rx)) × Unit × (Int) × Unit) × (((Int) × (Int) × (List ((Int) × ((Int) × ((Bool) × ((List (Int)) × (Unit)))))) × (List (Int)) × Unit) × Unit)))
  | 0, _ => none
  | n + 1, ((x0, _, x4, x19, x20, x21, ()), (y2, ())) =>
    if (decide (x21 < x20)) = true then
      if decide (0 ≤ x21 ∧ x21 < (x19.length : Int)) = true then
        (p340 ((Rx.mk (x19.getD x21.toNat (Rx.mk 0 [0, 0, 0, 0] [])).kind [((x19.getD x21.toNat (Rx.mk 0 [0, 0, 0, 0] [])).set.getD 0 0), ((x19.getD x21.toNat (Rx.mk 0 [0, 0, 0, 0] [])).set.getD 1 0), ((x19.getD x21.toNat (Rx.mk 0 [0, 0, 0, 0] [])).set.getD 2 0), ((x19.getD x21.toNat (Rx.mk 0 [0, 0, 0, 0] [])).set.getD 3 0)] (x19.getD x21.toNat (Rx.mk 0 [0, 0, 0, 0] [])).kids), ())).bind fun c1 =>
        if (!c1) = true then
          some (.inl (((), (1 : Int), ()), (((0 : Int), (0 : Int), ([] : List ((Int) × ((Int) × ((Bool) × ((List (Int)) × (Unit)))))), ([] : List (Int)), ()), ())))
        else
          (p341 ((Rx.mk (x19.getD x21.toNat (Rx.mk 0 [0, 0, 0, 0] [])).kind [((x19.getD x21.toNat (Rx.mk 0 [0, 0, 0, 0] [])).set.getD 0 0), ((x19.getD x21.toNat (Rx.mk 0 [0, 0, 0, 0] [])).set.getD 1 0), ((x19.getD x21.toNat (Rx.mk 0 [0, 0, 0, 0] [])).set.getD 2 0), ((x19.getD x21.toNat (Rx.mk 0 [0, 0, 0, 0] [])).set.getD 3 0)] (x19.getD x21.toNat (Rx.mk 0 [0, 0, 0, 0] [])).kids), ())).bind fun c2 =>
          L324_3 n ((x0, (), (IntKind.i64.wrap (x4 + c2)), x19, x20, (IntKind.i64.wrap (x21 + (1 : Int))), ()), ((y2.1, y2.2.1, y2.2.2.1, y2.2.2.2.1, ()), ()))
      else
        none
    else
      some (.inr ((x0, (), x4, ()), ((y2.1, y2.2.1, y2.2.2.1, y2.2.2.2.1, ()), ())))

noncomputable def EL324_3 : LoopEnt := ⟨[24], 3, ⟨[], [0, 2, 4, 19, 20, 21], [2]⟩, [.kd (.slice .rx), .ptr 2 0, .kd (.int .i64), .kd (.slice .rx), .kd (.int .i64), .kd (.int .i64)], [.box [.kd (.int .i64), .kd (.int .i64), .kd (.slice (.pair (.int .i64) (.pair (.int .i64) (.pair .bool (.pair (.arr 4 (.int .u64)) .unit))))), .kd (.slice (.int .i64))]], [⟨.ret, [2, 3], [.ptr 2 0, .kd (.int .i64)], [2], [.box [.kd (.int .i64), .kd (.int .i64), .kd (.slice (.pair (.int .i64) (.pair (.int .i64) (.pair .bool (.pair (.arr 4 (.int .u64)) .unit))))), .kd (.slice (.int .i64))]]⟩, ⟨(.exit 0), [0, 2, 4], [.kd (.slice .rx), .ptr 2 0, .kd (.int .i64)], [2], [.box [.kd (.int .i64), .kd (.int .i64), .kd (.slice (.pair (.int .i64) (.pair (.int .i64) (.pair .bool (.pair (.arr 4 (.int .u64)) .unit))))), .kd (.slice (.int .i64))]]⟩], limit L324_3⟩

noncomputable def L324_18 : Nat → ((Unit × Unit × Unit × (Int) × Unit × (List (Rx)) × (Int) × (Int) × Unit) × (((Int) × (Int) × (List ((Int) × ((Int) × ((Bool) × ((List (Int)) × (Unit)))))) × (List (Int)) × Unit) × (List (Int)) × ((Bool) × (List (Int)) × (List (Int)) × Unit) × (Unit × Unit × Unit) × (List (List (Int))) × (List (List ((Int) × (Bool)))) × Unit)) → Option ((Unit × Unit × Unit × (Int) × Unit × (List (Rx)) × (Int) × (Int) × Unit) × (((Int) × (Int) × (List ((Int) × ((Int) × ((Bool) × ((List (Int)) × (Unit)))))) × (List (Int)) × Unit) × (List (Int)) × ((Bool) × (List (Int)) × (List (Int)) × Unit) × (Unit × Unit × Unit) × (List (List (Int))) × (List (List ((Int) × (Bool)))) × Unit))
  | 0, _ => none
  | n + 1, ((_, _, _, x9, _, x42, x43, x44, ()), (y2, y8, y11, _, y442, y443, ())) =>
    if (decide ((y8.length : Int) ≤ (y442.length : Int))) = true then
      if decide (y8.length + ([(-1 : Int)] : List (Int)).length ≤ lim) = true then
        L324_18 n (((), (), (), x9, (), x42, x43, x44, ()), ((y2.1, y2.2.1, y2.2.2.1, y2.2.2.2.1, ()), (y8 ++ ([(-1 : Int)] : List (Int))), (y11.1, y11.2.1, y11.2.2.1, ()), ((), (), ()), y442, y443, ()))
      else
        none
    else
      some (((), (), (), x9, (), x42, x43, x44, ()), ((y2.1, y2.2.1, y2.2.2.1, y2.2.2.2.1, ()), y8, (y11.1, y11.2.1, y11.2.2.1, ()), ((), (), ()), y442, y443, ()))

noncomputable def EL324_18 : LoopEnt := ⟨[24], 18, ⟨[.keep [2, 7, 8, 9, 11, 42, 43, 44] [2, 8, 11, 40, 67, 442, 443], .adopt 8 (.int .i64) 8], [2, 7, 8, 9, 11, 42, 43, 44], [2, 8, 11, 40, 442, 443]⟩, [.ptr 2 0, .ptr 40 0, .ref 8, .kd (.int .i64), .ptr 11 0, .kd (.slice .rx), .kd (.int .i64), .kd (.int .i64)], [.box [.kd (.int .i64), .kd (.int .i64), .kd (.slice (.pair (.int .i64) (.pair (.int .i64) (.pair .bool (.pair (.arr 4 (.int .u64)) .unit))))), .kd (.slice (.int .i64))], .row (.int .i64), .box [.kd .bool, .kd (.slice (.int .i64)), .kd (.slice (.int .i64))], .box [.ref 442, .ref 443], .row (.arr 4 (.int .u64)), .mrow (.int .i64) .bool], [⟨(.exit 4), [2, 7, 8, 9, 11, 42, 43, 44], [.ptr 2 0, .ptr 40 0, .ref 8, .kd (.int .i64), .ptr 11 0, .kd (.slice .rx), .kd (.int .i64), .kd (.int .i64)], [2, 8, 11, 40, 442, 443], [.box [.kd (.int .i64), .kd (.int .i64), .kd (.slice (.pair (.int .i64) (.pair (.int .i64) (.pair .bool (.pair (.arr 4 (.int .u64)) .unit))))), .kd (.slice (.int .i64))], .row (.int .i64), .box [.kd .bool, .kd (.slice (.int .i64)), .kd (.slice (.int .i64))], .box [.ref 442, .ref 443], .row (.arr 4 (.int .u64)), .mrow (.int .i64) .bool]⟩], limit L324_18⟩

noncomputable def L324_21 : Nat → ((Unit × Unit × Unit × (Int) × Unit × (List (Rx)) × (Int) × (Int) × (List (Int)) × (Int) × (Int) × Unit) × (((Int) × (Int) × (List ((Int) × ((Int) × ((Bool) × ((List (Int)) × (Unit)))))) × (List (Int)) × Unit) × (List (Int)) × ((Bool) × (List (Int)) × (List (Int)) × Unit) × (Unit × Unit × Unit) × (List (List (Int))) × (List (List ((Int) × (Bool)))) × Unit)) → Option ((Unit × Unit × Unit × (Int) × Unit × (List (Rx)) × (Int) × (Int) × Unit) × (((Int) × (Int) × (List ((Int) × ((Int) × ((Bool) × ((List (Int)) × (Unit)))))) × (List (Int)) × Unit) × (List (Int)) × ((Bool) × (List (Int)) × (List (Int)) × Unit) × (Unit × Unit × Unit) × (List (List (Int))) × (List (List ((Int) × (Bool)))) × Unit))
  | 0, _ => none
  | n + 1, ((_, _, _, x9, _, x42, x43, x44, x69, x70, x71, ()), (y2, y8, y11, _, y442, y443, ())) =>
    if (decide (x71 < x70)) = true then
      if decide (0 ≤ x71 ∧ x71 < (x69.length : Int)) = true then
        if decide (0 ≤ (x69.getD x71.toNat 0) ∧ (x69.getD x71.toNat 0) < (y8.length : Int)) = true then
          L324_21 n (((), (), (), x9, (), x42, x43, x44, x69, x70, (IntKind.i64.wrap (x71 + (1 : Int))), ()), ((y2.1, y2.2.1, y2.2.2.1, y2.2.2.2.1, ()), (y8.set (x69.getD x71.toNat 0).toNat x9), (y11.1, y11.2.1, y11.2.2.1, ()), ((), (), ()), y442, y443, ()))
        else
          none
      else
        none
    else
      some (((), (), (), x9, (), x42, x43, x44, ()), ((y2.1, y2.2.1, y2.2.2.1, y2.2.2.2.1, ()), y8, (y11.1, y11.2.1, y11.2.2.1, ()), ((), (), ()), y442, y443, ()))

noncomputable def EL324_21 : LoopEnt := ⟨[24], 21, ⟨[], [2, 7, 8, 9, 11, 42, 43, 44, 69, 70, 71], [2, 8, 11, 40, 442, 443]⟩, [.ptr 2 0, .ptr 40 0, .ref 8, .kd (.int .i64), .ptr 11 0, .kd (.slice .rx), .kd (.int .i64), .kd (.int .i64), .kd (.slice (.int .i64)), .kd (.int .i64), .kd (.int .i64)], [.box [.kd (.int .i64), .kd (.int .i64), .kd (.slice (.pair (.int .i64) (.pair (.int .i64) (.pair .bool (.pair (.arr 4 (.int .u64)) .unit))))), .kd (.slice (.int .i64))], .row (.int .i64), .box [.kd .bool, .kd (.slice (.int .i64)), .kd (.slice (.int .i64))], .box [.ref 442, .ref 443], .row (.arr 4 (.int .u64)), .mrow (.int .i64) .bool], [⟨(.exit 6), [2, 7, 8, 9, 11, 42, 43, 44], [.ptr 2 0, .ptr 40 0, .ref 8, .kd (.int .i64), .ptr 11 0, .kd (.slice .rx), .kd (.int .i64), .kd (.int .i64)], [2, 8, 11, 40, 442, 443], [.box [.kd (.int .i64), .kd (.int .i64), .kd (.slice (.pair (.int .i64) (.pair (.int .i64) (.pair .bool (.pair (.arr 4 (.int .u64)) .unit))))), .kd (.slice (.int .i64))], .row (.int .i64), .box [.kd .bool, .kd (.slice (.int .i64)), .kd (.slice (.int .i64))], .box [.ref 442, .ref 443], .row (.arr 4 (.int .u64)), .mrow (.int .i64) .bool]⟩], limit L324_21⟩

noncomputable def L324_14 : Nat → ((Unit × Unit × Unit × (List (Rx)) × (Int) × (Int) × Unit) × (((Int) × (Int) × (List ((Int) × ((Int) × ((Bool) × ((List (Int)) × (Unit)))))) × (List (Int)) × Unit) × (List (Int)) × (Unit × Unit × Unit) × (List (List (Int))) × (List (List ((Int) × (Bool)))) × Unit)) → Option ((Unit × Unit × Unit × Unit) × (((Int) × (Int) × (List ((Int) × ((Int) × ((Bool) × ((List (Int)) × (Unit)))))) × (List (Int)) × Unit) × (List (Int)) × (Unit × Unit × Unit) × (List (List (Int))) × (List (List ((Int) × (Bool)))) × Unit))
  | 0, _ => none
  | n + 1, ((_, _, _, x42, x43, x44, ()), (y2, y8, _, y440, y441, ())) =>
    if (decide (x44 < x43)) = true then
      if decide (0 ≤ x44 ∧ x44 < (x42.length : Int)) = true then
        (p342 (((), (Rx.mk (x42.getD x44.toNat (Rx.mk 0 [0, 0, 0, 0] [])).kind [((x42.getD x44.toNat (Rx.mk 0 [0, 0, 0, 0] [])).set.getD 0 0), ((x42.getD x44.toNat (Rx.mk 0 [0, 0, 0, 0] [])).set.getD 1 0), ((x42.getD x44.toNat (Rx.mk 0 [0, 0, 0, 0] [])).set.getD 2 0), ((x42.getD x44.toNat (Rx.mk 0 [0, 0, 0, 0] [])).set.getD 3 0)] (x42.getD x44.toNat (Rx.mk 0 [0, 0, 0, 0] [])).kids), ()), (((), (), ()), y440, y441, ()))).bind fun c1 =>
        (p343 (((), ([(0 : Int)] : List (Int)), c1.1.2.1, ()), (((), (), ()), c1.2.2.1, c1.2.2.2.1, ()))).bind fun c2 =>
        (limit L324_18 (((), (), (), x44, (), x42, x43, x44, ()), ((y2.1, y2.2.1, y2.2.2.1, y2.2.2.2.1, ()), y8, (c1.1.1, c1.1.2.1, c1.1.2.2.1, ()), ((), (), ()), c2.2.2.1, c2.2.2.2.1, ()))).bind fun r3 =>
        (limit L324_21 (((), (), (), r3.1.2.2.2.1, (), r3.1.2.2.2.2.2.1, r3.1.2.2.2.2.2.2.1, r3.1.2.2.2.2.2.2.2.1, r3.2.2.2.1.2.2.1, (r3.2.2.2.1.2.2.1.length : Int), (0 : Int), ()), ((r3.2.1.1, r3.2.1.2.1, r3.2.1.2.2.1, r3.2.1.2.2.2.1, ()), r3.2.2.1, (r3.2.2.2.1.1, r3.2.2.2.1.2.1, r3.2.2.2.1.2.2.1, ()), ((), (), ()), r3.2.2.2.2.2.1, r3.2.2.2.2.2.2.1, ()))).bind fun r4 =>
        if r4.2.2.2.1.1 = true then
          if decide (0 ≤ (0 : Int) ∧ (0 : Int) < (r4.2.2.1.length : Int)) = true then
            if (decide ((r4.2.2.1.getD (0 : Int).toNat 0) < (0 : Int))) = true then
              if decide (0 ≤ (0 : Int) ∧ (0 : Int) < (r4.2.2.1.length : Int)) = true then
                L324_14 n (((), (), (), r4.1.2.2.2.2.2.1, r4.1.2.2.2.2.2.2.1, (IntKind.i64.wrap (r4.1.2.2.2.2.2.2.2.1 + (1 : Int))), ()), ((r4.2.1.1, r4.2.1.2.1, r4.2.1.2.2.1, r4.2.1.2.2.2.1, ()), (r4.2.2.1.set (0 : Int).toNat r4.1.2.2.2.1), ((), (), ()), r4.2.2.2.2.2.1, r4.2.2.2.2.2.2.1, ()))
              else
                none
            else
              L324_14 n (((), (), (), r4.1.2.2.2.2.2.1, r4.1.2.2.2.2.2.2.1, (IntKind.i64.wrap (r4.1.2.2.2.2.2.2.2.1 + (1 : Int))), ()), ((r4.2.1.1, r4.2.1.2.1, r4.2.1.2.2.1, r4.2.1.2.2.2.1, ()), r4.2.2.1, ((), (), ()), r4.2.2.2.2.2.1, r4.2.2.2.2.2.2.1, ()))
          else
            none
        else
          L324_14 n (((), (), (), r4.1.2.2.2.2.2.1, r4.1.2.2.2.2.2.2.1, (IntKind.i64.wrap (r4.1.2.2.2.2.2.2.2.1 + (1 : Int))), ()), ((r4.2.1.1, r4.2.1.2.1, r4.2.1.2.2.1, r4.2.1.2.2.2.1, ()), r4.2.2.1, ((), (), ()), r4.2.2.2.2.2.1, r4.2.2.2.2.2.2.1, ()))
      else
        none
    else
      some (((), (), (), ()), ((y2.1, y2.2.1, y2.2.2.1, y2.2.2.2.1, ()), y8, ((), (), ()), y440, y441, ()))

noncomputable def EL324_14 : LoopEnt := ⟨[24], 14, ⟨[.keep [2, 7, 8, 42, 43, 44] [2, 8, 38, 40, 41, 442, 443], .adoptCell 40 0 (.arr 4 (.int .u64)) 440, .adoptM 40 1 441, .adopt 8 (.int .i64) 8], [2, 7, 8, 42, 43, 44], [2, 8, 40, 440, 441]⟩, [.ptr 2 0, .ptr 40 0, .ref 8, .kd (.slice .rx), .kd (.int .i64), .kd (.int .i64)], [.box [.kd (.int .i64), .kd (.int .i64), .kd (.slice (.pair (.int .i64) (.pair (.int .i64) (.pair .bool (.pair (.arr 4 (.int .u64)) .unit))))), .kd (.slice (.int .i64))], .row (.int .i64), .box [.ref 440, .ref 441], .row (.arr 4 (.int .u64)), .mrow (.int .i64) .bool], [⟨(.exit 2), [2, 7, 8], [.ptr 2 0, .ptr 40 0, .ref 8], [2, 8, 40, 440, 441], [.box [.kd (.int .i64), .kd (.int .i64), .kd (.slice (.pair (.int .i64) (.pair (.int .i64) (.pair .bool (.pair (.arr 4 (.int .u64)) .unit))))), .kd (.slice (.int .i64))], .row (.int .i64), .box [.ref 440, .ref 441], .row (.arr 4 (.int .u64)), .mrow (.int .i64) .bool]⟩], limit L324_14⟩

noncomputable def L324_33 : Nat → ((Unit × Unit × Unit × (Int) × Unit × (Int) × (Int) × Unit × (Int) × (Int) × Unit) × (((Int) × (Int) × (List ((Int) × ((Int) × ((Bool) × ((List (Int)) × (Unit)))))) × (List (Int)) × Unit) × (List (Int)) × ((Int) × (Int) × Unit × Unit × Unit) × (Unit × Unit × Unit) × (List (Int)) × (List ((Int) × ((Int) × ((Bool) × ((List (Int)) × (Unit)))))) × (List (List (Int))) × (List (List ((Int) × (Bool)))) × Unit)) → Option ((Unit × Unit × Unit × Unit × (Int) × (Int) × Unit) × (((Int) × (Int) × (List ((Int) × ((Int) × ((Bool) × ((List (Int)) × (Unit)))))) × (List (Int)) × Unit) × (List (Int)) × ((Int) × (Int) × Unit × Unit × Unit) × (Unit × Unit × Unit) × (List ((Int) × ((Int) × ((Bool) × ((List (Int)) × (Unit)))))) × (List (List (Int))) × (List (List ((Int) × (Bool)))) × Unit))
  | 0, _ => none
  | n + 1, ((_, _, _, x15, _, x100, x101, _, x109, x110, ()), (y2, y8, y14, _, y108, y314, y440, y441, ())) =>
    if (decide (x110 < x109)) = true then
      if decide (0 ≤ x110 ∧ x110 < (y108.length : Int)) = true then
        if decide (0 ≤ (IntKind.i64.wrap ((y108.getD x110.toNat 0) - (1 : Int))) ∧ (IntKind.i64.wrap ((y108.getD x110.toNat 0) - (1 : Int))) < (y440.length : Int)) = true then
          if decide (y314.length + ([(x15, ((y108.getD x110.toNat 0), (false, ([((y440.getD (IntKind.i64.wrap ((y108.getD x110.toNat 0) - (1 : Int))).toNat (List.replicate 4 0)).getD 0 0), ((y440.getD (IntKind.i64.wrap ((y108.getD x110.toNat 0) - (1 : Int))).toNat (List.replicate 4 0)).getD 1 0), ((y440.getD (IntKind.i64.wrap ((y108.getD x110.toNat 0) - (1 : Int))).toNat (List.replicate 4 0)).getD 2 0), ((y440.getD (IntKind.i64.wrap ((y108.getD x110.toNat 0) - (1 : Int))).toNat (List.replicate 4 0)).getD 3 0)], ()))))] : List ((Int) × ((Int) × ((Bool) × ((List (Int)) × (Unit)))))).length ≤ lim) = true then
            L324_33 n (((), (), (), x15, (), x100, x101, (), x109, (IntKind.i64.wrap (x110 + (1 : Int))), ()), ((y2.1, y2.2.1, y2.2.2.1, y2.2.2.2.1, ()), y8, (y14.1, y14.2.1, (), (), ()), ((), (), ()), y108, (y314 ++ ([(x15, ((y108.getD x110.toNat 0), (false, ([((y440.getD (IntKind.i64.wrap ((y108.getD x110.toNat 0) - (1 : Int))).toNat (List.replicate 4 0)).getD 0 0), ((y440.getD (IntKind.i64.wrap ((y108.getD x110.toNat 0) - (1 : Int))).toNat (List.replicate 4 0)).getD 1 0), ((y440.getD (IntKind.i64.wrap ((y108.getD x110.toNat 0) - (1 : Int))).toNat (List.replicate 4 0)).getD 2 0), ((y440.getD (IntKind.i64.wrap ((y108.getD x110.toNat 0) - (1 : Int))).toNat (List.replicate 4 0)).getD 3 0)], ()))))] : List ((Int) × ((Int) × ((Bool) × ((List (Int)) × (Unit))))))), y440, y441, ()))
          else
            none
        else
          none
      else
        none
    else
      some (((), (), (), (), x100, x101, ()), ((y2.1, y2.2.1, y2.2.2.1, y2.2.2.2.1, ()), y8, (y14.1, y14.2.1, (), (), ()), ((), (), ()), y314, y440, y441, ()))

noncomputable def EL324_33 : LoopEnt := ⟨[24], 33, ⟨[.keep [2, 7, 14, 15, 99, 100, 101, 108, 109, 110] [2, 8, 14, 40, 108, 128, 314, 440, 441], .adoptCell 14 2 (.pair (.int .i64) (.pair (.int .i64) (.pair .bool (.pair (.arr 4 (.int .u64)) .unit)))) 314], [2, 7, 14, 15, 99, 100, 101, 108, 109, 110], [2, 8, 14, 40, 108, 314, 440, 441]⟩, [.ptr 2 0, .ptr 40 0, .ptr 14 0, .kd (.int .i64), .ref 441, .kd (.int .i64), .kd (.int .i64), .ref 108, .kd (.int .i64), .kd (.int .i64)], [.box [.kd (.int .i64), .kd (.int .i64), .kd (.slice (.pair (.int .i64) (.pair (.int .i64) (.pair .bool (.pair (.arr 4 (.int .u64)) .unit))))), .kd (.slice (.int .i64))], .row (.int .i64), .box [.kd (.int .i64), .kd (.int .i64), .ref 314, .ref 8], .box [.ref 440, .ref 441], .row (.int .i64), .row (.pair (.int .i64) (.pair (.int .i64) (.pair .bool (.pair (.arr 4 (.int .u64)) .unit)))), .row (.arr 4 (.int .u64)), .mrow (.int .i64) .bool], [⟨(.exit 10), [2, 7, 14, 99, 100, 101], [.ptr 2 0, .ptr 40 0, .ptr 14 0, .ref 441, .kd (.int .i64), .kd (.int .i64)], [2, 8, 14, 40, 314, 440, 441], [.box [.kd (.int .i64), .kd (.int .i64), .kd (.slice (.pair (.int .i64) (.pair (.int .i64) (.pair .bool (.pair (.arr 4 (.int .u64)) .unit))))), .kd (.slice (.int .i64))], .row (.int .i64), .box [.kd (.int .i64), .kd (.int .i64), .ref 314, .ref 8], .box [.ref 440, .ref 441], .row (.pair (.int .i64) (.pair (.int .i64) (.pair .bool (.pair (.arr 4 (.int .u64)) .unit)))), .row (.arr 4 (.int .u64)), .mrow (.int .i64) .bool]⟩], limit L324_33⟩

noncomputable def L324_30 : Nat → ((Unit × Unit × Unit × Unit × (Int) × (Int) × Unit) × (((Int) × (Int) × (List ((Int) × ((Int) × ((Bool) × ((List (Int)) × (Unit)))))) × (List (Int)) × Unit) × (List (Int)) × ((Int) × (Int) × Unit × Unit × Unit) × (Unit × Unit × Unit) × (List ((Int) × ((Int) × ((Bool) × ((List (Int)) × (Unit)))))) × (List (List (Int))) × (List (List ((Int) × (Bool)))) × Unit)) → Option ((Unit × Unit × Unit) × (((Int) × (Int) × (List ((Int) × ((Int) × ((Bool) × ((List (Int)) × (Unit)))))) × (List (Int)) × Unit) × (List (Int)) × ((Int) × (Int) × Unit × Unit × Unit) × (List ((Int) × ((Int) × ((Bool) × ((List (Int)) × (Unit)))))) × Unit))
  | 0, _ => none
  | n + 1, ((_, _, _, _, x100, x101, ()), (y2, y8, y14, _, y314, y440, y441, ())) =>
    if (decide (x101 < x100)) = true then
      if decide (0 ≤ x101 ∧ x101 < (y441.length : Int)) = true then
        if (decide ((y441.getD x101.toNat []).length ≤ lim) && i64ok ((y441.getD x101.toNat []).map (·.1))) = true then
          (limit L324_33 (((), (), (), x101, (), x100, x101, (), ((sortedInts ((y441.getD x101.toNat []).map (·.1))).length : Int), (0 : Int), ()), ((y2.1, y2.2.1, y2.2.2.1, y2.2.2.2.1, ()), y8, (y14.1, y14.2.1, (), (), ()), ((), (), ()), (sortedInts ((y441.getD x101.toNat []).map (·.1))), y314, y440, y441, ()))).bind fun r1 =>
          L324_30 n (((), (), (), (), r1.1.2.2.2.2.1, (IntKind.i64.wrap (r1.1.2.2.2.2.2.1 + (1 : Int))), ()), ((r1.2.1.1, r1.2.1.2.1, r1.2.1.2.2.1, r1.2.1.2.2.2.1, ()), r1.2.2.1, (r1.2.2.2.1.1, r1.2.2.2.1.2.1, (), (), ()), ((), (), ()), r1.2.2.2.2.2.1, r1.2.2.2.2.2.2.1, r1.2.2.2.2.2.2.2.1, ()))
        else
          none
      else
        none
    else
      some (((), (), ()), ((y2.1, y2.2.1, y2.2.2.1, y2.2.2.2.1, ()), y8, (y14.1, y14.2.1, (), (), ()), y314, ()))

noncomputable def EL324_30 : LoopEnt := ⟨[24], 30, ⟨[.keep [2, 7, 14, 99, 100, 101] [2, 8, 14, 40, 314, 440, 441], .adoptCell 14 2 (.pair (.int .i64) (.pair (.int .i64) (.pair .bool (.pair (.arr 4 (.int .u64)) .unit)))) 314], [2, 7, 14, 99, 100, 101], [2, 8, 14, 40, 314, 440, 441]⟩, [.ptr 2 0, .ptr 40 0, .ptr 14 0, .ref 441, .kd (.int .i64), .kd (.int .i64)], [.box [.kd (.int .i64), .kd (.int .i64), .kd (.slice (.pair (.int .i64) (.pair (.int .i64) (.pair .bool (.pair (.arr 4 (.int .u64)) .unit))))), .kd (.slice (.int .i64))], .row (.int .i64), .box [.kd (.int .i64), .kd (.int .i64), .ref 314, .ref 8], .box [.ref 440, .ref 441], .row (.pair (.int .i64) (.pair (.int .i64) (.pair .bool (.pair (.arr 4 (.int .u64)) .unit)))), .row (.arr 4 (.int .u64)), .mrow (.int .i64) .bool], [⟨(.exit 8), [2, 14], [.ptr 2 0, .ptr 14 0], [2, 8, 14, 314], [.box [.kd (.int .i64), .kd (.int .i64), .kd (.slice (.pair (.int .i64) (.pair (.int .i64) (.pair .bool (.pair (.arr 4 (.int .u64)) .unit))))), .kd (.slice (.int .i64))], .row (.int .i64), .box [.kd (.int .i64), .kd (.int .i64), .ref 314, .ref 8], .row (.pair (.int .i64) (.pair (.int .i64) (.pair .bool (.pair (.arr 4 (.int .u64)) .unit))))]⟩], limit L324_30⟩

noncomputable def O324 : Orc := mkOrc [(40, fnOf [.rx] (.one .bool) p340), (41, fnOf [.rx] (.one (.int .i64)) p341)] [EL324_3, EL324_18, EL324_21, EL324_14, EL324_33, EL324_30] [] [] [] [(42, procOf [.ptr 0 0, .kd .rx] [.box [.ref 1, .ref 2], .row (.arr 4 (.int .u64)), .mrow (.int .i64) .bool] (.one (.pair .bool (.pair (.slice (.int .i64)) (.pair (.slice (.int .i64)) .unit)))) [.box [.ref 3, .ref 4], .row (.arr 4 (.int .u64)), .mrow (.int .i64) .bool] p342), (43, procOf [.ptr 0 0, .kd (.slice (.int .i64)), .kd (.slice (.int .i64))] [.box [.ref 1, .ref 2], .row (.arr 4 (.int .u64)), .mrow (.int .i64) .bool] (.tup []) [.box [.ref 1, .ref 2], .row (.arr 4 (.int .u64)), .mrow (.int .i64) .bool] p343)]

theorem cL324_3 : LoopCert Try.prog O324 Γ324 1 EL324_3 :=
  ⟨⟨24, 0, L324_3, rfl, by kernel_rfl, by decide, limit_fn, fun _ => rfl, fun m old x r h => by
    obtain ⟨⟨x0, x2, x4, x19, x20, x21, ⟨⟩⟩, y2, ⟨⟩⟩ := x
    refine Eq.trans ?_ h
    kernel_rfl⟩⟩

theorem cL324_18 : LoopCert Try.prog O324 Γ324 1 EL324_18 :=
  ⟨⟨24, 2, L324_18, rfl, by kernel_rfl, by decide, limit_fn, fun _ => rfl, fun m old x r h => by
    obtain ⟨⟨x2, x7, x8, x9, x11, x42, x43, x44, ⟨⟩⟩, y2, y8, y11, y40, y442, y443, ⟨⟩⟩ := x
    refine Eq.trans ?_ h
    kernel_rfl⟩⟩

theorem cL324_21 : LoopCert Try.prog O324 Γ324 1 EL324_21 :=
  ⟨⟨24, 3, L324_21, rfl, by kernel_rfl, by decide, limit_fn, fun _ => rfl, fun m old x r h => by
    obtain ⟨⟨x2, x7, x8, x9, x11, x42, x43, x44, x69, x70, x71, ⟨⟩⟩, y2, y8, y11, y40, y442, y443, ⟨⟩⟩ := x
    refine Eq.trans ?_ h
    kernel_rfl⟩⟩

theorem cL324_14 : LoopCert Try.prog O324 Γ324 1 EL324_14 :=
  ⟨⟨24, 1, L324_14, rfl, by kernel_rfl, by decide, limit_fn, fun _ => rfl, fun m old x r h => by
    obtain ⟨⟨x2, x7, x8, x42, x43, x44, ⟨⟩⟩, y2, y8, y40, y440, y441, ⟨⟩⟩ := x
    refine Eq.trans ?_ h
    kernel_rfl⟩⟩

theorem cL324_33 : LoopCert Try.prog O324 Γ324 1 EL324_33 :=
  ⟨⟨24, 5, L324_33, rfl, by kernel_rfl, by decide, limit_fn, fun _ => rfl, fun m old x r h => by
    obtain ⟨⟨x2, x7, x14, x15, x99, x100, x101, x108, x109, x110, ⟨⟩⟩, y2, y8, y14, y40, y108, y314, y440, y441, ⟨⟩⟩ := x
    refine Eq.trans ?_ h
    kernel_rfl⟩⟩

theorem cL324_30 : LoopCert Try.prog O324 Γ324 1 EL324_30 :=
  ⟨⟨24, 4, L324_30, rfl, by kernel_rfl, by decide, limit_fn, fun _ => rfl, fun m old x r h => by
    obtain ⟨⟨x2, x7, x14, x99, x100, x101, ⟨⟩⟩, y2, y8, y14, y40, y314, y440, y441, ⟨⟩⟩ := x
    refine Eq.trans ?_ h
    kernel_rfl⟩⟩

/-- emendate/nfa.FromRegexes -/
noncomputable def p324 : ((List (Rx)) × Unit) → Option (((Int) × ((Int) × ((List ((Int) × ((Int) × ((Bool) × ((List (Int)) × (Unit)))))) × ((List (Int)) × (Unit))))) × (Int) × Unit)
  | (x0, ()) =>
    (limit L324_3 ((x0, (), (0 : Int), x0, (x0.length : Int), (0 : Int), ()), (((0 : Int), (0 : Int), ([] : List ((Int) × ((Int) × ((Bool) × ((List (Int)) × (Unit)))))), ([] : List (Int)), ()), ()))).bind (Sum.elim (fun r1 =>
      some ((r1.2.1.1, (r1.2.1.2.1, (r1.2.1.2.2.1, (r1.2.1.2.2.2.1, ())))), r1.1.2.1, ())) (fun r1 =>
      if (decide (r1.1.2.2.1 > (500 : Int))) = true then
        some (((0 : Int), ((0 : Int), (([] : List ((Int) × ((Int) × ((Bool) × ((List (Int)) × (Unit)))))), (([] : List (Int)), ())))), (11 : Int), ())
      else
        (limit L324_14 (((), (), (), r1.1.1, (r1.1.1.length : Int), (0 : Int), ()), ((r1.2.1.1, r1.2.1.2.1, r1.2.1.2.2.1, r1.2.1.2.2.2.1, ()), ([(-1 : Int)] : List (Int)), ((), (), ()), ([] : List (List (Int))), ([([] : List ((Int) × (Bool)))] : List (List ((Int) × (Bool)))), ()))).bind fun r2 =>
        (limit L324_30 (((), (), (), (), (r2.2.2.2.2.2.1.length : Int), (0 : Int), ()), ((r2.2.1.1, r2.2.1.2.1, r2.2.1.2.2.1, r2.2.1.2.2.2.1, ()), r2.2.2.1, ((r2.2.2.1.length : Int), (0 : Int), (), (), ()), ((), (), ()), ([] : List ((Int) × ((Int) × ((Bool) × ((List (Int)) × (Unit)))))), r2.2.2.2.2.1, r2.2.2.2.2.2.1, ()))).bind fun r3 =>
        some ((r3.2.2.2.1.1, (r3.2.2.2.1.2.1, (r3.2.2.2.2.1, (r3.2.2.1, ())))), (0 : Int), ())))

theorem s324 : SoundFn Try.prog 24 (fnOf [(.slice .rx)] (.tup [(.pair (.int .i64) (.pair (.int .i64) (.pair (.slice (.pair (.int .i64) (.pair (.int .i64) (.pair .bool (.pair (.arr 4 (.int .u64)) .unit))))) (.pair (.slice (.int .i64)) .unit)))), (.int .i64)]) p324) :=
  fn_pure hm0 hng0 hΓ324 (t := [(40, fnOf [.rx] (.one .bool) p340), (41, fnOf [.rx] (.one (.int .i64)) p341)]) (all_cons s340 (all_cons s341 all_nil)) (ls := [EL324_3, EL324_18, EL324_21, EL324_14, EL324_33, EL324_30]) (cmds := []) (leaves := []) (fr := []) (pt := [(42, procOf [.ptr 0 0, .kd .rx] [.box [.ref 1, .ref 2], .row (.arr 4 (.int .u64)), .mrow (.int .i64) .bool] (.one (.pair .bool (.pair (.slice (.int .i64)) (.pair (.slice (.int .i64)) .unit)))) [.box [.ref 3, .ref 4], .row (.arr 4 (.int .u64)), .mrow (.int .i64) .bool] p342), (43, procOf [.ptr 0 0, .kd (.slice (.int .i64)), .kd (.slice (.int .i64))] [.box [.ref 1, .ref 2], .row (.arr 4 (.int .u64)), .mrow (.int .i64) .bool] (.tup []) [.box [.ref 1, .ref 2], .row (.arr 4 (.int .u64)), .mrow (.int .i64) .bool] p343)]) (D := 1) (all_cons cL324_3 (all_cons cL324_18 (all_cons cL324_21 (all_cons cL324_14 (all_cons cL324_33 (all_cons cL324_30 all_nil)))))) (by kernel_rfl) (hfr := all_nil) (hX := Special.procs (all_cons s342 (all_cons s343 all_nil)) (fun _ _ h => by cases h; exact keysOk) (fun _ _ h => by obtain ⟨⟨_, h⟩, h2⟩ := h; cases h; cases h2; exact sortedOk)) fun x r h => by
    obtain ⟨x0, ⟨⟩⟩ := x
    refine Eq.trans ?_ h
    kernel_rfl

end Go.AM

/- Functions in pure form: each is sound over the program. -/
namespace Go.AM
open Go Go.Proofs

def Γ320 : TEnv := { Γ0 with imm := [15] }
theorem hΓ320 : Γ320.ok Try.prog = true := hΓ0

noncomputable def L320_3 : Nat → ((Unit × (List (Int)) × (List (Int)) × (Int) × (Int) × Unit) × (((Int) × (Int) × (List ((Int) × ((Int) × ((Bool) × ((List (Int)) × (Unit)))))) × (List (Int)) × Unit) × Unit)) → Option ((Unit × (List (Int)) × Unit) × (((Int) × (Int) × (List ((Int) × ((Int) × ((Bool) × ((List (Int)) × (Unit)))))) × (List (Int)) × Unit) × Unit))
  | 0, _ => none
  | n + 1, ((_, x5, x18, x19, x20, ()), (y2, ())) =>
    if (decide (x20 < x19)) = true then
      if decide (0 ≤ x20 ∧ x20 < (x18.length : Int)) = true then
        (p43 ((y2.1, (y2.2.1, (y2.2.2.1, (y2.2.2.2.1, ())))), x5, (x18.getD x20.toNat 0), ())).bind fun c1 =>
        L320_3 n (((), c1, x18, x19, (IntKind.i64.wrap (x20 + (1 : Int))), ()), ((y2.1, y2.2.1, y2.2.2.1, y2.2.2.2.1, ()), ()))
      else
        none
    else
      some (((), x5, ()), ((y2.1, y2.2.1, y2.2.2.1, y2.2.2.2.1, ()), ()))

noncomputable def EL320_3 : LoopEnt := ⟨[20], 3, ⟨[], [2, 5, 18, 19, 20], [2]⟩, [.ptr 2 0, .kd (.slice (.int .i64)), .kd (.slice (.int .u8)), .kd (.int .i64), .kd (.int .i64)], [.box [.kd (.int .i64), .kd (.int .i64), .kd (.slice (.pair (.int .i64) (.pair (.int .i64) (.pair .bool (.pair (.arr 4 (.int .u64)) .unit))))), .kd (.slice (.int .i64))]], [⟨(.exit 0), [2, 5], [.ptr 2 0, .kd (.slice (.int .i64))], [2], [.box [.kd (.int .i64), .kd (.int .i64), .kd (.slice (.pair (.int .i64) (.pair (.int .i64) (.pair .bool (.pair (.arr 4 (.int .u64)) .unit))))), .kd (.slice (.int .i64))]]⟩], limit L320_3⟩

noncomputable def L320_9 : Nat → ((Unit × (Int) × (List (Int)) × (Int) × (Int) × Unit) × (((Int) × (Int) × (List ((Int) × ((Int) × ((Bool) × ((List (Int)) × (Unit)))))) × (List (Int)) × Unit) × Unit)) → Option (((Int) × Unit) × (Unit))
  | 0, _ => none
  | n + 1, ((_, x8, x29, x30, x31, ()), (y2, ())) =>
    if (decide (x31 < x30)) = true then
      if decide (0 ≤ x31 ∧ x31 < (x29.length : Int)) = true then
        if decide (0 ≤ (x29.getD x31.toNat 0) ∧ (x29.getD x31.toNat 0) < (y2.2.2.2.1.length : Int)) = true then
          if (decide ((y2.2.2.2.1.getD (x29.getD x31.toNat 0).toNat 0) ≥ (0 : Int))) = true then
            if (decide (x8 < (0 : Int))) = true then
              L320_9 n (((), (y2.2.2.2.1.getD (x29.getD x31.toNat 0).toNat 0), x29, x30, (IntKind.i64.wrap (x31 + (1 : Int))), ()), ((y2.1, y2.2.1, y2.2.2.1, y2.2.2.2.1, ()), ()))
            else
              if (decide ((y2.2.2.2.1.getD (x29.getD x31.toNat 0).toNat 0) < x8)) = true then
                L320_9 n (((), (y2.2.2.2.1.getD (x29.getD x31.toNat 0).toNat 0), x29, x30, (IntKind.i64.wrap (x31 + (1 : Int))), ()), ((y2.1, y2.2.1, y2.2.2.1, y2.2.2.2.1, ()), ()))
              else
                L320_9 n (((), x8, x29, x30, (IntKind.i64.wrap (x31 + (1 : Int))), ()), ((y2.1, y2.2.1, y2.2.2.1, y2.2.2.2.1, ()), ()))
          else
            L320_9 n (((), x8, x29, x30, (IntKind.i64.wrap (x31 + (1 : Int))), ()), ((y2.1, y2.2.1, y2.2.2.1, y2.2.2.2.1, ()), ()))
        else
          none
      else
        none
    else
      some ((x8, ()), ())

noncomputable def EL320_9 : LoopEnt := ⟨[20], 9, ⟨[], [2, 8, 29, 30, 31], [2]⟩, [.ptr 2 0, .kd (.int .i64), .kd (.slice (.int .i64)), .kd (.int .i64), .kd (.int .i64)], [.box [.kd (.int .i64), .kd (.int .i64), .kd (.slice (.pair (.int .i64) (.pair (.int .i64) (.pair .bool (.pair (.arr 4 (.int .u64)) .unit))))), .kd (.slice (.int .i64))]], [⟨(.exit 2), [8], [.kd (.int .i64)], [], []⟩], limit L320_9⟩

noncomputable def O320 : Orc := mkOrc [(15, fnOf [(.pair (.int .i64) (.pair (.int .i64) (.pair (.slice (.pair (.int .i64) (.pair (.int .i64) (.pair .bool (.pair (.arr 4 (.int .u64)) .unit))))) (.pair (.slice (.int .i64)) .unit)))), (.slice (.int .i64))] (.one (.slice (.int .i64))) p41), (18, fnOf [(.pair (.int .i64) (.pair (.int .i64) (.pair (.slice (.pair (.int .i64) (.pair (.int .i64) (.pair .bool (.pair (.arr 4 (.int .u64)) .unit))))) (.pair (.slice (.int .i64)) .unit)))), (.slice (.int .i64)), (.int .u8)] (.one (.slice (.int .i64))) p43)] [EL320_3, EL320_9] [] [] []

theorem cL320_3 : LoopCert Try.prog O320 Γ320 1 EL320_3 :=
  ⟨⟨20, 0, L320_3, rfl, by kernel_rfl, by decide, limit_fn, fun _ => rfl, fun m old x r h => by
    obtain ⟨⟨x2, x5, x18, x19, x20, ⟨⟩⟩, y2, ⟨⟩⟩ := x
    refine Eq.trans ?_ h
    kernel_rfl⟩⟩

theorem cL320_9 : LoopCert Try.prog O320 Γ320 1 EL320_9 :=
  ⟨⟨20, 1, L320_9, rfl, by kernel_rfl, by decide, limit_fn, fun _ => rfl, fun m old x r h => by
    obtain ⟨⟨x2, x8, x29, x30, x31, ⟨⟩⟩, y2, ⟨⟩⟩ := x
    refine Eq.trans ?_ h
    kernel_rfl⟩⟩

/-- emendate/nfa.Run -/
noncomputable def p320 : (((Int) × ((Int) × ((List ((Int) × ((Int) × ((Bool) × ((List (Int)) × (Unit)))))) × ((List (Int)) × (Unit))))) × (List UInt8) × Unit) → Option (Int)
  | (x0, x1, ()) =>
    (p41 ((x0.1, (x0.2.1, (x0.2.2.1, (x0.2.2.2.1, ())))), ([x0.2.1] : List (Int)), ())).bind fun c1 =>
    (limit L320_3 (((), c1, (x1.map fun b => (b.toNat : Int)), ((x1.map fun b => (b.toNat : Int)).length : Int), (0 : Int), ()), ((x0.1, x0.2.1, x0.2.2.1, x0.2.2.2.1, ()), ()))).bind fun r2 =>
    (limit L320_9 (((), (-1 : Int), r2.1.2.1, (r2.1.2.1.length : Int), (0 : Int), ()), ((r2.2.1.1, r2.2.1.2.1, r2.2.1.2.2.1, r2.2.1.2.2.2.1, ()), ()))).bind fun r3 =>
    some r3.1.1

theorem s320 : SoundFn Try.prog 20 (fnOf [(.pair (.int .i64) (.pair (.int .i64) (.pair (.slice (.pair (.int .i64) (.pair (.int .i64) (.pair .bool (.pair (.arr 4 (.int .u64)) .unit))))) (.pair (.slice (.int .i64)) .unit)))), .str] (.one (.int .i64)) p320) :=
  fn_pure hm0 hng0 hΓ320 (t := [(15, fnOf [(.pair (.int .i64) (.pair (.int .i64) (.pair (.slice (.pair (.int .i64) (.pair (.int .i64) (.pair .bool (.pair (.arr 4 (.int .u64)) .unit))))) (.pair (.slice (.int .i64)) .unit)))), (.slice (.int .i64))] (.one (.slice (.int .i64))) p41), (18, fnOf [(.pair (.int .i64) (.pair (.int .i64) (.pair (.slice (.pair (.int .i64) (.pair (.int .i64) (.pair .bool (.pair (.arr 4 (.int .u64)) .unit))))) (.pair (.slice (.int .i64)) .unit)))), (.slice (.int .i64)), (.int .u8)] (.one (.slice (.int .i64))) p43)]) (all_cons s41 (all_cons s43 all_nil)) (ls := [EL320_3, EL320_9]) (cmds := []) (leaves := []) (fr := []) (pt := []) (D := 1) (all_cons cL320_3 (all_cons cL320_9 all_nil)) (by kernel_rfl) (hfr := all_nil) fun x r h => by
    obtain ⟨x0, x1, ⟨⟩⟩ := x
    refine Eq.trans ?_ h
    kernel_rfl

noncomputable def O329 : Orc := mkOrc [] [] [] [] []

/-- emendate/emendatelaw09.set -/
noncomputable def p329 : ((Int) × Unit) → Option (Rx)
  | (x0, ()) =>
    if decide ((64 : Int) = 0) = true then
      none
    else
      if decide ((64 : Int) = 0) = true then
        none
      else
        if decide (0 ≤ (x0.tmod (64 : Int))) = true then
          if decide (0 ≤ (IntKind.u8.wrap (x0.tdiv (64 : Int))) ∧ (IntKind.u8.wrap (x0.tdiv (64 : Int))) < (4 : Int)) = true then
            some (Rx.mk (3 : Int) [(([(0 : Int), (0 : Int), (0 : Int), (0 : Int)].set (IntKind.u8.wrap (x0.tdiv (64 : Int))).toNat (IntKind.u64.wrap ((1 : Int) * 2 ^ (min (x0.tmod (64 : Int)).toNat (IntKind.u64.bits))))).getD 0 0), (([(0 : Int), (0 : Int), (0 : Int), (0 : Int)].set (IntKind.u8.wrap (x0.tdiv (64 : Int))).toNat (IntKind.u64.wrap ((1 : Int) * 2 ^ (min (x0.tmod (64 : Int)).toNat (IntKind.u64.bits))))).getD 1 0), (([(0 : Int), (0 : Int), (0 : Int), (0 : Int)].set (IntKind.u8.wrap (x0.tdiv (64 : Int))).toNat (IntKind.u64.wrap ((1 : Int) * 2 ^ (min (x0.tmod (64 : Int)).toNat (IntKind.u64.bits))))).getD 2 0), (([(0 : Int), (0 : Int), (0 : Int), (0 : Int)].set (IntKind.u8.wrap (x0.tdiv (64 : Int))).toNat (IntKind.u64.wrap ((1 : Int) * 2 ^ (min (x0.tmod (64 : Int)).toNat (IntKind.u64.bits))))).getD 3 0)] ([] : List (Rx)))
          else
            none
        else
          none

theorem s329 : SoundFn Try.prog 29 (fnOf [(.int .u8)] (.one .rx) p329) :=
  fn_pure hm0 hng0 hΓ0 (t := []) all_nil (ls := []) (cmds := []) (leaves := []) (fr := []) (pt := []) (D := 1) all_nil (by kernel_rfl) (hfr := all_nil) fun x r h => by
    obtain ⟨x0, ⟨⟩⟩ := x
    refine Eq.trans ?_ h
    kernel_rfl

def Γ311 : TEnv := { Γ0 with imm := [5, 9, 11] }
theorem hΓ311 : Γ311.ok Try.prog = true := hΓ0

noncomputable def O311 : Orc := mkOrc [(12, fnOf [(.pair (.int .i64) (.pair (.int .i64) (.pair (.slice (.pair (.int .i64) (.pair (.int .i64) (.pair .bool (.pair (.arr 4 (.int .u64)) .unit))))) (.pair (.slice (.int .i64)) .unit))))] (.one .bool) p39), (20, fnOf [(.pair (.int .i64) (.pair (.int .i64) (.pair (.slice (.pair (.int .i64) (.pair (.int .i64) (.pair .bool (.pair (.arr 4 (.int .u64)) .unit))))) (.pair (.slice (.int .i64)) .unit)))), .str] (.one (.int .i64)) p320), (24, fnOf [(.slice .rx)] (.tup [(.pair (.int .i64) (.pair (.int .i64) (.pair (.slice (.pair (.int .i64) (.pair (.int .i64) (.pair .bool (.pair (.arr 4 (.int .u64)) .unit))))) (.pair (.slice (.int .i64)) .unit)))), (.int .i64)]) p324), (29, fnOf [(.int .u8)] (.one .rx) p329)] [] [] [] []

/-- emendate/emendatelaw09.awake -/
noncomputable def p311 : (Unit) → Option (Bool)
  | () =>
    (p329 ((97 : Int), ())).bind fun c1 =>
    (p329 ((97 : Int), ())).bind fun c2 =>
    (p329 ((98 : Int), ())).bind fun c3 =>
    (p324 (([(Rx.mk (6 : Int) [(0 : Int), (0 : Int), (0 : Int), (0 : Int)] ([(Rx.mk c1.kind [(c1.set.getD 0 0), (c1.set.getD 1 0), (c1.set.getD 2 0), (c1.set.getD 3 0)] c1.kids)] : List (Rx))), (Rx.mk (4 : Int) [(0 : Int), (0 : Int), (0 : Int), (0 : Int)] ([(Rx.mk c2.kind [(c2.set.getD 0 0), (c2.set.getD 1 0), (c2.set.getD 2 0), (c2.set.getD 3 0)] c2.kids), (Rx.mk c3.kind [(c3.set.getD 0 0), (c3.set.getD 1 0), (c3.set.getD 2 0), (c3.set.getD 3 0)] c3.kids)] : List (Rx)))] : List (Rx)), ())).bind fun c4 =>
    if (decide (c4.2.1 = (0 : Int))) = true then
      (p39 ((c4.1.1, (c4.1.2.1, (c4.1.2.2.1, (c4.1.2.2.2.1, ())))), ())).bind fun c5 =>
      if c5 = true then
        (p320 ((c4.1.1, (c4.1.2.1, (c4.1.2.2.1, (c4.1.2.2.2.1, ())))), ([97, 97] : List UInt8), ())).bind fun c6 =>
        if (decide (c6 = (0 : Int))) = true then
          (p320 ((c4.1.1, (c4.1.2.1, (c4.1.2.2.1, (c4.1.2.2.2.1, ())))), ([97, 98] : List UInt8), ())).bind fun c7 =>
          if (decide (c7 = (1 : Int))) = true then
            (p320 ((c4.1.1, (c4.1.2.1, (c4.1.2.2.1, (c4.1.2.2.2.1, ())))), ([98] : List UInt8), ())).bind fun c8 =>
            if (decide (c8 = (-1 : Int))) = true then
              (p39 (((0 : Int), ((0 : Int), (([] : List ((Int) × ((Int) × ((Bool) × ((List (Int)) × (Unit)))))), (([] : List (Int)), ())))), ())).bind fun c9 =>
              some (!c9)
            else
              some false
          else
            some false
        else
          some false
      else
        some false
    else
      some false

theorem s311 : SoundFn Try.prog 11 (fnOf [] (.one .bool) p311) :=
  fn_pure hm0 hng0 hΓ311 (t := [(12, fnOf [(.pair (.int .i64) (.pair (.int .i64) (.pair (.slice (.pair (.int .i64) (.pair (.int .i64) (.pair .bool (.pair (.arr 4 (.int .u64)) .unit))))) (.pair (.slice (.int .i64)) .unit))))] (.one .bool) p39), (20, fnOf [(.pair (.int .i64) (.pair (.int .i64) (.pair (.slice (.pair (.int .i64) (.pair (.int .i64) (.pair .bool (.pair (.arr 4 (.int .u64)) .unit))))) (.pair (.slice (.int .i64)) .unit)))), .str] (.one (.int .i64)) p320), (24, fnOf [(.slice .rx)] (.tup [(.pair (.int .i64) (.pair (.int .i64) (.pair (.slice (.pair (.int .i64) (.pair (.int .i64) (.pair .bool (.pair (.arr 4 (.int .u64)) .unit))))) (.pair (.slice (.int .i64)) .unit)))), (.int .i64)]) p324), (29, fnOf [(.int .u8)] (.one .rx) p329)]) (all_cons s39 (all_cons s320 (all_cons s324 (all_cons s329 all_nil)))) (ls := []) (cmds := []) (leaves := []) (fr := []) (pt := []) (D := 1) all_nil (by kernel_rfl) (hfr := all_nil) fun x r h => by
    cases x
    refine Eq.trans ?_ h
    kernel_rfl

noncomputable def O303 : Orc := mkOrc [(11, fnOf [] (.one .bool) p311), (12, fnOf [(.pair (.int .i64) (.pair (.int .i64) (.pair (.slice (.pair (.int .i64) (.pair (.int .i64) (.pair .bool (.pair (.arr 4 (.int .u64)) .unit))))) (.pair (.slice (.int .i64)) .unit))))] (.one .bool) p39), (13, fnOf [(.pair (.int .i64) (.pair (.int .i64) (.pair (.slice (.pair (.int .i64) (.pair (.int .i64) (.pair .bool (.pair (.arr 4 (.int .u64)) .unit))))) (.pair (.slice (.int .i64)) .unit))))] (.one .bool) p45)] [] [] [] []

/-- emendate/emendatelaw09.NfaValidMatchesReference -/
noncomputable def p303 : (((Int) × ((Int) × ((List ((Int) × ((Int) × ((Bool) × ((List (Int)) × (Unit)))))) × ((List (Int)) × (Unit))))) × Unit) → Option (Bool)
  | (x0, ()) =>
    (p311 (())).bind fun c1 =>
    if (!c1) = true then
      some false
    else
      if (decide ((x0.2.2.1.length : Int) > (2000 : Int))) = true then
        some true
      else
        (p39 ((x0.1, (x0.2.1, (x0.2.2.1, (x0.2.2.2.1, ())))), ())).bind fun c2 =>
        (p45 ((x0.1, (x0.2.1, (x0.2.2.1, (x0.2.2.2.1, ())))), ())).bind fun c3 =>
        some (c2 == c3)

theorem s303 : SoundFn Try.prog 3 (fnOf [(.pair (.int .i64) (.pair (.int .i64) (.pair (.slice (.pair (.int .i64) (.pair (.int .i64) (.pair .bool (.pair (.arr 4 (.int .u64)) .unit))))) (.pair (.slice (.int .i64)) .unit))))] (.one .bool) p303) :=
  fn_pure hm0 hng0 hΓ0 (t := [(11, fnOf [] (.one .bool) p311), (12, fnOf [(.pair (.int .i64) (.pair (.int .i64) (.pair (.slice (.pair (.int .i64) (.pair (.int .i64) (.pair .bool (.pair (.arr 4 (.int .u64)) .unit))))) (.pair (.slice (.int .i64)) .unit))))] (.one .bool) p39), (13, fnOf [(.pair (.int .i64) (.pair (.int .i64) (.pair (.slice (.pair (.int .i64) (.pair (.int .i64) (.pair .bool (.pair (.arr 4 (.int .u64)) .unit))))) (.pair (.slice (.int .i64)) .unit))))] (.one .bool) p45)]) (all_cons s311 (all_cons s39 (all_cons s45 all_nil))) (ls := []) (cmds := []) (leaves := []) (fr := []) (pt := []) (D := 1) all_nil (by kernel_rfl) (hfr := all_nil) fun x r h => by
    obtain ⟨x0, ⟨⟩⟩ := x
    refine Eq.trans ?_ h
    kernel_rfl

noncomputable def O304 : Orc := mkOrc [(11, fnOf [] (.one .bool) p311), (14, fnOf [(.pair (.int .i64) (.pair (.int .i64) (.pair (.slice (.pair (.int .i64) (.pair (.int .i64) (.pair .bool (.pair (.arr 4 (.int .u64)) .unit))))) (.pair (.slice (.int .i64)) .unit))))] (.one .bool) p314), (15, fnOf [(.pair (.int .i64) (.pair (.int .i64) (.pair (.slice (.pair (.int .i64) (.pair (.int .i64) (.pair .bool (.pair (.arr 4 (.int .u64)) .unit))))) (.pair (.slice (.int .i64)) .unit)))), (.slice (.int .i64))] (.one (.slice (.int .i64))) p41), (16, fnOf [(.slice (.int .i64)), (.slice (.int .i64))] (.one .bool) p316), (17, fnOf [(.pair (.int .i64) (.pair (.int .i64) (.pair (.slice (.pair (.int .i64) (.pair (.int .i64) (.pair .bool (.pair (.arr 4 (.int .u64)) .unit))))) (.pair (.slice (.int .i64)) .unit)))), (.slice (.int .i64))] (.one (.slice (.int .i64))) p48)] [] [] [] []

/-- emendate/emendatelaw09.NfaClosureIsLeastFixpoint -/
noncomputable def p304 : (((Int) × ((Int) × ((List ((Int) × ((Int) × ((Bool) × ((List (Int)) × (Unit)))))) × ((List (Int)) × (Unit))))) × (List (Int)) × Unit) → Option (Bool)
  | (x0, x1, ()) =>
    (p311 (())).bind fun c1 =>
    if (!c1) = true then
      some false
    else
      (p314 ((x0.1, (x0.2.1, (x0.2.2.1, (x0.2.2.2.1, ())))), ())).bind fun c2 =>
      if (!c2) = true then
        some true
      else
        if (decide ((x1.length : Int) > (60 : Int))) = true then
          some true
        else
          (p41 ((x0.1, (x0.2.1, (x0.2.2.1, (x0.2.2.2.1, ())))), x1, ())).bind fun c3 =>
          (p48 ((x0.1, (x0.2.1, (x0.2.2.1, (x0.2.2.2.1, ())))), x1, ())).bind fun c4 =>
          (p316 (c3, c4, ())).bind fun c5 =>
          if c5 = true then
            (p41 ((x0.1, (x0.2.1, (x0.2.2.1, (x0.2.2.2.1, ())))), c3, ())).bind fun c6 =>
            (p316 (c6, c3, ())).bind fun c7 =>
            some c7
          else
            some false

theorem s304 : SoundFn Try.prog 4 (fnOf [(.pair (.int .i64) (.pair (.int .i64) (.pair (.slice (.pair (.int .i64) (.pair (.int .i64) (.pair .bool (.pair (.arr 4 (.int .u64)) .unit))))) (.pair (.slice (.int .i64)) .unit)))), (.slice (.int .i64))] (.one .bool) p304) :=
  fn_pure hm0 hng0 hΓ0 (t := [(11, fnOf [] (.one .bool) p311), (14, fnOf [(.pair (.int .i64) (.pair (.int .i64) (.pair (.slice (.pair (.int .i64) (.pair (.int .i64) (.pair .bool (.pair (.arr 4 (.int .u64)) .unit))))) (.pair (.slice (.int .i64)) .unit))))] (.one .bool) p314), (15, fnOf [(.pair (.int .i64) (.pair (.int .i64) (.pair (.slice (.pair (.int .i64) (.pair (.int .i64) (.pair .bool (.pair (.arr 4 (.int .u64)) .unit))))) (.pair (.slice (.int .i64)) .unit)))), (.slice (.int .i64))] (.one (.slice (.int .i64))) p41), (16, fnOf [(.slice (.int .i64)), (.slice (.int .i64))] (.one .bool) p316), (17, fnOf [(.pair (.int .i64) (.pair (.int .i64) (.pair (.slice (.pair (.int .i64) (.pair (.int .i64) (.pair .bool (.pair (.arr 4 (.int .u64)) .unit))))) (.pair (.slice (.int .i64)) .unit)))), (.slice (.int .i64))] (.one (.slice (.int .i64))) p48)]) (all_cons s311 (all_cons s314 (all_cons s41 (all_cons s316 (all_cons s48 all_nil))))) (ls := []) (cmds := []) (leaves := []) (fr := []) (pt := []) (D := 1) all_nil (by kernel_rfl) (hfr := all_nil) fun x r h => by
    obtain ⟨x0, x1, ⟨⟩⟩ := x
    refine Eq.trans ?_ h
    kernel_rfl

noncomputable def O305 : Orc := mkOrc [(11, fnOf [] (.one .bool) p311), (14, fnOf [(.pair (.int .i64) (.pair (.int .i64) (.pair (.slice (.pair (.int .i64) (.pair (.int .i64) (.pair .bool (.pair (.arr 4 (.int .u64)) .unit))))) (.pair (.slice (.int .i64)) .unit))))] (.one .bool) p314), (16, fnOf [(.slice (.int .i64)), (.slice (.int .i64))] (.one .bool) p316), (18, fnOf [(.pair (.int .i64) (.pair (.int .i64) (.pair (.slice (.pair (.int .i64) (.pair (.int .i64) (.pair .bool (.pair (.arr 4 (.int .u64)) .unit))))) (.pair (.slice (.int .i64)) .unit)))), (.slice (.int .i64)), (.int .u8)] (.one (.slice (.int .i64))) p43), (19, fnOf [(.pair (.int .i64) (.pair (.int .i64) (.pair (.slice (.pair (.int .i64) (.pair (.int .i64) (.pair .bool (.pair (.arr 4 (.int .u64)) .unit))))) (.pair (.slice (.int .i64)) .unit)))), (.slice (.int .i64)), (.int .u8)] (.one (.slice (.int .i64))) p49)] [] [] [] []

/-- emendate/emendatelaw09.NfaStepMatchesReference -/
noncomputable def p305 : (((Int) × ((Int) × ((List ((Int) × ((Int) × ((Bool) × ((List (Int)) × (Unit)))))) × ((List (Int)) × (Unit))))) × (List (Int)) × (Int) × Unit) → Option (Bool)
  | (x0, x1, x2, ()) =>
    (p311 (())).bind fun c1 =>
    if (!c1) = true then
      some false
    else
      (p314 ((x0.1, (x0.2.1, (x0.2.2.1, (x0.2.2.2.1, ())))), ())).bind fun c2 =>
      if (!c2) = true then
        some true
      else
        if (decide ((x1.length : Int) > (60 : Int))) = true then
          some true
        else
          (p43 ((x0.1, (x0.2.1, (x0.2.2.1, (x0.2.2.2.1, ())))), x1, x2, ())).bind fun c3 =>
          (p49 ((x0.1, (x0.2.1, (x0.2.2.1, (x0.2.2.2.1, ())))), x1, x2, ())).bind fun c4 =>
          (p316 (c3, c4, ())).bind fun c5 =>
          some c5

theorem s305 : SoundFn Try.prog 5 (fnOf [(.pair (.int .i64) (.pair (.int .i64) (.pair (.slice (.pair (.int .i64) (.pair (.int .i64) (.pair .bool (.pair (.arr 4 (.int .u64)) .unit))))) (.pair (.slice (.int .i64)) .unit)))), (.slice (.int .i64)), (.int .u8)] (.one .bool) p305) :=
  fn_pure hm0 hng0 hΓ0 (t := [(11, fnOf [] (.one .bool) p311), (14, fnOf [(.pair (.int .i64) (.pair (.int .i64) (.pair (.slice (.pair (.int .i64) (.pair (.int .i64) (.pair .bool (.pair (.arr 4 (.int .u64)) .unit))))) (.pair (.slice (.int .i64)) .unit))))] (.one .bool) p314), (16, fnOf [(.slice (.int .i64)), (.slice (.int .i64))] (.one .bool) p316), (18, fnOf [(.pair (.int .i64) (.pair (.int .i64) (.pair (.slice (.pair (.int .i64) (.pair (.int .i64) (.pair .bool (.pair (.arr 4 (.int .u64)) .unit))))) (.pair (.slice (.int .i64)) .unit)))), (.slice (.int .i64)), (.int .u8)] (.one (.slice (.int .i64))) p43), (19, fnOf [(.pair (.int .i64) (.pair (.int .i64) (.pair (.slice (.pair (.int .i64) (.pair (.int .i64) (.pair .bool (.pair (.arr 4 (.int .u64)) .unit))))) (.pair (.slice (.int .i64)) .unit)))), (.slice (.int .i64)), (.int .u8)] (.one (.slice (.int .i64))) p49)]) (all_cons s311 (all_cons s314 (all_cons s316 (all_cons s43 (all_cons s49 all_nil))))) (ls := []) (cmds := []) (leaves := []) (fr := []) (pt := []) (D := 1) all_nil (by kernel_rfl) (hfr := all_nil) fun x r h => by
    obtain ⟨x0, x1, x2, ⟨⟩⟩ := x
    refine Eq.trans ?_ h
    kernel_rfl

noncomputable def L306_10 : Nat → (((List (Int)) × (List (Int)) × (Int) × (Int) × Unit) × (Unit)) → Option (((List (Int)) × (List (Int)) × (Int) × (Int) × Unit) × (Unit))
  | 0, _ => none
  | n + 1, ((x7, x8, x9, x10, ()), ()) =>
    if (decide (x9 < (x7.length : Int))) = true then
      if decide (0 ≤ x9 ∧ x9 < (x7.length : Int)) = true then
        if decide (0 ≤ x10 ∧ x10 < (x8.length : Int)) = true then
          if (decide ((x7.getD x9.toNat 0) < (x8.getD x10.toNat 0))) = true then
            L306_10 n ((x7, x8, (IntKind.i64.wrap (x9 + (1 : Int))), x10, ()), ())
          else
            some ((x7, x8, x9, x10, ()), ())
        else
          none
      else
        none
    else
      some ((x7, x8, x9, x10, ()), ())

noncomputable def EL306_10 : LoopEnt := ⟨[6], 10, ⟨[], [7, 8, 9, 10], []⟩, [.kd (.slice (.int .i64)), .kd (.slice (.int .i64)), .kd (.int .i64), .kd (.int .i64)], [], [⟨(.exit 2), [7, 8, 9, 10], [.kd (.slice (.int .i64)), .kd (.slice (.int .i64)), .kd (.int .i64), .kd (.int .i64)], [], []⟩], limit L306_10⟩

noncomputable def L306_8 : Nat → (((List (Int)) × (List (Int)) × (Int) × (Int) × Unit) × (Unit)) → Option ((((Bool) × Unit) × (Unit)) ⊕ ((Unit) × (Unit)))
  | 0, _ => none
  | n + 1, ((x7, x8, x9, x10, ()), ()) =>
    if (decide (x10 < (x8.length : Int))) = true then
      (limit L306_10 ((x7, x8, x9, x10, ()), ())).bind fun r1 =>
      if (decide (r1.1.2.2.1 = (r1.1.1.length : Int))) = true then
        some (.inl ((false, ()), ()))
      else
        if decide (0 ≤ r1.1.2.2.1 ∧ r1.1.2.2.1 < (r1.1.1.length : Int)) = true then
          if decide (0 ≤ r1.1.2.2.2.1 ∧ r1.1.2.2.2.1 < (r1.1.2.1.length : Int)) = true then
            if (!decide ((r1.1.1.getD r1.1.2.2.1.toNat 0) = (r1.1.2.1.getD r1.1.2.2.2.1.toNat 0))) = true then
              some (.inl ((false, ()), ()))
            else
              L306_8 n ((r1.1.1, r1.1.2.1, r1.1.2.2.1, (IntKind.i64.wrap (r1.1.2.2.2.1 + (1 : Int))), ()), ())
          else
            none
        else
          none
    else
      some (.inr ((), ()))

noncomputable def EL306_8 : LoopEnt := ⟨[6], 8, ⟨[], [7, 8, 9, 10], []⟩, [.kd (.slice (.int .i64)), .kd (.slice (.int .i64)), .kd (.int .i64), .kd (.int .i64)], [], [⟨.ret, [6], [.kd .bool], [], []⟩, ⟨(.exit 0), [], [], [], []⟩], limit L306_8⟩

noncomputable def O306 : Orc := mkOrc [(11, fnOf [] (.one .bool) p311), (14, fnOf [(.pair (.int .i64) (.pair (.int .i64) (.pair (.slice (.pair (.int .i64) (.pair (.int .i64) (.pair .bool (.pair (.arr 4 (.int .u64)) .unit))))) (.pair (.slice (.int .i64)) .unit))))] (.one .bool) p314), (18, fnOf [(.pair (.int .i64) (.pair (.int .i64) (.pair (.slice (.pair (.int .i64) (.pair (.int .i64) (.pair .bool (.pair (.arr 4 (.int .u64)) .unit))))) (.pair (.slice (.int .i64)) .unit)))), (.slice (.int .i64)), (.int .u8)] (.one (.slice (.int .i64))) p43)] [EL306_10, EL306_8] [] [] []

theorem cL306_10 : LoopCert Try.prog O306 Γ0 1 EL306_10 :=
  ⟨⟨6, 1, L306_10, rfl, by kernel_rfl, by decide, limit_fn, fun _ => rfl, fun m old x r h => by
    obtain ⟨⟨x7, x8, x9, x10, ⟨⟩⟩, ⟨⟩⟩ := x
    refine Eq.trans ?_ h
    kernel_rfl⟩⟩

theorem cL306_8 : LoopCert Try.prog O306 Γ0 1 EL306_8 :=
  ⟨⟨6, 0, L306_8, rfl, by kernel_rfl, by decide, limit_fn, fun _ => rfl, fun m old x r h => by
    obtain ⟨⟨x7, x8, x9, x10, ⟨⟩⟩, ⟨⟩⟩ := x
    refine Eq.trans ?_ h
    kernel_rfl⟩⟩

/-- emendate/emendatelaw09.NfaStepIsMonotone -/
noncomputable def p306 : (((Int) × ((Int) × ((List ((Int) × ((Int) × ((Bool) × ((List (Int)) × (Unit)))))) × ((List (Int)) × (Unit))))) × (List (Int)) × (Int) × Unit) → Option (Bool)
  | (x0, x1, x2, ()) =>
    (p311 (())).bind fun c1 =>
    if (!c1) = true then
      some false
    else
      (p314 ((x0.1, (x0.2.1, (x0.2.2.1, (x0.2.2.2.1, ())))), ())).bind fun c2 =>
      if (!c2) = true then
        some true
      else
        if (decide ((x1.length : Int) > (60 : Int))) = true then
          some true
        else
          if (decide ((x1.length : Int) = (0 : Int))) = true then
            some true
          else
            (p43 ((x0.1, (x0.2.1, (x0.2.2.1, (x0.2.2.2.1, ())))), x1, x2, ())).bind fun c3 =>
            if decide (0 ≤ (1 : Int) ∧ (1 : Int) ≤ (x1.length : Int) ∧ (x1.length : Int) ≤ (x1.length : Int)) = true then
              (p43 ((x0.1, (x0.2.1, (x0.2.2.1, (x0.2.2.2.1, ())))), ((x1.take (x1.length : Int).toNat).drop (1 : Int).toNat), x2, ())).bind fun c4 =>
              (limit L306_8 ((c3, c4, (0 : Int), (0 : Int), ()), ())).bind (Sum.elim (fun r5 =>
                some r5.1.1) (fun _ =>
                some true))
            else
              none

theorem s306 : SoundFn Try.prog 6 (fnOf [(.pair (.int .i64) (.pair (.int .i64) (.pair (.slice (.pair (.int .i64) (.pair (.int .i64) (.pair .bool (.pair (.arr 4 (.int .u64)) .unit))))) (.pair (.slice (.int .i64)) .unit)))), (.slice (.int .i64)), (.int .u8)] (.one .bool) p306) :=
  fn_pure hm0 hng0 hΓ0 (t := [(11, fnOf [] (.one .bool) p311), (14, fnOf [(.pair (.int .i64) (.pair (.int .i64) (.pair (.slice (.pair (.int .i64) (.pair (.int .i64) (.pair .bool (.pair (.arr 4 (.int .u64)) .unit))))) (.pair (.slice (.int .i64)) .unit))))] (.one .bool) p314), (18, fnOf [(.pair (.int .i64) (.pair (.int .i64) (.pair (.slice (.pair (.int .i64) (.pair (.int .i64) (.pair .bool (.pair (.arr 4 (.int .u64)) .unit))))) (.pair (.slice (.int .i64)) .unit)))), (.slice (.int .i64)), (.int .u8)] (.one (.slice (.int .i64))) p43)]) (all_cons s311 (all_cons s314 (all_cons s43 all_nil))) (ls := [EL306_10, EL306_8]) (cmds := []) (leaves := []) (fr := []) (pt := []) (D := 1) (all_cons cL306_10 (all_cons cL306_8 all_nil)) (by kernel_rfl) (hfr := all_nil) fun x r h => by
    obtain ⟨x0, x1, x2, ⟨⟩⟩ := x
    refine Eq.trans ?_ h
    kernel_rfl

noncomputable def O307 : Orc := mkOrc [(11, fnOf [] (.one .bool) p311), (14, fnOf [(.pair (.int .i64) (.pair (.int .i64) (.pair (.slice (.pair (.int .i64) (.pair (.int .i64) (.pair .bool (.pair (.arr 4 (.int .u64)) .unit))))) (.pair (.slice (.int .i64)) .unit))))] (.one .bool) p314), (20, fnOf [(.pair (.int .i64) (.pair (.int .i64) (.pair (.slice (.pair (.int .i64) (.pair (.int .i64) (.pair .bool (.pair (.arr 4 (.int .u64)) .unit))))) (.pair (.slice (.int .i64)) .unit)))), .str] (.one (.int .i64)) p320), (21, fnOf [(.pair (.int .i64) (.pair (.int .i64) (.pair (.slice (.pair (.int .i64) (.pair (.int .i64) (.pair .bool (.pair (.arr 4 (.int .u64)) .unit))))) (.pair (.slice (.int .i64)) .unit)))), .str] (.one (.int .i64)) p23)] [] [] [] []

/-- emendate/emendatelaw09.NfaRunMatchesReference -/
noncomputable def p307 : (((Int) × ((Int) × ((List ((Int) × ((Int) × ((Bool) × ((List (Int)) × (Unit)))))) × ((List (Int)) × (Unit))))) × (List UInt8) × Unit) → Option (Bool)
  | (x0, x1, ()) =>
    (p311 (())).bind fun c1 =>
    if (!c1) = true then
      some false
    else
      (p314 ((x0.1, (x0.2.1, (x0.2.2.1, (x0.2.2.2.1, ())))), ())).bind fun c2 =>
      if (!c2) = true then
        some true
      else
        if (decide ((x1.length : Int) > (30 : Int))) = true then
          some true
        else
          (p320 ((x0.1, (x0.2.1, (x0.2.2.1, (x0.2.2.2.1, ())))), x1, ())).bind fun c3 =>
          (p23 ((x0.1, (x0.2.1, (x0.2.2.1, (x0.2.2.2.1, ())))), x1, ())).bind fun c4 =>
          some (decide (c3 = c4))

theorem s307 : SoundFn Try.prog 7 (fnOf [(.pair (.int .i64) (.pair (.int .i64) (.pair (.slice (.pair (.int .i64) (.pair (.int .i64) (.pair .bool (.pair (.arr 4 (.int .u64)) .unit))))) (.pair (.slice (.int .i64)) .unit)))), .str] (.one .bool) p307) :=
  fn_pure hm0 hng0 hΓ0 (t := [(11, fnOf [] (.one .bool) p311), (14, fnOf [(.pair (.int .i64) (.pair (.int .i64) (.pair (.slice (.pair (.int .i64) (.pair (.int .i64) (.pair .bool (.pair (.arr 4 (.int .u64)) .unit))))) (.pair (.slice (.int .i64)) .unit))))] (.one .bool) p314), (20, fnOf [(.pair (.int .i64) (.pair (.int .i64) (.pair (.slice (.pair (.int .i64) (.pair (.int .i64) (.pair .bool (.pair (.arr 4 (.int .u64)) .unit))))) (.pair (.slice (.int .i64)) .unit)))), .str] (.one (.int .i64)) p320), (21, fnOf [(.pair (.int .i64) (.pair (.int .i64) (.pair (.slice (.pair (.int .i64) (.pair (.int .i64) (.pair .bool (.pair (.arr 4 (.int .u64)) .unit))))) (.pair (.slice (.int .i64)) .unit)))), .str] (.one (.int .i64)) p23)]) (all_cons s311 (all_cons s314 (all_cons s320 (all_cons s23 all_nil)))) (ls := []) (cmds := []) (leaves := []) (fr := []) (pt := []) (D := 1) all_nil (by kernel_rfl) (hfr := all_nil) fun x r h => by
    obtain ⟨x0, x1, ⟨⟩⟩ := x
    refine Eq.trans ?_ h
    kernel_rfl

def Γ308 : TEnv := { Γ0 with imm := [29] }
theorem hΓ308 : Γ308.ok Try.prog = true := hΓ0

noncomputable def L308_8 : Nat → ((Unit × (List (Int)) × (List UInt8) × (Int) × Unit) × (((Int) × (Int) × (List ((Int) × ((Int) × ((Bool) × ((List (Int)) × (Unit)))))) × (List (Int)) × Unit) × Unit)) → Option ((Unit × (List (Int)) × (List UInt8) × Unit) × (((Int) × (Int) × (List ((Int) × ((Int) × ((Bool) × ((List (Int)) × (Unit)))))) × (List (Int)) × Unit) × Unit))
  | 0, _ => none
  | n + 1, ((_, x7, x8, x9, ()), (y3, ())) =>
    if (decide (x9 < (x8.length : Int))) = true then
      if decide (0 ≤ x9 ∧ x9 < (x8.length : Int)) = true then
        (p43 ((y3.1, (y3.2.1, (y3.2.2.1, (y3.2.2.2.1, ())))), x7, ((x8.getD x9.toNat 0).toNat : Int), ())).bind fun c1 =>
        L308_8 n (((), c1, x8, (IntKind.i64.wrap (x9 + (1 : Int))), ()), ((y3.1, y3.2.1, y3.2.2.1, y3.2.2.2.1, ()), ()))
      else
        none
    else
      some (((), x7, x8, ()), ((y3.1, y3.2.1, y3.2.2.1, y3.2.2.2.1, ()), ()))

noncomputable def EL308_8 : LoopEnt := ⟨[8], 8, ⟨[], [3, 7, 8, 9], [3]⟩, [.ptr 3 0, .kd (.slice (.int .i64)), .kd .str, .kd (.int .i64)], [.box [.kd (.int .i64), .kd (.int .i64), .kd (.slice (.pair (.int .i64) (.pair (.int .i64) (.pair .bool (.pair (.arr 4 (.int .u64)) .unit))))), .kd (.slice (.int .i64))]], [⟨(.exit 0), [3, 7, 8], [.ptr 3 0, .kd (.slice (.int .i64)), .kd .str], [3], [.box [.kd (.int .i64), .kd (.int .i64), .kd (.slice (.pair (.int .i64) (.pair (.int .i64) (.pair .bool (.pair (.arr 4 (.int .u64)) .unit))))), .kd (.slice (.int .i64))]]⟩], limit L308_8⟩

noncomputable def L308_12 : Nat → ((Unit × (List (Int)) × (List UInt8) × (Int) × Unit) × (((Int) × (Int) × (List ((Int) × ((Int) × ((Bool) × ((List (Int)) × (Unit)))))) × (List (Int)) × Unit) × Unit)) → Option ((((Bool) × Unit) × (Unit)) ⊕ ((Unit × (List (Int)) × (List UInt8) × Unit) × (((Int) × (Int) × (List ((Int) × ((Int) × ((Bool) × ((List (Int)) × (Unit)))))) × (List (Int)) × Unit) × Unit)))
  | 0, _ => none
  | n + 1, ((_, x7, x8, x10, ()), (y3, ())) =>
    if (decide (x10 < (x7.length : Int))) = true then
      if decide (0 ≤ x10 ∧ x10 < (x7.length : Int)) = true then
        if (decide ((x7.getD x10.toNat 0) < (0 : Int))) = true then
          some (.inl ((false, ()), ()))
        else
          if decide (0 ≤ x10 ∧ x10 < (x7.length : Int)) = true then
            if (decide ((x7.getD x10.toNat 0) ≥ y3.1)) = true then
              some (.inl ((false, ()), ()))
            else
              L308_12 n (((), x7, x8, (IntKind.i64.wrap (x10 + (1 : Int))), ()), ((y3.1, y3.2.1, y3.2.2.1, y3.2.2.2.1, ()), ()))
          else
            none
      else
        none
    else
      some (.inr (((), x7, x8, ()), ((y3.1, y3.2.1, y3.2.2.1, y3.2.2.2.1, ()), ())))

noncomputable def EL308_12 : LoopEnt := ⟨[8], 12, ⟨[], [3, 7, 8, 10], [3]⟩, [.ptr 3 0, .kd (.slice (.int .i64)), .kd .str, .kd (.int .i64)], [.box [.kd (.int .i64), .kd (.int .i64), .kd (.slice (.pair (.int .i64) (.pair (.int .i64) (.pair .bool (.pair (.arr 4 (.int .u64)) .unit))))), .kd (.slice (.int .i64))]], [⟨.ret, [6], [.kd .bool], [], []⟩, ⟨(.exit 2), [3, 7, 8], [.ptr 3 0, .kd (.slice (.int .i64)), .kd .str], [3], [.box [.kd (.int .i64), .kd (.int .i64), .kd (.slice (.pair (.int .i64) (.pair (.int .i64) (.pair .bool (.pair (.arr 4 (.int .u64)) .unit))))), .kd (.slice (.int .i64))]]⟩], limit L308_12⟩

noncomputable def O308 : Orc := mkOrc [(11, fnOf [] (.one .bool) p311), (14, fnOf [(.pair (.int .i64) (.pair (.int .i64) (.pair (.slice (.pair (.int .i64) (.pair (.int .i64) (.pair .bool (.pair (.arr 4 (.int .u64)) .unit))))) (.pair (.slice (.int .i64)) .unit))))] (.one .bool) p314), (15, fnOf [(.pair (.int .i64) (.pair (.int .i64) (.pair (.slice (.pair (.int .i64) (.pair (.int .i64) (.pair .bool (.pair (.arr 4 (.int .u64)) .unit))))) (.pair (.slice (.int .i64)) .unit)))), (.slice (.int .i64))] (.one (.slice (.int .i64))) p41), (18, fnOf [(.pair (.int .i64) (.pair (.int .i64) (.pair (.slice (.pair (.int .i64) (.pair (.int .i64) (.pair .bool (.pair (.arr 4 (.int .u64)) .unit))))) (.pair (.slice (.int .i64)) .unit)))), (.slice (.int .i64)), (.int .u8)] (.one (.slice (.int .i64))) p43), (20, fnOf [(.pair (.int .i64) (.pair (.int .i64) (.pair (.slice (.pair (.int .i64) (.pair (.int .i64) (.pair .bool (.pair (.arr 4 (.int .u64)) .unit))))) (.pair (.slice (.int .i64)) .unit)))), .str] (.one (.int .i64)) p320), (22, fnOf [(.pair (.int .i64) (.pair (.int .i64) (.pair (.slice (.pair (.int .i64) (.pair (.int .i64) (.pair .bool (.pair (.arr 4 (.int .u64)) .unit))))) (.pair (.slice (.int .i64)) .unit)))), (.slice (.int .i64))] (.one (.int .i64)) p52)] [EL308_8, EL308_12] [] [] []

theorem cL308_8 : LoopCert Try.prog O308 Γ308 1 EL308_8 :=
  ⟨⟨8, 0, L308_8, rfl, by kernel_rfl, by decide, limit_fn, fun _ => rfl, fun m old x r h => by
    obtain ⟨⟨x3, x7, x8, x9, ⟨⟩⟩, y3, ⟨⟩⟩ := x
    refine Eq.trans ?_ h
    kernel_rfl⟩⟩

theorem cL308_12 : LoopCert Try.prog O308 Γ308 1 EL308_12 :=
  ⟨⟨8, 1, L308_12, rfl, by kernel_rfl, by decide, limit_fn, fun _ => rfl, fun m old x r h => by
    obtain ⟨⟨x3, x7, x8, x10, ⟨⟩⟩, y3, ⟨⟩⟩ := x
    refine Eq.trans ?_ h
    kernel_rfl⟩⟩

/-- emendate/emendatelaw09.NfaRunIsCompositional -/
noncomputable def p308 : (((Int) × ((Int) × ((List ((Int) × ((Int) × ((Bool) × ((List (Int)) × (Unit)))))) × ((List (Int)) × (Unit))))) × (List UInt8) × (List UInt8) × Unit) → Option (Bool)
  | (x0, x1, x2, ()) =>
    (p311 (())).bind fun c1 =>
    if (!c1) = true then
      some false
    else
      (p314 ((x0.1, (x0.2.1, (x0.2.2.1, (x0.2.2.2.1, ())))), ())).bind fun c2 =>
      if (!c2) = true then
        some true
      else
        if (decide ((x1.length : Int) > (20 : Int))) = true then
          some true
        else
          if (decide ((x2.length : Int) > (20 : Int))) = true then
            some true
          else
            (p41 ((x0.1, (x0.2.1, (x0.2.2.1, (x0.2.2.2.1, ())))), ([x0.2.1] : List (Int)), ())).bind fun c3 =>
            if decide (x1.length + x2.length ≤ lim) = true then
              (limit L308_8 (((), c3, (x1 ++ x2), (0 : Int), ()), ((x0.1, x0.2.1, x0.2.2.1, x0.2.2.2.1, ()), ()))).bind fun r4 =>
              (limit L308_12 (((), r4.1.2.1, r4.1.2.2.1, (0 : Int), ()), ((r4.2.1.1, r4.2.1.2.1, r4.2.1.2.2.1, r4.2.1.2.2.2.1, ()), ()))).bind (Sum.elim (fun r5 =>
                some r5.1.1) (fun r5 =>
                (p320 ((r5.2.1.1, (r5.2.1.2.1, (r5.2.1.2.2.1, (r5.2.1.2.2.2.1, ())))), r5.1.2.2.1, ())).bind fun c6 =>
                (p52 ((r5.2.1.1, (r5.2.1.2.1, (r5.2.1.2.2.1, (r5.2.1.2.2.2.1, ())))), r5.1.2.1, ())).bind fun c7 =>
                some (decide (c6 = c7))))
            else
              none

theorem s308 : SoundFn Try.prog 8 (fnOf [(.pair (.int .i64) (.pair (.int .i64) (.pair (.slice (.pair (.int .i64) (.pair (.int .i64) (.pair .bool (.pair (.arr 4 (.int .u64)) .unit))))) (.pair (.slice (.int .i64)) .unit)))), .str, .str] (.one .bool) p308) :=
  fn_pure hm0 hng0 hΓ308 (t := [(11, fnOf [] (.one .bool) p311), (14, fnOf [(.pair (.int .i64) (.pair (.int .i64) (.pair (.slice (.pair (.int .i64) (.pair (.int .i64) (.pair .bool (.pair (.arr 4 (.int .u64)) .unit))))) (.pair (.slice (.int .i64)) .unit))))] (.one .bool) p314), (15, fnOf [(.pair (.int .i64) (.pair (.int .i64) (.pair (.slice (.pair (.int .i64) (.pair (.int .i64) (.pair .bool (.pair (.arr 4 (.int .u64)) .unit))))) (.pair (.slice (.int .i64)) .unit)))), (.slice (.int .i64))] (.one (.slice (.int .i64))) p41), (18, fnOf [(.pair (.int .i64) (.pair (.int .i64) (.pair (.slice (.pair (.int .i64) (.pair (.int .i64) (.pair .bool (.pair (.arr 4 (.int .u64)) .unit))))) (.pair (.slice (.int .i64)) .unit)))), (.slice (.int .i64)), (.int .u8)] (.one (.slice (.int .i64))) p43), (20, fnOf [(.pair (.int .i64) (.pair (.int .i64) (.pair (.slice (.pair (.int .i64) (.pair (.int .i64) (.pair .bool (.pair (.arr 4 (.int .u64)) .unit))))) (.pair (.slice (.int .i64)) .unit)))), .str] (.one (.int .i64)) p320), (22, fnOf [(.pair (.int .i64) (.pair (.int .i64) (.pair (.slice (.pair (.int .i64) (.pair (.int .i64) (.pair .bool (.pair (.arr 4 (.int .u64)) .unit))))) (.pair (.slice (.int .i64)) .unit)))), (.slice (.int .i64))] (.one (.int .i64)) p52)]) (all_cons s311 (all_cons s314 (all_cons s41 (all_cons s43 (all_cons s320 (all_cons s52 all_nil)))))) (ls := [EL308_8, EL308_12]) (cmds := []) (leaves := []) (fr := []) (pt := []) (D := 1) (all_cons cL308_8 (all_cons cL308_12 all_nil)) (by kernel_rfl) (hfr := all_nil) fun x r h => by
    obtain ⟨x0, x1, x2, ⟨⟩⟩ := x
    refine Eq.trans ?_ h
    kernel_rfl

end Go.AM

/- Functions in pure form: each is sound over the program. -/
namespace Go.AM
open Go Go.Proofs

noncomputable def L350_19 (E50 : ((Rx) × (Int) × Unit) → Option (Bool)) : Nat → (((Int) × Unit × (Int) × (Int) × Unit) × (((Int) × (Int) × (Int) × (Int) × (Int) × (List (Rx)) × Unit) × Unit)) → Option ((((Bool) × Unit) × (Unit)) ⊕ ((Unit) × (Unit)))
  | 0, _ => none
  | n + 1, ((x1, _, x5, x6, ()), (y2, ())) =>
    if (decide (x6 < x5)) = true then
      if decide (0 ≤ x6 ∧ x6 < (y2.2.2.2.2.2.1.length : Int)) = true then
        (E50 ((Rx.mk (y2.2.2.2.2.2.1.getD x6.toNat (Rx.mk 0 [0, 0, 0, 0] [])).kind [((y2.2.2.2.2.2.1.getD x6.toNat (Rx.mk 0 [0, 0, 0, 0] [])).set.getD 0 0), ((y2.2.2.2.2.2.1.getD x6.toNat (Rx.mk 0 [0, 0, 0, 0] [])).set.getD 1 0), ((y2.2.2.2.2.2.1.getD x6.toNat (Rx.mk 0 [0, 0, 0, 0] [])).set.getD 2 0), ((y2.2.2.2.2.2.1.getD x6.toNat (Rx.mk 0 [0, 0, 0, 0] [])).set.getD 3 0)] (y2.2.2.2.2.2.1.getD x6.toNat (Rx.mk 0 [0, 0, 0, 0] [])).kids), (IntKind.i64.wrap (x1 + (1 : Int))), ())).bind fun c1 =>
        if (!c1) = true then
          some (.inl ((false, ()), ()))
        else
          L350_19 E50 n ((x1, (), x5, (IntKind.i64.wrap (x6 + (1 : Int))), ()), ((y2.1, y2.2.1, y2.2.2.1, y2.2.2.2.1, y2.2.2.2.2.1, y2.2.2.2.2.2.1, ()), ()))
      else
        none
    else
      some (.inr ((), ()))

noncomputable def EL350_19 (E50 : ((Rx) × (Int) × Unit) → Option (Bool)) : LoopEnt := ⟨[50], 19, ⟨[], [1, 2, 5, 6], [2]⟩, [.kd (.int .i64), .ptr 2 0, .kd (.int .i64), .kd (.int .i64)], [.box [.kd (.int .i64), .kd (.int .u64), .kd (.int .u64), .kd (.int .u64), .kd (.int .u64), .kd (.slice .rx)]], [⟨.ret, [4], [.kd .bool], [], []⟩, ⟨(.exit 1), [], [], [], []⟩], limit (L350_19 E50)⟩

noncomputable def O350 (E50 : ((Rx) × (Int) × Unit) → Option (Bool)) : Orc := mkOrc [(50, fnOf [.rx, (.int .i64)] (.one .bool) E50)] [(EL350_19 E50)] [] [] []

theorem cL350_19 (E50 : ((Rx) × (Int) × Unit) → Option (Bool)) : LoopCert Try.prog (O350 E50) Γ0 1 (EL350_19 E50) :=
  ⟨⟨50, 0, (L350_19 E50), rfl, by kernel_rfl, Nat.le_of_ble_eq_true (by kernel_rfl), limit_fn, fun _ => rfl, fun m old x r h => by
    obtain ⟨⟨x1, x2, x5, x6, ⟨⟩⟩, y2, ⟨⟩⟩ := x
    refine Eq.trans ?_ h
    kernel_rfl⟩⟩

/-- emendate/emendateref08.valid -/
noncomputable def p350b (E50 : ((Rx) × (Int) × Unit) → Option (Bool)) : ((Rx) × (Int) × Unit) → Option (Bool)
  | (x0, x1, ()) =>
    if (decide (x1 ≥ (30 : Int))) = true then
      some false
    else
      if (!decide (x0.kind = (3 : Int))) = true then
        if (!(Kind.eqB (.arr 4 (.int .u64)) [(x0.set.getD 0 0), (x0.set.getD 1 0), (x0.set.getD 2 0), (x0.set.getD 3 0)] [(0 : Int), (0 : Int), (0 : Int), (0 : Int)])) = true then
          some false
        else
          if (decide (x0.kind = (1 : Int))) = true then
            some (decide ((x0.kids.length : Int) = (0 : Int)))
          else
            if (decide (x0.kind = (2 : Int))) = true then
              some (decide ((x0.kids.length : Int) = (0 : Int)))
            else
              if (decide (x0.kind = (3 : Int))) = true then
                if (decide ((x0.kids.length : Int) = (0 : Int))) = true then
                  some (!(Kind.eqB (.arr 4 (.int .u64)) [(x0.set.getD 0 0), (x0.set.getD 1 0), (x0.set.getD 2 0), (x0.set.getD 3 0)] [(0 : Int), (0 : Int), (0 : Int), (0 : Int)]))
                else
                  some false
              else
                if (decide (x0.kind = (4 : Int))) = true then
                  if (decide ((x0.kids.length : Int) < (2 : Int))) = true then
                    some false
                  else
                    (limit (L350_19 E50) ((x1, (), (x0.kids.length : Int), (0 : Int), ()), ((x0.kind, (x0.set.getD 0 0), (x0.set.getD 1 0), (x0.set.getD 2 0), (x0.set.getD 3 0), x0.kids, ()), ()))).bind (Sum.elim (fun r1 =>
                      some r1.1.1) (fun _ =>
                      some true))
                else
                  if (decide (x0.kind = (5 : Int))) = true then
                    if (decide ((x0.kids.length : Int) < (2 : Int))) = true then
                      some false
                    else
                      (limit (L350_19 E50) ((x1, (), (x0.kids.length : Int), (0 : Int), ()), ((x0.kind, (x0.set.getD 0 0), (x0.set.getD 1 0), (x0.set.getD 2 0), (x0.set.getD 3 0), x0.kids, ()), ()))).bind (Sum.elim (fun r2 =>
                        some r2.1.1) (fun _ =>
                        some true))
                  else
                    if (decide (x0.kind = (6 : Int))) = true then
                      if (!decide ((x0.kids.length : Int) = (1 : Int))) = true then
                        some false
                      else
                        (limit (L350_19 E50) ((x1, (), (x0.kids.length : Int), (0 : Int), ()), ((x0.kind, (x0.set.getD 0 0), (x0.set.getD 1 0), (x0.set.getD 2 0), (x0.set.getD 3 0), x0.kids, ()), ()))).bind (Sum.elim (fun r3 =>
                          some r3.1.1) (fun _ =>
                          some true))
                    else
                      some false
      else
        if (decide (x0.kind = (1 : Int))) = true then
          some (decide ((x0.kids.length : Int) = (0 : Int)))
        else
          if (decide (x0.kind = (2 : Int))) = true then
            some (decide ((x0.kids.length : Int) = (0 : Int)))
          else
            if (decide (x0.kind = (3 : Int))) = true then
              if (decide ((x0.kids.length : Int) = (0 : Int))) = true then
                some (!(Kind.eqB (.arr 4 (.int .u64)) [(x0.set.getD 0 0), (x0.set.getD 1 0), (x0.set.getD 2 0), (x0.set.getD 3 0)] [(0 : Int), (0 : Int), (0 : Int), (0 : Int)]))
              else
                some false
            else
              if (decide (x0.kind = (4 : Int))) = true then
                if (decide ((x0.kids.length : Int) < (2 : Int))) = true then
                  some false
                else
                  (limit (L350_19 E50) ((x1, (), (x0.kids.length : Int), (0 : Int), ()), ((x0.kind, (x0.set.getD 0 0), (x0.set.getD 1 0), (x0.set.getD 2 0), (x0.set.getD 3 0), x0.kids, ()), ()))).bind (Sum.elim (fun r4 =>
                    some r4.1.1) (fun _ =>
                    some true))
              else
                if (decide (x0.kind = (5 : Int))) = true then
                  if (decide ((x0.kids.length : Int) < (2 : Int))) = true then
                    some false
                  else
                    (limit (L350_19 E50) ((x1, (), (x0.kids.length : Int), (0 : Int), ()), ((x0.kind, (x0.set.getD 0 0), (x0.set.getD 1 0), (x0.set.getD 2 0), (x0.set.getD 3 0), x0.kids, ()), ()))).bind (Sum.elim (fun r5 =>
                      some r5.1.1) (fun _ =>
                      some true))
                else
                  if (decide (x0.kind = (6 : Int))) = true then
                    if (!decide ((x0.kids.length : Int) = (1 : Int))) = true then
                      some false
                    else
                      (limit (L350_19 E50) ((x1, (), (x0.kids.length : Int), (0 : Int), ()), ((x0.kind, (x0.set.getD 0 0), (x0.set.getD 1 0), (x0.set.getD 2 0), (x0.set.getD 3 0), x0.kids, ()), ()))).bind (Sum.elim (fun r6 =>
                        some r6.1.1) (fun _ =>
                        some true))
                  else
                    some false

theorem s350b (E50 : ((Rx) × (Int) × Unit) → Option (Bool)) (hE50 : SoundFn Try.prog 50 (fnOf [.rx, (.int .i64)] (.one .bool) E50)) : SoundFn Try.prog 50 (fnOf [.rx, (.int .i64)] (.one .bool) (p350b E50)) :=
  fn_pure hm0 hng0 hΓ0 (t := [(50, fnOf [.rx, (.int .i64)] (.one .bool) E50)]) (all_cons hE50 all_nil) (ls := [(EL350_19 E50)]) (cmds := []) (leaves := []) (fr := []) (pt := []) (D := 1) (all_cons (cL350_19 E50) all_nil) (by kernel_rfl) (hfr := all_nil) fun x r h => by
    obtain ⟨x0, x1, ⟨⟩⟩ := x
    refine Eq.trans ?_ h
    kernel_rfl

noncomputable def p350n : Nat → ((Rx) × (Int) × Unit) → Option (Bool)
  | 0, _ => none
  | n + 1, x => p350b (p350n n) x

theorem s350n : ∀ n, SoundFn Try.prog 50 (fnOf [.rx, (.int .i64)] (.one .bool) (p350n n)) :=
  fn_rec hng0 (by kernel_rfl) (fun _ => rfl) fun n h => s350b (p350n n) h

noncomputable def p350 : ((Rx) × (Int) × Unit) → Option (Bool) := limit p350n

theorem s350 : SoundFn Try.prog 50 (fnOf [.rx, (.int .i64)] (.one .bool) p350) := s350n fuel

noncomputable def O338 : Orc := mkOrc [(50, fnOf [.rx, (.int .i64)] (.one .bool) p350)] [] [] [] []

/-- emendate/emendateref08.Valid -/
noncomputable def p338 : ((Rx) × Unit) → Option (Bool)
  | (x0, ()) =>
    (p350 ((Rx.mk x0.kind [(x0.set.getD 0 0), (x0.set.getD 1 0), (x0.set.getD 2 0), (x0.set.getD 3 0)] x0.kids), (0 : Int), ())).bind fun c1 =>
    some c1

theorem s338 : SoundFn Try.prog 38 (fnOf [.rx] (.one .bool) p338) :=
  fn_pure hm0 hng0 hΓ0 (t := [(50, fnOf [.rx, (.int .i64)] (.one .bool) p350)]) (all_cons s350 all_nil) (ls := []) (cmds := []) (leaves := []) (fr := []) (pt := []) (D := 1) all_nil (by kernel_rfl) (hfr := all_nil) fun x r h => by
    obtain ⟨x0, ⟨⟩⟩ := x
    refine Eq.trans ?_ h
    kernel_rfl

noncomputable def L339_3 (E39 : ((Rx) × Unit) → Option (Int)) : Nat → ((Unit × (Int) × (Int) × Unit) × (((Int) × (Int) × (Int) × (Int) × (Int) × (List (Rx)) × Unit) × Unit)) → Option (((Int) × Unit) × (Unit))
  | 0, _ => none
  | n + 1, ((_, x3, x4, ()), (y1, ())) =>
    if (decide (x4 < (y1.2.2.2.2.2.1.length : Int))) = true then
      if decide (0 ≤ x4 ∧ x4 < (y1.2.2.2.2.2.1.length : Int)) = true then
        (E39 ((Rx.mk (y1.2.2.2.2.2.1.getD x4.toNat (Rx.mk 0 [0, 0, 0, 0] [])).kind [((y1.2.2.2.2.2.1.getD x4.toNat (Rx.mk 0 [0, 0, 0, 0] [])).set.getD 0 0), ((y1.2.2.2.2.2.1.getD x4.toNat (Rx.mk 0 [0, 0, 0, 0] [])).set.getD 1 0), ((y1.2.2.2.2.2.1.getD x4.toNat (Rx.mk 0 [0, 0, 0, 0] [])).set.getD 2 0), ((y1.2.2.2.2.2.1.getD x4.toNat (Rx.mk 0 [0, 0, 0, 0] [])).set.getD 3 0)] (y1.2.2.2.2.2.1.getD x4.toNat (Rx.mk 0 [0, 0, 0, 0] [])).kids), ())).bind fun c1 =>
        L339_3 E39 n (((), (IntKind.i64.wrap (x3 + c1)), (IntKind.i64.wrap (x4 + (1 : Int))), ()), ((y1.1, y1.2.1, y1.2.2.1, y1.2.2.2.1, y1.2.2.2.2.1, y1.2.2.2.2.2.1, ()), ()))
      else
        none
    else
      some ((x3, ()), ())

noncomputable def EL339_3 (E39 : ((Rx) × Unit) → Option (Int)) : LoopEnt := ⟨[39], 3, ⟨[], [1, 3, 4], [1]⟩, [.ptr 1 0, .kd (.int .i64), .kd (.int .i64)], [.box [.kd (.int .i64), .kd (.int .u64), .kd (.int .u64), .kd (.int .u64), .kd (.int .u64), .kd (.slice .rx)]], [⟨(.exit 0), [3], [.kd (.int .i64)], [], []⟩], limit (L339_3 E39)⟩

noncomputable def O339 (E39 : ((Rx) × Unit) → Option (Int)) : Orc := mkOrc [(39, fnOf [.rx] (.one (.int .i64)) E39)] [(EL339_3 E39)] [] [] []

theorem cL339_3 (E39 : ((Rx) × Unit) → Option (Int)) : LoopCert Try.prog (O339 E39) Γ0 1 (EL339_3 E39) :=
  ⟨⟨39, 0, (L339_3 E39), rfl, by kernel_rfl, Nat.le_of_ble_eq_true (by kernel_rfl), limit_fn, fun _ => rfl, fun m old x r h => by
    obtain ⟨⟨x1, x3, x4, ⟨⟩⟩, y1, ⟨⟩⟩ := x
    refine Eq.trans ?_ h
    kernel_rfl⟩⟩

/-- emendate/emendateref09.Nodes -/
noncomputable def p339b (E39 : ((Rx) × Unit) → Option (Int)) : ((Rx) × Unit) → Option (Int)
  | (x0, ()) =>
    (limit (L339_3 E39) (((), (1 : Int), (0 : Int), ()), ((x0.kind, (x0.set.getD 0 0), (x0.set.getD 1 0), (x0.set.getD 2 0), (x0.set.getD 3 0), x0.kids, ()), ()))).bind fun r1 =>
    some r1.1.1

theorem s339b (E39 : ((Rx) × Unit) → Option (Int)) (hE39 : SoundFn Try.prog 39 (fnOf [.rx] (.one (.int .i64)) E39)) : SoundFn Try.prog 39 (fnOf [.rx] (.one (.int .i64)) (p339b E39)) :=
  fn_pure hm0 hng0 hΓ0 (t := [(39, fnOf [.rx] (.one (.int .i64)) E39)]) (all_cons hE39 all_nil) (ls := [(EL339_3 E39)]) (cmds := []) (leaves := []) (fr := []) (pt := []) (D := 1) (all_cons (cL339_3 E39) all_nil) (by kernel_rfl) (hfr := all_nil) fun x r h => by
    obtain ⟨x0, ⟨⟩⟩ := x
    refine Eq.trans ?_ h
    kernel_rfl

noncomputable def p339n : Nat → ((Rx) × Unit) → Option (Int)
  | 0, _ => none
  | n + 1, x => p339b (p339n n) x

theorem s339n : ∀ n, SoundFn Try.prog 39 (fnOf [.rx] (.one (.int .i64)) (p339n n)) :=
  fn_rec hng0 (by kernel_rfl) (fun _ => rfl) fun n h => s339b (p339n n) h

noncomputable def p339 : ((Rx) × Unit) → Option (Int) := limit p339n

theorem s339 : SoundFn Try.prog 39 (fnOf [.rx] (.one (.int .i64)) p339) := s339n fuel

noncomputable def L328_3 : Nat → (((List (Rx)) × (Int) × (Int) × Unit) × (Unit)) → Option ((((Int) × Unit) × (Unit)) ⊕ (((Int) × Unit) × (Unit)))
  | 0, _ => none
  | n + 1, ((x0, x3, x4, ()), ()) =>
    if (decide (x4 < (x0.length : Int))) = true then
      if decide (0 ≤ x4 ∧ x4 < (x0.length : Int)) = true then
        (p338 ((Rx.mk (x0.getD x4.toNat (Rx.mk 0 [0, 0, 0, 0] [])).kind [((x0.getD x4.toNat (Rx.mk 0 [0, 0, 0, 0] [])).set.getD 0 0), ((x0.getD x4.toNat (Rx.mk 0 [0, 0, 0, 0] [])).set.getD 1 0), ((x0.getD x4.toNat (Rx.mk 0 [0, 0, 0, 0] [])).set.getD 2 0), ((x0.getD x4.toNat (Rx.mk 0 [0, 0, 0, 0] [])).set.getD 3 0)] (x0.getD x4.toNat (Rx.mk 0 [0, 0, 0, 0] [])).kids), ())).bind fun c1 =>
        if (!c1) = true then
          some (.inl (((1 : Int), ()), ()))
        else
          if decide (0 ≤ x4 ∧ x4 < (x0.length : Int)) = true then
            (p339 ((Rx.mk (x0.getD x4.toNat (Rx.mk 0 [0, 0, 0, 0] [])).kind [((x0.getD x4.toNat (Rx.mk 0 [0, 0, 0, 0] [])).set.getD 0 0), ((x0.getD x4.toNat (Rx.mk 0 [0, 0, 0, 0] [])).set.getD 1 0), ((x0.getD x4.toNat (Rx.mk 0 [0, 0, 0, 0] [])).set.getD 2 0), ((x0.getD x4.toNat (Rx.mk 0 [0, 0, 0, 0] [])).set.getD 3 0)] (x0.getD x4.toNat (Rx.mk 0 [0, 0, 0, 0] [])).kids), ())).bind fun c2 =>
            L328_3 n ((x0, (IntKind.i64.wrap (x3 + c2)), (IntKind.i64.wrap (x4 + (1 : Int))), ()), ())
          else
            none
      else
        none
    else
      some (.inr ((x3, ()), ()))

noncomputable def EL328_3 : LoopEnt := ⟨[28], 3, ⟨[], [0, 3, 4], []⟩, [.kd (.slice .rx), .kd (.int .i64), .kd (.int .i64)], [], [⟨.ret, [2], [.kd (.int .i64)], [], []⟩, ⟨(.exit 0), [3], [.kd (.int .i64)], [], []⟩], limit L328_3⟩

noncomputable def O328 : Orc := mkOrc [(38, fnOf [.rx] (.one .bool) p338), (39, fnOf [.rx] (.one (.int .i64)) p339)] [EL328_3] [] [] []

theorem cL328_3 : LoopCert Try.prog O328 Γ0 1 EL328_3 :=
  ⟨⟨28, 0, L328_3, rfl, by kernel_rfl, by decide, limit_fn, fun _ => rfl, fun m old x r h => by
    obtain ⟨⟨x0, x3, x4, ⟨⟩⟩, ⟨⟩⟩ := x
    refine Eq.trans ?_ h
    kernel_rfl⟩⟩

/-- emendate/emendateref09.Check -/
noncomputable def p328 : ((List (Rx)) × Unit) → Option (Int)
  | (x0, ()) =>
    (limit L328_3 ((x0, (0 : Int), (0 : Int), ()), ())).bind (Sum.elim (fun r1 =>
      some r1.1.1) (fun r1 =>
      if (decide (r1.1.1 > (500 : Int))) = true then
        some (11 : Int)
      else
        some (0 : Int)))

theorem s328 : SoundFn Try.prog 28 (fnOf [(.slice .rx)] (.one (.int .i64)) p328) :=
  fn_pure hm0 hng0 hΓ0 (t := [(38, fnOf [.rx] (.one .bool) p338), (39, fnOf [.rx] (.one (.int .i64)) p339)]) (all_cons s338 (all_cons s339 all_nil)) (ls := [EL328_3]) (cmds := []) (leaves := []) (fr := []) (pt := []) (D := 1) (all_cons cL328_3 all_nil) (by kernel_rfl) (hfr := all_nil) fun x r h => by
    obtain ⟨x0, ⟨⟩⟩ := x
    refine Eq.trans ?_ h
    kernel_rfl

noncomputable def L323_4 : Nat → (((List (Rx)) × (Int) × Unit) × (Unit)) → Option ((((Bool) × Unit) × (Unit)) ⊕ ((Unit) × (Unit)))
  | 0, _ => none
  | n + 1, ((x0, x3, ()), ()) =>
    if (decide (x3 < (x0.length : Int))) = true then
      if decide (0 ≤ x3 ∧ x3 < (x0.length : Int)) = true then
        (p338 ((Rx.mk (x0.getD x3.toNat (Rx.mk 0 [0, 0, 0, 0] [])).kind [((x0.getD x3.toNat (Rx.mk 0 [0, 0, 0, 0] [])).set.getD 0 0), ((x0.getD x3.toNat (Rx.mk 0 [0, 0, 0, 0] [])).set.getD 1 0), ((x0.getD x3.toNat (Rx.mk 0 [0, 0, 0, 0] [])).set.getD 2 0), ((x0.getD x3.toNat (Rx.mk 0 [0, 0, 0, 0] [])).set.getD 3 0)] (x0.getD x3.toNat (Rx.mk 0 [0, 0, 0, 0] [])).kids), ())).bind fun c1 =>
        if (!c1) = true then
          some (.inl ((false, ()), ()))
        else
          if decide (0 ≤ x3 ∧ x3 < (x0.length : Int)) = true then
            (p339 ((Rx.mk (x0.getD x3.toNat (Rx.mk 0 [0, 0, 0, 0] [])).kind [((x0.getD x3.toNat (Rx.mk 0 [0, 0, 0, 0] [])).set.getD 0 0), ((x0.getD x3.toNat (Rx.mk 0 [0, 0, 0, 0] [])).set.getD 1 0), ((x0.getD x3.toNat (Rx.mk 0 [0, 0, 0, 0] [])).set.getD 2 0), ((x0.getD x3.toNat (Rx.mk 0 [0, 0, 0, 0] [])).set.getD 3 0)] (x0.getD x3.toNat (Rx.mk 0 [0, 0, 0, 0] [])).kids), ())).bind fun c2 =>
            if (decide (c2 > (30 : Int))) = true then
              some (.inl ((false, ()), ()))
            else
              L323_4 n ((x0, (IntKind.i64.wrap (x3 + (1 : Int))), ()), ())
          else
            none
      else
        none
    else
      some (.inr ((), ()))

noncomputable def EL323_4 : LoopEnt := ⟨[23], 4, ⟨[], [0, 3], []⟩, [.kd (.slice .rx), .kd (.int .i64)], [], [⟨.ret, [2], [.kd .bool], [], []⟩, ⟨(.exit 0), [], [], [], []⟩], limit L323_4⟩

noncomputable def O323 : Orc := mkOrc [(38, fnOf [.rx] (.one .bool) p338), (39, fnOf [.rx] (.one (.int .i64)) p339)] [EL323_4] [] [] []

theorem cL323_4 : LoopCert Try.prog O323 Γ0 1 EL323_4 :=
  ⟨⟨23, 0, L323_4, rfl, by kernel_rfl, by decide, limit_fn, fun _ => rfl, fun m old x r h => by
    obtain ⟨⟨x0, x3, ⟨⟩⟩, ⟨⟩⟩ := x
    refine Eq.trans ?_ h
    kernel_rfl⟩⟩

/-- emendate/emendatelaw09.few -/
noncomputable def p323 : ((List (Rx)) × Unit) → Option (Bool)
  | (x0, ()) =>
    if (decide ((x0.length : Int) > (6 : Int))) = true then
      some false
    else
      (limit L323_4 ((x0, (0 : Int), ()), ())).bind (Sum.elim (fun r1 =>
        some r1.1.1) (fun _ =>
        some true))

theorem s323 : SoundFn Try.prog 23 (fnOf [(.slice .rx)] (.one .bool) p323) :=
  fn_pure hm0 hng0 hΓ0 (t := [(38, fnOf [.rx] (.one .bool) p338), (39, fnOf [.rx] (.one (.int .i64)) p339)]) (all_cons s338 (all_cons s339 all_nil)) (ls := [EL323_4]) (cmds := []) (leaves := []) (fr := []) (pt := []) (D := 1) (all_cons cL323_4 all_nil) (by kernel_rfl) (hfr := all_nil) fun x r h => by
    obtain ⟨x0, ⟨⟩⟩ := x
    refine Eq.trans ?_ h
    kernel_rfl

noncomputable def O310 : Orc := mkOrc [(11, fnOf [] (.one .bool) p311), (12, fnOf [(.pair (.int .i64) (.pair (.int .i64) (.pair (.slice (.pair (.int .i64) (.pair (.int .i64) (.pair .bool (.pair (.arr 4 (.int .u64)) .unit))))) (.pair (.slice (.int .i64)) .unit))))] (.one .bool) p39), (24, fnOf [(.slice .rx)] (.tup [(.pair (.int .i64) (.pair (.int .i64) (.pair (.slice (.pair (.int .i64) (.pair (.int .i64) (.pair .bool (.pair (.arr 4 (.int .u64)) .unit))))) (.pair (.slice (.int .i64)) .unit)))), (.int .i64)]) p324), (28, fnOf [(.slice .rx)] (.one (.int .i64)) p328)] [] [] [] []

/-- emendate/emendatelaw09.NfaFromRegexesErrors -/
noncomputable def p310 : ((List (Rx)) × Unit) → Option (Bool)
  | (x0, ()) =>
    (p311 (())).bind fun c1 =>
    if (!c1) = true then
      some false
    else
      if (decide ((x0.length : Int) > (40 : Int))) = true then
        some true
      else
        (p324 (x0, ())).bind fun c2 =>
        (p328 (x0, ())).bind fun c3 =>
        if (decide (c2.2.1 = c3)) = true then
          (p39 ((c2.1.1, (c2.1.2.1, (c2.1.2.2.1, (c2.1.2.2.2.1, ())))), ())).bind fun c4 =>
          some ((decide (c2.2.1 = (0 : Int))) == c4)
        else
          some false

theorem s310 : SoundFn Try.prog 10 (fnOf [(.slice .rx)] (.one .bool) p310) :=
  fn_pure hm0 hng0 hΓ0 (t := [(11, fnOf [] (.one .bool) p311), (12, fnOf [(.pair (.int .i64) (.pair (.int .i64) (.pair (.slice (.pair (.int .i64) (.pair (.int .i64) (.pair .bool (.pair (.arr 4 (.int .u64)) .unit))))) (.pair (.slice (.int .i64)) .unit))))] (.one .bool) p39), (24, fnOf [(.slice .rx)] (.tup [(.pair (.int .i64) (.pair (.int .i64) (.pair (.slice (.pair (.int .i64) (.pair (.int .i64) (.pair .bool (.pair (.arr 4 (.int .u64)) .unit))))) (.pair (.slice (.int .i64)) .unit)))), (.int .i64)]) p324), (28, fnOf [(.slice .rx)] (.one (.int .i64)) p328)]) (all_cons s311 (all_cons s39 (all_cons s324 (all_cons s328 all_nil)))) (ls := []) (cmds := []) (leaves := []) (fr := []) (pt := []) (D := 1) all_nil (by kernel_rfl) (hfr := all_nil) fun x r h => by
    obtain ⟨x0, ⟨⟩⟩ := x
    refine Eq.trans ?_ h
    kernel_rfl

end Go.AM

/- Validity and the number of nodes: the program's and the reference's functions. -/
namespace Go.AM
open Go

mutual
/-- four words in each set, no list of kids beyond what a slice holds -/
def wfR : Rx → Prop
  | .mk _ s ks => s.length = 4 ∧ ks.length ≤ maxLen ∧ wfRL ks
def wfRL : List Rx → Prop
  | [] => True
  | r :: rs => wfR r ∧ wfRL rs
end

theorem wfRL_mem : ∀ {l : List Rx}, wfRL l → ∀ r ∈ l, wfR r
  | r :: l, h, x, hx => by
    unfold wfRL at h
    rcases List.mem_cons.1 hx with rfl | hx
    · exact h.1
    · exact wfRL_mem h.2 x hx

theorem wfR.four {r : Rx} (h : wfR r) : r.set.length = 4 := by obtain ⟨k, s, ks⟩ := r; unfold wfR at h; exact h.1
theorem wfR.kl {r : Rx} (h : wfR r) : r.kids.length ≤ maxLen := by obtain ⟨k, s, ks⟩ := r; unfold wfR at h; exact h.2.1
theorem wfR.kids {r : Rx} (h : wfR r) : ∀ k ∈ r.kids, wfR k := by obtain ⟨k, s, ks⟩ := r; unfold wfR at h; exact wfRL_mem h.2.2

theorem kl62 {r : Rx} (h : wfR r) : r.kids.length ≤ 9223372036854775807 := Nat.le_trans h.kl (by unfold maxLen; omega)

section
variable {E : (Rx × Int × Unit) → Option Bool}

theorem l351 {q : Rx → Prop} (x1 : Int) (ks : List Rx) (hl : ks.length ≤ 9223372036854775807) (hw : ∀ k ∈ ks, wfR k) (hE : ∀ k ∈ ks, ∃ b, E (k, IntKind.i64.wrap (x1 - 1), ()) = some b ∧ (b = true ↔ q k)) :
    ∃ r, limit (L351_17 E) ((x1, ks, (ks.length : Int), (0 : Int), ()), ()) = some r ∧ ((r = .inr ((), ()) ∧ ∀ k ∈ ks, q k) ∨ (r = .inl ((false, ()), ()) ∧ ¬ ∀ k ∈ ks, q k)) := by
  refine state_rule (L := L351_17 E) (σ := Nat) (fun i => ((x1, ks, (ks.length : Int), (i : Int), ()), ())) (fun i => i ≤ ks.length ∧ ∀ j, j < i → q (ks.getD j rxd)) (fun i => ks.length - i)
    (fun r => (r = .inr ((), ()) ∧ ∀ k ∈ ks, q k) ∨ (r = .inl ((false, ()), ()) ∧ ¬ ∀ k ∈ ks, q k)) 0 ⟨Nat.zero_le _, fun j h => absurd h (Nat.not_lt_zero j)⟩ (by show _ - 0 < _; omega) ?_
  rintro i ⟨hi, hall⟩
  by_cases hlt : i < ks.length
  · have hm : ks.getD i rxd ∈ ks := getD_mem hlt
    obtain ⟨b, e1, e2⟩ := hE _ hm
    have hn := nrm_eq (hw _ hm).four
    unfold nrm at hn
    cases b with
    | true =>
      right
      refine ⟨i + 1, ⟨hlt, fun j hj => ?_⟩, by omega, fun n => ?_⟩
      · by_cases e : j = i
        · subst e; exact e2.1 rfl
        · exact hall j (by omega)
      · simp only [L351_17, Int.toNat_natCast]
        rw [if_pos (lt_nat hlt), if_pos (in_range hlt), hn, e1, Option.bind_some, if_neg (by decide), wrap_nat (by omega)]
    | false =>
      left
      refine ⟨_, .inr ⟨rfl, fun h => ?_⟩, fun n => ?_⟩
      · have := e2.2 (h _ hm); cases this
      · simp only [L351_17, Int.toNat_natCast]
        rw [if_pos (lt_nat hlt), if_pos (in_range hlt), hn, e1, Option.bind_some, if_pos (by decide)]
  · left
    have : i = ks.length := by omega
    subst this
    refine ⟨_, .inl ⟨rfl, all_getD.2 hall⟩, fun n => ?_⟩
    simp only [L351_17]
    rw [if_neg nlt_nat]

theorem l350 {q : Rx → Prop} (x1 : Int) (r0 : Rx) (hl : r0.kids.length ≤ 9223372036854775807) (hw : ∀ k ∈ r0.kids, wfR k) (a b c d : Int) (hE : ∀ k ∈ r0.kids, ∃ b, E (k, IntKind.i64.wrap (x1 + 1), ()) = some b ∧ (b = true ↔ q k)) :
    ∃ r, limit (L350_19 E) ((x1, (), (r0.kids.length : Int), (0 : Int), ()), ((r0.kind, a, b, c, d, r0.kids, ()), ())) = some r ∧ ((r = .inr ((), ()) ∧ ∀ k ∈ r0.kids, q k) ∨ (r = .inl ((false, ()), ()) ∧ ¬ ∀ k ∈ r0.kids, q k)) := by
  obtain ⟨kd, st, ks⟩ := r0
  simp only [Rx.kind, Rx.kids] at hl hw hE ⊢
  refine state_rule (L := L350_19 E) (σ := Nat) (fun i => ((x1, (), (ks.length : Int), (i : Int), ()), ((kd, a, b, c, d, ks, ()), ()))) (fun i => i ≤ ks.length ∧ ∀ j, j < i → q (ks.getD j rxd)) (fun i => ks.length - i)
    (fun r => (r = .inr ((), ()) ∧ ∀ k ∈ ks, q k) ∨ (r = .inl ((false, ()), ()) ∧ ¬ ∀ k ∈ ks, q k)) 0 ⟨Nat.zero_le _, fun j h => absurd h (Nat.not_lt_zero j)⟩ (by show _ - 0 < _; omega) ?_
  rintro i ⟨hi, hall⟩
  by_cases hlt : i < ks.length
  · have hm : ks.getD i rxd ∈ ks := getD_mem hlt
    obtain ⟨bb, e1, e2⟩ := hE _ hm
    have hn := nrm_eq (hw _ hm).four
    unfold nrm at hn
    cases bb with
    | true =>
      right
      refine ⟨i + 1, ⟨hlt, fun j hj => ?_⟩, by omega, fun n => ?_⟩
      · by_cases e : j = i
        · subst e; exact e2.1 rfl
        · exact hall j (by omega)
      · simp only [L350_19, Int.toNat_natCast]
        rw [if_pos (lt_nat hlt), if_pos (in_range hlt), hn, e1, Option.bind_some, if_neg (by decide), wrap_nat (by omega)]
    | false =>
      left
      refine ⟨_, .inr ⟨rfl, fun h => ?_⟩, fun n => ?_⟩
      · have := e2.2 (h _ hm); cases this
      · simp only [L350_19, Int.toNat_natCast]
        rw [if_pos (lt_nat hlt), if_pos (in_range hlt), hn, e1, Option.bind_some, if_pos (by decide)]
  · left
    have : i = ks.length := by omega
    subst this
    refine ⟨_, .inl ⟨rfl, all_getD.2 hall⟩, fun n => ?_⟩
    simp only [L350_19]
    rw [if_neg nlt_nat]
end

/-- what the node says, once its kids are asked -/
def verdict (r : Rx) (k : Option Bool) : Option Bool := if nodeOk r = true then k else some false

theorem p351b_eq {E : (Rx × Int × Unit) → Option Bool} {r : Rx} {d : Int} (hd : d ≠ 0) : p351b E (r, d, ()) = verdict r ((limit (L351_17 E) ((d, r.kids, (r.kids.length : Int), (0 : Int), ()), ())).bind (Sum.elim (fun r1 => some r1.1.1) (fun _ => some true))) := by
  simp only [p351b, verdict, nodeOk, zset]
  rw [if_neg (cf hd)]
  rcases Bool.eq_false_or_eq_true (Kind.eqB (.arr 4 (.int .u64)) [r.set.getD 0 0, r.set.getD 1 0, r.set.getD 2 0, r.set.getD 3 0] [(0 : Int), (0 : Int), (0 : Int), (0 : Int)]) with hz | hz <;> simp only [hz] <;> clear hz
  all_goals
    generalize ((limit (L351_17 E) ((d, r.kids, (r.kids.length : Int), (0 : Int), ()), ())).bind (Sum.elim (fun r1 => some r1.1.1) (fun _ => some true))) = K
    generalize r.kids.length = n
    generalize r.kind = k
    by_cases h1 : k = 1
    · subst h1
      by_cases hn : n = 0 <;> simp [hn] <;> omega
    · by_cases h2 : k = 2
      · subst h2
        by_cases hn : n = 0 <;> simp [hn] <;> omega
      · by_cases h3 : k = 3
        · subst h3
          by_cases hn : n = 0 <;> simp [hn] <;> omega
        · by_cases h4 : k = 4
          · subst h4
            by_cases hn : 2 ≤ n <;> simp [hn] <;> omega
          · by_cases h5 : k = 5
            · subst h5
              by_cases hn : 2 ≤ n <;> simp [hn] <;> omega
            · by_cases h6 : k = 6
              · subst h6
                by_cases hn : n = 1 <;> simp [hn] <;> omega
              · simp [h1, h2, h3, h4, h5, h6]

theorem p350b_eq {E : (Rx × Int × Unit) → Option Bool} {r : Rx} {d : Int} (hd : d < 30) : p350b E (r, d, ()) = verdict r (if r.kids.length = 0 then some true else
    (limit (L350_19 E) ((d, (), (r.kids.length : Int), (0 : Int), ()), ((r.kind, (r.set.getD 0 0), (r.set.getD 1 0), (r.set.getD 2 0), (r.set.getD 3 0), r.kids, ()), ()))).bind (Sum.elim (fun r1 => some r1.1.1) (fun _ => some true))) := by
  simp only [p350b, verdict, nodeOk, zset]
  rw [if_neg (cf (by omega))]
  rcases Bool.eq_false_or_eq_true (Kind.eqB (.arr 4 (.int .u64)) [r.set.getD 0 0, r.set.getD 1 0, r.set.getD 2 0, r.set.getD 3 0] [(0 : Int), (0 : Int), (0 : Int), (0 : Int)]) with hz | hz <;> simp only [hz] <;> clear hz
  all_goals
    generalize ((limit (L350_19 E) ((d, (), (r.kids.length : Int), (0 : Int), ()), ((r.kind, (r.set.getD 0 0), (r.set.getD 1 0), (r.set.getD 2 0), (r.set.getD 3 0), r.kids, ()), ()))).bind (Sum.elim (fun r1 => some r1.1.1) (fun _ => some true))) = K
    generalize r.kids.length = n
    generalize r.kind = k
    by_cases h1 : k = 1
    · subst h1
      by_cases hn : n = 0 <;> simp [hn]
    · by_cases h2 : k = 2
      · subst h2
        by_cases hn : n = 0 <;> simp [hn]
      · by_cases h3 : k = 3
        · subst h3
          by_cases hn : n = 0 <;> simp [hn]
        · by_cases h4 : k = 4
          · subst h4
            by_cases hn : 2 ≤ n
            · have : ¬ n = 0 := by omega
              have : ¬ (n : Int) < 2 := by omega
              simp [*]
            · have : (n : Int) < 2 := by omega
              simp [*]
          · by_cases h5 : k = 5
            · subst h5
              by_cases hn : 2 ≤ n
              · have : ¬ n = 0 := by omega
                have : ¬ (n : Int) < 2 := by omega
                simp [*]
              · have : (n : Int) < 2 := by omega
                simp [*]
            · by_cases h6 : k = 6
              · subst h6
                by_cases hn : n = 1
                · simp [hn]
                · have : ¬ (n : Int) = 1 := by omega
                  simp [*]
              · simp [h1, h2, h3, h4, h5, h6]

theorem verdict_spec {q : Rx → Prop} {r : Rx} {k : Option Bool} (h : ∃ b, k = some b ∧ (b = true ↔ ∀ x ∈ r.kids, q x)) : ∃ b, verdict r k = some b ∧ (b = true ↔ nodeOk r = true ∧ ∀ x ∈ r.kids, q x) := by
  obtain ⟨b, rfl, h2⟩ := h
  unfold verdict
  split
  · rename_i hn
    exact ⟨b, rfl, by rw [h2]; simp [hn]⟩
  · rename_i hn
    exact ⟨false, rfl, by simp [hn]⟩

theorem p351_spec : ∀ (d m : Nat), d < m → d ≤ 30 → ∀ r : Rx, wfR r → ∃ b, p351n m (r, (d : Int), ()) = some b ∧ (b = true ↔ VR d r)
  | 0, m + 1, _, _, r, _ => ⟨false, by show p351b _ _ = _; simp only [p351b]; rw [if_pos (ct (by simp))], by simp [VR]⟩
  | d + 1, m + 1, hm, hd, r, hw => by
    have e : p351n (m + 1) (r, ((d + 1 : Nat) : Int), ()) = _ := p351b_eq (E := p351n m) (r := r) (d := ((d + 1 : Nat) : Int)) (by omega)
    rw [e]
    refine verdict_spec ?_
    have hwrap : IntKind.i64.wrap (((d + 1 : Nat) : Int) - 1) = (d : Int) := by rw [wrap_i64 (by omega) (by omega)]; omega
    obtain ⟨x, e1, h1⟩ := l351 (E := p351n m) (q := VR d) ((d + 1 : Nat) : Int) r.kids (kl62 hw) hw.kids (fun k hk => by rw [hwrap]; exact p351_spec d m (by omega) (by omega) k (hw.kids k hk))
    rw [e1]
    rcases h1 with ⟨rfl, h1⟩ | ⟨rfl, h1⟩
    · exact ⟨true, rfl, by simpa using h1⟩
    · exact ⟨false, rfl, by simpa using h1⟩

theorem p350_spec : ∀ (d m : Nat), d < m → d ≤ 30 → ∀ r : Rx, wfR r → ∃ b, p350n m (r, (30 - d : Int), ()) = some b ∧ (b = true ↔ VR d r)
  | 0, m + 1, _, _, r, _ => ⟨false, by show p350b _ _ = _; simp only [p350b]; rw [if_pos (ct (by omega))], by simp [VR]⟩
  | d + 1, m + 1, hm, hd, r, hw => by
    have e : p350n (m + 1) (r, (30 - ((d + 1 : Nat) : Int)), ()) = _ := p350b_eq (E := p350n m) (r := r) (d := (30 - ((d + 1 : Nat) : Int))) (by omega)
    rw [e]
    refine verdict_spec ?_
    by_cases h0 : r.kids.length = 0
    · rw [if_pos h0]
      exact ⟨true, rfl, by simp [List.length_eq_zero_iff.1 h0]⟩
    · rw [if_neg h0]
      have hwrap : IntKind.i64.wrap ((30 - ((d + 1 : Nat) : Int)) + 1) = (30 - (d : Int)) := by rw [wrap_i64 (by omega) (by omega)]; omega
      obtain ⟨x, e1, h1⟩ := l350 (E := p350n m) (q := VR d) (30 - ((d + 1 : Nat) : Int)) r (kl62 hw) hw.kids (r.set.getD 0 0) (r.set.getD 1 0) (r.set.getD 2 0) (r.set.getD 3 0) (fun k hk => by rw [hwrap]; exact p350_spec d m (by omega) (by omega) k (hw.kids k hk))
      rw [e1]
      rcases h1 with ⟨rfl, h1⟩ | ⟨rfl, h1⟩
      · exact ⟨true, rfl, by simpa using h1⟩
      · exact ⟨false, rfl, by simpa using h1⟩

theorem fuel_big : 1000 < fuel := by rw [fuel_eq]; omega

theorem p340_spec {r : Rx} (hw : wfR r) : ∃ b, p340 (r, ()) = some b ∧ (b = true ↔ VR 30 r) := by
  obtain ⟨b, h1, h2⟩ := p351_spec 30 fuel (by have := fuel_big; omega) (Nat.le_refl _) r hw
  refine ⟨b, ?_, h2⟩
  have hn := nrm_eq hw.four
  unfold nrm at hn
  simp only [p340, hn]
  have e : p351 (r, 30, ()) = some b := h1
  rw [e]; rfl

theorem p338_spec {r : Rx} (hw : wfR r) : ∃ b, p338 (r, ()) = some b ∧ (b = true ↔ VR 30 r) := by
  obtain ⟨b, h1, h2⟩ := p350_spec 30 fuel (by have := fuel_big; omega) (Nat.le_refl _) r hw
  refine ⟨b, ?_, h2⟩
  have hn := nrm_eq hw.four
  unfold nrm at hn
  simp only [p338, hn]
  have e : p350 (r, 0, ()) = some b := h1
  rw [e]; rfl

/-! ### the number of nodes -/

theorem nn_mk (r : Rx) : nn r = 1 + nnL r.kids := by obtain ⟨k, s, ks⟩ := r; rfl
theorem nn_le {r : Rx} {l : List Rx} (h : r ∈ l) : nn r ≤ nnL l := by
  induction l with
  | nil => cases h
  | cons x l ih =>
    unfold nnL
    rcases List.mem_cons.1 h with rfl | h
    · omega
    · have := ih h; omega
theorem nnL_take (l : List Rx) (i : Nat) : nnL (l.take i) ≤ nnL l := by
  have := nnL_append (l.take i) (l.drop i)
  rw [List.take_append_drop] at this
  omega
theorem nnL_snoc {l : List Rx} {i : Nat} (h : i < l.length) : nnL (l.take (i + 1)) = nnL (l.take i) + nn (l.getD i rxd) := by
  rw [take_snoc (d := rxd) h, nnL_append]; simp [nnL]

theorem p341_spec : ∀ (d m : Nat), d ≤ m → ∀ r : Rx, wfR r → VR d r → nn r ≤ 1152921504606846976 → p341n m (r, ()) = some (nn r : Int)
  | 0, _, _, _, _, h, _ => h.elim
  | d + 1, m + 1, hm, r, hw, hv, hn => by
    have hnn := nn_mk r
    have hk := nnL_take r.kids
    have h := for_rule (L := L341_3 (p341n m)) (N := r.kids.length) (S := fun i => ((((1 + nnL (r.kids.take i) : Nat) : Int), r.kids, (r.kids.length : Int), (i : Int), ()), ())) (r := (((nn r : Int), ()), ()))
      (fun i hi n => by
        have hmem : r.kids.getD i rxd ∈ r.kids := getD_mem hi
        have hne := nrm_eq (hw.kids _ hmem).four
        unfold nrm at hne
        have hle := nn_le hmem
        have e := p341_spec d m (by omega) _ (hw.kids _ hmem) (hv.2 _ hmem) (by omega)
        have := hk (i + 1)
        simp only [L341_3, Int.toNat_natCast]
        have hkl := kl62 hw
        rw [if_pos (lt_nat hi), if_pos (in_range hi), hne, e, Option.bind_some, wrap_nat (by omega), nnL_snoc hi, wrap_i64 (by omega) (by rw [nnL_snoc hi] at this; omega)]
        rw [show ((1 + nnL (r.kids.take i) : Nat) : Int) + (nn (r.kids.getD i rxd) : Int) = ((1 + (nnL (r.kids.take i) + nn (r.kids.getD i rxd)) : Nat) : Int) by omega])
      (fun n => by simp only [L341_3]; rw [if_neg nlt_nat, List.take_length, hnn]) (by have := kl62 hw; omega)
    show p341b (p341n m) (r, ()) = _
    simp only [p341b]
    have h' : limit (L341_3 (p341n m)) (((1 : Int), r.kids, (r.kids.length : Int), (0 : Int), ()), ()) = some (((nn r : Int), ()), ()) := h
    rw [h']
    rfl

theorem p339_spec : ∀ (d m : Nat), d ≤ m → ∀ r : Rx, wfR r → VR d r → nn r ≤ 1152921504606846976 → p339n m (r, ()) = some (nn r : Int)
  | 0, _, _, _, _, h, _ => h.elim
  | d + 1, m + 1, hm, r, hw, hv, hn => by
    have hnn := nn_mk r
    have hk := nnL_take r.kids
    have h := for_rule (L := L339_3 (p339n m)) (N := r.kids.length) (S := fun i => (((), ((1 + nnL (r.kids.take i) : Nat) : Int), (i : Int), ()), ((r.kind, (r.set.getD 0 0), (r.set.getD 1 0), (r.set.getD 2 0), (r.set.getD 3 0), r.kids, ()), ()))) (r := (((nn r : Int), ()), ()))
      (fun i hi n => by
        have hmem : r.kids.getD i rxd ∈ r.kids := getD_mem hi
        have hne := nrm_eq (hw.kids _ hmem).four
        unfold nrm at hne
        have hle := nn_le hmem
        have e := p339_spec d m (by omega) _ (hw.kids _ hmem) (hv.2 _ hmem) (by omega)
        have := hk (i + 1)
        simp only [L339_3, Int.toNat_natCast]
        have hkl := kl62 hw
        rw [if_pos (lt_nat hi), if_pos (in_range hi), hne, e, Option.bind_some, wrap_nat (by omega), nnL_snoc hi, wrap_i64 (by omega) (by rw [nnL_snoc hi] at this; omega)]
        rw [show ((1 + nnL (r.kids.take i) : Nat) : Int) + (nn (r.kids.getD i rxd) : Int) = ((1 + (nnL (r.kids.take i) + nn (r.kids.getD i rxd)) : Nat) : Int) by omega])
      (fun n => by simp only [L339_3]; rw [if_neg nlt_nat, List.take_length, hnn]) (by have := kl62 hw; omega)
    show p339b (p339n m) (r, ()) = _
    simp only [p339b]
    have h' : limit (L339_3 (p339n m)) (((), (1 : Int), (0 : Int), ()), ((r.kind, (r.set.getD 0 0), (r.set.getD 1 0), (r.set.getD 2 0), (r.set.getD 3 0), r.kids, ()), ())) = some (((nn r : Int), ()), ()) := h
    rw [h']
    rfl
end Go.AM
