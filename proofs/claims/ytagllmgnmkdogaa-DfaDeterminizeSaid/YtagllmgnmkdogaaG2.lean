/- Functions in pure form: each is sound over the program. -/
import Derived.Test.YtagllmgnmkdogaaG1
namespace Go.AM
open Go Go.Proofs

def Γ18 : TEnv := { Γ0 with imm := [107, 111] }
theorem hΓ18 : Γ18.ok Try.prog = true := hΓ0

noncomputable def L18_13 : Nat → ((Unit × Unit × Unit × (Int) × (Int) × (Int) × (Int) × (Bool) × (Int) × Unit) × (((List (Int)) × (List (List (Int))) × (List (Int)) × Unit) × ((List (Int)) × (List (List (Int))) × (List (Int)) × Unit) × (List ((Int) × ((Int) × ((List UInt8) × (Unit))))) × Unit)) → Option ((Unit × Unit × Unit × (Int) × (Int) × (Int) × (Int) × (Bool) × Unit) × (((List (Int)) × (List (List (Int))) × (List (Int)) × Unit) × ((List (Int)) × (List (List (Int))) × (List (Int)) × Unit) × (List ((Int) × ((Int) × ((List UInt8) × (Unit))))) × Unit))
  | 0, _ => none
  | n + 1, ((_, _, _, x7, x8, x9, x10, x11, x12, ()), (y2, y3, y6, ())) =>
    if (decide (x12 < (y6.length : Int))) = true then
      if (!x11) = true then
        if decide (0 ≤ x12 ∧ x12 < (y6.length : Int)) = true then
          if (decide ((y6.getD x12.toNat (0, (0, ([], ())))).1 = x9)) = true then
            if decide (0 ≤ x12 ∧ x12 < (y6.length : Int)) = true then
              L18_13 n (((), (), (), x7, x8, x9, x10, (decide ((y6.getD x12.toNat (0, (0, ([], ())))).2.1 = x10)), (IntKind.i64.wrap (x12 + (1 : Int))), ()), ((y2.1, y2.2.1, y2.2.2.1, ()), (y3.1, y3.2.1, y3.2.2.1, ()), y6, ()))
            else
              none
          else
            L18_13 n (((), (), (), x7, x8, x9, x10, false, (IntKind.i64.wrap (x12 + (1 : Int))), ()), ((y2.1, y2.2.1, y2.2.2.1, ()), (y3.1, y3.2.1, y3.2.2.1, ()), y6, ()))
        else
          none
      else
        some (((), (), (), x7, x8, x9, x10, x11, ()), ((y2.1, y2.2.1, y2.2.2.1, ()), (y3.1, y3.2.1, y3.2.2.1, ()), y6, ()))
    else
      some (((), (), (), x7, x8, x9, x10, x11, ()), ((y2.1, y2.2.1, y2.2.2.1, ()), (y3.1, y3.2.1, y3.2.2.1, ()), y6, ()))

noncomputable def EL18_13 : LoopEnt := ⟨[18], 13, ⟨[], [2, 3, 6, 7, 8, 9, 10, 11, 12], [2, 3, 6]⟩, [.ptr 2 0, .ptr 3 0, .ref 6, .kd (.int .i64), .kd (.int .i64), .kd (.int .i64), .kd (.int .i64), .kd .bool, .kd (.int .i64)], [.box [.kd (.slice (.int .i64)), .kd (.slice (.slice (.int .i64))), .kd (.slice (.int .i64))], .box [.kd (.slice (.int .i64)), .kd (.slice (.slice (.int .i64))), .kd (.slice (.int .i64))], .row (.pair (.int .i64) (.pair (.int .i64) (.pair .str .unit)))], [⟨(.exit 4), [2, 3, 6, 7, 8, 9, 10, 11], [.ptr 2 0, .ptr 3 0, .ref 6, .kd (.int .i64), .kd (.int .i64), .kd (.int .i64), .kd (.int .i64), .kd .bool], [2, 3, 6], [.box [.kd (.slice (.int .i64)), .kd (.slice (.slice (.int .i64))), .kd (.slice (.int .i64))], .box [.kd (.slice (.int .i64)), .kd (.slice (.slice (.int .i64))), .kd (.slice (.int .i64))], .row (.pair (.int .i64) (.pair (.int .i64) (.pair .str .unit)))]⟩], limit L18_13⟩

noncomputable def L18_8 : Nat → ((Unit × Unit × Unit × (Int) × (Int) × Unit) × (((List (Int)) × (List (List (Int))) × (List (Int)) × Unit) × ((List (Int)) × (List (List (Int))) × (List (Int)) × Unit) × (List ((Int) × ((Int) × ((List UInt8) × (Unit))))) × Unit)) → Option ((Unit × Unit × Unit × (Int) × Unit) × (((List (Int)) × (List (List (Int))) × (List (Int)) × Unit) × ((List (Int)) × (List (List (Int))) × (List (Int)) × Unit) × (List ((Int) × ((Int) × ((List UInt8) × (Unit))))) × Unit))
  | 0, _ => none
  | n + 1, ((_, _, _, x7, x8, ()), (y2, y3, y6, ())) =>
    if (decide (x8 < (256 : Int))) = true then
      if decide (0 ≤ x7 ∧ x7 < (y6.length : Int)) = true then
        (p31 ((y2.1, (y2.2.1, (y2.2.2.1, ()))), (y6.getD x7.toNat (0, (0, ([], ())))).1, (IntKind.u8.wrap x8), ())).bind fun c1 =>
        if decide (0 ≤ x7 ∧ x7 < (y6.length : Int)) = true then
          (p31 ((y3.1, (y3.2.1, (y3.2.2.1, ()))), (y6.getD x7.toNat (0, (0, ([], ())))).2.1, (IntKind.u8.wrap x8), ())).bind fun c2 =>
          if (decide (c1 < (0 : Int))) = true then
            (limit L18_13 (((), (), (), x7, x8, c1, c2, (decide (c2 < (0 : Int))), (0 : Int), ()), ((y2.1, y2.2.1, y2.2.2.1, ()), (y3.1, y3.2.1, y3.2.2.1, ()), y6, ()))).bind fun r3 =>
            if (!r3.1.2.2.2.2.2.2.2.1) = true then
              if decide (0 ≤ r3.1.2.2.2.1 ∧ r3.1.2.2.2.1 < (r3.2.2.2.1.length : Int)) = true then
                if decide ((r3.2.2.2.1.getD r3.1.2.2.2.1.toNat (0, (0, ([], ())))).2.2.1.length + (([(IntKind.u8.wrap r3.1.2.2.2.2.1)] : List (Int)).map fun n => UInt8.ofNat n.toNat).length ≤ lim) = true then
                  if decide (r3.2.2.2.1.length + ([(r3.1.2.2.2.2.2.1, (r3.1.2.2.2.2.2.2.1, (((r3.2.2.2.1.getD r3.1.2.2.2.1.toNat (0, (0, ([], ())))).2.2.1 ++ (([(IntKind.u8.wrap r3.1.2.2.2.2.1)] : List (Int)).map fun n => UInt8.ofNat n.toNat)), ())))] : List ((Int) × ((Int) × ((List UInt8) × (Unit))))).length ≤ lim) = true then
                    L18_8 n (((), (), (), r3.1.2.2.2.1, (IntKind.i64.wrap (r3.1.2.2.2.2.1 + (1 : Int))), ()), ((r3.2.1.1, r3.2.1.2.1, r3.2.1.2.2.1, ()), (r3.2.2.1.1, r3.2.2.1.2.1, r3.2.2.1.2.2.1, ()), (r3.2.2.2.1 ++ ([(r3.1.2.2.2.2.2.1, (r3.1.2.2.2.2.2.2.1, (((r3.2.2.2.1.getD r3.1.2.2.2.1.toNat (0, (0, ([], ())))).2.2.1 ++ (([(IntKind.u8.wrap r3.1.2.2.2.2.1)] : List (Int)).map fun n => UInt8.ofNat n.toNat)), ())))] : List ((Int) × ((Int) × ((List UInt8) × (Unit)))))), ()))
                  else
                    none
                else
                  none
              else
                none
            else
              L18_8 n (((), (), (), r3.1.2.2.2.1, (IntKind.i64.wrap (r3.1.2.2.2.2.1 + (1 : Int))), ()), ((r3.2.1.1, r3.2.1.2.1, r3.2.1.2.2.1, ()), (r3.2.2.1.1, r3.2.2.1.2.1, r3.2.2.1.2.2.1, ()), r3.2.2.2.1, ()))
          else
            (limit L18_13 (((), (), (), x7, x8, c1, c2, false, (0 : Int), ()), ((y2.1, y2.2.1, y2.2.2.1, ()), (y3.1, y3.2.1, y3.2.2.1, ()), y6, ()))).bind fun r4 =>
            if (!r4.1.2.2.2.2.2.2.2.1) = true then
              if decide (0 ≤ r4.1.2.2.2.1 ∧ r4.1.2.2.2.1 < (r4.2.2.2.1.length : Int)) = true then
                if decide ((r4.2.2.2.1.getD r4.1.2.2.2.1.toNat (0, (0, ([], ())))).2.2.1.length + (([(IntKind.u8.wrap r4.1.2.2.2.2.1)] : List (Int)).map fun n => UInt8.ofNat n.toNat).length ≤ lim) = true then
                  if decide (r4.2.2.2.1.length + ([(r4.1.2.2.2.2.2.1, (r4.1.2.2.2.2.2.2.1, (((r4.2.2.2.1.getD r4.1.2.2.2.1.toNat (0, (0, ([], ())))).2.2.1 ++ (([(IntKind.u8.wrap r4.1.2.2.2.2.1)] : List (Int)).map fun n => UInt8.ofNat n.toNat)), ())))] : List ((Int) × ((Int) × ((List UInt8) × (Unit))))).length ≤ lim) = true then
                    L18_8 n (((), (), (), r4.1.2.2.2.1, (IntKind.i64.wrap (r4.1.2.2.2.2.1 + (1 : Int))), ()), ((r4.2.1.1, r4.2.1.2.1, r4.2.1.2.2.1, ()), (r4.2.2.1.1, r4.2.2.1.2.1, r4.2.2.1.2.2.1, ()), (r4.2.2.2.1 ++ ([(r4.1.2.2.2.2.2.1, (r4.1.2.2.2.2.2.2.1, (((r4.2.2.2.1.getD r4.1.2.2.2.1.toNat (0, (0, ([], ())))).2.2.1 ++ (([(IntKind.u8.wrap r4.1.2.2.2.2.1)] : List (Int)).map fun n => UInt8.ofNat n.toNat)), ())))] : List ((Int) × ((Int) × ((List UInt8) × (Unit)))))), ()))
                  else
                    none
                else
                  none
              else
                none
            else
              L18_8 n (((), (), (), r4.1.2.2.2.1, (IntKind.i64.wrap (r4.1.2.2.2.2.1 + (1 : Int))), ()), ((r4.2.1.1, r4.2.1.2.1, r4.2.1.2.2.1, ()), (r4.2.2.1.1, r4.2.2.1.2.1, r4.2.2.1.2.2.1, ()), r4.2.2.2.1, ()))
        else
          none
      else
        none
    else
      some (((), (), (), x7, ()), ((y2.1, y2.2.1, y2.2.2.1, ()), (y3.1, y3.2.1, y3.2.2.1, ()), y6, ()))

noncomputable def EL18_8 : LoopEnt := ⟨[18], 8, ⟨[.keep [2, 3, 6, 7, 8] [2, 3, 6, 112], .adopt 6 (.pair (.int .i64) (.pair (.int .i64) (.pair .str .unit))) 6], [2, 3, 6, 7, 8], [2, 3, 6]⟩, [.ptr 2 0, .ptr 3 0, .ref 6, .kd (.int .i64), .kd (.int .i64)], [.box [.kd (.slice (.int .i64)), .kd (.slice (.slice (.int .i64))), .kd (.slice (.int .i64))], .box [.kd (.slice (.int .i64)), .kd (.slice (.slice (.int .i64))), .kd (.slice (.int .i64))], .row (.pair (.int .i64) (.pair (.int .i64) (.pair .str .unit)))], [⟨(.exit 2), [2, 3, 6, 7], [.ptr 2 0, .ptr 3 0, .ref 6, .kd (.int .i64)], [2, 3, 6], [.box [.kd (.slice (.int .i64)), .kd (.slice (.slice (.int .i64))), .kd (.slice (.int .i64))], .box [.kd (.slice (.int .i64)), .kd (.slice (.slice (.int .i64))), .kd (.slice (.int .i64))], .row (.pair (.int .i64) (.pair (.int .i64) (.pair .str .unit)))]⟩], limit L18_8⟩

noncomputable def L18_3 : Nat → ((Unit × Unit × Unit × (Int) × Unit) × (((List (Int)) × (List (List (Int))) × (List (Int)) × Unit) × ((List (Int)) × (List (List (Int))) × (List (Int)) × Unit) × (List ((Int) × ((Int) × ((List UInt8) × (Unit))))) × Unit)) → Option ((((List UInt8) × (Bool) × Unit) × (Unit)) ⊕ ((Unit) × (Unit)))
  | 0, _ => none
  | n + 1, ((_, _, _, x7, ()), (y2, y3, y6, ())) =>
    if (decide (x7 < (y6.length : Int))) = true then
      if decide (0 ≤ x7 ∧ x7 < (y6.length : Int)) = true then
        (p32 ((y2.1, (y2.2.1, (y2.2.2.1, ()))), (y6.getD x7.toNat (0, (0, ([], ())))).1, ())).bind fun c1 =>
        if decide (0 ≤ x7 ∧ x7 < (y6.length : Int)) = true then
          (p32 ((y3.1, (y3.2.1, (y3.2.2.1, ()))), (y6.getD x7.toNat (0, (0, ([], ())))).2.1, ())).bind fun c2 =>
          if (!decide (c1 = c2)) = true then
            if decide (0 ≤ x7 ∧ x7 < (y6.length : Int)) = true then
              some (.inl (((y6.getD x7.toNat (0, (0, ([], ())))).2.2.1, true, ()), ()))
            else
              none
          else
            (limit L18_8 (((), (), (), x7, (0 : Int), ()), ((y2.1, y2.2.1, y2.2.2.1, ()), (y3.1, y3.2.1, y3.2.2.1, ()), y6, ()))).bind fun r3 =>
            L18_3 n (((), (), (), (IntKind.i64.wrap (r3.1.2.2.2.1 + (1 : Int))), ()), ((r3.2.1.1, r3.2.1.2.1, r3.2.1.2.2.1, ()), (r3.2.2.1.1, r3.2.2.1.2.1, r3.2.2.1.2.2.1, ()), r3.2.2.2.1, ()))
        else
          none
      else
        none
    else
      some (.inr ((), ()))

noncomputable def EL18_3 : LoopEnt := ⟨[18], 3, ⟨[.keep [2, 3, 6, 7] [2, 3, 6, 14], .adopt 6 (.pair (.int .i64) (.pair (.int .i64) (.pair .str .unit))) 6], [2, 3, 6, 7], [2, 3, 6]⟩, [.ptr 2 0, .ptr 3 0, .ref 6, .kd (.int .i64)], [.box [.kd (.slice (.int .i64)), .kd (.slice (.slice (.int .i64))), .kd (.slice (.int .i64))], .box [.kd (.slice (.int .i64)), .kd (.slice (.slice (.int .i64))), .kd (.slice (.int .i64))], .row (.pair (.int .i64) (.pair (.int .i64) (.pair .str .unit)))], [⟨.ret, [4, 5], [.kd .str, .kd .bool], [], []⟩, ⟨(.exit 0), [], [], [], []⟩], limit L18_3⟩

noncomputable def O18 : Orc := mkOrc [(31, fnOf [(.pair (.slice (.int .i64)) (.pair (.slice (.slice (.int .i64))) (.pair (.slice (.int .i64)) .unit))), (.int .i64), (.int .u8)] (.one (.int .i64)) p31), (32, fnOf [(.pair (.slice (.int .i64)) (.pair (.slice (.slice (.int .i64))) (.pair (.slice (.int .i64)) .unit))), (.int .i64)] (.one (.int .i64)) p32)] [EL18_13, EL18_8, EL18_3] [] [] []

theorem cL18_13 : LoopCert Try.prog O18 Γ18 1 EL18_13 :=
  ⟨⟨18, 2, L18_13, rfl, by kernel_rfl, by decide, limit_fn, fun _ => rfl, fun m old x r h => by
    obtain ⟨⟨x2, x3, x6, x7, x8, x9, x10, x11, x12, ⟨⟩⟩, y2, y3, y6, ⟨⟩⟩ := x
    refine Eq.trans ?_ h
    kernel_rfl⟩⟩

theorem cL18_8 : LoopCert Try.prog O18 Γ18 1 EL18_8 :=
  ⟨⟨18, 1, L18_8, rfl, by kernel_rfl, by decide, limit_fn, fun _ => rfl, fun m old x r h => by
    obtain ⟨⟨x2, x3, x6, x7, x8, ⟨⟩⟩, y2, y3, y6, ⟨⟩⟩ := x
    refine Eq.trans ?_ h
    kernel_rfl⟩⟩

theorem cL18_3 : LoopCert Try.prog O18 Γ18 1 EL18_3 :=
  ⟨⟨18, 0, L18_3, rfl, by kernel_rfl, by decide, limit_fn, fun _ => rfl, fun m old x r h => by
    obtain ⟨⟨x2, x3, x6, x7, ⟨⟩⟩, y2, y3, y6, ⟨⟩⟩ := x
    refine Eq.trans ?_ h
    kernel_rfl⟩⟩

/-- emendate/emendateref10.Difference -/
noncomputable def p18 : (((List (Int)) × ((List (List (Int))) × ((List (Int)) × (Unit)))) × ((List (Int)) × ((List (List (Int))) × ((List (Int)) × (Unit)))) × Unit) → Option ((List UInt8) × (Bool) × Unit)
  | (x0, x1, ()) =>
    (limit L18_3 (((), (), (), (0 : Int), ()), ((x0.1, x0.2.1, x0.2.2.1, ()), (x1.1, x1.2.1, x1.2.2.1, ()), ([((0 : Int), ((0 : Int), (([] : List UInt8), ())))] : List ((Int) × ((Int) × ((List UInt8) × (Unit))))), ()))).bind (Sum.elim (fun r1 =>
      some (r1.1.1, r1.1.2.1, ())) (fun _ =>
      some (([] : List UInt8), false, ())))

theorem s18 : SoundFn Try.prog 18 (fnOf [(.pair (.slice (.int .i64)) (.pair (.slice (.slice (.int .i64))) (.pair (.slice (.int .i64)) .unit))), (.pair (.slice (.int .i64)) (.pair (.slice (.slice (.int .i64))) (.pair (.slice (.int .i64)) .unit)))] (.tup [.str, .bool]) p18) :=
  fn_pure hm0 hng0 hΓ18 (t := [(31, fnOf [(.pair (.slice (.int .i64)) (.pair (.slice (.slice (.int .i64))) (.pair (.slice (.int .i64)) .unit))), (.int .i64), (.int .u8)] (.one (.int .i64)) p31), (32, fnOf [(.pair (.slice (.int .i64)) (.pair (.slice (.slice (.int .i64))) (.pair (.slice (.int .i64)) .unit))), (.int .i64)] (.one (.int .i64)) p32)]) (all_cons s31 (all_cons s32 all_nil)) (ls := [EL18_13, EL18_8, EL18_3]) (cmds := []) (leaves := []) (fr := []) (D := 1) (all_cons cL18_13 (all_cons cL18_8 (all_cons cL18_3 all_nil))) (by kernel_rfl) (hfr := all_nil) fun x r h => by
    obtain ⟨x0, x1, ⟨⟩⟩ := x
    refine Eq.trans ?_ h
    kernel_rfl

end Go.AM
