/- Functions in pure form: each is sound over the program. -/
import Derived.Test.YtagllmgnmkdogaaG2
namespace Go.AM
open Go Go.Proofs

noncomputable def L7_9 : Nat → ((Unit × (Int) × (Int) × (Bool) × (Int) × Unit) × (((List (Int)) × (List (List (Int))) × (List (Int)) × Unit) × Unit)) → Option ((Unit × (Int) × (Int) × (Bool) × Unit) × (((List (Int)) × (List (List (Int))) × (List (Int)) × Unit) × Unit))
  | 0, _ => none
  | n + 1, ((_, x6, x7, x8, x9, ()), (y5, ())) =>
    if (decide (x9 < (y5.2.1.length : Int))) = true then
      if x8 = true then
        if decide (0 ≤ x9 ∧ x9 < (y5.2.1.length : Int)) = true then
          if decide (0 ≤ x6 ∧ x6 < ((y5.2.1.getD x9.toNat []).length : Int)) = true then
            if decide (0 ≤ x9 ∧ x9 < (y5.2.1.length : Int)) = true then
              if decide (0 ≤ x7 ∧ x7 < ((y5.2.1.getD x9.toNat []).length : Int)) = true then
                L7_9 n (((), x6, x7, (decide (((y5.2.1.getD x9.toNat []).getD x6.toNat 0) = ((y5.2.1.getD x9.toNat []).getD x7.toNat 0))), (IntKind.i64.wrap (x9 + (1 : Int))), ()), ((y5.1, y5.2.1, y5.2.2.1, ()), ()))
              else
                none
            else
              none
          else
            none
        else
          none
      else
        L7_9 n (((), x6, x7, false, (IntKind.i64.wrap (x9 + (1 : Int))), ()), ((y5.1, y5.2.1, y5.2.2.1, ()), ()))
    else
      some (((), x6, x7, x8, ()), ((y5.1, y5.2.1, y5.2.2.1, ()), ()))

noncomputable def EL7_9 : LoopEnt := ⟨[7], 9, ⟨[], [5, 6, 7, 8, 9], [5]⟩, [.ptr 5 0, .kd (.int .i64), .kd (.int .i64), .kd .bool, .kd (.int .i64)], [.box [.kd (.slice (.int .i64)), .kd (.slice (.slice (.int .i64))), .kd (.slice (.int .i64))]], [⟨(.exit 0), [5, 6, 7, 8], [.ptr 5 0, .kd (.int .i64), .kd (.int .i64), .kd .bool], [5], [.box [.kd (.slice (.int .i64)), .kd (.slice (.slice (.int .i64))), .kd (.slice (.int .i64))]]⟩], limit L7_9⟩

noncomputable def L7_14 : Nat → ((Unit × (Int) × (Int) × (Bool) × (Int) × (Int) × Unit) × (((List (Int)) × (List (List (Int))) × (List (Int)) × Unit) × Unit)) → Option ((((Bool) × Unit) × (Unit)) ⊕ ((Unit × (Int) × (Int) × (Bool) × (Int) × Unit) × (((List (Int)) × (List (List (Int))) × (List (Int)) × Unit) × Unit)))
  | 0, _ => none
  | n + 1, ((_, x6, x7, x8, x10, x11, ()), (y5, ())) =>
    if (decide (x11 < (256 : Int))) = true then
      if decide (0 ≤ x11 ∧ x11 < (y5.1.length : Int)) = true then
        if (decide ((y5.1.getD x11.toNat 0) > x10)) = true then
          some (.inl ((false, ()), ()))
        else
          if decide (0 ≤ x11 ∧ x11 < (y5.1.length : Int)) = true then
            if (decide ((y5.1.getD x11.toNat 0) = x10)) = true then
              L7_14 n (((), x6, x7, x8, (IntKind.i64.wrap (x10 + (1 : Int))), (IntKind.i64.wrap (x11 + (1 : Int))), ()), ((y5.1, y5.2.1, y5.2.2.1, ()), ()))
            else
              L7_14 n (((), x6, x7, x8, x10, (IntKind.i64.wrap (x11 + (1 : Int))), ()), ((y5.1, y5.2.1, y5.2.2.1, ()), ()))
          else
            none
      else
        none
    else
      some (.inr (((), x6, x7, x8, x10, ()), ((y5.1, y5.2.1, y5.2.2.1, ()), ())))

noncomputable def EL7_14 : LoopEnt := ⟨[7], 14, ⟨[], [5, 6, 7, 8, 10, 11], [5]⟩, [.ptr 5 0, .kd (.int .i64), .kd (.int .i64), .kd .bool, .kd (.int .i64), .kd (.int .i64)], [.box [.kd (.slice (.int .i64)), .kd (.slice (.slice (.int .i64))), .kd (.slice (.int .i64))]], [⟨.ret, [4], [.kd .bool], [], []⟩, ⟨(.exit 2), [5, 6, 7, 8, 10], [.ptr 5 0, .kd (.int .i64), .kd (.int .i64), .kd .bool, .kd (.int .i64)], [5], [.box [.kd (.slice (.int .i64)), .kd (.slice (.slice (.int .i64))), .kd (.slice (.int .i64))]]⟩], limit L7_14⟩

noncomputable def O7 : Orc := mkOrc [(9, fnOf [] (.one .bool) p9), (10, fnOf [(.pair (.slice (.int .i64)) (.pair (.slice (.slice (.int .i64))) (.pair (.slice (.int .i64)) .unit)))] (.one .bool) p10), (14, fnOf [(.pair (.slice (.int .i64)) (.pair (.slice (.slice (.int .i64))) (.pair (.slice (.int .i64)) .unit))), (.int .i64), (.int .i64)] (.one .bool) p14), (15, fnOf [(.pair (.slice (.int .i64)) (.pair (.slice (.slice (.int .i64))) (.pair (.slice (.int .i64)) .unit)))] (.one (.pair (.slice (.int .i64)) (.pair (.slice (.slice (.int .i64))) (.pair (.slice (.int .i64)) .unit)))) p15), (19, fnOf [(.slice (.int .i64)), (.slice (.int .i64))] (.one .bool) p19)] [EL7_9, EL7_14] [] [] []

theorem cL7_9 : LoopCert Try.prog O7 Γ0 1 EL7_9 :=
  ⟨⟨7, 0, L7_9, rfl, by kernel_rfl, by decide, limit_fn, fun _ => rfl, fun m old x r h => by
    obtain ⟨⟨x5, x6, x7, x8, x9, ⟨⟩⟩, y5, ⟨⟩⟩ := x
    refine Eq.trans ?_ h
    kernel_rfl⟩⟩

theorem cL7_14 : LoopCert Try.prog O7 Γ0 1 EL7_14 :=
  ⟨⟨7, 1, L7_14, rfl, by kernel_rfl, by decide, limit_fn, fun _ => rfl, fun m old x r h => by
    obtain ⟨⟨x5, x6, x7, x8, x10, x11, ⟨⟩⟩, y5, ⟨⟩⟩ := x
    refine Eq.trans ?_ h
    kernel_rfl⟩⟩

/-- emendate/emendatelaw10.DfaClasses -/
noncomputable def p7 : (((List (Int)) × ((List (List (Int))) × ((List (Int)) × (Unit)))) × (List (Int)) × Unit) → Option (Bool)
  | (x0, x1, ()) =>
    (p14 ((x0.1, (x0.2.1, (x0.2.2.1, ()))), (12 : Int), (8 : Int), ())).bind fun c1 =>
    if (!c1) = true then
      (p9 (())).bind fun c2 =>
      some c2
    else
      (p15 ((x0.1, (x0.2.1, (x0.2.2.1, ()))), ())).bind fun c3 =>
      (p10 ((c3.1, (c3.2.1, (c3.2.2.1, ()))), ())).bind fun c4 =>
      if (!c4) = true then
        some false
      else
        if decide (0 ≤ (0 : Int) ∧ (0 : Int) < (2 : Int)) = true then
          if decide (0 ≤ ([(x1.getD 0 0), (x1.getD 1 0)].getD (0 : Int).toNat 0) ∧ ([(x1.getD 0 0), (x1.getD 1 0)].getD (0 : Int).toNat 0) < (c3.1.length : Int)) = true then
            if decide (0 ≤ (1 : Int) ∧ (1 : Int) < (2 : Int)) = true then
              if decide (0 ≤ ([(x1.getD 0 0), (x1.getD 1 0)].getD (1 : Int).toNat 0) ∧ ([(x1.getD 0 0), (x1.getD 1 0)].getD (1 : Int).toNat 0) < (c3.1.length : Int)) = true then
                (limit L7_9 (((), (c3.1.getD ([(x1.getD 0 0), (x1.getD 1 0)].getD (0 : Int).toNat 0).toNat 0), (c3.1.getD ([(x1.getD 0 0), (x1.getD 1 0)].getD (1 : Int).toNat 0).toNat 0), true, (0 : Int), ()), ((c3.1, c3.2.1, c3.2.2.1, ()), ()))).bind fun r5 =>
                (limit L7_14 (((), r5.1.2.1, r5.1.2.2.1, r5.1.2.2.2.1, (0 : Int), (0 : Int), ()), ((r5.2.1.1, r5.2.1.2.1, r5.2.1.2.2.1, ()), ()))).bind (Sum.elim (fun r6 =>
                  some r6.1.1) (fun r6 =>
                  (p9 (())).bind fun c7 =>
                  if c7 = true then
                    if ((decide (r6.1.2.1 = r6.1.2.2.1)) == r6.1.2.2.2.1) = true then
                      if decide (0 ≤ (0 : Int) ∧ (0 : Int) < (r6.2.1.2.1.length : Int)) = true then
                        if (decide (r6.1.2.2.2.2.1 = ((r6.2.1.2.1.getD (0 : Int).toNat []).length : Int))) = true then
                          (p15 ((r6.2.1.1, (r6.2.1.2.1, (r6.2.1.2.2.1, ()))), ())).bind fun c8 =>
                          (p19 (r6.2.1.1, c8.1, ())).bind fun c9 =>
                          some c9
                        else
                          some false
                      else
                        none
                    else
                      some false
                  else
                    some false))
              else
                none
            else
              none
          else
            none
        else
          none

theorem s7 : SoundFn Try.prog 7 (fnOf [(.pair (.slice (.int .i64)) (.pair (.slice (.slice (.int .i64))) (.pair (.slice (.int .i64)) .unit))), (.arr 2 (.int .u8))] (.one .bool) p7) :=
  fn_pure hm0 hng0 hΓ0 (t := [(9, fnOf [] (.one .bool) p9), (10, fnOf [(.pair (.slice (.int .i64)) (.pair (.slice (.slice (.int .i64))) (.pair (.slice (.int .i64)) .unit)))] (.one .bool) p10), (14, fnOf [(.pair (.slice (.int .i64)) (.pair (.slice (.slice (.int .i64))) (.pair (.slice (.int .i64)) .unit))), (.int .i64), (.int .i64)] (.one .bool) p14), (15, fnOf [(.pair (.slice (.int .i64)) (.pair (.slice (.slice (.int .i64))) (.pair (.slice (.int .i64)) .unit)))] (.one (.pair (.slice (.int .i64)) (.pair (.slice (.slice (.int .i64))) (.pair (.slice (.int .i64)) .unit)))) p15), (19, fnOf [(.slice (.int .i64)), (.slice (.int .i64))] (.one .bool) p19)]) (all_cons s9 (all_cons s10 (all_cons s14 (all_cons s15 (all_cons s19 all_nil))))) (ls := [EL7_9, EL7_14]) (cmds := []) (leaves := []) (fr := []) (D := 1) (all_cons cL7_9 (all_cons cL7_14 all_nil)) (by kernel_rfl) (hfr := all_nil) fun x r h => by
    obtain ⟨x0, x1, ⟨⟩⟩ := x
    refine Eq.trans ?_ h
    kernel_rfl

end Go.AM
