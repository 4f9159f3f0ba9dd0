/- Functions in pure form: each is sound over the program. -/
import Derived.Test.YtagllmgnmkdogaaG3
namespace Go.AM
open Go Go.Proofs

noncomputable def O8 : Orc := mkOrc [(9, fnOf [] (.one .bool) p9), (10, fnOf [(.pair (.slice (.int .i64)) (.pair (.slice (.slice (.int .i64))) (.pair (.slice (.int .i64)) .unit)))] (.one .bool) p10), (12, fnOf [(.pair (.slice (.int .i64)) (.pair (.slice (.slice (.int .i64))) (.pair (.slice (.int .i64)) .unit))), .str] (.one (.int .i64)) p12), (20, fnOf [(.pair (.int .i64) (.pair (.int .i64) (.pair (.slice (.pair (.int .i64) (.pair (.int .i64) (.pair .bool (.pair (.arr 4 (.int .u64)) .unit))))) (.pair (.slice (.int .i64)) .unit))))] (.one .bool) p20), (21, fnOf [(.pair (.int .i64) (.pair (.int .i64) (.pair (.slice (.pair (.int .i64) (.pair (.int .i64) (.pair .bool (.pair (.arr 4 (.int .u64)) .unit))))) (.pair (.slice (.int .i64)) .unit))))] (.tup [(.pair (.slice (.int .i64)) (.pair (.slice (.slice (.int .i64))) (.pair (.slice (.int .i64)) .unit))), (.int .i64)]) p21), (22, fnOf [(.pair (.int .i64) (.pair (.int .i64) (.pair (.slice (.pair (.int .i64) (.pair (.int .i64) (.pair .bool (.pair (.arr 4 (.int .u64)) .unit))))) (.pair (.slice (.int .i64)) .unit))))] (.tup [(.pair (.slice (.int .i64)) (.pair (.slice (.slice (.int .i64))) (.pair (.slice (.int .i64)) .unit))), (.int .i64)]) p22), (23, fnOf [(.pair (.int .i64) (.pair (.int .i64) (.pair (.slice (.pair (.int .i64) (.pair (.int .i64) (.pair .bool (.pair (.arr 4 (.int .u64)) .unit))))) (.pair (.slice (.int .i64)) .unit)))), .str] (.one (.int .i64)) p23)] [] [] [] []

/-- emendate/emendatelaw10.DfaDeterminize -/
noncomputable def p8 : (((Int) × ((Int) × ((List ((Int) × ((Int) × ((Bool) × ((List (Int)) × (Unit)))))) × ((List (Int)) × (Unit))))) × (List UInt8) × Unit) → Option (Bool)
  | (x0, x1, ()) =>
    (p20 ((x0.1, (x0.2.1, (x0.2.2.1, (x0.2.2.2.1, ())))), ())).bind fun c1 =>
    if (!c1) = true then
      (p9 (())).bind fun c2 =>
      some c2
    else
      if (decide ((x1.length : Int) > (30 : Int))) = true then
        (p9 (())).bind fun c3 =>
        some c3
      else
        (p21 ((x0.1, (x0.2.1, (x0.2.2.1, (x0.2.2.2.1, ())))), ())).bind fun c4 =>
        (p22 ((x0.1, (x0.2.1, (x0.2.2.1, (x0.2.2.2.1, ())))), ())).bind fun c5 =>
        if (!decide (c4.2.1 = c5.2.1)) = true then
          some false
        else
          if (!decide (c4.2.1 = (0 : Int))) = true then
            (p9 (())).bind fun c6 =>
            if c6 = true then
              some (decide ((c4.1.2.1.length : Int) = (0 : Int)))
            else
              some false
          else
            (p9 (())).bind fun c7 =>
            if c7 = true then
              (p10 ((c4.1.1, (c4.1.2.1, (c4.1.2.2.1, ()))), ())).bind fun c8 =>
              if c8 = true then
                (p12 ((c4.1.1, (c4.1.2.1, (c4.1.2.2.1, ()))), x1, ())).bind fun c9 =>
                (p23 ((x0.1, (x0.2.1, (x0.2.2.1, (x0.2.2.2.1, ())))), x1, ())).bind fun c10 =>
                some (decide (c9 = c10))
              else
                some false
            else
              some false

theorem s8 : SoundFn Try.prog 8 (fnOf [(.pair (.int .i64) (.pair (.int .i64) (.pair (.slice (.pair (.int .i64) (.pair (.int .i64) (.pair .bool (.pair (.arr 4 (.int .u64)) .unit))))) (.pair (.slice (.int .i64)) .unit)))), .str] (.one .bool) p8) :=
  fn_pure hm0 hng0 hΓ0 (t := [(9, fnOf [] (.one .bool) p9), (10, fnOf [(.pair (.slice (.int .i64)) (.pair (.slice (.slice (.int .i64))) (.pair (.slice (.int .i64)) .unit)))] (.one .bool) p10), (12, fnOf [(.pair (.slice (.int .i64)) (.pair (.slice (.slice (.int .i64))) (.pair (.slice (.int .i64)) .unit))), .str] (.one (.int .i64)) p12), (20, fnOf [(.pair (.int .i64) (.pair (.int .i64) (.pair (.slice (.pair (.int .i64) (.pair (.int .i64) (.pair .bool (.pair (.arr 4 (.int .u64)) .unit))))) (.pair (.slice (.int .i64)) .unit))))] (.one .bool) p20), (21, fnOf [(.pair (.int .i64) (.pair (.int .i64) (.pair (.slice (.pair (.int .i64) (.pair (.int .i64) (.pair .bool (.pair (.arr 4 (.int .u64)) .unit))))) (.pair (.slice (.int .i64)) .unit))))] (.tup [(.pair (.slice (.int .i64)) (.pair (.slice (.slice (.int .i64))) (.pair (.slice (.int .i64)) .unit))), (.int .i64)]) p21), (22, fnOf [(.pair (.int .i64) (.pair (.int .i64) (.pair (.slice (.pair (.int .i64) (.pair (.int .i64) (.pair .bool (.pair (.arr 4 (.int .u64)) .unit))))) (.pair (.slice (.int .i64)) .unit))))] (.tup [(.pair (.slice (.int .i64)) (.pair (.slice (.slice (.int .i64))) (.pair (.slice (.int .i64)) .unit))), (.int .i64)]) p22), (23, fnOf [(.pair (.int .i64) (.pair (.int .i64) (.pair (.slice (.pair (.int .i64) (.pair (.int .i64) (.pair .bool (.pair (.arr 4 (.int .u64)) .unit))))) (.pair (.slice (.int .i64)) .unit)))), .str] (.one (.int .i64)) p23)]) (all_cons s9 (all_cons s10 (all_cons s12 (all_cons s20 (all_cons s21 (all_cons s22 (all_cons s23 all_nil))))))) (ls := []) (cmds := []) (leaves := []) (fr := []) (D := 1) all_nil (by kernel_rfl) (hfr := all_nil) fun x r h => by
    obtain ⟨x0, x1, ⟨⟩⟩ := x
    refine Eq.trans ?_ h
    kernel_rfl

end Go.AM
