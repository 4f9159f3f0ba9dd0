/- Functions in pure form: each is sound over the program. -/
import Derived.Test.YtagllmgnmkdogaaG2
namespace Go.AM
open Go Go.Proofs

noncomputable def O6 : Orc := mkOrc [(9, fnOf [] (.one .bool) p9), (12, fnOf [(.pair (.slice (.int .i64)) (.pair (.slice (.slice (.int .i64))) (.pair (.slice (.int .i64)) .unit))), .str] (.one (.int .i64)) p12), (14, fnOf [(.pair (.slice (.int .i64)) (.pair (.slice (.slice (.int .i64))) (.pair (.slice (.int .i64)) .unit))), (.int .i64), (.int .i64)] (.one .bool) p14), (17, fnOf [(.pair (.slice (.int .i64)) (.pair (.slice (.slice (.int .i64))) (.pair (.slice (.int .i64)) .unit))), (.pair (.slice (.int .i64)) (.pair (.slice (.slice (.int .i64))) (.pair (.slice (.int .i64)) .unit)))] (.tup [.str, .bool]) p17)] [] [] [] []

/-- emendate/emendatelaw10.DfaDifferenceLeast -/
noncomputable def p6 : (((List (Int)) × ((List (List (Int))) × ((List (Int)) × (Unit)))) × ((List (Int)) × ((List (List (Int))) × ((List (Int)) × (Unit)))) × (List UInt8) × Unit) → Option (Bool)
  | (x0, x1, x2, ()) =>
    (p14 ((x0.1, (x0.2.1, (x0.2.2.1, ()))), (10 : Int), (6 : Int), ())).bind fun c1 =>
    if (!c1) = true then
      (p9 (())).bind fun c2 =>
      some c2
    else
      (p14 ((x1.1, (x1.2.1, (x1.2.2.1, ()))), (10 : Int), (6 : Int), ())).bind fun c3 =>
      if (!c3) = true then
        (p9 (())).bind fun c4 =>
        some c4
      else
        if (decide ((x2.length : Int) > (60 : Int))) = true then
          (p9 (())).bind fun c5 =>
          some c5
        else
          (p12 ((x0.1, (x0.2.1, (x0.2.2.1, ()))), x2, ())).bind fun c6 =>
          (p12 ((x1.1, (x1.2.1, (x1.2.2.1, ()))), x2, ())).bind fun c7 =>
          if (decide (c6 = c7)) = true then
            (p9 (())).bind fun c8 =>
            some c8
          else
            (p17 ((x0.1, (x0.2.1, (x0.2.2.1, ()))), (x1.1, (x1.2.1, (x1.2.2.1, ()))), ())).bind fun c9 =>
            (p9 (())).bind fun c10 =>
            if c10 = true then
              if c9.2.1 = true then
                (p12 ((x0.1, (x0.2.1, (x0.2.2.1, ()))), c9.1, ())).bind fun c11 =>
                (p12 ((x1.1, (x1.2.1, (x1.2.2.1, ()))), c9.1, ())).bind fun c12 =>
                if (!decide (c11 = c12)) = true then
                  if (decide ((c9.1.length : Int) < (x2.length : Int))) = true then
                    some true
                  else
                    if (decide ((c9.1.length : Int) = (x2.length : Int))) = true then
                      some (Op.bytesLess c9.1 x2 || decide (c9.1 = x2))
                    else
                      some false
                else
                  some false
              else
                some false
            else
              some false

theorem s6 : SoundFn Try.prog 6 (fnOf [(.pair (.slice (.int .i64)) (.pair (.slice (.slice (.int .i64))) (.pair (.slice (.int .i64)) .unit))), (.pair (.slice (.int .i64)) (.pair (.slice (.slice (.int .i64))) (.pair (.slice (.int .i64)) .unit))), .str] (.one .bool) p6) :=
  fn_pure hm0 hng0 hΓ0 (t := [(9, fnOf [] (.one .bool) p9), (12, fnOf [(.pair (.slice (.int .i64)) (.pair (.slice (.slice (.int .i64))) (.pair (.slice (.int .i64)) .unit))), .str] (.one (.int .i64)) p12), (14, fnOf [(.pair (.slice (.int .i64)) (.pair (.slice (.slice (.int .i64))) (.pair (.slice (.int .i64)) .unit))), (.int .i64), (.int .i64)] (.one .bool) p14), (17, fnOf [(.pair (.slice (.int .i64)) (.pair (.slice (.slice (.int .i64))) (.pair (.slice (.int .i64)) .unit))), (.pair (.slice (.int .i64)) (.pair (.slice (.slice (.int .i64))) (.pair (.slice (.int .i64)) .unit)))] (.tup [.str, .bool]) p17)]) (all_cons s9 (all_cons s12 (all_cons s14 (all_cons s17 all_nil)))) (ls := []) (cmds := []) (leaves := []) (fr := []) (D := 1) all_nil (by kernel_rfl) (hfr := all_nil) fun x r h => by
    obtain ⟨x0, x1, x2, ⟨⟩⟩ := x
    refine Eq.trans ?_ h
    kernel_rfl

end Go.AM
