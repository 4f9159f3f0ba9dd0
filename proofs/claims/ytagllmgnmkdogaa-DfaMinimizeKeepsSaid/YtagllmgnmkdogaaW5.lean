/- Functions in pure form: each is sound over the program. -/
import Derived.Test.YtagllmgnmkdogaaG2
namespace Go.AM
open Go Go.Proofs

noncomputable def O5 : Orc := mkOrc [(9, fnOf [] (.one .bool) p9), (14, fnOf [(.pair (.slice (.int .i64)) (.pair (.slice (.slice (.int .i64))) (.pair (.slice (.int .i64)) .unit))), (.int .i64), (.int .i64)] (.one .bool) p14), (17, fnOf [(.pair (.slice (.int .i64)) (.pair (.slice (.slice (.int .i64))) (.pair (.slice (.int .i64)) .unit))), (.pair (.slice (.int .i64)) (.pair (.slice (.slice (.int .i64))) (.pair (.slice (.int .i64)) .unit)))] (.tup [.str, .bool]) p17), (18, fnOf [(.pair (.slice (.int .i64)) (.pair (.slice (.slice (.int .i64))) (.pair (.slice (.int .i64)) .unit))), (.pair (.slice (.int .i64)) (.pair (.slice (.slice (.int .i64))) (.pair (.slice (.int .i64)) .unit)))] (.tup [.str, .bool]) p18)] [] [] [] []

/-- emendate/emendatelaw10.DfaDifference -/
noncomputable def p5 : (((List (Int)) × ((List (List (Int))) × ((List (Int)) × (Unit)))) × ((List (Int)) × ((List (List (Int))) × ((List (Int)) × (Unit)))) × Unit) → Option (Bool)
  | (x0, x1, ()) =>
    (p14 ((x0.1, (x0.2.1, (x0.2.2.1, ()))), (8 : Int), (5 : Int), ())).bind fun c1 =>
    if (!c1) = true then
      (p9 (())).bind fun c2 =>
      some c2
    else
      (p14 ((x1.1, (x1.2.1, (x1.2.2.1, ()))), (8 : Int), (5 : Int), ())).bind fun c3 =>
      if (!c3) = true then
        (p9 (())).bind fun c4 =>
        some c4
      else
        (p17 ((x0.1, (x0.2.1, (x0.2.2.1, ()))), (x1.1, (x1.2.1, (x1.2.2.1, ()))), ())).bind fun c5 =>
        (p18 ((x0.1, (x0.2.1, (x0.2.2.1, ()))), (x1.1, (x1.2.1, (x1.2.2.1, ()))), ())).bind fun c6 =>
        (p9 (())).bind fun c7 =>
        if c7 = true then
          if (decide (c5.1 = c6.1)) = true then
            some (c5.2.1 == c6.2.1)
          else
            some false
        else
          some false

theorem s5 : SoundFn Try.prog 5 (fnOf [(.pair (.slice (.int .i64)) (.pair (.slice (.slice (.int .i64))) (.pair (.slice (.int .i64)) .unit))), (.pair (.slice (.int .i64)) (.pair (.slice (.slice (.int .i64))) (.pair (.slice (.int .i64)) .unit)))] (.one .bool) p5) :=
  fn_pure hm0 hng0 hΓ0 (t := [(9, fnOf [] (.one .bool) p9), (14, fnOf [(.pair (.slice (.int .i64)) (.pair (.slice (.slice (.int .i64))) (.pair (.slice (.int .i64)) .unit))), (.int .i64), (.int .i64)] (.one .bool) p14), (17, fnOf [(.pair (.slice (.int .i64)) (.pair (.slice (.slice (.int .i64))) (.pair (.slice (.int .i64)) .unit))), (.pair (.slice (.int .i64)) (.pair (.slice (.slice (.int .i64))) (.pair (.slice (.int .i64)) .unit)))] (.tup [.str, .bool]) p17), (18, fnOf [(.pair (.slice (.int .i64)) (.pair (.slice (.slice (.int .i64))) (.pair (.slice (.int .i64)) .unit))), (.pair (.slice (.int .i64)) (.pair (.slice (.slice (.int .i64))) (.pair (.slice (.int .i64)) .unit)))] (.tup [.str, .bool]) p18)]) (all_cons s9 (all_cons s14 (all_cons s17 (all_cons s18 all_nil)))) (ls := []) (cmds := []) (leaves := []) (fr := []) (D := 1) all_nil (by kernel_rfl) (hfr := all_nil) fun x r h => by
    obtain ⟨x0, x1, ⟨⟩⟩ := x
    refine Eq.trans ?_ h
    kernel_rfl

end Go.AM
