/- Functions in pure form: each is sound over the program. -/
import Derived.Test.YtagllmgnmkdogaaG1
namespace Go.AM
open Go Go.Proofs

noncomputable def O3 : Orc := mkOrc [(9, fnOf [] (.one .bool) p9), (10, fnOf [(.pair (.slice (.int .i64)) (.pair (.slice (.slice (.int .i64))) (.pair (.slice (.int .i64)) .unit)))] (.one .bool) p10), (11, fnOf [(.pair (.slice (.int .i64)) (.pair (.slice (.slice (.int .i64))) (.pair (.slice (.int .i64)) .unit)))] (.one .bool) p11), (12, fnOf [(.pair (.slice (.int .i64)) (.pair (.slice (.slice (.int .i64))) (.pair (.slice (.int .i64)) .unit))), .str] (.one (.int .i64)) p12), (13, fnOf [(.pair (.slice (.int .i64)) (.pair (.slice (.slice (.int .i64))) (.pair (.slice (.int .i64)) .unit))), .str] (.one (.int .i64)) p13)] [] [] [] []

/-- emendate/emendatelaw10.DfaRun -/
noncomputable def p3 : (((List (Int)) × ((List (List (Int))) × ((List (Int)) × (Unit)))) × (List UInt8) × Unit) → Option (Bool)
  | (x0, x1, ()) =>
    if (decide ((x0.2.1.length : Int) > (40 : Int))) = true then
      (p9 (())).bind fun c1 =>
      some c1
    else
      if (decide ((x0.1.length : Int) > (300 : Int))) = true then
        (p9 (())).bind fun c2 =>
        some c2
      else
        if (decide ((x0.2.2.1.length : Int) > (50 : Int))) = true then
          (p9 (())).bind fun c3 =>
          some c3
        else
          if (decide ((x1.length : Int) > (100 : Int))) = true then
            (p9 (())).bind fun c4 =>
            some c4
          else
            (p10 ((x0.1, (x0.2.1, (x0.2.2.1, ()))), ())).bind fun c5 =>
            (p9 (())).bind fun c6 =>
            if c6 = true then
              (p11 ((x0.1, (x0.2.1, (x0.2.2.1, ()))), ())).bind fun c7 =>
              if (c7 == c5) = true then
                if (!c5) = true then
                  some true
                else
                  (p12 ((x0.1, (x0.2.1, (x0.2.2.1, ()))), x1, ())).bind fun c8 =>
                  (p13 ((x0.1, (x0.2.1, (x0.2.2.1, ()))), x1, ())).bind fun c9 =>
                  some (decide (c8 = c9))
              else
                some false
            else
              some false

theorem s3 : SoundFn Try.prog 3 (fnOf [(.pair (.slice (.int .i64)) (.pair (.slice (.slice (.int .i64))) (.pair (.slice (.int .i64)) .unit))), .str] (.one .bool) p3) :=
  fn_pure hm0 hng0 hΓ0 (t := [(9, fnOf [] (.one .bool) p9), (10, fnOf [(.pair (.slice (.int .i64)) (.pair (.slice (.slice (.int .i64))) (.pair (.slice (.int .i64)) .unit)))] (.one .bool) p10), (11, fnOf [(.pair (.slice (.int .i64)) (.pair (.slice (.slice (.int .i64))) (.pair (.slice (.int .i64)) .unit)))] (.one .bool) p11), (12, fnOf [(.pair (.slice (.int .i64)) (.pair (.slice (.slice (.int .i64))) (.pair (.slice (.int .i64)) .unit))), .str] (.one (.int .i64)) p12), (13, fnOf [(.pair (.slice (.int .i64)) (.pair (.slice (.slice (.int .i64))) (.pair (.slice (.int .i64)) .unit))), .str] (.one (.int .i64)) p13)]) (all_cons s9 (all_cons s10 (all_cons s11 (all_cons s12 (all_cons s13 all_nil))))) (ls := []) (cmds := []) (leaves := []) (fr := []) (D := 1) all_nil (by kernel_rfl) (hfr := all_nil) fun x r h => by
    obtain ⟨x0, x1, ⟨⟩⟩ := x
    refine Eq.trans ?_ h
    kernel_rfl

end Go.AM
