/- Functions in pure form: each is sound over the program. -/
import Derived.Test.YtagllmgnmkdogaaG2
namespace Go.AM
open Go Go.Proofs

noncomputable def O4 : Orc := mkOrc [(9, fnOf [] (.one .bool) p9), (10, fnOf [(.pair (.slice (.int .i64)) (.pair (.slice (.slice (.int .i64))) (.pair (.slice (.int .i64)) .unit)))] (.one .bool) p10), (11, fnOf [(.pair (.slice (.int .i64)) (.pair (.slice (.slice (.int .i64))) (.pair (.slice (.int .i64)) .unit)))] (.one .bool) p11), (12, fnOf [(.pair (.slice (.int .i64)) (.pair (.slice (.slice (.int .i64))) (.pair (.slice (.int .i64)) .unit))), .str] (.one (.int .i64)) p12), (14, fnOf [(.pair (.slice (.int .i64)) (.pair (.slice (.slice (.int .i64))) (.pair (.slice (.int .i64)) .unit))), (.int .i64), (.int .i64)] (.one .bool) p14), (15, fnOf [(.pair (.slice (.int .i64)) (.pair (.slice (.slice (.int .i64))) (.pair (.slice (.int .i64)) .unit)))] (.one (.pair (.slice (.int .i64)) (.pair (.slice (.slice (.int .i64))) (.pair (.slice (.int .i64)) .unit)))) p15), (16, fnOf [(.pair (.slice (.int .i64)) (.pair (.slice (.slice (.int .i64))) (.pair (.slice (.int .i64)) .unit))), (.pair (.slice (.int .i64)) (.pair (.slice (.slice (.int .i64))) (.pair (.slice (.int .i64)) .unit)))] (.one .bool) p16)] [] [] [] []

/-- emendate/emendatelaw10.DfaMinimizeKeeps -/
noncomputable def p4 : (((List (Int)) × ((List (List (Int))) × ((List (Int)) × (Unit)))) × (List UInt8) × Unit) → Option (Bool)
  | (x0, x1, ()) =>
    (p11 ((x0.1, (x0.2.1, (x0.2.2.1, ()))), ())).bind fun c1 =>
    if (!c1) = true then
      (p9 (())).bind fun c2 =>
      some c2
    else
      (p14 ((x0.1, (x0.2.1, (x0.2.2.1, ()))), (12 : Int), (8 : Int), ())).bind fun c3 =>
      if (!c3) = true then
        (p9 (())).bind fun c4 =>
        some c4
      else
        if (decide ((x1.length : Int) > (50 : Int))) = true then
          (p9 (())).bind fun c5 =>
          some c5
        else
          (p15 ((x0.1, (x0.2.1, (x0.2.2.1, ()))), ())).bind fun c6 =>
          (p10 ((c6.1, (c6.2.1, (c6.2.2.1, ()))), ())).bind fun c7 =>
          if (!c7) = true then
            some false
          else
            if (decide ((c6.2.1.length : Int) > (x0.2.1.length : Int))) = true then
              some false
            else
              (p9 (())).bind fun c8 =>
              if c8 = true then
                (p12 ((c6.1, (c6.2.1, (c6.2.2.1, ()))), x1, ())).bind fun c9 =>
                (p12 ((x0.1, (x0.2.1, (x0.2.2.1, ()))), x1, ())).bind fun c10 =>
                if (decide (c9 = c10)) = true then
                  (p15 ((c6.1, (c6.2.1, (c6.2.2.1, ()))), ())).bind fun c11 =>
                  (p16 ((c11.1, (c11.2.1, (c11.2.2.1, ()))), (c6.1, (c6.2.1, (c6.2.2.1, ()))), ())).bind fun c12 =>
                  some c12
                else
                  some false
              else
                some false

theorem s4 : SoundFn Try.prog 4 (fnOf [(.pair (.slice (.int .i64)) (.pair (.slice (.slice (.int .i64))) (.pair (.slice (.int .i64)) .unit))), .str] (.one .bool) p4) :=
  fn_pure hm0 hng0 hΓ0 (t := [(9, fnOf [] (.one .bool) p9), (10, fnOf [(.pair (.slice (.int .i64)) (.pair (.slice (.slice (.int .i64))) (.pair (.slice (.int .i64)) .unit)))] (.one .bool) p10), (11, fnOf [(.pair (.slice (.int .i64)) (.pair (.slice (.slice (.int .i64))) (.pair (.slice (.int .i64)) .unit)))] (.one .bool) p11), (12, fnOf [(.pair (.slice (.int .i64)) (.pair (.slice (.slice (.int .i64))) (.pair (.slice (.int .i64)) .unit))), .str] (.one (.int .i64)) p12), (14, fnOf [(.pair (.slice (.int .i64)) (.pair (.slice (.slice (.int .i64))) (.pair (.slice (.int .i64)) .unit))), (.int .i64), (.int .i64)] (.one .bool) p14), (15, fnOf [(.pair (.slice (.int .i64)) (.pair (.slice (.slice (.int .i64))) (.pair (.slice (.int .i64)) .unit)))] (.one (.pair (.slice (.int .i64)) (.pair (.slice (.slice (.int .i64))) (.pair (.slice (.int .i64)) .unit)))) p15), (16, fnOf [(.pair (.slice (.int .i64)) (.pair (.slice (.slice (.int .i64))) (.pair (.slice (.int .i64)) .unit))), (.pair (.slice (.int .i64)) (.pair (.slice (.slice (.int .i64))) (.pair (.slice (.int .i64)) .unit)))] (.one .bool) p16)]) (all_cons s9 (all_cons s10 (all_cons s11 (all_cons s12 (all_cons s14 (all_cons s15 (all_cons s16 all_nil))))))) (ls := []) (cmds := []) (leaves := []) (fr := []) (D := 1) all_nil (by kernel_rfl) (hfr := all_nil) fun x r h => by
    obtain ⟨x0, x1, ⟨⟩⟩ := x
    refine Eq.trans ?_ h
    kernel_rfl

end Go.AM
