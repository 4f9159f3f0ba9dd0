/- Functions in pure form: each is sound over the program. -/
import Derived.Test.YtagllmgnmkdogaaG0
namespace Go.AM
open Go Go.Proofs

noncomputable def O29 : Orc := mkOrc [] [] [] [] []

/-- emendate/dfa.step -/
noncomputable def p29 : (((List (Int)) × ((List (List (Int))) × ((List (Int)) × (Unit)))) × (Int) × (Int) × Unit) → Option (Int)
  | (x0, x1, x2, ()) =>
    if (decide (x1 < (0 : Int))) = true then
      some (-1 : Int)
    else
      if decide (0 ≤ x1 ∧ x1 < (x0.2.1.length : Int)) = true then
        if decide (0 ≤ x2 ∧ x2 < (x0.1.length : Int)) = true then
          if decide (0 ≤ (x0.1.getD x2.toNat 0) ∧ (x0.1.getD x2.toNat 0) < ((x0.2.1.getD x1.toNat []).length : Int)) = true then
            some ((x0.2.1.getD x1.toNat []).getD (x0.1.getD x2.toNat 0).toNat 0)
          else
            none
        else
          none
      else
        none

theorem s29 : SoundFn Try.prog 29 (fnOf [(.pair (.slice (.int .i64)) (.pair (.slice (.slice (.int .i64))) (.pair (.slice (.int .i64)) .unit))), (.int .i64), (.int .u8)] (.one (.int .i64)) p29) :=
  fn_pure hm0 hng0 hΓ0 (t := []) all_nil (ls := []) (cmds := []) (leaves := []) (fr := []) (D := 1) all_nil (by kernel_rfl) (hfr := all_nil) fun x r h => by
    obtain ⟨x0, x1, x2, ⟨⟩⟩ := x
    refine Eq.trans ?_ h
    kernel_rfl

noncomputable def O31 : Orc := mkOrc [] [] [] [] []

/-- emendate/emendateref10.Step -/
noncomputable def p31 : (((List (Int)) × ((List (List (Int))) × ((List (Int)) × (Unit)))) × (Int) × (Int) × Unit) → Option (Int)
  | (x0, x1, x2, ()) =>
    if (decide (x1 < (0 : Int))) = true then
      some (-1 : Int)
    else
      if decide (0 ≤ x1 ∧ x1 < (x0.2.1.length : Int)) = true then
        if decide (0 ≤ x2 ∧ x2 < (x0.1.length : Int)) = true then
          if decide (0 ≤ (x0.1.getD x2.toNat 0) ∧ (x0.1.getD x2.toNat 0) < ((x0.2.1.getD x1.toNat []).length : Int)) = true then
            some ((x0.2.1.getD x1.toNat []).getD (x0.1.getD x2.toNat 0).toNat 0)
          else
            none
        else
          none
      else
        none

theorem s31 : SoundFn Try.prog 31 (fnOf [(.pair (.slice (.int .i64)) (.pair (.slice (.slice (.int .i64))) (.pair (.slice (.int .i64)) .unit))), (.int .i64), (.int .u8)] (.one (.int .i64)) p31) :=
  fn_pure hm0 hng0 hΓ0 (t := []) all_nil (ls := []) (cmds := []) (leaves := []) (fr := []) (D := 1) all_nil (by kernel_rfl) (hfr := all_nil) fun x r h => by
    obtain ⟨x0, x1, x2, ⟨⟩⟩ := x
    refine Eq.trans ?_ h
    kernel_rfl

noncomputable def O30 : Orc := mkOrc [] [] [] [] []

/-- emendate/dfa.result -/
noncomputable def p30 : (((List (Int)) × ((List (List (Int))) × ((List (Int)) × (Unit)))) × (Int) × Unit) → Option (Int)
  | (x0, x1, ()) =>
    if (decide (x1 < (0 : Int))) = true then
      some (-1 : Int)
    else
      if decide (0 ≤ x1 ∧ x1 < (x0.2.2.1.length : Int)) = true then
        some (x0.2.2.1.getD x1.toNat 0)
      else
        none

theorem s30 : SoundFn Try.prog 30 (fnOf [(.pair (.slice (.int .i64)) (.pair (.slice (.slice (.int .i64))) (.pair (.slice (.int .i64)) .unit))), (.int .i64)] (.one (.int .i64)) p30) :=
  fn_pure hm0 hng0 hΓ0 (t := []) all_nil (ls := []) (cmds := []) (leaves := []) (fr := []) (D := 1) all_nil (by kernel_rfl) (hfr := all_nil) fun x r h => by
    obtain ⟨x0, x1, ⟨⟩⟩ := x
    refine Eq.trans ?_ h
    kernel_rfl

noncomputable def O32 : Orc := mkOrc [] [] [] [] []

/-- emendate/emendateref10.accept -/
noncomputable def p32 : (((List (Int)) × ((List (List (Int))) × ((List (Int)) × (Unit)))) × (Int) × Unit) → Option (Int)
  | (x0, x1, ()) =>
    if (decide (x1 < (0 : Int))) = true then
      some (-1 : Int)
    else
      if decide (0 ≤ x1 ∧ x1 < (x0.2.2.1.length : Int)) = true then
        some (x0.2.2.1.getD x1.toNat 0)
      else
        none

theorem s32 : SoundFn Try.prog 32 (fnOf [(.pair (.slice (.int .i64)) (.pair (.slice (.slice (.int .i64))) (.pair (.slice (.int .i64)) .unit))), (.int .i64)] (.one (.int .i64)) p32) :=
  fn_pure hm0 hng0 hΓ0 (t := []) all_nil (ls := []) (cmds := []) (leaves := []) (fr := []) (D := 1) all_nil (by kernel_rfl) (hfr := all_nil) fun x r h => by
    obtain ⟨x0, x1, ⟨⟩⟩ := x
    refine Eq.trans ?_ h
    kernel_rfl

noncomputable def L19_4 : Nat → (((List (Int)) × (List (Int)) × (Int) × Unit) × (Unit)) → Option ((((Bool) × Unit) × (Unit)) ⊕ ((Unit) × (Unit)))
  | 0, _ => none
  | n + 1, ((x0, x1, x5, ()), ()) =>
    if (decide (x5 < (x0.length : Int))) = true then
      if decide (0 ≤ x5 ∧ x5 < (x0.length : Int)) = true then
        if decide (0 ≤ x5 ∧ x5 < (x1.length : Int)) = true then
          if (!decide ((x0.getD x5.toNat 0) = (x1.getD x5.toNat 0))) = true then
            some (.inl ((false, ()), ()))
          else
            L19_4 n ((x0, x1, (IntKind.i64.wrap (x5 + (1 : Int))), ()), ())
        else
          none
      else
        none
    else
      some (.inr ((), ()))

noncomputable def EL19_4 : LoopEnt := ⟨[19], 4, ⟨[], [0, 1, 5], []⟩, [.kd (.slice (.int .i64)), .kd (.slice (.int .i64)), .kd (.int .i64)], [], [⟨.ret, [4], [.kd .bool], [], []⟩, ⟨(.exit 0), [], [], [], []⟩], limit L19_4⟩

noncomputable def O19 : Orc := mkOrc [] [EL19_4] [] [] []

theorem cL19_4 : LoopCert Try.prog O19 Γ0 1 EL19_4 :=
  ⟨⟨19, 0, L19_4, rfl, by kernel_rfl, by decide, limit_fn, fun _ => rfl, fun m old x r h => by
    obtain ⟨⟨x0, x1, x5, ⟨⟩⟩, ⟨⟩⟩ := x
    refine Eq.trans ?_ h
    kernel_rfl⟩⟩

/-- emendate/emendateref07.Ints -/
noncomputable def p19 : ((List (Int)) × (List (Int)) × Unit) → Option (Bool)
  | (x0, x1, ()) =>
    if (!decide ((x0.length : Int) = (x1.length : Int))) = true then
      some false
    else
      (limit L19_4 ((x0, x1, (0 : Int), ()), ())).bind (Sum.elim (fun r1 =>
        some r1.1.1) (fun _ =>
        some true))

theorem s19 : SoundFn Try.prog 19 (fnOf [(.slice (.int .i64)), (.slice (.int .i64))] (.one .bool) p19) :=
  fn_pure hm0 hng0 hΓ0 (t := []) all_nil (ls := [EL19_4]) (cmds := []) (leaves := []) (fr := []) (D := 1) (all_cons cL19_4 all_nil) (by kernel_rfl) (hfr := all_nil) fun x r h => by
    obtain ⟨x0, x1, ⟨⟩⟩ := x
    refine Eq.trans ?_ h
    kernel_rfl

noncomputable def L10_8 : Nat → ((Unit × (Int) × (Int) × (Int) × Unit) × (((List (Int)) × (List (List (Int))) × (List (Int)) × Unit) × Unit)) → Option ((((Bool) × Unit) × (Unit)) ⊕ ((Unit × (Int) × (Int) × Unit) × (((List (Int)) × (List (List (Int))) × (List (Int)) × Unit) × Unit)))
  | 0, _ => none
  | n + 1, ((_, x3, x4, x5, ()), (y1, ())) =>
    if (decide (x5 < (256 : Int))) = true then
      if decide (0 ≤ x5 ∧ x5 < (y1.1.length : Int)) = true then
        if (decide ((y1.1.getD x5.toNat 0) < (0 : Int))) = true then
          some (.inl ((false, ()), ()))
        else
          if decide (0 ≤ x5 ∧ x5 < (y1.1.length : Int)) = true then
            if (decide ((y1.1.getD x5.toNat 0) ≥ x4)) = true then
              some (.inl ((false, ()), ()))
            else
              L10_8 n (((), x3, x4, (IntKind.i64.wrap (x5 + (1 : Int))), ()), ((y1.1, y1.2.1, y1.2.2.1, ()), ()))
          else
            none
      else
        none
    else
      some (.inr (((), x3, x4, ()), ((y1.1, y1.2.1, y1.2.2.1, ()), ())))

noncomputable def EL10_8 : LoopEnt := ⟨[10], 8, ⟨[], [1, 3, 4, 5], [1]⟩, [.ptr 1 0, .kd (.int .i64), .kd (.int .i64), .kd (.int .i64)], [.box [.kd (.slice (.int .i64)), .kd (.slice (.slice (.int .i64))), .kd (.slice (.int .i64))]], [⟨.ret, [2], [.kd .bool], [], []⟩, ⟨(.exit 0), [1, 3, 4], [.ptr 1 0, .kd (.int .i64), .kd (.int .i64)], [1], [.box [.kd (.slice (.int .i64)), .kd (.slice (.slice (.int .i64))), .kd (.slice (.int .i64))]]⟩], limit L10_8⟩

noncomputable def L10_18 : Nat → ((Unit × (Int) × (Int) × (Int) × (Int) × Unit) × (((List (Int)) × (List (List (Int))) × (List (Int)) × Unit) × Unit)) → Option ((((Bool) × Unit) × (Unit)) ⊕ ((Unit × (Int) × (Int) × (Int) × Unit) × (((List (Int)) × (List (List (Int))) × (List (Int)) × Unit) × Unit)))
  | 0, _ => none
  | n + 1, ((_, x3, x4, x6, x7, ()), (y1, ())) =>
    if (decide (x7 < x4)) = true then
      if decide (0 ≤ x6 ∧ x6 < (y1.2.1.length : Int)) = true then
        if decide (0 ≤ x7 ∧ x7 < ((y1.2.1.getD x6.toNat []).length : Int)) = true then
          if (decide (((y1.2.1.getD x6.toNat []).getD x7.toNat 0) < (-1 : Int))) = true then
            some (.inl ((false, ()), ()))
          else
            if decide (0 ≤ x6 ∧ x6 < (y1.2.1.length : Int)) = true then
              if decide (0 ≤ x7 ∧ x7 < ((y1.2.1.getD x6.toNat []).length : Int)) = true then
                if (decide (((y1.2.1.getD x6.toNat []).getD x7.toNat 0) ≥ x3)) = true then
                  some (.inl ((false, ()), ()))
                else
                  L10_18 n (((), x3, x4, x6, (IntKind.i64.wrap (x7 + (1 : Int))), ()), ((y1.1, y1.2.1, y1.2.2.1, ()), ()))
              else
                none
            else
              none
        else
          none
      else
        none
    else
      some (.inr (((), x3, x4, x6, ()), ((y1.1, y1.2.1, y1.2.2.1, ()), ())))

noncomputable def EL10_18 : LoopEnt := ⟨[10], 18, ⟨[], [1, 3, 4, 6, 7], [1]⟩, [.ptr 1 0, .kd (.int .i64), .kd (.int .i64), .kd (.int .i64), .kd (.int .i64)], [.box [.kd (.slice (.int .i64)), .kd (.slice (.slice (.int .i64))), .kd (.slice (.int .i64))]], [⟨.ret, [2], [.kd .bool], [], []⟩, ⟨(.exit 4), [1, 3, 4, 6], [.ptr 1 0, .kd (.int .i64), .kd (.int .i64), .kd (.int .i64)], [1], [.box [.kd (.slice (.int .i64)), .kd (.slice (.slice (.int .i64))), .kd (.slice (.int .i64))]]⟩], limit L10_18⟩

noncomputable def L10_13 : Nat → ((Unit × (Int) × (Int) × (Int) × Unit) × (((List (Int)) × (List (List (Int))) × (List (Int)) × Unit) × Unit)) → Option ((((Bool) × Unit) × (Unit)) ⊕ ((Unit) × (Unit)))
  | 0, _ => none
  | n + 1, ((_, x3, x4, x6, ()), (y1, ())) =>
    if (decide (x6 < x3)) = true then
      if decide (0 ≤ x6 ∧ x6 < (y1.2.1.length : Int)) = true then
        if (!decide (((y1.2.1.getD x6.toNat []).length : Int) = x4)) = true then
          some (.inl ((false, ()), ()))
        else
          if decide (0 ≤ x6 ∧ x6 < (y1.2.2.1.length : Int)) = true then
            if (decide ((y1.2.2.1.getD x6.toNat 0) < (-1 : Int))) = true then
              some (.inl ((false, ()), ()))
            else
              (limit L10_18 (((), x3, x4, x6, (0 : Int), ()), ((y1.1, y1.2.1, y1.2.2.1, ()), ()))).bind (Sum.elim (fun r1 =>
                some (.inl ((r1.1.1, ()), ()))) (fun r1 =>
                L10_13 n (((), r1.1.2.1, r1.1.2.2.1, (IntKind.i64.wrap (r1.1.2.2.2.1 + (1 : Int))), ()), ((r1.2.1.1, r1.2.1.2.1, r1.2.1.2.2.1, ()), ()))))
          else
            none
      else
        none
    else
      some (.inr ((), ()))

noncomputable def EL10_13 : LoopEnt := ⟨[10], 13, ⟨[], [1, 3, 4, 6], [1]⟩, [.ptr 1 0, .kd (.int .i64), .kd (.int .i64), .kd (.int .i64)], [.box [.kd (.slice (.int .i64)), .kd (.slice (.slice (.int .i64))), .kd (.slice (.int .i64))]], [⟨.ret, [2], [.kd .bool], [], []⟩, ⟨(.exit 2), [], [], [], []⟩], limit L10_13⟩

noncomputable def O10 : Orc := mkOrc [] [EL10_8, EL10_18, EL10_13] [] [] []

theorem cL10_8 : LoopCert Try.prog O10 Γ0 1 EL10_8 :=
  ⟨⟨10, 0, L10_8, rfl, by kernel_rfl, by decide, limit_fn, fun _ => rfl, fun m old x r h => by
    obtain ⟨⟨x1, x3, x4, x5, ⟨⟩⟩, y1, ⟨⟩⟩ := x
    refine Eq.trans ?_ h
    kernel_rfl⟩⟩

theorem cL10_18 : LoopCert Try.prog O10 Γ0 1 EL10_18 :=
  ⟨⟨10, 2, L10_18, rfl, by kernel_rfl, by decide, limit_fn, fun _ => rfl, fun m old x r h => by
    obtain ⟨⟨x1, x3, x4, x6, x7, ⟨⟩⟩, y1, ⟨⟩⟩ := x
    refine Eq.trans ?_ h
    kernel_rfl⟩⟩

theorem cL10_13 : LoopCert Try.prog O10 Γ0 1 EL10_13 :=
  ⟨⟨10, 1, L10_13, rfl, by kernel_rfl, by decide, limit_fn, fun _ => rfl, fun m old x r h => by
    obtain ⟨⟨x1, x3, x4, x6, ⟨⟩⟩, y1, ⟨⟩⟩ := x
    refine Eq.trans ?_ h
    kernel_rfl⟩⟩

/-- emendate/emendateref10.Valid -/
noncomputable def p10 : (((List (Int)) × ((List (List (Int))) × ((List (Int)) × (Unit)))) × Unit) → Option (Bool)
  | (x0, ()) =>
    if (!decide ((x0.1.length : Int) = (256 : Int))) = true then
      some false
    else
      if (decide ((x0.2.1.length : Int) < (1 : Int))) = true then
        some false
      else
        if (decide ((x0.2.1.length : Int) > (500 : Int))) = true then
          some false
        else
          if (!decide ((x0.2.2.1.length : Int) = (x0.2.1.length : Int))) = true then
            some false
          else
            if decide (0 ≤ (0 : Int) ∧ (0 : Int) < (x0.2.1.length : Int)) = true then
              if (decide (((x0.2.1.getD (0 : Int).toNat []).length : Int) < (1 : Int))) = true then
                some false
              else
                (limit L10_8 (((), (x0.2.1.length : Int), ((x0.2.1.getD (0 : Int).toNat []).length : Int), (0 : Int), ()), ((x0.1, x0.2.1, x0.2.2.1, ()), ()))).bind (Sum.elim (fun r1 =>
                  some r1.1.1) (fun r1 =>
                  (limit L10_13 (((), r1.1.2.1, r1.1.2.2.1, (0 : Int), ()), ((r1.2.1.1, r1.2.1.2.1, r1.2.1.2.2.1, ()), ()))).bind (Sum.elim (fun r2 =>
                    some r2.1.1) (fun _ =>
                    some true))))
            else
              none

theorem s10 : SoundFn Try.prog 10 (fnOf [(.pair (.slice (.int .i64)) (.pair (.slice (.slice (.int .i64))) (.pair (.slice (.int .i64)) .unit)))] (.one .bool) p10) :=
  fn_pure hm0 hng0 hΓ0 (t := []) all_nil (ls := [EL10_8, EL10_18, EL10_13]) (cmds := []) (leaves := []) (fr := []) (D := 1) (all_cons cL10_8 (all_cons cL10_18 (all_cons cL10_13 all_nil))) (by kernel_rfl) (hfr := all_nil) fun x r h => by
    obtain ⟨x0, ⟨⟩⟩ := x
    refine Eq.trans ?_ h
    kernel_rfl

noncomputable def L12_3 : Nat → (((List UInt8) × Unit × (Int) × (Int) × (Int) × Unit) × (((List (Int)) × (List (List (Int))) × (List (Int)) × Unit) × Unit)) → Option ((Unit × (Int) × Unit) × (((List (Int)) × (List (List (Int))) × (List (Int)) × Unit) × Unit))
  | 0, _ => none
  | n + 1, ((x1, _, x5, x8, x9, ()), (y2, ())) =>
    if (decide (x9 < x8)) = true then
      if decide (0 ≤ x9 ∧ x9 < (x1.length : Int)) = true then
        (p29 ((y2.1, (y2.2.1, (y2.2.2.1, ()))), x5, ((x1.getD x9.toNat 0).toNat : Int), ())).bind fun c1 =>
        L12_3 n ((x1, (), c1, x8, (IntKind.i64.wrap (x9 + (1 : Int))), ()), ((y2.1, y2.2.1, y2.2.2.1, ()), ()))
      else
        none
    else
      some (((), x5, ()), ((y2.1, y2.2.1, y2.2.2.1, ()), ()))

noncomputable def EL12_3 : LoopEnt := ⟨[12], 3, ⟨[], [1, 2, 5, 8, 9], [2]⟩, [.kd .str, .ptr 2 0, .kd (.int .i64), .kd (.int .i64), .kd (.int .i64)], [.box [.kd (.slice (.int .i64)), .kd (.slice (.slice (.int .i64))), .kd (.slice (.int .i64))]], [⟨(.exit 0), [2, 5], [.ptr 2 0, .kd (.int .i64)], [2], [.box [.kd (.slice (.int .i64)), .kd (.slice (.slice (.int .i64))), .kd (.slice (.int .i64))]]⟩], limit L12_3⟩

noncomputable def O12 : Orc := mkOrc [(29, fnOf [(.pair (.slice (.int .i64)) (.pair (.slice (.slice (.int .i64))) (.pair (.slice (.int .i64)) .unit))), (.int .i64), (.int .u8)] (.one (.int .i64)) p29), (30, fnOf [(.pair (.slice (.int .i64)) (.pair (.slice (.slice (.int .i64))) (.pair (.slice (.int .i64)) .unit))), (.int .i64)] (.one (.int .i64)) p30)] [EL12_3] [] [] []

theorem cL12_3 : LoopCert Try.prog O12 Γ0 1 EL12_3 :=
  ⟨⟨12, 0, L12_3, rfl, by kernel_rfl, by decide, limit_fn, fun _ => rfl, fun m old x r h => by
    obtain ⟨⟨x1, x2, x5, x8, x9, ⟨⟩⟩, y2, ⟨⟩⟩ := x
    refine Eq.trans ?_ h
    kernel_rfl⟩⟩

/-- emendate/dfa.Run -/
noncomputable def p12 : (((List (Int)) × ((List (List (Int))) × ((List (Int)) × (Unit)))) × (List UInt8) × Unit) → Option (Int)
  | (x0, x1, ()) =>
    (limit L12_3 ((x1, (), (0 : Int), (x1.length : Int), (0 : Int), ()), ((x0.1, x0.2.1, x0.2.2.1, ()), ()))).bind fun r1 =>
    (p30 ((r1.2.1.1, (r1.2.1.2.1, (r1.2.1.2.2.1, ()))), r1.1.2.1, ())).bind fun c2 =>
    some c2

theorem s12 : SoundFn Try.prog 12 (fnOf [(.pair (.slice (.int .i64)) (.pair (.slice (.slice (.int .i64))) (.pair (.slice (.int .i64)) .unit))), .str] (.one (.int .i64)) p12) :=
  fn_pure hm0 hng0 hΓ0 (t := [(29, fnOf [(.pair (.slice (.int .i64)) (.pair (.slice (.slice (.int .i64))) (.pair (.slice (.int .i64)) .unit))), (.int .i64), (.int .u8)] (.one (.int .i64)) p29), (30, fnOf [(.pair (.slice (.int .i64)) (.pair (.slice (.slice (.int .i64))) (.pair (.slice (.int .i64)) .unit))), (.int .i64)] (.one (.int .i64)) p30)]) (all_cons s29 (all_cons s30 all_nil)) (ls := [EL12_3]) (cmds := []) (leaves := []) (fr := []) (D := 1) (all_cons cL12_3 all_nil) (by kernel_rfl) (hfr := all_nil) fun x r h => by
    obtain ⟨x0, x1, ⟨⟩⟩ := x
    refine Eq.trans ?_ h
    kernel_rfl

noncomputable def L13_3 : Nat → (((List UInt8) × Unit × (Int) × (Int) × Unit) × (((List (Int)) × (List (List (Int))) × (List (Int)) × Unit) × Unit)) → Option ((Unit × (Int) × Unit) × (((List (Int)) × (List (List (Int))) × (List (Int)) × Unit) × Unit))
  | 0, _ => none
  | n + 1, ((x1, _, x5, x6, ()), (y2, ())) =>
    if (decide (x6 < (x1.length : Int))) = true then
      if decide (0 ≤ x6 ∧ x6 < (x1.length : Int)) = true then
        (p31 ((y2.1, (y2.2.1, (y2.2.2.1, ()))), x5, ((x1.getD x6.toNat 0).toNat : Int), ())).bind fun c1 =>
        L13_3 n ((x1, (), c1, (IntKind.i64.wrap (x6 + (1 : Int))), ()), ((y2.1, y2.2.1, y2.2.2.1, ()), ()))
      else
        none
    else
      some (((), x5, ()), ((y2.1, y2.2.1, y2.2.2.1, ()), ()))

noncomputable def EL13_3 : LoopEnt := ⟨[13], 3, ⟨[], [1, 2, 5, 6], [2]⟩, [.kd .str, .ptr 2 0, .kd (.int .i64), .kd (.int .i64)], [.box [.kd (.slice (.int .i64)), .kd (.slice (.slice (.int .i64))), .kd (.slice (.int .i64))]], [⟨(.exit 0), [2, 5], [.ptr 2 0, .kd (.int .i64)], [2], [.box [.kd (.slice (.int .i64)), .kd (.slice (.slice (.int .i64))), .kd (.slice (.int .i64))]]⟩], limit L13_3⟩

noncomputable def O13 : Orc := mkOrc [(31, fnOf [(.pair (.slice (.int .i64)) (.pair (.slice (.slice (.int .i64))) (.pair (.slice (.int .i64)) .unit))), (.int .i64), (.int .u8)] (.one (.int .i64)) p31), (32, fnOf [(.pair (.slice (.int .i64)) (.pair (.slice (.slice (.int .i64))) (.pair (.slice (.int .i64)) .unit))), (.int .i64)] (.one (.int .i64)) p32)] [EL13_3] [] [] []

theorem cL13_3 : LoopCert Try.prog O13 Γ0 1 EL13_3 :=
  ⟨⟨13, 0, L13_3, rfl, by kernel_rfl, by decide, limit_fn, fun _ => rfl, fun m old x r h => by
    obtain ⟨⟨x1, x2, x5, x6, ⟨⟩⟩, y2, ⟨⟩⟩ := x
    refine Eq.trans ?_ h
    kernel_rfl⟩⟩

/-- emendate/emendateref10.Run -/
noncomputable def p13 : (((List (Int)) × ((List (List (Int))) × ((List (Int)) × (Unit)))) × (List UInt8) × Unit) → Option (Int)
  | (x0, x1, ()) =>
    (limit L13_3 ((x1, (), (0 : Int), (0 : Int), ()), ((x0.1, x0.2.1, x0.2.2.1, ()), ()))).bind fun r1 =>
    (p32 ((r1.2.1.1, (r1.2.1.2.1, (r1.2.1.2.2.1, ()))), r1.1.2.1, ())).bind fun c2 =>
    some c2

theorem s13 : SoundFn Try.prog 13 (fnOf [(.pair (.slice (.int .i64)) (.pair (.slice (.slice (.int .i64))) (.pair (.slice (.int .i64)) .unit))), .str] (.one (.int .i64)) p13) :=
  fn_pure hm0 hng0 hΓ0 (t := [(31, fnOf [(.pair (.slice (.int .i64)) (.pair (.slice (.slice (.int .i64))) (.pair (.slice (.int .i64)) .unit))), (.int .i64), (.int .u8)] (.one (.int .i64)) p31), (32, fnOf [(.pair (.slice (.int .i64)) (.pair (.slice (.slice (.int .i64))) (.pair (.slice (.int .i64)) .unit))), (.int .i64)] (.one (.int .i64)) p32)]) (all_cons s31 (all_cons s32 all_nil)) (ls := [EL13_3]) (cmds := []) (leaves := []) (fr := []) (D := 1) (all_cons cL13_3 all_nil) (by kernel_rfl) (hfr := all_nil) fun x r h => by
    obtain ⟨x0, x1, ⟨⟩⟩ := x
    refine Eq.trans ?_ h
    kernel_rfl

noncomputable def L16_4 : Nat → ((Unit × Unit × (Int) × Unit) × (((List (Int)) × (List (List (Int))) × (List (Int)) × Unit) × ((List (Int)) × (List (List (Int))) × (List (Int)) × Unit) × Unit)) → Option ((((Bool) × Unit) × (Unit)) ⊕ ((Unit) × (Unit)))
  | 0, _ => none
  | n + 1, ((_, _, x5, ()), (y2, y3, ())) =>
    if (decide (x5 < (y2.2.1.length : Int))) = true then
      if decide (0 ≤ x5 ∧ x5 < (y2.2.1.length : Int)) = true then
        if decide (0 ≤ x5 ∧ x5 < (y3.2.1.length : Int)) = true then
          (p19 ((y2.2.1.getD x5.toNat []), (y3.2.1.getD x5.toNat []), ())).bind fun c1 =>
          if (!c1) = true then
            some (.inl ((false, ()), ()))
          else
            L16_4 n (((), (), (IntKind.i64.wrap (x5 + (1 : Int))), ()), ((y2.1, y2.2.1, y2.2.2.1, ()), (y3.1, y3.2.1, y3.2.2.1, ()), ()))
        else
          none
      else
        none
    else
      some (.inr ((), ()))

noncomputable def EL16_4 : LoopEnt := ⟨[16], 4, ⟨[], [2, 3, 5], [2, 3]⟩, [.ptr 2 0, .ptr 3 0, .kd (.int .i64)], [.box [.kd (.slice (.int .i64)), .kd (.slice (.slice (.int .i64))), .kd (.slice (.int .i64))], .box [.kd (.slice (.int .i64)), .kd (.slice (.slice (.int .i64))), .kd (.slice (.int .i64))]], [⟨.ret, [4], [.kd .bool], [], []⟩, ⟨(.exit 0), [], [], [], []⟩], limit L16_4⟩

noncomputable def O16 : Orc := mkOrc [(19, fnOf [(.slice (.int .i64)), (.slice (.int .i64))] (.one .bool) p19)] [EL16_4] [] [] []

theorem cL16_4 : LoopCert Try.prog O16 Γ0 1 EL16_4 :=
  ⟨⟨16, 0, L16_4, rfl, by kernel_rfl, by decide, limit_fn, fun _ => rfl, fun m old x r h => by
    obtain ⟨⟨x2, x3, x5, ⟨⟩⟩, y2, y3, ⟨⟩⟩ := x
    refine Eq.trans ?_ h
    kernel_rfl⟩⟩

/-- emendate/emendateref10.Same -/
noncomputable def p16 : (((List (Int)) × ((List (List (Int))) × ((List (Int)) × (Unit)))) × ((List (Int)) × ((List (List (Int))) × ((List (Int)) × (Unit)))) × Unit) → Option (Bool)
  | (x0, x1, ()) =>
    if (!decide ((x0.2.1.length : Int) = (x1.2.1.length : Int))) = true then
      some false
    else
      (p19 (x0.1, x1.1, ())).bind fun c1 =>
      if (!c1) = true then
        some false
      else
        (p19 (x0.2.2.1, x1.2.2.1, ())).bind fun c2 =>
        if (!c2) = true then
          some false
        else
          (limit L16_4 (((), (), (0 : Int), ()), ((x0.1, x0.2.1, x0.2.2.1, ()), (x1.1, x1.2.1, x1.2.2.1, ()), ()))).bind (Sum.elim (fun r3 =>
            some r3.1.1) (fun _ =>
            some true))

theorem s16 : SoundFn Try.prog 16 (fnOf [(.pair (.slice (.int .i64)) (.pair (.slice (.slice (.int .i64))) (.pair (.slice (.int .i64)) .unit))), (.pair (.slice (.int .i64)) (.pair (.slice (.slice (.int .i64))) (.pair (.slice (.int .i64)) .unit)))] (.one .bool) p16) :=
  fn_pure hm0 hng0 hΓ0 (t := [(19, fnOf [(.slice (.int .i64)), (.slice (.int .i64))] (.one .bool) p19)]) (all_cons s19 all_nil) (ls := [EL16_4]) (cmds := []) (leaves := []) (fr := []) (D := 1) (all_cons cL16_4 all_nil) (by kernel_rfl) (hfr := all_nil) fun x r h => by
    obtain ⟨x0, x1, ⟨⟩⟩ := x
    refine Eq.trans ?_ h
    kernel_rfl

noncomputable def O14 : Orc := mkOrc [(10, fnOf [(.pair (.slice (.int .i64)) (.pair (.slice (.slice (.int .i64))) (.pair (.slice (.int .i64)) .unit)))] (.one .bool) p10)] [] [] [] []

/-- emendate/emendateref10.Small -/
noncomputable def p14 : (((List (Int)) × ((List (List (Int))) × ((List (Int)) × (Unit)))) × (Int) × (Int) × Unit) → Option (Bool)
  | (x0, x1, x2, ()) =>
    (p10 ((x0.1, (x0.2.1, (x0.2.2.1, ()))), ())).bind fun c1 =>
    if c1 = true then
      if (decide ((x0.2.1.length : Int) ≤ x1)) = true then
        if decide (0 ≤ (0 : Int) ∧ (0 : Int) < (x0.2.1.length : Int)) = true then
          some (decide (((x0.2.1.getD (0 : Int).toNat []).length : Int) ≤ x2))
        else
          none
      else
        some false
    else
      some false

theorem s14 : SoundFn Try.prog 14 (fnOf [(.pair (.slice (.int .i64)) (.pair (.slice (.slice (.int .i64))) (.pair (.slice (.int .i64)) .unit))), (.int .i64), (.int .i64)] (.one .bool) p14) :=
  fn_pure hm0 hng0 hΓ0 (t := [(10, fnOf [(.pair (.slice (.int .i64)) (.pair (.slice (.slice (.int .i64))) (.pair (.slice (.int .i64)) .unit)))] (.one .bool) p10)]) (all_cons s10 all_nil) (ls := []) (cmds := []) (leaves := []) (fr := []) (D := 1) all_nil (by kernel_rfl) (hfr := all_nil) fun x r h => by
    obtain ⟨x0, x1, x2, ⟨⟩⟩ := x
    refine Eq.trans ?_ h
    kernel_rfl

def Γ47 : TEnv := { Γ0 with imm := [19] }
theorem hΓ47 : Γ47.ok Try.prog = true := hΓ0

noncomputable def L47_3 : Nat → (((List (Int)) × Unit × (Int) × Unit) × ((List (Int)) × Unit)) → Option ((Unit × Unit) × ((List (Int)) × Unit))
  | 0, _ => none
  | n + 1, ((x0, _, x4, ()), (y3, ())) =>
    if (decide (x4 < (256 : Int))) = true then
      if decide (0 ≤ x4 ∧ x4 < (x0.length : Int)) = true then
        if (decide ((x0.getD x4.toNat 0) = (y3.length : Int))) = true then
          if decide (y3.length + ([(IntKind.u8.wrap x4)] : List (Int)).length ≤ lim) = true then
            L47_3 n ((x0, (), (IntKind.i64.wrap (x4 + (1 : Int))), ()), ((y3 ++ ([(IntKind.u8.wrap x4)] : List (Int))), ()))
          else
            none
        else
          L47_3 n ((x0, (), (IntKind.i64.wrap (x4 + (1 : Int))), ()), (y3, ()))
      else
        none
    else
      some (((), ()), (y3, ()))

noncomputable def EL47_3 : LoopEnt := ⟨[47], 3, ⟨[.keep [0, 3, 4] [3, 20], .adopt 3 (.int .u8) 3], [0, 3, 4], [3]⟩, [.kd (.slice (.int .i64)), .ref 3, .kd (.int .i64)], [.row (.int .u8)], [⟨(.exit 0), [3], [.ref 3], [3], [.row (.int .u8)]⟩], limit L47_3⟩

noncomputable def O47 : Orc := mkOrc [] [EL47_3] [] [] []

theorem cL47_3 : LoopCert Try.prog O47 Γ47 1 EL47_3 :=
  ⟨⟨47, 0, L47_3, rfl, by kernel_rfl, by decide, limit_fn, fun _ => rfl, fun m old x r h => by
    obtain ⟨⟨x0, x3, x4, ⟨⟩⟩, y3, ⟨⟩⟩ := x
    refine Eq.trans ?_ h
    kernel_rfl⟩⟩

/-- emendate/emendateref10.first -/
noncomputable def p47 : ((List (Int)) × Unit) → Option (List (Int))
  | (x0, ()) =>
    (limit L47_3 ((x0, (), (0 : Int), ()), (([] : List (Int)), ()))).bind fun r1 =>
    some r1.2.1

theorem s47 : SoundFn Try.prog 47 (fnOf [(.slice (.int .i64))] (.one (.slice (.int .u8))) p47) :=
  fn_pure hm0 hng0 hΓ47 (t := []) all_nil (ls := [EL47_3]) (cmds := []) (leaves := []) (fr := []) (D := 1) (all_cons cL47_3 all_nil) (by kernel_rfl) (hfr := all_nil) fun x r h => by
    obtain ⟨x0, ⟨⟩⟩ := x
    refine Eq.trans ?_ h
    kernel_rfl

def Γ38 : TEnv := { Γ0 with imm := [20] }
theorem hΓ38 : Γ38.ok Try.prog = true := hΓ0

noncomputable def L38_3 : Nat → ((Unit × (List (Int)) × (Int) × (Int) × Unit) × ((List (Int)) × Unit)) → Option ((Unit × Unit) × ((List (Int)) × Unit))
  | 0, _ => none
  | n + 1, ((_, x6, x7, x8, ()), (y3, ())) =>
    if (decide (x8 < x7)) = true then
      if decide (0 ≤ x8 ∧ x8 < (x6.length : Int)) = true then
        if (decide ((x6.getD x8.toNat 0) = (y3.length : Int))) = true then
          if decide (y3.length + ([(IntKind.u8.wrap x8)] : List (Int)).length ≤ lim) = true then
            L38_3 n (((), x6, x7, (IntKind.i64.wrap (x8 + (1 : Int))), ()), ((y3 ++ ([(IntKind.u8.wrap x8)] : List (Int))), ()))
          else
            none
        else
          L38_3 n (((), x6, x7, (IntKind.i64.wrap (x8 + (1 : Int))), ()), (y3, ()))
      else
        none
    else
      some (((), ()), (y3, ()))

noncomputable def EL38_3 : LoopEnt := ⟨[38], 3, ⟨[.keep [3, 6, 7, 8] [3, 21], .adopt 3 (.int .u8) 3], [3, 6, 7, 8], [3]⟩, [.ref 3, .kd (.slice (.int .i64)), .kd (.int .i64), .kd (.int .i64)], [.row (.int .u8)], [⟨(.exit 0), [3], [.ref 3], [3], [.row (.int .u8)]⟩], limit L38_3⟩

noncomputable def O38 : Orc := mkOrc [] [EL38_3] [] [] []

theorem cL38_3 : LoopCert Try.prog O38 Γ38 1 EL38_3 :=
  ⟨⟨38, 0, L38_3, rfl, by kernel_rfl, by decide, limit_fn, fun _ => rfl, fun m old x r h => by
    obtain ⟨⟨x3, x6, x7, x8, ⟨⟩⟩, y3, ⟨⟩⟩ := x
    refine Eq.trans ?_ h
    kernel_rfl⟩⟩

/-- emendate/dfa.sample -/
noncomputable def p38 : ((List (Int)) × Unit) → Option (List (Int))
  | (x0, ()) =>
    (limit L38_3 (((), x0, (x0.length : Int), (0 : Int), ()), (([] : List (Int)), ()))).bind fun r1 =>
    some r1.2.1

theorem s38 : SoundFn Try.prog 38 (fnOf [(.slice (.int .i64))] (.one (.slice (.int .u8))) p38) :=
  fn_pure hm0 hng0 hΓ38 (t := []) all_nil (ls := [EL38_3]) (cmds := []) (leaves := []) (fr := []) (D := 1) (all_cons cL38_3 all_nil) (by kernel_rfl) (hfr := all_nil) fun x r h => by
    obtain ⟨x0, ⟨⟩⟩ := x
    refine Eq.trans ?_ h
    kernel_rfl

def Γ57 : TEnv := { Γ0 with imm := [22] }
theorem hΓ57 : Γ57.ok Try.prog = true := hΓ0

noncomputable def L57_6 : Nat → ((Unit × (Int) × (List (Int)) × (Int) × (Int) × (Int) × Unit) × ((List (Int)) × Unit)) → Option ((Unit × (List (Int)) × (Int) × (Int) × Unit) × ((List (Int)) × Unit))
  | 0, _ => none
  | n + 1, ((_, x5, x7, x8, x9, x13, ()), (y3, ())) =>
    if (decide (x13 < (8 : Int))) = true then
      if decide (0 ≤ (IntKind.i64.wrap ((8 : Int) * x13))) = true then
        if decide (y3.length + ([(IntKind.u8.wrap (x5.fdiv (2 ^ (min (IntKind.i64.wrap ((8 : Int) * x13)).toNat (IntKind.i64.bits)))))] : List (Int)).length ≤ lim) = true then
          L57_6 n (((), x5, x7, x8, x9, (IntKind.i64.wrap (x13 + (1 : Int))), ()), ((y3 ++ ([(IntKind.u8.wrap (x5.fdiv (2 ^ (min (IntKind.i64.wrap ((8 : Int) * x13)).toNat (IntKind.i64.bits)))))] : List (Int))), ()))
        else
          none
      else
        none
    else
      some (((), x7, x8, x9, ()), (y3, ()))

noncomputable def EL57_6 : LoopEnt := ⟨[57], 6, ⟨[.keep [3, 5, 7, 8, 9, 13] [3, 23], .adopt 3 (.int .u8) 3], [3, 5, 7, 8, 9, 13], [3]⟩, [.ref 3, .kd (.int .i64), .kd (.slice (.int .i64)), .kd (.int .i64), .kd (.int .i64), .kd (.int .i64)], [.row (.int .u8)], [⟨(.exit 2), [3, 7, 8, 9], [.ref 3, .kd (.slice (.int .i64)), .kd (.int .i64), .kd (.int .i64)], [3], [.row (.int .u8)]⟩], limit L57_6⟩

noncomputable def L57_3 : Nat → ((Unit × (List (Int)) × (Int) × (Int) × Unit) × ((List (Int)) × Unit)) → Option ((Unit × Unit) × ((List (Int)) × Unit))
  | 0, _ => none
  | n + 1, ((_, x7, x8, x9, ()), (y3, ())) =>
    if (decide (x9 < x8)) = true then
      if decide (0 ≤ x9 ∧ x9 < (x7.length : Int)) = true then
        (limit L57_6 (((), (x7.getD x9.toNat 0), x7, x8, x9, (0 : Int), ()), (y3, ()))).bind fun r1 =>
        L57_3 n (((), r1.1.2.1, r1.1.2.2.1, (IntKind.i64.wrap (r1.1.2.2.2.1 + (1 : Int))), ()), (r1.2.1, ()))
      else
        none
    else
      some (((), ()), (y3, ()))

noncomputable def EL57_3 : LoopEnt := ⟨[57], 3, ⟨[.keep [3, 7, 8, 9] [3], .adopt 3 (.int .u8) 3], [3, 7, 8, 9], [3]⟩, [.ref 3, .kd (.slice (.int .i64)), .kd (.int .i64), .kd (.int .i64)], [.row (.int .u8)], [⟨(.exit 0), [3], [.ref 3], [3], [.row (.int .u8)]⟩], limit L57_3⟩

noncomputable def O57 : Orc := mkOrc [] [EL57_6, EL57_3] [] [] []

theorem cL57_6 : LoopCert Try.prog O57 Γ57 1 EL57_6 :=
  ⟨⟨57, 1, L57_6, rfl, by kernel_rfl, by decide, limit_fn, fun _ => rfl, fun m old x r h => by
    obtain ⟨⟨x3, x5, x7, x8, x9, x13, ⟨⟩⟩, y3, ⟨⟩⟩ := x
    refine Eq.trans ?_ h
    kernel_rfl⟩⟩

theorem cL57_3 : LoopCert Try.prog O57 Γ57 1 EL57_3 :=
  ⟨⟨57, 0, L57_3, rfl, by kernel_rfl, by decide, limit_fn, fun _ => rfl, fun m old x r h => by
    obtain ⟨⟨x3, x7, x8, x9, ⟨⟩⟩, y3, ⟨⟩⟩ := x
    refine Eq.trans ?_ h
    kernel_rfl⟩⟩

/-- emendate/dfa.wide -/
noncomputable def p57 : ((List (Int)) × Unit) → Option (List UInt8)
  | (x0, ()) =>
    (limit L57_3 (((), x0, (x0.length : Int), (0 : Int), ()), (([] : List (Int)), ()))).bind fun r1 =>
    some (r1.2.1.map fun n => UInt8.ofNat n.toNat)

theorem s57 : SoundFn Try.prog 57 (fnOf [(.slice (.int .i64))] (.one .str) p57) :=
  fn_pure hm0 hng0 hΓ57 (t := []) all_nil (ls := [EL57_6, EL57_3]) (cmds := []) (leaves := []) (fr := []) (D := 1) (all_cons cL57_6 (all_cons cL57_3 all_nil)) (by kernel_rfl) (hfr := all_nil) fun x r h => by
    obtain ⟨x0, ⟨⟩⟩ := x
    refine Eq.trans ?_ h
    kernel_rfl

def Γ36 : TEnv := { Γ0 with imm := [42] }
theorem hΓ36 : Γ36.ok Try.prog = true := hΓ0

noncomputable def L36_8 : Nat → (((List (Int)) × (List (Int)) × Unit × Unit × Unit × (Int) × Unit × (Int) × (Int) × (List (Int)) × (Int) × (Int) × Unit) × (((List (Int)) × (List (List (Int))) × (List (Int)) × Unit) × (List (Int)) × (List (Int)) × (List ((List UInt8) × (Int))) × Unit)) → Option (((List (Int)) × (List (Int)) × Unit × Unit × Unit × (Int) × Unit × (Int) × (Int) × Unit) × (((List (Int)) × (List (List (Int))) × (List (Int)) × Unit) × (List (Int)) × (List (Int)) × (List ((List UInt8) × (Int))) × Unit))
  | 0, _ => none
  | n + 1, ((x1, x2, _, _, _, x9, _, x19, x20, x23, x24, x25, ()), (y3, y10, y16, y17, ())) =>
    if (decide (x25 < x24)) = true then
      if decide (0 ≤ x25 ∧ x25 < (x23.length : Int)) = true then
        (p29 ((y3.1, (y3.2.1, (y3.2.2.1, ()))), (x23.getD x25.toNat 0), (IntKind.u8.wrap x9), ())).bind fun c1 =>
        if (decide (c1 ≥ (0 : Int))) = true then
          if decide (0 ≤ c1 ∧ c1 < (x2.length : Int)) = true then
            if decide (y10.length + ([(x2.getD c1.toNat 0)] : List (Int)).length ≤ lim) = true then
              L36_8 n ((x1, x2, (), (), (), x9, (), x19, x20, x23, x24, (IntKind.i64.wrap (x25 + (1 : Int))), ()), ((y3.1, y3.2.1, y3.2.2.1, ()), (y10 ++ ([(x2.getD c1.toNat 0)] : List (Int))), y16, y17, ()))
            else
              none
          else
            none
        else
          if decide (y10.length + ([c1] : List (Int)).length ≤ lim) = true then
            L36_8 n ((x1, x2, (), (), (), x9, (), x19, x20, x23, x24, (IntKind.i64.wrap (x25 + (1 : Int))), ()), ((y3.1, y3.2.1, y3.2.2.1, ()), (y10 ++ ([c1] : List (Int))), y16, y17, ()))
          else
            none
      else
        none
    else
      some ((x1, x2, (), (), (), x9, (), x19, x20, ()), ((y3.1, y3.2.1, y3.2.2.1, ()), y10, y16, y17, ()))

noncomputable def EL36_8 : LoopEnt := ⟨[36], 8, ⟨[.keep [1, 2, 3, 7, 8, 9, 10, 19, 20, 23, 24, 25] [3, 16, 17, 43], .adopt 10 (.int .i64) 10], [1, 2, 3, 7, 8, 9, 10, 19, 20, 23, 24, 25], [3, 10, 16, 17]⟩, [.kd (.slice (.int .i64)), .kd (.slice (.int .i64)), .ptr 3 0, .ref 16, .mapr 17, .kd (.int .i64), .ref 10, .kd (.int .i64), .kd (.int .i64), .kd (.slice (.int .i64)), .kd (.int .i64), .kd (.int .i64)], [.box [.kd (.slice (.int .i64)), .kd (.slice (.slice (.int .i64))), .kd (.slice (.int .i64))], .row (.int .i64), .row (.int .i64), .map .str (.int .i64)], [⟨(.exit 2), [1, 2, 3, 7, 8, 9, 10, 19, 20], [.kd (.slice (.int .i64)), .kd (.slice (.int .i64)), .ptr 3 0, .ref 16, .mapr 17, .kd (.int .i64), .ref 10, .kd (.int .i64), .kd (.int .i64)], [3, 10, 16, 17], [.box [.kd (.slice (.int .i64)), .kd (.slice (.slice (.int .i64))), .kd (.slice (.int .i64))], .row (.int .i64), .row (.int .i64), .map .str (.int .i64)]⟩], limit L36_8⟩

noncomputable def L57_36_6 : Nat → ((Unit × (Int) × Unit × (Int) × (Int) × (Int) × Unit) × (((List (Int)) × (List (List (Int))) × (List (Int)) × Unit) × (List (Int)) × (List (Int)) × (List ((List UInt8) × (Int))) × (List (Int)) × Unit)) → Option ((Unit × Unit × (Int) × (Int) × Unit) × (((List (Int)) × (List (List (Int))) × (List (Int)) × Unit) × (List (Int)) × (List (Int)) × (List ((List UInt8) × (Int))) × (List (Int)) × Unit))
  | 0, _ => none
  | n + 1, ((_, x5, _, x8, x9, x13, ()), (y3, y10, y16, y17, y1003, ())) =>
    if (decide (x13 < (8 : Int))) = true then
      if decide (0 ≤ (IntKind.i64.wrap ((8 : Int) * x13))) = true then
        if decide (y1003.length + ([(IntKind.u8.wrap (x5.fdiv (2 ^ (min (IntKind.i64.wrap ((8 : Int) * x13)).toNat (IntKind.i64.bits)))))] : List (Int)).length ≤ lim) = true then
          L57_36_6 n (((), x5, (), x8, x9, (IntKind.i64.wrap (x13 + (1 : Int))), ()), ((y3.1, y3.2.1, y3.2.2.1, ()), y10, y16, y17, (y1003 ++ ([(IntKind.u8.wrap (x5.fdiv (2 ^ (min (IntKind.i64.wrap ((8 : Int) * x13)).toNat (IntKind.i64.bits)))))] : List (Int))), ()))
        else
          none
      else
        none
    else
      some (((), (), x8, x9, ()), ((y3.1, y3.2.1, y3.2.2.1, ()), y10, y16, y17, y1003, ()))

noncomputable def EL57_36_6 : LoopEnt := ⟨[57, 36], 6, ⟨[.keep [3, 5, 7, 8, 9, 13] [10, 1003, 1023], .adopt 3 (.int .u8) 1003], [3, 5, 7, 8, 9, 13], [3, 10, 16, 17, 1003]⟩, [.ref 1003, .kd (.int .i64), .ref 10, .kd (.int .i64), .kd (.int .i64), .kd (.int .i64)], [.box [.kd (.slice (.int .i64)), .kd (.slice (.slice (.int .i64))), .kd (.slice (.int .i64))], .row (.int .i64), .row (.int .i64), .map .str (.int .i64), .row (.int .u8)], [⟨(.exit 2), [3, 7, 8, 9], [.ref 1003, .ref 10, .kd (.int .i64), .kd (.int .i64)], [3, 10, 16, 17, 1003], [.box [.kd (.slice (.int .i64)), .kd (.slice (.slice (.int .i64))), .kd (.slice (.int .i64))], .row (.int .i64), .row (.int .i64), .map .str (.int .i64), .row (.int .u8)]⟩], limit L57_36_6⟩

noncomputable def L57_36_3 : Nat → ((Unit × Unit × (Int) × (Int) × Unit) × (((List (Int)) × (List (List (Int))) × (List (Int)) × Unit) × (List (Int)) × (List (Int)) × (List ((List UInt8) × (Int))) × (List (Int)) × Unit)) → Option ((Unit × Unit) × (((List (Int)) × (List (List (Int))) × (List (Int)) × Unit) × (List (Int)) × (List (Int)) × (List ((List UInt8) × (Int))) × (List (Int)) × Unit))
  | 0, _ => none
  | n + 1, ((_, _, x8, x9, ()), (y3, y10, y16, y17, y1003, ())) =>
    if (decide (x9 < x8)) = true then
      if decide (0 ≤ x9 ∧ x9 < (y10.length : Int)) = true then
        (limit L57_36_6 (((), (y10.getD x9.toNat 0), (), x8, x9, (0 : Int), ()), ((y3.1, y3.2.1, y3.2.2.1, ()), y10, y16, y17, y1003, ()))).bind fun r1 =>
        L57_36_3 n (((), (), r1.1.2.2.1, (IntKind.i64.wrap (r1.1.2.2.2.1 + (1 : Int))), ()), ((r1.2.1.1, r1.2.1.2.1, r1.2.1.2.2.1, ()), r1.2.2.1, r1.2.2.2.1, r1.2.2.2.2.1, r1.2.2.2.2.2.1, ()))
      else
        none
    else
      some (((), ()), ((y3.1, y3.2.1, y3.2.2.1, ()), y10, y16, y17, y1003, ()))

noncomputable def EL57_36_3 : LoopEnt := ⟨[57, 36], 3, ⟨[.keep [3, 7, 8, 9] [10, 1003], .adopt 3 (.int .u8) 1003], [3, 7, 8, 9], [3, 10, 16, 17, 1003]⟩, [.ref 1003, .ref 10, .kd (.int .i64), .kd (.int .i64)], [.box [.kd (.slice (.int .i64)), .kd (.slice (.slice (.int .i64))), .kd (.slice (.int .i64))], .row (.int .i64), .row (.int .i64), .map .str (.int .i64), .row (.int .u8)], [⟨(.exit 0), [3], [.ref 1003], [3, 10, 16, 17, 1003], [.box [.kd (.slice (.int .i64)), .kd (.slice (.slice (.int .i64))), .kd (.slice (.int .i64))], .row (.int .i64), .row (.int .i64), .map .str (.int .i64), .row (.int .u8)]⟩], limit L57_36_3⟩

noncomputable def L36_4 : Nat → (((List (Int)) × (List (Int)) × Unit × Unit × Unit × (Int) × (Int) × Unit) × (((List (Int)) × (List (List (Int))) × (List (Int)) × Unit) × (List (Int)) × (List ((List UInt8) × (Int))) × Unit)) → Option ((Unit × Unit) × ((List (Int)) × Unit))
  | 0, _ => none
  | n + 1, ((x1, x2, _, _, _, x19, x20, ()), (y3, y16, y17, ())) =>
    if (decide (x20 < x19)) = true then
      (limit L36_8 ((x1, x2, (), (), (), x20, (), x19, x20, x1, (x1.length : Int), (0 : Int), ()), ((y3.1, y3.2.1, y3.2.2.1, ()), ([] : List (Int)), y16, y17, ()))).bind fun r1 =>
      (limit L57_36_3 (((), (), (r1.2.2.1.length : Int), (0 : Int), ()), ((r1.2.1.1, r1.2.1.2.1, r1.2.1.2.2.1, ()), r1.2.2.1, r1.2.2.2.1, r1.2.2.2.2.1, ([] : List (Int)), ()))).bind fun r2 =>
      if (!(mget .str (r2.2.2.2.2.2.1.map fun n => UInt8.ofNat n.toNat) r2.2.2.2.2.1).isSome) = true then
        (limit L57_36_3 (((), (), (r2.2.2.1.length : Int), (0 : Int), ()), ((r2.2.1.1, r2.2.1.2.1, r2.2.1.2.2.1, ()), r2.2.2.1, r2.2.2.2.1, r2.2.2.2.2.1, ([] : List (Int)), ()))).bind fun r3 =>
        if decide (0 ≤ r1.1.2.2.2.2.2.1 ∧ r1.1.2.2.2.2.2.1 < (r3.2.2.2.1.length : Int)) = true then
          L36_4 n ((r1.1.1, r1.1.2.1, (), (), (), r1.1.2.2.2.2.2.2.2.1, (IntKind.i64.wrap (r1.1.2.2.2.2.2.2.2.2.1 + (1 : Int))), ()), ((r3.2.1.1, r3.2.1.2.1, r3.2.1.2.2.1, ()), (r3.2.2.2.1.set r1.1.2.2.2.2.2.1.toNat (r2.2.2.2.2.1.length : Int)), (mput .str (r3.2.2.2.2.2.1.map fun n => UInt8.ofNat n.toNat) (r2.2.2.2.2.1.length : Int) r3.2.2.2.2.1), ()))
        else
          none
      else
        if decide (0 ≤ r1.1.2.2.2.2.2.1 ∧ r1.1.2.2.2.2.2.1 < (r2.2.2.2.1.length : Int)) = true then
          L36_4 n ((r1.1.1, r1.1.2.1, (), (), (), r1.1.2.2.2.2.2.2.2.1, (IntKind.i64.wrap (r1.1.2.2.2.2.2.2.2.2.1 + (1 : Int))), ()), ((r2.2.1.1, r2.2.1.2.1, r2.2.1.2.2.1, ()), (r2.2.2.2.1.set r1.1.2.2.2.2.2.1.toNat ((mget .str (r2.2.2.2.2.2.1.map fun n => UInt8.ofNat n.toNat) r2.2.2.2.2.1).getD 0)), r2.2.2.2.2.1, ()))
        else
          none
    else
      some (((), ()), (y16, ()))

noncomputable def EL36_4 : LoopEnt := ⟨[36], 4, ⟨[], [1, 2, 3, 7, 8, 19, 20], [3, 16, 17]⟩, [.kd (.slice (.int .i64)), .kd (.slice (.int .i64)), .ptr 3 0, .ref 16, .mapr 17, .kd (.int .i64), .kd (.int .i64)], [.box [.kd (.slice (.int .i64)), .kd (.slice (.slice (.int .i64))), .kd (.slice (.int .i64))], .row (.int .i64), .map .str (.int .i64)], [⟨(.exit 0), [7], [.ref 16], [16], [.row (.int .i64)]⟩], limit L36_4⟩

noncomputable def O36 : Orc := mkOrc [(29, fnOf [(.pair (.slice (.int .i64)) (.pair (.slice (.slice (.int .i64))) (.pair (.slice (.int .i64)) .unit))), (.int .i64), (.int .u8)] (.one (.int .i64)) p29)] [EL36_8, EL57_36_6, EL57_36_3, EL36_4] [] [] []

theorem cL36_8 : LoopCert Try.prog O36 Γ36 2 EL36_8 :=
  ⟨⟨36, 1, L36_8, rfl, by kernel_rfl, by decide, limit_fn, fun _ => rfl, fun m old x r h => by
    obtain ⟨⟨x1, x2, x3, x7, x8, x9, x10, x19, x20, x23, x24, x25, ⟨⟩⟩, y3, y10, y16, y17, ⟨⟩⟩ := x
    refine Eq.trans ?_ h
    kernel_rfl⟩⟩

theorem cL57_36_6 : LoopCert Try.prog O36 Γ36 2 EL57_36_6 :=
  ⟨⟨57, 1, L57_36_6, rfl, by kernel_rfl, by decide, limit_fn, fun _ => rfl, fun m old x r h => by
    obtain ⟨⟨x3, x5, x7, x8, x9, x13, ⟨⟩⟩, y3, y10, y16, y17, y1003, ⟨⟩⟩ := x
    refine Eq.trans ?_ h
    kernel_rfl⟩⟩

theorem cL57_36_3 : LoopCert Try.prog O36 Γ36 2 EL57_36_3 :=
  ⟨⟨57, 0, L57_36_3, rfl, by kernel_rfl, by decide, limit_fn, fun _ => rfl, fun m old x r h => by
    obtain ⟨⟨x3, x7, x8, x9, ⟨⟩⟩, y3, y10, y16, y17, y1003, ⟨⟩⟩ := x
    refine Eq.trans ?_ h
    kernel_rfl⟩⟩

theorem cL36_4 : LoopCert Try.prog O36 Γ36 2 EL36_4 :=
  ⟨⟨36, 0, L36_4, rfl, by kernel_rfl, by decide, limit_fn, fun _ => rfl, fun m old x r h => by
    obtain ⟨⟨x1, x2, x3, x7, x8, x19, x20, ⟨⟩⟩, y3, y16, y17, ⟨⟩⟩ := x
    refine Eq.trans ?_ h
    kernel_rfl⟩⟩

/-- emendate/dfa.classes -/
noncomputable def p36 : (((List (Int)) × ((List (List (Int))) × ((List (Int)) × (Unit)))) × (List (Int)) × (List (Int)) × Unit) → Option (List (Int))
  | (x0, x1, x2, ()) =>
    if decide ((256 : Int) = (256 : Int) ∧ 0 ≤ (256 : Int) ∧ (256 : Int) ≤ (lim : Int)) = true then
      (limit L36_4 ((x1, x2, (), (), (), ((List.replicate (256 : Int).toNat (0 : Int)).length : Int), (0 : Int), ()), ((x0.1, x0.2.1, x0.2.2.1, ()), (List.replicate (256 : Int).toNat (0 : Int)), ([] : List ((List UInt8) × (Int))), ()))).bind fun r1 =>
      some r1.2.1
    else
      none

theorem s36 : SoundFn Try.prog 36 (fnOf [(.pair (.slice (.int .i64)) (.pair (.slice (.slice (.int .i64))) (.pair (.slice (.int .i64)) .unit))), (.slice (.int .i64)), (.slice (.int .i64))] (.one (.slice (.int .i64))) p36) :=
  fn_pure hm0 hng0 hΓ36 (t := [(29, fnOf [(.pair (.slice (.int .i64)) (.pair (.slice (.slice (.int .i64))) (.pair (.slice (.int .i64)) .unit))), (.int .i64), (.int .u8)] (.one (.int .i64)) p29)]) (all_cons s29 all_nil) (ls := [EL36_8, EL57_36_6, EL57_36_3, EL36_4]) (cmds := []) (leaves := []) (fr := []) (D := 2) (all_cons cL36_8 (all_cons cL57_36_6 (all_cons cL57_36_3 (all_cons cL36_4 all_nil)))) (by kernel_rfl) (hfr := all_nil) fun x r h => by
    obtain ⟨x0, x1, x2, ⟨⟩⟩ := x
    refine Eq.trans ?_ h
    kernel_rfl

def Γ37 : TEnv := { Γ0 with imm := [59] }
theorem hΓ37 : Γ37.ok Try.prog = true := hΓ0

noncomputable def L37_8 : Nat → (((List (Int)) × Unit × Unit × Unit × (Int) × (List (Int)) × (Int) × (Int) × Unit) × (((List (Int)) × (List (List (Int))) × (List (Int)) × Unit) × (List (Int)) × (List (Bool)) × Unit)) → Option (((List (Int)) × Unit × Unit × Unit × (Int) × Unit) × (((List (Int)) × (List (List (Int))) × (List (Int)) × Unit) × (List (Int)) × (List (Bool)) × Unit))
  | 0, _ => none
  | n + 1, ((x1, _, _, _, x7, x33, x34, x35, ()), (y2, y5, y14, ())) =>
    if (decide (x35 < x34)) = true then
      if decide (0 ≤ x35 ∧ x35 < (x33.length : Int)) = true then
        if (decide ((x33.getD x35.toNat 0) ≥ (0 : Int))) = true then
          if decide (0 ≤ (x33.getD x35.toNat 0) ∧ (x33.getD x35.toNat 0) < (x1.length : Int)) = true then
            if decide (0 ≤ (x1.getD (x33.getD x35.toNat 0).toNat 0) ∧ (x1.getD (x33.getD x35.toNat 0).toNat 0) < (y14.length : Int)) = true then
              if (!(y14.getD (x1.getD (x33.getD x35.toNat 0).toNat 0).toNat false)) = true then
                if decide (0 ≤ (x33.getD x35.toNat 0) ∧ (x33.getD x35.toNat 0) < (x1.length : Int)) = true then
                  if decide (0 ≤ (x1.getD (x33.getD x35.toNat 0).toNat 0) ∧ (x1.getD (x33.getD x35.toNat 0).toNat 0) < (y14.length : Int)) = true then
                    if decide (y5.length + ([(x33.getD x35.toNat 0)] : List (Int)).length ≤ lim) = true then
                      L37_8 n ((x1, (), (), (), x7, x33, x34, (IntKind.i64.wrap (x35 + (1 : Int))), ()), ((y2.1, y2.2.1, y2.2.2.1, ()), (y5 ++ ([(x33.getD x35.toNat 0)] : List (Int))), (y14.set (x1.getD (x33.getD x35.toNat 0).toNat 0).toNat true), ()))
                    else
                      none
                  else
                    none
                else
                  none
              else
                L37_8 n ((x1, (), (), (), x7, x33, x34, (IntKind.i64.wrap (x35 + (1 : Int))), ()), ((y2.1, y2.2.1, y2.2.2.1, ()), y5, y14, ()))
            else
              none
          else
            none
        else
          L37_8 n ((x1, (), (), (), x7, x33, x34, (IntKind.i64.wrap (x35 + (1 : Int))), ()), ((y2.1, y2.2.1, y2.2.2.1, ()), y5, y14, ()))
      else
        none
    else
      some ((x1, (), (), (), x7, ()), ((y2.1, y2.2.1, y2.2.2.1, ()), y5, y14, ()))

noncomputable def EL37_8 : LoopEnt := ⟨[37], 8, ⟨[.keep [1, 2, 5, 6, 7, 33, 34, 35] [2, 5, 14, 60], .adopt 5 (.int .i64) 5], [1, 2, 5, 6, 7, 33, 34, 35], [2, 5, 14]⟩, [.kd (.slice (.int .i64)), .ptr 2 0, .ref 5, .ref 14, .kd (.int .i64), .kd (.slice (.int .i64)), .kd (.int .i64), .kd (.int .i64)], [.box [.kd (.slice (.int .i64)), .kd (.slice (.slice (.int .i64))), .kd (.slice (.int .i64))], .row (.int .i64), .row .bool], [⟨(.exit 2), [1, 2, 5, 6, 7], [.kd (.slice (.int .i64)), .ptr 2 0, .ref 5, .ref 14, .kd (.int .i64)], [2, 5, 14], [.box [.kd (.slice (.int .i64)), .kd (.slice (.slice (.int .i64))), .kd (.slice (.int .i64))], .row (.int .i64), .row .bool]⟩], limit L37_8⟩

noncomputable def L37_5 : Nat → (((List (Int)) × Unit × Unit × Unit × (Int) × Unit) × (((List (Int)) × (List (List (Int))) × (List (Int)) × Unit) × (List (Int)) × (List (Bool)) × Unit)) → Option ((Unit × Unit) × ((List (Int)) × Unit))
  | 0, _ => none
  | n + 1, ((x1, _, _, _, x7, ()), (y2, y5, y14, ())) =>
    if (decide (x7 < (y5.length : Int))) = true then
      if decide (0 ≤ x7 ∧ x7 < (y5.length : Int)) = true then
        if decide (0 ≤ (y5.getD x7.toNat 0) ∧ (y5.getD x7.toNat 0) < (y2.2.1.length : Int)) = true then
          (limit L37_8 ((x1, (), (), (), x7, (y2.2.1.getD (y5.getD x7.toNat 0).toNat []), ((y2.2.1.getD (y5.getD x7.toNat 0).toNat []).length : Int), (0 : Int), ()), ((y2.1, y2.2.1, y2.2.2.1, ()), y5, y14, ()))).bind fun r1 =>
          L37_5 n ((r1.1.1, (), (), (), (IntKind.i64.wrap (r1.1.2.2.2.2.1 + (1 : Int))), ()), ((r1.2.1.1, r1.2.1.2.1, r1.2.1.2.2.1, ()), r1.2.2.1, r1.2.2.2.1, ()))
        else
          none
      else
        none
    else
      some (((), ()), (y5, ()))

noncomputable def EL37_5 : LoopEnt := ⟨[37], 5, ⟨[.keep [1, 2, 5, 6, 7] [2, 5, 10, 14], .adopt 5 (.int .i64) 5], [1, 2, 5, 6, 7], [2, 5, 14]⟩, [.kd (.slice (.int .i64)), .ptr 2 0, .ref 5, .ref 14, .kd (.int .i64)], [.box [.kd (.slice (.int .i64)), .kd (.slice (.slice (.int .i64))), .kd (.slice (.int .i64))], .row (.int .i64), .row .bool], [⟨(.exit 0), [5], [.ref 5], [5], [.row (.int .i64)]⟩], limit L37_5⟩

noncomputable def O37 : Orc := mkOrc [] [EL37_8, EL37_5] [] [] []

theorem cL37_8 : LoopCert Try.prog O37 Γ37 1 EL37_8 :=
  ⟨⟨37, 1, L37_8, rfl, by kernel_rfl, by decide, limit_fn, fun _ => rfl, fun m old x r h => by
    obtain ⟨⟨x1, x2, x5, x6, x7, x33, x34, x35, ⟨⟩⟩, y2, y5, y14, ⟨⟩⟩ := x
    refine Eq.trans ?_ h
    kernel_rfl⟩⟩

theorem cL37_5 : LoopCert Try.prog O37 Γ37 1 EL37_5 :=
  ⟨⟨37, 0, L37_5, rfl, by kernel_rfl, by decide, limit_fn, fun _ => rfl, fun m old x r h => by
    obtain ⟨⟨x1, x2, x5, x6, x7, ⟨⟩⟩, y2, y5, y14, ⟨⟩⟩ := x
    refine Eq.trans ?_ h
    kernel_rfl⟩⟩

/-- emendate/dfa.reached -/
noncomputable def p37 : (((List (Int)) × ((List (List (Int))) × ((List (Int)) × (Unit)))) × (List (Int)) × Unit) → Option (List (Int))
  | (x0, x1, ()) =>
    if decide ((x0.2.1.length : Int) = (x0.2.1.length : Int) ∧ 0 ≤ (x0.2.1.length : Int) ∧ (x0.2.1.length : Int) ≤ (lim : Int)) = true then
      if decide (0 ≤ (0 : Int) ∧ (0 : Int) < (x1.length : Int)) = true then
        if decide (0 ≤ (x1.getD (0 : Int).toNat 0) ∧ (x1.getD (0 : Int).toNat 0) < ((List.replicate (x0.2.1.length : Int).toNat false).length : Int)) = true then
          (limit L37_5 ((x1, (), (), (), (0 : Int), ()), ((x0.1, x0.2.1, x0.2.2.1, ()), ([(0 : Int)] : List (Int)), ((List.replicate (x0.2.1.length : Int).toNat false).set (x1.getD (0 : Int).toNat 0).toNat true), ()))).bind fun r1 =>
          some r1.2.1
        else
          none
      else
        none
    else
      none

theorem s37 : SoundFn Try.prog 37 (fnOf [(.pair (.slice (.int .i64)) (.pair (.slice (.slice (.int .i64))) (.pair (.slice (.int .i64)) .unit))), (.slice (.int .i64))] (.one (.slice (.int .i64))) p37) :=
  fn_pure hm0 hng0 hΓ37 (t := []) all_nil (ls := [EL37_8, EL37_5]) (cmds := []) (leaves := []) (fr := []) (D := 1) (all_cons cL37_8 (all_cons cL37_5 all_nil)) (by kernel_rfl) (hfr := all_nil) fun x r h => by
    obtain ⟨x0, x1, ⟨⟩⟩ := x
    refine Eq.trans ?_ h
    kernel_rfl

def Γ35 : TEnv := { Γ0 with imm := [50, 58] }
theorem hΓ35 : Γ35.ok Try.prog = true := hΓ0

noncomputable def L35_10 : Nat → ((Unit × Unit × (Int) × Unit × Unit × (Int) × Unit × (List (List (Int))) × (Int) × (Int) × (List (Int)) × (Int) × (Int) × Unit) × (((List (Int)) × (List (List (Int))) × (List (Int)) × Unit) × (List (Int)) × (List (Int)) × (List ((List UInt8) × (Int))) × (List (Int)) × Unit)) → Option ((Unit × Unit × (Int) × Unit × Unit × (Int) × Unit × (List (List (Int))) × (Int) × (Int) × Unit) × (((List (Int)) × (List (List (Int))) × (List (Int)) × Unit) × (List (Int)) × (List (Int)) × (List ((List UInt8) × (Int))) × (List (Int)) × Unit))
  | 0, _ => none
  | n + 1, ((_, _, x4, _, _, x7, _, x23, x24, x25, x41, x42, x43, ()), (y1, y3, y9, y18, y21, ())) =>
    if (decide (x43 < x42)) = true then
      if decide (0 ≤ x43 ∧ x43 < (x41.length : Int)) = true then
        if (decide ((x41.getD x43.toNat 0) < (0 : Int))) = true then
          if decide (y9.length + ([(0 : Int)] : List (Int)).length ≤ lim) = true then
            L35_10 n (((), (), x4, (), (), x7, (), x23, x24, x25, x41, x42, (IntKind.i64.wrap (x43 + (1 : Int))), ()), ((y1.1, y1.2.1, y1.2.2.1, ()), y3, (y9 ++ ([(0 : Int)] : List (Int))), y18, y21, ()))
          else
            none
        else
          if decide (0 ≤ (x41.getD x43.toNat 0) ∧ (x41.getD x43.toNat 0) < (y3.length : Int)) = true then
            if decide (y9.length + ([(IntKind.i64.wrap ((y3.getD (x41.getD x43.toNat 0).toNat 0) + (1 : Int)))] : List (Int)).length ≤ lim) = true then
              L35_10 n (((), (), x4, (), (), x7, (), x23, x24, x25, x41, x42, (IntKind.i64.wrap (x43 + (1 : Int))), ()), ((y1.1, y1.2.1, y1.2.2.1, ()), y3, (y9 ++ ([(IntKind.i64.wrap ((y3.getD (x41.getD x43.toNat 0).toNat 0) + (1 : Int)))] : List (Int))), y18, y21, ()))
            else
              none
          else
            none
      else
        none
    else
      some (((), (), x4, (), (), x7, (), x23, x24, x25, ()), ((y1.1, y1.2.1, y1.2.2.1, ()), y3, y9, y18, y21, ()))

noncomputable def EL35_10 : LoopEnt := ⟨[35], 10, ⟨[.keep [1, 3, 4, 5, 6, 7, 9, 23, 24, 25, 41, 42, 43] [1, 3, 18, 21, 40, 51, 59], .adopt 9 (.int .i64) 9], [1, 3, 4, 5, 6, 7, 9, 23, 24, 25, 41, 42, 43], [1, 3, 9, 18, 21]⟩, [.ptr 1 0, .ref 3, .kd (.int .i64), .mapr 18, .ref 21, .kd (.int .i64), .ref 9, .kd (.slice (.slice (.int .i64))), .kd (.int .i64), .kd (.int .i64), .kd (.slice (.int .i64)), .kd (.int .i64), .kd (.int .i64)], [.box [.kd (.slice (.int .i64)), .kd (.slice (.slice (.int .i64))), .kd (.slice (.int .i64))], .row (.int .i64), .row (.int .i64), .map .str (.int .i64), .row (.int .i64)], [⟨(.exit 4), [1, 3, 4, 5, 6, 7, 9, 23, 24, 25], [.ptr 1 0, .ref 3, .kd (.int .i64), .mapr 18, .ref 21, .kd (.int .i64), .ref 9, .kd (.slice (.slice (.int .i64))), .kd (.int .i64), .kd (.int .i64)], [1, 3, 9, 18, 21], [.box [.kd (.slice (.int .i64)), .kd (.slice (.slice (.int .i64))), .kd (.slice (.int .i64))], .row (.int .i64), .row (.int .i64), .map .str (.int .i64), .row (.int .i64)]⟩], limit L35_10⟩

noncomputable def L57_35_6 : Nat → ((Unit × (Int) × Unit × (Int) × (Int) × (Int) × Unit) × (((List (Int)) × (List (List (Int))) × (List (Int)) × Unit) × (List (Int)) × (List (Int)) × (List ((List UInt8) × (Int))) × (List (Int)) × (List (Int)) × Unit)) → Option ((Unit × Unit × (Int) × (Int) × Unit) × (((List (Int)) × (List (List (Int))) × (List (Int)) × Unit) × (List (Int)) × (List (Int)) × (List ((List UInt8) × (Int))) × (List (Int)) × (List (Int)) × Unit))
  | 0, _ => none
  | n + 1, ((_, x5, _, x8, x9, x13, ()), (y1, y3, y9, y18, y21, y1003, ())) =>
    if (decide (x13 < (8 : Int))) = true then
      if decide (0 ≤ (IntKind.i64.wrap ((8 : Int) * x13))) = true then
        if decide (y1003.length + ([(IntKind.u8.wrap (x5.fdiv (2 ^ (min (IntKind.i64.wrap ((8 : Int) * x13)).toNat (IntKind.i64.bits)))))] : List (Int)).length ≤ lim) = true then
          L57_35_6 n (((), x5, (), x8, x9, (IntKind.i64.wrap (x13 + (1 : Int))), ()), ((y1.1, y1.2.1, y1.2.2.1, ()), y3, y9, y18, y21, (y1003 ++ ([(IntKind.u8.wrap (x5.fdiv (2 ^ (min (IntKind.i64.wrap ((8 : Int) * x13)).toNat (IntKind.i64.bits)))))] : List (Int))), ()))
        else
          none
      else
        none
    else
      some (((), (), x8, x9, ()), ((y1.1, y1.2.1, y1.2.2.1, ()), y3, y9, y18, y21, y1003, ()))

noncomputable def EL57_35_6 : LoopEnt := ⟨[57, 35], 6, ⟨[.keep [3, 5, 7, 8, 9, 13] [9, 1003, 1023], .adopt 3 (.int .u8) 1003], [3, 5, 7, 8, 9, 13], [1, 3, 9, 18, 21, 1003]⟩, [.ref 1003, .kd (.int .i64), .ref 9, .kd (.int .i64), .kd (.int .i64), .kd (.int .i64)], [.box [.kd (.slice (.int .i64)), .kd (.slice (.slice (.int .i64))), .kd (.slice (.int .i64))], .row (.int .i64), .row (.int .i64), .map .str (.int .i64), .row (.int .i64), .row (.int .u8)], [⟨(.exit 2), [3, 7, 8, 9], [.ref 1003, .ref 9, .kd (.int .i64), .kd (.int .i64)], [1, 3, 9, 18, 21, 1003], [.box [.kd (.slice (.int .i64)), .kd (.slice (.slice (.int .i64))), .kd (.slice (.int .i64))], .row (.int .i64), .row (.int .i64), .map .str (.int .i64), .row (.int .i64), .row (.int .u8)]⟩], limit L57_35_6⟩

noncomputable def L57_35_3 : Nat → ((Unit × Unit × (Int) × (Int) × Unit) × (((List (Int)) × (List (List (Int))) × (List (Int)) × Unit) × (List (Int)) × (List (Int)) × (List ((List UInt8) × (Int))) × (List (Int)) × (List (Int)) × Unit)) → Option ((Unit × Unit) × (((List (Int)) × (List (List (Int))) × (List (Int)) × Unit) × (List (Int)) × (List (Int)) × (List ((List UInt8) × (Int))) × (List (Int)) × (List (Int)) × Unit))
  | 0, _ => none
  | n + 1, ((_, _, x8, x9, ()), (y1, y3, y9, y18, y21, y1003, ())) =>
    if (decide (x9 < x8)) = true then
      if decide (0 ≤ x9 ∧ x9 < (y9.length : Int)) = true then
        (limit L57_35_6 (((), (y9.getD x9.toNat 0), (), x8, x9, (0 : Int), ()), ((y1.1, y1.2.1, y1.2.2.1, ()), y3, y9, y18, y21, y1003, ()))).bind fun r1 =>
        L57_35_3 n (((), (), r1.1.2.2.1, (IntKind.i64.wrap (r1.1.2.2.2.1 + (1 : Int))), ()), ((r1.2.1.1, r1.2.1.2.1, r1.2.1.2.2.1, ()), r1.2.2.1, r1.2.2.2.1, r1.2.2.2.2.1, r1.2.2.2.2.2.1, r1.2.2.2.2.2.2.1, ()))
      else
        none
    else
      some (((), ()), ((y1.1, y1.2.1, y1.2.2.1, ()), y3, y9, y18, y21, y1003, ()))

noncomputable def EL57_35_3 : LoopEnt := ⟨[57, 35], 3, ⟨[.keep [3, 7, 8, 9] [9, 1003], .adopt 3 (.int .u8) 1003], [3, 7, 8, 9], [1, 3, 9, 18, 21, 1003]⟩, [.ref 1003, .ref 9, .kd (.int .i64), .kd (.int .i64)], [.box [.kd (.slice (.int .i64)), .kd (.slice (.slice (.int .i64))), .kd (.slice (.int .i64))], .row (.int .i64), .row (.int .i64), .map .str (.int .i64), .row (.int .i64), .row (.int .u8)], [⟨(.exit 0), [3], [.ref 1003], [1, 3, 9, 18, 21, 1003], [.box [.kd (.slice (.int .i64)), .kd (.slice (.slice (.int .i64))), .kd (.slice (.int .i64))], .row (.int .i64), .row (.int .i64), .map .str (.int .i64), .row (.int .i64), .row (.int .u8)]⟩], limit L57_35_3⟩

noncomputable def L35_6 : Nat → ((Unit × Unit × (Int) × Unit × Unit × (List (List (Int))) × (Int) × (Int) × Unit) × (((List (Int)) × (List (List (Int))) × (List (Int)) × Unit) × (List (Int)) × (List ((List UInt8) × (Int))) × (List (Int)) × Unit)) → Option ((Unit × (Int) × Unit × Unit × Unit) × (((List (Int)) × (List (List (Int))) × (List (Int)) × Unit) × (List ((List UInt8) × (Int))) × (List (Int)) × Unit))
  | 0, _ => none
  | n + 1, ((_, _, x4, _, _, x23, x24, x25, ()), (y1, y3, y18, y21, ())) =>
    if (decide (x25 < x24)) = true then
      if decide (0 ≤ x25 ∧ x25 < (x23.length : Int)) = true then
        if decide (0 ≤ x25 ∧ x25 < (y3.length : Int)) = true then
          if decide (0 ≤ x25 ∧ x25 < (y1.2.2.1.length : Int)) = true then
            (limit L35_10 (((), (), x4, (), (), x25, (), x23, x24, x25, (x23.getD x25.toNat []), ((x23.getD x25.toNat []).length : Int), (0 : Int), ()), ((y1.1, y1.2.1, y1.2.2.1, ()), y3, ([(y3.getD x25.toNat 0), (IntKind.i64.wrap ((y1.2.2.1.getD x25.toNat 0) + (1 : Int)))] : List (Int)), y18, y21, ()))).bind fun r1 =>
            (limit L57_35_3 (((), (), (r1.2.2.2.1.length : Int), (0 : Int), ()), ((r1.2.1.1, r1.2.1.2.1, r1.2.1.2.2.1, ()), r1.2.2.1, r1.2.2.2.1, r1.2.2.2.2.1, r1.2.2.2.2.2.1, ([] : List (Int)), ()))).bind fun r2 =>
            if (!(mget .str (r2.2.2.2.2.2.2.1.map fun n => UInt8.ofNat n.toNat) r2.2.2.2.2.1).isSome) = true then
              (limit L57_35_3 (((), (), (r2.2.2.2.1.length : Int), (0 : Int), ()), ((r2.2.1.1, r2.2.1.2.1, r2.2.1.2.2.1, ()), r2.2.2.1, r2.2.2.2.1, r2.2.2.2.2.1, r2.2.2.2.2.2.1, ([] : List (Int)), ()))).bind fun r3 =>
              if decide (0 ≤ r1.1.2.2.2.2.2.1 ∧ r1.1.2.2.2.2.2.1 < (r3.2.2.2.2.2.1.length : Int)) = true then
                L35_6 n (((), (), r1.1.2.2.1, (), (), r1.1.2.2.2.2.2.2.2.1, r1.1.2.2.2.2.2.2.2.2.1, (IntKind.i64.wrap (r1.1.2.2.2.2.2.2.2.2.2.1 + (1 : Int))), ()), ((r3.2.1.1, r3.2.1.2.1, r3.2.1.2.2.1, ()), r3.2.2.1, (mput .str (r3.2.2.2.2.2.2.1.map fun n => UInt8.ofNat n.toNat) (r2.2.2.2.2.1.length : Int) r3.2.2.2.2.1), (r3.2.2.2.2.2.1.set r1.1.2.2.2.2.2.1.toNat (r2.2.2.2.2.1.length : Int)), ()))
              else
                none
            else
              if decide (0 ≤ r1.1.2.2.2.2.2.1 ∧ r1.1.2.2.2.2.2.1 < (r2.2.2.2.2.2.1.length : Int)) = true then
                L35_6 n (((), (), r1.1.2.2.1, (), (), r1.1.2.2.2.2.2.2.2.1, r1.1.2.2.2.2.2.2.2.2.1, (IntKind.i64.wrap (r1.1.2.2.2.2.2.2.2.2.2.1 + (1 : Int))), ()), ((r2.2.1.1, r2.2.1.2.1, r2.2.1.2.2.1, ()), r2.2.2.1, r2.2.2.2.2.1, (r2.2.2.2.2.2.1.set r1.1.2.2.2.2.2.1.toNat ((mget .str (r2.2.2.2.2.2.2.1.map fun n => UInt8.ofNat n.toNat) r2.2.2.2.2.1).getD 0)), ()))
              else
                none
          else
            none
        else
          none
      else
        none
    else
      some (((), x4, (), (), ()), ((y1.1, y1.2.1, y1.2.2.1, ()), y18, y21, ()))

noncomputable def EL35_6 : LoopEnt := ⟨[35], 6, ⟨[], [1, 3, 4, 5, 6, 23, 24, 25], [1, 3, 18, 21]⟩, [.ptr 1 0, .ref 3, .kd (.int .i64), .mapr 18, .ref 21, .kd (.slice (.slice (.int .i64))), .kd (.int .i64), .kd (.int .i64)], [.box [.kd (.slice (.int .i64)), .kd (.slice (.slice (.int .i64))), .kd (.slice (.int .i64))], .row (.int .i64), .map .str (.int .i64), .row (.int .i64)], [⟨(.exit 2), [1, 4, 5, 6], [.ptr 1 0, .kd (.int .i64), .mapr 18, .ref 21], [1, 18, 21], [.box [.kd (.slice (.int .i64)), .kd (.slice (.slice (.int .i64))), .kd (.slice (.int .i64))], .map .str (.int .i64), .row (.int .i64)]⟩], limit L35_6⟩

noncomputable def L35_3 : Nat → ((Unit × Unit × (Int) × Unit) × (((List (Int)) × (List (List (Int))) × (List (Int)) × Unit) × (List (Int)) × Unit)) → Option ((Unit × Unit) × ((List (Int)) × Unit))
  | 0, _ => none
  | n + 1, ((_, _, x4, ()), (y1, y3, ())) =>
    if decide ((y3.length : Int) = (y3.length : Int) ∧ 0 ≤ (y3.length : Int) ∧ (y3.length : Int) ≤ (lim : Int)) = true then
      (limit L35_6 (((), (), x4, (), (), y1.2.1, (y1.2.1.length : Int), (0 : Int), ()), ((y1.1, y1.2.1, y1.2.2.1, ()), y3, ([] : List ((List UInt8) × (Int))), (List.replicate (y3.length : Int).toNat (0 : Int)), ()))).bind fun r1 =>
      if (decide ((r1.2.2.1.length : Int) = r1.1.2.1)) = true then
        some (((), ()), (r1.2.2.2.1, ()))
      else
        L35_3 n (((), (), (r1.2.2.1.length : Int), ()), ((r1.2.1.1, r1.2.1.2.1, r1.2.1.2.2.1, ()), r1.2.2.2.1, ()))
    else
      none

noncomputable def EL35_3 : LoopEnt := ⟨[35], 3, ⟨[.keep [1, 3, 4] [1, 17, 21], .adopt 3 (.int .i64) 3], [1, 3, 4], [1, 3]⟩, [.ptr 1 0, .ref 3, .kd (.int .i64)], [.box [.kd (.slice (.int .i64)), .kd (.slice (.slice (.int .i64))), .kd (.slice (.int .i64))], .row (.int .i64)], [⟨.ret, [2], [.ref 21], [21], [.row (.int .i64)]⟩], limit L35_3⟩

noncomputable def O35 : Orc := mkOrc [] [EL35_10, EL57_35_6, EL57_35_3, EL35_6, EL35_3] [] [] []

theorem cL35_10 : LoopCert Try.prog O35 Γ35 2 EL35_10 :=
  ⟨⟨35, 2, L35_10, rfl, by kernel_rfl, by decide, limit_fn, fun _ => rfl, fun m old x r h => by
    obtain ⟨⟨x1, x3, x4, x5, x6, x7, x9, x23, x24, x25, x41, x42, x43, ⟨⟩⟩, y1, y3, y9, y18, y21, ⟨⟩⟩ := x
    refine Eq.trans ?_ h
    kernel_rfl⟩⟩

theorem cL57_35_6 : LoopCert Try.prog O35 Γ35 2 EL57_35_6 :=
  ⟨⟨57, 1, L57_35_6, rfl, by kernel_rfl, by decide, limit_fn, fun _ => rfl, fun m old x r h => by
    obtain ⟨⟨x3, x5, x7, x8, x9, x13, ⟨⟩⟩, y1, y3, y9, y18, y21, y1003, ⟨⟩⟩ := x
    refine Eq.trans ?_ h
    kernel_rfl⟩⟩

theorem cL57_35_3 : LoopCert Try.prog O35 Γ35 2 EL57_35_3 :=
  ⟨⟨57, 0, L57_35_3, rfl, by kernel_rfl, by decide, limit_fn, fun _ => rfl, fun m old x r h => by
    obtain ⟨⟨x3, x7, x8, x9, ⟨⟩⟩, y1, y3, y9, y18, y21, y1003, ⟨⟩⟩ := x
    refine Eq.trans ?_ h
    kernel_rfl⟩⟩

theorem cL35_6 : LoopCert Try.prog O35 Γ35 2 EL35_6 :=
  ⟨⟨35, 1, L35_6, rfl, by kernel_rfl, by decide, limit_fn, fun _ => rfl, fun m old x r h => by
    obtain ⟨⟨x1, x3, x4, x5, x6, x23, x24, x25, ⟨⟩⟩, y1, y3, y18, y21, ⟨⟩⟩ := x
    refine Eq.trans ?_ h
    kernel_rfl⟩⟩

theorem cL35_3 : LoopCert Try.prog O35 Γ35 2 EL35_3 :=
  ⟨⟨35, 0, L35_3, rfl, by kernel_rfl, by decide, limit_fn, fun _ => rfl, fun m old x r h => by
    obtain ⟨⟨x1, x3, x4, ⟨⟩⟩, y1, y3, ⟨⟩⟩ := x
    refine Eq.trans ?_ h
    kernel_rfl⟩⟩

/-- emendate/dfa.partition -/
noncomputable def p35 : (((List (Int)) × ((List (List (Int))) × ((List (Int)) × (Unit)))) × Unit) → Option (List (Int))
  | (x0, ()) =>
    if decide ((x0.2.1.length : Int) = (x0.2.1.length : Int) ∧ 0 ≤ (x0.2.1.length : Int) ∧ (x0.2.1.length : Int) ≤ (lim : Int)) = true then
      (limit L35_3 (((), (), (0 : Int), ()), ((x0.1, x0.2.1, x0.2.2.1, ()), (List.replicate (x0.2.1.length : Int).toNat (0 : Int)), ()))).bind fun r1 =>
      some r1.2.1
    else
      none

theorem s35 : SoundFn Try.prog 35 (fnOf [(.pair (.slice (.int .i64)) (.pair (.slice (.slice (.int .i64))) (.pair (.slice (.int .i64)) .unit)))] (.one (.slice (.int .i64))) p35) :=
  fn_pure hm0 hng0 hΓ35 (t := []) all_nil (ls := [EL35_10, EL57_35_6, EL57_35_3, EL35_6, EL35_3]) (cmds := []) (leaves := []) (fr := []) (D := 2) (all_cons cL35_10 (all_cons cL57_35_6 (all_cons cL57_35_3 (all_cons cL35_6 (all_cons cL35_3 all_nil))))) (by kernel_rfl) (hfr := all_nil) fun x r h => by
    obtain ⟨x0, ⟨⟩⟩ := x
    refine Eq.trans ?_ h
    kernel_rfl

noncomputable def L55_3 : Nat → ((Unit × Unit × (List (Int)) × (Int) × (Int) × Unit) × (((List (Int)) × (List (List (Int))) × (List (Int)) × Unit) × (Unit × Unit) × (List (Bool)) × Unit)) → Option ((Unit × Unit × Unit) × (((List (Int)) × (List (List (Int))) × (List (Int)) × Unit) × (Unit × Unit) × (List (Bool)) × Unit))
  | 0, _ => none
  | n + 1, ((_, _, x14, x15, x16, ()), (y1, _, y12, ())) =>
    if (decide (x16 < x15)) = true then
      if decide (0 ≤ x16 ∧ x16 < (x14.length : Int)) = true then
        if decide (0 ≤ x16 ∧ x16 < (y12.length : Int)) = true then
          L55_3 n (((), (), x14, x15, (IntKind.i64.wrap (x16 + (1 : Int))), ()), ((y1.1, y1.2.1, y1.2.2.1, ()), ((), ()), (y12.set x16.toNat (decide ((x14.getD x16.toNat 0) ≥ (0 : Int)))), ()))
        else
          none
      else
        none
    else
      some (((), (), ()), ((y1.1, y1.2.1, y1.2.2.1, ()), ((), ()), y12, ()))

noncomputable def EL55_3 : LoopEnt := ⟨[55], 3, ⟨[], [1, 3, 14, 15, 16], [1, 3, 12]⟩, [.ptr 1 0, .ptr 3 0, .kd (.slice (.int .i64)), .kd (.int .i64), .kd (.int .i64)], [.box [.kd (.slice (.int .i64)), .kd (.slice (.slice (.int .i64))), .kd (.slice (.int .i64))], .box [.ref 12], .row .bool], [⟨(.exit 0), [1, 3], [.ptr 1 0, .ptr 3 0], [1, 3, 12], [.box [.kd (.slice (.int .i64)), .kd (.slice (.slice (.int .i64))), .kd (.slice (.int .i64))], .box [.ref 12], .row .bool]⟩], limit L55_3⟩

noncomputable def L54_27_55_2 : Nat → (((List (Int)) × Unit × (Int) × (Int) × Unit) × (((List (Int)) × (List (List (Int))) × (List (Int)) × Unit) × (Unit × Unit) × (List (Bool)) × Unit)) → Option ((((Int) × Unit) × (((List (Int)) × (List (List (Int))) × (List (Int)) × Unit) × (Unit × Unit) × (List (Bool)) × Unit)) ⊕ ((Unit) × (((List (Int)) × (List (List (Int))) × (List (Int)) × Unit) × (Unit × Unit) × (List (Bool)) × Unit)))
  | 0, _ => none
  | n + 1, ((x0, _, x7, x8, ()), (y1, _, y12, ())) =>
    if (decide (x8 < x7)) = true then
      if decide (0 ≤ x8 ∧ x8 < (x0.length : Int)) = true then
        if (decide ((x0.getD x8.toNat 0) ≥ (0 : Int))) = true then
          if decide (0 ≤ (x0.getD x8.toNat 0) ∧ (x0.getD x8.toNat 0) < (y12.length : Int)) = true then
            if (y12.getD (x0.getD x8.toNat 0).toNat false) = true then
              some (.inl ((x8, ()), ((y1.1, y1.2.1, y1.2.2.1, ()), ((), ()), y12, ())))
            else
              L54_27_55_2 n ((x0, (), x7, (IntKind.i64.wrap (x8 + (1 : Int))), ()), ((y1.1, y1.2.1, y1.2.2.1, ()), ((), ()), y12, ()))
          else
            none
        else
          L54_27_55_2 n ((x0, (), x7, (IntKind.i64.wrap (x8 + (1 : Int))), ()), ((y1.1, y1.2.1, y1.2.2.1, ()), ((), ()), y12, ()))
      else
        none
    else
      some (.inr ((), ((y1.1, y1.2.1, y1.2.2.1, ()), ((), ()), y12, ())))

noncomputable def EL54_27_55_2 : LoopEnt := ⟨[54, 27, 55], 2, ⟨[], [0, 1, 7, 8], [1, 3, 12]⟩, [.kd (.slice (.int .i64)), .fnp 66 [3], .kd (.int .i64), .kd (.int .i64)], [.box [.kd (.slice (.int .i64)), .kd (.slice (.slice (.int .i64))), .kd (.slice (.int .i64))], .box [.ref 12], .row .bool], [⟨.ret, [4], [.kd (.int .i64)], [1, 3, 12], [.box [.kd (.slice (.int .i64)), .kd (.slice (.slice (.int .i64))), .kd (.slice (.int .i64))], .box [.ref 12], .row .bool]⟩, ⟨(.exit 0), [], [], [1, 3, 12], [.box [.kd (.slice (.int .i64)), .kd (.slice (.slice (.int .i64))), .kd (.slice (.int .i64))], .box [.ref 12], .row .bool]⟩], limit L54_27_55_2⟩

noncomputable def L55_11 : Nat → ((Unit × Unit × (Bool) × (List (List (Int))) × (Int) × (Int) × Unit) × (((List (Int)) × (List (List (Int))) × (List (Int)) × Unit) × (Unit × Unit) × (List (Bool)) × Unit)) → Option ((Unit × Unit × (Bool) × Unit) × (((List (Int)) × (List (List (Int))) × (List (Int)) × Unit) × (Unit × Unit) × (List (Bool)) × Unit))
  | 0, _ => none
  | n + 1, ((_, _, x6, x29, x30, x31, ()), (y1, _, y12, ())) =>
    if (decide (x31 < x30)) = true then
      if decide (0 ≤ x31 ∧ x31 < (x29.length : Int)) = true then
        if decide (0 ≤ x31 ∧ x31 < (y12.length : Int)) = true then
          if (!(y12.getD x31.toNat false)) = true then
            (limit L54_27_55_2 (((x29.getD x31.toNat []), (), ((x29.getD x31.toNat []).length : Int), (0 : Int), ()), ((y1.1, y1.2.1, y1.2.2.1, ()), ((), ()), y12, ()))).bind (Sum.elim (fun r1 =>
              if (decide (r1.1.1 ≥ (0 : Int))) = true then
                if decide (0 ≤ x31 ∧ x31 < (r1.2.2.2.1.length : Int)) = true then
                  L55_11 n (((), (), true, x29, x30, (IntKind.i64.wrap (x31 + (1 : Int))), ()), ((r1.2.1.1, r1.2.1.2.1, r1.2.1.2.2.1, ()), ((), ()), (r1.2.2.2.1.set x31.toNat true), ()))
                else
                  none
              else
                L55_11 n (((), (), x6, x29, x30, (IntKind.i64.wrap (x31 + (1 : Int))), ()), ((r1.2.1.1, r1.2.1.2.1, r1.2.1.2.2.1, ()), ((), ()), r1.2.2.2.1, ()))) (fun r1 =>
              if (decide ((-1 : Int) ≥ (0 : Int))) = true then
                if decide (0 ≤ x31 ∧ x31 < (r1.2.2.2.1.length : Int)) = true then
                  L55_11 n (((), (), true, x29, x30, (IntKind.i64.wrap (x31 + (1 : Int))), ()), ((r1.2.1.1, r1.2.1.2.1, r1.2.1.2.2.1, ()), ((), ()), (r1.2.2.2.1.set x31.toNat true), ()))
                else
                  none
              else
                L55_11 n (((), (), x6, x29, x30, (IntKind.i64.wrap (x31 + (1 : Int))), ()), ((r1.2.1.1, r1.2.1.2.1, r1.2.1.2.2.1, ()), ((), ()), r1.2.2.2.1, ()))))
          else
            L55_11 n (((), (), x6, x29, x30, (IntKind.i64.wrap (x31 + (1 : Int))), ()), ((y1.1, y1.2.1, y1.2.2.1, ()), ((), ()), y12, ()))
        else
          none
      else
        none
    else
      some (((), (), x6, ()), ((y1.1, y1.2.1, y1.2.2.1, ()), ((), ()), y12, ()))

noncomputable def EL55_11 : LoopEnt := ⟨[55], 11, ⟨[], [1, 3, 6, 29, 30, 31], [1, 3, 12]⟩, [.ptr 1 0, .ptr 3 0, .kd .bool, .kd (.slice (.slice (.int .i64))), .kd (.int .i64), .kd (.int .i64)], [.box [.kd (.slice (.int .i64)), .kd (.slice (.slice (.int .i64))), .kd (.slice (.int .i64))], .box [.ref 12], .row .bool], [⟨(.exit 4), [1, 3, 6], [.ptr 1 0, .ptr 3 0, .kd .bool], [1, 3, 12], [.box [.kd (.slice (.int .i64)), .kd (.slice (.slice (.int .i64))), .kd (.slice (.int .i64))], .box [.ref 12], .row .bool]⟩], limit L55_11⟩

noncomputable def L55_8 : Nat → ((Unit × Unit × (Bool) × Unit) × (((List (Int)) × (List (List (Int))) × (List (Int)) × Unit) × (Unit × Unit) × (List (Bool)) × Unit)) → Option ((Unit × Unit) × ((Unit × Unit) × (List (Bool)) × Unit))
  | 0, _ => none
  | n + 1, ((_, _, x6, ()), (y1, _, y12, ())) =>
    if x6 = true then
      (limit L55_11 (((), (), false, y1.2.1, (y1.2.1.length : Int), (0 : Int), ()), ((y1.1, y1.2.1, y1.2.2.1, ()), ((), ()), y12, ()))).bind fun r1 =>
      L55_8 n (((), (), r1.1.2.2.1, ()), ((r1.2.1.1, r1.2.1.2.1, r1.2.1.2.2.1, ()), ((), ()), r1.2.2.2.1, ()))
    else
      some (((), ()), (((), ()), y12, ()))

noncomputable def EL55_8 : LoopEnt := ⟨[55], 8, ⟨[], [1, 3, 6], [1, 3, 12]⟩, [.ptr 1 0, .ptr 3 0, .kd .bool], [.box [.kd (.slice (.int .i64)), .kd (.slice (.slice (.int .i64))), .kd (.slice (.int .i64))], .box [.ref 12], .row .bool], [⟨(.exit 2), [3], [.ptr 3 0], [3, 12], [.box [.ref 12], .row .bool]⟩], limit L55_8⟩

noncomputable def O55 : Orc := mkOrc [] [EL55_3, EL54_27_55_2, EL55_11, EL55_8] [] [] []

theorem cL55_3 : LoopCert Try.prog O55 Γ0 4 EL55_3 :=
  ⟨⟨55, 0, L55_3, rfl, by kernel_rfl, by decide, limit_fn, fun _ => rfl, fun m old x r h => by
    obtain ⟨⟨x1, x3, x14, x15, x16, ⟨⟩⟩, y1, y3, y12, ⟨⟩⟩ := x
    refine Eq.trans ?_ h
    kernel_rfl⟩⟩

theorem cL54_27_55_2 : LoopCert Try.prog O55 Γ0 4 EL54_27_55_2 :=
  ⟨⟨54, 0, L54_27_55_2, rfl, by kernel_rfl, by decide, limit_fn, fun _ => rfl, fun m old x r h => by
    obtain ⟨⟨x0, x1, x7, x8, ⟨⟩⟩, y1, y3, y12, ⟨⟩⟩ := x
    refine Eq.trans ?_ h
    kernel_rfl⟩⟩

theorem cL55_11 : LoopCert Try.prog O55 Γ0 4 EL55_11 :=
  ⟨⟨55, 2, L55_11, rfl, by kernel_rfl, by decide, limit_fn, fun _ => rfl, fun m old x r h => by
    obtain ⟨⟨x1, x3, x6, x29, x30, x31, ⟨⟩⟩, y1, y3, y12, ⟨⟩⟩ := x
    refine Eq.trans ?_ h
    kernel_rfl⟩⟩

theorem cL55_8 : LoopCert Try.prog O55 Γ0 4 EL55_8 :=
  ⟨⟨55, 1, L55_8, rfl, by kernel_rfl, by decide, limit_fn, fun _ => rfl, fun m old x r h => by
    obtain ⟨⟨x1, x3, x6, ⟨⟩⟩, y1, y3, y12, ⟨⟩⟩ := x
    refine Eq.trans ?_ h
    kernel_rfl⟩⟩

/-- emendate/dfa.live -/
noncomputable def p55 : (((List (Int)) × ((List (List (Int))) × ((List (Int)) × (Unit)))) × Unit) → Option (List (Bool))
  | (x0, ()) =>
    if decide ((x0.2.1.length : Int) = (x0.2.1.length : Int) ∧ 0 ≤ (x0.2.1.length : Int) ∧ (x0.2.1.length : Int) ≤ (lim : Int)) = true then
      (limit L55_3 (((), (), x0.2.2.1, (x0.2.2.1.length : Int), (0 : Int), ()), ((x0.1, x0.2.1, x0.2.2.1, ()), ((), ()), (List.replicate (x0.2.1.length : Int).toNat false), ()))).bind fun r1 =>
      (limit L55_8 (((), (), true, ()), ((r1.2.1.1, r1.2.1.2.1, r1.2.1.2.2.1, ()), ((), ()), r1.2.2.2.1, ()))).bind fun r2 =>
      some r2.2.2.1
    else
      none

theorem s55 : SoundFn Try.prog 55 (fnOf [(.pair (.slice (.int .i64)) (.pair (.slice (.slice (.int .i64))) (.pair (.slice (.int .i64)) .unit)))] (.one (.slice .bool)) p55) :=
  fn_pure hm0 hng0 hΓ0 (t := []) all_nil (ls := [EL55_3, EL54_27_55_2, EL55_11, EL55_8]) (cmds := []) (leaves := []) (fr := []) (D := 4) (all_cons cL55_3 (all_cons cL54_27_55_2 (all_cons cL55_11 (all_cons cL55_8 all_nil)))) (by kernel_rfl) (hfr := all_nil) fun x r h => by
    obtain ⟨x0, ⟨⟩⟩ := x
    refine Eq.trans ?_ h
    kernel_rfl

noncomputable def O56 : Orc := mkOrc [] [] [] []

/-- slices.Clone[[]int,int] -/
noncomputable def p56 : ((List (Int)) × Unit) → Option (List (Int))
  | (x0, ()) => if decide (([] : List Int).length + x0.length ≤ lim) = true then some x0 else none

theorem s56 : SoundNew Try.prog 56 (newOf [(.slice (.int .i64))] (.int .i64) p56) := by
  refine clone_sound (P := Try.prog) (Γ := Γ0) hm0 hng0 hΓ0 (f := 56) (fn := Try.f56) (T := 22) (O := O56) rfl (fun _ _ => rfl) (by kernel_rfl) rfl rfl rfl rfl rfl rfl .i64 (by kernel_rfl) (by decide) rfl rfl p56 fun xs r h => ?_
  replace h : (if decide (([] : List Int).length + xs.length ≤ lim) = true then some xs else none) = some r := h
  by_cases hl : decide (([] : List Int).length + xs.length ≤ lim) = true
  · rw [if_pos hl] at h
    cases h
    refine ⟨{ fr := upd (argsFr [.sl (.int .i64) xs]) 2 .nilsl, hp := fun _ => .free }, { fr := upd (upd (argsFr [.sl (.int .i64) xs]) 2 .nilsl) 3 (.sl (.int .i64) xs), hp := fun _ => .free }, by kernel_rfl, by kernel_rfl, by kernel_rfl, by kernel_rfl, fun b hb => ?_⟩
    cases b
    · refine Eq.trans (b := if decide (([] : List Int).length + xs.length ≤ lim) = true then some xs else none) (by kernel_rfl) (if_pos hl)
    · have hx := hb rfl
      subst hx
      refine Eq.trans (b := some ([] : List Int)) ?_ rfl
      kernel_rfl
  · rw [if_neg hl] at h
    cases h

def Γ33 : TEnv := { Γ0 with imm := [43] }
theorem hΓ33 : Γ33.ok Try.prog = true := hΓ0

noncomputable def L33_8 : Nat → ((Unit × Unit × (List (Bool)) × Unit × Unit × (List (List (Int))) × (Int) × (Int) × Unit × (Int) × (Int) × Unit) × (((List (Int)) × (List (List (Int))) × (List (Int)) × Unit) × ((List (Int)) × (List (List (Int))) × (List (Int)) × Unit) × (List (List (Int))) × (List (Int)) × Unit)) → Option ((Unit × Unit × (List (Bool)) × Unit × Unit × (List (List (Int))) × (Int) × (Int) × Unit) × (((List (Int)) × (List (List (Int))) × (List (Int)) × Unit) × ((List (Int)) × (List (List (Int))) × (List (Int)) × Unit) × (List (List (Int))) × (List (Int)) × Unit))
  | 0, _ => none
  | n + 1, ((_, _, x3, _, _, x13, x14, x15, _, x22, x23, ()), (y1, y2, y4, y20, ())) =>
    if (decide (x23 < x22)) = true then
      if decide (0 ≤ x23 ∧ x23 < (y20.length : Int)) = true then
        if (decide ((y20.getD x23.toNat 0) ≥ (0 : Int))) = true then
          if decide (0 ≤ (y20.getD x23.toNat 0) ∧ (y20.getD x23.toNat 0) < (x3.length : Int)) = true then
            if (!(x3.getD (y20.getD x23.toNat 0).toNat false)) = true then
              if decide (0 ≤ x23 ∧ x23 < (y20.length : Int)) = true then
                L33_8 n (((), (), x3, (), (), x13, x14, x15, (), x22, (IntKind.i64.wrap (x23 + (1 : Int))), ()), ((y1.1, y1.2.1, y1.2.2.1, ()), (y2.1, y2.2.1, y2.2.2.1, ()), y4, (y20.set x23.toNat (-1 : Int)), ()))
              else
                none
            else
              L33_8 n (((), (), x3, (), (), x13, x14, x15, (), x22, (IntKind.i64.wrap (x23 + (1 : Int))), ()), ((y1.1, y1.2.1, y1.2.2.1, ()), (y2.1, y2.2.1, y2.2.2.1, ()), y4, y20, ()))
          else
            none
        else
          L33_8 n (((), (), x3, (), (), x13, x14, x15, (), x22, (IntKind.i64.wrap (x23 + (1 : Int))), ()), ((y1.1, y1.2.1, y1.2.2.1, ()), (y2.1, y2.2.1, y2.2.2.1, ()), y4, y20, ()))
      else
        none
    else
      some (((), (), x3, (), (), x13, x14, x15, ()), ((y1.1, y1.2.1, y1.2.2.1, ()), (y2.1, y2.2.1, y2.2.2.1, ()), y4, y20, ()))

noncomputable def EL33_8 : LoopEnt := ⟨[33], 8, ⟨[], [1, 2, 3, 4, 7, 13, 14, 15, 21, 22, 23], [1, 2, 4, 20]⟩, [.ptr 1 0, .ptr 2 0, .kd (.slice .bool), .ref 4, .ref 20, .kd (.slice (.slice (.int .i64))), .kd (.int .i64), .kd (.int .i64), .ref 20, .kd (.int .i64), .kd (.int .i64)], [.box [.kd (.slice (.int .i64)), .kd (.slice (.slice (.int .i64))), .kd (.slice (.int .i64))], .box [.kd (.slice (.int .i64)), .kd (.slice (.slice (.int .i64))), .kd (.slice (.int .i64))], .row (.slice (.int .i64)), .row (.int .i64)], [⟨(.exit 2), [1, 2, 3, 4, 7, 13, 14, 15], [.ptr 1 0, .ptr 2 0, .kd (.slice .bool), .ref 4, .ref 20, .kd (.slice (.slice (.int .i64))), .kd (.int .i64), .kd (.int .i64)], [1, 2, 4, 20], [.box [.kd (.slice (.int .i64)), .kd (.slice (.slice (.int .i64))), .kd (.slice (.int .i64))], .box [.kd (.slice (.int .i64)), .kd (.slice (.slice (.int .i64))), .kd (.slice (.int .i64))], .row (.slice (.int .i64)), .row (.int .i64)]⟩], limit L33_8⟩

noncomputable def L33_4 : Nat → ((Unit × Unit × (List (Bool)) × Unit × (List (List (Int))) × (Int) × (Int) × Unit) × (((List (Int)) × (List (List (Int))) × (List (Int)) × Unit) × ((List (Int)) × (List (List (Int))) × (List (Int)) × Unit) × (List (List (Int))) × Unit)) → Option ((Unit × Unit × Unit × Unit) × (((List (Int)) × (List (List (Int))) × (List (Int)) × Unit) × ((List (Int)) × (List (List (Int))) × (List (Int)) × Unit) × (List (List (Int))) × Unit))
  | 0, _ => none
  | n + 1, ((_, _, x3, _, x13, x14, x15, ()), (y1, y2, y4, ())) =>
    if (decide (x15 < x14)) = true then
      if decide (0 ≤ x15 ∧ x15 < (x13.length : Int)) = true then
        (p56 ((x13.getD x15.toNat []), ())).bind fun c1 =>
        (limit L33_8 (((), (), x3, (), (), x13, x14, x15, (), (c1.length : Int), (0 : Int), ()), ((y1.1, y1.2.1, y1.2.2.1, ()), (y2.1, y2.2.1, y2.2.2.1, ()), y4, c1, ()))).bind fun r2 =>
        if decide (r2.2.2.2.1.length + ([r2.2.2.2.2.1] : List (List (Int))).length ≤ lim) = true then
          L33_4 n (((), (), r2.1.2.2.1, (), r2.1.2.2.2.2.2.1, r2.1.2.2.2.2.2.2.1, (IntKind.i64.wrap (r2.1.2.2.2.2.2.2.2.1 + (1 : Int))), ()), ((r2.2.1.1, r2.2.1.2.1, r2.2.1.2.2.1, ()), (r2.2.2.1.1, r2.2.2.1.2.1, r2.2.2.1.2.2.1, ()), (r2.2.2.2.1 ++ ([r2.2.2.2.2.1] : List (List (Int)))), ()))
        else
          none
      else
        none
    else
      some (((), (), (), ()), ((y1.1, y1.2.1, y1.2.2.1, ()), (y2.1, y2.2.1, y2.2.2.1, ()), y4, ()))

noncomputable def EL33_4 : LoopEnt := ⟨[33], 4, ⟨[.keep [1, 2, 3, 4, 13, 14, 15] [1, 2, 44], .adopt 4 (.slice (.int .i64)) 4], [1, 2, 3, 4, 13, 14, 15], [1, 2, 4]⟩, [.ptr 1 0, .ptr 2 0, .kd (.slice .bool), .ref 4, .kd (.slice (.slice (.int .i64))), .kd (.int .i64), .kd (.int .i64)], [.box [.kd (.slice (.int .i64)), .kd (.slice (.slice (.int .i64))), .kd (.slice (.int .i64))], .box [.kd (.slice (.int .i64)), .kd (.slice (.slice (.int .i64))), .kd (.slice (.int .i64))], .row (.slice (.int .i64))], [⟨(.exit 0), [1, 2, 4], [.ptr 1 0, .ptr 2 0, .ref 4], [1, 2, 4], [.box [.kd (.slice (.int .i64)), .kd (.slice (.slice (.int .i64))), .kd (.slice (.int .i64))], .box [.kd (.slice (.int .i64)), .kd (.slice (.slice (.int .i64))), .kd (.slice (.int .i64))], .row (.slice (.int .i64))]⟩], limit L33_4⟩

noncomputable def O33 : Orc := mkOrc [(55, fnOf [(.pair (.slice (.int .i64)) (.pair (.slice (.slice (.int .i64))) (.pair (.slice (.int .i64)) .unit)))] (.one (.slice .bool)) p55)] [EL33_8, EL33_4] [([33], 13, [.freeze 7])] [] [(56, newOf [(.slice (.int .i64))] ((.int .i64)) p56)]

theorem cL33_8 : LoopCert Try.prog O33 Γ33 1 EL33_8 :=
  ⟨⟨33, 1, L33_8, rfl, by kernel_rfl, by decide, limit_fn, fun _ => rfl, fun m old x r h => by
    obtain ⟨⟨x1, x2, x3, x4, x7, x13, x14, x15, x21, x22, x23, ⟨⟩⟩, y1, y2, y4, y20, ⟨⟩⟩ := x
    refine Eq.trans ?_ h
    kernel_rfl⟩⟩

theorem cL33_4 : LoopCert Try.prog O33 Γ33 1 EL33_4 :=
  ⟨⟨33, 0, L33_4, rfl, by kernel_rfl, by decide, limit_fn, fun _ => rfl, fun m old x r h => by
    obtain ⟨⟨x1, x2, x3, x4, x13, x14, x15, ⟨⟩⟩, y1, y2, y4, ⟨⟩⟩ := x
    refine Eq.trans ?_ h
    kernel_rfl⟩⟩

/-- emendate/dfa.pruned -/
noncomputable def p33 : (((List (Int)) × ((List (List (Int))) × ((List (Int)) × (Unit)))) × Unit) → Option ((List (Int)) × ((List (List (Int))) × ((List (Int)) × (Unit))))
  | (x0, ()) =>
    (p55 ((x0.1, (x0.2.1, (x0.2.2.1, ()))), ())).bind fun c1 =>
    (limit L33_4 (((), (), c1, (), x0.2.1, (x0.2.1.length : Int), (0 : Int), ()), ((x0.1, x0.2.1, x0.2.2.1, ()), (([] : List (Int)), ([] : List (List (Int))), ([] : List (Int)), ()), ([] : List (List (Int))), ()))).bind fun r2 =>
    some (r2.2.1.1, (r2.2.2.2.1, (r2.2.1.2.2.1, ())))

theorem s33 : SoundFn Try.prog 33 (fnOf [(.pair (.slice (.int .i64)) (.pair (.slice (.slice (.int .i64))) (.pair (.slice (.int .i64)) .unit)))] (.one (.pair (.slice (.int .i64)) (.pair (.slice (.slice (.int .i64))) (.pair (.slice (.int .i64)) .unit)))) p33) :=
  fn_pure hm0 hng0 hΓ33 (t := [(55, fnOf [(.pair (.slice (.int .i64)) (.pair (.slice (.slice (.int .i64))) (.pair (.slice (.int .i64)) .unit)))] (.one (.slice .bool)) p55)]) (all_cons s55 all_nil) (ls := [EL33_8, EL33_4]) (cmds := [([33], 13, [.freeze 7])]) (leaves := []) (fr := [(56, newOf [(.slice (.int .i64))] ((.int .i64)) p56)]) (D := 1) (all_cons cL33_8 (all_cons cL33_4 all_nil)) (by kernel_rfl) (hfr := (all_cons s56 all_nil)) fun x r h => by
    obtain ⟨x0, ⟨⟩⟩ := x
    refine Eq.trans ?_ h
    kernel_rfl

def Γ34 : TEnv := { Γ0 with imm := [46, 72, 78] }
theorem hΓ34 : Γ34.ok Try.prog = true := hΓ0

noncomputable def L34_5 : Nat → ((Unit × Unit × Unit × Unit × Unit × (List (Int)) × (Int) × (Int) × Unit) × (((List (Int)) × (List (List (Int))) × (List (Int)) × Unit) × ((List (Int)) × (List (List (Int))) × (List (Int)) × Unit) × (List (Int)) × (Unit × Unit × (List (Int)) × Unit) × (List ((Int) × (Int))) × (List (Int)) × (List (List (Int))) × Unit)) → Option ((Unit × Unit × Unit × Unit × Unit) × (((List (Int)) × (List (List (Int))) × (List (Int)) × Unit) × ((List (Int)) × (List (List (Int))) × (List (Int)) × Unit) × (List (Int)) × (Unit × Unit × (List (Int)) × Unit) × (List (Int)) × (List (List (Int))) × Unit))
  | 0, _ => none
  | n + 1, ((_, _, _, _, _, x24, x25, x26, ()), (y1, y2, y4, y5, y15, y19, y306, ())) =>
    if (decide (x26 < x25)) = true then
      if decide (0 ≤ x26 ∧ x26 < (x24.length : Int)) = true then
        if (!(mget (.int .i64) (x24.getD x26.toNat 0) y15).isSome) = true then
          if decide (y4.length + ([(x24.getD x26.toNat 0)] : List (Int)).length ≤ lim) = true then
            if decide (0 ≤ x26 ∧ x26 < (y19.length : Int)) = true then
              L34_5 n (((), (), (), (), (), x24, x25, (IntKind.i64.wrap (x26 + (1 : Int))), ()), ((y1.1, y1.2.1, y1.2.2.1, ()), (y2.1, y2.2.1, y2.2.2.1, ()), (y4 ++ ([(x24.getD x26.toNat 0)] : List (Int))), ((), (), y5.2.2.1, ()), (mput (.int .i64) (x24.getD x26.toNat 0) (y4.length : Int) y15), (y19.set x26.toNat (y4.length : Int)), y306, ()))
            else
              none
          else
            none
        else
          if decide (0 ≤ x26 ∧ x26 < (y19.length : Int)) = true then
            L34_5 n (((), (), (), (), (), x24, x25, (IntKind.i64.wrap (x26 + (1 : Int))), ()), ((y1.1, y1.2.1, y1.2.2.1, ()), (y2.1, y2.2.1, y2.2.2.1, ()), y4, ((), (), y5.2.2.1, ()), y15, (y19.set x26.toNat ((mget (.int .i64) (x24.getD x26.toNat 0) y15).getD 0)), y306, ()))
          else
            none
      else
        none
    else
      some (((), (), (), (), ()), ((y1.1, y1.2.1, y1.2.2.1, ()), (y2.1, y2.2.1, y2.2.2.1, ()), y4, ((), (), y5.2.2.1, ()), y19, y306, ()))

noncomputable def EL34_5 : LoopEnt := ⟨[34], 5, ⟨[.keep [1, 2, 3, 4, 5, 24, 25, 26] [1, 2, 4, 5, 15, 19, 47, 306], .adopt 4 (.int .i64) 4, .adoptCell 5 1 (.slice (.int .i64)) 306], [1, 2, 3, 4, 5, 24, 25, 26], [1, 2, 4, 5, 15, 19, 306]⟩, [.ptr 1 0, .ptr 2 0, .mapr 15, .ref 4, .ptr 5 0, .kd (.slice (.int .i64)), .kd (.int .i64), .kd (.int .i64)], [.box [.kd (.slice (.int .i64)), .kd (.slice (.slice (.int .i64))), .kd (.slice (.int .i64))], .box [.kd (.slice (.int .i64)), .kd (.slice (.slice (.int .i64))), .kd (.slice (.int .i64))], .row (.int .i64), .box [.ref 19, .ref 306, .kd (.slice (.int .i64))], .map (.int .i64) (.int .i64), .row (.int .i64), .row (.slice (.int .i64))], [⟨(.exit 0), [1, 2, 4, 5], [.ptr 1 0, .ptr 2 0, .ref 4, .ptr 5 0], [1, 2, 4, 5, 19, 306], [.box [.kd (.slice (.int .i64)), .kd (.slice (.slice (.int .i64))), .kd (.slice (.int .i64))], .box [.kd (.slice (.int .i64)), .kd (.slice (.slice (.int .i64))), .kd (.slice (.int .i64))], .row (.int .i64), .box [.ref 19, .ref 306, .kd (.slice (.int .i64))], .row (.int .i64), .row (.slice (.int .i64))]⟩], limit L34_5⟩

noncomputable def L34_19 : Nat → ((Unit × Unit × Unit × (List (Int)) × Unit × (List (List (Int))) × (Int) × (Int) × Unit × (Int) × (Int) × Unit) × (((List (Int)) × (List (List (Int))) × (List (Int)) × Unit) × (List (Int)) × (Unit × Unit × (List (Int)) × Unit) × (List (Int)) × (List (Int)) × (List (List (Int))) × Unit)) → Option ((Unit × Unit × Unit × Unit × (List (List (Int))) × (Int) × (Int) × Unit) × (((List (Int)) × (List (List (Int))) × (List (Int)) × Unit) × (List (Int)) × (Unit × Unit × (List (Int)) × Unit) × (List (Int)) × (List (Int)) × (List (List (Int))) × Unit))
  | 0, _ => none
  | n + 1, ((_, _, _, x11, _, x55, x56, x57, _, x62, x63, ()), (y2, y4, y5, y12, y19, y306, ())) =>
    if (decide (x63 < x62)) = true then
      if decide (0 ≤ x63 ∧ x63 < (y4.length : Int)) = true then
        if decide (0 ≤ (y4.getD x63.toNat 0) ∧ (y4.getD x63.toNat 0) < (x11.length : Int)) = true then
          if decide (y12.length + ([(x11.getD (y4.getD x63.toNat 0).toNat 0)] : List (Int)).length ≤ lim) = true then
            L34_19 n (((), (), (), x11, (), x55, x56, x57, (), x62, (IntKind.i64.wrap (x63 + (1 : Int))), ()), ((y2.1, y2.2.1, y2.2.2.1, ()), y4, ((), (), y5.2.2.1, ()), (y12 ++ ([(x11.getD (y4.getD x63.toNat 0).toNat 0)] : List (Int))), y19, y306, ()))
          else
            none
        else
          none
      else
        none
    else
      some (((), (), (), (), x55, x56, x57, ()), ((y2.1, y2.2.1, y2.2.2.1, ()), y4, ((), (), y5.2.2.1, ()), y12, y19, y306, ()))

noncomputable def EL34_19 : LoopEnt := ⟨[34], 19, ⟨[.keep [2, 4, 5, 11, 12, 55, 56, 57, 61, 62, 63] [2, 4, 5, 19, 73, 306], .adopt 12 (.int .i64) 12], [2, 4, 5, 11, 12, 55, 56, 57, 61, 62, 63], [2, 4, 5, 12, 19, 306]⟩, [.ptr 2 0, .ref 4, .ptr 5 0, .kd (.slice (.int .i64)), .ref 12, .kd (.slice (.slice (.int .i64))), .kd (.int .i64), .kd (.int .i64), .ref 4, .kd (.int .i64), .kd (.int .i64)], [.box [.kd (.slice (.int .i64)), .kd (.slice (.slice (.int .i64))), .kd (.slice (.int .i64))], .row (.int .i64), .box [.ref 19, .ref 306, .kd (.slice (.int .i64))], .row (.int .i64), .row (.int .i64), .row (.slice (.int .i64))], [⟨(.exit 4), [2, 4, 5, 12, 55, 56, 57], [.ptr 2 0, .ref 4, .ptr 5 0, .ref 12, .kd (.slice (.slice (.int .i64))), .kd (.int .i64), .kd (.int .i64)], [2, 4, 5, 12, 19, 306], [.box [.kd (.slice (.int .i64)), .kd (.slice (.slice (.int .i64))), .kd (.slice (.int .i64))], .row (.int .i64), .box [.ref 19, .ref 306, .kd (.slice (.int .i64))], .row (.int .i64), .row (.int .i64), .row (.slice (.int .i64))]⟩], limit L34_19⟩

noncomputable def L34_15 : Nat → ((Unit × Unit × Unit × (List (List (Int))) × (Int) × (Int) × Unit) × (((List (Int)) × (List (List (Int))) × (List (Int)) × Unit) × (List (Int)) × (Unit × Unit × (List (Int)) × Unit) × (List (Int)) × (List (List (Int))) × Unit)) → Option ((Unit × Unit × Unit) × (((List (Int)) × (List (List (Int))) × (List (Int)) × Unit) × (Unit × Unit × (List (Int)) × Unit) × (List (Int)) × (List (List (Int))) × Unit))
  | 0, _ => none
  | n + 1, ((_, _, _, x55, x56, x57, ()), (y2, y4, y5, y19, y306, ())) =>
    if (decide (x57 < x56)) = true then
      if decide (0 ≤ x57 ∧ x57 < (x55.length : Int)) = true then
        (limit L34_19 (((), (), (), (x55.getD x57.toNat []), (), x55, x56, x57, (), (y4.length : Int), (0 : Int), ()), ((y2.1, y2.2.1, y2.2.2.1, ()), y4, ((), (), y5.2.2.1, ()), ([] : List (Int)), y19, y306, ()))).bind fun r1 =>
        if decide (r1.2.2.2.2.2.2.1.length + ([r1.2.2.2.2.1] : List (List (Int))).length ≤ lim) = true then
          L34_15 n (((), (), (), r1.1.2.2.2.2.1, r1.1.2.2.2.2.2.1, (IntKind.i64.wrap (r1.1.2.2.2.2.2.2.1 + (1 : Int))), ()), ((r1.2.1.1, r1.2.1.2.1, r1.2.1.2.2.1, ()), r1.2.2.1, ((), (), r1.2.2.2.1.2.2.1, ()), r1.2.2.2.2.2.1, (r1.2.2.2.2.2.2.1 ++ ([r1.2.2.2.2.1] : List (List (Int)))), ()))
        else
          none
      else
        none
    else
      some (((), (), ()), ((y2.1, y2.2.1, y2.2.2.1, ()), ((), (), y5.2.2.1, ()), y19, y306, ()))

noncomputable def EL34_15 : LoopEnt := ⟨[34], 15, ⟨[.keep [2, 4, 5, 55, 56, 57] [2, 4, 5, 19, 79, 306], .adoptCell 5 1 (.slice (.int .i64)) 306], [2, 4, 5, 55, 56, 57], [2, 4, 5, 19, 306]⟩, [.ptr 2 0, .ref 4, .ptr 5 0, .kd (.slice (.slice (.int .i64))), .kd (.int .i64), .kd (.int .i64)], [.box [.kd (.slice (.int .i64)), .kd (.slice (.slice (.int .i64))), .kd (.slice (.int .i64))], .row (.int .i64), .box [.ref 19, .ref 306, .kd (.slice (.int .i64))], .row (.int .i64), .row (.slice (.int .i64))], [⟨(.exit 2), [2, 5], [.ptr 2 0, .ptr 5 0], [2, 5, 19, 306], [.box [.kd (.slice (.int .i64)), .kd (.slice (.slice (.int .i64))), .kd (.slice (.int .i64))], .box [.ref 19, .ref 306, .kd (.slice (.int .i64))], .row (.int .i64), .row (.slice (.int .i64))]⟩], limit L34_15⟩

noncomputable def O34 : Orc := mkOrc [] [EL34_5, EL34_19, EL34_15] [([34], 23, [.freeze 12])] [] []

theorem cL34_5 : LoopCert Try.prog O34 Γ34 1 EL34_5 :=
  ⟨⟨34, 0, L34_5, rfl, by kernel_rfl, by decide, limit_fn, fun _ => rfl, fun m old x r h => by
    obtain ⟨⟨x1, x2, x3, x4, x5, x24, x25, x26, ⟨⟩⟩, y1, y2, y4, y5, y15, y19, y306, ⟨⟩⟩ := x
    refine Eq.trans ?_ h
    kernel_rfl⟩⟩

theorem cL34_19 : LoopCert Try.prog O34 Γ34 1 EL34_19 :=
  ⟨⟨34, 2, L34_19, rfl, by kernel_rfl, by decide, limit_fn, fun _ => rfl, fun m old x r h => by
    obtain ⟨⟨x2, x4, x5, x11, x12, x55, x56, x57, x61, x62, x63, ⟨⟩⟩, y2, y4, y5, y12, y19, y306, ⟨⟩⟩ := x
    refine Eq.trans ?_ h
    kernel_rfl⟩⟩

theorem cL34_15 : LoopCert Try.prog O34 Γ34 1 EL34_15 :=
  ⟨⟨34, 1, L34_15, rfl, by kernel_rfl, by decide, limit_fn, fun _ => rfl, fun m old x r h => by
    obtain ⟨⟨x2, x4, x5, x55, x56, x57, ⟨⟩⟩, y2, y4, y5, y19, y306, ⟨⟩⟩ := x
    refine Eq.trans ?_ h
    kernel_rfl⟩⟩

/-- emendate/dfa.used -/
noncomputable def p34 : (((List (Int)) × ((List (List (Int))) × ((List (Int)) × (Unit)))) × Unit) → Option ((List (Int)) × ((List (List (Int))) × ((List (Int)) × (Unit))))
  | (x0, ()) =>
    if decide ((x0.1.length : Int) = (x0.1.length : Int) ∧ 0 ≤ (x0.1.length : Int) ∧ (x0.1.length : Int) ≤ (lim : Int)) = true then
      (limit L34_5 (((), (), (), (), (), x0.1, (x0.1.length : Int), (0 : Int), ()), ((x0.1, x0.2.1, x0.2.2.1, ()), (([] : List (Int)), ([] : List (List (Int))), ([] : List (Int)), ()), ([] : List (Int)), ((), (), x0.2.2.1, ()), ([] : List ((Int) × (Int))), (List.replicate (x0.1.length : Int).toNat (0 : Int)), ([] : List (List (Int))), ()))).bind fun r1 =>
      (limit L34_15 (((), (), (), r1.2.1.2.1, (r1.2.1.2.1.length : Int), (0 : Int), ()), ((r1.2.2.1.1, r1.2.2.1.2.1, r1.2.2.1.2.2.1, ()), r1.2.2.2.1, ((), (), r1.2.2.2.2.1.2.2.1, ()), r1.2.2.2.2.2.1, r1.2.2.2.2.2.2.1, ()))).bind fun r2 =>
      some (r2.2.2.2.1, (r2.2.2.2.2.1, (r2.2.2.1.2.2.1, ())))
    else
      none

theorem s34 : SoundFn Try.prog 34 (fnOf [(.pair (.slice (.int .i64)) (.pair (.slice (.slice (.int .i64))) (.pair (.slice (.int .i64)) .unit)))] (.one (.pair (.slice (.int .i64)) (.pair (.slice (.slice (.int .i64))) (.pair (.slice (.int .i64)) .unit)))) p34) :=
  fn_pure hm0 hng0 hΓ34 (t := []) all_nil (ls := [EL34_5, EL34_19, EL34_15]) (cmds := [([34], 23, [.freeze 12])]) (leaves := []) (fr := []) (D := 1) (all_cons cL34_5 (all_cons cL34_19 (all_cons cL34_15 all_nil))) (by kernel_rfl) (hfr := all_nil) fun x r h => by
    obtain ⟨x0, ⟨⟩⟩ := x
    refine Eq.trans ?_ h
    kernel_rfl

def Γ15 : TEnv := { Γ0 with imm := [85, 95, 108] }
theorem hΓ15 : Γ15.ok Try.prog = true := hΓ0

noncomputable def L15_12 : Nat → ((Unit × Unit × (List (Int)) × Unit × (List (Int)) × Unit × Unit × (Int) × Unit × (List (Int)) × (Int) × (Int) × Unit) × (((List (Int)) × (List (List (Int))) × (List (Int)) × Unit) × ((List (Int)) × (List (List (Int))) × (List (Int)) × Unit) × ((List (Int)) × Unit × Unit × Unit) × (List (Int)) × (List ((Int) × (Int))) × (List (Int)) × (List (List (Int))) × (List (Int)) × Unit)) → Option ((Unit × Unit × (List (Int)) × Unit × (List (Int)) × Unit × Unit × (Int) × Unit × Unit) × (((List (Int)) × (List (List (Int))) × (List (Int)) × Unit) × ((List (Int)) × (List (List (Int))) × (List (Int)) × Unit) × ((List (Int)) × Unit × Unit × Unit) × (List (Int)) × (List ((Int) × (Int))) × (List (Int)) × (List (List (Int))) × (List (Int)) × Unit))
  | 0, _ => none
  | n + 1, ((_, _, x3, _, x5, _, _, x8, _, x45, x46, x47, ()), (y1, y2, y4, y6, y31, y44, y308, y309, ())) =>
    if (decide (x47 < x46)) = true then
      if decide (0 ≤ x47 ∧ x47 < (x45.length : Int)) = true then
        if decide (0 ≤ x8 ∧ x8 < (y6.length : Int)) = true then
          (p29 ((y1.1, (y1.2.1, (y1.2.2.1, ()))), (y6.getD x8.toNat 0), (x45.getD x47.toNat 0), ())).bind fun c1 =>
          if decide (0 ≤ x47 ∧ x47 < (y44.length : Int)) = true then
            if (decide (c1 < (0 : Int))) = true then
              L15_12 n (((), (), x3, (), x5, (), (), x8, (), x45, x46, (IntKind.i64.wrap (x47 + (1 : Int))), ()), ((y1.1, y1.2.1, y1.2.2.1, ()), (y2.1, y2.2.1, y2.2.2.1, ()), (y4.1, (), (), ()), y6, y31, (y44.set x47.toNat (-1 : Int)), y308, y309, ()))
            else
              if decide (0 ≤ c1 ∧ c1 < (x3.length : Int)) = true then
                if (!(mget (.int .i64) (x3.getD c1.toNat 0) y31).isSome) = true then
                  if decide (0 ≤ c1 ∧ c1 < (x3.length : Int)) = true then
                    if decide (y6.length + ([c1] : List (Int)).length ≤ lim) = true then
                      if decide (0 ≤ x47 ∧ x47 < ((y44.set x47.toNat (-1 : Int)).length : Int)) = true then
                        L15_12 n (((), (), x3, (), x5, (), (), x8, (), x45, x46, (IntKind.i64.wrap (x47 + (1 : Int))), ()), ((y1.1, y1.2.1, y1.2.2.1, ()), (y2.1, y2.2.1, y2.2.2.1, ()), (y4.1, (), (), ()), (y6 ++ ([c1] : List (Int))), (mput (.int .i64) (x3.getD c1.toNat 0) (y6.length : Int) y31), ((y44.set x47.toNat (-1 : Int)).set x47.toNat (y6.length : Int)), y308, y309, ()))
                      else
                        none
                    else
                      none
                  else
                    none
                else
                  if decide (0 ≤ x47 ∧ x47 < ((y44.set x47.toNat (-1 : Int)).length : Int)) = true then
                    L15_12 n (((), (), x3, (), x5, (), (), x8, (), x45, x46, (IntKind.i64.wrap (x47 + (1 : Int))), ()), ((y1.1, y1.2.1, y1.2.2.1, ()), (y2.1, y2.2.1, y2.2.2.1, ()), (y4.1, (), (), ()), y6, y31, ((y44.set x47.toNat (-1 : Int)).set x47.toNat ((mget (.int .i64) (x3.getD c1.toNat 0) y31).getD 0)), y308, y309, ()))
                  else
                    none
              else
                none
          else
            none
        else
          none
      else
        none
    else
      some (((), (), x3, (), x5, (), (), x8, (), ()), ((y1.1, y1.2.1, y1.2.2.1, ()), (y2.1, y2.2.1, y2.2.2.1, ()), (y4.1, (), (), ()), y6, y31, y44, y308, y309, ()))

noncomputable def EL15_12 : LoopEnt := ⟨[15], 12, ⟨[.keep [1, 2, 3, 4, 5, 6, 7, 8, 9, 45, 46, 47] [1, 2, 4, 6, 31, 44, 86, 308, 309], .adopt 6 (.int .i64) 6], [1, 2, 3, 4, 5, 6, 7, 8, 9, 45, 46, 47], [1, 2, 4, 6, 31, 44, 308, 309]⟩, [.ptr 1 0, .ptr 2 0, .kd (.slice (.int .i64)), .ptr 4 0, .kd (.slice (.int .u8)), .ref 6, .mapr 31, .kd (.int .i64), .ref 44, .kd (.slice (.int .u8)), .kd (.int .i64), .kd (.int .i64)], [.box [.kd (.slice (.int .i64)), .kd (.slice (.slice (.int .i64))), .kd (.slice (.int .i64))], .box [.kd (.slice (.int .i64)), .kd (.slice (.slice (.int .i64))), .kd (.slice (.int .i64))], .box [.kd (.slice (.int .i64)), .ref 308, .ref 309], .row (.int .i64), .map (.int .i64) (.int .i64), .row (.int .i64), .row (.slice (.int .i64)), .row (.int .i64)], [⟨(.exit 2), [1, 2, 3, 4, 5, 6, 7, 8, 9], [.ptr 1 0, .ptr 2 0, .kd (.slice (.int .i64)), .ptr 4 0, .kd (.slice (.int .u8)), .ref 6, .mapr 31, .kd (.int .i64), .ref 44], [1, 2, 4, 6, 31, 44, 308, 309], [.box [.kd (.slice (.int .i64)), .kd (.slice (.slice (.int .i64))), .kd (.slice (.int .i64))], .box [.kd (.slice (.int .i64)), .kd (.slice (.slice (.int .i64))), .kd (.slice (.int .i64))], .box [.kd (.slice (.int .i64)), .ref 308, .ref 309], .row (.int .i64), .map (.int .i64) (.int .i64), .row (.int .i64), .row (.slice (.int .i64)), .row (.int .i64)]⟩], limit L15_12⟩

noncomputable def L15_8 : Nat → ((Unit × Unit × (List (Int)) × Unit × (List (Int)) × Unit × Unit × (Int) × Unit) × (((List (Int)) × (List (List (Int))) × (List (Int)) × Unit) × ((List (Int)) × (List (List (Int))) × (List (Int)) × Unit) × ((List (Int)) × Unit × Unit × Unit) × (List (Int)) × (List ((Int) × (Int))) × (List (List (Int))) × (List (Int)) × Unit)) → Option ((Unit × Unit × Unit) × (((List (Int)) × (List (List (Int))) × (List (Int)) × Unit) × ((List (Int)) × Unit × Unit × Unit) × (List (List (Int))) × (List (Int)) × Unit))
  | 0, _ => none
  | n + 1, ((_, _, x3, _, x5, _, _, x8, ()), (y1, y2, y4, y6, y31, y308, y309, ())) =>
    if (decide (x8 < (y6.length : Int))) = true then
      if decide ((x5.length : Int) = (x5.length : Int) ∧ 0 ≤ (x5.length : Int) ∧ (x5.length : Int) ≤ (lim : Int)) = true then
        (limit L15_12 (((), (), x3, (), x5, (), (), x8, (), x5, (x5.length : Int), (0 : Int), ()), ((y1.1, y1.2.1, y1.2.2.1, ()), (y2.1, y2.2.1, y2.2.2.1, ()), (y4.1, (), (), ()), y6, y31, (List.replicate (x5.length : Int).toNat (0 : Int)), y308, y309, ()))).bind fun r1 =>
        if decide (r1.2.2.2.2.2.2.2.1.length + ([r1.2.2.2.2.2.2.1] : List (List (Int))).length ≤ lim) = true then
          if decide (0 ≤ r1.1.2.2.2.2.2.2.2.1 ∧ r1.1.2.2.2.2.2.2.2.1 < (r1.2.2.2.2.1.length : Int)) = true then
            if decide (0 ≤ (r1.2.2.2.2.1.getD r1.1.2.2.2.2.2.2.2.1.toNat 0) ∧ (r1.2.2.2.2.1.getD r1.1.2.2.2.2.2.2.2.1.toNat 0) < (r1.2.1.2.2.1.length : Int)) = true then
              if decide (r1.2.2.2.2.2.2.2.2.1.length + ([(r1.2.1.2.2.1.getD (r1.2.2.2.2.1.getD r1.1.2.2.2.2.2.2.2.1.toNat 0).toNat 0)] : List (Int)).length ≤ lim) = true then
                L15_8 n (((), (), r1.1.2.2.1, (), r1.1.2.2.2.2.1, (), (), (IntKind.i64.wrap (r1.1.2.2.2.2.2.2.2.1 + (1 : Int))), ()), ((r1.2.1.1, r1.2.1.2.1, r1.2.1.2.2.1, ()), (r1.2.2.1.1, r1.2.2.1.2.1, r1.2.2.1.2.2.1, ()), (r1.2.2.2.1.1, (), (), ()), r1.2.2.2.2.1, r1.2.2.2.2.2.1, (r1.2.2.2.2.2.2.2.1 ++ ([r1.2.2.2.2.2.2.1] : List (List (Int)))), (r1.2.2.2.2.2.2.2.2.1 ++ ([(r1.2.1.2.2.1.getD (r1.2.2.2.2.1.getD r1.1.2.2.2.2.2.2.2.1.toNat 0).toNat 0)] : List (Int))), ()))
              else
                none
            else
              none
          else
            none
        else
          none
      else
        none
    else
      some (((), (), ()), ((y2.1, y2.2.1, y2.2.2.1, ()), (y4.1, (), (), ()), y308, y309, ()))

noncomputable def EL15_8 : LoopEnt := ⟨[15], 8, ⟨[.keep [1, 2, 3, 4, 5, 6, 7, 8] [1, 2, 4, 6, 30, 31, 96, 109], .adoptCell 4 1 (.slice (.int .i64)) 308, .adoptCell 4 2 (.int .i64) 309, .adopt 6 (.int .i64) 6], [1, 2, 3, 4, 5, 6, 7, 8], [1, 2, 4, 6, 31, 308, 309]⟩, [.ptr 1 0, .ptr 2 0, .kd (.slice (.int .i64)), .ptr 4 0, .kd (.slice (.int .u8)), .ref 6, .mapr 31, .kd (.int .i64)], [.box [.kd (.slice (.int .i64)), .kd (.slice (.slice (.int .i64))), .kd (.slice (.int .i64))], .box [.kd (.slice (.int .i64)), .kd (.slice (.slice (.int .i64))), .kd (.slice (.int .i64))], .box [.kd (.slice (.int .i64)), .ref 308, .ref 309], .row (.int .i64), .map (.int .i64) (.int .i64), .row (.slice (.int .i64)), .row (.int .i64)], [⟨(.exit 0), [2, 4], [.ptr 2 0, .ptr 4 0], [2, 4, 308, 309], [.box [.kd (.slice (.int .i64)), .kd (.slice (.slice (.int .i64))), .kd (.slice (.int .i64))], .box [.kd (.slice (.int .i64)), .ref 308, .ref 309], .row (.slice (.int .i64)), .row (.int .i64)]⟩], limit L15_8⟩

noncomputable def O15 : Orc := mkOrc [(29, fnOf [(.pair (.slice (.int .i64)) (.pair (.slice (.slice (.int .i64))) (.pair (.slice (.int .i64)) .unit))), (.int .i64), (.int .u8)] (.one (.int .i64)) p29), (33, fnOf [(.pair (.slice (.int .i64)) (.pair (.slice (.slice (.int .i64))) (.pair (.slice (.int .i64)) .unit)))] (.one (.pair (.slice (.int .i64)) (.pair (.slice (.slice (.int .i64))) (.pair (.slice (.int .i64)) .unit)))) p33), (34, fnOf [(.pair (.slice (.int .i64)) (.pair (.slice (.slice (.int .i64))) (.pair (.slice (.int .i64)) .unit)))] (.one (.pair (.slice (.int .i64)) (.pair (.slice (.slice (.int .i64))) (.pair (.slice (.int .i64)) .unit)))) p34), (35, fnOf [(.pair (.slice (.int .i64)) (.pair (.slice (.slice (.int .i64))) (.pair (.slice (.int .i64)) .unit)))] (.one (.slice (.int .i64))) p35), (36, fnOf [(.pair (.slice (.int .i64)) (.pair (.slice (.slice (.int .i64))) (.pair (.slice (.int .i64)) .unit))), (.slice (.int .i64)), (.slice (.int .i64))] (.one (.slice (.int .i64))) p36), (37, fnOf [(.pair (.slice (.int .i64)) (.pair (.slice (.slice (.int .i64))) (.pair (.slice (.int .i64)) .unit))), (.slice (.int .i64))] (.one (.slice (.int .i64))) p37), (38, fnOf [(.slice (.int .i64))] (.one (.slice (.int .u8))) p38)] [EL15_12, EL15_8] [([15], 24, [.freeze 9])] [] []

theorem cL15_12 : LoopCert Try.prog O15 Γ15 1 EL15_12 :=
  ⟨⟨15, 1, L15_12, rfl, by kernel_rfl, by decide, limit_fn, fun _ => rfl, fun m old x r h => by
    obtain ⟨⟨x1, x2, x3, x4, x5, x6, x7, x8, x9, x45, x46, x47, ⟨⟩⟩, y1, y2, y4, y6, y31, y44, y308, y309, ⟨⟩⟩ := x
    refine Eq.trans ?_ h
    kernel_rfl⟩⟩

theorem cL15_8 : LoopCert Try.prog O15 Γ15 1 EL15_8 :=
  ⟨⟨15, 0, L15_8, rfl, by kernel_rfl, by decide, limit_fn, fun _ => rfl, fun m old x r h => by
    obtain ⟨⟨x1, x2, x3, x4, x5, x6, x7, x8, ⟨⟩⟩, y1, y2, y4, y6, y31, y308, y309, ⟨⟩⟩ := x
    refine Eq.trans ?_ h
    kernel_rfl⟩⟩

/-- emendate/dfa.Minimize -/
noncomputable def p15 : (((List (Int)) × ((List (List (Int))) × ((List (Int)) × (Unit)))) × Unit) → Option ((List (Int)) × ((List (List (Int))) × ((List (Int)) × (Unit))))
  | (x0, ()) =>
    (p34 ((x0.1, (x0.2.1, (x0.2.2.1, ()))), ())).bind fun c1 =>
    (p33 ((c1.1, (c1.2.1, (c1.2.2.1, ()))), ())).bind fun c2 =>
    (p35 ((c2.1, (c2.2.1, (c2.2.2.1, ()))), ())).bind fun c3 =>
    (p37 ((c2.1, (c2.2.1, (c2.2.2.1, ()))), c3, ())).bind fun c4 =>
    (p36 ((c2.1, (c2.2.1, (c2.2.2.1, ()))), c4, c3, ())).bind fun c5 =>
    (p38 (c5, ())).bind fun c6 =>
    if decide (0 ≤ (0 : Int) ∧ (0 : Int) < (c3.length : Int)) = true then
      (limit L15_8 (((), (), c3, (), c6, (), (), (0 : Int), ()), ((c2.1, c2.2.1, c2.2.2.1, ()), (([] : List (Int)), ([] : List (List (Int))), ([] : List (Int)), ()), (c5, (), (), ()), ([(0 : Int)] : List (Int)), (mput (.int .i64) (c3.getD (0 : Int).toNat 0) (0 : Int) ([] : List ((Int) × (Int)))), ([] : List (List (Int))), ([] : List (Int)), ()))).bind fun r7 =>
      some (r7.2.2.1.1, (r7.2.2.2.1, (r7.2.2.2.2.1, ())))
    else
      none

theorem s15 : SoundFn Try.prog 15 (fnOf [(.pair (.slice (.int .i64)) (.pair (.slice (.slice (.int .i64))) (.pair (.slice (.int .i64)) .unit)))] (.one (.pair (.slice (.int .i64)) (.pair (.slice (.slice (.int .i64))) (.pair (.slice (.int .i64)) .unit)))) p15) :=
  fn_pure hm0 hng0 hΓ15 (t := [(29, fnOf [(.pair (.slice (.int .i64)) (.pair (.slice (.slice (.int .i64))) (.pair (.slice (.int .i64)) .unit))), (.int .i64), (.int .u8)] (.one (.int .i64)) p29), (33, fnOf [(.pair (.slice (.int .i64)) (.pair (.slice (.slice (.int .i64))) (.pair (.slice (.int .i64)) .unit)))] (.one (.pair (.slice (.int .i64)) (.pair (.slice (.slice (.int .i64))) (.pair (.slice (.int .i64)) .unit)))) p33), (34, fnOf [(.pair (.slice (.int .i64)) (.pair (.slice (.slice (.int .i64))) (.pair (.slice (.int .i64)) .unit)))] (.one (.pair (.slice (.int .i64)) (.pair (.slice (.slice (.int .i64))) (.pair (.slice (.int .i64)) .unit)))) p34), (35, fnOf [(.pair (.slice (.int .i64)) (.pair (.slice (.slice (.int .i64))) (.pair (.slice (.int .i64)) .unit)))] (.one (.slice (.int .i64))) p35), (36, fnOf [(.pair (.slice (.int .i64)) (.pair (.slice (.slice (.int .i64))) (.pair (.slice (.int .i64)) .unit))), (.slice (.int .i64)), (.slice (.int .i64))] (.one (.slice (.int .i64))) p36), (37, fnOf [(.pair (.slice (.int .i64)) (.pair (.slice (.slice (.int .i64))) (.pair (.slice (.int .i64)) .unit))), (.slice (.int .i64))] (.one (.slice (.int .i64))) p37), (38, fnOf [(.slice (.int .i64))] (.one (.slice (.int .u8))) p38)]) (all_cons s29 (all_cons s33 (all_cons s34 (all_cons s35 (all_cons s36 (all_cons s37 (all_cons s38 all_nil))))))) (ls := [EL15_12, EL15_8]) (cmds := [([15], 24, [.freeze 9])]) (leaves := []) (fr := []) (D := 1) (all_cons cL15_12 (all_cons cL15_8 all_nil)) (by kernel_rfl) (hfr := all_nil) fun x r h => by
    obtain ⟨x0, ⟨⟩⟩ := x
    refine Eq.trans ?_ h
    kernel_rfl

def Γ17 : TEnv := { Γ0 with imm := [78, 82] }
theorem hΓ17 : Γ17.ok Try.prog = true := hΓ0

noncomputable def L17_10 : Nat → ((Unit × Unit × Unit × Unit × (Int) × Unit × (Int) × Unit) × (((List (Int)) × (List (List (Int))) × (List (Int)) × Unit) × ((List (Int)) × (List (List (Int))) × (List (Int)) × Unit) × (List (((Int) × ((Int) × (Unit))) × ((List UInt8) × (Unit)))) × ((Int) × (Int) × (List UInt8) × Unit) × (List (((Int) × ((Int) × (Unit))) × (Unit))) × Unit)) → Option ((Unit × Unit × Unit × Unit × (Int) × Unit) × (((List (Int)) × (List (List (Int))) × (List (Int)) × Unit) × ((List (Int)) × (List (List (Int))) × (List (Int)) × Unit) × (List (((Int) × ((Int) × (Unit))) × ((List UInt8) × (Unit)))) × (List (((Int) × ((Int) × (Unit))) × (Unit))) × Unit))
  | 0, _ => none
  | n + 1, ((_, _, _, _, x8, _, x43, ()), (y2, y3, y6, y9, y16, ())) =>
    if (decide (x43 < (256 : Int))) = true then
      (p29 ((y2.1, (y2.2.1, (y2.2.2.1, ()))), y9.1, (IntKind.u8.wrap x43), ())).bind fun c1 =>
      (p29 ((y3.1, (y3.2.1, (y3.2.2.1, ()))), y9.2.1, (IntKind.u8.wrap x43), ())).bind fun c2 =>
      if (!(mget (.pair (.int .i64) (.pair (.int .i64) .unit)) (c1, (c2, ())) y16).isSome) = true then
        if decide (y9.2.2.1.length + (([(IntKind.u8.wrap x43)] : List (Int)).map fun n => UInt8.ofNat n.toNat).length ≤ lim) = true then
          if decide (y6.length + ([((c1, (c2, ())), ((y9.2.2.1 ++ (([(IntKind.u8.wrap x43)] : List (Int)).map fun n => UInt8.ofNat n.toNat)), ()))] : List (((Int) × ((Int) × (Unit))) × ((List UInt8) × (Unit)))).length ≤ lim) = true then
            L17_10 n (((), (), (), (), x8, (), (IntKind.i64.wrap (x43 + (1 : Int))), ()), ((y2.1, y2.2.1, y2.2.2.1, ()), (y3.1, y3.2.1, y3.2.2.1, ()), (y6 ++ ([((c1, (c2, ())), ((y9.2.2.1 ++ (([(IntKind.u8.wrap x43)] : List (Int)).map fun n => UInt8.ofNat n.toNat)), ()))] : List (((Int) × ((Int) × (Unit))) × ((List UInt8) × (Unit))))), (y9.1, y9.2.1, y9.2.2.1, ()), (mput (.pair (.int .i64) (.pair (.int .i64) .unit)) (c1, (c2, ())) () y16), ()))
          else
            none
        else
          none
      else
        L17_10 n (((), (), (), (), x8, (), (IntKind.i64.wrap (x43 + (1 : Int))), ()), ((y2.1, y2.2.1, y2.2.2.1, ()), (y3.1, y3.2.1, y3.2.2.1, ()), y6, (y9.1, y9.2.1, y9.2.2.1, ()), y16, ()))
    else
      some (((), (), (), (), x8, ()), ((y2.1, y2.2.1, y2.2.2.1, ()), (y3.1, y3.2.1, y3.2.2.1, ()), y6, y16, ()))

noncomputable def EL17_10 : LoopEnt := ⟨[17], 10, ⟨[.keep [2, 3, 6, 7, 8, 9, 43] [2, 3, 6, 9, 16, 83], .adopt 6 (.pair (.pair (.int .i64) (.pair (.int .i64) .unit)) (.pair .str .unit)) 6], [2, 3, 6, 7, 8, 9, 43], [2, 3, 6, 9, 16]⟩, [.ptr 2 0, .ptr 3 0, .ref 6, .mapr 16, .kd (.int .i64), .ptr 9 0, .kd (.int .i64)], [.box [.kd (.slice (.int .i64)), .kd (.slice (.slice (.int .i64))), .kd (.slice (.int .i64))], .box [.kd (.slice (.int .i64)), .kd (.slice (.slice (.int .i64))), .kd (.slice (.int .i64))], .row (.pair (.pair (.int .i64) (.pair (.int .i64) .unit)) (.pair .str .unit)), .box [.kd (.int .i64), .kd (.int .i64), .kd .str], .map (.pair (.int .i64) (.pair (.int .i64) .unit)) .unit], [⟨(.exit 2), [2, 3, 6, 7, 8], [.ptr 2 0, .ptr 3 0, .ref 6, .mapr 16, .kd (.int .i64)], [2, 3, 6, 16], [.box [.kd (.slice (.int .i64)), .kd (.slice (.slice (.int .i64))), .kd (.slice (.int .i64))], .box [.kd (.slice (.int .i64)), .kd (.slice (.slice (.int .i64))), .kd (.slice (.int .i64))], .row (.pair (.pair (.int .i64) (.pair (.int .i64) .unit)) (.pair .str .unit)), .map (.pair (.int .i64) (.pair (.int .i64) .unit)) .unit]⟩], limit L17_10⟩

noncomputable def L17_4 : Nat → ((Unit × Unit × Unit × Unit × (Int) × Unit) × (((List (Int)) × (List (List (Int))) × (List (Int)) × Unit) × ((List (Int)) × (List (List (Int))) × (List (Int)) × Unit) × (List (((Int) × ((Int) × (Unit))) × ((List UInt8) × (Unit)))) × (List (((Int) × ((Int) × (Unit))) × (Unit))) × Unit)) → Option ((((List UInt8) × (Bool) × Unit) × (Unit)) ⊕ ((Unit) × (Unit)))
  | 0, _ => none
  | n + 1, ((_, _, _, _, x8, ()), (y2, y3, y6, y16, ())) =>
    if (decide (x8 < (y6.length : Int))) = true then
      if decide (0 ≤ x8 ∧ x8 < (y6.length : Int)) = true then
        (p30 ((y2.1, (y2.2.1, (y2.2.2.1, ()))), (y6.getD x8.toNat ((0, (0, ())), ([], ()))).1.1, ())).bind fun c1 =>
        (p30 ((y3.1, (y3.2.1, (y3.2.2.1, ()))), (y6.getD x8.toNat ((0, (0, ())), ([], ()))).1.2.1, ())).bind fun c2 =>
        if (!decide (c1 = c2)) = true then
          some (.inl (((y6.getD x8.toNat ((0, (0, ())), ([], ()))).2.1, true, ()), ()))
        else
          (limit L17_10 (((), (), (), (), x8, (), (0 : Int), ()), ((y2.1, y2.2.1, y2.2.2.1, ()), (y3.1, y3.2.1, y3.2.2.1, ()), y6, ((y6.getD x8.toNat ((0, (0, ())), ([], ()))).1.1, (y6.getD x8.toNat ((0, (0, ())), ([], ()))).1.2.1, (y6.getD x8.toNat ((0, (0, ())), ([], ()))).2.1, ()), y16, ()))).bind fun r3 =>
          L17_4 n (((), (), (), (), (IntKind.i64.wrap (r3.1.2.2.2.2.1 + (1 : Int))), ()), ((r3.2.1.1, r3.2.1.2.1, r3.2.1.2.2.1, ()), (r3.2.2.1.1, r3.2.2.1.2.1, r3.2.2.1.2.2.1, ()), r3.2.2.2.1, r3.2.2.2.2.1, ()))
      else
        none
    else
      some (.inr ((), ()))

noncomputable def EL17_4 : LoopEnt := ⟨[17], 4, ⟨[.keep [2, 3, 6, 7, 8] [2, 3, 6, 15, 16], .adopt 6 (.pair (.pair (.int .i64) (.pair (.int .i64) .unit)) (.pair .str .unit)) 6], [2, 3, 6, 7, 8], [2, 3, 6, 16]⟩, [.ptr 2 0, .ptr 3 0, .ref 6, .mapr 16, .kd (.int .i64)], [.box [.kd (.slice (.int .i64)), .kd (.slice (.slice (.int .i64))), .kd (.slice (.int .i64))], .box [.kd (.slice (.int .i64)), .kd (.slice (.slice (.int .i64))), .kd (.slice (.int .i64))], .row (.pair (.pair (.int .i64) (.pair (.int .i64) .unit)) (.pair .str .unit)), .map (.pair (.int .i64) (.pair (.int .i64) .unit)) .unit], [⟨.ret, [4, 5], [.kd .str, .kd .bool], [], []⟩, ⟨(.exit 0), [], [], [], []⟩], limit L17_4⟩

noncomputable def O17 : Orc := mkOrc [(29, fnOf [(.pair (.slice (.int .i64)) (.pair (.slice (.slice (.int .i64))) (.pair (.slice (.int .i64)) .unit))), (.int .i64), (.int .u8)] (.one (.int .i64)) p29), (30, fnOf [(.pair (.slice (.int .i64)) (.pair (.slice (.slice (.int .i64))) (.pair (.slice (.int .i64)) .unit))), (.int .i64)] (.one (.int .i64)) p30)] [EL17_10, EL17_4] [] [] []

theorem cL17_10 : LoopCert Try.prog O17 Γ17 1 EL17_10 :=
  ⟨⟨17, 1, L17_10, rfl, by kernel_rfl, by decide, limit_fn, fun _ => rfl, fun m old x r h => by
    obtain ⟨⟨x2, x3, x6, x7, x8, x9, x43, ⟨⟩⟩, y2, y3, y6, y9, y16, ⟨⟩⟩ := x
    refine Eq.trans ?_ h
    kernel_rfl⟩⟩

theorem cL17_4 : LoopCert Try.prog O17 Γ17 1 EL17_4 :=
  ⟨⟨17, 0, L17_4, rfl, by kernel_rfl, by decide, limit_fn, fun _ => rfl, fun m old x r h => by
    obtain ⟨⟨x2, x3, x6, x7, x8, ⟨⟩⟩, y2, y3, y6, y16, ⟨⟩⟩ := x
    refine Eq.trans ?_ h
    kernel_rfl⟩⟩

/-- emendate/dfa.Difference -/
noncomputable def p17 : (((List (Int)) × ((List (List (Int))) × ((List (Int)) × (Unit)))) × ((List (Int)) × ((List (List (Int))) × ((List (Int)) × (Unit)))) × Unit) → Option ((List UInt8) × (Bool) × Unit)
  | (x0, x1, ()) =>
    (limit L17_4 (((), (), (), (), (0 : Int), ()), ((x0.1, x0.2.1, x0.2.2.1, ()), (x1.1, x1.2.1, x1.2.2.1, ()), ([(((0 : Int), ((0 : Int), ())), (([] : List UInt8), ()))] : List (((Int) × ((Int) × (Unit))) × ((List UInt8) × (Unit)))), (mput (.pair (.int .i64) (.pair (.int .i64) .unit)) ((0 : Int), ((0 : Int), ())) () ([] : List (((Int) × ((Int) × (Unit))) × (Unit)))), ()))).bind (Sum.elim (fun r1 =>
      some (r1.1.1, r1.1.2.1, ())) (fun _ =>
      some (([] : List UInt8), false, ())))

theorem s17 : SoundFn Try.prog 17 (fnOf [(.pair (.slice (.int .i64)) (.pair (.slice (.slice (.int .i64))) (.pair (.slice (.int .i64)) .unit))), (.pair (.slice (.int .i64)) (.pair (.slice (.slice (.int .i64))) (.pair (.slice (.int .i64)) .unit)))] (.tup [.str, .bool]) p17) :=
  fn_pure hm0 hng0 hΓ17 (t := [(29, fnOf [(.pair (.slice (.int .i64)) (.pair (.slice (.slice (.int .i64))) (.pair (.slice (.int .i64)) .unit))), (.int .i64), (.int .u8)] (.one (.int .i64)) p29), (30, fnOf [(.pair (.slice (.int .i64)) (.pair (.slice (.slice (.int .i64))) (.pair (.slice (.int .i64)) .unit))), (.int .i64)] (.one (.int .i64)) p30)]) (all_cons s29 (all_cons s30 all_nil)) (ls := [EL17_10, EL17_4]) (cmds := []) (leaves := []) (fr := []) (D := 1) (all_cons cL17_10 (all_cons cL17_4 all_nil)) (by kernel_rfl) (hfr := all_nil) fun x r h => by
    obtain ⟨x0, x1, ⟨⟩⟩ := x
    refine Eq.trans ?_ h
    kernel_rfl

noncomputable def O25 : Orc := mkOrc [] [] [] [] []

/-- emendate/emendatelaw10.class -/
noncomputable def p25 : ((Int) × Unit) → Option (List (Int))
  | (x0, ()) =>
    if decide ((256 : Int) = (256 : Int) ∧ 0 ≤ (256 : Int) ∧ (256 : Int) ≤ (lim : Int)) = true then
      if decide (0 ≤ x0 ∧ x0 < ((List.replicate (256 : Int).toNat (0 : Int)).length : Int)) = true then
        some ((List.replicate (256 : Int).toNat (0 : Int)).set x0.toNat (1 : Int))
      else
        none
    else
      none

theorem s25 : SoundFn Try.prog 25 (fnOf [(.int .u8)] (.one (.slice (.int .i64))) p25) :=
  fn_pure hm0 hng0 hΓ0 (t := []) all_nil (ls := []) (cmds := []) (leaves := []) (fr := []) (D := 1) all_nil (by kernel_rfl) (hfr := all_nil) fun x r h => by
    obtain ⟨x0, ⟨⟩⟩ := x
    refine Eq.trans ?_ h
    kernel_rfl

def Γ24 : TEnv := { Γ0 with imm := [3, 4, 5, 6, 9, 10, 11, 12, 13] }
theorem hΓ24 : Γ24.ok Try.prog = true := hΓ0

noncomputable def O24 : Orc := mkOrc [(25, fnOf [(.int .u8)] (.one (.slice (.int .i64))) p25)] [] [] [] []

/-- emendate/emendatelaw10.plus -/
noncomputable def p24 : (Unit) → Option (((List (Int)) × ((List (List (Int))) × ((List (Int)) × (Unit)))) × ((List (Int)) × ((List (List (Int))) × ((List (Int)) × (Unit)))) × Unit)
  | () =>
    (p25 ((97 : Int), ())).bind fun c1 =>
    (p25 ((97 : Int), ())).bind fun c2 =>
    some ((c1, (([([(-1 : Int), (1 : Int)] : List (Int)), ([(-1 : Int), (1 : Int)] : List (Int))] : List (List (Int))), (([(-1 : Int), (0 : Int)] : List (Int)), ()))), (c2, (([([(-1 : Int), (1 : Int)] : List (Int)), ([(-1 : Int), (2 : Int)] : List (Int)), ([(-1 : Int), (1 : Int)] : List (Int))] : List (List (Int))), (([(-1 : Int), (0 : Int), (0 : Int)] : List (Int)), ()))), ())

theorem s24 : SoundFn Try.prog 24 (fnOf [] (.tup [(.pair (.slice (.int .i64)) (.pair (.slice (.slice (.int .i64))) (.pair (.slice (.int .i64)) .unit))), (.pair (.slice (.int .i64)) (.pair (.slice (.slice (.int .i64))) (.pair (.slice (.int .i64)) .unit)))]) p24) :=
  fn_pure hm0 hng0 hΓ24 (t := [(25, fnOf [(.int .u8)] (.one (.slice (.int .i64))) p25)]) (all_cons s25 all_nil) (ls := []) (cmds := []) (leaves := []) (fr := []) (D := 1) all_nil (by kernel_rfl) (hfr := all_nil) fun x r h => by
    cases x
    refine Eq.trans ?_ h
    kernel_rfl

noncomputable def L54_27_26_2 : Nat → (((List (Int)) × Unit × (Int) × (Int) × Unit) × (((Int) × Unit) × ((Int) × Unit) × Unit)) → Option ((((Int) × Unit) × (((Int) × Unit) × ((Int) × Unit) × Unit)) ⊕ ((Unit) × (((Int) × Unit) × ((Int) × Unit) × Unit)))
  | 0, _ => none
  | n + 1, ((x0, _, x7, x8, ()), (y4, y5, ())) =>
    if (decide (x8 < x7)) = true then
      if decide (0 ≤ x8 ∧ x8 < (x0.length : Int)) = true then
        if (decide ((x0.getD x8.toNat 0) < y4.1)) = true then
          some (.inl ((x8, ()), ((y4.1, ()), (y5.1, ()), ())))
        else
          if (decide ((x0.getD x8.toNat 0) > y5.1)) = true then
            some (.inl ((x8, ()), ((y4.1, ()), (y5.1, ()), ())))
          else
            L54_27_26_2 n ((x0, (), x7, (IntKind.i64.wrap (x8 + (1 : Int))), ()), ((y4.1, ()), (y5.1, ()), ()))
      else
        none
    else
      some (.inr ((), ((y4.1, ()), (y5.1, ()), ())))

noncomputable def EL54_27_26_2 : LoopEnt := ⟨[54, 27, 26], 2, ⟨[], [0, 1, 7, 8], [4, 5]⟩, [.kd (.slice (.int .i64)), .fnp 53 [4, 5], .kd (.int .i64), .kd (.int .i64)], [.box [.kd (.int .i64)], .box [.kd (.int .i64)]], [⟨.ret, [4], [.kd (.int .i64)], [4, 5], [.box [.kd (.int .i64)], .box [.kd (.int .i64)]]⟩, ⟨(.exit 0), [], [], [4, 5], [.box [.kd (.int .i64)], .box [.kd (.int .i64)]]⟩], limit L54_27_26_2⟩

noncomputable def O26 : Orc := mkOrc [] [EL54_27_26_2] [] [] []

theorem cL54_27_26_2 : LoopCert Try.prog O26 Γ0 4 EL54_27_26_2 :=
  ⟨⟨54, 0, L54_27_26_2, rfl, by kernel_rfl, by decide, limit_fn, fun _ => rfl, fun m old x r h => by
    obtain ⟨⟨x0, x1, x7, x8, ⟨⟩⟩, y4, y5, ⟨⟩⟩ := x
    refine Eq.trans ?_ h
    kernel_rfl⟩⟩

/-- emendate/dfa.between -/
noncomputable def p26 : ((List (Int)) × (Int) × (Int) × Unit) → Option (Bool)
  | (x0, x1, x2, ()) =>
    (limit L54_27_26_2 ((x0, (), (x0.length : Int), (0 : Int), ()), ((x1, ()), (x2, ()), ()))).bind (Sum.elim (fun r1 =>
      some (!(decide (r1.1.1 ≥ (0 : Int))))) (fun _ =>
      some (!(decide ((-1 : Int) ≥ (0 : Int))))))

theorem s26 : SoundFn Try.prog 26 (fnOf [(.slice (.int .i64)), (.int .i64), (.int .i64)] (.one .bool) p26) :=
  fn_pure hm0 hng0 hΓ0 (t := []) all_nil (ls := [EL54_27_26_2]) (cmds := []) (leaves := []) (fr := []) (D := 4) (all_cons cL54_27_26_2 all_nil) (by kernel_rfl) (hfr := all_nil) fun x r h => by
    obtain ⟨x0, x1, x2, ⟨⟩⟩ := x
    refine Eq.trans ?_ h
    kernel_rfl

noncomputable def O28 : Orc := mkOrc [] [] [] [] []

/-- emendate/dfa.Valid$1 -/
noncomputable def p28 : ((Int) × Unit) → Option (Bool)
  | (x0, ()) =>
    some (decide (x0 < (-1 : Int)))

theorem s28 : SoundFn Try.prog 28 (fnOf [(.int .i64)] (.one .bool) p28) :=
  fn_pure hm0 hng0 hΓ0 (t := []) all_nil (ls := []) (cmds := []) (leaves := []) (fr := []) (D := 1) all_nil (by kernel_rfl) (hfr := all_nil) fun x r h => by
    obtain ⟨x0, ⟨⟩⟩ := x
    refine Eq.trans ?_ h
    kernel_rfl

noncomputable def L11_8 : Nat → ((Unit × (Int) × (Int) × (List (List (Int))) × (Int) × (Int) × Unit) × (((List (Int)) × (List (List (Int))) × (List (Int)) × Unit) × Unit)) → Option ((((Bool) × Unit) × (Unit)) ⊕ ((Unit × Unit) × (((List (Int)) × (List (List (Int))) × (List (Int)) × Unit) × Unit)))
  | 0, _ => none
  | n + 1, ((_, x3, x4, x45, x46, x47, ()), (y1, ())) =>
    if (decide (x47 < x46)) = true then
      if decide (0 ≤ x47 ∧ x47 < (x45.length : Int)) = true then
        if (!decide (((x45.getD x47.toNat []).length : Int) = x4)) = true then
          some (.inl ((false, ()), ()))
        else
          (p26 ((x45.getD x47.toNat []), (-1 : Int), (IntKind.i64.wrap (x3 - (1 : Int))), ())).bind fun c1 =>
          if (!c1) = true then
            some (.inl ((false, ()), ()))
          else
            L11_8 n (((), x3, x4, x45, x46, (IntKind.i64.wrap (x47 + (1 : Int))), ()), ((y1.1, y1.2.1, y1.2.2.1, ()), ()))
      else
        none
    else
      some (.inr (((), ()), ((y1.1, y1.2.1, y1.2.2.1, ()), ())))

noncomputable def EL11_8 : LoopEnt := ⟨[11], 8, ⟨[], [1, 3, 4, 45, 46, 47], [1]⟩, [.ptr 1 0, .kd (.int .i64), .kd (.int .i64), .kd (.slice (.slice (.int .i64))), .kd (.int .i64), .kd (.int .i64)], [.box [.kd (.slice (.int .i64)), .kd (.slice (.slice (.int .i64))), .kd (.slice (.int .i64))]], [⟨.ret, [2], [.kd .bool], [], []⟩, ⟨(.exit 0), [1], [.ptr 1 0], [1], [.box [.kd (.slice (.int .i64)), .kd (.slice (.slice (.int .i64))), .kd (.slice (.int .i64))]]⟩], limit L11_8⟩

noncomputable def L54_27_11_2 : Nat → (((List (Int)) × Unit × (Int) × (Int) × Unit) × (((List (Int)) × (List (List (Int))) × (List (Int)) × Unit) × Unit)) → Option ((((Int) × Unit) × (((List (Int)) × (List (List (Int))) × (List (Int)) × Unit) × Unit)) ⊕ ((Unit) × (((List (Int)) × (List (List (Int))) × (List (Int)) × Unit) × Unit)))
  | 0, _ => none
  | n + 1, ((x0, _, x7, x8, ()), (y1, ())) =>
    if (decide (x8 < x7)) = true then
      if decide (0 ≤ x8 ∧ x8 < (x0.length : Int)) = true then
        (p28 ((x0.getD x8.toNat 0), ())).bind fun c1 =>
        if c1 = true then
          some (.inl ((x8, ()), ((y1.1, y1.2.1, y1.2.2.1, ()), ())))
        else
          L54_27_11_2 n ((x0, (), x7, (IntKind.i64.wrap (x8 + (1 : Int))), ()), ((y1.1, y1.2.1, y1.2.2.1, ()), ()))
      else
        none
    else
      some (.inr ((), ((y1.1, y1.2.1, y1.2.2.1, ()), ())))

noncomputable def EL54_27_11_2 : LoopEnt := ⟨[54, 27, 11], 2, ⟨[], [0, 1, 7, 8], [1]⟩, [.kd (.slice (.int .i64)), .fnp 28 [], .kd (.int .i64), .kd (.int .i64)], [.box [.kd (.slice (.int .i64)), .kd (.slice (.slice (.int .i64))), .kd (.slice (.int .i64))]], [⟨.ret, [4], [.kd (.int .i64)], [1], [.box [.kd (.slice (.int .i64)), .kd (.slice (.slice (.int .i64))), .kd (.slice (.int .i64))]]⟩, ⟨(.exit 0), [], [], [1], [.box [.kd (.slice (.int .i64)), .kd (.slice (.slice (.int .i64))), .kd (.slice (.int .i64))]]⟩], limit L54_27_11_2⟩

noncomputable def O11 : Orc := mkOrc [(26, fnOf [(.slice (.int .i64)), (.int .i64), (.int .i64)] (.one .bool) p26), (28, fnOf [(.int .i64)] (.one .bool) p28)] [EL11_8, EL54_27_11_2] [] [] []

theorem cL11_8 : LoopCert Try.prog O11 Γ0 3 EL11_8 :=
  ⟨⟨11, 0, L11_8, rfl, by kernel_rfl, by decide, limit_fn, fun _ => rfl, fun m old x r h => by
    obtain ⟨⟨x1, x3, x4, x45, x46, x47, ⟨⟩⟩, y1, ⟨⟩⟩ := x
    refine Eq.trans ?_ h
    kernel_rfl⟩⟩

theorem cL54_27_11_2 : LoopCert Try.prog O11 Γ0 3 EL54_27_11_2 :=
  ⟨⟨54, 0, L54_27_11_2, rfl, by kernel_rfl, by decide, limit_fn, fun _ => rfl, fun m old x r h => by
    obtain ⟨⟨x0, x1, x7, x8, ⟨⟩⟩, y1, ⟨⟩⟩ := x
    refine Eq.trans ?_ h
    kernel_rfl⟩⟩

/-- emendate/dfa.Valid -/
noncomputable def p11 : (((List (Int)) × ((List (List (Int))) × ((List (Int)) × (Unit)))) × Unit) → Option (Bool)
  | (x0, ()) =>
    if (!decide ((x0.1.length : Int) = (256 : Int))) = true then
      some false
    else
      if (decide ((x0.2.1.length : Int) < (1 : Int))) = true then
        some false
      else
        if (decide ((x0.2.1.length : Int) > (500 : Int))) = true then
          some false
        else
          if (!decide ((x0.2.2.1.length : Int) = (x0.2.1.length : Int))) = true then
            some false
          else
            if decide (0 ≤ (0 : Int) ∧ (0 : Int) < (x0.2.1.length : Int)) = true then
              if (decide (((x0.2.1.getD (0 : Int).toNat []).length : Int) < (1 : Int))) = true then
                some false
              else
                (p26 (x0.1, (0 : Int), (IntKind.i64.wrap (((x0.2.1.getD (0 : Int).toNat []).length : Int) - (1 : Int))), ())).bind fun c1 =>
                if (!c1) = true then
                  some false
                else
                  (limit L11_8 (((), (x0.2.1.length : Int), ((x0.2.1.getD (0 : Int).toNat []).length : Int), x0.2.1, (x0.2.1.length : Int), (0 : Int), ()), ((x0.1, x0.2.1, x0.2.2.1, ()), ()))).bind (Sum.elim (fun r2 =>
                    some r2.1.1) (fun r2 =>
                    (limit L54_27_11_2 ((r2.2.1.2.2.1, (), (r2.2.1.2.2.1.length : Int), (0 : Int), ()), ((r2.2.1.1, r2.2.1.2.1, r2.2.1.2.2.1, ()), ()))).bind (Sum.elim (fun r3 =>
                      some (!(decide (r3.1.1 ≥ (0 : Int))))) (fun _ =>
                      some (!(decide ((-1 : Int) ≥ (0 : Int))))))))
            else
              none

theorem s11 : SoundFn Try.prog 11 (fnOf [(.pair (.slice (.int .i64)) (.pair (.slice (.slice (.int .i64))) (.pair (.slice (.int .i64)) .unit)))] (.one .bool) p11) :=
  fn_pure hm0 hng0 hΓ0 (t := [(26, fnOf [(.slice (.int .i64)), (.int .i64), (.int .i64)] (.one .bool) p26), (28, fnOf [(.int .i64)] (.one .bool) p28)]) (all_cons s26 (all_cons s28 all_nil)) (ls := [EL11_8, EL54_27_11_2]) (cmds := []) (leaves := []) (fr := []) (D := 3) (all_cons cL11_8 (all_cons cL54_27_11_2 all_nil)) (by kernel_rfl) (hfr := all_nil) fun x r h => by
    obtain ⟨x0, ⟨⟩⟩ := x
    refine Eq.trans ?_ h
    kernel_rfl

def Γ9 : TEnv := { Γ0 with imm := [20, 21, 22] }
theorem hΓ9 : Γ9.ok Try.prog = true := hΓ0

noncomputable def O9 : Orc := mkOrc [(11, fnOf [(.pair (.slice (.int .i64)) (.pair (.slice (.slice (.int .i64))) (.pair (.slice (.int .i64)) .unit)))] (.one .bool) p11), (12, fnOf [(.pair (.slice (.int .i64)) (.pair (.slice (.slice (.int .i64))) (.pair (.slice (.int .i64)) .unit))), .str] (.one (.int .i64)) p12), (15, fnOf [(.pair (.slice (.int .i64)) (.pair (.slice (.slice (.int .i64))) (.pair (.slice (.int .i64)) .unit)))] (.one (.pair (.slice (.int .i64)) (.pair (.slice (.slice (.int .i64))) (.pair (.slice (.int .i64)) .unit)))) p15), (16, fnOf [(.pair (.slice (.int .i64)) (.pair (.slice (.slice (.int .i64))) (.pair (.slice (.int .i64)) .unit))), (.pair (.slice (.int .i64)) (.pair (.slice (.slice (.int .i64))) (.pair (.slice (.int .i64)) .unit)))] (.one .bool) p16), (17, fnOf [(.pair (.slice (.int .i64)) (.pair (.slice (.slice (.int .i64))) (.pair (.slice (.int .i64)) .unit))), (.pair (.slice (.int .i64)) (.pair (.slice (.slice (.int .i64))) (.pair (.slice (.int .i64)) .unit)))] (.tup [.str, .bool]) p17), (24, fnOf [] (.tup [(.pair (.slice (.int .i64)) (.pair (.slice (.slice (.int .i64))) (.pair (.slice (.int .i64)) .unit))), (.pair (.slice (.int .i64)) (.pair (.slice (.slice (.int .i64))) (.pair (.slice (.int .i64)) .unit)))]) p24), (25, fnOf [(.int .u8)] (.one (.slice (.int .i64))) p25)] [] [] [] []

/-- emendate/emendatelaw10.awake -/
noncomputable def p9 : (Unit) → Option (Bool)
  | () =>
    (p24 (())).bind fun c1 =>
    (p17 ((c1.1.1, (c1.1.2.1, (c1.1.2.2.1, ()))), (c1.2.1.1, (c1.2.1.2.1, (c1.2.1.2.2.1, ()))), ())).bind fun c2 =>
    (p25 ((97 : Int), ())).bind fun c3 =>
    (p17 ((c1.1.1, (c1.1.2.1, (c1.1.2.2.1, ()))), (c3, (([([(-1 : Int), (-1 : Int)] : List (Int))] : List (List (Int))), (([(-1 : Int)] : List (Int)), ()))), ())).bind fun c4 =>
    (p11 ((c1.1.1, (c1.1.2.1, (c1.1.2.2.1, ()))), ())).bind fun c5 =>
    if c5 = true then
      (p11 ((([] : List (Int)), (([] : List (List (Int))), (([] : List (Int)), ()))), ())).bind fun c6 =>
      if (!c6) = true then
        (p12 ((c1.1.1, (c1.1.2.1, (c1.1.2.2.1, ()))), ([97, 97] : List UInt8), ())).bind fun c7 =>
        if (decide (c7 = (0 : Int))) = true then
          (p12 ((c1.1.1, (c1.1.2.1, (c1.1.2.2.1, ()))), ([] : List UInt8), ())).bind fun c8 =>
          if (decide (c8 = (-1 : Int))) = true then
            (p12 ((c1.1.1, (c1.1.2.1, (c1.1.2.2.1, ()))), ([97, 98] : List UInt8), ())).bind fun c9 =>
            if (decide (c9 = (-1 : Int))) = true then
              (p15 ((c1.2.1.1, (c1.2.1.2.1, (c1.2.1.2.2.1, ()))), ())).bind fun c10 =>
              (p16 ((c10.1, (c10.2.1, (c10.2.2.1, ()))), (c1.1.1, (c1.1.2.1, (c1.1.2.2.1, ()))), ())).bind fun c11 =>
              if c11 = true then
                (p15 ((c1.1.1, (c1.1.2.1, (c1.1.2.2.1, ()))), ())).bind fun c12 =>
                (p16 ((c12.1, (c12.2.1, (c12.2.2.1, ()))), (c1.1.1, (c1.1.2.1, (c1.1.2.2.1, ()))), ())).bind fun c13 =>
                if c13 = true then
                  if (!c2.2.1) = true then
                    if c4.2.1 = true then
                      some (decide (c4.1 = ([97] : List UInt8)))
                    else
                      some false
                  else
                    some false
                else
                  some false
              else
                some false
            else
              some false
          else
            some false
        else
          some false
      else
        some false
    else
      some false

theorem s9 : SoundFn Try.prog 9 (fnOf [] (.one .bool) p9) :=
  fn_pure hm0 hng0 hΓ9 (t := [(11, fnOf [(.pair (.slice (.int .i64)) (.pair (.slice (.slice (.int .i64))) (.pair (.slice (.int .i64)) .unit)))] (.one .bool) p11), (12, fnOf [(.pair (.slice (.int .i64)) (.pair (.slice (.slice (.int .i64))) (.pair (.slice (.int .i64)) .unit))), .str] (.one (.int .i64)) p12), (15, fnOf [(.pair (.slice (.int .i64)) (.pair (.slice (.slice (.int .i64))) (.pair (.slice (.int .i64)) .unit)))] (.one (.pair (.slice (.int .i64)) (.pair (.slice (.slice (.int .i64))) (.pair (.slice (.int .i64)) .unit)))) p15), (16, fnOf [(.pair (.slice (.int .i64)) (.pair (.slice (.slice (.int .i64))) (.pair (.slice (.int .i64)) .unit))), (.pair (.slice (.int .i64)) (.pair (.slice (.slice (.int .i64))) (.pair (.slice (.int .i64)) .unit)))] (.one .bool) p16), (17, fnOf [(.pair (.slice (.int .i64)) (.pair (.slice (.slice (.int .i64))) (.pair (.slice (.int .i64)) .unit))), (.pair (.slice (.int .i64)) (.pair (.slice (.slice (.int .i64))) (.pair (.slice (.int .i64)) .unit)))] (.tup [.str, .bool]) p17), (24, fnOf [] (.tup [(.pair (.slice (.int .i64)) (.pair (.slice (.slice (.int .i64))) (.pair (.slice (.int .i64)) .unit))), (.pair (.slice (.int .i64)) (.pair (.slice (.slice (.int .i64))) (.pair (.slice (.int .i64)) .unit)))]) p24), (25, fnOf [(.int .u8)] (.one (.slice (.int .i64))) p25)]) (all_cons s11 (all_cons s12 (all_cons s15 (all_cons s16 (all_cons s17 (all_cons s24 (all_cons s25 all_nil))))))) (ls := []) (cmds := []) (leaves := []) (fr := []) (D := 1) all_nil (by kernel_rfl) (hfr := all_nil) fun x r h => by
    cases x
    refine Eq.trans ?_ h
    kernel_rfl

end Go.AM
