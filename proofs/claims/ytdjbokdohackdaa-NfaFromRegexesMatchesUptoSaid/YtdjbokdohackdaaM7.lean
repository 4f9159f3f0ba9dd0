import Derived.Test.YtdjbokdohackdaaM6
/- Functions in pure form: each is sound over the program. -/
namespace Go.AM
open Go Go.Proofs

def Γ347 : TEnv := { Γ0 with imm := [1034] }
theorem hΓ347 : Γ347.ok Try.prog = true := hΓ0

noncomputable def L347_347_4 : Nat → ((Unit × (List (Int)) × (List (Int)) × (Int) × (Int) × Unit) × ((Unit × Unit × Unit) × (List (List (Int))) × (List (List (Int))) × Unit)) → Option ((Unit × (List (Int)) × (List (Int)) × (Int) × Unit) × ((Unit × Unit × Unit) × (List (List (Int))) × (List (List (Int))) × Unit))
  | 0, _ => none
  | n + 1, ((_, x1, x2, x6, x7, ()), (_, y1400, y1401, ())) =>
    if (decide (x7 < (x2.length : Int))) = true then
      if decide (0 ≤ x6 ∧ x6 < (x1.length : Int)) = true then
        if decide (0 ≤ x7 ∧ x7 < (x2.length : Int)) = true then
          if decide (y1401.length + ([[(x1.getD x6.toNat 0), (x2.getD x7.toNat 0)]] : List (List (Int))).length ≤ lim) = true then
            L347_347_4 n (((), x1, x2, x6, (IntKind.i64.wrap (x7 + (1 : Int))), ()), (((), (), ()), y1400, (y1401 ++ ([[(x1.getD x6.toNat 0), (x2.getD x7.toNat 0)]] : List (List (Int)))), ()))
          else
            none
        else
          none
      else
        none
    else
      some (((), x1, x2, x6, ()), (((), (), ()), y1400, y1401, ()))

noncomputable def EL347_347_4 : LoopEnt := ⟨[47, 47], 4, ⟨[.keep [0, 1, 2, 6, 7] [0, 1035, 1400, 1401], .adoptCell 0 1 (.arr 2 (.int .i64)) 1401], [0, 1, 2, 6, 7], [0, 1400, 1401]⟩, [.ptr 0 0, .kd (.slice (.int .i64)), .kd (.slice (.int .i64)), .kd (.int .i64), .kd (.int .i64)], [.box [.ref 1400, .ref 1401], .row (.arr 4 (.int .u64)), .row (.arr 2 (.int .i64))], [⟨(.exit 2), [0, 1, 2, 6], [.ptr 0 0, .kd (.slice (.int .i64)), .kd (.slice (.int .i64)), .kd (.int .i64)], [0, 1400, 1401], [.box [.ref 1400, .ref 1401], .row (.arr 4 (.int .u64)), .row (.arr 2 (.int .i64))]⟩], limit L347_347_4⟩

noncomputable def L347_347_1 : Nat → ((Unit × (List (Int)) × (List (Int)) × (Int) × Unit) × ((Unit × Unit × Unit) × (List (List (Int))) × (List (List (Int))) × Unit)) → Option ((Unit) × ((Unit × Unit × Unit) × (List (List (Int))) × (List (List (Int))) × Unit))
  | 0, _ => none
  | n + 1, ((_, x1, x2, x6, ()), (_, y1400, y1401, ())) =>
    if (decide (x6 < (x1.length : Int))) = true then
      (limit L347_347_4 (((), x1, x2, x6, (0 : Int), ()), (((), (), ()), y1400, y1401, ()))).bind fun r1 =>
      L347_347_1 n (((), r1.1.2.1, r1.1.2.2.1, (IntKind.i64.wrap (r1.1.2.2.2.1 + (1 : Int))), ()), (((), (), ()), r1.2.2.1, r1.2.2.2.1, ()))
    else
      some ((), (((), (), ()), y1400, y1401, ()))

noncomputable def EL347_347_1 : LoopEnt := ⟨[47, 47], 1, ⟨[.keep [0, 1, 2, 6] [0, 1, 2, 1400, 1401], .adoptCell 0 0 (.arr 4 (.int .u64)) 1400, .adoptCell 0 1 (.arr 2 (.int .i64)) 1401], [0, 1, 2, 6], [0, 1400, 1401]⟩, [.ptr 0 0, .kd (.slice (.int .i64)), .kd (.slice (.int .i64)), .kd (.int .i64)], [.box [.ref 1400, .ref 1401], .row (.arr 4 (.int .u64)), .row (.arr 2 (.int .i64))], [⟨(.exit 0), [], [], [0, 1400, 1401], [.box [.ref 1400, .ref 1401], .row (.arr 4 (.int .u64)), .row (.arr 2 (.int .i64))]⟩], limit L347_347_1⟩

noncomputable def O347 : Orc := mkOrc [] [EL347_347_4, EL347_347_1] [] [([47, 47], [.adoptCell 0 0 (.arr 4 (.int .u64)) 3, .adoptCell 0 1 (.arr 2 (.int .i64)) 4])] []

theorem cL347_347_4 : LoopCert Try.prog O347 Γ347 2 EL347_347_4 :=
  ⟨⟨47, 1, L347_347_4, rfl, by kernel_rfl, by decide, limit_fn, fun _ => rfl, fun m old x r h => by
    obtain ⟨⟨x0, x1, x2, x6, x7, ⟨⟩⟩, y0, y1400, y1401, ⟨⟩⟩ := x
    refine Eq.trans ?_ h
    kernel_rfl⟩⟩

theorem cL347_347_1 : LoopCert Try.prog O347 Γ347 2 EL347_347_1 :=
  ⟨⟨47, 0, L347_347_1, rfl, by kernel_rfl, by decide, limit_fn, fun _ => rfl, fun m old x r h => by
    obtain ⟨⟨x0, x1, x2, x6, ⟨⟩⟩, y0, y1400, y1401, ⟨⟩⟩ := x
    refine Eq.trans ?_ h
    kernel_rfl⟩⟩

/-- (*emendate/emendateref09.builder).all -/
noncomputable def p347 : ((Unit × (List (Int)) × (List (Int)) × Unit) × ((Unit × Unit × Unit) × (List (List (Int))) × (List (List (Int))) × Unit)) → Option ((Unit) × ((Unit × Unit × Unit) × (List (List (Int))) × (List (List (Int))) × Unit))
  | ((_, x1, x2, ()), (_, y1, y2, ())) =>
    (limit L347_347_1 (((), x1, x2, (0 : Int), ()), (((), (), ()), y1, y2, ()))).bind fun r1 =>
    some ((), (((), (), ()), r1.2.2.1, r1.2.2.2.1, ()))

theorem s347 : SoundProc Try.prog 47 [0, 1, 2] [0, 3, 4] (procPv (procOf [.ptr 0 0, .kd (.slice (.int .i64)), .kd (.slice (.int .i64))] [.box [.ref 1, .ref 2], .row (.arr 4 (.int .u64)), .row (.arr 2 (.int .i64))] (.tup []) [.box [.ref 3, .ref 4], .row (.arr 4 (.int .u64)), .row (.arr 2 (.int .i64))] p347)) :=
  proc_pure hm0 hng0 hΓ347 (t := []) all_nil (ls := [EL347_347_4, EL347_347_1]) (cmds := []) (leaves := [([47, 47], [.adoptCell 0 0 (.arr 4 (.int .u64)) 3, .adoptCell 0 1 (.arr 2 (.int .i64)) 4])]) (fr := []) (pt := []) (D := 2) (all_cons cL347_347_4 (all_cons cL347_347_1 all_nil)) (by kernel_rfl) (by kernel_rfl) (by kernel_rfl) (by kernel_rfl) (hfr := all_nil) fun x r h => by
    obtain ⟨⟨x0, x1, x2, ⟨⟩⟩, y0, y1, y2, ⟨⟩⟩ := x
    refine Eq.trans ?_ h
    kernel_rfl

def Γ361 : TEnv := { Γ0 with procs := [((1013, 47), ([(0, 0), (1, 1), (2, 2)], [(0, 0), (1402, 3), (1403, 4)]))] }
theorem hΓ361 : Γ361.ok Try.prog = true := hΓ0

noncomputable def O361 : Orc := mkOrc [] [] [] [([61, 61], [.adoptCell 0 0 (.arr 4 (.int .u64)) 3, .adoptCell 0 1 (.arr 2 (.int .i64)) 4])] [] [(47, procOf [.ptr 0 0, .kd (.slice (.int .i64)), .kd (.slice (.int .i64))] [.box [.ref 1, .ref 2], .row (.arr 4 (.int .u64)), .row (.arr 2 (.int .i64))] (.tup []) [.box [.ref 3, .ref 4], .row (.arr 4 (.int .u64)), .row (.arr 2 (.int .i64))] p347)]

/-- (*emendate/emendateref09.builder).concat -/
noncomputable def p361 : ((Unit × ((Bool) × ((List (Int)) × ((List (Int)) × (Unit)))) × ((Bool) × ((List (Int)) × ((List (Int)) × (Unit)))) × Unit) × ((Unit × Unit × Unit) × (List (List (Int))) × (List (List (Int))) × Unit)) → Option (((Bool) × ((List (Int)) × ((List (Int)) × (Unit)))) × ((Unit × Unit × Unit) × (List (List (Int))) × (List (List (Int))) × Unit))
  | ((_, x1, x2, ()), (_, y1, y2, ())) =>
    (p347 (((), x1.2.2.1, x2.2.1, ()), (((), (), ()), y1, y2, ()))).bind fun c1 =>
    if x1.1 = true then
      if x1.1 = true then
        if decide (([] : List (Int)).length + x1.2.1.length ≤ lim) = true then
          if decide ((([] : List (Int)) ++ x1.2.1).length + x2.2.1.length ≤ lim) = true then
            if x2.1 = true then
              if decide (([] : List (Int)).length + x1.2.2.1.length ≤ lim) = true then
                if decide ((([] : List (Int)) ++ x1.2.2.1).length + x2.2.2.1.length ≤ lim) = true then
                  some ((x2.1, (((([] : List (Int)) ++ x1.2.1) ++ x2.2.1), (((([] : List (Int)) ++ x1.2.2.1) ++ x2.2.2.1), ()))), (((), (), ()), c1.2.2.1, c1.2.2.2.1, ()))
                else
                  none
              else
                none
            else
              some ((x2.1, (((([] : List (Int)) ++ x1.2.1) ++ x2.2.1), (x2.2.2.1, ()))), (((), (), ()), c1.2.2.1, c1.2.2.2.1, ()))
          else
            none
        else
          none
      else
        if x2.1 = true then
          if decide (([] : List (Int)).length + x1.2.2.1.length ≤ lim) = true then
            if decide ((([] : List (Int)) ++ x1.2.2.1).length + x2.2.2.1.length ≤ lim) = true then
              some ((x2.1, (x1.2.1, (((([] : List (Int)) ++ x1.2.2.1) ++ x2.2.2.1), ()))), (((), (), ()), c1.2.2.1, c1.2.2.2.1, ()))
            else
              none
          else
            none
        else
          some ((x2.1, (x1.2.1, (x2.2.2.1, ()))), (((), (), ()), c1.2.2.1, c1.2.2.2.1, ()))
    else
      if x1.1 = true then
        if decide (([] : List (Int)).length + x1.2.1.length ≤ lim) = true then
          if decide ((([] : List (Int)) ++ x1.2.1).length + x2.2.1.length ≤ lim) = true then
            if x2.1 = true then
              if decide (([] : List (Int)).length + x1.2.2.1.length ≤ lim) = true then
                if decide ((([] : List (Int)) ++ x1.2.2.1).length + x2.2.2.1.length ≤ lim) = true then
                  some ((false, (((([] : List (Int)) ++ x1.2.1) ++ x2.2.1), (((([] : List (Int)) ++ x1.2.2.1) ++ x2.2.2.1), ()))), (((), (), ()), c1.2.2.1, c1.2.2.2.1, ()))
                else
                  none
              else
                none
            else
              some ((false, (((([] : List (Int)) ++ x1.2.1) ++ x2.2.1), (x2.2.2.1, ()))), (((), (), ()), c1.2.2.1, c1.2.2.2.1, ()))
          else
            none
        else
          none
      else
        if x2.1 = true then
          if decide (([] : List (Int)).length + x1.2.2.1.length ≤ lim) = true then
            if decide ((([] : List (Int)) ++ x1.2.2.1).length + x2.2.2.1.length ≤ lim) = true then
              some ((false, (x1.2.1, (((([] : List (Int)) ++ x1.2.2.1) ++ x2.2.2.1), ()))), (((), (), ()), c1.2.2.1, c1.2.2.2.1, ()))
            else
              none
          else
            none
        else
          some ((false, (x1.2.1, (x2.2.2.1, ()))), (((), (), ()), c1.2.2.1, c1.2.2.2.1, ()))

theorem s361 : SoundProc Try.prog 61 [0, 1, 2] [0, 3, 4] (procPv (procOf [.ptr 0 0, .kd (.pair .bool (.pair (.slice (.int .i64)) (.pair (.slice (.int .i64)) .unit))), .kd (.pair .bool (.pair (.slice (.int .i64)) (.pair (.slice (.int .i64)) .unit)))] [.box [.ref 1, .ref 2], .row (.arr 4 (.int .u64)), .row (.arr 2 (.int .i64))] (.one (.pair .bool (.pair (.slice (.int .i64)) (.pair (.slice (.int .i64)) .unit)))) [.box [.ref 3, .ref 4], .row (.arr 4 (.int .u64)), .row (.arr 2 (.int .i64))] p361)) :=
  proc_pure hm0 hng0 hΓ361 (t := []) all_nil (ls := []) (cmds := []) (leaves := [([61, 61], [.adoptCell 0 0 (.arr 4 (.int .u64)) 3, .adoptCell 0 1 (.arr 2 (.int .i64)) 4])]) (fr := []) (pt := [(47, procOf [.ptr 0 0, .kd (.slice (.int .i64)), .kd (.slice (.int .i64))] [.box [.ref 1, .ref 2], .row (.arr 4 (.int .u64)), .row (.arr 2 (.int .i64))] (.tup []) [.box [.ref 3, .ref 4], .row (.arr 4 (.int .u64)), .row (.arr 2 (.int .i64))] p347)]) (D := 2) all_nil (by kernel_rfl) (by kernel_rfl) (by kernel_rfl) (by kernel_rfl) (hfr := all_nil) (hX := Special.procs (all_cons s347 all_nil) (fun _ _ h => by cases h) (fun _ _ h => by obtain ⟨⟨_, h⟩, _⟩ := h; cases h)) fun x r h => by
    obtain ⟨⟨x0, x1, x2, ⟨⟩⟩, y0, y1, y2, ⟨⟩⟩ := x
    refine Eq.trans ?_ h
    kernel_rfl

def Γ346 : TEnv := { Γ0 with imm := [1023, 1032], procs := [((1055, 46), ([(0, 0), (1400, 1), (1401, 2)], [(0, 0), (1402, 3), (1403, 4)])), ((1056, 61), ([(0, 0), (1402, 1), (1403, 2)], [(0, 0), (1404, 3), (1405, 4)])), ((1072, 46), ([(0, 0), (1400, 1), (1401, 2)], [(0, 0), (1402, 3), (1403, 4)])), ((1103, 46), ([(0, 0), (1, 1), (2, 2)], [(0, 0), (1402, 3), (1403, 4)])), ((1109, 47), ([(0, 0), (1402, 1), (1403, 2)], [(0, 0), (1404, 3), (1405, 4)]))] }
theorem hΓ346 : Γ346.ok Try.prog = true := hΓ0

noncomputable def L346_346_12 (E46 : ((Unit × (Rx) × Unit) × ((Unit × Unit × Unit) × (List (List (Int))) × (List (List (Int))) × Unit)) → Option (((Bool) × ((List (Int)) × ((List (Int)) × (Unit)))) × ((Unit × Unit × Unit) × (List (List (Int))) × (List (List (Int))) × Unit))) : Nat → ((Unit × Unit × Unit × Unit × (Int) × Unit) × ((Unit × Unit × Unit) × ((Int) × (Int) × (Int) × (Int) × (Int) × (List (Rx)) × Unit) × ((Bool) × (List (Int)) × (List (Int)) × Unit) × ((Bool) × (List (Int)) × (List (Int)) × Unit) × (List (List (Int))) × (List (List (Int))) × Unit)) → Option ((Unit × Unit × Unit) × ((Unit × Unit × Unit) × ((Bool) × (List (Int)) × (List (Int)) × Unit) × ((Bool) × (List (Int)) × (List (Int)) × Unit) × (List (List (Int))) × (List (List (Int))) × Unit))
  | 0, _ => none
  | n + 1, ((_, _, _, _, x6, ()), (_, y1003, y1004, y1005, y1400, y1401, ())) =>
    if (decide (x6 < (y1003.2.2.2.2.2.1.length : Int))) = true then
      if decide (0 ≤ x6 ∧ x6 < (y1003.2.2.2.2.2.1.length : Int)) = true then
        (E46 (((), (Rx.mk (y1003.2.2.2.2.2.1.getD x6.toNat (Rx.mk 0 [0, 0, 0, 0] [])).kind [((y1003.2.2.2.2.2.1.getD x6.toNat (Rx.mk 0 [0, 0, 0, 0] [])).set.getD 0 0), ((y1003.2.2.2.2.2.1.getD x6.toNat (Rx.mk 0 [0, 0, 0, 0] [])).set.getD 1 0), ((y1003.2.2.2.2.2.1.getD x6.toNat (Rx.mk 0 [0, 0, 0, 0] [])).set.getD 2 0), ((y1003.2.2.2.2.2.1.getD x6.toNat (Rx.mk 0 [0, 0, 0, 0] [])).set.getD 3 0)] (y1003.2.2.2.2.2.1.getD x6.toNat (Rx.mk 0 [0, 0, 0, 0] [])).kids), ()), (((), (), ()), y1400, y1401, ()))).bind fun c1 =>
        (p361 (((), (y1005.1, (y1005.2.1, (y1005.2.2.1, ()))), (c1.1.1, (c1.1.2.1, (c1.1.2.2.1, ()))), ()), (((), (), ()), c1.2.2.1, c1.2.2.2.1, ()))).bind fun c2 =>
        L346_346_12 E46 n (((), (), (), (), (IntKind.i64.wrap (x6 + (1 : Int))), ()), (((), (), ()), (y1003.1, y1003.2.1, y1003.2.2.1, y1003.2.2.2.1, y1003.2.2.2.2.1, y1003.2.2.2.2.2.1, ()), (y1004.1, y1004.2.1, y1004.2.2.1, ()), (c2.1.1, c2.1.2.1, c2.1.2.2.1, ()), c2.2.2.1, c2.2.2.2.1, ()))
      else
        none
    else
      some (((), (), ()), (((), (), ()), (y1004.1, y1004.2.1, y1004.2.2.1, ()), (y1005.1, y1005.2.1, y1005.2.2.1, ()), y1400, y1401, ()))

noncomputable def EL346_346_12 (E46 : ((Unit × (Rx) × Unit) × ((Unit × Unit × Unit) × (List (List (Int))) × (List (List (Int))) × Unit)) → Option (((Bool) × ((List (Int)) × ((List (Int)) × (Unit)))) × ((Unit × Unit × Unit) × (List (List (Int))) × (List (List (Int))) × Unit))) : LoopEnt := ⟨[46, 46], 12, ⟨[.keep [0, 3, 4, 5, 6] [0, 1, 2, 1003, 1004, 1005, 1404, 1405], .adoptCell 0 0 (.arr 4 (.int .u64)) 1400, .adoptCell 0 1 (.arr 2 (.int .i64)) 1401], [0, 3, 4, 5, 6], [0, 1003, 1004, 1005, 1400, 1401]⟩, [.ptr 0 0, .ptr 1003 0, .ptr 1004 0, .ptr 1005 0, .kd (.int .i64)], [.box [.ref 1400, .ref 1401], .box [.kd (.int .i64), .kd (.int .u64), .kd (.int .u64), .kd (.int .u64), .kd (.int .u64), .kd (.slice .rx)], .box [.kd .bool, .kd (.slice (.int .i64)), .kd (.slice (.int .i64))], .box [.kd .bool, .kd (.slice (.int .i64)), .kd (.slice (.int .i64))], .row (.arr 4 (.int .u64)), .row (.arr 2 (.int .i64))], [⟨(.exit 1), [4, 5], [.ptr 1004 0, .ptr 1005 0], [0, 1004, 1005, 1400, 1401], [.box [.ref 1400, .ref 1401], .box [.kd .bool, .kd (.slice (.int .i64)), .kd (.slice (.int .i64))], .box [.kd .bool, .kd (.slice (.int .i64)), .kd (.slice (.int .i64))], .row (.arr 4 (.int .u64)), .row (.arr 2 (.int .i64))]⟩], limit (L346_346_12 E46)⟩

noncomputable def L346_346_17 (E46 : ((Unit × (Rx) × Unit) × ((Unit × Unit × Unit) × (List (List (Int))) × (List (List (Int))) × Unit)) → Option (((Bool) × ((List (Int)) × ((List (Int)) × (Unit)))) × ((Unit × Unit × Unit) × (List (List (Int))) × (List (List (Int))) × Unit))) : Nat → ((Unit × Unit × Unit × Unit × (Int) × Unit) × ((Unit × Unit × Unit) × ((Int) × (Int) × (Int) × (Int) × (Int) × (List (Rx)) × Unit) × ((Bool) × (List (Int)) × (List (Int)) × Unit) × ((Bool) × Unit × Unit × Unit) × (List (Int)) × (List (Int)) × (List (List (Int))) × (List (List (Int))) × Unit)) → Option ((Unit × Unit × Unit) × ((Unit × Unit × Unit) × ((Bool) × (List (Int)) × (List (Int)) × Unit) × ((Bool) × Unit × Unit × Unit) × (List (Int)) × (List (Int)) × (List (List (Int))) × (List (List (Int))) × Unit))
  | 0, _ => none
  | n + 1, ((_, _, _, _, x7, ()), (_, y1003, y1004, y1005, y1306, y1307, y1400, y1401, ())) =>
    if (decide (x7 < (y1003.2.2.2.2.2.1.length : Int))) = true then
      if decide (0 ≤ x7 ∧ x7 < (y1003.2.2.2.2.2.1.length : Int)) = true then
        (E46 (((), (Rx.mk (y1003.2.2.2.2.2.1.getD x7.toNat (Rx.mk 0 [0, 0, 0, 0] [])).kind [((y1003.2.2.2.2.2.1.getD x7.toNat (Rx.mk 0 [0, 0, 0, 0] [])).set.getD 0 0), ((y1003.2.2.2.2.2.1.getD x7.toNat (Rx.mk 0 [0, 0, 0, 0] [])).set.getD 1 0), ((y1003.2.2.2.2.2.1.getD x7.toNat (Rx.mk 0 [0, 0, 0, 0] [])).set.getD 2 0), ((y1003.2.2.2.2.2.1.getD x7.toNat (Rx.mk 0 [0, 0, 0, 0] [])).set.getD 3 0)] (y1003.2.2.2.2.2.1.getD x7.toNat (Rx.mk 0 [0, 0, 0, 0] [])).kids), ()), (((), (), ()), y1400, y1401, ()))).bind fun c1 =>
        if y1005.1 = true then
          if decide (([] : List (Int)).length + y1306.length ≤ lim) = true then
            if decide ((([] : List (Int)) ++ y1306).length + c1.1.2.1.length ≤ lim) = true then
              if decide (([] : List (Int)).length + y1307.length ≤ lim) = true then
                if decide ((([] : List (Int)) ++ y1307).length + c1.1.2.2.1.length ≤ lim) = true then
                  L346_346_17 E46 n (((), (), (), (), (IntKind.i64.wrap (x7 + (1 : Int))), ()), (((), (), ()), (y1003.1, y1003.2.1, y1003.2.2.1, y1003.2.2.2.1, y1003.2.2.2.2.1, y1003.2.2.2.2.2.1, ()), (y1004.1, y1004.2.1, y1004.2.2.1, ()), (true, (), (), ()), ((([] : List (Int)) ++ y1306) ++ c1.1.2.1), ((([] : List (Int)) ++ y1307) ++ c1.1.2.2.1), c1.2.2.1, c1.2.2.2.1, ()))
                else
                  none
              else
                none
            else
              none
          else
            none
        else
          if decide (([] : List (Int)).length + y1306.length ≤ lim) = true then
            if decide ((([] : List (Int)) ++ y1306).length + c1.1.2.1.length ≤ lim) = true then
              if decide (([] : List (Int)).length + y1307.length ≤ lim) = true then
                if decide ((([] : List (Int)) ++ y1307).length + c1.1.2.2.1.length ≤ lim) = true then
                  L346_346_17 E46 n (((), (), (), (), (IntKind.i64.wrap (x7 + (1 : Int))), ()), (((), (), ()), (y1003.1, y1003.2.1, y1003.2.2.1, y1003.2.2.2.1, y1003.2.2.2.2.1, y1003.2.2.2.2.2.1, ()), (y1004.1, y1004.2.1, y1004.2.2.1, ()), (c1.1.1, (), (), ()), ((([] : List (Int)) ++ y1306) ++ c1.1.2.1), ((([] : List (Int)) ++ y1307) ++ c1.1.2.2.1), c1.2.2.1, c1.2.2.2.1, ()))
                else
                  none
              else
                none
            else
              none
          else
            none
      else
        none
    else
      some (((), (), ()), (((), (), ()), (y1004.1, y1004.2.1, y1004.2.2.1, ()), (y1005.1, (), (), ()), y1306, y1307, y1400, y1401, ()))

noncomputable def EL346_346_17 (E46 : ((Unit × (Rx) × Unit) × ((Unit × Unit × Unit) × (List (List (Int))) × (List (List (Int))) × Unit)) → Option (((Bool) × ((List (Int)) × ((List (Int)) × (Unit)))) × ((Unit × Unit × Unit) × (List (List (Int))) × (List (List (Int))) × Unit))) : LoopEnt := ⟨[46, 46], 17, ⟨[.keep [0, 3, 4, 5, 7] [0, 1, 2, 1003, 1004, 1005, 1086, 1094, 1402, 1403], .adoptCell 0 0 (.arr 4 (.int .u64)) 1400, .adoptCell 0 1 (.arr 2 (.int .i64)) 1401, .adoptCell 1005 1 (.int .i64) 1306, .adoptCell 1005 2 (.int .i64) 1307], [0, 3, 4, 5, 7], [0, 1003, 1004, 1005, 1306, 1307, 1400, 1401]⟩, [.ptr 0 0, .ptr 1003 0, .ptr 1004 0, .ptr 1005 0, .kd (.int .i64)], [.box [.ref 1400, .ref 1401], .box [.kd (.int .i64), .kd (.int .u64), .kd (.int .u64), .kd (.int .u64), .kd (.int .u64), .kd (.slice .rx)], .box [.kd .bool, .kd (.slice (.int .i64)), .kd (.slice (.int .i64))], .box [.kd .bool, .ref 1306, .ref 1307], .row (.int .i64), .row (.int .i64), .row (.arr 4 (.int .u64)), .row (.arr 2 (.int .i64))], [⟨(.exit 3), [4, 5], [.ptr 1004 0, .ptr 1005 0], [0, 1004, 1005, 1306, 1307, 1400, 1401], [.box [.ref 1400, .ref 1401], .box [.kd .bool, .kd (.slice (.int .i64)), .kd (.slice (.int .i64))], .box [.kd .bool, .ref 1306, .ref 1307], .row (.int .i64), .row (.int .i64), .row (.arr 4 (.int .u64)), .row (.arr 2 (.int .i64))]⟩], limit (L346_346_17 E46)⟩

noncomputable def O346 (E46 : ((Unit × (Rx) × Unit) × ((Unit × Unit × Unit) × (List (List (Int))) × (List (List (Int))) × Unit)) → Option (((Bool) × ((List (Int)) × ((List (Int)) × (Unit)))) × ((Unit × Unit × Unit) × (List (List (Int))) × (List (List (Int))) × Unit))) : Orc := mkOrc [] [(EL346_346_12 E46), (EL346_346_17 E46)] [] [([46, 46], [.adoptCell 0 0 (.arr 4 (.int .u64)) 3, .adoptCell 0 1 (.arr 2 (.int .i64)) 4])] [] [(46, procOf [.ptr 0 0, .kd .rx] [.box [.ref 1, .ref 2], .row (.arr 4 (.int .u64)), .row (.arr 2 (.int .i64))] (.one (.pair .bool (.pair (.slice (.int .i64)) (.pair (.slice (.int .i64)) .unit)))) [.box [.ref 3, .ref 4], .row (.arr 4 (.int .u64)), .row (.arr 2 (.int .i64))] E46), (61, procOf [.ptr 0 0, .kd (.pair .bool (.pair (.slice (.int .i64)) (.pair (.slice (.int .i64)) .unit))), .kd (.pair .bool (.pair (.slice (.int .i64)) (.pair (.slice (.int .i64)) .unit)))] [.box [.ref 1, .ref 2], .row (.arr 4 (.int .u64)), .row (.arr 2 (.int .i64))] (.one (.pair .bool (.pair (.slice (.int .i64)) (.pair (.slice (.int .i64)) .unit)))) [.box [.ref 3, .ref 4], .row (.arr 4 (.int .u64)), .row (.arr 2 (.int .i64))] p361), (47, procOf [.ptr 0 0, .kd (.slice (.int .i64)), .kd (.slice (.int .i64))] [.box [.ref 1, .ref 2], .row (.arr 4 (.int .u64)), .row (.arr 2 (.int .i64))] (.tup []) [.box [.ref 3, .ref 4], .row (.arr 4 (.int .u64)), .row (.arr 2 (.int .i64))] p347)]

theorem cL346_346_12 (E46 : ((Unit × (Rx) × Unit) × ((Unit × Unit × Unit) × (List (List (Int))) × (List (List (Int))) × Unit)) → Option (((Bool) × ((List (Int)) × ((List (Int)) × (Unit)))) × ((Unit × Unit × Unit) × (List (List (Int))) × (List (List (Int))) × Unit))) : LoopCert Try.prog (O346 E46) Γ346 2 (EL346_346_12 E46) :=
  ⟨⟨46, 0, (L346_346_12 E46), rfl, by kernel_rfl, Nat.le_of_ble_eq_true (by kernel_rfl), limit_fn, fun _ => rfl, fun m old x r h => by
    obtain ⟨⟨x0, x3, x4, x5, x6, ⟨⟩⟩, y0, y1003, y1004, y1005, y1400, y1401, ⟨⟩⟩ := x
    refine Eq.trans ?_ h
    kernel_rfl⟩⟩

theorem cL346_346_17 (E46 : ((Unit × (Rx) × Unit) × ((Unit × Unit × Unit) × (List (List (Int))) × (List (List (Int))) × Unit)) → Option (((Bool) × ((List (Int)) × ((List (Int)) × (Unit)))) × ((Unit × Unit × Unit) × (List (List (Int))) × (List (List (Int))) × Unit))) : LoopCert Try.prog (O346 E46) Γ346 2 (EL346_346_17 E46) :=
  ⟨⟨46, 1, (L346_346_17 E46), rfl, by kernel_rfl, Nat.le_of_ble_eq_true (by kernel_rfl), limit_fn, fun _ => rfl, fun m old x r h => by
    obtain ⟨⟨x0, x3, x4, x5, x7, ⟨⟩⟩, y0, y1003, y1004, y1005, y1306, y1307, y1400, y1401, ⟨⟩⟩ := x
    refine Eq.trans ?_ h
    kernel_rfl⟩⟩

/-- (*emendate/emendateref09.builder).build -/
noncomputable def p346b (E46 : ((Unit × (Rx) × Unit) × ((Unit × Unit × Unit) × (List (List (Int))) × (List (List (Int))) × Unit)) → Option (((Bool) × ((List (Int)) × ((List (Int)) × (Unit)))) × ((Unit × Unit × Unit) × (List (List (Int))) × (List (List (Int))) × Unit))) : ((Unit × (Rx) × Unit) × ((Unit × Unit × Unit) × (List (List (Int))) × (List (List (Int))) × Unit)) → Option (((Bool) × ((List (Int)) × ((List (Int)) × (Unit)))) × ((Unit × Unit × Unit) × (List (List (Int))) × (List (List (Int))) × Unit))
  | ((_, x1, ()), (_, y1, y2, ())) =>
    if (decide (x1.kind = (2 : Int))) = true then
      some ((true, (([] : List (Int)), (([] : List (Int)), ()))), (((), (), ()), y1, y2, ()))
    else
      if (decide (x1.kind = (3 : Int))) = true then
        if decide (y1.length + ([[(x1.set.getD 0 0), (x1.set.getD 1 0), (x1.set.getD 2 0), (x1.set.getD 3 0)]] : List (List (Int))).length ≤ lim) = true then
          some ((false, (([((y1 ++ ([[(x1.set.getD 0 0), (x1.set.getD 1 0), (x1.set.getD 2 0), (x1.set.getD 3 0)]] : List (List (Int)))).length : Int)] : List (Int)), (([((y1 ++ ([[(x1.set.getD 0 0), (x1.set.getD 1 0), (x1.set.getD 2 0), (x1.set.getD 3 0)]] : List (List (Int)))).length : Int)] : List (Int)), ()))), (((), (), ()), (y1 ++ ([[(x1.set.getD 0 0), (x1.set.getD 1 0), (x1.set.getD 2 0), (x1.set.getD 3 0)]] : List (List (Int)))), y2, ()))
        else
          none
      else
        if (decide (x1.kind = (4 : Int))) = true then
          (limit (L346_346_12 E46) (((), (), (), (), (0 : Int), ()), (((), (), ()), (x1.kind, (x1.set.getD 0 0), (x1.set.getD 1 0), (x1.set.getD 2 0), (x1.set.getD 3 0), x1.kids, ()), (false, ([] : List (Int)), ([] : List (Int)), ()), (true, ([] : List (Int)), ([] : List (Int)), ()), y1, y2, ()))).bind fun r1 =>
          some ((r1.2.2.2.1.1, (r1.2.2.2.1.2.1, (r1.2.2.2.1.2.2.1, ()))), (((), (), ()), r1.2.2.2.2.1, r1.2.2.2.2.2.1, ()))
        else
          if (decide (x1.kind = (5 : Int))) = true then
            (limit (L346_346_17 E46) (((), (), (), (), (0 : Int), ()), (((), (), ()), (x1.kind, (x1.set.getD 0 0), (x1.set.getD 1 0), (x1.set.getD 2 0), (x1.set.getD 3 0), x1.kids, ()), (false, ([] : List (Int)), ([] : List (Int)), ()), (false, (), (), ()), ([] : List (Int)), ([] : List (Int)), y1, y2, ()))).bind fun r2 =>
            some ((r2.2.2.2.1.1, (r2.2.2.2.2.1, (r2.2.2.2.2.2.1, ()))), (((), (), ()), r2.2.2.2.2.2.2.1, r2.2.2.2.2.2.2.2.1, ()))
          else
            if (decide (x1.kind = (6 : Int))) = true then
              if decide (0 ≤ (0 : Int) ∧ (0 : Int) < (x1.kids.length : Int)) = true then
                (E46 (((), (Rx.mk (x1.kids.getD (0 : Int).toNat (Rx.mk 0 [0, 0, 0, 0] [])).kind [((x1.kids.getD (0 : Int).toNat (Rx.mk 0 [0, 0, 0, 0] [])).set.getD 0 0), ((x1.kids.getD (0 : Int).toNat (Rx.mk 0 [0, 0, 0, 0] [])).set.getD 1 0), ((x1.kids.getD (0 : Int).toNat (Rx.mk 0 [0, 0, 0, 0] [])).set.getD 2 0), ((x1.kids.getD (0 : Int).toNat (Rx.mk 0 [0, 0, 0, 0] [])).set.getD 3 0)] (x1.kids.getD (0 : Int).toNat (Rx.mk 0 [0, 0, 0, 0] [])).kids), ()), (((), (), ()), y1, y2, ()))).bind fun c3 =>
                (p347 (((), c3.1.2.2.1, c3.1.2.1, ()), (((), (), ()), c3.2.2.1, c3.2.2.2.1, ()))).bind fun c4 =>
                some ((true, (c3.1.2.1, (c3.1.2.2.1, ()))), (((), (), ()), c4.2.2.1, c4.2.2.2.1, ()))
              else
                none
            else
              some ((false, (([] : List (Int)), (([] : List (Int)), ()))), (((), (), ()), y1, y2, ()))

theorem s346b (E46 : ((Unit × (Rx) × Unit) × ((Unit × Unit × Unit) × (List (List (Int))) × (List (List (Int))) × Unit)) → Option (((Bool) × ((List (Int)) × ((List (Int)) × (Unit)))) × ((Unit × Unit × Unit) × (List (List (Int))) × (List (List (Int))) × Unit))) (hE46 : SoundProc Try.prog 46 [0, 1, 2] [0, 3, 4] (procPv (procOf [.ptr 0 0, .kd .rx] [.box [.ref 1, .ref 2], .row (.arr 4 (.int .u64)), .row (.arr 2 (.int .i64))] (.one (.pair .bool (.pair (.slice (.int .i64)) (.pair (.slice (.int .i64)) .unit)))) [.box [.ref 3, .ref 4], .row (.arr 4 (.int .u64)), .row (.arr 2 (.int .i64))] E46))) : SoundProc Try.prog 46 [0, 1, 2] [0, 3, 4] (procPv (procOf [.ptr 0 0, .kd .rx] [.box [.ref 1, .ref 2], .row (.arr 4 (.int .u64)), .row (.arr 2 (.int .i64))] (.one (.pair .bool (.pair (.slice (.int .i64)) (.pair (.slice (.int .i64)) .unit)))) [.box [.ref 3, .ref 4], .row (.arr 4 (.int .u64)), .row (.arr 2 (.int .i64))] (p346b E46))) :=
  proc_pure hm0 hng0 hΓ346 (t := []) all_nil (ls := [(EL346_346_12 E46), (EL346_346_17 E46)]) (cmds := []) (leaves := [([46, 46], [.adoptCell 0 0 (.arr 4 (.int .u64)) 3, .adoptCell 0 1 (.arr 2 (.int .i64)) 4])]) (fr := []) (pt := [(46, procOf [.ptr 0 0, .kd .rx] [.box [.ref 1, .ref 2], .row (.arr 4 (.int .u64)), .row (.arr 2 (.int .i64))] (.one (.pair .bool (.pair (.slice (.int .i64)) (.pair (.slice (.int .i64)) .unit)))) [.box [.ref 3, .ref 4], .row (.arr 4 (.int .u64)), .row (.arr 2 (.int .i64))] E46), (61, procOf [.ptr 0 0, .kd (.pair .bool (.pair (.slice (.int .i64)) (.pair (.slice (.int .i64)) .unit))), .kd (.pair .bool (.pair (.slice (.int .i64)) (.pair (.slice (.int .i64)) .unit)))] [.box [.ref 1, .ref 2], .row (.arr 4 (.int .u64)), .row (.arr 2 (.int .i64))] (.one (.pair .bool (.pair (.slice (.int .i64)) (.pair (.slice (.int .i64)) .unit)))) [.box [.ref 3, .ref 4], .row (.arr 4 (.int .u64)), .row (.arr 2 (.int .i64))] p361), (47, procOf [.ptr 0 0, .kd (.slice (.int .i64)), .kd (.slice (.int .i64))] [.box [.ref 1, .ref 2], .row (.arr 4 (.int .u64)), .row (.arr 2 (.int .i64))] (.tup []) [.box [.ref 3, .ref 4], .row (.arr 4 (.int .u64)), .row (.arr 2 (.int .i64))] p347)]) (D := 2) (all_cons (cL346_346_12 E46) (all_cons (cL346_346_17 E46) all_nil)) (by kernel_rfl) (by kernel_rfl) (by kernel_rfl) (by kernel_rfl) (hfr := all_nil) (hX := Special.procs (all_cons hE46 (all_cons s361 (all_cons hE46 (all_cons hE46 (all_cons s347 all_nil))))) (fun _ _ h => by cases h) (fun _ _ h => by obtain ⟨⟨_, h⟩, _⟩ := h; cases h)) fun x r h => by
    obtain ⟨⟨x0, x1, ⟨⟩⟩, y0, y1, y2, ⟨⟩⟩ := x
    refine Eq.trans ?_ h
    kernel_rfl

noncomputable def p346n : Nat → ((Unit × (Rx) × Unit) × ((Unit × Unit × Unit) × (List (List (Int))) × (List (List (Int))) × Unit)) → Option (((Bool) × ((List (Int)) × ((List (Int)) × (Unit)))) × ((Unit × Unit × Unit) × (List (List (Int))) × (List (List (Int))) × Unit))
  | 0, _ => none
  | n + 1, x => p346b (p346n n) x

theorem s346n : ∀ n, SoundProc Try.prog 46 [0, 1, 2] [0, 3, 4] (procPv (procOf [.ptr 0 0, .kd .rx] [.box [.ref 1, .ref 2], .row (.arr 4 (.int .u64)), .row (.arr 2 (.int .i64))] (.one (.pair .bool (.pair (.slice (.int .i64)) (.pair (.slice (.int .i64)) .unit)))) [.box [.ref 3, .ref 4], .row (.arr 4 (.int .u64)), .row (.arr 2 (.int .i64))] (p346n n))) :=
  proc_rec hng0 (by kernel_rfl) (fun _ => rfl) fun n h => s346b (p346n n) h

noncomputable def p346 : ((Unit × (Rx) × Unit) × ((Unit × Unit × Unit) × (List (List (Int))) × (List (List (Int))) × Unit)) → Option (((Bool) × ((List (Int)) × ((List (Int)) × (Unit)))) × ((Unit × Unit × Unit) × (List (List (Int))) × (List (List (Int))) × Unit)) := limit p346n

theorem s346 : SoundProc Try.prog 46 [0, 1, 2] [0, 3, 4] (procPv (procOf [.ptr 0 0, .kd .rx] [.box [.ref 1, .ref 2], .row (.arr 4 (.int .u64)), .row (.arr 2 (.int .i64))] (.one (.pair .bool (.pair (.slice (.int .i64)) (.pair (.slice (.int .i64)) .unit)))) [.box [.ref 3, .ref 4], .row (.arr 4 (.int .u64)), .row (.arr 2 (.int .i64))] p346)) := s346n fuel

def Γ325 : TEnv := { Γ0 with imm := [37, 50, 146], procs := [((35, 46), ([(22, 0), (422, 1), (423, 2)], [(22, 0), (424, 3), (425, 4)])), ((40, 47), ([(22, 0), (424, 1), (425, 2)], [(22, 0), (426, 3), (427, 4)]))] }
theorem hΓ325 : Γ325.ok Try.prog = true := hΓ0

noncomputable def L325_11 : Nat → (((List (Rx)) × Unit × Unit × Unit × (Int) × Unit × Unit) × (((Int) × (Int) × (List ((Int) × ((Int) × ((Bool) × ((List (Int)) × (Unit)))))) × (List (Int)) × Unit) × (List (Int)) × ((Bool) × (List (Int)) × (List (Int)) × Unit) × (Unit × Unit × Unit) × (List (List (Int))) × (List (List (Int))) × Unit)) → Option (((List (Rx)) × Unit × Unit × Unit × (Int) × Unit × Unit) × (((Int) × (Int) × (List ((Int) × ((Int) × ((Bool) × ((List (Int)) × (Unit)))))) × (List (Int)) × Unit) × (List (Int)) × ((Bool) × (List (Int)) × (List (Int)) × Unit) × (Unit × Unit × Unit) × (List (List (Int))) × (List (List (Int))) × Unit))
  | 0, _ => none
  | n + 1, ((x0, _, _, _, x7, _, ()), (y2, y6, y8, _, y426, y427, ())) =>
    if (decide ((y6.length : Int) ≤ (y426.length : Int))) = true then
      if decide (y6.length + ([(-1 : Int)] : List (Int)).length ≤ lim) = true then
        L325_11 n ((x0, (), (), (), x7, (), ()), ((y2.1, y2.2.1, y2.2.2.1, y2.2.2.2.1, ()), (y6 ++ ([(-1 : Int)] : List (Int))), (y8.1, y8.2.1, y8.2.2.1, ()), ((), (), ()), y426, y427, ()))
      else
        none
    else
      some ((x0, (), (), (), x7, (), ()), ((y2.1, y2.2.1, y2.2.2.1, y2.2.2.2.1, ()), y6, (y8.1, y8.2.1, y8.2.2.1, ()), ((), (), ()), y426, y427, ()))

noncomputable def EL325_11 : LoopEnt := ⟨[25], 11, ⟨[.keep [0, 2, 5, 6, 7, 8] [2, 6, 8, 22, 51, 426, 427], .adopt 6 (.int .i64) 6], [0, 2, 5, 6, 7, 8], [2, 6, 8, 22, 426, 427]⟩, [.kd (.slice .rx), .ptr 2 0, .ptr 22 0, .ref 6, .kd (.int .i64), .ptr 8 0], [.box [.kd (.int .i64), .kd (.int .i64), .kd (.slice (.pair (.int .i64) (.pair (.int .i64) (.pair .bool (.pair (.arr 4 (.int .u64)) .unit))))), .kd (.slice (.int .i64))], .row (.int .i64), .box [.kd .bool, .kd (.slice (.int .i64)), .kd (.slice (.int .i64))], .box [.ref 426, .ref 427], .row (.arr 4 (.int .u64)), .row (.arr 2 (.int .i64))], [⟨(.exit 2), [0, 2, 5, 6, 7, 8], [.kd (.slice .rx), .ptr 2 0, .ptr 22 0, .ref 6, .kd (.int .i64), .ptr 8 0], [2, 6, 8, 22, 426, 427], [.box [.kd (.int .i64), .kd (.int .i64), .kd (.slice (.pair (.int .i64) (.pair (.int .i64) (.pair .bool (.pair (.arr 4 (.int .u64)) .unit))))), .kd (.slice (.int .i64))], .row (.int .i64), .box [.kd .bool, .kd (.slice (.int .i64)), .kd (.slice (.int .i64))], .box [.ref 426, .ref 427], .row (.arr 4 (.int .u64)), .row (.arr 2 (.int .i64))]⟩], limit L325_11⟩

noncomputable def L325_14 : Nat → (((List (Rx)) × Unit × Unit × Unit × (Int) × Unit × (Int) × Unit) × (((Int) × (Int) × (List ((Int) × ((Int) × ((Bool) × ((List (Int)) × (Unit)))))) × (List (Int)) × Unit) × (List (Int)) × ((Bool) × (List (Int)) × (List (Int)) × Unit) × (Unit × Unit × Unit) × (List (List (Int))) × (List (List (Int))) × Unit)) → Option (((List (Rx)) × Unit × Unit × Unit × (Int) × Unit × Unit) × (((Int) × (Int) × (List ((Int) × ((Int) × ((Bool) × ((List (Int)) × (Unit)))))) × (List (Int)) × Unit) × (List (Int)) × ((Bool) × (List (Int)) × (List (Int)) × Unit) × (Unit × Unit × Unit) × (List (List (Int))) × (List (List (Int))) × Unit))
  | 0, _ => none
  | n + 1, ((x0, _, _, _, x7, _, x9, ()), (y2, y6, y8, _, y426, y427, ())) =>
    if (decide (x9 < (y8.2.2.1.length : Int))) = true then
      if decide (0 ≤ x9 ∧ x9 < (y8.2.2.1.length : Int)) = true then
        if decide (0 ≤ (y8.2.2.1.getD x9.toNat 0) ∧ (y8.2.2.1.getD x9.toNat 0) < (y6.length : Int)) = true then
          L325_14 n ((x0, (), (), (), x7, (), (IntKind.i64.wrap (x9 + (1 : Int))), ()), ((y2.1, y2.2.1, y2.2.2.1, y2.2.2.2.1, ()), (y6.set (y8.2.2.1.getD x9.toNat 0).toNat x7), (y8.1, y8.2.1, y8.2.2.1, ()), ((), (), ()), y426, y427, ()))
        else
          none
      else
        none
    else
      some ((x0, (), (), (), x7, (), ()), ((y2.1, y2.2.1, y2.2.2.1, y2.2.2.2.1, ()), y6, (y8.1, y8.2.1, y8.2.2.1, ()), ((), (), ()), y426, y427, ()))

noncomputable def EL325_14 : LoopEnt := ⟨[25], 14, ⟨[], [0, 2, 5, 6, 7, 8, 9], [2, 6, 8, 22, 426, 427]⟩, [.kd (.slice .rx), .ptr 2 0, .ptr 22 0, .ref 6, .kd (.int .i64), .ptr 8 0, .kd (.int .i64)], [.box [.kd (.int .i64), .kd (.int .i64), .kd (.slice (.pair (.int .i64) (.pair (.int .i64) (.pair .bool (.pair (.arr 4 (.int .u64)) .unit))))), .kd (.slice (.int .i64))], .row (.int .i64), .box [.kd .bool, .kd (.slice (.int .i64)), .kd (.slice (.int .i64))], .box [.ref 426, .ref 427], .row (.arr 4 (.int .u64)), .row (.arr 2 (.int .i64))], [⟨(.exit 4), [0, 2, 5, 6, 7, 8], [.kd (.slice .rx), .ptr 2 0, .ptr 22 0, .ref 6, .kd (.int .i64), .ptr 8 0], [2, 6, 8, 22, 426, 427], [.box [.kd (.int .i64), .kd (.int .i64), .kd (.slice (.pair (.int .i64) (.pair (.int .i64) (.pair .bool (.pair (.arr 4 (.int .u64)) .unit))))), .kd (.slice (.int .i64))], .row (.int .i64), .box [.kd .bool, .kd (.slice (.int .i64)), .kd (.slice (.int .i64))], .box [.ref 426, .ref 427], .row (.arr 4 (.int .u64)), .row (.arr 2 (.int .i64))]⟩], limit L325_14⟩

noncomputable def L325_7 : Nat → (((List (Rx)) × Unit × Unit × Unit × (Int) × Unit) × (((Int) × (Int) × (List ((Int) × ((Int) × ((Bool) × ((List (Int)) × (Unit)))))) × (List (Int)) × Unit) × (List (Int)) × (Unit × Unit × Unit) × (List (List (Int))) × (List (List (Int))) × Unit)) → Option ((Unit × Unit × Unit × Unit) × (((Int) × (Int) × (List ((Int) × ((Int) × ((Bool) × ((List (Int)) × (Unit)))))) × (List (Int)) × Unit) × (List (Int)) × (Unit × Unit × Unit) × (List (List (Int))) × (List (List (Int))) × Unit))
  | 0, _ => none
  | n + 1, ((x0, _, _, _, x7, ()), (y2, y6, _, y422, y423, ())) =>
    if (decide (x7 < (x0.length : Int))) = true then
      if decide (0 ≤ x7 ∧ x7 < (x0.length : Int)) = true then
        (p346 (((), (Rx.mk (x0.getD x7.toNat (Rx.mk 0 [0, 0, 0, 0] [])).kind [((x0.getD x7.toNat (Rx.mk 0 [0, 0, 0, 0] [])).set.getD 0 0), ((x0.getD x7.toNat (Rx.mk 0 [0, 0, 0, 0] [])).set.getD 1 0), ((x0.getD x7.toNat (Rx.mk 0 [0, 0, 0, 0] [])).set.getD 2 0), ((x0.getD x7.toNat (Rx.mk 0 [0, 0, 0, 0] [])).set.getD 3 0)] (x0.getD x7.toNat (Rx.mk 0 [0, 0, 0, 0] [])).kids), ()), (((), (), ()), y422, y423, ()))).bind fun c1 =>
        (p347 (((), ([(0 : Int)] : List (Int)), c1.1.2.1, ()), (((), (), ()), c1.2.2.1, c1.2.2.2.1, ()))).bind fun c2 =>
        (limit L325_11 ((x0, (), (), (), x7, (), ()), ((y2.1, y2.2.1, y2.2.2.1, y2.2.2.2.1, ()), y6, (c1.1.1, c1.1.2.1, c1.1.2.2.1, ()), ((), (), ()), c2.2.2.1, c2.2.2.2.1, ()))).bind fun r3 =>
        (limit L325_14 ((r3.1.1, (), (), (), r3.1.2.2.2.2.1, (), (0 : Int), ()), ((r3.2.1.1, r3.2.1.2.1, r3.2.1.2.2.1, r3.2.1.2.2.2.1, ()), r3.2.2.1, (r3.2.2.2.1.1, r3.2.2.2.1.2.1, r3.2.2.2.1.2.2.1, ()), ((), (), ()), r3.2.2.2.2.2.1, r3.2.2.2.2.2.2.1, ()))).bind fun r4 =>
        if r4.2.2.2.1.1 = true then
          if decide (0 ≤ (0 : Int) ∧ (0 : Int) < (r4.2.2.1.length : Int)) = true then
            if (decide ((r4.2.2.1.getD (0 : Int).toNat 0) < (0 : Int))) = true then
              if decide (0 ≤ (0 : Int) ∧ (0 : Int) < (r4.2.2.1.length : Int)) = true then
                L325_7 n ((r4.1.1, (), (), (), (IntKind.i64.wrap (r4.1.2.2.2.2.1 + (1 : Int))), ()), ((r4.2.1.1, r4.2.1.2.1, r4.2.1.2.2.1, r4.2.1.2.2.2.1, ()), (r4.2.2.1.set (0 : Int).toNat r4.1.2.2.2.2.1), ((), (), ()), r4.2.2.2.2.2.1, r4.2.2.2.2.2.2.1, ()))
              else
                none
            else
              L325_7 n ((r4.1.1, (), (), (), (IntKind.i64.wrap (r4.1.2.2.2.2.1 + (1 : Int))), ()), ((r4.2.1.1, r4.2.1.2.1, r4.2.1.2.2.1, r4.2.1.2.2.2.1, ()), r4.2.2.1, ((), (), ()), r4.2.2.2.2.2.1, r4.2.2.2.2.2.2.1, ()))
          else
            none
        else
          L325_7 n ((r4.1.1, (), (), (), (IntKind.i64.wrap (r4.1.2.2.2.2.1 + (1 : Int))), ()), ((r4.2.1.1, r4.2.1.2.1, r4.2.1.2.2.1, r4.2.1.2.2.2.1, ()), r4.2.2.1, ((), (), ()), r4.2.2.2.2.2.1, r4.2.2.2.2.2.2.1, ()))
      else
        none
    else
      some (((), (), (), ()), ((y2.1, y2.2.1, y2.2.2.1, y2.2.2.2.1, ()), y6, ((), (), ()), y422, y423, ()))

noncomputable def EL325_7 : LoopEnt := ⟨[25], 7, ⟨[.keep [0, 2, 5, 6, 7] [2, 6, 22, 23, 426, 427], .adoptCell 22 0 (.arr 4 (.int .u64)) 422, .adoptCell 22 1 (.arr 2 (.int .i64)) 423, .adopt 6 (.int .i64) 6], [0, 2, 5, 6, 7], [2, 6, 22, 422, 423]⟩, [.kd (.slice .rx), .ptr 2 0, .ptr 22 0, .ref 6, .kd (.int .i64)], [.box [.kd (.int .i64), .kd (.int .i64), .kd (.slice (.pair (.int .i64) (.pair (.int .i64) (.pair .bool (.pair (.arr 4 (.int .u64)) .unit))))), .kd (.slice (.int .i64))], .row (.int .i64), .box [.ref 422, .ref 423], .row (.arr 4 (.int .u64)), .row (.arr 2 (.int .i64))], [⟨(.exit 0), [2, 5, 6], [.ptr 2 0, .ptr 22 0, .ref 6], [2, 6, 22, 422, 423], [.box [.kd (.int .i64), .kd (.int .i64), .kd (.slice (.pair (.int .i64) (.pair (.int .i64) (.pair .bool (.pair (.arr 4 (.int .u64)) .unit))))), .kd (.slice (.int .i64))], .row (.int .i64), .box [.ref 422, .ref 423], .row (.arr 4 (.int .u64)), .row (.arr 2 (.int .i64))]⟩], limit L325_7⟩

noncomputable def L325_22 : Nat → ((Unit × Unit × Unit × (Int) × Unit × (Int) × Unit) × (((Int) × (Int) × (List ((Int) × ((Int) × ((Bool) × ((List (Int)) × (Unit)))))) × (List (Int)) × Unit) × (List (Int)) × (Unit × Unit × Unit) × (List (Bool)) × (List (List (Int))) × (List (List (Int))) × Unit)) → Option ((Unit × Unit × Unit × (Int) × Unit × Unit) × (((Int) × (Int) × (List ((Int) × ((Int) × ((Bool) × ((List (Int)) × (Unit)))))) × (List (Int)) × Unit) × (List (Int)) × (Unit × Unit × Unit) × (List (Bool)) × (List (List (Int))) × (List (List (Int))) × Unit))
  | 0, _ => none
  | n + 1, ((_, _, _, x10, _, x12, ()), (y2, y6, _, y83, y422, y423, ())) =>
    if (decide (x12 < (y423.length : Int))) = true then
      if decide (0 ≤ x12 ∧ x12 < (y423.length : Int)) = true then
        if decide (0 ≤ (0 : Int) ∧ (0 : Int) < (2 : Int)) = true then
          if decide (0 ≤ x12 ∧ x12 < (y423.length : Int)) = true then
            if decide (0 ≤ (1 : Int) ∧ (1 : Int) < (2 : Int)) = true then
              if decide (0 ≤ (IntKind.i64.wrap ((IntKind.i64.wrap (((y423.getD x12.toNat (List.replicate 2 0)).getD 0 0) * x10)) + ((y423.getD x12.toNat (List.replicate 2 0)).getD 1 0))) ∧ (IntKind.i64.wrap ((IntKind.i64.wrap (((y423.getD x12.toNat (List.replicate 2 0)).getD 0 0) * x10)) + ((y423.getD x12.toNat (List.replicate 2 0)).getD 1 0))) < (y83.length : Int)) = true then
                L325_22 n (((), (), (), x10, (), (IntKind.i64.wrap (x12 + (1 : Int))), ()), ((y2.1, y2.2.1, y2.2.2.1, y2.2.2.2.1, ()), y6, ((), (), ()), (y83.set (IntKind.i64.wrap ((IntKind.i64.wrap (((y423.getD x12.toNat (List.replicate 2 0)).getD 0 0) * x10)) + ((y423.getD x12.toNat (List.replicate 2 0)).getD 1 0))).toNat true), y422, y423, ()))
              else
                none
            else
              none
          else
            none
        else
          none
      else
        none
    else
      some (((), (), (), x10, (), ()), ((y2.1, y2.2.1, y2.2.2.1, y2.2.2.2.1, ()), y6, ((), (), ()), y83, y422, y423, ()))

noncomputable def EL325_22 : LoopEnt := ⟨[25], 22, ⟨[], [2, 5, 6, 10, 11, 12], [2, 6, 22, 83, 422, 423]⟩, [.ptr 2 0, .ptr 22 0, .ref 6, .kd (.int .i64), .ref 83, .kd (.int .i64)], [.box [.kd (.int .i64), .kd (.int .i64), .kd (.slice (.pair (.int .i64) (.pair (.int .i64) (.pair .bool (.pair (.arr 4 (.int .u64)) .unit))))), .kd (.slice (.int .i64))], .row (.int .i64), .box [.ref 422, .ref 423], .row .bool, .row (.arr 4 (.int .u64)), .row (.arr 2 (.int .i64))], [⟨(.exit 6), [2, 5, 6, 10, 11], [.ptr 2 0, .ptr 22 0, .ref 6, .kd (.int .i64), .ref 83], [2, 6, 22, 83, 422, 423], [.box [.kd (.int .i64), .kd (.int .i64), .kd (.slice (.pair (.int .i64) (.pair (.int .i64) (.pair .bool (.pair (.arr 4 (.int .u64)) .unit))))), .kd (.slice (.int .i64))], .row (.int .i64), .box [.ref 422, .ref 423], .row .bool, .row (.arr 4 (.int .u64)), .row (.arr 2 (.int .i64))]⟩], limit L325_22⟩

noncomputable def L325_27 : Nat → ((Unit × Unit × (Int) × Unit × Unit × (Int) × Unit) × (((Int) × (Int) × (List ((Int) × ((Int) × ((Bool) × ((List (Int)) × (Unit)))))) × (List (Int)) × Unit) × (List (Int)) × ((Int) × (Int) × Unit × Unit × Unit) × (Unit × Unit × Unit) × (List (Bool)) × (List ((Int) × ((Int) × ((Bool) × ((List (Int)) × (Unit)))))) × (List (List (Int))) × (List (List (Int))) × Unit)) → Option ((Unit × Unit × Unit) × (((Int) × (Int) × (List ((Int) × ((Int) × ((Bool) × ((List (Int)) × (Unit)))))) × (List (Int)) × Unit) × (List (Int)) × ((Int) × (Int) × Unit × Unit × Unit) × (List ((Int) × ((Int) × ((Bool) × ((List (Int)) × (Unit)))))) × Unit))
  | 0, _ => none
  | n + 1, ((_, _, x10, _, _, x14, ()), (y2, y6, y13, _, y83, y313, y422, y423, ())) =>
    if (decide (x14 < (y83.length : Int))) = true then
      if decide (0 ≤ x14 ∧ x14 < (y83.length : Int)) = true then
        if (y83.getD x14.toNat false) = true then
          if decide (x10 = 0) = true then
            none
          else
            if decide (x10 = 0) = true then
              none
            else
              if decide (x10 = 0) = true then
                none
              else
                if decide (0 ≤ (IntKind.i64.wrap ((x14.tmod x10) - (1 : Int))) ∧ (IntKind.i64.wrap ((x14.tmod x10) - (1 : Int))) < (y422.length : Int)) = true then
                  if decide (y313.length + ([((IntKind.i64.wrap (x14.tdiv x10)), ((x14.tmod x10), (false, ([((y422.getD (IntKind.i64.wrap ((x14.tmod x10) - (1 : Int))).toNat (List.replicate 4 0)).getD 0 0), ((y422.getD (IntKind.i64.wrap ((x14.tmod x10) - (1 : Int))).toNat (List.replicate 4 0)).getD 1 0), ((y422.getD (IntKind.i64.wrap ((x14.tmod x10) - (1 : Int))).toNat (List.replicate 4 0)).getD 2 0), ((y422.getD (IntKind.i64.wrap ((x14.tmod x10) - (1 : Int))).toNat (List.replicate 4 0)).getD 3 0)], ()))))] : List ((Int) × ((Int) × ((Bool) × ((List (Int)) × (Unit)))))).length ≤ lim) = true then
                    L325_27 n (((), (), x10, (), (), (IntKind.i64.wrap (x14 + (1 : Int))), ()), ((y2.1, y2.2.1, y2.2.2.1, y2.2.2.2.1, ()), y6, (y13.1, y13.2.1, (), (), ()), ((), (), ()), y83, (y313 ++ ([((IntKind.i64.wrap (x14.tdiv x10)), ((x14.tmod x10), (false, ([((y422.getD (IntKind.i64.wrap ((x14.tmod x10) - (1 : Int))).toNat (List.replicate 4 0)).getD 0 0), ((y422.getD (IntKind.i64.wrap ((x14.tmod x10) - (1 : Int))).toNat (List.replicate 4 0)).getD 1 0), ((y422.getD (IntKind.i64.wrap ((x14.tmod x10) - (1 : Int))).toNat (List.replicate 4 0)).getD 2 0), ((y422.getD (IntKind.i64.wrap ((x14.tmod x10) - (1 : Int))).toNat (List.replicate 4 0)).getD 3 0)], ()))))] : List ((Int) × ((Int) × ((Bool) × ((List (Int)) × (Unit))))))), y422, y423, ()))
                  else
                    none
                else
                  none
        else
          L325_27 n (((), (), x10, (), (), (IntKind.i64.wrap (x14 + (1 : Int))), ()), ((y2.1, y2.2.1, y2.2.2.1, y2.2.2.2.1, ()), y6, (y13.1, y13.2.1, (), (), ()), ((), (), ()), y83, y313, y422, y423, ()))
      else
        none
    else
      some (((), (), ()), ((y2.1, y2.2.1, y2.2.2.1, y2.2.2.2.1, ()), y6, (y13.1, y13.2.1, (), (), ()), y313, ()))

noncomputable def EL325_27 : LoopEnt := ⟨[25], 27, ⟨[.keep [2, 5, 10, 11, 13, 14] [2, 6, 13, 22, 83, 147, 313, 422, 423], .adoptCell 13 2 (.pair (.int .i64) (.pair (.int .i64) (.pair .bool (.pair (.arr 4 (.int .u64)) .unit)))) 313], [2, 5, 10, 11, 13, 14], [2, 6, 13, 22, 83, 313, 422, 423]⟩, [.ptr 2 0, .ptr 22 0, .kd (.int .i64), .ref 83, .ptr 13 0, .kd (.int .i64)], [.box [.kd (.int .i64), .kd (.int .i64), .kd (.slice (.pair (.int .i64) (.pair (.int .i64) (.pair .bool (.pair (.arr 4 (.int .u64)) .unit))))), .kd (.slice (.int .i64))], .row (.int .i64), .box [.kd (.int .i64), .kd (.int .i64), .ref 313, .ref 6], .box [.ref 422, .ref 423], .row .bool, .row (.pair (.int .i64) (.pair (.int .i64) (.pair .bool (.pair (.arr 4 (.int .u64)) .unit)))), .row (.arr 4 (.int .u64)), .row (.arr 2 (.int .i64))], [⟨(.exit 8), [2, 13], [.ptr 2 0, .ptr 13 0], [2, 6, 13, 313], [.box [.kd (.int .i64), .kd (.int .i64), .kd (.slice (.pair (.int .i64) (.pair (.int .i64) (.pair .bool (.pair (.arr 4 (.int .u64)) .unit))))), .kd (.slice (.int .i64))], .row (.int .i64), .box [.kd (.int .i64), .kd (.int .i64), .ref 313, .ref 6], .row (.pair (.int .i64) (.pair (.int .i64) (.pair .bool (.pair (.arr 4 (.int .u64)) .unit))))]⟩], limit L325_27⟩

noncomputable def O325 : Orc := mkOrc [(28, fnOf [(.slice .rx)] (.one (.int .i64)) p328)] [EL325_11, EL325_14, EL325_7, EL325_22, EL325_27] [] [] [] [(46, procOf [.ptr 0 0, .kd .rx] [.box [.ref 1, .ref 2], .row (.arr 4 (.int .u64)), .row (.arr 2 (.int .i64))] (.one (.pair .bool (.pair (.slice (.int .i64)) (.pair (.slice (.int .i64)) .unit)))) [.box [.ref 3, .ref 4], .row (.arr 4 (.int .u64)), .row (.arr 2 (.int .i64))] p346), (47, procOf [.ptr 0 0, .kd (.slice (.int .i64)), .kd (.slice (.int .i64))] [.box [.ref 1, .ref 2], .row (.arr 4 (.int .u64)), .row (.arr 2 (.int .i64))] (.tup []) [.box [.ref 3, .ref 4], .row (.arr 4 (.int .u64)), .row (.arr 2 (.int .i64))] p347)]

theorem cL325_11 : LoopCert Try.prog O325 Γ325 1 EL325_11 :=
  ⟨⟨25, 1, L325_11, rfl, by kernel_rfl, by decide, limit_fn, fun _ => rfl, fun m old x r h => by
    obtain ⟨⟨x0, x2, x5, x6, x7, x8, ⟨⟩⟩, y2, y6, y8, y22, y426, y427, ⟨⟩⟩ := x
    refine Eq.trans ?_ h
    kernel_rfl⟩⟩

theorem cL325_14 : LoopCert Try.prog O325 Γ325 1 EL325_14 :=
  ⟨⟨25, 2, L325_14, rfl, by kernel_rfl, by decide, limit_fn, fun _ => rfl, fun m old x r h => by
    obtain ⟨⟨x0, x2, x5, x6, x7, x8, x9, ⟨⟩⟩, y2, y6, y8, y22, y426, y427, ⟨⟩⟩ := x
    refine Eq.trans ?_ h
    kernel_rfl⟩⟩

theorem cL325_7 : LoopCert Try.prog O325 Γ325 1 EL325_7 :=
  ⟨⟨25, 0, L325_7, rfl, by kernel_rfl, by decide, limit_fn, fun _ => rfl, fun m old x r h => by
    obtain ⟨⟨x0, x2, x5, x6, x7, ⟨⟩⟩, y2, y6, y22, y422, y423, ⟨⟩⟩ := x
    refine Eq.trans ?_ h
    kernel_rfl⟩⟩

theorem cL325_22 : LoopCert Try.prog O325 Γ325 1 EL325_22 :=
  ⟨⟨25, 3, L325_22, rfl, by kernel_rfl, by decide, limit_fn, fun _ => rfl, fun m old x r h => by
    obtain ⟨⟨x2, x5, x6, x10, x11, x12, ⟨⟩⟩, y2, y6, y22, y83, y422, y423, ⟨⟩⟩ := x
    refine Eq.trans ?_ h
    kernel_rfl⟩⟩

theorem cL325_27 : LoopCert Try.prog O325 Γ325 1 EL325_27 :=
  ⟨⟨25, 4, L325_27, rfl, by kernel_rfl, by decide, limit_fn, fun _ => rfl, fun m old x r h => by
    obtain ⟨⟨x2, x5, x10, x11, x13, x14, ⟨⟩⟩, y2, y6, y13, y22, y83, y313, y422, y423, ⟨⟩⟩ := x
    refine Eq.trans ?_ h
    kernel_rfl⟩⟩

/-- emendate/emendateref09.FromRegexes -/
noncomputable def p325 : ((List (Rx)) × Unit) → Option (((Int) × ((Int) × ((List ((Int) × ((Int) × ((Bool) × ((List (Int)) × (Unit)))))) × ((List (Int)) × (Unit))))) × (Int) × Unit)
  | (x0, ()) =>
    (p328 (x0, ())).bind fun c1 =>
    if (!decide (c1 = (0 : Int))) = true then
      some (((0 : Int), ((0 : Int), (([] : List ((Int) × ((Int) × ((Bool) × ((List (Int)) × (Unit)))))), (([] : List (Int)), ())))), c1, ())
    else
      (limit L325_7 ((x0, (), (), (), (0 : Int), ()), (((0 : Int), (0 : Int), ([] : List ((Int) × ((Int) × ((Bool) × ((List (Int)) × (Unit)))))), ([] : List (Int)), ()), ([(-1 : Int)] : List (Int)), ((), (), ()), ([] : List (List (Int))), ([] : List (List (Int))), ()))).bind fun r2 =>
      if decide ((IntKind.i64.wrap ((r2.2.2.1.length : Int) * (r2.2.2.1.length : Int))) = (IntKind.i64.wrap ((r2.2.2.1.length : Int) * (r2.2.2.1.length : Int))) ∧ 0 ≤ (IntKind.i64.wrap ((r2.2.2.1.length : Int) * (r2.2.2.1.length : Int))) ∧ (IntKind.i64.wrap ((r2.2.2.1.length : Int) * (r2.2.2.1.length : Int))) ≤ (lim : Int)) = true then
        (limit L325_22 (((), (), (), (r2.2.2.1.length : Int), (), (0 : Int), ()), ((r2.2.1.1, r2.2.1.2.1, r2.2.1.2.2.1, r2.2.1.2.2.2.1, ()), r2.2.2.1, ((), (), ()), (List.replicate (IntKind.i64.wrap ((r2.2.2.1.length : Int) * (r2.2.2.1.length : Int))).toNat false), r2.2.2.2.2.1, r2.2.2.2.2.2.1, ()))).bind fun r3 =>
        (limit L325_27 (((), (), r3.1.2.2.2.1, (), (), (0 : Int), ()), ((r3.2.1.1, r3.2.1.2.1, r3.2.1.2.2.1, r3.2.1.2.2.2.1, ()), r3.2.2.1, (r3.1.2.2.2.1, (0 : Int), (), (), ()), ((), (), ()), r3.2.2.2.2.1, ([] : List ((Int) × ((Int) × ((Bool) × ((List (Int)) × (Unit)))))), r3.2.2.2.2.2.1, r3.2.2.2.2.2.2.1, ()))).bind fun r4 =>
        some ((r4.2.2.2.1.1, (r4.2.2.2.1.2.1, (r4.2.2.2.2.1, (r4.2.2.1, ())))), (0 : Int), ())
      else
        none

theorem s325 : SoundFn Try.prog 25 (fnOf [(.slice .rx)] (.tup [(.pair (.int .i64) (.pair (.int .i64) (.pair (.slice (.pair (.int .i64) (.pair (.int .i64) (.pair .bool (.pair (.arr 4 (.int .u64)) .unit))))) (.pair (.slice (.int .i64)) .unit)))), (.int .i64)]) p325) :=
  fn_pure hm0 hng0 hΓ325 (t := [(28, fnOf [(.slice .rx)] (.one (.int .i64)) p328)]) (all_cons s328 all_nil) (ls := [EL325_11, EL325_14, EL325_7, EL325_22, EL325_27]) (cmds := []) (leaves := []) (fr := []) (pt := [(46, procOf [.ptr 0 0, .kd .rx] [.box [.ref 1, .ref 2], .row (.arr 4 (.int .u64)), .row (.arr 2 (.int .i64))] (.one (.pair .bool (.pair (.slice (.int .i64)) (.pair (.slice (.int .i64)) .unit)))) [.box [.ref 3, .ref 4], .row (.arr 4 (.int .u64)), .row (.arr 2 (.int .i64))] p346), (47, procOf [.ptr 0 0, .kd (.slice (.int .i64)), .kd (.slice (.int .i64))] [.box [.ref 1, .ref 2], .row (.arr 4 (.int .u64)), .row (.arr 2 (.int .i64))] (.tup []) [.box [.ref 3, .ref 4], .row (.arr 4 (.int .u64)), .row (.arr 2 (.int .i64))] p347)]) (D := 1) (all_cons cL325_11 (all_cons cL325_14 (all_cons cL325_7 (all_cons cL325_22 (all_cons cL325_27 all_nil))))) (by kernel_rfl) (hfr := all_nil) (hX := Special.procs (all_cons s346 (all_cons s347 all_nil)) (fun _ _ h => by cases h) (fun _ _ h => by obtain ⟨⟨_, h⟩, _⟩ := h; cases h)) fun x r h => by
    obtain ⟨x0, ⟨⟩⟩ := x
    refine Eq.trans ?_ h
    kernel_rfl

noncomputable def L326_4 : Nat → ((Unit × Unit × (Int) × Unit) × (((Int) × (Int) × (List ((Int) × ((Int) × ((Bool) × ((List (Int)) × (Unit)))))) × (List (Int)) × Unit) × ((Int) × (Int) × (List ((Int) × ((Int) × ((Bool) × ((List (Int)) × (Unit)))))) × (List (Int)) × Unit) × Unit)) → Option ((((Bool) × Unit) × (Unit)) ⊕ ((Unit) × (Unit)))
  | 0, _ => none
  | n + 1, ((_, _, x5, ()), (y2, y3, ())) =>
    if (decide (x5 < (y2.2.2.1.length : Int))) = true then
      if decide (0 ≤ x5 ∧ x5 < (y2.2.2.1.length : Int)) = true then
        if decide (0 ≤ x5 ∧ x5 < (y3.2.2.1.length : Int)) = true then
          if (!(Kind.eqB (.pair (.int .i64) (.pair (.int .i64) (.pair .bool (.pair (.arr 4 (.int .u64)) .unit)))) ((y2.2.2.1.getD x5.toNat (0, (0, (false, ((List.replicate 4 0), ()))))).1, ((y2.2.2.1.getD x5.toNat (0, (0, (false, ((List.replicate 4 0), ()))))).2.1, ((y2.2.2.1.getD x5.toNat (0, (0, (false, ((List.replicate 4 0), ()))))).2.2.1, ([((y2.2.2.1.getD x5.toNat (0, (0, (false, ((List.replicate 4 0), ()))))).2.2.2.1.getD 0 0), ((y2.2.2.1.getD x5.toNat (0, (0, (false, ((List.replicate 4 0), ()))))).2.2.2.1.getD 1 0), ((y2.2.2.1.getD x5.toNat (0, (0, (false, ((List.replicate 4 0), ()))))).2.2.2.1.getD 2 0), ((y2.2.2.1.getD x5.toNat (0, (0, (false, ((List.replicate 4 0), ()))))).2.2.2.1.getD 3 0)], ())))) ((y3.2.2.1.getD x5.toNat (0, (0, (false, ((List.replicate 4 0), ()))))).1, ((y3.2.2.1.getD x5.toNat (0, (0, (false, ((List.replicate 4 0), ()))))).2.1, ((y3.2.2.1.getD x5.toNat (0, (0, (false, ((List.replicate 4 0), ()))))).2.2.1, ([((y3.2.2.1.getD x5.toNat (0, (0, (false, ((List.replicate 4 0), ()))))).2.2.2.1.getD 0 0), ((y3.2.2.1.getD x5.toNat (0, (0, (false, ((List.replicate 4 0), ()))))).2.2.2.1.getD 1 0), ((y3.2.2.1.getD x5.toNat (0, (0, (false, ((List.replicate 4 0), ()))))).2.2.2.1.getD 2 0), ((y3.2.2.1.getD x5.toNat (0, (0, (false, ((List.replicate 4 0), ()))))).2.2.2.1.getD 3 0)], ())))))) = true then
            some (.inl ((false, ()), ()))
          else
            L326_4 n (((), (), (IntKind.i64.wrap (x5 + (1 : Int))), ()), ((y2.1, y2.2.1, y2.2.2.1, y2.2.2.2.1, ()), (y3.1, y3.2.1, y3.2.2.1, y3.2.2.2.1, ()), ()))
        else
          none
      else
        none
    else
      some (.inr ((), ()))

noncomputable def EL326_4 : LoopEnt := ⟨[26], 4, ⟨[], [2, 3, 5], [2, 3]⟩, [.ptr 2 0, .ptr 3 0, .kd (.int .i64)], [.box [.kd (.int .i64), .kd (.int .i64), .kd (.slice (.pair (.int .i64) (.pair (.int .i64) (.pair .bool (.pair (.arr 4 (.int .u64)) .unit))))), .kd (.slice (.int .i64))], .box [.kd (.int .i64), .kd (.int .i64), .kd (.slice (.pair (.int .i64) (.pair (.int .i64) (.pair .bool (.pair (.arr 4 (.int .u64)) .unit))))), .kd (.slice (.int .i64))]], [⟨.ret, [4], [.kd .bool], [], []⟩, ⟨(.exit 0), [], [], [], []⟩], limit L326_4⟩

noncomputable def O326 : Orc := mkOrc [(16, fnOf [(.slice (.int .i64)), (.slice (.int .i64))] (.one .bool) p316)] [EL326_4] [] [] []

theorem cL326_4 : LoopCert Try.prog O326 Γ0 1 EL326_4 :=
  ⟨⟨26, 0, L326_4, rfl, by kernel_rfl, by decide, limit_fn, fun _ => rfl, fun m old x r h => by
    obtain ⟨⟨x2, x3, x5, ⟨⟩⟩, y2, y3, ⟨⟩⟩ := x
    refine Eq.trans ?_ h
    kernel_rfl⟩⟩

/-- emendate/emendateref09.SameNFA -/
noncomputable def p326 : (((Int) × ((Int) × ((List ((Int) × ((Int) × ((Bool) × ((List (Int)) × (Unit)))))) × ((List (Int)) × (Unit))))) × ((Int) × ((Int) × ((List ((Int) × ((Int) × ((Bool) × ((List (Int)) × (Unit)))))) × ((List (Int)) × (Unit))))) × Unit) → Option (Bool)
  | (x0, x1, ()) =>
    if (!decide (x0.1 = x1.1)) = true then
      some false
    else
      if (!decide (x0.2.1 = x1.2.1)) = true then
        some false
      else
        if (!decide ((x0.2.2.1.length : Int) = (x1.2.2.1.length : Int))) = true then
          some false
        else
          (p316 (x0.2.2.2.1, x1.2.2.2.1, ())).bind fun c1 =>
          if (!c1) = true then
            some false
          else
            (limit L326_4 (((), (), (0 : Int), ()), ((x0.1, x0.2.1, x0.2.2.1, x0.2.2.2.1, ()), (x1.1, x1.2.1, x1.2.2.1, x1.2.2.2.1, ()), ()))).bind (Sum.elim (fun r2 =>
              some r2.1.1) (fun _ =>
              some true))

theorem s326 : SoundFn Try.prog 26 (fnOf [(.pair (.int .i64) (.pair (.int .i64) (.pair (.slice (.pair (.int .i64) (.pair (.int .i64) (.pair .bool (.pair (.arr 4 (.int .u64)) .unit))))) (.pair (.slice (.int .i64)) .unit)))), (.pair (.int .i64) (.pair (.int .i64) (.pair (.slice (.pair (.int .i64) (.pair (.int .i64) (.pair .bool (.pair (.arr 4 (.int .u64)) .unit))))) (.pair (.slice (.int .i64)) .unit))))] (.one .bool) p326) :=
  fn_pure hm0 hng0 hΓ0 (t := [(16, fnOf [(.slice (.int .i64)), (.slice (.int .i64))] (.one .bool) p316)]) (all_cons s316 all_nil) (ls := [EL326_4]) (cmds := []) (leaves := []) (fr := []) (pt := []) (D := 1) (all_cons cL326_4 all_nil) (by kernel_rfl) (hfr := all_nil) fun x r h => by
    obtain ⟨x0, x1, ⟨⟩⟩ := x
    refine Eq.trans ?_ h
    kernel_rfl

end Go.AM

/- Functions in pure form: each is sound over the program. -/
namespace Go.AM
open Go Go.Proofs

noncomputable def O367 : Orc := mkOrc [] [] [] [] []

/-- emendate/emendateref08.Has -/
noncomputable def p367 : ((List (Int)) × (Int) × Unit) → Option (Bool)
  | (x0, x1, ()) =>
    if decide ((64 : Int) = 0) = true then
      none
    else
      if decide (0 ≤ (IntKind.i64.wrap (x1.tdiv (64 : Int))) ∧ (IntKind.i64.wrap (x1.tdiv (64 : Int))) < (4 : Int)) = true then
        if decide ((64 : Int) = 0) = true then
          none
        else
          if decide (0 ≤ (IntKind.u64.wrap (x1.tmod (64 : Int)))) = true then
            some (decide ((IntKind.u64.wrap ((BitVec.ofInt (IntKind.u64.bits) (([(x0.getD 0 0), (x0.getD 1 0), (x0.getD 2 0), (x0.getD 3 0)].getD (IntKind.i64.wrap (x1.tdiv (64 : Int))).toNat 0).fdiv (2 ^ (min (IntKind.u64.wrap (x1.tmod (64 : Int))).toNat (IntKind.u64.bits)))) &&& BitVec.ofInt (IntKind.u64.bits) (1 : Int)).toNat : Nat)) = (1 : Int)))
          else
            none
      else
        none

theorem s367 : SoundFn Try.prog 67 (fnOf [(.arr 4 (.int .u64)), (.int .i64)] (.one .bool) p367) :=
  fn_pure hm0 hng0 hΓ0 (t := []) all_nil (ls := []) (cmds := []) (leaves := []) (fr := []) (pt := []) (D := 1) all_nil (by kernel_rfl) (hfr := all_nil) fun x r h => by
    obtain ⟨x0, x1, ⟨⟩⟩ := x
    refine Eq.trans ?_ h
    kernel_rfl

def Γ362 : TEnv := { Γ0 with procs := [((120, 62), ([(19, 0)], [(19, 0)]))] }
theorem hΓ362 : Γ362.ok Try.prog = true := hΓ0

noncomputable def L362_7 (E62 : ((Rx) × (List UInt8) × (List (Bool)) × Unit) → Option (List (Bool))) (E162 : (((Rx) × (List UInt8) × Unit × Unit) × ((List (Bool)) × Unit)) → Option ((List (Bool)) × ((List (Bool)) × Unit))) : Nat → (((List UInt8) × (List (Bool)) × Unit × Unit × (Int) × Unit) × (((Int) × (Int) × (Int) × (Int) × (Int) × (List (Rx)) × Unit) × (List (Bool)) × Unit)) → Option ((Unit × Unit) × ((List (Bool)) × Unit))
  | 0, _ => none
  | n + 1, ((x1, x2, _, _, x8, ()), (y3, y19, ())) =>
    if (decide (x8 < (x1.length : Int))) = true then
      if decide (0 ≤ x8 ∧ x8 < (x2.length : Int)) = true then
        if (x2.getD x8.toNat false) = true then
          if decide (0 ≤ x8 ∧ x8 < (x1.length : Int)) = true then
            (p367 ([y3.2.1, y3.2.2.1, y3.2.2.2.1, y3.2.2.2.2.1], (IntKind.i64.wrap ((x1.getD x8.toNat 0).toNat : Int)), ())).bind fun c1 =>
            if decide (0 ≤ (IntKind.i64.wrap (x8 + (1 : Int))) ∧ (IntKind.i64.wrap (x8 + (1 : Int))) < (y19.length : Int)) = true then
              L362_7 E62 E162 n ((x1, x2, (), (), (IntKind.i64.wrap (x8 + (1 : Int))), ()), ((y3.1, y3.2.1, y3.2.2.1, y3.2.2.2.1, y3.2.2.2.2.1, y3.2.2.2.2.2.1, ()), (y19.set (IntKind.i64.wrap (x8 + (1 : Int))).toNat c1), ()))
            else
              none
          else
            none
        else
          if decide (0 ≤ (IntKind.i64.wrap (x8 + (1 : Int))) ∧ (IntKind.i64.wrap (x8 + (1 : Int))) < (y19.length : Int)) = true then
            L362_7 E62 E162 n ((x1, x2, (), (), (IntKind.i64.wrap (x8 + (1 : Int))), ()), ((y3.1, y3.2.1, y3.2.2.1, y3.2.2.2.1, y3.2.2.2.2.1, y3.2.2.2.2.2.1, ()), (y19.set (IntKind.i64.wrap (x8 + (1 : Int))).toNat false), ()))
          else
            none
      else
        none
    else
      some (((), ()), (y19, ()))

noncomputable def EL362_7 (E62 : ((Rx) × (List UInt8) × (List (Bool)) × Unit) → Option (List (Bool))) (E162 : (((Rx) × (List UInt8) × Unit × Unit) × ((List (Bool)) × Unit)) → Option ((List (Bool)) × ((List (Bool)) × Unit))) : LoopEnt := ⟨[62], 7, ⟨[], [1, 2, 3, 7, 8], [3, 19]⟩, [.kd .str, .kd (.slice .bool), .ptr 3 0, .ref 19, .kd (.int .i64)], [.box [.kd (.int .i64), .kd (.int .u64), .kd (.int .u64), .kd (.int .u64), .kd (.int .u64), .kd (.slice .rx)], .row .bool], [⟨(.exit 1), [7], [.ref 19], [19], [.row .bool]⟩], limit (L362_7 E62 E162)⟩

noncomputable def L362_13 (E62 : ((Rx) × (List UInt8) × (List (Bool)) × Unit) → Option (List (Bool))) (E162 : (((Rx) × (List UInt8) × Unit × Unit) × ((List (Bool)) × Unit)) → Option ((List (Bool)) × ((List (Bool)) × Unit))) : Nat → (((List UInt8) × Unit × (List (Bool)) × (Int) × Unit) × (((Int) × (Int) × (Int) × (Int) × (Int) × (List (Rx)) × Unit) × Unit)) → Option (((List (Bool)) × Unit) × (Unit))
  | 0, _ => none
  | n + 1, ((x1, _, x7, x9, ()), (y3, ())) =>
    if (decide (x9 < (y3.2.2.2.2.2.1.length : Int))) = true then
      if decide (0 ≤ x9 ∧ x9 < (y3.2.2.2.2.2.1.length : Int)) = true then
        (E62 ((Rx.mk (y3.2.2.2.2.2.1.getD x9.toNat (Rx.mk 0 [0, 0, 0, 0] [])).kind [((y3.2.2.2.2.2.1.getD x9.toNat (Rx.mk 0 [0, 0, 0, 0] [])).set.getD 0 0), ((y3.2.2.2.2.2.1.getD x9.toNat (Rx.mk 0 [0, 0, 0, 0] [])).set.getD 1 0), ((y3.2.2.2.2.2.1.getD x9.toNat (Rx.mk 0 [0, 0, 0, 0] [])).set.getD 2 0), ((y3.2.2.2.2.2.1.getD x9.toNat (Rx.mk 0 [0, 0, 0, 0] [])).set.getD 3 0)] (y3.2.2.2.2.2.1.getD x9.toNat (Rx.mk 0 [0, 0, 0, 0] [])).kids), x1, x7, ())).bind fun c1 =>
        L362_13 E62 E162 n ((x1, (), c1, (IntKind.i64.wrap (x9 + (1 : Int))), ()), ((y3.1, y3.2.1, y3.2.2.1, y3.2.2.2.1, y3.2.2.2.2.1, y3.2.2.2.2.2.1, ()), ()))
      else
        none
    else
      some ((x7, ()), ())

noncomputable def EL362_13 (E62 : ((Rx) × (List UInt8) × (List (Bool)) × Unit) → Option (List (Bool))) (E162 : (((Rx) × (List UInt8) × Unit × Unit) × ((List (Bool)) × Unit)) → Option ((List (Bool)) × ((List (Bool)) × Unit))) : LoopEnt := ⟨[62], 13, ⟨[.freeze 7], [1, 3, 7, 9], [3]⟩, [.kd .str, .ptr 3 0, .kd (.slice .bool), .kd (.int .i64)], [.box [.kd (.int .i64), .kd (.int .u64), .kd (.int .u64), .kd (.int .u64), .kd (.int .u64), .kd (.slice .rx)]], [⟨(.exit 3), [7], [.kd (.slice .bool)], [], []⟩], limit (L362_13 E62 E162)⟩

noncomputable def L362_22 (E62 : ((Rx) × (List UInt8) × (List (Bool)) × Unit) → Option (List (Bool))) (E162 : (((Rx) × (List UInt8) × Unit × Unit) × ((List (Bool)) × Unit)) → Option ((List (Bool)) × ((List (Bool)) × Unit))) : Nat → (((List UInt8) × (List (Bool)) × Unit × Unit × (Int) × (List (Bool)) × (Int) × Unit) × (((Int) × (Int) × (Int) × (Int) × (Int) × (List (Rx)) × Unit) × (List (Bool)) × Unit)) → Option (((List UInt8) × (List (Bool)) × Unit × Unit × (Int) × Unit) × (((Int) × (Int) × (Int) × (Int) × (Int) × (List (Rx)) × Unit) × (List (Bool)) × Unit))
  | 0, _ => none
  | n + 1, ((x1, x2, _, _, x10, x11, x12, ()), (y3, y19, ())) =>
    if (decide (x12 < (x11.length : Int))) = true then
      if decide (0 ≤ x12 ∧ x12 < (y19.length : Int)) = true then
        if (y19.getD x12.toNat false) = true then
          if decide (0 ≤ x12 ∧ x12 < (y19.length : Int)) = true then
            L362_22 E62 E162 n ((x1, x2, (), (), x10, x11, (IntKind.i64.wrap (x12 + (1 : Int))), ()), ((y3.1, y3.2.1, y3.2.2.1, y3.2.2.2.1, y3.2.2.2.2.1, y3.2.2.2.2.2.1, ()), (y19.set x12.toNat true), ()))
          else
            none
        else
          if decide (0 ≤ x12 ∧ x12 < (x11.length : Int)) = true then
            if decide (0 ≤ x12 ∧ x12 < (y19.length : Int)) = true then
              L362_22 E62 E162 n ((x1, x2, (), (), x10, x11, (IntKind.i64.wrap (x12 + (1 : Int))), ()), ((y3.1, y3.2.1, y3.2.2.1, y3.2.2.2.1, y3.2.2.2.2.1, y3.2.2.2.2.2.1, ()), (y19.set x12.toNat (x11.getD x12.toNat false)), ()))
            else
              none
          else
            none
      else
        none
    else
      some ((x1, x2, (), (), x10, ()), ((y3.1, y3.2.1, y3.2.2.1, y3.2.2.2.1, y3.2.2.2.2.1, y3.2.2.2.2.2.1, ()), y19, ()))

noncomputable def EL362_22 (E62 : ((Rx) × (List UInt8) × (List (Bool)) × Unit) → Option (List (Bool))) (E162 : (((Rx) × (List UInt8) × Unit × Unit) × ((List (Bool)) × Unit)) → Option ((List (Bool)) × ((List (Bool)) × Unit))) : LoopEnt := ⟨[62], 22, ⟨[], [1, 2, 3, 7, 10, 11, 12], [3, 19]⟩, [.kd .str, .kd (.slice .bool), .ptr 3 0, .ref 19, .kd (.int .i64), .kd (.slice .bool), .kd (.int .i64)], [.box [.kd (.int .i64), .kd (.int .u64), .kd (.int .u64), .kd (.int .u64), .kd (.int .u64), .kd (.slice .rx)], .row .bool], [⟨(.exit 7), [1, 2, 3, 7, 10], [.kd .str, .kd (.slice .bool), .ptr 3 0, .ref 19, .kd (.int .i64)], [3, 19], [.box [.kd (.int .i64), .kd (.int .u64), .kd (.int .u64), .kd (.int .u64), .kd (.int .u64), .kd (.slice .rx)], .row .bool]⟩], limit (L362_22 E62 E162)⟩

noncomputable def L362_18 (E62 : ((Rx) × (List UInt8) × (List (Bool)) × Unit) → Option (List (Bool))) (E162 : (((Rx) × (List UInt8) × Unit × Unit) × ((List (Bool)) × Unit)) → Option ((List (Bool)) × ((List (Bool)) × Unit))) : Nat → (((List UInt8) × (List (Bool)) × Unit × Unit × (Int) × Unit) × (((Int) × (Int) × (Int) × (Int) × (Int) × (List (Rx)) × Unit) × (List (Bool)) × Unit)) → Option ((Unit × Unit) × ((List (Bool)) × Unit))
  | 0, _ => none
  | n + 1, ((x1, x2, _, _, x10, ()), (y3, y19, ())) =>
    if (decide (x10 < (y3.2.2.2.2.2.1.length : Int))) = true then
      if decide (0 ≤ x10 ∧ x10 < (y3.2.2.2.2.2.1.length : Int)) = true then
        (E62 ((Rx.mk (y3.2.2.2.2.2.1.getD x10.toNat (Rx.mk 0 [0, 0, 0, 0] [])).kind [((y3.2.2.2.2.2.1.getD x10.toNat (Rx.mk 0 [0, 0, 0, 0] [])).set.getD 0 0), ((y3.2.2.2.2.2.1.getD x10.toNat (Rx.mk 0 [0, 0, 0, 0] [])).set.getD 1 0), ((y3.2.2.2.2.2.1.getD x10.toNat (Rx.mk 0 [0, 0, 0, 0] [])).set.getD 2 0), ((y3.2.2.2.2.2.1.getD x10.toNat (Rx.mk 0 [0, 0, 0, 0] [])).set.getD 3 0)] (y3.2.2.2.2.2.1.getD x10.toNat (Rx.mk 0 [0, 0, 0, 0] [])).kids), x1, x2, ())).bind fun c1 =>
        (limit (L362_22 E62 E162) ((x1, x2, (), (), x10, c1, (0 : Int), ()), ((y3.1, y3.2.1, y3.2.2.1, y3.2.2.2.1, y3.2.2.2.2.1, y3.2.2.2.2.2.1, ()), y19, ()))).bind fun r2 =>
        L362_18 E62 E162 n ((r2.1.1, r2.1.2.1, (), (), (IntKind.i64.wrap (r2.1.2.2.2.2.1 + (1 : Int))), ()), ((r2.2.1.1, r2.2.1.2.1, r2.2.1.2.2.1, r2.2.1.2.2.2.1, r2.2.1.2.2.2.2.1, r2.2.1.2.2.2.2.2.1, ()), r2.2.2.1, ()))
      else
        none
    else
      some (((), ()), (y19, ()))

noncomputable def EL362_18 (E62 : ((Rx) × (List UInt8) × (List (Bool)) × Unit) → Option (List (Bool))) (E162 : (((Rx) × (List UInt8) × Unit × Unit) × ((List (Bool)) × Unit)) → Option ((List (Bool)) × ((List (Bool)) × Unit))) : LoopEnt := ⟨[62], 18, ⟨[], [1, 2, 3, 7, 10], [3, 19]⟩, [.kd .str, .kd (.slice .bool), .ptr 3 0, .ref 19, .kd (.int .i64)], [.box [.kd (.int .i64), .kd (.int .u64), .kd (.int .u64), .kd (.int .u64), .kd (.int .u64), .kd (.slice .rx)], .row .bool], [⟨(.exit 5), [7], [.ref 19], [19], [.row .bool]⟩], limit (L362_18 E62 E162)⟩

noncomputable def L362_32 (E62 : ((Rx) × (List UInt8) × (List (Bool)) × Unit) → Option (List (Bool))) (E162 : (((Rx) × (List UInt8) × Unit × Unit) × ((List (Bool)) × Unit)) → Option ((List (Bool)) × ((List (Bool)) × Unit))) : Nat → (((List UInt8) × Unit × Unit × (Bool) × (List (Bool)) × (Int) × Unit) × (((Int) × (Int) × (Int) × (Int) × (Int) × (List (Rx)) × Unit) × (List (Bool)) × Unit)) → Option (((List UInt8) × Unit × Unit × (Bool) × Unit) × (((Int) × (Int) × (Int) × (Int) × (Int) × (List (Rx)) × Unit) × (List (Bool)) × Unit))
  | 0, _ => none
  | n + 1, ((x1, _, _, x13, x14, x15, ()), (y3, y19, ())) =>
    if (decide (x15 < (x14.length : Int))) = true then
      if x13 = true then
        if decide (0 ≤ x15 ∧ x15 < (y19.length : Int)) = true then
          if (y19.getD x15.toNat false) = true then
            if decide (0 ≤ x15 ∧ x15 < (y19.length : Int)) = true then
              L362_32 E62 E162 n ((x1, (), (), true, x14, (IntKind.i64.wrap (x15 + (1 : Int))), ()), ((y3.1, y3.2.1, y3.2.2.1, y3.2.2.2.1, y3.2.2.2.2.1, y3.2.2.2.2.2.1, ()), (y19.set x15.toNat true), ()))
            else
              none
          else
            if decide (0 ≤ x15 ∧ x15 < (x14.length : Int)) = true then
              if decide (0 ≤ x15 ∧ x15 < (y19.length : Int)) = true then
                L362_32 E62 E162 n ((x1, (), (), true, x14, (IntKind.i64.wrap (x15 + (1 : Int))), ()), ((y3.1, y3.2.1, y3.2.2.1, y3.2.2.2.1, y3.2.2.2.2.1, y3.2.2.2.2.2.1, ()), (y19.set x15.toNat (x14.getD x15.toNat false)), ()))
              else
                none
            else
              none
        else
          none
      else
        if decide (0 ≤ x15 ∧ x15 < (x14.length : Int)) = true then
          if (x14.getD x15.toNat false) = true then
            if decide (0 ≤ x15 ∧ x15 < (y19.length : Int)) = true then
              if decide (0 ≤ x15 ∧ x15 < (y19.length : Int)) = true then
                if (y19.getD x15.toNat false) = true then
                  if decide (0 ≤ x15 ∧ x15 < (y19.length : Int)) = true then
                    L362_32 E62 E162 n ((x1, (), (), (!(y19.getD x15.toNat false)), x14, (IntKind.i64.wrap (x15 + (1 : Int))), ()), ((y3.1, y3.2.1, y3.2.2.1, y3.2.2.2.1, y3.2.2.2.2.1, y3.2.2.2.2.2.1, ()), (y19.set x15.toNat true), ()))
                  else
                    none
                else
                  if decide (0 ≤ x15 ∧ x15 < (x14.length : Int)) = true then
                    if decide (0 ≤ x15 ∧ x15 < (y19.length : Int)) = true then
                      L362_32 E62 E162 n ((x1, (), (), (!(y19.getD x15.toNat false)), x14, (IntKind.i64.wrap (x15 + (1 : Int))), ()), ((y3.1, y3.2.1, y3.2.2.1, y3.2.2.2.1, y3.2.2.2.2.1, y3.2.2.2.2.2.1, ()), (y19.set x15.toNat (x14.getD x15.toNat false)), ()))
                    else
                      none
                  else
                    none
              else
                none
            else
              none
          else
            if decide (0 ≤ x15 ∧ x15 < (y19.length : Int)) = true then
              if (y19.getD x15.toNat false) = true then
                if decide (0 ≤ x15 ∧ x15 < (y19.length : Int)) = true then
                  L362_32 E62 E162 n ((x1, (), (), false, x14, (IntKind.i64.wrap (x15 + (1 : Int))), ()), ((y3.1, y3.2.1, y3.2.2.1, y3.2.2.2.1, y3.2.2.2.2.1, y3.2.2.2.2.2.1, ()), (y19.set x15.toNat true), ()))
                else
                  none
              else
                if decide (0 ≤ x15 ∧ x15 < (x14.length : Int)) = true then
                  if decide (0 ≤ x15 ∧ x15 < (y19.length : Int)) = true then
                    L362_32 E62 E162 n ((x1, (), (), false, x14, (IntKind.i64.wrap (x15 + (1 : Int))), ()), ((y3.1, y3.2.1, y3.2.2.1, y3.2.2.2.1, y3.2.2.2.2.1, y3.2.2.2.2.2.1, ()), (y19.set x15.toNat (x14.getD x15.toNat false)), ()))
                  else
                    none
                else
                  none
            else
              none
        else
          none
    else
      some ((x1, (), (), x13, ()), ((y3.1, y3.2.1, y3.2.2.1, y3.2.2.2.1, y3.2.2.2.2.1, y3.2.2.2.2.2.1, ()), y19, ()))

noncomputable def EL362_32 (E62 : ((Rx) × (List UInt8) × (List (Bool)) × Unit) → Option (List (Bool))) (E162 : (((Rx) × (List UInt8) × Unit × Unit) × ((List (Bool)) × Unit)) → Option ((List (Bool)) × ((List (Bool)) × Unit))) : LoopEnt := ⟨[62], 32, ⟨[], [1, 3, 7, 13, 14, 15], [3, 19]⟩, [.kd .str, .ptr 3 0, .ref 19, .kd .bool, .kd (.slice .bool), .kd (.int .i64)], [.box [.kd (.int .i64), .kd (.int .u64), .kd (.int .u64), .kd (.int .u64), .kd (.int .u64), .kd (.slice .rx)], .row .bool], [⟨(.exit 11), [1, 3, 7, 13], [.kd .str, .ptr 3 0, .ref 19, .kd .bool], [3, 19], [.box [.kd (.int .i64), .kd (.int .u64), .kd (.int .u64), .kd (.int .u64), .kd (.int .u64), .kd (.slice .rx)], .row .bool]⟩], limit (L362_32 E62 E162)⟩

noncomputable def L362_28 (E62 : ((Rx) × (List UInt8) × (List (Bool)) × Unit) → Option (List (Bool))) (E162 : (((Rx) × (List UInt8) × Unit × Unit) × ((List (Bool)) × Unit)) → Option ((List (Bool)) × ((List (Bool)) × Unit))) : Nat → (((List UInt8) × Unit × Unit × (Bool) × Unit) × (((Int) × (Int) × (Int) × (Int) × (Int) × (List (Rx)) × Unit) × (List (Bool)) × Unit)) → Option ((Unit × Unit) × ((List (Bool)) × Unit))
  | 0, _ => none
  | n + 1, ((x1, _, _, x13, ()), (y3, y19, ())) =>
    if x13 = true then
      if decide (0 ≤ (0 : Int) ∧ (0 : Int) < (y3.2.2.2.2.2.1.length : Int)) = true then
        (E162 (((Rx.mk (y3.2.2.2.2.2.1.getD (0 : Int).toNat (Rx.mk 0 [0, 0, 0, 0] [])).kind [((y3.2.2.2.2.2.1.getD (0 : Int).toNat (Rx.mk 0 [0, 0, 0, 0] [])).set.getD 0 0), ((y3.2.2.2.2.2.1.getD (0 : Int).toNat (Rx.mk 0 [0, 0, 0, 0] [])).set.getD 1 0), ((y3.2.2.2.2.2.1.getD (0 : Int).toNat (Rx.mk 0 [0, 0, 0, 0] [])).set.getD 2 0), ((y3.2.2.2.2.2.1.getD (0 : Int).toNat (Rx.mk 0 [0, 0, 0, 0] [])).set.getD 3 0)] (y3.2.2.2.2.2.1.getD (0 : Int).toNat (Rx.mk 0 [0, 0, 0, 0] [])).kids), x1, (), ()), (y19, ()))).bind fun c1 =>
        (limit (L362_32 E62 E162) ((x1, (), (), false, c1.1, (0 : Int), ()), ((y3.1, y3.2.1, y3.2.2.1, y3.2.2.2.1, y3.2.2.2.2.1, y3.2.2.2.2.2.1, ()), c1.2.1, ()))).bind fun r2 =>
        L362_28 E62 E162 n ((r2.1.1, (), (), r2.1.2.2.2.1, ()), ((r2.2.1.1, r2.2.1.2.1, r2.2.1.2.2.1, r2.2.1.2.2.2.1, r2.2.1.2.2.2.2.1, r2.2.1.2.2.2.2.2.1, ()), r2.2.2.1, ()))
      else
        none
    else
      some (((), ()), (y19, ()))

noncomputable def EL362_28 (E62 : ((Rx) × (List UInt8) × (List (Bool)) × Unit) → Option (List (Bool))) (E162 : (((Rx) × (List UInt8) × Unit × Unit) × ((List (Bool)) × Unit)) → Option ((List (Bool)) × ((List (Bool)) × Unit))) : LoopEnt := ⟨[62], 28, ⟨[], [1, 3, 7, 13], [3, 19]⟩, [.kd .str, .ptr 3 0, .ref 19, .kd .bool], [.box [.kd (.int .i64), .kd (.int .u64), .kd (.int .u64), .kd (.int .u64), .kd (.int .u64), .kd (.slice .rx)], .row .bool], [⟨(.exit 9), [7], [.ref 19], [19], [.row .bool]⟩], limit (L362_28 E62 E162)⟩

noncomputable def O362 (E62 : ((Rx) × (List UInt8) × (List (Bool)) × Unit) → Option (List (Bool))) (E162 : (((Rx) × (List UInt8) × Unit × Unit) × ((List (Bool)) × Unit)) → Option ((List (Bool)) × ((List (Bool)) × Unit))) : Orc := mkOrc [(62, fnOf [.rx, .str, (.slice .bool)] (.one (.slice .bool)) E62), (67, fnOf [(.arr 4 (.int .u64)), (.int .i64)] (.one .bool) p367)] [(EL362_7 E62 E162), (EL362_13 E62 E162), (EL362_22 E62 E162), (EL362_18 E62 E162), (EL362_32 E62 E162), (EL362_28 E62 E162)] [] [] [] [(62, procOf [.kd .rx, .kd .str, .ref 0] [.row .bool] (.one (.slice .bool)) [.row .bool] E162)]

theorem cL362_7 (E62 : ((Rx) × (List UInt8) × (List (Bool)) × Unit) → Option (List (Bool))) (E162 : (((Rx) × (List UInt8) × Unit × Unit) × ((List (Bool)) × Unit)) → Option ((List (Bool)) × ((List (Bool)) × Unit))) : LoopCert Try.prog (O362 E62 E162) Γ362 1 (EL362_7 E62 E162) :=
  ⟨⟨62, 0, (L362_7 E62 E162), rfl, by kernel_rfl, Nat.le_of_ble_eq_true (by kernel_rfl), limit_fn, fun _ => rfl, fun m old x r h => by
    obtain ⟨⟨x1, x2, x3, x7, x8, ⟨⟩⟩, y3, y19, ⟨⟩⟩ := x
    refine Eq.trans ?_ h
    kernel_rfl⟩⟩

theorem cL362_13 (E62 : ((Rx) × (List UInt8) × (List (Bool)) × Unit) → Option (List (Bool))) (E162 : (((Rx) × (List UInt8) × Unit × Unit) × ((List (Bool)) × Unit)) → Option ((List (Bool)) × ((List (Bool)) × Unit))) : LoopCert Try.prog (O362 E62 E162) Γ362 1 (EL362_13 E62 E162) :=
  ⟨⟨62, 1, (L362_13 E62 E162), rfl, by kernel_rfl, Nat.le_of_ble_eq_true (by kernel_rfl), limit_fn, fun _ => rfl, fun m old x r h => by
    obtain ⟨⟨x1, x3, x7, x9, ⟨⟩⟩, y3, ⟨⟩⟩ := x
    refine Eq.trans ?_ h
    kernel_rfl⟩⟩

theorem cL362_22 (E62 : ((Rx) × (List UInt8) × (List (Bool)) × Unit) → Option (List (Bool))) (E162 : (((Rx) × (List UInt8) × Unit × Unit) × ((List (Bool)) × Unit)) → Option ((List (Bool)) × ((List (Bool)) × Unit))) : LoopCert Try.prog (O362 E62 E162) Γ362 1 (EL362_22 E62 E162) :=
  ⟨⟨62, 3, (L362_22 E62 E162), rfl, by kernel_rfl, Nat.le_of_ble_eq_true (by kernel_rfl), limit_fn, fun _ => rfl, fun m old x r h => by
    obtain ⟨⟨x1, x2, x3, x7, x10, x11, x12, ⟨⟩⟩, y3, y19, ⟨⟩⟩ := x
    refine Eq.trans ?_ h
    kernel_rfl⟩⟩

theorem cL362_18 (E62 : ((Rx) × (List UInt8) × (List (Bool)) × Unit) → Option (List (Bool))) (E162 : (((Rx) × (List UInt8) × Unit × Unit) × ((List (Bool)) × Unit)) → Option ((List (Bool)) × ((List (Bool)) × Unit))) : LoopCert Try.prog (O362 E62 E162) Γ362 1 (EL362_18 E62 E162) :=
  ⟨⟨62, 2, (L362_18 E62 E162), rfl, by kernel_rfl, Nat.le_of_ble_eq_true (by kernel_rfl), limit_fn, fun _ => rfl, fun m old x r h => by
    obtain ⟨⟨x1, x2, x3, x7, x10, ⟨⟩⟩, y3, y19, ⟨⟩⟩ := x
    refine Eq.trans ?_ h
    kernel_rfl⟩⟩

theorem cL362_32 (E62 : ((Rx) × (List UInt8) × (List (Bool)) × Unit) → Option (List (Bool))) (E162 : (((Rx) × (List UInt8) × Unit × Unit) × ((List (Bool)) × Unit)) → Option ((List (Bool)) × ((List (Bool)) × Unit))) : LoopCert Try.prog (O362 E62 E162) Γ362 1 (EL362_32 E62 E162) :=
  ⟨⟨62, 5, (L362_32 E62 E162), rfl, by kernel_rfl, Nat.le_of_ble_eq_true (by kernel_rfl), limit_fn, fun _ => rfl, fun m old x r h => by
    obtain ⟨⟨x1, x3, x7, x13, x14, x15, ⟨⟩⟩, y3, y19, ⟨⟩⟩ := x
    refine Eq.trans ?_ h
    kernel_rfl⟩⟩

theorem cL362_28 (E62 : ((Rx) × (List UInt8) × (List (Bool)) × Unit) → Option (List (Bool))) (E162 : (((Rx) × (List UInt8) × Unit × Unit) × ((List (Bool)) × Unit)) → Option ((List (Bool)) × ((List (Bool)) × Unit))) : LoopCert Try.prog (O362 E62 E162) Γ362 1 (EL362_28 E62 E162) :=
  ⟨⟨62, 4, (L362_28 E62 E162), rfl, by kernel_rfl, Nat.le_of_ble_eq_true (by kernel_rfl), limit_fn, fun _ => rfl, fun m old x r h => by
    obtain ⟨⟨x1, x3, x7, x13, ⟨⟩⟩, y3, y19, ⟨⟩⟩ := x
    refine Eq.trans ?_ h
    kernel_rfl⟩⟩

/-- emendate/emendateref08.ends -/
noncomputable def p362 (E62 : ((Rx) × (List UInt8) × (List (Bool)) × Unit) → Option (List (Bool))) (E162 : (((Rx) × (List UInt8) × Unit × Unit) × ((List (Bool)) × Unit)) → Option ((List (Bool)) × ((List (Bool)) × Unit))) : ((Rx) × (List UInt8) × (List (Bool)) × Unit) → Option (List (Bool))
  | (x0, x1, x2, ()) =>
    if decide ((IntKind.i64.wrap ((x1.length : Int) + (1 : Int))) = (IntKind.i64.wrap ((x1.length : Int) + (1 : Int))) ∧ 0 ≤ (IntKind.i64.wrap ((x1.length : Int) + (1 : Int))) ∧ (IntKind.i64.wrap ((x1.length : Int) + (1 : Int))) ≤ (lim : Int)) = true then
      if (decide (x0.kind = (2 : Int))) = true then
        if decide (x2.length ≤ (List.replicate (IntKind.i64.wrap ((x1.length : Int) + (1 : Int))).toNat false).length ∧ 0 < (List.replicate (IntKind.i64.wrap ((x1.length : Int) + (1 : Int))).toNat false).length) = true then
          some (x2 ++ (List.replicate (IntKind.i64.wrap ((x1.length : Int) + (1 : Int))).toNat false).drop x2.length)
        else
          none
      else
        if (decide (x0.kind = (3 : Int))) = true then
          (limit (L362_7 E62 E162) ((x1, x2, (), (), (0 : Int), ()), ((x0.kind, (x0.set.getD 0 0), (x0.set.getD 1 0), (x0.set.getD 2 0), (x0.set.getD 3 0), x0.kids, ()), (List.replicate (IntKind.i64.wrap ((x1.length : Int) + (1 : Int))).toNat false), ()))).bind fun r1 =>
          some r1.2.1
        else
          if (decide (x0.kind = (4 : Int))) = true then
            if decide (x2.length ≤ (List.replicate (IntKind.i64.wrap ((x1.length : Int) + (1 : Int))).toNat false).length ∧ 0 < (List.replicate (IntKind.i64.wrap ((x1.length : Int) + (1 : Int))).toNat false).length) = true then
              (limit (L362_13 E62 E162) ((x1, (), (x2 ++ (List.replicate (IntKind.i64.wrap ((x1.length : Int) + (1 : Int))).toNat false).drop x2.length), (0 : Int), ()), ((x0.kind, (x0.set.getD 0 0), (x0.set.getD 1 0), (x0.set.getD 2 0), (x0.set.getD 3 0), x0.kids, ()), ()))).bind fun r2 =>
              some r2.1.1
            else
              none
          else
            if (decide (x0.kind = (5 : Int))) = true then
              (limit (L362_18 E62 E162) ((x1, x2, (), (), (0 : Int), ()), ((x0.kind, (x0.set.getD 0 0), (x0.set.getD 1 0), (x0.set.getD 2 0), (x0.set.getD 3 0), x0.kids, ()), (List.replicate (IntKind.i64.wrap ((x1.length : Int) + (1 : Int))).toNat false), ()))).bind fun r3 =>
              some r3.2.1
            else
              if (decide (x0.kind = (6 : Int))) = true then
                if decide (x2.length ≤ (List.replicate (IntKind.i64.wrap ((x1.length : Int) + (1 : Int))).toNat false).length ∧ 0 < (List.replicate (IntKind.i64.wrap ((x1.length : Int) + (1 : Int))).toNat false).length) = true then
                  (limit (L362_28 E62 E162) ((x1, (), (), true, ()), ((x0.kind, (x0.set.getD 0 0), (x0.set.getD 1 0), (x0.set.getD 2 0), (x0.set.getD 3 0), x0.kids, ()), (x2 ++ (List.replicate (IntKind.i64.wrap ((x1.length : Int) + (1 : Int))).toNat false).drop x2.length), ()))).bind fun r4 =>
                  some r4.2.1
                else
                  none
              else
                some (List.replicate (IntKind.i64.wrap ((x1.length : Int) + (1 : Int))).toNat false)
    else
      none

theorem s362 (E62 : ((Rx) × (List UInt8) × (List (Bool)) × Unit) → Option (List (Bool))) (E162 : (((Rx) × (List UInt8) × Unit × Unit) × ((List (Bool)) × Unit)) → Option ((List (Bool)) × ((List (Bool)) × Unit))) (hE62 : SoundFn Try.prog 62 (fnOf [.rx, .str, (.slice .bool)] (.one (.slice .bool)) E62)) (hE162 : SoundProc Try.prog 62 [0] [0] (procPv (procOf [.kd .rx, .kd .str, .ref 0] [.row .bool] (.one (.slice .bool)) [.row .bool] E162))) : SoundFn Try.prog 62 (fnOf [.rx, .str, (.slice .bool)] (.one (.slice .bool)) (p362 E62 E162)) :=
  fn_pure hm0 hng0 hΓ362 (t := [(62, fnOf [.rx, .str, (.slice .bool)] (.one (.slice .bool)) E62), (67, fnOf [(.arr 4 (.int .u64)), (.int .i64)] (.one .bool) p367)]) (all_cons hE62 (all_cons s367 all_nil)) (ls := [(EL362_7 E62 E162), (EL362_13 E62 E162), (EL362_22 E62 E162), (EL362_18 E62 E162), (EL362_32 E62 E162), (EL362_28 E62 E162)]) (cmds := []) (leaves := []) (fr := []) (pt := [(62, procOf [.kd .rx, .kd .str, .ref 0] [.row .bool] (.one (.slice .bool)) [.row .bool] E162)]) (D := 1) (all_cons (cL362_7 E62 E162) (all_cons (cL362_13 E62 E162) (all_cons (cL362_22 E62 E162) (all_cons (cL362_18 E62 E162) (all_cons (cL362_32 E62 E162) (all_cons (cL362_28 E62 E162) all_nil)))))) (by kernel_rfl) (hfr := all_nil) (hX := Special.procs (all_cons hE162 all_nil) (fun _ _ h => by cases h) (fun _ _ h => by obtain ⟨⟨_, h⟩, _⟩ := h; cases h)) fun x r h => by
    obtain ⟨x0, x1, x2, ⟨⟩⟩ := x
    refine Eq.trans ?_ h
    kernel_rfl

def Γ462 : TEnv := { Γ0 with procs := [((1088, 62), ([(0, 0)], [(0, 0)])), ((1120, 62), ([(1019, 0)], [(1019, 0)]))] }
theorem hΓ462 : Γ462.ok Try.prog = true := hΓ0

noncomputable def L362_362_7 (E62 : ((Rx) × (List UInt8) × (List (Bool)) × Unit) → Option (List (Bool))) (E162 : (((Rx) × (List UInt8) × Unit × Unit) × ((List (Bool)) × Unit)) → Option ((List (Bool)) × ((List (Bool)) × Unit))) : Nat → (((List UInt8) × Unit × Unit × Unit × (Int) × Unit) × ((List (Bool)) × ((Int) × (Int) × (Int) × (Int) × (Int) × (List (Rx)) × Unit) × (List (Bool)) × Unit)) → Option ((Unit × Unit) × ((List (Bool)) × (List (Bool)) × Unit))
  | 0, _ => none
  | n + 1, ((x1, _, _, _, x8, ()), (y0, y1003, y1019, ())) =>
    if (decide (x8 < (x1.length : Int))) = true then
      if decide (0 ≤ x8 ∧ x8 < (y0.length : Int)) = true then
        if (y0.getD x8.toNat false) = true then
          if decide (0 ≤ x8 ∧ x8 < (x1.length : Int)) = true then
            (p367 ([y1003.2.1, y1003.2.2.1, y1003.2.2.2.1, y1003.2.2.2.2.1], (IntKind.i64.wrap ((x1.getD x8.toNat 0).toNat : Int)), ())).bind fun c1 =>
            if decide (0 ≤ (IntKind.i64.wrap (x8 + (1 : Int))) ∧ (IntKind.i64.wrap (x8 + (1 : Int))) < (y1019.length : Int)) = true then
              L362_362_7 E62 E162 n ((x1, (), (), (), (IntKind.i64.wrap (x8 + (1 : Int))), ()), (y0, (y1003.1, y1003.2.1, y1003.2.2.1, y1003.2.2.2.1, y1003.2.2.2.2.1, y1003.2.2.2.2.2.1, ()), (y1019.set (IntKind.i64.wrap (x8 + (1 : Int))).toNat c1), ()))
            else
              none
          else
            none
        else
          if decide (0 ≤ (IntKind.i64.wrap (x8 + (1 : Int))) ∧ (IntKind.i64.wrap (x8 + (1 : Int))) < (y1019.length : Int)) = true then
            L362_362_7 E62 E162 n ((x1, (), (), (), (IntKind.i64.wrap (x8 + (1 : Int))), ()), (y0, (y1003.1, y1003.2.1, y1003.2.2.1, y1003.2.2.2.1, y1003.2.2.2.2.1, y1003.2.2.2.2.2.1, ()), (y1019.set (IntKind.i64.wrap (x8 + (1 : Int))).toNat false), ()))
          else
            none
      else
        none
    else
      some (((), ()), (y0, y1019, ()))

noncomputable def EL362_362_7 (E62 : ((Rx) × (List UInt8) × (List (Bool)) × Unit) → Option (List (Bool))) (E162 : (((Rx) × (List UInt8) × Unit × Unit) × ((List (Bool)) × Unit)) → Option ((List (Bool)) × ((List (Bool)) × Unit))) : LoopEnt := ⟨[62, 62], 7, ⟨[], [1, 2, 3, 7, 8], [0, 1003, 1019]⟩, [.kd .str, .ref 0, .ptr 1003 0, .ref 1019, .kd (.int .i64)], [.row .bool, .box [.kd (.int .i64), .kd (.int .u64), .kd (.int .u64), .kd (.int .u64), .kd (.int .u64), .kd (.slice .rx)], .row .bool], [⟨(.exit 1), [7], [.ref 1019], [0, 1019], [.row .bool, .row .bool]⟩], limit (L362_362_7 E62 E162)⟩

noncomputable def L362_362_13 (E62 : ((Rx) × (List UInt8) × (List (Bool)) × Unit) → Option (List (Bool))) (E162 : (((Rx) × (List UInt8) × Unit × Unit) × ((List (Bool)) × Unit)) → Option ((List (Bool)) × ((List (Bool)) × Unit))) : Nat → (((List UInt8) × Unit × (List (Bool)) × (Int) × Unit) × ((List (Bool)) × ((Int) × (Int) × (Int) × (Int) × (Int) × (List (Rx)) × Unit) × Unit)) → Option (((List (Bool)) × Unit) × ((List (Bool)) × Unit))
  | 0, _ => none
  | n + 1, ((x1, _, x7, x9, ()), (y0, y1003, ())) =>
    if (decide (x9 < (y1003.2.2.2.2.2.1.length : Int))) = true then
      if decide (0 ≤ x9 ∧ x9 < (y1003.2.2.2.2.2.1.length : Int)) = true then
        (E62 ((Rx.mk (y1003.2.2.2.2.2.1.getD x9.toNat (Rx.mk 0 [0, 0, 0, 0] [])).kind [((y1003.2.2.2.2.2.1.getD x9.toNat (Rx.mk 0 [0, 0, 0, 0] [])).set.getD 0 0), ((y1003.2.2.2.2.2.1.getD x9.toNat (Rx.mk 0 [0, 0, 0, 0] [])).set.getD 1 0), ((y1003.2.2.2.2.2.1.getD x9.toNat (Rx.mk 0 [0, 0, 0, 0] [])).set.getD 2 0), ((y1003.2.2.2.2.2.1.getD x9.toNat (Rx.mk 0 [0, 0, 0, 0] [])).set.getD 3 0)] (y1003.2.2.2.2.2.1.getD x9.toNat (Rx.mk 0 [0, 0, 0, 0] [])).kids), x1, x7, ())).bind fun c1 =>
        L362_362_13 E62 E162 n ((x1, (), c1, (IntKind.i64.wrap (x9 + (1 : Int))), ()), (y0, (y1003.1, y1003.2.1, y1003.2.2.1, y1003.2.2.2.1, y1003.2.2.2.2.1, y1003.2.2.2.2.2.1, ()), ()))
      else
        none
    else
      some ((x7, ()), (y0, ()))

noncomputable def EL362_362_13 (E62 : ((Rx) × (List UInt8) × (List (Bool)) × Unit) → Option (List (Bool))) (E162 : (((Rx) × (List UInt8) × Unit × Unit) × ((List (Bool)) × Unit)) → Option ((List (Bool)) × ((List (Bool)) × Unit))) : LoopEnt := ⟨[62, 62], 13, ⟨[.freeze 7], [1, 3, 7, 9], [0, 1003]⟩, [.kd .str, .ptr 1003 0, .kd (.slice .bool), .kd (.int .i64)], [.row .bool, .box [.kd (.int .i64), .kd (.int .u64), .kd (.int .u64), .kd (.int .u64), .kd (.int .u64), .kd (.slice .rx)]], [⟨(.exit 3), [7], [.kd (.slice .bool)], [0], [.row .bool]⟩], limit (L362_362_13 E62 E162)⟩

noncomputable def L362_362_22 (E62 : ((Rx) × (List UInt8) × (List (Bool)) × Unit) → Option (List (Bool))) (E162 : (((Rx) × (List UInt8) × Unit × Unit) × ((List (Bool)) × Unit)) → Option ((List (Bool)) × ((List (Bool)) × Unit))) : Nat → (((List UInt8) × Unit × Unit × Unit × (Int) × (List (Bool)) × (Int) × Unit) × ((List (Bool)) × ((Int) × (Int) × (Int) × (Int) × (Int) × (List (Rx)) × Unit) × (List (Bool)) × Unit)) → Option (((List UInt8) × Unit × Unit × Unit × (Int) × Unit) × ((List (Bool)) × ((Int) × (Int) × (Int) × (Int) × (Int) × (List (Rx)) × Unit) × (List (Bool)) × Unit))
  | 0, _ => none
  | n + 1, ((x1, _, _, _, x10, x11, x12, ()), (y0, y1003, y1019, ())) =>
    if (decide (x12 < (x11.length : Int))) = true then
      if decide (0 ≤ x12 ∧ x12 < (y1019.length : Int)) = true then
        if (y1019.getD x12.toNat false) = true then
          if decide (0 ≤ x12 ∧ x12 < (y1019.length : Int)) = true then
            L362_362_22 E62 E162 n ((x1, (), (), (), x10, x11, (IntKind.i64.wrap (x12 + (1 : Int))), ()), (y0, (y1003.1, y1003.2.1, y1003.2.2.1, y1003.2.2.2.1, y1003.2.2.2.2.1, y1003.2.2.2.2.2.1, ()), (y1019.set x12.toNat true), ()))
          else
            none
        else
          if decide (0 ≤ x12 ∧ x12 < (x11.length : Int)) = true then
            if decide (0 ≤ x12 ∧ x12 < (y1019.length : Int)) = true then
              L362_362_22 E62 E162 n ((x1, (), (), (), x10, x11, (IntKind.i64.wrap (x12 + (1 : Int))), ()), (y0, (y1003.1, y1003.2.1, y1003.2.2.1, y1003.2.2.2.1, y1003.2.2.2.2.1, y1003.2.2.2.2.2.1, ()), (y1019.set x12.toNat (x11.getD x12.toNat false)), ()))
            else
              none
          else
            none
      else
        none
    else
      some ((x1, (), (), (), x10, ()), (y0, (y1003.1, y1003.2.1, y1003.2.2.1, y1003.2.2.2.1, y1003.2.2.2.2.1, y1003.2.2.2.2.2.1, ()), y1019, ()))

noncomputable def EL362_362_22 (E62 : ((Rx) × (List UInt8) × (List (Bool)) × Unit) → Option (List (Bool))) (E162 : (((Rx) × (List UInt8) × Unit × Unit) × ((List (Bool)) × Unit)) → Option ((List (Bool)) × ((List (Bool)) × Unit))) : LoopEnt := ⟨[62, 62], 22, ⟨[], [1, 2, 3, 7, 10, 11, 12], [0, 1003, 1019]⟩, [.kd .str, .ref 0, .ptr 1003 0, .ref 1019, .kd (.int .i64), .kd (.slice .bool), .kd (.int .i64)], [.row .bool, .box [.kd (.int .i64), .kd (.int .u64), .kd (.int .u64), .kd (.int .u64), .kd (.int .u64), .kd (.slice .rx)], .row .bool], [⟨(.exit 7), [1, 2, 3, 7, 10], [.kd .str, .ref 0, .ptr 1003 0, .ref 1019, .kd (.int .i64)], [0, 1003, 1019], [.row .bool, .box [.kd (.int .i64), .kd (.int .u64), .kd (.int .u64), .kd (.int .u64), .kd (.int .u64), .kd (.slice .rx)], .row .bool]⟩], limit (L362_362_22 E62 E162)⟩

noncomputable def L362_362_18 (E62 : ((Rx) × (List UInt8) × (List (Bool)) × Unit) → Option (List (Bool))) (E162 : (((Rx) × (List UInt8) × Unit × Unit) × ((List (Bool)) × Unit)) → Option ((List (Bool)) × ((List (Bool)) × Unit))) : Nat → (((List UInt8) × Unit × Unit × Unit × (Int) × Unit) × ((List (Bool)) × ((Int) × (Int) × (Int) × (Int) × (Int) × (List (Rx)) × Unit) × (List (Bool)) × Unit)) → Option ((Unit × Unit) × ((List (Bool)) × (List (Bool)) × Unit))
  | 0, _ => none
  | n + 1, ((x1, _, _, _, x10, ()), (y0, y1003, y1019, ())) =>
    if (decide (x10 < (y1003.2.2.2.2.2.1.length : Int))) = true then
      if decide (0 ≤ x10 ∧ x10 < (y1003.2.2.2.2.2.1.length : Int)) = true then
        (E162 (((Rx.mk (y1003.2.2.2.2.2.1.getD x10.toNat (Rx.mk 0 [0, 0, 0, 0] [])).kind [((y1003.2.2.2.2.2.1.getD x10.toNat (Rx.mk 0 [0, 0, 0, 0] [])).set.getD 0 0), ((y1003.2.2.2.2.2.1.getD x10.toNat (Rx.mk 0 [0, 0, 0, 0] [])).set.getD 1 0), ((y1003.2.2.2.2.2.1.getD x10.toNat (Rx.mk 0 [0, 0, 0, 0] [])).set.getD 2 0), ((y1003.2.2.2.2.2.1.getD x10.toNat (Rx.mk 0 [0, 0, 0, 0] [])).set.getD 3 0)] (y1003.2.2.2.2.2.1.getD x10.toNat (Rx.mk 0 [0, 0, 0, 0] [])).kids), x1, (), ()), (y0, ()))).bind fun c1 =>
        (limit (L362_362_22 E62 E162) ((x1, (), (), (), x10, c1.1, (0 : Int), ()), (c1.2.1, (y1003.1, y1003.2.1, y1003.2.2.1, y1003.2.2.2.1, y1003.2.2.2.2.1, y1003.2.2.2.2.2.1, ()), y1019, ()))).bind fun r2 =>
        L362_362_18 E62 E162 n ((r2.1.1, (), (), (), (IntKind.i64.wrap (r2.1.2.2.2.2.1 + (1 : Int))), ()), (r2.2.1, (r2.2.2.1.1, r2.2.2.1.2.1, r2.2.2.1.2.2.1, r2.2.2.1.2.2.2.1, r2.2.2.1.2.2.2.2.1, r2.2.2.1.2.2.2.2.2.1, ()), r2.2.2.2.1, ()))
      else
        none
    else
      some (((), ()), (y0, y1019, ()))

noncomputable def EL362_362_18 (E62 : ((Rx) × (List UInt8) × (List (Bool)) × Unit) → Option (List (Bool))) (E162 : (((Rx) × (List UInt8) × Unit × Unit) × ((List (Bool)) × Unit)) → Option ((List (Bool)) × ((List (Bool)) × Unit))) : LoopEnt := ⟨[62, 62], 18, ⟨[], [1, 2, 3, 7, 10], [0, 1003, 1019]⟩, [.kd .str, .ref 0, .ptr 1003 0, .ref 1019, .kd (.int .i64)], [.row .bool, .box [.kd (.int .i64), .kd (.int .u64), .kd (.int .u64), .kd (.int .u64), .kd (.int .u64), .kd (.slice .rx)], .row .bool], [⟨(.exit 5), [7], [.ref 1019], [0, 1019], [.row .bool, .row .bool]⟩], limit (L362_362_18 E62 E162)⟩

noncomputable def L362_362_32 (E62 : ((Rx) × (List UInt8) × (List (Bool)) × Unit) → Option (List (Bool))) (E162 : (((Rx) × (List UInt8) × Unit × Unit) × ((List (Bool)) × Unit)) → Option ((List (Bool)) × ((List (Bool)) × Unit))) : Nat → (((List UInt8) × Unit × Unit × (Bool) × (List (Bool)) × (Int) × Unit) × ((List (Bool)) × ((Int) × (Int) × (Int) × (Int) × (Int) × (List (Rx)) × Unit) × (List (Bool)) × Unit)) → Option (((List UInt8) × Unit × Unit × (Bool) × Unit) × ((List (Bool)) × ((Int) × (Int) × (Int) × (Int) × (Int) × (List (Rx)) × Unit) × (List (Bool)) × Unit))
  | 0, _ => none
  | n + 1, ((x1, _, _, x13, x14, x15, ()), (y0, y1003, y1019, ())) =>
    if (decide (x15 < (x14.length : Int))) = true then
      if x13 = true then
        if decide (0 ≤ x15 ∧ x15 < (y1019.length : Int)) = true then
          if (y1019.getD x15.toNat false) = true then
            if decide (0 ≤ x15 ∧ x15 < (y1019.length : Int)) = true then
              L362_362_32 E62 E162 n ((x1, (), (), true, x14, (IntKind.i64.wrap (x15 + (1 : Int))), ()), (y0, (y1003.1, y1003.2.1, y1003.2.2.1, y1003.2.2.2.1, y1003.2.2.2.2.1, y1003.2.2.2.2.2.1, ()), (y1019.set x15.toNat true), ()))
            else
              none
          else
            if decide (0 ≤ x15 ∧ x15 < (x14.length : Int)) = true then
              if decide (0 ≤ x15 ∧ x15 < (y1019.length : Int)) = true then
                L362_362_32 E62 E162 n ((x1, (), (), true, x14, (IntKind.i64.wrap (x15 + (1 : Int))), ()), (y0, (y1003.1, y1003.2.1, y1003.2.2.1, y1003.2.2.2.1, y1003.2.2.2.2.1, y1003.2.2.2.2.2.1, ()), (y1019.set x15.toNat (x14.getD x15.toNat false)), ()))
              else
                none
            else
              none
        else
          none
      else
        if decide (0 ≤ x15 ∧ x15 < (x14.length : Int)) = true then
          if (x14.getD x15.toNat false) = true then
            if decide (0 ≤ x15 ∧ x15 < (y1019.length : Int)) = true then
              if decide (0 ≤ x15 ∧ x15 < (y1019.length : Int)) = true then
                if (y1019.getD x15.toNat false) = true then
                  if decide (0 ≤ x15 ∧ x15 < (y1019.length : Int)) = true then
                    L362_362_32 E62 E162 n ((x1, (), (), (!(y1019.getD x15.toNat false)), x14, (IntKind.i64.wrap (x15 + (1 : Int))), ()), (y0, (y1003.1, y1003.2.1, y1003.2.2.1, y1003.2.2.2.1, y1003.2.2.2.2.1, y1003.2.2.2.2.2.1, ()), (y1019.set x15.toNat true), ()))
                  else
                    none
                else
                  if decide (0 ≤ x15 ∧ x15 < (x14.length : Int)) = true then
                    if decide (0 ≤ x15 ∧ x15 < (y1019.length : Int)) = true then
                      L362_362_32 E62 E162 n ((x1, (), (), (!(y1019.getD x15.toNat false)), x14, (IntKind.i64.wrap (x15 + (1 : Int))), ()), (y0, (y1003.1, y1003.2.1, y1003.2.2.1, y1003.2.2.2.1, y1003.2.2.2.2.1, y1003.2.2.2.2.2.1, ()), (y1019.set x15.toNat (x14.getD x15.toNat false)), ()))
                    else
                      none
                  else
                    none
              else
                none
            else
              none
          else
            if decide (0 ≤ x15 ∧ x15 < (y1019.length : Int)) = true then
              if (y1019.getD x15.toNat false) = true then
                if decide (0 ≤ x15 ∧ x15 < (y1019.length : Int)) = true then
                  L362_362_32 E62 E162 n ((x1, (), (), false, x14, (IntKind.i64.wrap (x15 + (1 : Int))), ()), (y0, (y1003.1, y1003.2.1, y1003.2.2.1, y1003.2.2.2.1, y1003.2.2.2.2.1, y1003.2.2.2.2.2.1, ()), (y1019.set x15.toNat true), ()))
                else
                  none
              else
                if decide (0 ≤ x15 ∧ x15 < (x14.length : Int)) = true then
                  if decide (0 ≤ x15 ∧ x15 < (y1019.length : Int)) = true then
                    L362_362_32 E62 E162 n ((x1, (), (), false, x14, (IntKind.i64.wrap (x15 + (1 : Int))), ()), (y0, (y1003.1, y1003.2.1, y1003.2.2.1, y1003.2.2.2.1, y1003.2.2.2.2.1, y1003.2.2.2.2.2.1, ()), (y1019.set x15.toNat (x14.getD x15.toNat false)), ()))
                  else
                    none
                else
                  none
            else
              none
        else
          none
    else
      some ((x1, (), (), x13, ()), (y0, (y1003.1, y1003.2.1, y1003.2.2.1, y1003.2.2.2.1, y1003.2.2.2.2.1, y1003.2.2.2.2.2.1, ()), y1019, ()))

noncomputable def EL362_362_32 (E62 : ((Rx) × (List UInt8) × (List (Bool)) × Unit) → Option (List (Bool))) (E162 : (((Rx) × (List UInt8) × Unit × Unit) × ((List (Bool)) × Unit)) → Option ((List (Bool)) × ((List (Bool)) × Unit))) : LoopEnt := ⟨[62, 62], 32, ⟨[], [1, 3, 7, 13, 14, 15], [0, 1003, 1019]⟩, [.kd .str, .ptr 1003 0, .ref 1019, .kd .bool, .kd (.slice .bool), .kd (.int .i64)], [.row .bool, .box [.kd (.int .i64), .kd (.int .u64), .kd (.int .u64), .kd (.int .u64), .kd (.int .u64), .kd (.slice .rx)], .row .bool], [⟨(.exit 11), [1, 3, 7, 13], [.kd .str, .ptr 1003 0, .ref 1019, .kd .bool], [0, 1003, 1019], [.row .bool, .box [.kd (.int .i64), .kd (.int .u64), .kd (.int .u64), .kd (.int .u64), .kd (.int .u64), .kd (.slice .rx)], .row .bool]⟩], limit (L362_362_32 E62 E162)⟩

noncomputable def L362_362_28 (E62 : ((Rx) × (List UInt8) × (List (Bool)) × Unit) → Option (List (Bool))) (E162 : (((Rx) × (List UInt8) × Unit × Unit) × ((List (Bool)) × Unit)) → Option ((List (Bool)) × ((List (Bool)) × Unit))) : Nat → (((List UInt8) × Unit × Unit × (Bool) × Unit) × ((List (Bool)) × ((Int) × (Int) × (Int) × (Int) × (Int) × (List (Rx)) × Unit) × (List (Bool)) × Unit)) → Option ((Unit × Unit) × ((List (Bool)) × (List (Bool)) × Unit))
  | 0, _ => none
  | n + 1, ((x1, _, _, x13, ()), (y0, y1003, y1019, ())) =>
    if x13 = true then
      if decide (0 ≤ (0 : Int) ∧ (0 : Int) < (y1003.2.2.2.2.2.1.length : Int)) = true then
        (E162 (((Rx.mk (y1003.2.2.2.2.2.1.getD (0 : Int).toNat (Rx.mk 0 [0, 0, 0, 0] [])).kind [((y1003.2.2.2.2.2.1.getD (0 : Int).toNat (Rx.mk 0 [0, 0, 0, 0] [])).set.getD 0 0), ((y1003.2.2.2.2.2.1.getD (0 : Int).toNat (Rx.mk 0 [0, 0, 0, 0] [])).set.getD 1 0), ((y1003.2.2.2.2.2.1.getD (0 : Int).toNat (Rx.mk 0 [0, 0, 0, 0] [])).set.getD 2 0), ((y1003.2.2.2.2.2.1.getD (0 : Int).toNat (Rx.mk 0 [0, 0, 0, 0] [])).set.getD 3 0)] (y1003.2.2.2.2.2.1.getD (0 : Int).toNat (Rx.mk 0 [0, 0, 0, 0] [])).kids), x1, (), ()), (y1019, ()))).bind fun c1 =>
        (limit (L362_362_32 E62 E162) ((x1, (), (), false, c1.1, (0 : Int), ()), (y0, (y1003.1, y1003.2.1, y1003.2.2.1, y1003.2.2.2.1, y1003.2.2.2.2.1, y1003.2.2.2.2.2.1, ()), c1.2.1, ()))).bind fun r2 =>
        L362_362_28 E62 E162 n ((r2.1.1, (), (), r2.1.2.2.2.1, ()), (r2.2.1, (r2.2.2.1.1, r2.2.2.1.2.1, r2.2.2.1.2.2.1, r2.2.2.1.2.2.2.1, r2.2.2.1.2.2.2.2.1, r2.2.2.1.2.2.2.2.2.1, ()), r2.2.2.2.1, ()))
      else
        none
    else
      some (((), ()), (y0, y1019, ()))

noncomputable def EL362_362_28 (E62 : ((Rx) × (List UInt8) × (List (Bool)) × Unit) → Option (List (Bool))) (E162 : (((Rx) × (List UInt8) × Unit × Unit) × ((List (Bool)) × Unit)) → Option ((List (Bool)) × ((List (Bool)) × Unit))) : LoopEnt := ⟨[62, 62], 28, ⟨[], [1, 3, 7, 13], [0, 1003, 1019]⟩, [.kd .str, .ptr 1003 0, .ref 1019, .kd .bool], [.row .bool, .box [.kd (.int .i64), .kd (.int .u64), .kd (.int .u64), .kd (.int .u64), .kd (.int .u64), .kd (.slice .rx)], .row .bool], [⟨(.exit 9), [7], [.ref 1019], [0, 1019], [.row .bool, .row .bool]⟩], limit (L362_362_28 E62 E162)⟩

noncomputable def O462 (E62 : ((Rx) × (List UInt8) × (List (Bool)) × Unit) → Option (List (Bool))) (E162 : (((Rx) × (List UInt8) × Unit × Unit) × ((List (Bool)) × Unit)) → Option ((List (Bool)) × ((List (Bool)) × Unit))) : Orc := mkOrc [(62, fnOf [.rx, .str, (.slice .bool)] (.one (.slice .bool)) E62), (67, fnOf [(.arr 4 (.int .u64)), (.int .i64)] (.one .bool) p367)] [(EL362_362_7 E62 E162), (EL362_362_13 E62 E162), (EL362_362_22 E62 E162), (EL362_362_18 E62 E162), (EL362_362_32 E62 E162), (EL362_362_28 E62 E162)] [] [] [] [(62, procOf [.kd .rx, .kd .str, .ref 0] [.row .bool] (.one (.slice .bool)) [.row .bool] E162)]

theorem cL362_362_7 (E62 : ((Rx) × (List UInt8) × (List (Bool)) × Unit) → Option (List (Bool))) (E162 : (((Rx) × (List UInt8) × Unit × Unit) × ((List (Bool)) × Unit)) → Option ((List (Bool)) × ((List (Bool)) × Unit))) : LoopCert Try.prog (O462 E62 E162) Γ462 2 (EL362_362_7 E62 E162) :=
  ⟨⟨62, 0, (L362_362_7 E62 E162), rfl, by kernel_rfl, Nat.le_of_ble_eq_true (by kernel_rfl), limit_fn, fun _ => rfl, fun m old x r h => by
    obtain ⟨⟨x1, x2, x3, x7, x8, ⟨⟩⟩, y0, y1003, y1019, ⟨⟩⟩ := x
    refine Eq.trans ?_ h
    kernel_rfl⟩⟩

theorem cL362_362_13 (E62 : ((Rx) × (List UInt8) × (List (Bool)) × Unit) → Option (List (Bool))) (E162 : (((Rx) × (List UInt8) × Unit × Unit) × ((List (Bool)) × Unit)) → Option ((List (Bool)) × ((List (Bool)) × Unit))) : LoopCert Try.prog (O462 E62 E162) Γ462 2 (EL362_362_13 E62 E162) :=
  ⟨⟨62, 1, (L362_362_13 E62 E162), rfl, by kernel_rfl, Nat.le_of_ble_eq_true (by kernel_rfl), limit_fn, fun _ => rfl, fun m old x r h => by
    obtain ⟨⟨x1, x3, x7, x9, ⟨⟩⟩, y0, y1003, ⟨⟩⟩ := x
    refine Eq.trans ?_ h
    kernel_rfl⟩⟩

theorem cL362_362_22 (E62 : ((Rx) × (List UInt8) × (List (Bool)) × Unit) → Option (List (Bool))) (E162 : (((Rx) × (List UInt8) × Unit × Unit) × ((List (Bool)) × Unit)) → Option ((List (Bool)) × ((List (Bool)) × Unit))) : LoopCert Try.prog (O462 E62 E162) Γ462 2 (EL362_362_22 E62 E162) :=
  ⟨⟨62, 3, (L362_362_22 E62 E162), rfl, by kernel_rfl, Nat.le_of_ble_eq_true (by kernel_rfl), limit_fn, fun _ => rfl, fun m old x r h => by
    obtain ⟨⟨x1, x2, x3, x7, x10, x11, x12, ⟨⟩⟩, y0, y1003, y1019, ⟨⟩⟩ := x
    refine Eq.trans ?_ h
    kernel_rfl⟩⟩

theorem cL362_362_18 (E62 : ((Rx) × (List UInt8) × (List (Bool)) × Unit) → Option (List (Bool))) (E162 : (((Rx) × (List UInt8) × Unit × Unit) × ((List (Bool)) × Unit)) → Option ((List (Bool)) × ((List (Bool)) × Unit))) : LoopCert Try.prog (O462 E62 E162) Γ462 2 (EL362_362_18 E62 E162) :=
  ⟨⟨62, 2, (L362_362_18 E62 E162), rfl, by kernel_rfl, Nat.le_of_ble_eq_true (by kernel_rfl), limit_fn, fun _ => rfl, fun m old x r h => by
    obtain ⟨⟨x1, x2, x3, x7, x10, ⟨⟩⟩, y0, y1003, y1019, ⟨⟩⟩ := x
    refine Eq.trans ?_ h
    kernel_rfl⟩⟩

theorem cL362_362_32 (E62 : ((Rx) × (List UInt8) × (List (Bool)) × Unit) → Option (List (Bool))) (E162 : (((Rx) × (List UInt8) × Unit × Unit) × ((List (Bool)) × Unit)) → Option ((List (Bool)) × ((List (Bool)) × Unit))) : LoopCert Try.prog (O462 E62 E162) Γ462 2 (EL362_362_32 E62 E162) :=
  ⟨⟨62, 5, (L362_362_32 E62 E162), rfl, by kernel_rfl, Nat.le_of_ble_eq_true (by kernel_rfl), limit_fn, fun _ => rfl, fun m old x r h => by
    obtain ⟨⟨x1, x3, x7, x13, x14, x15, ⟨⟩⟩, y0, y1003, y1019, ⟨⟩⟩ := x
    refine Eq.trans ?_ h
    kernel_rfl⟩⟩

theorem cL362_362_28 (E62 : ((Rx) × (List UInt8) × (List (Bool)) × Unit) → Option (List (Bool))) (E162 : (((Rx) × (List UInt8) × Unit × Unit) × ((List (Bool)) × Unit)) → Option ((List (Bool)) × ((List (Bool)) × Unit))) : LoopCert Try.prog (O462 E62 E162) Γ462 2 (EL362_362_28 E62 E162) :=
  ⟨⟨62, 4, (L362_362_28 E62 E162), rfl, by kernel_rfl, Nat.le_of_ble_eq_true (by kernel_rfl), limit_fn, fun _ => rfl, fun m old x r h => by
    obtain ⟨⟨x1, x3, x7, x13, ⟨⟩⟩, y0, y1003, y1019, ⟨⟩⟩ := x
    refine Eq.trans ?_ h
    kernel_rfl⟩⟩

/-- emendate/emendateref08.ends -/
noncomputable def p462 (E62 : ((Rx) × (List UInt8) × (List (Bool)) × Unit) → Option (List (Bool))) (E162 : (((Rx) × (List UInt8) × Unit × Unit) × ((List (Bool)) × Unit)) → Option ((List (Bool)) × ((List (Bool)) × Unit))) : (((Rx) × (List UInt8) × Unit × Unit) × ((List (Bool)) × Unit)) → Option ((List (Bool)) × ((List (Bool)) × Unit))
  | ((x0, x1, _, ()), (y0, ())) =>
    if decide ((IntKind.i64.wrap ((x1.length : Int) + (1 : Int))) = (IntKind.i64.wrap ((x1.length : Int) + (1 : Int))) ∧ 0 ≤ (IntKind.i64.wrap ((x1.length : Int) + (1 : Int))) ∧ (IntKind.i64.wrap ((x1.length : Int) + (1 : Int))) ≤ (lim : Int)) = true then
      if (decide (x0.kind = (2 : Int))) = true then
        if decide (y0.length ≤ (List.replicate (IntKind.i64.wrap ((x1.length : Int) + (1 : Int))).toNat false).length ∧ 0 < (List.replicate (IntKind.i64.wrap ((x1.length : Int) + (1 : Int))).toNat false).length) = true then
          some ((y0 ++ (List.replicate (IntKind.i64.wrap ((x1.length : Int) + (1 : Int))).toNat false).drop y0.length), (y0, ()))
        else
          none
      else
        if (decide (x0.kind = (3 : Int))) = true then
          (limit (L362_362_7 E62 E162) ((x1, (), (), (), (0 : Int), ()), (y0, (x0.kind, (x0.set.getD 0 0), (x0.set.getD 1 0), (x0.set.getD 2 0), (x0.set.getD 3 0), x0.kids, ()), (List.replicate (IntKind.i64.wrap ((x1.length : Int) + (1 : Int))).toNat false), ()))).bind fun r1 =>
          some (r1.2.2.1, (r1.2.1, ()))
        else
          if (decide (x0.kind = (4 : Int))) = true then
            if decide (y0.length ≤ (List.replicate (IntKind.i64.wrap ((x1.length : Int) + (1 : Int))).toNat false).length ∧ 0 < (List.replicate (IntKind.i64.wrap ((x1.length : Int) + (1 : Int))).toNat false).length) = true then
              (limit (L362_362_13 E62 E162) ((x1, (), (y0 ++ (List.replicate (IntKind.i64.wrap ((x1.length : Int) + (1 : Int))).toNat false).drop y0.length), (0 : Int), ()), (y0, (x0.kind, (x0.set.getD 0 0), (x0.set.getD 1 0), (x0.set.getD 2 0), (x0.set.getD 3 0), x0.kids, ()), ()))).bind fun r2 =>
              some (r2.1.1, (r2.2.1, ()))
            else
              none
          else
            if (decide (x0.kind = (5 : Int))) = true then
              (limit (L362_362_18 E62 E162) ((x1, (), (), (), (0 : Int), ()), (y0, (x0.kind, (x0.set.getD 0 0), (x0.set.getD 1 0), (x0.set.getD 2 0), (x0.set.getD 3 0), x0.kids, ()), (List.replicate (IntKind.i64.wrap ((x1.length : Int) + (1 : Int))).toNat false), ()))).bind fun r3 =>
              some (r3.2.2.1, (r3.2.1, ()))
            else
              if (decide (x0.kind = (6 : Int))) = true then
                if decide (y0.length ≤ (List.replicate (IntKind.i64.wrap ((x1.length : Int) + (1 : Int))).toNat false).length ∧ 0 < (List.replicate (IntKind.i64.wrap ((x1.length : Int) + (1 : Int))).toNat false).length) = true then
                  (limit (L362_362_28 E62 E162) ((x1, (), (), true, ()), (y0, (x0.kind, (x0.set.getD 0 0), (x0.set.getD 1 0), (x0.set.getD 2 0), (x0.set.getD 3 0), x0.kids, ()), (y0 ++ (List.replicate (IntKind.i64.wrap ((x1.length : Int) + (1 : Int))).toNat false).drop y0.length), ()))).bind fun r4 =>
                  some (r4.2.2.1, (r4.2.1, ()))
                else
                  none
              else
                some ((List.replicate (IntKind.i64.wrap ((x1.length : Int) + (1 : Int))).toNat false), (y0, ()))
    else
      none

theorem s462 (E62 : ((Rx) × (List UInt8) × (List (Bool)) × Unit) → Option (List (Bool))) (E162 : (((Rx) × (List UInt8) × Unit × Unit) × ((List (Bool)) × Unit)) → Option ((List (Bool)) × ((List (Bool)) × Unit))) (hE62 : SoundFn Try.prog 62 (fnOf [.rx, .str, (.slice .bool)] (.one (.slice .bool)) E62)) (hE162 : SoundProc Try.prog 62 [0] [0] (procPv (procOf [.kd .rx, .kd .str, .ref 0] [.row .bool] (.one (.slice .bool)) [.row .bool] E162))) : SoundProc Try.prog 62 [0] [0] (procPv (procOf [.kd .rx, .kd .str, .ref 0] [.row .bool] (.one (.slice .bool)) [.row .bool] (p462 E62 E162))) :=
  proc_pure hm0 hng0 hΓ462 (t := [(62, fnOf [.rx, .str, (.slice .bool)] (.one (.slice .bool)) E62), (67, fnOf [(.arr 4 (.int .u64)), (.int .i64)] (.one .bool) p367)]) (all_cons hE62 (all_cons s367 all_nil)) (ls := [(EL362_362_7 E62 E162), (EL362_362_13 E62 E162), (EL362_362_22 E62 E162), (EL362_362_18 E62 E162), (EL362_362_32 E62 E162), (EL362_362_28 E62 E162)]) (cmds := []) (leaves := []) (fr := []) (pt := [(62, procOf [.kd .rx, .kd .str, .ref 0] [.row .bool] (.one (.slice .bool)) [.row .bool] E162)]) (D := 2) (all_cons (cL362_362_7 E62 E162) (all_cons (cL362_362_13 E62 E162) (all_cons (cL362_362_22 E62 E162) (all_cons (cL362_362_18 E62 E162) (all_cons (cL362_362_32 E62 E162) (all_cons (cL362_362_28 E62 E162) all_nil)))))) (by kernel_rfl) (by kernel_rfl) (by kernel_rfl) (by kernel_rfl) (hfr := all_nil) (hX := Special.procs (all_cons hE162 (all_cons hE162 all_nil)) (fun _ _ h => by cases h) (fun _ _ h => by obtain ⟨⟨_, h⟩, _⟩ := h; cases h)) fun x r h => by
    obtain ⟨⟨x0, x1, x2, ⟨⟩⟩, y0, ⟨⟩⟩ := x
    refine Eq.trans ?_ h
    kernel_rfl

end Go.AM

/- Places that a word leads to, plain. -/
namespace Go.AM
open Go

def seg (w : List UInt8) (i j : Nat) : List UInt8 := (w.drop i).take (j - i)

section
variable {w : List UInt8}

theorem seg_append {i j k : Nat} (h1 : i ≤ j) (h2 : j ≤ k) : seg w i k = seg w i j ++ seg w j k := by
  unfold seg
  rw [show k - i = (j - i) + (k - j) by omega, List.take_add, List.drop_drop, show i + (j - i) = j by omega]
theorem seg_length {i j : Nat} (h2 : j ≤ w.length) : (seg w i j).length = j - i := by
  unfold seg
  rw [List.length_take, List.length_drop]; omega
theorem seg_self {i : Nat} : seg w i i = [] := by unfold seg; simp
theorem seg_one {i : Nat} (h : i < w.length) : seg w i (i + 1) = [w.getD i 0] := by
  unfold seg
  rw [show i + 1 - i = 1 by omega, List.getD_eq_getElem?_getD, List.getElem?_eq_getElem h, List.drop_eq_getElem_cons h]
  rfl
theorem seg_split {i k : Nat} {u v : List UInt8} (h1 : i ≤ k) (h2 : k ≤ w.length) (h : seg w i k = u ++ v) : ∃ j, i ≤ j ∧ j ≤ k ∧ u = seg w i j ∧ v = seg w j k := by
  have hl := seg_length (i := i) h2
  rw [h, List.length_append] at hl
  have e := seg_append (w := w) (show i ≤ i + u.length by omega) (show i + u.length ≤ k by omega)
  rw [h] at e
  have l1 := seg_length (w := w) (i := i) (show i + u.length ≤ w.length by omega)
  obtain ⟨e1, e2⟩ := List.append_inj e (by omega)
  exact ⟨i + u.length, by omega, by omega, e1, e2⟩

/-- the places that the words of P lead to from the places y -/
def Res (P : List UInt8 → Prop) (w : List UInt8) (y o : List Bool) : Prop := o.length = w.length + 1 ∧ ∀ j, j ≤ w.length → (o.getD j false = true ↔ ∃ i, i ≤ j ∧ y.getD i false = true ∧ P (seg w i j))

theorem Res.congr {P Q : List UInt8 → Prop} {y o : List Bool} (h : Res P w y o) (e : ∀ u, P u ↔ Q u) : Res Q w y o :=
  ⟨h.1, fun j hj => (h.2 j hj).trans ⟨fun ⟨i, h1, h2, h3⟩ => ⟨i, h1, h2, (e _).1 h3⟩, fun ⟨i, h1, h2, h3⟩ => ⟨i, h1, h2, (e _).2 h3⟩⟩⟩

theorem Res.nil {y : List Bool} (h : y.length = w.length + 1) : Res (fun u => u = []) w y y := ⟨h, fun j hj => by
  constructor
  · intro e; exact ⟨j, Nat.le_refl _, e, seg_self⟩
  · rintro ⟨i, h1, h2, h3⟩
    have := seg_length (w := w) (i := i) hj
    rw [h3] at this
    simp only [List.length_nil] at this
    have : i = j := by omega
    subst this; exact h2⟩

theorem Res.comp {P Q : List UInt8 → Prop} {y m o : List Bool} (h1 : Res P w y m) (h2 : Res Q w m o) : Res (fun u => ∃ a b, u = a ++ b ∧ P a ∧ Q b) w y o := ⟨h2.1, fun j hj => by
  rw [h2.2 j hj]
  constructor
  · rintro ⟨k, hk, e, hq⟩
    obtain ⟨i, hi, e2, hp⟩ := (h1.2 k (by omega)).1 e
    exact ⟨i, by omega, e2, _, _, seg_append hi hk, hp, hq⟩
  · rintro ⟨i, hi, e, a, b, hab, hp, hq⟩
    obtain ⟨k, g1, g2, rfl, rfl⟩ := seg_split hi hj hab
    exact ⟨k, g2, (h1.2 k (by omega)).2 ⟨i, g1, e, hp⟩, hq⟩⟩

theorem rep_false (n j : Nat) : (List.replicate n false).getD j false = false := by
  rw [List.getD_eq_getElem?_getD, List.getElem?_replicate]; split <;> rfl

theorem Res.none {y : List Bool} : Res (fun _ => False) w y (List.replicate (w.length + 1) false) := ⟨List.length_replicate, fun j _ => by
  rw [rep_false]
  exact ⟨fun h => (by cases h), fun ⟨_, _, _, h⟩ => h.elim⟩⟩

/-- both, up to place i -/
def orTo (n i : Nat) (m o : List Bool) : List Bool := (List.range n).map fun j => m.getD j false || (decide (j < i) && o.getD j false)

theorem orTo_length (n i : Nat) (m o : List Bool) : (orTo n i m o).length = n := by unfold orTo; simp
theorem orTo_get {n i j : Nat} (m o : List Bool) (h : j < n) : (orTo n i m o).getD j false = (m.getD j false || (decide (j < i) && o.getD j false)) := by unfold orTo; rw [map_range_getD h]
theorem orTo_zero {n : Nat} {m : List Bool} (o : List Bool) (h : m.length = n) : orTo n 0 m o = m := by
  refine ext_getD false (by rw [orTo_length, h]) fun j hj => ?_
  rw [orTo_length] at hj
  rw [orTo_get m o hj]
  simp
theorem orTo_set {n i : Nat} {m o : List Bool} {b : Bool} (_hi : i < n) (hb : b = (m.getD i false || o.getD i false)) : (orTo n i m o).set i b = orTo n (i + 1) m o := by
  refine ext_getD false (by rw [List.length_set, orTo_length, orTo_length]) fun j hj => ?_
  rw [List.length_set, orTo_length] at hj
  rw [getD_set (by rw [orTo_length]; exact hj), orTo_get m o hj, orTo_get m o hj]
  by_cases e : i = j
  · subst e
    rw [if_pos rfl, hb]
    simp
  · rw [if_neg e]
    by_cases h : j < i
    · rw [decide_eq_true h, decide_eq_true (by omega)]
    · rw [decide_eq_false h, decide_eq_false (by omega)]

theorem Res.or {P Q : List UInt8 → Prop} {y m o : List Bool} (h1 : Res P w y m) (h2 : Res Q w y o) : Res (fun u => P u ∨ Q u) w y (orTo (w.length + 1) (w.length + 1) m o) := ⟨orTo_length _ _ _ _, fun j hj => by
  rw [orTo_get m o (by omega), decide_eq_true (by omega), Bool.true_and, Bool.or_eq_true, h1.2 j hj, h2.2 j hj]
  constructor
  · rintro (⟨i, a, b, c⟩ | ⟨i, a, b, c⟩)
    · exact ⟨i, a, b, .inl c⟩
    · exact ⟨i, a, b, .inr c⟩
  · rintro ⟨i, a, b, c | c⟩
    · exact .inl ⟨i, a, b, c⟩
    · exact .inr ⟨i, a, b, c⟩⟩

/-- a leaf's places, up to place i -/
noncomputable def leafTo (w : List UInt8) (y : List Bool) (s : List Int) (i : Nat) : List Bool := (List.range (w.length + 1)).map fun j => decide (0 < j ∧ j ≤ i) && y.getD (j - 1) false && hasB s (w.getD (j - 1) 0).toNat

theorem leafTo_length (y : List Bool) (s : List Int) (i : Nat) : (leafTo w y s i).length = w.length + 1 := by unfold leafTo; simp
theorem leafTo_get (y : List Bool) (s : List Int) {i j : Nat} (h : j < w.length + 1) : (leafTo w y s i).getD j false = (decide (0 < j ∧ j ≤ i) && y.getD (j - 1) false && hasB s (w.getD (j - 1) 0).toNat) := by unfold leafTo; rw [map_range_getD h]
theorem leafTo_zero (y : List Bool) (s : List Int) : leafTo w y s 0 = List.replicate (w.length + 1) false := by
  refine ext_getD false (by rw [leafTo_length, List.length_replicate]) fun j hj => ?_
  rw [leafTo_length] at hj
  rw [leafTo_get y s hj, rep_false, decide_eq_false (by omega)]
  rfl
theorem leafTo_set {y : List Bool} {s : List Int} {i : Nat} {b : Bool} (_hi : i < w.length) (hb : b = (y.getD i false && hasB s (w.getD i 0).toNat)) : (leafTo w y s i).set (i + 1) b = leafTo w y s (i + 1) := by
  refine ext_getD false (by rw [List.length_set, leafTo_length, leafTo_length]) fun j hj => ?_
  rw [List.length_set, leafTo_length] at hj
  rw [getD_set (by rw [leafTo_length]; exact hj), leafTo_get y s hj, leafTo_get y s hj]
  by_cases e : i + 1 = j
  · subst e
    rw [if_pos rfl, hb, decide_eq_true (by omega)]
    simp
  · rw [if_neg e]
    by_cases h : 0 < j ∧ j ≤ i
    · rw [decide_eq_true h, decide_eq_true (by omega)]
    · rw [decide_eq_false h, decide_eq_false (by omega)]

/-- what byte a set has -/
def hbF : List Int → UInt8 → Prop := fun s b => hasB s b.toNat = true

theorem Res.leaf (y : List Bool) (s : List Int) : Res (fun u => ∃ b, u = [b] ∧ hbF s b) w y (leafTo w y s w.length) := ⟨leafTo_length _ _ _, fun j hj => by
  rw [leafTo_get y s (by omega), Bool.and_eq_true, Bool.and_eq_true, decide_eq_true_eq]
  constructor
  · rintro ⟨⟨⟨h1, _⟩, h2⟩, h3⟩
    refine ⟨j - 1, by omega, h2, _, ?_, h3⟩
    have := seg_one (w := w) (i := j - 1) (by omega)
    rwa [show j - 1 + 1 = j by omega] at this
  · rintro ⟨i, h1, h2, b, h3, h4⟩
    have := seg_length (w := w) (i := i) hj
    rw [h3] at this
    simp only [List.length_singleton] at this
    have e : i = j - 1 := by omega
    subst e
    have h5 := seg_one (w := w) (i := j - 1) (by omega)
    rw [show j - 1 + 1 = j by omega, h3] at h5
    simp only [List.cons.injEq, and_true] at h5
    subst h5
    exact ⟨⟨⟨by omega, by omega⟩, h2⟩, h4⟩⟩

theorem MtC_snoc (hb : List Int → UInt8 → Prop) (r : Rx) : ∀ (l : List Rx) (u : List UInt8), MtC hb (l ++ [r]) u ↔ ∃ a b, u = a ++ b ∧ MtC hb l a ∧ Mt hb r b
  | [], u => by
    simp only [List.nil_append, MtC]
    constructor
    · rintro ⟨a, b, rfl, h, rfl⟩; exact ⟨[], a, by simp, rfl, h⟩
    · rintro ⟨a, b, rfl, rfl, h⟩; exact ⟨b, [], by simp, h, rfl⟩
  | x :: l, u => by
    simp only [List.cons_append, MtC]
    constructor
    · rintro ⟨a, b, rfl, h1, h2⟩
      obtain ⟨c, d, rfl, h3, h4⟩ := (MtC_snoc hb r l b).1 h2
      exact ⟨a ++ c, d, by simp, ⟨a, c, rfl, h1, h3⟩, h4⟩
    · rintro ⟨a, b, rfl, ⟨c, d, rfl, h1, h2⟩, h3⟩
      exact ⟨c, d ++ b, by simp, h1, (MtC_snoc hb r l _).2 ⟨d, b, rfl, h2, h3⟩⟩
theorem MtU_snoc (hb : List Int → UInt8 → Prop) (r : Rx) : ∀ (l : List Rx) (u : List UInt8), MtU hb (l ++ [r]) u ↔ MtU hb l u ∨ Mt hb r u
  | [], u => by simp [MtU]
  | x :: l, u => by simp only [List.cons_append, MtU, MtU_snoc hb r l u, or_assoc]

/-- a closed set of places -/
theorem Res.star {P : List UInt8 → Prop} {y M c : List Bool} (hM : M.length = w.length + 1) (h0 : ∀ i, i ≤ w.length → y.getD i false = true → M.getD i false = true)
    (h1 : ∀ j, j ≤ w.length → M.getD j false = true → ∃ i, i ≤ j ∧ y.getD i false = true ∧ Star P (seg w i j)) (hc : Res P w M c) (h2 : ∀ j, j ≤ w.length → c.getD j false = true → M.getD j false = true) : Res (Star P) w y M := ⟨hM, fun j hj => by
  refine ⟨h1 j hj, ?_⟩
  rintro ⟨i, hi, e, hs⟩
  have key : ∀ u, Star P u → ∀ i j, i ≤ j → j ≤ w.length → u = seg w i j → M.getD i false = true → M.getD j false = true := by
    intro u hu
    induction hu with
    | nil =>
      intro i j hij hj e hm
      have := seg_length (w := w) (i := i) hj
      rw [← e] at this
      simp only [List.length_nil] at this
      have : i = j := by omega
      subst this; exact hm
    | cons u v hp _ ih =>
      intro i j hij hj e hm
      obtain ⟨k, g1, g2, rfl, rfl⟩ := seg_split hij hj e.symm
      exact ih k j g2 hj rfl (h2 k (by omega) ((hc.2 k (by omega)).2 ⟨i, g1, hm, hp⟩))
  exact key _ hs i j hi hj rfl (h0 i (by omega) e)⟩
end

theorem i64_div (b : Nat) (hb : b < 256) : IntKind.i64.wrap ((b : Int).tdiv 64) = ((b / 64 : Nat) : Int) ∧ IntKind.u64.wrap ((b : Int).tmod 64) = ((b % 64 : Nat) : Int) := by
  have e : ∀ b : Fin 256, IntKind.i64.wrap (((b.val : Nat) : Int).tdiv 64) = ((b.val / 64 : Nat) : Int) ∧ IntKind.u64.wrap (((b.val : Nat) : Int).tmod 64) = ((b.val % 64 : Nat) : Int) := by decide +kernel
  exact e ⟨b, hb⟩

theorem p367_spec (s : List Int) {b : Nat} (hb : b < 256) : p367 (s, (b : Int), ()) = some (hasB s b) := by
  obtain ⟨e1, e2⟩ := u8_div b hb
  obtain ⟨e3, e4⟩ := i64_div b hb
  have h := p60_spec s hb
  rw [← h]
  simp only [p367, p60]
  rw [e1, e3, e4, e2]
end Go.AM

/- Runs of a nondeterministic automaton: the program's and the reference's. -/
namespace Go.AM
open Go

def lstep (acc : List Int) (x q : Int) : Int := if acc.getD q.toNat 0 ≥ 0 ∧ (x < 0 ∨ acc.getD q.toNat 0 < x) then acc.getD q.toNat 0 else x
def lacc (acc l : List Int) : Int := l.foldl (lstep acc) (-1)

theorem lacc_snoc (acc l : List Int) (q : Int) : lacc acc (l ++ [q]) = lstep acc (lacc acc l) q := by simp [lacc]

structure NCtx (N : Nat) (st : Int) (arcs : List Arc) (acc : List Int) : Prop where
  hN : st = (N : Int)
  hN2 : N ≤ 2000
  har : ∀ i, i < arcs.length → ArcOk st (arcs.getD i ad)
  hal : arcs.length ≤ 2000
  acl : acc.length = N

noncomputable def runN (arcs : List Arc) (N : Nat) : List Int → List UInt8 → List Int
  | l, [] => l
  | l, b :: w => runN arcs N (stp arcs N l b.toNat) w

section
variable {N : Nat} {st start : Int} {arcs : List Arc} {acc l : List Int}

theorem runN_append : ∀ (w v : List UInt8) (l : List Int), runN arcs N l (w ++ v) = runN arcs N (runN arcs N l w) v
  | [], _, _ => rfl
  | _ :: w, v, _ => runN_append w v _

theorem runN_take {w : List UInt8} {i : Nat} (hi : i < w.length) (l : List Int) : runN arcs N l (w.take (i + 1)) = stp arcs N (runN arcs N l (w.take i)) (w.getD i 0).toNat := by
  rw [List.take_succ_eq_append_getElem hi, runN_append, List.getD_eq_getElem?_getD, List.getElem?_eq_getElem hi]
  rfl

theorem runN_small (w : List UInt8) {l : List Int} (hl : l.length ≤ N ∧ ∀ q ∈ l, 0 ≤ q ∧ q < N) : (runN arcs N l w).length ≤ N ∧ ∀ q ∈ runN arcs N l w, 0 ≤ q ∧ q < N := by
  induction w generalizing l with
  | nil => exact hl
  | cons b w ih =>
    refine ih ⟨clo_length, fun q hq => ?_⟩
    obtain ⟨p, rfl, hp, _⟩ := mem_clo.1 hq
    omega

theorem clo_elem {l : List Int} : (clo arcs N l).length ≤ N ∧ ∀ q ∈ clo arcs N l, 0 ≤ q ∧ q < N := by
  refine ⟨clo_length, fun q hq => ?_⟩
  obtain ⟨p, rfl, hp, _⟩ := mem_clo.1 hq
  omega

theorem p52_spec (hl : ∀ q ∈ l, 0 ≤ q ∧ q < acc.length) (hll : l.length ≤ 9223372036854775807) : p52 ((st, (start, (arcs, (acc, ())))), l, ()) = some (lacc acc l) := by
  have h := for_rule (L := L52_3) (N := l.length) (S := fun i => ((l, (), lacc acc (l.take i), (i : Int), ()), ((st, start, arcs, acc, ()), ()))) (r := ((lacc acc l, ()), ()))
    (fun i hi n => by
      have hq := hl _ (getD_mem (d := 0) hi)
      simp only [L52_3, Int.toNat_natCast]
      rw [if_pos (lt_nat hi), if_pos (in_range hi), if_pos (ct hq), take_snoc (d := 0) hi, lacc_snoc, wrap_nat (by omega)]
      unfold lstep
      by_cases h1 : acc.getD (l.getD i 0).toNat 0 ≥ 0
      · rw [if_pos (ct h1)]
        by_cases h2 : lacc acc (l.take i) < 0
        · rw [if_pos (ct h2), if_pos ⟨h1, .inl h2⟩]
        · rw [if_neg (cf h2)]
          by_cases h3 : acc.getD (l.getD i 0).toNat 0 < lacc acc (l.take i)
          · rw [if_pos (ct h3), if_pos ⟨h1, .inr h3⟩]
          · rw [if_neg (cf h3), if_neg (fun h => h.2.elim h2 h3)]
      · rw [if_neg (cf h1), if_neg (fun h => h1 h.1)])
    (fun n => by simp only [L52_3]; rw [if_neg nlt_nat, List.take_length]) (by omega)
  simp only [p52]
  have h' : limit L52_3 ((l, (), (-1 : Int), (0 : Int), ()), ((st, start, arcs, acc, ()), ())) = some ((lacc acc l, ()), ()) := h
  rw [h']
  rfl

theorem l320_9 (hl : ∀ q ∈ l, 0 ≤ q ∧ q < acc.length) (hll : l.length ≤ 9223372036854775807) :
    limit L320_9 (((), (-1 : Int), l, (l.length : Int), (0 : Int), ()), ((st, start, arcs, acc, ()), ())) = some ((lacc acc l, ()), ()) :=
  for_rule (L := L320_9) (N := l.length) (S := fun i => (((), lacc acc (l.take i), l, (l.length : Int), (i : Int), ()), ((st, start, arcs, acc, ()), ()))) (r := ((lacc acc l, ()), ()))
    (fun i hi n => by
      have hq := hl _ (getD_mem (d := 0) hi)
      simp only [L320_9, Int.toNat_natCast]
      rw [if_pos (lt_nat hi), if_pos (in_range hi), if_pos (ct hq), take_snoc (d := 0) hi, lacc_snoc, wrap_nat (by omega)]
      unfold lstep
      by_cases h1 : acc.getD (l.getD i 0).toNat 0 ≥ 0
      · rw [if_pos (ct h1)]
        by_cases h2 : lacc acc (l.take i) < 0
        · rw [if_pos (ct h2), if_pos ⟨h1, .inl h2⟩]
        · rw [if_neg (cf h2)]
          by_cases h3 : acc.getD (l.getD i 0).toNat 0 < lacc acc (l.take i)
          · rw [if_pos (ct h3), if_pos ⟨h1, .inr h3⟩]
          · rw [if_neg (cf h3), if_neg (fun h => h.2.elim h2 h3)]
      · rw [if_neg (cf h1), if_neg (fun h => h1 h.1)])
    (fun n => by simp only [L320_9]; rw [if_neg nlt_nat, List.take_length]) (by omega)

theorem p23_spec (C : NCtx N st arcs acc) {w : List UInt8} (hw : w.length ≤ 1000) : p23 ((st, (start, (arcs, (acc, ())))), w, ()) = some (lacc acc (runN arcs N (clo arcs N [start]) w)) := by
  have hN2 := C.hN2
  have hal := C.hal
  have e1 := p48_spec (start := start) (acc := acc) (l := [start]) C.hN C.hN2 C.har (by omega) (by simp)
  have hlim : limit L23_3 ((w, (), clo arcs N [start], (0 : Int), ()), ((st, start, arcs, acc, ()), ())) = some (((), runN arcs N (clo arcs N [start]) w, ()), ((st, start, arcs, acc, ()), ())) :=
    for_rule (L := L23_3) (N := w.length) (S := fun i => ((w, (), runN arcs N (clo arcs N [start]) (w.take i), (i : Int), ()), ((st, start, arcs, acc, ()), ())))
      (fun i hi n => by
        have hs := runN_small (arcs := arcs) (w.take i) (clo_elem (arcs := arcs) (N := N) (l := [start]))
        have e49 := p49_spec (start := start) (acc := acc) (l := runN arcs N (clo arcs N [start]) (w.take i)) C.hN C.hN2 C.har C.hal (by omega) (UInt8.toNat_lt (w.getD i 0))
        simp only [L23_3, Int.toNat_natCast]
        rw [if_pos (lt_nat hi), if_pos (in_range hi), e49, Option.bind_some, runN_take hi, wrap_nat (by omega)])
      (fun n => by simp only [L23_3]; rw [if_neg nlt_nat, List.take_length]) (by omega)
  have hs := runN_small (arcs := arcs) w (clo_elem (arcs := arcs) (N := N) (l := [start]))
  have e52 := p52_spec (st := st) (start := start) (arcs := arcs) (acc := acc) (l := runN arcs N (clo arcs N [start]) w) (fun q hq => by rw [C.acl]; exact hs.2 q hq) (by omega)
  simp only [p23]
  rw [e1, Option.bind_some, hlim]
  simp only [Option.bind_some]
  rw [e52]
  rfl

theorem map_bytes {w : List UInt8} {i : Nat} (hi : i < w.length) : (w.map fun b => (b.toNat : Int)).getD i 0 = ((w.getD i 0).toNat : Int) := map_getD hi

theorem p320_spec (C : NCtx N st arcs acc) {w : List UInt8} (hw : w.length ≤ 1000) : p320 ((st, (start, (arcs, (acc, ())))), w, ()) = some (lacc acc (runN arcs N (clo arcs N [start]) w)) := by
  have hN2 := C.hN2
  have hal := C.hal
  have e1 := p41_spec (start := start) (acc := acc) (l := [start]) C.hN C.hN2 C.har (by omega) (by simp)
  have hlen : (w.map fun b => (b.toNat : Int)).length = w.length := List.length_map _
  have hlim : limit L320_3 (((), clo arcs N [start], (w.map fun b => (b.toNat : Int)), ((w.map fun b => (b.toNat : Int)).length : Int), (0 : Int), ()), ((st, start, arcs, acc, ()), ())) = some (((), runN arcs N (clo arcs N [start]) w, ()), ((st, start, arcs, acc, ()), ())) := by
    rw [hlen]
    exact for_rule (L := L320_3) (N := w.length) (S := fun i => (((), runN arcs N (clo arcs N [start]) (w.take i), (w.map fun b => (b.toNat : Int)), (w.length : Int), (i : Int), ()), ((st, start, arcs, acc, ()), ())))
      (fun i hi n => by
        have hs := runN_small (arcs := arcs) (w.take i) (clo_elem (arcs := arcs) (N := N) (l := [start]))
        have e43 := p43_spec (start := start) (acc := acc) (l := runN arcs N (clo arcs N [start]) (w.take i)) C.hN C.hN2 C.har C.hal (by omega) (UInt8.toNat_lt (w.getD i 0))
        simp only [L320_3, Int.toNat_natCast]
        rw [if_pos (lt_nat hi), if_pos (in_range (by rw [hlen]; exact hi)), map_bytes hi, e43, Option.bind_some, runN_take hi, wrap_nat (by omega)])
      (fun n => by simp only [L320_3]; rw [if_neg nlt_nat, List.take_length]) (by omega)
  have hs := runN_small (arcs := arcs) w (clo_elem (arcs := arcs) (N := N) (l := [start]))
  have e9 := l320_9 (st := st) (start := start) (arcs := arcs) (acc := acc) (l := runN arcs N (clo arcs N [start]) w) (fun q hq => by rw [C.acl]; exact hs.2 q hq) (by omega)
  simp only [p320]
  rw [e1, Option.bind_some, hlim]
  simp only [Option.bind_some]
  rw [e9]
  rfl

theorem p316_refl (hl : l.length ≤ 9223372036854775807) : p316 (l, l, ()) = some true := by
  have h : limit L316_4 ((l, l, (0 : Int), ()), ()) = some (.inr ((), ())) :=
    for_rule (L := L316_4) (N := l.length) (S := fun i => ((l, l, (i : Int), ()), ()))
      (fun i hi n => by
        simp only [L316_4, Int.toNat_natCast]
        rw [if_pos (lt_nat hi), if_pos (in_range hi), if_pos (in_range hi), if_neg (cnf trivial), wrap_nat (by omega)])
      (fun n => by simp only [L316_4]; rw [if_neg nlt_nat]) (by omega)
  simp only [p316]
  rw [if_neg (cnf trivial), h]
  rfl

/-- a light automaton -/
theorem p314_spec (hal : arcs.length ≤ 9223372036854775807) : ∃ b, p314 ((st, (start, (arcs, (acc, ())))), ()) = some b ∧ (b = true → ∃ N : Nat, N ≤ 40 ∧ arcs.length ≤ 60 ∧ NCtx N st arcs acc ∧ VNfa st start arcs acc) := by
  obtain ⟨b, h1, h2⟩ := p45_spec (st := st) (start := start) (acc := acc) hal
  simp only [p314]
  by_cases g1 : (arcs.length : Int) ≤ 60
  · rw [if_pos (ct g1)]
    by_cases g2 : st ≤ 40
    · rw [if_pos (ct g2), h1]
      refine ⟨b, rfl, fun hb => ?_⟩
      have V := h2.1 hb
      have := V.s1
      have := V.al
      refine ⟨st.toNat, by omega, by omega, ⟨by omega, by omega, V.ar, by omega, by omega⟩, V⟩
    · rw [if_neg (cf g2)]; exact ⟨false, rfl, fun h => by cases h⟩
  · rw [if_neg (cf g1)]; exact ⟨false, rfl, fun h => by cases h⟩
end
end Go.AM

/- Few expressions; the same automaton twice; runs with many arcs: plain. -/
namespace Go.AM
open Go

theorem nnL_few : ∀ {l : List Rx} {m : Nat}, (∀ r ∈ l, nn r ≤ m) → nnL l ≤ m * l.length
  | [], m, _ => by simp [nnL]
  | r :: l, m, h => by
    have h1 := h r List.mem_cons_self
    have h2 := nnL_few (l := l) (m := m) (fun x hx => h x (List.mem_cons_of_mem _ hx))
    unfold nnL
    rw [List.length_cons, Nat.mul_succ]; omega

theorem nn_le_nnL : ∀ {l : List Rx} {r : Rx}, r ∈ l → nn r ≤ nnL l
  | x :: l, r, h => by
    unfold nnL
    rcases List.mem_cons.1 h with rfl | h
    · omega
    · have := nn_le_nnL h; omega

theorem p323_spec {l : List Rx} (hw : ∀ r ∈ l, wfR r) (hn : nnL l ≤ 1152921504606846976) : ∃ b, p323 (l, ()) = some b ∧ (b = true → l.length ≤ 6 ∧ AllV l ∧ nnL l ≤ 180) := by
  by_cases h6 : (l.length : Int) > 6
  · refine ⟨false, ?_, fun h => by cases h⟩
    simp only [p323]
    rw [if_pos (ct h6)]
  · have key : ∃ r, limit L323_4 ((l, (0 : Int), ()), ()) = some r ∧ ((r = .inr ((), ()) ∧ (∀ r ∈ l, VR 30 r ∧ nn r ≤ 30)) ∨ r = .inl ((false, ()), ())) := by
      refine state_rule (L := L323_4) (σ := Nat) (fun i => ((l, (i : Int), ()), ())) (fun i => i ≤ l.length ∧ ∀ j, j < i → VR 30 (l.getD j rxd) ∧ nn (l.getD j rxd) ≤ 30) (fun i => l.length - i)
        (fun r => (r = .inr ((), ()) ∧ (∀ r ∈ l, VR 30 r ∧ nn r ≤ 30)) ∨ r = .inl ((false, ()), ())) 0 ⟨Nat.zero_le _, fun j h => absurd h (Nat.not_lt_zero j)⟩ (by show _ - 0 < _; omega) ?_
      rintro i ⟨hi, hall⟩
      by_cases hlt : i < l.length
      · have hm : l.getD i rxd ∈ l := getD_mem hlt
        obtain ⟨b, e1, e2⟩ := p338_spec (hw _ hm)
        have hne := nrm_eq (hw _ hm).four
        unfold nrm at hne
        cases b with
        | true =>
          have e3 := p339_top (hw _ hm) (e2.1 rfl) (Nat.le_trans (nn_le_nnL hm) hn)
          by_cases h30 : nn (l.getD i rxd) ≤ 30
          · right
            refine ⟨i + 1, ⟨hlt, fun j hj => ?_⟩, by omega, fun n => ?_⟩
            · by_cases e : j = i
              · subst e; exact ⟨e2.1 rfl, h30⟩
              · exact hall j (by omega)
            · simp only [L323_4, Int.toNat_natCast]
              rw [if_pos (lt_nat hlt), if_pos (in_range hlt), hne, e1, Option.bind_some, if_neg (by decide), if_pos (in_range hlt), e3, Option.bind_some, if_neg (cf (by omega)), wrap_nat (by omega)]
          · left
            refine ⟨_, .inr rfl, fun n => ?_⟩
            simp only [L323_4, Int.toNat_natCast]
            rw [if_pos (lt_nat hlt), if_pos (in_range hlt), hne, e1, Option.bind_some, if_neg (by decide), if_pos (in_range hlt), e3, Option.bind_some, if_pos (ct (by omega))]
        | false =>
          left
          refine ⟨_, .inr rfl, fun n => ?_⟩
          simp only [L323_4, Int.toNat_natCast]
          rw [if_pos (lt_nat hlt), if_pos (in_range hlt), hne, e1, Option.bind_some, if_pos (by decide)]
      · left
        have : i = l.length := by omega
        subst this
        refine ⟨_, .inl ⟨rfl, all_getD.2 hall⟩, fun n => ?_⟩
        simp only [L323_4]
        rw [if_neg nlt_nat]
    obtain ⟨r, e, h⟩ := key
    simp only [p323]
    rw [if_neg (cf h6), e]
    rcases h with ⟨rfl, h⟩ | rfl
    · refine ⟨true, rfl, fun _ => ⟨by omega, fun r hr => (h r hr).1, ?_⟩⟩
      have := nnL_few (fun r hr => (h r hr).2)
      omega
    · exact ⟨false, rfl, fun h => by cases h⟩

theorem listEqB_refl {α : Type} {e : α → α → Bool} (h : ∀ x, e x x = true) : ∀ l : List α, listEqB e l l = true
  | [] => rfl
  | x :: l => by unfold listEqB; rw [h x, listEqB_refl h l]; rfl

theorem arcEq_refl (x : Arc) : Kind.eqB (.pair (.int .i64) (.pair (.int .i64) (.pair .bool (.pair (.arr 4 (.int .u64)) .unit)))) x x = true := by
  have h4 : listEqB (Kind.eqB (.int .u64)) x.2.2.2.1 x.2.2.2.1 = true := listEqB_refl (e := Kind.eqB (.int .u64)) (fun z => decide_eq_true (rfl : (z : Int) = z)) _
  show (decide (x.1 = x.1) && (decide (x.2.1 = x.2.1) && ((x.2.2.1 == x.2.2.1) && (listEqB (Kind.eqB (.int .u64)) x.2.2.2.1 x.2.2.2.1 && true)))) = true
  rw [h4]; simp

theorem p326_refl {st start : Int} {arcs : List Arc} {acc : List Int} (h1 : arcs.length ≤ 9223372036854775807) (h2 : acc.length ≤ 9223372036854775807) : p326 ((st, (start, (arcs, (acc, ())))), (st, (start, (arcs, (acc, ())))), ()) = some true := by
  have h : limit L326_4 (((), (), (0 : Int), ()), ((st, start, arcs, acc, ()), (st, start, arcs, acc, ()), ())) = some (.inr ((), ())) :=
    for_rule (L := L326_4) (N := arcs.length) (S := fun i => (((), (), (i : Int), ()), ((st, start, arcs, acc, ()), (st, start, arcs, acc, ()), ())))
      (fun i hi n => by
        have e := arcEq_refl ((arcs.getD i ad).1, ((arcs.getD i ad).2.1, ((arcs.getD i ad).2.2.1, (setOf (arcs.getD i ad), ()))))
        simp only [L326_4, Int.toNat_natCast]
        rw [if_pos (lt_nat hi), if_pos (in_range hi), if_pos (in_range hi), e_ad, e, if_neg ntf, wrap_nat (by omega)])
      (fun n => by simp only [L326_4]; rw [if_neg nlt_nat]) (by omega)
  have hr := p316_refl (l := acc) h2
  simp only [p326]
  rw [if_neg (cnf trivial), if_neg (cnf trivial), if_neg (cnf trivial), hr]
  simp only [Option.bind_some]
  rw [if_neg ntf, h]
  rfl

section
variable {N : Nat} {st start : Int} {arcs : List Arc} {acc : List Int} {l : List Int}

theorem l43_9m (hN : st = (N : Int)) (har : ∀ i, i < arcs.length → ArcOk st (arcs.getD i ad)) (hal : arcs.length ≤ 1000000) {fr : List Bool} (hfr : fr.length = N) {b : Nat} (hb : b < 256) :
    limit L43_9 (((b : Int), (), (), (), arcs, (arcs.length : Int), (0 : Int), ()), ((st, start, arcs, acc, ()), ([] : List (Int)), fr, ())) = some (((), (), ()), ((st, start, arcs, acc, ()), tgt arcs fr b, ())) := by
  exact for_rule (L := L43_9) (N := arcs.length) (S := fun i => (((b : Int), (), (), (), arcs, (arcs.length : Int), (i : Int), ()), ((st, start, arcs, acc, ()), tgt (arcs.take i) fr b, fr, ())))
    (r := (((), (), ()), ((st, start, arcs, acc, ()), tgt arcs fr b, ())))
    (fun i hi n => by
      obtain ⟨a1, a2, a3, a4, _⟩ := har i hi
      have hlen : (tgt (arcs.take i) fr b).length ≤ i := Nat.le_trans tgt_small (by rw [List.length_take]; omega)
      have e60 := p60_spec (setOf (arcs.getD i ad)) hb
      simp only [L43_9, Int.toNat_natCast]
      rw [e_ad, if_pos (lt_nat hi), if_pos (in_range hi), tgt_snoc hi, wrap_nat (by omega)]
      cases h1 : (arcs.getD i ad).2.2.1 with
      | true => rw [if_neg ntf]; simp
      | false =>
        rw [if_pos nft, if_pos (ct (by omega))]
        cases h2 : fr.getD (arcs.getD i ad).1.toNat false with
        | false => rw [if_neg ff]; simp
        | true =>
          rw [if_pos rfl, e60, Option.bind_some]
          cases h3 : hasB (setOf (arcs.getD i ad)) b with
          | false => rw [if_neg ff]; simp
          | true => rw [if_pos rfl, if_pos (ct (by simp only [List.length_singleton, lim]; omega))]; simp)
    (fun n => by simp only [L43_9]; rw [if_neg nlt_nat, List.take_length]) (by omega)

theorem p43_many (hN : st = (N : Int)) (hN2 : N ≤ 2000) (har : ∀ i, i < arcs.length → ArcOk st (arcs.getD i ad)) (hal : arcs.length ≤ 1000000) (hl : l.length ≤ 9223372036854775807) {b : Nat} (hb : b < 256) :
    p43 ((st, (start, (arcs, (acc, ())))), l, (b : Int), ()) = some (stp arcs N l b) := by
  have e1 := p41_spec (start := start) (acc := acc) hN hN2 har (by omega) hl
  have e2 := l43_3 (start := start) (arcs := arcs) (acc := acc) (l := l) hN hN2 (b : Int)
  have e3 := l43_9m (start := start) (acc := acc) (fr := frF arcs N l) hN har hal frF_length hb
  have hs := tgt_small (arcs := arcs) (fr := frF arcs N l) (b := b)
  have e4 := p41_spec (start := start) (acc := acc) (l := tgt arcs (frF arcs N l) b) hN hN2 har (by omega) (by omega)
  simp only [p43]
  rw [if_pos (ct ⟨trivial, by omega, by simp only [lim]; omega⟩), e1]
  simp only [Option.bind_some]
  rw [e2]
  simp only [Option.bind_some]
  rw [e3]
  simp only [Option.bind_some]
  rw [e4]
  rfl

theorem p320_many (hN : st = (N : Int)) (hN2 : N ≤ 2000) (har : ∀ i, i < arcs.length → ArcOk st (arcs.getD i ad)) (hal : arcs.length ≤ 1000000) (acl : acc.length = N) {w : List UInt8} (hw : w.length ≤ 1000) : p320 ((st, (start, (arcs, (acc, ())))), w, ()) = some (lacc acc (runN arcs N (clo arcs N [start]) w)) := by
  have e1 := p41_spec (start := start) (acc := acc) (l := [start]) hN hN2 har (by omega) (by simp)
  have hlen : (w.map fun b => (b.toNat : Int)).length = w.length := List.length_map _
  have hlim : limit L320_3 (((), clo arcs N [start], (w.map fun b => (b.toNat : Int)), ((w.map fun b => (b.toNat : Int)).length : Int), (0 : Int), ()), ((st, start, arcs, acc, ()), ())) = some (((), runN arcs N (clo arcs N [start]) w, ()), ((st, start, arcs, acc, ()), ())) := by
    rw [hlen]
    exact for_rule (L := L320_3) (N := w.length) (S := fun i => (((), runN arcs N (clo arcs N [start]) (w.take i), (w.map fun b => (b.toNat : Int)), (w.length : Int), (i : Int), ()), ((st, start, arcs, acc, ()), ())))
      (fun i hi n => by
        have hs := runN_small (arcs := arcs) (w.take i) (clo_elem (arcs := arcs) (N := N) (l := [start]))
        have e43 := p43_many (start := start) (acc := acc) (l := runN arcs N (clo arcs N [start]) (w.take i)) hN hN2 har hal (by omega) (UInt8.toNat_lt (w.getD i 0))
        simp only [L320_3, Int.toNat_natCast]
        rw [if_pos (lt_nat hi), if_pos (in_range (by rw [hlen]; exact hi)), map_bytes hi, e43, Option.bind_some, runN_take hi, wrap_nat (by omega)])
      (fun n => by simp only [L320_3]; rw [if_neg nlt_nat, List.take_length]) (by omega)
  have hs := runN_small (arcs := arcs) w (clo_elem (arcs := arcs) (N := N) (l := [start]))
  have e9 := l320_9 (st := st) (start := start) (arcs := arcs) (acc := acc) (l := runN arcs N (clo arcs N [start]) w) (fun q hq => by rw [acl]; exact hs.2 q hq) (by omega)
  simp only [p320]
  rw [e1, Option.bind_some, hlim]
  simp only [Option.bind_some]
  rw [e9]
  rfl
end

/-- the least accepted number -/
theorem lacc_spec (acc : List Int) (l : List Int) : (lacc acc l = -1 ∧ ∀ q ∈ l, acc.getD q.toNat 0 < 0) ∨ ∃ q ∈ l, 0 ≤ acc.getD q.toNat 0 ∧ lacc acc l = acc.getD q.toNat 0 ∧ ∀ p ∈ l, 0 ≤ acc.getD p.toNat 0 → acc.getD q.toNat 0 ≤ acc.getD p.toNat 0 := by
  induction l using snoc_ind with
  | h0 => exact .inl ⟨rfl, fun q hq => by cases hq⟩
  | h1 l a ih =>
    rw [lacc_snoc]
    unfold lstep
    rcases ih with ⟨h1, h2⟩ | ⟨q, hq, h1, h2, h3⟩
    · by_cases ha : acc.getD a.toNat 0 ≥ 0
      · right
        refine ⟨a, by simp, ha, if_pos ⟨ha, .inl (by omega)⟩, fun p hp h => ?_⟩
        rcases List.mem_append.1 hp with hp | hp
        · have := h2 p hp; omega
        · simp only [List.mem_singleton] at hp; subst hp; exact Int.le_refl _
      · left
        refine ⟨by rw [if_neg (fun h => ha h.1)]; exact h1, fun q hq => ?_⟩
        rcases List.mem_append.1 hq with hq | hq
        · exact h2 q hq
        · simp only [List.mem_singleton] at hq; subst hq; omega
    · right
      by_cases ha : acc.getD a.toNat 0 ≥ 0 ∧ acc.getD a.toNat 0 < acc.getD q.toNat 0
      · refine ⟨a, by simp, ha.1, if_pos ⟨ha.1, .inr (by omega)⟩, fun p hp h => ?_⟩
        rcases List.mem_append.1 hp with hp | hp
        · have := h3 p hp h; omega
        · simp only [List.mem_singleton] at hp; subst hp; exact Int.le_refl _
      · refine ⟨q, List.mem_append_left _ hq, h1, by rw [if_neg (fun h => ha ⟨h.1, by omega⟩)]; exact h2, fun p hp h => ?_⟩
        rcases List.mem_append.1 hp with hp | hp
        · exact h3 p hp h
        · simp only [List.mem_singleton] at hp; subst hp; omega
end Go.AM

/- The automaton of a list runs as its expressions match, plain. -/
namespace Go.AM
open Go

/-- leaves ahead of expression k -/
def off (l : List Rx) (k : Nat) : Nat := (lvL (l.take k)).length
/-- expression k -/
def ex (l : List Rx) (k : Nat) : Rx := l.getD k rxd

theorem off_cons (r : Rx) (l : List Rx) (k : Nat) : off (r :: l) (k + 1) = (lv r).length + off l k := by unfold off; simp [lvL]
theorem off_zero (l : List Rx) : off l 0 = 0 := by unfold off; simp [lvL]
theorem off_succ (l : List Rx) {k : Nat} (h : k < l.length) : off l (k + 1) = off l k + (lv (ex l k)).length := by
  unfold off ex
  rw [take_snoc (d := rxd) h, lvL_append, List.length_append]
  simp [lvL]
theorem off_mono (l : List Rx) {j k : Nat} (h : j ≤ k) (hk : k ≤ l.length) : off l j ≤ off l k := by
  induction k with
  | zero => have : j = 0 := by omega
            subst this; exact Nat.le_refl _
  | succ k ih =>
    by_cases e : j = k + 1
    · subst e; exact Nat.le_refl _
    · have := ih (by omega) (by omega)
      rw [off_succ l (show k < l.length by omega)]; omega
theorem off_le (l : List Rx) {j k : Nat} (h : j < k) (hk : k ≤ l.length) : off l j + (lv (ex l j)).length ≤ off l k := by
  rw [← off_succ l (show j < l.length by omega)]
  exact off_mono l h hk
theorem off_all (l : List Rx) : off l l.length = (lvL l).length := by unfold off; rw [List.take_length]

theorem mem_flA : ∀ (l : List Rx) (o : Nat) (x : Int × Int), x ∈ flA l o ↔ ∃ k, k < l.length ∧ (x ∈ fl (ex l k) (o + off l k) ∨ (x.1 = 0 ∧ x.2 ∈ (gl (ex l k) (o + off l k)).f))
  | [], o, x => by
    unfold flA
    constructor
    · intro h; cases h
    · rintro ⟨k, hk, _⟩; simp at hk
  | r :: l, o, x => by
    unfold flA
    rw [List.mem_append, List.mem_append, mem_prs, mem_flA l]
    constructor
    · rintro ((h | ⟨h1, h2⟩) | ⟨k, hk, h⟩)
      · exact ⟨0, by simp, .inl (by rw [off_zero]; exact h)⟩
      · exact ⟨0, by simp, .inr ⟨by simpa using h1, by rw [off_zero]; exact h2⟩⟩
      · exact ⟨k + 1, by simpa using hk, by rw [off_cons, ← Nat.add_assoc]; exact h⟩
    · rintro ⟨k, hk, h⟩
      match k, hk, h with
      | 0, _, h =>
        rw [off_zero] at h
        rcases h with h | ⟨h1, h2⟩
        · exact .inl (.inl h)
        · exact .inl (.inr ⟨by simpa using h1, h2⟩)
      | k + 1, hk, h =>
        rw [off_cons, ← Nat.add_assoc] at h
        exact .inr ⟨k, by simpa using hk, h⟩

section
variable {T : Int → UInt8 → Prop} {l : List Rx}

theorem En_flA {w : List UInt8} {x : Int} : En (fun q => ((0 : Int), q) ∈ flA l 0) (mF (flA l 0)) T w x ↔ ∃ k, k < l.length ∧ En (mf (gl (ex l k) (off l k)).f) (mF (fl (ex l k) (off l k))) T w x := by
  constructor
  · intro h
    induction h with
    | one b q h1 h2 =>
      obtain ⟨k, hk, h⟩ := (mem_flA l 0 _).1 h1
      rw [Nat.zero_add] at h
      rcases h with h | ⟨_, h⟩
      · have := (fl_in _ _ _ h).1
        simp only at this
        omega
      · exact ⟨k, hk, .one b q h h2⟩
    | more w p q b _ h2 h3 ih =>
      obtain ⟨j, hj, he⟩ := ih
      have hr := En_range (gl_pin (ex l j) (off l j)) (fl_in (ex l j) (off l j)) he
      obtain ⟨k, hk, h⟩ := (mem_flA l 0 _).1 h2
      rw [Nat.zero_add] at h
      rcases h with h | ⟨h, _⟩
      · have hin := (fl_in _ _ _ h).1
        simp only at hin
        have : j = k := by
          rcases Nat.lt_trichotomy j k with hlt | heq | hgt
          · have := off_le l hlt (by omega); omega
          · exact heq
          · have := off_le l hgt (by omega); omega
        subst this
        exact ⟨j, hj, .more w p q b he h h3⟩
      · simp only at h; omega
  · rintro ⟨k, hk, h⟩
    refine h.mono (fun q hq => ?_) (fun p q hpq => ?_)
    · exact (mem_flA l 0 _).2 ⟨k, hk, .inr ⟨rfl, by rw [Nat.zero_add]; exact hq⟩⟩
    · exact (mem_flA l 0 _).2 ⟨k, hk, .inl (by rw [Nat.zero_add]; exact hpq)⟩
end

/-! ### accepted numbers -/

theorem setAll_get (i : Int) : ∀ (ps a : List Int) {q : Nat}, q < a.length → (∀ p ∈ ps, 0 ≤ p) → (setAll i a ps).getD q 0 = if (q : Int) ∈ ps then i else a.getD q 0
  | [], a, q, _, _ => by simp [setAll]
  | p :: ps, a, q, hq, hp => by
    show (setAll i (a.set p.toNat i) ps).getD q 0 = _
    rw [setAll_get i ps _ (by rw [List.length_set]; exact hq) (fun x hx => hp x (List.mem_cons_of_mem _ hx)), getD_set hq]
    have h0 := hp p List.mem_cons_self
    by_cases h1 : (q : Int) ∈ ps
    · rw [if_pos h1, if_pos (List.mem_cons_of_mem _ h1)]
    · rw [if_neg h1]
      by_cases h2 : p.toNat = q
      · rw [if_pos h2, if_pos (by have : (q : Int) = p := by omega
                                  rw [this]; exact List.mem_cons_self)]
      · rw [if_neg h2, if_neg (fun h => by
          rcases List.mem_cons.1 h with h | h
          · omega
          · exact h1 h)]

theorem acS_get {r : Rx} {o i : Nat} {acc : List Int} (ha : acc.length = o + 1) {q : Nat} (h1 : 1 ≤ q) (h2 : q ≤ o + (lv r).length) :
    (acS r o (i : Int) acc).getD q 0 = if o < q then (if (q : Int) ∈ (gl r o).l then (i : Int) else -1) else acc.getD q 0 := by
  have hp := gl_pin r o
  have hset : (acS r o (i : Int) acc).getD q 0 = (setAll (i : Int) (acc ++ List.replicate (lv r).length (-1)) (gl r o).l).getD q 0 := by
    unfold acS
    simp only
    split
    · rw [getD_set (by rw [setAll_length, List.length_append, List.length_replicate]; omega), if_neg (by omega)]
    · rfl
  rw [hset, setAll_get _ _ _ (by rw [List.length_append, List.length_replicate]; omega) (fun p hp' => by have := hp.2.1 p hp'; omega)]
  by_cases h3 : o < q
  · rw [if_pos h3]
    congr 1
    rw [List.getD_eq_getElem?_getD, List.getElem?_append_right (by omega), List.getElem?_replicate, if_pos (by omega)]
    rfl
  · rw [if_neg h3, if_neg (fun h => by have := hp.2.1 _ h; omega), List.getD_eq_getElem?_getD, List.getElem?_append_left (by omega), List.getD_eq_getElem?_getD]

theorem acS_zero {r : Rx} {o i : Nat} {acc : List Int} (ha : acc.length = o + 1) : (acS r o (i : Int) acc).getD 0 0 = if (gl r o).n = true ∧ acc.getD 0 0 < 0 then (i : Int) else acc.getD 0 0 := by
  have hp := gl_pin r o
  have h0 : (setAll (i : Int) (acc ++ List.replicate (lv r).length (-1)) (gl r o).l).getD 0 0 = acc.getD 0 0 := by
    rw [setAll_get _ _ _ (by rw [List.length_append]; omega) (fun p hp' => by have := hp.2.1 p hp'; omega), if_neg (fun h => by have := hp.2.1 _ h; omega), List.getD_eq_getElem?_getD, List.getElem?_append_left (by omega), List.getD_eq_getElem?_getD]
  unfold acS
  simp only
  rw [h0]
  split
  · rw [getD_set (by rw [setAll_length, List.length_append]; omega), if_pos rfl]
  · exact h0

theorem acA_old : ∀ (l : List Rx) (o i : Nat) (acc : List Int), acc.length = o + 1 → ∀ q, 1 ≤ q → q ≤ o → (acA l o i acc).getD q 0 = acc.getD q 0
  | [], _, _, _, _, _, _, _ => rfl
  | r :: l, o, i, acc, ha, q, h1, h2 => by
    unfold acA
    rw [acA_old l (o + (lv r).length) (i + 1) (acS r o (i : Int) acc) (by rw [acS_length]; omega) q h1 (by omega), acS_get ha h1 (by omega), if_neg (by omega)]

theorem acA_pos : ∀ (l : List Rx) (o i : Nat) (acc : List Int), acc.length = o + 1 → ∀ k, k < l.length → ∀ q, o + off l k < q → q ≤ o + off l k + (lv (ex l k)).length →
    (acA l o i acc).getD q 0 = if (q : Int) ∈ (gl (ex l k) (o + off l k)).l then ((i + k : Nat) : Int) else -1
  | [], _, _, _, _, k, hk, _, _, _ => absurd hk (by simp)
  | r :: l, o, i, acc, ha, 0, _, q, h1, h2 => by
    rw [off_zero] at h1 h2 ⊢
    simp only [Nat.add_zero] at h1 h2 ⊢
    have e : ex (r :: l) 0 = r := rfl
    rw [e] at h2 ⊢
    unfold acA
    rw [acA_old l (o + (lv r).length) (i + 1) (acS r o (i : Int) acc) (by rw [acS_length]; omega) q (by omega) h2, acS_get ha (by omega) h2, if_pos h1]
  | r :: l, o, i, acc, ha, k + 1, hk, q, h1, h2 => by
    rw [off_cons, ← Nat.add_assoc] at h1 h2 ⊢
    have e : ex (r :: l) (k + 1) = ex l k := rfl
    rw [e] at h2 ⊢
    unfold acA
    have := acA_pos l (o + (lv r).length) (i + 1) (acS r o (i : Int) acc) (by rw [acS_length]; omega) k (by simpa using hk) q h1 h2
    rw [this, show i + 1 + k = i + (k + 1) by omega]

theorem acA_zero : ∀ (l : List Rx) (o i : Nat) (acc : List Int), acc.length = o + 1 →
    (0 ≤ acc.getD 0 0 → (acA l o i acc).getD 0 0 = acc.getD 0 0) ∧ (acc.getD 0 0 < 0 →
      ((∀ k, k < l.length → (gl (ex l k) (o + off l k)).n = false) ∧ (acA l o i acc).getD 0 0 < 0) ∨ ∃ k, k < l.length ∧ (gl (ex l k) (o + off l k)).n = true ∧ (∀ j, j < k → (gl (ex l j) (o + off l j)).n = false) ∧ (acA l o i acc).getD 0 0 = ((i + k : Nat) : Int))
  | [], o, i, acc, _ => ⟨fun _ => rfl, fun h => .inl ⟨fun k hk => absurd hk (by simp), h⟩⟩
  | r :: l, o, i, acc, ha => by
    have hz := acS_zero (r := r) (i := i) ha
    obtain ⟨h1, h2⟩ := acA_zero l (o + (lv r).length) (i + 1) (acS r o (i : Int) acc) (by rw [acS_length]; omega)
    have e0 : ex (r :: l) 0 = r := rfl
    have hn0 : (gl (ex (r :: l) 0) (o + off (r :: l) 0)).n = (gl r o).n := by rw [e0, off_zero]; rfl
    have hnk : ∀ k, (gl (ex (r :: l) (k + 1)) (o + off (r :: l) (k + 1))).n = (gl (ex l k) (o + (lv r).length + off l k)).n := fun k => by rw [off_cons, ← Nat.add_assoc]; rfl
    unfold acA
    constructor
    · intro h
      rw [if_neg (fun h' => by omega)] at hz
      rw [h1 (by omega), hz]
    · intro h
      by_cases hn : (gl r o).n = true
      · rw [if_pos ⟨hn, h⟩] at hz
        right
        refine ⟨0, by simp, by rw [hn0]; exact hn, fun j hj => absurd hj (Nat.not_lt_zero j), ?_⟩
        rw [h1 (by omega), hz]; simp
      · rw [if_neg (fun h' => hn h'.1)] at hz
        have hnf : (gl r o).n = false := by cases hc : (gl r o).n with
          | false => rfl
          | true => exact absurd hc hn
        rcases h2 (by omega) with ⟨g1, g2⟩ | ⟨k, hk, g1, g2, g3⟩
        · left
          refine ⟨fun k hk => ?_, g2⟩
          match k, hk with
          | 0, _ => rw [hn0]; exact hnf
          | k + 1, hk => rw [hnk]; exact g1 k (by simpa using hk)
        · right
          refine ⟨k + 1, by simpa using hk, by rw [hnk]; exact g1, fun j hj => ?_, by rw [g3]; omega⟩
          match j, hj with
          | 0, _ => rw [hn0]; exact hnf
          | j + 1, hj => rw [hnk]; exact g2 j (by omega)
end Go.AM

/- The two forms of the reference's matcher, closed. -/
namespace Go.AM
open Go Go.Proofs

abbrev T62 : Type := ((Rx) × (List UInt8) × (List (Bool)) × Unit) → Option (List (Bool))
abbrev T162 : Type := (((Rx) × (List UInt8) × Unit × Unit) × ((List (Bool)) × Unit)) → Option ((List (Bool)) × ((List (Bool)) × Unit))

noncomputable def pe : Nat → T62 × T162
  | 0 => (fun _ => none, fun _ => none)
  | n + 1 => (p362 (pe n).1 (pe n).2, p462 (pe n).1 (pe n).2)

theorem spe : ∀ n, SoundFn Try.prog 62 (fnOf [.rx, .str, (.slice .bool)] (.one (.slice .bool)) (pe n).1) ∧ SoundProc Try.prog 62 [0] [0] (procPv (procOf [.kd .rx, .kd .str, .ref 0] [.row .bool] (.one (.slice .bool)) [.row .bool] (pe n).2))
  | 0 => ⟨fn_rec hng0 (G := fun _ _ => none) (by kernel_rfl) (fun _ => rfl) (fun _ h => h) 0, proc_rec hng0 (G := fun _ _ => none) (by kernel_rfl) (fun _ => rfl) (fun _ h => h) 0⟩
  | n + 1 => ⟨s362 (pe n).1 (pe n).2 (spe n).1 (spe n).2, s462 (pe n).1 (pe n).2 (spe n).1 (spe n).2⟩

noncomputable def p362c : T62 := (pe fuel).1
noncomputable def p462c : T162 := (pe fuel).2
theorem s462c : SoundProc Try.prog 62 [0] [0] (procPv (procOf [.kd .rx, .kd .str, .ref 0] [.row .bool] (.one (.slice .bool)) [.row .bool] p462c)) := (spe fuel).2
end Go.AM

/- The loops of the reference's matcher, plain, in both forms. (Printed by p64.py.) -/
namespace Go.AM
open Go

def HE (E : T62) (w : List UInt8) (ks : List Rx) : Prop := ∀ r ∈ ks, ∀ y : List Bool, y.length = w.length + 1 → ∃ o, E (r, w, y, ()) = some o ∧ Res (Mt hbF r) w y o
def HF (E : T162) (w : List UInt8) (ks : List Rx) : Prop := ∀ r ∈ ks, ∀ y : List Bool, y.length = w.length + 1 → ∃ o, E ((r, w, (), ()), (y, ())) = some (o, (y, ())) ∧ Res (Mt hbF r) w y o

/-- something new before place i -/
def newTo (M c : List Bool) (i : Nat) : Bool := (List.range i).any fun j => c.getD j false && !M.getD j false
theorem newTo_succ (M c : List Bool) (i : Nat) : newTo M c (i + 1) = (newTo M c i || (c.getD i false && !M.getD i false)) := by
  unfold newTo
  rw [List.range_succ, List.any_append]
  simp
theorem newTo_iff {M c : List Bool} {i : Nat} : newTo M c i = true ↔ ∃ j, j < i ∧ c.getD j false = true ∧ M.getD j false = false := by
  unfold newTo
  simp [List.any_eq_true]

/-- the places of a repetition, so far -/
structure Inv28 (P : List UInt8 → Prop) (w : List UInt8) (y : List Bool) (f : Bool) (M : List Bool) : Prop where
  len : M.length = w.length + 1
  up : ∀ i, i ≤ w.length → y.getD i false = true → M.getD i false = true
  dn : ∀ j, j ≤ w.length → M.getD j false = true → ∃ i, i ≤ j ∧ y.getD i false = true ∧ Star P (seg w i j)
  cl : f = false → ∃ c, Res P w M c ∧ ∀ j, j ≤ w.length → c.getD j false = true → M.getD j false = true

theorem Inv28.init {P : List UInt8 → Prop} {w : List UInt8} {y : List Bool} (hy : y.length = w.length + 1) : Inv28 P w y true y :=
  ⟨hy, fun _ _ h => h, fun j _ h => ⟨j, Nat.le_refl _, h, by rw [seg_self]; exact .nil⟩, fun h => by cases h⟩

theorem Inv28.done {P : List UInt8 → Prop} {w : List UInt8} {y M : List Bool} (h : Inv28 P w y false M) : Res (Star P) w y M := by
  obtain ⟨c, h1, h2⟩ := h.cl rfl
  exact Res.star h.len h.up h.dn h1 h2

theorem Inv28.step {P : List UInt8 → Prop} {w : List UInt8} {y M c : List Bool} {f : Bool} (h : Inv28 P w y f M) (hc : Res P w M c) : Inv28 P w y (newTo M c (w.length + 1)) (orTo (w.length + 1) (w.length + 1) M c) := by
  refine ⟨orTo_length _ _ _ _, fun i hi e => ?_, fun j hj e => ?_, fun hf => ⟨c, ?_⟩⟩
  · rw [orTo_get M c (by omega), h.up i hi e]; rfl
  · rw [orTo_get M c (by omega), decide_eq_true (by omega), Bool.true_and, Bool.or_eq_true] at e
    rcases e with e | e
    · exact h.dn j hj e
    · obtain ⟨k, hk, e2, hp⟩ := (hc.2 j hj).1 e
      obtain ⟨i, hi, e3, hs⟩ := h.dn k (by omega) e2
      exact ⟨i, by omega, e3, by rw [seg_append hi hk]; exact hs.snoc hp⟩
  · have hsub : ∀ j, j ≤ w.length → c.getD j false = true → M.getD j false = true := fun j hj e => by
      cases hm : M.getD j false with
      | true => rfl
      | false =>
        have := newTo_iff.2 ⟨j, (by omega : j < w.length + 1), e, hm⟩
        rw [hf] at this
        cases this
    have hMo : orTo (w.length + 1) (w.length + 1) M c = M := by
      refine ext_getD false (by rw [orTo_length, h.len]) fun j hj => ?_
      rw [orTo_length] at hj
      rw [orTo_get M c hj, decide_eq_true hj, Bool.true_and]
      cases e : c.getD j false with
      | false => simp
      | true => rw [hsub j (by omega) e]; rfl
    rw [hMo]
    exact ⟨hc, hsub⟩

theorem count_or {n : Nat} {M c : List Bool} (hM : M.length = n) : (M.count true ≤ (orTo n n M c).count true) ∧ (newTo M c n = true → M.count true < (orTo n n M c).count true) := by
  have key : ∀ i, i ≤ n → (M.count true ≤ (orTo n i M c).count true) ∧ (newTo M c i = true → M.count true < (orTo n i M c).count true) := by
    intro i
    induction i with
    | zero =>
      intro _
      rw [orTo_zero c hM]
      exact ⟨Nat.le_refl _, fun h => by unfold newTo at h; cases h⟩
    | succ i ih =>
      intro hi
      obtain ⟨h1, h2⟩ := ih (by omega)
      have hg := orTo_get (i := i) M c (show i < n by omega)
      rw [decide_eq_false (by omega), Bool.false_and, Bool.or_false] at hg
      rw [newTo_succ]
      have hset := orTo_set (n := n) (i := i) (m := M) (o := c) (b := M.getD i false || c.getD i false) (by omega) rfl
      rw [← hset]
      by_cases hn : M.getD i false = false ∧ c.getD i false = true
      · have := count_set (L := orTo n i M c) (s := i) (by rw [orTo_length]; omega) (hg.trans hn.1)
        rw [hn.1, hn.2, Bool.false_or, this]
        exact ⟨by omega, fun _ => by omega⟩
      · have e : (orTo n i M c).set i (M.getD i false || c.getD i false) = orTo n i M c := by
          refine ext_getD false (by rw [List.length_set]) fun j hj => ?_
          rw [List.length_set] at hj
          rw [getD_set hj]
          by_cases e : i = j
          · subst e
            rw [if_pos rfl, hg]
            cases h3 : M.getD i false <;> cases h4 : c.getD i false <;> first | rfl | exact absurd ⟨h3, h4⟩ hn
          · rw [if_neg e]
        rw [e]
        refine ⟨h1, fun h => ?_⟩
        rw [Bool.or_eq_true] at h
        rcases h with h | h
        · exact h2 h
        · cases h3 : M.getD i false <;> cases h4 : c.getD i false <;> rw [h3, h4] at h <;> first | (cases h; done) | exact absurd ⟨h3, h4⟩ hn
  exact key n (Nat.le_refl _)

theorem Inv28.down {P : List UInt8 → Prop} {w : List UInt8} {y M c : List Bool} (h : Inv28 P w y true M) (_ : Res P w M c) :
    2 * (w.length + 1 - (orTo (w.length + 1) (w.length + 1) M c).count true) + (if newTo M c (w.length + 1) = true then 1 else 0) < 2 * (w.length + 1 - M.count true) + (if (true = true) then 1 else 0) := by
  obtain ⟨h1, h2⟩ := count_or (c := c) h.len
  have h3 : (orTo (w.length + 1) (w.length + 1) M c).count true ≤ w.length + 1 := by
    have := List.count_le_length (a := true) (l := orTo (w.length + 1) (w.length + 1) M c)
    rwa [orTo_length] at this
  rw [if_pos rfl]
  cases hn : newTo M c (w.length + 1) with
  | true => have := h2 hn; rw [if_pos rfl]; omega
  | false => rw [if_neg ff]; omega

section
variable {E62 : T62} {E162 : T162} {w : List UInt8} {y : List Bool} {kk sa sb sc sd : Int} {ks : List Rx}

theorem e7 (hw : w.length ≤ 1000) (hy : y.length = w.length + 1) : limit (L362_7 E62 E162) ((w, y, (), (), (0 : Int), ()), ((kk, sa, sb, sc, sd, ks, ()), (List.replicate (w.length + 1) false), ())) = some (((), ()), ((leafTo w y [sa, sb, sc, sd] w.length), ())) := by
  have h := for_rule (L := L362_7 E62 E162) (N := w.length) (S := fun i => ((w, y, (), (), (i : Int), ()), ((kk, sa, sb, sc, sd, ks, ()), (leafTo w y [sa, sb, sc, sd] i), ()))) (r := (((), ()), ((leafTo w y [sa, sb, sc, sd] w.length), ())))
    (fun i hi n => by
      have e := p367_spec [sa, sb, sc, sd] (UInt8.toNat_lt (w.getD i 0))
      have hlt := UInt8.toNat_lt (w.getD i 0)
      simp only [L362_7, Int.toNat_natCast]
      rw [if_pos (lt_nat hi), if_pos (in_range (by omega)), wrap_nat (by omega)]
      cases h1 : y.getD i false with
      | true =>
        rw [if_pos rfl, if_pos (in_range hi), wrap_i64 (by omega) (by omega), e, Option.bind_some, if_pos (in_range (by rw [leafTo_length]; omega)), Int.toNat_natCast, leafTo_set hi (by rw [h1]; rfl)]
      | false => rw [if_neg ff, if_pos (in_range (by rw [leafTo_length]; omega)), Int.toNat_natCast, leafTo_set hi (by rw [h1]; rfl)])
    (fun n => by simp only [L362_7]; rw [if_neg nlt_nat]) (by omega)
  rw [← leafTo_zero y [sa, sb, sc, sd]]
  exact h

theorem e13 (hE : HE E62 w ks) (hk : ∀ r ∈ ks, r.set.length = 4) (hl : ks.length ≤ 9223372036854775807) {x : List Bool} (hx : x.length = w.length + 1) :
    ∃ o, limit (L362_13 E62 E162) ((w, (), x, (0 : Int), ()), ((kk, sa, sb, sc, sd, ks, ()), ())) = some ((o, ()), ()) ∧ Res (MtC hbF ks) w x o := by
  obtain ⟨r, h1, o, rfl, h2⟩ := state_rule (L := L362_13 E62 E162) (σ := Nat × List Bool) (fun s => ((w, (), s.2, (s.1 : Int), ()), ((kk, sa, sb, sc, sd, ks, ()), ()))) (fun s => s.1 ≤ ks.length ∧ Res (MtC hbF (ks.take s.1)) w x s.2) (fun s => ks.length - s.1)
    (fun r => ∃ o, r = ((o, ()), ()) ∧ Res (MtC hbF ks) w x o) (0, x) ⟨Nat.zero_le _, (Res.nil hx).congr fun u => by simp [MtC]⟩ (by simp only; omega) (by
    rintro ⟨i, m⟩ ⟨hi, hm⟩
    simp only at hi hm
    by_cases hlt : i < ks.length
    · right
      have hmem : ks.getD i rxd ∈ ks := getD_mem hlt
      have hn := nrm_eq (hk _ hmem)
      unfold nrm at hn
      obtain ⟨o, e, ho⟩ := hE _ hmem m hm.1
      refine ⟨(i + 1, o), ⟨hlt, (hm.comp ho).congr fun u => ?_⟩, by simp only; omega, fun n => ?_⟩
      · simp only
        rw [take_snoc (d := rxd) hlt, MtC_snoc]
      · simp only [L362_13, Int.toNat_natCast]
        rw [if_pos (lt_nat hlt), if_pos (in_range hlt), hn, e, Option.bind_some, wrap_nat (by omega)]
    · left
      have : i = ks.length := by omega
      subst this
      refine ⟨_, ⟨m, rfl, by rw [List.take_length] at hm; exact hm⟩, fun n => ?_⟩
      simp only [L362_13]
      rw [if_neg nlt_nat])
  exact ⟨o, h1, h2⟩

theorem e22 (hw : w.length ≤ 1000) (x10 : Int) {M c : List Bool} (hM : M.length = w.length + 1) (hc : c.length = w.length + 1) : limit (L362_22 E62 E162) ((w, y, (), (), x10, c, (0 : Int), ()), ((kk, sa, sb, sc, sd, ks, ()), M, ())) = some ((w, y, (), (), x10, ()), ((kk, sa, sb, sc, sd, ks, ()), (orTo (w.length + 1) (w.length + 1) M c), ())) := by
  have h := for_rule (L := L362_22 E62 E162) (N := w.length + 1) (S := fun i => ((w, y, (), (), x10, c, (i : Int), ()), ((kk, sa, sb, sc, sd, ks, ()), (orTo (w.length + 1) i M c), ()))) (r := ((w, y, (), (), x10, ()), ((kk, sa, sb, sc, sd, ks, ()), (orTo (w.length + 1) (w.length + 1) M c), ())))
    (fun i hi n => by
      have hg := orTo_get (i := i) M c hi
      rw [decide_eq_false (by omega), Bool.false_and, Bool.or_false] at hg
      have hr := in_range (show i < (orTo (w.length + 1) i M c).length by rw [orTo_length]; exact hi)
      simp only [L362_22, Int.toNat_natCast]
      rw [hg, if_pos (by rw [hc]; exact lt_nat hi), if_pos hr, wrap_nat (by omega)]
      cases h1 : M.getD i false with
      | true => rw [if_pos rfl, if_pos hr, orTo_set hi (by rw [h1]; rfl)]
      | false => rw [if_neg ff, if_pos (in_range (by omega)), if_pos hr, orTo_set hi (by rw [h1]; rfl)])
    (fun n => by simp only [L362_22]; rw [hc, if_neg nlt_nat]) (by omega)
  have h0 := orTo_zero c hM
  have h' : limit _ _ = _ := h
  rw [h0] at h'
  exact h'

theorem e18 (hE : HE E62 w ks) (hk : ∀ r ∈ ks, r.set.length = 4) (hl : ks.length ≤ 9223372036854775807) (hw : w.length ≤ 1000) (hy : y.length = w.length + 1) :
    ∃ o, limit (L362_18 E62 E162) ((w, y, (), (), (0 : Int), ()), ((kk, sa, sb, sc, sd, ks, ()), (List.replicate (w.length + 1) false), ())) = some (((), ()), (o, ())) ∧ Res (MtU hbF ks) w y o := by
  obtain ⟨r, h1, o, rfl, h2⟩ := state_rule (L := L362_18 E62 E162) (σ := Nat × List Bool) (fun s => ((w, y, (), (), (s.1 : Int), ()), ((kk, sa, sb, sc, sd, ks, ()), s.2, ()))) (fun s => s.1 ≤ ks.length ∧ Res (MtU hbF (ks.take s.1)) w y s.2) (fun s => ks.length - s.1)
    (fun r => ∃ o, r = (((), ()), (o, ())) ∧ Res (MtU hbF ks) w y o) (0, List.replicate (w.length + 1) false) ⟨Nat.zero_le _, Res.none.congr fun u => by simp [MtU]⟩ (by simp only; omega) (by
    rintro ⟨i, m⟩ ⟨hi, hm⟩
    simp only at hi hm
    by_cases hlt : i < ks.length
    · right
      have hmem : ks.getD i rxd ∈ ks := getD_mem hlt
      have hn := nrm_eq (hk _ hmem)
      unfold nrm at hn
      obtain ⟨o, e, ho⟩ := hE _ hmem y hy
      have e2 := e22 (E62 := E62) (E162 := E162) (y := y) (kk := kk) (sa := sa) (sb := sb) (sc := sc) (sd := sd) (ks := ks) hw (i : Int) hm.1 ho.1
      refine ⟨(i + 1, orTo (w.length + 1) (w.length + 1) m o), ⟨hlt, (hm.or ho).congr fun u => ?_⟩, by simp only; omega, fun n => ?_⟩
      · simp only
        rw [take_snoc (d := rxd) hlt, MtU_snoc]
      · simp only [L362_18, Int.toNat_natCast]
        rw [if_pos (lt_nat hlt), if_pos (in_range hlt), hn, e, Option.bind_some]
        try simp only
        rw [e2, Option.bind_some, wrap_nat (by omega)]
    · left
      have : i = ks.length := by omega
      subst this
      refine ⟨_, ⟨m, rfl, by rw [List.take_length] at hm; exact hm⟩, fun n => ?_⟩
      simp only [L362_18]
      rw [if_neg nlt_nat])
  exact ⟨o, h1, h2⟩

theorem e32 (hw : w.length ≤ 1000) {M c : List Bool} (hM : M.length = w.length + 1) (hc : c.length = w.length + 1) : limit (L362_32 E62 E162) ((w, (), (), false, c, (0 : Int), ()), ((kk, sa, sb, sc, sd, ks, ()), M, ())) = some ((w, (), (), (newTo M c (w.length + 1)), ()), ((kk, sa, sb, sc, sd, ks, ()), (orTo (w.length + 1) (w.length + 1) M c), ())) := by
  have h := for_rule (L := L362_32 E62 E162) (N := w.length + 1) (S := fun i => ((w, (), (), (newTo M c i), c, (i : Int), ()), ((kk, sa, sb, sc, sd, ks, ()), (orTo (w.length + 1) i M c), ()))) (r := ((w, (), (), (newTo M c (w.length + 1)), ()), ((kk, sa, sb, sc, sd, ks, ()), (orTo (w.length + 1) (w.length + 1) M c), ())))
    (fun i hi n => by
      have hg := orTo_get (i := i) M c hi
      rw [decide_eq_false (by omega), Bool.false_and, Bool.or_false] at hg
      have hr := in_range (show i < (orTo (w.length + 1) i M c).length by rw [orTo_length]; exact hi)
      have hrc := in_range (show i < c.length by omega)
      simp only [L362_32, Int.toNat_natCast]
      rw [hg, if_pos (by rw [hc]; exact lt_nat hi), wrap_nat (by omega)]
      simp only [if_pos hr, if_pos hrc, newTo_succ]
      cases h0 : newTo M c i <;> cases h1 : M.getD i false <;> cases h2 : c.getD i false <;> simp only [if_true, if_neg ff, Bool.not_true, Bool.not_false, Bool.and_true, Bool.and_false, Bool.or_true, Bool.or_false] <;> rw [orTo_set hi (by rw [h1, h2]; rfl)])
    (fun n => by simp only [L362_32]; rw [hc, if_neg nlt_nat]) (by omega)
  have h0 := orTo_zero c hM
  have h' : limit _ _ = _ := h
  rw [h0] at h'
  exact h'

theorem e28 {r0 : Rx} (hks : ks = [r0]) (hF : HF E162 w ks) (hk : ∀ r ∈ ks, r.set.length = 4) (hw : w.length ≤ 1000) {y0 : List Bool} (hy : y0.length = w.length + 1) :
    ∃ o, limit (L362_28 E62 E162) ((w, (), (), true, ()), ((kk, sa, sb, sc, sd, ks, ()), y0, ())) = some (((), ()), (o, ())) ∧ Res (Star (Mt hbF r0)) w y0 o := by
  obtain ⟨r, h1, o, rfl, h2⟩ := state_rule (L := L362_28 E62 E162) (σ := Bool × List Bool) (fun s => ((w, (), (), s.1, ()), ((kk, sa, sb, sc, sd, ks, ()), s.2, ()))) (fun s => Inv28 (Mt hbF r0) w y0 s.1 s.2) (fun s => 2 * (w.length + 1 - s.2.count true) + (if s.1 = true then 1 else 0))
    (fun r => ∃ o, r = (((), ()), (o, ())) ∧ Res (Star (Mt hbF r0)) w y0 o) (true, y0) (Inv28.init hy) (by simp only; split <;> omega) (by
    rintro ⟨f, m⟩ hm
    simp only at hm
    cases f with
    | true =>
      right
      have hmem : r0 ∈ ks := by rw [hks]; exact List.mem_singleton.2 rfl
      have hn := nrm_eq (hk _ hmem)
      unfold nrm at hn
      obtain ⟨o, e, ho⟩ := hF _ hmem m hm.1
      have e2 := e32 (E62 := E62) (E162 := E162) (kk := kk) (sa := sa) (sb := sb) (sc := sc) (sd := sd) (ks := ks) hw hm.1 ho.1
      have hks0 : ks.getD (0 : Int).toNat rxd = r0 := by subst hks; rfl
      have hkl : decide (0 ≤ (0 : Int) ∧ (0 : Int) < (ks.length : Int)) = true := by subst hks; rfl
      refine ⟨(newTo m o (w.length + 1), orTo (w.length + 1) (w.length + 1) m o), hm.step ho, hm.down ho, fun n => ?_⟩
      simp only [L362_28]
      rw [if_pos trivial, if_pos hkl, hks0, hn, e, Option.bind_some]
      simp only
      rw [e2, Option.bind_some]
    | false =>
      left
      refine ⟨_, ⟨m, rfl, hm.done⟩, fun n => ?_⟩
      simp only [L362_28]
      rw [if_neg ff])
  exact ⟨o, h1, h2⟩

theorem e7b (hw : w.length ≤ 1000) (hy : y.length = w.length + 1) : limit (L362_362_7 E62 E162) ((w, (), (), (), (0 : Int), ()), (y, (kk, sa, sb, sc, sd, ks, ()), (List.replicate (w.length + 1) false), ())) = some (((), ()), (y, (leafTo w y [sa, sb, sc, sd] w.length), ())) := by
  have h := for_rule (L := L362_362_7 E62 E162) (N := w.length) (S := fun i => ((w, (), (), (), (i : Int), ()), (y, (kk, sa, sb, sc, sd, ks, ()), (leafTo w y [sa, sb, sc, sd] i), ()))) (r := (((), ()), (y, (leafTo w y [sa, sb, sc, sd] w.length), ())))
    (fun i hi n => by
      have e := p367_spec [sa, sb, sc, sd] (UInt8.toNat_lt (w.getD i 0))
      have hlt := UInt8.toNat_lt (w.getD i 0)
      simp only [L362_362_7, Int.toNat_natCast]
      rw [if_pos (lt_nat hi), if_pos (in_range (by omega)), wrap_nat (by omega)]
      cases h1 : y.getD i false with
      | true =>
        rw [if_pos rfl, if_pos (in_range hi), wrap_i64 (by omega) (by omega), e, Option.bind_some, if_pos (in_range (by rw [leafTo_length]; omega)), Int.toNat_natCast, leafTo_set hi (by rw [h1]; rfl)]
      | false => rw [if_neg ff, if_pos (in_range (by rw [leafTo_length]; omega)), Int.toNat_natCast, leafTo_set hi (by rw [h1]; rfl)])
    (fun n => by simp only [L362_362_7]; rw [if_neg nlt_nat]) (by omega)
  rw [← leafTo_zero y [sa, sb, sc, sd]]
  exact h

theorem e13b (hE : HE E62 w ks) (hk : ∀ r ∈ ks, r.set.length = 4) (hl : ks.length ≤ 9223372036854775807) {x : List Bool} (hx : x.length = w.length + 1) :
    ∃ o, limit (L362_362_13 E62 E162) ((w, (), x, (0 : Int), ()), (y, (kk, sa, sb, sc, sd, ks, ()), ())) = some ((o, ()), (y, ())) ∧ Res (MtC hbF ks) w x o := by
  obtain ⟨r, h1, o, rfl, h2⟩ := state_rule (L := L362_362_13 E62 E162) (σ := Nat × List Bool) (fun s => ((w, (), s.2, (s.1 : Int), ()), (y, (kk, sa, sb, sc, sd, ks, ()), ()))) (fun s => s.1 ≤ ks.length ∧ Res (MtC hbF (ks.take s.1)) w x s.2) (fun s => ks.length - s.1)
    (fun r => ∃ o, r = ((o, ()), (y, ())) ∧ Res (MtC hbF ks) w x o) (0, x) ⟨Nat.zero_le _, (Res.nil hx).congr fun u => by simp [MtC]⟩ (by simp only; omega) (by
    rintro ⟨i, m⟩ ⟨hi, hm⟩
    simp only at hi hm
    by_cases hlt : i < ks.length
    · right
      have hmem : ks.getD i rxd ∈ ks := getD_mem hlt
      have hn := nrm_eq (hk _ hmem)
      unfold nrm at hn
      obtain ⟨o, e, ho⟩ := hE _ hmem m hm.1
      refine ⟨(i + 1, o), ⟨hlt, (hm.comp ho).congr fun u => ?_⟩, by simp only; omega, fun n => ?_⟩
      · simp only
        rw [take_snoc (d := rxd) hlt, MtC_snoc]
      · simp only [L362_362_13, Int.toNat_natCast]
        rw [if_pos (lt_nat hlt), if_pos (in_range hlt), hn, e, Option.bind_some, wrap_nat (by omega)]
    · left
      have : i = ks.length := by omega
      subst this
      refine ⟨_, ⟨m, rfl, by rw [List.take_length] at hm; exact hm⟩, fun n => ?_⟩
      simp only [L362_362_13]
      rw [if_neg nlt_nat])
  exact ⟨o, h1, h2⟩

theorem e22b (hw : w.length ≤ 1000) (x10 : Int) {M c : List Bool} (hM : M.length = w.length + 1) (hc : c.length = w.length + 1) : limit (L362_362_22 E62 E162) ((w, (), (), (), x10, c, (0 : Int), ()), (y, (kk, sa, sb, sc, sd, ks, ()), M, ())) = some ((w, (), (), (), x10, ()), (y, (kk, sa, sb, sc, sd, ks, ()), (orTo (w.length + 1) (w.length + 1) M c), ())) := by
  have h := for_rule (L := L362_362_22 E62 E162) (N := w.length + 1) (S := fun i => ((w, (), (), (), x10, c, (i : Int), ()), (y, (kk, sa, sb, sc, sd, ks, ()), (orTo (w.length + 1) i M c), ()))) (r := ((w, (), (), (), x10, ()), (y, (kk, sa, sb, sc, sd, ks, ()), (orTo (w.length + 1) (w.length + 1) M c), ())))
    (fun i hi n => by
      have hg := orTo_get (i := i) M c hi
      rw [decide_eq_false (by omega), Bool.false_and, Bool.or_false] at hg
      have hr := in_range (show i < (orTo (w.length + 1) i M c).length by rw [orTo_length]; exact hi)
      simp only [L362_362_22, Int.toNat_natCast]
      rw [hg, if_pos (by rw [hc]; exact lt_nat hi), if_pos hr, wrap_nat (by omega)]
      cases h1 : M.getD i false with
      | true => rw [if_pos rfl, if_pos hr, orTo_set hi (by rw [h1]; rfl)]
      | false => rw [if_neg ff, if_pos (in_range (by omega)), if_pos hr, orTo_set hi (by rw [h1]; rfl)])
    (fun n => by simp only [L362_362_22]; rw [hc, if_neg nlt_nat]) (by omega)
  have h0 := orTo_zero c hM
  have h' : limit _ _ = _ := h
  rw [h0] at h'
  exact h'

theorem e18b (hF : HF E162 w ks) (hk : ∀ r ∈ ks, r.set.length = 4) (hl : ks.length ≤ 9223372036854775807) (hw : w.length ≤ 1000) (hy : y.length = w.length + 1) :
    ∃ o, limit (L362_362_18 E62 E162) ((w, (), (), (), (0 : Int), ()), (y, (kk, sa, sb, sc, sd, ks, ()), (List.replicate (w.length + 1) false), ())) = some (((), ()), (y, o, ())) ∧ Res (MtU hbF ks) w y o := by
  obtain ⟨r, h1, o, rfl, h2⟩ := state_rule (L := L362_362_18 E62 E162) (σ := Nat × List Bool) (fun s => ((w, (), (), (), (s.1 : Int), ()), (y, (kk, sa, sb, sc, sd, ks, ()), s.2, ()))) (fun s => s.1 ≤ ks.length ∧ Res (MtU hbF (ks.take s.1)) w y s.2) (fun s => ks.length - s.1)
    (fun r => ∃ o, r = (((), ()), (y, o, ())) ∧ Res (MtU hbF ks) w y o) (0, List.replicate (w.length + 1) false) ⟨Nat.zero_le _, Res.none.congr fun u => by simp [MtU]⟩ (by simp only; omega) (by
    rintro ⟨i, m⟩ ⟨hi, hm⟩
    simp only at hi hm
    by_cases hlt : i < ks.length
    · right
      have hmem : ks.getD i rxd ∈ ks := getD_mem hlt
      have hn := nrm_eq (hk _ hmem)
      unfold nrm at hn
      obtain ⟨o, e, ho⟩ := hF _ hmem y hy
      have e2 := e22b (E62 := E62) (E162 := E162) (y := y) (kk := kk) (sa := sa) (sb := sb) (sc := sc) (sd := sd) (ks := ks) hw (i : Int) hm.1 ho.1
      refine ⟨(i + 1, orTo (w.length + 1) (w.length + 1) m o), ⟨hlt, (hm.or ho).congr fun u => ?_⟩, by simp only; omega, fun n => ?_⟩
      · simp only
        rw [take_snoc (d := rxd) hlt, MtU_snoc]
      · simp only [L362_362_18, Int.toNat_natCast]
        rw [if_pos (lt_nat hlt), if_pos (in_range hlt), hn, e, Option.bind_some]
        try simp only
        rw [e2, Option.bind_some, wrap_nat (by omega)]
    · left
      have : i = ks.length := by omega
      subst this
      refine ⟨_, ⟨m, rfl, by rw [List.take_length] at hm; exact hm⟩, fun n => ?_⟩
      simp only [L362_362_18]
      rw [if_neg nlt_nat])
  exact ⟨o, h1, h2⟩

theorem e32b (hw : w.length ≤ 1000) {M c : List Bool} (hM : M.length = w.length + 1) (hc : c.length = w.length + 1) : limit (L362_362_32 E62 E162) ((w, (), (), false, c, (0 : Int), ()), (y, (kk, sa, sb, sc, sd, ks, ()), M, ())) = some ((w, (), (), (newTo M c (w.length + 1)), ()), (y, (kk, sa, sb, sc, sd, ks, ()), (orTo (w.length + 1) (w.length + 1) M c), ())) := by
  have h := for_rule (L := L362_362_32 E62 E162) (N := w.length + 1) (S := fun i => ((w, (), (), (newTo M c i), c, (i : Int), ()), (y, (kk, sa, sb, sc, sd, ks, ()), (orTo (w.length + 1) i M c), ()))) (r := ((w, (), (), (newTo M c (w.length + 1)), ()), (y, (kk, sa, sb, sc, sd, ks, ()), (orTo (w.length + 1) (w.length + 1) M c), ())))
    (fun i hi n => by
      have hg := orTo_get (i := i) M c hi
      rw [decide_eq_false (by omega), Bool.false_and, Bool.or_false] at hg
      have hr := in_range (show i < (orTo (w.length + 1) i M c).length by rw [orTo_length]; exact hi)
      have hrc := in_range (show i < c.length by omega)
      simp only [L362_362_32, Int.toNat_natCast]
      rw [hg, if_pos (by rw [hc]; exact lt_nat hi), wrap_nat (by omega)]
      simp only [if_pos hr, if_pos hrc, newTo_succ]
      cases h0 : newTo M c i <;> cases h1 : M.getD i false <;> cases h2 : c.getD i false <;> simp only [if_true, if_neg ff, Bool.not_true, Bool.not_false, Bool.and_true, Bool.and_false, Bool.or_true, Bool.or_false] <;> rw [orTo_set hi (by rw [h1, h2]; rfl)])
    (fun n => by simp only [L362_362_32]; rw [hc, if_neg nlt_nat]) (by omega)
  have h0 := orTo_zero c hM
  have h' : limit _ _ = _ := h
  rw [h0] at h'
  exact h'

theorem e28b {r0 : Rx} (hks : ks = [r0]) (hF : HF E162 w ks) (hk : ∀ r ∈ ks, r.set.length = 4) (hw : w.length ≤ 1000) {y0 : List Bool} (hy : y0.length = w.length + 1) :
    ∃ o, limit (L362_362_28 E62 E162) ((w, (), (), true, ()), (y, (kk, sa, sb, sc, sd, ks, ()), y0, ())) = some (((), ()), (y, o, ())) ∧ Res (Star (Mt hbF r0)) w y0 o := by
  obtain ⟨r, h1, o, rfl, h2⟩ := state_rule (L := L362_362_28 E62 E162) (σ := Bool × List Bool) (fun s => ((w, (), (), s.1, ()), (y, (kk, sa, sb, sc, sd, ks, ()), s.2, ()))) (fun s => Inv28 (Mt hbF r0) w y0 s.1 s.2) (fun s => 2 * (w.length + 1 - s.2.count true) + (if s.1 = true then 1 else 0))
    (fun r => ∃ o, r = (((), ()), (y, o, ())) ∧ Res (Star (Mt hbF r0)) w y0 o) (true, y0) (Inv28.init hy) (by simp only; split <;> omega) (by
    rintro ⟨f, m⟩ hm
    simp only at hm
    cases f with
    | true =>
      right
      have hmem : r0 ∈ ks := by rw [hks]; exact List.mem_singleton.2 rfl
      have hn := nrm_eq (hk _ hmem)
      unfold nrm at hn
      obtain ⟨o, e, ho⟩ := hF _ hmem m hm.1
      have e2 := e32b (E62 := E62) (E162 := E162) (y := y) (kk := kk) (sa := sa) (sb := sb) (sc := sc) (sd := sd) (ks := ks) hw hm.1 ho.1
      have hks0 : ks.getD (0 : Int).toNat rxd = r0 := by subst hks; rfl
      have hkl : decide (0 ≤ (0 : Int) ∧ (0 : Int) < (ks.length : Int)) = true := by subst hks; rfl
      refine ⟨(newTo m o (w.length + 1), orTo (w.length + 1) (w.length + 1) m o), hm.step ho, hm.down ho, fun n => ?_⟩
      simp only [L362_362_28]
      rw [if_pos trivial, if_pos hkl, hks0, hn, e, Option.bind_some]
      simp only
      rw [e2, Option.bind_some]
    | false =>
      left
      refine ⟨_, ⟨m, rfl, hm.done⟩, fun n => ?_⟩
      simp only [L362_362_28]
      rw [if_neg ff])
  exact ⟨o, h1, h2⟩

end
end Go.AM

/- Functions in pure form: each is sound over the program. -/
namespace Go.AM
open Go Go.Proofs

def Γ348 : TEnv := { Γ0 with procs := [((16, 62), ([(10, 0)], [(10, 0)]))] }
theorem hΓ348 : Γ348.ok Try.prog = true := hΓ0

noncomputable def O348 : Orc := mkOrc [] [] [] [] [] [(62, procOf [.kd .rx, .kd .str, .ref 0] [.row .bool] (.one (.slice .bool)) [.row .bool] p462c)]

/-- emendate/emendateref08.Match -/
noncomputable def p348 : ((Rx) × (List UInt8) × Unit) → Option (Bool)
  | (x0, x1, ()) =>
    if decide ((IntKind.i64.wrap ((x1.length : Int) + (1 : Int))) = (IntKind.i64.wrap ((x1.length : Int) + (1 : Int))) ∧ 0 ≤ (IntKind.i64.wrap ((x1.length : Int) + (1 : Int))) ∧ (IntKind.i64.wrap ((x1.length : Int) + (1 : Int))) ≤ (lim : Int)) = true then
      if decide (0 ≤ (0 : Int) ∧ (0 : Int) < ((List.replicate (IntKind.i64.wrap ((x1.length : Int) + (1 : Int))).toNat false).length : Int)) = true then
        (p462c (((Rx.mk x0.kind [(x0.set.getD 0 0), (x0.set.getD 1 0), (x0.set.getD 2 0), (x0.set.getD 3 0)] x0.kids), x1, (), ()), (((List.replicate (IntKind.i64.wrap ((x1.length : Int) + (1 : Int))).toNat false).set (0 : Int).toNat true), ()))).bind fun c1 =>
        if decide (0 ≤ (x1.length : Int) ∧ (x1.length : Int) < (c1.1.length : Int)) = true then
          some (c1.1.getD (x1.length : Int).toNat false)
        else
          none
      else
        none
    else
      none

theorem s348 : SoundFn Try.prog 48 (fnOf [.rx, .str] (.one .bool) p348) :=
  fn_pure hm0 hng0 hΓ348 (t := []) all_nil (ls := []) (cmds := []) (leaves := []) (fr := []) (pt := [(62, procOf [.kd .rx, .kd .str, .ref 0] [.row .bool] (.one (.slice .bool)) [.row .bool] p462c)]) (D := 1) all_nil (by kernel_rfl) (hfr := all_nil) (hX := Special.procs (all_cons s462c all_nil) (fun _ _ h => by cases h) (fun _ _ h => by obtain ⟨⟨_, h⟩, _⟩ := h; cases h)) fun x r h => by
    obtain ⟨x0, x1, ⟨⟩⟩ := x
    refine Eq.trans ?_ h
    kernel_rfl

noncomputable def L327_2 : Nat → (((List (Rx)) × (List UInt8) × (Int) × Unit) × (Unit)) → Option ((((Int) × Unit) × (Unit)) ⊕ ((Unit) × (Unit)))
  | 0, _ => none
  | n + 1, ((x0, x1, x5, ()), ()) =>
    if (decide (x5 < (x0.length : Int))) = true then
      if decide (0 ≤ x5 ∧ x5 < (x0.length : Int)) = true then
        (p348 ((Rx.mk (x0.getD x5.toNat (Rx.mk 0 [0, 0, 0, 0] [])).kind [((x0.getD x5.toNat (Rx.mk 0 [0, 0, 0, 0] [])).set.getD 0 0), ((x0.getD x5.toNat (Rx.mk 0 [0, 0, 0, 0] [])).set.getD 1 0), ((x0.getD x5.toNat (Rx.mk 0 [0, 0, 0, 0] [])).set.getD 2 0), ((x0.getD x5.toNat (Rx.mk 0 [0, 0, 0, 0] [])).set.getD 3 0)] (x0.getD x5.toNat (Rx.mk 0 [0, 0, 0, 0] [])).kids), x1, ())).bind fun c1 =>
        if c1 = true then
          some (.inl ((x5, ()), ()))
        else
          L327_2 n ((x0, x1, (IntKind.i64.wrap (x5 + (1 : Int))), ()), ())
      else
        none
    else
      some (.inr ((), ()))

noncomputable def EL327_2 : LoopEnt := ⟨[27], 2, ⟨[], [0, 1, 5], []⟩, [.kd (.slice .rx), .kd .str, .kd (.int .i64)], [], [⟨.ret, [4], [.kd (.int .i64)], [], []⟩, ⟨(.exit 0), [], [], [], []⟩], limit L327_2⟩

noncomputable def O327 : Orc := mkOrc [(48, fnOf [.rx, .str] (.one .bool) p348)] [EL327_2] [] [] []

theorem cL327_2 : LoopCert Try.prog O327 Γ0 1 EL327_2 :=
  ⟨⟨27, 0, L327_2, rfl, by kernel_rfl, by decide, limit_fn, fun _ => rfl, fun m old x r h => by
    obtain ⟨⟨x0, x1, x5, ⟨⟩⟩, ⟨⟩⟩ := x
    refine Eq.trans ?_ h
    kernel_rfl⟩⟩

/-- emendate/emendateref09.Match -/
noncomputable def p327 : ((List (Rx)) × (List UInt8) × Unit) → Option (Int)
  | (x0, x1, ()) =>
    (limit L327_2 ((x0, x1, (0 : Int), ()), ())).bind (Sum.elim (fun r1 =>
      some r1.1.1) (fun _ =>
      some (-1 : Int)))

theorem s327 : SoundFn Try.prog 27 (fnOf [(.slice .rx), .str] (.one (.int .i64)) p327) :=
  fn_pure hm0 hng0 hΓ0 (t := [(48, fnOf [.rx, .str] (.one .bool) p348)]) (all_cons s348 all_nil) (ls := [EL327_2]) (cmds := []) (leaves := []) (fr := []) (pt := []) (D := 1) (all_cons cL327_2 all_nil) (by kernel_rfl) (hfr := all_nil) fun x r h => by
    obtain ⟨x0, x1, ⟨⟩⟩ := x
    refine Eq.trans ?_ h
    kernel_rfl

noncomputable def O309 : Orc := mkOrc [(11, fnOf [] (.one .bool) p311), (12, fnOf [(.pair (.int .i64) (.pair (.int .i64) (.pair (.slice (.pair (.int .i64) (.pair (.int .i64) (.pair .bool (.pair (.arr 4 (.int .u64)) .unit))))) (.pair (.slice (.int .i64)) .unit))))] (.one .bool) p39), (20, fnOf [(.pair (.int .i64) (.pair (.int .i64) (.pair (.slice (.pair (.int .i64) (.pair (.int .i64) (.pair .bool (.pair (.arr 4 (.int .u64)) .unit))))) (.pair (.slice (.int .i64)) .unit)))), .str] (.one (.int .i64)) p320), (23, fnOf [(.slice .rx)] (.one .bool) p323), (24, fnOf [(.slice .rx)] (.tup [(.pair (.int .i64) (.pair (.int .i64) (.pair (.slice (.pair (.int .i64) (.pair (.int .i64) (.pair .bool (.pair (.arr 4 (.int .u64)) .unit))))) (.pair (.slice (.int .i64)) .unit)))), (.int .i64)]) p324), (25, fnOf [(.slice .rx)] (.tup [(.pair (.int .i64) (.pair (.int .i64) (.pair (.slice (.pair (.int .i64) (.pair (.int .i64) (.pair .bool (.pair (.arr 4 (.int .u64)) .unit))))) (.pair (.slice (.int .i64)) .unit)))), (.int .i64)]) p325), (26, fnOf [(.pair (.int .i64) (.pair (.int .i64) (.pair (.slice (.pair (.int .i64) (.pair (.int .i64) (.pair .bool (.pair (.arr 4 (.int .u64)) .unit))))) (.pair (.slice (.int .i64)) .unit)))), (.pair (.int .i64) (.pair (.int .i64) (.pair (.slice (.pair (.int .i64) (.pair (.int .i64) (.pair .bool (.pair (.arr 4 (.int .u64)) .unit))))) (.pair (.slice (.int .i64)) .unit))))] (.one .bool) p326), (27, fnOf [(.slice .rx), .str] (.one (.int .i64)) p327)] [] [] [] []

/-- emendate/emendatelaw09.NfaFromRegexesMatches -/
noncomputable def p309 : ((List (Rx)) × (List UInt8) × Unit) → Option (Bool)
  | (x0, x1, ()) =>
    (p311 (())).bind fun c1 =>
    if (!c1) = true then
      some false
    else
      (p323 (x0, ())).bind fun c2 =>
      if (!c2) = true then
        some true
      else
        if (decide ((x1.length : Int) > (12 : Int))) = true then
          some true
        else
          (p324 (x0, ())).bind fun c3 =>
          (p325 (x0, ())).bind fun c4 =>
          if (decide (c3.2.1 = (0 : Int))) = true then
            (p39 ((c3.1.1, (c3.1.2.1, (c3.1.2.2.1, (c3.1.2.2.2.1, ())))), ())).bind fun c5 =>
            if c5 = true then
              (p326 ((c3.1.1, (c3.1.2.1, (c3.1.2.2.1, (c3.1.2.2.2.1, ())))), (c4.1.1, (c4.1.2.1, (c4.1.2.2.1, (c4.1.2.2.2.1, ())))), ())).bind fun c6 =>
              if c6 = true then
                (p320 ((c3.1.1, (c3.1.2.1, (c3.1.2.2.1, (c3.1.2.2.2.1, ())))), x1, ())).bind fun c7 =>
                (p327 (x0, x1, ())).bind fun c8 =>
                some (decide (c7 = c8))
              else
                some false
            else
              some false
          else
            some false

theorem s309 : SoundFn Try.prog 9 (fnOf [(.slice .rx), .str] (.one .bool) p309) :=
  fn_pure hm0 hng0 hΓ0 (t := [(11, fnOf [] (.one .bool) p311), (12, fnOf [(.pair (.int .i64) (.pair (.int .i64) (.pair (.slice (.pair (.int .i64) (.pair (.int .i64) (.pair .bool (.pair (.arr 4 (.int .u64)) .unit))))) (.pair (.slice (.int .i64)) .unit))))] (.one .bool) p39), (20, fnOf [(.pair (.int .i64) (.pair (.int .i64) (.pair (.slice (.pair (.int .i64) (.pair (.int .i64) (.pair .bool (.pair (.arr 4 (.int .u64)) .unit))))) (.pair (.slice (.int .i64)) .unit)))), .str] (.one (.int .i64)) p320), (23, fnOf [(.slice .rx)] (.one .bool) p323), (24, fnOf [(.slice .rx)] (.tup [(.pair (.int .i64) (.pair (.int .i64) (.pair (.slice (.pair (.int .i64) (.pair (.int .i64) (.pair .bool (.pair (.arr 4 (.int .u64)) .unit))))) (.pair (.slice (.int .i64)) .unit)))), (.int .i64)]) p324), (25, fnOf [(.slice .rx)] (.tup [(.pair (.int .i64) (.pair (.int .i64) (.pair (.slice (.pair (.int .i64) (.pair (.int .i64) (.pair .bool (.pair (.arr 4 (.int .u64)) .unit))))) (.pair (.slice (.int .i64)) .unit)))), (.int .i64)]) p325), (26, fnOf [(.pair (.int .i64) (.pair (.int .i64) (.pair (.slice (.pair (.int .i64) (.pair (.int .i64) (.pair .bool (.pair (.arr 4 (.int .u64)) .unit))))) (.pair (.slice (.int .i64)) .unit)))), (.pair (.int .i64) (.pair (.int .i64) (.pair (.slice (.pair (.int .i64) (.pair (.int .i64) (.pair .bool (.pair (.arr 4 (.int .u64)) .unit))))) (.pair (.slice (.int .i64)) .unit))))] (.one .bool) p326), (27, fnOf [(.slice .rx), .str] (.one (.int .i64)) p327)]) (all_cons s311 (all_cons s39 (all_cons s320 (all_cons s323 (all_cons s324 (all_cons s325 (all_cons s326 (all_cons s327 all_nil)))))))) (ls := []) (cmds := []) (leaves := []) (fr := []) (pt := []) (D := 1) all_nil (by kernel_rfl) (hfr := all_nil) fun x r h => by
    obtain ⟨x0, x1, ⟨⟩⟩ := x
    refine Eq.trans ?_ h
    kernel_rfl

end Go.AM

/- The reference's matcher, plain: what it says of an expression and of a list. -/
namespace Go.AM
open Go

theorem copy_all {w : List UInt8} {y : List Bool} (hy : y.length = w.length + 1) : y ++ (List.replicate (w.length + 1) false).drop y.length = y := by
  rw [hy, List.drop_replicate]
  simp

theorem Mt_empty (hb : List Int → UInt8 → Prop) {r : Rx} (h : r.kind = 2) (u : List UInt8) : Mt hb r u ↔ u = [] := by obtain ⟨k, s, ks⟩ := r; cases h; unfold Mt; simp
theorem Mt_leaf (hb : List Int → UInt8 → Prop) {r : Rx} (h : r.kind = 3) (u : List UInt8) : Mt hb r u ↔ ∃ b, u = [b] ∧ hb r.set b := by obtain ⟨k, s, ks⟩ := r; cases h; unfold Mt; simp [Rx.set]
theorem Mt_cat (hb : List Int → UInt8 → Prop) {r : Rx} (h : r.kind = 4) (u : List UInt8) : Mt hb r u ↔ MtC hb r.kids u := by obtain ⟨k, s, ks⟩ := r; cases h; unfold Mt; simp [Rx.kids]
theorem Mt_uni (hb : List Int → UInt8 → Prop) {r : Rx} (h : r.kind = 5) (u : List UInt8) : Mt hb r u ↔ MtU hb r.kids u := by obtain ⟨k, s, ks⟩ := r; cases h; unfold Mt; simp [Rx.kids]
theorem Mt_star (hb : List Int → UInt8 → Prop) {r : Rx} (h : r.kind = 6) (u : List UInt8) : Mt hb r u ↔ Star (MtU hb r.kids) u := by obtain ⟨k, s, ks⟩ := r; cases h; unfold Mt; simp [Rx.kids]
theorem Mt_none (hb : List Int → UInt8 → Prop) {r : Rx} (h2 : ¬ r.kind = 2) (h3 : ¬ r.kind = 3) (h4 : ¬ r.kind = 4) (h5 : ¬ r.kind = 5) (h6 : ¬ r.kind = 6) (u : List UInt8) : Mt hb r u ↔ False := by
  obtain ⟨k, s, ks⟩ := r
  simp only [Rx.kind] at h2 h3 h4 h5 h6
  unfold Mt; simp [h2, h3, h4, h5, h6]

theorem nodeOk_star {r : Rx} (h6 : r.kind = 6) (h : nodeOk r = true) : ∃ r0, r.kids = [r0] := by
  unfold nodeOk at h
  simp only [h6, Bool.and_eq_true] at h
  have h2 := h.2
  have : r.kids.length = 1 := of_decide_eq_true (by simpa using h2)
  match r.kids, this with
  | [r0], _ => exact ⟨r0, rfl⟩

theorem set4 {r : Rx} (h : r.set.length = 4) : [r.set.getD 0 0, r.set.getD 1 0, r.set.getD 2 0, r.set.getD 3 0] = r.set := by
  match r.set, h with
  | [a, b, c, d], _ => rfl

theorem pe_spec : ∀ d N, d ≤ N → ∀ r, wfR r → VR d r → ∀ (w : List UInt8) (y : List Bool), w.length ≤ 1000 → y.length = w.length + 1 →
    (∃ o, (pe N).1 (r, w, y, ()) = some o ∧ Res (Mt hbF r) w y o) ∧ (∃ o, (pe N).2 ((r, w, (), ()), (y, ())) = some (o, (y, ())) ∧ Res (Mt hbF r) w y o)
  | 0, _, _, _, _, hv, _, _, _, _ => hv.elim
  | d + 1, 0, hN, _, _, _, _, _, _, _ => absurd hN (by omega)
  | d + 1, N + 1, hN, r, hw, hv, w, y, hwl, hy => by
    have hwk := hw.kids
    have hkl := kl62 hw
    have h4 := hw.four
    have hks : ∀ r' ∈ r.kids, r'.set.length = 4 := fun r hr => (hwk r hr).four
    have hE : HE (pe N).1 w r.kids := fun r hr y hy => (pe_spec d N (by omega) r (hwk r hr) (hv.2 r hr) w y hwl hy).1
    have hF : HF (pe N).2 w r.kids := fun r hr y hy => (pe_spec d N (by omega) r (hwk r hr) (hv.2 r hr) w y hwl hy).2
    have hno := hv.1
    clear hw hv
    have e1 : (pe (N + 1)).1 = p362 (pe N).1 (pe N).2 := rfl
    have e2 : (pe (N + 1)).2 = p462 (pe N).1 (pe N).2 := rfl
    rw [e1, e2]
    have hc : decide (True ∧ 0 ≤ ((w.length + 1 : Nat) : Int) ∧ ((w.length + 1 : Nat) : Int) ≤ (lim : Int)) = true := ct ⟨trivial, by omega, by unfold lim; omega⟩
    have hcc : decide (y.length ≤ (List.replicate (w.length + 1) false).length ∧ 0 < (List.replicate (w.length + 1) false).length) = true := ct (by rw [List.length_replicate]; omega)
    simp only [p362, p462, wrap_nat (show w.length < 9223372036854775807 by omega), Int.toNat_natCast]
    simp only [if_pos hc, if_pos hcc, copy_all hy]
    by_cases h2 : r.kind = 2
    · have hr : Res (Mt hbF r) w y y := (Res.nil hy).congr fun u => (Mt_empty _ h2 _).symm
      exact ⟨⟨y, by rw [if_pos (ct h2)], hr⟩, ⟨y, by rw [if_pos (ct h2)], hr⟩⟩
    · simp only [if_neg (cf h2)]
      by_cases h3 : r.kind = 3
      · have hr : Res (Mt hbF r) w y _ := (Res.leaf y r.set).congr fun u => (Mt_leaf _ h3 _).symm
        simp only [if_pos (ct h3)]
        rw [e7 hwl hy, e7b hwl hy, set4 h4]
        exact ⟨⟨_, rfl, hr⟩, ⟨_, rfl, hr⟩⟩
      · simp only [if_neg (cf h3)]
        by_cases h4' : r.kind = 4
        · simp only [if_pos (ct h4')]
          obtain ⟨o1, f1, g1⟩ := e13 (E62 := (pe N).1) (E162 := (pe N).2) (kk := r.kind) (sa := r.set.getD 0 0) (sb := r.set.getD 1 0) (sc := r.set.getD 2 0) (sd := r.set.getD 3 0) hE hks hkl hy
          obtain ⟨o2, f2, g2⟩ := e13b (E62 := (pe N).1) (E162 := (pe N).2) (y := y) (kk := r.kind) (sa := r.set.getD 0 0) (sb := r.set.getD 1 0) (sc := r.set.getD 2 0) (sd := r.set.getD 3 0) hE hks hkl hy
          rw [f1, f2]
          exact ⟨⟨o1, rfl, g1.congr fun u => (Mt_cat _ h4' _).symm⟩, ⟨o2, rfl, g2.congr fun u => (Mt_cat _ h4' _).symm⟩⟩
        · simp only [if_neg (cf h4')]
          by_cases h5 : r.kind = 5
          · simp only [if_pos (ct h5)]
            obtain ⟨o1, f1, g1⟩ := e18 (E62 := (pe N).1) (E162 := (pe N).2) (kk := r.kind) (sa := r.set.getD 0 0) (sb := r.set.getD 1 0) (sc := r.set.getD 2 0) (sd := r.set.getD 3 0) hE hks hkl hwl hy
            obtain ⟨o2, f2, g2⟩ := e18b (E62 := (pe N).1) (E162 := (pe N).2) (kk := r.kind) (sa := r.set.getD 0 0) (sb := r.set.getD 1 0) (sc := r.set.getD 2 0) (sd := r.set.getD 3 0) hF hks hkl hwl hy
            rw [f1, f2]
            exact ⟨⟨o1, rfl, g1.congr fun u => (Mt_uni _ h5 _).symm⟩, ⟨o2, rfl, g2.congr fun u => (Mt_uni _ h5 _).symm⟩⟩
          · simp only [if_neg (cf h5)]
            by_cases h6 : r.kind = 6
            · simp only [if_pos (ct h6)]
              obtain ⟨r0, hr0⟩ := nodeOk_star h6 hno
              have hst : ∀ u, Star (Mt hbF r0) u ↔ Mt hbF r u := fun u => by
                rw [Mt_star _ h6, hr0]
                exact Star.congr (fun v => by simp [MtU]) u
              obtain ⟨o1, f1, g1⟩ := e28 (E62 := (pe N).1) (E162 := (pe N).2) (kk := r.kind) (sa := r.set.getD 0 0) (sb := r.set.getD 1 0) (sc := r.set.getD 2 0) (sd := r.set.getD 3 0) hr0 hF hks hwl hy
              obtain ⟨o2, f2, g2⟩ := e28b (E62 := (pe N).1) (E162 := (pe N).2) (y := y) (kk := r.kind) (sa := r.set.getD 0 0) (sb := r.set.getD 1 0) (sc := r.set.getD 2 0) (sd := r.set.getD 3 0) hr0 hF hks hwl hy
              rw [f1, f2]
              exact ⟨⟨o1, rfl, g1.congr hst⟩, ⟨o2, rfl, g2.congr hst⟩⟩
            · simp only [if_neg (cf h6)]
              have hr : Res (Mt hbF r) w y _ := (Res.none (y := y)).congr fun u => (Mt_none _ h2 h3 h4' h5 h6 _).symm
              exact ⟨⟨_, rfl, hr⟩, ⟨_, rfl, hr⟩⟩

theorem p348_spec {r : Rx} (hw : wfR r) (hv : VR 30 r) {w : List UInt8} (hwl : w.length ≤ 1000) : ∃ b, p348 (r, w, ()) = some b ∧ (b = true ↔ Mt hbF r w) := by
  have hy : ((List.replicate (w.length + 1) false).set 0 true).length = w.length + 1 := by simp
  obtain ⟨_, o, e, ho⟩ := pe_spec 30 fuel (by have := fuel_big; omega) r hw hv w _ hwl hy
  have hn := nrm_eq hw.four
  unfold nrm at hn
  have hc : decide (True ∧ 0 ≤ ((w.length + 1 : Nat) : Int) ∧ ((w.length + 1 : Nat) : Int) ≤ (lim : Int)) = true := ct ⟨trivial, by omega, by unfold lim; omega⟩
  have hc2 : decide (0 ≤ (0 : Int) ∧ (0 : Int) < ((List.replicate (w.length + 1) false).length : Int)) = true := ct (by rw [List.length_replicate]; omega)
  refine ⟨o.getD w.length false, ?_, ?_⟩
  · simp only [p348, wrap_nat (show w.length < 9223372036854775807 by omega), Int.toNat_natCast]
    rw [if_pos hc, if_pos hc2, hn]
    have e' : p462c ((r, w, (), ()), ((List.replicate (w.length + 1) false).set (0 : Int).toNat true, ())) = some (o, ((List.replicate (w.length + 1) false).set 0 true, ())) := e
    rw [e', Option.bind_some, if_pos (in_range (by rw [ho.1]; omega))]
  · rw [ho.2 w.length (Nat.le_refl _)]
    have hs : seg w 0 w.length = w := by unfold seg; simp
    constructor
    · rintro ⟨i, hi, h1, h2⟩
      rw [getD_set (by simp; omega)] at h1
      by_cases e0 : 0 = i
      · subst e0; rwa [hs] at h2
      · rw [if_neg e0, rep_false] at h1
        cases h1
    · intro h
      exact ⟨0, Nat.zero_le _, by rw [getD_set (by simp)]; simp, by rw [hs]; exact h⟩

/-- the first expression that matches, or -1 -/
theorem p327_spec {l : List Rx} (hw : ∀ r ∈ l, wfR r) (hv : ∀ r ∈ l, VR 30 r) (hl : l.length ≤ 1000000) {w : List UInt8} (hwl : w.length ≤ 1000) :
    ∃ x, p327 (l, w, ()) = some x ∧ ((x = -1 ∧ ∀ r ∈ l, ¬ Mt hbF r w) ∨ ∃ i, i < l.length ∧ x = (i : Int) ∧ Mt hbF (l.getD i rxd) w ∧ ∀ j, j < i → ¬ Mt hbF (l.getD j rxd) w) := by
  have key : ∃ r, limit L327_2 ((l, w, (0 : Int), ()), ()) = some r ∧ ((r = .inr ((), ()) ∧ ∀ r ∈ l, ¬ Mt hbF r w) ∨ ∃ i, i < l.length ∧ r = .inl (((i : Int), ()), ()) ∧ Mt hbF (l.getD i rxd) w ∧ ∀ j, j < i → ¬ Mt hbF (l.getD j rxd) w) := by
    refine state_rule (L := L327_2) (σ := Nat) (fun i => ((l, w, (i : Int), ()), ())) (fun i => i ≤ l.length ∧ ∀ j, j < i → ¬ Mt hbF (l.getD j rxd) w) (fun i => l.length - i)
      (fun r => (r = .inr ((), ()) ∧ ∀ r ∈ l, ¬ Mt hbF r w) ∨ ∃ i, i < l.length ∧ r = .inl (((i : Int), ()), ()) ∧ Mt hbF (l.getD i rxd) w ∧ ∀ j, j < i → ¬ Mt hbF (l.getD j rxd) w) 0 ⟨Nat.zero_le _, fun j h => absurd h (Nat.not_lt_zero j)⟩ (by show _ - 0 < _; omega) ?_
    rintro i ⟨hi, hall⟩
    by_cases hlt : i < l.length
    · have hm : l.getD i rxd ∈ l := getD_mem hlt
      obtain ⟨b, e1, e2⟩ := p348_spec (hw _ hm) (hv _ hm) hwl
      have hne := nrm_eq (hw _ hm).four
      unfold nrm at hne
      cases b with
      | true =>
        left
        refine ⟨_, .inr ⟨i, hlt, rfl, e2.1 rfl, hall⟩, fun n => ?_⟩
        simp only [L327_2, Int.toNat_natCast]
        rw [if_pos (lt_nat hlt), if_pos (in_range hlt), hne, e1, Option.bind_some, if_pos rfl]
      | false =>
        right
        refine ⟨i + 1, ⟨hlt, fun j hj => ?_⟩, by omega, fun n => ?_⟩
        · by_cases e : j = i
          · subst e; intro h; have := e2.2 h; cases this
          · exact hall j (by omega)
        · simp only [L327_2, Int.toNat_natCast]
          rw [if_pos (lt_nat hlt), if_pos (in_range hlt), hne, e1, Option.bind_some, if_neg ff, wrap_nat (by omega)]
    · left
      have : i = l.length := by omega
      subst this
      refine ⟨_, .inl ⟨rfl, all_getD.2 hall⟩, fun n => ?_⟩
      simp only [L327_2]
      rw [if_neg nlt_nat]
  obtain ⟨r, e, h⟩ := key
  simp only [p327]
  rw [e]
  rcases h with ⟨rfl, h⟩ | ⟨i, hi, rfl, h1, h2⟩
  · exact ⟨-1, rfl, .inl ⟨rfl, h⟩⟩
  · exact ⟨(i : Int), rfl, .inr ⟨i, hi, rfl, h1, h2⟩⟩
end Go.AM

/- The reference's builder, plain. -/
namespace Go.AM
open Go

theorem prs_length (a b : List Int) : (prs a b).length = a.length * b.length := by
  unfold prs
  induction a with
  | nil => simp
  | cons x a ih => rw [List.flatMap_cons, List.length_append, ih, List.length_map, List.length_cons, Nat.add_mul, Nat.one_mul]; omega

theorem prs_small {a b : List Int} (ha : a.length ≤ 500) (hb : b.length ≤ 500) : (prs a b).length ≤ 250000 := by
  rw [prs_length]
  exact Nat.mul_le_mul ha hb

theorem nn_pos : ∀ r : Rx, 1 ≤ nn r
  | .mk _ _ _ => by unfold nn; omega

mutual
theorem fl_len : ∀ (r : Rx) (o : Nat), nn r ≤ 500 → (fl r o).length + 250000 ≤ 500000 * nn r
  | .mk k s ks, o, h => by
    have hn : nn (.mk k s ks) = 1 + nnL ks := rfl
    rw [hn] at h ⊢
    have hl := lvL_le ks
    unfold fl
    split
    · have := flC_len ks o 0 ⟨true, [], []⟩ (.nil _ _ _) (by omega)
      simp only [Nat.add_zero] at this
      omega
    · split
      · have := flU_len ks o (by omega)
        omega
      · split
        · have h1 := flU_len ks o (by omega)
          have hp := glU_pin ks o 0 ⟨false, [], []⟩ (.nil _ _ _)
          simp only [Nat.add_zero, Nat.zero_add] at hp
          have h2 := prs_small (a := (glU ks o ⟨false, [], []⟩).l) (b := (glU ks o ⟨false, [], []⟩).f) (by have := hp.2.2.2; omega) (by have := hp.2.2.1; omega)
          rw [List.length_append]
          omega
        · simp; omega
theorem flC_len : ∀ (l : List Rx) (o m : Nat) (x : Pt), Pin o m x → m + nnL l ≤ 500 → (flC l (o + m) x).length ≤ 500000 * nnL l
  | [], o, m, x, _, _ => by simp [flC]
  | r :: l, o, m, x, hx, h => by
    unfold flC
    have hn : nnL (r :: l) = nn r + nnL l := rfl
    rw [hn] at h ⊢
    have hg := gl_pin r (o + m)
    have hlr := lv_le r
    have h1 := fl_len r (o + m) (by omega)
    have h2 := prs_small (a := x.l) (b := (gl r (o + m)).f) (by have := hx.2.2.2; omega) (by have := hg.2.2.1; omega)
    have h3 := flC_len l o (m + (lv r).length) _ (hx.cat hg) (by omega)
    rw [List.length_append, List.length_append, Nat.add_assoc o m]
    omega
theorem flU_len : ∀ (l : List Rx) (o : Nat), nnL l ≤ 500 → (flU l o).length ≤ 500000 * nnL l
  | [], o, _ => by simp [flU]
  | r :: l, o, h => by
    unfold flU
    have hn : nnL (r :: l) = nn r + nnL l := rfl
    rw [hn] at h ⊢
    have h1 := fl_len r o (by omega)
    have h3 := flU_len l (o + (lv r).length) (by omega)
    rw [List.length_append]
    omega
end

/-- pairs as the reference keeps them -/
def plst (ps : List (Int × Int)) : List (List Int) := ps.map fun x => [x.1, x.2]
theorem plst_append (a b : List (Int × Int)) : plst (a ++ b) = plst a ++ plst b := List.map_append

theorem l347_4 {a b : List Int} {i : Nat} {y1 y2 : List (List Int)} (hi : i < a.length) (hb : b.length ≤ 1000000) (hl : y2.length + b.length ≤ 60000000000) :
    limit L347_347_4 (((), a, b, (i : Int), (0 : Int), ()), (((), (), ()), y1, y2, ())) = some (((), a, b, (i : Int), ()), (((), (), ()), y1, y2 ++ plst (prs [a.getD i 0] b), ())) := by
  have h := for_rule (L := L347_347_4) (N := b.length) (S := fun j => (((), a, b, (i : Int), (j : Int), ()), (((), (), ()), y1, y2 ++ plst (prs [a.getD i 0] (b.take j)), ()))) (r := (((), a, b, (i : Int), ()), (((), (), ()), y1, y2 ++ plst (prs [a.getD i 0] b), ())))
    (fun j hj n => by
      have hlen : (y2 ++ plst (prs [a.getD i 0] (b.take j))).length ≤ y2.length + j := by
        rw [List.length_append]; unfold plst; rw [List.length_map, prs_length, List.length_take]; simp; omega
      have e : prs [a.getD i 0] (b.take (j + 1)) = prs [a.getD i 0] (b.take j) ++ [(a.getD i 0, b.getD j 0)] := by
        unfold prs
        rw [take_snoc (d := 0) hj]
        simp
      simp only [L347_347_4, Int.toNat_natCast]
      rw [if_pos (lt_nat hj), if_pos (in_range hi), if_pos (in_range hj), if_pos (ct (by unfold lim; simp at hlen ⊢; omega)), wrap_nat (by omega), e, plst_append, List.append_assoc]
      rfl)
    (fun n => by simp only [L347_347_4]; rw [if_neg nlt_nat, List.take_length]) (by omega)
  have h0 : plst (prs [a.getD i 0] (b.take 0)) = [] := by simp [prs, plst]
  simp only [h0, List.append_nil] at h
  exact h

theorem p347_spec {a b : List Int} {y1 y2 : List (List Int)} (ha : a.length ≤ 1000000) (hb : b.length ≤ 1000000) (hl : y2.length + a.length * b.length + b.length ≤ 60000000000) :
    p347 (((), a, b, ()), (((), (), ()), y1, y2, ())) = some ((), (((), (), ()), y1, y2 ++ plst (prs a b), ())) := by
  have h := for_rule (L := L347_347_1) (N := a.length) (S := fun i => (((), a, b, (i : Int), ()), (((), (), ()), y1, y2 ++ plst (prs (a.take i) b), ()))) (r := ((), (((), (), ()), y1, y2 ++ plst (prs a b), ())))
    (fun i hi n => by
      have hlen : (y2 ++ plst (prs (a.take i) b)).length ≤ y2.length + a.length * b.length := by
        rw [List.length_append]; unfold plst; rw [List.length_map, prs_length, List.length_take]
        exact Nat.add_le_add_left (Nat.mul_le_mul_right _ (Nat.min_le_right _ _)) _
      have e := l347_4 (y1 := y1) (y2 := y2 ++ plst (prs (a.take i) b)) hi hb (by omega)
      simp only [L347_347_1]
      rw [if_pos (lt_nat hi), e]
      simp only [Option.bind_some]
      rw [wrap_nat (by omega), prs_take hi, plst_append, List.append_assoc])
    (fun n => by simp only [L347_347_1]; rw [if_neg nlt_nat, List.take_length]) (by omega)
  have h' : limit L347_347_1 (((), a, b, (0 : Int), ()), (((), (), ()), y1, y2, ())) = some ((), (((), (), ()), y1, y2 ++ plst (prs a b), ())) := by
    have h0 : plst (prs (a.take 0) b) = [] := by simp [prs, plst]
    simp only [h0, List.append_nil] at h
    exact h
  simp only [p347]
  rw [h']
  rfl

abbrev RIn : Type := (Unit × (Rx) × Unit) × ((Unit × Unit × Unit) × (List (List (Int))) × (List (List (Int))) × Unit)
abbrev ROut : Type := ((Bool) × ((List (Int)) × ((List (Int)) × (Unit)))) × ((Unit × Unit × Unit) × (List (List (Int))) × (List (List (Int))) × Unit)
def rout (x : Pt) (y1 y2 : List (List Int)) : ROut := ((x.n, (x.f, (x.l, ()))), (((), (), ()), y1, y2, ()))
def rin (r : Rx) (y1 y2 : List (List Int)) : RIn := (((), r, ()), (((), (), ()), y1, y2, ()))

theorem p361_spec {x y : Pt} {y1 y2 : List (List Int)} (hx : x.f.length ≤ 500 ∧ x.l.length ≤ 500) (hy : y.f.length ≤ 500 ∧ y.l.length ≤ 500) (hl : y2.length ≤ 50000000000) :
    p361 (((), (x.n, (x.f, (x.l, ()))), (y.n, (y.f, (y.l, ()))), ()), (((), (), ()), y1, y2, ())) = some (rout (catP x y) y1 (y2 ++ plst (prs x.l y.f))) := by
  have hm : x.l.length * y.f.length ≤ 250000 := Nat.mul_le_mul hx.2 hy.1
  have e := p347_spec (a := x.l) (b := y.f) (y1 := y1) (y2 := y2) (by omega) (by omega) (by omega)
  have q1 : ([] : List Int).length + x.f.length ≤ lim := by unfold lim; simp; omega
  have q2 : x.f.length + y.f.length ≤ lim := by unfold lim; omega
  have q3 : ([] : List Int).length + x.l.length ≤ lim := by unfold lim; simp; omega
  have q4 : x.l.length + y.l.length ≤ lim := by unfold lim; omega
  simp only [p361]
  rw [e]
  unfold rout catP
  cases hxn : x.n <;> cases hyn : y.n <;> simp only [Option.bind_some, if_pos (ct q1), if_pos (ct q2), if_pos (ct q3), if_pos (ct q4), if_true, if_false, Bool.false_eq_true, List.nil_append, Bool.and_true, Bool.and_false, Bool.true_and, Bool.false_and]

/-- E says of the expression what it should -/
def SaysR (E : RIn → Option ROut) (r : Rx) : Prop :=
  ∀ (y1 y2 : List (List Int)), y1.length + nn r ≤ 1000000 → nn r ≤ 500 → y2.length + 500000 * nn r ≤ 40000000000 → E (rin r y1 y2) = some (rout (gl r y1.length) (y1 ++ lv r) (y2 ++ plst (fl r y1.length)))

theorem plst_length (ps : List (Int × Int)) : (plst ps).length = ps.length := List.length_map _

theorem l346_12 {E : RIn → Option ROut} {kd a b c d : Int} {ks : List Rx} {y1 y2 : List (List Int)} (hk : ks.length ≤ 9223372036854775807) (hw : ∀ k ∈ ks, wfR k) (hE : ∀ k ∈ ks, SaysR E k) (hn : nnL ks ≤ 500) (h1 : y1.length + nnL ks ≤ 1000000) (h2 : y2.length + 500000 * nnL ks ≤ 40000000000) :
    limit (L346_346_12 E) (((), (), (), (), (0 : Int), ()), (((), (), ()), (kd, a, b, c, d, ks, ()), (false, ([] : List (Int)), ([] : List (Int)), ()), (true, ([] : List (Int)), ([] : List (Int)), ()), y1, y2, ())) =
      some (((), (), ()), (((), (), ()), (false, ([] : List (Int)), ([] : List (Int)), ()), ((glC ks y1.length ⟨true, [], []⟩).n, (glC ks y1.length ⟨true, [], []⟩).f, (glC ks y1.length ⟨true, [], []⟩).l, ()), y1 ++ lvL ks, y2 ++ plst (flC ks y1.length ⟨true, [], []⟩), ())) := by
  let x0 : Pt := ⟨true, [], []⟩
  have h := for_rule (L := L346_346_12 E) (N := ks.length)
    (S := fun i => (((), (), (), (), (i : Int), ()), (((), (), ()), (kd, a, b, c, d, ks, ()), (false, ([] : List (Int)), ([] : List (Int)), ()), ((glC (ks.take i) y1.length x0).n, (glC (ks.take i) y1.length x0).f, (glC (ks.take i) y1.length x0).l, ()), y1 ++ lvL (ks.take i), y2 ++ plst (flC (ks.take i) y1.length x0), ())))
    (r := (((), (), ()), (((), (), ()), (false, ([] : List (Int)), ([] : List (Int)), ()), ((glC ks y1.length x0).n, (glC ks y1.length x0).f, (glC ks y1.length x0).l, ()), y1 ++ lvL ks, y2 ++ plst (flC ks y1.length x0), ())))
    (fun i hi n => by
      have hmem : ks.getD i rxd ∈ ks := getD_mem hi
      have hne := nrm_eq (hw _ hmem).four
      unfold nrm at hne
      have hti := nnL_take ks (i + 1)
      rw [nnL_snoc hi] at hti
      have hlv := lvL_le (ks.take i)
      have hlr := lv_le (ks.getD i rxd)
      have hpin := glC_pin (ks.take i) y1.length 0 x0 (.nil _ _ _)
      have hfl := flC_len (ks.take i) y1.length 0 x0 (.nil _ _ _) (by omega)
      simp only [Nat.add_zero, Nat.zero_add] at hpin hfl
      have hyp := gl_pin (ks.getD i rxd) (y1.length + (lvL (ks.take i)).length)
      have hf2 := fl_len (ks.getD i rxd) (y1.length + (lvL (ks.take i)).length) (by omega)
      have e := hE _ hmem (y1 ++ lvL (ks.take i)) (y2 ++ plst (flC (ks.take i) y1.length x0)) (by rw [List.length_append]; omega) (by omega) (by rw [List.length_append, plst_length]; omega)
      rw [List.length_append] at e
      have e1 : glC (ks.take (i + 1)) y1.length x0 = catP (glC (ks.take i) y1.length x0) (gl (ks.getD i rxd) (y1.length + (lvL (ks.take i)).length)) := by rw [take_snoc (d := rxd) hi, glC_append]; rfl
      have e2 : flC (ks.take (i + 1)) y1.length x0 = flC (ks.take i) y1.length x0 ++ fl (ks.getD i rxd) (y1.length + (lvL (ks.take i)).length) ++ prs (glC (ks.take i) y1.length x0).l (gl (ks.getD i rxd) (y1.length + (lvL (ks.take i)).length)).f := by
        rw [take_snoc (d := rxd) hi, flC_append]; simp [flC]
      have e3 : lvL (ks.take (i + 1)) = lvL (ks.take i) ++ lv (ks.getD i rxd) := by rw [take_snoc (d := rxd) hi, lvL_append]; simp [lvL]
      rw [e1, e2, e3]
      have el := p361_spec (x := glC (ks.take i) y1.length x0) (y := gl (ks.getD i rxd) (y1.length + (lvL (ks.take i)).length)) (y1 := (y1 ++ lvL (ks.take i)) ++ lv (ks.getD i rxd)) (y2 := (y2 ++ plst (flC (ks.take i) y1.length x0)) ++ plst (fl (ks.getD i rxd) (y1.length + (lvL (ks.take i)).length)))
        ⟨by have := hpin.2.2.1; omega, by have := hpin.2.2.2; omega⟩ ⟨by have := hyp.2.2.1; omega, by have := hyp.2.2.2; omega⟩ (by rw [List.length_append, List.length_append, plst_length, plst_length]; omega)
      unfold rin rout at e
      unfold rout at el
      simp only [L346_346_12, Int.toNat_natCast]
      rw [if_pos (lt_nat hi), if_pos (in_range hi), hne, e, Option.bind_some]
      simp only
      rw [el, Option.bind_some, wrap_nat (by omega), plst_append, plst_append]
      simp only [List.append_assoc])
    (fun n => by simp only [L346_346_12]; rw [if_neg nlt_nat, List.take_length]) (by omega)
  have h' := h
  simp only [List.take_zero, lvL, glC, flC, List.append_nil, plst, List.map_nil] at h'
  exact h'

theorem l346_17 {E : RIn → Option ROut} {kd a b c d : Int} {ks : List Rx} {y1 y2 : List (List Int)} (hk : ks.length ≤ 9223372036854775807) (hw : ∀ k ∈ ks, wfR k) (hE : ∀ k ∈ ks, SaysR E k) (hn : nnL ks ≤ 500) (h1 : y1.length + nnL ks ≤ 1000000) (h2 : y2.length + 500000 * nnL ks ≤ 40000000000) :
    limit (L346_346_17 E) (((), (), (), (), (0 : Int), ()), (((), (), ()), (kd, a, b, c, d, ks, ()), (false, ([] : List (Int)), ([] : List (Int)), ()), (false, (), (), ()), ([] : List (Int)), ([] : List (Int)), y1, y2, ())) =
      some (((), (), ()), (((), (), ()), (false, ([] : List (Int)), ([] : List (Int)), ()), ((glU ks y1.length ⟨false, [], []⟩).n, (), (), ()), (glU ks y1.length ⟨false, [], []⟩).f, (glU ks y1.length ⟨false, [], []⟩).l, y1 ++ lvL ks, y2 ++ plst (flU ks y1.length), ())) := by
  let x0 : Pt := ⟨false, [], []⟩
  have h := for_rule (L := L346_346_17 E) (N := ks.length)
    (S := fun i => (((), (), (), (), (i : Int), ()), (((), (), ()), (kd, a, b, c, d, ks, ()), (false, ([] : List (Int)), ([] : List (Int)), ()), ((glU (ks.take i) y1.length x0).n, (), (), ()), (glU (ks.take i) y1.length x0).f, (glU (ks.take i) y1.length x0).l, y1 ++ lvL (ks.take i), y2 ++ plst (flU (ks.take i) y1.length), ())))
    (r := (((), (), ()), (((), (), ()), (false, ([] : List (Int)), ([] : List (Int)), ()), ((glU ks y1.length x0).n, (), (), ()), (glU ks y1.length x0).f, (glU ks y1.length x0).l, y1 ++ lvL ks, y2 ++ plst (flU ks y1.length), ())))
    (fun i hi n => by
      have hmem : ks.getD i rxd ∈ ks := getD_mem hi
      have hne := nrm_eq (hw _ hmem).four
      unfold nrm at hne
      have hti := nnL_take ks (i + 1)
      rw [nnL_snoc hi] at hti
      have hlv := lvL_le (ks.take i)
      have hlr := lv_le (ks.getD i rxd)
      have hpin := glU_pin (ks.take i) y1.length 0 x0 (.nil _ _ _)
      simp only [Nat.add_zero, Nat.zero_add] at hpin
      have hfl := flU_len (ks.take i) y1.length (by omega)
      have hyp := gl_pin (ks.getD i rxd) (y1.length + (lvL (ks.take i)).length)
      have e := hE _ hmem (y1 ++ lvL (ks.take i)) (y2 ++ plst (flU (ks.take i) y1.length)) (by rw [List.length_append]; omega) (by omega) (by rw [List.length_append, plst_length]; omega)
      rw [List.length_append] at e
      have e1 : glU (ks.take (i + 1)) y1.length x0 = uniP (glU (ks.take i) y1.length x0) (gl (ks.getD i rxd) (y1.length + (lvL (ks.take i)).length)) := by rw [take_snoc (d := rxd) hi, glU_append]; rfl
      have e2 : flU (ks.take (i + 1)) y1.length = flU (ks.take i) y1.length ++ fl (ks.getD i rxd) (y1.length + (lvL (ks.take i)).length) := by
        rw [take_snoc (d := rxd) hi, flU_append]; simp [flU]
      have e3 : lvL (ks.take (i + 1)) = lvL (ks.take i) ++ lv (ks.getD i rxd) := by rw [take_snoc (d := rxd) hi, lvL_append]; simp [lvL]
      rw [e1, e2, e3]
      generalize hX : glU (ks.take i) y1.length x0 = X at *
      generalize hY : gl (ks.getD i rxd) (y1.length + (lvL (ks.take i)).length) = Y at *
      have q1 : ([] : List Int).length + X.f.length ≤ lim := by have := hpin.2.2.1; unfold lim; simp; omega
      have q2 : X.f.length + Y.f.length ≤ lim := by have := hpin.2.2.1; have := hyp.2.2.1; unfold lim; omega
      have q3 : ([] : List Int).length + X.l.length ≤ lim := by have := hpin.2.2.2; unfold lim; simp; omega
      have q4 : X.l.length + Y.l.length ≤ lim := by have := hpin.2.2.2; have := hyp.2.2.2; unfold lim; omega
      unfold rin rout at e
      simp only [L346_346_17, Int.toNat_natCast]
      rw [if_pos (lt_nat hi), if_pos (in_range hi), hne, e, Option.bind_some]
      simp only
      rw [wrap_nat (by omega), plst_append]
      simp only [uniP]
      cases hxn : X.n <;> simp only [if_pos (ct q1), if_pos (ct q2), if_pos (ct q3), if_pos (ct q4), if_true, if_false, Bool.false_eq_true, List.nil_append, List.append_assoc, Bool.true_or, Bool.false_or])
    (fun n => by simp only [L346_346_17]; rw [if_neg nlt_nat, List.take_length]) (by omega)
  have h' := h
  simp only [List.take_zero, lvL, glU, flU, List.append_nil, plst, List.map_nil] at h'
  exact h'

theorem p346_says : ∀ (d m : Nat), d ≤ m → ∀ r : Rx, wfR r → VR d r → SaysR (p346n m) r
  | 0, _, _, _, _, h => h.elim
  | d + 1, m + 1, hm, r, hw, hv => by
    have ih : ∀ k ∈ r.kids, SaysR (p346n m) k := fun k hk => p346_says d m (by omega) k (hw.kids k hk) (hv.2 k hk)
    have hkl := kl62 hw
    have hwk := hw.kids
    have hf := hw.four
    intro y1 y2 h1 hn h2
    show p346b (p346n m) _ = _
    have hnode := hv.1
    unfold nodeOk at hnode
    simp only [Bool.and_eq_true, Bool.or_eq_true, beq_iff_eq, decide_eq_true_eq] at hnode
    obtain ⟨k, s, ks⟩ := r
    have hnn : nn (Rx.mk k s ks) = 1 + nnL ks := rfl
    rw [hnn] at hn h2 h1
    unfold rin
    rcases hnode.2 with (⟨(h | h) | h, _⟩ | ⟨h | h, _⟩) | ⟨h, h1'⟩
    · replace h : k = 1 := h
      subst h
      simp only [p346b, Rx.kind]
      unfold gl fl lv
      simp [rout, plst]
    · replace h : k = 2 := h
      subst h
      simp only [p346b, Rx.kind]
      unfold gl fl lv
      simp [rout, plst]
    · replace h : k = 3 := h
      subst h
      have hs : [(s.getD 0 0), (s.getD 1 0), (s.getD 2 0), (s.getD 3 0)] = s := by
        replace hf : s.length = 4 := hf
        match s, hf with
        | [a, b, c, d], _ => rfl
      have q : y1.length + [s].length ≤ lim := by unfold lim; simp; omega
      simp only [p346b, Rx.kind, Rx.set, hs]
      rw [if_neg (by simp), if_pos (by simp), if_pos (ct q)]
      unfold gl fl lv
      simp [rout, plst]
    · replace h : k = 4 := h
      subst h
      have e := l346_12 (E := p346n m) (ks := ks) (kd := 4) (a := s.getD 0 0) (b := s.getD 1 0) (c := s.getD 2 0) (d := s.getD 3 0) (y1 := y1) (y2 := y2) hkl hwk ih (by omega) (by omega) (by omega)
      simp only [p346b, Rx.kind, Rx.set, Rx.kids]
      rw [if_neg (by simp), if_neg (by simp), if_pos (by simp), e]
      unfold gl fl lv
      simp [rout]
    · replace h : k = 5 := h
      subst h
      have e := l346_17 (E := p346n m) (ks := ks) (kd := 5) (a := s.getD 0 0) (b := s.getD 1 0) (c := s.getD 2 0) (d := s.getD 3 0) (y1 := y1) (y2 := y2) hkl hwk ih (by omega) (by omega) (by omega)
      simp only [p346b, Rx.kind, Rx.set, Rx.kids]
      rw [if_neg (by simp), if_neg (by simp), if_neg (by simp), if_pos (by simp), e]
      unfold gl fl lv
      simp [rout]
    · replace h : k = 6 := h
      subst h
      match ks, h1' with
      | [x], _ =>
        have hnx : nnL [x] = nn x := by simp [nnL]
        rw [hnx] at hn h2 h1
        have e := ih x (by simp [Rx.kids]) y1 y2 (by omega) (by omega) (by omega)
        have hne := nrm_eq (hwk x (by simp [Rx.kids])).four
        unfold nrm at hne
        have hp := gl_pin x y1.length
        have hlx := lv_le x
        have hfx := fl_len x y1.length (by omega)
        unfold rin rout at e
        have hmul : (gl x y1.length).l.length * (gl x y1.length).f.length ≤ 500 * 500 := Nat.mul_le_mul (by have := hp.2.2.2; omega) (by have := hp.2.2.1; omega)
        have el := p347_spec (a := (gl x y1.length).l) (b := (gl x y1.length).f) (y1 := y1 ++ lv x) (y2 := y2 ++ plst (fl x y1.length))
          (by have := hp.2.2.2; omega) (by have := hp.2.2.1; omega) (by rw [List.length_append, plst_length]; have := hp.2.2.1; omega)
        simp only [p346b]
        rw [if_neg (cf (show ¬ ((Rx.mk 6 s [x]).kind = 2) by simp [Rx.kind])), if_neg (cf (show ¬ ((Rx.mk 6 s [x]).kind = 3) by simp [Rx.kind])), if_neg (cf (show ¬ ((Rx.mk 6 s [x]).kind = 4) by simp [Rx.kind])), if_neg (cf (show ¬ ((Rx.mk 6 s [x]).kind = 5) by simp [Rx.kind])), if_pos (ct (show (Rx.mk 6 s [x]).kind = 6 from rfl))]
        rw [if_pos (show decide (0 ≤ (0 : Int) ∧ (0 : Int) < (((Rx.mk 6 s [x]).kids.length : Nat) : Int)) = true from rfl)]
        rw [show (Rx.mk 6 s [x]).kids.getD (0 : Int).toNat (Rx.mk 0 [0, 0, 0, 0] []) = x from rfl]
        rw [hne, e, Option.bind_some]
        simp only
        rw [el, Option.bind_some]
        have g1 : gl (Rx.mk 6 s [x]) y1.length = ⟨true, (gl x y1.length).f, (gl x y1.length).l⟩ := by simp [gl, glU, uniP]
        have g2 : fl (Rx.mk 6 s [x]) y1.length = fl x y1.length ++ prs (gl x y1.length).l (gl x y1.length).f := by simp [fl, flU, glU, uniP]
        have g3 : lv (Rx.mk 6 s [x]) = lv x := by simp [lv, lvL]
        rw [g1, g2, g3, plst_append]
        simp [rout]
end Go.AM

/- The reference's position automaton of a list is the program's. -/
namespace Go.AM
open Go

section
variable {l : List Rx}

theorem l325_11 (i : Int) (x : Pt) (acc : List Int) (S Q : List (List Int)) (m : Nat) (h : acc.length + m = S.length + 1) (hS : S.length ≤ 1000000) :
    limit L325_11 ((l, (), (), (), i, (), ()), (nf0, acc, (x.n, x.f, x.l, ()), ((), (), ()), S, Q, ())) = some ((l, (), (), (), i, (), ()), (nf0, acc ++ List.replicate m (-1), (x.n, x.f, x.l, ()), ((), (), ()), S, Q, ())) := by
  have h := for_rule (L := L325_11) (N := m) (S := fun j => ((l, (), (), (), i, (), ()), (nf0, acc ++ List.replicate j (-1), (x.n, x.f, x.l, ()), ((), (), ()), S, Q, ())))
    (r := ((l, (), (), (), i, (), ()), (nf0, acc ++ List.replicate m (-1), (x.n, x.f, x.l, ()), ((), (), ()), S, Q, ())))
    (fun j hj n => by
      simp only [L325_11]
      rw [if_pos (ct (by rw [List.length_append, List.length_replicate]; omega)), if_pos (ct (by simp; unfold lim; omega)), List.append_assoc, ← List.replicate_succ'])
    (fun n => by simp only [L325_11]; rw [if_neg (cf (by rw [List.length_append, List.length_replicate]; omega))]) (by omega)
  simpa using h

theorem l325_14 (i : Int) (x : Pt) (acc : List Int) (S Q : List (List Int)) (h : ∀ p ∈ x.l, 0 ≤ p ∧ p < (acc.length : Int)) (hl : x.l.length ≤ 1000000) :
    limit L325_14 ((l, (), (), (), i, (), (0 : Int), ()), (nf0, acc, (x.n, x.f, x.l, ()), ((), (), ()), S, Q, ())) = some ((l, (), (), (), i, (), ()), (nf0, setAll i acc x.l, (x.n, x.f, x.l, ()), ((), (), ()), S, Q, ())) :=
  for_rule (L := L325_14) (N := x.l.length) (S := fun j => ((l, (), (), (), i, (), (j : Int), ()), (nf0, setAll i acc (x.l.take j), (x.n, x.f, x.l, ()), ((), (), ()), S, Q, ())))
    (r := ((l, (), (), (), i, (), ()), (nf0, setAll i acc x.l, (x.n, x.f, x.l, ()), ((), (), ()), S, Q, ())))
    (fun j hj n => by
      have hp := h _ (getD_mem (d := 0) hj)
      simp only [L325_14, Int.toNat_natCast]
      rw [if_pos (lt_nat hj), if_pos (in_range hj), if_pos (ct ⟨hp.1, by rw [setAll_length]; exact hp.2⟩), wrap_nat (by omega)]
      have e : setAll i acc (x.l.take (j + 1)) = (setAll i acc (x.l.take j)).set (x.l.getD j 0).toNat i := by
        unfold setAll
        rw [take_snoc (d := 0) hj, List.foldl_append]
        rfl
      rw [e])
    (fun n => by simp only [L325_14]; rw [if_neg nlt_nat, List.take_length]) (by omega)

abbrev R7 (l : List Rx) (i : Nat) (acc : List Int) (S Q : List (List Int)) : ((List (Rx)) × Unit × Unit × Unit × (Int) × Unit) × (((Int) × (Int) × (List ((Int) × ((Int) × ((Bool) × ((List (Int)) × (Unit)))))) × (List (Int)) × Unit) × (List (Int)) × (Unit × Unit × Unit) × (List (List (Int))) × (List (List (Int))) × Unit) :=
  ((l, (), (), (), (i : Int), ()), (nf0, acc, ((), (), ()), S, Q, ()))

theorem l325_7_step {i : Nat} (hi : i < l.length) (hl : l.length ≤ 1000000) {r : Rx} (hr : l.getD i rxd = r) (hw : wfR r) (hv : VR 30 r) {acc : List Int} {S Q : List (List Int)}
    (ha : acc.length = S.length + 1) (hn5 : nn r ≤ 500) (hS : S.length + nn r ≤ 1000000) (hQ : Q.length + 500000 * nn r ≤ 40000000000) (n : Nat) :
    L325_7 (n + 1) (R7 l i acc S Q) = L325_7 n (R7 l (i + 1) (acS r S.length (i : Int) acc) (S ++ lv r) (Q ++ plst (fl r S.length ++ prs [0] (gl r S.length).f))) := by
  have hne := nrm_eq hw.four
  unfold nrm at hne
  have hlr := lv_le r
  have hfl := fl_len r S.length hn5
  have e : p346 (rin r S Q) = _ := p346_says 30 fuel (by have := fuel_big; omega) r hw hv S Q hS hn5 hQ
  unfold rin rout at e
  have hp := gl_pin r S.length
  have hlen : (S ++ lv r).length = S.length + (lv r).length := List.length_append
  have e3 := p347_spec (a := [0]) (b := (gl r S.length).f) (y1 := S ++ lv r) (y2 := Q ++ plst (fl r S.length)) (by simp) (by have := hp.2.2.1; omega)
    (by rw [List.length_append, plst_length]; have := hp.2.2.1; simp; omega)
  rw [List.append_assoc, ← plst_append] at e3
  have e18 := l325_11 (l := l) (i : Int) (gl r S.length) acc (S ++ lv r) (Q ++ plst (fl r S.length ++ prs [0] (gl r S.length).f)) (lv r).length (by omega) (by omega)
  have e21 := l325_14 (l := l) (i : Int) (gl r S.length) (acc ++ List.replicate (lv r).length (-1)) (S ++ lv r) (Q ++ plst (fl r S.length ++ prs [0] (gl r S.length).f))
    (fun p hp' => by have := hp.2.1 p hp'; rw [List.length_append, List.length_replicate]; omega) (by have := hp.2.2.2; omega)
  have hlen2 : 0 < (setAll (i : Int) (acc ++ List.replicate (lv r).length (-1)) (gl r S.length).l).length := by rw [setAll_length, List.length_append]; omega
  simp only [R7, L325_7, Int.toNat_natCast]
  rw [if_pos (lt_nat hi), if_pos (in_range hi), hr, hne, e, Option.bind_some]
  simp only
  rw [e3, Option.bind_some]
  simp only
  rw [e18, Option.bind_some]
  simp only
  rw [e21, Option.bind_some]
  simp only
  rw [wrap_nat (by omega)]
  unfold acS
  simp only
  cases hn : (gl r S.length).n with
  | false => rw [if_neg (by decide), if_neg (fun h => by cases h.1)]
  | true =>
    rw [if_pos rfl, if_pos (ct ⟨Int.le_refl _, by omega⟩)]
    by_cases h0 : (setAll (i : Int) (acc ++ List.replicate (lv r).length (-1)) (gl r S.length).l).getD 0 0 < 0
    · rw [if_pos (ct (by simpa using h0)), if_pos (ct ⟨Int.le_refl _, by omega⟩), if_pos ⟨rfl, h0⟩]
      rfl
    · rw [if_neg (cf (by simpa using h0)), if_neg (fun h => h0 h.2)]

theorem flA_len : ∀ (l : List Rx) (o : Nat), nnL l ≤ 500 → (flA l o).length ≤ 500000 * nnL l
  | [], _, _ => by simp [flA]
  | r :: l, o, h => by
    have hn : nnL (r :: l) = nn r + nnL l := rfl
    rw [hn] at h ⊢
    have h1 := fl_len r o (by omega)
    have h2 := prs_small (a := [0]) (b := (gl r o).f) (by simp) (by have := (gl_pin r o).2.2.1; have := lv_le r; omega)
    have h3 := flA_len l (o + (lv r).length) (by omega)
    unfold flA
    rw [List.length_append, List.length_append]
    omega

theorem l325_7 (hw : ∀ r ∈ l, wfR r) (hv : AllV l) (hl : l.length ≤ 1000000) (hn : nnL l ≤ 500) :
    limit L325_7 (R7 l 0 [-1] [] []) = some (((), (), (), ()), (nf0, acA l 0 0 [-1], ((), (), ()), lvL l, plst (flA l 0), ())) := by
  have h := for_rule (L := L325_7) (N := l.length) (S := fun i => R7 l i (acA (l.take i) 0 0 [-1]) (lvL (l.take i)) (plst (flA (l.take i) 0)))
    (r := (((), (), (), ()), (nf0, acA l 0 0 [-1], ((), (), ()), lvL l, plst (flA l 0), ())))
    (fun i hi n => by
      have hm : l.getD i rxd ∈ l := getD_mem hi
      have hti := nnL_take l (i + 1)
      rw [nnL_snoc hi] at hti
      have hlv := lvL_le (l.take i)
      have hfl := flA_len (l.take i) 0 (by omega)
      rw [l325_7_step hi hl rfl (hw _ hm) (hv _ hm) (by rw [acA_length]; simp; omega) (by omega) (by omega) (by rw [plst_length]; omega)]
      have e1 : acA (l.take (i + 1)) 0 0 [-1] = acS (l.getD i rxd) (lvL (l.take i)).length (i : Int) (acA (l.take i) 0 0 [-1]) := by
        rw [take_snoc (d := rxd) hi, acA_append, List.length_take, Nat.min_eq_left (by omega)]
        simp [acA]
      have e2 : flA (l.take (i + 1)) 0 = flA (l.take i) 0 ++ (fl (l.getD i rxd) (lvL (l.take i)).length ++ prs [0] (gl (l.getD i rxd) (lvL (l.take i)).length).f) := by
        rw [take_snoc (d := rxd) hi, flA_append]; simp [flA]
      have e3 : lvL (l.take (i + 1)) = lvL (l.take i) ++ lv (l.getD i rxd) := by rw [take_snoc (d := rxd) hi, lvL_append]; simp [lvL]
      rw [e1, e2, e3, plst_append (flA (l.take i) 0)])
    (fun n => by simp only [R7, L325_7]; rw [if_neg nlt_nat, List.take_length]) (by omega)
  exact h
end

/-! ### the matrix -/

def hasS (N : Nat) (ps : List (Int × Int)) : List Bool := ps.foldl (fun h x => h.set (x.1.toNat * N + x.2.toNat) true) (List.replicate (N * N) false)

theorem hasS_snoc (N : Nat) (ps : List (Int × Int)) (x : Int × Int) : hasS N (ps ++ [x]) = (hasS N ps).set (x.1.toNat * N + x.2.toNat) true := by unfold hasS; rw [List.foldl_append]; rfl
theorem hasS_length (N : Nat) (ps : List (Int × Int)) : (hasS N ps).length = N * N := by
  refine snoc_ind (p := fun ps => (hasS N ps).length = N * N) (by simp [hasS]) (fun l a ih => ?_) ps
  rw [hasS_snoc, List.length_set, ih]
theorem hasS_get (N : Nat) (ps : List (Int × Int)) {j : Nat} (hj : j < N * N) : (hasS N ps).getD j false = true ↔ ∃ x ∈ ps, x.1.toNat * N + x.2.toNat = j := by
  refine snoc_ind (p := fun ps => (hasS N ps).getD j false = true ↔ ∃ x ∈ ps, x.1.toNat * N + x.2.toNat = j) ?_ (fun l a ih => ?_) ps
  · have : (List.replicate (N * N) false).getD j false = false := by rw [List.getD_eq_getElem?_getD, List.getElem?_replicate]; split <;> rfl
    show (List.replicate (N * N) false).getD j false = true ↔ _
    rw [this]; simp
  · rw [hasS_snoc, getD_set (by rw [hasS_length]; exact hj)]
    by_cases e : a.1.toNat * N + a.2.toNat = j
    · rw [if_pos e]; exact ⟨fun _ => ⟨a, by simp, e⟩, fun _ => rfl⟩
    · rw [if_neg e, ih]
      constructor
      · rintro ⟨x, hx, h⟩; exact ⟨x, by simp [hx], h⟩
      · rintro ⟨x, hx, h⟩
        rcases List.mem_append.1 hx with hx | hx
        · exact ⟨x, hx, h⟩
        · simp at hx; subst hx; exact absurd h e

theorem plst_get {ps : List (Int × Int)} {i : Nat} (hi : i < ps.length) : (plst ps).getD i (List.replicate 2 0) = [(ps.getD i (0, 0)).1, (ps.getD i (0, 0)).2] := by
  unfold plst
  rw [map_getD (d := (0, 0)) hi]

theorem l325_22 {N : Nat} {acc : List Int} {S : List (List Int)} {ps : List (Int × Int)} (hN : N ≤ 501) (hp : ∀ x ∈ ps, (0 ≤ x.1 ∧ x.1 < (N : Int)) ∧ (0 ≤ x.2 ∧ x.2 < (N : Int))) (hl : ps.length ≤ 1000000000) :
    limit L325_22 (((), (), (), (N : Int), (), (0 : Int), ()), (nf0, acc, ((), (), ()), List.replicate (N * N) false, S, plst ps, ())) = some (((), (), (), (N : Int), (), ()), (nf0, acc, ((), (), ()), hasS N ps, S, plst ps, ())) := by
  have h := for_rule (L := L325_22) (N := ps.length) (S := fun i => (((), (), (), (N : Int), (), (i : Int), ()), (nf0, acc, ((), (), ()), hasS N (ps.take i), S, plst ps, ())))
    (r := (((), (), (), (N : Int), (), ()), (nf0, acc, ((), (), ()), hasS N ps, S, plst ps, ())))
    (fun i hi n => by
      have hpl : (plst ps).length = ps.length := plst_length ps
      obtain ⟨⟨a1, a2⟩, b1, b2⟩ := hp _ (getD_mem (d := (0, 0)) hi)
      generalize hx : ps.getD i (0, 0) = x at a1 a2 b1 b2
      obtain ⟨p, hp1⟩ : ∃ p : Nat, x.1 = (p : Int) := ⟨x.1.toNat, by omega⟩
      obtain ⟨q, hq1⟩ : ∃ q : Nat, x.2 = (q : Int) := ⟨x.2.toNat, by omega⟩
      have hpN : p < N := by omega
      have hqN : q < N := by omega
      have hmul : p * N ≤ 501 * 501 := Nat.mul_le_mul (by omega) hN
      have hlt : p * N + q < N * N := by
        have : (p + 1) * N ≤ N * N := Nat.mul_le_mul_right _ hpN
        rw [Nat.add_mul, Nat.one_mul] at this
        omega
      have hw1 : IntKind.i64.wrap ((p : Int) * (N : Int)) = ((p * N : Nat) : Int) := by
        rw [← Int.natCast_mul]; exact wrap_i64 (by omega) (by omega)
      have hw2 : IntKind.i64.wrap (((p * N : Nat) : Int) + (q : Int)) = ((p * N + q : Nat) : Int) := wrap_add (by omega)
      have e : (plst ps).getD i (List.replicate 2 0) = [(p : Int), (q : Int)] := by rw [plst_get hi, hx, hp1, hq1]
      simp only [L325_22, Int.toNat_natCast, e, List.getD_cons_zero, List.getD_cons_succ, hw1, hw2]
      rw [if_pos (ct (by omega)), if_pos (ct (by omega)), if_pos (by decide), if_pos (ct (by omega)), if_pos (by decide), if_pos (ct (by rw [hasS_length]; omega)), wrap_nat (by omega), take_snoc (d := (0, 0)) hi, hasS_snoc, hx, hp1, hq1]
      rfl)
    (fun n => by simp only [L325_22]; rw [if_neg (cf (by rw [plst_length]; omega)), List.take_length]) (by omega)
  exact h

def arcsM (N : Nat) (S : List (List Int)) (H : List Bool) (i : Nat) : List Arc' := ((List.range i).filter fun j => H.getD j false).map fun j => arcOf S ((j / N : Nat) : Int) ((j % N : Nat) : Int)

theorem arcsM_succ (N : Nat) (S : List (List Int)) (H : List Bool) (i : Nat) : arcsM N S H (i + 1) = arcsM N S H i ++ (if H.getD i false = true then [arcOf S ((i / N : Nat) : Int) ((i % N : Nat) : Int)] else []) := by
  unfold arcsM
  rw [List.range_succ, List.filter_append, List.map_append]
  congr 1
  by_cases h : H.getD i false = true
  · rw [if_pos h, List.filter_cons, if_pos h]; rfl
  · rw [if_neg h, List.filter_cons, if_neg h]; rfl

theorem arcsM_len (N : Nat) (S : List (List Int)) (H : List Bool) (i : Nat) : (arcsM N S H i).length ≤ i := by
  unfold arcsM
  rw [List.length_map]
  exact Nat.le_trans (List.length_filter_le _ _) (by simp)

theorem l325_27 {N : Nat} {acc : List Int} {S Q : List (List Int)} {H : List Bool} (hN : N ≤ 501) (hN0 : 0 < N) (hS : S.length + 1 = N) (hH : H.length = N * N) (hq : ∀ j, j < N * N → H.getD j false = true → 1 ≤ j % N) :
    limit L325_27 (((), (), (N : Int), (), (), (0 : Int), ()), (nf0, acc, ((N : Int), (0 : Int), (), (), ()), ((), (), ()), H, ([] : List Arc'), S, Q, ())) = some (((), (), ()), (nf0, acc, ((N : Int), (0 : Int), (), (), ()), arcsM N S H (N * N), ())) := by
  have hNN : N * N ≤ 501 * 501 := Nat.mul_le_mul hN hN
  have h := for_rule (L := L325_27) (N := N * N) (S := fun i => (((), (), (N : Int), (), (), (i : Int), ()), (nf0, acc, ((N : Int), (0 : Int), (), (), ()), ((), (), ()), H, arcsM N S H i, S, Q, ())))
    (r := (((), (), ()), (nf0, acc, ((N : Int), (0 : Int), (), (), ()), arcsM N S H (N * N), ())))
    (fun i hi n => by
      have hal := arcsM_len N S H i
      obtain ⟨dv, hdv⟩ : ∃ d, d = i / N := ⟨_, rfl⟩
      obtain ⟨md, hmd⟩ : ∃ d, d = i % N := ⟨_, rfl⟩
      have hmod : md < N := by rw [hmd]; exact Nat.mod_lt _ hN0
      have hdiv : dv ≤ i := by rw [hdv]; exact Nat.div_le_self _ _
      have ht1 : (i : Int).tmod (N : Int) = (md : Int) := by rw [hmd, Int.tmod_eq_emod_of_nonneg (by omega)]; rfl
      have ht2 : (i : Int).tdiv (N : Int) = (dv : Int) := by rw [hdv, Int.tdiv_eq_ediv_of_nonneg (by omega)]; rfl
      have hw : IntKind.i64.wrap (dv : Int) = (dv : Int) := wrap_i64 (by omega) (by omega)
      have hq' : H.getD i false = true → 1 ≤ md := fun h => by rw [hmd]; exact hq i hi h
      rw [arcsM_succ, ← hdv, ← hmd]
      clear hdv hmd
      simp only [L325_27, Int.toNat_natCast]
      rw [if_pos (ct (by omega)), if_pos (ct (by omega)), wrap_nat (by omega)]
      by_cases hb : H.getD i false = true
      · have hq1 := hq' hb
        have hw3 : IntKind.i64.wrap ((md : Int) - 1) = (md : Int) - 1 := wrap_i64 (by omega) (by omega)
        have hc1 : decide (0 ≤ (md : Int) - 1 ∧ (md : Int) - 1 < (S.length : Int)) = true := ct (by omega)
        simp only [ht1, ht2, hw, hw3]
        rw [if_pos hb, if_neg (cf (by omega)), if_neg (cf (by omega)), if_neg (cf (by omega)), if_pos hc1, if_pos (ct (by simp; unfold lim; omega)), if_pos hb]
        rfl
      · rw [if_neg hb, if_neg hb, List.append_nil])
    (fun n => by simp only [L325_27]; rw [if_neg (cf (by omega))]) (by omega)
  exact h

theorem range_row (p N : Nat) : List.range ((p + 1) * N) = List.range (p * N) ++ (List.range N).map fun q => p * N + q := by
  rw [Nat.add_mul, Nat.one_mul, List.range_add]

theorem arcsM_eq {N : Nat} {S : List (List Int)} {B : List (List (Int × Bool))} {H : List Bool} (hN0 : 0 < N)
    (hk : ∀ p, p < N → (kys (B.getD p [])).Nodup ∧ ∀ q : Int, q ∈ kys (B.getD p []) ↔ ∃ j : Nat, q = (j : Int) ∧ j < N ∧ H.getD (p * N + j) false = true) : ∀ p, p ≤ N → arcsM N S H (p * N) = arcsTo S B p
  | 0, _ => by simp [arcsM, arcsTo]
  | p + 1, hp => by
    obtain ⟨k1, k2⟩ := hk p (by omega)
    rw [arcsTo_succ, ← arcsM_eq hN0 hk p (by omega)]
    unfold arcsM rowOf
    rw [range_row, List.filter_append, List.map_append]
    congr 1
    have e : sortedInts (kys (B.getD p [])) = ((List.range N).filter fun q => H.getD (p * N + q) false).map fun q : Nat => (q : Int) := by
      refine strict_ext (sorted_strict k1) (List.pairwise_map.2 (List.Pairwise.imp (fun {a b} h => by show (a : Int) < (b : Int); omega) (List.pairwise_lt_range.filter _))) fun x => ?_
      rw [srt_mem, k2 x, List.mem_map]
      constructor
      · rintro ⟨j, rfl, h1, h2⟩; exact ⟨j, List.mem_filter.2 ⟨List.mem_range.2 h1, h2⟩, rfl⟩
      · rintro ⟨j, hj, rfl⟩
        obtain ⟨h1, h2⟩ := List.mem_filter.1 hj
        exact ⟨j, rfl, List.mem_range.1 h1, h2⟩
    rw [e, List.map_map, List.filter_map, List.map_map]
    apply List.map_congr_left
    intro q hq
    obtain ⟨h1, _⟩ := List.mem_filter.1 hq
    have hqN := List.mem_range.1 h1
    have d1 : (p * N + q) / N = p := by rw [Nat.add_comm, Nat.add_mul_div_right _ _ hN0, Nat.div_eq_of_lt hqN, Nat.zero_add]
    have d2 : (p * N + q) % N = q := by rw [Nat.add_comm, Nat.add_mul_mod_self_right, Nat.mod_eq_of_lt hqN]
    show arcOf S (((p * N + q) / N : Nat) : Int) (((p * N + q) % N : Nat) : Int) = arcOf S (p : Int) (q : Int)
    rw [d1, d2]

theorem p325_spec {l : List Rx} (hw : ∀ r ∈ l, wfR r) (hv : AllV l) (hl : l.length ≤ 1000000) (hn : nnL l ≤ 500) : p325 (l, ()) = some (nfaA l, 0, ()) := by
  have hlv := lvL_le l
  have e1 := (p328_spec hw (by omega) (by omega)).1 hv
  rw [if_neg (by omega)] at e1
  have e7 : limit L325_7 ((l, (), (), (), (0 : Int), ()), (nf0, ([-1] : List Int), ((), (), ()), ([] : List (List Int)), ([] : List (List Int)), ())) = _ := l325_7 hw hv hl hn
  have hal : (acA l 0 0 [-1]).length = (lvL l).length + 1 := by rw [acA_length]; simp; omega
  let N := (lvL l).length + 1
  have hN : N ≤ 501 := by show (lvL l).length + 1 ≤ 501; omega
  have hNN : N * N ≤ 501 * 501 := Nat.mul_le_mul hN hN
  have hwr : IntKind.i64.wrap ((((lvL l).length + 1 : Nat) : Int) * (((lvL l).length + 1 : Nat) : Int)) = ((N * N : Nat) : Int) := by
    rw [← Int.natCast_mul]; exact wrap_i64 (by omega) (by show ((N * N : Nat) : Int) ≤ _; omega)
  have hf := flA_in l 0
  have hfl := flA_len l 0 hn
  have e22 := l325_22 (N := N) (acc := acA l 0 0 [-1]) (S := lvL l) (ps := flA l 0) hN (fun x hx => by have := hf x hx; constructor <;> constructor <;> omega) (by omega)
  have hget : ∀ p q : Nat, p < N → q < N → ((hasS N (flA l 0)).getD (p * N + q) false = true ↔ ((p : Int), (q : Int)) ∈ flA l 0) := fun p q hp hq => by
    have hlt : p * N + q < N * N := by
      have : (p + 1) * N ≤ N * N := Nat.mul_le_mul_right _ hp
      rw [Nat.add_mul, Nat.one_mul] at this
      omega
    rw [hasS_get N _ hlt]
    constructor
    · rintro ⟨x, hx, h⟩
      have hb := hf x hx
      have hq2 : x.2.toNat < N := by omega
      have d1 : (p * N + q) / N = p := by rw [Nat.add_comm, Nat.add_mul_div_right _ _ (by omega), Nat.div_eq_of_lt hq, Nat.zero_add]
      have d2 : (p * N + q) % N = q := by rw [Nat.add_comm, Nat.add_mul_mod_self_right, Nat.mod_eq_of_lt hq]
      have d3 : (x.1.toNat * N + x.2.toNat) / N = x.1.toNat := by rw [Nat.add_comm, Nat.add_mul_div_right _ _ (by omega), Nat.div_eq_of_lt hq2, Nat.zero_add]
      have d4 : (x.1.toNat * N + x.2.toNat) % N = x.2.toNat := by rw [Nat.add_comm, Nat.add_mul_mod_self_right, Nat.mod_eq_of_lt hq2]
      rw [h, d1] at d3
      rw [h, d2] at d4
      have : ((p : Int), (q : Int)) = x := Prod.ext (by show (p : Int) = x.1; omega) (by show (q : Int) = x.2; omega)
      rw [this]; exact hx
    · intro h; exact ⟨_, h, by simp⟩
  have e27 := l325_27 (N := N) (acc := acA l 0 0 [-1]) (S := lvL l) (Q := plst (flA l 0)) (H := hasS N (flA l 0)) hN (by omega) rfl (hasS_length _ _) (fun j hj hb => by
    have hm : j % N < N := Nat.mod_lt _ (by omega)
    have hd : j / N < N := Nat.div_lt_of_lt_mul hj
    have hj2 : (j / N) * N + j % N = j := by rw [Nat.mul_comm]; exact Nat.div_add_mod j N
    rw [← hj2] at hb
    have := hf _ ((hget _ _ hd hm).1 hb)
    simp at this
    omega)
  have eA : arcsM N (lvL l) (hasS N (flA l 0)) (N * N) = arcsTo (lvL l) (mapsA l) N := arcsM_eq (by omega) (fun p hp => by
    obtain ⟨k1, k2⟩ := mapsA_keys l hp
    refine ⟨k1, fun q => ?_⟩
    rw [k2 q]
    constructor
    · intro h
      have := hf _ h
      simp at this
      exact ⟨q.toNat, by omega, by omega, (hget p q.toNat hp (by omega)).2 (by rw [show ((q.toNat : Nat) : Int) = q by omega]; exact h)⟩
    · rintro ⟨j, rfl, h1, h2⟩; exact (hget p j hp h1).1 h2) N (Nat.le_refl _)
  simp only [p325]
  rw [e1, Option.bind_some, if_neg (by simp), e7]
  simp only [Option.bind_some, hal, hwr, Int.toNat_natCast]
  rw [if_pos (ct ⟨trivial, by omega, by unfold lim; omega⟩)]
  have e22' : limit L325_22 (((), (), (), (((lvL l).length + 1 : Nat) : Int), (), (0 : Int), ()), (nf0, acA l 0 0 [-1], ((), (), ()), List.replicate (N * N) false, lvL l, plst (flA l 0), ())) = _ := e22
  rw [e22', Option.bind_some]
  simp only
  rw [e27, Option.bind_some, eA]
  rfl
end Go.AM
