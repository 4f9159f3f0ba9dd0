/- Functions in pure form: each is sound over the program. -/
import Derived.Test.YtdjbokdohackdaaH2
namespace Go.AM
open Go Go.Proofs

def Γ320 : TEnv := { Γ0 with imm := [15] }
theorem hΓ320 : Γ320.ok Try.prog = true := hΓ0

noncomputable def L320_3 : Nat → ((Unit × (List (Int)) × (List (Int)) × (Int) × (Int) × Unit) × (((Int) × (Int) × (List ((Int) × ((Int) × ((Bool) × ((List (Int)) × (Unit)))))) × (List (Int)) × Unit) × Unit)) → Option ((Unit × (List (Int)) × Unit) × (((Int) × (Int) × (List ((Int) × ((Int) × ((Bool) × ((List (Int)) × (Unit)))))) × (List (Int)) × Unit) × Unit))
  | 0, _ => none
  | n + 1, ((_, x5, x18, x19, x20, ()), (y2, ())) =>
    if (decide (x20 < x19)) = true then
      if decide (0 ≤ x20 ∧ x20 < (x18.length : Int)) = true then
        (p43 ((y2.1, (y2.2.1, (y2.2.2.1, (y2.2.2.2.1, ())))), x5, (x18.getD x20.toNat 0), ())).bind fun c1 =>
        L320_3 n (((), c1, x18, x19, (IntKind.i64.wrap (x20 + (1 : Int))), ()), ((y2.1, y2.2.1, y2.2.2.1, y2.2.2.2.1, ()), ()))
      else
        none
    else
      some (((), x5, ()), ((y2.1, y2.2.1, y2.2.2.1, y2.2.2.2.1, ()), ()))

noncomputable def EL320_3 : LoopEnt := ⟨[20], 3, ⟨[], [2, 5, 18, 19, 20], [2]⟩, [.ptr 2 0, .kd (.slice (.int .i64)), .kd (.slice (.int .u8)), .kd (.int .i64), .kd (.int .i64)], [.box [.kd (.int .i64), .kd (.int .i64), .kd (.slice (.pair (.int .i64) (.pair (.int .i64) (.pair .bool (.pair (.arr 4 (.int .u64)) .unit))))), .kd (.slice (.int .i64))]], [⟨(.exit 0), [2, 5], [.ptr 2 0, .kd (.slice (.int .i64))], [2], [.box [.kd (.int .i64), .kd (.int .i64), .kd (.slice (.pair (.int .i64) (.pair (.int .i64) (.pair .bool (.pair (.arr 4 (.int .u64)) .unit))))), .kd (.slice (.int .i64))]]⟩], limit L320_3⟩

noncomputable def L320_9 : Nat → ((Unit × (Int) × (List (Int)) × (Int) × (Int) × Unit) × (((Int) × (Int) × (List ((Int) × ((Int) × ((Bool) × ((List (Int)) × (Unit)))))) × (List (Int)) × Unit) × Unit)) → Option (((Int) × Unit) × (Unit))
  | 0, _ => none
  | n + 1, ((_, x8, x29, x30, x31, ()), (y2, ())) =>
    if (decide (x31 < x30)) = true then
      if decide (0 ≤ x31 ∧ x31 < (x29.length : Int)) = true then
        if decide (0 ≤ (x29.getD x31.toNat 0) ∧ (x29.getD x31.toNat 0) < (y2.2.2.2.1.length : Int)) = true then
          if (decide ((y2.2.2.2.1.getD (x29.getD x31.toNat 0).toNat 0) ≥ (0 : Int))) = true then
            if (decide (x8 < (0 : Int))) = true then
              L320_9 n (((), (y2.2.2.2.1.getD (x29.getD x31.toNat 0).toNat 0), x29, x30, (IntKind.i64.wrap (x31 + (1 : Int))), ()), ((y2.1, y2.2.1, y2.2.2.1, y2.2.2.2.1, ()), ()))
            else
              if (decide ((y2.2.2.2.1.getD (x29.getD x31.toNat 0).toNat 0) < x8)) = true then
                L320_9 n (((), (y2.2.2.2.1.getD (x29.getD x31.toNat 0).toNat 0), x29, x30, (IntKind.i64.wrap (x31 + (1 : Int))), ()), ((y2.1, y2.2.1, y2.2.2.1, y2.2.2.2.1, ()), ()))
              else
                L320_9 n (((), x8, x29, x30, (IntKind.i64.wrap (x31 + (1 : Int))), ()), ((y2.1, y2.2.1, y2.2.2.1, y2.2.2.2.1, ()), ()))
          else
            L320_9 n (((), x8, x29, x30, (IntKind.i64.wrap (x31 + (1 : Int))), ()), ((y2.1, y2.2.1, y2.2.2.1, y2.2.2.2.1, ()), ()))
        else
          none
      else
        none
    else
      some ((x8, ()), ())

noncomputable def EL320_9 : LoopEnt := ⟨[20], 9, ⟨[], [2, 8, 29, 30, 31], [2]⟩, [.ptr 2 0, .kd (.int .i64), .kd (.slice (.int .i64)), .kd (.int .i64), .kd (.int .i64)], [.box [.kd (.int .i64), .kd (.int .i64), .kd (.slice (.pair (.int .i64) (.pair (.int .i64) (.pair .bool (.pair (.arr 4 (.int .u64)) .unit))))), .kd (.slice (.int .i64))]], [⟨(.exit 2), [8], [.kd (.int .i64)], [], []⟩], limit L320_9⟩

noncomputable def O320 : Orc := mkOrc [(15, fnOf [(.pair (.int .i64) (.pair (.int .i64) (.pair (.slice (.pair (.int .i64) (.pair (.int .i64) (.pair .bool (.pair (.arr 4 (.int .u64)) .unit))))) (.pair (.slice (.int .i64)) .unit)))), (.slice (.int .i64))] (.one (.slice (.int .i64))) p41), (18, fnOf [(.pair (.int .i64) (.pair (.int .i64) (.pair (.slice (.pair (.int .i64) (.pair (.int .i64) (.pair .bool (.pair (.arr 4 (.int .u64)) .unit))))) (.pair (.slice (.int .i64)) .unit)))), (.slice (.int .i64)), (.int .u8)] (.one (.slice (.int .i64))) p43)] [EL320_3, EL320_9] [] [] []

theorem cL320_3 : LoopCert Try.prog O320 Γ320 1 EL320_3 :=
  ⟨⟨20, 0, L320_3, rfl, by kernel_rfl, by decide, limit_fn, fun _ => rfl, fun m old x r h => by
    obtain ⟨⟨x2, x5, x18, x19, x20, ⟨⟩⟩, y2, ⟨⟩⟩ := x
    refine Eq.trans ?_ h
    kernel_rfl⟩⟩

theorem cL320_9 : LoopCert Try.prog O320 Γ320 1 EL320_9 :=
  ⟨⟨20, 1, L320_9, rfl, by kernel_rfl, by decide, limit_fn, fun _ => rfl, fun m old x r h => by
    obtain ⟨⟨x2, x8, x29, x30, x31, ⟨⟩⟩, y2, ⟨⟩⟩ := x
    refine Eq.trans ?_ h
    kernel_rfl⟩⟩

/-- emendate/nfa.Run -/
noncomputable def p320 : (((Int) × ((Int) × ((List ((Int) × ((Int) × ((Bool) × ((List (Int)) × (Unit)))))) × ((List (Int)) × (Unit))))) × (List UInt8) × Unit) → Option (Int)
  | (x0, x1, ()) =>
    (p41 ((x0.1, (x0.2.1, (x0.2.2.1, (x0.2.2.2.1, ())))), ([x0.2.1] : List (Int)), ())).bind fun c1 =>
    (limit L320_3 (((), c1, (x1.map fun b => (b.toNat : Int)), ((x1.map fun b => (b.toNat : Int)).length : Int), (0 : Int), ()), ((x0.1, x0.2.1, x0.2.2.1, x0.2.2.2.1, ()), ()))).bind fun r2 =>
    (limit L320_9 (((), (-1 : Int), r2.1.2.1, (r2.1.2.1.length : Int), (0 : Int), ()), ((r2.2.1.1, r2.2.1.2.1, r2.2.1.2.2.1, r2.2.1.2.2.2.1, ()), ()))).bind fun r3 =>
    some r3.1.1

theorem s320 : SoundFn Try.prog 20 (fnOf [(.pair (.int .i64) (.pair (.int .i64) (.pair (.slice (.pair (.int .i64) (.pair (.int .i64) (.pair .bool (.pair (.arr 4 (.int .u64)) .unit))))) (.pair (.slice (.int .i64)) .unit)))), .str] (.one (.int .i64)) p320) :=
  fn_pure hm0 hng0 hΓ320 (t := [(15, fnOf [(.pair (.int .i64) (.pair (.int .i64) (.pair (.slice (.pair (.int .i64) (.pair (.int .i64) (.pair .bool (.pair (.arr 4 (.int .u64)) .unit))))) (.pair (.slice (.int .i64)) .unit)))), (.slice (.int .i64))] (.one (.slice (.int .i64))) p41), (18, fnOf [(.pair (.int .i64) (.pair (.int .i64) (.pair (.slice (.pair (.int .i64) (.pair (.int .i64) (.pair .bool (.pair (.arr 4 (.int .u64)) .unit))))) (.pair (.slice (.int .i64)) .unit)))), (.slice (.int .i64)), (.int .u8)] (.one (.slice (.int .i64))) p43)]) (all_cons s41 (all_cons s43 all_nil)) (ls := [EL320_3, EL320_9]) (cmds := []) (leaves := []) (fr := []) (pt := []) (D := 1) (all_cons cL320_3 (all_cons cL320_9 all_nil)) (by kernel_rfl) (hfr := all_nil) fun x r h => by
    obtain ⟨x0, x1, ⟨⟩⟩ := x
    refine Eq.trans ?_ h
    kernel_rfl

noncomputable def O329 : Orc := mkOrc [] [] [] [] []

/-- emendate/emendatelaw09.set -/
noncomputable def p329 : ((Int) × Unit) → Option (Rx)
  | (x0, ()) =>
    if decide ((64 : Int) = 0) = true then
      none
    else
      if decide ((64 : Int) = 0) = true then
        none
      else
        if decide (0 ≤ (x0.tmod (64 : Int))) = true then
          if decide (0 ≤ (IntKind.u8.wrap (x0.tdiv (64 : Int))) ∧ (IntKind.u8.wrap (x0.tdiv (64 : Int))) < (4 : Int)) = true then
            some (Rx.mk (3 : Int) [(([(0 : Int), (0 : Int), (0 : Int), (0 : Int)].set (IntKind.u8.wrap (x0.tdiv (64 : Int))).toNat (IntKind.u64.wrap ((1 : Int) * 2 ^ (min (x0.tmod (64 : Int)).toNat (IntKind.u64.bits))))).getD 0 0), (([(0 : Int), (0 : Int), (0 : Int), (0 : Int)].set (IntKind.u8.wrap (x0.tdiv (64 : Int))).toNat (IntKind.u64.wrap ((1 : Int) * 2 ^ (min (x0.tmod (64 : Int)).toNat (IntKind.u64.bits))))).getD 1 0), (([(0 : Int), (0 : Int), (0 : Int), (0 : Int)].set (IntKind.u8.wrap (x0.tdiv (64 : Int))).toNat (IntKind.u64.wrap ((1 : Int) * 2 ^ (min (x0.tmod (64 : Int)).toNat (IntKind.u64.bits))))).getD 2 0), (([(0 : Int), (0 : Int), (0 : Int), (0 : Int)].set (IntKind.u8.wrap (x0.tdiv (64 : Int))).toNat (IntKind.u64.wrap ((1 : Int) * 2 ^ (min (x0.tmod (64 : Int)).toNat (IntKind.u64.bits))))).getD 3 0)] ([] : List (Rx)))
          else
            none
        else
          none

theorem s329 : SoundFn Try.prog 29 (fnOf [(.int .u8)] (.one .rx) p329) :=
  fn_pure hm0 hng0 hΓ0 (t := []) all_nil (ls := []) (cmds := []) (leaves := []) (fr := []) (pt := []) (D := 1) all_nil (by kernel_rfl) (hfr := all_nil) fun x r h => by
    obtain ⟨x0, ⟨⟩⟩ := x
    refine Eq.trans ?_ h
    kernel_rfl

def Γ311 : TEnv := { Γ0 with imm := [5, 9, 11] }
theorem hΓ311 : Γ311.ok Try.prog = true := hΓ0

noncomputable def O311 : Orc := mkOrc [(12, fnOf [(.pair (.int .i64) (.pair (.int .i64) (.pair (.slice (.pair (.int .i64) (.pair (.int .i64) (.pair .bool (.pair (.arr 4 (.int .u64)) .unit))))) (.pair (.slice (.int .i64)) .unit))))] (.one .bool) p39), (20, fnOf [(.pair (.int .i64) (.pair (.int .i64) (.pair (.slice (.pair (.int .i64) (.pair (.int .i64) (.pair .bool (.pair (.arr 4 (.int .u64)) .unit))))) (.pair (.slice (.int .i64)) .unit)))), .str] (.one (.int .i64)) p320), (24, fnOf [(.slice .rx)] (.tup [(.pair (.int .i64) (.pair (.int .i64) (.pair (.slice (.pair (.int .i64) (.pair (.int .i64) (.pair .bool (.pair (.arr 4 (.int .u64)) .unit))))) (.pair (.slice (.int .i64)) .unit)))), (.int .i64)]) p324), (29, fnOf [(.int .u8)] (.one .rx) p329)] [] [] [] []

/-- emendate/emendatelaw09.awake -/
noncomputable def p311 : (Unit) → Option (Bool)
  | () =>
    (p329 ((97 : Int), ())).bind fun c1 =>
    (p329 ((97 : Int), ())).bind fun c2 =>
    (p329 ((98 : Int), ())).bind fun c3 =>
    (p324 (([(Rx.mk (6 : Int) [(0 : Int), (0 : Int), (0 : Int), (0 : Int)] ([(Rx.mk c1.kind [(c1.set.getD 0 0), (c1.set.getD 1 0), (c1.set.getD 2 0), (c1.set.getD 3 0)] c1.kids)] : List (Rx))), (Rx.mk (4 : Int) [(0 : Int), (0 : Int), (0 : Int), (0 : Int)] ([(Rx.mk c2.kind [(c2.set.getD 0 0), (c2.set.getD 1 0), (c2.set.getD 2 0), (c2.set.getD 3 0)] c2.kids), (Rx.mk c3.kind [(c3.set.getD 0 0), (c3.set.getD 1 0), (c3.set.getD 2 0), (c3.set.getD 3 0)] c3.kids)] : List (Rx)))] : List (Rx)), ())).bind fun c4 =>
    if (decide (c4.2.1 = (0 : Int))) = true then
      (p39 ((c4.1.1, (c4.1.2.1, (c4.1.2.2.1, (c4.1.2.2.2.1, ())))), ())).bind fun c5 =>
      if c5 = true then
        (p320 ((c4.1.1, (c4.1.2.1, (c4.1.2.2.1, (c4.1.2.2.2.1, ())))), ([97, 97] : List UInt8), ())).bind fun c6 =>
        if (decide (c6 = (0 : Int))) = true then
          (p320 ((c4.1.1, (c4.1.2.1, (c4.1.2.2.1, (c4.1.2.2.2.1, ())))), ([97, 98] : List UInt8), ())).bind fun c7 =>
          if (decide (c7 = (1 : Int))) = true then
            (p320 ((c4.1.1, (c4.1.2.1, (c4.1.2.2.1, (c4.1.2.2.2.1, ())))), ([98] : List UInt8), ())).bind fun c8 =>
            if (decide (c8 = (-1 : Int))) = true then
              (p39 (((0 : Int), ((0 : Int), (([] : List ((Int) × ((Int) × ((Bool) × ((List (Int)) × (Unit)))))), (([] : List (Int)), ())))), ())).bind fun c9 =>
              some (!c9)
            else
              some false
          else
            some false
        else
          some false
      else
        some false
    else
      some false

theorem s311 : SoundFn Try.prog 11 (fnOf [] (.one .bool) p311) :=
  fn_pure hm0 hng0 hΓ311 (t := [(12, fnOf [(.pair (.int .i64) (.pair (.int .i64) (.pair (.slice (.pair (.int .i64) (.pair (.int .i64) (.pair .bool (.pair (.arr 4 (.int .u64)) .unit))))) (.pair (.slice (.int .i64)) .unit))))] (.one .bool) p39), (20, fnOf [(.pair (.int .i64) (.pair (.int .i64) (.pair (.slice (.pair (.int .i64) (.pair (.int .i64) (.pair .bool (.pair (.arr 4 (.int .u64)) .unit))))) (.pair (.slice (.int .i64)) .unit)))), .str] (.one (.int .i64)) p320), (24, fnOf [(.slice .rx)] (.tup [(.pair (.int .i64) (.pair (.int .i64) (.pair (.slice (.pair (.int .i64) (.pair (.int .i64) (.pair .bool (.pair (.arr 4 (.int .u64)) .unit))))) (.pair (.slice (.int .i64)) .unit)))), (.int .i64)]) p324), (29, fnOf [(.int .u8)] (.one .rx) p329)]) (all_cons s39 (all_cons s320 (all_cons s324 (all_cons s329 all_nil)))) (ls := []) (cmds := []) (leaves := []) (fr := []) (pt := []) (D := 1) all_nil (by kernel_rfl) (hfr := all_nil) fun x r h => by
    cases x
    refine Eq.trans ?_ h
    kernel_rfl

noncomputable def O303 : Orc := mkOrc [(11, fnOf [] (.one .bool) p311), (12, fnOf [(.pair (.int .i64) (.pair (.int .i64) (.pair (.slice (.pair (.int .i64) (.pair (.int .i64) (.pair .bool (.pair (.arr 4 (.int .u64)) .unit))))) (.pair (.slice (.int .i64)) .unit))))] (.one .bool) p39), (13, fnOf [(.pair (.int .i64) (.pair (.int .i64) (.pair (.slice (.pair (.int .i64) (.pair (.int .i64) (.pair .bool (.pair (.arr 4 (.int .u64)) .unit))))) (.pair (.slice (.int .i64)) .unit))))] (.one .bool) p45)] [] [] [] []

/-- emendate/emendatelaw09.NfaValidMatchesReference -/
noncomputable def p303 : (((Int) × ((Int) × ((List ((Int) × ((Int) × ((Bool) × ((List (Int)) × (Unit)))))) × ((List (Int)) × (Unit))))) × Unit) → Option (Bool)
  | (x0, ()) =>
    (p311 (())).bind fun c1 =>
    if (!c1) = true then
      some false
    else
      if (decide ((x0.2.2.1.length : Int) > (2000 : Int))) = true then
        some true
      else
        (p39 ((x0.1, (x0.2.1, (x0.2.2.1, (x0.2.2.2.1, ())))), ())).bind fun c2 =>
        (p45 ((x0.1, (x0.2.1, (x0.2.2.1, (x0.2.2.2.1, ())))), ())).bind fun c3 =>
        some (c2 == c3)

theorem s303 : SoundFn Try.prog 3 (fnOf [(.pair (.int .i64) (.pair (.int .i64) (.pair (.slice (.pair (.int .i64) (.pair (.int .i64) (.pair .bool (.pair (.arr 4 (.int .u64)) .unit))))) (.pair (.slice (.int .i64)) .unit))))] (.one .bool) p303) :=
  fn_pure hm0 hng0 hΓ0 (t := [(11, fnOf [] (.one .bool) p311), (12, fnOf [(.pair (.int .i64) (.pair (.int .i64) (.pair (.slice (.pair (.int .i64) (.pair (.int .i64) (.pair .bool (.pair (.arr 4 (.int .u64)) .unit))))) (.pair (.slice (.int .i64)) .unit))))] (.one .bool) p39), (13, fnOf [(.pair (.int .i64) (.pair (.int .i64) (.pair (.slice (.pair (.int .i64) (.pair (.int .i64) (.pair .bool (.pair (.arr 4 (.int .u64)) .unit))))) (.pair (.slice (.int .i64)) .unit))))] (.one .bool) p45)]) (all_cons s311 (all_cons s39 (all_cons s45 all_nil))) (ls := []) (cmds := []) (leaves := []) (fr := []) (pt := []) (D := 1) all_nil (by kernel_rfl) (hfr := all_nil) fun x r h => by
    obtain ⟨x0, ⟨⟩⟩ := x
    refine Eq.trans ?_ h
    kernel_rfl

noncomputable def O304 : Orc := mkOrc [(11, fnOf [] (.one .bool) p311), (14, fnOf [(.pair (.int .i64) (.pair (.int .i64) (.pair (.slice (.pair (.int .i64) (.pair (.int .i64) (.pair .bool (.pair (.arr 4 (.int .u64)) .unit))))) (.pair (.slice (.int .i64)) .unit))))] (.one .bool) p314), (15, fnOf [(.pair (.int .i64) (.pair (.int .i64) (.pair (.slice (.pair (.int .i64) (.pair (.int .i64) (.pair .bool (.pair (.arr 4 (.int .u64)) .unit))))) (.pair (.slice (.int .i64)) .unit)))), (.slice (.int .i64))] (.one (.slice (.int .i64))) p41), (16, fnOf [(.slice (.int .i64)), (.slice (.int .i64))] (.one .bool) p316), (17, fnOf [(.pair (.int .i64) (.pair (.int .i64) (.pair (.slice (.pair (.int .i64) (.pair (.int .i64) (.pair .bool (.pair (.arr 4 (.int .u64)) .unit))))) (.pair (.slice (.int .i64)) .unit)))), (.slice (.int .i64))] (.one (.slice (.int .i64))) p48)] [] [] [] []

/-- emendate/emendatelaw09.NfaClosureIsLeastFixpoint -/
noncomputable def p304 : (((Int) × ((Int) × ((List ((Int) × ((Int) × ((Bool) × ((List (Int)) × (Unit)))))) × ((List (Int)) × (Unit))))) × (List (Int)) × Unit) → Option (Bool)
  | (x0, x1, ()) =>
    (p311 (())).bind fun c1 =>
    if (!c1) = true then
      some false
    else
      (p314 ((x0.1, (x0.2.1, (x0.2.2.1, (x0.2.2.2.1, ())))), ())).bind fun c2 =>
      if (!c2) = true then
        some true
      else
        if (decide ((x1.length : Int) > (60 : Int))) = true then
          some true
        else
          (p41 ((x0.1, (x0.2.1, (x0.2.2.1, (x0.2.2.2.1, ())))), x1, ())).bind fun c3 =>
          (p48 ((x0.1, (x0.2.1, (x0.2.2.1, (x0.2.2.2.1, ())))), x1, ())).bind fun c4 =>
          (p316 (c3, c4, ())).bind fun c5 =>
          if c5 = true then
            (p41 ((x0.1, (x0.2.1, (x0.2.2.1, (x0.2.2.2.1, ())))), c3, ())).bind fun c6 =>
            (p316 (c6, c3, ())).bind fun c7 =>
            some c7
          else
            some false

theorem s304 : SoundFn Try.prog 4 (fnOf [(.pair (.int .i64) (.pair (.int .i64) (.pair (.slice (.pair (.int .i64) (.pair (.int .i64) (.pair .bool (.pair (.arr 4 (.int .u64)) .unit))))) (.pair (.slice (.int .i64)) .unit)))), (.slice (.int .i64))] (.one .bool) p304) :=
  fn_pure hm0 hng0 hΓ0 (t := [(11, fnOf [] (.one .bool) p311), (14, fnOf [(.pair (.int .i64) (.pair (.int .i64) (.pair (.slice (.pair (.int .i64) (.pair (.int .i64) (.pair .bool (.pair (.arr 4 (.int .u64)) .unit))))) (.pair (.slice (.int .i64)) .unit))))] (.one .bool) p314), (15, fnOf [(.pair (.int .i64) (.pair (.int .i64) (.pair (.slice (.pair (.int .i64) (.pair (.int .i64) (.pair .bool (.pair (.arr 4 (.int .u64)) .unit))))) (.pair (.slice (.int .i64)) .unit)))), (.slice (.int .i64))] (.one (.slice (.int .i64))) p41), (16, fnOf [(.slice (.int .i64)), (.slice (.int .i64))] (.one .bool) p316), (17, fnOf [(.pair (.int .i64) (.pair (.int .i64) (.pair (.slice (.pair (.int .i64) (.pair (.int .i64) (.pair .bool (.pair (.arr 4 (.int .u64)) .unit))))) (.pair (.slice (.int .i64)) .unit)))), (.slice (.int .i64))] (.one (.slice (.int .i64))) p48)]) (all_cons s311 (all_cons s314 (all_cons s41 (all_cons s316 (all_cons s48 all_nil))))) (ls := []) (cmds := []) (leaves := []) (fr := []) (pt := []) (D := 1) all_nil (by kernel_rfl) (hfr := all_nil) fun x r h => by
    obtain ⟨x0, x1, ⟨⟩⟩ := x
    refine Eq.trans ?_ h
    kernel_rfl

noncomputable def O305 : Orc := mkOrc [(11, fnOf [] (.one .bool) p311), (14, fnOf [(.pair (.int .i64) (.pair (.int .i64) (.pair (.slice (.pair (.int .i64) (.pair (.int .i64) (.pair .bool (.pair (.arr 4 (.int .u64)) .unit))))) (.pair (.slice (.int .i64)) .unit))))] (.one .bool) p314), (16, fnOf [(.slice (.int .i64)), (.slice (.int .i64))] (.one .bool) p316), (18, fnOf [(.pair (.int .i64) (.pair (.int .i64) (.pair (.slice (.pair (.int .i64) (.pair (.int .i64) (.pair .bool (.pair (.arr 4 (.int .u64)) .unit))))) (.pair (.slice (.int .i64)) .unit)))), (.slice (.int .i64)), (.int .u8)] (.one (.slice (.int .i64))) p43), (19, fnOf [(.pair (.int .i64) (.pair (.int .i64) (.pair (.slice (.pair (.int .i64) (.pair (.int .i64) (.pair .bool (.pair (.arr 4 (.int .u64)) .unit))))) (.pair (.slice (.int .i64)) .unit)))), (.slice (.int .i64)), (.int .u8)] (.one (.slice (.int .i64))) p49)] [] [] [] []

/-- emendate/emendatelaw09.NfaStepMatchesReference -/
noncomputable def p305 : (((Int) × ((Int) × ((List ((Int) × ((Int) × ((Bool) × ((List (Int)) × (Unit)))))) × ((List (Int)) × (Unit))))) × (List (Int)) × (Int) × Unit) → Option (Bool)
  | (x0, x1, x2, ()) =>
    (p311 (())).bind fun c1 =>
    if (!c1) = true then
      some false
    else
      (p314 ((x0.1, (x0.2.1, (x0.2.2.1, (x0.2.2.2.1, ())))), ())).bind fun c2 =>
      if (!c2) = true then
        some true
      else
        if (decide ((x1.length : Int) > (60 : Int))) = true then
          some true
        else
          (p43 ((x0.1, (x0.2.1, (x0.2.2.1, (x0.2.2.2.1, ())))), x1, x2, ())).bind fun c3 =>
          (p49 ((x0.1, (x0.2.1, (x0.2.2.1, (x0.2.2.2.1, ())))), x1, x2, ())).bind fun c4 =>
          (p316 (c3, c4, ())).bind fun c5 =>
          some c5

theorem s305 : SoundFn Try.prog 5 (fnOf [(.pair (.int .i64) (.pair (.int .i64) (.pair (.slice (.pair (.int .i64) (.pair (.int .i64) (.pair .bool (.pair (.arr 4 (.int .u64)) .unit))))) (.pair (.slice (.int .i64)) .unit)))), (.slice (.int .i64)), (.int .u8)] (.one .bool) p305) :=
  fn_pure hm0 hng0 hΓ0 (t := [(11, fnOf [] (.one .bool) p311), (14, fnOf [(.pair (.int .i64) (.pair (.int .i64) (.pair (.slice (.pair (.int .i64) (.pair (.int .i64) (.pair .bool (.pair (.arr 4 (.int .u64)) .unit))))) (.pair (.slice (.int .i64)) .unit))))] (.one .bool) p314), (16, fnOf [(.slice (.int .i64)), (.slice (.int .i64))] (.one .bool) p316), (18, fnOf [(.pair (.int .i64) (.pair (.int .i64) (.pair (.slice (.pair (.int .i64) (.pair (.int .i64) (.pair .bool (.pair (.arr 4 (.int .u64)) .unit))))) (.pair (.slice (.int .i64)) .unit)))), (.slice (.int .i64)), (.int .u8)] (.one (.slice (.int .i64))) p43), (19, fnOf [(.pair (.int .i64) (.pair (.int .i64) (.pair (.slice (.pair (.int .i64) (.pair (.int .i64) (.pair .bool (.pair (.arr 4 (.int .u64)) .unit))))) (.pair (.slice (.int .i64)) .unit)))), (.slice (.int .i64)), (.int .u8)] (.one (.slice (.int .i64))) p49)]) (all_cons s311 (all_cons s314 (all_cons s316 (all_cons s43 (all_cons s49 all_nil))))) (ls := []) (cmds := []) (leaves := []) (fr := []) (pt := []) (D := 1) all_nil (by kernel_rfl) (hfr := all_nil) fun x r h => by
    obtain ⟨x0, x1, x2, ⟨⟩⟩ := x
    refine Eq.trans ?_ h
    kernel_rfl

noncomputable def L306_10 : Nat → (((List (Int)) × (List (Int)) × (Int) × (Int) × Unit) × (Unit)) → Option (((List (Int)) × (List (Int)) × (Int) × (Int) × Unit) × (Unit))
  | 0, _ => none
  | n + 1, ((x7, x8, x9, x10, ()), ()) =>
    if (decide (x9 < (x7.length : Int))) = true then
      if decide (0 ≤ x9 ∧ x9 < (x7.length : Int)) = true then
        if decide (0 ≤ x10 ∧ x10 < (x8.length : Int)) = true then
          if (decide ((x7.getD x9.toNat 0) < (x8.getD x10.toNat 0))) = true then
            L306_10 n ((x7, x8, (IntKind.i64.wrap (x9 + (1 : Int))), x10, ()), ())
          else
            some ((x7, x8, x9, x10, ()), ())
        else
          none
      else
        none
    else
      some ((x7, x8, x9, x10, ()), ())

noncomputable def EL306_10 : LoopEnt := ⟨[6], 10, ⟨[], [7, 8, 9, 10], []⟩, [.kd (.slice (.int .i64)), .kd (.slice (.int .i64)), .kd (.int .i64), .kd (.int .i64)], [], [⟨(.exit 2), [7, 8, 9, 10], [.kd (.slice (.int .i64)), .kd (.slice (.int .i64)), .kd (.int .i64), .kd (.int .i64)], [], []⟩], limit L306_10⟩

noncomputable def L306_8 : Nat → (((List (Int)) × (List (Int)) × (Int) × (Int) × Unit) × (Unit)) → Option ((((Bool) × Unit) × (Unit)) ⊕ ((Unit) × (Unit)))
  | 0, _ => none
  | n + 1, ((x7, x8, x9, x10, ()), ()) =>
    if (decide (x10 < (x8.length : Int))) = true then
      (limit L306_10 ((x7, x8, x9, x10, ()), ())).bind fun r1 =>
      if (decide (r1.1.2.2.1 = (r1.1.1.length : Int))) = true then
        some (.inl ((false, ()), ()))
      else
        if decide (0 ≤ r1.1.2.2.1 ∧ r1.1.2.2.1 < (r1.1.1.length : Int)) = true then
          if decide (0 ≤ r1.1.2.2.2.1 ∧ r1.1.2.2.2.1 < (r1.1.2.1.length : Int)) = true then
            if (!decide ((r1.1.1.getD r1.1.2.2.1.toNat 0) = (r1.1.2.1.getD r1.1.2.2.2.1.toNat 0))) = true then
              some (.inl ((false, ()), ()))
            else
              L306_8 n ((r1.1.1, r1.1.2.1, r1.1.2.2.1, (IntKind.i64.wrap (r1.1.2.2.2.1 + (1 : Int))), ()), ())
          else
            none
        else
          none
    else
      some (.inr ((), ()))

noncomputable def EL306_8 : LoopEnt := ⟨[6], 8, ⟨[], [7, 8, 9, 10], []⟩, [.kd (.slice (.int .i64)), .kd (.slice (.int .i64)), .kd (.int .i64), .kd (.int .i64)], [], [⟨.ret, [6], [.kd .bool], [], []⟩, ⟨(.exit 0), [], [], [], []⟩], limit L306_8⟩

noncomputable def O306 : Orc := mkOrc [(11, fnOf [] (.one .bool) p311), (14, fnOf [(.pair (.int .i64) (.pair (.int .i64) (.pair (.slice (.pair (.int .i64) (.pair (.int .i64) (.pair .bool (.pair (.arr 4 (.int .u64)) .unit))))) (.pair (.slice (.int .i64)) .unit))))] (.one .bool) p314), (18, fnOf [(.pair (.int .i64) (.pair (.int .i64) (.pair (.slice (.pair (.int .i64) (.pair (.int .i64) (.pair .bool (.pair (.arr 4 (.int .u64)) .unit))))) (.pair (.slice (.int .i64)) .unit)))), (.slice (.int .i64)), (.int .u8)] (.one (.slice (.int .i64))) p43)] [EL306_10, EL306_8] [] [] []

theorem cL306_10 : LoopCert Try.prog O306 Γ0 1 EL306_10 :=
  ⟨⟨6, 1, L306_10, rfl, by kernel_rfl, by decide, limit_fn, fun _ => rfl, fun m old x r h => by
    obtain ⟨⟨x7, x8, x9, x10, ⟨⟩⟩, ⟨⟩⟩ := x
    refine Eq.trans ?_ h
    kernel_rfl⟩⟩

theorem cL306_8 : LoopCert Try.prog O306 Γ0 1 EL306_8 :=
  ⟨⟨6, 0, L306_8, rfl, by kernel_rfl, by decide, limit_fn, fun _ => rfl, fun m old x r h => by
    obtain ⟨⟨x7, x8, x9, x10, ⟨⟩⟩, ⟨⟩⟩ := x
    refine Eq.trans ?_ h
    kernel_rfl⟩⟩

/-- emendate/emendatelaw09.NfaStepIsMonotone -/
noncomputable def p306 : (((Int) × ((Int) × ((List ((Int) × ((Int) × ((Bool) × ((List (Int)) × (Unit)))))) × ((List (Int)) × (Unit))))) × (List (Int)) × (Int) × Unit) → Option (Bool)
  | (x0, x1, x2, ()) =>
    (p311 (())).bind fun c1 =>
    if (!c1) = true then
      some false
    else
      (p314 ((x0.1, (x0.2.1, (x0.2.2.1, (x0.2.2.2.1, ())))), ())).bind fun c2 =>
      if (!c2) = true then
        some true
      else
        if (decide ((x1.length : Int) > (60 : Int))) = true then
          some true
        else
          if (decide ((x1.length : Int) = (0 : Int))) = true then
            some true
          else
            (p43 ((x0.1, (x0.2.1, (x0.2.2.1, (x0.2.2.2.1, ())))), x1, x2, ())).bind fun c3 =>
            if decide (0 ≤ (1 : Int) ∧ (1 : Int) ≤ (x1.length : Int) ∧ (x1.length : Int) ≤ (x1.length : Int)) = true then
              (p43 ((x0.1, (x0.2.1, (x0.2.2.1, (x0.2.2.2.1, ())))), ((x1.take (x1.length : Int).toNat).drop (1 : Int).toNat), x2, ())).bind fun c4 =>
              (limit L306_8 ((c3, c4, (0 : Int), (0 : Int), ()), ())).bind (Sum.elim (fun r5 =>
                some r5.1.1) (fun _ =>
                some true))
            else
              none

theorem s306 : SoundFn Try.prog 6 (fnOf [(.pair (.int .i64) (.pair (.int .i64) (.pair (.slice (.pair (.int .i64) (.pair (.int .i64) (.pair .bool (.pair (.arr 4 (.int .u64)) .unit))))) (.pair (.slice (.int .i64)) .unit)))), (.slice (.int .i64)), (.int .u8)] (.one .bool) p306) :=
  fn_pure hm0 hng0 hΓ0 (t := [(11, fnOf [] (.one .bool) p311), (14, fnOf [(.pair (.int .i64) (.pair (.int .i64) (.pair (.slice (.pair (.int .i64) (.pair (.int .i64) (.pair .bool (.pair (.arr 4 (.int .u64)) .unit))))) (.pair (.slice (.int .i64)) .unit))))] (.one .bool) p314), (18, fnOf [(.pair (.int .i64) (.pair (.int .i64) (.pair (.slice (.pair (.int .i64) (.pair (.int .i64) (.pair .bool (.pair (.arr 4 (.int .u64)) .unit))))) (.pair (.slice (.int .i64)) .unit)))), (.slice (.int .i64)), (.int .u8)] (.one (.slice (.int .i64))) p43)]) (all_cons s311 (all_cons s314 (all_cons s43 all_nil))) (ls := [EL306_10, EL306_8]) (cmds := []) (leaves := []) (fr := []) (pt := []) (D := 1) (all_cons cL306_10 (all_cons cL306_8 all_nil)) (by kernel_rfl) (hfr := all_nil) fun x r h => by
    obtain ⟨x0, x1, x2, ⟨⟩⟩ := x
    refine Eq.trans ?_ h
    kernel_rfl

noncomputable def O307 : Orc := mkOrc [(11, fnOf [] (.one .bool) p311), (14, fnOf [(.pair (.int .i64) (.pair (.int .i64) (.pair (.slice (.pair (.int .i64) (.pair (.int .i64) (.pair .bool (.pair (.arr 4 (.int .u64)) .unit))))) (.pair (.slice (.int .i64)) .unit))))] (.one .bool) p314), (20, fnOf [(.pair (.int .i64) (.pair (.int .i64) (.pair (.slice (.pair (.int .i64) (.pair (.int .i64) (.pair .bool (.pair (.arr 4 (.int .u64)) .unit))))) (.pair (.slice (.int .i64)) .unit)))), .str] (.one (.int .i64)) p320), (21, fnOf [(.pair (.int .i64) (.pair (.int .i64) (.pair (.slice (.pair (.int .i64) (.pair (.int .i64) (.pair .bool (.pair (.arr 4 (.int .u64)) .unit))))) (.pair (.slice (.int .i64)) .unit)))), .str] (.one (.int .i64)) p23)] [] [] [] []

/-- emendate/emendatelaw09.NfaRunMatchesReference -/
noncomputable def p307 : (((Int) × ((Int) × ((List ((Int) × ((Int) × ((Bool) × ((List (Int)) × (Unit)))))) × ((List (Int)) × (Unit))))) × (List UInt8) × Unit) → Option (Bool)
  | (x0, x1, ()) =>
    (p311 (())).bind fun c1 =>
    if (!c1) = true then
      some false
    else
      (p314 ((x0.1, (x0.2.1, (x0.2.2.1, (x0.2.2.2.1, ())))), ())).bind fun c2 =>
      if (!c2) = true then
        some true
      else
        if (decide ((x1.length : Int) > (30 : Int))) = true then
          some true
        else
          (p320 ((x0.1, (x0.2.1, (x0.2.2.1, (x0.2.2.2.1, ())))), x1, ())).bind fun c3 =>
          (p23 ((x0.1, (x0.2.1, (x0.2.2.1, (x0.2.2.2.1, ())))), x1, ())).bind fun c4 =>
          some (decide (c3 = c4))

theorem s307 : SoundFn Try.prog 7 (fnOf [(.pair (.int .i64) (.pair (.int .i64) (.pair (.slice (.pair (.int .i64) (.pair (.int .i64) (.pair .bool (.pair (.arr 4 (.int .u64)) .unit))))) (.pair (.slice (.int .i64)) .unit)))), .str] (.one .bool) p307) :=
  fn_pure hm0 hng0 hΓ0 (t := [(11, fnOf [] (.one .bool) p311), (14, fnOf [(.pair (.int .i64) (.pair (.int .i64) (.pair (.slice (.pair (.int .i64) (.pair (.int .i64) (.pair .bool (.pair (.arr 4 (.int .u64)) .unit))))) (.pair (.slice (.int .i64)) .unit))))] (.one .bool) p314), (20, fnOf [(.pair (.int .i64) (.pair (.int .i64) (.pair (.slice (.pair (.int .i64) (.pair (.int .i64) (.pair .bool (.pair (.arr 4 (.int .u64)) .unit))))) (.pair (.slice (.int .i64)) .unit)))), .str] (.one (.int .i64)) p320), (21, fnOf [(.pair (.int .i64) (.pair (.int .i64) (.pair (.slice (.pair (.int .i64) (.pair (.int .i64) (.pair .bool (.pair (.arr 4 (.int .u64)) .unit))))) (.pair (.slice (.int .i64)) .unit)))), .str] (.one (.int .i64)) p23)]) (all_cons s311 (all_cons s314 (all_cons s320 (all_cons s23 all_nil)))) (ls := []) (cmds := []) (leaves := []) (fr := []) (pt := []) (D := 1) all_nil (by kernel_rfl) (hfr := all_nil) fun x r h => by
    obtain ⟨x0, x1, ⟨⟩⟩ := x
    refine Eq.trans ?_ h
    kernel_rfl

def Γ308 : TEnv := { Γ0 with imm := [29] }
theorem hΓ308 : Γ308.ok Try.prog = true := hΓ0

noncomputable def L308_8 : Nat → ((Unit × (List (Int)) × (List UInt8) × (Int) × Unit) × (((Int) × (Int) × (List ((Int) × ((Int) × ((Bool) × ((List (Int)) × (Unit)))))) × (List (Int)) × Unit) × Unit)) → Option ((Unit × (List (Int)) × (List UInt8) × Unit) × (((Int) × (Int) × (List ((Int) × ((Int) × ((Bool) × ((List (Int)) × (Unit)))))) × (List (Int)) × Unit) × Unit))
  | 0, _ => none
  | n + 1, ((_, x7, x8, x9, ()), (y3, ())) =>
    if (decide (x9 < (x8.length : Int))) = true then
      if decide (0 ≤ x9 ∧ x9 < (x8.length : Int)) = true then
        (p43 ((y3.1, (y3.2.1, (y3.2.2.1, (y3.2.2.2.1, ())))), x7, ((x8.getD x9.toNat 0).toNat : Int), ())).bind fun c1 =>
        L308_8 n (((), c1, x8, (IntKind.i64.wrap (x9 + (1 : Int))), ()), ((y3.1, y3.2.1, y3.2.2.1, y3.2.2.2.1, ()), ()))
      else
        none
    else
      some (((), x7, x8, ()), ((y3.1, y3.2.1, y3.2.2.1, y3.2.2.2.1, ()), ()))

noncomputable def EL308_8 : LoopEnt := ⟨[8], 8, ⟨[], [3, 7, 8, 9], [3]⟩, [.ptr 3 0, .kd (.slice (.int .i64)), .kd .str, .kd (.int .i64)], [.box [.kd (.int .i64), .kd (.int .i64), .kd (.slice (.pair (.int .i64) (.pair (.int .i64) (.pair .bool (.pair (.arr 4 (.int .u64)) .unit))))), .kd (.slice (.int .i64))]], [⟨(.exit 0), [3, 7, 8], [.ptr 3 0, .kd (.slice (.int .i64)), .kd .str], [3], [.box [.kd (.int .i64), .kd (.int .i64), .kd (.slice (.pair (.int .i64) (.pair (.int .i64) (.pair .bool (.pair (.arr 4 (.int .u64)) .unit))))), .kd (.slice (.int .i64))]]⟩], limit L308_8⟩

noncomputable def L308_12 : Nat → ((Unit × (List (Int)) × (List UInt8) × (Int) × Unit) × (((Int) × (Int) × (List ((Int) × ((Int) × ((Bool) × ((List (Int)) × (Unit)))))) × (List (Int)) × Unit) × Unit)) → Option ((((Bool) × Unit) × (Unit)) ⊕ ((Unit × (List (Int)) × (List UInt8) × Unit) × (((Int) × (Int) × (List ((Int) × ((Int) × ((Bool) × ((List (Int)) × (Unit)))))) × (List (Int)) × Unit) × Unit)))
  | 0, _ => none
  | n + 1, ((_, x7, x8, x10, ()), (y3, ())) =>
    if (decide (x10 < (x7.length : Int))) = true then
      if decide (0 ≤ x10 ∧ x10 < (x7.length : Int)) = true then
        if (decide ((x7.getD x10.toNat 0) < (0 : Int))) = true then
          some (.inl ((false, ()), ()))
        else
          if decide (0 ≤ x10 ∧ x10 < (x7.length : Int)) = true then
            if (decide ((x7.getD x10.toNat 0) ≥ y3.1)) = true then
              some (.inl ((false, ()), ()))
            else
              L308_12 n (((), x7, x8, (IntKind.i64.wrap (x10 + (1 : Int))), ()), ((y3.1, y3.2.1, y3.2.2.1, y3.2.2.2.1, ()), ()))
          else
            none
      else
        none
    else
      some (.inr (((), x7, x8, ()), ((y3.1, y3.2.1, y3.2.2.1, y3.2.2.2.1, ()), ())))

noncomputable def EL308_12 : LoopEnt := ⟨[8], 12, ⟨[], [3, 7, 8, 10], [3]⟩, [.ptr 3 0, .kd (.slice (.int .i64)), .kd .str, .kd (.int .i64)], [.box [.kd (.int .i64), .kd (.int .i64), .kd (.slice (.pair (.int .i64) (.pair (.int .i64) (.pair .bool (.pair (.arr 4 (.int .u64)) .unit))))), .kd (.slice (.int .i64))]], [⟨.ret, [6], [.kd .bool], [], []⟩, ⟨(.exit 2), [3, 7, 8], [.ptr 3 0, .kd (.slice (.int .i64)), .kd .str], [3], [.box [.kd (.int .i64), .kd (.int .i64), .kd (.slice (.pair (.int .i64) (.pair (.int .i64) (.pair .bool (.pair (.arr 4 (.int .u64)) .unit))))), .kd (.slice (.int .i64))]]⟩], limit L308_12⟩

noncomputable def O308 : Orc := mkOrc [(11, fnOf [] (.one .bool) p311), (14, fnOf [(.pair (.int .i64) (.pair (.int .i64) (.pair (.slice (.pair (.int .i64) (.pair (.int .i64) (.pair .bool (.pair (.arr 4 (.int .u64)) .unit))))) (.pair (.slice (.int .i64)) .unit))))] (.one .bool) p314), (15, fnOf [(.pair (.int .i64) (.pair (.int .i64) (.pair (.slice (.pair (.int .i64) (.pair (.int .i64) (.pair .bool (.pair (.arr 4 (.int .u64)) .unit))))) (.pair (.slice (.int .i64)) .unit)))), (.slice (.int .i64))] (.one (.slice (.int .i64))) p41), (18, fnOf [(.pair (.int .i64) (.pair (.int .i64) (.pair (.slice (.pair (.int .i64) (.pair (.int .i64) (.pair .bool (.pair (.arr 4 (.int .u64)) .unit))))) (.pair (.slice (.int .i64)) .unit)))), (.slice (.int .i64)), (.int .u8)] (.one (.slice (.int .i64))) p43), (20, fnOf [(.pair (.int .i64) (.pair (.int .i64) (.pair (.slice (.pair (.int .i64) (.pair (.int .i64) (.pair .bool (.pair (.arr 4 (.int .u64)) .unit))))) (.pair (.slice (.int .i64)) .unit)))), .str] (.one (.int .i64)) p320), (22, fnOf [(.pair (.int .i64) (.pair (.int .i64) (.pair (.slice (.pair (.int .i64) (.pair (.int .i64) (.pair .bool (.pair (.arr 4 (.int .u64)) .unit))))) (.pair (.slice (.int .i64)) .unit)))), (.slice (.int .i64))] (.one (.int .i64)) p52)] [EL308_8, EL308_12] [] [] []

theorem cL308_8 : LoopCert Try.prog O308 Γ308 1 EL308_8 :=
  ⟨⟨8, 0, L308_8, rfl, by kernel_rfl, by decide, limit_fn, fun _ => rfl, fun m old x r h => by
    obtain ⟨⟨x3, x7, x8, x9, ⟨⟩⟩, y3, ⟨⟩⟩ := x
    refine Eq.trans ?_ h
    kernel_rfl⟩⟩

theorem cL308_12 : LoopCert Try.prog O308 Γ308 1 EL308_12 :=
  ⟨⟨8, 1, L308_12, rfl, by kernel_rfl, by decide, limit_fn, fun _ => rfl, fun m old x r h => by
    obtain ⟨⟨x3, x7, x8, x10, ⟨⟩⟩, y3, ⟨⟩⟩ := x
    refine Eq.trans ?_ h
    kernel_rfl⟩⟩

/-- emendate/emendatelaw09.NfaRunIsCompositional -/
noncomputable def p308 : (((Int) × ((Int) × ((List ((Int) × ((Int) × ((Bool) × ((List (Int)) × (Unit)))))) × ((List (Int)) × (Unit))))) × (List UInt8) × (List UInt8) × Unit) → Option (Bool)
  | (x0, x1, x2, ()) =>
    (p311 (())).bind fun c1 =>
    if (!c1) = true then
      some false
    else
      (p314 ((x0.1, (x0.2.1, (x0.2.2.1, (x0.2.2.2.1, ())))), ())).bind fun c2 =>
      if (!c2) = true then
        some true
      else
        if (decide ((x1.length : Int) > (20 : Int))) = true then
          some true
        else
          if (decide ((x2.length : Int) > (20 : Int))) = true then
            some true
          else
            (p41 ((x0.1, (x0.2.1, (x0.2.2.1, (x0.2.2.2.1, ())))), ([x0.2.1] : List (Int)), ())).bind fun c3 =>
            if decide (x1.length + x2.length ≤ lim) = true then
              (limit L308_8 (((), c3, (x1 ++ x2), (0 : Int), ()), ((x0.1, x0.2.1, x0.2.2.1, x0.2.2.2.1, ()), ()))).bind fun r4 =>
              (limit L308_12 (((), r4.1.2.1, r4.1.2.2.1, (0 : Int), ()), ((r4.2.1.1, r4.2.1.2.1, r4.2.1.2.2.1, r4.2.1.2.2.2.1, ()), ()))).bind (Sum.elim (fun r5 =>
                some r5.1.1) (fun r5 =>
                (p320 ((r5.2.1.1, (r5.2.1.2.1, (r5.2.1.2.2.1, (r5.2.1.2.2.2.1, ())))), r5.1.2.2.1, ())).bind fun c6 =>
                (p52 ((r5.2.1.1, (r5.2.1.2.1, (r5.2.1.2.2.1, (r5.2.1.2.2.2.1, ())))), r5.1.2.1, ())).bind fun c7 =>
                some (decide (c6 = c7))))
            else
              none

theorem s308 : SoundFn Try.prog 8 (fnOf [(.pair (.int .i64) (.pair (.int .i64) (.pair (.slice (.pair (.int .i64) (.pair (.int .i64) (.pair .bool (.pair (.arr 4 (.int .u64)) .unit))))) (.pair (.slice (.int .i64)) .unit)))), .str, .str] (.one .bool) p308) :=
  fn_pure hm0 hng0 hΓ308 (t := [(11, fnOf [] (.one .bool) p311), (14, fnOf [(.pair (.int .i64) (.pair (.int .i64) (.pair (.slice (.pair (.int .i64) (.pair (.int .i64) (.pair .bool (.pair (.arr 4 (.int .u64)) .unit))))) (.pair (.slice (.int .i64)) .unit))))] (.one .bool) p314), (15, fnOf [(.pair (.int .i64) (.pair (.int .i64) (.pair (.slice (.pair (.int .i64) (.pair (.int .i64) (.pair .bool (.pair (.arr 4 (.int .u64)) .unit))))) (.pair (.slice (.int .i64)) .unit)))), (.slice (.int .i64))] (.one (.slice (.int .i64))) p41), (18, fnOf [(.pair (.int .i64) (.pair (.int .i64) (.pair (.slice (.pair (.int .i64) (.pair (.int .i64) (.pair .bool (.pair (.arr 4 (.int .u64)) .unit))))) (.pair (.slice (.int .i64)) .unit)))), (.slice (.int .i64)), (.int .u8)] (.one (.slice (.int .i64))) p43), (20, fnOf [(.pair (.int .i64) (.pair (.int .i64) (.pair (.slice (.pair (.int .i64) (.pair (.int .i64) (.pair .bool (.pair (.arr 4 (.int .u64)) .unit))))) (.pair (.slice (.int .i64)) .unit)))), .str] (.one (.int .i64)) p320), (22, fnOf [(.pair (.int .i64) (.pair (.int .i64) (.pair (.slice (.pair (.int .i64) (.pair (.int .i64) (.pair .bool (.pair (.arr 4 (.int .u64)) .unit))))) (.pair (.slice (.int .i64)) .unit)))), (.slice (.int .i64))] (.one (.int .i64)) p52)]) (all_cons s311 (all_cons s314 (all_cons s41 (all_cons s43 (all_cons s320 (all_cons s52 all_nil)))))) (ls := [EL308_8, EL308_12]) (cmds := []) (leaves := []) (fr := []) (pt := []) (D := 1) (all_cons cL308_8 (all_cons cL308_12 all_nil)) (by kernel_rfl) (hfr := all_nil) fun x r h => by
    obtain ⟨x0, x1, x2, ⟨⟩⟩ := x
    refine Eq.trans ?_ h
    kernel_rfl

end Go.AM
