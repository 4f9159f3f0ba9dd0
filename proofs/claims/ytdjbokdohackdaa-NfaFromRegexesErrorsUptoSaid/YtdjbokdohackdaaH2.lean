/- Functions in pure form: each is sound over the program. -/
import Derived.Test.YtdjbokdohackdaaH1
namespace Go.AM
open Go Go.Proofs

noncomputable def L351_17 (E51 : ((Rx) × (Int) × Unit) → Option (Bool)) : Nat → (((Int) × (List (Rx)) × (Int) × (Int) × Unit) × (Unit)) → Option ((((Bool) × Unit) × (Unit)) ⊕ ((Unit) × (Unit)))
  | 0, _ => none
  | n + 1, ((x1, x48, x49, x50, ()), ()) =>
    if (decide (x50 < x49)) = true then
      if decide (0 ≤ x50 ∧ x50 < (x48.length : Int)) = true then
        (E51 ((Rx.mk (x48.getD x50.toNat (Rx.mk 0 [0, 0, 0, 0] [])).kind [((x48.getD x50.toNat (Rx.mk 0 [0, 0, 0, 0] [])).set.getD 0 0), ((x48.getD x50.toNat (Rx.mk 0 [0, 0, 0, 0] [])).set.getD 1 0), ((x48.getD x50.toNat (Rx.mk 0 [0, 0, 0, 0] [])).set.getD 2 0), ((x48.getD x50.toNat (Rx.mk 0 [0, 0, 0, 0] [])).set.getD 3 0)] (x48.getD x50.toNat (Rx.mk 0 [0, 0, 0, 0] [])).kids), (IntKind.i64.wrap (x1 - (1 : Int))), ())).bind fun c1 =>
        if (!c1) = true then
          some (.inl ((false, ()), ()))
        else
          L351_17 E51 n ((x1, x48, x49, (IntKind.i64.wrap (x50 + (1 : Int))), ()), ())
      else
        none
    else
      some (.inr ((), ()))

noncomputable def EL351_17 (E51 : ((Rx) × (Int) × Unit) → Option (Bool)) : LoopEnt := ⟨[51], 17, ⟨[], [1, 48, 49, 50], []⟩, [.kd (.int .i64), .kd (.slice .rx), .kd (.int .i64), .kd (.int .i64)], [], [⟨.ret, [4], [.kd .bool], [], []⟩, ⟨(.exit 1), [], [], [], []⟩], limit (L351_17 E51)⟩

noncomputable def O351 (E51 : ((Rx) × (Int) × Unit) → Option (Bool)) : Orc := mkOrc [(51, fnOf [.rx, (.int .i64)] (.one .bool) E51)] [(EL351_17 E51)] [] [] []

theorem cL351_17 (E51 : ((Rx) × (Int) × Unit) → Option (Bool)) : LoopCert Try.prog (O351 E51) Γ0 1 (EL351_17 E51) :=
  ⟨⟨51, 0, (L351_17 E51), rfl, by kernel_rfl, Nat.le_of_ble_eq_true (by kernel_rfl), limit_fn, fun _ => rfl, fun m old x r h => by
    obtain ⟨⟨x1, x48, x49, x50, ⟨⟩⟩, ⟨⟩⟩ := x
    refine Eq.trans ?_ h
    kernel_rfl⟩⟩

/-- emendate/regex.valid -/
noncomputable def p351b (E51 : ((Rx) × (Int) × Unit) → Option (Bool)) : ((Rx) × (Int) × Unit) → Option (Bool)
  | (x0, x1, ()) =>
    if (decide (x1 = (0 : Int))) = true then
      some false
    else
      if ((decide (x0.kind = (3 : Int))) == (Kind.eqB (.arr 4 (.int .u64)) [(x0.set.getD 0 0), (x0.set.getD 1 0), (x0.set.getD 2 0), (x0.set.getD 3 0)] [(0 : Int), (0 : Int), (0 : Int), (0 : Int)])) = true then
        some false
      else
        if (decide (x0.kind = (1 : Int))) = true then
          if (decide ((x0.kids.length : Int) < (0 : Int))) = true then
            some false
          else
            if (decide ((x0.kids.length : Int) > (0 : Int))) = true then
              some false
            else
              (limit (L351_17 E51) ((x1, x0.kids, (x0.kids.length : Int), (0 : Int), ()), ())).bind (Sum.elim (fun r1 =>
                some r1.1.1) (fun _ =>
                some true))
        else
          if (decide (x0.kind = (2 : Int))) = true then
            if (decide ((x0.kids.length : Int) < (0 : Int))) = true then
              some false
            else
              if (decide ((x0.kids.length : Int) > (0 : Int))) = true then
                some false
              else
                (limit (L351_17 E51) ((x1, x0.kids, (x0.kids.length : Int), (0 : Int), ()), ())).bind (Sum.elim (fun r2 =>
                  some r2.1.1) (fun _ =>
                  some true))
          else
            if (decide (x0.kind = (3 : Int))) = true then
              if (decide ((x0.kids.length : Int) < (0 : Int))) = true then
                some false
              else
                if (decide ((x0.kids.length : Int) > (0 : Int))) = true then
                  some false
                else
                  (limit (L351_17 E51) ((x1, x0.kids, (x0.kids.length : Int), (0 : Int), ()), ())).bind (Sum.elim (fun r3 =>
                    some r3.1.1) (fun _ =>
                    some true))
            else
              if (decide (x0.kind = (4 : Int))) = true then
                if (decide ((x0.kids.length : Int) < (2 : Int))) = true then
                  some false
                else
                  if (decide ((x0.kids.length : Int) > (x0.kids.length : Int))) = true then
                    some false
                  else
                    (limit (L351_17 E51) ((x1, x0.kids, (x0.kids.length : Int), (0 : Int), ()), ())).bind (Sum.elim (fun r4 =>
                      some r4.1.1) (fun _ =>
                      some true))
              else
                if (decide (x0.kind = (5 : Int))) = true then
                  if (decide ((x0.kids.length : Int) < (2 : Int))) = true then
                    some false
                  else
                    if (decide ((x0.kids.length : Int) > (x0.kids.length : Int))) = true then
                      some false
                    else
                      (limit (L351_17 E51) ((x1, x0.kids, (x0.kids.length : Int), (0 : Int), ()), ())).bind (Sum.elim (fun r5 =>
                        some r5.1.1) (fun _ =>
                        some true))
                else
                  if (decide (x0.kind = (6 : Int))) = true then
                    if (decide ((x0.kids.length : Int) < (1 : Int))) = true then
                      some false
                    else
                      if (decide ((x0.kids.length : Int) > (1 : Int))) = true then
                        some false
                      else
                        (limit (L351_17 E51) ((x1, x0.kids, (x0.kids.length : Int), (0 : Int), ()), ())).bind (Sum.elim (fun r6 =>
                          some r6.1.1) (fun _ =>
                          some true))
                  else
                    some false

theorem s351b (E51 : ((Rx) × (Int) × Unit) → Option (Bool)) (hE51 : SoundFn Try.prog 51 (fnOf [.rx, (.int .i64)] (.one .bool) E51)) : SoundFn Try.prog 51 (fnOf [.rx, (.int .i64)] (.one .bool) (p351b E51)) :=
  fn_pure hm0 hng0 hΓ0 (t := [(51, fnOf [.rx, (.int .i64)] (.one .bool) E51)]) (all_cons hE51 all_nil) (ls := [(EL351_17 E51)]) (cmds := []) (leaves := []) (fr := []) (pt := []) (D := 1) (all_cons (cL351_17 E51) all_nil) (by kernel_rfl) (hfr := all_nil) fun x r h => by
    obtain ⟨x0, x1, ⟨⟩⟩ := x
    refine Eq.trans ?_ h
    kernel_rfl

noncomputable def p351n : Nat → ((Rx) × (Int) × Unit) → Option (Bool)
  | 0, _ => none
  | n + 1, x => p351b (p351n n) x

theorem s351n : ∀ n, SoundFn Try.prog 51 (fnOf [.rx, (.int .i64)] (.one .bool) (p351n n)) :=
  fn_rec hng0 (by kernel_rfl) (fun _ => rfl) fun n h => s351b (p351n n) h

noncomputable def p351 : ((Rx) × (Int) × Unit) → Option (Bool) := limit p351n

theorem s351 : SoundFn Try.prog 51 (fnOf [.rx, (.int .i64)] (.one .bool) p351) := s351n fuel

noncomputable def O340 : Orc := mkOrc [(51, fnOf [.rx, (.int .i64)] (.one .bool) p351)] [] [] [] []

/-- emendate/regex.Valid -/
noncomputable def p340 : ((Rx) × Unit) → Option (Bool)
  | (x0, ()) =>
    (p351 ((Rx.mk x0.kind [(x0.set.getD 0 0), (x0.set.getD 1 0), (x0.set.getD 2 0), (x0.set.getD 3 0)] x0.kids), (30 : Int), ())).bind fun c1 =>
    some c1

theorem s340 : SoundFn Try.prog 40 (fnOf [.rx] (.one .bool) p340) :=
  fn_pure hm0 hng0 hΓ0 (t := [(51, fnOf [.rx, (.int .i64)] (.one .bool) p351)]) (all_cons s351 all_nil) (ls := []) (cmds := []) (leaves := []) (fr := []) (pt := []) (D := 1) all_nil (by kernel_rfl) (hfr := all_nil) fun x r h => by
    obtain ⟨x0, ⟨⟩⟩ := x
    refine Eq.trans ?_ h
    kernel_rfl

noncomputable def L341_3 (E41 : ((Rx) × Unit) → Option (Int)) : Nat → (((Int) × (List (Rx)) × (Int) × (Int) × Unit) × (Unit)) → Option (((Int) × Unit) × (Unit))
  | 0, _ => none
  | n + 1, ((x3, x7, x8, x9, ()), ()) =>
    if (decide (x9 < x8)) = true then
      if decide (0 ≤ x9 ∧ x9 < (x7.length : Int)) = true then
        (E41 ((Rx.mk (x7.getD x9.toNat (Rx.mk 0 [0, 0, 0, 0] [])).kind [((x7.getD x9.toNat (Rx.mk 0 [0, 0, 0, 0] [])).set.getD 0 0), ((x7.getD x9.toNat (Rx.mk 0 [0, 0, 0, 0] [])).set.getD 1 0), ((x7.getD x9.toNat (Rx.mk 0 [0, 0, 0, 0] [])).set.getD 2 0), ((x7.getD x9.toNat (Rx.mk 0 [0, 0, 0, 0] [])).set.getD 3 0)] (x7.getD x9.toNat (Rx.mk 0 [0, 0, 0, 0] [])).kids), ())).bind fun c1 =>
        L341_3 E41 n (((IntKind.i64.wrap (x3 + c1)), x7, x8, (IntKind.i64.wrap (x9 + (1 : Int))), ()), ())
      else
        none
    else
      some ((x3, ()), ())

noncomputable def EL341_3 (E41 : ((Rx) × Unit) → Option (Int)) : LoopEnt := ⟨[41], 3, ⟨[], [3, 7, 8, 9], []⟩, [.kd (.int .i64), .kd (.slice .rx), .kd (.int .i64), .kd (.int .i64)], [], [⟨(.exit 0), [3], [.kd (.int .i64)], [], []⟩], limit (L341_3 E41)⟩

noncomputable def O341 (E41 : ((Rx) × Unit) → Option (Int)) : Orc := mkOrc [(41, fnOf [.rx] (.one (.int .i64)) E41)] [(EL341_3 E41)] [] [] []

theorem cL341_3 (E41 : ((Rx) × Unit) → Option (Int)) : LoopCert Try.prog (O341 E41) Γ0 1 (EL341_3 E41) :=
  ⟨⟨41, 0, (L341_3 E41), rfl, by kernel_rfl, Nat.le_of_ble_eq_true (by kernel_rfl), limit_fn, fun _ => rfl, fun m old x r h => by
    obtain ⟨⟨x3, x7, x8, x9, ⟨⟩⟩, ⟨⟩⟩ := x
    refine Eq.trans ?_ h
    kernel_rfl⟩⟩

/-- emendate/nfa.nodes -/
noncomputable def p341b (E41 : ((Rx) × Unit) → Option (Int)) : ((Rx) × Unit) → Option (Int)
  | (x0, ()) =>
    (limit (L341_3 E41) (((1 : Int), x0.kids, (x0.kids.length : Int), (0 : Int), ()), ())).bind fun r1 =>
    some r1.1.1

theorem s341b (E41 : ((Rx) × Unit) → Option (Int)) (hE41 : SoundFn Try.prog 41 (fnOf [.rx] (.one (.int .i64)) E41)) : SoundFn Try.prog 41 (fnOf [.rx] (.one (.int .i64)) (p341b E41)) :=
  fn_pure hm0 hng0 hΓ0 (t := [(41, fnOf [.rx] (.one (.int .i64)) E41)]) (all_cons hE41 all_nil) (ls := [(EL341_3 E41)]) (cmds := []) (leaves := []) (fr := []) (pt := []) (D := 1) (all_cons (cL341_3 E41) all_nil) (by kernel_rfl) (hfr := all_nil) fun x r h => by
    obtain ⟨x0, ⟨⟩⟩ := x
    refine Eq.trans ?_ h
    kernel_rfl

noncomputable def p341n : Nat → ((Rx) × Unit) → Option (Int)
  | 0, _ => none
  | n + 1, x => p341b (p341n n) x

theorem s341n : ∀ n, SoundFn Try.prog 41 (fnOf [.rx] (.one (.int .i64)) (p341n n)) :=
  fn_rec hng0 (by kernel_rfl) (fun _ => rfl) fun n h => s341b (p341n n) h

noncomputable def p341 : ((Rx) × Unit) → Option (Int) := limit p341n

theorem s341 : SoundFn Try.prog 41 (fnOf [.rx] (.one (.int .i64)) p341) := s341n fuel

noncomputable def L363_3 : Nat → (((List (List (Int))) × (Int) × (List (List (Int))) × (Int) × (Int) × Unit) × (Unit)) → Option (((List (List (Int))) × (Int) × Unit) × (Unit))
  | 0, _ => none
  | n + 1, ((x0, x3, x9, x10, x11, ()), ()) =>
    if (decide (x11 < x10)) = true then
      if decide (0 ≤ x11 ∧ x11 < (x9.length : Int)) = true then
        if (decide ((IntKind.i64.wrap (x3 + ((x9.getD x11.toNat []).length : Int))) < (0 : Int))) = true then
          none
        else
          L363_3 n ((x0, (IntKind.i64.wrap (x3 + ((x9.getD x11.toNat []).length : Int))), x9, x10, (IntKind.i64.wrap (x11 + (1 : Int))), ()), ())
      else
        none
    else
      some ((x0, x3, ()), ())

noncomputable def EL363_3 : LoopEnt := ⟨[63], 3, ⟨[], [0, 3, 9, 10, 11], []⟩, [.kd (.slice (.slice (.int .i64))), .kd (.int .i64), .kd (.slice (.slice (.int .i64))), .kd (.int .i64), .kd (.int .i64)], [], [⟨(.exit 0), [0, 3], [.kd (.slice (.slice (.int .i64))), .kd (.int .i64)], [], []⟩], limit L363_3⟩

noncomputable def L363_11 : Nat → ((Unit × (List (List (Int))) × (Int) × (Int) × Unit) × ((List (Int)) × Unit)) → Option ((Unit × Unit) × ((List (Int)) × Unit))
  | 0, _ => none
  | n + 1, ((_, x25, x26, x27, ()), (y6, ())) =>
    if (decide (x27 < x26)) = true then
      if decide (0 ≤ x27 ∧ x27 < (x25.length : Int)) = true then
        if decide (y6.length + (x25.getD x27.toNat []).length ≤ lim) = true then
          L363_11 n (((), x25, x26, (IntKind.i64.wrap (x27 + (1 : Int))), ()), ((y6 ++ (x25.getD x27.toNat [])), ()))
        else
          none
      else
        none
    else
      some (((), ()), (y6, ()))

noncomputable def EL363_11 : LoopEnt := ⟨[63], 11, ⟨[.keep [6, 25, 26, 27] [24, 33], .adopt 6 (.int .i64) 6], [6, 25, 26, 27], [6]⟩, [.ref 6, .kd (.slice (.slice (.int .i64))), .kd (.int .i64), .kd (.int .i64)], [.row (.int .i64)], [⟨(.exit 2), [6], [.ref 6], [6], [.row (.int .i64)]⟩], limit L363_11⟩

noncomputable def O363 : Orc := mkOrc [] [EL363_3, EL363_11] [] [] [(68, growNew)]

theorem cL363_3 : LoopCert Try.prog O363 Γ0 1 EL363_3 :=
  ⟨⟨63, 0, L363_3, rfl, by kernel_rfl, by decide, limit_fn, fun _ => rfl, fun m old x r h => by
    obtain ⟨⟨x0, x3, x9, x10, x11, ⟨⟩⟩, ⟨⟩⟩ := x
    refine Eq.trans ?_ h
    kernel_rfl⟩⟩

theorem cL363_11 : LoopCert Try.prog O363 Γ0 1 EL363_11 :=
  ⟨⟨63, 1, L363_11, rfl, by kernel_rfl, by decide, limit_fn, fun _ => rfl, fun m old x r h => by
    obtain ⟨⟨x6, x25, x26, x27, ⟨⟩⟩, y6, ⟨⟩⟩ := x
    refine Eq.trans ?_ h
    kernel_rfl⟩⟩

/-- slices.Concat[[]int,int] -/
noncomputable def p363 : ((List (List (Int))) × Unit) → Option (List (Int))
  | (x0, ()) =>
    (limit L363_3 ((x0, (0 : Int), x0, (x0.length : Int), (0 : Int), ()), ())).bind fun r1 =>
    (p368 r1.1.2.1).bind fun c2 =>
    (limit L363_11 (((), r1.1.1, (r1.1.1.length : Int), (0 : Int), ()), (c2, ()))).bind fun r3 =>
    some r3.2.1

theorem s363 : SoundFn Try.prog 63 (fnOf [(.slice (.slice (.int .i64)))] (.one (.slice (.int .i64))) p363) :=
  fn_pure hm0 hng0 hΓ0 (t := []) all_nil (ls := [EL363_3, EL363_11]) (cmds := []) (leaves := []) (fr := [(68, growNew)]) (pt := []) (D := 1) (all_cons cL363_3 (all_cons cL363_11 all_nil)) (by kernel_rfl) (hfr := (all_cons s368 all_nil)) fun x r h => by
    obtain ⟨x0, ⟨⟩⟩ := x
    refine Eq.trans ?_ h
    kernel_rfl

noncomputable def L343_343_4 : Nat → ((Unit × (List (Int)) × (Int) × (List (Int)) × (Int) × (Int) × (List (Int)) × (Int) × (Int) × Unit) × ((Unit × Unit × Unit) × (List (List (Int))) × (List (List ((Int) × (Bool)))) × Unit)) → Option ((Unit × (List (Int)) × (List (Int)) × (Int) × (Int) × Unit) × ((Unit × Unit × Unit) × (List (List (Int))) × (List (List ((Int) × (Bool)))) × Unit))
  | 0, _ => none
  | n + 1, ((_, x2, x7, x10, x11, x12, x16, x17, x18, ()), (_, y1, y2, ())) =>
    if (decide (x18 < x17)) = true then
      if decide (0 ≤ x18 ∧ x18 < (x16.length : Int)) = true then
        if decide (0 ≤ x7 ∧ x7 < (y2.length : Int)) = true then
          L343_343_4 n (((), x2, x7, x10, x11, x12, x16, x17, (IntKind.i64.wrap (x18 + (1 : Int))), ()), (((), (), ()), y1, (y2.set x7.toNat (mput (.int .i64) (x16.getD x18.toNat 0) true (y2.getD x7.toNat []))), ()))
        else
          none
      else
        none
    else
      some (((), x2, x10, x11, x12, ()), (((), (), ()), y1, y2, ()))

noncomputable def EL343_343_4 : LoopEnt := ⟨[43, 43], 4, ⟨[], [0, 2, 7, 10, 11, 12, 16, 17, 18], [0, 1, 2]⟩, [.ptr 0 0, .kd (.slice (.int .i64)), .kd (.int .i64), .kd (.slice (.int .i64)), .kd (.int .i64), .kd (.int .i64), .kd (.slice (.int .i64)), .kd (.int .i64), .kd (.int .i64)], [.box [.ref 1, .ref 2], .row (.arr 4 (.int .u64)), .mrow (.int .i64) .bool], [⟨(.exit 2), [0, 2, 10, 11, 12], [.ptr 0 0, .kd (.slice (.int .i64)), .kd (.slice (.int .i64)), .kd (.int .i64), .kd (.int .i64)], [0, 1, 2], [.box [.ref 1, .ref 2], .row (.arr 4 (.int .u64)), .mrow (.int .i64) .bool]⟩], limit L343_343_4⟩

noncomputable def L343_343_1 : Nat → ((Unit × (List (Int)) × (List (Int)) × (Int) × (Int) × Unit) × ((Unit × Unit × Unit) × (List (List (Int))) × (List (List ((Int) × (Bool)))) × Unit)) → Option ((Unit) × ((Unit × Unit × Unit) × (List (List (Int))) × (List (List ((Int) × (Bool)))) × Unit))
  | 0, _ => none
  | n + 1, ((_, x2, x10, x11, x12, ()), (_, y1, y2, ())) =>
    if (decide (x12 < x11)) = true then
      if decide (0 ≤ x12 ∧ x12 < (x10.length : Int)) = true then
        (limit L343_343_4 (((), x2, (x10.getD x12.toNat 0), x10, x11, x12, x2, (x2.length : Int), (0 : Int), ()), (((), (), ()), y1, y2, ()))).bind fun r1 =>
        L343_343_1 n (((), r1.1.2.1, r1.1.2.2.1, r1.1.2.2.2.1, (IntKind.i64.wrap (r1.1.2.2.2.2.1 + (1 : Int))), ()), (((), (), ()), r1.2.2.1, r1.2.2.2.1, ()))
      else
        none
    else
      some ((), (((), (), ()), y1, y2, ()))

noncomputable def EL343_343_1 : LoopEnt := ⟨[43, 43], 1, ⟨[], [0, 2, 10, 11, 12], [0, 1, 2]⟩, [.ptr 0 0, .kd (.slice (.int .i64)), .kd (.slice (.int .i64)), .kd (.int .i64), .kd (.int .i64)], [.box [.ref 1, .ref 2], .row (.arr 4 (.int .u64)), .mrow (.int .i64) .bool], [⟨(.exit 0), [], [], [0, 1, 2], [.box [.ref 1, .ref 2], .row (.arr 4 (.int .u64)), .mrow (.int .i64) .bool]⟩], limit L343_343_1⟩

noncomputable def O343 : Orc := mkOrc [] [EL343_343_4, EL343_343_1] [] [] []

theorem cL343_343_4 : LoopCert Try.prog O343 Γ0 2 EL343_343_4 :=
  ⟨⟨43, 1, L343_343_4, rfl, by kernel_rfl, by decide, limit_fn, fun _ => rfl, fun m old x r h => by
    obtain ⟨⟨x0, x2, x7, x10, x11, x12, x16, x17, x18, ⟨⟩⟩, y0, y1, y2, ⟨⟩⟩ := x
    refine Eq.trans ?_ h
    kernel_rfl⟩⟩

theorem cL343_343_1 : LoopCert Try.prog O343 Γ0 2 EL343_343_1 :=
  ⟨⟨43, 0, L343_343_1, rfl, by kernel_rfl, by decide, limit_fn, fun _ => rfl, fun m old x r h => by
    obtain ⟨⟨x0, x2, x10, x11, x12, ⟨⟩⟩, y0, y1, y2, ⟨⟩⟩ := x
    refine Eq.trans ?_ h
    kernel_rfl⟩⟩

/-- (*emendate/nfa.builder).link -/
noncomputable def p343 : ((Unit × (List (Int)) × (List (Int)) × Unit) × ((Unit × Unit × Unit) × (List (List (Int))) × (List (List ((Int) × (Bool)))) × Unit)) → Option ((Unit) × ((Unit × Unit × Unit) × (List (List (Int))) × (List (List ((Int) × (Bool)))) × Unit))
  | ((_, x1, x2, ()), (_, y1, y2, ())) =>
    (limit L343_343_1 (((), x2, x1, (x1.length : Int), (0 : Int), ()), (((), (), ()), y1, y2, ()))).bind fun r1 =>
    some ((), (((), (), ()), r1.2.2.1, r1.2.2.2.1, ()))

theorem s343 : SoundProc Try.prog 43 [0, 1, 2] [0, 1, 2] (procPv (procOf [.ptr 0 0, .kd (.slice (.int .i64)), .kd (.slice (.int .i64))] [.box [.ref 1, .ref 2], .row (.arr 4 (.int .u64)), .mrow (.int .i64) .bool] (.tup []) [.box [.ref 1, .ref 2], .row (.arr 4 (.int .u64)), .mrow (.int .i64) .bool] p343)) :=
  proc_pure hm0 hng0 hΓ0 (t := []) all_nil (ls := [EL343_343_4, EL343_343_1]) (cmds := []) (leaves := []) (fr := []) (pt := []) (D := 2) (all_cons cL343_343_4 (all_cons cL343_343_1 all_nil)) (by kernel_rfl) (by kernel_rfl) (by kernel_rfl) (by kernel_rfl) (hfr := all_nil) fun x r h => by
    obtain ⟨⟨x0, x1, x2, ⟨⟩⟩, y0, y1, y2, ⟨⟩⟩ := x
    refine Eq.trans ?_ h
    kernel_rfl

noncomputable def O352 : Orc := mkOrc [] [] [] [([52, 52], [.adoptCell 0 0 (.arr 4 (.int .u64)) 3, .adoptM 0 1 4])] []

/-- (*emendate/nfa.builder).none -/
noncomputable def p352 : ((Unit × (Rx) × Unit) × ((Unit × Unit × Unit) × (List (List (Int))) × (List (List ((Int) × (Bool)))) × Unit)) → Option (((Bool) × ((List (Int)) × ((List (Int)) × (Unit)))) × ((Unit × Unit × Unit) × (List (List (Int))) × (List (List ((Int) × (Bool)))) × Unit))
  | ((_, _, ()), (_, y1, y2, ())) =>
    some ((false, (([] : List (Int)), (([] : List (Int)), ()))), (((), (), ()), y1, y2, ()))

theorem s352 : SoundProc Try.prog 52 [0, 1, 2] [0, 3, 4] (procPv (procOf [.ptr 0 0, .kd .rx] [.box [.ref 1, .ref 2], .row (.arr 4 (.int .u64)), .mrow (.int .i64) .bool] (.one (.pair .bool (.pair (.slice (.int .i64)) (.pair (.slice (.int .i64)) .unit)))) [.box [.ref 3, .ref 4], .row (.arr 4 (.int .u64)), .mrow (.int .i64) .bool] p352)) :=
  proc_pure hm0 hng0 hΓ0 (t := []) all_nil (ls := []) (cmds := []) (leaves := [([52, 52], [.adoptCell 0 0 (.arr 4 (.int .u64)) 3, .adoptM 0 1 4])]) (fr := []) (pt := []) (D := 2) all_nil (by kernel_rfl) (by kernel_rfl) (by kernel_rfl) (by kernel_rfl) (hfr := all_nil) fun x r h => by
    obtain ⟨⟨x0, x1, ⟨⟩⟩, y0, y1, y2, ⟨⟩⟩ := x
    refine Eq.trans ?_ h
    kernel_rfl

noncomputable def O353 : Orc := mkOrc [] [] [] [([53, 53], [.adoptCell 0 0 (.arr 4 (.int .u64)) 3, .adoptM 0 1 4])] []

/-- (*emendate/nfa.builder).empty -/
noncomputable def p353 : ((Unit × (Rx) × Unit) × ((Unit × Unit × Unit) × (List (List (Int))) × (List (List ((Int) × (Bool)))) × Unit)) → Option (((Bool) × ((List (Int)) × ((List (Int)) × (Unit)))) × ((Unit × Unit × Unit) × (List (List (Int))) × (List (List ((Int) × (Bool)))) × Unit))
  | ((_, _, ()), (_, y1, y2, ())) =>
    some ((true, (([] : List (Int)), (([] : List (Int)), ()))), (((), (), ()), y1, y2, ()))

theorem s353 : SoundProc Try.prog 53 [0, 1, 2] [0, 3, 4] (procPv (procOf [.ptr 0 0, .kd .rx] [.box [.ref 1, .ref 2], .row (.arr 4 (.int .u64)), .mrow (.int .i64) .bool] (.one (.pair .bool (.pair (.slice (.int .i64)) (.pair (.slice (.int .i64)) .unit)))) [.box [.ref 3, .ref 4], .row (.arr 4 (.int .u64)), .mrow (.int .i64) .bool] p353)) :=
  proc_pure hm0 hng0 hΓ0 (t := []) all_nil (ls := []) (cmds := []) (leaves := [([53, 53], [.adoptCell 0 0 (.arr 4 (.int .u64)) 3, .adoptM 0 1 4])]) (fr := []) (pt := []) (D := 2) all_nil (by kernel_rfl) (by kernel_rfl) (by kernel_rfl) (by kernel_rfl) (hfr := all_nil) fun x r h => by
    obtain ⟨⟨x0, x1, ⟨⟩⟩, y0, y1, y2, ⟨⟩⟩ := x
    refine Eq.trans ?_ h
    kernel_rfl

def Γ354 : TEnv := { Γ0 with imm := [1013, 1023, 1032] }
theorem hΓ354 : Γ354.ok Try.prog = true := hΓ0

noncomputable def O354 : Orc := mkOrc [] [] [] [([54, 54], [.adoptCell 0 0 (.arr 4 (.int .u64)) 3, .adoptM 0 1 4])] []

/-- (*emendate/nfa.builder).set -/
noncomputable def p354 : ((Unit × (Rx) × Unit) × ((Unit × Unit × Unit) × (List (List (Int))) × (List (List ((Int) × (Bool)))) × Unit)) → Option (((Bool) × ((List (Int)) × ((List (Int)) × (Unit)))) × ((Unit × Unit × Unit) × (List (List (Int))) × (List (List ((Int) × (Bool)))) × Unit))
  | ((_, x1, ()), (_, y1, y2, ())) =>
    if decide (y1.length + ([[(x1.set.getD 0 0), (x1.set.getD 1 0), (x1.set.getD 2 0), (x1.set.getD 3 0)]] : List (List (Int))).length ≤ lim) = true then
      if decide (y2.length + ([([] : List ((Int) × (Bool)))] : List (List ((Int) × (Bool)))).length ≤ lim) = true then
        some ((false, (([((y1 ++ ([[(x1.set.getD 0 0), (x1.set.getD 1 0), (x1.set.getD 2 0), (x1.set.getD 3 0)]] : List (List (Int)))).length : Int)] : List (Int)), (([((y1 ++ ([[(x1.set.getD 0 0), (x1.set.getD 1 0), (x1.set.getD 2 0), (x1.set.getD 3 0)]] : List (List (Int)))).length : Int)] : List (Int)), ()))), (((), (), ()), (y1 ++ ([[(x1.set.getD 0 0), (x1.set.getD 1 0), (x1.set.getD 2 0), (x1.set.getD 3 0)]] : List (List (Int)))), (y2 ++ ([([] : List ((Int) × (Bool)))] : List (List ((Int) × (Bool))))), ()))
      else
        none
    else
      none

theorem s354 : SoundProc Try.prog 54 [0, 1, 2] [0, 3, 4] (procPv (procOf [.ptr 0 0, .kd .rx] [.box [.ref 1, .ref 2], .row (.arr 4 (.int .u64)), .mrow (.int .i64) .bool] (.one (.pair .bool (.pair (.slice (.int .i64)) (.pair (.slice (.int .i64)) .unit)))) [.box [.ref 3, .ref 4], .row (.arr 4 (.int .u64)), .mrow (.int .i64) .bool] p354)) :=
  proc_pure hm0 hng0 hΓ354 (t := []) all_nil (ls := []) (cmds := []) (leaves := [([54, 54], [.adoptCell 0 0 (.arr 4 (.int .u64)) 3, .adoptM 0 1 4])]) (fr := []) (pt := []) (D := 2) all_nil (by kernel_rfl) (by kernel_rfl) (by kernel_rfl) (by kernel_rfl) (hfr := all_nil) fun x r h => by
    obtain ⟨⟨x0, x1, ⟨⟩⟩, y0, y1, y2, ⟨⟩⟩ := x
    refine Eq.trans ?_ h
    kernel_rfl

def Γ355 : TEnv := { Γ0 with imm := [1032, 1041], procs := [((1019, 42), ([(0, 0), (1400, 1), (1401, 2)], [(0, 0), (1402, 3), (1403, 4)])), ((1025, 43), ([(0, 0), (1402, 1), (1403, 2)], [(0, 0), (1402, 1), (1403, 2)]))] }
theorem hΓ355 : Γ355.ok Try.prog = true := hΓ0

noncomputable def L355_355_3 (E42 : ((Unit × (Rx) × Unit) × ((Unit × Unit × Unit) × (List (List (Int))) × (List (List ((Int) × (Bool)))) × Unit)) → Option (((Bool) × ((List (Int)) × ((List (Int)) × (Unit)))) × ((Unit × Unit × Unit) × (List (List (Int))) × (List (List ((Int) × (Bool)))) × Unit))) : Nat → ((Unit × Unit × Unit × (List (Rx)) × (Int) × (Int) × Unit) × ((Unit × Unit × Unit) × ((Bool) × (List (Int)) × (List (Int)) × Unit) × ((Bool) × (List (Int)) × (List (Int)) × Unit) × (List (List (Int))) × (List (List ((Int) × (Bool)))) × Unit)) → Option ((Unit × Unit × Unit) × ((Unit × Unit × Unit) × ((Bool) × (List (Int)) × (List (Int)) × Unit) × ((Bool) × (List (Int)) × (List (Int)) × Unit) × (List (List (Int))) × (List (List ((Int) × (Bool)))) × Unit))
  | 0, _ => none
  | n + 1, ((_, _, _, x11, x12, x13, ()), (_, y1004, y1005, y1400, y1401, ())) =>
    if (decide (x13 < x12)) = true then
      if decide (0 ≤ x13 ∧ x13 < (x11.length : Int)) = true then
        (E42 (((), (Rx.mk (x11.getD x13.toNat (Rx.mk 0 [0, 0, 0, 0] [])).kind [((x11.getD x13.toNat (Rx.mk 0 [0, 0, 0, 0] [])).set.getD 0 0), ((x11.getD x13.toNat (Rx.mk 0 [0, 0, 0, 0] [])).set.getD 1 0), ((x11.getD x13.toNat (Rx.mk 0 [0, 0, 0, 0] [])).set.getD 2 0), ((x11.getD x13.toNat (Rx.mk 0 [0, 0, 0, 0] [])).set.getD 3 0)] (x11.getD x13.toNat (Rx.mk 0 [0, 0, 0, 0] [])).kids), ()), (((), (), ()), y1400, y1401, ()))).bind fun c1 =>
        (p343 (((), y1005.2.2.1, c1.1.2.1, ()), (((), (), ()), c1.2.2.1, c1.2.2.2.1, ()))).bind fun c2 =>
        if y1005.1 = true then
          (p363 (([y1005.2.1, c1.1.2.1] : List (List (Int))), ())).bind fun c3 =>
          if c1.1.1 = true then
            (p363 (([y1005.2.2.1, c1.1.2.2.1] : List (List (Int))), ())).bind fun c4 =>
            if y1005.1 = true then
              L355_355_3 E42 n (((), (), (), x11, x12, (IntKind.i64.wrap (x13 + (1 : Int))), ()), (((), (), ()), (y1004.1, y1004.2.1, y1004.2.2.1, ()), (c1.1.1, c3, c4, ()), c2.2.2.1, c2.2.2.2.1, ()))
            else
              L355_355_3 E42 n (((), (), (), x11, x12, (IntKind.i64.wrap (x13 + (1 : Int))), ()), (((), (), ()), (y1004.1, y1004.2.1, y1004.2.2.1, ()), (false, c3, c4, ()), c2.2.2.1, c2.2.2.2.1, ()))
          else
            if y1005.1 = true then
              L355_355_3 E42 n (((), (), (), x11, x12, (IntKind.i64.wrap (x13 + (1 : Int))), ()), (((), (), ()), (y1004.1, y1004.2.1, y1004.2.2.1, ()), (c1.1.1, c3, c1.1.2.2.1, ()), c2.2.2.1, c2.2.2.2.1, ()))
            else
              L355_355_3 E42 n (((), (), (), x11, x12, (IntKind.i64.wrap (x13 + (1 : Int))), ()), (((), (), ()), (y1004.1, y1004.2.1, y1004.2.2.1, ()), (false, c3, c1.1.2.2.1, ()), c2.2.2.1, c2.2.2.2.1, ()))
        else
          if c1.1.1 = true then
            (p363 (([y1005.2.2.1, c1.1.2.2.1] : List (List (Int))), ())).bind fun c5 =>
            if y1005.1 = true then
              L355_355_3 E42 n (((), (), (), x11, x12, (IntKind.i64.wrap (x13 + (1 : Int))), ()), (((), (), ()), (y1004.1, y1004.2.1, y1004.2.2.1, ()), (c1.1.1, y1005.2.1, c5, ()), c2.2.2.1, c2.2.2.2.1, ()))
            else
              L355_355_3 E42 n (((), (), (), x11, x12, (IntKind.i64.wrap (x13 + (1 : Int))), ()), (((), (), ()), (y1004.1, y1004.2.1, y1004.2.2.1, ()), (false, y1005.2.1, c5, ()), c2.2.2.1, c2.2.2.2.1, ()))
          else
            if y1005.1 = true then
              L355_355_3 E42 n (((), (), (), x11, x12, (IntKind.i64.wrap (x13 + (1 : Int))), ()), (((), (), ()), (y1004.1, y1004.2.1, y1004.2.2.1, ()), (c1.1.1, y1005.2.1, c1.1.2.2.1, ()), c2.2.2.1, c2.2.2.2.1, ()))
            else
              L355_355_3 E42 n (((), (), (), x11, x12, (IntKind.i64.wrap (x13 + (1 : Int))), ()), (((), (), ()), (y1004.1, y1004.2.1, y1004.2.2.1, ()), (false, y1005.2.1, c1.1.2.2.1, ()), c2.2.2.1, c2.2.2.2.1, ()))
      else
        none
    else
      some (((), (), ()), (((), (), ()), (y1004.1, y1004.2.1, y1004.2.2.1, ()), (y1005.1, y1005.2.1, y1005.2.2.1, ()), y1400, y1401, ()))

noncomputable def EL355_355_3 (E42 : ((Unit × (Rx) × Unit) × ((Unit × Unit × Unit) × (List (List (Int))) × (List (List ((Int) × (Bool)))) × Unit)) → Option (((Bool) × ((List (Int)) × ((List (Int)) × (Unit)))) × ((Unit × Unit × Unit) × (List (List (Int))) × (List (List ((Int) × (Bool)))) × Unit))) : LoopEnt := ⟨[55, 55], 3, ⟨[.keep [0, 4, 5, 11, 12, 13] [0, 1, 2, 1004, 1005, 1402, 1403], .adoptCell 0 0 (.arr 4 (.int .u64)) 1400, .adoptM 0 1 1401], [0, 4, 5, 11, 12, 13], [0, 1004, 1005, 1400, 1401]⟩, [.ptr 0 0, .ptr 1004 0, .ptr 1005 0, .kd (.slice .rx), .kd (.int .i64), .kd (.int .i64)], [.box [.ref 1400, .ref 1401], .box [.kd .bool, .kd (.slice (.int .i64)), .kd (.slice (.int .i64))], .box [.kd .bool, .kd (.slice (.int .i64)), .kd (.slice (.int .i64))], .row (.arr 4 (.int .u64)), .mrow (.int .i64) .bool], [⟨(.exit 0), [4, 5], [.ptr 1004 0, .ptr 1005 0], [0, 1004, 1005, 1400, 1401], [.box [.ref 1400, .ref 1401], .box [.kd .bool, .kd (.slice (.int .i64)), .kd (.slice (.int .i64))], .box [.kd .bool, .kd (.slice (.int .i64)), .kd (.slice (.int .i64))], .row (.arr 4 (.int .u64)), .mrow (.int .i64) .bool]⟩], limit (L355_355_3 E42)⟩

noncomputable def O355 (E42 : ((Unit × (Rx) × Unit) × ((Unit × Unit × Unit) × (List (List (Int))) × (List (List ((Int) × (Bool)))) × Unit)) → Option (((Bool) × ((List (Int)) × ((List (Int)) × (Unit)))) × ((Unit × Unit × Unit) × (List (List (Int))) × (List (List ((Int) × (Bool)))) × Unit))) : Orc := mkOrc [(63, fnOf [(.slice (.slice (.int .i64)))] (.one (.slice (.int .i64))) p363)] [(EL355_355_3 E42)] [] [([55, 55], [.adoptCell 0 0 (.arr 4 (.int .u64)) 3, .adoptM 0 1 4])] [] [(42, procOf [.ptr 0 0, .kd .rx] [.box [.ref 1, .ref 2], .row (.arr 4 (.int .u64)), .mrow (.int .i64) .bool] (.one (.pair .bool (.pair (.slice (.int .i64)) (.pair (.slice (.int .i64)) .unit)))) [.box [.ref 3, .ref 4], .row (.arr 4 (.int .u64)), .mrow (.int .i64) .bool] E42), (43, procOf [.ptr 0 0, .kd (.slice (.int .i64)), .kd (.slice (.int .i64))] [.box [.ref 1, .ref 2], .row (.arr 4 (.int .u64)), .mrow (.int .i64) .bool] (.tup []) [.box [.ref 1, .ref 2], .row (.arr 4 (.int .u64)), .mrow (.int .i64) .bool] p343)]

theorem cL355_355_3 (E42 : ((Unit × (Rx) × Unit) × ((Unit × Unit × Unit) × (List (List (Int))) × (List (List ((Int) × (Bool)))) × Unit)) → Option (((Bool) × ((List (Int)) × ((List (Int)) × (Unit)))) × ((Unit × Unit × Unit) × (List (List (Int))) × (List (List ((Int) × (Bool)))) × Unit))) : LoopCert Try.prog (O355 E42) Γ355 2 (EL355_355_3 E42) :=
  ⟨⟨55, 0, (L355_355_3 E42), rfl, by kernel_rfl, Nat.le_of_ble_eq_true (by kernel_rfl), limit_fn, fun _ => rfl, fun m old x r h => by
    obtain ⟨⟨x0, x4, x5, x11, x12, x13, ⟨⟩⟩, y0, y1004, y1005, y1400, y1401, ⟨⟩⟩ := x
    refine Eq.trans ?_ h
    kernel_rfl⟩⟩

/-- (*emendate/nfa.builder).concat -/
noncomputable def p355 (E42 : ((Unit × (Rx) × Unit) × ((Unit × Unit × Unit) × (List (List (Int))) × (List (List ((Int) × (Bool)))) × Unit)) → Option (((Bool) × ((List (Int)) × ((List (Int)) × (Unit)))) × ((Unit × Unit × Unit) × (List (List (Int))) × (List (List ((Int) × (Bool)))) × Unit))) : ((Unit × (Rx) × Unit) × ((Unit × Unit × Unit) × (List (List (Int))) × (List (List ((Int) × (Bool)))) × Unit)) → Option (((Bool) × ((List (Int)) × ((List (Int)) × (Unit)))) × ((Unit × Unit × Unit) × (List (List (Int))) × (List (List ((Int) × (Bool)))) × Unit))
  | ((_, x1, ()), (_, y1, y2, ())) =>
    (limit (L355_355_3 E42) (((), (), (), x1.kids, (x1.kids.length : Int), (0 : Int), ()), (((), (), ()), (false, ([] : List (Int)), ([] : List (Int)), ()), (true, ([] : List (Int)), ([] : List (Int)), ()), y1, y2, ()))).bind fun r1 =>
    some ((r1.2.2.2.1.1, (r1.2.2.2.1.2.1, (r1.2.2.2.1.2.2.1, ()))), (((), (), ()), r1.2.2.2.2.1, r1.2.2.2.2.2.1, ()))

theorem s355 (E42 : ((Unit × (Rx) × Unit) × ((Unit × Unit × Unit) × (List (List (Int))) × (List (List ((Int) × (Bool)))) × Unit)) → Option (((Bool) × ((List (Int)) × ((List (Int)) × (Unit)))) × ((Unit × Unit × Unit) × (List (List (Int))) × (List (List ((Int) × (Bool)))) × Unit))) (hE42 : SoundProc Try.prog 42 [0, 1, 2] [0, 3, 4] (procPv (procOf [.ptr 0 0, .kd .rx] [.box [.ref 1, .ref 2], .row (.arr 4 (.int .u64)), .mrow (.int .i64) .bool] (.one (.pair .bool (.pair (.slice (.int .i64)) (.pair (.slice (.int .i64)) .unit)))) [.box [.ref 3, .ref 4], .row (.arr 4 (.int .u64)), .mrow (.int .i64) .bool] E42))) : SoundProc Try.prog 55 [0, 1, 2] [0, 3, 4] (procPv (procOf [.ptr 0 0, .kd .rx] [.box [.ref 1, .ref 2], .row (.arr 4 (.int .u64)), .mrow (.int .i64) .bool] (.one (.pair .bool (.pair (.slice (.int .i64)) (.pair (.slice (.int .i64)) .unit)))) [.box [.ref 3, .ref 4], .row (.arr 4 (.int .u64)), .mrow (.int .i64) .bool] (p355 E42))) :=
  proc_pure hm0 hng0 hΓ355 (t := [(63, fnOf [(.slice (.slice (.int .i64)))] (.one (.slice (.int .i64))) p363)]) (all_cons s363 all_nil) (ls := [(EL355_355_3 E42)]) (cmds := []) (leaves := [([55, 55], [.adoptCell 0 0 (.arr 4 (.int .u64)) 3, .adoptM 0 1 4])]) (fr := []) (pt := [(42, procOf [.ptr 0 0, .kd .rx] [.box [.ref 1, .ref 2], .row (.arr 4 (.int .u64)), .mrow (.int .i64) .bool] (.one (.pair .bool (.pair (.slice (.int .i64)) (.pair (.slice (.int .i64)) .unit)))) [.box [.ref 3, .ref 4], .row (.arr 4 (.int .u64)), .mrow (.int .i64) .bool] E42), (43, procOf [.ptr 0 0, .kd (.slice (.int .i64)), .kd (.slice (.int .i64))] [.box [.ref 1, .ref 2], .row (.arr 4 (.int .u64)), .mrow (.int .i64) .bool] (.tup []) [.box [.ref 1, .ref 2], .row (.arr 4 (.int .u64)), .mrow (.int .i64) .bool] p343)]) (D := 2) (all_cons (cL355_355_3 E42) all_nil) (by kernel_rfl) (by kernel_rfl) (by kernel_rfl) (by kernel_rfl) (hfr := all_nil) (hX := Special.procs (all_cons hE42 (all_cons s343 all_nil)) (fun _ _ h => by cases h) (fun _ _ h => by obtain ⟨⟨_, h⟩, _⟩ := h; cases h)) fun x r h => by
    obtain ⟨⟨x0, x1, ⟨⟩⟩, y0, y1, y2, ⟨⟩⟩ := x
    refine Eq.trans ?_ h
    kernel_rfl

def Γ356 : TEnv := { Γ0 with imm := [1029, 1035], procs := [((1018, 42), ([(0, 0), (1400, 1), (1401, 2)], [(0, 0), (1402, 3), (1403, 4)]))] }
theorem hΓ356 : Γ356.ok Try.prog = true := hΓ0

noncomputable def L356_356_3 (E42 : ((Unit × (Rx) × Unit) × ((Unit × Unit × Unit) × (List (List (Int))) × (List (List ((Int) × (Bool)))) × Unit)) → Option (((Bool) × ((List (Int)) × ((List (Int)) × (Unit)))) × ((Unit × Unit × Unit) × (List (List (Int))) × (List (List ((Int) × (Bool)))) × Unit))) : Nat → ((Unit × Unit × Unit × (List (Rx)) × (Int) × (Int) × Unit) × ((Unit × Unit × Unit) × ((Bool) × (List (Int)) × (List (Int)) × Unit) × ((Bool) × (List (Int)) × (List (Int)) × Unit) × (List (List (Int))) × (List (List ((Int) × (Bool)))) × Unit)) → Option ((Unit × Unit × Unit) × ((Unit × Unit × Unit) × ((Bool) × (List (Int)) × (List (Int)) × Unit) × ((Bool) × (List (Int)) × (List (Int)) × Unit) × (List (List (Int))) × (List (List ((Int) × (Bool)))) × Unit))
  | 0, _ => none
  | n + 1, ((_, _, _, x10, x11, x12, ()), (_, y1004, y1005, y1400, y1401, ())) =>
    if (decide (x12 < x11)) = true then
      if decide (0 ≤ x12 ∧ x12 < (x10.length : Int)) = true then
        (E42 (((), (Rx.mk (x10.getD x12.toNat (Rx.mk 0 [0, 0, 0, 0] [])).kind [((x10.getD x12.toNat (Rx.mk 0 [0, 0, 0, 0] [])).set.getD 0 0), ((x10.getD x12.toNat (Rx.mk 0 [0, 0, 0, 0] [])).set.getD 1 0), ((x10.getD x12.toNat (Rx.mk 0 [0, 0, 0, 0] [])).set.getD 2 0), ((x10.getD x12.toNat (Rx.mk 0 [0, 0, 0, 0] [])).set.getD 3 0)] (x10.getD x12.toNat (Rx.mk 0 [0, 0, 0, 0] [])).kids), ()), (((), (), ()), y1400, y1401, ()))).bind fun c1 =>
        if y1005.1 = true then
          (p363 (([y1005.2.1, c1.1.2.1] : List (List (Int))), ())).bind fun c2 =>
          (p363 (([y1005.2.2.1, c1.1.2.2.1] : List (List (Int))), ())).bind fun c3 =>
          L356_356_3 E42 n (((), (), (), x10, x11, (IntKind.i64.wrap (x12 + (1 : Int))), ()), (((), (), ()), (y1004.1, y1004.2.1, y1004.2.2.1, ()), (true, c2, c3, ()), c1.2.2.1, c1.2.2.2.1, ()))
        else
          (p363 (([y1005.2.1, c1.1.2.1] : List (List (Int))), ())).bind fun c4 =>
          (p363 (([y1005.2.2.1, c1.1.2.2.1] : List (List (Int))), ())).bind fun c5 =>
          L356_356_3 E42 n (((), (), (), x10, x11, (IntKind.i64.wrap (x12 + (1 : Int))), ()), (((), (), ()), (y1004.1, y1004.2.1, y1004.2.2.1, ()), (c1.1.1, c4, c5, ()), c1.2.2.1, c1.2.2.2.1, ()))
      else
        none
    else
      some (((), (), ()), (((), (), ()), (y1004.1, y1004.2.1, y1004.2.2.1, ()), (y1005.1, y1005.2.1, y1005.2.2.1, ()), y1400, y1401, ()))

noncomputable def EL356_356_3 (E42 : ((Unit × (Rx) × Unit) × ((Unit × Unit × Unit) × (List (List (Int))) × (List (List ((Int) × (Bool)))) × Unit)) → Option (((Bool) × ((List (Int)) × ((List (Int)) × (Unit)))) × ((Unit × Unit × Unit) × (List (List (Int))) × (List (List ((Int) × (Bool)))) × Unit))) : LoopEnt := ⟨[56, 56], 3, ⟨[.keep [0, 4, 5, 10, 11, 12] [0, 1, 2, 1004, 1005, 1402, 1403], .adoptCell 0 0 (.arr 4 (.int .u64)) 1400, .adoptM 0 1 1401], [0, 4, 5, 10, 11, 12], [0, 1004, 1005, 1400, 1401]⟩, [.ptr 0 0, .ptr 1004 0, .ptr 1005 0, .kd (.slice .rx), .kd (.int .i64), .kd (.int .i64)], [.box [.ref 1400, .ref 1401], .box [.kd .bool, .kd (.slice (.int .i64)), .kd (.slice (.int .i64))], .box [.kd .bool, .kd (.slice (.int .i64)), .kd (.slice (.int .i64))], .row (.arr 4 (.int .u64)), .mrow (.int .i64) .bool], [⟨(.exit 0), [4, 5], [.ptr 1004 0, .ptr 1005 0], [0, 1004, 1005, 1400, 1401], [.box [.ref 1400, .ref 1401], .box [.kd .bool, .kd (.slice (.int .i64)), .kd (.slice (.int .i64))], .box [.kd .bool, .kd (.slice (.int .i64)), .kd (.slice (.int .i64))], .row (.arr 4 (.int .u64)), .mrow (.int .i64) .bool]⟩], limit (L356_356_3 E42)⟩

noncomputable def O356 (E42 : ((Unit × (Rx) × Unit) × ((Unit × Unit × Unit) × (List (List (Int))) × (List (List ((Int) × (Bool)))) × Unit)) → Option (((Bool) × ((List (Int)) × ((List (Int)) × (Unit)))) × ((Unit × Unit × Unit) × (List (List (Int))) × (List (List ((Int) × (Bool)))) × Unit))) : Orc := mkOrc [(63, fnOf [(.slice (.slice (.int .i64)))] (.one (.slice (.int .i64))) p363)] [(EL356_356_3 E42)] [] [([56, 56], [.adoptCell 0 0 (.arr 4 (.int .u64)) 3, .adoptM 0 1 4])] [] [(42, procOf [.ptr 0 0, .kd .rx] [.box [.ref 1, .ref 2], .row (.arr 4 (.int .u64)), .mrow (.int .i64) .bool] (.one (.pair .bool (.pair (.slice (.int .i64)) (.pair (.slice (.int .i64)) .unit)))) [.box [.ref 3, .ref 4], .row (.arr 4 (.int .u64)), .mrow (.int .i64) .bool] E42)]

theorem cL356_356_3 (E42 : ((Unit × (Rx) × Unit) × ((Unit × Unit × Unit) × (List (List (Int))) × (List (List ((Int) × (Bool)))) × Unit)) → Option (((Bool) × ((List (Int)) × ((List (Int)) × (Unit)))) × ((Unit × Unit × Unit) × (List (List (Int))) × (List (List ((Int) × (Bool)))) × Unit))) : LoopCert Try.prog (O356 E42) Γ356 2 (EL356_356_3 E42) :=
  ⟨⟨56, 0, (L356_356_3 E42), rfl, by kernel_rfl, Nat.le_of_ble_eq_true (by kernel_rfl), limit_fn, fun _ => rfl, fun m old x r h => by
    obtain ⟨⟨x0, x4, x5, x10, x11, x12, ⟨⟩⟩, y0, y1004, y1005, y1400, y1401, ⟨⟩⟩ := x
    refine Eq.trans ?_ h
    kernel_rfl⟩⟩

/-- (*emendate/nfa.builder).union -/
noncomputable def p356 (E42 : ((Unit × (Rx) × Unit) × ((Unit × Unit × Unit) × (List (List (Int))) × (List (List ((Int) × (Bool)))) × Unit)) → Option (((Bool) × ((List (Int)) × ((List (Int)) × (Unit)))) × ((Unit × Unit × Unit) × (List (List (Int))) × (List (List ((Int) × (Bool)))) × Unit))) : ((Unit × (Rx) × Unit) × ((Unit × Unit × Unit) × (List (List (Int))) × (List (List ((Int) × (Bool)))) × Unit)) → Option (((Bool) × ((List (Int)) × ((List (Int)) × (Unit)))) × ((Unit × Unit × Unit) × (List (List (Int))) × (List (List ((Int) × (Bool)))) × Unit))
  | ((_, x1, ()), (_, y1, y2, ())) =>
    (limit (L356_356_3 E42) (((), (), (), x1.kids, (x1.kids.length : Int), (0 : Int), ()), (((), (), ()), (false, ([] : List (Int)), ([] : List (Int)), ()), (false, ([] : List (Int)), ([] : List (Int)), ()), y1, y2, ()))).bind fun r1 =>
    some ((r1.2.2.2.1.1, (r1.2.2.2.1.2.1, (r1.2.2.2.1.2.2.1, ()))), (((), (), ()), r1.2.2.2.2.1, r1.2.2.2.2.2.1, ()))

theorem s356 (E42 : ((Unit × (Rx) × Unit) × ((Unit × Unit × Unit) × (List (List (Int))) × (List (List ((Int) × (Bool)))) × Unit)) → Option (((Bool) × ((List (Int)) × ((List (Int)) × (Unit)))) × ((Unit × Unit × Unit) × (List (List (Int))) × (List (List ((Int) × (Bool)))) × Unit))) (hE42 : SoundProc Try.prog 42 [0, 1, 2] [0, 3, 4] (procPv (procOf [.ptr 0 0, .kd .rx] [.box [.ref 1, .ref 2], .row (.arr 4 (.int .u64)), .mrow (.int .i64) .bool] (.one (.pair .bool (.pair (.slice (.int .i64)) (.pair (.slice (.int .i64)) .unit)))) [.box [.ref 3, .ref 4], .row (.arr 4 (.int .u64)), .mrow (.int .i64) .bool] E42))) : SoundProc Try.prog 56 [0, 1, 2] [0, 3, 4] (procPv (procOf [.ptr 0 0, .kd .rx] [.box [.ref 1, .ref 2], .row (.arr 4 (.int .u64)), .mrow (.int .i64) .bool] (.one (.pair .bool (.pair (.slice (.int .i64)) (.pair (.slice (.int .i64)) .unit)))) [.box [.ref 3, .ref 4], .row (.arr 4 (.int .u64)), .mrow (.int .i64) .bool] (p356 E42))) :=
  proc_pure hm0 hng0 hΓ356 (t := [(63, fnOf [(.slice (.slice (.int .i64)))] (.one (.slice (.int .i64))) p363)]) (all_cons s363 all_nil) (ls := [(EL356_356_3 E42)]) (cmds := []) (leaves := [([56, 56], [.adoptCell 0 0 (.arr 4 (.int .u64)) 3, .adoptM 0 1 4])]) (fr := []) (pt := [(42, procOf [.ptr 0 0, .kd .rx] [.box [.ref 1, .ref 2], .row (.arr 4 (.int .u64)), .mrow (.int .i64) .bool] (.one (.pair .bool (.pair (.slice (.int .i64)) (.pair (.slice (.int .i64)) .unit)))) [.box [.ref 3, .ref 4], .row (.arr 4 (.int .u64)), .mrow (.int .i64) .bool] E42)]) (D := 2) (all_cons (cL356_356_3 E42) all_nil) (by kernel_rfl) (by kernel_rfl) (by kernel_rfl) (by kernel_rfl) (hfr := all_nil) (hX := Special.procs (all_cons hE42 all_nil) (fun _ _ h => by cases h) (fun _ _ h => by obtain ⟨⟨_, h⟩, _⟩ := h; cases h)) fun x r h => by
    obtain ⟨⟨x0, x1, ⟨⟩⟩, y0, y1, y2, ⟨⟩⟩ := x
    refine Eq.trans ?_ h
    kernel_rfl

def Γ357 : TEnv := { Γ0 with procs := [((1011, 42), ([(0, 0), (1, 1), (2, 2)], [(0, 0), (1402, 3), (1403, 4)])), ((1017, 43), ([(0, 0), (1402, 1), (1403, 2)], [(0, 0), (1402, 1), (1403, 2)]))] }
theorem hΓ357 : Γ357.ok Try.prog = true := hΓ0

noncomputable def O357 (E42 : ((Unit × (Rx) × Unit) × ((Unit × Unit × Unit) × (List (List (Int))) × (List (List ((Int) × (Bool)))) × Unit)) → Option (((Bool) × ((List (Int)) × ((List (Int)) × (Unit)))) × ((Unit × Unit × Unit) × (List (List (Int))) × (List (List ((Int) × (Bool)))) × Unit))) : Orc := mkOrc [] [] [] [([57, 57], [.adoptCell 0 0 (.arr 4 (.int .u64)) 3, .adoptM 0 1 4])] [] [(42, procOf [.ptr 0 0, .kd .rx] [.box [.ref 1, .ref 2], .row (.arr 4 (.int .u64)), .mrow (.int .i64) .bool] (.one (.pair .bool (.pair (.slice (.int .i64)) (.pair (.slice (.int .i64)) .unit)))) [.box [.ref 3, .ref 4], .row (.arr 4 (.int .u64)), .mrow (.int .i64) .bool] E42), (43, procOf [.ptr 0 0, .kd (.slice (.int .i64)), .kd (.slice (.int .i64))] [.box [.ref 1, .ref 2], .row (.arr 4 (.int .u64)), .mrow (.int .i64) .bool] (.tup []) [.box [.ref 1, .ref 2], .row (.arr 4 (.int .u64)), .mrow (.int .i64) .bool] p343)]

/-- (*emendate/nfa.builder).star -/
noncomputable def p357 (E42 : ((Unit × (Rx) × Unit) × ((Unit × Unit × Unit) × (List (List (Int))) × (List (List ((Int) × (Bool)))) × Unit)) → Option (((Bool) × ((List (Int)) × ((List (Int)) × (Unit)))) × ((Unit × Unit × Unit) × (List (List (Int))) × (List (List ((Int) × (Bool)))) × Unit))) : ((Unit × (Rx) × Unit) × ((Unit × Unit × Unit) × (List (List (Int))) × (List (List ((Int) × (Bool)))) × Unit)) → Option (((Bool) × ((List (Int)) × ((List (Int)) × (Unit)))) × ((Unit × Unit × Unit) × (List (List (Int))) × (List (List ((Int) × (Bool)))) × Unit))
  | ((_, x1, ()), (_, y1, y2, ())) =>
    if decide (0 ≤ (0 : Int) ∧ (0 : Int) < (x1.kids.length : Int)) = true then
      (E42 (((), (Rx.mk (x1.kids.getD (0 : Int).toNat (Rx.mk 0 [0, 0, 0, 0] [])).kind [((x1.kids.getD (0 : Int).toNat (Rx.mk 0 [0, 0, 0, 0] [])).set.getD 0 0), ((x1.kids.getD (0 : Int).toNat (Rx.mk 0 [0, 0, 0, 0] [])).set.getD 1 0), ((x1.kids.getD (0 : Int).toNat (Rx.mk 0 [0, 0, 0, 0] [])).set.getD 2 0), ((x1.kids.getD (0 : Int).toNat (Rx.mk 0 [0, 0, 0, 0] [])).set.getD 3 0)] (x1.kids.getD (0 : Int).toNat (Rx.mk 0 [0, 0, 0, 0] [])).kids), ()), (((), (), ()), y1, y2, ()))).bind fun c1 =>
      (p343 (((), c1.1.2.2.1, c1.1.2.1, ()), (((), (), ()), c1.2.2.1, c1.2.2.2.1, ()))).bind fun c2 =>
      some ((true, (c1.1.2.1, (c1.1.2.2.1, ()))), (((), (), ()), c2.2.2.1, c2.2.2.2.1, ()))
    else
      none

theorem s357 (E42 : ((Unit × (Rx) × Unit) × ((Unit × Unit × Unit) × (List (List (Int))) × (List (List ((Int) × (Bool)))) × Unit)) → Option (((Bool) × ((List (Int)) × ((List (Int)) × (Unit)))) × ((Unit × Unit × Unit) × (List (List (Int))) × (List (List ((Int) × (Bool)))) × Unit))) (hE42 : SoundProc Try.prog 42 [0, 1, 2] [0, 3, 4] (procPv (procOf [.ptr 0 0, .kd .rx] [.box [.ref 1, .ref 2], .row (.arr 4 (.int .u64)), .mrow (.int .i64) .bool] (.one (.pair .bool (.pair (.slice (.int .i64)) (.pair (.slice (.int .i64)) .unit)))) [.box [.ref 3, .ref 4], .row (.arr 4 (.int .u64)), .mrow (.int .i64) .bool] E42))) : SoundProc Try.prog 57 [0, 1, 2] [0, 3, 4] (procPv (procOf [.ptr 0 0, .kd .rx] [.box [.ref 1, .ref 2], .row (.arr 4 (.int .u64)), .mrow (.int .i64) .bool] (.one (.pair .bool (.pair (.slice (.int .i64)) (.pair (.slice (.int .i64)) .unit)))) [.box [.ref 3, .ref 4], .row (.arr 4 (.int .u64)), .mrow (.int .i64) .bool] (p357 E42))) :=
  proc_pure hm0 hng0 hΓ357 (t := []) all_nil (ls := []) (cmds := []) (leaves := [([57, 57], [.adoptCell 0 0 (.arr 4 (.int .u64)) 3, .adoptM 0 1 4])]) (fr := []) (pt := [(42, procOf [.ptr 0 0, .kd .rx] [.box [.ref 1, .ref 2], .row (.arr 4 (.int .u64)), .mrow (.int .i64) .bool] (.one (.pair .bool (.pair (.slice (.int .i64)) (.pair (.slice (.int .i64)) .unit)))) [.box [.ref 3, .ref 4], .row (.arr 4 (.int .u64)), .mrow (.int .i64) .bool] E42), (43, procOf [.ptr 0 0, .kd (.slice (.int .i64)), .kd (.slice (.int .i64))] [.box [.ref 1, .ref 2], .row (.arr 4 (.int .u64)), .mrow (.int .i64) .bool] (.tup []) [.box [.ref 1, .ref 2], .row (.arr 4 (.int .u64)), .mrow (.int .i64) .bool] p343)]) (D := 2) all_nil (by kernel_rfl) (by kernel_rfl) (by kernel_rfl) (by kernel_rfl) (hfr := all_nil) (hX := Special.procs (all_cons hE42 (all_cons s343 all_nil)) (fun _ _ h => by cases h) (fun _ _ h => by obtain ⟨⟨_, h⟩, _⟩ := h; cases h)) fun x r h => by
    obtain ⟨⟨x0, x1, ⟨⟩⟩, y0, y1, y2, ⟨⟩⟩ := x
    refine Eq.trans ?_ h
    kernel_rfl

def Γ342 : TEnv := { Γ0 with procs := [((1014, 52), ([(0, 0), (1, 1), (2, 2)], [(0, 0), (3, 3), (4, 4)])), ((1014, 53), ([(0, 0), (1, 1), (2, 2)], [(0, 0), (3, 3), (4, 4)])), ((1014, 54), ([(0, 0), (1, 1), (2, 2)], [(0, 0), (3, 3), (4, 4)])), ((1014, 55), ([(0, 0), (1, 1), (2, 2)], [(0, 0), (3, 3), (4, 4)])), ((1014, 56), ([(0, 0), (1, 1), (2, 2)], [(0, 0), (3, 3), (4, 4)])), ((1014, 57), ([(0, 0), (1, 1), (2, 2)], [(0, 0), (3, 3), (4, 4)]))] }
theorem hΓ342 : Γ342.ok Try.prog = true := hΓ0

noncomputable def O342 (E42 : ((Unit × (Rx) × Unit) × ((Unit × Unit × Unit) × (List (List (Int))) × (List (List ((Int) × (Bool)))) × Unit)) → Option (((Bool) × ((List (Int)) × ((List (Int)) × (Unit)))) × ((Unit × Unit × Unit) × (List (List (Int))) × (List (List ((Int) × (Bool)))) × Unit))) : Orc := mkOrc [] [] [] [([42, 42], [])] [] [(52, procOf [.ptr 0 0, .kd .rx] [.box [.ref 1, .ref 2], .row (.arr 4 (.int .u64)), .mrow (.int .i64) .bool] (.one (.pair .bool (.pair (.slice (.int .i64)) (.pair (.slice (.int .i64)) .unit)))) [.box [.ref 3, .ref 4], .row (.arr 4 (.int .u64)), .mrow (.int .i64) .bool] p352), (53, procOf [.ptr 0 0, .kd .rx] [.box [.ref 1, .ref 2], .row (.arr 4 (.int .u64)), .mrow (.int .i64) .bool] (.one (.pair .bool (.pair (.slice (.int .i64)) (.pair (.slice (.int .i64)) .unit)))) [.box [.ref 3, .ref 4], .row (.arr 4 (.int .u64)), .mrow (.int .i64) .bool] p353), (54, procOf [.ptr 0 0, .kd .rx] [.box [.ref 1, .ref 2], .row (.arr 4 (.int .u64)), .mrow (.int .i64) .bool] (.one (.pair .bool (.pair (.slice (.int .i64)) (.pair (.slice (.int .i64)) .unit)))) [.box [.ref 3, .ref 4], .row (.arr 4 (.int .u64)), .mrow (.int .i64) .bool] p354), (55, procOf [.ptr 0 0, .kd .rx] [.box [.ref 1, .ref 2], .row (.arr 4 (.int .u64)), .mrow (.int .i64) .bool] (.one (.pair .bool (.pair (.slice (.int .i64)) (.pair (.slice (.int .i64)) .unit)))) [.box [.ref 3, .ref 4], .row (.arr 4 (.int .u64)), .mrow (.int .i64) .bool] (p355 E42)), (56, procOf [.ptr 0 0, .kd .rx] [.box [.ref 1, .ref 2], .row (.arr 4 (.int .u64)), .mrow (.int .i64) .bool] (.one (.pair .bool (.pair (.slice (.int .i64)) (.pair (.slice (.int .i64)) .unit)))) [.box [.ref 3, .ref 4], .row (.arr 4 (.int .u64)), .mrow (.int .i64) .bool] (p356 E42)), (57, procOf [.ptr 0 0, .kd .rx] [.box [.ref 1, .ref 2], .row (.arr 4 (.int .u64)), .mrow (.int .i64) .bool] (.one (.pair .bool (.pair (.slice (.int .i64)) (.pair (.slice (.int .i64)) .unit)))) [.box [.ref 3, .ref 4], .row (.arr 4 (.int .u64)), .mrow (.int .i64) .bool] (p357 E42))]

/-- (*emendate/nfa.builder).expr -/
noncomputable def p342b (E42 : ((Unit × (Rx) × Unit) × ((Unit × Unit × Unit) × (List (List (Int))) × (List (List ((Int) × (Bool)))) × Unit)) → Option (((Bool) × ((List (Int)) × ((List (Int)) × (Unit)))) × ((Unit × Unit × Unit) × (List (List (Int))) × (List (List ((Int) × (Bool)))) × Unit))) : ((Unit × (Rx) × Unit) × ((Unit × Unit × Unit) × (List (List (Int))) × (List (List ((Int) × (Bool)))) × Unit)) → Option (((Bool) × ((List (Int)) × ((List (Int)) × (Unit)))) × ((Unit × Unit × Unit) × (List (List (Int))) × (List (List ((Int) × (Bool)))) × Unit))
  | ((_, x1, ()), (_, y1, y2, ())) =>
    if (decide (x1.kind = (1 : Int))) = true then
      (p352 (((), (Rx.mk x1.kind [(x1.set.getD 0 0), (x1.set.getD 1 0), (x1.set.getD 2 0), (x1.set.getD 3 0)] x1.kids), ()), (((), (), ()), y1, y2, ()))).bind fun c1 =>
      some ((c1.1.1, (c1.1.2.1, (c1.1.2.2.1, ()))), (((), (), ()), c1.2.2.1, c1.2.2.2.1, ()))
    else
      if (decide (x1.kind = (2 : Int))) = true then
        (p353 (((), (Rx.mk x1.kind [(x1.set.getD 0 0), (x1.set.getD 1 0), (x1.set.getD 2 0), (x1.set.getD 3 0)] x1.kids), ()), (((), (), ()), y1, y2, ()))).bind fun c2 =>
        some ((c2.1.1, (c2.1.2.1, (c2.1.2.2.1, ()))), (((), (), ()), c2.2.2.1, c2.2.2.2.1, ()))
      else
        if (decide (x1.kind = (3 : Int))) = true then
          (p354 (((), (Rx.mk x1.kind [(x1.set.getD 0 0), (x1.set.getD 1 0), (x1.set.getD 2 0), (x1.set.getD 3 0)] x1.kids), ()), (((), (), ()), y1, y2, ()))).bind fun c3 =>
          some ((c3.1.1, (c3.1.2.1, (c3.1.2.2.1, ()))), (((), (), ()), c3.2.2.1, c3.2.2.2.1, ()))
        else
          if (decide (x1.kind = (4 : Int))) = true then
            ((p355 E42) (((), (Rx.mk x1.kind [(x1.set.getD 0 0), (x1.set.getD 1 0), (x1.set.getD 2 0), (x1.set.getD 3 0)] x1.kids), ()), (((), (), ()), y1, y2, ()))).bind fun c4 =>
            some ((c4.1.1, (c4.1.2.1, (c4.1.2.2.1, ()))), (((), (), ()), c4.2.2.1, c4.2.2.2.1, ()))
          else
            if (decide (x1.kind = (5 : Int))) = true then
              ((p356 E42) (((), (Rx.mk x1.kind [(x1.set.getD 0 0), (x1.set.getD 1 0), (x1.set.getD 2 0), (x1.set.getD 3 0)] x1.kids), ()), (((), (), ()), y1, y2, ()))).bind fun c5 =>
              some ((c5.1.1, (c5.1.2.1, (c5.1.2.2.1, ()))), (((), (), ()), c5.2.2.1, c5.2.2.2.1, ()))
            else
              if (decide (x1.kind = (6 : Int))) = true then
                ((p357 E42) (((), (Rx.mk x1.kind [(x1.set.getD 0 0), (x1.set.getD 1 0), (x1.set.getD 2 0), (x1.set.getD 3 0)] x1.kids), ()), (((), (), ()), y1, y2, ()))).bind fun c6 =>
                some ((c6.1.1, (c6.1.2.1, (c6.1.2.2.1, ()))), (((), (), ()), c6.2.2.1, c6.2.2.2.1, ()))
              else
                none

theorem s342b (E42 : ((Unit × (Rx) × Unit) × ((Unit × Unit × Unit) × (List (List (Int))) × (List (List ((Int) × (Bool)))) × Unit)) → Option (((Bool) × ((List (Int)) × ((List (Int)) × (Unit)))) × ((Unit × Unit × Unit) × (List (List (Int))) × (List (List ((Int) × (Bool)))) × Unit))) (hE42 : SoundProc Try.prog 42 [0, 1, 2] [0, 3, 4] (procPv (procOf [.ptr 0 0, .kd .rx] [.box [.ref 1, .ref 2], .row (.arr 4 (.int .u64)), .mrow (.int .i64) .bool] (.one (.pair .bool (.pair (.slice (.int .i64)) (.pair (.slice (.int .i64)) .unit)))) [.box [.ref 3, .ref 4], .row (.arr 4 (.int .u64)), .mrow (.int .i64) .bool] E42))) : SoundProc Try.prog 42 [0, 1, 2] [0, 3, 4] (procPv (procOf [.ptr 0 0, .kd .rx] [.box [.ref 1, .ref 2], .row (.arr 4 (.int .u64)), .mrow (.int .i64) .bool] (.one (.pair .bool (.pair (.slice (.int .i64)) (.pair (.slice (.int .i64)) .unit)))) [.box [.ref 3, .ref 4], .row (.arr 4 (.int .u64)), .mrow (.int .i64) .bool] (p342b E42))) :=
  proc_pure hm0 hng0 hΓ342 (t := []) all_nil (ls := []) (cmds := []) (leaves := [([42, 42], [])]) (fr := []) (pt := [(52, procOf [.ptr 0 0, .kd .rx] [.box [.ref 1, .ref 2], .row (.arr 4 (.int .u64)), .mrow (.int .i64) .bool] (.one (.pair .bool (.pair (.slice (.int .i64)) (.pair (.slice (.int .i64)) .unit)))) [.box [.ref 3, .ref 4], .row (.arr 4 (.int .u64)), .mrow (.int .i64) .bool] p352), (53, procOf [.ptr 0 0, .kd .rx] [.box [.ref 1, .ref 2], .row (.arr 4 (.int .u64)), .mrow (.int .i64) .bool] (.one (.pair .bool (.pair (.slice (.int .i64)) (.pair (.slice (.int .i64)) .unit)))) [.box [.ref 3, .ref 4], .row (.arr 4 (.int .u64)), .mrow (.int .i64) .bool] p353), (54, procOf [.ptr 0 0, .kd .rx] [.box [.ref 1, .ref 2], .row (.arr 4 (.int .u64)), .mrow (.int .i64) .bool] (.one (.pair .bool (.pair (.slice (.int .i64)) (.pair (.slice (.int .i64)) .unit)))) [.box [.ref 3, .ref 4], .row (.arr 4 (.int .u64)), .mrow (.int .i64) .bool] p354), (55, procOf [.ptr 0 0, .kd .rx] [.box [.ref 1, .ref 2], .row (.arr 4 (.int .u64)), .mrow (.int .i64) .bool] (.one (.pair .bool (.pair (.slice (.int .i64)) (.pair (.slice (.int .i64)) .unit)))) [.box [.ref 3, .ref 4], .row (.arr 4 (.int .u64)), .mrow (.int .i64) .bool] (p355 E42)), (56, procOf [.ptr 0 0, .kd .rx] [.box [.ref 1, .ref 2], .row (.arr 4 (.int .u64)), .mrow (.int .i64) .bool] (.one (.pair .bool (.pair (.slice (.int .i64)) (.pair (.slice (.int .i64)) .unit)))) [.box [.ref 3, .ref 4], .row (.arr 4 (.int .u64)), .mrow (.int .i64) .bool] (p356 E42)), (57, procOf [.ptr 0 0, .kd .rx] [.box [.ref 1, .ref 2], .row (.arr 4 (.int .u64)), .mrow (.int .i64) .bool] (.one (.pair .bool (.pair (.slice (.int .i64)) (.pair (.slice (.int .i64)) .unit)))) [.box [.ref 3, .ref 4], .row (.arr 4 (.int .u64)), .mrow (.int .i64) .bool] (p357 E42))]) (D := 2) all_nil (by kernel_rfl) (by kernel_rfl) (by kernel_rfl) (by kernel_rfl) (hfr := all_nil) (hX := Special.procs (all_cons s352 (all_cons s353 (all_cons s354 (all_cons (s355 E42 hE42) (all_cons (s356 E42 hE42) (all_cons (s357 E42 hE42) all_nil)))))) (fun _ _ h => by cases h) (fun _ _ h => by obtain ⟨⟨_, h⟩, _⟩ := h; cases h)) fun x r h => by
    obtain ⟨⟨x0, x1, ⟨⟩⟩, y0, y1, y2, ⟨⟩⟩ := x
    refine Eq.trans ?_ h
    kernel_rfl

noncomputable def p342n : Nat → ((Unit × (Rx) × Unit) × ((Unit × Unit × Unit) × (List (List (Int))) × (List (List ((Int) × (Bool)))) × Unit)) → Option (((Bool) × ((List (Int)) × ((List (Int)) × (Unit)))) × ((Unit × Unit × Unit) × (List (List (Int))) × (List (List ((Int) × (Bool)))) × Unit))
  | 0, _ => none
  | n + 1, x => p342b (p342n n) x

theorem s342n : ∀ n, SoundProc Try.prog 42 [0, 1, 2] [0, 3, 4] (procPv (procOf [.ptr 0 0, .kd .rx] [.box [.ref 1, .ref 2], .row (.arr 4 (.int .u64)), .mrow (.int .i64) .bool] (.one (.pair .bool (.pair (.slice (.int .i64)) (.pair (.slice (.int .i64)) .unit)))) [.box [.ref 3, .ref 4], .row (.arr 4 (.int .u64)), .mrow (.int .i64) .bool] (p342n n))) :=
  proc_rec hng0 (by kernel_rfl) (fun _ => rfl) fun n h => s342b (p342n n) h

noncomputable def p342 : ((Unit × (Rx) × Unit) × ((Unit × Unit × Unit) × (List (List (Int))) × (List (List ((Int) × (Bool)))) × Unit)) → Option (((Bool) × ((List (Int)) × ((List (Int)) × (Unit)))) × ((Unit × Unit × Unit) × (List (List (Int))) × (List (List ((Int) × (Bool)))) × Unit)) := limit p342n

theorem s342 : SoundProc Try.prog 42 [0, 1, 2] [0, 3, 4] (procPv (procOf [.ptr 0 0, .kd .rx] [.box [.ref 1, .ref 2], .row (.arr 4 (.int .u64)), .mrow (.int .i64) .bool] (.one (.pair .bool (.pair (.slice (.int .i64)) (.pair (.slice (.int .i64)) .unit)))) [.box [.ref 3, .ref 4], .row (.arr 4 (.int .u64)), .mrow (.int .i64) .bool] p342)) := s342n fuel

def Γ324 : TEnv := { Γ0 with imm := [53, 66, 127], procs := [((51, 42), ([(40, 0), (440, 1), (441, 2)], [(40, 0), (442, 3), (443, 4)])), ((56, 43), ([(40, 0), (442, 1), (443, 2)], [(40, 0), (442, 1), (443, 2)]))], keysOf := some (45, 60), sorted := some 44 }
theorem hΓ324 : Γ324.ok Try.prog = true := hΓ0

noncomputable def L324_3 : Nat → (((List (Rx)) × Unit × (Int) × (List (Rx)) × (Int) × (Int) × Unit) × (((Int) × (Int) × (List ((Int) × ((Int) × ((Bool) × ((List (Int)) × (Unit)))))) × (List (Int)) × Unit) × Unit)) → Option (((Unit × (Int) × Unit) × (((Int) × (Int) × (List ((Int) × ((Int) × ((Bool) × ((List (Int)) × (Unit)))))) × (List (Int)) × Unit) × Unit)) ⊕ (((List (Rx)) × Unit × (Int) × Unit) × (((Int) × (Int) × (List ((Int) × ((Int) × ((Bool) × ((List (Int)) × (Unit)))))) × (List (Int)) × Unit) × Unit)))
  | 0, _ => none
  | n + 1, ((x0, _, x4, x19, x20, x21, ()), (y2, ())) =>
    if (decide (x21 < x20)) = true then
      if decide (0 ≤ x21 ∧ x21 < (x19.length : Int)) = true then
        (p340 ((Rx.mk (x19.getD x21.toNat (Rx.mk 0 [0, 0, 0, 0] [])).kind [((x19.getD x21.toNat (Rx.mk 0 [0, 0, 0, 0] [])).set.getD 0 0), ((x19.getD x21.toNat (Rx.mk 0 [0, 0, 0, 0] [])).set.getD 1 0), ((x19.getD x21.toNat (Rx.mk 0 [0, 0, 0, 0] [])).set.getD 2 0), ((x19.getD x21.toNat (Rx.mk 0 [0, 0, 0, 0] [])).set.getD 3 0)] (x19.getD x21.toNat (Rx.mk 0 [0, 0, 0, 0] [])).kids), ())).bind fun c1 =>
        if (!c1) = true then
          some (.inl (((), (1 : Int), ()), (((0 : Int), (0 : Int), ([] : List ((Int) × ((Int) × ((Bool) × ((List (Int)) × (Unit)))))), ([] : List (Int)), ()), ())))
        else
          (p341 ((Rx.mk (x19.getD x21.toNat (Rx.mk 0 [0, 0, 0, 0] [])).kind [((x19.getD x21.toNat (Rx.mk 0 [0, 0, 0, 0] [])).set.getD 0 0), ((x19.getD x21.toNat (Rx.mk 0 [0, 0, 0, 0] [])).set.getD 1 0), ((x19.getD x21.toNat (Rx.mk 0 [0, 0, 0, 0] [])).set.getD 2 0), ((x19.getD x21.toNat (Rx.mk 0 [0, 0, 0, 0] [])).set.getD 3 0)] (x19.getD x21.toNat (Rx.mk 0 [0, 0, 0, 0] [])).kids), ())).bind fun c2 =>
          L324_3 n ((x0, (), (IntKind.i64.wrap (x4 + c2)), x19, x20, (IntKind.i64.wrap (x21 + (1 : Int))), ()), ((y2.1, y2.2.1, y2.2.2.1, y2.2.2.2.1, ()), ()))
      else
        none
    else
      some (.inr ((x0, (), x4, ()), ((y2.1, y2.2.1, y2.2.2.1, y2.2.2.2.1, ()), ())))

noncomputable def EL324_3 : LoopEnt := ⟨[24], 3, ⟨[], [0, 2, 4, 19, 20, 21], [2]⟩, [.kd (.slice .rx), .ptr 2 0, .kd (.int .i64), .kd (.slice .rx), .kd (.int .i64), .kd (.int .i64)], [.box [.kd (.int .i64), .kd (.int .i64), .kd (.slice (.pair (.int .i64) (.pair (.int .i64) (.pair .bool (.pair (.arr 4 (.int .u64)) .unit))))), .kd (.slice (.int .i64))]], [⟨.ret, [2, 3], [.ptr 2 0, .kd (.int .i64)], [2], [.box [.kd (.int .i64), .kd (.int .i64), .kd (.slice (.pair (.int .i64) (.pair (.int .i64) (.pair .bool (.pair (.arr 4 (.int .u64)) .unit))))), .kd (.slice (.int .i64))]]⟩, ⟨(.exit 0), [0, 2, 4], [.kd (.slice .rx), .ptr 2 0, .kd (.int .i64)], [2], [.box [.kd (.int .i64), .kd (.int .i64), .kd (.slice (.pair (.int .i64) (.pair (.int .i64) (.pair .bool (.pair (.arr 4 (.int .u64)) .unit))))), .kd (.slice (.int .i64))]]⟩], limit L324_3⟩

noncomputable def L324_18 : Nat → ((Unit × Unit × Unit × (Int) × Unit × (List (Rx)) × (Int) × (Int) × Unit) × (((Int) × (Int) × (List ((Int) × ((Int) × ((Bool) × ((List (Int)) × (Unit)))))) × (List (Int)) × Unit) × (List (Int)) × ((Bool) × (List (Int)) × (List (Int)) × Unit) × (Unit × Unit × Unit) × (List (List (Int))) × (List (List ((Int) × (Bool)))) × Unit)) → Option ((Unit × Unit × Unit × (Int) × Unit × (List (Rx)) × (Int) × (Int) × Unit) × (((Int) × (Int) × (List ((Int) × ((Int) × ((Bool) × ((List (Int)) × (Unit)))))) × (List (Int)) × Unit) × (List (Int)) × ((Bool) × (List (Int)) × (List (Int)) × Unit) × (Unit × Unit × Unit) × (List (List (Int))) × (List (List ((Int) × (Bool)))) × Unit))
  | 0, _ => none
  | n + 1, ((_, _, _, x9, _, x42, x43, x44, ()), (y2, y8, y11, _, y442, y443, ())) =>
    if (decide ((y8.length : Int) ≤ (y442.length : Int))) = true then
      if decide (y8.length + ([(-1 : Int)] : List (Int)).length ≤ lim) = true then
        L324_18 n (((), (), (), x9, (), x42, x43, x44, ()), ((y2.1, y2.2.1, y2.2.2.1, y2.2.2.2.1, ()), (y8 ++ ([(-1 : Int)] : List (Int))), (y11.1, y11.2.1, y11.2.2.1, ()), ((), (), ()), y442, y443, ()))
      else
        none
    else
      some (((), (), (), x9, (), x42, x43, x44, ()), ((y2.1, y2.2.1, y2.2.2.1, y2.2.2.2.1, ()), y8, (y11.1, y11.2.1, y11.2.2.1, ()), ((), (), ()), y442, y443, ()))

noncomputable def EL324_18 : LoopEnt := ⟨[24], 18, ⟨[.keep [2, 7, 8, 9, 11, 42, 43, 44] [2, 8, 11, 40, 67, 442, 443], .adopt 8 (.int .i64) 8], [2, 7, 8, 9, 11, 42, 43, 44], [2, 8, 11, 40, 442, 443]⟩, [.ptr 2 0, .ptr 40 0, .ref 8, .kd (.int .i64), .ptr 11 0, .kd (.slice .rx), .kd (.int .i64), .kd (.int .i64)], [.box [.kd (.int .i64), .kd (.int .i64), .kd (.slice (.pair (.int .i64) (.pair (.int .i64) (.pair .bool (.pair (.arr 4 (.int .u64)) .unit))))), .kd (.slice (.int .i64))], .row (.int .i64), .box [.kd .bool, .kd (.slice (.int .i64)), .kd (.slice (.int .i64))], .box [.ref 442, .ref 443], .row (.arr 4 (.int .u64)), .mrow (.int .i64) .bool], [⟨(.exit 4), [2, 7, 8, 9, 11, 42, 43, 44], [.ptr 2 0, .ptr 40 0, .ref 8, .kd (.int .i64), .ptr 11 0, .kd (.slice .rx), .kd (.int .i64), .kd (.int .i64)], [2, 8, 11, 40, 442, 443], [.box [.kd (.int .i64), .kd (.int .i64), .kd (.slice (.pair (.int .i64) (.pair (.int .i64) (.pair .bool (.pair (.arr 4 (.int .u64)) .unit))))), .kd (.slice (.int .i64))], .row (.int .i64), .box [.kd .bool, .kd (.slice (.int .i64)), .kd (.slice (.int .i64))], .box [.ref 442, .ref 443], .row (.arr 4 (.int .u64)), .mrow (.int .i64) .bool]⟩], limit L324_18⟩

noncomputable def L324_21 : Nat → ((Unit × Unit × Unit × (Int) × Unit × (List (Rx)) × (Int) × (Int) × (List (Int)) × (Int) × (Int) × Unit) × (((Int) × (Int) × (List ((Int) × ((Int) × ((Bool) × ((List (Int)) × (Unit)))))) × (List (Int)) × Unit) × (List (Int)) × ((Bool) × (List (Int)) × (List (Int)) × Unit) × (Unit × Unit × Unit) × (List (List (Int))) × (List (List ((Int) × (Bool)))) × Unit)) → Option ((Unit × Unit × Unit × (Int) × Unit × (List (Rx)) × (Int) × (Int) × Unit) × (((Int) × (Int) × (List ((Int) × ((Int) × ((Bool) × ((List (Int)) × (Unit)))))) × (List (Int)) × Unit) × (List (Int)) × ((Bool) × (List (Int)) × (List (Int)) × Unit) × (Unit × Unit × Unit) × (List (List (Int))) × (List (List ((Int) × (Bool)))) × Unit))
  | 0, _ => none
  | n + 1, ((_, _, _, x9, _, x42, x43, x44, x69, x70, x71, ()), (y2, y8, y11, _, y442, y443, ())) =>
    if (decide (x71 < x70)) = true then
      if decide (0 ≤ x71 ∧ x71 < (x69.length : Int)) = true then
        if decide (0 ≤ (x69.getD x71.toNat 0) ∧ (x69.getD x71.toNat 0) < (y8.length : Int)) = true then
          L324_21 n (((), (), (), x9, (), x42, x43, x44, x69, x70, (IntKind.i64.wrap (x71 + (1 : Int))), ()), ((y2.1, y2.2.1, y2.2.2.1, y2.2.2.2.1, ()), (y8.set (x69.getD x71.toNat 0).toNat x9), (y11.1, y11.2.1, y11.2.2.1, ()), ((), (), ()), y442, y443, ()))
        else
          none
      else
        none
    else
      some (((), (), (), x9, (), x42, x43, x44, ()), ((y2.1, y2.2.1, y2.2.2.1, y2.2.2.2.1, ()), y8, (y11.1, y11.2.1, y11.2.2.1, ()), ((), (), ()), y442, y443, ()))

noncomputable def EL324_21 : LoopEnt := ⟨[24], 21, ⟨[], [2, 7, 8, 9, 11, 42, 43, 44, 69, 70, 71], [2, 8, 11, 40, 442, 443]⟩, [.ptr 2 0, .ptr 40 0, .ref 8, .kd (.int .i64), .ptr 11 0, .kd (.slice .rx), .kd (.int .i64), .kd (.int .i64), .kd (.slice (.int .i64)), .kd (.int .i64), .kd (.int .i64)], [.box [.kd (.int .i64), .kd (.int .i64), .kd (.slice (.pair (.int .i64) (.pair (.int .i64) (.pair .bool (.pair (.arr 4 (.int .u64)) .unit))))), .kd (.slice (.int .i64))], .row (.int .i64), .box [.kd .bool, .kd (.slice (.int .i64)), .kd (.slice (.int .i64))], .box [.ref 442, .ref 443], .row (.arr 4 (.int .u64)), .mrow (.int .i64) .bool], [⟨(.exit 6), [2, 7, 8, 9, 11, 42, 43, 44], [.ptr 2 0, .ptr 40 0, .ref 8, .kd (.int .i64), .ptr 11 0, .kd (.slice .rx), .kd (.int .i64), .kd (.int .i64)], [2, 8, 11, 40, 442, 443], [.box [.kd (.int .i64), .kd (.int .i64), .kd (.slice (.pair (.int .i64) (.pair (.int .i64) (.pair .bool (.pair (.arr 4 (.int .u64)) .unit))))), .kd (.slice (.int .i64))], .row (.int .i64), .box [.kd .bool, .kd (.slice (.int .i64)), .kd (.slice (.int .i64))], .box [.ref 442, .ref 443], .row (.arr 4 (.int .u64)), .mrow (.int .i64) .bool]⟩], limit L324_21⟩

noncomputable def L324_14 : Nat → ((Unit × Unit × Unit × (List (Rx)) × (Int) × (Int) × Unit) × (((Int) × (Int) × (List ((Int) × ((Int) × ((Bool) × ((List (Int)) × (Unit)))))) × (List (Int)) × Unit) × (List (Int)) × (Unit × Unit × Unit) × (List (List (Int))) × (List (List ((Int) × (Bool)))) × Unit)) → Option ((Unit × Unit × Unit × Unit) × (((Int) × (Int) × (List ((Int) × ((Int) × ((Bool) × ((List (Int)) × (Unit)))))) × (List (Int)) × Unit) × (List (Int)) × (Unit × Unit × Unit) × (List (List (Int))) × (List (List ((Int) × (Bool)))) × Unit))
  | 0, _ => none
  | n + 1, ((_, _, _, x42, x43, x44, ()), (y2, y8, _, y440, y441, ())) =>
    if (decide (x44 < x43)) = true then
      if decide (0 ≤ x44 ∧ x44 < (x42.length : Int)) = true then
        (p342 (((), (Rx.mk (x42.getD x44.toNat (Rx.mk 0 [0, 0, 0, 0] [])).kind [((x42.getD x44.toNat (Rx.mk 0 [0, 0, 0, 0] [])).set.getD 0 0), ((x42.getD x44.toNat (Rx.mk 0 [0, 0, 0, 0] [])).set.getD 1 0), ((x42.getD x44.toNat (Rx.mk 0 [0, 0, 0, 0] [])).set.getD 2 0), ((x42.getD x44.toNat (Rx.mk 0 [0, 0, 0, 0] [])).set.getD 3 0)] (x42.getD x44.toNat (Rx.mk 0 [0, 0, 0, 0] [])).kids), ()), (((), (), ()), y440, y441, ()))).bind fun c1 =>
        (p343 (((), ([(0 : Int)] : List (Int)), c1.1.2.1, ()), (((), (), ()), c1.2.2.1, c1.2.2.2.1, ()))).bind fun c2 =>
        (limit L324_18 (((), (), (), x44, (), x42, x43, x44, ()), ((y2.1, y2.2.1, y2.2.2.1, y2.2.2.2.1, ()), y8, (c1.1.1, c1.1.2.1, c1.1.2.2.1, ()), ((), (), ()), c2.2.2.1, c2.2.2.2.1, ()))).bind fun r3 =>
        (limit L324_21 (((), (), (), r3.1.2.2.2.1, (), r3.1.2.2.2.2.2.1, r3.1.2.2.2.2.2.2.1, r3.1.2.2.2.2.2.2.2.1, r3.2.2.2.1.2.2.1, (r3.2.2.2.1.2.2.1.length : Int), (0 : Int), ()), ((r3.2.1.1, r3.2.1.2.1, r3.2.1.2.2.1, r3.2.1.2.2.2.1, ()), r3.2.2.1, (r3.2.2.2.1.1, r3.2.2.2.1.2.1, r3.2.2.2.1.2.2.1, ()), ((), (), ()), r3.2.2.2.2.2.1, r3.2.2.2.2.2.2.1, ()))).bind fun r4 =>
        if r4.2.2.2.1.1 = true then
          if decide (0 ≤ (0 : Int) ∧ (0 : Int) < (r4.2.2.1.length : Int)) = true then
            if (decide ((r4.2.2.1.getD (0 : Int).toNat 0) < (0 : Int))) = true then
              if decide (0 ≤ (0 : Int) ∧ (0 : Int) < (r4.2.2.1.length : Int)) = true then
                L324_14 n (((), (), (), r4.1.2.2.2.2.2.1, r4.1.2.2.2.2.2.2.1, (IntKind.i64.wrap (r4.1.2.2.2.2.2.2.2.1 + (1 : Int))), ()), ((r4.2.1.1, r4.2.1.2.1, r4.2.1.2.2.1, r4.2.1.2.2.2.1, ()), (r4.2.2.1.set (0 : Int).toNat r4.1.2.2.2.1), ((), (), ()), r4.2.2.2.2.2.1, r4.2.2.2.2.2.2.1, ()))
              else
                none
            else
              L324_14 n (((), (), (), r4.1.2.2.2.2.2.1, r4.1.2.2.2.2.2.2.1, (IntKind.i64.wrap (r4.1.2.2.2.2.2.2.2.1 + (1 : Int))), ()), ((r4.2.1.1, r4.2.1.2.1, r4.2.1.2.2.1, r4.2.1.2.2.2.1, ()), r4.2.2.1, ((), (), ()), r4.2.2.2.2.2.1, r4.2.2.2.2.2.2.1, ()))
          else
            none
        else
          L324_14 n (((), (), (), r4.1.2.2.2.2.2.1, r4.1.2.2.2.2.2.2.1, (IntKind.i64.wrap (r4.1.2.2.2.2.2.2.2.1 + (1 : Int))), ()), ((r4.2.1.1, r4.2.1.2.1, r4.2.1.2.2.1, r4.2.1.2.2.2.1, ()), r4.2.2.1, ((), (), ()), r4.2.2.2.2.2.1, r4.2.2.2.2.2.2.1, ()))
      else
        none
    else
      some (((), (), (), ()), ((y2.1, y2.2.1, y2.2.2.1, y2.2.2.2.1, ()), y8, ((), (), ()), y440, y441, ()))

noncomputable def EL324_14 : LoopEnt := ⟨[24], 14, ⟨[.keep [2, 7, 8, 42, 43, 44] [2, 8, 38, 40, 41, 442, 443], .adoptCell 40 0 (.arr 4 (.int .u64)) 440, .adoptM 40 1 441, .adopt 8 (.int .i64) 8], [2, 7, 8, 42, 43, 44], [2, 8, 40, 440, 441]⟩, [.ptr 2 0, .ptr 40 0, .ref 8, .kd (.slice .rx), .kd (.int .i64), .kd (.int .i64)], [.box [.kd (.int .i64), .kd (.int .i64), .kd (.slice (.pair (.int .i64) (.pair (.int .i64) (.pair .bool (.pair (.arr 4 (.int .u64)) .unit))))), .kd (.slice (.int .i64))], .row (.int .i64), .box [.ref 440, .ref 441], .row (.arr 4 (.int .u64)), .mrow (.int .i64) .bool], [⟨(.exit 2), [2, 7, 8], [.ptr 2 0, .ptr 40 0, .ref 8], [2, 8, 40, 440, 441], [.box [.kd (.int .i64), .kd (.int .i64), .kd (.slice (.pair (.int .i64) (.pair (.int .i64) (.pair .bool (.pair (.arr 4 (.int .u64)) .unit))))), .kd (.slice (.int .i64))], .row (.int .i64), .box [.ref 440, .ref 441], .row (.arr 4 (.int .u64)), .mrow (.int .i64) .bool]⟩], limit L324_14⟩

noncomputable def L324_33 : Nat → ((Unit × Unit × Unit × (Int) × Unit × (Int) × (Int) × Unit × (Int) × (Int) × Unit) × (((Int) × (Int) × (List ((Int) × ((Int) × ((Bool) × ((List (Int)) × (Unit)))))) × (List (Int)) × Unit) × (List (Int)) × ((Int) × (Int) × Unit × Unit × Unit) × (Unit × Unit × Unit) × (List (Int)) × (List ((Int) × ((Int) × ((Bool) × ((List (Int)) × (Unit)))))) × (List (List (Int))) × (List (List ((Int) × (Bool)))) × Unit)) → Option ((Unit × Unit × Unit × Unit × (Int) × (Int) × Unit) × (((Int) × (Int) × (List ((Int) × ((Int) × ((Bool) × ((List (Int)) × (Unit)))))) × (List (Int)) × Unit) × (List (Int)) × ((Int) × (Int) × Unit × Unit × Unit) × (Unit × Unit × Unit) × (List ((Int) × ((Int) × ((Bool) × ((List (Int)) × (Unit)))))) × (List (List (Int))) × (List (List ((Int) × (Bool)))) × Unit))
  | 0, _ => none
  | n + 1, ((_, _, _, x15, _, x100, x101, _, x109, x110, ()), (y2, y8, y14, _, y108, y314, y440, y441, ())) =>
    if (decide (x110 < x109)) = true then
      if decide (0 ≤ x110 ∧ x110 < (y108.length : Int)) = true then
        if decide (0 ≤ (IntKind.i64.wrap ((y108.getD x110.toNat 0) - (1 : Int))) ∧ (IntKind.i64.wrap ((y108.getD x110.toNat 0) - (1 : Int))) < (y440.length : Int)) = true then
          if decide (y314.length + ([(x15, ((y108.getD x110.toNat 0), (false, ([((y440.getD (IntKind.i64.wrap ((y108.getD x110.toNat 0) - (1 : Int))).toNat (List.replicate 4 0)).getD 0 0), ((y440.getD (IntKind.i64.wrap ((y108.getD x110.toNat 0) - (1 : Int))).toNat (List.replicate 4 0)).getD 1 0), ((y440.getD (IntKind.i64.wrap ((y108.getD x110.toNat 0) - (1 : Int))).toNat (List.replicate 4 0)).getD 2 0), ((y440.getD (IntKind.i64.wrap ((y108.getD x110.toNat 0) - (1 : Int))).toNat (List.replicate 4 0)).getD 3 0)], ()))))] : List ((Int) × ((Int) × ((Bool) × ((List (Int)) × (Unit)))))).length ≤ lim) = true then
            L324_33 n (((), (), (), x15, (), x100, x101, (), x109, (IntKind.i64.wrap (x110 + (1 : Int))), ()), ((y2.1, y2.2.1, y2.2.2.1, y2.2.2.2.1, ()), y8, (y14.1, y14.2.1, (), (), ()), ((), (), ()), y108, (y314 ++ ([(x15, ((y108.getD x110.toNat 0), (false, ([((y440.getD (IntKind.i64.wrap ((y108.getD x110.toNat 0) - (1 : Int))).toNat (List.replicate 4 0)).getD 0 0), ((y440.getD (IntKind.i64.wrap ((y108.getD x110.toNat 0) - (1 : Int))).toNat (List.replicate 4 0)).getD 1 0), ((y440.getD (IntKind.i64.wrap ((y108.getD x110.toNat 0) - (1 : Int))).toNat (List.replicate 4 0)).getD 2 0), ((y440.getD (IntKind.i64.wrap ((y108.getD x110.toNat 0) - (1 : Int))).toNat (List.replicate 4 0)).getD 3 0)], ()))))] : List ((Int) × ((Int) × ((Bool) × ((List (Int)) × (Unit))))))), y440, y441, ()))
          else
            none
        else
          none
      else
        none
    else
      some (((), (), (), (), x100, x101, ()), ((y2.1, y2.2.1, y2.2.2.1, y2.2.2.2.1, ()), y8, (y14.1, y14.2.1, (), (), ()), ((), (), ()), y314, y440, y441, ()))

noncomputable def EL324_33 : LoopEnt := ⟨[24], 33, ⟨[.keep [2, 7, 14, 15, 99, 100, 101, 108, 109, 110] [2, 8, 14, 40, 108, 128, 314, 440, 441], .adoptCell 14 2 (.pair (.int .i64) (.pair (.int .i64) (.pair .bool (.pair (.arr 4 (.int .u64)) .unit)))) 314], [2, 7, 14, 15, 99, 100, 101, 108, 109, 110], [2, 8, 14, 40, 108, 314, 440, 441]⟩, [.ptr 2 0, .ptr 40 0, .ptr 14 0, .kd (.int .i64), .ref 441, .kd (.int .i64), .kd (.int .i64), .ref 108, .kd (.int .i64), .kd (.int .i64)], [.box [.kd (.int .i64), .kd (.int .i64), .kd (.slice (.pair (.int .i64) (.pair (.int .i64) (.pair .bool (.pair (.arr 4 (.int .u64)) .unit))))), .kd (.slice (.int .i64))], .row (.int .i64), .box [.kd (.int .i64), .kd (.int .i64), .ref 314, .ref 8], .box [.ref 440, .ref 441], .row (.int .i64), .row (.pair (.int .i64) (.pair (.int .i64) (.pair .bool (.pair (.arr 4 (.int .u64)) .unit)))), .row (.arr 4 (.int .u64)), .mrow (.int .i64) .bool], [⟨(.exit 10), [2, 7, 14, 99, 100, 101], [.ptr 2 0, .ptr 40 0, .ptr 14 0, .ref 441, .kd (.int .i64), .kd (.int .i64)], [2, 8, 14, 40, 314, 440, 441], [.box [.kd (.int .i64), .kd (.int .i64), .kd (.slice (.pair (.int .i64) (.pair (.int .i64) (.pair .bool (.pair (.arr 4 (.int .u64)) .unit))))), .kd (.slice (.int .i64))], .row (.int .i64), .box [.kd (.int .i64), .kd (.int .i64), .ref 314, .ref 8], .box [.ref 440, .ref 441], .row (.pair (.int .i64) (.pair (.int .i64) (.pair .bool (.pair (.arr 4 (.int .u64)) .unit)))), .row (.arr 4 (.int .u64)), .mrow (.int .i64) .bool]⟩], limit L324_33⟩

noncomputable def L324_30 : Nat → ((Unit × Unit × Unit × Unit × (Int) × (Int) × Unit) × (((Int) × (Int) × (List ((Int) × ((Int) × ((Bool) × ((List (Int)) × (Unit)))))) × (List (Int)) × Unit) × (List (Int)) × ((Int) × (Int) × Unit × Unit × Unit) × (Unit × Unit × Unit) × (List ((Int) × ((Int) × ((Bool) × ((List (Int)) × (Unit)))))) × (List (List (Int))) × (List (List ((Int) × (Bool)))) × Unit)) → Option ((Unit × Unit × Unit) × (((Int) × (Int) × (List ((Int) × ((Int) × ((Bool) × ((List (Int)) × (Unit)))))) × (List (Int)) × Unit) × (List (Int)) × ((Int) × (Int) × Unit × Unit × Unit) × (List ((Int) × ((Int) × ((Bool) × ((List (Int)) × (Unit)))))) × Unit))
  | 0, _ => none
  | n + 1, ((_, _, _, _, x100, x101, ()), (y2, y8, y14, _, y314, y440, y441, ())) =>
    if (decide (x101 < x100)) = true then
      if decide (0 ≤ x101 ∧ x101 < (y441.length : Int)) = true then
        if (decide ((y441.getD x101.toNat []).length ≤ lim) && i64ok ((y441.getD x101.toNat []).map (·.1))) = true then
          (limit L324_33 (((), (), (), x101, (), x100, x101, (), ((sortedInts ((y441.getD x101.toNat []).map (·.1))).length : Int), (0 : Int), ()), ((y2.1, y2.2.1, y2.2.2.1, y2.2.2.2.1, ()), y8, (y14.1, y14.2.1, (), (), ()), ((), (), ()), (sortedInts ((y441.getD x101.toNat []).map (·.1))), y314, y440, y441, ()))).bind fun r1 =>
          L324_30 n (((), (), (), (), r1.1.2.2.2.2.1, (IntKind.i64.wrap (r1.1.2.2.2.2.2.1 + (1 : Int))), ()), ((r1.2.1.1, r1.2.1.2.1, r1.2.1.2.2.1, r1.2.1.2.2.2.1, ()), r1.2.2.1, (r1.2.2.2.1.1, r1.2.2.2.1.2.1, (), (), ()), ((), (), ()), r1.2.2.2.2.2.1, r1.2.2.2.2.2.2.1, r1.2.2.2.2.2.2.2.1, ()))
        else
          none
      else
        none
    else
      some (((), (), ()), ((y2.1, y2.2.1, y2.2.2.1, y2.2.2.2.1, ()), y8, (y14.1, y14.2.1, (), (), ()), y314, ()))

noncomputable def EL324_30 : LoopEnt := ⟨[24], 30, ⟨[.keep [2, 7, 14, 99, 100, 101] [2, 8, 14, 40, 314, 440, 441], .adoptCell 14 2 (.pair (.int .i64) (.pair (.int .i64) (.pair .bool (.pair (.arr 4 (.int .u64)) .unit)))) 314], [2, 7, 14, 99, 100, 101], [2, 8, 14, 40, 314, 440, 441]⟩, [.ptr 2 0, .ptr 40 0, .ptr 14 0, .ref 441, .kd (.int .i64), .kd (.int .i64)], [.box [.kd (.int .i64), .kd (.int .i64), .kd (.slice (.pair (.int .i64) (.pair (.int .i64) (.pair .bool (.pair (.arr 4 (.int .u64)) .unit))))), .kd (.slice (.int .i64))], .row (.int .i64), .box [.kd (.int .i64), .kd (.int .i64), .ref 314, .ref 8], .box [.ref 440, .ref 441], .row (.pair (.int .i64) (.pair (.int .i64) (.pair .bool (.pair (.arr 4 (.int .u64)) .unit)))), .row (.arr 4 (.int .u64)), .mrow (.int .i64) .bool], [⟨(.exit 8), [2, 14], [.ptr 2 0, .ptr 14 0], [2, 8, 14, 314], [.box [.kd (.int .i64), .kd (.int .i64), .kd (.slice (.pair (.int .i64) (.pair (.int .i64) (.pair .bool (.pair (.arr 4 (.int .u64)) .unit))))), .kd (.slice (.int .i64))], .row (.int .i64), .box [.kd (.int .i64), .kd (.int .i64), .ref 314, .ref 8], .row (.pair (.int .i64) (.pair (.int .i64) (.pair .bool (.pair (.arr 4 (.int .u64)) .unit))))]⟩], limit L324_30⟩

noncomputable def O324 : Orc := mkOrc [(40, fnOf [.rx] (.one .bool) p340), (41, fnOf [.rx] (.one (.int .i64)) p341)] [EL324_3, EL324_18, EL324_21, EL324_14, EL324_33, EL324_30] [] [] [] [(42, procOf [.ptr 0 0, .kd .rx] [.box [.ref 1, .ref 2], .row (.arr 4 (.int .u64)), .mrow (.int .i64) .bool] (.one (.pair .bool (.pair (.slice (.int .i64)) (.pair (.slice (.int .i64)) .unit)))) [.box [.ref 3, .ref 4], .row (.arr 4 (.int .u64)), .mrow (.int .i64) .bool] p342), (43, procOf [.ptr 0 0, .kd (.slice (.int .i64)), .kd (.slice (.int .i64))] [.box [.ref 1, .ref 2], .row (.arr 4 (.int .u64)), .mrow (.int .i64) .bool] (.tup []) [.box [.ref 1, .ref 2], .row (.arr 4 (.int .u64)), .mrow (.int .i64) .bool] p343)]

theorem cL324_3 : LoopCert Try.prog O324 Γ324 1 EL324_3 :=
  ⟨⟨24, 0, L324_3, rfl, by kernel_rfl, by decide, limit_fn, fun _ => rfl, fun m old x r h => by
    obtain ⟨⟨x0, x2, x4, x19, x20, x21, ⟨⟩⟩, y2, ⟨⟩⟩ := x
    refine Eq.trans ?_ h
    kernel_rfl⟩⟩

theorem cL324_18 : LoopCert Try.prog O324 Γ324 1 EL324_18 :=
  ⟨⟨24, 2, L324_18, rfl, by kernel_rfl, by decide, limit_fn, fun _ => rfl, fun m old x r h => by
    obtain ⟨⟨x2, x7, x8, x9, x11, x42, x43, x44, ⟨⟩⟩, y2, y8, y11, y40, y442, y443, ⟨⟩⟩ := x
    refine Eq.trans ?_ h
    kernel_rfl⟩⟩

theorem cL324_21 : LoopCert Try.prog O324 Γ324 1 EL324_21 :=
  ⟨⟨24, 3, L324_21, rfl, by kernel_rfl, by decide, limit_fn, fun _ => rfl, fun m old x r h => by
    obtain ⟨⟨x2, x7, x8, x9, x11, x42, x43, x44, x69, x70, x71, ⟨⟩⟩, y2, y8, y11, y40, y442, y443, ⟨⟩⟩ := x
    refine Eq.trans ?_ h
    kernel_rfl⟩⟩

theorem cL324_14 : LoopCert Try.prog O324 Γ324 1 EL324_14 :=
  ⟨⟨24, 1, L324_14, rfl, by kernel_rfl, by decide, limit_fn, fun _ => rfl, fun m old x r h => by
    obtain ⟨⟨x2, x7, x8, x42, x43, x44, ⟨⟩⟩, y2, y8, y40, y440, y441, ⟨⟩⟩ := x
    refine Eq.trans ?_ h
    kernel_rfl⟩⟩

theorem cL324_33 : LoopCert Try.prog O324 Γ324 1 EL324_33 :=
  ⟨⟨24, 5, L324_33, rfl, by kernel_rfl, by decide, limit_fn, fun _ => rfl, fun m old x r h => by
    obtain ⟨⟨x2, x7, x14, x15, x99, x100, x101, x108, x109, x110, ⟨⟩⟩, y2, y8, y14, y40, y108, y314, y440, y441, ⟨⟩⟩ := x
    refine Eq.trans ?_ h
    kernel_rfl⟩⟩

theorem cL324_30 : LoopCert Try.prog O324 Γ324 1 EL324_30 :=
  ⟨⟨24, 4, L324_30, rfl, by kernel_rfl, by decide, limit_fn, fun _ => rfl, fun m old x r h => by
    obtain ⟨⟨x2, x7, x14, x99, x100, x101, ⟨⟩⟩, y2, y8, y14, y40, y314, y440, y441, ⟨⟩⟩ := x
    refine Eq.trans ?_ h
    kernel_rfl⟩⟩

/-- emendate/nfa.FromRegexes -/
noncomputable def p324 : ((List (Rx)) × Unit) → Option (((Int) × ((Int) × ((List ((Int) × ((Int) × ((Bool) × ((List (Int)) × (Unit)))))) × ((List (Int)) × (Unit))))) × (Int) × Unit)
  | (x0, ()) =>
    (limit L324_3 ((x0, (), (0 : Int), x0, (x0.length : Int), (0 : Int), ()), (((0 : Int), (0 : Int), ([] : List ((Int) × ((Int) × ((Bool) × ((List (Int)) × (Unit)))))), ([] : List (Int)), ()), ()))).bind (Sum.elim (fun r1 =>
      some ((r1.2.1.1, (r1.2.1.2.1, (r1.2.1.2.2.1, (r1.2.1.2.2.2.1, ())))), r1.1.2.1, ())) (fun r1 =>
      if (decide (r1.1.2.2.1 > (500 : Int))) = true then
        some (((0 : Int), ((0 : Int), (([] : List ((Int) × ((Int) × ((Bool) × ((List (Int)) × (Unit)))))), (([] : List (Int)), ())))), (11 : Int), ())
      else
        (limit L324_14 (((), (), (), r1.1.1, (r1.1.1.length : Int), (0 : Int), ()), ((r1.2.1.1, r1.2.1.2.1, r1.2.1.2.2.1, r1.2.1.2.2.2.1, ()), ([(-1 : Int)] : List (Int)), ((), (), ()), ([] : List (List (Int))), ([([] : List ((Int) × (Bool)))] : List (List ((Int) × (Bool)))), ()))).bind fun r2 =>
        (limit L324_30 (((), (), (), (), (r2.2.2.2.2.2.1.length : Int), (0 : Int), ()), ((r2.2.1.1, r2.2.1.2.1, r2.2.1.2.2.1, r2.2.1.2.2.2.1, ()), r2.2.2.1, ((r2.2.2.1.length : Int), (0 : Int), (), (), ()), ((), (), ()), ([] : List ((Int) × ((Int) × ((Bool) × ((List (Int)) × (Unit)))))), r2.2.2.2.2.1, r2.2.2.2.2.2.1, ()))).bind fun r3 =>
        some ((r3.2.2.2.1.1, (r3.2.2.2.1.2.1, (r3.2.2.2.2.1, (r3.2.2.1, ())))), (0 : Int), ())))

theorem s324 : SoundFn Try.prog 24 (fnOf [(.slice .rx)] (.tup [(.pair (.int .i64) (.pair (.int .i64) (.pair (.slice (.pair (.int .i64) (.pair (.int .i64) (.pair .bool (.pair (.arr 4 (.int .u64)) .unit))))) (.pair (.slice (.int .i64)) .unit)))), (.int .i64)]) p324) :=
  fn_pure hm0 hng0 hΓ324 (t := [(40, fnOf [.rx] (.one .bool) p340), (41, fnOf [.rx] (.one (.int .i64)) p341)]) (all_cons s340 (all_cons s341 all_nil)) (ls := [EL324_3, EL324_18, EL324_21, EL324_14, EL324_33, EL324_30]) (cmds := []) (leaves := []) (fr := []) (pt := [(42, procOf [.ptr 0 0, .kd .rx] [.box [.ref 1, .ref 2], .row (.arr 4 (.int .u64)), .mrow (.int .i64) .bool] (.one (.pair .bool (.pair (.slice (.int .i64)) (.pair (.slice (.int .i64)) .unit)))) [.box [.ref 3, .ref 4], .row (.arr 4 (.int .u64)), .mrow (.int .i64) .bool] p342), (43, procOf [.ptr 0 0, .kd (.slice (.int .i64)), .kd (.slice (.int .i64))] [.box [.ref 1, .ref 2], .row (.arr 4 (.int .u64)), .mrow (.int .i64) .bool] (.tup []) [.box [.ref 1, .ref 2], .row (.arr 4 (.int .u64)), .mrow (.int .i64) .bool] p343)]) (D := 1) (all_cons cL324_3 (all_cons cL324_18 (all_cons cL324_21 (all_cons cL324_14 (all_cons cL324_33 (all_cons cL324_30 all_nil)))))) (by kernel_rfl) (hfr := all_nil) (hX := Special.procs (all_cons s342 (all_cons s343 all_nil)) (fun _ _ h => by cases h; exact keysOk) (fun _ _ h => by obtain ⟨⟨_, h⟩, h2⟩ := h; cases h; cases h2; exact sortedOk)) fun x r h => by
    obtain ⟨x0, ⟨⟩⟩ := x
    refine Eq.trans ?_ h
    kernel_rfl

end Go.AM
