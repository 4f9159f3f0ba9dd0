/- Functions in pure form: each is sound over the program. -/
import Derived.Test.YtdjbokdohackdaaH3
namespace Go.AM
open Go Go.Proofs

noncomputable def L350_19 (E50 : ((Rx) × (Int) × Unit) → Option (Bool)) : Nat → (((Int) × Unit × (Int) × (Int) × Unit) × (((Int) × (Int) × (Int) × (Int) × (Int) × (List (Rx)) × Unit) × Unit)) → Option ((((Bool) × Unit) × (Unit)) ⊕ ((Unit) × (Unit)))
  | 0, _ => none
  | n + 1, ((x1, _, x5, x6, ()), (y2, ())) =>
    if (decide (x6 < x5)) = true then
      if decide (0 ≤ x6 ∧ x6 < (y2.2.2.2.2.2.1.length : Int)) = true then
        (E50 ((Rx.mk (y2.2.2.2.2.2.1.getD x6.toNat (Rx.mk 0 [0, 0, 0, 0] [])).kind [((y2.2.2.2.2.2.1.getD x6.toNat (Rx.mk 0 [0, 0, 0, 0] [])).set.getD 0 0), ((y2.2.2.2.2.2.1.getD x6.toNat (Rx.mk 0 [0, 0, 0, 0] [])).set.getD 1 0), ((y2.2.2.2.2.2.1.getD x6.toNat (Rx.mk 0 [0, 0, 0, 0] [])).set.getD 2 0), ((y2.2.2.2.2.2.1.getD x6.toNat (Rx.mk 0 [0, 0, 0, 0] [])).set.getD 3 0)] (y2.2.2.2.2.2.1.getD x6.toNat (Rx.mk 0 [0, 0, 0, 0] [])).kids), (IntKind.i64.wrap (x1 + (1 : Int))), ())).bind fun c1 =>
        if (!c1) = true then
          some (.inl ((false, ()), ()))
        else
          L350_19 E50 n ((x1, (), x5, (IntKind.i64.wrap (x6 + (1 : Int))), ()), ((y2.1, y2.2.1, y2.2.2.1, y2.2.2.2.1, y2.2.2.2.2.1, y2.2.2.2.2.2.1, ()), ()))
      else
        none
    else
      some (.inr ((), ()))

noncomputable def EL350_19 (E50 : ((Rx) × (Int) × Unit) → Option (Bool)) : LoopEnt := ⟨[50], 19, ⟨[], [1, 2, 5, 6], [2]⟩, [.kd (.int .i64), .ptr 2 0, .kd (.int .i64), .kd (.int .i64)], [.box [.kd (.int .i64), .kd (.int .u64), .kd (.int .u64), .kd (.int .u64), .kd (.int .u64), .kd (.slice .rx)]], [⟨.ret, [4], [.kd .bool], [], []⟩, ⟨(.exit 1), [], [], [], []⟩], limit (L350_19 E50)⟩

noncomputable def O350 (E50 : ((Rx) × (Int) × Unit) → Option (Bool)) : Orc := mkOrc [(50, fnOf [.rx, (.int .i64)] (.one .bool) E50)] [(EL350_19 E50)] [] [] []

theorem cL350_19 (E50 : ((Rx) × (Int) × Unit) → Option (Bool)) : LoopCert Try.prog (O350 E50) Γ0 1 (EL350_19 E50) :=
  ⟨⟨50, 0, (L350_19 E50), rfl, by kernel_rfl, Nat.le_of_ble_eq_true (by kernel_rfl), limit_fn, fun _ => rfl, fun m old x r h => by
    obtain ⟨⟨x1, x2, x5, x6, ⟨⟩⟩, y2, ⟨⟩⟩ := x
    refine Eq.trans ?_ h
    kernel_rfl⟩⟩

/-- emendate/emendateref08.valid -/
noncomputable def p350b (E50 : ((Rx) × (Int) × Unit) → Option (Bool)) : ((Rx) × (Int) × Unit) → Option (Bool)
  | (x0, x1, ()) =>
    if (decide (x1 ≥ (30 : Int))) = true then
      some false
    else
      if (!decide (x0.kind = (3 : Int))) = true then
        if (!(Kind.eqB (.arr 4 (.int .u64)) [(x0.set.getD 0 0), (x0.set.getD 1 0), (x0.set.getD 2 0), (x0.set.getD 3 0)] [(0 : Int), (0 : Int), (0 : Int), (0 : Int)])) = true then
          some false
        else
          if (decide (x0.kind = (1 : Int))) = true then
            some (decide ((x0.kids.length : Int) = (0 : Int)))
          else
            if (decide (x0.kind = (2 : Int))) = true then
              some (decide ((x0.kids.length : Int) = (0 : Int)))
            else
              if (decide (x0.kind = (3 : Int))) = true then
                if (decide ((x0.kids.length : Int) = (0 : Int))) = true then
                  some (!(Kind.eqB (.arr 4 (.int .u64)) [(x0.set.getD 0 0), (x0.set.getD 1 0), (x0.set.getD 2 0), (x0.set.getD 3 0)] [(0 : Int), (0 : Int), (0 : Int), (0 : Int)]))
                else
                  some false
              else
                if (decide (x0.kind = (4 : Int))) = true then
                  if (decide ((x0.kids.length : Int) < (2 : Int))) = true then
                    some false
                  else
                    (limit (L350_19 E50) ((x1, (), (x0.kids.length : Int), (0 : Int), ()), ((x0.kind, (x0.set.getD 0 0), (x0.set.getD 1 0), (x0.set.getD 2 0), (x0.set.getD 3 0), x0.kids, ()), ()))).bind (Sum.elim (fun r1 =>
                      some r1.1.1) (fun _ =>
                      some true))
                else
                  if (decide (x0.kind = (5 : Int))) = true then
                    if (decide ((x0.kids.length : Int) < (2 : Int))) = true then
                      some false
                    else
                      (limit (L350_19 E50) ((x1, (), (x0.kids.length : Int), (0 : Int), ()), ((x0.kind, (x0.set.getD 0 0), (x0.set.getD 1 0), (x0.set.getD 2 0), (x0.set.getD 3 0), x0.kids, ()), ()))).bind (Sum.elim (fun r2 =>
                        some r2.1.1) (fun _ =>
                        some true))
                  else
                    if (decide (x0.kind = (6 : Int))) = true then
                      if (!decide ((x0.kids.length : Int) = (1 : Int))) = true then
                        some false
                      else
                        (limit (L350_19 E50) ((x1, (), (x0.kids.length : Int), (0 : Int), ()), ((x0.kind, (x0.set.getD 0 0), (x0.set.getD 1 0), (x0.set.getD 2 0), (x0.set.getD 3 0), x0.kids, ()), ()))).bind (Sum.elim (fun r3 =>
                          some r3.1.1) (fun _ =>
                          some true))
                    else
                      some false
      else
        if (decide (x0.kind = (1 : Int))) = true then
          some (decide ((x0.kids.length : Int) = (0 : Int)))
        else
          if (decide (x0.kind = (2 : Int))) = true then
            some (decide ((x0.kids.length : Int) = (0 : Int)))
          else
            if (decide (x0.kind = (3 : Int))) = true then
              if (decide ((x0.kids.length : Int) = (0 : Int))) = true then
                some (!(Kind.eqB (.arr 4 (.int .u64)) [(x0.set.getD 0 0), (x0.set.getD 1 0), (x0.set.getD 2 0), (x0.set.getD 3 0)] [(0 : Int), (0 : Int), (0 : Int), (0 : Int)]))
              else
                some false
            else
              if (decide (x0.kind = (4 : Int))) = true then
                if (decide ((x0.kids.length : Int) < (2 : Int))) = true then
                  some false
                else
                  (limit (L350_19 E50) ((x1, (), (x0.kids.length : Int), (0 : Int), ()), ((x0.kind, (x0.set.getD 0 0), (x0.set.getD 1 0), (x0.set.getD 2 0), (x0.set.getD 3 0), x0.kids, ()), ()))).bind (Sum.elim (fun r4 =>
                    some r4.1.1) (fun _ =>
                    some true))
              else
                if (decide (x0.kind = (5 : Int))) = true then
                  if (decide ((x0.kids.length : Int) < (2 : Int))) = true then
                    some false
                  else
                    (limit (L350_19 E50) ((x1, (), (x0.kids.length : Int), (0 : Int), ()), ((x0.kind, (x0.set.getD 0 0), (x0.set.getD 1 0), (x0.set.getD 2 0), (x0.set.getD 3 0), x0.kids, ()), ()))).bind (Sum.elim (fun r5 =>
                      some r5.1.1) (fun _ =>
                      some true))
                else
                  if (decide (x0.kind = (6 : Int))) = true then
                    if (!decide ((x0.kids.length : Int) = (1 : Int))) = true then
                      some false
                    else
                      (limit (L350_19 E50) ((x1, (), (x0.kids.length : Int), (0 : Int), ()), ((x0.kind, (x0.set.getD 0 0), (x0.set.getD 1 0), (x0.set.getD 2 0), (x0.set.getD 3 0), x0.kids, ()), ()))).bind (Sum.elim (fun r6 =>
                        some r6.1.1) (fun _ =>
                        some true))
                  else
                    some false

theorem s350b (E50 : ((Rx) × (Int) × Unit) → Option (Bool)) (hE50 : SoundFn Try.prog 50 (fnOf [.rx, (.int .i64)] (.one .bool) E50)) : SoundFn Try.prog 50 (fnOf [.rx, (.int .i64)] (.one .bool) (p350b E50)) :=
  fn_pure hm0 hng0 hΓ0 (t := [(50, fnOf [.rx, (.int .i64)] (.one .bool) E50)]) (all_cons hE50 all_nil) (ls := [(EL350_19 E50)]) (cmds := []) (leaves := []) (fr := []) (pt := []) (D := 1) (all_cons (cL350_19 E50) all_nil) (by kernel_rfl) (hfr := all_nil) fun x r h => by
    obtain ⟨x0, x1, ⟨⟩⟩ := x
    refine Eq.trans ?_ h
    kernel_rfl

noncomputable def p350n : Nat → ((Rx) × (Int) × Unit) → Option (Bool)
  | 0, _ => none
  | n + 1, x => p350b (p350n n) x

theorem s350n : ∀ n, SoundFn Try.prog 50 (fnOf [.rx, (.int .i64)] (.one .bool) (p350n n)) :=
  fn_rec hng0 (by kernel_rfl) (fun _ => rfl) fun n h => s350b (p350n n) h

noncomputable def p350 : ((Rx) × (Int) × Unit) → Option (Bool) := limit p350n

theorem s350 : SoundFn Try.prog 50 (fnOf [.rx, (.int .i64)] (.one .bool) p350) := s350n fuel

noncomputable def O338 : Orc := mkOrc [(50, fnOf [.rx, (.int .i64)] (.one .bool) p350)] [] [] [] []

/-- emendate/emendateref08.Valid -/
noncomputable def p338 : ((Rx) × Unit) → Option (Bool)
  | (x0, ()) =>
    (p350 ((Rx.mk x0.kind [(x0.set.getD 0 0), (x0.set.getD 1 0), (x0.set.getD 2 0), (x0.set.getD 3 0)] x0.kids), (0 : Int), ())).bind fun c1 =>
    some c1

theorem s338 : SoundFn Try.prog 38 (fnOf [.rx] (.one .bool) p338) :=
  fn_pure hm0 hng0 hΓ0 (t := [(50, fnOf [.rx, (.int .i64)] (.one .bool) p350)]) (all_cons s350 all_nil) (ls := []) (cmds := []) (leaves := []) (fr := []) (pt := []) (D := 1) all_nil (by kernel_rfl) (hfr := all_nil) fun x r h => by
    obtain ⟨x0, ⟨⟩⟩ := x
    refine Eq.trans ?_ h
    kernel_rfl

noncomputable def L339_3 (E39 : ((Rx) × Unit) → Option (Int)) : Nat → ((Unit × (Int) × (Int) × Unit) × (((Int) × (Int) × (Int) × (Int) × (Int) × (List (Rx)) × Unit) × Unit)) → Option (((Int) × Unit) × (Unit))
  | 0, _ => none
  | n + 1, ((_, x3, x4, ()), (y1, ())) =>
    if (decide (x4 < (y1.2.2.2.2.2.1.length : Int))) = true then
      if decide (0 ≤ x4 ∧ x4 < (y1.2.2.2.2.2.1.length : Int)) = true then
        (E39 ((Rx.mk (y1.2.2.2.2.2.1.getD x4.toNat (Rx.mk 0 [0, 0, 0, 0] [])).kind [((y1.2.2.2.2.2.1.getD x4.toNat (Rx.mk 0 [0, 0, 0, 0] [])).set.getD 0 0), ((y1.2.2.2.2.2.1.getD x4.toNat (Rx.mk 0 [0, 0, 0, 0] [])).set.getD 1 0), ((y1.2.2.2.2.2.1.getD x4.toNat (Rx.mk 0 [0, 0, 0, 0] [])).set.getD 2 0), ((y1.2.2.2.2.2.1.getD x4.toNat (Rx.mk 0 [0, 0, 0, 0] [])).set.getD 3 0)] (y1.2.2.2.2.2.1.getD x4.toNat (Rx.mk 0 [0, 0, 0, 0] [])).kids), ())).bind fun c1 =>
        L339_3 E39 n (((), (IntKind.i64.wrap (x3 + c1)), (IntKind.i64.wrap (x4 + (1 : Int))), ()), ((y1.1, y1.2.1, y1.2.2.1, y1.2.2.2.1, y1.2.2.2.2.1, y1.2.2.2.2.2.1, ()), ()))
      else
        none
    else
      some ((x3, ()), ())

noncomputable def EL339_3 (E39 : ((Rx) × Unit) → Option (Int)) : LoopEnt := ⟨[39], 3, ⟨[], [1, 3, 4], [1]⟩, [.ptr 1 0, .kd (.int .i64), .kd (.int .i64)], [.box [.kd (.int .i64), .kd (.int .u64), .kd (.int .u64), .kd (.int .u64), .kd (.int .u64), .kd (.slice .rx)]], [⟨(.exit 0), [3], [.kd (.int .i64)], [], []⟩], limit (L339_3 E39)⟩

noncomputable def O339 (E39 : ((Rx) × Unit) → Option (Int)) : Orc := mkOrc [(39, fnOf [.rx] (.one (.int .i64)) E39)] [(EL339_3 E39)] [] [] []

theorem cL339_3 (E39 : ((Rx) × Unit) → Option (Int)) : LoopCert Try.prog (O339 E39) Γ0 1 (EL339_3 E39) :=
  ⟨⟨39, 0, (L339_3 E39), rfl, by kernel_rfl, Nat.le_of_ble_eq_true (by kernel_rfl), limit_fn, fun _ => rfl, fun m old x r h => by
    obtain ⟨⟨x1, x3, x4, ⟨⟩⟩, y1, ⟨⟩⟩ := x
    refine Eq.trans ?_ h
    kernel_rfl⟩⟩

/-- emendate/emendateref09.Nodes -/
noncomputable def p339b (E39 : ((Rx) × Unit) → Option (Int)) : ((Rx) × Unit) → Option (Int)
  | (x0, ()) =>
    (limit (L339_3 E39) (((), (1 : Int), (0 : Int), ()), ((x0.kind, (x0.set.getD 0 0), (x0.set.getD 1 0), (x0.set.getD 2 0), (x0.set.getD 3 0), x0.kids, ()), ()))).bind fun r1 =>
    some r1.1.1

theorem s339b (E39 : ((Rx) × Unit) → Option (Int)) (hE39 : SoundFn Try.prog 39 (fnOf [.rx] (.one (.int .i64)) E39)) : SoundFn Try.prog 39 (fnOf [.rx] (.one (.int .i64)) (p339b E39)) :=
  fn_pure hm0 hng0 hΓ0 (t := [(39, fnOf [.rx] (.one (.int .i64)) E39)]) (all_cons hE39 all_nil) (ls := [(EL339_3 E39)]) (cmds := []) (leaves := []) (fr := []) (pt := []) (D := 1) (all_cons (cL339_3 E39) all_nil) (by kernel_rfl) (hfr := all_nil) fun x r h => by
    obtain ⟨x0, ⟨⟩⟩ := x
    refine Eq.trans ?_ h
    kernel_rfl

noncomputable def p339n : Nat → ((Rx) × Unit) → Option (Int)
  | 0, _ => none
  | n + 1, x => p339b (p339n n) x

theorem s339n : ∀ n, SoundFn Try.prog 39 (fnOf [.rx] (.one (.int .i64)) (p339n n)) :=
  fn_rec hng0 (by kernel_rfl) (fun _ => rfl) fun n h => s339b (p339n n) h

noncomputable def p339 : ((Rx) × Unit) → Option (Int) := limit p339n

theorem s339 : SoundFn Try.prog 39 (fnOf [.rx] (.one (.int .i64)) p339) := s339n fuel

noncomputable def L328_3 : Nat → (((List (Rx)) × (Int) × (Int) × Unit) × (Unit)) → Option ((((Int) × Unit) × (Unit)) ⊕ (((Int) × Unit) × (Unit)))
  | 0, _ => none
  | n + 1, ((x0, x3, x4, ()), ()) =>
    if (decide (x4 < (x0.length : Int))) = true then
      if decide (0 ≤ x4 ∧ x4 < (x0.length : Int)) = true then
        (p338 ((Rx.mk (x0.getD x4.toNat (Rx.mk 0 [0, 0, 0, 0] [])).kind [((x0.getD x4.toNat (Rx.mk 0 [0, 0, 0, 0] [])).set.getD 0 0), ((x0.getD x4.toNat (Rx.mk 0 [0, 0, 0, 0] [])).set.getD 1 0), ((x0.getD x4.toNat (Rx.mk 0 [0, 0, 0, 0] [])).set.getD 2 0), ((x0.getD x4.toNat (Rx.mk 0 [0, 0, 0, 0] [])).set.getD 3 0)] (x0.getD x4.toNat (Rx.mk 0 [0, 0, 0, 0] [])).kids), ())).bind fun c1 =>
        if (!c1) = true then
          some (.inl (((1 : Int), ()), ()))
        else
          if decide (0 ≤ x4 ∧ x4 < (x0.length : Int)) = true then
            (p339 ((Rx.mk (x0.getD x4.toNat (Rx.mk 0 [0, 0, 0, 0] [])).kind [((x0.getD x4.toNat (Rx.mk 0 [0, 0, 0, 0] [])).set.getD 0 0), ((x0.getD x4.toNat (Rx.mk 0 [0, 0, 0, 0] [])).set.getD 1 0), ((x0.getD x4.toNat (Rx.mk 0 [0, 0, 0, 0] [])).set.getD 2 0), ((x0.getD x4.toNat (Rx.mk 0 [0, 0, 0, 0] [])).set.getD 3 0)] (x0.getD x4.toNat (Rx.mk 0 [0, 0, 0, 0] [])).kids), ())).bind fun c2 =>
            L328_3 n ((x0, (IntKind.i64.wrap (x3 + c2)), (IntKind.i64.wrap (x4 + (1 : Int))), ()), ())
          else
            none
      else
        none
    else
      some (.inr ((x3, ()), ()))

noncomputable def EL328_3 : LoopEnt := ⟨[28], 3, ⟨[], [0, 3, 4], []⟩, [.kd (.slice .rx), .kd (.int .i64), .kd (.int .i64)], [], [⟨.ret, [2], [.kd (.int .i64)], [], []⟩, ⟨(.exit 0), [3], [.kd (.int .i64)], [], []⟩], limit L328_3⟩

noncomputable def O328 : Orc := mkOrc [(38, fnOf [.rx] (.one .bool) p338), (39, fnOf [.rx] (.one (.int .i64)) p339)] [EL328_3] [] [] []

theorem cL328_3 : LoopCert Try.prog O328 Γ0 1 EL328_3 :=
  ⟨⟨28, 0, L328_3, rfl, by kernel_rfl, by decide, limit_fn, fun _ => rfl, fun m old x r h => by
    obtain ⟨⟨x0, x3, x4, ⟨⟩⟩, ⟨⟩⟩ := x
    refine Eq.trans ?_ h
    kernel_rfl⟩⟩

/-- emendate/emendateref09.Check -/
noncomputable def p328 : ((List (Rx)) × Unit) → Option (Int)
  | (x0, ()) =>
    (limit L328_3 ((x0, (0 : Int), (0 : Int), ()), ())).bind (Sum.elim (fun r1 =>
      some r1.1.1) (fun r1 =>
      if (decide (r1.1.1 > (500 : Int))) = true then
        some (11 : Int)
      else
        some (0 : Int)))

theorem s328 : SoundFn Try.prog 28 (fnOf [(.slice .rx)] (.one (.int .i64)) p328) :=
  fn_pure hm0 hng0 hΓ0 (t := [(38, fnOf [.rx] (.one .bool) p338), (39, fnOf [.rx] (.one (.int .i64)) p339)]) (all_cons s338 (all_cons s339 all_nil)) (ls := [EL328_3]) (cmds := []) (leaves := []) (fr := []) (pt := []) (D := 1) (all_cons cL328_3 all_nil) (by kernel_rfl) (hfr := all_nil) fun x r h => by
    obtain ⟨x0, ⟨⟩⟩ := x
    refine Eq.trans ?_ h
    kernel_rfl

noncomputable def L323_4 : Nat → (((List (Rx)) × (Int) × Unit) × (Unit)) → Option ((((Bool) × Unit) × (Unit)) ⊕ ((Unit) × (Unit)))
  | 0, _ => none
  | n + 1, ((x0, x3, ()), ()) =>
    if (decide (x3 < (x0.length : Int))) = true then
      if decide (0 ≤ x3 ∧ x3 < (x0.length : Int)) = true then
        (p338 ((Rx.mk (x0.getD x3.toNat (Rx.mk 0 [0, 0, 0, 0] [])).kind [((x0.getD x3.toNat (Rx.mk 0 [0, 0, 0, 0] [])).set.getD 0 0), ((x0.getD x3.toNat (Rx.mk 0 [0, 0, 0, 0] [])).set.getD 1 0), ((x0.getD x3.toNat (Rx.mk 0 [0, 0, 0, 0] [])).set.getD 2 0), ((x0.getD x3.toNat (Rx.mk 0 [0, 0, 0, 0] [])).set.getD 3 0)] (x0.getD x3.toNat (Rx.mk 0 [0, 0, 0, 0] [])).kids), ())).bind fun c1 =>
        if (!c1) = true then
          some (.inl ((false, ()), ()))
        else
          if decide (0 ≤ x3 ∧ x3 < (x0.length : Int)) = true then
            (p339 ((Rx.mk (x0.getD x3.toNat (Rx.mk 0 [0, 0, 0, 0] [])).kind [((x0.getD x3.toNat (Rx.mk 0 [0, 0, 0, 0] [])).set.getD 0 0), ((x0.getD x3.toNat (Rx.mk 0 [0, 0, 0, 0] [])).set.getD 1 0), ((x0.getD x3.toNat (Rx.mk 0 [0, 0, 0, 0] [])).set.getD 2 0), ((x0.getD x3.toNat (Rx.mk 0 [0, 0, 0, 0] [])).set.getD 3 0)] (x0.getD x3.toNat (Rx.mk 0 [0, 0, 0, 0] [])).kids), ())).bind fun c2 =>
            if (decide (c2 > (30 : Int))) = true then
              some (.inl ((false, ()), ()))
            else
              L323_4 n ((x0, (IntKind.i64.wrap (x3 + (1 : Int))), ()), ())
          else
            none
      else
        none
    else
      some (.inr ((), ()))

noncomputable def EL323_4 : LoopEnt := ⟨[23], 4, ⟨[], [0, 3], []⟩, [.kd (.slice .rx), .kd (.int .i64)], [], [⟨.ret, [2], [.kd .bool], [], []⟩, ⟨(.exit 0), [], [], [], []⟩], limit L323_4⟩

noncomputable def O323 : Orc := mkOrc [(38, fnOf [.rx] (.one .bool) p338), (39, fnOf [.rx] (.one (.int .i64)) p339)] [EL323_4] [] [] []

theorem cL323_4 : LoopCert Try.prog O323 Γ0 1 EL323_4 :=
  ⟨⟨23, 0, L323_4, rfl, by kernel_rfl, by decide, limit_fn, fun _ => rfl, fun m old x r h => by
    obtain ⟨⟨x0, x3, ⟨⟩⟩, ⟨⟩⟩ := x
    refine Eq.trans ?_ h
    kernel_rfl⟩⟩

/-- emendate/emendatelaw09.few -/
noncomputable def p323 : ((List (Rx)) × Unit) → Option (Bool)
  | (x0, ()) =>
    if (decide ((x0.length : Int) > (6 : Int))) = true then
      some false
    else
      (limit L323_4 ((x0, (0 : Int), ()), ())).bind (Sum.elim (fun r1 =>
        some r1.1.1) (fun _ =>
        some true))

theorem s323 : SoundFn Try.prog 23 (fnOf [(.slice .rx)] (.one .bool) p323) :=
  fn_pure hm0 hng0 hΓ0 (t := [(38, fnOf [.rx] (.one .bool) p338), (39, fnOf [.rx] (.one (.int .i64)) p339)]) (all_cons s338 (all_cons s339 all_nil)) (ls := [EL323_4]) (cmds := []) (leaves := []) (fr := []) (pt := []) (D := 1) (all_cons cL323_4 all_nil) (by kernel_rfl) (hfr := all_nil) fun x r h => by
    obtain ⟨x0, ⟨⟩⟩ := x
    refine Eq.trans ?_ h
    kernel_rfl

noncomputable def O310 : Orc := mkOrc [(11, fnOf [] (.one .bool) p311), (12, fnOf [(.pair (.int .i64) (.pair (.int .i64) (.pair (.slice (.pair (.int .i64) (.pair (.int .i64) (.pair .bool (.pair (.arr 4 (.int .u64)) .unit))))) (.pair (.slice (.int .i64)) .unit))))] (.one .bool) p39), (24, fnOf [(.slice .rx)] (.tup [(.pair (.int .i64) (.pair (.int .i64) (.pair (.slice (.pair (.int .i64) (.pair (.int .i64) (.pair .bool (.pair (.arr 4 (.int .u64)) .unit))))) (.pair (.slice (.int .i64)) .unit)))), (.int .i64)]) p324), (28, fnOf [(.slice .rx)] (.one (.int .i64)) p328)] [] [] [] []

/-- emendate/emendatelaw09.NfaFromRegexesErrors -/
noncomputable def p310 : ((List (Rx)) × Unit) → Option (Bool)
  | (x0, ()) =>
    (p311 (())).bind fun c1 =>
    if (!c1) = true then
      some false
    else
      if (decide ((x0.length : Int) > (40 : Int))) = true then
        some true
      else
        (p324 (x0, ())).bind fun c2 =>
        (p328 (x0, ())).bind fun c3 =>
        if (decide (c2.2.1 = c3)) = true then
          (p39 ((c2.1.1, (c2.1.2.1, (c2.1.2.2.1, (c2.1.2.2.2.1, ())))), ())).bind fun c4 =>
          some ((decide (c2.2.1 = (0 : Int))) == c4)
        else
          some false

theorem s310 : SoundFn Try.prog 10 (fnOf [(.slice .rx)] (.one .bool) p310) :=
  fn_pure hm0 hng0 hΓ0 (t := [(11, fnOf [] (.one .bool) p311), (12, fnOf [(.pair (.int .i64) (.pair (.int .i64) (.pair (.slice (.pair (.int .i64) (.pair (.int .i64) (.pair .bool (.pair (.arr 4 (.int .u64)) .unit))))) (.pair (.slice (.int .i64)) .unit))))] (.one .bool) p39), (24, fnOf [(.slice .rx)] (.tup [(.pair (.int .i64) (.pair (.int .i64) (.pair (.slice (.pair (.int .i64) (.pair (.int .i64) (.pair .bool (.pair (.arr 4 (.int .u64)) .unit))))) (.pair (.slice (.int .i64)) .unit)))), (.int .i64)]) p324), (28, fnOf [(.slice .rx)] (.one (.int .i64)) p328)]) (all_cons s311 (all_cons s39 (all_cons s324 (all_cons s328 all_nil)))) (ls := []) (cmds := []) (leaves := []) (fr := []) (pt := []) (D := 1) all_nil (by kernel_rfl) (hfr := all_nil) fun x r h => by
    obtain ⟨x0, ⟨⟩⟩ := x
    refine Eq.trans ?_ h
    kernel_rfl

end Go.AM
