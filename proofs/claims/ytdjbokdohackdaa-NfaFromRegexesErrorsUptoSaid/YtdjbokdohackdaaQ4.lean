/- Copies of the pure forms that the kernel can run. -/
import Derived.Test.YtdjbokdohackdaaH3
namespace Go.AM
open Go

noncomputable def fp60 : ((List (Int)) × (Int) × Unit) → Option (Bool)
  | (x0, x1, ()) =>
    if decide ((64 : Int) = 0) = true then
      none
    else
      if decide (0 ≤ (IntKind.u8.wrap (x1.tdiv (64 : Int))) ∧ (IntKind.u8.wrap (x1.tdiv (64 : Int))) < (4 : Int)) = true then
        if decide ((64 : Int) = 0) = true then
          none
        else
          if decide (0 ≤ (x1.tmod (64 : Int))) = true then
            some (decide ((IntKind.u64.wrap ((BitVec.ofInt (IntKind.u64.bits) (([(x0.getD 0 0), (x0.getD 1 0), (x0.getD 2 0), (x0.getD 3 0)].getD (IntKind.u8.wrap (x1.tdiv (64 : Int))).toNat 0).fdiv (2 ^ (min (x1.tmod (64 : Int)).toNat (IntKind.u64.bits)))) &&& BitVec.ofInt (IntKind.u64.bits) (1 : Int)).toNat : Nat)) = (1 : Int)))
          else
            none
      else
        none

theorem ep60 : p60 = fp60 := by
  funext x
  obtain ⟨x0, x1, ⟨⟩⟩ := x
  simp only [p60, fp60]

noncomputable def fp59 : ((Int) × Unit) → Option (Bool)
  | (x0, ()) =>
    some (decide (x0 < (-1 : Int)))

theorem ep59 : p59 = fp59 := by
  funext x
  obtain ⟨x0, ⟨⟩⟩ := x
  simp only [p59, fp59]

noncomputable def fL39_5 : Nat → ((Unit × Unit × (List ((Int) × ((Int) × ((Bool) × ((List (Int)) × (Unit)))))) × (Int) × (Int) × Unit) × (((Int) × (Int) × (List ((Int) × ((Int) × ((Bool) × ((List (Int)) × (Unit)))))) × (List (Int)) × Unit) × Unit)) → Option ((((Bool) × Unit) × (Unit)) ⊕ ((Unit × Unit) × (((Int) × (Int) × (List ((Int) × ((Int) × ((Bool) × ((List (Int)) × (Unit)))))) × (List (Int)) × Unit) × Unit)))
  | 0, _ => none
  | n + 1, ((_, _, x31, x32, x33, ()), (y1, ())) =>
    if (decide (x33 < x32)) = true then
      if decide (0 ≤ x33 ∧ x33 < (x31.length : Int)) = true then
        if (decide ((x31.getD x33.toNat (0, (0, (false, ((List.replicate 4 0), ()))))).1 ≥ (0 : Int))) = true then
          if (!(decide ((x31.getD x33.toNat (0, (0, (false, ((List.replicate 4 0), ()))))).1 < y1.1))) = true then
            some (.inl ((false, ()), ()))
          else
            if (decide ((x31.getD x33.toNat (0, (0, (false, ((List.replicate 4 0), ()))))).2.1 ≥ (0 : Int))) = true then
              if (!(decide ((x31.getD x33.toNat (0, (0, (false, ((List.replicate 4 0), ()))))).2.1 < y1.1))) = true then
                some (.inl ((false, ()), ()))
              else
                if (x31.getD x33.toNat (0, (0, (false, ((List.replicate 4 0), ()))))).2.2.1 = true then
                  if (!(Kind.eqB (.arr 4 (.int .u64)) [((x31.getD x33.toNat (0, (0, (false, ((List.replicate 4 0), ()))))).2.2.2.1.getD 0 0), ((x31.getD x33.toNat (0, (0, (false, ((List.replicate 4 0), ()))))).2.2.2.1.getD 1 0), ((x31.getD x33.toNat (0, (0, (false, ((List.replicate 4 0), ()))))).2.2.2.1.getD 2 0), ((x31.getD x33.toNat (0, (0, (false, ((List.replicate 4 0), ()))))).2.2.2.1.getD 3 0)] [(0 : Int), (0 : Int), (0 : Int), (0 : Int)])) = true then
                    some (.inl ((false, ()), ()))
                  else
                    fL39_5 n (((), (), x31, x32, (IntKind.i64.wrap (x33 + (1 : Int))), ()), ((y1.1, y1.2.1, y1.2.2.1, y1.2.2.2.1, ()), ()))
                else
                  fL39_5 n (((), (), x31, x32, (IntKind.i64.wrap (x33 + (1 : Int))), ()), ((y1.1, y1.2.1, y1.2.2.1, y1.2.2.2.1, ()), ()))
            else
              some (.inl ((false, ()), ()))
        else
          some (.inl ((false, ()), ()))
      else
        none
    else
      some (.inr (((), ()), ((y1.1, y1.2.1, y1.2.2.1, y1.2.2.2.1, ()), ())))

theorem eL39_5 : ∀ n x, L39_5 n x = fL39_5 n x := by
  intro n
  induction n with
  | zero => intro x; rfl
  | succ n ih =>
    intro x
    obtain ⟨⟨z1, z2, x31, x32, x33, ⟨⟩⟩, ⟨y1, ⟨⟩⟩⟩ := x
    simp only [L39_5, fL39_5, ih]

noncomputable def fL54_27_39_2 : Nat → (((List (Int)) × Unit × (Int) × (Int) × Unit) × (((Int) × (Int) × (List ((Int) × ((Int) × ((Bool) × ((List (Int)) × (Unit)))))) × (List (Int)) × Unit) × Unit)) → Option ((((Int) × Unit) × (((Int) × (Int) × (List ((Int) × ((Int) × ((Bool) × ((List (Int)) × (Unit)))))) × (List (Int)) × Unit) × Unit)) ⊕ ((Unit) × (((Int) × (Int) × (List ((Int) × ((Int) × ((Bool) × ((List (Int)) × (Unit)))))) × (List (Int)) × Unit) × Unit)))
  | 0, _ => none
  | n + 1, ((x0, _, x7, x8, ()), (y1, ())) =>
    if (decide (x8 < x7)) = true then
      if decide (0 ≤ x8 ∧ x8 < (x0.length : Int)) = true then
        (fp59 ((x0.getD x8.toNat 0), ())).bind fun c1 =>
        if c1 = true then
          some (.inl ((x8, ()), ((y1.1, y1.2.1, y1.2.2.1, y1.2.2.2.1, ()), ())))
        else
          fL54_27_39_2 n ((x0, (), x7, (IntKind.i64.wrap (x8 + (1 : Int))), ()), ((y1.1, y1.2.1, y1.2.2.1, y1.2.2.2.1, ()), ()))
      else
        none
    else
      some (.inr ((), ((y1.1, y1.2.1, y1.2.2.1, y1.2.2.2.1, ()), ())))

theorem eL54_27_39_2 : ∀ n x, L54_27_39_2 n x = fL54_27_39_2 n x := by
  intro n
  induction n with
  | zero => intro x; rfl
  | succ n ih =>
    intro x
    obtain ⟨⟨x0, z1, x7, x8, ⟨⟩⟩, ⟨y1, ⟨⟩⟩⟩ := x
    simp only [L54_27_39_2, fL54_27_39_2, ih, ep59]

noncomputable def fp39 : (((Int) × ((Int) × ((List ((Int) × ((Int) × ((Bool) × ((List (Int)) × (Unit)))))) × ((List (Int)) × (Unit))))) × Unit) → Option (Bool)
  | (x0, ()) =>
    if (decide (x0.1 < (1 : Int))) = true then
      some false
    else
      if (decide (x0.1 > (2000 : Int))) = true then
        some false
      else
        if (decide (x0.2.1 ≥ (0 : Int))) = true then
          if (!(decide (x0.2.1 < x0.1))) = true then
            some false
          else
            if (!decide ((x0.2.2.2.1.length : Int) = x0.1)) = true then
              some false
            else
              (flimit fL39_5 (((), (), x0.2.2.1, (x0.2.2.1.length : Int), (0 : Int), ()), ((x0.1, x0.2.1, x0.2.2.1, x0.2.2.2.1, ()), ()))).bind (Sum.elim (fun r1 =>
                some r1.1.1) (fun r1 =>
                (flimit fL54_27_39_2 ((r1.2.1.2.2.2.1, (), (r1.2.1.2.2.2.1.length : Int), (0 : Int), ()), ((r1.2.1.1, r1.2.1.2.1, r1.2.1.2.2.1, r1.2.1.2.2.2.1, ()), ()))).bind (Sum.elim (fun r2 =>
                  some (!(decide (r2.1.1 ≥ (0 : Int))))) (fun _ =>
                  some (!(decide ((-1 : Int) ≥ (0 : Int))))))))
        else
          some false

theorem ep39 : p39 = fp39 := by
  funext x
  obtain ⟨x0, ⟨⟩⟩ := x
  simp only [p39, fp39, limit_flimit eL39_5, limit_flimit eL54_27_39_2]

noncomputable def fL41_5 : Nat → ((Unit × Unit × Unit × Unit × (List (Int)) × (Int) × (Int) × Unit) × (((Int) × (Int) × (List ((Int) × ((Int) × ((Bool) × ((List (Int)) × (Unit)))))) × (List (Int)) × Unit) × (Unit × Unit) × (Unit × Unit) × (List (Bool)) × (List (Int)) × Unit)) → Option ((Unit × Unit × Unit × Unit × Unit) × (((Int) × (Int) × (List ((Int) × ((Int) × ((Bool) × ((List (Int)) × (Unit)))))) × (List (Int)) × Unit) × (Unit × Unit) × (Unit × Unit) × (List (Bool)) × (List (Int)) × Unit))
  | 0, _ => none
  | n + 1, ((_, _, _, _, x17, x18, x19, ()), (y2, _, _, y15, y306, ())) =>
    if (decide (x19 < x18)) = true then
      if decide (0 ≤ x19 ∧ x19 < (x17.length : Int)) = true then
        if (decide ((x17.getD x19.toNat 0) ≥ (0 : Int))) = true then
          if (decide ((x17.getD x19.toNat 0) < y2.1)) = true then
            if decide (0 ≤ (x17.getD x19.toNat 0) ∧ (x17.getD x19.toNat 0) < (y15.length : Int)) = true then
              if (!(y15.getD (x17.getD x19.toNat 0).toNat false)) = true then
                if decide (0 ≤ (x17.getD x19.toNat 0) ∧ (x17.getD x19.toNat 0) < (y15.length : Int)) = true then
                  if decide (y306.length + ([(x17.getD x19.toNat 0)] : List (Int)).length ≤ lim) = true then
                    fL41_5 n (((), (), (), (), x17, x18, (IntKind.i64.wrap (x19 + (1 : Int))), ()), ((y2.1, y2.2.1, y2.2.2.1, y2.2.2.2.1, ()), ((), ()), ((), ()), (y15.set (x17.getD x19.toNat 0).toNat true), (y306 ++ ([(x17.getD x19.toNat 0)] : List (Int))), ()))
                  else
                    none
                else
                  none
              else
                fL41_5 n (((), (), (), (), x17, x18, (IntKind.i64.wrap (x19 + (1 : Int))), ()), ((y2.1, y2.2.1, y2.2.2.1, y2.2.2.2.1, ()), ((), ()), ((), ()), y15, y306, ()))
            else
              none
          else
            fL41_5 n (((), (), (), (), x17, x18, (IntKind.i64.wrap (x19 + (1 : Int))), ()), ((y2.1, y2.2.1, y2.2.2.1, y2.2.2.2.1, ()), ((), ()), ((), ()), y15, y306, ()))
        else
          fL41_5 n (((), (), (), (), x17, x18, (IntKind.i64.wrap (x19 + (1 : Int))), ()), ((y2.1, y2.2.1, y2.2.2.1, y2.2.2.2.1, ()), ((), ()), ((), ()), y15, y306, ()))
      else
        none
    else
      some (((), (), (), (), ()), ((y2.1, y2.2.1, y2.2.2.1, y2.2.2.2.1, ()), ((), ()), ((), ()), y15, y306, ()))

theorem eL41_5 : ∀ n x, L41_5 n x = fL41_5 n x := by
  intro n
  induction n with
  | zero => intro x; rfl
  | succ n ih =>
    intro x
    obtain ⟨⟨z1, z2, z3, z4, x17, x18, x19, ⟨⟩⟩, ⟨y2, z5, z6, y15, y306, ⟨⟩⟩⟩ := x
    simp only [L41_5, fL41_5, ih]

noncomputable def fL41_13 : Nat → ((Unit × Unit × Unit × Unit × (Int) × (List ((Int) × ((Int) × ((Bool) × ((List (Int)) × (Unit)))))) × (Int) × (Int) × Unit) × (((Int) × (Int) × (List ((Int) × ((Int) × ((Bool) × ((List (Int)) × (Unit)))))) × (List (Int)) × Unit) × (Unit × Unit) × (Unit × Unit) × (List (Bool)) × (List (Int)) × Unit)) → Option ((Unit × Unit × Unit × Unit × Unit) × (((Int) × (Int) × (List ((Int) × ((Int) × ((Bool) × ((List (Int)) × (Unit)))))) × (List (Int)) × Unit) × (Unit × Unit) × (Unit × Unit) × (List (Bool)) × (List (Int)) × Unit))
  | 0, _ => none
  | n + 1, ((_, _, _, _, x10, x42, x43, x44, ()), (y2, _, _, y15, y306, ())) =>
    if (decide (x44 < x43)) = true then
      if decide (0 ≤ x44 ∧ x44 < (x42.length : Int)) = true then
        if (x42.getD x44.toNat (0, (0, (false, ((List.replicate 4 0), ()))))).2.2.1 = true then
          if (decide ((x42.getD x44.toNat (0, (0, (false, ((List.replicate 4 0), ()))))).1 = x10)) = true then
            if (decide ((x42.getD x44.toNat (0, (0, (false, ((List.replicate 4 0), ()))))).2.1 ≥ (0 : Int))) = true then
              if (decide ((x42.getD x44.toNat (0, (0, (false, ((List.replicate 4 0), ()))))).2.1 < y2.1)) = true then
                if decide (0 ≤ (x42.getD x44.toNat (0, (0, (false, ((List.replicate 4 0), ()))))).2.1 ∧ (x42.getD x44.toNat (0, (0, (false, ((List.replicate 4 0), ()))))).2.1 < (y15.length : Int)) = true then
                  if (!(y15.getD (x42.getD x44.toNat (0, (0, (false, ((List.replicate 4 0), ()))))).2.1.toNat false)) = true then
                    if decide (0 ≤ (x42.getD x44.toNat (0, (0, (false, ((List.replicate 4 0), ()))))).2.1 ∧ (x42.getD x44.toNat (0, (0, (false, ((List.replicate 4 0), ()))))).2.1 < (y15.length : Int)) = true then
                      if decide (y306.length + ([(x42.getD x44.toNat (0, (0, (false, ((List.replicate 4 0), ()))))).2.1] : List (Int)).length ≤ lim) = true then
                        fL41_13 n (((), (), (), (), x10, x42, x43, (IntKind.i64.wrap (x44 + (1 : Int))), ()), ((y2.1, y2.2.1, y2.2.2.1, y2.2.2.2.1, ()), ((), ()), ((), ()), (y15.set (x42.getD x44.toNat (0, (0, (false, ((List.replicate 4 0), ()))))).2.1.toNat true), (y306 ++ ([(x42.getD x44.toNat (0, (0, (false, ((List.replicate 4 0), ()))))).2.1] : List (Int))), ()))
                      else
                        none
                    else
                      none
                  else
                    fL41_13 n (((), (), (), (), x10, x42, x43, (IntKind.i64.wrap (x44 + (1 : Int))), ()), ((y2.1, y2.2.1, y2.2.2.1, y2.2.2.2.1, ()), ((), ()), ((), ()), y15, y306, ()))
                else
                  none
              else
                fL41_13 n (((), (), (), (), x10, x42, x43, (IntKind.i64.wrap (x44 + (1 : Int))), ()), ((y2.1, y2.2.1, y2.2.2.1, y2.2.2.2.1, ()), ((), ()), ((), ()), y15, y306, ()))
            else
              fL41_13 n (((), (), (), (), x10, x42, x43, (IntKind.i64.wrap (x44 + (1 : Int))), ()), ((y2.1, y2.2.1, y2.2.2.1, y2.2.2.2.1, ()), ((), ()), ((), ()), y15, y306, ()))
          else
            fL41_13 n (((), (), (), (), x10, x42, x43, (IntKind.i64.wrap (x44 + (1 : Int))), ()), ((y2.1, y2.2.1, y2.2.2.1, y2.2.2.2.1, ()), ((), ()), ((), ()), y15, y306, ()))
        else
          fL41_13 n (((), (), (), (), x10, x42, x43, (IntKind.i64.wrap (x44 + (1 : Int))), ()), ((y2.1, y2.2.1, y2.2.2.1, y2.2.2.2.1, ()), ((), ()), ((), ()), y15, y306, ()))
      else
        none
    else
      some (((), (), (), (), ()), ((y2.1, y2.2.1, y2.2.2.1, y2.2.2.2.1, ()), ((), ()), ((), ()), y15, y306, ()))

theorem eL41_13 : ∀ n x, L41_13 n x = fL41_13 n x := by
  intro n
  induction n with
  | zero => intro x; rfl
  | succ n ih =>
    intro x
    obtain ⟨⟨z1, z2, z3, z4, x10, x42, x43, x44, ⟨⟩⟩, ⟨y2, z5, z6, y15, y306, ⟨⟩⟩⟩ := x
    simp only [L41_13, fL41_13, ih]

noncomputable def fL41_9 : Nat → ((Unit × Unit × Unit × Unit × Unit) × (((Int) × (Int) × (List ((Int) × ((Int) × ((Bool) × ((List (Int)) × (Unit)))))) × (List (Int)) × Unit) × (Unit × Unit) × (Unit × Unit) × (List (Bool)) × (List (Int)) × Unit)) → Option ((Unit × Unit) × ((Unit × Unit) × (List (Bool)) × Unit))
  | 0, _ => none
  | n + 1, ((_, _, _, _, ()), (y2, _, _, y15, y306, ())) =>
    if (decide ((y306.length : Int) > (0 : Int))) = true then
      if decide (0 ≤ (IntKind.i64.wrap ((y306.length : Int) - (1 : Int))) ∧ (IntKind.i64.wrap ((y306.length : Int) - (1 : Int))) < (y306.length : Int)) = true then
        if decide (0 ≤ (IntKind.i64.wrap ((y306.length : Int) - (1 : Int))) ∧ (IntKind.i64.wrap ((y306.length : Int) - (1 : Int))) ≤ (y306.length : Int)) = true then
          (flimit fL41_13 (((), (), (), (), (y306.getD (IntKind.i64.wrap ((y306.length : Int) - (1 : Int))).toNat 0), y2.2.2.1, (y2.2.2.1.length : Int), (0 : Int), ()), ((y2.1, y2.2.1, y2.2.2.1, y2.2.2.2.1, ()), ((), ()), ((), ()), y15, (y306.take (IntKind.i64.wrap ((y306.length : Int) - (1 : Int))).toNat), ()))).bind fun r1 =>
          fL41_9 n (((), (), (), (), ()), ((r1.2.1.1, r1.2.1.2.1, r1.2.1.2.2.1, r1.2.1.2.2.2.1, ()), ((), ()), ((), ()), r1.2.2.2.2.1, r1.2.2.2.2.2.1, ()))
        else
          none
      else
        none
    else
      some (((), ()), (((), ()), y15, ()))

theorem eL41_9 : ∀ n x, L41_9 n x = fL41_9 n x := by
  intro n
  induction n with
  | zero => intro x; rfl
  | succ n ih =>
    intro x
    obtain ⟨⟨z1, z2, z3, z4, ⟨⟩⟩, ⟨y2, z5, z6, y15, y306, ⟨⟩⟩⟩ := x
    simp only [L41_9, fL41_9, ih, limit_flimit eL41_13]

noncomputable def fL62_41_3 : Nat → ((Unit × Unit × (Int) × (Int) × Unit) × ((Unit × Unit) × (List (Bool)) × (List (Int)) × Unit)) → Option ((Unit × Unit) × ((Unit × Unit) × (List (Bool)) × (List (Int)) × Unit))
  | 0, _ => none
  | n + 1, ((_, _, x7, x8, ()), (_, y15, y1003, ())) =>
    if (decide (x8 < x7)) = true then
      if decide (0 ≤ x8 ∧ x8 < (y15.length : Int)) = true then
        if (y15.getD x8.toNat false) = true then
          if decide (y1003.length + ([x8] : List (Int)).length ≤ lim) = true then
            fL62_41_3 n (((), (), x7, (IntKind.i64.wrap (x8 + (1 : Int))), ()), (((), ()), y15, (y1003 ++ ([x8] : List (Int))), ()))
          else
            none
        else
          fL62_41_3 n (((), (), x7, (IntKind.i64.wrap (x8 + (1 : Int))), ()), (((), ()), y15, y1003, ()))
      else
        none
    else
      some (((), ()), (((), ()), y15, y1003, ()))

theorem eL62_41_3 : ∀ n x, L62_41_3 n x = fL62_41_3 n x := by
  intro n
  induction n with
  | zero => intro x; rfl
  | succ n ih =>
    intro x
    obtain ⟨⟨z1, z2, x7, x8, ⟨⟩⟩, ⟨z3, y15, y1003, ⟨⟩⟩⟩ := x
    simp only [L62_41_3, fL62_41_3, ih]

noncomputable def fp41 : (((Int) × ((Int) × ((List ((Int) × ((Int) × ((Bool) × ((List (Int)) × (Unit)))))) × ((List (Int)) × (Unit))))) × (List (Int)) × Unit) → Option (List (Int))
  | (x0, x1, ()) =>
    if decide (x0.1 = x0.1 ∧ 0 ≤ x0.1 ∧ x0.1 ≤ (lim : Int)) = true then
      (flimit fL41_5 (((), (), (), (), x1, (x1.length : Int), (0 : Int), ()), ((x0.1, x0.2.1, x0.2.2.1, x0.2.2.2.1, ()), ((), ()), ((), ()), (List.replicate x0.1.toNat false), ([] : List (Int)), ()))).bind fun r1 =>
      (flimit fL41_9 (((), (), (), (), ()), ((r1.2.1.1, r1.2.1.2.1, r1.2.1.2.2.1, r1.2.1.2.2.2.1, ()), ((), ()), ((), ()), r1.2.2.2.2.1, r1.2.2.2.2.2.1, ()))).bind fun r2 =>
      (flimit fL62_41_3 (((), (), (r2.2.2.1.length : Int), (0 : Int), ()), (((), ()), r2.2.2.1, ([] : List (Int)), ()))).bind fun r3 =>
      some r3.2.2.2.1
    else
      none

theorem ep41 : p41 = fp41 := by
  funext x
  obtain ⟨x0, x1, ⟨⟩⟩ := x
  simp only [p41, fp41, limit_flimit eL41_5, limit_flimit eL41_9, limit_flimit eL62_41_3]

noncomputable def fL43_3 : Nat → (((Int) × Unit × Unit × (List (Int)) × (Int) × (Int) × Unit) × (((Int) × (Int) × (List ((Int) × ((Int) × ((Bool) × ((List (Int)) × (Unit)))))) × (List (Int)) × Unit) × (List (Bool)) × Unit)) → Option (((Int) × Unit × Unit × Unit) × (((Int) × (Int) × (List ((Int) × ((Int) × ((Bool) × ((List (Int)) × (Unit)))))) × (List (Int)) × Unit) × (List (Bool)) × Unit))
  | 0, _ => none
  | n + 1, ((x2, _, _, x18, x19, x20, ()), (y3, y15, ())) =>
    if (decide (x20 < x19)) = true then
      if decide (0 ≤ x20 ∧ x20 < (x18.length : Int)) = true then
        if decide (0 ≤ (x18.getD x20.toNat 0) ∧ (x18.getD x20.toNat 0) < (y15.length : Int)) = true then
          fL43_3 n ((x2, (), (), x18, x19, (IntKind.i64.wrap (x20 + (1 : Int))), ()), ((y3.1, y3.2.1, y3.2.2.1, y3.2.2.2.1, ()), (y15.set (x18.getD x20.toNat 0).toNat true), ()))
        else
          none
      else
        none
    else
      some ((x2, (), (), ()), ((y3.1, y3.2.1, y3.2.2.1, y3.2.2.2.1, ()), y15, ()))

theorem eL43_3 : ∀ n x, L43_3 n x = fL43_3 n x := by
  intro n
  induction n with
  | zero => intro x; rfl
  | succ n ih =>
    intro x
    obtain ⟨⟨x2, z1, z2, x18, x19, x20, ⟨⟩⟩, ⟨y3, y15, ⟨⟩⟩⟩ := x
    simp only [L43_3, fL43_3, ih]

noncomputable def fL43_9 : Nat → (((Int) × Unit × Unit × Unit × (List ((Int) × ((Int) × ((Bool) × ((List (Int)) × (Unit)))))) × (Int) × (Int) × Unit) × (((Int) × (Int) × (List ((Int) × ((Int) × ((Bool) × ((List (Int)) × (Unit)))))) × (List (Int)) × Unit) × (List (Int)) × (List (Bool)) × Unit)) → Option ((Unit × Unit × Unit) × (((Int) × (Int) × (List ((Int) × ((Int) × ((Bool) × ((List (Int)) × (Unit)))))) × (List (Int)) × Unit) × (List (Int)) × Unit))
  | 0, _ => none
  | n + 1, ((x2, _, _, _, x29, x30, x31, ()), (y3, y10, y15, ())) =>
    if (decide (x31 < x30)) = true then
      if decide (0 ≤ x31 ∧ x31 < (x29.length : Int)) = true then
        if (!(x29.getD x31.toNat (0, (0, (false, ((List.replicate 4 0), ()))))).2.2.1) = true then
          if decide (0 ≤ (x29.getD x31.toNat (0, (0, (false, ((List.replicate 4 0), ()))))).1 ∧ (x29.getD x31.toNat (0, (0, (false, ((List.replicate 4 0), ()))))).1 < (y15.length : Int)) = true then
            if (y15.getD (x29.getD x31.toNat (0, (0, (false, ((List.replicate 4 0), ()))))).1.toNat false) = true then
              (fp60 ([((x29.getD x31.toNat (0, (0, (false, ((List.replicate 4 0), ()))))).2.2.2.1.getD 0 0), ((x29.getD x31.toNat (0, (0, (false, ((List.replicate 4 0), ()))))).2.2.2.1.getD 1 0), ((x29.getD x31.toNat (0, (0, (false, ((List.replicate 4 0), ()))))).2.2.2.1.getD 2 0), ((x29.getD x31.toNat (0, (0, (false, ((List.replicate 4 0), ()))))).2.2.2.1.getD 3 0)], x2, ())).bind fun c1 =>
              if c1 = true then
                if decide (y10.length + ([(x29.getD x31.toNat (0, (0, (false, ((List.replicate 4 0), ()))))).2.1] : List (Int)).length ≤ lim) = true then
                  fL43_9 n ((x2, (), (), (), x29, x30, (IntKind.i64.wrap (x31 + (1 : Int))), ()), ((y3.1, y3.2.1, y3.2.2.1, y3.2.2.2.1, ()), (y10 ++ ([(x29.getD x31.toNat (0, (0, (false, ((List.replicate 4 0), ()))))).2.1] : List (Int))), y15, ()))
                else
                  none
              else
                fL43_9 n ((x2, (), (), (), x29, x30, (IntKind.i64.wrap (x31 + (1 : Int))), ()), ((y3.1, y3.2.1, y3.2.2.1, y3.2.2.2.1, ()), y10, y15, ()))
            else
              fL43_9 n ((x2, (), (), (), x29, x30, (IntKind.i64.wrap (x31 + (1 : Int))), ()), ((y3.1, y3.2.1, y3.2.2.1, y3.2.2.2.1, ()), y10, y15, ()))
          else
            none
        else
          fL43_9 n ((x2, (), (), (), x29, x30, (IntKind.i64.wrap (x31 + (1 : Int))), ()), ((y3.1, y3.2.1, y3.2.2.1, y3.2.2.2.1, ()), y10, y15, ()))
      else
        none
    else
      some (((), (), ()), ((y3.1, y3.2.1, y3.2.2.1, y3.2.2.2.1, ()), y10, ()))

theorem eL43_9 : ∀ n x, L43_9 n x = fL43_9 n x := by
  intro n
  induction n with
  | zero => intro x; rfl
  | succ n ih =>
    intro x
    obtain ⟨⟨x2, z1, z2, z3, x29, x30, x31, ⟨⟩⟩, ⟨y3, y10, y15, ⟨⟩⟩⟩ := x
    simp only [L43_9, fL43_9, ih, ep60]

noncomputable def fp43 : (((Int) × ((Int) × ((List ((Int) × ((Int) × ((Bool) × ((List (Int)) × (Unit)))))) × ((List (Int)) × (Unit))))) × (List (Int)) × (Int) × Unit) → Option (List (Int))
  | (x0, x1, x2, ()) =>
    if decide (x0.1 = x0.1 ∧ 0 ≤ x0.1 ∧ x0.1 ≤ (lim : Int)) = true then
      (fp41 ((x0.1, (x0.2.1, (x0.2.2.1, (x0.2.2.2.1, ())))), x1, ())).bind fun c1 =>
      (flimit fL43_3 ((x2, (), (), c1, (c1.length : Int), (0 : Int), ()), ((x0.1, x0.2.1, x0.2.2.1, x0.2.2.2.1, ()), (List.replicate x0.1.toNat false), ()))).bind fun r2 =>
      (flimit fL43_9 ((r2.1.1, (), (), (), r2.2.1.2.2.1, (r2.2.1.2.2.1.length : Int), (0 : Int), ()), ((r2.2.1.1, r2.2.1.2.1, r2.2.1.2.2.1, r2.2.1.2.2.2.1, ()), ([] : List (Int)), r2.2.2.1, ()))).bind fun r3 =>
      (fp41 ((r3.2.1.1, (r3.2.1.2.1, (r3.2.1.2.2.1, (r3.2.1.2.2.2.1, ())))), r3.2.2.1, ())).bind fun c4 =>
      some c4
    else
      none

theorem ep43 : p43 = fp43 := by
  funext x
  obtain ⟨x0, x1, x2, ⟨⟩⟩ := x
  simp only [p43, fp43, limit_flimit eL43_3, limit_flimit eL43_9, ep41]

noncomputable def fL351_17 (E51 : ((Rx) × (Int) × Unit) → Option (Bool)) : Nat → (((Int) × (List (Rx)) × (Int) × (Int) × Unit) × (Unit)) → Option ((((Bool) × Unit) × (Unit)) ⊕ ((Unit) × (Unit)))
  | 0, _ => none
  | n + 1, ((x1, x48, x49, x50, ()), ()) =>
    if (decide (x50 < x49)) = true then
      if decide (0 ≤ x50 ∧ x50 < (x48.length : Int)) = true then
        (E51 ((Rx.mk (x48.getD x50.toNat (Rx.mk 0 [0, 0, 0, 0] [])).kind [((x48.getD x50.toNat (Rx.mk 0 [0, 0, 0, 0] [])).set.getD 0 0), ((x48.getD x50.toNat (Rx.mk 0 [0, 0, 0, 0] [])).set.getD 1 0), ((x48.getD x50.toNat (Rx.mk 0 [0, 0, 0, 0] [])).set.getD 2 0), ((x48.getD x50.toNat (Rx.mk 0 [0, 0, 0, 0] [])).set.getD 3 0)] (x48.getD x50.toNat (Rx.mk 0 [0, 0, 0, 0] [])).kids), (IntKind.i64.wrap (x1 - (1 : Int))), ())).bind fun c1 =>
        if (!c1) = true then
          some (.inl ((false, ()), ()))
        else
          fL351_17 E51 n ((x1, x48, x49, (IntKind.i64.wrap (x50 + (1 : Int))), ()), ())
      else
        none
    else
      some (.inr ((), ()))

theorem eL351_17 (E51) : ∀ n x, L351_17 E51 n x = fL351_17 E51 n x := by
  intro n
  induction n with
  | zero => intro x; rfl
  | succ n ih =>
    intro x
    obtain ⟨⟨x1, x48, x49, x50, ⟨⟩⟩, ⟨⟩⟩ := x
    simp only [L351_17, fL351_17, ih]

noncomputable def fp351b (E51 : ((Rx) × (Int) × Unit) → Option (Bool)) : ((Rx) × (Int) × Unit) → Option (Bool)
  | (x0, x1, ()) =>
    if (decide (x1 = (0 : Int))) = true then
      some false
    else
      if ((decide (x0.kind = (3 : Int))) == (Kind.eqB (.arr 4 (.int .u64)) [(x0.set.getD 0 0), (x0.set.getD 1 0), (x0.set.getD 2 0), (x0.set.getD 3 0)] [(0 : Int), (0 : Int), (0 : Int), (0 : Int)])) = true then
        some false
      else
        if (decide (x0.kind = (1 : Int))) = true then
          if (decide ((x0.kids.length : Int) < (0 : Int))) = true then
            some false
          else
            if (decide ((x0.kids.length : Int) > (0 : Int))) = true then
              some false
            else
              (flimit (fL351_17 E51) ((x1, x0.kids, (x0.kids.length : Int), (0 : Int), ()), ())).bind (Sum.elim (fun r1 =>
                some r1.1.1) (fun _ =>
                some true))
        else
          if (decide (x0.kind = (2 : Int))) = true then
            if (decide ((x0.kids.length : Int) < (0 : Int))) = true then
              some false
            else
              if (decide ((x0.kids.length : Int) > (0 : Int))) = true then
                some false
              else
                (flimit (fL351_17 E51) ((x1, x0.kids, (x0.kids.length : Int), (0 : Int), ()), ())).bind (Sum.elim (fun r2 =>
                  some r2.1.1) (fun _ =>
                  some true))
          else
            if (decide (x0.kind = (3 : Int))) = true then
              if (decide ((x0.kids.length : Int) < (0 : Int))) = true then
                some false
              else
                if (decide ((x0.kids.length : Int) > (0 : Int))) = true then
                  some false
                else
                  (flimit (fL351_17 E51) ((x1, x0.kids, (x0.kids.length : Int), (0 : Int), ()), ())).bind (Sum.elim (fun r3 =>
                    some r3.1.1) (fun _ =>
                    some true))
            else
              if (decide (x0.kind = (4 : Int))) = true then
                if (decide ((x0.kids.length : Int) < (2 : Int))) = true then
                  some false
                else
                  if (decide ((x0.kids.length : Int) > (x0.kids.length : Int))) = true then
                    some false
                  else
                    (flimit (fL351_17 E51) ((x1, x0.kids, (x0.kids.length : Int), (0 : Int), ()), ())).bind (Sum.elim (fun r4 =>
                      some r4.1.1) (fun _ =>
                      some true))
              else
                if (decide (x0.kind = (5 : Int))) = true then
                  if (decide ((x0.kids.length : Int) < (2 : Int))) = true then
                    some false
                  else
                    if (decide ((x0.kids.length : Int) > (x0.kids.length : Int))) = true then
                      some false
                    else
                      (flimit (fL351_17 E51) ((x1, x0.kids, (x0.kids.length : Int), (0 : Int), ()), ())).bind (Sum.elim (fun r5 =>
                        some r5.1.1) (fun _ =>
                        some true))
                else
                  if (decide (x0.kind = (6 : Int))) = true then
                    if (decide ((x0.kids.length : Int) < (1 : Int))) = true then
                      some false
                    else
                      if (decide ((x0.kids.length : Int) > (1 : Int))) = true then
                        some false
                      else
                        (flimit (fL351_17 E51) ((x1, x0.kids, (x0.kids.length : Int), (0 : Int), ()), ())).bind (Sum.elim (fun r6 =>
                          some r6.1.1) (fun _ =>
                          some true))
                  else
                    some false

theorem ep351b (E51) : p351b E51 = fp351b E51 := by
  funext x
  obtain ⟨x0, x1, ⟨⟩⟩ := x
  simp only [p351b, fp351b, limit_flimit (eL351_17 E51)]

noncomputable def fp351n : Nat → ((Rx) × (Int) × Unit) → Option (Bool)
  | 0, _ => none
  | n + 1, x => fp351b (fp351n n) x

theorem ep351n : ∀ n, p351n n = fp351n n := by
  intro n
  induction n with
  | zero => funext x; rfl
  | succ n ih =>
    funext x
    show p351b (p351n n) x = fp351b (fp351n n) x
    rw [ih, ep351b]

noncomputable def fp351 : ((Rx) × (Int) × Unit) → Option (Bool) := flimit fp351n

theorem ep351 : p351 = fp351 := limit_flimit fun n x => congrFun (ep351n n) x

noncomputable def fp340 : ((Rx) × Unit) → Option (Bool)
  | (x0, ()) =>
    (fp351 ((Rx.mk x0.kind [(x0.set.getD 0 0), (x0.set.getD 1 0), (x0.set.getD 2 0), (x0.set.getD 3 0)] x0.kids), (30 : Int), ())).bind fun c1 =>
    some c1

theorem ep340 : p340 = fp340 := by
  funext x
  obtain ⟨x0, ⟨⟩⟩ := x
  simp only [p340, fp340, ep351]

noncomputable def fL341_3 (E41 : ((Rx) × Unit) → Option (Int)) : Nat → (((Int) × (List (Rx)) × (Int) × (Int) × Unit) × (Unit)) → Option (((Int) × Unit) × (Unit))
  | 0, _ => none
  | n + 1, ((x3, x7, x8, x9, ()), ()) =>
    if (decide (x9 < x8)) = true then
      if decide (0 ≤ x9 ∧ x9 < (x7.length : Int)) = true then
        (E41 ((Rx.mk (x7.getD x9.toNat (Rx.mk 0 [0, 0, 0, 0] [])).kind [((x7.getD x9.toNat (Rx.mk 0 [0, 0, 0, 0] [])).set.getD 0 0), ((x7.getD x9.toNat (Rx.mk 0 [0, 0, 0, 0] [])).set.getD 1 0), ((x7.getD x9.toNat (Rx.mk 0 [0, 0, 0, 0] [])).set.getD 2 0), ((x7.getD x9.toNat (Rx.mk 0 [0, 0, 0, 0] [])).set.getD 3 0)] (x7.getD x9.toNat (Rx.mk 0 [0, 0, 0, 0] [])).kids), ())).bind fun c1 =>
        fL341_3 E41 n (((IntKind.i64.wrap (x3 + c1)), x7, x8, (IntKind.i64.wrap (x9 + (1 : Int))), ()), ())
      else
        none
    else
      some ((x3, ()), ())

theorem eL341_3 (E41) : ∀ n x, L341_3 E41 n x = fL341_3 E41 n x := by
  intro n
  induction n with
  | zero => intro x; rfl
  | succ n ih =>
    intro x
    obtain ⟨⟨x3, x7, x8, x9, ⟨⟩⟩, ⟨⟩⟩ := x
    simp only [L341_3, fL341_3, ih]

noncomputable def fp341b (E41 : ((Rx) × Unit) → Option (Int)) : ((Rx) × Unit) → Option (Int)
  | (x0, ()) =>
    (flimit (fL341_3 E41) (((1 : Int), x0.kids, (x0.kids.length : Int), (0 : Int), ()), ())).bind fun r1 =>
    some r1.1.1

theorem ep341b (E41) : p341b E41 = fp341b E41 := by
  funext x
  obtain ⟨x0, ⟨⟩⟩ := x
  simp only [p341b, fp341b, limit_flimit (eL341_3 E41)]

noncomputable def fp341n : Nat → ((Rx) × Unit) → Option (Int)
  | 0, _ => none
  | n + 1, x => fp341b (fp341n n) x

theorem ep341n : ∀ n, p341n n = fp341n n := by
  intro n
  induction n with
  | zero => funext x; rfl
  | succ n ih =>
    funext x
    show p341b (p341n n) x = fp341b (fp341n n) x
    rw [ih, ep341b]

noncomputable def fp341 : ((Rx) × Unit) → Option (Int) := flimit fp341n

theorem ep341 : p341 = fp341 := limit_flimit fun n x => congrFun (ep341n n) x

noncomputable def fL363_3 : Nat → (((List (List (Int))) × (Int) × (List (List (Int))) × (Int) × (Int) × Unit) × (Unit)) → Option (((List (List (Int))) × (Int) × Unit) × (Unit))
  | 0, _ => none
  | n + 1, ((x0, x3, x9, x10, x11, ()), ()) =>
    if (decide (x11 < x10)) = true then
      if decide (0 ≤ x11 ∧ x11 < (x9.length : Int)) = true then
        if (decide ((IntKind.i64.wrap (x3 + ((x9.getD x11.toNat []).length : Int))) < (0 : Int))) = true then
          none
        else
          fL363_3 n ((x0, (IntKind.i64.wrap (x3 + ((x9.getD x11.toNat []).length : Int))), x9, x10, (IntKind.i64.wrap (x11 + (1 : Int))), ()), ())
      else
        none
    else
      some ((x0, x3, ()), ())

theorem eL363_3 : ∀ n x, L363_3 n x = fL363_3 n x := by
  intro n
  induction n with
  | zero => intro x; rfl
  | succ n ih =>
    intro x
    obtain ⟨⟨x0, x3, x9, x10, x11, ⟨⟩⟩, ⟨⟩⟩ := x
    simp only [L363_3, fL363_3, ih]

noncomputable def fL363_11 : Nat → ((Unit × (List (List (Int))) × (Int) × (Int) × Unit) × ((List (Int)) × Unit)) → Option ((Unit × Unit) × ((List (Int)) × Unit))
  | 0, _ => none
  | n + 1, ((_, x25, x26, x27, ()), (y6, ())) =>
    if (decide (x27 < x26)) = true then
      if decide (0 ≤ x27 ∧ x27 < (x25.length : Int)) = true then
        if decide (y6.length + (x25.getD x27.toNat []).length ≤ lim) = true then
          fL363_11 n (((), x25, x26, (IntKind.i64.wrap (x27 + (1 : Int))), ()), ((y6 ++ (x25.getD x27.toNat [])), ()))
        else
          none
      else
        none
    else
      some (((), ()), (y6, ()))

theorem eL363_11 : ∀ n x, L363_11 n x = fL363_11 n x := by
  intro n
  induction n with
  | zero => intro x; rfl
  | succ n ih =>
    intro x
    obtain ⟨⟨z1, x25, x26, x27, ⟨⟩⟩, ⟨y6, ⟨⟩⟩⟩ := x
    simp only [L363_11, fL363_11, ih]

noncomputable def fp363 : ((List (List (Int))) × Unit) → Option (List (Int))
  | (x0, ()) =>
    (flimit fL363_3 ((x0, (0 : Int), x0, (x0.length : Int), (0 : Int), ()), ())).bind fun r1 =>
    (p368 r1.1.2.1).bind fun c2 =>
    (flimit fL363_11 (((), r1.1.1, (r1.1.1.length : Int), (0 : Int), ()), (c2, ()))).bind fun r3 =>
    some r3.2.1

theorem ep363 : p363 = fp363 := by
  funext x
  obtain ⟨x0, ⟨⟩⟩ := x
  simp only [p363, fp363, limit_flimit eL363_3, limit_flimit eL363_11]

noncomputable def fL343_343_4 : Nat → ((Unit × (List (Int)) × (Int) × (List (Int)) × (Int) × (Int) × (List (Int)) × (Int) × (Int) × Unit) × ((Unit × Unit × Unit) × (List (List (Int))) × (List (List ((Int) × (Bool)))) × Unit)) → Option ((Unit × (List (Int)) × (List (Int)) × (Int) × (Int) × Unit) × ((Unit × Unit × Unit) × (List (List (Int))) × (List (List ((Int) × (Bool)))) × Unit))
  | 0, _ => none
  | n + 1, ((_, x2, x7, x10, x11, x12, x16, x17, x18, ()), (_, y1, y2, ())) =>
    if (decide (x18 < x17)) = true then
      if decide (0 ≤ x18 ∧ x18 < (x16.length : Int)) = true then
        if decide (0 ≤ x7 ∧ x7 < (y2.length : Int)) = true then
          fL343_343_4 n (((), x2, x7, x10, x11, x12, x16, x17, (IntKind.i64.wrap (x18 + (1 : Int))), ()), (((), (), ()), y1, (y2.set x7.toNat (mput (.int .i64) (x16.getD x18.toNat 0) true (y2.getD x7.toNat []))), ()))
        else
          none
      else
        none
    else
      some (((), x2, x10, x11, x12, ()), (((), (), ()), y1, y2, ()))

theorem eL343_343_4 : ∀ n x, L343_343_4 n x = fL343_343_4 n x := by
  intro n
  induction n with
  | zero => intro x; rfl
  | succ n ih =>
    intro x
    obtain ⟨⟨z1, x2, x7, x10, x11, x12, x16, x17, x18, ⟨⟩⟩, ⟨z2, y1, y2, ⟨⟩⟩⟩ := x
    simp only [L343_343_4, fL343_343_4, ih]

noncomputable def fL343_343_1 : Nat → ((Unit × (List (Int)) × (List (Int)) × (Int) × (Int) × Unit) × ((Unit × Unit × Unit) × (List (List (Int))) × (List (List ((Int) × (Bool)))) × Unit)) → Option ((Unit) × ((Unit × Unit × Unit) × (List (List (Int))) × (List (List ((Int) × (Bool)))) × Unit))
  | 0, _ => none
  | n + 1, ((_, x2, x10, x11, x12, ()), (_, y1, y2, ())) =>
    if (decide (x12 < x11)) = true then
      if decide (0 ≤ x12 ∧ x12 < (x10.length : Int)) = true then
        (flimit fL343_343_4 (((), x2, (x10.getD x12.toNat 0), x10, x11, x12, x2, (x2.length : Int), (0 : Int), ()), (((), (), ()), y1, y2, ()))).bind fun r1 =>
        fL343_343_1 n (((), r1.1.2.1, r1.1.2.2.1, r1.1.2.2.2.1, (IntKind.i64.wrap (r1.1.2.2.2.2.1 + (1 : Int))), ()), (((), (), ()), r1.2.2.1, r1.2.2.2.1, ()))
      else
        none
    else
      some ((), (((), (), ()), y1, y2, ()))

theorem eL343_343_1 : ∀ n x, L343_343_1 n x = fL343_343_1 n x := by
  intro n
  induction n with
  | zero => intro x; rfl
  | succ n ih =>
    intro x
    obtain ⟨⟨z1, x2, x10, x11, x12, ⟨⟩⟩, ⟨z2, y1, y2, ⟨⟩⟩⟩ := x
    simp only [L343_343_1, fL343_343_1, ih, limit_flimit eL343_343_4]

noncomputable def fp343 : ((Unit × (List (Int)) × (List (Int)) × Unit) × ((Unit × Unit × Unit) × (List (List (Int))) × (List (List ((Int) × (Bool)))) × Unit)) → Option ((Unit) × ((Unit × Unit × Unit) × (List (List (Int))) × (List (List ((Int) × (Bool)))) × Unit))
  | ((_, x1, x2, ()), (_, y1, y2, ())) =>
    (flimit fL343_343_1 (((), x2, x1, (x1.length : Int), (0 : Int), ()), (((), (), ()), y1, y2, ()))).bind fun r1 =>
    some ((), (((), (), ()), r1.2.2.1, r1.2.2.2.1, ()))

theorem ep343 : p343 = fp343 := by
  funext x
  obtain ⟨⟨z1, x1, x2, ⟨⟩⟩, ⟨z2, y1, y2, ⟨⟩⟩⟩ := x
  simp only [p343, fp343, limit_flimit eL343_343_1]

noncomputable def fp352 : ((Unit × (Rx) × Unit) × ((Unit × Unit × Unit) × (List (List (Int))) × (List (List ((Int) × (Bool)))) × Unit)) → Option (((Bool) × ((List (Int)) × ((List (Int)) × (Unit)))) × ((Unit × Unit × Unit) × (List (List (Int))) × (List (List ((Int) × (Bool)))) × Unit))
  | ((_, _, ()), (_, y1, y2, ())) =>
    some ((false, (([] : List (Int)), (([] : List (Int)), ()))), (((), (), ()), y1, y2, ()))

theorem ep352 : p352 = fp352 := by
  funext x
  obtain ⟨⟨z1, z2, ⟨⟩⟩, ⟨z3, y1, y2, ⟨⟩⟩⟩ := x
  simp only [p352, fp352]

noncomputable def fp353 : ((Unit × (Rx) × Unit) × ((Unit × Unit × Unit) × (List (List (Int))) × (List (List ((Int) × (Bool)))) × Unit)) → Option (((Bool) × ((List (Int)) × ((List (Int)) × (Unit)))) × ((Unit × Unit × Unit) × (List (List (Int))) × (List (List ((Int) × (Bool)))) × Unit))
  | ((_, _, ()), (_, y1, y2, ())) =>
    some ((true, (([] : List (Int)), (([] : List (Int)), ()))), (((), (), ()), y1, y2, ()))

theorem ep353 : p353 = fp353 := by
  funext x
  obtain ⟨⟨z1, z2, ⟨⟩⟩, ⟨z3, y1, y2, ⟨⟩⟩⟩ := x
  simp only [p353, fp353]

noncomputable def fp354 : ((Unit × (Rx) × Unit) × ((Unit × Unit × Unit) × (List (List (Int))) × (List (List ((Int) × (Bool)))) × Unit)) → Option (((Bool) × ((List (Int)) × ((List (Int)) × (Unit)))) × ((Unit × Unit × Unit) × (List (List (Int))) × (List (List ((Int) × (Bool)))) × Unit))
  | ((_, x1, ()), (_, y1, y2, ())) =>
    if decide (y1.length + ([[(x1.set.getD 0 0), (x1.set.getD 1 0), (x1.set.getD 2 0), (x1.set.getD 3 0)]] : List (List (Int))).length ≤ lim) = true then
      if decide (y2.length + ([([] : List ((Int) × (Bool)))] : List (List ((Int) × (Bool)))).length ≤ lim) = true then
        some ((false, (([((y1 ++ ([[(x1.set.getD 0 0), (x1.set.getD 1 0), (x1.set.getD 2 0), (x1.set.getD 3 0)]] : List (List (Int)))).length : Int)] : List (Int)), (([((y1 ++ ([[(x1.set.getD 0 0), (x1.set.getD 1 0), (x1.set.getD 2 0), (x1.set.getD 3 0)]] : List (List (Int)))).length : Int)] : List (Int)), ()))), (((), (), ()), (y1 ++ ([[(x1.set.getD 0 0), (x1.set.getD 1 0), (x1.set.getD 2 0), (x1.set.getD 3 0)]] : List (List (Int)))), (y2 ++ ([([] : List ((Int) × (Bool)))] : List (List ((Int) × (Bool))))), ()))
      else
        none
    else
      none

theorem ep354 : p354 = fp354 := by
  funext x
  obtain ⟨⟨z1, x1, ⟨⟩⟩, ⟨z2, y1, y2, ⟨⟩⟩⟩ := x
  simp only [p354, fp354]

noncomputable def fL355_355_3 (E42 : ((Unit × (Rx) × Unit) × ((Unit × Unit × Unit) × (List (List (Int))) × (List (List ((Int) × (Bool)))) × Unit)) → Option (((Bool) × ((List (Int)) × ((List (Int)) × (Unit)))) × ((Unit × Unit × Unit) × (List (List (Int))) × (List (List ((Int) × (Bool)))) × Unit))) : Nat → ((Unit × Unit × Unit × (List (Rx)) × (Int) × (Int) × Unit) × ((Unit × Unit × Unit) × ((Bool) × (List (Int)) × (List (Int)) × Unit) × ((Bool) × (List (Int)) × (List (Int)) × Unit) × (List (List (Int))) × (List (List ((Int) × (Bool)))) × Unit)) → Option ((Unit × Unit × Unit) × ((Unit × Unit × Unit) × ((Bool) × (List (Int)) × (List (Int)) × Unit) × ((Bool) × (List (Int)) × (List (Int)) × Unit) × (List (List (Int))) × (List (List ((Int) × (Bool)))) × Unit))
  | 0, _ => none
  | n + 1, ((_, _, _, x11, x12, x13, ()), (_, y1004, y1005, y1400, y1401, ())) =>
    if (decide (x13 < x12)) = true then
      if decide (0 ≤ x13 ∧ x13 < (x11.length : Int)) = true then
        (E42 (((), (Rx.mk (x11.getD x13.toNat (Rx.mk 0 [0, 0, 0, 0] [])).kind [((x11.getD x13.toNat (Rx.mk 0 [0, 0, 0, 0] [])).set.getD 0 0), ((x11.getD x13.toNat (Rx.mk 0 [0, 0, 0, 0] [])).set.getD 1 0), ((x11.getD x13.toNat (Rx.mk 0 [0, 0, 0, 0] [])).set.getD 2 0), ((x11.getD x13.toNat (Rx.mk 0 [0, 0, 0, 0] [])).set.getD 3 0)] (x11.getD x13.toNat (Rx.mk 0 [0, 0, 0, 0] [])).kids), ()), (((), (), ()), y1400, y1401, ()))).bind fun c1 =>
        (fp343 (((), y1005.2.2.1, c1.1.2.1, ()), (((), (), ()), c1.2.2.1, c1.2.2.2.1, ()))).bind fun c2 =>
        if y1005.1 = true then
          (fp363 (([y1005.2.1, c1.1.2.1] : List (List (Int))), ())).bind fun c3 =>
          if c1.1.1 = true then
            (fp363 (([y1005.2.2.1, c1.1.2.2.1] : List (List (Int))), ())).bind fun c4 =>
            if y1005.1 = true then
              fL355_355_3 E42 n (((), (), (), x11, x12, (IntKind.i64.wrap (x13 + (1 : Int))), ()), (((), (), ()), (y1004.1, y1004.2.1, y1004.2.2.1, ()), (c1.1.1, c3, c4, ()), c2.2.2.1, c2.2.2.2.1, ()))
            else
              fL355_355_3 E42 n (((), (), (), x11, x12, (IntKind.i64.wrap (x13 + (1 : Int))), ()), (((), (), ()), (y1004.1, y1004.2.1, y1004.2.2.1, ()), (false, c3, c4, ()), c2.2.2.1, c2.2.2.2.1, ()))
          else
            if y1005.1 = true then
              fL355_355_3 E42 n (((), (), (), x11, x12, (IntKind.i64.wrap (x13 + (1 : Int))), ()), (((), (), ()), (y1004.1, y1004.2.1, y1004.2.2.1, ()), (c1.1.1, c3, c1.1.2.2.1, ()), c2.2.2.1, c2.2.2.2.1, ()))
            else
              fL355_355_3 E42 n (((), (), (), x11, x12, (IntKind.i64.wrap (x13 + (1 : Int))), ()), (((), (), ()), (y1004.1, y1004.2.1, y1004.2.2.1, ()), (false, c3, c1.1.2.2.1, ()), c2.2.2.1, c2.2.2.2.1, ()))
        else
          if c1.1.1 = true then
            (fp363 (([y1005.2.2.1, c1.1.2.2.1] : List (List (Int))), ())).bind fun c5 =>
            if y1005.1 = true then
              fL355_355_3 E42 n (((), (), (), x11, x12, (IntKind.i64.wrap (x13 + (1 : Int))), ()), (((), (), ()), (y1004.1, y1004.2.1, y1004.2.2.1, ()), (c1.1.1, y1005.2.1, c5, ()), c2.2.2.1, c2.2.2.2.1, ()))
            else
              fL355_355_3 E42 n (((), (), (), x11, x12, (IntKind.i64.wrap (x13 + (1 : Int))), ()), (((), (), ()), (y1004.1, y1004.2.1, y1004.2.2.1, ()), (false, y1005.2.1, c5, ()), c2.2.2.1, c2.2.2.2.1, ()))
          else
            if y1005.1 = true then
              fL355_355_3 E42 n (((), (), (), x11, x12, (IntKind.i64.wrap (x13 + (1 : Int))), ()), (((), (), ()), (y1004.1, y1004.2.1, y1004.2.2.1, ()), (c1.1.1, y1005.2.1, c1.1.2.2.1, ()), c2.2.2.1, c2.2.2.2.1, ()))
            else
              fL355_355_3 E42 n (((), (), (), x11, x12, (IntKind.i64.wrap (x13 + (1 : Int))), ()), (((), (), ()), (y1004.1, y1004.2.1, y1004.2.2.1, ()), (false, y1005.2.1, c1.1.2.2.1, ()), c2.2.2.1, c2.2.2.2.1, ()))
      else
        none
    else
      some (((), (), ()), (((), (), ()), (y1004.1, y1004.2.1, y1004.2.2.1, ()), (y1005.1, y1005.2.1, y1005.2.2.1, ()), y1400, y1401, ()))

theorem eL355_355_3 (E42) : ∀ n x, L355_355_3 E42 n x = fL355_355_3 E42 n x := by
  intro n
  induction n with
  | zero => intro x; rfl
  | succ n ih =>
    intro x
    obtain ⟨⟨z1, z2, z3, x11, x12, x13, ⟨⟩⟩, ⟨z4, y1004, y1005, y1400, y1401, ⟨⟩⟩⟩ := x
    simp only [L355_355_3, fL355_355_3, ih, ep343, ep363]

noncomputable def fp355 (E42 : ((Unit × (Rx) × Unit) × ((Unit × Unit × Unit) × (List (List (Int))) × (List (List ((Int) × (Bool)))) × Unit)) → Option (((Bool) × ((List (Int)) × ((List (Int)) × (Unit)))) × ((Unit × Unit × Unit) × (List (List (Int))) × (List (List ((Int) × (Bool)))) × Unit))) : ((Unit × (Rx) × Unit) × ((Unit × Unit × Unit) × (List (List (Int))) × (List (List ((Int) × (Bool)))) × Unit)) → Option (((Bool) × ((List (Int)) × ((List (Int)) × (Unit)))) × ((Unit × Unit × Unit) × (List (List (Int))) × (List (List ((Int) × (Bool)))) × Unit))
  | ((_, x1, ()), (_, y1, y2, ())) =>
    (flimit (fL355_355_3 E42) (((), (), (), x1.kids, (x1.kids.length : Int), (0 : Int), ()), (((), (), ()), (false, ([] : List (Int)), ([] : List (Int)), ()), (true, ([] : List (Int)), ([] : List (Int)), ()), y1, y2, ()))).bind fun r1 =>
    some ((r1.2.2.2.1.1, (r1.2.2.2.1.2.1, (r1.2.2.2.1.2.2.1, ()))), (((), (), ()), r1.2.2.2.2.1, r1.2.2.2.2.2.1, ()))

theorem ep355 (E42) : p355 E42 = fp355 E42 := by
  funext x
  obtain ⟨⟨z1, x1, ⟨⟩⟩, ⟨z2, y1, y2, ⟨⟩⟩⟩ := x
  simp only [p355, fp355, limit_flimit (eL355_355_3 E42)]

noncomputable def fL356_356_3 (E42 : ((Unit × (Rx) × Unit) × ((Unit × Unit × Unit) × (List (List (Int))) × (List (List ((Int) × (Bool)))) × Unit)) → Option (((Bool) × ((List (Int)) × ((List (Int)) × (Unit)))) × ((Unit × Unit × Unit) × (List (List (Int))) × (List (List ((Int) × (Bool)))) × Unit))) : Nat → ((Unit × Unit × Unit × (List (Rx)) × (Int) × (Int) × Unit) × ((Unit × Unit × Unit) × ((Bool) × (List (Int)) × (List (Int)) × Unit) × ((Bool) × (List (Int)) × (List (Int)) × Unit) × (List (List (Int))) × (List (List ((Int) × (Bool)))) × Unit)) → Option ((Unit × Unit × Unit) × ((Unit × Unit × Unit) × ((Bool) × (List (Int)) × (List (Int)) × Unit) × ((Bool) × (List (Int)) × (List (Int)) × Unit) × (List (List (Int))) × (List (List ((Int) × (Bool)))) × Unit))
  | 0, _ => none
  | n + 1, ((_, _, _, x10, x11, x12, ()), (_, y1004, y1005, y1400, y1401, ())) =>
    if (decide (x12 < x11)) = true then
      if decide (0 ≤ x12 ∧ x12 < (x10.length : Int)) = true then
        (E42 (((), (Rx.mk (x10.getD x12.toNat (Rx.mk 0 [0, 0, 0, 0] [])).kind [((x10.getD x12.toNat (Rx.mk 0 [0, 0, 0, 0] [])).set.getD 0 0), ((x10.getD x12.toNat (Rx.mk 0 [0, 0, 0, 0] [])).set.getD 1 0), ((x10.getD x12.toNat (Rx.mk 0 [0, 0, 0, 0] [])).set.getD 2 0), ((x10.getD x12.toNat (Rx.mk 0 [0, 0, 0, 0] [])).set.getD 3 0)] (x10.getD x12.toNat (Rx.mk 0 [0, 0, 0, 0] [])).kids), ()), (((), (), ()), y1400, y1401, ()))).bind fun c1 =>
        if y1005.1 = true then
          (fp363 (([y1005.2.1, c1.1.2.1] : List (List (Int))), ())).bind fun c2 =>
          (fp363 (([y1005.2.2.1, c1.1.2.2.1] : List (List (Int))), ())).bind fun c3 =>
          fL356_356_3 E42 n (((), (), (), x10, x11, (IntKind.i64.wrap (x12 + (1 : Int))), ()), (((), (), ()), (y1004.1, y1004.2.1, y1004.2.2.1, ()), (true, c2, c3, ()), c1.2.2.1, c1.2.2.2.1, ()))
        else
          (fp363 (([y1005.2.1, c1.1.2.1] : List (List (Int))), ())).bind fun c4 =>
          (fp363 (([y1005.2.2.1, c1.1.2.2.1] : List (List (Int))), ())).bind fun c5 =>
          fL356_356_3 E42 n (((), (), (), x10, x11, (IntKind.i64.wrap (x12 + (1 : Int))), ()), (((), (), ()), (y1004.1, y1004.2.1, y1004.2.2.1, ()), (c1.1.1, c4, c5, ()), c1.2.2.1, c1.2.2.2.1, ()))
      else
        none
    else
      some (((), (), ()), (((), (), ()), (y1004.1, y1004.2.1, y1004.2.2.1, ()), (y1005.1, y1005.2.1, y1005.2.2.1, ()), y1400, y1401, ()))

theorem eL356_356_3 (E42) : ∀ n x, L356_356_3 E42 n x = fL356_356_3 E42 n x := by
  intro n
  induction n with
  | zero => intro x; rfl
  | succ n ih =>
    intro x
    obtain ⟨⟨z1, z2, z3, x10, x11, x12, ⟨⟩⟩, ⟨z4, y1004, y1005, y1400, y1401, ⟨⟩⟩⟩ := x
    simp only [L356_356_3, fL356_356_3, ih, ep363]

noncomputable def fp356 (E42 : ((Unit × (Rx) × Unit) × ((Unit × Unit × Unit) × (List (List (Int))) × (List (List ((Int) × (Bool)))) × Unit)) → Option (((Bool) × ((List (Int)) × ((List (Int)) × (Unit)))) × ((Unit × Unit × Unit) × (List (List (Int))) × (List (List ((Int) × (Bool)))) × Unit))) : ((Unit × (Rx) × Unit) × ((Unit × Unit × Unit) × (List (List (Int))) × (List (List ((Int) × (Bool)))) × Unit)) → Option (((Bool) × ((List (Int)) × ((List (Int)) × (Unit)))) × ((Unit × Unit × Unit) × (List (List (Int))) × (List (List ((Int) × (Bool)))) × Unit))
  | ((_, x1, ()), (_, y1, y2, ())) =>
    (flimit (fL356_356_3 E42) (((), (), (), x1.kids, (x1.kids.length : Int), (0 : Int), ()), (((), (), ()), (false, ([] : List (Int)), ([] : List (Int)), ()), (false, ([] : List (Int)), ([] : List (Int)), ()), y1, y2, ()))).bind fun r1 =>
    some ((r1.2.2.2.1.1, (r1.2.2.2.1.2.1, (r1.2.2.2.1.2.2.1, ()))), (((), (), ()), r1.2.2.2.2.1, r1.2.2.2.2.2.1, ()))

theorem ep356 (E42) : p356 E42 = fp356 E42 := by
  funext x
  obtain ⟨⟨z1, x1, ⟨⟩⟩, ⟨z2, y1, y2, ⟨⟩⟩⟩ := x
  simp only [p356, fp356, limit_flimit (eL356_356_3 E42)]

noncomputable def fp357 (E42 : ((Unit × (Rx) × Unit) × ((Unit × Unit × Unit) × (List (List (Int))) × (List (List ((Int) × (Bool)))) × Unit)) → Option (((Bool) × ((List (Int)) × ((List (Int)) × (Unit)))) × ((Unit × Unit × Unit) × (List (List (Int))) × (List (List ((Int) × (Bool)))) × Unit))) : ((Unit × (Rx) × Unit) × ((Unit × Unit × Unit) × (List (List (Int))) × (List (List ((Int) × (Bool)))) × Unit)) → Option (((Bool) × ((List (Int)) × ((List (Int)) × (Unit)))) × ((Unit × Unit × Unit) × (List (List (Int))) × (List (List ((Int) × (Bool)))) × Unit))
  | ((_, x1, ()), (_, y1, y2, ())) =>
    if decide (0 ≤ (0 : Int) ∧ (0 : Int) < (x1.kids.length : Int)) = true then
      (E42 (((), (Rx.mk (x1.kids.getD (0 : Int).toNat (Rx.mk 0 [0, 0, 0, 0] [])).kind [((x1.kids.getD (0 : Int).toNat (Rx.mk 0 [0, 0, 0, 0] [])).set.getD 0 0), ((x1.kids.getD (0 : Int).toNat (Rx.mk 0 [0, 0, 0, 0] [])).set.getD 1 0), ((x1.kids.getD (0 : Int).toNat (Rx.mk 0 [0, 0, 0, 0] [])).set.getD 2 0), ((x1.kids.getD (0 : Int).toNat (Rx.mk 0 [0, 0, 0, 0] [])).set.getD 3 0)] (x1.kids.getD (0 : Int).toNat (Rx.mk 0 [0, 0, 0, 0] [])).kids), ()), (((), (), ()), y1, y2, ()))).bind fun c1 =>
      (fp343 (((), c1.1.2.2.1, c1.1.2.1, ()), (((), (), ()), c1.2.2.1, c1.2.2.2.1, ()))).bind fun c2 =>
      some ((true, (c1.1.2.1, (c1.1.2.2.1, ()))), (((), (), ()), c2.2.2.1, c2.2.2.2.1, ()))
    else
      none

theorem ep357 (E42) : p357 E42 = fp357 E42 := by
  funext x
  obtain ⟨⟨z1, x1, ⟨⟩⟩, ⟨z2, y1, y2, ⟨⟩⟩⟩ := x
  simp only [p357, fp357, ep343]

noncomputable def fp342b (E42 : ((Unit × (Rx) × Unit) × ((Unit × Unit × Unit) × (List (List (Int))) × (List (List ((Int) × (Bool)))) × Unit)) → Option (((Bool) × ((List (Int)) × ((List (Int)) × (Unit)))) × ((Unit × Unit × Unit) × (List (List (Int))) × (List (List ((Int) × (Bool)))) × Unit))) : ((Unit × (Rx) × Unit) × ((Unit × Unit × Unit) × (List (List (Int))) × (List (List ((Int) × (Bool)))) × Unit)) → Option (((Bool) × ((List (Int)) × ((List (Int)) × (Unit)))) × ((Unit × Unit × Unit) × (List (List (Int))) × (List (List ((Int) × (Bool)))) × Unit))
  | ((_, x1, ()), (_, y1, y2, ())) =>
    if (decide (x1.kind = (1 : Int))) = true then
      (fp352 (((), (Rx.mk x1.kind [(x1.set.getD 0 0), (x1.set.getD 1 0), (x1.set.getD 2 0), (x1.set.getD 3 0)] x1.kids), ()), (((), (), ()), y1, y2, ()))).bind fun c1 =>
      some ((c1.1.1, (c1.1.2.1, (c1.1.2.2.1, ()))), (((), (), ()), c1.2.2.1, c1.2.2.2.1, ()))
    else
      if (decide (x1.kind = (2 : Int))) = true then
        (fp353 (((), (Rx.mk x1.kind [(x1.set.getD 0 0), (x1.set.getD 1 0), (x1.set.getD 2 0), (x1.set.getD 3 0)] x1.kids), ()), (((), (), ()), y1, y2, ()))).bind fun c2 =>
        some ((c2.1.1, (c2.1.2.1, (c2.1.2.2.1, ()))), (((), (), ()), c2.2.2.1, c2.2.2.2.1, ()))
      else
        if (decide (x1.kind = (3 : Int))) = true then
          (fp354 (((), (Rx.mk x1.kind [(x1.set.getD 0 0), (x1.set.getD 1 0), (x1.set.getD 2 0), (x1.set.getD 3 0)] x1.kids), ()), (((), (), ()), y1, y2, ()))).bind fun c3 =>
          some ((c3.1.1, (c3.1.2.1, (c3.1.2.2.1, ()))), (((), (), ()), c3.2.2.1, c3.2.2.2.1, ()))
        else
          if (decide (x1.kind = (4 : Int))) = true then
            ((fp355 E42) (((), (Rx.mk x1.kind [(x1.set.getD 0 0), (x1.set.getD 1 0), (x1.set.getD 2 0), (x1.set.getD 3 0)] x1.kids), ()), (((), (), ()), y1, y2, ()))).bind fun c4 =>
            some ((c4.1.1, (c4.1.2.1, (c4.1.2.2.1, ()))), (((), (), ()), c4.2.2.1, c4.2.2.2.1, ()))
          else
            if (decide (x1.kind = (5 : Int))) = true then
              ((fp356 E42) (((), (Rx.mk x1.kind [(x1.set.getD 0 0), (x1.set.getD 1 0), (x1.set.getD 2 0), (x1.set.getD 3 0)] x1.kids), ()), (((), (), ()), y1, y2, ()))).bind fun c5 =>
              some ((c5.1.1, (c5.1.2.1, (c5.1.2.2.1, ()))), (((), (), ()), c5.2.2.1, c5.2.2.2.1, ()))
            else
              if (decide (x1.kind = (6 : Int))) = true then
                ((fp357 E42) (((), (Rx.mk x1.kind [(x1.set.getD 0 0), (x1.set.getD 1 0), (x1.set.getD 2 0), (x1.set.getD 3 0)] x1.kids), ()), (((), (), ()), y1, y2, ()))).bind fun c6 =>
                some ((c6.1.1, (c6.1.2.1, (c6.1.2.2.1, ()))), (((), (), ()), c6.2.2.1, c6.2.2.2.1, ()))
              else
                none

theorem ep342b (E42) : p342b E42 = fp342b E42 := by
  funext x
  obtain ⟨⟨z1, x1, ⟨⟩⟩, ⟨z2, y1, y2, ⟨⟩⟩⟩ := x
  simp only [p342b, fp342b, ep352, ep353, ep354, ep355 E42, ep356 E42, ep357 E42]

noncomputable def fp342n : Nat → ((Unit × (Rx) × Unit) × ((Unit × Unit × Unit) × (List (List (Int))) × (List (List ((Int) × (Bool)))) × Unit)) → Option (((Bool) × ((List (Int)) × ((List (Int)) × (Unit)))) × ((Unit × Unit × Unit) × (List (List (Int))) × (List (List ((Int) × (Bool)))) × Unit))
  | 0, _ => none
  | n + 1, x => fp342b (fp342n n) x

theorem ep342n : ∀ n, p342n n = fp342n n := by
  intro n
  induction n with
  | zero => funext x; rfl
  | succ n ih =>
    funext x
    show p342b (p342n n) x = fp342b (fp342n n) x
    rw [ih, ep342b]

noncomputable def fp342 : ((Unit × (Rx) × Unit) × ((Unit × Unit × Unit) × (List (List (Int))) × (List (List ((Int) × (Bool)))) × Unit)) → Option (((Bool) × ((List (Int)) × ((List (Int)) × (Unit)))) × ((Unit × Unit × Unit) × (List (List (Int))) × (List (List ((Int) × (Bool)))) × Unit)) := flimit fp342n

theorem ep342 : p342 = fp342 := limit_flimit fun n x => congrFun (ep342n n) x

noncomputable def fL324_3 : Nat → (((List (Rx)) × Unit × (Int) × (List (Rx)) × (Int) × (Int) × Unit) × (((Int) × (Int) × (List ((Int) × ((Int) × ((Bool) × ((List (Int)) × (Unit)))))) × (List (Int)) × Unit) × Unit)) → Option (((Unit × (Int) × Unit) × (((Int) × (Int) × (List ((Int) × ((Int) × ((Bool) × ((List (Int)) × (Unit)))))) × (List (Int)) × Unit) × Unit)) ⊕ (((List (Rx)) × Unit × (Int) × Unit) × (((Int) × (Int) × (List ((Int) × ((Int) × ((Bool) × ((List (Int)) × (Unit)))))) × (List (Int)) × Unit) × Unit)))
  | 0, _ => none
  | n + 1, ((x0, _, x4, x19, x20, x21, ()), (y2, ())) =>
    if (decide (x21 < x20)) = true then
      if decide (0 ≤ x21 ∧ x21 < (x19.length : Int)) = true then
        (fp340 ((Rx.mk (x19.getD x21.toNat (Rx.mk 0 [0, 0, 0, 0] [])).kind [((x19.getD x21.toNat (Rx.mk 0 [0, 0, 0, 0] [])).set.getD 0 0), ((x19.getD x21.toNat (Rx.mk 0 [0, 0, 0, 0] [])).set.getD 1 0), ((x19.getD x21.toNat (Rx.mk 0 [0, 0, 0, 0] [])).set.getD 2 0), ((x19.getD x21.toNat (Rx.mk 0 [0, 0, 0, 0] [])).set.getD 3 0)] (x19.getD x21.toNat (Rx.mk 0 [0, 0, 0, 0] [])).kids), ())).bind fun c1 =>
        if (!c1) = true then
          some (.inl (((), (1 : Int), ()), (((0 : Int), (0 : Int), ([] : List ((Int) × ((Int) × ((Bool) × ((List (Int)) × (Unit)))))), ([] : List (Int)), ()), ())))
        else
          (fp341 ((Rx.mk (x19.getD x21.toNat (Rx.mk 0 [0, 0, 0, 0] [])).kind [((x19.getD x21.toNat (Rx.mk 0 [0, 0, 0, 0] [])).set.getD 0 0), ((x19.getD x21.toNat (Rx.mk 0 [0, 0, 0, 0] [])).set.getD 1 0), ((x19.getD x21.toNat (Rx.mk 0 [0, 0, 0, 0] [])).set.getD 2 0), ((x19.getD x21.toNat (Rx.mk 0 [0, 0, 0, 0] [])).set.getD 3 0)] (x19.getD x21.toNat (Rx.mk 0 [0, 0, 0, 0] [])).kids), ())).bind fun c2 =>
          fL324_3 n ((x0, (), (IntKind.i64.wrap (x4 + c2)), x19, x20, (IntKind.i64.wrap (x21 + (1 : Int))), ()), ((y2.1, y2.2.1, y2.2.2.1, y2.2.2.2.1, ()), ()))
      else
        none
    else
      some (.inr ((x0, (), x4, ()), ((y2.1, y2.2.1, y2.2.2.1, y2.2.2.2.1, ()), ())))

theorem eL324_3 : ∀ n x, L324_3 n x = fL324_3 n x := by
  intro n
  induction n with
  | zero => intro x; rfl
  | succ n ih =>
    intro x
    obtain ⟨⟨x0, z1, x4, x19, x20, x21, ⟨⟩⟩, ⟨y2, ⟨⟩⟩⟩ := x
    simp only [L324_3, fL324_3, ih, ep340, ep341]

noncomputable def fL324_18 : Nat → ((Unit × Unit × Unit × (Int) × Unit × (List (Rx)) × (Int) × (Int) × Unit) × (((Int) × (Int) × (List ((Int) × ((Int) × ((Bool) × ((List (Int)) × (Unit)))))) × (List (Int)) × Unit) × (List (Int)) × ((Bool) × (List (Int)) × (List (Int)) × Unit) × (Unit × Unit × Unit) × (List (List (Int))) × (List (List ((Int) × (Bool)))) × Unit)) → Option ((Unit × Unit × Unit × (Int) × Unit × (List (Rx)) × (Int) × (Int) × Unit) × (((Int) × (Int) × (List ((Int) × ((Int) × ((Bool) × ((List (Int)) × (Unit)))))) × (List (Int)) × Unit) × (List (Int)) × ((Bool) × (List (Int)) × (List (Int)) × Unit) × (Unit × Unit × Unit) × (List (List (Int))) × (List (List ((Int) × (Bool)))) × Unit))
  | 0, _ => none
  | n + 1, ((_, _, _, x9, _, x42, x43, x44, ()), (y2, y8, y11, _, y442, y443, ())) =>
    if (decide ((y8.length : Int) ≤ (y442.length : Int))) = true then
      if decide (y8.length + ([(-1 : Int)] : List (Int)).length ≤ lim) = true then
        fL324_18 n (((), (), (), x9, (), x42, x43, x44, ()), ((y2.1, y2.2.1, y2.2.2.1, y2.2.2.2.1, ()), (y8 ++ ([(-1 : Int)] : List (Int))), (y11.1, y11.2.1, y11.2.2.1, ()), ((), (), ()), y442, y443, ()))
      else
        none
    else
      some (((), (), (), x9, (), x42, x43, x44, ()), ((y2.1, y2.2.1, y2.2.2.1, y2.2.2.2.1, ()), y8, (y11.1, y11.2.1, y11.2.2.1, ()), ((), (), ()), y442, y443, ()))

theorem eL324_18 : ∀ n x, L324_18 n x = fL324_18 n x := by
  intro n
  induction n with
  | zero => intro x; rfl
  | succ n ih =>
    intro x
    obtain ⟨⟨z1, z2, z3, x9, z4, x42, x43, x44, ⟨⟩⟩, ⟨y2, y8, y11, z5, y442, y443, ⟨⟩⟩⟩ := x
    simp only [L324_18, fL324_18, ih]

noncomputable def fL324_21 : Nat → ((Unit × Unit × Unit × (Int) × Unit × (List (Rx)) × (Int) × (Int) × (List (Int)) × (Int) × (Int) × Unit) × (((Int) × (Int) × (List ((Int) × ((Int) × ((Bool) × ((List (Int)) × (Unit)))))) × (List (Int)) × Unit) × (List (Int)) × ((Bool) × (List (Int)) × (List (Int)) × Unit) × (Unit × Unit × Unit) × (List (List (Int))) × (List (List ((Int) × (Bool)))) × Unit)) → Option ((Unit × Unit × Unit × (Int) × Unit × (List (Rx)) × (Int) × (Int) × Unit) × (((Int) × (Int) × (List ((Int) × ((Int) × ((Bool) × ((List (Int)) × (Unit)))))) × (List (Int)) × Unit) × (List (Int)) × ((Bool) × (List (Int)) × (List (Int)) × Unit) × (Unit × Unit × Unit) × (List (List (Int))) × (List (List ((Int) × (Bool)))) × Unit))
  | 0, _ => none
  | n + 1, ((_, _, _, x9, _, x42, x43, x44, x69, x70, x71, ()), (y2, y8, y11, _, y442, y443, ())) =>
    if (decide (x71 < x70)) = true then
      if decide (0 ≤ x71 ∧ x71 < (x69.length : Int)) = true then
        if decide (0 ≤ (x69.getD x71.toNat 0) ∧ (x69.getD x71.toNat 0) < (y8.length : Int)) = true then
          fL324_21 n (((), (), (), x9, (), x42, x43, x44, x69, x70, (IntKind.i64.wrap (x71 + (1 : Int))), ()), ((y2.1, y2.2.1, y2.2.2.1, y2.2.2.2.1, ()), (y8.set (x69.getD x71.toNat 0).toNat x9), (y11.1, y11.2.1, y11.2.2.1, ()), ((), (), ()), y442, y443, ()))
        else
          none
      else
        none
    else
      some (((), (), (), x9, (), x42, x43, x44, ()), ((y2.1, y2.2.1, y2.2.2.1, y2.2.2.2.1, ()), y8, (y11.1, y11.2.1, y11.2.2.1, ()), ((), (), ()), y442, y443, ()))

theorem eL324_21 : ∀ n x, L324_21 n x = fL324_21 n x := by
  intro n
  induction n with
  | zero => intro x; rfl
  | succ n ih =>
    intro x
    obtain ⟨⟨z1, z2, z3, x9, z4, x42, x43, x44, x69, x70, x71, ⟨⟩⟩, ⟨y2, y8, y11, z5, y442, y443, ⟨⟩⟩⟩ := x
    simp only [L324_21, fL324_21, ih]

noncomputable def fL324_14 : Nat → ((Unit × Unit × Unit × (List (Rx)) × (Int) × (Int) × Unit) × (((Int) × (Int) × (List ((Int) × ((Int) × ((Bool) × ((List (Int)) × (Unit)))))) × (List (Int)) × Unit) × (List (Int)) × (Unit × Unit × Unit) × (List (List (Int))) × (List (List ((Int) × (Bool)))) × Unit)) → Option ((Unit × Unit × Unit × Unit) × (((Int) × (Int) × (List ((Int) × ((Int) × ((Bool) × ((List (Int)) × (Unit)))))) × (List (Int)) × Unit) × (List (Int)) × (Unit × Unit × Unit) × (List (List (Int))) × (List (List ((Int) × (Bool)))) × Unit))
  | 0, _ => none
  | n + 1, ((_, _, _, x42, x43, x44, ()), (y2, y8, _, y440, y441, ())) =>
    if (decide (x44 < x43)) = true then
      if decide (0 ≤ x44 ∧ x44 < (x42.length : Int)) = true then
        (fp342 (((), (Rx.mk (x42.getD x44.toNat (Rx.mk 0 [0, 0, 0, 0] [])).kind [((x42.getD x44.toNat (Rx.mk 0 [0, 0, 0, 0] [])).set.getD 0 0), ((x42.getD x44.toNat (Rx.mk 0 [0, 0, 0, 0] [])).set.getD 1 0), ((x42.getD x44.toNat (Rx.mk 0 [0, 0, 0, 0] [])).set.getD 2 0), ((x42.getD x44.toNat (Rx.mk 0 [0, 0, 0, 0] [])).set.getD 3 0)] (x42.getD x44.toNat (Rx.mk 0 [0, 0, 0, 0] [])).kids), ()), (((), (), ()), y440, y441, ()))).bind fun c1 =>
        (fp343 (((), ([(0 : Int)] : List (Int)), c1.1.2.1, ()), (((), (), ()), c1.2.2.1, c1.2.2.2.1, ()))).bind fun c2 =>
        (flimit fL324_18 (((), (), (), x44, (), x42, x43, x44, ()), ((y2.1, y2.2.1, y2.2.2.1, y2.2.2.2.1, ()), y8, (c1.1.1, c1.1.2.1, c1.1.2.2.1, ()), ((), (), ()), c2.2.2.1, c2.2.2.2.1, ()))).bind fun r3 =>
        (flimit fL324_21 (((), (), (), r3.1.2.2.2.1, (), r3.1.2.2.2.2.2.1, r3.1.2.2.2.2.2.2.1, r3.1.2.2.2.2.2.2.2.1, r3.2.2.2.1.2.2.1, (r3.2.2.2.1.2.2.1.length : Int), (0 : Int), ()), ((r3.2.1.1, r3.2.1.2.1, r3.2.1.2.2.1, r3.2.1.2.2.2.1, ()), r3.2.2.1, (r3.2.2.2.1.1, r3.2.2.2.1.2.1, r3.2.2.2.1.2.2.1, ()), ((), (), ()), r3.2.2.2.2.2.1, r3.2.2.2.2.2.2.1, ()))).bind fun r4 =>
        if r4.2.2.2.1.1 = true then
          if decide (0 ≤ (0 : Int) ∧ (0 : Int) < (r4.2.2.1.length : Int)) = true then
            if (decide ((r4.2.2.1.getD (0 : Int).toNat 0) < (0 : Int))) = true then
              if decide (0 ≤ (0 : Int) ∧ (0 : Int) < (r4.2.2.1.length : Int)) = true then
                fL324_14 n (((), (), (), r4.1.2.2.2.2.2.1, r4.1.2.2.2.2.2.2.1, (IntKind.i64.wrap (r4.1.2.2.2.2.2.2.2.1 + (1 : Int))), ()), ((r4.2.1.1, r4.2.1.2.1, r4.2.1.2.2.1, r4.2.1.2.2.2.1, ()), (r4.2.2.1.set (0 : Int).toNat r4.1.2.2.2.1), ((), (), ()), r4.2.2.2.2.2.1, r4.2.2.2.2.2.2.1, ()))
              else
                none
            else
              fL324_14 n (((), (), (), r4.1.2.2.2.2.2.1, r4.1.2.2.2.2.2.2.1, (IntKind.i64.wrap (r4.1.2.2.2.2.2.2.2.1 + (1 : Int))), ()), ((r4.2.1.1, r4.2.1.2.1, r4.2.1.2.2.1, r4.2.1.2.2.2.1, ()), r4.2.2.1, ((), (), ()), r4.2.2.2.2.2.1, r4.2.2.2.2.2.2.1, ()))
          else
            none
        else
          fL324_14 n (((), (), (), r4.1.2.2.2.2.2.1, r4.1.2.2.2.2.2.2.1, (IntKind.i64.wrap (r4.1.2.2.2.2.2.2.2.1 + (1 : Int))), ()), ((r4.2.1.1, r4.2.1.2.1, r4.2.1.2.2.1, r4.2.1.2.2.2.1, ()), r4.2.2.1, ((), (), ()), r4.2.2.2.2.2.1, r4.2.2.2.2.2.2.1, ()))
      else
        none
    else
      some (((), (), (), ()), ((y2.1, y2.2.1, y2.2.2.1, y2.2.2.2.1, ()), y8, ((), (), ()), y440, y441, ()))

theorem eL324_14 : ∀ n x, L324_14 n x = fL324_14 n x := by
  intro n
  induction n with
  | zero => intro x; rfl
  | succ n ih =>
    intro x
    obtain ⟨⟨z1, z2, z3, x42, x43, x44, ⟨⟩⟩, ⟨y2, y8, z4, y440, y441, ⟨⟩⟩⟩ := x
    simp only [L324_14, fL324_14, ih, limit_flimit eL324_18, limit_flimit eL324_21, ep342, ep343]

noncomputable def fL324_33 : Nat → ((Unit × Unit × Unit × (Int) × Unit × (Int) × (Int) × Unit × (Int) × (Int) × Unit) × (((Int) × (Int) × (List ((Int) × ((Int) × ((Bool) × ((List (Int)) × (Unit)))))) × (List (Int)) × Unit) × (List (Int)) × ((Int) × (Int) × Unit × Unit × Unit) × (Unit × Unit × Unit) × (List (Int)) × (List ((Int) × ((Int) × ((Bool) × ((List (Int)) × (Unit)))))) × (List (List (Int))) × (List (List ((Int) × (Bool)))) × Unit)) → Option ((Unit × Unit × Unit × Unit × (Int) × (Int) × Unit) × (((Int) × (Int) × (List ((Int) × ((Int) × ((Bool) × ((List (Int)) × (Unit)))))) × (List (Int)) × Unit) × (List (Int)) × ((Int) × (Int) × Unit × Unit × Unit) × (Unit × Unit × Unit) × (List ((Int) × ((Int) × ((Bool) × ((List (Int)) × (Unit)))))) × (List (List (Int))) × (List (List ((Int) × (Bool)))) × Unit))
  | 0, _ => none
  | n + 1, ((_, _, _, x15, _, x100, x101, _, x109, x110, ()), (y2, y8, y14, _, y108, y314, y440, y441, ())) =>
    if (decide (x110 < x109)) = true then
      if decide (0 ≤ x110 ∧ x110 < (y108.length : Int)) = true then
        if decide (0 ≤ (IntKind.i64.wrap ((y108.getD x110.toNat 0) - (1 : Int))) ∧ (IntKind.i64.wrap ((y108.getD x110.toNat 0) - (1 : Int))) < (y440.length : Int)) = true then
          if decide (y314.length + ([(x15, ((y108.getD x110.toNat 0), (false, ([((y440.getD (IntKind.i64.wrap ((y108.getD x110.toNat 0) - (1 : Int))).toNat (List.replicate 4 0)).getD 0 0), ((y440.getD (IntKind.i64.wrap ((y108.getD x110.toNat 0) - (1 : Int))).toNat (List.replicate 4 0)).getD 1 0), ((y440.getD (IntKind.i64.wrap ((y108.getD x110.toNat 0) - (1 : Int))).toNat (List.replicate 4 0)).getD 2 0), ((y440.getD (IntKind.i64.wrap ((y108.getD x110.toNat 0) - (1 : Int))).toNat (List.replicate 4 0)).getD 3 0)], ()))))] : List ((Int) × ((Int) × ((Bool) × ((List (Int)) × (Unit)))))).length ≤ lim) = true then
            fL324_33 n (((), (), (), x15, (), x100, x101, (), x109, (IntKind.i64.wrap (x110 + (1 : Int))), ()), ((y2.1, y2.2.1, y2.2.2.1, y2.2.2.2.1, ()), y8, (y14.1, y14.2.1, (), (), ()), ((), (), ()), y108, (y314 ++ ([(x15, ((y108.getD x110.toNat 0), (false, ([((y440.getD (IntKind.i64.wrap ((y108.getD x110.toNat 0) - (1 : Int))).toNat (List.replicate 4 0)).getD 0 0), ((y440.getD (IntKind.i64.wrap ((y108.getD x110.toNat 0) - (1 : Int))).toNat (List.replicate 4 0)).getD 1 0), ((y440.getD (IntKind.i64.wrap ((y108.getD x110.toNat 0) - (1 : Int))).toNat (List.replicate 4 0)).getD 2 0), ((y440.getD (IntKind.i64.wrap ((y108.getD x110.toNat 0) - (1 : Int))).toNat (List.replicate 4 0)).getD 3 0)], ()))))] : List ((Int) × ((Int) × ((Bool) × ((List (Int)) × (Unit))))))), y440, y441, ()))
          else
            none
        else
          none
      else
        none
    else
      some (((), (), (), (), x100, x101, ()), ((y2.1, y2.2.1, y2.2.2.1, y2.2.2.2.1, ()), y8, (y14.1, y14.2.1, (), (), ()), ((), (), ()), y314, y440, y441, ()))

theorem eL324_33 : ∀ n x, L324_33 n x = fL324_33 n x := by
  intro n
  induction n with
  | zero => intro x; rfl
  | succ n ih =>
    intro x
    obtain ⟨⟨z1, z2, z3, x15, z4, x100, x101, z5, x109, x110, ⟨⟩⟩, ⟨y2, y8, y14, z6, y108, y314, y440, y441, ⟨⟩⟩⟩ := x
    simp only [L324_33, fL324_33, ih]

noncomputable def fL324_30 : Nat → ((Unit × Unit × Unit × Unit × (Int) × (Int) × Unit) × (((Int) × (Int) × (List ((Int) × ((Int) × ((Bool) × ((List (Int)) × (Unit)))))) × (List (Int)) × Unit) × (List (Int)) × ((Int) × (Int) × Unit × Unit × Unit) × (Unit × Unit × Unit) × (List ((Int) × ((Int) × ((Bool) × ((List (Int)) × (Unit)))))) × (List (List (Int))) × (List (List ((Int) × (Bool)))) × Unit)) → Option ((Unit × Unit × Unit) × (((Int) × (Int) × (List ((Int) × ((Int) × ((Bool) × ((List (Int)) × (Unit)))))) × (List (Int)) × Unit) × (List (Int)) × ((Int) × (Int) × Unit × Unit × Unit) × (List ((Int) × ((Int) × ((Bool) × ((List (Int)) × (Unit)))))) × Unit))
  | 0, _ => none
  | n + 1, ((_, _, _, _, x100, x101, ()), (y2, y8, y14, _, y314, y440, y441, ())) =>
    if (decide (x101 < x100)) = true then
      if decide (0 ≤ x101 ∧ x101 < (y441.length : Int)) = true then
        if (decide ((y441.getD x101.toNat []).length ≤ lim) && i64ok ((y441.getD x101.toNat []).map (·.1))) = true then
          (flimit fL324_33 (((), (), (), x101, (), x100, x101, (), ((sortedInts ((y441.getD x101.toNat []).map (·.1))).length : Int), (0 : Int), ()), ((y2.1, y2.2.1, y2.2.2.1, y2.2.2.2.1, ()), y8, (y14.1, y14.2.1, (), (), ()), ((), (), ()), (sortedInts ((y441.getD x101.toNat []).map (·.1))), y314, y440, y441, ()))).bind fun r1 =>
          fL324_30 n (((), (), (), (), r1.1.2.2.2.2.1, (IntKind.i64.wrap (r1.1.2.2.2.2.2.1 + (1 : Int))), ()), ((r1.2.1.1, r1.2.1.2.1, r1.2.1.2.2.1, r1.2.1.2.2.2.1, ()), r1.2.2.1, (r1.2.2.2.1.1, r1.2.2.2.1.2.1, (), (), ()), ((), (), ()), r1.2.2.2.2.2.1, r1.2.2.2.2.2.2.1, r1.2.2.2.2.2.2.2.1, ()))
        else
          none
      else
        none
    else
      some (((), (), ()), ((y2.1, y2.2.1, y2.2.2.1, y2.2.2.2.1, ()), y8, (y14.1, y14.2.1, (), (), ()), y314, ()))

theorem eL324_30 : ∀ n x, L324_30 n x = fL324_30 n x := by
  intro n
  induction n with
  | zero => intro x; rfl
  | succ n ih =>
    intro x
    obtain ⟨⟨z1, z2, z3, z4, x100, x101, ⟨⟩⟩, ⟨y2, y8, y14, z5, y314, y440, y441, ⟨⟩⟩⟩ := x
    simp only [L324_30, fL324_30, ih, limit_flimit eL324_33]

noncomputable def fp324 : ((List (Rx)) × Unit) → Option (((Int) × ((Int) × ((List ((Int) × ((Int) × ((Bool) × ((List (Int)) × (Unit)))))) × ((List (Int)) × (Unit))))) × (Int) × Unit)
  | (x0, ()) =>
    (flimit fL324_3 ((x0, (), (0 : Int), x0, (x0.length : Int), (0 : Int), ()), (((0 : Int), (0 : Int), ([] : List ((Int) × ((Int) × ((Bool) × ((List (Int)) × (Unit)))))), ([] : List (Int)), ()), ()))).bind (Sum.elim (fun r1 =>
      some ((r1.2.1.1, (r1.2.1.2.1, (r1.2.1.2.2.1, (r1.2.1.2.2.2.1, ())))), r1.1.2.1, ())) (fun r1 =>
      if (decide (r1.1.2.2.1 > (500 : Int))) = true then
        some (((0 : Int), ((0 : Int), (([] : List ((Int) × ((Int) × ((Bool) × ((List (Int)) × (Unit)))))), (([] : List (Int)), ())))), (11 : Int), ())
      else
        (flimit fL324_14 (((), (), (), r1.1.1, (r1.1.1.length : Int), (0 : Int), ()), ((r1.2.1.1, r1.2.1.2.1, r1.2.1.2.2.1, r1.2.1.2.2.2.1, ()), ([(-1 : Int)] : List (Int)), ((), (), ()), ([] : List (List (Int))), ([([] : List ((Int) × (Bool)))] : List (List ((Int) × (Bool)))), ()))).bind fun r2 =>
        (flimit fL324_30 (((), (), (), (), (r2.2.2.2.2.2.1.length : Int), (0 : Int), ()), ((r2.2.1.1, r2.2.1.2.1, r2.2.1.2.2.1, r2.2.1.2.2.2.1, ()), r2.2.2.1, ((r2.2.2.1.length : Int), (0 : Int), (), (), ()), ((), (), ()), ([] : List ((Int) × ((Int) × ((Bool) × ((List (Int)) × (Unit)))))), r2.2.2.2.2.1, r2.2.2.2.2.2.1, ()))).bind fun r3 =>
        some ((r3.2.2.2.1.1, (r3.2.2.2.1.2.1, (r3.2.2.2.2.1, (r3.2.2.1, ())))), (0 : Int), ())))

theorem ep324 : p324 = fp324 := by
  funext x
  obtain ⟨x0, ⟨⟩⟩ := x
  simp only [p324, fp324, limit_flimit eL324_3, limit_flimit eL324_14, limit_flimit eL324_30]

noncomputable def fL320_3 : Nat → ((Unit × (List (Int)) × (List (Int)) × (Int) × (Int) × Unit) × (((Int) × (Int) × (List ((Int) × ((Int) × ((Bool) × ((List (Int)) × (Unit)))))) × (List (Int)) × Unit) × Unit)) → Option ((Unit × (List (Int)) × Unit) × (((Int) × (Int) × (List ((Int) × ((Int) × ((Bool) × ((List (Int)) × (Unit)))))) × (List (Int)) × Unit) × Unit))
  | 0, _ => none
  | n + 1, ((_, x5, x18, x19, x20, ()), (y2, ())) =>
    if (decide (x20 < x19)) = true then
      if decide (0 ≤ x20 ∧ x20 < (x18.length : Int)) = true then
        (fp43 ((y2.1, (y2.2.1, (y2.2.2.1, (y2.2.2.2.1, ())))), x5, (x18.getD x20.toNat 0), ())).bind fun c1 =>
        fL320_3 n (((), c1, x18, x19, (IntKind.i64.wrap (x20 + (1 : Int))), ()), ((y2.1, y2.2.1, y2.2.2.1, y2.2.2.2.1, ()), ()))
      else
        none
    else
      some (((), x5, ()), ((y2.1, y2.2.1, y2.2.2.1, y2.2.2.2.1, ()), ()))

theorem eL320_3 : ∀ n x, L320_3 n x = fL320_3 n x := by
  intro n
  induction n with
  | zero => intro x; rfl
  | succ n ih =>
    intro x
    obtain ⟨⟨z1, x5, x18, x19, x20, ⟨⟩⟩, ⟨y2, ⟨⟩⟩⟩ := x
    simp only [L320_3, fL320_3, ih, ep43]

noncomputable def fL320_9 : Nat → ((Unit × (Int) × (List (Int)) × (Int) × (Int) × Unit) × (((Int) × (Int) × (List ((Int) × ((Int) × ((Bool) × ((List (Int)) × (Unit)))))) × (List (Int)) × Unit) × Unit)) → Option (((Int) × Unit) × (Unit))
  | 0, _ => none
  | n + 1, ((_, x8, x29, x30, x31, ()), (y2, ())) =>
    if (decide (x31 < x30)) = true then
      if decide (0 ≤ x31 ∧ x31 < (x29.length : Int)) = true then
        if decide (0 ≤ (x29.getD x31.toNat 0) ∧ (x29.getD x31.toNat 0) < (y2.2.2.2.1.length : Int)) = true then
          if (decide ((y2.2.2.2.1.getD (x29.getD x31.toNat 0).toNat 0) ≥ (0 : Int))) = true then
            if (decide (x8 < (0 : Int))) = true then
              fL320_9 n (((), (y2.2.2.2.1.getD (x29.getD x31.toNat 0).toNat 0), x29, x30, (IntKind.i64.wrap (x31 + (1 : Int))), ()), ((y2.1, y2.2.1, y2.2.2.1, y2.2.2.2.1, ()), ()))
            else
              if (decide ((y2.2.2.2.1.getD (x29.getD x31.toNat 0).toNat 0) < x8)) = true then
                fL320_9 n (((), (y2.2.2.2.1.getD (x29.getD x31.toNat 0).toNat 0), x29, x30, (IntKind.i64.wrap (x31 + (1 : Int))), ()), ((y2.1, y2.2.1, y2.2.2.1, y2.2.2.2.1, ()), ()))
              else
                fL320_9 n (((), x8, x29, x30, (IntKind.i64.wrap (x31 + (1 : Int))), ()), ((y2.1, y2.2.1, y2.2.2.1, y2.2.2.2.1, ()), ()))
          else
            fL320_9 n (((), x8, x29, x30, (IntKind.i64.wrap (x31 + (1 : Int))), ()), ((y2.1, y2.2.1, y2.2.2.1, y2.2.2.2.1, ()), ()))
        else
          none
      else
        none
    else
      some ((x8, ()), ())

theorem eL320_9 : ∀ n x, L320_9 n x = fL320_9 n x := by
  intro n
  induction n with
  | zero => intro x; rfl
  | succ n ih =>
    intro x
    obtain ⟨⟨z1, x8, x29, x30, x31, ⟨⟩⟩, ⟨y2, ⟨⟩⟩⟩ := x
    simp only [L320_9, fL320_9, ih]

noncomputable def fp320 : (((Int) × ((Int) × ((List ((Int) × ((Int) × ((Bool) × ((List (Int)) × (Unit)))))) × ((List (Int)) × (Unit))))) × (List UInt8) × Unit) → Option (Int)
  | (x0, x1, ()) =>
    (fp41 ((x0.1, (x0.2.1, (x0.2.2.1, (x0.2.2.2.1, ())))), ([x0.2.1] : List (Int)), ())).bind fun c1 =>
    (flimit fL320_3 (((), c1, (x1.map fun b => (b.toNat : Int)), ((x1.map fun b => (b.toNat : Int)).length : Int), (0 : Int), ()), ((x0.1, x0.2.1, x0.2.2.1, x0.2.2.2.1, ()), ()))).bind fun r2 =>
    (flimit fL320_9 (((), (-1 : Int), r2.1.2.1, (r2.1.2.1.length : Int), (0 : Int), ()), ((r2.2.1.1, r2.2.1.2.1, r2.2.1.2.2.1, r2.2.1.2.2.2.1, ()), ()))).bind fun r3 =>
    some r3.1.1

theorem ep320 : p320 = fp320 := by
  funext x
  obtain ⟨x0, x1, ⟨⟩⟩ := x
  simp only [p320, fp320, limit_flimit eL320_3, limit_flimit eL320_9, ep41]

noncomputable def fp329 : ((Int) × Unit) → Option (Rx)
  | (x0, ()) =>
    if decide ((64 : Int) = 0) = true then
      none
    else
      if decide ((64 : Int) = 0) = true then
        none
      else
        if decide (0 ≤ (x0.tmod (64 : Int))) = true then
          if decide (0 ≤ (IntKind.u8.wrap (x0.tdiv (64 : Int))) ∧ (IntKind.u8.wrap (x0.tdiv (64 : Int))) < (4 : Int)) = true then
            some (Rx.mk (3 : Int) [(([(0 : Int), (0 : Int), (0 : Int), (0 : Int)].set (IntKind.u8.wrap (x0.tdiv (64 : Int))).toNat (IntKind.u64.wrap ((1 : Int) * 2 ^ (min (x0.tmod (64 : Int)).toNat (IntKind.u64.bits))))).getD 0 0), (([(0 : Int), (0 : Int), (0 : Int), (0 : Int)].set (IntKind.u8.wrap (x0.tdiv (64 : Int))).toNat (IntKind.u64.wrap ((1 : Int) * 2 ^ (min (x0.tmod (64 : Int)).toNat (IntKind.u64.bits))))).getD 1 0), (([(0 : Int), (0 : Int), (0 : Int), (0 : Int)].set (IntKind.u8.wrap (x0.tdiv (64 : Int))).toNat (IntKind.u64.wrap ((1 : Int) * 2 ^ (min (x0.tmod (64 : Int)).toNat (IntKind.u64.bits))))).getD 2 0), (([(0 : Int), (0 : Int), (0 : Int), (0 : Int)].set (IntKind.u8.wrap (x0.tdiv (64 : Int))).toNat (IntKind.u64.wrap ((1 : Int) * 2 ^ (min (x0.tmod (64 : Int)).toNat (IntKind.u64.bits))))).getD 3 0)] ([] : List (Rx)))
          else
            none
        else
          none

theorem ep329 : p329 = fp329 := by
  funext x
  obtain ⟨x0, ⟨⟩⟩ := x
  simp only [p329, fp329]

noncomputable def fp311 : (Unit) → Option (Bool)
  | () =>
    (fp329 ((97 : Int), ())).bind fun c1 =>
    (fp329 ((97 : Int), ())).bind fun c2 =>
    (fp329 ((98 : Int), ())).bind fun c3 =>
    (fp324 (([(Rx.mk (6 : Int) [(0 : Int), (0 : Int), (0 : Int), (0 : Int)] ([(Rx.mk c1.kind [(c1.set.getD 0 0), (c1.set.getD 1 0), (c1.set.getD 2 0), (c1.set.getD 3 0)] c1.kids)] : List (Rx))), (Rx.mk (4 : Int) [(0 : Int), (0 : Int), (0 : Int), (0 : Int)] ([(Rx.mk c2.kind [(c2.set.getD 0 0), (c2.set.getD 1 0), (c2.set.getD 2 0), (c2.set.getD 3 0)] c2.kids), (Rx.mk c3.kind [(c3.set.getD 0 0), (c3.set.getD 1 0), (c3.set.getD 2 0), (c3.set.getD 3 0)] c3.kids)] : List (Rx)))] : List (Rx)), ())).bind fun c4 =>
    if (decide (c4.2.1 = (0 : Int))) = true then
      (fp39 ((c4.1.1, (c4.1.2.1, (c4.1.2.2.1, (c4.1.2.2.2.1, ())))), ())).bind fun c5 =>
      if c5 = true then
        (fp320 ((c4.1.1, (c4.1.2.1, (c4.1.2.2.1, (c4.1.2.2.2.1, ())))), ([97, 97] : List UInt8), ())).bind fun c6 =>
        if (decide (c6 = (0 : Int))) = true then
          (fp320 ((c4.1.1, (c4.1.2.1, (c4.1.2.2.1, (c4.1.2.2.2.1, ())))), ([97, 98] : List UInt8), ())).bind fun c7 =>
          if (decide (c7 = (1 : Int))) = true then
            (fp320 ((c4.1.1, (c4.1.2.1, (c4.1.2.2.1, (c4.1.2.2.2.1, ())))), ([98] : List UInt8), ())).bind fun c8 =>
            if (decide (c8 = (-1 : Int))) = true then
              (fp39 (((0 : Int), ((0 : Int), (([] : List ((Int) × ((Int) × ((Bool) × ((List (Int)) × (Unit)))))), (([] : List (Int)), ())))), ())).bind fun c9 =>
              some (!c9)
            else
              some false
          else
            some false
        else
          some false
      else
        some false
    else
      some false

theorem ep311 : p311 = fp311 := by
  funext x
  obtain ⟨⟩ := x
  simp only [p311, fp311, ep329, ep324, ep39, ep320]

end Go.AM
