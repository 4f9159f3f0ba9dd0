/- Copies of the pure forms that the kernel can run. -/
import Derived.Test.YtagllmgnmkdogaaG1
namespace Go.AM
open Go

noncomputable def fp29 : (((List (Int)) × ((List (List (Int))) × ((List (Int)) × (Unit)))) × (Int) × (Int) × Unit) → Option (Int)
  | (x0, x1, x2, ()) =>
    if (decide (x1 < (0 : Int))) = true then
      some (-1 : Int)
    else
      if decide (0 ≤ x1 ∧ x1 < (x0.2.1.length : Int)) = true then
        if decide (0 ≤ x2 ∧ x2 < (x0.1.length : Int)) = true then
          if decide (0 ≤ (x0.1.getD x2.toNat 0) ∧ (x0.1.getD x2.toNat 0) < ((x0.2.1.getD x1.toNat []).length : Int)) = true then
            some ((x0.2.1.getD x1.toNat []).getD (x0.1.getD x2.toNat 0).toNat 0)
          else
            none
        else
          none
      else
        none

theorem ep29 : p29 = fp29 := by
  funext x
  obtain ⟨x0, x1, x2, ⟨⟩⟩ := x
  simp only [p29, fp29]

noncomputable def fp31 : (((List (Int)) × ((List (List (Int))) × ((List (Int)) × (Unit)))) × (Int) × (Int) × Unit) → Option (Int)
  | (x0, x1, x2, ()) =>
    if (decide (x1 < (0 : Int))) = true then
      some (-1 : Int)
    else
      if decide (0 ≤ x1 ∧ x1 < (x0.2.1.length : Int)) = true then
        if decide (0 ≤ x2 ∧ x2 < (x0.1.length : Int)) = true then
          if decide (0 ≤ (x0.1.getD x2.toNat 0) ∧ (x0.1.getD x2.toNat 0) < ((x0.2.1.getD x1.toNat []).length : Int)) = true then
            some ((x0.2.1.getD x1.toNat []).getD (x0.1.getD x2.toNat 0).toNat 0)
          else
            none
        else
          none
      else
        none

theorem ep31 : p31 = fp31 := by
  funext x
  obtain ⟨x0, x1, x2, ⟨⟩⟩ := x
  simp only [p31, fp31]

noncomputable def fp30 : (((List (Int)) × ((List (List (Int))) × ((List (Int)) × (Unit)))) × (Int) × Unit) → Option (Int)
  | (x0, x1, ()) =>
    if (decide (x1 < (0 : Int))) = true then
      some (-1 : Int)
    else
      if decide (0 ≤ x1 ∧ x1 < (x0.2.2.1.length : Int)) = true then
        some (x0.2.2.1.getD x1.toNat 0)
      else
        none

theorem ep30 : p30 = fp30 := by
  funext x
  obtain ⟨x0, x1, ⟨⟩⟩ := x
  simp only [p30, fp30]

noncomputable def fL47_3 : Nat → (((List (Int)) × Unit × (Int) × Unit) × ((List (Int)) × Unit)) → Option ((Unit × Unit) × ((List (Int)) × Unit))
  | 0, _ => none
  | n + 1, ((x0, _, x4, ()), (y3, ())) =>
    if (decide (x4 < (256 : Int))) = true then
      if decide (0 ≤ x4 ∧ x4 < (x0.length : Int)) = true then
        if (decide ((x0.getD x4.toNat 0) = (y3.length : Int))) = true then
          if decide (y3.length + ([(IntKind.u8.wrap x4)] : List (Int)).length ≤ lim) = true then
            fL47_3 n ((x0, (), (IntKind.i64.wrap (x4 + (1 : Int))), ()), ((y3 ++ ([(IntKind.u8.wrap x4)] : List (Int))), ()))
          else
            none
        else
          fL47_3 n ((x0, (), (IntKind.i64.wrap (x4 + (1 : Int))), ()), (y3, ()))
      else
        none
    else
      some (((), ()), (y3, ()))

theorem eL47_3 : ∀ n x, L47_3 n x = fL47_3 n x := by
  intro n
  induction n with
  | zero => intro x; rfl
  | succ n ih =>
    intro x
    obtain ⟨⟨x0, z1, x4, ⟨⟩⟩, ⟨y3, ⟨⟩⟩⟩ := x
    simp only [L47_3, fL47_3, ih]

noncomputable def fp47 : ((List (Int)) × Unit) → Option (List (Int))
  | (x0, ()) =>
    (flimit fL47_3 ((x0, (), (0 : Int), ()), (([] : List (Int)), ()))).bind fun r1 =>
    some r1.2.1

theorem ep47 : p47 = fp47 := by
  funext x
  obtain ⟨x0, ⟨⟩⟩ := x
  simp only [p47, fp47, limit_flimit eL47_3]

noncomputable def fL38_3 : Nat → ((Unit × (List (Int)) × (Int) × (Int) × Unit) × ((List (Int)) × Unit)) → Option ((Unit × Unit) × ((List (Int)) × Unit))
  | 0, _ => none
  | n + 1, ((_, x6, x7, x8, ()), (y3, ())) =>
    if (decide (x8 < x7)) = true then
      if decide (0 ≤ x8 ∧ x8 < (x6.length : Int)) = true then
        if (decide ((x6.getD x8.toNat 0) = (y3.length : Int))) = true then
          if decide (y3.length + ([(IntKind.u8.wrap x8)] : List (Int)).length ≤ lim) = true then
            fL38_3 n (((), x6, x7, (IntKind.i64.wrap (x8 + (1 : Int))), ()), ((y3 ++ ([(IntKind.u8.wrap x8)] : List (Int))), ()))
          else
            none
        else
          fL38_3 n (((), x6, x7, (IntKind.i64.wrap (x8 + (1 : Int))), ()), (y3, ()))
      else
        none
    else
      some (((), ()), (y3, ()))

theorem eL38_3 : ∀ n x, L38_3 n x = fL38_3 n x := by
  intro n
  induction n with
  | zero => intro x; rfl
  | succ n ih =>
    intro x
    obtain ⟨⟨z1, x6, x7, x8, ⟨⟩⟩, ⟨y3, ⟨⟩⟩⟩ := x
    simp only [L38_3, fL38_3, ih]

noncomputable def fp38 : ((List (Int)) × Unit) → Option (List (Int))
  | (x0, ()) =>
    (flimit fL38_3 (((), x0, (x0.length : Int), (0 : Int), ()), (([] : List (Int)), ()))).bind fun r1 =>
    some r1.2.1

theorem ep38 : p38 = fp38 := by
  funext x
  obtain ⟨x0, ⟨⟩⟩ := x
  simp only [p38, fp38, limit_flimit eL38_3]

noncomputable def fL57_6 : Nat → ((Unit × (Int) × (List (Int)) × (Int) × (Int) × (Int) × Unit) × ((List (Int)) × Unit)) → Option ((Unit × (List (Int)) × (Int) × (Int) × Unit) × ((List (Int)) × Unit))
  | 0, _ => none
  | n + 1, ((_, x5, x7, x8, x9, x13, ()), (y3, ())) =>
    if (decide (x13 < (8 : Int))) = true then
      if decide (0 ≤ (IntKind.i64.wrap ((8 : Int) * x13))) = true then
        if decide (y3.length + ([(IntKind.u8.wrap (x5.fdiv (2 ^ (min (IntKind.i64.wrap ((8 : Int) * x13)).toNat (IntKind.i64.bits)))))] : List (Int)).length ≤ lim) = true then
          fL57_6 n (((), x5, x7, x8, x9, (IntKind.i64.wrap (x13 + (1 : Int))), ()), ((y3 ++ ([(IntKind.u8.wrap (x5.fdiv (2 ^ (min (IntKind.i64.wrap ((8 : Int) * x13)).toNat (IntKind.i64.bits)))))] : List (Int))), ()))
        else
          none
      else
        none
    else
      some (((), x7, x8, x9, ()), (y3, ()))

theorem eL57_6 : ∀ n x, L57_6 n x = fL57_6 n x := by
  intro n
  induction n with
  | zero => intro x; rfl
  | succ n ih =>
    intro x
    obtain ⟨⟨z1, x5, x7, x8, x9, x13, ⟨⟩⟩, ⟨y3, ⟨⟩⟩⟩ := x
    simp only [L57_6, fL57_6, ih]

noncomputable def fL57_3 : Nat → ((Unit × (List (Int)) × (Int) × (Int) × Unit) × ((List (Int)) × Unit)) → Option ((Unit × Unit) × ((List (Int)) × Unit))
  | 0, _ => none
  | n + 1, ((_, x7, x8, x9, ()), (y3, ())) =>
    if (decide (x9 < x8)) = true then
      if decide (0 ≤ x9 ∧ x9 < (x7.length : Int)) = true then
        (flimit fL57_6 (((), (x7.getD x9.toNat 0), x7, x8, x9, (0 : Int), ()), (y3, ()))).bind fun r1 =>
        fL57_3 n (((), r1.1.2.1, r1.1.2.2.1, (IntKind.i64.wrap (r1.1.2.2.2.1 + (1 : Int))), ()), (r1.2.1, ()))
      else
        none
    else
      some (((), ()), (y3, ()))

theorem eL57_3 : ∀ n x, L57_3 n x = fL57_3 n x := by
  intro n
  induction n with
  | zero => intro x; rfl
  | succ n ih =>
    intro x
    obtain ⟨⟨z1, x7, x8, x9, ⟨⟩⟩, ⟨y3, ⟨⟩⟩⟩ := x
    simp only [L57_3, fL57_3, ih, limit_flimit eL57_6]

noncomputable def fp57 : ((List (Int)) × Unit) → Option (List UInt8)
  | (x0, ()) =>
    (flimit fL57_3 (((), x0, (x0.length : Int), (0 : Int), ()), (([] : List (Int)), ()))).bind fun r1 =>
    some (r1.2.1.map fun n => UInt8.ofNat n.toNat)

theorem ep57 : p57 = fp57 := by
  funext x
  obtain ⟨x0, ⟨⟩⟩ := x
  simp only [p57, fp57, limit_flimit eL57_3]

noncomputable def fL36_8 : Nat → (((List (Int)) × (List (Int)) × Unit × Unit × Unit × (Int) × Unit × (Int) × (Int) × (List (Int)) × (Int) × (Int) × Unit) × (((List (Int)) × (List (List (Int))) × (List (Int)) × Unit) × (List (Int)) × (List (Int)) × (List ((List UInt8) × (Int))) × Unit)) → Option (((List (Int)) × (List (Int)) × Unit × Unit × Unit × (Int) × Unit × (Int) × (Int) × Unit) × (((List (Int)) × (List (List (Int))) × (List (Int)) × Unit) × (List (Int)) × (List (Int)) × (List ((List UInt8) × (Int))) × Unit))
  | 0, _ => none
  | n + 1, ((x1, x2, _, _, _, x9, _, x19, x20, x23, x24, x25, ()), (y3, y10, y16, y17, ())) =>
    if (decide (x25 < x24)) = true then
      if decide (0 ≤ x25 ∧ x25 < (x23.length : Int)) = true then
        (fp29 ((y3.1, (y3.2.1, (y3.2.2.1, ()))), (x23.getD x25.toNat 0), (IntKind.u8.wrap x9), ())).bind fun c1 =>
        if (decide (c1 ≥ (0 : Int))) = true then
          if decide (0 ≤ c1 ∧ c1 < (x2.length : Int)) = true then
            if decide (y10.length + ([(x2.getD c1.toNat 0)] : List (Int)).length ≤ lim) = true then
              fL36_8 n ((x1, x2, (), (), (), x9, (), x19, x20, x23, x24, (IntKind.i64.wrap (x25 + (1 : Int))), ()), ((y3.1, y3.2.1, y3.2.2.1, ()), (y10 ++ ([(x2.getD c1.toNat 0)] : List (Int))), y16, y17, ()))
            else
              none
          else
            none
        else
          if decide (y10.length + ([c1] : List (Int)).length ≤ lim) = true then
            fL36_8 n ((x1, x2, (), (), (), x9, (), x19, x20, x23, x24, (IntKind.i64.wrap (x25 + (1 : Int))), ()), ((y3.1, y3.2.1, y3.2.2.1, ()), (y10 ++ ([c1] : List (Int))), y16, y17, ()))
          else
            none
      else
        none
    else
      some ((x1, x2, (), (), (), x9, (), x19, x20, ()), ((y3.1, y3.2.1, y3.2.2.1, ()), y10, y16, y17, ()))

theorem eL36_8 : ∀ n x, L36_8 n x = fL36_8 n x := by
  intro n
  induction n with
  | zero => intro x; rfl
  | succ n ih =>
    intro x
    obtain ⟨⟨x1, x2, z1, z2, z3, x9, z4, x19, x20, x23, x24, x25, ⟨⟩⟩, ⟨y3, y10, y16, y17, ⟨⟩⟩⟩ := x
    simp only [L36_8, fL36_8, ih, ep29]

noncomputable def fL57_36_6 : Nat → ((Unit × (Int) × Unit × (Int) × (Int) × (Int) × Unit) × (((List (Int)) × (List (List (Int))) × (List (Int)) × Unit) × (List (Int)) × (List (Int)) × (List ((List UInt8) × (Int))) × (List (Int)) × Unit)) → Option ((Unit × Unit × (Int) × (Int) × Unit) × (((List (Int)) × (List (List (Int))) × (List (Int)) × Unit) × (List (Int)) × (List (Int)) × (List ((List UInt8) × (Int))) × (List (Int)) × Unit))
  | 0, _ => none
  | n + 1, ((_, x5, _, x8, x9, x13, ()), (y3, y10, y16, y17, y1003, ())) =>
    if (decide (x13 < (8 : Int))) = true then
      if decide (0 ≤ (IntKind.i64.wrap ((8 : Int) * x13))) = true then
        if decide (y1003.length + ([(IntKind.u8.wrap (x5.fdiv (2 ^ (min (IntKind.i64.wrap ((8 : Int) * x13)).toNat (IntKind.i64.bits)))))] : List (Int)).length ≤ lim) = true then
          fL57_36_6 n (((), x5, (), x8, x9, (IntKind.i64.wrap (x13 + (1 : Int))), ()), ((y3.1, y3.2.1, y3.2.2.1, ()), y10, y16, y17, (y1003 ++ ([(IntKind.u8.wrap (x5.fdiv (2 ^ (min (IntKind.i64.wrap ((8 : Int) * x13)).toNat (IntKind.i64.bits)))))] : List (Int))), ()))
        else
          none
      else
        none
    else
      some (((), (), x8, x9, ()), ((y3.1, y3.2.1, y3.2.2.1, ()), y10, y16, y17, y1003, ()))

theorem eL57_36_6 : ∀ n x, L57_36_6 n x = fL57_36_6 n x := by
  intro n
  induction n with
  | zero => intro x; rfl
  | succ n ih =>
    intro x
    obtain ⟨⟨z1, x5, z2, x8, x9, x13, ⟨⟩⟩, ⟨y3, y10, y16, y17, y1003, ⟨⟩⟩⟩ := x
    simp only [L57_36_6, fL57_36_6, ih]

noncomputable def fL57_36_3 : Nat → ((Unit × Unit × (Int) × (Int) × Unit) × (((List (Int)) × (List (List (Int))) × (List (Int)) × Unit) × (List (Int)) × (List (Int)) × (List ((List UInt8) × (Int))) × (List (Int)) × Unit)) → Option ((Unit × Unit) × (((List (Int)) × (List (List (Int))) × (List (Int)) × Unit) × (List (Int)) × (List (Int)) × (List ((List UInt8) × (Int))) × (List (Int)) × Unit))
  | 0, _ => none
  | n + 1, ((_, _, x8, x9, ()), (y3, y10, y16, y17, y1003, ())) =>
    if (decide (x9 < x8)) = true then
      if decide (0 ≤ x9 ∧ x9 < (y10.length : Int)) = true then
        (flimit fL57_36_6 (((), (y10.getD x9.toNat 0), (), x8, x9, (0 : Int), ()), ((y3.1, y3.2.1, y3.2.2.1, ()), y10, y16, y17, y1003, ()))).bind fun r1 =>
        fL57_36_3 n (((), (), r1.1.2.2.1, (IntKind.i64.wrap (r1.1.2.2.2.1 + (1 : Int))), ()), ((r1.2.1.1, r1.2.1.2.1, r1.2.1.2.2.1, ()), r1.2.2.1, r1.2.2.2.1, r1.2.2.2.2.1, r1.2.2.2.2.2.1, ()))
      else
        none
    else
      some (((), ()), ((y3.1, y3.2.1, y3.2.2.1, ()), y10, y16, y17, y1003, ()))

theorem eL57_36_3 : ∀ n x, L57_36_3 n x = fL57_36_3 n x := by
  intro n
  induction n with
  | zero => intro x; rfl
  | succ n ih =>
    intro x
    obtain ⟨⟨z1, z2, x8, x9, ⟨⟩⟩, ⟨y3, y10, y16, y17, y1003, ⟨⟩⟩⟩ := x
    simp only [L57_36_3, fL57_36_3, ih, limit_flimit eL57_36_6]

noncomputable def fL36_4 : Nat → (((List (Int)) × (List (Int)) × Unit × Unit × Unit × (Int) × (Int) × Unit) × (((List (Int)) × (List (List (Int))) × (List (Int)) × Unit) × (List (Int)) × (List ((List UInt8) × (Int))) × Unit)) → Option ((Unit × Unit) × ((List (Int)) × Unit))
  | 0, _ => none
  | n + 1, ((x1, x2, _, _, _, x19, x20, ()), (y3, y16, y17, ())) =>
    if (decide (x20 < x19)) = true then
      (flimit fL36_8 ((x1, x2, (), (), (), x20, (), x19, x20, x1, (x1.length : Int), (0 : Int), ()), ((y3.1, y3.2.1, y3.2.2.1, ()), ([] : List (Int)), y16, y17, ()))).bind fun r1 =>
      (flimit fL57_36_3 (((), (), (r1.2.2.1.length : Int), (0 : Int), ()), ((r1.2.1.1, r1.2.1.2.1, r1.2.1.2.2.1, ()), r1.2.2.1, r1.2.2.2.1, r1.2.2.2.2.1, ([] : List (Int)), ()))).bind fun r2 =>
      if (!(mget .str (r2.2.2.2.2.2.1.map fun n => UInt8.ofNat n.toNat) r2.2.2.2.2.1).isSome) = true then
        (flimit fL57_36_3 (((), (), (r2.2.2.1.length : Int), (0 : Int), ()), ((r2.2.1.1, r2.2.1.2.1, r2.2.1.2.2.1, ()), r2.2.2.1, r2.2.2.2.1, r2.2.2.2.2.1, ([] : List (Int)), ()))).bind fun r3 =>
        if decide (0 ≤ r1.1.2.2.2.2.2.1 ∧ r1.1.2.2.2.2.2.1 < (r3.2.2.2.1.length : Int)) = true then
          fL36_4 n ((r1.1.1, r1.1.2.1, (), (), (), r1.1.2.2.2.2.2.2.2.1, (IntKind.i64.wrap (r1.1.2.2.2.2.2.2.2.2.1 + (1 : Int))), ()), ((r3.2.1.1, r3.2.1.2.1, r3.2.1.2.2.1, ()), (r3.2.2.2.1.set r1.1.2.2.2.2.2.1.toNat (r2.2.2.2.2.1.length : Int)), (mput .str (r3.2.2.2.2.2.1.map fun n => UInt8.ofNat n.toNat) (r2.2.2.2.2.1.length : Int) r3.2.2.2.2.1), ()))
        else
          none
      else
        if decide (0 ≤ r1.1.2.2.2.2.2.1 ∧ r1.1.2.2.2.2.2.1 < (r2.2.2.2.1.length : Int)) = true then
          fL36_4 n ((r1.1.1, r1.1.2.1, (), (), (), r1.1.2.2.2.2.2.2.2.1, (IntKind.i64.wrap (r1.1.2.2.2.2.2.2.2.2.1 + (1 : Int))), ()), ((r2.2.1.1, r2.2.1.2.1, r2.2.1.2.2.1, ()), (r2.2.2.2.1.set r1.1.2.2.2.2.2.1.toNat ((mget .str (r2.2.2.2.2.2.1.map fun n => UInt8.ofNat n.toNat) r2.2.2.2.2.1).getD 0)), r2.2.2.2.2.1, ()))
        else
          none
    else
      some (((), ()), (y16, ()))

theorem eL36_4 : ∀ n x, L36_4 n x = fL36_4 n x := by
  intro n
  induction n with
  | zero => intro x; rfl
  | succ n ih =>
    intro x
    obtain ⟨⟨x1, x2, z1, z2, z3, x19, x20, ⟨⟩⟩, ⟨y3, y16, y17, ⟨⟩⟩⟩ := x
    simp only [L36_4, fL36_4, ih, limit_flimit eL36_8, limit_flimit eL57_36_3]

noncomputable def fp36 : (((List (Int)) × ((List (List (Int))) × ((List (Int)) × (Unit)))) × (List (Int)) × (List (Int)) × Unit) → Option (List (Int))
  | (x0, x1, x2, ()) =>
    if decide ((256 : Int) = (256 : Int) ∧ 0 ≤ (256 : Int) ∧ (256 : Int) ≤ (lim : Int)) = true then
      (flimit fL36_4 ((x1, x2, (), (), (), ((List.replicate (256 : Int).toNat (0 : Int)).length : Int), (0 : Int), ()), ((x0.1, x0.2.1, x0.2.2.1, ()), (List.replicate (256 : Int).toNat (0 : Int)), ([] : List ((List UInt8) × (Int))), ()))).bind fun r1 =>
      some r1.2.1
    else
      none

theorem ep36 : p36 = fp36 := by
  funext x
  obtain ⟨x0, x1, x2, ⟨⟩⟩ := x
  simp only [p36, fp36, limit_flimit eL36_4]

noncomputable def fL37_8 : Nat → (((List (Int)) × Unit × Unit × Unit × (Int) × (List (Int)) × (Int) × (Int) × Unit) × (((List (Int)) × (List (List (Int))) × (List (Int)) × Unit) × (List (Int)) × (List (Bool)) × Unit)) → Option (((List (Int)) × Unit × Unit × Unit × (Int) × Unit) × (((List (Int)) × (List (List (Int))) × (List (Int)) × Unit) × (List (Int)) × (List (Bool)) × Unit))
  | 0, _ => none
  | n + 1, ((x1, _, _, _, x7, x33, x34, x35, ()), (y2, y5, y14, ())) =>
    if (decide (x35 < x34)) = true then
      if decide (0 ≤ x35 ∧ x35 < (x33.length : Int)) = true then
        if (decide ((x33.getD x35.toNat 0) ≥ (0 : Int))) = true then
          if decide (0 ≤ (x33.getD x35.toNat 0) ∧ (x33.getD x35.toNat 0) < (x1.length : Int)) = true then
            if decide (0 ≤ (x1.getD (x33.getD x35.toNat 0).toNat 0) ∧ (x1.getD (x33.getD x35.toNat 0).toNat 0) < (y14.length : Int)) = true then
              if (!(y14.getD (x1.getD (x33.getD x35.toNat 0).toNat 0).toNat false)) = true then
                if decide (0 ≤ (x33.getD x35.toNat 0) ∧ (x33.getD x35.toNat 0) < (x1.length : Int)) = true then
                  if decide (0 ≤ (x1.getD (x33.getD x35.toNat 0).toNat 0) ∧ (x1.getD (x33.getD x35.toNat 0).toNat 0) < (y14.length : Int)) = true then
                    if decide (y5.length + ([(x33.getD x35.toNat 0)] : List (Int)).length ≤ lim) = true then
                      fL37_8 n ((x1, (), (), (), x7, x33, x34, (IntKind.i64.wrap (x35 + (1 : Int))), ()), ((y2.1, y2.2.1, y2.2.2.1, ()), (y5 ++ ([(x33.getD x35.toNat 0)] : List (Int))), (y14.set (x1.getD (x33.getD x35.toNat 0).toNat 0).toNat true), ()))
                    else
                      none
                  else
                    none
                else
                  none
              else
                fL37_8 n ((x1, (), (), (), x7, x33, x34, (IntKind.i64.wrap (x35 + (1 : Int))), ()), ((y2.1, y2.2.1, y2.2.2.1, ()), y5, y14, ()))
            else
              none
          else
            none
        else
          fL37_8 n ((x1, (), (), (), x7, x33, x34, (IntKind.i64.wrap (x35 + (1 : Int))), ()), ((y2.1, y2.2.1, y2.2.2.1, ()), y5, y14, ()))
      else
        none
    else
      some ((x1, (), (), (), x7, ()), ((y2.1, y2.2.1, y2.2.2.1, ()), y5, y14, ()))

theorem eL37_8 : ∀ n x, L37_8 n x = fL37_8 n x := by
  intro n
  induction n with
  | zero => intro x; rfl
  | succ n ih =>
    intro x
    obtain ⟨⟨x1, z1, z2, z3, x7, x33, x34, x35, ⟨⟩⟩, ⟨y2, y5, y14, ⟨⟩⟩⟩ := x
    simp only [L37_8, fL37_8, ih]

noncomputable def fL37_5 : Nat → (((List (Int)) × Unit × Unit × Unit × (Int) × Unit) × (((List (Int)) × (List (List (Int))) × (List (Int)) × Unit) × (List (Int)) × (List (Bool)) × Unit)) → Option ((Unit × Unit) × ((List (Int)) × Unit))
  | 0, _ => none
  | n + 1, ((x1, _, _, _, x7, ()), (y2, y5, y14, ())) =>
    if (decide (x7 < (y5.length : Int))) = true then
      if decide (0 ≤ x7 ∧ x7 < (y5.length : Int)) = true then
        if decide (0 ≤ (y5.getD x7.toNat 0) ∧ (y5.getD x7.toNat 0) < (y2.2.1.length : Int)) = true then
          (flimit fL37_8 ((x1, (), (), (), x7, (y2.2.1.getD (y5.getD x7.toNat 0).toNat []), ((y2.2.1.getD (y5.getD x7.toNat 0).toNat []).length : Int), (0 : Int), ()), ((y2.1, y2.2.1, y2.2.2.1, ()), y5, y14, ()))).bind fun r1 =>
          fL37_5 n ((r1.1.1, (), (), (), (IntKind.i64.wrap (r1.1.2.2.2.2.1 + (1 : Int))), ()), ((r1.2.1.1, r1.2.1.2.1, r1.2.1.2.2.1, ()), r1.2.2.1, r1.2.2.2.1, ()))
        else
          none
      else
        none
    else
      some (((), ()), (y5, ()))

theorem eL37_5 : ∀ n x, L37_5 n x = fL37_5 n x := by
  intro n
  induction n with
  | zero => intro x; rfl
  | succ n ih =>
    intro x
    obtain ⟨⟨x1, z1, z2, z3, x7, ⟨⟩⟩, ⟨y2, y5, y14, ⟨⟩⟩⟩ := x
    simp only [L37_5, fL37_5, ih, limit_flimit eL37_8]

noncomputable def fp37 : (((List (Int)) × ((List (List (Int))) × ((List (Int)) × (Unit)))) × (List (Int)) × Unit) → Option (List (Int))
  | (x0, x1, ()) =>
    if decide ((x0.2.1.length : Int) = (x0.2.1.length : Int) ∧ 0 ≤ (x0.2.1.length : Int) ∧ (x0.2.1.length : Int) ≤ (lim : Int)) = true then
      if decide (0 ≤ (0 : Int) ∧ (0 : Int) < (x1.length : Int)) = true then
        if decide (0 ≤ (x1.getD (0 : Int).toNat 0) ∧ (x1.getD (0 : Int).toNat 0) < ((List.replicate (x0.2.1.length : Int).toNat false).length : Int)) = true then
          (flimit fL37_5 ((x1, (), (), (), (0 : Int), ()), ((x0.1, x0.2.1, x0.2.2.1, ()), ([(0 : Int)] : List (Int)), ((List.replicate (x0.2.1.length : Int).toNat false).set (x1.getD (0 : Int).toNat 0).toNat true), ()))).bind fun r1 =>
          some r1.2.1
        else
          none
      else
        none
    else
      none

theorem ep37 : p37 = fp37 := by
  funext x
  obtain ⟨x0, x1, ⟨⟩⟩ := x
  simp only [p37, fp37, limit_flimit eL37_5]

noncomputable def fL35_10 : Nat → ((Unit × Unit × (Int) × Unit × Unit × (Int) × Unit × (List (List (Int))) × (Int) × (Int) × (List (Int)) × (Int) × (Int) × Unit) × (((List (Int)) × (List (List (Int))) × (List (Int)) × Unit) × (List (Int)) × (List (Int)) × (List ((List UInt8) × (Int))) × (List (Int)) × Unit)) → Option ((Unit × Unit × (Int) × Unit × Unit × (Int) × Unit × (List (List (Int))) × (Int) × (Int) × Unit) × (((List (Int)) × (List (List (Int))) × (List (Int)) × Unit) × (List (Int)) × (List (Int)) × (List ((List UInt8) × (Int))) × (List (Int)) × Unit))
  | 0, _ => none
  | n + 1, ((_, _, x4, _, _, x7, _, x23, x24, x25, x41, x42, x43, ()), (y1, y3, y9, y18, y21, ())) =>
    if (decide (x43 < x42)) = true then
      if decide (0 ≤ x43 ∧ x43 < (x41.length : Int)) = true then
        if (decide ((x41.getD x43.toNat 0) < (0 : Int))) = true then
          if decide (y9.length + ([(0 : Int)] : List (Int)).length ≤ lim) = true then
            fL35_10 n (((), (), x4, (), (), x7, (), x23, x24, x25, x41, x42, (IntKind.i64.wrap (x43 + (1 : Int))), ()), ((y1.1, y1.2.1, y1.2.2.1, ()), y3, (y9 ++ ([(0 : Int)] : List (Int))), y18, y21, ()))
          else
            none
        else
          if decide (0 ≤ (x41.getD x43.toNat 0) ∧ (x41.getD x43.toNat 0) < (y3.length : Int)) = true then
            if decide (y9.length + ([(IntKind.i64.wrap ((y3.getD (x41.getD x43.toNat 0).toNat 0) + (1 : Int)))] : List (Int)).length ≤ lim) = true then
              fL35_10 n (((), (), x4, (), (), x7, (), x23, x24, x25, x41, x42, (IntKind.i64.wrap (x43 + (1 : Int))), ()), ((y1.1, y1.2.1, y1.2.2.1, ()), y3, (y9 ++ ([(IntKind.i64.wrap ((y3.getD (x41.getD x43.toNat 0).toNat 0) + (1 : Int)))] : List (Int))), y18, y21, ()))
            else
              none
          else
            none
      else
        none
    else
      some (((), (), x4, (), (), x7, (), x23, x24, x25, ()), ((y1.1, y1.2.1, y1.2.2.1, ()), y3, y9, y18, y21, ()))

theorem eL35_10 : ∀ n x, L35_10 n x = fL35_10 n x := by
  intro n
  induction n with
  | zero => intro x; rfl
  | succ n ih =>
    intro x
    obtain ⟨⟨z1, z2, x4, z3, z4, x7, z5, x23, x24, x25, x41, x42, x43, ⟨⟩⟩, ⟨y1, y3, y9, y18, y21, ⟨⟩⟩⟩ := x
    simp only [L35_10, fL35_10, ih]

noncomputable def fL57_35_6 : Nat → ((Unit × (Int) × Unit × (Int) × (Int) × (Int) × Unit) × (((List (Int)) × (List (List (Int))) × (List (Int)) × Unit) × (List (Int)) × (List (Int)) × (List ((List UInt8) × (Int))) × (List (Int)) × (List (Int)) × Unit)) → Option ((Unit × Unit × (Int) × (Int) × Unit) × (((List (Int)) × (List (List (Int))) × (List (Int)) × Unit) × (List (Int)) × (List (Int)) × (List ((List UInt8) × (Int))) × (List (Int)) × (List (Int)) × Unit))
  | 0, _ => none
  | n + 1, ((_, x5, _, x8, x9, x13, ()), (y1, y3, y9, y18, y21, y1003, ())) =>
    if (decide (x13 < (8 : Int))) = true then
      if decide (0 ≤ (IntKind.i64.wrap ((8 : Int) * x13))) = true then
        if decide (y1003.length + ([(IntKind.u8.wrap (x5.fdiv (2 ^ (min (IntKind.i64.wrap ((8 : Int) * x13)).toNat (IntKind.i64.bits)))))] : List (Int)).length ≤ lim) = true then
          fL57_35_6 n (((), x5, (), x8, x9, (IntKind.i64.wrap (x13 + (1 : Int))), ()), ((y1.1, y1.2.1, y1.2.2.1, ()), y3, y9, y18, y21, (y1003 ++ ([(IntKind.u8.wrap (x5.fdiv (2 ^ (min (IntKind.i64.wrap ((8 : Int) * x13)).toNat (IntKind.i64.bits)))))] : List (Int))), ()))
        else
          none
      else
        none
    else
      some (((), (), x8, x9, ()), ((y1.1, y1.2.1, y1.2.2.1, ()), y3, y9, y18, y21, y1003, ()))

theorem eL57_35_6 : ∀ n x, L57_35_6 n x = fL57_35_6 n x := by
  intro n
  induction n with
  | zero => intro x; rfl
  | succ n ih =>
    intro x
    obtain ⟨⟨z1, x5, z2, x8, x9, x13, ⟨⟩⟩, ⟨y1, y3, y9, y18, y21, y1003, ⟨⟩⟩⟩ := x
    simp only [L57_35_6, fL57_35_6, ih]

noncomputable def fL57_35_3 : Nat → ((Unit × Unit × (Int) × (Int) × Unit) × (((List (Int)) × (List (List (Int))) × (List (Int)) × Unit) × (List (Int)) × (List (Int)) × (List ((List UInt8) × (Int))) × (List (Int)) × (List (Int)) × Unit)) → Option ((Unit × Unit) × (((List (Int)) × (List (List (Int))) × (List (Int)) × Unit) × (List (Int)) × (List (Int)) × (List ((List UInt8) × (Int))) × (List (Int)) × (List (Int)) × Unit))
  | 0, _ => none
  | n + 1, ((_, _, x8, x9, ()), (y1, y3, y9, y18, y21, y1003, ())) =>
    if (decide (x9 < x8)) = true then
      if decide (0 ≤ x9 ∧ x9 < (y9.length : Int)) = true then
        (flimit fL57_35_6 (((), (y9.getD x9.toNat 0), (), x8, x9, (0 : Int), ()), ((y1.1, y1.2.1, y1.2.2.1, ()), y3, y9, y18, y21, y1003, ()))).bind fun r1 =>
        fL57_35_3 n (((), (), r1.1.2.2.1, (IntKind.i64.wrap (r1.1.2.2.2.1 + (1 : Int))), ()), ((r1.2.1.1, r1.2.1.2.1, r1.2.1.2.2.1, ()), r1.2.2.1, r1.2.2.2.1, r1.2.2.2.2.1, r1.2.2.2.2.2.1, r1.2.2.2.2.2.2.1, ()))
      else
        none
    else
      some (((), ()), ((y1.1, y1.2.1, y1.2.2.1, ()), y3, y9, y18, y21, y1003, ()))

theorem eL57_35_3 : ∀ n x, L57_35_3 n x = fL57_35_3 n x := by
  intro n
  induction n with
  | zero => intro x; rfl
  | succ n ih =>
    intro x
    obtain ⟨⟨z1, z2, x8, x9, ⟨⟩⟩, ⟨y1, y3, y9, y18, y21, y1003, ⟨⟩⟩⟩ := x
    simp only [L57_35_3, fL57_35_3, ih, limit_flimit eL57_35_6]

noncomputable def fL35_6 : Nat → ((Unit × Unit × (Int) × Unit × Unit × (List (List (Int))) × (Int) × (Int) × Unit) × (((List (Int)) × (List (List (Int))) × (List (Int)) × Unit) × (List (Int)) × (List ((List UInt8) × (Int))) × (List (Int)) × Unit)) → Option ((Unit × (Int) × Unit × Unit × Unit) × (((List (Int)) × (List (List (Int))) × (List (Int)) × Unit) × (List ((List UInt8) × (Int))) × (List (Int)) × Unit))
  | 0, _ => none
  | n + 1, ((_, _, x4, _, _, x23, x24, x25, ()), (y1, y3, y18, y21, ())) =>
    if (decide (x25 < x24)) = true then
      if decide (0 ≤ x25 ∧ x25 < (x23.length : Int)) = true then
        if decide (0 ≤ x25 ∧ x25 < (y3.length : Int)) = true then
          if decide (0 ≤ x25 ∧ x25 < (y1.2.2.1.length : Int)) = true then
            (flimit fL35_10 (((), (), x4, (), (), x25, (), x23, x24, x25, (x23.getD x25.toNat []), ((x23.getD x25.toNat []).length : Int), (0 : Int), ()), ((y1.1, y1.2.1, y1.2.2.1, ()), y3, ([(y3.getD x25.toNat 0), (IntKind.i64.wrap ((y1.2.2.1.getD x25.toNat 0) + (1 : Int)))] : List (Int)), y18, y21, ()))).bind fun r1 =>
            (flimit fL57_35_3 (((), (), (r1.2.2.2.1.length : Int), (0 : Int), ()), ((r1.2.1.1, r1.2.1.2.1, r1.2.1.2.2.1, ()), r1.2.2.1, r1.2.2.2.1, r1.2.2.2.2.1, r1.2.2.2.2.2.1, ([] : List (Int)), ()))).bind fun r2 =>
            if (!(mget .str (r2.2.2.2.2.2.2.1.map fun n => UInt8.ofNat n.toNat) r2.2.2.2.2.1).isSome) = true then
              (flimit fL57_35_3 (((), (), (r2.2.2.2.1.length : Int), (0 : Int), ()), ((r2.2.1.1, r2.2.1.2.1, r2.2.1.2.2.1, ()), r2.2.2.1, r2.2.2.2.1, r2.2.2.2.2.1, r2.2.2.2.2.2.1, ([] : List (Int)), ()))).bind fun r3 =>
              if decide (0 ≤ r1.1.2.2.2.2.2.1 ∧ r1.1.2.2.2.2.2.1 < (r3.2.2.2.2.2.1.length : Int)) = true then
                fL35_6 n (((), (), r1.1.2.2.1, (), (), r1.1.2.2.2.2.2.2.2.1, r1.1.2.2.2.2.2.2.2.2.1, (IntKind.i64.wrap (r1.1.2.2.2.2.2.2.2.2.2.1 + (1 : Int))), ()), ((r3.2.1.1, r3.2.1.2.1, r3.2.1.2.2.1, ()), r3.2.2.1, (mput .str (r3.2.2.2.2.2.2.1.map fun n => UInt8.ofNat n.toNat) (r2.2.2.2.2.1.length : Int) r3.2.2.2.2.1), (r3.2.2.2.2.2.1.set r1.1.2.2.2.2.2.1.toNat (r2.2.2.2.2.1.length : Int)), ()))
              else
                none
            else
              if decide (0 ≤ r1.1.2.2.2.2.2.1 ∧ r1.1.2.2.2.2.2.1 < (r2.2.2.2.2.2.1.length : Int)) = true then
                fL35_6 n (((), (), r1.1.2.2.1, (), (), r1.1.2.2.2.2.2.2.2.1, r1.1.2.2.2.2.2.2.2.2.1, (IntKind.i64.wrap (r1.1.2.2.2.2.2.2.2.2.2.1 + (1 : Int))), ()), ((r2.2.1.1, r2.2.1.2.1, r2.2.1.2.2.1, ()), r2.2.2.1, r2.2.2.2.2.1, (r2.2.2.2.2.2.1.set r1.1.2.2.2.2.2.1.toNat ((mget .str (r2.2.2.2.2.2.2.1.map fun n => UInt8.ofNat n.toNat) r2.2.2.2.2.1).getD 0)), ()))
              else
                none
          else
            none
        else
          none
      else
        none
    else
      some (((), x4, (), (), ()), ((y1.1, y1.2.1, y1.2.2.1, ()), y18, y21, ()))

theorem eL35_6 : ∀ n x, L35_6 n x = fL35_6 n x := by
  intro n
  induction n with
  | zero => intro x; rfl
  | succ n ih =>
    intro x
    obtain ⟨⟨z1, z2, x4, z3, z4, x23, x24, x25, ⟨⟩⟩, ⟨y1, y3, y18, y21, ⟨⟩⟩⟩ := x
    simp only [L35_6, fL35_6, ih, limit_flimit eL35_10, limit_flimit eL57_35_3]

noncomputable def fL35_3 : Nat → ((Unit × Unit × (Int) × Unit) × (((List (Int)) × (List (List (Int))) × (List (Int)) × Unit) × (List (Int)) × Unit)) → Option ((Unit × Unit) × ((List (Int)) × Unit))
  | 0, _ => none
  | n + 1, ((_, _, x4, ()), (y1, y3, ())) =>
    if decide ((y3.length : Int) = (y3.length : Int) ∧ 0 ≤ (y3.length : Int) ∧ (y3.length : Int) ≤ (lim : Int)) = true then
      (flimit fL35_6 (((), (), x4, (), (), y1.2.1, (y1.2.1.length : Int), (0 : Int), ()), ((y1.1, y1.2.1, y1.2.2.1, ()), y3, ([] : List ((List UInt8) × (Int))), (List.replicate (y3.length : Int).toNat (0 : Int)), ()))).bind fun r1 =>
      if (decide ((r1.2.2.1.length : Int) = r1.1.2.1)) = true then
        some (((), ()), (r1.2.2.2.1, ()))
      else
        fL35_3 n (((), (), (r1.2.2.1.length : Int), ()), ((r1.2.1.1, r1.2.1.2.1, r1.2.1.2.2.1, ()), r1.2.2.2.1, ()))
    else
      none

theorem eL35_3 : ∀ n x, L35_3 n x = fL35_3 n x := by
  intro n
  induction n with
  | zero => intro x; rfl
  | succ n ih =>
    intro x
    obtain ⟨⟨z1, z2, x4, ⟨⟩⟩, ⟨y1, y3, ⟨⟩⟩⟩ := x
    simp only [L35_3, fL35_3, ih, limit_flimit eL35_6]

noncomputable def fp35 : (((List (Int)) × ((List (List (Int))) × ((List (Int)) × (Unit)))) × Unit) → Option (List (Int))
  | (x0, ()) =>
    if decide ((x0.2.1.length : Int) = (x0.2.1.length : Int) ∧ 0 ≤ (x0.2.1.length : Int) ∧ (x0.2.1.length : Int) ≤ (lim : Int)) = true then
      (flimit fL35_3 (((), (), (0 : Int), ()), ((x0.1, x0.2.1, x0.2.2.1, ()), (List.replicate (x0.2.1.length : Int).toNat (0 : Int)), ()))).bind fun r1 =>
      some r1.2.1
    else
      none

theorem ep35 : p35 = fp35 := by
  funext x
  obtain ⟨x0, ⟨⟩⟩ := x
  simp only [p35, fp35, limit_flimit eL35_3]

noncomputable def fL55_3 : Nat → ((Unit × Unit × (List (Int)) × (Int) × (Int) × Unit) × (((List (Int)) × (List (List (Int))) × (List (Int)) × Unit) × (Unit × Unit) × (List (Bool)) × Unit)) → Option ((Unit × Unit × Unit) × (((List (Int)) × (List (List (Int))) × (List (Int)) × Unit) × (Unit × Unit) × (List (Bool)) × Unit))
  | 0, _ => none
  | n + 1, ((_, _, x14, x15, x16, ()), (y1, _, y12, ())) =>
    if (decide (x16 < x15)) = true then
      if decide (0 ≤ x16 ∧ x16 < (x14.length : Int)) = true then
        if decide (0 ≤ x16 ∧ x16 < (y12.length : Int)) = true then
          fL55_3 n (((), (), x14, x15, (IntKind.i64.wrap (x16 + (1 : Int))), ()), ((y1.1, y1.2.1, y1.2.2.1, ()), ((), ()), (y12.set x16.toNat (decide ((x14.getD x16.toNat 0) ≥ (0 : Int)))), ()))
        else
          none
      else
        none
    else
      some (((), (), ()), ((y1.1, y1.2.1, y1.2.2.1, ()), ((), ()), y12, ()))

theorem eL55_3 : ∀ n x, L55_3 n x = fL55_3 n x := by
  intro n
  induction n with
  | zero => intro x; rfl
  | succ n ih =>
    intro x
    obtain ⟨⟨z1, z2, x14, x15, x16, ⟨⟩⟩, ⟨y1, z3, y12, ⟨⟩⟩⟩ := x
    simp only [L55_3, fL55_3, ih]

noncomputable def fL54_27_55_2 : Nat → (((List (Int)) × Unit × (Int) × (Int) × Unit) × (((List (Int)) × (List (List (Int))) × (List (Int)) × Unit) × (Unit × Unit) × (List (Bool)) × Unit)) → Option ((((Int) × Unit) × (((List (Int)) × (List (List (Int))) × (List (Int)) × Unit) × (Unit × Unit) × (List (Bool)) × Unit)) ⊕ ((Unit) × (((List (Int)) × (List (List (Int))) × (List (Int)) × Unit) × (Unit × Unit) × (List (Bool)) × Unit)))
  | 0, _ => none
  | n + 1, ((x0, _, x7, x8, ()), (y1, _, y12, ())) =>
    if (decide (x8 < x7)) = true then
      if decide (0 ≤ x8 ∧ x8 < (x0.length : Int)) = true then
        if (decide ((x0.getD x8.toNat 0) ≥ (0 : Int))) = true then
          if decide (0 ≤ (x0.getD x8.toNat 0) ∧ (x0.getD x8.toNat 0) < (y12.length : Int)) = true then
            if (y12.getD (x0.getD x8.toNat 0).toNat false) = true then
              some (.inl ((x8, ()), ((y1.1, y1.2.1, y1.2.2.1, ()), ((), ()), y12, ())))
            else
              fL54_27_55_2 n ((x0, (), x7, (IntKind.i64.wrap (x8 + (1 : Int))), ()), ((y1.1, y1.2.1, y1.2.2.1, ()), ((), ()), y12, ()))
          else
            none
        else
          fL54_27_55_2 n ((x0, (), x7, (IntKind.i64.wrap (x8 + (1 : Int))), ()), ((y1.1, y1.2.1, y1.2.2.1, ()), ((), ()), y12, ()))
      else
        none
    else
      some (.inr ((), ((y1.1, y1.2.1, y1.2.2.1, ()), ((), ()), y12, ())))

theorem eL54_27_55_2 : ∀ n x, L54_27_55_2 n x = fL54_27_55_2 n x := by
  intro n
  induction n with
  | zero => intro x; rfl
  | succ n ih =>
    intro x
    obtain ⟨⟨x0, z1, x7, x8, ⟨⟩⟩, ⟨y1, z2, y12, ⟨⟩⟩⟩ := x
    simp only [L54_27_55_2, fL54_27_55_2, ih]

noncomputable def fL55_11 : Nat → ((Unit × Unit × (Bool) × (List (List (Int))) × (Int) × (Int) × Unit) × (((List (Int)) × (List (List (Int))) × (List (Int)) × Unit) × (Unit × Unit) × (List (Bool)) × Unit)) → Option ((Unit × Unit × (Bool) × Unit) × (((List (Int)) × (List (List (Int))) × (List (Int)) × Unit) × (Unit × Unit) × (List (Bool)) × Unit))
  | 0, _ => none
  | n + 1, ((_, _, x6, x29, x30, x31, ()), (y1, _, y12, ())) =>
    if (decide (x31 < x30)) = true then
      if decide (0 ≤ x31 ∧ x31 < (x29.length : Int)) = true then
        if decide (0 ≤ x31 ∧ x31 < (y12.length : Int)) = true then
          if (!(y12.getD x31.toNat false)) = true then
            (flimit fL54_27_55_2 (((x29.getD x31.toNat []), (), ((x29.getD x31.toNat []).length : Int), (0 : Int), ()), ((y1.1, y1.2.1, y1.2.2.1, ()), ((), ()), y12, ()))).bind (Sum.elim (fun r1 =>
              if (decide (r1.1.1 ≥ (0 : Int))) = true then
                if decide (0 ≤ x31 ∧ x31 < (r1.2.2.2.1.length : Int)) = true then
                  fL55_11 n (((), (), true, x29, x30, (IntKind.i64.wrap (x31 + (1 : Int))), ()), ((r1.2.1.1, r1.2.1.2.1, r1.2.1.2.2.1, ()), ((), ()), (r1.2.2.2.1.set x31.toNat true), ()))
                else
                  none
              else
                fL55_11 n (((), (), x6, x29, x30, (IntKind.i64.wrap (x31 + (1 : Int))), ()), ((r1.2.1.1, r1.2.1.2.1, r1.2.1.2.2.1, ()), ((), ()), r1.2.2.2.1, ()))) (fun r1 =>
              if (decide ((-1 : Int) ≥ (0 : Int))) = true then
                if decide (0 ≤ x31 ∧ x31 < (r1.2.2.2.1.length : Int)) = true then
                  fL55_11 n (((), (), true, x29, x30, (IntKind.i64.wrap (x31 + (1 : Int))), ()), ((r1.2.1.1, r1.2.1.2.1, r1.2.1.2.2.1, ()), ((), ()), (r1.2.2.2.1.set x31.toNat true), ()))
                else
                  none
              else
                fL55_11 n (((), (), x6, x29, x30, (IntKind.i64.wrap (x31 + (1 : Int))), ()), ((r1.2.1.1, r1.2.1.2.1, r1.2.1.2.2.1, ()), ((), ()), r1.2.2.2.1, ()))))
          else
            fL55_11 n (((), (), x6, x29, x30, (IntKind.i64.wrap (x31 + (1 : Int))), ()), ((y1.1, y1.2.1, y1.2.2.1, ()), ((), ()), y12, ()))
        else
          none
      else
        none
    else
      some (((), (), x6, ()), ((y1.1, y1.2.1, y1.2.2.1, ()), ((), ()), y12, ()))

theorem eL55_11 : ∀ n x, L55_11 n x = fL55_11 n x := by
  intro n
  induction n with
  | zero => intro x; rfl
  | succ n ih =>
    intro x
    obtain ⟨⟨z1, z2, x6, x29, x30, x31, ⟨⟩⟩, ⟨y1, z3, y12, ⟨⟩⟩⟩ := x
    simp only [L55_11, fL55_11, ih, limit_flimit eL54_27_55_2]

noncomputable def fL55_8 : Nat → ((Unit × Unit × (Bool) × Unit) × (((List (Int)) × (List (List (Int))) × (List (Int)) × Unit) × (Unit × Unit) × (List (Bool)) × Unit)) → Option ((Unit × Unit) × ((Unit × Unit) × (List (Bool)) × Unit))
  | 0, _ => none
  | n + 1, ((_, _, x6, ()), (y1, _, y12, ())) =>
    if x6 = true then
      (flimit fL55_11 (((), (), false, y1.2.1, (y1.2.1.length : Int), (0 : Int), ()), ((y1.1, y1.2.1, y1.2.2.1, ()), ((), ()), y12, ()))).bind fun r1 =>
      fL55_8 n (((), (), r1.1.2.2.1, ()), ((r1.2.1.1, r1.2.1.2.1, r1.2.1.2.2.1, ()), ((), ()), r1.2.2.2.1, ()))
    else
      some (((), ()), (((), ()), y12, ()))

theorem eL55_8 : ∀ n x, L55_8 n x = fL55_8 n x := by
  intro n
  induction n with
  | zero => intro x; rfl
  | succ n ih =>
    intro x
    obtain ⟨⟨z1, z2, x6, ⟨⟩⟩, ⟨y1, z3, y12, ⟨⟩⟩⟩ := x
    simp only [L55_8, fL55_8, ih, limit_flimit eL55_11]

noncomputable def fp55 : (((List (Int)) × ((List (List (Int))) × ((List (Int)) × (Unit)))) × Unit) → Option (List (Bool))
  | (x0, ()) =>
    if decide ((x0.2.1.length : Int) = (x0.2.1.length : Int) ∧ 0 ≤ (x0.2.1.length : Int) ∧ (x0.2.1.length : Int) ≤ (lim : Int)) = true then
      (flimit fL55_3 (((), (), x0.2.2.1, (x0.2.2.1.length : Int), (0 : Int), ()), ((x0.1, x0.2.1, x0.2.2.1, ()), ((), ()), (List.replicate (x0.2.1.length : Int).toNat false), ()))).bind fun r1 =>
      (flimit fL55_8 (((), (), true, ()), ((r1.2.1.1, r1.2.1.2.1, r1.2.1.2.2.1, ()), ((), ()), r1.2.2.2.1, ()))).bind fun r2 =>
      some r2.2.2.1
    else
      none

theorem ep55 : p55 = fp55 := by
  funext x
  obtain ⟨x0, ⟨⟩⟩ := x
  simp only [p55, fp55, limit_flimit eL55_3, limit_flimit eL55_8]

noncomputable def fp56 : ((List (Int)) × Unit) → Option (List (Int))
  | (x0, ()) => if decide (([] : List Int).length + x0.length ≤ lim) = true then some x0 else none

theorem ep56 : p56 = fp56 := by
  funext x
  obtain ⟨x0, ⟨⟩⟩ := x
  simp only [p56, fp56]

noncomputable def fL33_8 : Nat → ((Unit × Unit × (List (Bool)) × Unit × Unit × (List (List (Int))) × (Int) × (Int) × Unit × (Int) × (Int) × Unit) × (((List (Int)) × (List (List (Int))) × (List (Int)) × Unit) × ((List (Int)) × (List (List (Int))) × (List (Int)) × Unit) × (List (List (Int))) × (List (Int)) × Unit)) → Option ((Unit × Unit × (List (Bool)) × Unit × Unit × (List (List (Int))) × (Int) × (Int) × Unit) × (((List (Int)) × (List (List (Int))) × (List (Int)) × Unit) × ((List (Int)) × (List (List (Int))) × (List (Int)) × Unit) × (List (List (Int))) × (List (Int)) × Unit))
  | 0, _ => none
  | n + 1, ((_, _, x3, _, _, x13, x14, x15, _, x22, x23, ()), (y1, y2, y4, y20, ())) =>
    if (decide (x23 < x22)) = true then
      if decide (0 ≤ x23 ∧ x23 < (y20.length : Int)) = true then
        if (decide ((y20.getD x23.toNat 0) ≥ (0 : Int))) = true then
          if decide (0 ≤ (y20.getD x23.toNat 0) ∧ (y20.getD x23.toNat 0) < (x3.length : Int)) = true then
            if (!(x3.getD (y20.getD x23.toNat 0).toNat false)) = true then
              if decide (0 ≤ x23 ∧ x23 < (y20.length : Int)) = true then
                fL33_8 n (((), (), x3, (), (), x13, x14, x15, (), x22, (IntKind.i64.wrap (x23 + (1 : Int))), ()), ((y1.1, y1.2.1, y1.2.2.1, ()), (y2.1, y2.2.1, y2.2.2.1, ()), y4, (y20.set x23.toNat (-1 : Int)), ()))
              else
                none
            else
              fL33_8 n (((), (), x3, (), (), x13, x14, x15, (), x22, (IntKind.i64.wrap (x23 + (1 : Int))), ()), ((y1.1, y1.2.1, y1.2.2.1, ()), (y2.1, y2.2.1, y2.2.2.1, ()), y4, y20, ()))
          else
            none
        else
          fL33_8 n (((), (), x3, (), (), x13, x14, x15, (), x22, (IntKind.i64.wrap (x23 + (1 : Int))), ()), ((y1.1, y1.2.1, y1.2.2.1, ()), (y2.1, y2.2.1, y2.2.2.1, ()), y4, y20, ()))
      else
        none
    else
      some (((), (), x3, (), (), x13, x14, x15, ()), ((y1.1, y1.2.1, y1.2.2.1, ()), (y2.1, y2.2.1, y2.2.2.1, ()), y4, y20, ()))

theorem eL33_8 : ∀ n x, L33_8 n x = fL33_8 n x := by
  intro n
  induction n with
  | zero => intro x; rfl
  | succ n ih =>
    intro x
    obtain ⟨⟨z1, z2, x3, z3, z4, x13, x14, x15, z5, x22, x23, ⟨⟩⟩, ⟨y1, y2, y4, y20, ⟨⟩⟩⟩ := x
    simp only [L33_8, fL33_8, ih]

noncomputable def fL33_4 : Nat → ((Unit × Unit × (List (Bool)) × Unit × (List (List (Int))) × (Int) × (Int) × Unit) × (((List (Int)) × (List (List (Int))) × (List (Int)) × Unit) × ((List (Int)) × (List (List (Int))) × (List (Int)) × Unit) × (List (List (Int))) × Unit)) → Option ((Unit × Unit × Unit × Unit) × (((List (Int)) × (List (List (Int))) × (List (Int)) × Unit) × ((List (Int)) × (List (List (Int))) × (List (Int)) × Unit) × (List (List (Int))) × Unit))
  | 0, _ => none
  | n + 1, ((_, _, x3, _, x13, x14, x15, ()), (y1, y2, y4, ())) =>
    if (decide (x15 < x14)) = true then
      if decide (0 ≤ x15 ∧ x15 < (x13.length : Int)) = true then
        (fp56 ((x13.getD x15.toNat []), ())).bind fun c1 =>
        (flimit fL33_8 (((), (), x3, (), (), x13, x14, x15, (), (c1.length : Int), (0 : Int), ()), ((y1.1, y1.2.1, y1.2.2.1, ()), (y2.1, y2.2.1, y2.2.2.1, ()), y4, c1, ()))).bind fun r2 =>
        if decide (r2.2.2.2.1.length + ([r2.2.2.2.2.1] : List (List (Int))).length ≤ lim) = true then
          fL33_4 n (((), (), r2.1.2.2.1, (), r2.1.2.2.2.2.2.1, r2.1.2.2.2.2.2.2.1, (IntKind.i64.wrap (r2.1.2.2.2.2.2.2.2.1 + (1 : Int))), ()), ((r2.2.1.1, r2.2.1.2.1, r2.2.1.2.2.1, ()), (r2.2.2.1.1, r2.2.2.1.2.1, r2.2.2.1.2.2.1, ()), (r2.2.2.2.1 ++ ([r2.2.2.2.2.1] : List (List (Int)))), ()))
        else
          none
      else
        none
    else
      some (((), (), (), ()), ((y1.1, y1.2.1, y1.2.2.1, ()), (y2.1, y2.2.1, y2.2.2.1, ()), y4, ()))

theorem eL33_4 : ∀ n x, L33_4 n x = fL33_4 n x := by
  intro n
  induction n with
  | zero => intro x; rfl
  | succ n ih =>
    intro x
    obtain ⟨⟨z1, z2, x3, z3, x13, x14, x15, ⟨⟩⟩, ⟨y1, y2, y4, ⟨⟩⟩⟩ := x
    simp only [L33_4, fL33_4, ih, limit_flimit eL33_8, ep56]

noncomputable def fp33 : (((List (Int)) × ((List (List (Int))) × ((List (Int)) × (Unit)))) × Unit) → Option ((List (Int)) × ((List (List (Int))) × ((List (Int)) × (Unit))))
  | (x0, ()) =>
    (fp55 ((x0.1, (x0.2.1, (x0.2.2.1, ()))), ())).bind fun c1 =>
    (flimit fL33_4 (((), (), c1, (), x0.2.1, (x0.2.1.length : Int), (0 : Int), ()), ((x0.1, x0.2.1, x0.2.2.1, ()), (([] : List (Int)), ([] : List (List (Int))), ([] : List (Int)), ()), ([] : List (List (Int))), ()))).bind fun r2 =>
    some (r2.2.1.1, (r2.2.2.2.1, (r2.2.1.2.2.1, ())))

theorem ep33 : p33 = fp33 := by
  funext x
  obtain ⟨x0, ⟨⟩⟩ := x
  simp only [p33, fp33, limit_flimit eL33_4, ep55]

noncomputable def fL34_5 : Nat → ((Unit × Unit × Unit × Unit × Unit × (List (Int)) × (Int) × (Int) × Unit) × (((List (Int)) × (List (List (Int))) × (List (Int)) × Unit) × ((List (Int)) × (List (List (Int))) × (List (Int)) × Unit) × (List (Int)) × (Unit × Unit × (List (Int)) × Unit) × (List ((Int) × (Int))) × (List (Int)) × (List (List (Int))) × Unit)) → Option ((Unit × Unit × Unit × Unit × Unit) × (((List (Int)) × (List (List (Int))) × (List (Int)) × Unit) × ((List (Int)) × (List (List (Int))) × (List (Int)) × Unit) × (List (Int)) × (Unit × Unit × (List (Int)) × Unit) × (List (Int)) × (List (List (Int))) × Unit))
  | 0, _ => none
  | n + 1, ((_, _, _, _, _, x24, x25, x26, ()), (y1, y2, y4, y5, y15, y19, y306, ())) =>
    if (decide (x26 < x25)) = true then
      if decide (0 ≤ x26 ∧ x26 < (x24.length : Int)) = true then
        if (!(mget (.int .i64) (x24.getD x26.toNat 0) y15).isSome) = true then
          if decide (y4.length + ([(x24.getD x26.toNat 0)] : List (Int)).length ≤ lim) = true then
            if decide (0 ≤ x26 ∧ x26 < (y19.length : Int)) = true then
              fL34_5 n (((), (), (), (), (), x24, x25, (IntKind.i64.wrap (x26 + (1 : Int))), ()), ((y1.1, y1.2.1, y1.2.2.1, ()), (y2.1, y2.2.1, y2.2.2.1, ()), (y4 ++ ([(x24.getD x26.toNat 0)] : List (Int))), ((), (), y5.2.2.1, ()), (mput (.int .i64) (x24.getD x26.toNat 0) (y4.length : Int) y15), (y19.set x26.toNat (y4.length : Int)), y306, ()))
            else
              none
          else
            none
        else
          if decide (0 ≤ x26 ∧ x26 < (y19.length : Int)) = true then
            fL34_5 n (((), (), (), (), (), x24, x25, (IntKind.i64.wrap (x26 + (1 : Int))), ()), ((y1.1, y1.2.1, y1.2.2.1, ()), (y2.1, y2.2.1, y2.2.2.1, ()), y4, ((), (), y5.2.2.1, ()), y15, (y19.set x26.toNat ((mget (.int .i64) (x24.getD x26.toNat 0) y15).getD 0)), y306, ()))
          else
            none
      else
        none
    else
      some (((), (), (), (), ()), ((y1.1, y1.2.1, y1.2.2.1, ()), (y2.1, y2.2.1, y2.2.2.1, ()), y4, ((), (), y5.2.2.1, ()), y19, y306, ()))

theorem eL34_5 : ∀ n x, L34_5 n x = fL34_5 n x := by
  intro n
  induction n with
  | zero => intro x; rfl
  | succ n ih =>
    intro x
    obtain ⟨⟨z1, z2, z3, z4, z5, x24, x25, x26, ⟨⟩⟩, ⟨y1, y2, y4, y5, y15, y19, y306, ⟨⟩⟩⟩ := x
    simp only [L34_5, fL34_5, ih]

noncomputable def fL34_19 : Nat → ((Unit × Unit × Unit × (List (Int)) × Unit × (List (List (Int))) × (Int) × (Int) × Unit × (Int) × (Int) × Unit) × (((List (Int)) × (List (List (Int))) × (List (Int)) × Unit) × (List (Int)) × (Unit × Unit × (List (Int)) × Unit) × (List (Int)) × (List (Int)) × (List (List (Int))) × Unit)) → Option ((Unit × Unit × Unit × Unit × (List (List (Int))) × (Int) × (Int) × Unit) × (((List (Int)) × (List (List (Int))) × (List (Int)) × Unit) × (List (Int)) × (Unit × Unit × (List (Int)) × Unit) × (List (Int)) × (List (Int)) × (List (List (Int))) × Unit))
  | 0, _ => none
  | n + 1, ((_, _, _, x11, _, x55, x56, x57, _, x62, x63, ()), (y2, y4, y5, y12, y19, y306, ())) =>
    if (decide (x63 < x62)) = true then
      if decide (0 ≤ x63 ∧ x63 < (y4.length : Int)) = true then
        if decide (0 ≤ (y4.getD x63.toNat 0) ∧ (y4.getD x63.toNat 0) < (x11.length : Int)) = true then
          if decide (y12.length + ([(x11.getD (y4.getD x63.toNat 0).toNat 0)] : List (Int)).length ≤ lim) = true then
            fL34_19 n (((), (), (), x11, (), x55, x56, x57, (), x62, (IntKind.i64.wrap (x63 + (1 : Int))), ()), ((y2.1, y2.2.1, y2.2.2.1, ()), y4, ((), (), y5.2.2.1, ()), (y12 ++ ([(x11.getD (y4.getD x63.toNat 0).toNat 0)] : List (Int))), y19, y306, ()))
          else
            none
        else
          none
      else
        none
    else
      some (((), (), (), (), x55, x56, x57, ()), ((y2.1, y2.2.1, y2.2.2.1, ()), y4, ((), (), y5.2.2.1, ()), y12, y19, y306, ()))

theorem eL34_19 : ∀ n x, L34_19 n x = fL34_19 n x := by
  intro n
  induction n with
  | zero => intro x; rfl
  | succ n ih =>
    intro x
    obtain ⟨⟨z1, z2, z3, x11, z4, x55, x56, x57, z5, x62, x63, ⟨⟩⟩, ⟨y2, y4, y5, y12, y19, y306, ⟨⟩⟩⟩ := x
    simp only [L34_19, fL34_19, ih]

noncomputable def fL34_15 : Nat → ((Unit × Unit × Unit × (List (List (Int))) × (Int) × (Int) × Unit) × (((List (Int)) × (List (List (Int))) × (List (Int)) × Unit) × (List (Int)) × (Unit × Unit × (List (Int)) × Unit) × (List (Int)) × (List (List (Int))) × Unit)) → Option ((Unit × Unit × Unit) × (((List (Int)) × (List (List (Int))) × (List (Int)) × Unit) × (Unit × Unit × (List (Int)) × Unit) × (List (Int)) × (List (List (Int))) × Unit))
  | 0, _ => none
  | n + 1, ((_, _, _, x55, x56, x57, ()), (y2, y4, y5, y19, y306, ())) =>
    if (decide (x57 < x56)) = true then
      if decide (0 ≤ x57 ∧ x57 < (x55.length : Int)) = true then
        (flimit fL34_19 (((), (), (), (x55.getD x57.toNat []), (), x55, x56, x57, (), (y4.length : Int), (0 : Int), ()), ((y2.1, y2.2.1, y2.2.2.1, ()), y4, ((), (), y5.2.2.1, ()), ([] : List (Int)), y19, y306, ()))).bind fun r1 =>
        if decide (r1.2.2.2.2.2.2.1.length + ([r1.2.2.2.2.1] : List (List (Int))).length ≤ lim) = true then
          fL34_15 n (((), (), (), r1.1.2.2.2.2.1, r1.1.2.2.2.2.2.1, (IntKind.i64.wrap (r1.1.2.2.2.2.2.2.1 + (1 : Int))), ()), ((r1.2.1.1, r1.2.1.2.1, r1.2.1.2.2.1, ()), r1.2.2.1, ((), (), r1.2.2.2.1.2.2.1, ()), r1.2.2.2.2.2.1, (r1.2.2.2.2.2.2.1 ++ ([r1.2.2.2.2.1] : List (List (Int)))), ()))
        else
          none
      else
        none
    else
      some (((), (), ()), ((y2.1, y2.2.1, y2.2.2.1, ()), ((), (), y5.2.2.1, ()), y19, y306, ()))

theorem eL34_15 : ∀ n x, L34_15 n x = fL34_15 n x := by
  intro n
  induction n with
  | zero => intro x; rfl
  | succ n ih =>
    intro x
    obtain ⟨⟨z1, z2, z3, x55, x56, x57, ⟨⟩⟩, ⟨y2, y4, y5, y19, y306, ⟨⟩⟩⟩ := x
    simp only [L34_15, fL34_15, ih, limit_flimit eL34_19]

noncomputable def fp34 : (((List (Int)) × ((List (List (Int))) × ((List (Int)) × (Unit)))) × Unit) → Option ((List (Int)) × ((List (List (Int))) × ((List (Int)) × (Unit))))
  | (x0, ()) =>
    if decide ((x0.1.length : Int) = (x0.1.length : Int) ∧ 0 ≤ (x0.1.length : Int) ∧ (x0.1.length : Int) ≤ (lim : Int)) = true then
      (flimit fL34_5 (((), (), (), (), (), x0.1, (x0.1.length : Int), (0 : Int), ()), ((x0.1, x0.2.1, x0.2.2.1, ()), (([] : List (Int)), ([] : List (List (Int))), ([] : List (Int)), ()), ([] : List (Int)), ((), (), x0.2.2.1, ()), ([] : List ((Int) × (Int))), (List.replicate (x0.1.length : Int).toNat (0 : Int)), ([] : List (List (Int))), ()))).bind fun r1 =>
      (flimit fL34_15 (((), (), (), r1.2.1.2.1, (r1.2.1.2.1.length : Int), (0 : Int), ()), ((r1.2.2.1.1, r1.2.2.1.2.1, r1.2.2.1.2.2.1, ()), r1.2.2.2.1, ((), (), r1.2.2.2.2.1.2.2.1, ()), r1.2.2.2.2.2.1, r1.2.2.2.2.2.2.1, ()))).bind fun r2 =>
      some (r2.2.2.2.1, (r2.2.2.2.2.1, (r2.2.2.1.2.2.1, ())))
    else
      none

theorem ep34 : p34 = fp34 := by
  funext x
  obtain ⟨x0, ⟨⟩⟩ := x
  simp only [p34, fp34, limit_flimit eL34_5, limit_flimit eL34_15]

noncomputable def fL15_12 : Nat → ((Unit × Unit × (List (Int)) × Unit × (List (Int)) × Unit × Unit × (Int) × Unit × (List (Int)) × (Int) × (Int) × Unit) × (((List (Int)) × (List (List (Int))) × (List (Int)) × Unit) × ((List (Int)) × (List (List (Int))) × (List (Int)) × Unit) × ((List (Int)) × Unit × Unit × Unit) × (List (Int)) × (List ((Int) × (Int))) × (List (Int)) × (List (List (Int))) × (List (Int)) × Unit)) → Option ((Unit × Unit × (List (Int)) × Unit × (List (Int)) × Unit × Unit × (Int) × Unit × Unit) × (((List (Int)) × (List (List (Int))) × (List (Int)) × Unit) × ((List (Int)) × (List (List (Int))) × (List (Int)) × Unit) × ((List (Int)) × Unit × Unit × Unit) × (List (Int)) × (List ((Int) × (Int))) × (List (Int)) × (List (List (Int))) × (List (Int)) × Unit))
  | 0, _ => none
  | n + 1, ((_, _, x3, _, x5, _, _, x8, _, x45, x46, x47, ()), (y1, y2, y4, y6, y31, y44, y308, y309, ())) =>
    if (decide (x47 < x46)) = true then
      if decide (0 ≤ x47 ∧ x47 < (x45.length : Int)) = true then
        if decide (0 ≤ x8 ∧ x8 < (y6.length : Int)) = true then
          (fp29 ((y1.1, (y1.2.1, (y1.2.2.1, ()))), (y6.getD x8.toNat 0), (x45.getD x47.toNat 0), ())).bind fun c1 =>
          if decide (0 ≤ x47 ∧ x47 < (y44.length : Int)) = true then
            if (decide (c1 < (0 : Int))) = true then
              fL15_12 n (((), (), x3, (), x5, (), (), x8, (), x45, x46, (IntKind.i64.wrap (x47 + (1 : Int))), ()), ((y1.1, y1.2.1, y1.2.2.1, ()), (y2.1, y2.2.1, y2.2.2.1, ()), (y4.1, (), (), ()), y6, y31, (y44.set x47.toNat (-1 : Int)), y308, y309, ()))
            else
              if decide (0 ≤ c1 ∧ c1 < (x3.length : Int)) = true then
                if (!(mget (.int .i64) (x3.getD c1.toNat 0) y31).isSome) = true then
                  if decide (0 ≤ c1 ∧ c1 < (x3.length : Int)) = true then
                    if decide (y6.length + ([c1] : List (Int)).length ≤ lim) = true then
                      if decide (0 ≤ x47 ∧ x47 < ((y44.set x47.toNat (-1 : Int)).length : Int)) = true then
                        fL15_12 n (((), (), x3, (), x5, (), (), x8, (), x45, x46, (IntKind.i64.wrap (x47 + (1 : Int))), ()), ((y1.1, y1.2.1, y1.2.2.1, ()), (y2.1, y2.2.1, y2.2.2.1, ()), (y4.1, (), (), ()), (y6 ++ ([c1] : List (Int))), (mput (.int .i64) (x3.getD c1.toNat 0) (y6.length : Int) y31), ((y44.set x47.toNat (-1 : Int)).set x47.toNat (y6.length : Int)), y308, y309, ()))
                      else
                        none
                    else
                      none
                  else
                    none
                else
                  if decide (0 ≤ x47 ∧ x47 < ((y44.set x47.toNat (-1 : Int)).length : Int)) = true then
                    fL15_12 n (((), (), x3, (), x5, (), (), x8, (), x45, x46, (IntKind.i64.wrap (x47 + (1 : Int))), ()), ((y1.1, y1.2.1, y1.2.2.1, ()), (y2.1, y2.2.1, y2.2.2.1, ()), (y4.1, (), (), ()), y6, y31, ((y44.set x47.toNat (-1 : Int)).set x47.toNat ((mget (.int .i64) (x3.getD c1.toNat 0) y31).getD 0)), y308, y309, ()))
                  else
                    none
              else
                none
          else
            none
        else
          none
      else
        none
    else
      some (((), (), x3, (), x5, (), (), x8, (), ()), ((y1.1, y1.2.1, y1.2.2.1, ()), (y2.1, y2.2.1, y2.2.2.1, ()), (y4.1, (), (), ()), y6, y31, y44, y308, y309, ()))

theorem eL15_12 : ∀ n x, L15_12 n x = fL15_12 n x := by
  intro n
  induction n with
  | zero => intro x; rfl
  | succ n ih =>
    intro x
    obtain ⟨⟨z1, z2, x3, z3, x5, z4, z5, x8, z6, x45, x46, x47, ⟨⟩⟩, ⟨y1, y2, y4, y6, y31, y44, y308, y309, ⟨⟩⟩⟩ := x
    simp only [L15_12, fL15_12, ih, ep29]

noncomputable def fL15_8 : Nat → ((Unit × Unit × (List (Int)) × Unit × (List (Int)) × Unit × Unit × (Int) × Unit) × (((List (Int)) × (List (List (Int))) × (List (Int)) × Unit) × ((List (Int)) × (List (List (Int))) × (List (Int)) × Unit) × ((List (Int)) × Unit × Unit × Unit) × (List (Int)) × (List ((Int) × (Int))) × (List (List (Int))) × (List (Int)) × Unit)) → Option ((Unit × Unit × Unit) × (((List (Int)) × (List (List (Int))) × (List (Int)) × Unit) × ((List (Int)) × Unit × Unit × Unit) × (List (List (Int))) × (List (Int)) × Unit))
  | 0, _ => none
  | n + 1, ((_, _, x3, _, x5, _, _, x8, ()), (y1, y2, y4, y6, y31, y308, y309, ())) =>
    if (decide (x8 < (y6.length : Int))) = true then
      if decide ((x5.length : Int) = (x5.length : Int) ∧ 0 ≤ (x5.length : Int) ∧ (x5.length : Int) ≤ (lim : Int)) = true then
        (flimit fL15_12 (((), (), x3, (), x5, (), (), x8, (), x5, (x5.length : Int), (0 : Int), ()), ((y1.1, y1.2.1, y1.2.2.1, ()), (y2.1, y2.2.1, y2.2.2.1, ()), (y4.1, (), (), ()), y6, y31, (List.replicate (x5.length : Int).toNat (0 : Int)), y308, y309, ()))).bind fun r1 =>
        if decide (r1.2.2.2.2.2.2.2.1.length + ([r1.2.2.2.2.2.2.1] : List (List (Int))).length ≤ lim) = true then
          if decide (0 ≤ r1.1.2.2.2.2.2.2.2.1 ∧ r1.1.2.2.2.2.2.2.2.1 < (r1.2.2.2.2.1.length : Int)) = true then
            if decide (0 ≤ (r1.2.2.2.2.1.getD r1.1.2.2.2.2.2.2.2.1.toNat 0) ∧ (r1.2.2.2.2.1.getD r1.1.2.2.2.2.2.2.2.1.toNat 0) < (r1.2.1.2.2.1.length : Int)) = true then
              if decide (r1.2.2.2.2.2.2.2.2.1.length + ([(r1.2.1.2.2.1.getD (r1.2.2.2.2.1.getD r1.1.2.2.2.2.2.2.2.1.toNat 0).toNat 0)] : List (Int)).length ≤ lim) = true then
                fL15_8 n (((), (), r1.1.2.2.1, (), r1.1.2.2.2.2.1, (), (), (IntKind.i64.wrap (r1.1.2.2.2.2.2.2.2.1 + (1 : Int))), ()), ((r1.2.1.1, r1.2.1.2.1, r1.2.1.2.2.1, ()), (r1.2.2.1.1, r1.2.2.1.2.1, r1.2.2.1.2.2.1, ()), (r1.2.2.2.1.1, (), (), ()), r1.2.2.2.2.1, r1.2.2.2.2.2.1, (r1.2.2.2.2.2.2.2.1 ++ ([r1.2.2.2.2.2.2.1] : List (List (Int)))), (r1.2.2.2.2.2.2.2.2.1 ++ ([(r1.2.1.2.2.1.getD (r1.2.2.2.2.1.getD r1.1.2.2.2.2.2.2.2.1.toNat 0).toNat 0)] : List (Int))), ()))
              else
                none
            else
              none
          else
            none
        else
          none
      else
        none
    else
      some (((), (), ()), ((y2.1, y2.2.1, y2.2.2.1, ()), (y4.1, (), (), ()), y308, y309, ()))

theorem eL15_8 : ∀ n x, L15_8 n x = fL15_8 n x := by
  intro n
  induction n with
  | zero => intro x; rfl
  | succ n ih =>
    intro x
    obtain ⟨⟨z1, z2, x3, z3, x5, z4, z5, x8, ⟨⟩⟩, ⟨y1, y2, y4, y6, y31, y308, y309, ⟨⟩⟩⟩ := x
    simp only [L15_8, fL15_8, ih, limit_flimit eL15_12]

noncomputable def fp15 : (((List (Int)) × ((List (List (Int))) × ((List (Int)) × (Unit)))) × Unit) → Option ((List (Int)) × ((List (List (Int))) × ((List (Int)) × (Unit))))
  | (x0, ()) =>
    (fp34 ((x0.1, (x0.2.1, (x0.2.2.1, ()))), ())).bind fun c1 =>
    (fp33 ((c1.1, (c1.2.1, (c1.2.2.1, ()))), ())).bind fun c2 =>
    (fp35 ((c2.1, (c2.2.1, (c2.2.2.1, ()))), ())).bind fun c3 =>
    (fp37 ((c2.1, (c2.2.1, (c2.2.2.1, ()))), c3, ())).bind fun c4 =>
    (fp36 ((c2.1, (c2.2.1, (c2.2.2.1, ()))), c4, c3, ())).bind fun c5 =>
    (fp38 (c5, ())).bind fun c6 =>
    if decide (0 ≤ (0 : Int) ∧ (0 : Int) < (c3.length : Int)) = true then
      (flimit fL15_8 (((), (), c3, (), c6, (), (), (0 : Int), ()), ((c2.1, c2.2.1, c2.2.2.1, ()), (([] : List (Int)), ([] : List (List (Int))), ([] : List (Int)), ()), (c5, (), (), ()), ([(0 : Int)] : List (Int)), (mput (.int .i64) (c3.getD (0 : Int).toNat 0) (0 : Int) ([] : List ((Int) × (Int)))), ([] : List (List (Int))), ([] : List (Int)), ()))).bind fun r7 =>
      some (r7.2.2.1.1, (r7.2.2.2.1, (r7.2.2.2.2.1, ())))
    else
      none

theorem ep15 : p15 = fp15 := by
  funext x
  obtain ⟨x0, ⟨⟩⟩ := x
  simp only [p15, fp15, limit_flimit eL15_8, ep34, ep33, ep35, ep37, ep36, ep38]

noncomputable def fL17_10 : Nat → ((Unit × Unit × Unit × Unit × (Int) × Unit × (Int) × Unit) × (((List (Int)) × (List (List (Int))) × (List (Int)) × Unit) × ((List (Int)) × (List (List (Int))) × (List (Int)) × Unit) × (List (((Int) × ((Int) × (Unit))) × ((List UInt8) × (Unit)))) × ((Int) × (Int) × (List UInt8) × Unit) × (List (((Int) × ((Int) × (Unit))) × (Unit))) × Unit)) → Option ((Unit × Unit × Unit × Unit × (Int) × Unit) × (((List (Int)) × (List (List (Int))) × (List (Int)) × Unit) × ((List (Int)) × (List (List (Int))) × (List (Int)) × Unit) × (List (((Int) × ((Int) × (Unit))) × ((List UInt8) × (Unit)))) × (List (((Int) × ((Int) × (Unit))) × (Unit))) × Unit))
  | 0, _ => none
  | n + 1, ((_, _, _, _, x8, _, x43, ()), (y2, y3, y6, y9, y16, ())) =>
    if (decide (x43 < (256 : Int))) = true then
      (fp29 ((y2.1, (y2.2.1, (y2.2.2.1, ()))), y9.1, (IntKind.u8.wrap x43), ())).bind fun c1 =>
      (fp29 ((y3.1, (y3.2.1, (y3.2.2.1, ()))), y9.2.1, (IntKind.u8.wrap x43), ())).bind fun c2 =>
      if (!(mget (.pair (.int .i64) (.pair (.int .i64) .unit)) (c1, (c2, ())) y16).isSome) = true then
        if decide (y9.2.2.1.length + (([(IntKind.u8.wrap x43)] : List (Int)).map fun n => UInt8.ofNat n.toNat).length ≤ lim) = true then
          if decide (y6.length + ([((c1, (c2, ())), ((y9.2.2.1 ++ (([(IntKind.u8.wrap x43)] : List (Int)).map fun n => UInt8.ofNat n.toNat)), ()))] : List (((Int) × ((Int) × (Unit))) × ((List UInt8) × (Unit)))).length ≤ lim) = true then
            fL17_10 n (((), (), (), (), x8, (), (IntKind.i64.wrap (x43 + (1 : Int))), ()), ((y2.1, y2.2.1, y2.2.2.1, ()), (y3.1, y3.2.1, y3.2.2.1, ()), (y6 ++ ([((c1, (c2, ())), ((y9.2.2.1 ++ (([(IntKind.u8.wrap x43)] : List (Int)).map fun n => UInt8.ofNat n.toNat)), ()))] : List (((Int) × ((Int) × (Unit))) × ((List UInt8) × (Unit))))), (y9.1, y9.2.1, y9.2.2.1, ()), (mput (.pair (.int .i64) (.pair (.int .i64) .unit)) (c1, (c2, ())) () y16), ()))
          else
            none
        else
          none
      else
        fL17_10 n (((), (), (), (), x8, (), (IntKind.i64.wrap (x43 + (1 : Int))), ()), ((y2.1, y2.2.1, y2.2.2.1, ()), (y3.1, y3.2.1, y3.2.2.1, ()), y6, (y9.1, y9.2.1, y9.2.2.1, ()), y16, ()))
    else
      some (((), (), (), (), x8, ()), ((y2.1, y2.2.1, y2.2.2.1, ()), (y3.1, y3.2.1, y3.2.2.1, ()), y6, y16, ()))

theorem eL17_10 : ∀ n x, L17_10 n x = fL17_10 n x := by
  intro n
  induction n with
  | zero => intro x; rfl
  | succ n ih =>
    intro x
    obtain ⟨⟨z1, z2, z3, z4, x8, z5, x43, ⟨⟩⟩, ⟨y2, y3, y6, y9, y16, ⟨⟩⟩⟩ := x
    simp only [L17_10, fL17_10, ih, ep29]

noncomputable def fL17_4 : Nat → ((Unit × Unit × Unit × Unit × (Int) × Unit) × (((List (Int)) × (List (List (Int))) × (List (Int)) × Unit) × ((List (Int)) × (List (List (Int))) × (List (Int)) × Unit) × (List (((Int) × ((Int) × (Unit))) × ((List UInt8) × (Unit)))) × (List (((Int) × ((Int) × (Unit))) × (Unit))) × Unit)) → Option ((((List UInt8) × (Bool) × Unit) × (Unit)) ⊕ ((Unit) × (Unit)))
  | 0, _ => none
  | n + 1, ((_, _, _, _, x8, ()), (y2, y3, y6, y16, ())) =>
    if (decide (x8 < (y6.length : Int))) = true then
      if decide (0 ≤ x8 ∧ x8 < (y6.length : Int)) = true then
        (fp30 ((y2.1, (y2.2.1, (y2.2.2.1, ()))), (y6.getD x8.toNat ((0, (0, ())), ([], ()))).1.1, ())).bind fun c1 =>
        (fp30 ((y3.1, (y3.2.1, (y3.2.2.1, ()))), (y6.getD x8.toNat ((0, (0, ())), ([], ()))).1.2.1, ())).bind fun c2 =>
        if (!decide (c1 = c2)) = true then
          some (.inl (((y6.getD x8.toNat ((0, (0, ())), ([], ()))).2.1, true, ()), ()))
        else
          (flimit fL17_10 (((), (), (), (), x8, (), (0 : Int), ()), ((y2.1, y2.2.1, y2.2.2.1, ()), (y3.1, y3.2.1, y3.2.2.1, ()), y6, ((y6.getD x8.toNat ((0, (0, ())), ([], ()))).1.1, (y6.getD x8.toNat ((0, (0, ())), ([], ()))).1.2.1, (y6.getD x8.toNat ((0, (0, ())), ([], ()))).2.1, ()), y16, ()))).bind fun r3 =>
          fL17_4 n (((), (), (), (), (IntKind.i64.wrap (r3.1.2.2.2.2.1 + (1 : Int))), ()), ((r3.2.1.1, r3.2.1.2.1, r3.2.1.2.2.1, ()), (r3.2.2.1.1, r3.2.2.1.2.1, r3.2.2.1.2.2.1, ()), r3.2.2.2.1, r3.2.2.2.2.1, ()))
      else
        none
    else
      some (.inr ((), ()))

theorem eL17_4 : ∀ n x, L17_4 n x = fL17_4 n x := by
  intro n
  induction n with
  | zero => intro x; rfl
  | succ n ih =>
    intro x
    obtain ⟨⟨z1, z2, z3, z4, x8, ⟨⟩⟩, ⟨y2, y3, y6, y16, ⟨⟩⟩⟩ := x
    simp only [L17_4, fL17_4, ih, limit_flimit eL17_10, ep30]

noncomputable def fp17 : (((List (Int)) × ((List (List (Int))) × ((List (Int)) × (Unit)))) × ((List (Int)) × ((List (List (Int))) × ((List (Int)) × (Unit)))) × Unit) → Option ((List UInt8) × (Bool) × Unit)
  | (x0, x1, ()) =>
    (flimit fL17_4 (((), (), (), (), (0 : Int), ()), ((x0.1, x0.2.1, x0.2.2.1, ()), (x1.1, x1.2.1, x1.2.2.1, ()), ([(((0 : Int), ((0 : Int), ())), (([] : List UInt8), ()))] : List (((Int) × ((Int) × (Unit))) × ((List UInt8) × (Unit)))), (mput (.pair (.int .i64) (.pair (.int .i64) .unit)) ((0 : Int), ((0 : Int), ())) () ([] : List (((Int) × ((Int) × (Unit))) × (Unit)))), ()))).bind (Sum.elim (fun r1 =>
      some (r1.1.1, r1.1.2.1, ())) (fun _ =>
      some (([] : List UInt8), false, ())))

theorem ep17 : p17 = fp17 := by
  funext x
  obtain ⟨x0, x1, ⟨⟩⟩ := x
  simp only [p17, fp17, limit_flimit eL17_4]

noncomputable def fp25 : ((Int) × Unit) → Option (List (Int))
  | (x0, ()) =>
    if decide ((256 : Int) = (256 : Int) ∧ 0 ≤ (256 : Int) ∧ (256 : Int) ≤ (lim : Int)) = true then
      if decide (0 ≤ x0 ∧ x0 < ((List.replicate (256 : Int).toNat (0 : Int)).length : Int)) = true then
        some ((List.replicate (256 : Int).toNat (0 : Int)).set x0.toNat (1 : Int))
      else
        none
    else
      none

theorem ep25 : p25 = fp25 := by
  funext x
  obtain ⟨x0, ⟨⟩⟩ := x
  simp only [p25, fp25]

noncomputable def fp24 : (Unit) → Option (((List (Int)) × ((List (List (Int))) × ((List (Int)) × (Unit)))) × ((List (Int)) × ((List (List (Int))) × ((List (Int)) × (Unit)))) × Unit)
  | () =>
    (fp25 ((97 : Int), ())).bind fun c1 =>
    (fp25 ((97 : Int), ())).bind fun c2 =>
    some ((c1, (([([(-1 : Int), (1 : Int)] : List (Int)), ([(-1 : Int), (1 : Int)] : List (Int))] : List (List (Int))), (([(-1 : Int), (0 : Int)] : List (Int)), ()))), (c2, (([([(-1 : Int), (1 : Int)] : List (Int)), ([(-1 : Int), (2 : Int)] : List (Int)), ([(-1 : Int), (1 : Int)] : List (Int))] : List (List (Int))), (([(-1 : Int), (0 : Int), (0 : Int)] : List (Int)), ()))), ())

theorem ep24 : p24 = fp24 := by
  funext x
  obtain ⟨⟩ := x
  simp only [p24, fp24, ep25]

noncomputable def fL54_27_26_2 : Nat → (((List (Int)) × Unit × (Int) × (Int) × Unit) × (((Int) × Unit) × ((Int) × Unit) × Unit)) → Option ((((Int) × Unit) × (((Int) × Unit) × ((Int) × Unit) × Unit)) ⊕ ((Unit) × (((Int) × Unit) × ((Int) × Unit) × Unit)))
  | 0, _ => none
  | n + 1, ((x0, _, x7, x8, ()), (y4, y5, ())) =>
    if (decide (x8 < x7)) = true then
      if decide (0 ≤ x8 ∧ x8 < (x0.length : Int)) = true then
        if (decide ((x0.getD x8.toNat 0) < y4.1)) = true then
          some (.inl ((x8, ()), ((y4.1, ()), (y5.1, ()), ())))
        else
          if (decide ((x0.getD x8.toNat 0) > y5.1)) = true then
            some (.inl ((x8, ()), ((y4.1, ()), (y5.1, ()), ())))
          else
            fL54_27_26_2 n ((x0, (), x7, (IntKind.i64.wrap (x8 + (1 : Int))), ()), ((y4.1, ()), (y5.1, ()), ()))
      else
        none
    else
      some (.inr ((), ((y4.1, ()), (y5.1, ()), ())))

theorem eL54_27_26_2 : ∀ n x, L54_27_26_2 n x = fL54_27_26_2 n x := by
  intro n
  induction n with
  | zero => intro x; rfl
  | succ n ih =>
    intro x
    obtain ⟨⟨x0, z1, x7, x8, ⟨⟩⟩, ⟨y4, y5, ⟨⟩⟩⟩ := x
    simp only [L54_27_26_2, fL54_27_26_2, ih]

noncomputable def fp26 : ((List (Int)) × (Int) × (Int) × Unit) → Option (Bool)
  | (x0, x1, x2, ()) =>
    (flimit fL54_27_26_2 ((x0, (), (x0.length : Int), (0 : Int), ()), ((x1, ()), (x2, ()), ()))).bind (Sum.elim (fun r1 =>
      some (!(decide (r1.1.1 ≥ (0 : Int))))) (fun _ =>
      some (!(decide ((-1 : Int) ≥ (0 : Int))))))

theorem ep26 : p26 = fp26 := by
  funext x
  obtain ⟨x0, x1, x2, ⟨⟩⟩ := x
  simp only [p26, fp26, limit_flimit eL54_27_26_2]

noncomputable def fp28 : ((Int) × Unit) → Option (Bool)
  | (x0, ()) =>
    some (decide (x0 < (-1 : Int)))

theorem ep28 : p28 = fp28 := by
  funext x
  obtain ⟨x0, ⟨⟩⟩ := x
  simp only [p28, fp28]

noncomputable def fL11_8 : Nat → ((Unit × (Int) × (Int) × (List (List (Int))) × (Int) × (Int) × Unit) × (((List (Int)) × (List (List (Int))) × (List (Int)) × Unit) × Unit)) → Option ((((Bool) × Unit) × (Unit)) ⊕ ((Unit × Unit) × (((List (Int)) × (List (List (Int))) × (List (Int)) × Unit) × Unit)))
  | 0, _ => none
  | n + 1, ((_, x3, x4, x45, x46, x47, ()), (y1, ())) =>
    if (decide (x47 < x46)) = true then
      if decide (0 ≤ x47 ∧ x47 < (x45.length : Int)) = true then
        if (!decide (((x45.getD x47.toNat []).length : Int) = x4)) = true then
          some (.inl ((false, ()), ()))
        else
          (fp26 ((x45.getD x47.toNat []), (-1 : Int), (IntKind.i64.wrap (x3 - (1 : Int))), ())).bind fun c1 =>
          if (!c1) = true then
            some (.inl ((false, ()), ()))
          else
            fL11_8 n (((), x3, x4, x45, x46, (IntKind.i64.wrap (x47 + (1 : Int))), ()), ((y1.1, y1.2.1, y1.2.2.1, ()), ()))
      else
        none
    else
      some (.inr (((), ()), ((y1.1, y1.2.1, y1.2.2.1, ()), ())))

theorem eL11_8 : ∀ n x, L11_8 n x = fL11_8 n x := by
  intro n
  induction n with
  | zero => intro x; rfl
  | succ n ih =>
    intro x
    obtain ⟨⟨z1, x3, x4, x45, x46, x47, ⟨⟩⟩, ⟨y1, ⟨⟩⟩⟩ := x
    simp only [L11_8, fL11_8, ih, ep26]

noncomputable def fL54_27_11_2 : Nat → (((List (Int)) × Unit × (Int) × (Int) × Unit) × (((List (Int)) × (List (List (Int))) × (List (Int)) × Unit) × Unit)) → Option ((((Int) × Unit) × (((List (Int)) × (List (List (Int))) × (List (Int)) × Unit) × Unit)) ⊕ ((Unit) × (((List (Int)) × (List (List (Int))) × (List (Int)) × Unit) × Unit)))
  | 0, _ => none
  | n + 1, ((x0, _, x7, x8, ()), (y1, ())) =>
    if (decide (x8 < x7)) = true then
      if decide (0 ≤ x8 ∧ x8 < (x0.length : Int)) = true then
        (fp28 ((x0.getD x8.toNat 0), ())).bind fun c1 =>
        if c1 = true then
          some (.inl ((x8, ()), ((y1.1, y1.2.1, y1.2.2.1, ()), ())))
        else
          fL54_27_11_2 n ((x0, (), x7, (IntKind.i64.wrap (x8 + (1 : Int))), ()), ((y1.1, y1.2.1, y1.2.2.1, ()), ()))
      else
        none
    else
      some (.inr ((), ((y1.1, y1.2.1, y1.2.2.1, ()), ())))

theorem eL54_27_11_2 : ∀ n x, L54_27_11_2 n x = fL54_27_11_2 n x := by
  intro n
  induction n with
  | zero => intro x; rfl
  | succ n ih =>
    intro x
    obtain ⟨⟨x0, z1, x7, x8, ⟨⟩⟩, ⟨y1, ⟨⟩⟩⟩ := x
    simp only [L54_27_11_2, fL54_27_11_2, ih, ep28]

noncomputable def fp11 : (((List (Int)) × ((List (List (Int))) × ((List (Int)) × (Unit)))) × Unit) → Option (Bool)
  | (x0, ()) =>
    if (!decide ((x0.1.length : Int) = (256 : Int))) = true then
      some false
    else
      if (decide ((x0.2.1.length : Int) < (1 : Int))) = true then
        some false
      else
        if (decide ((x0.2.1.length : Int) > (500 : Int))) = true then
          some false
        else
          if (!decide ((x0.2.2.1.length : Int) = (x0.2.1.length : Int))) = true then
            some false
          else
            if decide (0 ≤ (0 : Int) ∧ (0 : Int) < (x0.2.1.length : Int)) = true then
              if (decide (((x0.2.1.getD (0 : Int).toNat []).length : Int) < (1 : Int))) = true then
                some false
              else
                (fp26 (x0.1, (0 : Int), (IntKind.i64.wrap (((x0.2.1.getD (0 : Int).toNat []).length : Int) - (1 : Int))), ())).bind fun c1 =>
                if (!c1) = true then
                  some false
                else
                  (flimit fL11_8 (((), (x0.2.1.length : Int), ((x0.2.1.getD (0 : Int).toNat []).length : Int), x0.2.1, (x0.2.1.length : Int), (0 : Int), ()), ((x0.1, x0.2.1, x0.2.2.1, ()), ()))).bind (Sum.elim (fun r2 =>
                    some r2.1.1) (fun r2 =>
                    (flimit fL54_27_11_2 ((r2.2.1.2.2.1, (), (r2.2.1.2.2.1.length : Int), (0 : Int), ()), ((r2.2.1.1, r2.2.1.2.1, r2.2.1.2.2.1, ()), ()))).bind (Sum.elim (fun r3 =>
                      some (!(decide (r3.1.1 ≥ (0 : Int))))) (fun _ =>
                      some (!(decide ((-1 : Int) ≥ (0 : Int))))))))
            else
              none

theorem ep11 : p11 = fp11 := by
  funext x
  obtain ⟨x0, ⟨⟩⟩ := x
  simp only [p11, fp11, limit_flimit eL11_8, limit_flimit eL54_27_11_2, ep26]

noncomputable def fL12_3 : Nat → (((List UInt8) × Unit × (Int) × (Int) × (Int) × Unit) × (((List (Int)) × (List (List (Int))) × (List (Int)) × Unit) × Unit)) → Option ((Unit × (Int) × Unit) × (((List (Int)) × (List (List (Int))) × (List (Int)) × Unit) × Unit))
  | 0, _ => none
  | n + 1, ((x1, _, x5, x8, x9, ()), (y2, ())) =>
    if (decide (x9 < x8)) = true then
      if decide (0 ≤ x9 ∧ x9 < (x1.length : Int)) = true then
        (fp29 ((y2.1, (y2.2.1, (y2.2.2.1, ()))), x5, ((x1.getD x9.toNat 0).toNat : Int), ())).bind fun c1 =>
        fL12_3 n ((x1, (), c1, x8, (IntKind.i64.wrap (x9 + (1 : Int))), ()), ((y2.1, y2.2.1, y2.2.2.1, ()), ()))
      else
        none
    else
      some (((), x5, ()), ((y2.1, y2.2.1, y2.2.2.1, ()), ()))

theorem eL12_3 : ∀ n x, L12_3 n x = fL12_3 n x := by
  intro n
  induction n with
  | zero => intro x; rfl
  | succ n ih =>
    intro x
    obtain ⟨⟨x1, z1, x5, x8, x9, ⟨⟩⟩, ⟨y2, ⟨⟩⟩⟩ := x
    simp only [L12_3, fL12_3, ih, ep29]

noncomputable def fp12 : (((List (Int)) × ((List (List (Int))) × ((List (Int)) × (Unit)))) × (List UInt8) × Unit) → Option (Int)
  | (x0, x1, ()) =>
    (flimit fL12_3 ((x1, (), (0 : Int), (x1.length : Int), (0 : Int), ()), ((x0.1, x0.2.1, x0.2.2.1, ()), ()))).bind fun r1 =>
    (fp30 ((r1.2.1.1, (r1.2.1.2.1, (r1.2.1.2.2.1, ()))), r1.1.2.1, ())).bind fun c2 =>
    some c2

theorem ep12 : p12 = fp12 := by
  funext x
  obtain ⟨x0, x1, ⟨⟩⟩ := x
  simp only [p12, fp12, limit_flimit eL12_3, ep30]

noncomputable def fL19_4 : Nat → (((List (Int)) × (List (Int)) × (Int) × Unit) × (Unit)) → Option ((((Bool) × Unit) × (Unit)) ⊕ ((Unit) × (Unit)))
  | 0, _ => none
  | n + 1, ((x0, x1, x5, ()), ()) =>
    if (decide (x5 < (x0.length : Int))) = true then
      if decide (0 ≤ x5 ∧ x5 < (x0.length : Int)) = true then
        if decide (0 ≤ x5 ∧ x5 < (x1.length : Int)) = true then
          if (!decide ((x0.getD x5.toNat 0) = (x1.getD x5.toNat 0))) = true then
            some (.inl ((false, ()), ()))
          else
            fL19_4 n ((x0, x1, (IntKind.i64.wrap (x5 + (1 : Int))), ()), ())
        else
          none
      else
        none
    else
      some (.inr ((), ()))

theorem eL19_4 : ∀ n x, L19_4 n x = fL19_4 n x := by
  intro n
  induction n with
  | zero => intro x; rfl
  | succ n ih =>
    intro x
    obtain ⟨⟨x0, x1, x5, ⟨⟩⟩, ⟨⟩⟩ := x
    simp only [L19_4, fL19_4, ih]

noncomputable def fp19 : ((List (Int)) × (List (Int)) × Unit) → Option (Bool)
  | (x0, x1, ()) =>
    if (!decide ((x0.length : Int) = (x1.length : Int))) = true then
      some false
    else
      (flimit fL19_4 ((x0, x1, (0 : Int), ()), ())).bind (Sum.elim (fun r1 =>
        some r1.1.1) (fun _ =>
        some true))

theorem ep19 : p19 = fp19 := by
  funext x
  obtain ⟨x0, x1, ⟨⟩⟩ := x
  simp only [p19, fp19, limit_flimit eL19_4]

noncomputable def fL16_4 : Nat → ((Unit × Unit × (Int) × Unit) × (((List (Int)) × (List (List (Int))) × (List (Int)) × Unit) × ((List (Int)) × (List (List (Int))) × (List (Int)) × Unit) × Unit)) → Option ((((Bool) × Unit) × (Unit)) ⊕ ((Unit) × (Unit)))
  | 0, _ => none
  | n + 1, ((_, _, x5, ()), (y2, y3, ())) =>
    if (decide (x5 < (y2.2.1.length : Int))) = true then
      if decide (0 ≤ x5 ∧ x5 < (y2.2.1.length : Int)) = true then
        if decide (0 ≤ x5 ∧ x5 < (y3.2.1.length : Int)) = true then
          (fp19 ((y2.2.1.getD x5.toNat []), (y3.2.1.getD x5.toNat []), ())).bind fun c1 =>
          if (!c1) = true then
            some (.inl ((false, ()), ()))
          else
            fL16_4 n (((), (), (IntKind.i64.wrap (x5 + (1 : Int))), ()), ((y2.1, y2.2.1, y2.2.2.1, ()), (y3.1, y3.2.1, y3.2.2.1, ()), ()))
        else
          none
      else
        none
    else
      some (.inr ((), ()))

theorem eL16_4 : ∀ n x, L16_4 n x = fL16_4 n x := by
  intro n
  induction n with
  | zero => intro x; rfl
  | succ n ih =>
    intro x
    obtain ⟨⟨z1, z2, x5, ⟨⟩⟩, ⟨y2, y3, ⟨⟩⟩⟩ := x
    simp only [L16_4, fL16_4, ih, ep19]

noncomputable def fp16 : (((List (Int)) × ((List (List (Int))) × ((List (Int)) × (Unit)))) × ((List (Int)) × ((List (List (Int))) × ((List (Int)) × (Unit)))) × Unit) → Option (Bool)
  | (x0, x1, ()) =>
    if (!decide ((x0.2.1.length : Int) = (x1.2.1.length : Int))) = true then
      some false
    else
      (fp19 (x0.1, x1.1, ())).bind fun c1 =>
      if (!c1) = true then
        some false
      else
        (fp19 (x0.2.2.1, x1.2.2.1, ())).bind fun c2 =>
        if (!c2) = true then
          some false
        else
          (flimit fL16_4 (((), (), (0 : Int), ()), ((x0.1, x0.2.1, x0.2.2.1, ()), (x1.1, x1.2.1, x1.2.2.1, ()), ()))).bind (Sum.elim (fun r3 =>
            some r3.1.1) (fun _ =>
            some true))

theorem ep16 : p16 = fp16 := by
  funext x
  obtain ⟨x0, x1, ⟨⟩⟩ := x
  simp only [p16, fp16, limit_flimit eL16_4, ep19]

noncomputable def fp9 : (Unit) → Option (Bool)
  | () =>
    (fp24 (())).bind fun c1 =>
    (fp17 ((c1.1.1, (c1.1.2.1, (c1.1.2.2.1, ()))), (c1.2.1.1, (c1.2.1.2.1, (c1.2.1.2.2.1, ()))), ())).bind fun c2 =>
    (fp25 ((97 : Int), ())).bind fun c3 =>
    (fp17 ((c1.1.1, (c1.1.2.1, (c1.1.2.2.1, ()))), (c3, (([([(-1 : Int), (-1 : Int)] : List (Int))] : List (List (Int))), (([(-1 : Int)] : List (Int)), ()))), ())).bind fun c4 =>
    (fp11 ((c1.1.1, (c1.1.2.1, (c1.1.2.2.1, ()))), ())).bind fun c5 =>
    if c5 = true then
      (fp11 ((([] : List (Int)), (([] : List (List (Int))), (([] : List (Int)), ()))), ())).bind fun c6 =>
      if (!c6) = true then
        (fp12 ((c1.1.1, (c1.1.2.1, (c1.1.2.2.1, ()))), ([97, 97] : List UInt8), ())).bind fun c7 =>
        if (decide (c7 = (0 : Int))) = true then
          (fp12 ((c1.1.1, (c1.1.2.1, (c1.1.2.2.1, ()))), ([] : List UInt8), ())).bind fun c8 =>
          if (decide (c8 = (-1 : Int))) = true then
            (fp12 ((c1.1.1, (c1.1.2.1, (c1.1.2.2.1, ()))), ([97, 98] : List UInt8), ())).bind fun c9 =>
            if (decide (c9 = (-1 : Int))) = true then
              (fp15 ((c1.2.1.1, (c1.2.1.2.1, (c1.2.1.2.2.1, ()))), ())).bind fun c10 =>
              (fp16 ((c10.1, (c10.2.1, (c10.2.2.1, ()))), (c1.1.1, (c1.1.2.1, (c1.1.2.2.1, ()))), ())).bind fun c11 =>
              if c11 = true then
                (fp15 ((c1.1.1, (c1.1.2.1, (c1.1.2.2.1, ()))), ())).bind fun c12 =>
                (fp16 ((c12.1, (c12.2.1, (c12.2.2.1, ()))), (c1.1.1, (c1.1.2.1, (c1.1.2.2.1, ()))), ())).bind fun c13 =>
                if c13 = true then
                  if (!c2.2.1) = true then
                    if c4.2.1 = true then
                      some (decide (c4.1 = ([97] : List UInt8)))
                    else
                      some false
                  else
                    some false
                else
                  some false
              else
                some false
            else
              some false
          else
            some false
        else
          some false
      else
        some false
    else
      some false

theorem ep9 : p9 = fp9 := by
  funext x
  obtain ⟨⟩ := x
  simp only [p9, fp9, ep24, ep17, ep25, ep11, ep12, ep15, ep16]

end Go.AM
