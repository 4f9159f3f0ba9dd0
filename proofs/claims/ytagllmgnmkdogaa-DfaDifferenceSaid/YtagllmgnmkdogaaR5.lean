/- The law DfaDifference: at every input its function answers true and leaves its arguments as they were. No condition. -/
import Derived.Test.YtagllmgnmkdogaaP8
import Derived.Test.YtagllmgnmkdogaaRows
namespace Go.Proofs.Ytagllmgnmkdogaa
open Go Go.AM

theorem dfaDifference_own : ownKnob Try.prog.godebug = none := by kernel_rfl
theorem dfaDifference_laidOut : laidOutB Try.prog = true := by kernel_rfl

set_option maxRecDepth 100000 in
theorem dfaDifference_lifted (os : Os) (started : os.Started) (H : Type) (enc : TypeId × Value → H) :
    ReturnsInHanded {} Try.checked os 5 .any (Rows.dfaDifferenceSpec.pre6 enc Try.prog Try.f5 Rows.dfaDifferenceRow.domain false) (Rows.dfaDifferenceSpec.post enc Try.prog Try.f5 false true false false) :=
  returnsInHanded_of_change (C := Try.checked) dfaDifference_own started (by kernel_rfl) Try.func5
    (ChangeSpec.witness6 (enc := enc) (C := Try.checked) false ⟨#[], #[.agg #[.slice none 0 0, .slice none 0 0, .slice none 0 0], .agg #[.slice none 0 0, .slice none 0 0, .slice none 0 0]], []⟩ 8 (by kernel_rfl) (by kernel_rfl) (by kernel_rfl) (by kernel_rfl))
    fun W base args ds gs before hval hW _ _ =>
      law_contract (P := Try.prog) s5 rfl (fun H ds hl => by
        match ds, hl with
        | [_, _], _ => rfl) (by kernel_rfl) (tb := 4) (by kernel_rfl) (by kernel_rfl) dfaDifference_laidOut pure5 hval hW

/-- The row, for the claim. -/
theorem dfaDifference_holds : Rows.DfaDifferenceSaid :=
  OpenClaim.holds_of_wide 5 Try.f5 rfl rfl rfl rfl rfl rfl rfl ⟨rfl, rfl, rfl, rfl, rfl⟩ rfl rfl rfl rfl rfl (by kernel_rfl) Try.func5 (by kernel_rfl)
    (of_decide_eq_true (by kernel_rfl)) (by unfold Func.isWrapper; first | (rw [if_pos (by decide +kernel)]; kernel_rfl) | (rw [if_neg (by decide +kernel)]; exact ⟨rfl, rfl⟩))
    (fun os started H enc _ => dfaDifference_lifted os started H enc)

#print axioms dfaDifference_holds
end Go.Proofs.Ytagllmgnmkdogaa
