/- The law DfaMinimizeKeeps: at every input its function answers true and leaves its arguments as they were. No condition. -/
import Derived.Test.YtagllmgnmkdogaaP23
import Derived.Test.YtagllmgnmkdogaaRows
namespace Go.Proofs.Ytagllmgnmkdogaa
open Go Go.AM

theorem dfaMinimizeKeeps_own : ownKnob Try.prog.godebug = none := by kernel_rfl
theorem dfaMinimizeKeeps_laidOut : laidOutB Try.prog = true := by kernel_rfl

set_option maxRecDepth 100000 in
theorem dfaMinimizeKeeps_lifted (os : Os) (started : os.Started) (H : Type) (enc : TypeId × Value → H) :
    ReturnsInHanded {} Try.checked os 4 .any (Rows.dfaMinimizeKeepsSpec.pre6 enc Try.prog Try.f4 Rows.dfaMinimizeKeepsRow.domain false) (Rows.dfaMinimizeKeepsSpec.post enc Try.prog Try.f4 false true false false) :=
  returnsInHanded_of_change (C := Try.checked) dfaMinimizeKeeps_own started (by kernel_rfl) Try.func4
    (ChangeSpec.witness6 (enc := enc) (C := Try.checked) false ⟨#[], #[.agg #[.slice none 0 0, .slice none 0 0, .slice none 0 0], .string ByteArray.empty], []⟩ 8 (by kernel_rfl) (by kernel_rfl) (by kernel_rfl) (by kernel_rfl))
    fun W base args ds gs before hval hW _ _ =>
      law_contract (P := Try.prog) s4 rfl (fun H ds hl => by
        match ds, hl with
        | [_, _], _ => rfl) (by kernel_rfl) (tb := 4) (by kernel_rfl) (by kernel_rfl) dfaMinimizeKeeps_laidOut pure4 hval hW

/-- The row, for the claim. -/
theorem dfaMinimizeKeeps_holds : Rows.DfaMinimizeKeepsSaid :=
  OpenClaim.holds_of_wide 4 Try.f4 rfl rfl rfl rfl rfl rfl rfl ⟨rfl, rfl, rfl, rfl, rfl⟩ rfl rfl rfl rfl rfl (by kernel_rfl) Try.func4 (by kernel_rfl)
    (of_decide_eq_true (by kernel_rfl)) (by unfold Func.isWrapper; first | (rw [if_pos (by decide +kernel)]; kernel_rfl) | (rw [if_neg (by decide +kernel)]; exact ⟨rfl, rfl⟩))
    (fun os started H enc _ => dfaMinimizeKeeps_lifted os started H enc)

#print axioms dfaMinimizeKeeps_holds
end Go.Proofs.Ytagllmgnmkdogaa
