/- The law NfaStepIsMonotone: at every input its function answers true and leaves its arguments as they were. No condition. -/
import Derived.Test.YtdjbokdohackdaaP41
import Derived.Test.YtdjbokdohackdaaRows
namespace Go.Proofs.Ytdjbokdohackdaa
open Go Go.AM

theorem nfaStepIsMonotone_own : ownKnob Try.prog.godebug = none := by kernel_rfl
theorem nfaStepIsMonotone_laidOut : laidOutB Try.prog = true := by kernel_rfl

set_option maxRecDepth 100000 in
theorem nfaStepIsMonotone_lifted (os : Os) (started : os.Started) (H : Type) (enc : TypeId × Value → H) :
    ReturnsInHanded {} Try.checked os 6 .any (Rows.nfaStepIsMonotoneSpec.pre6 enc Try.prog Try.f6 Rows.nfaStepIsMonotoneRow.domain false) (Rows.nfaStepIsMonotoneSpec.post enc Try.prog Try.f6 false true false false) :=
  returnsInHanded_of_change (C := Try.checked) nfaStepIsMonotone_own started (by kernel_rfl) Try.func6
    (ChangeSpec.witness6 (enc := enc) (C := Try.checked) false ⟨#[], #[.agg #[.int .i64 0, .int .i64 0, .slice none 0 0, .slice none 0 0], .slice none 0 0, .int .u8 0], []⟩ 8 (by kernel_rfl) (by kernel_rfl) (by kernel_rfl) (by kernel_rfl))
    fun W base args ds gs before hval hW _ _ =>
      law_contract (P := Try.prog) s306 rfl (fun H ds hl => by
        match ds, hl with
        | [_, _, _], _ => rfl) (by kernel_rfl) (tb := 4) (by kernel_rfl) (by kernel_rfl) nfaStepIsMonotone_laidOut pure306 hval hW

/-- The row, for the claim. -/
theorem nfaStepIsMonotone_holds : Rows.NfaStepIsMonotoneSaid :=
  OpenClaim.holds_of_wide 6 Try.f6 rfl rfl rfl rfl rfl rfl rfl ⟨rfl, rfl, rfl, rfl, rfl⟩ rfl rfl rfl rfl rfl (by kernel_rfl) Try.func6 (by kernel_rfl)
    (of_decide_eq_true (by kernel_rfl)) (by unfold Func.isWrapper; first | (rw [if_pos (by decide +kernel)]; kernel_rfl) | (rw [if_neg (by decide +kernel)]; exact ⟨rfl, rfl⟩))
    (fun os started H enc _ => nfaStepIsMonotone_lifted os started H enc)

#print axioms nfaStepIsMonotone_holds
end Go.Proofs.Ytdjbokdohackdaa
