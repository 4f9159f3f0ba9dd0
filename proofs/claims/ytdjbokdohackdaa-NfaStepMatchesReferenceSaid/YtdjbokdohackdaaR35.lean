/- The law NfaStepMatchesReference: at every input its function answers true and leaves its arguments as they were. No condition. -/
import Derived.Test.YtdjbokdohackdaaP41
import Derived.Test.YtdjbokdohackdaaRows
namespace Go.Proofs.Ytdjbokdohackdaa
open Go Go.AM

theorem nfaStepMatchesReference_own : ownKnob Try.prog.godebug = none := by kernel_rfl
theorem nfaStepMatchesReference_laidOut : laidOutB Try.prog = true := by kernel_rfl

set_option maxRecDepth 100000 in
theorem nfaStepMatchesReference_lifted (os : Os) (started : os.Started) (H : Type) (enc : TypeId × Value → H) :
    ReturnsInHanded {} Try.checked os 5 .any (Rows.nfaStepMatchesReferenceSpec.pre6 enc Try.prog Try.f5 Rows.nfaStepMatchesReferenceRow.domain false) (Rows.nfaStepMatchesReferenceSpec.post enc Try.prog Try.f5 false true false false) :=
  returnsInHanded_of_change (C := Try.checked) nfaStepMatchesReference_own started (by kernel_rfl) Try.func5
    (ChangeSpec.witness6 (enc := enc) (C := Try.checked) false ⟨#[], #[.agg #[.int .i64 0, .int .i64 0, .slice none 0 0, .slice none 0 0], .slice none 0 0, .int .u8 0], []⟩ 8 (by kernel_rfl) (by kernel_rfl) (by kernel_rfl) (by kernel_rfl))
    fun W base args ds gs before hval hW _ _ =>
      law_contract (P := Try.prog) s305 rfl (fun H ds hl => by
        match ds, hl with
        | [_, _, _], _ => rfl) (by kernel_rfl) (tb := 4) (by kernel_rfl) (by kernel_rfl) nfaStepMatchesReference_laidOut pure305 hval hW

/-- The row, for the claim. -/
theorem nfaStepMatchesReference_holds : Rows.NfaStepMatchesReferenceSaid :=
  OpenClaim.holds_of_wide 5 Try.f5 rfl rfl rfl rfl rfl rfl rfl ⟨rfl, rfl, rfl, rfl, rfl⟩ rfl rfl rfl rfl rfl (by kernel_rfl) Try.func5 (by kernel_rfl)
    (of_decide_eq_true (by kernel_rfl)) (by unfold Func.isWrapper; first | (rw [if_pos (by decide +kernel)]; kernel_rfl) | (rw [if_neg (by decide +kernel)]; exact ⟨rfl, rfl⟩))
    (fun os started H enc _ => nfaStepMatchesReference_lifted os started H enc)

#print axioms nfaStepMatchesReference_holds
end Go.Proofs.Ytdjbokdohackdaa
