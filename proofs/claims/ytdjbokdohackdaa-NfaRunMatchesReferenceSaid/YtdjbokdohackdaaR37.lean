/- The law NfaRunMatchesReference: at every input its function answers true and leaves its arguments as they were. No condition. -/
import Derived.Test.YtdjbokdohackdaaP41
import Derived.Test.YtdjbokdohackdaaRows
namespace Go.Proofs.Ytdjbokdohackdaa
open Go Go.AM

theorem nfaRunMatchesReference_own : ownKnob Try.prog.godebug = none := by kernel_rfl
theorem nfaRunMatchesReference_laidOut : laidOutB Try.prog = true := by kernel_rfl

set_option maxRecDepth 100000 in
theorem nfaRunMatchesReference_lifted (os : Os) (started : os.Started) (H : Type) (enc : TypeId × Value → H) :
    ReturnsInHanded {} Try.checked os 7 .any (Rows.nfaRunMatchesReferenceSpec.pre6 enc Try.prog Try.f7 Rows.nfaRunMatchesReferenceRow.domain false) (Rows.nfaRunMatchesReferenceSpec.post enc Try.prog Try.f7 false true false false) :=
  returnsInHanded_of_change (C := Try.checked) nfaRunMatchesReference_own started (by kernel_rfl) Try.func7
    (ChangeSpec.witness6 (enc := enc) (C := Try.checked) false ⟨#[], #[.agg #[.int .i64 0, .int .i64 0, .slice none 0 0, .slice none 0 0], .string ByteArray.empty], []⟩ 8 (by kernel_rfl) (by kernel_rfl) (by kernel_rfl) (by kernel_rfl))
    fun W base args ds gs before hval hW _ _ =>
      law_contract (P := Try.prog) s307 rfl (fun H ds hl => by
        match ds, hl with
        | [_, _], _ => rfl) (by kernel_rfl) (tb := 4) (by kernel_rfl) (by kernel_rfl) nfaRunMatchesReference_laidOut pure307 hval hW

/-- The row, for the claim. -/
theorem nfaRunMatchesReference_holds : Rows.NfaRunMatchesReferenceSaid :=
  OpenClaim.holds_of_wide 7 Try.f7 rfl rfl rfl rfl rfl rfl rfl ⟨rfl, rfl, rfl, rfl, rfl⟩ rfl rfl rfl rfl rfl (by kernel_rfl) Try.func7 (by kernel_rfl)
    (of_decide_eq_true (by kernel_rfl)) (by unfold Func.isWrapper; first | (rw [if_pos (by decide +kernel)]; kernel_rfl) | (rw [if_neg (by decide +kernel)]; exact ⟨rfl, rfl⟩))
    (fun os started H enc _ => nfaRunMatchesReference_lifted os started H enc)

#print axioms nfaRunMatchesReference_holds
end Go.Proofs.Ytdjbokdohackdaa
