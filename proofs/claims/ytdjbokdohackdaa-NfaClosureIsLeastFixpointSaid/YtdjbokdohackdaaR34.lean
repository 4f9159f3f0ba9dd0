/- The law NfaClosureIsLeastFixpoint: at every input its function answers true and leaves its arguments as they were. No condition. -/
import Derived.Test.YtdjbokdohackdaaP41
import Derived.Test.YtdjbokdohackdaaRows
namespace Go.Proofs.Ytdjbokdohackdaa
open Go Go.AM

theorem nfaClosureIsLeastFixpoint_own : ownKnob Try.prog.godebug = none := by kernel_rfl
theorem nfaClosureIsLeastFixpoint_laidOut : laidOutB Try.prog = true := by kernel_rfl

set_option maxRecDepth 100000 in
theorem nfaClosureIsLeastFixpoint_lifted (os : Os) (started : os.Started) (H : Type) (enc : TypeId × Value → H) :
    ReturnsInHanded {} Try.checked os 4 .any (Rows.nfaClosureIsLeastFixpointSpec.pre6 enc Try.prog Try.f4 Rows.nfaClosureIsLeastFixpointRow.domain false) (Rows.nfaClosureIsLeastFixpointSpec.post enc Try.prog Try.f4 false true false false) :=
  returnsInHanded_of_change (C := Try.checked) nfaClosureIsLeastFixpoint_own started (by kernel_rfl) Try.func4
    (ChangeSpec.witness6 (enc := enc) (C := Try.checked) false ⟨#[], #[.agg #[.int .i64 0, .int .i64 0, .slice none 0 0, .slice none 0 0], .slice none 0 0], []⟩ 8 (by kernel_rfl) (by kernel_rfl) (by kernel_rfl) (by kernel_rfl))
    fun W base args ds gs before hval hW _ _ =>
      law_contract (P := Try.prog) s304 rfl (fun H ds hl => by
        match ds, hl with
        | [_, _], _ => rfl) (by kernel_rfl) (tb := 4) (by kernel_rfl) (by kernel_rfl) nfaClosureIsLeastFixpoint_laidOut pure304 hval hW

/-- The row, for the claim. -/
theorem nfaClosureIsLeastFixpoint_holds : Rows.NfaClosureIsLeastFixpointSaid :=
  OpenClaim.holds_of_wide 4 Try.f4 rfl rfl rfl rfl rfl rfl rfl ⟨rfl, rfl, rfl, rfl, rfl⟩ rfl rfl rfl rfl rfl (by kernel_rfl) Try.func4 (by kernel_rfl)
    (of_decide_eq_true (by kernel_rfl)) (by unfold Func.isWrapper; first | (rw [if_pos (by decide +kernel)]; kernel_rfl) | (rw [if_neg (by decide +kernel)]; exact ⟨rfl, rfl⟩))
    (fun os started H enc _ => nfaClosureIsLeastFixpoint_lifted os started H enc)

#print axioms nfaClosureIsLeastFixpoint_holds
end Go.Proofs.Ytdjbokdohackdaa
