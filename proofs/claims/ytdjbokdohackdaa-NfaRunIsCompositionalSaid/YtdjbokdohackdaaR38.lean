/- The law NfaRunIsCompositional: at every input its function answers true and leaves its arguments as they were. No condition. -/
import Derived.Test.YtdjbokdohackdaaP41
import Derived.Test.YtdjbokdohackdaaRows
namespace Go.Proofs.Ytdjbokdohackdaa
open Go Go.AM

theorem nfaRunIsCompositional_own : ownKnob Try.prog.godebug = none := by kernel_rfl
theorem nfaRunIsCompositional_laidOut : laidOutB Try.prog = true := by kernel_rfl

set_option maxRecDepth 100000 in
theorem nfaRunIsCompositional_lifted (os : Os) (started : os.Started) (H : Type) (enc : TypeId × Value → H) :
    ReturnsInHanded {} Try.checked os 8 .any (Rows.nfaRunIsCompositionalSpec.pre6 enc Try.prog Try.f8 Rows.nfaRunIsCompositionalRow.domain false) (Rows.nfaRunIsCompositionalSpec.post enc Try.prog Try.f8 false true false false) :=
  returnsInHanded_of_change (C := Try.checked) nfaRunIsCompositional_own started (by kernel_rfl) Try.func8
    (ChangeSpec.witness6 (enc := enc) (C := Try.checked) false ⟨#[], #[.agg #[.int .i64 0, .int .i64 0, .slice none 0 0, .slice none 0 0], .string ByteArray.empty, .string ByteArray.empty], []⟩ 8 (by kernel_rfl) (by kernel_rfl) (by kernel_rfl) (by kernel_rfl))
    fun W base args ds gs before hval hW _ _ =>
      law_contract (P := Try.prog) s308 rfl (fun H ds hl => by
        match ds, hl with
        | [_, _, _], _ => rfl) (by kernel_rfl) (tb := 4) (by kernel_rfl) (by kernel_rfl) nfaRunIsCompositional_laidOut pure308 hval hW

/-- The row, for the claim. -/
theorem nfaRunIsCompositional_holds : Rows.NfaRunIsCompositionalSaid :=
  OpenClaim.holds_of_wide 8 Try.f8 rfl rfl rfl rfl rfl rfl rfl ⟨rfl, rfl, rfl, rfl, rfl⟩ rfl rfl rfl rfl rfl (by kernel_rfl) Try.func8 (by kernel_rfl)
    (of_decide_eq_true (by kernel_rfl)) (by unfold Func.isWrapper; first | (rw [if_pos (by decide +kernel)]; kernel_rfl) | (rw [if_neg (by decide +kernel)]; exact ⟨rfl, rfl⟩))
    (fun os started H enc _ => nfaRunIsCompositional_lifted os started H enc)

#print axioms nfaRunIsCompositional_holds
end Go.Proofs.Ytdjbokdohackdaa
