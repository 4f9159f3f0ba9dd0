/- The law DfaDeterminize: at every input its function answers true and leaves its arguments as they were. No condition. -/
import Derived.Test.YtagllmgnmkdogaaP34
import Derived.Test.YtagllmgnmkdogaaRows
namespace Go.Proofs.Ytagllmgnmkdogaa
open Go Go.AM

theorem dfaDeterminize_own : ownKnob Try.prog.godebug = none := by kernel_rfl
theorem dfaDeterminize_laidOut : laidOutB Try.prog = true := by kernel_rfl

set_option maxRecDepth 100000 in
theorem dfaDeterminize_lifted (os : Os) (started : os.Started) (H : Type) (enc : TypeId × Value → H) :
    ReturnsInHanded {} Try.checked os 8 .any (Rows.dfaDeterminizeSpec.pre6 enc Try.prog Try.f8 Rows.dfaDeterminizeRow.domain false) (Rows.dfaDeterminizeSpec.post enc Try.prog Try.f8 false true false false) :=
  returnsInHanded_of_change (C := Try.checked) dfaDeterminize_own started (by kernel_rfl) Try.func8
    (ChangeSpec.witness6 (enc := enc) (C := Try.checked) false ⟨#[], #[.agg #[.int .i64 0, .int .i64 0, .slice none 0 0, .slice none 0 0], .string ByteArray.empty], []⟩ 8 (by kernel_rfl) (by kernel_rfl) (by kernel_rfl) (by kernel_rfl))
    fun W base args ds gs before hval hW _ _ =>
      law_contract (P := Try.prog) s8 rfl (fun H ds hl => by
        match ds, hl with
        | [_, _], _ => rfl) (by kernel_rfl) (tb := 4) (by kernel_rfl) (by kernel_rfl) dfaDeterminize_laidOut pure8 hval hW

/-- The row, for the claim. -/
theorem dfaDeterminize_holds : Rows.DfaDeterminizeSaid :=
  OpenClaim.holds_of_wide 8 Try.f8 rfl rfl rfl rfl rfl rfl rfl ⟨rfl, rfl, rfl, rfl, rfl⟩ rfl rfl rfl rfl rfl (by kernel_rfl) Try.func8 (by kernel_rfl)
    (of_decide_eq_true (by kernel_rfl)) (by unfold Func.isWrapper; first | (rw [if_pos (by decide +kernel)]; kernel_rfl) | (rw [if_neg (by decide +kernel)]; exact ⟨rfl, rfl⟩))
    (fun os started H enc _ => dfaDeterminize_lifted os started H enc)

#print axioms dfaDeterminize_holds
end Go.Proofs.Ytagllmgnmkdogaa
