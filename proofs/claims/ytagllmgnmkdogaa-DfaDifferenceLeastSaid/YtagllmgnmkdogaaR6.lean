/- The law DfaDifferenceLeast: at every input its function answers true and leaves its arguments as they were. No condition. -/
import Derived.Test.YtagllmgnmkdogaaP9
import Derived.Test.YtagllmgnmkdogaaRows
namespace Go.Proofs.Ytagllmgnmkdogaa
open Go Go.AM

theorem dfaDifferenceLeast_own : ownKnob Try.prog.godebug = none := by kernel_rfl
theorem dfaDifferenceLeast_laidOut : laidOutB Try.prog = true := by kernel_rfl

set_option maxRecDepth 100000 in
theorem dfaDifferenceLeast_lifted (os : Os) (started : os.Started) (H : Type) (enc : TypeId × Value → H) :
    ReturnsInHanded {} Try.checked os 6 .any (Rows.dfaDifferenceLeastSpec.pre6 enc Try.prog Try.f6 Rows.dfaDifferenceLeastRow.domain false) (Rows.dfaDifferenceLeastSpec.post enc Try.prog Try.f6 false true false false) :=
  returnsInHanded_of_change (C := Try.checked) dfaDifferenceLeast_own started (by kernel_rfl) Try.func6
    (ChangeSpec.witness6 (enc := enc) (C := Try.checked) false ⟨#[], #[.agg #[.slice none 0 0, .slice none 0 0, .slice none 0 0], .agg #[.slice none 0 0, .slice none 0 0, .slice none 0 0], .string ByteArray.empty], []⟩ 8 (by kernel_rfl) (by kernel_rfl) (by kernel_rfl) (by kernel_rfl))
    fun W base args ds gs before hval hW _ _ =>
      law_contract (P := Try.prog) s6 rfl (fun H ds hl => by
        match ds, hl with
        | [_, _, _], _ => rfl) (by kernel_rfl) (tb := 4) (by kernel_rfl) (by kernel_rfl) dfaDifferenceLeast_laidOut pure6 hval hW

/-- The row, for the claim. -/
theorem dfaDifferenceLeast_holds : Rows.DfaDifferenceLeastSaid :=
  OpenClaim.holds_of_wide 6 Try.f6 rfl rfl rfl rfl rfl rfl rfl ⟨rfl, rfl, rfl, rfl, rfl⟩ rfl rfl rfl rfl rfl (by kernel_rfl) Try.func6 (by kernel_rfl)
    (of_decide_eq_true (by kernel_rfl)) (by unfold Func.isWrapper; first | (rw [if_pos (by decide +kernel)]; kernel_rfl) | (rw [if_neg (by decide +kernel)]; exact ⟨rfl, rfl⟩))
    (fun os started H enc _ => dfaDifferenceLeast_lifted os started H enc)

#print axioms dfaDifferenceLeast_holds
end Go.Proofs.Ytagllmgnmkdogaa
