/- The law NfaFromRegexesErrors: at every input of bulk at most 1048576 its function answers true and leaves its arguments as they were. The bound on the bulk is the only condition. -/
import Derived.Test.YtdjbokdohackdaaP57
import Derived.Test.YtdjbokdohackdaaK1
import Derived.Test.YtdjbokdohackdaaRows
import Derived.OpenShut
import Derived.JoinedCond
namespace Go.Proofs.Ytdjbokdohackdaa
open Go Go.AM

theorem nfaFromRegexesErrors_own : ownKnob Try.prog.godebug = none := by kernel_rfl
theorem nfaFromRegexesErrors_laidOut : laidOutB Try.prog = true := by kernel_rfl
theorem nfaFromRegexesErrors_rd37 : Try.prog.readableRec 37 = true := by kernel_rfl
theorem nfaFromRegexesErrors_lt37 : 37 < Try.prog.types.size := Nat.le_of_ble_eq_true (by kernel_rfl)

set_option maxRecDepth 100000 in
theorem nfaFromRegexesErrors_lifted (os : Os) (started : os.Started) (H : Type) (enc : TypeId × Value → H) (F : Stop.Interp) :
    ReturnsInHanded {} Try.checked os 10 .any ((Rows.OpenSpec.upto Rows.nfaFromRegexesErrorsSpec).pre6 enc Try.prog Try.f10 Rows.nfaFromRegexesErrorsUptoRow.domain false) (((Rows.OpenSpec.upto Rows.nfaFromRegexesErrorsSpec).at F).post enc Try.prog Try.f10 false true false false) := by
  refine returnsInHanded_of_cond (C := Try.checked) (s := Rows.OpenSpec.upto Rows.nfaFromRegexesErrorsSpec) (k := Rows.uptoSmall) rfl nfaFromRegexesErrors_own started (by kernel_rfl) Try.func10
    (OpenSpec.witness (enc := enc) (C := Try.checked) (s := Rows.OpenSpec.upto Rows.nfaFromRegexesErrorsSpec) (k := Rows.uptoSmall) rfl false ⟨#[], #[.slice none 0 0], []⟩ 8 (by kernel_rfl) (by kernel_rfl) (by kernel_rfl)
      (x := ([.nil], [], [])) (by kernel_rfl) rfl (by kernel_rfl)) ?_
  intro W base args ds gs before hval hW _ hk _
  exact law_contract_rx (ks := []) s310 rfl (fun H ds hl => by
        match ds, hl with
        | [_], _ => rfl) rfl (by kernel_rfl) nfaFromRegexesErrors_rd37 nfaFromRegexesErrors_lt37 (tb := 4) (by kernel_rfl) (by kernel_rfl) nfaFromRegexesErrors_laidOut (fun l y hw hn hy => pure310 l y hw hn hy) hval hW hk

/-- The row, for the claim. -/
theorem nfaFromRegexesErrors_holds : Rows.NfaFromRegexesErrorsUptoSaid :=
  OpenClaim.holds_of_cond 10 Try.f10 rfl rfl rfl rfl rfl rfl rfl ⟨rfl, rfl, rfl, rfl, rfl⟩ rfl rfl rfl rfl rfl (by kernel_rfl) Try.func10 (by kernel_rfl)
    (of_decide_eq_true (by kernel_rfl)) (by unfold Func.isWrapper; first | (rw [if_pos (by decide +kernel)]; kernel_rfl) | (rw [if_neg (by decide +kernel)]; exact ⟨rfl, rfl⟩))
    (fun os started H enc _ F => nfaFromRegexesErrors_lifted os started H enc F)

#print axioms nfaFromRegexesErrors_holds
end Go.Proofs.Ytdjbokdohackdaa
