import Derived.Test.YtdjbokdohackdaaM8
import Derived.Test.YtdjbokdohackdaaRows
import Derived.OpenShut
import Derived.JoinedCond
/- The law NfaFromRegexesMatches: at every input of bulk at most 1048576 its function answers true and leaves its arguments as they were. The bound on the bulk is the only condition. -/
namespace Go.Proofs.Ytdjbokdohackdaa
open Go Go.AM

theorem nfaFromRegexesMatches_own : ownKnob Try.prog.godebug = none := by kernel_rfl
theorem nfaFromRegexesMatches_laidOut : laidOutB Try.prog = true := by kernel_rfl
theorem nfaFromRegexesMatches_rd37 : Try.prog.readableRec 37 = true := by kernel_rfl
theorem nfaFromRegexesMatches_lt37 : 37 < Try.prog.types.size := Nat.le_of_ble_eq_true (by kernel_rfl)

set_option maxRecDepth 100000 in
theorem nfaFromRegexesMatches_lifted (os : Os) (started : os.Started) (H : Type) (enc : TypeId × Value → H) (F : Stop.Interp) :
    ReturnsInHanded {} Try.checked os 9 .any ((Rows.OpenSpec.upto Rows.nfaFromRegexesMatchesSpec).pre6 enc Try.prog Try.f9 Rows.nfaFromRegexesMatchesUptoRow.domain false) (((Rows.OpenSpec.upto Rows.nfaFromRegexesMatchesSpec).at F).post enc Try.prog Try.f9 false true false false) := by
  refine returnsInHanded_of_cond (C := Try.checked) (s := Rows.OpenSpec.upto Rows.nfaFromRegexesMatchesSpec) (k := Rows.uptoSmall) rfl nfaFromRegexesMatches_own started (by kernel_rfl) Try.func9
    (OpenSpec.witness (enc := enc) (C := Try.checked) (s := Rows.OpenSpec.upto Rows.nfaFromRegexesMatchesSpec) (k := Rows.uptoSmall) rfl false ⟨#[], #[.slice none 0 0, .string ByteArray.empty], []⟩ 8 (by kernel_rfl) (by kernel_rfl) (by kernel_rfl)
      (x := ([.nil, .lit (.string [])], [], [])) (by kernel_rfl) rfl (by kernel_rfl)) ?_
  intro W base args ds gs before hval hW _ hk _
  exact law_contract_rx (ks := [.str]) s309 rfl (fun H ds hl => by
        match ds, hl with
        | [_, _], _ => rfl) rfl (by kernel_rfl) nfaFromRegexesMatches_rd37 nfaFromRegexesMatches_lt37 (tb := 4) (by kernel_rfl) (by kernel_rfl) nfaFromRegexesMatches_laidOut (fun l y hw hn hy => pure309 l y hw hn hy) hval hW hk

/-- The row, for the claim. -/
theorem nfaFromRegexesMatches_holds : Rows.NfaFromRegexesMatchesUptoSaid :=
  OpenClaim.holds_of_cond 9 Try.f9 rfl rfl rfl rfl rfl rfl rfl ⟨rfl, rfl, rfl, rfl, rfl⟩ rfl rfl rfl rfl rfl (by kernel_rfl) Try.func9 (by kernel_rfl)
    (of_decide_eq_true (by kernel_rfl)) (by unfold Func.isWrapper; first | (rw [if_pos (by decide +kernel)]; kernel_rfl) | (rw [if_neg (by decide +kernel)]; exact ⟨rfl, rfl⟩))
    (fun os started H enc _ F => nfaFromRegexesMatches_lifted os started H enc F)

#print axioms nfaFromRegexesMatches_holds
end Go.Proofs.Ytdjbokdohackdaa
