/- BasicsScript: after every act of a script, an end has done what the chapter says -/
import Derived.Test.YtcpcngamfncpdaaRows
import Derived.Test.YtcpcngamfncpdaaS6
import Derived.Test.YtcpcngamfncpdaaAiYn
set_option linter.unusedVariables false
namespace Go.Proofs.Ytcpcngamfncpdaa
open Go Go.Ai Go.ChangeShapes Go.WideShapes Go.ChangeAt Go.RowKit

theorem basicsScript_own : ownKnob Try.prog.godebug = none := by kernel_rfl

set_option maxRecDepth 100000 in
theorem basicsScript_lifted (os : Os) (started : os.Started) (H : Type) (enc : TypeId × Value → H) :
    ReturnsInHanded {} Try.checked os 8 .any (Rows.basicsScriptSpec.pre6 enc Try.prog Try.f8 Rows.basicsScriptRow.domain false) (Rows.basicsScriptSpec.post enc Try.prog Try.f8 false true false false) := by
  refine returnsInHanded_of_change (C := Try.checked) basicsScript_own started (by kernel_rfl) Try.func8
    (ChangeSpec.witness6 (enc := enc) (C := Try.checked) false ⟨#[], #[.slice none 0 0], []⟩ 8 (by kernel_rfl) (by kernel_rfl) (by kernel_rfl) (by kernel_rfl)) ?_
  intro W base args ds gs before hval hW hcnd _
  exact law_callsN (bt := 4) (ss := scriptSh) (by kernel_rfl) (by kernel_rfl) (by kernel_rfl) (by kernel_rfl) Try.underlying4 rfl
    (fun xs hx => by match xs, hx with | [_], _ => exact ⟨rfl, rfl, rfl⟩) (fun h vs hs => script_sh hs) hval hW

/-- the given statement -/
theorem basicsScript_said : Rows.BasicsScriptSaid :=
  OpenClaim.holds_of_wide 8 Try.f8 rfl rfl rfl rfl rfl rfl rfl ⟨rfl, rfl, rfl, rfl, rfl⟩ rfl rfl rfl rfl rfl (by kernel_rfl) Try.func8 (by kernel_rfl)
    (of_decide_eq_true (by kernel_rfl)) (by unfold Func.isWrapper; first | (rw [if_pos (by decide +kernel)]; kernel_rfl) | (rw [if_neg (by decide +kernel)]; exact ⟨rfl, rfl⟩))
    (fun os started H enc _ => basicsScript_lifted os started H enc)
#print axioms basicsScript_said
end Go.Proofs.Ytcpcngamfncpdaa
