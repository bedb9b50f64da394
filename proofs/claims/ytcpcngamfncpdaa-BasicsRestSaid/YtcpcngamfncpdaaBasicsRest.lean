/- BasicsRest: once no unit is lost, all that was given is taken, and no end waits -/
import Derived.Test.YtcpcngamfncpdaaRows
import Derived.Test.YtcpcngamfncpdaaR2
import Derived.Test.YtcpcngamfncpdaaAiY
set_option linter.unusedVariables false
namespace Go.Proofs.Ytcpcngamfncpdaa
open Go Go.Ai Go.ChangeShapes Go.WideShapes Go.ChangeAt Go.RowKit

theorem basicsRest_own : ownKnob Try.prog.godebug = none := by kernel_rfl

set_option maxRecDepth 100000 in
theorem basicsRest_lifted (os : Os) (started : os.Started) (H : Type) (enc : TypeId × Value → H) :
    ReturnsInHanded {} Try.checked os 5 .any (Rows.basicsRestSpec.pre6 enc Try.prog Try.f5 Rows.basicsRestRow.domain false) (Rows.basicsRestSpec.post enc Try.prog Try.f5 false true false false) := by
  refine returnsInHanded_of_change (C := Try.checked) basicsRest_own started (by kernel_rfl) Try.func5
    (ChangeSpec.witness6 (enc := enc) (C := Try.checked) false ⟨#[], #[.slice none 0 0], []⟩ 8 (by kernel_rfl) (by kernel_rfl) (by kernel_rfl) (by kernel_rfl)) ?_
  intro W base args ds gs before hval hW hcnd _
  exact law_calls (bt := 4) (ss := restSh) (by kernel_rfl) (by kernel_rfl) (by kernel_rfl) (by kernel_rfl) Try.underlying4 rfl
    (fun xs hx => by match xs, hx with | [_], _ => exact ⟨rfl, rfl, rfl⟩) (fun h vs hs => rest_sh hs) hval hW

/-- the given statement -/
theorem basicsRest_said : Rows.BasicsRestSaid :=
  OpenClaim.holds_of_wide 5 Try.f5 rfl rfl rfl rfl rfl rfl rfl ⟨rfl, rfl, rfl, rfl, rfl⟩ rfl rfl rfl rfl rfl (by kernel_rfl) Try.func5 (by kernel_rfl)
    (of_decide_eq_true (by kernel_rfl)) (by unfold Func.isWrapper; first | (rw [if_pos (by decide +kernel)]; kernel_rfl) | (rw [if_neg (by decide +kernel)]; exact ⟨rfl, rfl⟩))
    (fun os started H enc _ => basicsRest_lifted os started H enc)
#print axioms basicsRest_said
end Go.Proofs.Ytcpcngamfncpdaa
