/- BasicsAbnormal: two abnormal units of three make an end fail, one does not; State units do not count; what was given can still be retrieved. Conditions: none. -/
import Derived.Test.YtcpcngamfncpdaaRows
import Derived.Test.YtcpcngamfncpdaaE1
import Derived.Test.YtcpcngamfncpdaaAiY
set_option linter.unusedVariables false
namespace Go.Proofs.Ytcpcngamfncpdaa
open Go Go.Ai Go.ChangeShapes Go.WideShapes Go.ChangeAt Go.RowKit

theorem basicsAbnormal_own : ownKnob Try.prog.godebug = none := by kernel_rfl

set_option maxRecDepth 100000 in
theorem basicsAbnormal_lifted (os : Os) (started : os.Started) (H : Type) (enc : TypeId × Value → H) :
    ReturnsInHanded {} Try.checked os 4 .any (Rows.basicsAbnormalSpec.pre6 enc Try.prog Try.f4 Rows.basicsAbnormalRow.domain false) (Rows.basicsAbnormalSpec.post enc Try.prog Try.f4 false true false false) := by
  refine returnsInHanded_of_change (C := Try.checked) basicsAbnormal_own started (by kernel_rfl) Try.func4
    (ChangeSpec.witness6 (enc := enc) (C := Try.checked) false ⟨#[], #[.slice none 0 0], []⟩ 8 (by kernel_rfl) (by kernel_rfl) (by kernel_rfl) (by kernel_rfl)) ?_
  intro W base args ds gs before hval hW hcnd _
  exact law_calls (bt := 4) (ss := abnormalSh) (by kernel_rfl) (by kernel_rfl) (by kernel_rfl) (by kernel_rfl) Try.underlying4 rfl
    (fun xs hx => by match xs, hx with | [_], _ => exact ⟨rfl, rfl, rfl⟩) (fun h vs hs => abnormal_sh hs) hval hW

/-- the given statement -/
theorem basicsAbnormal_said : Rows.BasicsAbnormalSaid :=
  OpenClaim.holds_of_wide 4 Try.f4 rfl rfl rfl rfl rfl rfl rfl ⟨rfl, rfl, rfl, rfl, rfl⟩ rfl rfl rfl rfl rfl (by kernel_rfl) Try.func4 (by kernel_rfl)
    (of_decide_eq_true (by kernel_rfl)) (by unfold Func.isWrapper; first | (rw [if_pos (by decide +kernel)]; kernel_rfl) | (rw [if_neg (by decide +kernel)]; exact ⟨rfl, rfl⟩))
    (fun os started H enc _ => basicsAbnormal_lifted os started H enc)
#print axioms basicsAbnormal_said
end Go.Proofs.Ytcpcngamfncpdaa
