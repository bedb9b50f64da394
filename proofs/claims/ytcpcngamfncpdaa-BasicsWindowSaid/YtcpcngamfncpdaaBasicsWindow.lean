/- BasicsWindow: an end sends at most 127 loads that are not acknowledged, and its queue has at most MaxQueue; all of them can be retrieved, by each number that has not been acknowledged. Conditions: none. -/
import Derived.Test.YtcpcngamfncpdaaRows
import Derived.Test.YtcpcngamfncpdaaE2
import Derived.Test.YtcpcngamfncpdaaAiY
set_option linter.unusedVariables false
namespace Go.Proofs.Ytcpcngamfncpdaa
open Go Go.Ai Go.ChangeShapes Go.WideShapes Go.ChangeAt Go.RowKit

theorem basicsWindow_own : ownKnob Try.prog.godebug = none := by kernel_rfl

set_option maxRecDepth 100000 in
theorem basicsWindow_lifted (os : Os) (started : os.Started) (H : Type) (enc : TypeId × Value → H) :
    ReturnsInHanded {} Try.checked os 6 .any (Rows.basicsWindowSpec.pre6 enc Try.prog Try.f6 Rows.basicsWindowRow.domain false) (Rows.basicsWindowSpec.post enc Try.prog Try.f6 false true false false) := by
  refine returnsInHanded_of_change (C := Try.checked) basicsWindow_own started (by kernel_rfl) Try.func6
    (ChangeSpec.witness6 (enc := enc) (C := Try.checked) false ⟨#[], #[.int .u8 0, .int .u8 0], []⟩ 8 (by kernel_rfl) (by kernel_rfl) (by kernel_rfl) (by kernel_rfl)) ?_
  intro W base args ds gs before hval hW hcnd _
  exact law_calls (bt := 4) (ss := windowSh) (by kernel_rfl) (by kernel_rfl) (by kernel_rfl) (by kernel_rfl) Try.underlying4 rfl
    (fun xs hx => by match xs, hx with | [_, _], _ => exact ⟨rfl, rfl, rfl⟩) (fun h vs hs => window_sh hs) hval hW

/-- the given statement -/
theorem basicsWindow_said : Rows.BasicsWindowSaid :=
  OpenClaim.holds_of_wide 6 Try.f6 rfl rfl rfl rfl rfl rfl rfl ⟨rfl, rfl, rfl, rfl, rfl⟩ rfl rfl rfl rfl rfl (by kernel_rfl) Try.func6 (by kernel_rfl)
    (of_decide_eq_true (by kernel_rfl)) (by unfold Func.isWrapper; first | (rw [if_pos (by decide +kernel)]; kernel_rfl) | (rw [if_neg (by decide +kernel)]; exact ⟨rfl, rfl⟩))
    (fun os started H enc _ => basicsWindow_lifted os started H enc)
#print axioms basicsWindow_said
end Go.Proofs.Ytcpcngamfncpdaa
