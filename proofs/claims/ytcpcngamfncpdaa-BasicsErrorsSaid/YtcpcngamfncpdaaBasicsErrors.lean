/- BasicsErrors: loads and units that are not valid are errors and change nothing; a nil end and the zero one return ErrNil, or nothing. Conditions: none. -/
import Derived.Test.YtcpcngamfncpdaaRows
import Derived.Test.YtcpcngamfncpdaaY8
import Derived.Test.YtcpcngamfncpdaaAiY
set_option linter.unusedVariables false
namespace Go.Proofs.Ytcpcngamfncpdaa
open Go Go.Ai Go.ChangeShapes Go.WideShapes Go.ChangeAt Go.RowKit

theorem basicsErrors_own : ownKnob Try.prog.godebug = none := by kernel_rfl

set_option maxRecDepth 100000 in
theorem basicsErrors_lifted (os : Os) (started : os.Started) (H : Type) (enc : TypeId × Value → H) :
    ReturnsInHanded {} Try.checked os 7 .any (Rows.basicsErrorsSpec.pre6 enc Try.prog Try.f7 Rows.basicsErrorsRow.domain false) (Rows.basicsErrorsSpec.post enc Try.prog Try.f7 false true false false) := by
  refine returnsInHanded_of_change (C := Try.checked) basicsErrors_own started (by kernel_rfl) Try.func7
    (ChangeSpec.witness6 (enc := enc) (C := Try.checked) false ⟨#[], #[.slice none 0 0, .agg #[.int .u8 0, .bool false, .int .u8 0, .bool false, .int .u8 0, .int .u8 0, .slice none 0 0]], []⟩ 8 (by kernel_rfl) (by kernel_rfl) (by kernel_rfl) (by kernel_rfl)) ?_
  intro W base args ds gs before hval hW hcnd _
  exact law_callsF (bt := 4) (t0 := 22) (e0 := 5) (ts0 := [45]) (ss := errorsSh) (by kernel_rfl) (by kernel_rfl) (by kernel_rfl) (by kernel_rfl) Try.underlying22 (by kernel_rfl) (by kernel_rfl) Try.underlying4 rfl
    (fun xs hx => by match xs, hx with | [_, _], _ => exact ⟨rfl, rfl, rfl⟩) (fun φ h vs args' hR ha hs hf => errors_sh hR ha hs hf) hval hW

/-- the given statement -/
theorem basicsErrors_said : Rows.BasicsErrorsSaid :=
  OpenClaim.holds_of_wide 7 Try.f7 rfl rfl rfl rfl rfl rfl rfl ⟨rfl, rfl, rfl, rfl, rfl⟩ rfl rfl rfl rfl rfl (by kernel_rfl) Try.func7 (by kernel_rfl)
    (of_decide_eq_true (by kernel_rfl)) (by unfold Func.isWrapper; first | (rw [if_pos (by decide +kernel)]; kernel_rfl) | (rw [if_neg (by decide +kernel)]; exact ⟨rfl, rfl⟩))
    (fun os started H enc _ => basicsErrors_lifted os started H enc)
#print axioms basicsErrors_said
end Go.Proofs.Ytcpcngamfncpdaa
