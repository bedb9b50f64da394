/- InvocationsErrors: Arguments that are not valid are refused with the documented error, and nothing changes; a nil book answers with nothing. -/
import Derived.Test.YtpbbmnfffolcoaaRows
import Derived.Test.YtpbbmnfffolcoaaE2
import Derived.Test.YtpbbmnfffolcoaaAiY
set_option linter.unusedVariables false
namespace Go.Proofs.Ytpbbmnfffolcoaa
open Go Go.Ai Go.ChangeShapes Go.WideShapes Go.ChangeAt Go.RowKit

theorem invocationsErrors_own : ownKnob Try.prog.godebug = none := by kernel_rfl

set_option maxRecDepth 100000 in
theorem invocationsErrors_lifted (os : Os) (started : os.Started) (H : Type) (enc : TypeId × Value → H) :
    ReturnsInHanded {} Try.checked os 5 .any (Rows.invocationsErrorsSpec.pre6 enc Try.prog Try.f5 Rows.invocationsErrorsRow.domain false) (Rows.invocationsErrorsSpec.post enc Try.prog Try.f5 false true false false) := by
  refine returnsInHanded_of_change (C := Try.checked) invocationsErrors_own started (by kernel_rfl) Try.func5
    (ChangeSpec.witness6 (enc := enc) (C := Try.checked) false ⟨#[], #[.int .i64 0, .int .i64 0, .agg #[.int .u8 0, .int .i64 0, .int .i64 0, .int .i64 0, .int .u8 0, .slice none 0 0]], []⟩ 8 (by kernel_rfl) (by kernel_rfl) (by kernel_rfl) (by kernel_rfl)) ?_
  intro W base args ds gs before hval hW hcnd _
  exact law_calls (bt := 4) (ss := errorsSh) (by kernel_rfl) (by kernel_rfl) (by kernel_rfl) (by kernel_rfl) Try.underlying4 rfl
    (fun xs hx => by match xs, hx with | [_, _, _], _ => exact ⟨rfl, rfl, rfl⟩) (fun h vs hs => errors_sh hs) hval hW

/-- the given statement -/
theorem invocationsErrors_said : Rows.InvocationsErrorsSaid :=
  OpenClaim.holds_of_wide 5 Try.f5 rfl rfl rfl rfl rfl rfl rfl ⟨rfl, rfl, rfl, rfl, rfl⟩ rfl rfl rfl rfl rfl (by kernel_rfl) Try.func5 (by kernel_rfl)
    (of_decide_eq_true (by kernel_rfl)) (by unfold Func.isWrapper; first | (rw [if_pos (by decide +kernel)]; kernel_rfl) | (rw [if_neg (by decide +kernel)]; exact ⟨rfl, rfl⟩))
    (fun os started H enc _ => invocationsErrors_lifted os started H enc)
#print axioms invocationsErrors_said
end Go.Proofs.Ytpbbmnfffolcoaa
