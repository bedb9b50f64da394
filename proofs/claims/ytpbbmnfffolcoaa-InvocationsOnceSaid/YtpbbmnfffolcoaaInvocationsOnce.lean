/- InvocationsOnce: Whatever answers come, every invocation ends exactly once before its number is given again, after at most the ticks that it waits, and nothing ends that was not asked; a result has the bytes of its parts and of the result, in order. -/
import Derived.Test.YtpbbmnfffolcoaaRows
import Derived.Test.YtpbbmnfffolcoaaO4
import Derived.Test.YtpbbmnfffolcoaaAiYn
set_option linter.unusedVariables false
namespace Go.Proofs.Ytpbbmnfffolcoaa
open Go Go.Ai Go.ChangeShapes Go.WideShapes Go.ChangeAt Go.RowKit

theorem invocationsOnce_own : ownKnob Try.prog.godebug = none := by kernel_rfl

set_option maxRecDepth 100000 in
theorem invocationsOnce_lifted (os : Os) (started : os.Started) (H : Type) (enc : TypeId × Value → H) :
    ReturnsInHanded {} Try.checked os 4 .any (Rows.invocationsOnceSpec.pre6 enc Try.prog Try.f4 Rows.invocationsOnceRow.domain false) (Rows.invocationsOnceSpec.post enc Try.prog Try.f4 false true false false) := by
  refine returnsInHanded_of_change (C := Try.checked) invocationsOnce_own started (by kernel_rfl) Try.func4
    (ChangeSpec.witness6 (enc := enc) (C := Try.checked) false ⟨#[], #[.slice none 0 0], []⟩ 8 (by kernel_rfl) (by kernel_rfl) (by kernel_rfl) (by kernel_rfl)) ?_
  intro W base args ds gs before hval hW hcnd _
  exact law_callsN (bt := 4) (ss := actsSh) (by kernel_rfl) (by kernel_rfl) (by kernel_rfl) (by kernel_rfl) Try.underlying4 rfl
    (fun xs hx => by match xs, hx with | [_], _ => exact ⟨rfl, rfl, rfl⟩) (fun h vs hs => once_sh hs) hval hW

/-- the given statement -/
theorem invocationsOnce_said : Rows.InvocationsOnceSaid :=
  OpenClaim.holds_of_wide 4 Try.f4 rfl rfl rfl rfl rfl rfl rfl ⟨rfl, rfl, rfl, rfl, rfl⟩ rfl rfl rfl rfl rfl (by kernel_rfl) Try.func4 (by kernel_rfl)
    (of_decide_eq_true (by kernel_rfl)) (by unfold Func.isWrapper; first | (rw [if_pos (by decide +kernel)]; kernel_rfl) | (rw [if_neg (by decide +kernel)]; exact ⟨rfl, rfl⟩))
    (fun os started H enc _ => invocationsOnce_lifted os started H enc)
#print axioms invocationsOnce_said
end Go.Proofs.Ytpbbmnfffolcoaa
