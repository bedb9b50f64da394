/- InvocationsActs: After any acts a book has answered what the rules say, and has the open invocations and the endings of the rules. -/
import Derived.Test.YtpbbmnfffolcoaaRows
import Derived.Test.YtpbbmnfffolcoaaDB
import Derived.Test.YtpbbmnfffolcoaaAiYn
set_option linter.unusedVariables false
namespace Go.Proofs.Ytpbbmnfffolcoaa
open Go Go.Ai Go.ChangeShapes Go.WideShapes Go.ChangeAt Go.RowKit

theorem invocationsActs_own : ownKnob Try.prog.godebug = none := by kernel_rfl

set_option maxRecDepth 100000 in
theorem invocationsActs_lifted (os : Os) (started : os.Started) (H : Type) (enc : TypeId × Value → H) :
    ReturnsInHanded {} Try.checked os 3 .any (Rows.invocationsActsSpec.pre6 enc Try.prog Try.f3 Rows.invocationsActsRow.domain false) (Rows.invocationsActsSpec.post enc Try.prog Try.f3 false true false false) := by
  refine returnsInHanded_of_change (C := Try.checked) invocationsActs_own started (by kernel_rfl) Try.func3
    (ChangeSpec.witness6 (enc := enc) (C := Try.checked) false ⟨#[], #[.slice none 0 0], []⟩ 8 (by kernel_rfl) (by kernel_rfl) (by kernel_rfl) (by kernel_rfl)) ?_
  intro W base args ds gs before hval hW hcnd _
  exact law_callsN (bt := 4) (ss := actsSh) (by kernel_rfl) (by kernel_rfl) (by kernel_rfl) (by kernel_rfl) Try.underlying4 rfl
    (fun xs hx => by match xs, hx with | [_], _ => exact ⟨rfl, rfl, rfl⟩) (fun h vs hs => acts_sh hs) hval hW

/-- the given statement -/
theorem invocationsActs_said : Rows.InvocationsActsSaid :=
  OpenClaim.holds_of_wide 3 Try.f3 rfl rfl rfl rfl rfl rfl rfl ⟨rfl, rfl, rfl, rfl, rfl⟩ rfl rfl rfl rfl rfl (by kernel_rfl) Try.func3 (by kernel_rfl)
    (of_decide_eq_true (by kernel_rfl)) (by unfold Func.isWrapper; first | (rw [if_pos (by decide +kernel)]; kernel_rfl) | (rw [if_neg (by decide +kernel)]; exact ⟨rfl, rfl⟩))
    (fun os started H enc _ => invocationsActs_lifted os started H enc)
#print axioms invocationsActs_said
end Go.Proofs.Ytpbbmnfffolcoaa
