/- BlockingsHear: a Set whose serial number is greater than all before sets and removes exactly the blocks that it contains; any other one changes nothing; both are acknowledged. -/
import Derived.Test.YtejgaeinkojgpaaRows
import Derived.Test.YtejgaeinkojgpaaW3
import Derived.Test.YtejgaeinkojgpaaAiYn
set_option linter.unusedVariables false
namespace Go.Proofs.Ytejgaeinkojgpaa
open Go Go.Ai Go.ChangeShapes Go.WideShapes Go.ChangeAt Go.RowKit

theorem blockingsHear_own : ownKnob Try.prog.godebug = none := by kernel_rfl

set_option maxRecDepth 100000 in
theorem blockingsHear_lifted (os : Os) (started : os.Started) (H : Type) (enc : TypeId × Value → H) :
    ReturnsInHanded {} Try.checked os 4 .any (Rows.blockingsHearSpec.pre6 enc Try.prog Try.f4 Rows.blockingsHearRow.domain false) (Rows.blockingsHearSpec.post enc Try.prog Try.f4 false true false false) := by
  refine returnsInHanded_of_change (C := Try.checked) blockingsHear_own started (by kernel_rfl) Try.func4
    (ChangeSpec.witness6 (enc := enc) (C := Try.checked) false ⟨#[], #[.int .u8 0, .slice none 0 0], []⟩ 8 (by kernel_rfl) (by kernel_rfl) (by kernel_rfl) (by kernel_rfl)) ?_
  intro W base args ds gs before hval hW hcnd _
  exact law_callsN (bt := 4) (ss := hearSh) (by kernel_rfl) (by kernel_rfl) (by kernel_rfl) (by kernel_rfl) Try.underlying4 rfl
    (fun xs hx => by match xs, hx with | [_, _], _ => exact ⟨rfl, rfl, rfl⟩) (fun h vs hs => hear_sh hs) hval hW

/-- the given statement -/
theorem blockingsHear_said : Rows.BlockingsHearSaid :=
  OpenClaim.holds_of_wide 4 Try.f4 rfl rfl rfl rfl rfl rfl rfl ⟨rfl, rfl, rfl, rfl, rfl⟩ rfl rfl rfl rfl rfl (by kernel_rfl) Try.func4 (by kernel_rfl)
    (of_decide_eq_true (by kernel_rfl)) (by unfold Func.isWrapper; first | (rw [if_pos (by decide +kernel)]; kernel_rfl) | (rw [if_neg (by decide +kernel)]; exact ⟨rfl, rfl⟩))
    (fun os started H enc _ => blockingsHear_lifted os started H enc)
#print axioms blockingsHear_said
end Go.Proofs.Ytejgaeinkojgpaa
