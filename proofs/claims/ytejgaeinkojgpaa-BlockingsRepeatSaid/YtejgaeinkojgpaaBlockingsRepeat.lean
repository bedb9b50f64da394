/- BlockingsRepeat: an open Set is repeated every Again ticks, unchanged, until its Ack is heard. -/
import Derived.Test.YtejgaeinkojgpaaRows
import Derived.Test.YtejgaeinkojgpaaR3
import Derived.Test.YtejgaeinkojgpaaAiY
set_option linter.unusedVariables false
namespace Go.Proofs.Ytejgaeinkojgpaa
open Go Go.Ai Go.ChangeShapes Go.WideShapes Go.ChangeAt Go.RowKit

theorem blockingsRepeat_own : ownKnob Try.prog.godebug = none := by kernel_rfl

set_option maxRecDepth 100000 in
theorem blockingsRepeat_lifted (os : Os) (started : os.Started) (H : Type) (enc : TypeId × Value → H) :
    ReturnsInHanded {} Try.checked os 5 .any (Rows.blockingsRepeatSpec.pre6 enc Try.prog Try.f5 Rows.blockingsRepeatRow.domain false) (Rows.blockingsRepeatSpec.post enc Try.prog Try.f5 false true false false) := by
  refine returnsInHanded_of_change (C := Try.checked) blockingsRepeat_own started (by kernel_rfl) Try.func5
    (ChangeSpec.witness6 (enc := enc) (C := Try.checked) false ⟨#[], #[.int .u8 0, .int .u8 0, .int .u8 0], []⟩ 8 (by kernel_rfl) (by kernel_rfl) (by kernel_rfl) (by kernel_rfl)) ?_
  intro W base args ds gs before hval hW hcnd _
  exact law_calls (bt := 4) (ss := repeatSh) (by kernel_rfl) (by kernel_rfl) (by kernel_rfl) (by kernel_rfl) Try.underlying4 rfl
    (fun xs hx => by match xs, hx with | [_, _, _], _ => exact ⟨rfl, rfl, rfl⟩) (fun h vs hs => repeat_sh hs) hval hW

/-- the given statement -/
theorem blockingsRepeat_said : Rows.BlockingsRepeatSaid :=
  OpenClaim.holds_of_wide 5 Try.f5 rfl rfl rfl rfl rfl rfl rfl ⟨rfl, rfl, rfl, rfl, rfl⟩ rfl rfl rfl rfl rfl (by kernel_rfl) Try.func5 (by kernel_rfl)
    (of_decide_eq_true (by kernel_rfl)) (by unfold Func.isWrapper; first | (rw [if_pos (by decide +kernel)]; kernel_rfl) | (rw [if_neg (by decide +kernel)]; exact ⟨rfl, rfl⟩))
    (fun os started H enc _ => blockingsRepeat_lifted os started H enc)
#print axioms blockingsRepeat_said
end Go.Proofs.Ytejgaeinkojgpaa
