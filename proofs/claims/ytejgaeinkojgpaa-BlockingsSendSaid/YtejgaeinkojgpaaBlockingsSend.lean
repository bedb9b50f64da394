/- BlockingsSend: the Set that is sent contains all due circuits from the lowest one on, within 32 circuits, with their blocks, and nothing else; while it is open, nothing else is sent. -/
import Derived.Test.YtejgaeinkojgpaaRows
import Derived.Test.YtejgaeinkojgpaaV6
import Derived.Test.YtejgaeinkojgpaaAiYn
set_option linter.unusedVariables false
namespace Go.Proofs.Ytejgaeinkojgpaa
open Go Go.Ai Go.ChangeShapes Go.WideShapes Go.ChangeAt Go.RowKit

theorem blockingsSend_own : ownKnob Try.prog.godebug = none := by kernel_rfl

set_option maxRecDepth 100000 in
theorem blockingsSend_lifted (os : Os) (started : os.Started) (H : Type) (enc : TypeId × Value → H) :
    ReturnsInHanded {} Try.checked os 3 .any (Rows.blockingsSendSpec.pre6 enc Try.prog Try.f3 Rows.blockingsSendRow.domain false) (Rows.blockingsSendSpec.post enc Try.prog Try.f3 false true false false) := by
  refine returnsInHanded_of_change (C := Try.checked) blockingsSend_own started (by kernel_rfl) Try.func3
    (ChangeSpec.witness6 (enc := enc) (C := Try.checked) false ⟨#[], #[.int .u8 0, .slice none 0 0], []⟩ 8 (by kernel_rfl) (by kernel_rfl) (by kernel_rfl) (by kernel_rfl)) ?_
  intro W base args ds gs before hval hW hcnd _
  exact law_callsN (bt := 4) (ss := sendSh) (by kernel_rfl) (by kernel_rfl) (by kernel_rfl) (by kernel_rfl) Try.underlying4 rfl
    (fun xs hx => by match xs, hx with | [_, _], _ => exact ⟨rfl, rfl, rfl⟩) (fun h vs hs => send_sh hs) hval hW

/-- the given statement -/
theorem blockingsSend_said : Rows.BlockingsSendSaid :=
  OpenClaim.holds_of_wide 3 Try.f3 rfl rfl rfl rfl rfl rfl rfl ⟨rfl, rfl, rfl, rfl, rfl⟩ rfl rfl rfl rfl rfl (by kernel_rfl) Try.func3 (by kernel_rfl)
    (of_decide_eq_true (by kernel_rfl)) (by unfold Func.isWrapper; first | (rw [if_pos (by decide +kernel)]; kernel_rfl) | (rw [if_neg (by decide +kernel)]; exact ⟨rfl, rfl⟩))
    (fun os started H enc _ => blockingsSend_lifted os started H enc)
#print axioms blockingsSend_said
end Go.Proofs.Ytejgaeinkojgpaa
