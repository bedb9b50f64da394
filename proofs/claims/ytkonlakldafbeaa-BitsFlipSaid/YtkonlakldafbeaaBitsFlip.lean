/- BitsFlip: Flip inverts each position as often as it is given; Apart returns the positions at which two streams differ, and Flip at these positions turns one into the other. Conditions: none; any bytes and positions. -/
import Derived.Test.YtkonlakldafbeaaRows
import Derived.Test.YtkonlakldafbeaaC5
import Derived.Test.YtkonlakldafbeaaAiY
set_option linter.unusedVariables false
namespace Go.Proofs.Ytkonlakldafbeaa
open Go Go.Ai Go.ChangeShapes Go.WideShapes Go.ChangeAt Go.RowKit

theorem bitsFlip_own : ownKnob Try.prog.godebug = none := by kernel_rfl

set_option maxRecDepth 100000 in
theorem bitsFlip_lifted (os : Os) (started : os.Started) (H : Type) (enc : TypeId × Value → H) :
    ReturnsInHanded {} Try.checked os 6 .any (Rows.bitsFlipSpec.pre6 enc Try.prog Try.f6 Rows.bitsFlipRow.domain false) (Rows.bitsFlipSpec.post enc Try.prog Try.f6 false true false false) := by
  refine returnsInHanded_of_change (C := Try.checked) bitsFlip_own started (by kernel_rfl) Try.func6
    (ChangeSpec.witness6 (enc := enc) (C := Try.checked) false ⟨#[], #[.slice none 0 0, .slice none 0 0, .slice none 0 0], []⟩ 8 (by kernel_rfl) (by kernel_rfl) (by kernel_rfl) (by kernel_rfl)) ?_
  intro W base args ds gs before hval hW hcnd _
  exact law_calls (bt := 4) (ss := flipSh) (by kernel_rfl) (by kernel_rfl) (by kernel_rfl) (by kernel_rfl) Try.underlying4 rfl
    (fun xs hx => by match xs, hx with | [_, _, _], _ => exact ⟨rfl, rfl, rfl⟩) (fun h vs hs => flip_sh hs) hval hW

/-- the given statement -/
theorem bitsFlip_said : Rows.BitsFlipSaid :=
  OpenClaim.holds_of_wide 6 Try.f6 rfl rfl rfl rfl rfl rfl rfl ⟨rfl, rfl, rfl, rfl, rfl⟩ rfl rfl rfl rfl rfl (by kernel_rfl) Try.func6 (by kernel_rfl)
    (of_decide_eq_true (by kernel_rfl)) (by unfold Func.isWrapper; first | (rw [if_pos (by decide +kernel)]; kernel_rfl) | (rw [if_neg (by decide +kernel)]; exact ⟨rfl, rfl⟩))
    (fun os started H enc _ => bitsFlip_lifted os started H enc)
#print axioms bitsFlip_said
end Go.Proofs.Ytkonlakldafbeaa
