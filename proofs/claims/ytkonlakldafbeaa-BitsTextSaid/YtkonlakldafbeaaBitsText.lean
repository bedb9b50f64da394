/- BitsText: Text and Parse accept exactly the streams, and the texts of 0 and 1, and invert each other. Conditions: none; any bytes and any text. -/
import Derived.Test.YtkonlakldafbeaaRows
import Derived.Test.YtkonlakldafbeaaC3
import Derived.Test.YtkonlakldafbeaaAiY
set_option linter.unusedVariables false
namespace Go.Proofs.Ytkonlakldafbeaa
open Go Go.Ai Go.ChangeShapes Go.WideShapes Go.ChangeAt Go.RowKit

theorem bitsText_own : ownKnob Try.prog.godebug = none := by kernel_rfl

set_option maxRecDepth 100000 in
theorem bitsText_lifted (os : Os) (started : os.Started) (H : Type) (enc : TypeId × Value → H) :
    ReturnsInHanded {} Try.checked os 8 .any (Rows.bitsTextSpec.pre6 enc Try.prog Try.f8 Rows.bitsTextRow.domain false) (Rows.bitsTextSpec.post enc Try.prog Try.f8 false true false false) := by
  refine returnsInHanded_of_change (C := Try.checked) bitsText_own started (by kernel_rfl) Try.func8
    (ChangeSpec.witness6 (enc := enc) (C := Try.checked) false ⟨#[], #[.slice none 0 0, .string ⟨#[]⟩], []⟩ 8 (by kernel_rfl) (by kernel_rfl) (by kernel_rfl) (by kernel_rfl)) ?_
  intro W base args ds gs before hval hW hcnd _
  exact law_calls (bt := 4) (ss := textSh) (by kernel_rfl) (by kernel_rfl) (by kernel_rfl) (by kernel_rfl) Try.underlying4 rfl
    (fun xs hx => by match xs, hx with | [_, _], _ => exact ⟨rfl, rfl, rfl⟩) (fun h vs hs => text_sh hs) hval hW

/-- the given statement -/
theorem bitsText_said : Rows.BitsTextSaid :=
  OpenClaim.holds_of_wide 8 Try.f8 rfl rfl rfl rfl rfl rfl rfl ⟨rfl, rfl, rfl, rfl, rfl⟩ rfl rfl rfl rfl rfl (by kernel_rfl) Try.func8 (by kernel_rfl)
    (of_decide_eq_true (by kernel_rfl)) (by unfold Func.isWrapper; first | (rw [if_pos (by decide +kernel)]; kernel_rfl) | (rw [if_neg (by decide +kernel)]; exact ⟨rfl, rfl⟩))
    (fun os started H enc _ => bitsText_lifted os started H enc)
#print axioms bitsText_said
end Go.Proofs.Ytkonlakldafbeaa
