/- BitsFields: Put and Get return the first error that applies, and otherwise the bits of the integer. Conditions: none; any bytes, any integer, width and position. -/
import Derived.Test.YtkonlakldafbeaaRows
import Derived.Test.YtkonlakldafbeaaC4
import Derived.Test.YtkonlakldafbeaaAiY
set_option linter.unusedVariables false
namespace Go.Proofs.Ytkonlakldafbeaa
open Go Go.Ai Go.ChangeShapes Go.WideShapes Go.ChangeAt Go.RowKit

theorem bitsFields_own : ownKnob Try.prog.godebug = none := by kernel_rfl

set_option maxRecDepth 100000 in
theorem bitsFields_lifted (os : Os) (started : os.Started) (H : Type) (enc : TypeId × Value → H) :
    ReturnsInHanded {} Try.checked os 5 .any (Rows.bitsFieldsSpec.pre6 enc Try.prog Try.f5 Rows.bitsFieldsRow.domain false) (Rows.bitsFieldsSpec.post enc Try.prog Try.f5 false true false false) := by
  refine returnsInHanded_of_change (C := Try.checked) bitsFields_own started (by kernel_rfl) Try.func5
    (ChangeSpec.witness6 (enc := enc) (C := Try.checked) false ⟨#[], #[.slice none 0 0, .agg #[.int .u64 0, .int .i64 0, .int .i64 0]], []⟩ 8 (by kernel_rfl) (by kernel_rfl) (by kernel_rfl) (by kernel_rfl)) ?_
  intro W base args ds gs before hval hW hcnd _
  exact law_calls (bt := 4) (ss := fieldsSh) (by kernel_rfl) (by kernel_rfl) (by kernel_rfl) (by kernel_rfl) Try.underlying4 rfl
    (fun xs hx => by match xs, hx with | [_, _], _ => exact ⟨rfl, rfl, rfl⟩) (fun h vs hs => fields_sh hs) hval hW

/-- the given statement -/
theorem bitsFields_said : Rows.BitsFieldsSaid :=
  OpenClaim.holds_of_wide 5 Try.f5 rfl rfl rfl rfl rfl rfl rfl ⟨rfl, rfl, rfl, rfl, rfl⟩ rfl rfl rfl rfl rfl (by kernel_rfl) Try.func5 (by kernel_rfl)
    (of_decide_eq_true (by kernel_rfl)) (by unfold Func.isWrapper; first | (rw [if_pos (by decide +kernel)]; kernel_rfl) | (rw [if_neg (by decide +kernel)]; exact ⟨rfl, rfl⟩))
    (fun os started H enc _ => bitsFields_lifted os started H enc)
#print axioms bitsFields_said
end Go.Proofs.Ytkonlakldafbeaa
