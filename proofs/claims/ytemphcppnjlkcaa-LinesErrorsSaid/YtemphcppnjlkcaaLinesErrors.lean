/- LinesErrors: New and Send return the first error that applies; a nil line and the zero one return ErrNil, or nothing. Conditions: none; any delay, any disturbances, any bytes. -/
import Derived.Test.YtemphcppnjlkcaaRows
import Derived.Test.YtemphcppnjlkcaaM8
import Derived.Test.YtemphcppnjlkcaaAiY
set_option linter.unusedVariables false
namespace Go.Proofs.Ytemphcppnjlkcaa
open Go Go.Ai Go.ChangeShapes Go.WideShapes Go.ChangeAt Go.RowKit

theorem linesErrors_own : ownKnob Try.prog.godebug = none := by kernel_rfl

set_option maxRecDepth 100000 in
theorem linesErrors_lifted (os : Os) (started : os.Started) (H : Type) (enc : TypeId × Value → H) :
    ReturnsInHanded {} Try.checked os 7 .any (Rows.linesErrorsSpec.pre6 enc Try.prog Try.f7 Rows.linesErrorsRow.domain false) (Rows.linesErrorsSpec.post enc Try.prog Try.f7 false true false false) := by
  refine returnsInHanded_of_change (C := Try.checked) linesErrors_own started (by kernel_rfl) Try.func7
    (ChangeSpec.witness6 (enc := enc) (C := Try.checked) false ⟨#[], #[.int .i64 0, .slice none 0 0, .slice none 0 0], []⟩ 8 (by kernel_rfl) (by kernel_rfl) (by kernel_rfl) (by kernel_rfl)) ?_
  intro W base args ds gs before hval hW hcnd _
  exact law_calls (bt := 4) (ss := errorsSh) (by kernel_rfl) (by kernel_rfl) (by kernel_rfl) (by kernel_rfl) Try.underlying4 rfl
    (fun xs hx => by match xs, hx with | [_, _, _], _ => exact ⟨rfl, rfl, rfl⟩) (fun h vs hs => errors_law hs) hval hW

/-- the given statement -/
theorem linesErrors_said : Rows.LinesErrorsSaid :=
  OpenClaim.holds_of_wide 7 Try.f7 rfl rfl rfl rfl rfl rfl rfl ⟨rfl, rfl, rfl, rfl, rfl⟩ rfl rfl rfl rfl rfl (by kernel_rfl) Try.func7 (by kernel_rfl)
    (of_decide_eq_true (by kernel_rfl)) (by unfold Func.isWrapper; first | (rw [if_pos (by decide +kernel)]; kernel_rfl) | (rw [if_neg (by decide +kernel)]; exact ⟨rfl, rfl⟩))
    (fun os started H enc _ => linesErrors_lifted os started H enc)
#print axioms linesErrors_said
end Go.Proofs.Ytemphcppnjlkcaa
