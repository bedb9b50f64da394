/- LinesFull: at most MaxBits bits wait; what would exceed that is refused, and nothing changes. Conditions: none; any size of a first burst, and by how much the second one is too long. -/
import Derived.Test.YtemphcppnjlkcaaRows
import Derived.Test.YtemphcppnjlkcaaL9
import Derived.Test.YtemphcppnjlkcaaAiY
set_option linter.unusedVariables false
namespace Go.Proofs.Ytemphcppnjlkcaa
open Go Go.Ai Go.ChangeShapes Go.WideShapes Go.ChangeAt Go.RowKit

theorem linesFull_own : ownKnob Try.prog.godebug = none := by kernel_rfl

set_option maxRecDepth 100000 in
theorem linesFull_lifted (os : Os) (started : os.Started) (H : Type) (enc : TypeId × Value → H) :
    ReturnsInHanded {} Try.checked os 8 .any (Rows.linesFullSpec.pre6 enc Try.prog Try.f8 Rows.linesFullRow.domain false) (Rows.linesFullSpec.post enc Try.prog Try.f8 false true false false) := by
  refine returnsInHanded_of_change (C := Try.checked) linesFull_own started (by kernel_rfl) Try.func8
    (ChangeSpec.witness6 (enc := enc) (C := Try.checked) false ⟨#[], #[.int .u16 0, .int .u8 0], []⟩ 8 (by kernel_rfl) (by kernel_rfl) (by kernel_rfl) (by kernel_rfl)) ?_
  intro W base args ds gs before hval hW hcnd _
  exact law_calls (bt := 4) (ss := fullSh) (by kernel_rfl) (by kernel_rfl) (by kernel_rfl) (by kernel_rfl) Try.underlying4 rfl
    (fun xs hx => by match xs, hx with | [_, _], _ => exact ⟨rfl, rfl, rfl⟩) (fun h vs hs => full_law hs) hval hW

/-- the given statement -/
theorem linesFull_said : Rows.LinesFullSaid :=
  OpenClaim.holds_of_wide 8 Try.f8 rfl rfl rfl rfl rfl rfl rfl ⟨rfl, rfl, rfl, rfl, rfl⟩ rfl rfl rfl rfl rfl (by kernel_rfl) Try.func8 (by kernel_rfl)
    (of_decide_eq_true (by kernel_rfl)) (by unfold Func.isWrapper; first | (rw [if_pos (by decide +kernel)]; kernel_rfl) | (rw [if_neg (by decide +kernel)]; exact ⟨rfl, rfl⟩))
    (fun os started H enc _ => linesFull_lifted os started H enc)
#print axioms linesFull_said
end Go.Proofs.Ytemphcppnjlkcaa
