/- LinesClean: without disturbances, a burst is taken unchanged after exactly the delay, and not before. Conditions: none; any delay byte, any text. -/
import Derived.Test.YtemphcppnjlkcaaRows
import Derived.Test.YtemphcppnjlkcaaL8
import Derived.Test.YtemphcppnjlkcaaAiY
set_option linter.unusedVariables false
namespace Go.Proofs.Ytemphcppnjlkcaa
open Go Go.Ai Go.ChangeShapes Go.WideShapes Go.ChangeAt Go.RowKit

theorem linesClean_own : ownKnob Try.prog.godebug = none := by kernel_rfl

set_option maxRecDepth 100000 in
theorem linesClean_lifted (os : Os) (started : os.Started) (H : Type) (enc : TypeId × Value → H) :
    ReturnsInHanded {} Try.checked os 5 .any (Rows.linesCleanSpec.pre6 enc Try.prog Try.f5 Rows.linesCleanRow.domain false) (Rows.linesCleanSpec.post enc Try.prog Try.f5 false true false false) := by
  refine returnsInHanded_of_change (C := Try.checked) linesClean_own started (by kernel_rfl) Try.func5
    (ChangeSpec.witness6 (enc := enc) (C := Try.checked) false ⟨#[], #[.int .u8 0, .string ⟨#[]⟩], []⟩ 8 (by kernel_rfl) (by kernel_rfl) (by kernel_rfl) (by kernel_rfl)) ?_
  intro W base args ds gs before hval hW hcnd _
  exact law_calls (bt := 4) (ss := cleanSh) (by kernel_rfl) (by kernel_rfl) (by kernel_rfl) (by kernel_rfl) Try.underlying4 rfl
    (fun xs hx => by match xs, hx with | [_, _], _ => exact ⟨rfl, rfl, rfl⟩) (fun h vs hs => clean_law hs) hval hW

/-- the given statement -/
theorem linesClean_said : Rows.LinesCleanSaid :=
  OpenClaim.holds_of_wide 5 Try.f5 rfl rfl rfl rfl rfl rfl rfl ⟨rfl, rfl, rfl, rfl, rfl⟩ rfl rfl rfl rfl rfl (by kernel_rfl) Try.func5 (by kernel_rfl)
    (of_decide_eq_true (by kernel_rfl)) (by unfold Func.isWrapper; first | (rw [if_pos (by decide +kernel)]; kernel_rfl) | (rw [if_neg (by decide +kernel)]; exact ⟨rfl, rfl⟩))
    (fun os started H enc _ => linesClean_lifted os started H enc)
#print axioms linesClean_said
end Go.Proofs.Ytemphcppnjlkcaa
