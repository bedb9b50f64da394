/- ChangesBoth: what has arrived at the other end, and what Told returns for its last number, are together exactly what was sent. Conditions: none; any numbers. -/
import Derived.Test.YtjhpohgghbimcaaRows
import Derived.Test.YtjhpohgghbimcaaT19
import Derived.Test.YtjhpohgghbimcaaAiY
set_option linter.unusedVariables false
namespace Go.Proofs.Ytjhpohgghbimcaa
open Go Go.Ai Go.ChangeShapes Go.WideShapes Go.ChangeAt Go.RowKit

theorem changesBoth_own : ownKnob Try.prog.godebug = none := by kernel_rfl

set_option maxRecDepth 100000 in
theorem changesBoth_lifted (os : Os) (started : os.Started) (H : Type) (enc : TypeId × Value → H) :
    ReturnsInHanded {} Try.checked os 5 .any (Rows.changesBothSpec.pre6 enc Try.prog Try.f5 Rows.changesBothRow.domain false) (Rows.changesBothSpec.post enc Try.prog Try.f5 false true false false) := by
  refine returnsInHanded_of_change (C := Try.checked) changesBoth_own started (by kernel_rfl) Try.func5
    (ChangeSpec.witness6 (enc := enc) (C := Try.checked) false ⟨#[], #[.agg #[.int .u16 0, .int .u16 0], .agg #[.int .u16 0, .int .u16 0], .agg #[.int .u16 0, .int .u16 0]], []⟩ 8 (by kernel_rfl) (by kernel_rfl) (by kernel_rfl) (by kernel_rfl)) ?_
  intro W base args ds gs before hval hW hcnd _
  exact law_calls (bt := 4) (ss := bothSh) (by kernel_rfl) (by kernel_rfl) (by kernel_rfl) (by kernel_rfl) Try.underlying4 rfl
    (fun xs hx => by match xs, hx with | [_, _, _], _ => exact ⟨rfl, rfl, rfl⟩) (fun h vs hs => both_law hs) hval hW

/-- the given statement -/
theorem changesBoth_said : Rows.ChangesBothSaid :=
  OpenClaim.holds_of_wide 5 Try.f5 rfl rfl rfl rfl rfl rfl rfl ⟨rfl, rfl, rfl, rfl, rfl⟩ rfl rfl rfl rfl rfl (by kernel_rfl) Try.func5 (by kernel_rfl)
    (of_decide_eq_true (by kernel_rfl)) (by unfold Func.isWrapper; first | (rw [if_pos (by decide +kernel)]; kernel_rfl) | (rw [if_neg (by decide +kernel)]; exact ⟨rfl, rfl⟩))
    (fun os started H enc _ => changesBoth_lifted os started H enc)
#print axioms changesBoth_said
end Go.Proofs.Ytjhpohgghbimcaa
