/- ContinuitiesLoops: if two ends hear each other in order, and only the first one tests, then, when everything has been heard, exactly the circuits are looped at the second end that are Asking or Testing at the first one -/
import Derived.Test.YtjpjnidgcmkdbaaRows
import Derived.Test.YtjpjnidgcmkdbaaN4
import Derived.Test.YtjpjnidgcmkdbaaAiY
set_option linter.unusedVariables false
namespace Go.Proofs.Ytjpjnidgcmkdbaa
open Go Go.Ai Go.ChangeShapes Go.WideShapes Go.ChangeAt Go.RowKit

theorem continuitiesLoops_own : ownKnob Try.prog.godebug = none := by kernel_rfl

set_option maxRecDepth 100000 in
theorem continuitiesLoops_lifted (os : Os) (started : os.Started) (H : Type) (enc : TypeId × Value → H) :
    ReturnsInHanded {} Try.checked os 3 .any (Rows.continuitiesLoopsSpec.pre6 enc Try.prog Try.f3 Rows.continuitiesLoopsRow.domain false) (Rows.continuitiesLoopsSpec.post enc Try.prog Try.f3 false true false false) := by
  refine returnsInHanded_of_change (C := Try.checked) continuitiesLoops_own started (by kernel_rfl) Try.func3
    (ChangeSpec.witness6 (enc := enc) (C := Try.checked) false ⟨#[], #[.int .u8 0, .agg #[.int .u8 0, .int .u8 0, .int .u8 0], .slice none 0 0], []⟩ 8 (by kernel_rfl) (by kernel_rfl) (by kernel_rfl) (by kernel_rfl)) ?_
  intro W base args ds gs before hval hW hcnd _
  exact law_calls (bt := 4) (ss := loopsSh) (by kernel_rfl) (by kernel_rfl) (by kernel_rfl) (by kernel_rfl) Try.underlying4 rfl
    (fun xs hx => by match xs, hx with | [_, _, _], _ => exact ⟨rfl, rfl, rfl⟩) (fun h vs hs => loops_law hs) hval hW

/-- the given statement -/
theorem continuitiesLoops_said : Rows.ContinuitiesLoopsSaid :=
  OpenClaim.holds_of_wide 3 Try.f3 rfl rfl rfl rfl rfl rfl rfl ⟨rfl, rfl, rfl, rfl, rfl⟩ rfl rfl rfl rfl rfl (by kernel_rfl) Try.func3 (by kernel_rfl)
    (of_decide_eq_true (by kernel_rfl)) (by unfold Func.isWrapper; first | (rw [if_pos (by decide +kernel)]; kernel_rfl) | (rw [if_neg (by decide +kernel)]; exact ⟨rfl, rfl⟩))
    (fun os started H enc _ => continuitiesLoops_lifted os started H enc)
#print axioms continuitiesLoops_said
end Go.Proofs.Ytjpjnidgcmkdbaa
