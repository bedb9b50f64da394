/- CyclicsRest: once no unit is lost, all that was given is taken, and no end waits -/
import Derived.Test.YtkbpfebohpdgbaaRows
import Derived.Test.YtkbpfebohpdgbaaR2
import Derived.Test.YtkbpfebohpdgbaaAiY
set_option linter.unusedVariables false
namespace Go.Proofs.Ytkbpfebohpdgbaa
open Go Go.Ai Go.ChangeShapes Go.WideShapes Go.ChangeAt Go.RowKit

theorem cyclicsRest_own : ownKnob Try.prog.godebug = none := by kernel_rfl

set_option maxRecDepth 100000 in
theorem cyclicsRest_lifted (os : Os) (started : os.Started) (H : Type) (enc : TypeId × Value → H) :
    ReturnsInHanded {} Try.checked os 6 .any (Rows.cyclicsRestSpec.pre6 enc Try.prog Try.f6 Rows.cyclicsRestRow.domain false) (Rows.cyclicsRestSpec.post enc Try.prog Try.f6 false true false false) := by
  refine returnsInHanded_of_change (C := Try.checked) cyclicsRest_own started (by kernel_rfl) Try.func6
    (ChangeSpec.witness6 (enc := enc) (C := Try.checked) false ⟨#[], #[.agg #[.int .u8 0, .int .u16 0], .slice none 0 0], []⟩ 8 (by kernel_rfl) (by kernel_rfl) (by kernel_rfl) (by kernel_rfl)) ?_
  intro W base args ds gs before hval hW hcnd _
  exact law_calls (bt := 4) (ss := restSh) (by kernel_rfl) (by kernel_rfl) (by kernel_rfl) (by kernel_rfl) Try.underlying4 rfl
    (fun xs hx => by match xs, hx with | [_, _], _ => exact ⟨rfl, rfl, rfl⟩) (fun h vs hs => rest_sh hs) hval hW

/-- the given statement -/
theorem cyclicsRest_said : Rows.CyclicsRestSaid :=
  OpenClaim.holds_of_wide 6 Try.f6 rfl rfl rfl rfl rfl rfl rfl ⟨rfl, rfl, rfl, rfl, rfl⟩ rfl rfl rfl rfl rfl (by kernel_rfl) Try.func6 (by kernel_rfl)
    (of_decide_eq_true (by kernel_rfl)) (by unfold Func.isWrapper; first | (rw [if_pos (by decide +kernel)]; kernel_rfl) | (rw [if_neg (by decide +kernel)]; exact ⟨rfl, rfl⟩))
    (fun os started H enc _ => cyclicsRest_lifted os started H enc)
#print axioms cyclicsRest_said
end Go.Proofs.Ytkbpfebohpdgbaa
