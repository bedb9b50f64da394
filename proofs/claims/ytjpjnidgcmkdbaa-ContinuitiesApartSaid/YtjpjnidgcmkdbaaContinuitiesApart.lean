/- ContinuitiesApart: acts on one circuit leave all others unchanged. Conditions: none; every end of 2 to 5 circuits, any acts. -/
import Derived.Test.YtjpjnidgcmkdbaaRows
import Derived.Test.YtjpjnidgcmkdbaaT12
import Derived.Test.YtjpjnidgcmkdbaaAiY
set_option linter.unusedVariables false
namespace Go.Proofs.Ytjpjnidgcmkdbaa
open Go Go.Ai Go.ChangeShapes Go.WideShapes Go.ChangeAt Go.RowKit

theorem continuitiesApart_own : ownKnob Try.prog.godebug = none := by kernel_rfl

set_option maxRecDepth 100000 in
theorem continuitiesApart_lifted (os : Os) (started : os.Started) (H : Type) (enc : TypeId × Value → H) :
    ReturnsInHanded {} Try.checked os 5 .any (Rows.continuitiesApartSpec.pre6 enc Try.prog Try.f5 Rows.continuitiesApartRow.domain false) (Rows.continuitiesApartSpec.post enc Try.prog Try.f5 false true false false) := by
  refine returnsInHanded_of_change (C := Try.checked) continuitiesApart_own started (by kernel_rfl) Try.func5
    (ChangeSpec.witness6 (enc := enc) (C := Try.checked) false ⟨#[], #[.int .u8 0, .slice none 0 0, .agg #[.int .u8 0, .int .i8 0, .bool false]], []⟩ 8 (by kernel_rfl) (by kernel_rfl) (by kernel_rfl) (by kernel_rfl)) ?_
  intro W base args ds gs before hval hW hcnd _
  exact law_calls (bt := 4) (ss := apartSh) (by kernel_rfl) (by kernel_rfl) (by kernel_rfl) (by kernel_rfl) Try.underlying4 rfl
    (fun xs hx => by match xs, hx with | [_, _, _], _ => exact ⟨rfl, rfl, rfl⟩) (fun h vs hs => apart_law hs) hval hW

/-- the given statement -/
theorem continuitiesApart_said : Rows.ContinuitiesApartSaid :=
  OpenClaim.holds_of_wide 5 Try.f5 rfl rfl rfl rfl rfl rfl rfl ⟨rfl, rfl, rfl, rfl, rfl⟩ rfl rfl rfl rfl rfl (by kernel_rfl) Try.func5 (by kernel_rfl)
    (of_decide_eq_true (by kernel_rfl)) (by unfold Func.isWrapper; first | (rw [if_pos (by decide +kernel)]; kernel_rfl) | (rw [if_neg (by decide +kernel)]; exact ⟨rfl, rfl⟩))
    (fun os started H enc _ => continuitiesApart_lifted os started H enc)
#print axioms continuitiesApart_said
end Go.Proofs.Ytjpjnidgcmkdbaa
