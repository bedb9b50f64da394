/- ContinuitiesNew: New accepts exactly 1 to 256 circuits with positive options; nil and zero ends do nothing. Conditions: none; every number and options. -/
import Derived.Test.YtjpjnidgcmkdbaaRows
import Derived.Test.YtjpjnidgcmkdbaaT6
import Derived.Test.YtjpjnidgcmkdbaaAiY
set_option linter.unusedVariables false
namespace Go.Proofs.Ytjpjnidgcmkdbaa
open Go Go.Ai Go.ChangeShapes Go.WideShapes Go.ChangeAt Go.RowKit

theorem continuitiesNew_own : ownKnob Try.prog.godebug = none := by kernel_rfl

set_option maxRecDepth 100000 in
theorem continuitiesNew_lifted (os : Os) (started : os.Started) (H : Type) (enc : TypeId × Value → H) :
    ReturnsInHanded {} Try.checked os 4 .any (Rows.continuitiesNewSpec.pre6 enc Try.prog Try.f4 Rows.continuitiesNewRow.domain false) (Rows.continuitiesNewSpec.post enc Try.prog Try.f4 false true false false) := by
  refine returnsInHanded_of_change (C := Try.checked) continuitiesNew_own started (by kernel_rfl) Try.func4
    (ChangeSpec.witness6 (enc := enc) (C := Try.checked) false ⟨#[], #[.int .i64 0, .agg #[.int .i64 0, .int .i64 0, .int .i64 0], .int .i64 0], []⟩ 8 (by kernel_rfl) (by kernel_rfl) (by kernel_rfl) (by kernel_rfl)) ?_
  intro W base args ds gs before hval hW hcnd _
  exact law_calls (bt := 4) (ss := newSh) (by kernel_rfl) (by kernel_rfl) (by kernel_rfl) (by kernel_rfl) Try.underlying4 rfl
    (fun xs hx => by match xs, hx with | [_, _, _], _ => exact ⟨rfl, rfl, rfl⟩) (fun h vs hs => new_law hs) hval hW

/-- the given statement -/
theorem continuitiesNew_said : Rows.ContinuitiesNewSaid :=
  OpenClaim.holds_of_wide 4 Try.f4 rfl rfl rfl rfl rfl rfl rfl ⟨rfl, rfl, rfl, rfl, rfl⟩ rfl rfl rfl rfl rfl (by kernel_rfl) Try.func4 (by kernel_rfl)
    (of_decide_eq_true (by kernel_rfl)) (by unfold Func.isWrapper; first | (rw [if_pos (by decide +kernel)]; kernel_rfl) | (rw [if_neg (by decide +kernel)]; exact ⟨rfl, rfl⟩))
    (fun os started H enc _ => continuitiesNew_lifted os started H enc)
#print axioms continuitiesNew_said
end Go.Proofs.Ytjpjnidgcmkdbaa
