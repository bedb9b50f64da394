/- CyclicsPrefix: whatever units are lost, no end fails, and what an end has accepted is the beginning of what the other one was given, which can retrieve the rest -/
import Derived.Test.YtkbpfebohpdgbaaRows
import Derived.Test.YtkbpfebohpdgbaaE6
import Derived.Test.YtkbpfebohpdgbaaAiY
set_option linter.unusedVariables false
namespace Go.Proofs.Ytkbpfebohpdgbaa
open Go Go.Ai Go.ChangeShapes Go.WideShapes Go.ChangeAt Go.RowKit

theorem cyclicsPrefix_own : ownKnob Try.prog.godebug = none := by kernel_rfl

set_option maxRecDepth 100000 in
theorem cyclicsPrefix_lifted (os : Os) (started : os.Started) (H : Type) (enc : TypeId × Value → H) :
    ReturnsInHanded {} Try.checked os 5 .any (Rows.cyclicsPrefixSpec.pre6 enc Try.prog Try.f5 Rows.cyclicsPrefixRow.domain false) (Rows.cyclicsPrefixSpec.post enc Try.prog Try.f5 false true false false) := by
  refine returnsInHanded_of_change (C := Try.checked) cyclicsPrefix_own started (by kernel_rfl) Try.func5
    (ChangeSpec.witness6 (enc := enc) (C := Try.checked) false ⟨#[], #[.agg #[.int .u8 0, .int .u16 0], .slice none 0 0], []⟩ 8 (by kernel_rfl) (by kernel_rfl) (by kernel_rfl) (by kernel_rfl)) ?_
  intro W base args ds gs before hval hW hcnd _
  exact law_calls (bt := 4) (ss := prefixSh) (by kernel_rfl) (by kernel_rfl) (by kernel_rfl) (by kernel_rfl) Try.underlying4 rfl
    (fun xs hx => by match xs, hx with | [_, _], _ => exact ⟨rfl, rfl, rfl⟩) (fun h vs hs => prefix_sh hs) hval hW

/-- the given statement -/
theorem cyclicsPrefix_said : Rows.CyclicsPrefixSaid :=
  OpenClaim.holds_of_wide 5 Try.f5 rfl rfl rfl rfl rfl rfl rfl ⟨rfl, rfl, rfl, rfl, rfl⟩ rfl rfl rfl rfl rfl (by kernel_rfl) Try.func5 (by kernel_rfl)
    (of_decide_eq_true (by kernel_rfl)) (by unfold Func.isWrapper; first | (rw [if_pos (by decide +kernel)]; kernel_rfl) | (rw [if_neg (by decide +kernel)]; exact ⟨rfl, rfl⟩))
    (fun os started H enc _ => cyclicsPrefix_lifted os started H enc)
#print axioms cyclicsPrefix_said
end Go.Proofs.Ytkbpfebohpdgbaa
