/- CyclicsCycle: without answers an end sends its open loads in a cycle; loads told as taken drop out -/
import Derived.Test.YtkbpfebohpdgbaaRows
import Derived.Test.YtkbpfebohpdgbaaG4
import Derived.Test.YtkbpfebohpdgbaaAiY
set_option linter.unusedVariables false
namespace Go.Proofs.Ytkbpfebohpdgbaa
open Go Go.Ai Go.ChangeShapes Go.WideShapes Go.ChangeAt Go.RowKit

theorem cyclicsCycle_own : ownKnob Try.prog.godebug = none := by kernel_rfl

set_option maxRecDepth 100000 in
theorem cyclicsCycle_lifted (os : Os) (started : os.Started) (H : Type) (enc : TypeId × Value → H) :
    ReturnsInHanded {} Try.checked os 3 .any (Rows.cyclicsCycleSpec.pre6 enc Try.prog Try.f3 Rows.cyclicsCycleRow.domain false) (Rows.cyclicsCycleSpec.post enc Try.prog Try.f3 false true false false) := by
  refine returnsInHanded_of_change (C := Try.checked) cyclicsCycle_own started (by kernel_rfl) Try.func3
    (ChangeSpec.witness6 (enc := enc) (C := Try.checked) false ⟨#[], #[.int .u8 0, .int .u8 0, .int .u8 0], []⟩ 8 (by kernel_rfl) (by kernel_rfl) (by kernel_rfl) (by kernel_rfl)) ?_
  intro W base args ds gs before hval hW hcnd _
  exact law_calls (bt := 4) (ss := cycleSh) (by kernel_rfl) (by kernel_rfl) (by kernel_rfl) (by kernel_rfl) Try.underlying4 rfl
    (fun xs hx => by match xs, hx with | [_, _, _], _ => exact ⟨rfl, rfl, rfl⟩) (fun h vs hs => cycle_sh hs) hval hW

/-- the given statement -/
theorem cyclicsCycle_said : Rows.CyclicsCycleSaid :=
  OpenClaim.holds_of_wide 3 Try.f3 rfl rfl rfl rfl rfl rfl rfl ⟨rfl, rfl, rfl, rfl, rfl⟩ rfl rfl rfl rfl rfl (by kernel_rfl) Try.func3 (by kernel_rfl)
    (of_decide_eq_true (by kernel_rfl)) (by unfold Func.isWrapper; first | (rw [if_pos (by decide +kernel)]; kernel_rfl) | (rw [if_neg (by decide +kernel)]; exact ⟨rfl, rfl⟩))
    (fun os started H enc _ => cyclicsCycle_lifted os started H enc)
#print axioms cyclicsCycle_said
end Go.Proofs.Ytkbpfebohpdgbaa
