/- CyclicsScript: after every act of a script, an end has done what the chapter says -/
import Derived.Test.YtkbpfebohpdgbaaRows
import Derived.Test.YtkbpfebohpdgbaaS6
import Derived.Test.YtkbpfebohpdgbaaAiYn
set_option linter.unusedVariables false
namespace Go.Proofs.Ytkbpfebohpdgbaa
open Go Go.Ai Go.ChangeShapes Go.WideShapes Go.ChangeAt Go.RowKit

theorem cyclicsScript_own : ownKnob Try.prog.godebug = none := by kernel_rfl

set_option maxRecDepth 100000 in
theorem cyclicsScript_lifted (os : Os) (started : os.Started) (H : Type) (enc : TypeId × Value → H) :
    ReturnsInHanded {} Try.checked os 8 .any (Rows.cyclicsScriptSpec.pre6 enc Try.prog Try.f8 Rows.cyclicsScriptRow.domain false) (Rows.cyclicsScriptSpec.post enc Try.prog Try.f8 false true false false) := by
  refine returnsInHanded_of_change (C := Try.checked) cyclicsScript_own started (by kernel_rfl) Try.func8
    (ChangeSpec.witness6 (enc := enc) (C := Try.checked) false ⟨#[], #[.agg #[.int .u8 0, .int .u16 0], .slice none 0 0], []⟩ 8 (by kernel_rfl) (by kernel_rfl) (by kernel_rfl) (by kernel_rfl)) ?_
  intro W base args ds gs before hval hW hcnd _
  exact law_callsN (bt := 4) (ss := scriptSh) (by kernel_rfl) (by kernel_rfl) (by kernel_rfl) (by kernel_rfl) Try.underlying4 rfl
    (fun xs hx => by match xs, hx with | [_, _], _ => exact ⟨rfl, rfl, rfl⟩) (fun h vs hs => script_sh hs) hval hW

/-- the given statement -/
theorem cyclicsScript_said : Rows.CyclicsScriptSaid :=
  OpenClaim.holds_of_wide 8 Try.f8 rfl rfl rfl rfl rfl rfl rfl ⟨rfl, rfl, rfl, rfl, rfl⟩ rfl rfl rfl rfl rfl (by kernel_rfl) Try.func8 (by kernel_rfl)
    (of_decide_eq_true (by kernel_rfl)) (by unfold Func.isWrapper; first | (rw [if_pos (by decide +kernel)]; kernel_rfl) | (rw [if_neg (by decide +kernel)]; exact ⟨rfl, rfl⟩))
    (fun os started H enc _ => cyclicsScript_lifted os started H enc)
#print axioms cyclicsScript_said
end Go.Proofs.Ytkbpfebohpdgbaa
