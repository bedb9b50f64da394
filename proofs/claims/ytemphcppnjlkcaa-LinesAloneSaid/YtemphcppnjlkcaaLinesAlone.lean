/- LinesAlone: a disturbance changes nothing about other bursts -/
import Derived.Test.YtemphcppnjlkcaaRows
import Derived.Test.YtemphcppnjlkcaaA2
import Derived.Test.YtemphcppnjlkcaaAiY
set_option linter.unusedVariables false
namespace Go.Proofs.Ytemphcppnjlkcaa
open Go Go.Ai Go.ChangeShapes Go.WideShapes Go.ChangeAt Go.RowKit

theorem linesAlone_own : ownKnob Try.prog.godebug = none := by kernel_rfl

set_option maxRecDepth 100000 in
theorem linesAlone_lifted (os : Os) (started : os.Started) (H : Type) (enc : TypeId × Value → H) :
    ReturnsInHanded {} Try.checked os 6 .any (Rows.linesAloneSpec.pre6 enc Try.prog Try.f6 Rows.linesAloneRow.domain false) (Rows.linesAloneSpec.post enc Try.prog Try.f6 false true false false) := by
  refine returnsInHanded_of_change (C := Try.checked) linesAlone_own started (by kernel_rfl) Try.func6
    (ChangeSpec.witness6 (enc := enc) (C := Try.checked) false ⟨#[], #[.agg #[.int .u8 0, .slice none 0 0], .agg #[.int .u8 0, .int .u8 0, .int .u16 0], .slice none 0 0], []⟩ 8 (by kernel_rfl) (by kernel_rfl) (by kernel_rfl) (by kernel_rfl)) ?_
  intro W base args ds gs before hval hW hcnd _
  exact law_calls (bt := 4) (ss := aloneSh) (by kernel_rfl) (by kernel_rfl) (by kernel_rfl) (by kernel_rfl) Try.underlying4 rfl
    (fun xs hx => by match xs, hx with | [_, _, _], _ => exact ⟨rfl, rfl, rfl⟩) (fun h vs hs => alone_law hs) hval hW

/-- the given statement -/
theorem linesAlone_said : Rows.LinesAloneSaid :=
  OpenClaim.holds_of_wide 6 Try.f6 rfl rfl rfl rfl rfl rfl rfl ⟨rfl, rfl, rfl, rfl, rfl⟩ rfl rfl rfl rfl rfl (by kernel_rfl) Try.func6 (by kernel_rfl)
    (of_decide_eq_true (by kernel_rfl)) (by unfold Func.isWrapper; first | (rw [if_pos (by decide +kernel)]; kernel_rfl) | (rw [if_neg (by decide +kernel)]; exact ⟨rfl, rfl⟩))
    (fun os started H enc _ => linesAlone_lifted os started H enc)
#print axioms linesAlone_said
end Go.Proofs.Ytemphcppnjlkcaa
