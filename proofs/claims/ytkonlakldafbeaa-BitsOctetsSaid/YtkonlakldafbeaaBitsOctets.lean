/- BitsOctets: for any octets, Of agrees with the reference, and for any bytes as a stream, Octets does; the arguments do not change. Conditions: none; any bytes. -/
import Derived.Test.YtkonlakldafbeaaRows
import Derived.Test.YtkonlakldafbeaaC1
import Derived.Test.YtkonlakldafbeaaAiY
set_option linter.unusedVariables false
namespace Go.Proofs.Ytkonlakldafbeaa
open Go Go.Ai Go.ChangeShapes Go.WideShapes Go.ChangeAt Go.RowKit

theorem bitsOctets_own : ownKnob Try.prog.godebug = none := by kernel_rfl

set_option maxRecDepth 100000 in
theorem bitsOctets_lifted (os : Os) (started : os.Started) (H : Type) (enc : TypeId × Value → H) :
    ReturnsInHanded {} Try.checked os 3 .any (Rows.bitsOctetsSpec.pre6 enc Try.prog Try.f3 Rows.bitsOctetsRow.domain false) (Rows.bitsOctetsSpec.post enc Try.prog Try.f3 false true false false) := by
  refine returnsInHanded_of_change (C := Try.checked) bitsOctets_own started (by kernel_rfl) Try.func3
    (ChangeSpec.witness6 (enc := enc) (C := Try.checked) false ⟨#[], #[.slice none 0 0, .slice none 0 0], []⟩ 8 (by kernel_rfl) (by kernel_rfl) (by kernel_rfl) (by kernel_rfl)) ?_
  intro W base args ds gs before hval hW hcnd _
  exact law_calls (bt := 4) (ss := octetsSh) (by kernel_rfl) (by kernel_rfl) (by kernel_rfl) (by kernel_rfl) Try.underlying4 rfl
    (fun xs hx => by match xs, hx with | [_, _], _ => exact ⟨rfl, rfl, rfl⟩) (fun h vs hs => octets_sh hs) hval hW

/-- the given statement -/
theorem bitsOctets_said : Rows.BitsOctetsSaid :=
  OpenClaim.holds_of_wide 3 Try.f3 rfl rfl rfl rfl rfl rfl rfl ⟨rfl, rfl, rfl, rfl, rfl⟩ rfl rfl rfl rfl rfl (by kernel_rfl) Try.func3 (by kernel_rfl)
    (of_decide_eq_true (by kernel_rfl)) (by unfold Func.isWrapper; first | (rw [if_pos (by decide +kernel)]; kernel_rfl) | (rw [if_neg (by decide +kernel)]; exact ⟨rfl, rfl⟩))
    (fun os started H enc _ => bitsOctets_lifted os started H enc)
#print axioms bitsOctets_said
end Go.Proofs.Ytkonlakldafbeaa
