/- InvocationsKnown: The examples of the chapter; acts derived from a counter; a book that is full; results that are too long. -/
import Derived.Test.YtpbbmnfffolcoaaRows
import Derived.Test.YtpbbmnfffolcoaaK2
import Derived.Test.YtpbbmnfffolcoaaAiY
set_option linter.unusedVariables false
namespace Go.Proofs.Ytpbbmnfffolcoaa
open Go Go.Ai Go.ChangeShapes Go.WideShapes Go.ChangeAt Go.RowKit

theorem invocationsKnown_own : ownKnob Try.prog.godebug = none := by kernel_rfl

set_option maxRecDepth 100000 in
theorem invocationsKnown_lifted (os : Os) (started : os.Started) (H : Type) (enc : TypeId × Value → H) :
    ReturnsInHanded {} Try.checked os 6 .any (Rows.invocationsKnownSpec.pre6 enc Try.prog Try.f6 Rows.invocationsKnownRow.domain false) (Rows.invocationsKnownSpec.post enc Try.prog Try.f6 false true false false) := by
  refine returnsInHanded_of_change (C := Try.checked) invocationsKnown_own started (by kernel_rfl) Try.func6
    (ChangeSpec.witness6 (enc := enc) (C := Try.checked) false ⟨#[], #[], []⟩ 8 (by kernel_rfl) (by kernel_rfl) (by kernel_rfl) (by kernel_rfl)) ?_
  intro W base args ds gs before hval hW hcnd _
  exact law_calls (bt := 4) (ss := knownSh) (by kernel_rfl) (by kernel_rfl) (by kernel_rfl) (by kernel_rfl) Try.underlying4 rfl
    (fun xs hx => by match xs, hx with | [], _ => exact ⟨rfl, rfl, rfl⟩) (fun h vs hs => known_sh hs) hval hW

/-- the given statement -/
theorem invocationsKnown_said : Rows.InvocationsKnownSaid :=
  OpenClaim.holds_of_wide 6 Try.f6 rfl rfl rfl rfl rfl rfl rfl ⟨rfl, rfl, rfl, rfl, rfl⟩ rfl rfl rfl rfl rfl (by kernel_rfl) Try.func6 (by kernel_rfl)
    (of_decide_eq_true (by kernel_rfl)) (by unfold Func.isWrapper; first | (rw [if_pos (by decide +kernel)]; kernel_rfl) | (rw [if_neg (by decide +kernel)]; exact ⟨rfl, rfl⟩))
    (fun os started H enc _ => invocationsKnown_lifted os started H enc)
#print axioms invocationsKnown_said
end Go.Proofs.Ytpbbmnfffolcoaa
