/- FramesErrors: Feed of a stream with an error reads nothing; a nil scanner and the zero one return ErrNil, and 0 and false. -/
import Derived.Test.YtimfgagdfmmeeaaDoorL0
import Derived.Test.YtimfgagdfmmeeaaDoorT10
set_option linter.unusedVariables false
namespace Go.Proofs.YtimfgagdfmmeeaaDoor
open Go Go.Ai Go.ChangeShapes Go.WideShapes Go.ChangeAt Go.RowKit

set_option maxRecDepth 100000 in
theorem framesErrors_lifted (os : Os) (started : os.Started) (H : Type) (enc : TypeId × Value → H) :
    ReturnsInHanded {} Tryd.checked os 7 .any (fun w args => (Rows.framesErrorsSpec.pre enc Tryd.prog Tryd.f7 Rows.framesErrorsRow.domain false w args ∧ laidMetH Tryd.prog seatLaid w) ∧ sizedMet enc Tryd.prog Tryd.f7 (OpenSpec.ofChange Rows.framesErrorsSpec) false w args) (Rows.framesErrorsSpec.post enc Tryd.prog Tryd.f7 false true false false) := by
  refine returnsInHanded_of_change_and (C := Tryd.checked) (X := fun w _ => laidMetH Tryd.prog seatLaid w) (fun _ _ _ hh h => h.of_heap hh) seat_own started (by kernel_rfl) Tryd.func7
    (ChangeSpec.witness_shaped (enc := enc) (C := Tryd.checked) (os := os) (X := fun w _ => laidMetH Tryd.prog seatLaid w) false (World.laidAll Tryd.prog os seatLaid) #[.string ByteArray.empty, .slice none 0 0] 8 (World.laidAll_os _ _ _)
      (World.shaped_of_ZipB (by kernel_rfl) (by kernel_rfl)) (by kernel_rfl) (by kernel_rfl) (by kernel_rfl)
      (by rw [MakeChecks.laidMetH_plain _ _ _ (by kernel_rfl)]; exact laidMet_laidAll _ (by kernel_rfl) (by kernel_rfl))) ?_
  intro W base args ds gs before hval hW hcnd _ hL _
  exact law_callsGN (bt := 4) (ss := errorsSh) (rows := flagV) (a := ⟨0, 0, none⟩) (u0 := .int .u8 0) (by kernel_rfl) (by kernel_rfl) (by kernel_rfl) (by kernel_rfl) Tryd.underlying4 rfl
    (fun xs hx => by match xs, hx with | [_, _], _ => exact ⟨rfl, rfl, rfl⟩) (fun h vs hF hs => errors_sh hF hs) hval rfl (flag_cell hL 0 (by decide)) (flag_rows hL) hW

theorem framesErrors_said : Rows.FramesErrorsSaid :=
  OpenClaim.holds_of_wide 7 Tryd.f7 rfl rfl rfl rfl rfl rfl rfl ⟨rfl, rfl, rfl, rfl, rfl⟩ rfl rfl rfl rfl rfl (by kernel_rfl) Tryd.func7 (by kernel_rfl)
    (of_decide_eq_true (by kernel_rfl)) (by unfold Func.isWrapper; first | (rw [if_pos (by decide +kernel)]; kernel_rfl) | (rw [if_neg (by decide +kernel)]; exact ⟨rfl, rfl⟩))
    (fun os started H enc _ => framesErrors_lifted os started H enc)
/-- the given statement -/
theorem framesErrors_card : Rows.FramesErrorsCardSaid :=
  Claim7.holds_tied_plain_at .later [] [.widerDeep] true (true, "b3eeff504112211adf37f63e1375820900c20b39bb8c3539fa24f031367d1bab") false
    framesErrors_said (fun _ h => by cases h) (by kernel_rfl) (fun _ h => by cases h) framesErrors_row_tie rfl ⟨rfl, rfl⟩ (by kernel_rfl) rfl
    (fun f fn hf hfn => by
      obtain rfl : f = 7 := Option.some.inj ((show Tryd.prog.funcNamed "pointcode/pointcodelaw02.FramesErrors" = some 7 by kernel_rfl).symm.trans hf) |>.symm
      obtain rfl : fn = Tryd.f7 := (Option.some.inj (Tryd.func7.symm.trans hfn)).symm
      exact ⟨by kernel_rfl, fun j t ht => by
        rw [Tryd.params7] at ht
        rcases j with _ | _ | j
        · have ht : t = 9 := by simpa using ht.symm
          subst ht; exact (show Tryd.prog.wantsStandIn 9 = false by kernel_rfl)
        · have ht : t = 22 := by simpa using ht.symm
          subst ht; exact (show Tryd.prog.wantsStandIn 22 = false by kernel_rfl)
        · simp at ht⟩)
    (by kernel_rfl)
#print axioms framesErrors_card
end Go.Proofs.YtimfgagdfmmeeaaDoor
