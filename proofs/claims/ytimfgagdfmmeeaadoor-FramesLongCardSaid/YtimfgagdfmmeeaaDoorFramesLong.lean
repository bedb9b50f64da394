/- FramesLong: contents of MaxFrame octets are found, longer ones are errors, also if they are much longer; stuffing beyond MaxBits is ErrLimit. -/
import Derived.Test.YtimfgagdfmmeeaaDoorL0
import Derived.Test.YtimfgagdfmmeeaaDoorT14
set_option linter.unusedVariables false
namespace Go.Proofs.YtimfgagdfmmeeaaDoor
open Go Go.Ai Go.ChangeShapes Go.WideShapes Go.ChangeAt Go.RowKit

set_option maxRecDepth 100000 in
theorem framesLong_lifted (os : Os) (started : os.Started) (H : Type) (enc : TypeId × Value → H) :
    ReturnsInHanded {} Tryd.checked os 8 .any (fun w args => (Rows.framesLongSpec.pre enc Tryd.prog Tryd.f8 Rows.framesLongRow.domain false w args ∧ laidMetH Tryd.prog seatLaid w) ∧ sizedMet enc Tryd.prog Tryd.f8 (OpenSpec.ofChange Rows.framesLongSpec) false w args) (Rows.framesLongSpec.post enc Tryd.prog Tryd.f8 false true false false) := by
  refine returnsInHanded_of_change_and (C := Tryd.checked) (X := fun w _ => laidMetH Tryd.prog seatLaid w) (fun _ _ _ hh h => h.of_heap hh) seat_own started (by kernel_rfl) Tryd.func8
    (ChangeSpec.witness_shaped (enc := enc) (C := Tryd.checked) (os := os) (X := fun w _ => laidMetH Tryd.prog seatLaid w) false (World.laidAll Tryd.prog os seatLaid) #[.int .u8 0, .int .u16 0] 8 (World.laidAll_os _ _ _)
      (World.shaped_of_ZipB (by kernel_rfl) (by kernel_rfl)) (by kernel_rfl) (by kernel_rfl) (by kernel_rfl)
      (by rw [MakeChecks.laidMetH_plain _ _ _ (by kernel_rfl)]; exact laidMet_laidAll _ (by kernel_rfl) (by kernel_rfl))) ?_
  intro W base args ds gs before hval hW hcnd _ hL _
  exact law_callsGN (bt := 4) (ss := longSh) (rows := flagV) (a := ⟨0, 0, none⟩) (u0 := .int .u8 0) (by kernel_rfl) (by kernel_rfl) (by kernel_rfl) (by kernel_rfl) Tryd.underlying4 rfl
    (fun xs hx => by match xs, hx with | [_, _], _ => exact ⟨rfl, rfl, rfl⟩) (fun h vs hF hs => long_sh hF hs) hval rfl (flag_cell hL 0 (by decide)) (flag_rows hL) hW

theorem framesLong_said : Rows.FramesLongSaid :=
  OpenClaim.holds_of_wide 8 Tryd.f8 rfl rfl rfl rfl rfl rfl rfl ⟨rfl, rfl, rfl, rfl, rfl⟩ rfl rfl rfl rfl rfl (by kernel_rfl) Tryd.func8 (by kernel_rfl)
    (of_decide_eq_true (by kernel_rfl)) (by unfold Func.isWrapper; first | (rw [if_pos (by decide +kernel)]; kernel_rfl) | (rw [if_neg (by decide +kernel)]; exact ⟨rfl, rfl⟩))
    (fun os started H enc _ => framesLong_lifted os started H enc)
/-- the given statement -/
theorem framesLong_card : Rows.FramesLongCardSaid :=
  Claim7.holds_tied_plain_at .later [] [.widerDeep] true (true, "b3eeff504112211adf37f63e1375820900c20b39bb8c3539fa24f031367d1bab") false
    framesLong_said (fun _ h => by cases h) (by kernel_rfl) (fun _ h => by cases h) framesLong_row_tie rfl ⟨rfl, rfl⟩ (by kernel_rfl) rfl
    (fun f fn hf hfn => by
      obtain rfl : f = 8 := Option.some.inj ((show Tryd.prog.funcNamed "pointcode/pointcodelaw02.FramesLong" = some 8 by kernel_rfl).symm.trans hf) |>.symm
      obtain rfl : fn = Tryd.f8 := (Option.some.inj (Tryd.func8.symm.trans hfn)).symm
      exact ⟨by kernel_rfl, fun j t ht => by
        rw [Tryd.params8] at ht
        rcases j with _ | _ | j
        · have ht : t = 5 := by simpa using ht.symm
          subst ht; exact (show Tryd.prog.wantsStandIn 5 = false by kernel_rfl)
        · have ht : t = 27 := by simpa using ht.symm
          subst ht; exact (show Tryd.prog.wantsStandIn 27 = false by kernel_rfl)
        · simp at ht⟩)
    (by kernel_rfl)
#print axioms framesLong_card
end Go.Proofs.YtimfgagdfmmeeaaDoor
