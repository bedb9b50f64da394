/-
  DERIVED. GIVEN WITH THE SEED: THE CARDS: each row of YtimfgagdfmmeeaaDoorRows.lean that lists a variable, with what it lists TIED to the program's text (the seventh form; the later family's looks); each row that meets fmt, with fmt's text TOLD by the authors' own Lean function (tested against real Go, not proved from fmt's source: count such statements apart). THE CARD IS WHAT COUNTS. Prove the row's statement (the work); the ties are given (YtimfgagdfmmeeaaDoorTie.lean); close each card by the builder's one call (the guide's Derived/Test/ToyasCard.lean, 'card_holds'). Laid BY PROGRAM, IN A SANDBOX (cutbox-door.mjs). By AI agents, Wed Nov 11 2026. No macro, syntax, notation, axiom, sorry.
-/
import Derived.Test.YtimfgagdfmmeeaaDoorRows
import GoSem.ClaimSeven
namespace Go.Proofs.YtimfgagdfmmeeaaDoor
namespace Rows

/-- THE TIED CARD OF 'pointcodelaw02.FramesJoin'. -/
def framesJoinCard : Claim7 := { stood := { row := framesJoinRow, standIns := [], harness := (true, "b3eeff504112211adf37f63e1375820900c20b39bb8c3539fa24f031367d1bab"), looks := false }, kinds := [], alts := [], laidByText := true, laidKinds := [.widerDeep], laidTests := true, laidLooks := .later }
def FramesJoinCardSaid : Prop := Claim7.holds Tryd.pinned (.plain (OpenSpec.ofChange framesJoinSpec)) framesJoinCard

/-- THE TIED CARD OF 'pointcodelaw02.FramesScan'. -/
def framesScanCard : Claim7 := { stood := { row := framesScanRow, standIns := [], harness := (true, "b3eeff504112211adf37f63e1375820900c20b39bb8c3539fa24f031367d1bab"), looks := false }, kinds := [], alts := [], laidByText := true, laidKinds := [.widerDeep], laidTests := true, laidLooks := .later }
def FramesScanCardSaid : Prop := Claim7.holds Tryd.pinned (.plain (OpenSpec.ofChange framesScanSpec)) framesScanCard

/-- THE TIED CARD OF 'pointcodelaw02.FramesBack'. -/
def framesBackCard : Claim7 := { stood := { row := framesBackRow, standIns := [], harness := (true, "b3eeff504112211adf37f63e1375820900c20b39bb8c3539fa24f031367d1bab"), looks := false }, kinds := [], alts := [], laidByText := true, laidKinds := [.widerDeep], laidTests := true, laidLooks := .later }
def FramesBackCardSaid : Prop := Claim7.holds Tryd.pinned (.plain (OpenSpec.ofChange framesBackSpec)) framesBackCard

/-- THE TIED CARD OF 'pointcodelaw02.FramesSpoiled'. -/
def framesSpoiledCard : Claim7 := { stood := { row := framesSpoiledRow, standIns := [], harness := (true, "b3eeff504112211adf37f63e1375820900c20b39bb8c3539fa24f031367d1bab"), looks := false }, kinds := [], alts := [], laidByText := true, laidKinds := [.widerDeep], laidTests := true, laidLooks := .later }
def FramesSpoiledCardSaid : Prop := Claim7.holds Tryd.pinned (.plain (OpenSpec.ofChange framesSpoiledSpec)) framesSpoiledCard

/-- THE TIED CARD OF 'pointcodelaw02.FramesErrors'. -/
def framesErrorsCard : Claim7 := { stood := { row := framesErrorsRow, standIns := [], harness := (true, "b3eeff504112211adf37f63e1375820900c20b39bb8c3539fa24f031367d1bab"), looks := false }, kinds := [], alts := [], laidByText := true, laidKinds := [.widerDeep], laidTests := true, laidLooks := .later }
def FramesErrorsCardSaid : Prop := Claim7.holds Tryd.pinned (.plain (OpenSpec.ofChange framesErrorsSpec)) framesErrorsCard

/-- THE TIED CARD OF 'pointcodelaw02.FramesLong'. -/
def framesLongCard : Claim7 := { stood := { row := framesLongRow, standIns := [], harness := (true, "b3eeff504112211adf37f63e1375820900c20b39bb8c3539fa24f031367d1bab"), looks := false }, kinds := [], alts := [], laidByText := true, laidKinds := [.widerDeep], laidTests := true, laidLooks := .later }
def FramesLongCardSaid : Prop := Claim7.holds Tryd.pinned (.plain (OpenSpec.ofChange framesLongSpec)) framesLongCard

/-- THE TIED CARD OF 'pointcodelaw02.FramesStuff'. -/
def framesStuffCard : Claim7 := { stood := { row := framesStuffRow, standIns := [], harness := (true, "b3eeff504112211adf37f63e1375820900c20b39bb8c3539fa24f031367d1bab"), looks := false }, kinds := [], alts := [], laidByText := true, laidKinds := [.widerDeep], laidTests := true, laidLooks := .later }
def FramesStuffCardSaid : Prop := Claim7.holds Tryd.pinned (.plain (OpenSpec.ofChange framesStuffSpec)) framesStuffCard

/-- THE SECOND FORM's CARD OF 'pointcodelaw02.FramesJoin'. -/
def framesJoinUptoCard : Claim7 := { stood := { row := framesJoinUptoRow, standIns := [], harness := (true, "b3eeff504112211adf37f63e1375820900c20b39bb8c3539fa24f031367d1bab"), looks := false }, kinds := [], alts := [], laidByText := true, laidKinds := [.widerDeep], laidTests := true, laidLooks := .later }
def FramesJoinUptoCardSaid : Prop := Claim7.holds Tryd.pinned (.plain (OpenSpec.upto framesJoinSpec)) framesJoinUptoCard

/-- THE SECOND FORM's CARD OF 'pointcodelaw02.FramesScan'. -/
def framesScanUptoCard : Claim7 := { stood := { row := framesScanUptoRow, standIns := [], harness := (true, "b3eeff504112211adf37f63e1375820900c20b39bb8c3539fa24f031367d1bab"), looks := false }, kinds := [], alts := [], laidByText := true, laidKinds := [.widerDeep], laidTests := true, laidLooks := .later }
def FramesScanUptoCardSaid : Prop := Claim7.holds Tryd.pinned (.plain (OpenSpec.upto framesScanSpec)) framesScanUptoCard

/-- THE SECOND FORM's CARD OF 'pointcodelaw02.FramesBack'. -/
def framesBackUptoCard : Claim7 := { stood := { row := framesBackUptoRow, standIns := [], harness := (true, "b3eeff504112211adf37f63e1375820900c20b39bb8c3539fa24f031367d1bab"), looks := false }, kinds := [], alts := [], laidByText := true, laidKinds := [.widerDeep], laidTests := true, laidLooks := .later }
def FramesBackUptoCardSaid : Prop := Claim7.holds Tryd.pinned (.plain (OpenSpec.upto framesBackSpec)) framesBackUptoCard

/-- THE SECOND FORM's CARD OF 'pointcodelaw02.FramesSpoiled'. -/
def framesSpoiledUptoCard : Claim7 := { stood := { row := framesSpoiledUptoRow, standIns := [], harness := (true, "b3eeff504112211adf37f63e1375820900c20b39bb8c3539fa24f031367d1bab"), looks := false }, kinds := [], alts := [], laidByText := true, laidKinds := [.widerDeep], laidTests := true, laidLooks := .later }
def FramesSpoiledUptoCardSaid : Prop := Claim7.holds Tryd.pinned (.plain (OpenSpec.upto framesSpoiledSpec)) framesSpoiledUptoCard

/-- THE SECOND FORM's CARD OF 'pointcodelaw02.FramesErrors'. -/
def framesErrorsUptoCard : Claim7 := { stood := { row := framesErrorsUptoRow, standIns := [], harness := (true, "b3eeff504112211adf37f63e1375820900c20b39bb8c3539fa24f031367d1bab"), looks := false }, kinds := [], alts := [], laidByText := true, laidKinds := [.widerDeep], laidTests := true, laidLooks := .later }
def FramesErrorsUptoCardSaid : Prop := Claim7.holds Tryd.pinned (.plain (OpenSpec.upto framesErrorsSpec)) framesErrorsUptoCard

/-- THE SECOND FORM's CARD OF 'pointcodelaw02.FramesLong'. -/
def framesLongUptoCard : Claim7 := { stood := { row := framesLongUptoRow, standIns := [], harness := (true, "b3eeff504112211adf37f63e1375820900c20b39bb8c3539fa24f031367d1bab"), looks := false }, kinds := [], alts := [], laidByText := true, laidKinds := [.widerDeep], laidTests := true, laidLooks := .later }
def FramesLongUptoCardSaid : Prop := Claim7.holds Tryd.pinned (.plain (OpenSpec.upto framesLongSpec)) framesLongUptoCard

/-- THE SECOND FORM's CARD OF 'pointcodelaw02.FramesStuff'. -/
def framesStuffUptoCard : Claim7 := { stood := { row := framesStuffUptoRow, standIns := [], harness := (true, "b3eeff504112211adf37f63e1375820900c20b39bb8c3539fa24f031367d1bab"), looks := false }, kinds := [], alts := [], laidByText := true, laidKinds := [.widerDeep], laidTests := true, laidLooks := .later }
def FramesStuffUptoCardSaid : Prop := Claim7.holds Tryd.pinned (.plain (OpenSpec.upto framesStuffSpec)) framesStuffUptoCard
end Rows
end Go.Proofs.YtimfgagdfmmeeaaDoor
