/-
  NARROWER THAN 'FOR EVERY INPUT', by the rows' own cells (each row's printed sentence says how): FramesJoin: laid · FramesScan: laid · FramesBack: laid · FramesSpoiled: laid · FramesErrors: laid · FramesLong: laid · FramesStuff: laid.
  DERIVED. THE GIVEN ROWS OF THIS SEAT. 7 by the template 'for every input the law returns true; each argument reads behind the call as it read before'; 0 by the template 'total and deterministic' (their statements: YtimfgagdfmmeeaaDoorTotals.lean).
  GIVEN WITH THE SEED: the statements are not yours to turn. If you find one false, say at which input.
  Laid BY PROGRAM, IN A SANDBOX (cutbox-rows.mjs): the forced cells as the released guide's own fill.sh prints them over the translation fa3c388417e44559… (all of the seat's roots in one cut). By AI agents, Wed Nov 11 2026. No macro, syntax, notation, axiom, sorry.
-/
import Derived.Test.YtimfgagdfmmeeaaDoorChecked
import GoSem.Claim
import GoSem.ClaimJoined
import GoSem.ClaimMapViews
import Derived.JoinedTies
import Derived.KernelRfl
namespace Go.Proofs.YtimfgagdfmmeeaaDoor
/- THE CELL 'sum', in the pinned program and in every row, IS THE sha256 OF THE DUMP (.gsa) THAT YtimfgagdfmmeeaaDoorProg.lean LOADS. Nothing in Lean hashes anything: it is a label: what it is worth is what the hold of that sum in a sandbox is worth. -/
noncomputable def Tryd.pinned : Pinned := { name := "ytimfgagdfmmeeaadoor", sum := "fa3c388417e445597f30e9131c07f951c16426e939fa57c24b59de8ad285b699", checked := Tryd.checked }
namespace Rows
def none {H : Type} : Left H := { results := [], args := [] }

/- WHAT THE LISTED PACKAGE-LEVEL VARIABLES READ AS WHEN THE CALL BEGINS. Each datum BY PROGRAM (the guide's laid-datum.mjs) off the statement by which the dump's own 'gosem.cut.vars' lays the variable. In a bare row this is a premise. The card (YtimfgagdfmmeeaaDoorCards.lean) ties it to the program's text. -/
def laid_pointcode_frames_flag {H : Type} : DataW H := .agg [.lit (.int .u8 0), .lit (.int .u8 1), .lit (.int .u8 1), .lit (.int .u8 1), .lit (.int .u8 1), .lit (.int .u8 1), .lit (.int .u8 1), .lit (.int .u8 0)]

/-- 'pointcodelaw02.FramesJoin': WHATEVER THE INPUT: true; the input reads as it did. -/
def framesJoinSpec : ChangeSpec := { name := "framesJoin", fn := fun _ => fun
  | [d1, d2] => { results := [.lit (.bool true)], args := [d1, d2] }
  | _ => none }
def framesJoinRow : OpenClaim := { program := "ytimfgagdfmmeeaadoor", sum := "fa3c388417e445597f30e9131c07f951c16426e939fa57c24b59de8ad285b699", func := "pointcode/pointcodelaw02.FramesJoin", spec := "framesJoin", unfollowed := true, recurses := true, named := ["pointcode/frames.flag"], apart := false, laid := [("pointcode/frames.flag", laid_pointcode_frames_flag)] }
def FramesJoinSaid : Prop := framesJoinRow.holds Tryd.pinned (OpenSpec.ofChange framesJoinSpec)

/-- ITS FALSE NEIGHBOUR: 'it returns false'. Refute it at one input. -/
def framesJoinWrong : ChangeSpec := { name := "framesJoin", fn := fun _ => fun
  | [d1, d2] => { results := [.lit (.bool false)], args := [d1, d2] }
  | _ => none }
def FramesJoinWrongFalsely : Prop := framesJoinRow.holds Tryd.pinned (OpenSpec.ofChange framesJoinWrong)

/-- 'pointcodelaw02.FramesScan': WHATEVER THE INPUT: true; the input reads as it did. -/
def framesScanSpec : ChangeSpec := { name := "framesScan", fn := fun _ => fun
  | [d1, d2] => { results := [.lit (.bool true)], args := [d1, d2] }
  | _ => none }
def framesScanRow : OpenClaim := { program := "ytimfgagdfmmeeaadoor", sum := "fa3c388417e445597f30e9131c07f951c16426e939fa57c24b59de8ad285b699", func := "pointcode/pointcodelaw02.FramesScan", spec := "framesScan", unfollowed := true, recurses := true, named := ["pointcode/frames.flag"], apart := false, laid := [("pointcode/frames.flag", laid_pointcode_frames_flag)] }
def FramesScanSaid : Prop := framesScanRow.holds Tryd.pinned (OpenSpec.ofChange framesScanSpec)

/-- ITS FALSE NEIGHBOUR: 'it returns false'. Refute it at one input. -/
def framesScanWrong : ChangeSpec := { name := "framesScan", fn := fun _ => fun
  | [d1, d2] => { results := [.lit (.bool false)], args := [d1, d2] }
  | _ => none }
def FramesScanWrongFalsely : Prop := framesScanRow.holds Tryd.pinned (OpenSpec.ofChange framesScanWrong)

/-- 'pointcodelaw02.FramesBack': WHATEVER THE INPUT: true; the input reads as it did. -/
def framesBackSpec : ChangeSpec := { name := "framesBack", fn := fun _ => fun
  | [d1, d2, d3] => { results := [.lit (.bool true)], args := [d1, d2, d3] }
  | _ => none }
def framesBackRow : OpenClaim := { program := "ytimfgagdfmmeeaadoor", sum := "fa3c388417e445597f30e9131c07f951c16426e939fa57c24b59de8ad285b699", func := "pointcode/pointcodelaw02.FramesBack", spec := "framesBack", unfollowed := true, recurses := true, named := ["pointcode/frames.flag"], apart := false, laid := [("pointcode/frames.flag", laid_pointcode_frames_flag)] }
def FramesBackSaid : Prop := framesBackRow.holds Tryd.pinned (OpenSpec.ofChange framesBackSpec)

/-- ITS FALSE NEIGHBOUR: 'it returns false'. Refute it at one input. -/
def framesBackWrong : ChangeSpec := { name := "framesBack", fn := fun _ => fun
  | [d1, d2, d3] => { results := [.lit (.bool false)], args := [d1, d2, d3] }
  | _ => none }
def FramesBackWrongFalsely : Prop := framesBackRow.holds Tryd.pinned (OpenSpec.ofChange framesBackWrong)

/-- 'pointcodelaw02.FramesSpoiled': WHATEVER THE INPUT: true; the input reads as it did. -/
def framesSpoiledSpec : ChangeSpec := { name := "framesSpoiled", fn := fun _ => fun
  | [d1, d2, d3] => { results := [.lit (.bool true)], args := [d1, d2, d3] }
  | _ => none }
def framesSpoiledRow : OpenClaim := { program := "ytimfgagdfmmeeaadoor", sum := "fa3c388417e445597f30e9131c07f951c16426e939fa57c24b59de8ad285b699", func := "pointcode/pointcodelaw02.FramesSpoiled", spec := "framesSpoiled", unfollowed := true, recurses := true, named := ["pointcode/frames.flag"], apart := false, laid := [("pointcode/frames.flag", laid_pointcode_frames_flag)] }
def FramesSpoiledSaid : Prop := framesSpoiledRow.holds Tryd.pinned (OpenSpec.ofChange framesSpoiledSpec)

/-- ITS FALSE NEIGHBOUR: 'it returns false'. Refute it at one input. -/
def framesSpoiledWrong : ChangeSpec := { name := "framesSpoiled", fn := fun _ => fun
  | [d1, d2, d3] => { results := [.lit (.bool false)], args := [d1, d2, d3] }
  | _ => none }
def FramesSpoiledWrongFalsely : Prop := framesSpoiledRow.holds Tryd.pinned (OpenSpec.ofChange framesSpoiledWrong)

/-- 'pointcodelaw02.FramesErrors': WHATEVER THE INPUT: true; the input reads as it did. -/
def framesErrorsSpec : ChangeSpec := { name := "framesErrors", fn := fun _ => fun
  | [d1, d2] => { results := [.lit (.bool true)], args := [d1, d2] }
  | _ => none }
def framesErrorsRow : OpenClaim := { program := "ytimfgagdfmmeeaadoor", sum := "fa3c388417e445597f30e9131c07f951c16426e939fa57c24b59de8ad285b699", func := "pointcode/pointcodelaw02.FramesErrors", spec := "framesErrors", unfollowed := true, recurses := true, named := ["pointcode/frames.flag"], apart := false, laid := [("pointcode/frames.flag", laid_pointcode_frames_flag)] }
def FramesErrorsSaid : Prop := framesErrorsRow.holds Tryd.pinned (OpenSpec.ofChange framesErrorsSpec)

/-- ITS FALSE NEIGHBOUR: 'it returns false'. Refute it at one input. -/
def framesErrorsWrong : ChangeSpec := { name := "framesErrors", fn := fun _ => fun
  | [d1, d2] => { results := [.lit (.bool false)], args := [d1, d2] }
  | _ => none }
def FramesErrorsWrongFalsely : Prop := framesErrorsRow.holds Tryd.pinned (OpenSpec.ofChange framesErrorsWrong)

/-- 'pointcodelaw02.FramesLong': WHATEVER THE INPUT: true; the input reads as it did. -/
def framesLongSpec : ChangeSpec := { name := "framesLong", fn := fun _ => fun
  | [d1, d2] => { results := [.lit (.bool true)], args := [d1, d2] }
  | _ => none }
def framesLongRow : OpenClaim := { program := "ytimfgagdfmmeeaadoor", sum := "fa3c388417e445597f30e9131c07f951c16426e939fa57c24b59de8ad285b699", func := "pointcode/pointcodelaw02.FramesLong", spec := "framesLong", unfollowed := true, recurses := true, named := ["pointcode/frames.flag"], apart := false, laid := [("pointcode/frames.flag", laid_pointcode_frames_flag)] }
def FramesLongSaid : Prop := framesLongRow.holds Tryd.pinned (OpenSpec.ofChange framesLongSpec)

/-- ITS FALSE NEIGHBOUR: 'it returns false'. Refute it at one input. -/
def framesLongWrong : ChangeSpec := { name := "framesLong", fn := fun _ => fun
  | [d1, d2] => { results := [.lit (.bool false)], args := [d1, d2] }
  | _ => none }
def FramesLongWrongFalsely : Prop := framesLongRow.holds Tryd.pinned (OpenSpec.ofChange framesLongWrong)

/-- 'pointcodelaw02.FramesStuff': WHATEVER THE INPUT: true; the input reads as it did. -/
def framesStuffSpec : ChangeSpec := { name := "framesStuff", fn := fun _ => fun
  | [d] => { results := [.lit (.bool true)], args := [d] }
  | _ => none }
def framesStuffRow : OpenClaim := { program := "ytimfgagdfmmeeaadoor", sum := "fa3c388417e445597f30e9131c07f951c16426e939fa57c24b59de8ad285b699", func := "pointcode/pointcodelaw02.FramesStuff", spec := "framesStuff", unfollowed := true, recurses := true, named := ["pointcode/frames.flag"], apart := false, laid := [("pointcode/frames.flag", laid_pointcode_frames_flag)] }
def FramesStuffSaid : Prop := framesStuffRow.holds Tryd.pinned (OpenSpec.ofChange framesStuffSpec)

/-- ITS FALSE NEIGHBOUR: 'it returns false'. Refute it at one input. -/
def framesStuffWrong : ChangeSpec := { name := "framesStuff", fn := fun _ => fun
  | [d] => { results := [.lit (.bool false)], args := [d] }
  | _ => none }
def FramesStuffWrongFalsely : Prop := framesStuffRow.holds Tryd.pinned (OpenSpec.ofChange framesStuffWrong)

/- THE SECOND FORM. 'bulk': how many values and letters a reading holds, each counted each time it is reached (what is shared counts as often as it is met; a slice's spare places count too). A statement '..UptoSaid' is the law's where the arguments, and the package variables that the reading takes, are together of bulk at most 1048576: NARROWER than '..Said'. Prove '..Said' where nothing that the law and all that it calls make is longer than what came in: it says more and counts as full. Else prove '..UptoSaid'. A law counts once. -/
mutual
def uptoBulk {H : Type} : DataW H → Nat
  | .lit (.string bytes) => bytes.length + 1
  | .lit _ => 1
  | .nil => 1
  | .ptr d => uptoBulk d + 1
  | .slice elems spare => uptoBulkAll elems + uptoBulkAll spare + 1
  | .agg parts => uptoBulkAll parts + 1
  | .iface _ d => uptoBulk d + 1
  | .map entries => uptoBulkEntries entries + 1
  | .held _ => 1
def uptoBulkAll {H : Type} : List (DataW H) → Nat
  | [] => 0
  | d :: r => uptoBulk d + uptoBulkAll r
def uptoBulkEntries {H : Type} : List (Lit × DataW H) → Nat
  | [] => 0
  | x :: r => uptoBulkEntry x + uptoBulkEntries r
def uptoBulkEntry {H : Type} : Lit × DataW H → Nat
  | (.string bytes, d) => bytes.length + uptoBulk d + 1
  | (_, d) => uptoBulk d + 1
 end
def uptoSmall : (H : Type) → List (DataW H) → Bool := fun _ ds => decide (uptoBulkAll ds ≤ 1048576)
def OpenSpec.upto (s : _root_.Go.ChangeSpec) : _root_.Go.OpenSpec := { _root_.Go.OpenSpec.ofChange s with cond := some uptoSmall }

/-- 'pointcodelaw02.FramesJoin', WHERE WHAT IT READS IS OF BULK AT MOST 1048576: true; the input reads as it did. -/
def framesJoinUptoRow : OpenClaim := { program := "ytimfgagdfmmeeaadoor", sum := "fa3c388417e445597f30e9131c07f951c16426e939fa57c24b59de8ad285b699", func := "pointcode/pointcodelaw02.FramesJoin", spec := "framesJoin", unfollowed := true, recurses := true, named := ["pointcode/frames.flag"], apart := false, laid := [("pointcode/frames.flag", laid_pointcode_frames_flag)], narrowed := true }
def FramesJoinUptoSaid : Prop := framesJoinUptoRow.holds Tryd.pinned (OpenSpec.upto framesJoinSpec)

/-- 'pointcodelaw02.FramesScan', WHERE WHAT IT READS IS OF BULK AT MOST 1048576: true; the input reads as it did. -/
def framesScanUptoRow : OpenClaim := { program := "ytimfgagdfmmeeaadoor", sum := "fa3c388417e445597f30e9131c07f951c16426e939fa57c24b59de8ad285b699", func := "pointcode/pointcodelaw02.FramesScan", spec := "framesScan", unfollowed := true, recurses := true, named := ["pointcode/frames.flag"], apart := false, laid := [("pointcode/frames.flag", laid_pointcode_frames_flag)], narrowed := true }
def FramesScanUptoSaid : Prop := framesScanUptoRow.holds Tryd.pinned (OpenSpec.upto framesScanSpec)

/-- 'pointcodelaw02.FramesBack', WHERE WHAT IT READS IS OF BULK AT MOST 1048576: true; the input reads as it did. -/
def framesBackUptoRow : OpenClaim := { program := "ytimfgagdfmmeeaadoor", sum := "fa3c388417e445597f30e9131c07f951c16426e939fa57c24b59de8ad285b699", func := "pointcode/pointcodelaw02.FramesBack", spec := "framesBack", unfollowed := true, recurses := true, named := ["pointcode/frames.flag"], apart := false, laid := [("pointcode/frames.flag", laid_pointcode_frames_flag)], narrowed := true }
def FramesBackUptoSaid : Prop := framesBackUptoRow.holds Tryd.pinned (OpenSpec.upto framesBackSpec)

/-- 'pointcodelaw02.FramesSpoiled', WHERE WHAT IT READS IS OF BULK AT MOST 1048576: true; the input reads as it did. -/
def framesSpoiledUptoRow : OpenClaim := { program := "ytimfgagdfmmeeaadoor", sum := "fa3c388417e445597f30e9131c07f951c16426e939fa57c24b59de8ad285b699", func := "pointcode/pointcodelaw02.FramesSpoiled", spec := "framesSpoiled", unfollowed := true, recurses := true, named := ["pointcode/frames.flag"], apart := false, laid := [("pointcode/frames.flag", laid_pointcode_frames_flag)], narrowed := true }
def FramesSpoiledUptoSaid : Prop := framesSpoiledUptoRow.holds Tryd.pinned (OpenSpec.upto framesSpoiledSpec)

/-- 'pointcodelaw02.FramesErrors', WHERE WHAT IT READS IS OF BULK AT MOST 1048576: true; the input reads as it did. -/
def framesErrorsUptoRow : OpenClaim := { program := "ytimfgagdfmmeeaadoor", sum := "fa3c388417e445597f30e9131c07f951c16426e939fa57c24b59de8ad285b699", func := "pointcode/pointcodelaw02.FramesErrors", spec := "framesErrors", unfollowed := true, recurses := true, named := ["pointcode/frames.flag"], apart := false, laid := [("pointcode/frames.flag", laid_pointcode_frames_flag)], narrowed := true }
def FramesErrorsUptoSaid : Prop := framesErrorsUptoRow.holds Tryd.pinned (OpenSpec.upto framesErrorsSpec)

/-- 'pointcodelaw02.FramesLong', WHERE WHAT IT READS IS OF BULK AT MOST 1048576: true; the input reads as it did. -/
def framesLongUptoRow : OpenClaim := { program := "ytimfgagdfmmeeaadoor", sum := "fa3c388417e445597f30e9131c07f951c16426e939fa57c24b59de8ad285b699", func := "pointcode/pointcodelaw02.FramesLong", spec := "framesLong", unfollowed := true, recurses := true, named := ["pointcode/frames.flag"], apart := false, laid := [("pointcode/frames.flag", laid_pointcode_frames_flag)], narrowed := true }
def FramesLongUptoSaid : Prop := framesLongUptoRow.holds Tryd.pinned (OpenSpec.upto framesLongSpec)

/-- 'pointcodelaw02.FramesStuff', WHERE WHAT IT READS IS OF BULK AT MOST 1048576: true; the input reads as it did. -/
def framesStuffUptoRow : OpenClaim := { program := "ytimfgagdfmmeeaadoor", sum := "fa3c388417e445597f30e9131c07f951c16426e939fa57c24b59de8ad285b699", func := "pointcode/pointcodelaw02.FramesStuff", spec := "framesStuff", unfollowed := true, recurses := true, named := ["pointcode/frames.flag"], apart := false, laid := [("pointcode/frames.flag", laid_pointcode_frames_flag)], narrowed := true }
def FramesStuffUptoSaid : Prop := framesStuffUptoRow.holds Tryd.pinned (OpenSpec.upto framesStuffSpec)

end Rows
end Go.Proofs.YtimfgagdfmmeeaaDoor
