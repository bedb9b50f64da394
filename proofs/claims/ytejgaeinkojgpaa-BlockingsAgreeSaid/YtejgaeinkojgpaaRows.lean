/-
  No cell of these rows narrows 'for every input' (looked for: loops, veiled, ifaces, maps, wideKeys, modest, calm, conditions, laid).
  DERIVED. THE GIVEN ROWS OF THIS SEAT. 6 by the template 'for every input the law returns true; each argument reads behind the call as it read before'; 0 by the template 'total and deterministic' (their statements: YtejgaeinkojgpaaTotals.lean).
  GIVEN WITH THE SEED: the statements are not yours to turn. If you find one false, say at which input.
  Laid BY PROGRAM, IN A SANDBOX (cutbox-rows.mjs): the forced cells as the released guide's own fill.sh prints them over the translation c7cf9f92d3dd4891… (all of the seat's roots in one cut). By AI agents, Wed Nov 11 2026. No macro, syntax, notation, axiom, sorry.
-/
import Derived.Test.YtejgaeinkojgpaaChecked
import GoSem.Claim
import GoSem.ClaimJoined
import GoSem.ClaimMapViews
import Derived.JoinedTies
import Derived.KernelRfl
namespace Go.Proofs.Ytejgaeinkojgpaa
/- THE CELL 'sum', in the pinned program and in every row, IS THE sha256 OF THE DUMP (.gsa) THAT YtejgaeinkojgpaaProg.lean LOADS. Nothing in Lean hashes anything: it is a label: what it is worth is what the hold of that sum in a sandbox is worth. -/
noncomputable def Try.pinned : Pinned := { name := "ytejgaeinkojgpaa", sum := "c7cf9f92d3dd48911d5c718c0215617ff1600d70dfbe2075071c8d9314a91481", checked := Try.checked }
namespace Rows
def none {H : Type} : Left H := { results := [], args := [] }

/-- 'pointcodelaw37.BlockingsSend': WHATEVER THE INPUT: true; the input reads as it did. -/
def blockingsSendSpec : ChangeSpec := { name := "blockingsSend", fn := fun _ => fun
  | [d1, d2] => { results := [.lit (.bool true)], args := [d1, d2] }
  | _ => none }
def blockingsSendRow : OpenClaim := { program := "ytejgaeinkojgpaa", sum := "c7cf9f92d3dd48911d5c718c0215617ff1600d70dfbe2075071c8d9314a91481", func := "pointcode/pointcodelaw37.BlockingsSend", spec := "blockingsSend", unfollowed := true, recurses := true, apart := false }
def BlockingsSendSaid : Prop := blockingsSendRow.holds Try.pinned (OpenSpec.ofChange blockingsSendSpec)

/-- ITS FALSE NEIGHBOUR: 'it returns false'. Refute it at one input. -/
def blockingsSendWrong : ChangeSpec := { name := "blockingsSend", fn := fun _ => fun
  | [d1, d2] => { results := [.lit (.bool false)], args := [d1, d2] }
  | _ => none }
def BlockingsSendWrongFalsely : Prop := blockingsSendRow.holds Try.pinned (OpenSpec.ofChange blockingsSendWrong)

/-- 'pointcodelaw37.BlockingsHear': WHATEVER THE INPUT: true; the input reads as it did. -/
def blockingsHearSpec : ChangeSpec := { name := "blockingsHear", fn := fun _ => fun
  | [d1, d2] => { results := [.lit (.bool true)], args := [d1, d2] }
  | _ => none }
def blockingsHearRow : OpenClaim := { program := "ytejgaeinkojgpaa", sum := "c7cf9f92d3dd48911d5c718c0215617ff1600d70dfbe2075071c8d9314a91481", func := "pointcode/pointcodelaw37.BlockingsHear", spec := "blockingsHear", unfollowed := true, recurses := true, apart := false }
def BlockingsHearSaid : Prop := blockingsHearRow.holds Try.pinned (OpenSpec.ofChange blockingsHearSpec)

/-- ITS FALSE NEIGHBOUR: 'it returns false'. Refute it at one input. -/
def blockingsHearWrong : ChangeSpec := { name := "blockingsHear", fn := fun _ => fun
  | [d1, d2] => { results := [.lit (.bool false)], args := [d1, d2] }
  | _ => none }
def BlockingsHearWrongFalsely : Prop := blockingsHearRow.holds Try.pinned (OpenSpec.ofChange blockingsHearWrong)

/-- 'pointcodelaw37.BlockingsRepeat': WHATEVER THE INPUT: true; the input reads as it did. -/
def blockingsRepeatSpec : ChangeSpec := { name := "blockingsRepeat", fn := fun _ => fun
  | [d1, d2, d3] => { results := [.lit (.bool true)], args := [d1, d2, d3] }
  | _ => none }
def blockingsRepeatRow : OpenClaim := { program := "ytejgaeinkojgpaa", sum := "c7cf9f92d3dd48911d5c718c0215617ff1600d70dfbe2075071c8d9314a91481", func := "pointcode/pointcodelaw37.BlockingsRepeat", spec := "blockingsRepeat", unfollowed := true, recurses := true, apart := false }
def BlockingsRepeatSaid : Prop := blockingsRepeatRow.holds Try.pinned (OpenSpec.ofChange blockingsRepeatSpec)

/-- ITS FALSE NEIGHBOUR: 'it returns false'. Refute it at one input. -/
def blockingsRepeatWrong : ChangeSpec := { name := "blockingsRepeat", fn := fun _ => fun
  | [d1, d2, d3] => { results := [.lit (.bool false)], args := [d1, d2, d3] }
  | _ => none }
def BlockingsRepeatWrongFalsely : Prop := blockingsRepeatRow.holds Try.pinned (OpenSpec.ofChange blockingsRepeatWrong)

/-- 'pointcodelaw37.BlockingsAgree': WHATEVER THE INPUT: true; the input reads as it did. -/
def blockingsAgreeSpec : ChangeSpec := { name := "blockingsAgree", fn := fun _ => fun
  | [d1, d2, d3] => { results := [.lit (.bool true)], args := [d1, d2, d3] }
  | _ => none }
def blockingsAgreeRow : OpenClaim := { program := "ytejgaeinkojgpaa", sum := "c7cf9f92d3dd48911d5c718c0215617ff1600d70dfbe2075071c8d9314a91481", func := "pointcode/pointcodelaw37.BlockingsAgree", spec := "blockingsAgree", unfollowed := true, recurses := true, apart := false }
def BlockingsAgreeSaid : Prop := blockingsAgreeRow.holds Try.pinned (OpenSpec.ofChange blockingsAgreeSpec)

/-- ITS FALSE NEIGHBOUR: 'it returns false'. Refute it at one input. -/
def blockingsAgreeWrong : ChangeSpec := { name := "blockingsAgree", fn := fun _ => fun
  | [d1, d2, d3] => { results := [.lit (.bool false)], args := [d1, d2, d3] }
  | _ => none }
def BlockingsAgreeWrongFalsely : Prop := blockingsAgreeRow.holds Try.pinned (OpenSpec.ofChange blockingsAgreeWrong)

/-- 'pointcodelaw37.BlockingsErrors': WHATEVER THE INPUT: true; the input reads as it did. -/
def blockingsErrorsSpec : ChangeSpec := { name := "blockingsErrors", fn := fun _ => fun
  | [d1, d2, d3] => { results := [.lit (.bool true)], args := [d1, d2, d3] }
  | _ => none }
def blockingsErrorsRow : OpenClaim := { program := "ytejgaeinkojgpaa", sum := "c7cf9f92d3dd48911d5c718c0215617ff1600d70dfbe2075071c8d9314a91481", func := "pointcode/pointcodelaw37.BlockingsErrors", spec := "blockingsErrors", unfollowed := true, recurses := true, apart := false }
def BlockingsErrorsSaid : Prop := blockingsErrorsRow.holds Try.pinned (OpenSpec.ofChange blockingsErrorsSpec)

/-- ITS FALSE NEIGHBOUR: 'it returns false'. Refute it at one input. -/
def blockingsErrorsWrong : ChangeSpec := { name := "blockingsErrors", fn := fun _ => fun
  | [d1, d2, d3] => { results := [.lit (.bool false)], args := [d1, d2, d3] }
  | _ => none }
def BlockingsErrorsWrongFalsely : Prop := blockingsErrorsRow.holds Try.pinned (OpenSpec.ofChange blockingsErrorsWrong)

/-- 'pointcodelaw37.BlockingsCode': WHATEVER THE INPUT: true; the input reads as it did. -/
def blockingsCodeSpec : ChangeSpec := { name := "blockingsCode", fn := fun _ => fun
  | [d1, d2] => { results := [.lit (.bool true)], args := [d1, d2] }
  | _ => none }
def blockingsCodeRow : OpenClaim := { program := "ytejgaeinkojgpaa", sum := "c7cf9f92d3dd48911d5c718c0215617ff1600d70dfbe2075071c8d9314a91481", func := "pointcode/pointcodelaw37.BlockingsCode", spec := "blockingsCode", unfollowed := true, recurses := true, apart := false }
def BlockingsCodeSaid : Prop := blockingsCodeRow.holds Try.pinned (OpenSpec.ofChange blockingsCodeSpec)

/-- ITS FALSE NEIGHBOUR: 'it returns false'. Refute it at one input. -/
def blockingsCodeWrong : ChangeSpec := { name := "blockingsCode", fn := fun _ => fun
  | [d1, d2] => { results := [.lit (.bool false)], args := [d1, d2] }
  | _ => none }
def BlockingsCodeWrongFalsely : Prop := blockingsCodeRow.holds Try.pinned (OpenSpec.ofChange blockingsCodeWrong)

/- THE SECOND FORM. 'bulk': how many values and letters a reading holds, each counted each time it is reached (what is shared counts as often as it is met; a slice's spare places count too). A statement '..UptoSaid' is the law's where the arguments, and the package variables that the reading takes, are together of bulk at most 1048576: NARROWER than '..Said'. Prove '..Said' where nothing that the law and all that it calls make is longer than what came in: it says more and counts as full. Else prove '..UptoSaid'. A law counts once. -/
mutual
def uptoBulk {H : Type} : DataW H → Nat
  | .lit (.string bytes) => bytes.length + 1
  | .lit _ => 1
  | .nil => 1
  | .ptr d => uptoBulk d + 1
  | .slice elems spare => uptoBulkAll elems + uptoBulkAll spare + 1
  | .agg parts => uptoBulkAll parts + 1
  | .iface _ d => uptoBulk d + 1
  | .map entries => uptoBulkEntries entries + 1
  | .held _ => 1
def uptoBulkAll {H : Type} : List (DataW H) → Nat
  | [] => 0
  | d :: r => uptoBulk d + uptoBulkAll r
def uptoBulkEntries {H : Type} : List (Lit × DataW H) → Nat
  | [] => 0
  | x :: r => uptoBulkEntry x + uptoBulkEntries r
def uptoBulkEntry {H : Type} : Lit × DataW H → Nat
  | (.string bytes, d) => bytes.length + uptoBulk d + 1
  | (_, d) => uptoBulk d + 1
 end
def uptoSmall : (H : Type) → List (DataW H) → Bool := fun _ ds => decide (uptoBulkAll ds ≤ 1048576)
def OpenSpec.upto (s : _root_.Go.ChangeSpec) : _root_.Go.OpenSpec := { _root_.Go.OpenSpec.ofChange s with cond := some uptoSmall }

/-- 'pointcodelaw37.BlockingsSend', WHERE WHAT IT READS IS OF BULK AT MOST 1048576: true; the input reads as it did. -/
def blockingsSendUptoRow : OpenClaim := { program := "ytejgaeinkojgpaa", sum := "c7cf9f92d3dd48911d5c718c0215617ff1600d70dfbe2075071c8d9314a91481", func := "pointcode/pointcodelaw37.BlockingsSend", spec := "blockingsSend", unfollowed := true, recurses := true, apart := false, narrowed := true }
def BlockingsSendUptoSaid : Prop := blockingsSendUptoRow.holds Try.pinned (OpenSpec.upto blockingsSendSpec)

/-- 'pointcodelaw37.BlockingsHear', WHERE WHAT IT READS IS OF BULK AT MOST 1048576: true; the input reads as it did. -/
def blockingsHearUptoRow : OpenClaim := { program := "ytejgaeinkojgpaa", sum := "c7cf9f92d3dd48911d5c718c0215617ff1600d70dfbe2075071c8d9314a91481", func := "pointcode/pointcodelaw37.BlockingsHear", spec := "blockingsHear", unfollowed := true, recurses := true, apart := false, narrowed := true }
def BlockingsHearUptoSaid : Prop := blockingsHearUptoRow.holds Try.pinned (OpenSpec.upto blockingsHearSpec)

/-- 'pointcodelaw37.BlockingsRepeat', WHERE WHAT IT READS IS OF BULK AT MOST 1048576: true; the input reads as it did. -/
def blockingsRepeatUptoRow : OpenClaim := { program := "ytejgaeinkojgpaa", sum := "c7cf9f92d3dd48911d5c718c0215617ff1600d70dfbe2075071c8d9314a91481", func := "pointcode/pointcodelaw37.BlockingsRepeat", spec := "blockingsRepeat", unfollowed := true, recurses := true, apart := false, narrowed := true }
def BlockingsRepeatUptoSaid : Prop := blockingsRepeatUptoRow.holds Try.pinned (OpenSpec.upto blockingsRepeatSpec)

/-- 'pointcodelaw37.BlockingsAgree', WHERE WHAT IT READS IS OF BULK AT MOST 1048576: true; the input reads as it did. -/
def blockingsAgreeUptoRow : OpenClaim := { program := "ytejgaeinkojgpaa", sum := "c7cf9f92d3dd48911d5c718c0215617ff1600d70dfbe2075071c8d9314a91481", func := "pointcode/pointcodelaw37.BlockingsAgree", spec := "blockingsAgree", unfollowed := true, recurses := true, apart := false, narrowed := true }
def BlockingsAgreeUptoSaid : Prop := blockingsAgreeUptoRow.holds Try.pinned (OpenSpec.upto blockingsAgreeSpec)

/-- 'pointcodelaw37.BlockingsErrors', WHERE WHAT IT READS IS OF BULK AT MOST 1048576: true; the input reads as it did. -/
def blockingsErrorsUptoRow : OpenClaim := { program := "ytejgaeinkojgpaa", sum := "c7cf9f92d3dd48911d5c718c0215617ff1600d70dfbe2075071c8d9314a91481", func := "pointcode/pointcodelaw37.BlockingsErrors", spec := "blockingsErrors", unfollowed := true, recurses := true, apart := false, narrowed := true }
def BlockingsErrorsUptoSaid : Prop := blockingsErrorsUptoRow.holds Try.pinned (OpenSpec.upto blockingsErrorsSpec)

/-- 'pointcodelaw37.BlockingsCode', WHERE WHAT IT READS IS OF BULK AT MOST 1048576: true; the input reads as it did. -/
def blockingsCodeUptoRow : OpenClaim := { program := "ytejgaeinkojgpaa", sum := "c7cf9f92d3dd48911d5c718c0215617ff1600d70dfbe2075071c8d9314a91481", func := "pointcode/pointcodelaw37.BlockingsCode", spec := "blockingsCode", unfollowed := true, recurses := true, apart := false, narrowed := true }
def BlockingsCodeUptoSaid : Prop := blockingsCodeUptoRow.holds Try.pinned (OpenSpec.upto blockingsCodeSpec)

end Rows
end Go.Proofs.Ytejgaeinkojgpaa
