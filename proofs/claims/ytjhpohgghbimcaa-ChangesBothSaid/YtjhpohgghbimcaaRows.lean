/-
  No cell of these rows narrows 'for every input' (looked for: loops, veiled, ifaces, maps, wideKeys, modest, calm, conditions, laid).
  DERIVED. THE GIVEN ROWS OF THIS SEAT. 4 by the template 'for every input the law returns true; each argument reads behind the call as it read before'; 0 by the template 'total and deterministic' (their statements: YtjhpohgghbimcaaTotals.lean).
  GIVEN WITH THE SEED: the statements are not yours to turn. If you find one false, say at which input.
  Laid BY PROGRAM, IN A SANDBOX (cutbox-rows.mjs): the forced cells as the released guide's own fill.sh prints them over the translation 2e8786c2a5084df2… (all of the seat's roots in one cut). By AI agents, Wed Nov 11 2026. No macro, syntax, notation, axiom, sorry.
-/
import Derived.Test.YtjhpohgghbimcaaChecked
import GoSem.Claim
import GoSem.ClaimJoined
import GoSem.ClaimMapViews
import Derived.JoinedTies
import Derived.KernelRfl
namespace Go.Proofs.Ytjhpohgghbimcaa
/- THE CELL 'sum', in the pinned program and in every row, IS THE sha256 OF THE DUMP (.gsa) THAT YtjhpohgghbimcaaProg.lean LOADS. Nothing in Lean hashes anything: it is a label: what it is worth is what the hold of that sum in a sandbox is worth. -/
noncomputable def Try.pinned : Pinned := { name := "ytjhpohgghbimcaa", sum := "2e8786c2a5084df26c8a92593261f726bd8c2497199e0e39a5a027be3a1c1107", checked := Try.checked }
namespace Rows
def none {H : Type} : Left H := { results := [], args := [] }

/-- 'pointcodelaw16.ChangesOwn': WHATEVER THE INPUT: true; the input reads as it did. -/
def changesOwnSpec : ChangeSpec := { name := "changesOwn", fn := fun _ => fun
  | [d1, d2] => { results := [.lit (.bool true)], args := [d1, d2] }
  | _ => none }
def changesOwnRow : OpenClaim := { program := "ytjhpohgghbimcaa", sum := "2e8786c2a5084df26c8a92593261f726bd8c2497199e0e39a5a027be3a1c1107", func := "pointcode/pointcodelaw16.ChangesOwn", spec := "changesOwn", unfollowed := true, recurses := true, apart := false }
def ChangesOwnSaid : Prop := changesOwnRow.holds Try.pinned (OpenSpec.ofChange changesOwnSpec)

/-- ITS FALSE NEIGHBOUR: 'it returns false'. Refute it at one input. -/
def changesOwnWrong : ChangeSpec := { name := "changesOwn", fn := fun _ => fun
  | [d1, d2] => { results := [.lit (.bool false)], args := [d1, d2] }
  | _ => none }
def ChangesOwnWrongFalsely : Prop := changesOwnRow.holds Try.pinned (OpenSpec.ofChange changesOwnWrong)

/-- 'pointcodelaw16.ChangesTime': WHATEVER THE INPUT: true; the input reads as it did. -/
def changesTimeSpec : ChangeSpec := { name := "changesTime", fn := fun _ => fun
  | [d1, d2, d3] => { results := [.lit (.bool true)], args := [d1, d2, d3] }
  | _ => none }
def changesTimeRow : OpenClaim := { program := "ytjhpohgghbimcaa", sum := "2e8786c2a5084df26c8a92593261f726bd8c2497199e0e39a5a027be3a1c1107", func := "pointcode/pointcodelaw16.ChangesTime", spec := "changesTime", unfollowed := true, recurses := true, apart := false }
def ChangesTimeSaid : Prop := changesTimeRow.holds Try.pinned (OpenSpec.ofChange changesTimeSpec)

/-- ITS FALSE NEIGHBOUR: 'it returns false'. Refute it at one input. -/
def changesTimeWrong : ChangeSpec := { name := "changesTime", fn := fun _ => fun
  | [d1, d2, d3] => { results := [.lit (.bool false)], args := [d1, d2, d3] }
  | _ => none }
def ChangesTimeWrongFalsely : Prop := changesTimeRow.holds Try.pinned (OpenSpec.ofChange changesTimeWrong)

/-- 'pointcodelaw16.ChangesBoth': WHATEVER THE INPUT: true; the input reads as it did. -/
def changesBothSpec : ChangeSpec := { name := "changesBoth", fn := fun _ => fun
  | [d1, d2, d3] => { results := [.lit (.bool true)], args := [d1, d2, d3] }
  | _ => none }
def changesBothRow : OpenClaim := { program := "ytjhpohgghbimcaa", sum := "2e8786c2a5084df26c8a92593261f726bd8c2497199e0e39a5a027be3a1c1107", func := "pointcode/pointcodelaw16.ChangesBoth", spec := "changesBoth", unfollowed := true, recurses := true, apart := false }
def ChangesBothSaid : Prop := changesBothRow.holds Try.pinned (OpenSpec.ofChange changesBothSpec)

/-- ITS FALSE NEIGHBOUR: 'it returns false'. Refute it at one input. -/
def changesBothWrong : ChangeSpec := { name := "changesBoth", fn := fun _ => fun
  | [d1, d2, d3] => { results := [.lit (.bool false)], args := [d1, d2, d3] }
  | _ => none }
def ChangesBothWrongFalsely : Prop := changesBothRow.holds Try.pinned (OpenSpec.ofChange changesBothWrong)

/-- 'pointcodelaw16.ChangesNone': WHATEVER THE INPUT: true; the input reads as it did. -/
def changesNoneSpec : ChangeSpec := { name := "changesNone", fn := fun _ => fun
  | [d1, d2] => { results := [.lit (.bool true)], args := [d1, d2] }
  | _ => none }
def changesNoneRow : OpenClaim := { program := "ytjhpohgghbimcaa", sum := "2e8786c2a5084df26c8a92593261f726bd8c2497199e0e39a5a027be3a1c1107", func := "pointcode/pointcodelaw16.ChangesNone", spec := "changesNone", unfollowed := true, recurses := true, apart := false }
def ChangesNoneSaid : Prop := changesNoneRow.holds Try.pinned (OpenSpec.ofChange changesNoneSpec)

/-- ITS FALSE NEIGHBOUR: 'it returns false'. Refute it at one input. -/
def changesNoneWrong : ChangeSpec := { name := "changesNone", fn := fun _ => fun
  | [d1, d2] => { results := [.lit (.bool false)], args := [d1, d2] }
  | _ => none }
def ChangesNoneWrongFalsely : Prop := changesNoneRow.holds Try.pinned (OpenSpec.ofChange changesNoneWrong)

/- THE SECOND FORM. 'bulk': how many values and letters a reading holds, each counted each time it is reached (what is shared counts as often as it is met; a slice's spare places count too). A statement '..UptoSaid' is the law's where the arguments, and the package variables that the reading takes, are together of bulk at most 1048576: NARROWER than '..Said'. Prove '..Said' where nothing that the law and all that it calls make is longer than what came in: it says more and counts as full. Else prove '..UptoSaid'. A law counts once. -/
mutual
def uptoBulk {H : Type} : DataW H → Nat
  | .lit (.string bytes) => bytes.length + 1
  | .lit _ => 1
  | .nil => 1
  | .ptr d => uptoBulk d + 1
  | .slice elems spare => uptoBulkAll elems + uptoBulkAll spare + 1
  | .agg parts => uptoBulkAll parts + 1
  | .iface _ d => uptoBulk d + 1
  | .map entries => uptoBulkEntries entries + 1
  | .held _ => 1
def uptoBulkAll {H : Type} : List (DataW H) → Nat
  | [] => 0
  | d :: r => uptoBulk d + uptoBulkAll r
def uptoBulkEntries {H : Type} : List (Lit × DataW H) → Nat
  | [] => 0
  | x :: r => uptoBulkEntry x + uptoBulkEntries r
def uptoBulkEntry {H : Type} : Lit × DataW H → Nat
  | (.string bytes, d) => bytes.length + uptoBulk d + 1
  | (_, d) => uptoBulk d + 1
 end
def uptoSmall : (H : Type) → List (DataW H) → Bool := fun _ ds => decide (uptoBulkAll ds ≤ 1048576)
def OpenSpec.upto (s : _root_.Go.ChangeSpec) : _root_.Go.OpenSpec := { _root_.Go.OpenSpec.ofChange s with cond := some uptoSmall }

/-- 'pointcodelaw16.ChangesOwn', WHERE WHAT IT READS IS OF BULK AT MOST 1048576: true; the input reads as it did. -/
def changesOwnUptoRow : OpenClaim := { program := "ytjhpohgghbimcaa", sum := "2e8786c2a5084df26c8a92593261f726bd8c2497199e0e39a5a027be3a1c1107", func := "pointcode/pointcodelaw16.ChangesOwn", spec := "changesOwn", unfollowed := true, recurses := true, apart := false, narrowed := true }
def ChangesOwnUptoSaid : Prop := changesOwnUptoRow.holds Try.pinned (OpenSpec.upto changesOwnSpec)

/-- 'pointcodelaw16.ChangesTime', WHERE WHAT IT READS IS OF BULK AT MOST 1048576: true; the input reads as it did. -/
def changesTimeUptoRow : OpenClaim := { program := "ytjhpohgghbimcaa", sum := "2e8786c2a5084df26c8a92593261f726bd8c2497199e0e39a5a027be3a1c1107", func := "pointcode/pointcodelaw16.ChangesTime", spec := "changesTime", unfollowed := true, recurses := true, apart := false, narrowed := true }
def ChangesTimeUptoSaid : Prop := changesTimeUptoRow.holds Try.pinned (OpenSpec.upto changesTimeSpec)

/-- 'pointcodelaw16.ChangesBoth', WHERE WHAT IT READS IS OF BULK AT MOST 1048576: true; the input reads as it did. -/
def changesBothUptoRow : OpenClaim := { program := "ytjhpohgghbimcaa", sum := "2e8786c2a5084df26c8a92593261f726bd8c2497199e0e39a5a027be3a1c1107", func := "pointcode/pointcodelaw16.ChangesBoth", spec := "changesBoth", unfollowed := true, recurses := true, apart := false, narrowed := true }
def ChangesBothUptoSaid : Prop := changesBothUptoRow.holds Try.pinned (OpenSpec.upto changesBothSpec)

/-- 'pointcodelaw16.ChangesNone', WHERE WHAT IT READS IS OF BULK AT MOST 1048576: true; the input reads as it did. -/
def changesNoneUptoRow : OpenClaim := { program := "ytjhpohgghbimcaa", sum := "2e8786c2a5084df26c8a92593261f726bd8c2497199e0e39a5a027be3a1c1107", func := "pointcode/pointcodelaw16.ChangesNone", spec := "changesNone", unfollowed := true, recurses := true, apart := false, narrowed := true }
def ChangesNoneUptoSaid : Prop := changesNoneUptoRow.holds Try.pinned (OpenSpec.upto changesNoneSpec)

end Rows
end Go.Proofs.Ytjhpohgghbimcaa
