/-
  No cell of these rows narrows 'for every input' (looked for: loops, veiled, ifaces, maps, wideKeys, modest, calm, conditions, laid).
  DERIVED. THE GIVEN ROWS OF THIS SEAT. 3 by the template 'for every input the law returns true; each argument reads behind the call as it read before'; 0 by the template 'total and deterministic' (their statements: YtjpjnidgcmkdbaaTotals.lean).
  GIVEN WITH THE SEED: the statements are not yours to turn. If you find one false, say at which input.
  Laid BY PROGRAM, IN A SANDBOX (cutbox-rows.mjs): the forced cells as the released guide's own fill.sh prints them over the translation d82ad7529857d7da… (all of the seat's roots in one cut). By AI agents, Wed Nov 11 2026. No macro, syntax, notation, axiom, sorry.
-/
import Derived.Test.YtjpjnidgcmkdbaaChecked
import GoSem.Claim
import GoSem.ClaimJoined
import GoSem.ClaimMapViews
import Derived.JoinedTies
import Derived.KernelRfl
namespace Go.Proofs.Ytjpjnidgcmkdbaa
/- THE CELL 'sum', in the pinned program and in every row, IS THE sha256 OF THE DUMP (.gsa) THAT YtjpjnidgcmkdbaaProg.lean LOADS. Nothing in Lean hashes anything: it is a label: what it is worth is what the hold of that sum in a sandbox is worth. -/
noncomputable def Try.pinned : Pinned := { name := "ytjpjnidgcmkdbaa", sum := "d82ad7529857d7da454207f7fe75249d78650010aa0a6a61725fd973bde5330f", checked := Try.checked }
namespace Rows
def none {H : Type} : Left H := { results := [], args := [] }

/-- 'pointcodelaw36.ContinuitiesLoops': WHATEVER THE INPUT: true; the input reads as it did. -/
def continuitiesLoopsSpec : ChangeSpec := { name := "continuitiesLoops", fn := fun _ => fun
  | [d1, d2, d3] => { results := [.lit (.bool true)], args := [d1, d2, d3] }
  | _ => none }
def continuitiesLoopsRow : OpenClaim := { program := "ytjpjnidgcmkdbaa", sum := "d82ad7529857d7da454207f7fe75249d78650010aa0a6a61725fd973bde5330f", func := "pointcode/pointcodelaw36.ContinuitiesLoops", spec := "continuitiesLoops", unfollowed := true, recurses := true, apart := false }
def ContinuitiesLoopsSaid : Prop := continuitiesLoopsRow.holds Try.pinned (OpenSpec.ofChange continuitiesLoopsSpec)

/-- ITS FALSE NEIGHBOUR: 'it returns false'. Refute it at one input. -/
def continuitiesLoopsWrong : ChangeSpec := { name := "continuitiesLoops", fn := fun _ => fun
  | [d1, d2, d3] => { results := [.lit (.bool false)], args := [d1, d2, d3] }
  | _ => none }
def ContinuitiesLoopsWrongFalsely : Prop := continuitiesLoopsRow.holds Try.pinned (OpenSpec.ofChange continuitiesLoopsWrong)

/-- 'pointcodelaw36.ContinuitiesNew': WHATEVER THE INPUT: true; the input reads as it did. -/
def continuitiesNewSpec : ChangeSpec := { name := "continuitiesNew", fn := fun _ => fun
  | [d1, d2, d3] => { results := [.lit (.bool true)], args := [d1, d2, d3] }
  | _ => none }
def continuitiesNewRow : OpenClaim := { program := "ytjpjnidgcmkdbaa", sum := "d82ad7529857d7da454207f7fe75249d78650010aa0a6a61725fd973bde5330f", func := "pointcode/pointcodelaw36.ContinuitiesNew", spec := "continuitiesNew", unfollowed := true, recurses := true, apart := false }
def ContinuitiesNewSaid : Prop := continuitiesNewRow.holds Try.pinned (OpenSpec.ofChange continuitiesNewSpec)

/-- ITS FALSE NEIGHBOUR: 'it returns false'. Refute it at one input. -/
def continuitiesNewWrong : ChangeSpec := { name := "continuitiesNew", fn := fun _ => fun
  | [d1, d2, d3] => { results := [.lit (.bool false)], args := [d1, d2, d3] }
  | _ => none }
def ContinuitiesNewWrongFalsely : Prop := continuitiesNewRow.holds Try.pinned (OpenSpec.ofChange continuitiesNewWrong)

/-- 'pointcodelaw36.ContinuitiesApart': WHATEVER THE INPUT: true; the input reads as it did. -/
def continuitiesApartSpec : ChangeSpec := { name := "continuitiesApart", fn := fun _ => fun
  | [d1, d2, d3] => { results := [.lit (.bool true)], args := [d1, d2, d3] }
  | _ => none }
def continuitiesApartRow : OpenClaim := { program := "ytjpjnidgcmkdbaa", sum := "d82ad7529857d7da454207f7fe75249d78650010aa0a6a61725fd973bde5330f", func := "pointcode/pointcodelaw36.ContinuitiesApart", spec := "continuitiesApart", unfollowed := true, recurses := true, apart := false }
def ContinuitiesApartSaid : Prop := continuitiesApartRow.holds Try.pinned (OpenSpec.ofChange continuitiesApartSpec)

/-- ITS FALSE NEIGHBOUR: 'it returns false'. Refute it at one input. -/
def continuitiesApartWrong : ChangeSpec := { name := "continuitiesApart", fn := fun _ => fun
  | [d1, d2, d3] => { results := [.lit (.bool false)], args := [d1, d2, d3] }
  | _ => none }
def ContinuitiesApartWrongFalsely : Prop := continuitiesApartRow.holds Try.pinned (OpenSpec.ofChange continuitiesApartWrong)

/- THE SECOND FORM. 'bulk': how many values and letters a reading holds, each counted each time it is reached (what is shared counts as often as it is met; a slice's spare places count too). A statement '..UptoSaid' is the law's where the arguments, and the package variables that the reading takes, are together of bulk at most 1048576: NARROWER than '..Said'. Prove '..Said' where nothing that the law and all that it calls make is longer than what came in: it says more and counts as full. Else prove '..UptoSaid'. A law counts once. -/
mutual
def uptoBulk {H : Type} : DataW H → Nat
  | .lit (.string bytes) => bytes.length + 1
  | .lit _ => 1
  | .nil => 1
  | .ptr d => uptoBulk d + 1
  | .slice elems spare => uptoBulkAll elems + uptoBulkAll spare + 1
  | .agg parts => uptoBulkAll parts + 1
  | .iface _ d => uptoBulk d + 1
  | .map entries => uptoBulkEntries entries + 1
  | .held _ => 1
def uptoBulkAll {H : Type} : List (DataW H) → Nat
  | [] => 0
  | d :: r => uptoBulk d + uptoBulkAll r
def uptoBulkEntries {H : Type} : List (Lit × DataW H) → Nat
  | [] => 0
  | x :: r => uptoBulkEntry x + uptoBulkEntries r
def uptoBulkEntry {H : Type} : Lit × DataW H → Nat
  | (.string bytes, d) => bytes.length + uptoBulk d + 1
  | (_, d) => uptoBulk d + 1
 end
def uptoSmall : (H : Type) → List (DataW H) → Bool := fun _ ds => decide (uptoBulkAll ds ≤ 1048576)
def OpenSpec.upto (s : _root_.Go.ChangeSpec) : _root_.Go.OpenSpec := { _root_.Go.OpenSpec.ofChange s with cond := some uptoSmall }

/-- 'pointcodelaw36.ContinuitiesLoops', WHERE WHAT IT READS IS OF BULK AT MOST 1048576: true; the input reads as it did. -/
def continuitiesLoopsUptoRow : OpenClaim := { program := "ytjpjnidgcmkdbaa", sum := "d82ad7529857d7da454207f7fe75249d78650010aa0a6a61725fd973bde5330f", func := "pointcode/pointcodelaw36.ContinuitiesLoops", spec := "continuitiesLoops", unfollowed := true, recurses := true, apart := false, narrowed := true }
def ContinuitiesLoopsUptoSaid : Prop := continuitiesLoopsUptoRow.holds Try.pinned (OpenSpec.upto continuitiesLoopsSpec)

/-- 'pointcodelaw36.ContinuitiesNew', WHERE WHAT IT READS IS OF BULK AT MOST 1048576: true; the input reads as it did. -/
def continuitiesNewUptoRow : OpenClaim := { program := "ytjpjnidgcmkdbaa", sum := "d82ad7529857d7da454207f7fe75249d78650010aa0a6a61725fd973bde5330f", func := "pointcode/pointcodelaw36.ContinuitiesNew", spec := "continuitiesNew", unfollowed := true, recurses := true, apart := false, narrowed := true }
def ContinuitiesNewUptoSaid : Prop := continuitiesNewUptoRow.holds Try.pinned (OpenSpec.upto continuitiesNewSpec)

/-- 'pointcodelaw36.ContinuitiesApart', WHERE WHAT IT READS IS OF BULK AT MOST 1048576: true; the input reads as it did. -/
def continuitiesApartUptoRow : OpenClaim := { program := "ytjpjnidgcmkdbaa", sum := "d82ad7529857d7da454207f7fe75249d78650010aa0a6a61725fd973bde5330f", func := "pointcode/pointcodelaw36.ContinuitiesApart", spec := "continuitiesApart", unfollowed := true, recurses := true, apart := false, narrowed := true }
def ContinuitiesApartUptoSaid : Prop := continuitiesApartUptoRow.holds Try.pinned (OpenSpec.upto continuitiesApartSpec)

end Rows
end Go.Proofs.Ytjpjnidgcmkdbaa
