/-
  No cell of these rows narrows 'for every input' (looked for: loops, veiled, ifaces, maps, wideKeys, modest, calm, conditions, laid).
  DERIVED. THE GIVEN ROWS OF THIS SEAT. 6 by the template 'for every input the law returns true; each argument reads behind the call as it read before'; 0 by the template 'total and deterministic' (their statements: YtemphcppnjlkcaaTotals.lean).
  GIVEN WITH THE SEED: the statements are not yours to turn. If you find one false, say at which input.
  Laid BY PROGRAM, IN A SANDBOX (cutbox-rows.mjs): the forced cells as the released guide's own fill.sh prints them over the translation 6706ba0ded1538b1… (all of the seat's roots in one cut). By AI agents, Wed Nov 11 2026. No macro, syntax, notation, axiom, sorry.
-/
import Derived.Test.YtemphcppnjlkcaaChecked
import GoSem.Claim
import GoSem.ClaimJoined
import GoSem.ClaimMapViews
import Derived.JoinedTies
import Derived.KernelRfl
namespace Go.Proofs.Ytemphcppnjlkcaa
/- THE CELL 'sum', in the pinned program and in every row, IS THE sha256 OF THE DUMP (.gsa) THAT YtemphcppnjlkcaaProg.lean LOADS. Nothing in Lean hashes anything: it is a label: what it is worth is what the hold of that sum in a sandbox is worth. -/
noncomputable def Try.pinned : Pinned := { name := "ytemphcppnjlkcaa", sum := "6706ba0ded1538b1bd7a1d7ee54db83ae482315ccbc2990dc81dd370fd5dd530", checked := Try.checked }
namespace Rows
def none {H : Type} : Left H := { results := [], args := [] }

/-- 'pointcodelaw05.LinesScript': WHATEVER THE INPUT: true; the input reads as it did. -/
def linesScriptSpec : ChangeSpec := { name := "linesScript", fn := fun _ => fun
  | [d1, d2] => { results := [.lit (.bool true)], args := [d1, d2] }
  | _ => none }
def linesScriptRow : OpenClaim := { program := "ytemphcppnjlkcaa", sum := "6706ba0ded1538b1bd7a1d7ee54db83ae482315ccbc2990dc81dd370fd5dd530", func := "pointcode/pointcodelaw05.LinesScript", spec := "linesScript", unfollowed := true, recurses := true, apart := false }
def LinesScriptSaid : Prop := linesScriptRow.holds Try.pinned (OpenSpec.ofChange linesScriptSpec)

/-- ITS FALSE NEIGHBOUR: 'it returns false'. Refute it at one input. -/
def linesScriptWrong : ChangeSpec := { name := "linesScript", fn := fun _ => fun
  | [d1, d2] => { results := [.lit (.bool false)], args := [d1, d2] }
  | _ => none }
def LinesScriptWrongFalsely : Prop := linesScriptRow.holds Try.pinned (OpenSpec.ofChange linesScriptWrong)

/-- 'pointcodelaw05.LinesOrder': WHATEVER THE INPUT: true; the input reads as it did. -/
def linesOrderSpec : ChangeSpec := { name := "linesOrder", fn := fun _ => fun
  | [d1, d2, d3] => { results := [.lit (.bool true)], args := [d1, d2, d3] }
  | _ => none }
def linesOrderRow : OpenClaim := { program := "ytemphcppnjlkcaa", sum := "6706ba0ded1538b1bd7a1d7ee54db83ae482315ccbc2990dc81dd370fd5dd530", func := "pointcode/pointcodelaw05.LinesOrder", spec := "linesOrder", unfollowed := true, recurses := true, apart := false }
def LinesOrderSaid : Prop := linesOrderRow.holds Try.pinned (OpenSpec.ofChange linesOrderSpec)

/-- ITS FALSE NEIGHBOUR: 'it returns false'. Refute it at one input. -/
def linesOrderWrong : ChangeSpec := { name := "linesOrder", fn := fun _ => fun
  | [d1, d2, d3] => { results := [.lit (.bool false)], args := [d1, d2, d3] }
  | _ => none }
def LinesOrderWrongFalsely : Prop := linesOrderRow.holds Try.pinned (OpenSpec.ofChange linesOrderWrong)

/-- 'pointcodelaw05.LinesClean': WHATEVER THE INPUT: true; the input reads as it did. -/
def linesCleanSpec : ChangeSpec := { name := "linesClean", fn := fun _ => fun
  | [d1, d2] => { results := [.lit (.bool true)], args := [d1, d2] }
  | _ => none }
def linesCleanRow : OpenClaim := { program := "ytemphcppnjlkcaa", sum := "6706ba0ded1538b1bd7a1d7ee54db83ae482315ccbc2990dc81dd370fd5dd530", func := "pointcode/pointcodelaw05.LinesClean", spec := "linesClean", unfollowed := true, recurses := true, apart := false }
def LinesCleanSaid : Prop := linesCleanRow.holds Try.pinned (OpenSpec.ofChange linesCleanSpec)

/-- ITS FALSE NEIGHBOUR: 'it returns false'. Refute it at one input. -/
def linesCleanWrong : ChangeSpec := { name := "linesClean", fn := fun _ => fun
  | [d1, d2] => { results := [.lit (.bool false)], args := [d1, d2] }
  | _ => none }
def LinesCleanWrongFalsely : Prop := linesCleanRow.holds Try.pinned (OpenSpec.ofChange linesCleanWrong)

/-- 'pointcodelaw05.LinesAlone': WHATEVER THE INPUT: true; the input reads as it did. -/
def linesAloneSpec : ChangeSpec := { name := "linesAlone", fn := fun _ => fun
  | [d1, d2, d3] => { results := [.lit (.bool true)], args := [d1, d2, d3] }
  | _ => none }
def linesAloneRow : OpenClaim := { program := "ytemphcppnjlkcaa", sum := "6706ba0ded1538b1bd7a1d7ee54db83ae482315ccbc2990dc81dd370fd5dd530", func := "pointcode/pointcodelaw05.LinesAlone", spec := "linesAlone", unfollowed := true, recurses := true, apart := false }
def LinesAloneSaid : Prop := linesAloneRow.holds Try.pinned (OpenSpec.ofChange linesAloneSpec)

/-- ITS FALSE NEIGHBOUR: 'it returns false'. Refute it at one input. -/
def linesAloneWrong : ChangeSpec := { name := "linesAlone", fn := fun _ => fun
  | [d1, d2, d3] => { results := [.lit (.bool false)], args := [d1, d2, d3] }
  | _ => none }
def LinesAloneWrongFalsely : Prop := linesAloneRow.holds Try.pinned (OpenSpec.ofChange linesAloneWrong)

/-- 'pointcodelaw05.LinesErrors': WHATEVER THE INPUT: true; the input reads as it did. -/
def linesErrorsSpec : ChangeSpec := { name := "linesErrors", fn := fun _ => fun
  | [d1, d2, d3] => { results := [.lit (.bool true)], args := [d1, d2, d3] }
  | _ => none }
def linesErrorsRow : OpenClaim := { program := "ytemphcppnjlkcaa", sum := "6706ba0ded1538b1bd7a1d7ee54db83ae482315ccbc2990dc81dd370fd5dd530", func := "pointcode/pointcodelaw05.LinesErrors", spec := "linesErrors", unfollowed := true, recurses := true, apart := false }
def LinesErrorsSaid : Prop := linesErrorsRow.holds Try.pinned (OpenSpec.ofChange linesErrorsSpec)

/-- ITS FALSE NEIGHBOUR: 'it returns false'. Refute it at one input. -/
def linesErrorsWrong : ChangeSpec := { name := "linesErrors", fn := fun _ => fun
  | [d1, d2, d3] => { results := [.lit (.bool false)], args := [d1, d2, d3] }
  | _ => none }
def LinesErrorsWrongFalsely : Prop := linesErrorsRow.holds Try.pinned (OpenSpec.ofChange linesErrorsWrong)

/-- 'pointcodelaw05.LinesFull': WHATEVER THE INPUT: true; the input reads as it did. -/
def linesFullSpec : ChangeSpec := { name := "linesFull", fn := fun _ => fun
  | [d1, d2] => { results := [.lit (.bool true)], args := [d1, d2] }
  | _ => none }
def linesFullRow : OpenClaim := { program := "ytemphcppnjlkcaa", sum := "6706ba0ded1538b1bd7a1d7ee54db83ae482315ccbc2990dc81dd370fd5dd530", func := "pointcode/pointcodelaw05.LinesFull", spec := "linesFull", unfollowed := true, recurses := true, apart := false }
def LinesFullSaid : Prop := linesFullRow.holds Try.pinned (OpenSpec.ofChange linesFullSpec)

/-- ITS FALSE NEIGHBOUR: 'it returns false'. Refute it at one input. -/
def linesFullWrong : ChangeSpec := { name := "linesFull", fn := fun _ => fun
  | [d1, d2] => { results := [.lit (.bool false)], args := [d1, d2] }
  | _ => none }
def LinesFullWrongFalsely : Prop := linesFullRow.holds Try.pinned (OpenSpec.ofChange linesFullWrong)

/- THE SECOND FORM. 'bulk': how many values and letters a reading holds, each counted each time it is reached (what is shared counts as often as it is met; a slice's spare places count too). A statement '..UptoSaid' is the law's where the arguments, and the package variables that the reading takes, are together of bulk at most 1048576: NARROWER than '..Said'. Prove '..Said' where nothing that the law and all that it calls make is longer than what came in: it says more and counts as full. Else prove '..UptoSaid'. A law counts once. -/
mutual
def uptoBulk {H : Type} : DataW H → Nat
  | .lit (.string bytes) => bytes.length + 1
  | .lit _ => 1
  | .nil => 1
  | .ptr d => uptoBulk d + 1
  | .slice elems spare => uptoBulkAll elems + uptoBulkAll spare + 1
  | .agg parts => uptoBulkAll parts + 1
  | .iface _ d => uptoBulk d + 1
  | .map entries => uptoBulkEntries entries + 1
  | .held _ => 1
def uptoBulkAll {H : Type} : List (DataW H) → Nat
  | [] => 0
  | d :: r => uptoBulk d + uptoBulkAll r
def uptoBulkEntries {H : Type} : List (Lit × DataW H) → Nat
  | [] => 0
  | x :: r => uptoBulkEntry x + uptoBulkEntries r
def uptoBulkEntry {H : Type} : Lit × DataW H → Nat
  | (.string bytes, d) => bytes.length + uptoBulk d + 1
  | (_, d) => uptoBulk d + 1
 end
def uptoSmall : (H : Type) → List (DataW H) → Bool := fun _ ds => decide (uptoBulkAll ds ≤ 1048576)
def OpenSpec.upto (s : _root_.Go.ChangeSpec) : _root_.Go.OpenSpec := { _root_.Go.OpenSpec.ofChange s with cond := some uptoSmall }

/-- 'pointcodelaw05.LinesScript', WHERE WHAT IT READS IS OF BULK AT MOST 1048576: true; the input reads as it did. -/
def linesScriptUptoRow : OpenClaim := { program := "ytemphcppnjlkcaa", sum := "6706ba0ded1538b1bd7a1d7ee54db83ae482315ccbc2990dc81dd370fd5dd530", func := "pointcode/pointcodelaw05.LinesScript", spec := "linesScript", unfollowed := true, recurses := true, apart := false, narrowed := true }
def LinesScriptUptoSaid : Prop := linesScriptUptoRow.holds Try.pinned (OpenSpec.upto linesScriptSpec)

/-- 'pointcodelaw05.LinesOrder', WHERE WHAT IT READS IS OF BULK AT MOST 1048576: true; the input reads as it did. -/
def linesOrderUptoRow : OpenClaim := { program := "ytemphcppnjlkcaa", sum := "6706ba0ded1538b1bd7a1d7ee54db83ae482315ccbc2990dc81dd370fd5dd530", func := "pointcode/pointcodelaw05.LinesOrder", spec := "linesOrder", unfollowed := true, recurses := true, apart := false, narrowed := true }
def LinesOrderUptoSaid : Prop := linesOrderUptoRow.holds Try.pinned (OpenSpec.upto linesOrderSpec)

/-- 'pointcodelaw05.LinesClean', WHERE WHAT IT READS IS OF BULK AT MOST 1048576: true; the input reads as it did. -/
def linesCleanUptoRow : OpenClaim := { program := "ytemphcppnjlkcaa", sum := "6706ba0ded1538b1bd7a1d7ee54db83ae482315ccbc2990dc81dd370fd5dd530", func := "pointcode/pointcodelaw05.LinesClean", spec := "linesClean", unfollowed := true, recurses := true, apart := false, narrowed := true }
def LinesCleanUptoSaid : Prop := linesCleanUptoRow.holds Try.pinned (OpenSpec.upto linesCleanSpec)

/-- 'pointcodelaw05.LinesAlone', WHERE WHAT IT READS IS OF BULK AT MOST 1048576: true; the input reads as it did. -/
def linesAloneUptoRow : OpenClaim := { program := "ytemphcppnjlkcaa", sum := "6706ba0ded1538b1bd7a1d7ee54db83ae482315ccbc2990dc81dd370fd5dd530", func := "pointcode/pointcodelaw05.LinesAlone", spec := "linesAlone", unfollowed := true, recurses := true, apart := false, narrowed := true }
def LinesAloneUptoSaid : Prop := linesAloneUptoRow.holds Try.pinned (OpenSpec.upto linesAloneSpec)

/-- 'pointcodelaw05.LinesErrors', WHERE WHAT IT READS IS OF BULK AT MOST 1048576: true; the input reads as it did. -/
def linesErrorsUptoRow : OpenClaim := { program := "ytemphcppnjlkcaa", sum := "6706ba0ded1538b1bd7a1d7ee54db83ae482315ccbc2990dc81dd370fd5dd530", func := "pointcode/pointcodelaw05.LinesErrors", spec := "linesErrors", unfollowed := true, recurses := true, apart := false, narrowed := true }
def LinesErrorsUptoSaid : Prop := linesErrorsUptoRow.holds Try.pinned (OpenSpec.upto linesErrorsSpec)

/-- 'pointcodelaw05.LinesFull', WHERE WHAT IT READS IS OF BULK AT MOST 1048576: true; the input reads as it did. -/
def linesFullUptoRow : OpenClaim := { program := "ytemphcppnjlkcaa", sum := "6706ba0ded1538b1bd7a1d7ee54db83ae482315ccbc2990dc81dd370fd5dd530", func := "pointcode/pointcodelaw05.LinesFull", spec := "linesFull", unfollowed := true, recurses := true, apart := false, narrowed := true }
def LinesFullUptoSaid : Prop := linesFullUptoRow.holds Try.pinned (OpenSpec.upto linesFullSpec)

end Rows
end Go.Proofs.Ytemphcppnjlkcaa
