/-
  No cell of these rows narrows 'for every input' (looked for: loops, veiled, ifaces, maps, wideKeys, modest, calm, conditions, laid).
  DERIVED. THE GIVEN ROWS OF THIS SEAT. 4 by the template 'for every input the law returns true; each argument reads behind the call as it read before'; 0 by the template 'total and deterministic' (their statements: YtpbbmnfffolcoaaTotals.lean).
  GIVEN WITH THE SEED: the statements are not yours to turn. If you find one false, say at which input.
  Laid BY PROGRAM, IN A SANDBOX (cutbox-rows.mjs): the forced cells as the released guide's own fill.sh prints them over the translation c5f556b158103cc1… (all of the seat's roots in one cut). By AI agents, Wed Nov 11 2026. No macro, syntax, notation, axiom, sorry.
-/
import Derived.Test.YtpbbmnfffolcoaaChecked
import GoSem.Claim
import GoSem.ClaimJoined
import GoSem.ClaimMapViews
import Derived.JoinedTies
import Derived.KernelRfl
namespace Go.Proofs.Ytpbbmnfffolcoaa
/- THE CELL 'sum', in the pinned program and in every row, IS THE sha256 OF THE DUMP (.gsa) THAT YtpbbmnfffolcoaaProg.lean LOADS. Nothing in Lean hashes anything: it is a label: what it is worth is what the hold of that sum in a sandbox is worth. -/
noncomputable def Try.pinned : Pinned := { name := "ytpbbmnfffolcoaa", sum := "c5f556b158103cc15b0f4f4c27df2a30ae95d6aaff9c855a566cea11d75e1404", checked := Try.checked }
namespace Rows
def none {H : Type} : Left H := { results := [], args := [] }

/-- 'pointcodelaw30.InvocationsActs': WHATEVER THE INPUT: true; the input reads as it did. -/
def invocationsActsSpec : ChangeSpec := { name := "invocationsActs", fn := fun _ => fun
  | [d] => { results := [.lit (.bool true)], args := [d] }
  | _ => none }
def invocationsActsRow : OpenClaim := { program := "ytpbbmnfffolcoaa", sum := "c5f556b158103cc15b0f4f4c27df2a30ae95d6aaff9c855a566cea11d75e1404", func := "pointcode/pointcodelaw30.InvocationsActs", spec := "invocationsActs", apart := false }
def InvocationsActsSaid : Prop := invocationsActsRow.holds Try.pinned (OpenSpec.ofChange invocationsActsSpec)

/-- ITS FALSE NEIGHBOUR: 'it returns false'. Refute it at one input. -/
def invocationsActsWrong : ChangeSpec := { name := "invocationsActs", fn := fun _ => fun
  | [d] => { results := [.lit (.bool false)], args := [d] }
  | _ => none }
def InvocationsActsWrongFalsely : Prop := invocationsActsRow.holds Try.pinned (OpenSpec.ofChange invocationsActsWrong)

/-- 'pointcodelaw30.InvocationsOnce': WHATEVER THE INPUT: true; the input reads as it did. -/
def invocationsOnceSpec : ChangeSpec := { name := "invocationsOnce", fn := fun _ => fun
  | [d] => { results := [.lit (.bool true)], args := [d] }
  | _ => none }
def invocationsOnceRow : OpenClaim := { program := "ytpbbmnfffolcoaa", sum := "c5f556b158103cc15b0f4f4c27df2a30ae95d6aaff9c855a566cea11d75e1404", func := "pointcode/pointcodelaw30.InvocationsOnce", spec := "invocationsOnce", apart := false }
def InvocationsOnceSaid : Prop := invocationsOnceRow.holds Try.pinned (OpenSpec.ofChange invocationsOnceSpec)

/-- ITS FALSE NEIGHBOUR: 'it returns false'. Refute it at one input. -/
def invocationsOnceWrong : ChangeSpec := { name := "invocationsOnce", fn := fun _ => fun
  | [d] => { results := [.lit (.bool false)], args := [d] }
  | _ => none }
def InvocationsOnceWrongFalsely : Prop := invocationsOnceRow.holds Try.pinned (OpenSpec.ofChange invocationsOnceWrong)

/-- 'pointcodelaw30.InvocationsErrors': WHATEVER THE INPUT: true; the input reads as it did. -/
def invocationsErrorsSpec : ChangeSpec := { name := "invocationsErrors", fn := fun _ => fun
  | [d1, d2, d3] => { results := [.lit (.bool true)], args := [d1, d2, d3] }
  | _ => none }
def invocationsErrorsRow : OpenClaim := { program := "ytpbbmnfffolcoaa", sum := "c5f556b158103cc15b0f4f4c27df2a30ae95d6aaff9c855a566cea11d75e1404", func := "pointcode/pointcodelaw30.InvocationsErrors", spec := "invocationsErrors", apart := false }
def InvocationsErrorsSaid : Prop := invocationsErrorsRow.holds Try.pinned (OpenSpec.ofChange invocationsErrorsSpec)

/-- ITS FALSE NEIGHBOUR: 'it returns false'. Refute it at one input. -/
def invocationsErrorsWrong : ChangeSpec := { name := "invocationsErrors", fn := fun _ => fun
  | [d1, d2, d3] => { results := [.lit (.bool false)], args := [d1, d2, d3] }
  | _ => none }
def InvocationsErrorsWrongFalsely : Prop := invocationsErrorsRow.holds Try.pinned (OpenSpec.ofChange invocationsErrorsWrong)

/-- 'pointcodelaw30.InvocationsKnown': WHATEVER THE INPUT: true; the input reads as it did. -/
def invocationsKnownSpec : ChangeSpec := { name := "invocationsKnown", fn := fun _ => fun
  | [] => { results := [.lit (.bool true)], args := [] }
  | _ => none }
def invocationsKnownRow : OpenClaim := { program := "ytpbbmnfffolcoaa", sum := "c5f556b158103cc15b0f4f4c27df2a30ae95d6aaff9c855a566cea11d75e1404", func := "pointcode/pointcodelaw30.InvocationsKnown", spec := "invocationsKnown", apart := false }
def InvocationsKnownSaid : Prop := invocationsKnownRow.holds Try.pinned (OpenSpec.ofChange invocationsKnownSpec)

/-- ITS FALSE NEIGHBOUR: 'it returns false'. Refute it at one input. -/
def invocationsKnownWrong : ChangeSpec := { name := "invocationsKnown", fn := fun _ => fun
  | [] => { results := [.lit (.bool false)], args := [] }
  | _ => none }
def InvocationsKnownWrongFalsely : Prop := invocationsKnownRow.holds Try.pinned (OpenSpec.ofChange invocationsKnownWrong)

/- THE SECOND FORM. 'bulk': how many values and letters a reading holds, each counted each time it is reached (what is shared counts as often as it is met; a slice's spare places count too). A statement '..UptoSaid' is the law's where the arguments, and the package variables that the reading takes, are together of bulk at most 1048576: NARROWER than '..Said'. Prove '..Said' where nothing that the law and all that it calls make is longer than what came in: it says more and counts as full. Else prove '..UptoSaid'. A law counts once. -/
mutual
def uptoBulk {H : Type} : DataW H → Nat
  | .lit (.string bytes) => bytes.length + 1
  | .lit _ => 1
  | .nil => 1
  | .ptr d => uptoBulk d + 1
  | .slice elems spare => uptoBulkAll elems + uptoBulkAll spare + 1
  | .agg parts => uptoBulkAll parts + 1
  | .iface _ d => uptoBulk d + 1
  | .map entries => uptoBulkEntries entries + 1
  | .held _ => 1
def uptoBulkAll {H : Type} : List (DataW H) → Nat
  | [] => 0
  | d :: r => uptoBulk d + uptoBulkAll r
def uptoBulkEntries {H : Type} : List (Lit × DataW H) → Nat
  | [] => 0
  | x :: r => uptoBulkEntry x + uptoBulkEntries r
def uptoBulkEntry {H : Type} : Lit × DataW H → Nat
  | (.string bytes, d) => bytes.length + uptoBulk d + 1
  | (_, d) => uptoBulk d + 1
 end
def uptoSmall : (H : Type) → List (DataW H) → Bool := fun _ ds => decide (uptoBulkAll ds ≤ 1048576)
def OpenSpec.upto (s : _root_.Go.ChangeSpec) : _root_.Go.OpenSpec := { _root_.Go.OpenSpec.ofChange s with cond := some uptoSmall }

/-- 'pointcodelaw30.InvocationsActs', WHERE WHAT IT READS IS OF BULK AT MOST 1048576: true; the input reads as it did. -/
def invocationsActsUptoRow : OpenClaim := { program := "ytpbbmnfffolcoaa", sum := "c5f556b158103cc15b0f4f4c27df2a30ae95d6aaff9c855a566cea11d75e1404", func := "pointcode/pointcodelaw30.InvocationsActs", spec := "invocationsActs", apart := false, narrowed := true }
def InvocationsActsUptoSaid : Prop := invocationsActsUptoRow.holds Try.pinned (OpenSpec.upto invocationsActsSpec)

/-- 'pointcodelaw30.InvocationsOnce', WHERE WHAT IT READS IS OF BULK AT MOST 1048576: true; the input reads as it did. -/
def invocationsOnceUptoRow : OpenClaim := { program := "ytpbbmnfffolcoaa", sum := "c5f556b158103cc15b0f4f4c27df2a30ae95d6aaff9c855a566cea11d75e1404", func := "pointcode/pointcodelaw30.InvocationsOnce", spec := "invocationsOnce", apart := false, narrowed := true }
def InvocationsOnceUptoSaid : Prop := invocationsOnceUptoRow.holds Try.pinned (OpenSpec.upto invocationsOnceSpec)

/-- 'pointcodelaw30.InvocationsErrors', WHERE WHAT IT READS IS OF BULK AT MOST 1048576: true; the input reads as it did. -/
def invocationsErrorsUptoRow : OpenClaim := { program := "ytpbbmnfffolcoaa", sum := "c5f556b158103cc15b0f4f4c27df2a30ae95d6aaff9c855a566cea11d75e1404", func := "pointcode/pointcodelaw30.InvocationsErrors", spec := "invocationsErrors", apart := false, narrowed := true }
def InvocationsErrorsUptoSaid : Prop := invocationsErrorsUptoRow.holds Try.pinned (OpenSpec.upto invocationsErrorsSpec)

/-- 'pointcodelaw30.InvocationsKnown', WHERE WHAT IT READS IS OF BULK AT MOST 1048576: true; the input reads as it did. -/
def invocationsKnownUptoRow : OpenClaim := { program := "ytpbbmnfffolcoaa", sum := "c5f556b158103cc15b0f4f4c27df2a30ae95d6aaff9c855a566cea11d75e1404", func := "pointcode/pointcodelaw30.InvocationsKnown", spec := "invocationsKnown", apart := false, narrowed := true }
def InvocationsKnownUptoSaid : Prop := invocationsKnownUptoRow.holds Try.pinned (OpenSpec.upto invocationsKnownSpec)

end Rows
end Go.Proofs.Ytpbbmnfffolcoaa
