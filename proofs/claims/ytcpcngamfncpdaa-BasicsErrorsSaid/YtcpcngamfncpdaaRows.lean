/-
  No cell of these rows narrows 'for every input' (looked for: loops, veiled, ifaces, maps, wideKeys, modest, calm, conditions, laid).
  DERIVED. THE GIVEN ROWS OF THIS SEAT. 6 by the template 'for every input the law returns true; each argument reads behind the call as it read before'; 0 by the template 'total and deterministic' (their statements: YtcpcngamfncpdaaTotals.lean).
  GIVEN WITH THE SEED: the statements are not yours to turn. If you find one false, say at which input.
  Laid BY PROGRAM, IN A SANDBOX (cutbox-rows.mjs): the forced cells as the released guide's own fill.sh prints them over the translation 450fd8ecae984423… (all of the seat's roots in one cut). By AI agents, Wed Nov 11 2026. No macro, syntax, notation, axiom, sorry.
-/
import Derived.Test.YtcpcngamfncpdaaChecked
import GoSem.Claim
import GoSem.ClaimJoined
import GoSem.ClaimMapViews
import Derived.JoinedTies
import Derived.KernelRfl
namespace Go.Proofs.Ytcpcngamfncpdaa
/- THE CELL 'sum', in the pinned program and in every row, IS THE sha256 OF THE DUMP (.gsa) THAT YtcpcngamfncpdaaProg.lean LOADS. Nothing in Lean hashes anything: it is a label: what it is worth is what the hold of that sum in a sandbox is worth. -/
noncomputable def Try.pinned : Pinned := { name := "ytcpcngamfncpdaa", sum := "450fd8ecae9844234e5dfc5105466457079fc4fec282c822d7a24a9eeafa18d6", checked := Try.checked }
namespace Rows
def none {H : Type} : Left H := { results := [], args := [] }

/-- 'pointcodelaw06.BasicsPrefix': WHATEVER THE INPUT: true; the input reads as it did. -/
def basicsPrefixSpec : ChangeSpec := { name := "basicsPrefix", fn := fun _ => fun
  | [d] => { results := [.lit (.bool true)], args := [d] }
  | _ => none }
def basicsPrefixRow : OpenClaim := { program := "ytcpcngamfncpdaa", sum := "450fd8ecae9844234e5dfc5105466457079fc4fec282c822d7a24a9eeafa18d6", func := "pointcode/pointcodelaw06.BasicsPrefix", spec := "basicsPrefix", apart := false }
def BasicsPrefixSaid : Prop := basicsPrefixRow.holds Try.pinned (OpenSpec.ofChange basicsPrefixSpec)

/-- ITS FALSE NEIGHBOUR: 'it returns false'. Refute it at one input. -/
def basicsPrefixWrong : ChangeSpec := { name := "basicsPrefix", fn := fun _ => fun
  | [d] => { results := [.lit (.bool false)], args := [d] }
  | _ => none }
def BasicsPrefixWrongFalsely : Prop := basicsPrefixRow.holds Try.pinned (OpenSpec.ofChange basicsPrefixWrong)

/-- 'pointcodelaw06.BasicsAbnormal': WHATEVER THE INPUT: true; the input reads as it did. -/
def basicsAbnormalSpec : ChangeSpec := { name := "basicsAbnormal", fn := fun _ => fun
  | [d] => { results := [.lit (.bool true)], args := [d] }
  | _ => none }
def basicsAbnormalRow : OpenClaim := { program := "ytcpcngamfncpdaa", sum := "450fd8ecae9844234e5dfc5105466457079fc4fec282c822d7a24a9eeafa18d6", func := "pointcode/pointcodelaw06.BasicsAbnormal", spec := "basicsAbnormal", apart := false }
def BasicsAbnormalSaid : Prop := basicsAbnormalRow.holds Try.pinned (OpenSpec.ofChange basicsAbnormalSpec)

/-- ITS FALSE NEIGHBOUR: 'it returns false'. Refute it at one input. -/
def basicsAbnormalWrong : ChangeSpec := { name := "basicsAbnormal", fn := fun _ => fun
  | [d] => { results := [.lit (.bool false)], args := [d] }
  | _ => none }
def BasicsAbnormalWrongFalsely : Prop := basicsAbnormalRow.holds Try.pinned (OpenSpec.ofChange basicsAbnormalWrong)

/-- 'pointcodelaw06.BasicsRest': WHATEVER THE INPUT: true; the input reads as it did. -/
def basicsRestSpec : ChangeSpec := { name := "basicsRest", fn := fun _ => fun
  | [d] => { results := [.lit (.bool true)], args := [d] }
  | _ => none }
def basicsRestRow : OpenClaim := { program := "ytcpcngamfncpdaa", sum := "450fd8ecae9844234e5dfc5105466457079fc4fec282c822d7a24a9eeafa18d6", func := "pointcode/pointcodelaw06.BasicsRest", spec := "basicsRest", apart := false }
def BasicsRestSaid : Prop := basicsRestRow.holds Try.pinned (OpenSpec.ofChange basicsRestSpec)

/-- ITS FALSE NEIGHBOUR: 'it returns false'. Refute it at one input. -/
def basicsRestWrong : ChangeSpec := { name := "basicsRest", fn := fun _ => fun
  | [d] => { results := [.lit (.bool false)], args := [d] }
  | _ => none }
def BasicsRestWrongFalsely : Prop := basicsRestRow.holds Try.pinned (OpenSpec.ofChange basicsRestWrong)

/-- 'pointcodelaw06.BasicsWindow': WHATEVER THE INPUT: true; the input reads as it did. -/
def basicsWindowSpec : ChangeSpec := { name := "basicsWindow", fn := fun _ => fun
  | [d1, d2] => { results := [.lit (.bool true)], args := [d1, d2] }
  | _ => none }
def basicsWindowRow : OpenClaim := { program := "ytcpcngamfncpdaa", sum := "450fd8ecae9844234e5dfc5105466457079fc4fec282c822d7a24a9eeafa18d6", func := "pointcode/pointcodelaw06.BasicsWindow", spec := "basicsWindow", apart := false }
def BasicsWindowSaid : Prop := basicsWindowRow.holds Try.pinned (OpenSpec.ofChange basicsWindowSpec)

/-- ITS FALSE NEIGHBOUR: 'it returns false'. Refute it at one input. -/
def basicsWindowWrong : ChangeSpec := { name := "basicsWindow", fn := fun _ => fun
  | [d1, d2] => { results := [.lit (.bool false)], args := [d1, d2] }
  | _ => none }
def BasicsWindowWrongFalsely : Prop := basicsWindowRow.holds Try.pinned (OpenSpec.ofChange basicsWindowWrong)

/-- 'pointcodelaw06.BasicsErrors': WHATEVER THE INPUT: true; the input reads as it did. -/
def basicsErrorsSpec : ChangeSpec := { name := "basicsErrors", fn := fun _ => fun
  | [d1, d2] => { results := [.lit (.bool true)], args := [d1, d2] }
  | _ => none }
def basicsErrorsRow : OpenClaim := { program := "ytcpcngamfncpdaa", sum := "450fd8ecae9844234e5dfc5105466457079fc4fec282c822d7a24a9eeafa18d6", func := "pointcode/pointcodelaw06.BasicsErrors", spec := "basicsErrors", apart := false }
def BasicsErrorsSaid : Prop := basicsErrorsRow.holds Try.pinned (OpenSpec.ofChange basicsErrorsSpec)

/-- ITS FALSE NEIGHBOUR: 'it returns false'. Refute it at one input. -/
def basicsErrorsWrong : ChangeSpec := { name := "basicsErrors", fn := fun _ => fun
  | [d1, d2] => { results := [.lit (.bool false)], args := [d1, d2] }
  | _ => none }
def BasicsErrorsWrongFalsely : Prop := basicsErrorsRow.holds Try.pinned (OpenSpec.ofChange basicsErrorsWrong)

/-- 'pointcodelaw06.BasicsScript': WHATEVER THE INPUT: true; the input reads as it did. -/
def basicsScriptSpec : ChangeSpec := { name := "basicsScript", fn := fun _ => fun
  | [d] => { results := [.lit (.bool true)], args := [d] }
  | _ => none }
def basicsScriptRow : OpenClaim := { program := "ytcpcngamfncpdaa", sum := "450fd8ecae9844234e5dfc5105466457079fc4fec282c822d7a24a9eeafa18d6", func := "pointcode/pointcodelaw06.BasicsScript", spec := "basicsScript", apart := false }
def BasicsScriptSaid : Prop := basicsScriptRow.holds Try.pinned (OpenSpec.ofChange basicsScriptSpec)

/-- ITS FALSE NEIGHBOUR: 'it returns false'. Refute it at one input. -/
def basicsScriptWrong : ChangeSpec := { name := "basicsScript", fn := fun _ => fun
  | [d] => { results := [.lit (.bool false)], args := [d] }
  | _ => none }
def BasicsScriptWrongFalsely : Prop := basicsScriptRow.holds Try.pinned (OpenSpec.ofChange basicsScriptWrong)

/- THE SECOND FORM. 'bulk': how many values and letters a reading holds, each counted each time it is reached (what is shared counts as often as it is met; a slice's spare places count too). A statement '..UptoSaid' is the law's where the arguments, and the package variables that the reading takes, are together of bulk at most 1048576: NARROWER than '..Said'. Prove '..Said' where nothing that the law and all that it calls make is longer than what came in: it says more and counts as full. Else prove '..UptoSaid'. A law counts once. -/
mutual
def uptoBulk {H : Type} : DataW H → Nat
  | .lit (.string bytes) => bytes.length + 1
  | .lit _ => 1
  | .nil => 1
  | .ptr d => uptoBulk d + 1
  | .slice elems spare => uptoBulkAll elems + uptoBulkAll spare + 1
  | .agg parts => uptoBulkAll parts + 1
  | .iface _ d => uptoBulk d + 1
  | .map entries => uptoBulkEntries entries + 1
  | .held _ => 1
def uptoBulkAll {H : Type} : List (DataW H) → Nat
  | [] => 0
  | d :: r => uptoBulk d + uptoBulkAll r
def uptoBulkEntries {H : Type} : List (Lit × DataW H) → Nat
  | [] => 0
  | x :: r => uptoBulkEntry x + uptoBulkEntries r
def uptoBulkEntry {H : Type} : Lit × DataW H → Nat
  | (.string bytes, d) => bytes.length + uptoBulk d + 1
  | (_, d) => uptoBulk d + 1
 end
def uptoSmall : (H : Type) → List (DataW H) → Bool := fun _ ds => decide (uptoBulkAll ds ≤ 1048576)
def OpenSpec.upto (s : _root_.Go.ChangeSpec) : _root_.Go.OpenSpec := { _root_.Go.OpenSpec.ofChange s with cond := some uptoSmall }

/-- 'pointcodelaw06.BasicsPrefix', WHERE WHAT IT READS IS OF BULK AT MOST 1048576: true; the input reads as it did. -/
def basicsPrefixUptoRow : OpenClaim := { program := "ytcpcngamfncpdaa", sum := "450fd8ecae9844234e5dfc5105466457079fc4fec282c822d7a24a9eeafa18d6", func := "pointcode/pointcodelaw06.BasicsPrefix", spec := "basicsPrefix", apart := false, narrowed := true }
def BasicsPrefixUptoSaid : Prop := basicsPrefixUptoRow.holds Try.pinned (OpenSpec.upto basicsPrefixSpec)

/-- 'pointcodelaw06.BasicsAbnormal', WHERE WHAT IT READS IS OF BULK AT MOST 1048576: true; the input reads as it did. -/
def basicsAbnormalUptoRow : OpenClaim := { program := "ytcpcngamfncpdaa", sum := "450fd8ecae9844234e5dfc5105466457079fc4fec282c822d7a24a9eeafa18d6", func := "pointcode/pointcodelaw06.BasicsAbnormal", spec := "basicsAbnormal", apart := false, narrowed := true }
def BasicsAbnormalUptoSaid : Prop := basicsAbnormalUptoRow.holds Try.pinned (OpenSpec.upto basicsAbnormalSpec)

/-- 'pointcodelaw06.BasicsRest', WHERE WHAT IT READS IS OF BULK AT MOST 1048576: true; the input reads as it did. -/
def basicsRestUptoRow : OpenClaim := { program := "ytcpcngamfncpdaa", sum := "450fd8ecae9844234e5dfc5105466457079fc4fec282c822d7a24a9eeafa18d6", func := "pointcode/pointcodelaw06.BasicsRest", spec := "basicsRest", apart := false, narrowed := true }
def BasicsRestUptoSaid : Prop := basicsRestUptoRow.holds Try.pinned (OpenSpec.upto basicsRestSpec)

/-- 'pointcodelaw06.BasicsWindow', WHERE WHAT IT READS IS OF BULK AT MOST 1048576: true; the input reads as it did. -/
def basicsWindowUptoRow : OpenClaim := { program := "ytcpcngamfncpdaa", sum := "450fd8ecae9844234e5dfc5105466457079fc4fec282c822d7a24a9eeafa18d6", func := "pointcode/pointcodelaw06.BasicsWindow", spec := "basicsWindow", apart := false, narrowed := true }
def BasicsWindowUptoSaid : Prop := basicsWindowUptoRow.holds Try.pinned (OpenSpec.upto basicsWindowSpec)

/-- 'pointcodelaw06.BasicsErrors', WHERE WHAT IT READS IS OF BULK AT MOST 1048576: true; the input reads as it did. -/
def basicsErrorsUptoRow : OpenClaim := { program := "ytcpcngamfncpdaa", sum := "450fd8ecae9844234e5dfc5105466457079fc4fec282c822d7a24a9eeafa18d6", func := "pointcode/pointcodelaw06.BasicsErrors", spec := "basicsErrors", apart := false, narrowed := true }
def BasicsErrorsUptoSaid : Prop := basicsErrorsUptoRow.holds Try.pinned (OpenSpec.upto basicsErrorsSpec)

/-- 'pointcodelaw06.BasicsScript', WHERE WHAT IT READS IS OF BULK AT MOST 1048576: true; the input reads as it did. -/
def basicsScriptUptoRow : OpenClaim := { program := "ytcpcngamfncpdaa", sum := "450fd8ecae9844234e5dfc5105466457079fc4fec282c822d7a24a9eeafa18d6", func := "pointcode/pointcodelaw06.BasicsScript", spec := "basicsScript", apart := false, narrowed := true }
def BasicsScriptUptoSaid : Prop := basicsScriptUptoRow.holds Try.pinned (OpenSpec.upto basicsScriptSpec)

end Rows
end Go.Proofs.Ytcpcngamfncpdaa
