/-
  No cell of these rows narrows 'for every input' (looked for: loops, veiled, ifaces, maps, wideKeys, modest, calm, conditions, laid).
  DERIVED. THE GIVEN ROWS OF THIS SEAT. 6 by the template 'for every input the law returns true; each argument reads behind the call as it read before'; 0 by the template 'total and deterministic' (their statements: YtkbpfebohpdgbaaTotals.lean).
  GIVEN WITH THE SEED: the statements are not yours to turn. If you find one false, say at which input.
  Laid BY PROGRAM, IN A SANDBOX (cutbox-rows.mjs): the forced cells as the released guide's own fill.sh prints them over the translation 1da8d209e8cfc634… (all of the seat's roots in one cut). By AI agents, Wed Nov 11 2026. No macro, syntax, notation, axiom, sorry.
-/
import Derived.Test.YtkbpfebohpdgbaaChecked
import GoSem.Claim
import GoSem.ClaimJoined
import GoSem.ClaimMapViews
import Derived.JoinedTies
import Derived.KernelRfl
namespace Go.Proofs.Ytkbpfebohpdgbaa
/- THE CELL 'sum', in the pinned program and in every row, IS THE sha256 OF THE DUMP (.gsa) THAT YtkbpfebohpdgbaaProg.lean LOADS. Nothing in Lean hashes anything: it is a label: what it is worth is what the hold of that sum in a sandbox is worth. -/
noncomputable def Try.pinned : Pinned := { name := "ytkbpfebohpdgbaa", sum := "1da8d209e8cfc63417ed75a68a8ab80ccc39d835a6186ea0679eeb11a6621393", checked := Try.checked }
namespace Rows
def none {H : Type} : Left H := { results := [], args := [] }

/-- 'pointcodelaw07.CyclicsCycle': WHATEVER THE INPUT: true; the input reads as it did. -/
def cyclicsCycleSpec : ChangeSpec := { name := "cyclicsCycle", fn := fun _ => fun
  | [d1, d2, d3] => { results := [.lit (.bool true)], args := [d1, d2, d3] }
  | _ => none }
def cyclicsCycleRow : OpenClaim := { program := "ytkbpfebohpdgbaa", sum := "1da8d209e8cfc63417ed75a68a8ab80ccc39d835a6186ea0679eeb11a6621393", func := "pointcode/pointcodelaw07.CyclicsCycle", spec := "cyclicsCycle", apart := false }
def CyclicsCycleSaid : Prop := cyclicsCycleRow.holds Try.pinned (OpenSpec.ofChange cyclicsCycleSpec)

/-- ITS FALSE NEIGHBOUR: 'it returns false'. Refute it at one input. -/
def cyclicsCycleWrong : ChangeSpec := { name := "cyclicsCycle", fn := fun _ => fun
  | [d1, d2, d3] => { results := [.lit (.bool false)], args := [d1, d2, d3] }
  | _ => none }
def CyclicsCycleWrongFalsely : Prop := cyclicsCycleRow.holds Try.pinned (OpenSpec.ofChange cyclicsCycleWrong)

/-- 'pointcodelaw07.CyclicsLimits': WHATEVER THE INPUT: true; the input reads as it did. -/
def cyclicsLimitsSpec : ChangeSpec := { name := "cyclicsLimits", fn := fun _ => fun
  | [d1, d2] => { results := [.lit (.bool true)], args := [d1, d2] }
  | _ => none }
def cyclicsLimitsRow : OpenClaim := { program := "ytkbpfebohpdgbaa", sum := "1da8d209e8cfc63417ed75a68a8ab80ccc39d835a6186ea0679eeb11a6621393", func := "pointcode/pointcodelaw07.CyclicsLimits", spec := "cyclicsLimits", apart := false }
def CyclicsLimitsSaid : Prop := cyclicsLimitsRow.holds Try.pinned (OpenSpec.ofChange cyclicsLimitsSpec)

/-- ITS FALSE NEIGHBOUR: 'it returns false'. Refute it at one input. -/
def cyclicsLimitsWrong : ChangeSpec := { name := "cyclicsLimits", fn := fun _ => fun
  | [d1, d2] => { results := [.lit (.bool false)], args := [d1, d2] }
  | _ => none }
def CyclicsLimitsWrongFalsely : Prop := cyclicsLimitsRow.holds Try.pinned (OpenSpec.ofChange cyclicsLimitsWrong)

/-- 'pointcodelaw07.CyclicsPrefix': WHATEVER THE INPUT: true; the input reads as it did. -/
def cyclicsPrefixSpec : ChangeSpec := { name := "cyclicsPrefix", fn := fun _ => fun
  | [d1, d2] => { results := [.lit (.bool true)], args := [d1, d2] }
  | _ => none }
def cyclicsPrefixRow : OpenClaim := { program := "ytkbpfebohpdgbaa", sum := "1da8d209e8cfc63417ed75a68a8ab80ccc39d835a6186ea0679eeb11a6621393", func := "pointcode/pointcodelaw07.CyclicsPrefix", spec := "cyclicsPrefix", apart := false }
def CyclicsPrefixSaid : Prop := cyclicsPrefixRow.holds Try.pinned (OpenSpec.ofChange cyclicsPrefixSpec)

/-- ITS FALSE NEIGHBOUR: 'it returns false'. Refute it at one input. -/
def cyclicsPrefixWrong : ChangeSpec := { name := "cyclicsPrefix", fn := fun _ => fun
  | [d1, d2] => { results := [.lit (.bool false)], args := [d1, d2] }
  | _ => none }
def CyclicsPrefixWrongFalsely : Prop := cyclicsPrefixRow.holds Try.pinned (OpenSpec.ofChange cyclicsPrefixWrong)

/-- 'pointcodelaw07.CyclicsRest': WHATEVER THE INPUT: true; the input reads as it did. -/
def cyclicsRestSpec : ChangeSpec := { name := "cyclicsRest", fn := fun _ => fun
  | [d1, d2] => { results := [.lit (.bool true)], args := [d1, d2] }
  | _ => none }
def cyclicsRestRow : OpenClaim := { program := "ytkbpfebohpdgbaa", sum := "1da8d209e8cfc63417ed75a68a8ab80ccc39d835a6186ea0679eeb11a6621393", func := "pointcode/pointcodelaw07.CyclicsRest", spec := "cyclicsRest", apart := false }
def CyclicsRestSaid : Prop := cyclicsRestRow.holds Try.pinned (OpenSpec.ofChange cyclicsRestSpec)

/-- ITS FALSE NEIGHBOUR: 'it returns false'. Refute it at one input. -/
def cyclicsRestWrong : ChangeSpec := { name := "cyclicsRest", fn := fun _ => fun
  | [d1, d2] => { results := [.lit (.bool false)], args := [d1, d2] }
  | _ => none }
def CyclicsRestWrongFalsely : Prop := cyclicsRestRow.holds Try.pinned (OpenSpec.ofChange cyclicsRestWrong)

/-- 'pointcodelaw07.CyclicsErrors': WHATEVER THE INPUT: true; the input reads as it did. -/
def cyclicsErrorsSpec : ChangeSpec := { name := "cyclicsErrors", fn := fun _ => fun
  | [d1, d2, d3] => { results := [.lit (.bool true)], args := [d1, d2, d3] }
  | _ => none }
def cyclicsErrorsRow : OpenClaim := { program := "ytkbpfebohpdgbaa", sum := "1da8d209e8cfc63417ed75a68a8ab80ccc39d835a6186ea0679eeb11a6621393", func := "pointcode/pointcodelaw07.CyclicsErrors", spec := "cyclicsErrors", apart := false }
def CyclicsErrorsSaid : Prop := cyclicsErrorsRow.holds Try.pinned (OpenSpec.ofChange cyclicsErrorsSpec)

/-- ITS FALSE NEIGHBOUR: 'it returns false'. Refute it at one input. -/
def cyclicsErrorsWrong : ChangeSpec := { name := "cyclicsErrors", fn := fun _ => fun
  | [d1, d2, d3] => { results := [.lit (.bool false)], args := [d1, d2, d3] }
  | _ => none }
def CyclicsErrorsWrongFalsely : Prop := cyclicsErrorsRow.holds Try.pinned (OpenSpec.ofChange cyclicsErrorsWrong)

/-- 'pointcodelaw07.CyclicsScript': WHATEVER THE INPUT: true; the input reads as it did. -/
def cyclicsScriptSpec : ChangeSpec := { name := "cyclicsScript", fn := fun _ => fun
  | [d1, d2] => { results := [.lit (.bool true)], args := [d1, d2] }
  | _ => none }
def cyclicsScriptRow : OpenClaim := { program := "ytkbpfebohpdgbaa", sum := "1da8d209e8cfc63417ed75a68a8ab80ccc39d835a6186ea0679eeb11a6621393", func := "pointcode/pointcodelaw07.CyclicsScript", spec := "cyclicsScript", apart := false }
def CyclicsScriptSaid : Prop := cyclicsScriptRow.holds Try.pinned (OpenSpec.ofChange cyclicsScriptSpec)

/-- ITS FALSE NEIGHBOUR: 'it returns false'. Refute it at one input. -/
def cyclicsScriptWrong : ChangeSpec := { name := "cyclicsScript", fn := fun _ => fun
  | [d1, d2] => { results := [.lit (.bool false)], args := [d1, d2] }
  | _ => none }
def CyclicsScriptWrongFalsely : Prop := cyclicsScriptRow.holds Try.pinned (OpenSpec.ofChange cyclicsScriptWrong)

/- THE SECOND FORM. 'bulk': how many values and letters a reading holds, each counted each time it is reached (what is shared counts as often as it is met; a slice's spare places count too). A statement '..UptoSaid' is the law's where the arguments, and the package variables that the reading takes, are together of bulk at most 1048576: NARROWER than '..Said'. Prove '..Said' where nothing that the law and all that it calls make is longer than what came in: it says more and counts as full. Else prove '..UptoSaid'. A law counts once. -/
mutual
def uptoBulk {H : Type} : DataW H → Nat
  | .lit (.string bytes) => bytes.length + 1
  | .lit _ => 1
  | .nil => 1
  | .ptr d => uptoBulk d + 1
  | .slice elems spare => uptoBulkAll elems + uptoBulkAll spare + 1
  | .agg parts => uptoBulkAll parts + 1
  | .iface _ d => uptoBulk d + 1
  | .map entries => uptoBulkEntries entries + 1
  | .held _ => 1
def uptoBulkAll {H : Type} : List (DataW H) → Nat
  | [] => 0
  | d :: r => uptoBulk d + uptoBulkAll r
def uptoBulkEntries {H : Type} : List (Lit × DataW H) → Nat
  | [] => 0
  | x :: r => uptoBulkEntry x + uptoBulkEntries r
def uptoBulkEntry {H : Type} : Lit × DataW H → Nat
  | (.string bytes, d) => bytes.length + uptoBulk d + 1
  | (_, d) => uptoBulk d + 1
 end
def uptoSmall : (H : Type) → List (DataW H) → Bool := fun _ ds => decide (uptoBulkAll ds ≤ 1048576)
def OpenSpec.upto (s : _root_.Go.ChangeSpec) : _root_.Go.OpenSpec := { _root_.Go.OpenSpec.ofChange s with cond := some uptoSmall }

/-- 'pointcodelaw07.CyclicsCycle', WHERE WHAT IT READS IS OF BULK AT MOST 1048576: true; the input reads as it did. -/
def cyclicsCycleUptoRow : OpenClaim := { program := "ytkbpfebohpdgbaa", sum := "1da8d209e8cfc63417ed75a68a8ab80ccc39d835a6186ea0679eeb11a6621393", func := "pointcode/pointcodelaw07.CyclicsCycle", spec := "cyclicsCycle", apart := false, narrowed := true }
def CyclicsCycleUptoSaid : Prop := cyclicsCycleUptoRow.holds Try.pinned (OpenSpec.upto cyclicsCycleSpec)

/-- 'pointcodelaw07.CyclicsLimits', WHERE WHAT IT READS IS OF BULK AT MOST 1048576: true; the input reads as it did. -/
def cyclicsLimitsUptoRow : OpenClaim := { program := "ytkbpfebohpdgbaa", sum := "1da8d209e8cfc63417ed75a68a8ab80ccc39d835a6186ea0679eeb11a6621393", func := "pointcode/pointcodelaw07.CyclicsLimits", spec := "cyclicsLimits", apart := false, narrowed := true }
def CyclicsLimitsUptoSaid : Prop := cyclicsLimitsUptoRow.holds Try.pinned (OpenSpec.upto cyclicsLimitsSpec)

/-- 'pointcodelaw07.CyclicsPrefix', WHERE WHAT IT READS IS OF BULK AT MOST 1048576: true; the input reads as it did. -/
def cyclicsPrefixUptoRow : OpenClaim := { program := "ytkbpfebohpdgbaa", sum := "1da8d209e8cfc63417ed75a68a8ab80ccc39d835a6186ea0679eeb11a6621393", func := "pointcode/pointcodelaw07.CyclicsPrefix", spec := "cyclicsPrefix", apart := false, narrowed := true }
def CyclicsPrefixUptoSaid : Prop := cyclicsPrefixUptoRow.holds Try.pinned (OpenSpec.upto cyclicsPrefixSpec)

/-- 'pointcodelaw07.CyclicsRest', WHERE WHAT IT READS IS OF BULK AT MOST 1048576: true; the input reads as it did. -/
def cyclicsRestUptoRow : OpenClaim := { program := "ytkbpfebohpdgbaa", sum := "1da8d209e8cfc63417ed75a68a8ab80ccc39d835a6186ea0679eeb11a6621393", func := "pointcode/pointcodelaw07.CyclicsRest", spec := "cyclicsRest", apart := false, narrowed := true }
def CyclicsRestUptoSaid : Prop := cyclicsRestUptoRow.holds Try.pinned (OpenSpec.upto cyclicsRestSpec)

/-- 'pointcodelaw07.CyclicsErrors', WHERE WHAT IT READS IS OF BULK AT MOST 1048576: true; the input reads as it did. -/
def cyclicsErrorsUptoRow : OpenClaim := { program := "ytkbpfebohpdgbaa", sum := "1da8d209e8cfc63417ed75a68a8ab80ccc39d835a6186ea0679eeb11a6621393", func := "pointcode/pointcodelaw07.CyclicsErrors", spec := "cyclicsErrors", apart := false, narrowed := true }
def CyclicsErrorsUptoSaid : Prop := cyclicsErrorsUptoRow.holds Try.pinned (OpenSpec.upto cyclicsErrorsSpec)

/-- 'pointcodelaw07.CyclicsScript', WHERE WHAT IT READS IS OF BULK AT MOST 1048576: true; the input reads as it did. -/
def cyclicsScriptUptoRow : OpenClaim := { program := "ytkbpfebohpdgbaa", sum := "1da8d209e8cfc63417ed75a68a8ab80ccc39d835a6186ea0679eeb11a6621393", func := "pointcode/pointcodelaw07.CyclicsScript", spec := "cyclicsScript", apart := false, narrowed := true }
def CyclicsScriptUptoSaid : Prop := cyclicsScriptUptoRow.holds Try.pinned (OpenSpec.upto cyclicsScriptSpec)

end Rows
end Go.Proofs.Ytkbpfebohpdgbaa
