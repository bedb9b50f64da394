/-
  No cell of these rows narrows 'for every input' (looked for: loops, veiled, ifaces, maps, wideKeys, modest, calm, conditions, laid).
  DERIVED. THE GIVEN ROWS OF THIS SEAT. 7 by the template 'for every input the law returns true; each argument reads behind the call as it read before'; 0 by the template 'total and deterministic' (their statements: YtkonlakldafbeaaTotals.lean).
  GIVEN WITH THE SEED: the statements are not yours to turn. If you find one false, say at which input.
  Laid BY PROGRAM, IN A SANDBOX (cutbox-rows.mjs): the forced cells as the released guide's own fill.sh prints them over the translation 811c45341874740e… (all of the seat's roots in one cut). By AI agents, Wed Nov 11 2026. No macro, syntax, notation, axiom, sorry.
-/
import Derived.Test.YtkonlakldafbeaaChecked
import GoSem.Claim
import GoSem.ClaimJoined
import GoSem.ClaimMapViews
import Derived.JoinedTies
import Derived.KernelRfl
namespace Go.Proofs.Ytkonlakldafbeaa
/- THE CELL 'sum', in the pinned program and in every row, IS THE sha256 OF THE DUMP (.gsa) THAT YtkonlakldafbeaaProg.lean LOADS. Nothing in Lean hashes anything: it is a label: what it is worth is what the hold of that sum in a sandbox is worth. -/
noncomputable def Try.pinned : Pinned := { name := "ytkonlakldafbeaa", sum := "811c45341874740e4583834acf3218eab20f1870f178d1888db839524f7b1be4", checked := Try.checked }
namespace Rows
def none {H : Type} : Left H := { results := [], args := [] }

/-- 'pointcodelaw01.BitsOctets': WHATEVER THE INPUT: true; the input reads as it did. -/
def bitsOctetsSpec : ChangeSpec := { name := "bitsOctets", fn := fun _ => fun
  | [d1, d2] => { results := [.lit (.bool true)], args := [d1, d2] }
  | _ => none }
def bitsOctetsRow : OpenClaim := { program := "ytkonlakldafbeaa", sum := "811c45341874740e4583834acf3218eab20f1870f178d1888db839524f7b1be4", func := "pointcode/pointcodelaw01.BitsOctets", spec := "bitsOctets", inPlace := ["internal/abi.NoEscape"], unfollowed := true, recurses := true, apart := false }
def BitsOctetsSaid : Prop := bitsOctetsRow.holds Try.pinned (OpenSpec.ofChange bitsOctetsSpec)

/-- ITS FALSE NEIGHBOUR: 'it returns false'. Refute it at one input. -/
def bitsOctetsWrong : ChangeSpec := { name := "bitsOctets", fn := fun _ => fun
  | [d1, d2] => { results := [.lit (.bool false)], args := [d1, d2] }
  | _ => none }
def BitsOctetsWrongFalsely : Prop := bitsOctetsRow.holds Try.pinned (OpenSpec.ofChange bitsOctetsWrong)

/-- 'pointcodelaw01.BitsBack': WHATEVER THE INPUT: true; the input reads as it did. -/
def bitsBackSpec : ChangeSpec := { name := "bitsBack", fn := fun _ => fun
  | [d1, d2, d3] => { results := [.lit (.bool true)], args := [d1, d2, d3] }
  | _ => none }
def bitsBackRow : OpenClaim := { program := "ytkonlakldafbeaa", sum := "811c45341874740e4583834acf3218eab20f1870f178d1888db839524f7b1be4", func := "pointcode/pointcodelaw01.BitsBack", spec := "bitsBack", inPlace := ["internal/abi.NoEscape"], unfollowed := true, recurses := true, apart := false }
def BitsBackSaid : Prop := bitsBackRow.holds Try.pinned (OpenSpec.ofChange bitsBackSpec)

/-- ITS FALSE NEIGHBOUR: 'it returns false'. Refute it at one input. -/
def bitsBackWrong : ChangeSpec := { name := "bitsBack", fn := fun _ => fun
  | [d1, d2, d3] => { results := [.lit (.bool false)], args := [d1, d2, d3] }
  | _ => none }
def BitsBackWrongFalsely : Prop := bitsBackRow.holds Try.pinned (OpenSpec.ofChange bitsBackWrong)

/-- 'pointcodelaw01.BitsFields': WHATEVER THE INPUT: true; the input reads as it did. -/
def bitsFieldsSpec : ChangeSpec := { name := "bitsFields", fn := fun _ => fun
  | [d1, d2] => { results := [.lit (.bool true)], args := [d1, d2] }
  | _ => none }
def bitsFieldsRow : OpenClaim := { program := "ytkonlakldafbeaa", sum := "811c45341874740e4583834acf3218eab20f1870f178d1888db839524f7b1be4", func := "pointcode/pointcodelaw01.BitsFields", spec := "bitsFields", inPlace := ["internal/abi.NoEscape"], unfollowed := true, recurses := true, apart := false }
def BitsFieldsSaid : Prop := bitsFieldsRow.holds Try.pinned (OpenSpec.ofChange bitsFieldsSpec)

/-- ITS FALSE NEIGHBOUR: 'it returns false'. Refute it at one input. -/
def bitsFieldsWrong : ChangeSpec := { name := "bitsFields", fn := fun _ => fun
  | [d1, d2] => { results := [.lit (.bool false)], args := [d1, d2] }
  | _ => none }
def BitsFieldsWrongFalsely : Prop := bitsFieldsRow.holds Try.pinned (OpenSpec.ofChange bitsFieldsWrong)

/-- 'pointcodelaw01.BitsFlip': WHATEVER THE INPUT: true; the input reads as it did. -/
def bitsFlipSpec : ChangeSpec := { name := "bitsFlip", fn := fun _ => fun
  | [d1, d2, d3] => { results := [.lit (.bool true)], args := [d1, d2, d3] }
  | _ => none }
def bitsFlipRow : OpenClaim := { program := "ytkonlakldafbeaa", sum := "811c45341874740e4583834acf3218eab20f1870f178d1888db839524f7b1be4", func := "pointcode/pointcodelaw01.BitsFlip", spec := "bitsFlip", inPlace := ["internal/abi.NoEscape"], unfollowed := true, recurses := true, apart := false }
def BitsFlipSaid : Prop := bitsFlipRow.holds Try.pinned (OpenSpec.ofChange bitsFlipSpec)

/-- ITS FALSE NEIGHBOUR: 'it returns false'. Refute it at one input. -/
def bitsFlipWrong : ChangeSpec := { name := "bitsFlip", fn := fun _ => fun
  | [d1, d2, d3] => { results := [.lit (.bool false)], args := [d1, d2, d3] }
  | _ => none }
def BitsFlipWrongFalsely : Prop := bitsFlipRow.holds Try.pinned (OpenSpec.ofChange bitsFlipWrong)

/-- 'pointcodelaw01.BitsRun': WHATEVER THE INPUT: true; the input reads as it did. -/
def bitsRunSpec : ChangeSpec := { name := "bitsRun", fn := fun _ => fun
  | [d1, d2] => { results := [.lit (.bool true)], args := [d1, d2] }
  | _ => none }
def bitsRunRow : OpenClaim := { program := "ytkonlakldafbeaa", sum := "811c45341874740e4583834acf3218eab20f1870f178d1888db839524f7b1be4", func := "pointcode/pointcodelaw01.BitsRun", spec := "bitsRun", inPlace := ["internal/abi.NoEscape"], unfollowed := true, recurses := true, apart := false }
def BitsRunSaid : Prop := bitsRunRow.holds Try.pinned (OpenSpec.ofChange bitsRunSpec)

/-- ITS FALSE NEIGHBOUR: 'it returns false'. Refute it at one input. -/
def bitsRunWrong : ChangeSpec := { name := "bitsRun", fn := fun _ => fun
  | [d1, d2] => { results := [.lit (.bool false)], args := [d1, d2] }
  | _ => none }
def BitsRunWrongFalsely : Prop := bitsRunRow.holds Try.pinned (OpenSpec.ofChange bitsRunWrong)

/-- 'pointcodelaw01.BitsText': WHATEVER THE INPUT: true; the input reads as it did. -/
def bitsTextSpec : ChangeSpec := { name := "bitsText", fn := fun _ => fun
  | [d1, d2] => { results := [.lit (.bool true)], args := [d1, d2] }
  | _ => none }
def bitsTextRow : OpenClaim := { program := "ytkonlakldafbeaa", sum := "811c45341874740e4583834acf3218eab20f1870f178d1888db839524f7b1be4", func := "pointcode/pointcodelaw01.BitsText", spec := "bitsText", inPlace := ["internal/abi.NoEscape"], unfollowed := true, recurses := true, apart := false }
def BitsTextSaid : Prop := bitsTextRow.holds Try.pinned (OpenSpec.ofChange bitsTextSpec)

/-- ITS FALSE NEIGHBOUR: 'it returns false'. Refute it at one input. -/
def bitsTextWrong : ChangeSpec := { name := "bitsText", fn := fun _ => fun
  | [d1, d2] => { results := [.lit (.bool false)], args := [d1, d2] }
  | _ => none }
def BitsTextWrongFalsely : Prop := bitsTextRow.holds Try.pinned (OpenSpec.ofChange bitsTextWrong)

/-- 'pointcodelaw01.BitsLimits': WHATEVER THE INPUT: true; the input reads as it did. -/
def bitsLimitsSpec : ChangeSpec := { name := "bitsLimits", fn := fun _ => fun
  | [d1, d2] => { results := [.lit (.bool true)], args := [d1, d2] }
  | _ => none }
def bitsLimitsRow : OpenClaim := { program := "ytkonlakldafbeaa", sum := "811c45341874740e4583834acf3218eab20f1870f178d1888db839524f7b1be4", func := "pointcode/pointcodelaw01.BitsLimits", spec := "bitsLimits", inPlace := ["internal/abi.NoEscape"], unfollowed := true, recurses := true, apart := false }
def BitsLimitsSaid : Prop := bitsLimitsRow.holds Try.pinned (OpenSpec.ofChange bitsLimitsSpec)

/-- ITS FALSE NEIGHBOUR: 'it returns false'. Refute it at one input. -/
def bitsLimitsWrong : ChangeSpec := { name := "bitsLimits", fn := fun _ => fun
  | [d1, d2] => { results := [.lit (.bool false)], args := [d1, d2] }
  | _ => none }
def BitsLimitsWrongFalsely : Prop := bitsLimitsRow.holds Try.pinned (OpenSpec.ofChange bitsLimitsWrong)

/- THE SECOND FORM. 'bulk': how many values and letters a reading holds, each counted each time it is reached (what is shared counts as often as it is met; a slice's spare places count too). A statement '..UptoSaid' is the law's where the arguments, and the package variables that the reading takes, are together of bulk at most 1048576: NARROWER than '..Said'. Prove '..Said' where nothing that the law and all that it calls make is longer than what came in: it says more and counts as full. Else prove '..UptoSaid'. A law counts once. -/
mutual
def uptoBulk {H : Type} : DataW H → Nat
  | .lit (.string bytes) => bytes.length + 1
  | .lit _ => 1
  | .nil => 1
  | .ptr d => uptoBulk d + 1
  | .slice elems spare => uptoBulkAll elems + uptoBulkAll spare + 1
  | .agg parts => uptoBulkAll parts + 1
  | .iface _ d => uptoBulk d + 1
  | .map entries => uptoBulkEntries entries + 1
  | .held _ => 1
def uptoBulkAll {H : Type} : List (DataW H) → Nat
  | [] => 0
  | d :: r => uptoBulk d + uptoBulkAll r
def uptoBulkEntries {H : Type} : List (Lit × DataW H) → Nat
  | [] => 0
  | x :: r => uptoBulkEntry x + uptoBulkEntries r
def uptoBulkEntry {H : Type} : Lit × DataW H → Nat
  | (.string bytes, d) => bytes.length + uptoBulk d + 1
  | (_, d) => uptoBulk d + 1
 end
def uptoSmall : (H : Type) → List (DataW H) → Bool := fun _ ds => decide (uptoBulkAll ds ≤ 1048576)
def OpenSpec.upto (s : _root_.Go.ChangeSpec) : _root_.Go.OpenSpec := { _root_.Go.OpenSpec.ofChange s with cond := some uptoSmall }

/-- 'pointcodelaw01.BitsOctets', WHERE WHAT IT READS IS OF BULK AT MOST 1048576: true; the input reads as it did. -/
def bitsOctetsUptoRow : OpenClaim := { program := "ytkonlakldafbeaa", sum := "811c45341874740e4583834acf3218eab20f1870f178d1888db839524f7b1be4", func := "pointcode/pointcodelaw01.BitsOctets", spec := "bitsOctets", inPlace := ["internal/abi.NoEscape"], unfollowed := true, recurses := true, apart := false, narrowed := true }
def BitsOctetsUptoSaid : Prop := bitsOctetsUptoRow.holds Try.pinned (OpenSpec.upto bitsOctetsSpec)

/-- 'pointcodelaw01.BitsBack', WHERE WHAT IT READS IS OF BULK AT MOST 1048576: true; the input reads as it did. -/
def bitsBackUptoRow : OpenClaim := { program := "ytkonlakldafbeaa", sum := "811c45341874740e4583834acf3218eab20f1870f178d1888db839524f7b1be4", func := "pointcode/pointcodelaw01.BitsBack", spec := "bitsBack", inPlace := ["internal/abi.NoEscape"], unfollowed := true, recurses := true, apart := false, narrowed := true }
def BitsBackUptoSaid : Prop := bitsBackUptoRow.holds Try.pinned (OpenSpec.upto bitsBackSpec)

/-- 'pointcodelaw01.BitsFields', WHERE WHAT IT READS IS OF BULK AT MOST 1048576: true; the input reads as it did. -/
def bitsFieldsUptoRow : OpenClaim := { program := "ytkonlakldafbeaa", sum := "811c45341874740e4583834acf3218eab20f1870f178d1888db839524f7b1be4", func := "pointcode/pointcodelaw01.BitsFields", spec := "bitsFields", inPlace := ["internal/abi.NoEscape"], unfollowed := true, recurses := true, apart := false, narrowed := true }
def BitsFieldsUptoSaid : Prop := bitsFieldsUptoRow.holds Try.pinned (OpenSpec.upto bitsFieldsSpec)

/-- 'pointcodelaw01.BitsFlip', WHERE WHAT IT READS IS OF BULK AT MOST 1048576: true; the input reads as it did. -/
def bitsFlipUptoRow : OpenClaim := { program := "ytkonlakldafbeaa", sum := "811c45341874740e4583834acf3218eab20f1870f178d1888db839524f7b1be4", func := "pointcode/pointcodelaw01.BitsFlip", spec := "bitsFlip", inPlace := ["internal/abi.NoEscape"], unfollowed := true, recurses := true, apart := false, narrowed := true }
def BitsFlipUptoSaid : Prop := bitsFlipUptoRow.holds Try.pinned (OpenSpec.upto bitsFlipSpec)

/-- 'pointcodelaw01.BitsRun', WHERE WHAT IT READS IS OF BULK AT MOST 1048576: true; the input reads as it did. -/
def bitsRunUptoRow : OpenClaim := { program := "ytkonlakldafbeaa", sum := "811c45341874740e4583834acf3218eab20f1870f178d1888db839524f7b1be4", func := "pointcode/pointcodelaw01.BitsRun", spec := "bitsRun", inPlace := ["internal/abi.NoEscape"], unfollowed := true, recurses := true, apart := false, narrowed := true }
def BitsRunUptoSaid : Prop := bitsRunUptoRow.holds Try.pinned (OpenSpec.upto bitsRunSpec)

/-- 'pointcodelaw01.BitsText', WHERE WHAT IT READS IS OF BULK AT MOST 1048576: true; the input reads as it did. -/
def bitsTextUptoRow : OpenClaim := { program := "ytkonlakldafbeaa", sum := "811c45341874740e4583834acf3218eab20f1870f178d1888db839524f7b1be4", func := "pointcode/pointcodelaw01.BitsText", spec := "bitsText", inPlace := ["internal/abi.NoEscape"], unfollowed := true, recurses := true, apart := false, narrowed := true }
def BitsTextUptoSaid : Prop := bitsTextUptoRow.holds Try.pinned (OpenSpec.upto bitsTextSpec)

/-- 'pointcodelaw01.BitsLimits', WHERE WHAT IT READS IS OF BULK AT MOST 1048576: true; the input reads as it did. -/
def bitsLimitsUptoRow : OpenClaim := { program := "ytkonlakldafbeaa", sum := "811c45341874740e4583834acf3218eab20f1870f178d1888db839524f7b1be4", func := "pointcode/pointcodelaw01.BitsLimits", spec := "bitsLimits", inPlace := ["internal/abi.NoEscape"], unfollowed := true, recurses := true, apart := false, narrowed := true }
def BitsLimitsUptoSaid : Prop := bitsLimitsUptoRow.holds Try.pinned (OpenSpec.upto bitsLimitsSpec)

end Rows
end Go.Proofs.Ytkonlakldafbeaa
