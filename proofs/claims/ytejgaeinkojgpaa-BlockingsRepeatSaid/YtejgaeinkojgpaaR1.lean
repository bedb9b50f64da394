import Derived.Test.YtejgaeinkojgpaaK16
set_option linter.unusedVariables false
set_option linter.unusedSimpArgs false
namespace Go.Proofs.Ytejgaeinkojgpaa
open Go Go.Ai Go.Proofs

deriving instance DecidableEq for NX
deriving instance DecidableEq for Ci
/-- fifty circuits: some are blocked -/
def cs1 (c : Nat) : List Ci := (List.replicate 50 ⟨false, false⟩).set c ⟨true, false⟩
def cs2 (c e : Nat) : List Ci := (cs1 c).set e ⟨true, false⟩
def tl1 (c : Nat) : List Bool := (List.replicate 50 false).set c true
def mOf (s : Int) (c : Nat) : Ms := ⟨1, s, (c : Int), [true], [true]⟩
theorem nx_one : ∀ c : Fin 50, nx ((cs1 c).map Ci.lo) 0 ⟨-1, [], [], List.replicate 50 false⟩ = ⟨(c : Nat), [true], [true], tl1 c⟩ := by decide +kernel
theorem ne_one : ∀ c : Fin 50, (cs1 c).map Ci.lo ≠ List.replicate 50 false := by decide +kernel
theorem nx_two : ∀ k : Fin 256, nx ((cs2 (k % 50) ((k + 1) % 256 % 50)).map Ci.lo) 0 ⟨-1, [], [], tl1 (k % 50)⟩ = ⟨(((k + 1) % 256 % 50 : Nat) : Int), [true], [true], (tl1 (k % 50)).set ((k + 1) % 256 % 50) true⟩ := by decide +kernel
theorem ne_two : ∀ k : Fin 256, (cs2 (k % 50) ((k + 1) % 256 % 50)).map Ci.lo ≠ tl1 (k % 50) := by decide +kernel
theorem set_one : ∀ c : Fin 50, setLs (List.replicate 50 ⟨false, false⟩) true [((c : Nat) : Int)] = cs1 c := by decide +kernel
theorem set_two : ∀ k : Fin 256, setLs (cs1 (k % 50)) true [(((k + 1) % 256 % 50 : Nat) : Int)] = cs2 (k % 50) ((k + 1) % 256 % 50) := by decide +kernel
end Go.Proofs.Ytejgaeinkojgpaa
