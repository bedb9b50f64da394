import Derived.Test.YtejgaeinkojgpaaK16
set_option linter.unusedVariables false
set_option linter.unusedSimpArgs false
namespace Go.Proofs.Ytejgaeinkojgpaa
open Go Go.Ai Go.Proofs

theorem DK.next_cs (d : DK) : d.next.cs = d.cs := by unfold DK.next; split <;> rfl
/-- a circuit that is blocked locally stays so while others are set -/
theorem setC_lo {cs : List Ci} {j k : Nat} (h : cs[k]?.map Ci.lo = some true) : (setC cs false true j)[k]?.map Ci.lo = some true := by
  unfold setC
  cases hc : cs[j]? with
  | none => exact h
  | some c =>
    by_cases e : j = k
    · subst e
      rw [List.getElem?_set_self (List.getElem?_eq_some_iff.1 hc).1]; rfl
    · rw [List.getElem?_set_ne e]; exact h
theorem setC_in {cs : List Ci} {k : Nat} (h : k < cs.length) : (setC cs false true k)[k]?.map Ci.lo = some true := by
  unfold setC
  rw [List.getElem?_eq_getElem h]
  simp only
  rw [List.getElem?_set_self h]; rfl
theorem setLs_keep {k : Nat} : ∀ (zs : List Int) (cs : List Ci), cs[k]?.map Ci.lo = some true → (setLs cs true zs)[k]?.map Ci.lo = some true
  | [], cs, h => h
  | z :: zs, cs, h => by
    rw [setLs, List.foldl_cons]
    exact setLs_keep zs _ (setC_lo h)
theorem setLs_in {z : Int} : ∀ (zs : List Int) (cs : List Ci), z ∈ zs → inR cs.length z = true → (setLs cs true zs)[z.toNat]?.map Ci.lo = some true
  | y :: zs, cs, hz, hr => by
    rw [setLs, List.foldl_cons]
    have hr' : 0 ≤ z ∧ z < cs.length := by simpa [inR] using hr
    rcases List.mem_cons.1 hz with rfl | hz
    · exact setLs_keep zs _ (setC_in (by omega))
    · exact setLs_in zs _ hz (by rw [setC_len]; exact hr)
/-- after SetAll each of its circuits is blocked locally -/
theorem setAll_local {d : DK} {zs : List Int} {z : Int} (hz : z ∈ zs) (hr : inR d.cs.length z = true) : (d.setAll true zs).blkAt false z = true := by
  have hr' : 0 ≤ z ∧ z < d.cs.length := by simpa [inR] using hr
  have h := setLs_in zs d.cs hz hr
  unfold DK.blkAt DK.setAll
  rw [DK.next_cs, if_pos hr'.1]
  simp only
  cases e : (setLs d.cs true zs)[z.toNat]? with
  | none => rw [e] at h; cases h
  | some c => rw [e] at h; simpa using h
theorem fresh_blk (n : Nat) (a : Int) (r : Bool) (z : Int) : (DK.fresh (List.replicate n ⟨false, false⟩) a).blkAt r z = false := by
  unfold DK.blkAt DK.fresh
  split
  · simp only [List.getElem?_replicate]
    split
    · rename_i c hc
      split at hc
      · cases hc; cases r <;> rfl
      · cases hc
    · rfl
  · rfl
end Go.Proofs.Ytejgaeinkojgpaa
