import Derived.Test.YtejgaeinkojgpaaE1
import Derived.Test.YtejgaeinkojgpaaE2
set_option linter.unusedVariables false
set_option linter.unusedSimpArgs false
namespace Go.Proofs.Ytejgaeinkojgpaa
open Go Go.Ai Go.Proofs

/-- the loop over no desk and the zero desk -/
def ErI (h0 : AHeap) (B Z : Nat) (regs : List (Nat × Value)) (m : Nat) (ρ : Env) (h : AHeap) : Prop := ∃ i, i + m = 2 ∧ get ρ 14 = some (.int .i64 (i : Nat)) ∧ get ρ 13 = some (.slice (some ⟨B, 0, none⟩) 2 2) ∧ (∀ p ∈ regs, get ρ p.1 = some p.2) ∧ Kp h0 h
def ErE (h0 : AHeap) (regs : List (Nat × Value)) (ρ : Env) (h : AHeap) : Prop := (∀ p ∈ regs, get ρ p.1 = some p.2) ∧ Kp h0 h
theorem zero_mv (h : AHeap) : MV h (.agg #[.int .u8 0, .int .u32 0, .int .i64 0, .slice none 0 0, .slice none 0 0]) ⟨0, 0, 0, [], []⟩ := ⟨.slice none 0 0, .slice none 0 0, rfl, BitsV.nil _, BitsV.nil _⟩
theorem nn_cell {h : AHeap} {B Z i : Nat} (hB : h[B]? = some (some ⟨true, [.pointer none, .pointer (some ⟨Z, 0, none⟩)]⟩)) (hZ : h[Z]? = some (some ⟨true, zC⟩)) (hi : i < 2) : ∃ x, ([Value.pointer none, .pointer (some ⟨Z, 0, none⟩)] : List Value)[i]? = some x ∧ Nn h x := by
  match i, hi with
  | 0, _ => exact ⟨_, rfl, .inl rfl⟩
  | 1, _ => exact ⟨_, rfl, .inr ⟨Z, rfl, hZ⟩⟩
/-- the loop that looks for a number out of range -/
def BdI (h0 : AHeap) (n D G : Nat) (q : Option Addr) (c : Nat) (zs : List Int) (m : Nat) (ρ : Env) (h : AHeap) : Prop := ∃ i, i + m = zs.length ∧ get ρ 17 = some (.int .i64 (i : Nat)) ∧ get ρ 16 = some (.bool (!(zs.take i).all (inR n))) ∧ get ρ 0 = some (.int .i64 (n : Nat)) ∧ get ρ 2 = some (.slice q zs.length c) ∧ get ρ 10 = some (.pointer (some ⟨D, 0, none⟩)) ∧ get ρ 7 = some (.pointer (some ⟨G, 0, none⟩)) ∧ h = h0
def BdE (h0 : AHeap) (n D G : Nat) (q : Option Addr) (c : Nat) (zs : List Int) (ρ : Env) (h : AHeap) : Prop := get ρ 16 = some (.bool (!zs.all (inR n))) ∧ get ρ 0 = some (.int .i64 (n : Nat)) ∧ get ρ 2 = some (.slice q zs.length c) ∧ get ρ 10 = some (.pointer (some ⟨D, 0, none⟩)) ∧ get ρ 7 = some (.pointer (some ⟨G, 0, none⟩)) ∧ h = h0
theorem take_bad (n : Nat) {zs : List Int} {i : Nat} {z : Int} (hz : zs[i]? = some z) : (zs.take (i + 1)).all (inR n) = ((zs.take i).all (inR n) && inR n z) := by
  rw [List.take_add_one, hz]; simp [List.all_append]
/-- the loop over Local -/
def LqI (h0 : AHeap) (n D G : Nat) (al : Bool) (q : Option Addr) (c : Nat) (zs : List Int) (m : Nat) (ρ : Env) (h : AHeap) : Prop := ∃ i, i + m = zs.length ∧ get ρ 19 = some (.int .i64 (i : Nat)) ∧ get ρ 16 = some (.bool (!al)) ∧ get ρ 0 = some (.int .i64 (n : Nat)) ∧ get ρ 2 = some (.slice q zs.length c) ∧ get ρ 10 = some (.pointer (some ⟨D, 0, none⟩)) ∧ get ρ 7 = some (.pointer (some ⟨G, 0, none⟩)) ∧ Kp h0 h
def LqE (h0 : AHeap) (n D G : Nat) (ρ : Env) (h : AHeap) : Prop := get ρ 0 = some (.int .i64 (n : Nat)) ∧ get ρ 10 = some (.pointer (some ⟨D, 0, none⟩)) ∧ get ρ 7 = some (.pointer (some ⟨G, 0, none⟩)) ∧ Kp h0 h
theorem isF_set {cs : List Ci} (h : 0 < cs.length) : isF (setC cs true true 0) = false := by
  cases cs with
  | nil => simp at h
  | cons a l =>
    have : setC (a :: l) true true 0 = a.put true true :: l := by simp [setC]
    rw [this]
    unfold isF
    rw [List.all_cons]
    obtain ⟨b, e⟩ := a
    cases b <;> rfl
theorem blk_low (d : DK) (r : Bool) : d.blkAt r (-1) = false := rfl
theorem blk_high {d : DK} {n : Nat} (h : d.cs.length = n) (r : Bool) : d.blkAt r (n : Int) = false := by
  unfold DK.blkAt
  rw [if_pos (by omega), Int.toNat_natCast, List.getElem?_eq_none (by omega)]
end Go.Proofs.Ytejgaeinkojgpaa
