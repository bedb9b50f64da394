import Derived.Test.YtejgaeinkojgpaaV1
import Derived.Test.YtejgaeinkojgpaaK16
set_option linter.unusedVariables false
set_option linter.unusedSimpArgs false
namespace Go.Proofs.Ytejgaeinkojgpaa
open Go Go.Ai Go.Proofs

/-- a message of the argument -/
def MsgP (h : AHeap) (rows : List Value) (i : Nat) : Prop := ∃ (ms : Ms) (mv ov : Value), getN rows (i * 5) 5 = some (ms.cells mv ov) ∧ BitsV h mv ms.mask ∧ BitsV h ov ms.on ∧ ms.mask.length ≤ 9223372036854775807 ∧ ms.on.length ≤ 9223372036854775807 ∧ (0 ≤ ms.serial ∧ ms.serial ≤ 4294967295)
def MsgsW (h : AHeap) (q : Option Addr) (n : Nat) : Prop := n = 0 ∨ ∃ B rows, q = some ⟨B, 0, none⟩ ∧ h[B]? = some (some ⟨false, rows⟩) ∧ ∀ i, i < n → MsgP h rows i
/-- what the law knows of a desk that hears -/
structure Bh (N : Nat) (d : DK) (want : List Bool) (hd : Int) : Prop where
  cl : d.cs.length = N
  re : d.cs.map Ci.re = want
  lo : ∀ c ∈ d.cs, c.lo = false
  op : d.op = none
  ou : d.out = []
  he : d.heard = hd
  h0 : 0 ≤ hd
theorem Bh.wl {N : Nat} {d : DK} {want : List Bool} {hd : Int} (b : Bh N d want hd) : want.length = N := by rw [← b.re, List.length_map, b.cl]
theorem Bh.blk {N : Nat} {d : DK} {want : List Bool} {hd : Int} (b : Bh N d want hd) {i : Nat} {x : Bool} (h : want[i]? = some x) : d.blkAt true (i : Int) = x ∧ d.blkAt false (i : Int) = false := by
  rw [← b.re, List.getElem?_map] at h
  cases e : d.cs[i]? with
  | none => rw [e] at h; cases h
  | some c =>
    rw [e] at h
    have h' : c.re = x := Option.some.inj h
    unfold DK.blkAt
    rw [if_pos (by omega), if_pos (by omega), Int.toNat_natCast, e]
    exact ⟨h', b.lo c (List.mem_of_getElem? e)⟩
theorem setC_re (cs : List Ci) (on : Bool) (k : Nat) : (setC cs true on k).map Ci.re = (cs.map Ci.re).set k on := by
  unfold setC
  split
  · rw [List.map_set]; rfl
  · rename_i hc
    rw [List.set_eq_of_length_le]
    have := List.getElem?_eq_none_iff.1 hc
    simpa using this
theorem setC_lo' {cs : List Ci} (h : ∀ c ∈ cs, c.lo = false) (on : Bool) (k : Nat) : ∀ c ∈ setC cs true on k, c.lo = false := by
  unfold setC
  split
  · rename_i c hc
    intro x hx
    rcases List.mem_or_eq_of_mem_set hx with hx | rfl
    · exact h x hx
    · exact h c (List.mem_of_getElem? hc)
  · exact h
theorem setM_lo {m : Ms} {cs : List Ci} (h : ∀ c ∈ cs, c.lo = false) : ∀ i, ∀ c ∈ setM m cs i, c.lo = false
  | 0 => h
  | i + 1 => by
    unfold setM
    split
    · exact setC_lo' (setM_lo h i) _ _
    · exact setM_lo h i
theorem setM_re (m : Ms) (cs : List Ci) (i : Nat) : (setM m cs (i + 1)).map Ci.re = if m.mask[i]? = some true then ((setM m cs i).map Ci.re).set (m.first.toNat + i) (m.on[i]?.getD false) else (setM m cs i).map Ci.re := by
  rw [setM]; split
  · exact setC_re _ _ _
  · rfl
theorem Bh.set {N : Nat} {d : DK} {want : List Bool} {hd : Int} (b : Bh N d want hd) (m : Ms) (hm : 0 ≤ m.serial) : Bh N { d.heardS m with out := [] } (if hd < m.serial then (setM m d.cs m.mask.length).map Ci.re else want) (max hd m.serial) := by
  unfold DK.heardS DK.got
  rw [b.he]
  have h0 := b.h0
  by_cases h : hd < m.serial
  · rw [if_pos h, if_pos h]
    exact ⟨by simp only [setM_len]; exact b.cl, rfl, setM_lo b.lo _, b.op, rfl, by simp only; omega, by omega⟩
  · rw [if_neg h, if_neg h]
    exact ⟨b.cl, b.re, b.lo, b.op, rfl, by simp only; rw [b.he]; omega, by omega⟩
/-- a desk in the heap, and the law's own list beside it -/
structure HH (h0 h : AHeap) (D G L T NW : Nat) (d : DK) (opv outv : Value) (want : List Bool) : Prop where
  kp : Kp h0 h
  A : DAt h D G L T d opv outv
  far : ∀ B, ftD D G L T outv B → h0.length ≤ B ∧ B ≠ NW
  nwo : h[NW]? = some (some ⟨true, bB want⟩)
  n0 : h0.length ≤ NW
section
variable {h0 h h' : AHeap} {D G L T NW : Nat} {d : DK} {opv outv : Value} {want : List Bool}
theorem HH.keep (H : HH h0 h D G L T NW d opv outv want) (K : Kp h h') : HH h0 h' D G L T NW d opv outv want :=
  ⟨H.kp.trans K, H.A.kp K, H.far, K.get H.nwo, H.n0⟩
theorem HH.went (H : HH h0 h D G L T NW d opv outv want) {d' : DK} (W : WentD h h' D G L T d' outv) : ∃ opv' outv', HH h0 h' D G L T NW d' opv' outv' want ∧ Fr (ftD D G L T outv) h h' ∧ (∀ B, ftD D G L T outv' B → ftD D G L T outv B ∨ h.length ≤ B) := by
  obtain ⟨opv', outv', A', F, nn⟩ := W
  refine ⟨opv', outv', ⟨⟨Nat.le_trans H.kp.1 F.1, fun B hB => ?_⟩, A', fun B hB => ?_, ?_, H.n0⟩, F, nn⟩
  · rw [F.2 B (Nat.lt_of_lt_of_le hB H.kp.1) (fun hf => by have := (H.far B hf).1; omega)]
    exact H.kp.2 B hB
  · rcases nn B hB with h1 | h1
    · exact H.far B h1
    · have := H.kp.1
      have l1 := lt_of_get H.nwo
      exact ⟨by omega, by omega⟩
  · exact F.get H.nwo fun hf => (H.far _ hf).2 rfl
theorem HH.setN (H : HH h0 h D G L T NW d opv outv want) {w' : List Bool} : HH h0 (h.set NW (some ⟨true, bB w'⟩)) D G L T NW d opv outv w' := by
  refine ⟨H.kp.set H.n0 _, H.A.keep (fun B cs hB => ?_) fun i B hB => set_ne (fun e => ?_) _, H.far, by rw [List.getElem?_set_self (lt_of_get H.nwo)], H.n0⟩
  · rw [set_ne]
    · exact hB
    · rintro rfl
      rw [H.nwo] at hB; cases hB
  · exact (H.far B ⟨i, hB⟩).2 e.symm
end
theorem HH.step {h0 h h' : AHeap} {D G L T NW : Nat} {d d' : DK} {opv outv : Value} {want : List Bool} (H : HH h0 h D G L T NW d opv outv want) (W : WentD h h' D G L T d' outv) {R : Nat} {cells : List Value} (hR : h[R]? = some (some ⟨true, cells⟩)) (hn : ¬ ftD D G L T outv R) :
    ∃ opv' outv', HH h0 h' D G L T NW d' opv' outv' want ∧ h'[R]? = some (some ⟨true, cells⟩) ∧ ¬ ftD D G L T outv' R ∧ Frz h h' := by
  obtain ⟨opv', outv', H', F, n⟩ := H.went W
  refine ⟨opv', outv', H', F.get hR hn, fun hf => ?_, H.A.frz F⟩
  rcases n R hf with h1 | h1
  · exact hn h1
  · have := lt_of_get hR; omega
/-- what Hear did -/
def Hrd (N : Nat) (d : DK) (ms : Ms) (d' : DK) (rc : Int) : Prop :=
  (¬ (ms.Ok ∧ ms.first + ms.mask.length ≤ N) ∧ rc = 1 ∧ d' = d) ∨ (ms.Ok ∧ ms.first + ms.mask.length ≤ N ∧ ms.kind = 2 ∧ rc = 0 ∧ d' = d) ∨ (ms.Ok ∧ ms.first + ms.mask.length ≤ N ∧ ms.kind = 1 ∧ rc = 0 ∧ d' = d.heardS ms)
theorem Bh.heard {N : Nat} {d : DK} {want : List Bool} {hd : Int} (b : Bh N d want hd) {h h' : AHeap} {D G L T : Nat} {outv r : Value} {ms : Ms} (P : HearP h D G L T d outv ms r h') : ∃ d' rc, r = .int .i64 rc ∧ WentD h h' D G L T d' outv ∧ Hrd N d ms d' rc := by
  have e : d.ackd ms.serial = d := DK.ackd_none d b.op _
  unfold HearP at P
  rw [b.cl, e] at P
  rcases P with ⟨h1, rfl, W⟩ | ⟨h1, h2, h3, rfl, W⟩ | ⟨h1, h2, h3, rfl, W⟩
  · exact ⟨d, 1, rfl, W, .inl ⟨h1, rfl, rfl⟩⟩
  · exact ⟨d, 0, rfl, W, .inr (.inl ⟨h1, h2, h3, rfl, rfl⟩)⟩
  · exact ⟨_, 0, rfl, W, .inr (.inr ⟨h1, h2, h3, rfl, rfl⟩)⟩
theorem Hrd.few {N : Nat} {d : DK} {want : List Bool} {hd : Int} (b : Bh N d want hd) {ms : Ms} {d' : DK} {rc : Int} (H : Hrd N d ms d' rc) : d'.out.length < 1000000 := by
  rcases H with ⟨-, -, rfl⟩ | ⟨-, -, -, -, rfl⟩ | ⟨-, -, -, -, rfl⟩
  · rw [b.ou]; decide
  · rw [b.ou]; decide
  · unfold DK.heardS; simp only [b.ou]; exact (by decide : 1 < 1000000)
end Go.Proofs.Ytejgaeinkojgpaa
