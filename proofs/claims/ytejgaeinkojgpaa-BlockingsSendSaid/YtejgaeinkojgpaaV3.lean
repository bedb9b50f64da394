import Derived.Test.YtejgaeinkojgpaaV1
import Derived.Test.YtejgaeinkojgpaaV2
set_option linter.unusedVariables false
set_option linter.unusedSimpArgs false
namespace Go.Proofs.Ytejgaeinkojgpaa
open Go Go.Ai Go.Proofs

/-- codes of an act -/
def CodesV (h : AHeap) (q : Option Addr) (cs : List Int) : Prop := ∀ (j : Nat) (z : Int), cs[j]? = some z → (0 ≤ z ∧ z ≤ 65535) ∧ ∃ a o, q = some a ∧ a.spot = none ∧ h[a.block]? = some (some o) ∧ o.cells[a.off + j]? = some (.int .u16 z)
theorem CodesV.kp {h h' : AHeap} {q : Option Addr} {cs : List Int} (v : CodesV h q cs) (k : Kp h h') : CodesV h' q cs := fun j z hz => by
  obtain ⟨b, a, o, e, h1, h2, h3⟩ := v j z hz
  exact ⟨b, a, o, e, h1, k.get h2, h3⟩
/-- an act -/
def ActP (h : AHeap) (rows : List Value) (i : Nat) : Prop := ∃ (kd : Int) (sd on : Bool) (cq : Option Addr) (cc : Nat) (cs : List Int), rows[i * 4]? = some (.int .u8 kd) ∧ (0 ≤ kd ∧ kd ≤ 255) ∧ rows[i * 4 + 1]? = some (.bool sd) ∧ rows[i * 4 + 2]? = some (.slice cq cs.length cc) ∧ rows[i * 4 + 3]? = some (.bool on) ∧ cs.length ≤ 9223372036854775807 ∧ CodesV h cq cs
def ActsW (h : AHeap) (q : Option Addr) (n : Nat) : Prop := n = 0 ∨ ∃ B rows, q = some ⟨B, 0, none⟩ ∧ h[B]? = some (some ⟨false, rows⟩) ∧ ∀ i, i < n → ActP h rows i
theorem ActsW.at {h h' : AHeap} {q : Option Addr} {n : Nat} (w : ActsW h q n) (K : Kp h h') {i : Nat} (hi : i < n) : ∃ B rows, q = some ⟨B, 0, none⟩ ∧ h'[B]? = some (some ⟨false, rows⟩) ∧ ActP h' rows i := by
  rcases w with h0 | ⟨B, rows, h1, h2, h3⟩
  · omega
  · obtain ⟨kd, sd, on, cq, cc, cs, a1, a2, a3, a4, a5, a6, a7⟩ := h3 i hi
    exact ⟨B, rows, h1, K.get h2, kd, sd, on, cq, cc, cs, a1, a2, a3, a4, a5, a6, a7.kp K⟩
/-- a desk in the heap, and the law's own two lists beside it -/
structure HS (h0 h : AHeap) (D G L T NW TW : Nat) (d : DK) (opv outv : Value) (nw tw : List Bool) : Prop where
  kp : Kp h0 h
  A : DAt h D G L T d opv outv
  far : ∀ B, ftD D G L T outv B → h0.length ≤ B ∧ B ≠ NW ∧ B ≠ TW
  nwo : h[NW]? = some (some ⟨true, bB nw⟩)
  two : h[TW]? = some (some ⟨true, bB tw⟩)
  ne : NW ≠ TW
  n0 : h0.length ≤ NW
  t0 : h0.length ≤ TW
section
variable {h0 h h' : AHeap} {D G L T NW TW : Nat} {d : DK} {opv outv : Value} {nw tw : List Bool}
theorem HS.keep (H : HS h0 h D G L T NW TW d opv outv nw tw) (K : Kp h h') : HS h0 h' D G L T NW TW d opv outv nw tw :=
  ⟨H.kp.trans K, H.A.kp K, H.far, K.get H.nwo, K.get H.two, H.ne, H.n0, H.t0⟩
theorem HS.went (H : HS h0 h D G L T NW TW d opv outv nw tw) {d' : DK} (W : WentD h h' D G L T d' outv) : ∃ opv' outv', HS h0 h' D G L T NW TW d' opv' outv' nw tw ∧ (∀ B, ftD D G L T outv' B → ftD D G L T outv B ∨ h.length ≤ B) := by
  obtain ⟨opv', outv', A', F, nn⟩ := W
  refine ⟨opv', outv', ⟨⟨Nat.le_trans H.kp.1 F.1, fun B hB => ?_⟩, A', fun B hB => ?_, ?_, ?_, H.ne, H.n0, H.t0⟩, nn⟩
  · rw [F.2 B (Nat.lt_of_lt_of_le hB H.kp.1) (fun hf => by have := (H.far B hf).1; omega)]
    exact H.kp.2 B hB
  · rcases nn B hB with h1 | h1
    · exact H.far B h1
    · have := H.kp.1
      have l1 := lt_of_get H.nwo
      have l2 := lt_of_get H.two
      exact ⟨by omega, by omega, by omega⟩
  · exact F.get H.nwo fun hf => (H.far _ hf).2.1 rfl
  · exact F.get H.two fun hf => (H.far _ hf).2.2 rfl
theorem HS.fr (H : HS h0 h D G L T NW TW d opv outv nw tw) {X : Nat} (hX : X = NW ∨ X = TW) (o : Option AObj) : DAt (h.set X o) D G L T d opv outv := by
  refine H.A.keep (fun B cs hB => ?_) fun i B hB => set_ne (fun e => ?_) _
  · rw [set_ne]
    · exact hB
    · rintro rfl
      rcases hX with rfl | rfl
      · rw [H.nwo] at hB; cases hB
      · rw [H.two] at hB; cases hB
  · have := H.far B ⟨i, hB⟩
    rcases hX with rfl | rfl
    · exact this.2.1 e.symm
    · exact this.2.2 e.symm
theorem HS.setN (H : HS h0 h D G L T NW TW d opv outv nw tw) {nw' : List Bool} : HS h0 (h.set NW (some ⟨true, bB nw'⟩)) D G L T NW TW d opv outv nw' tw :=
  ⟨H.kp.set H.n0 _, H.fr (.inl rfl) _, H.far, by rw [List.getElem?_set_self (lt_of_get H.nwo)], by rw [set_ne H.ne]; exact H.two, H.ne, H.n0, H.t0⟩
theorem HS.setT (H : HS h0 h D G L T NW TW d opv outv nw tw) {tw' : List Bool} : HS h0 (h.set TW (some ⟨true, bB tw'⟩)) D G L T NW TW d opv outv nw tw' :=
  ⟨H.kp.set H.t0 _, H.fr (.inr rfl) _, H.far, by rw [set_ne H.ne.symm]; exact H.nwo, by rw [List.getElem?_set_self (lt_of_get H.two)], H.ne, H.n0, H.t0⟩
end
/-- the numbers that are given to SetAll -/
structure CV (h0 h : AHeap) (D G L T NW TW : Nat) (outv v : Value) (zs : List Int) : Prop where
  R : RetN 1 h v zs.length (zs.map (.int .i64))
  apart : ∀ B, slB v = some B → h0.length ≤ B ∧ B ≠ NW ∧ B ≠ TW ∧ ¬ ftD D G L T outv B
theorem CV.cdv {h0 h : AHeap} {D G L T NW TW : Nat} {outv v : Value} {zs : List Int} (c : CV h0 h D G L T NW TW outv v zs) : ∃ q k, v = .slice q zs.length k ∧ CdV h q k zs ∧ ∀ a, q = some a → a.block ≠ L := by
  obtain ⟨q, k, rfl⟩ := c.R.shp
  refine ⟨q, k, rfl, ⟨c.R.toO.first, fun a ha => c.R.lt (by subst ha; rfl)⟩, fun a ha e => ?_⟩
  have := (c.apart a.block (by subst ha; rfl)).2.2.2
  exact this ⟨2, .inr (.inr (.inl ⟨rfl, e⟩))⟩
end Go.Proofs.Ytejgaeinkojgpaa
