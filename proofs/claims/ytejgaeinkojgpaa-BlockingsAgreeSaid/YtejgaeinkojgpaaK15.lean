import Derived.Test.YtejgaeinkojgpaaK14
set_option linter.unusedVariables false
set_option linter.unusedSimpArgs false
namespace Go.Proofs.Ytejgaeinkojgpaa
open Go Go.Ai Go.Proofs

/-- a list that was taken lies apart from the desk -/
def Off (h : AHeap) (D G L T : Nat) (outv r : Value) : Prop := ∀ a n c, r = .slice (some a) n c → a.block < h.length ∧ ¬ ftD D G L T outv a.block
section
variable {h : AHeap} {D G L T : Nat} {d : DK} {opv outv : Value}
theorem hold {r : Value} {ms : List Ms} {h' : AHeap} {outv' : Value} (A : DAt h D G L T d opv outv) (o : Off h D G L T outv r) (M : MsgL h r ms) (F : Fr (ftD D G L T outv) h h') (n : ∀ B, ftD D G L T outv' B → ftD D G L T outv B ∨ h.length ≤ B) : MsgL h' r ms ∧ Off h' D G L T outv' r := by
  obtain ⟨q, cells, rfl, hf, R⟩ := M
  refine ⟨⟨q, cells, rfl, ?_, R.frz (A.frz F)⟩, fun a k c e => ?_⟩
  · cases q with
    | none => exact hf
    | some a =>
      obtain ⟨h1, h2⟩ := o a _ _ rfl
      simpa only [firstV, cellsAt, F.2 a.block h1 h2] using hf
  · obtain ⟨h1, h2⟩ := o a k c e
    refine ⟨Nat.lt_of_lt_of_le h1 F.1, fun h3 => ?_⟩
    rcases n _ h3 with h4 | h4
    · exact h2 h4
    · omega
theorem taken_ok (A : DAt h D G L T d opv outv) (hl : d.out.length < 1000000) : Valid Try.prog 13 [.pointer (some ⟨D, 0, none⟩)] h fun r h' => MsgL h' r d.out ∧ DAt h' D G L T { d with out := [] } opv (.slice none 0 0) ∧ Off h' D G L T (.slice none 0 0) r ∧ Fr (ftD D G L T outv) h h' ∧ (∀ a n c, r = .slice (some a) n c → slB outv = some a.block) := by
  refine (take_ok A hl).mono ?_
  rintro r h' ⟨M, A', el, fr, s⟩
  refine ⟨M, A', fun a n c e => ?_, ⟨by omega, fun B hB hn => fr B fun e => hn ⟨0, .inl ⟨rfl, e⟩⟩⟩, s⟩
  have hs := s a n c e
  have h4 : FD D G L T outv 4 a.block := .inr (.inr (.inr (.inr ⟨rfl, hs⟩)))
  refine ⟨by have := A.lt h4; omega, ?_⟩
  rintro ⟨i, hi | hi | hi | hi | ⟨-, hi⟩⟩
  · have := A.s i 4 _ (.inl hi) h4; omega
  · have := A.s i 4 _ (.inr (.inl hi)) h4; omega
  · have := A.s i 4 _ (.inr (.inr (.inl hi))) h4; omega
  · have := A.s i 4 _ (.inr (.inr (.inr (.inl hi)))) h4; omega
  · simp [slB] at hi
end
/-- the one message of a list -/
theorem MsgL.one {h : AHeap} {r : Value} {m : Ms} (M : MsgL h r [m]) : ∃ a o mv ov, r = .slice (some a) 1 1 ∧ a.spot = none ∧ h[a.block]? = some (some o) ∧ getN o.cells a.off 5 = some (m.cells mv ov) ∧ BitsV h mv m.mask ∧ BitsV h ov m.on ∧ (∀ j, j < 5 → o.cells[a.off + j]? = (m.cells mv ov)[j]?) := by
  obtain ⟨q, cells, rfl, hf, mv, ov, rr, rfl, B1, B2, hr⟩ := M
  have hr' : rr = [] := hr
  subst hr'
  rw [List.append_nil] at hf
  cases q with
  | none => simp [firstV] at hf
  | some a =>
    obtain ⟨h1, o, h2, h3⟩ := firstV_elem (k := 5) hf (by decide) (i := 0) (by simp)
    have hg : getN o.cells a.off 5 = some (m.cells mv ov) := by
      simp only [firstV, cellsAt, h2, h1, List.length_cons, List.length_nil] at hf
      simpa using hf
    refine ⟨a, o, mv, ov, rfl, h1, h2, hg, B1, B2, fun j hj => ?_⟩
    have hlt : j < (m.cells mv ov).length := by simpa [Ms.cells] using hj
    have := getN_get hg (List.getElem?_eq_getElem hlt)
    rw [this, List.getElem?_eq_getElem hlt]
theorem ft_nil {D G L T B : Nat} {outv : Value} (h : ftD D G L T (.slice none 0 0) B) : ftD D G L T outv B := by
  obtain ⟨i, hi | hi | hi | hi | ⟨-, hi⟩⟩ := h
  · exact ⟨i, .inl hi⟩
  · exact ⟨i, .inr (.inl hi)⟩
  · exact ⟨i, .inr (.inr (.inl hi))⟩
  · exact ⟨i, .inr (.inr (.inr (.inl hi)))⟩
  · simp [slB] at hi
theorem MsgL.shp {h : AHeap} {r : Value} {ms : List Ms} (M : MsgL h r ms) : ∃ q, r = .slice q ms.length ms.length := by obtain ⟨q, _, rfl, _⟩ := M; exact ⟨q, rfl⟩
theorem MsgL.kp {h h' : AHeap} {r : Value} {ms : List Ms} (M : MsgL h r ms) (K : Kp h h') : MsgL h' r ms := by
  obtain ⟨q, cells, rfl, hf, R⟩ := M
  exact ⟨q, cells, rfl, K.first hf, R.frz K.frz⟩
theorem Off.kp {h h' : AHeap} {D G L T : Nat} {outv r : Value} (o : Off h D G L T outv r) (K : Kp h h') : Off h' D G L T outv r := fun a n c e => ⟨Nat.lt_of_lt_of_le (o a n c e).1 K.1, (o a n c e).2⟩
end Go.Proofs.Ytejgaeinkojgpaa
