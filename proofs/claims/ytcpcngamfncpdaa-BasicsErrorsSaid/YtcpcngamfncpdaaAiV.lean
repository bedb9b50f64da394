/- A closed run is the same over every heap. Generic. -/
import Derived.Test.YtcpcngamfncpdaaAiT
import Derived.Test.YtcpcngamfncpdaaAiU
set_option linter.unusedVariables false
namespace Go.Ai
open Go

theorem Valid.closed {P : Program} {f : FuncId} {b : Bool} (v : Valid P f [] [] fun r _ => r = .bool b) (h : AHeap) (hgv : gv = none := by rfl) : Valid P f [] h fun r h' => r = .bool b ∧ h' = h := by
  refine ⟨v.1, fun φ w args' hr hg ha => ?_⟩
  have h0 : HR (fun _ => none) [] w := ⟨fun A o h => by simp at h, fun A A' o o' B s s' n n' h => by simp at h, fun _ _ => rfl⟩
  have ha' := ha.nil_inv
  subst ha'
  refine (v.2 _ w [] h0 (GR.none hgv _) (LR.nil _)).mono ?_
  rintro e w' ⟨φ', h', r, r', he, st, hv, rfl⟩
  have hno : ∀ B, ¬ ownB (fun _ => none) [] B := fun B ⟨A, o, s, n, h, _⟩ => by simp at h
  have hk : ∀ B, B < w.heap.size → w'.heap[B]? = w.heap[B]? := fun B hB => st.keep B hB (hno B)
  have hv' : r' = .bool b := by cases hv; rfl
  subst hv'
  refine ⟨φ, h, .bool b, .bool b, he, ⟨ext.refl φ, ⟨fun A o hA => ?_, hr.inj, hr.dom⟩, st.os, st.tape, st.output, st.size, fun B hB _ => hk B hB, fun B hB _ => hB, hr.new0⟩, .bool b, rfl, rfl⟩
  obtain ⟨B, s, n, cs, T, fz, h1, h2, h3⟩ := hr.obj A o hA
  refine ⟨B, s, n, cs, T, fz, h1, ?_, h3⟩
  have hB : B < w.heap.size := by
    rcases Nat.lt_or_ge B w.heap.size with h | h
    · exact h
    · rw [Array.getElem?_eq_none h] at h2; cases h2
  rw [hk B hB]; exact h2
end Go.Ai
