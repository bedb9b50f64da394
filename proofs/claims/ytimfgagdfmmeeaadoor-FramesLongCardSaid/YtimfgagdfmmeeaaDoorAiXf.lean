/- An object that is written no more from a call on. Generic. -/
import Derived.Test.YtimfgagdfmmeeaaDoorAiXd
set_option linter.unusedVariables false
set_option linter.unusedSimpArgs false
namespace Go.Ai
open Go
theorem HR.freeze {φ : Phi} {h : AHeap} {w : World} (r : HR φ h w) {A : Nat} {cells : List Value} (hA : h[A]? = some (some ⟨true, cells⟩)) : HR φ (h.set A (some ⟨false, cells⟩)) w := by
  have old : ∀ (B : Nat) (o : AObj), (h.set A (some ⟨false, cells⟩))[B]? = some (some o) → (B = A ∧ o = ⟨false, cells⟩) ∨ (B ≠ A ∧ h[B]? = some (some o)) := by
    intro B o hB
    by_cases e : A = B
    · subst e
      rw [set_same hA] at hB
      cases hB
      exact .inl ⟨rfl, rfl⟩
    · rw [set_ne e] at hB
      exact .inr ⟨fun h => e h.symm, hB⟩
  have own : ∀ (B : Nat) (o : AObj), (h.set A (some ⟨false, cells⟩))[B]? = some (some o) → o.own = true → h[B]? = some (some o) := by
    intro B o hB ho
    rcases old B o hB with ⟨_, rfl⟩ | ⟨_, h1⟩
    · cases ho
    · exact h1
  refine ⟨fun B o hB => ?_, fun B B' o o' b s s' n n' hB ho hB' e1 e2 => ?_, fun B hB => r.dom B (by simpa using hB)⟩
  · rcases old B o hB with ⟨rfl, rfl⟩ | ⟨_, h1⟩
    · obtain ⟨b, s, n, cs, T, fz, g1, g2, g3, g4, g5⟩ := r.obj B _ hA
      exact ⟨b, s, n, cs, T, fz, g1, g2, g3, g4, fun h => (by cases h)⟩
    · exact r.obj B o h1
  · have h1 := own B o hB ho
    rcases old B' o' hB' with ⟨rfl, rfl⟩ | ⟨_, h2⟩
    · exact r.inj B B' o _ b s s' n n' h1 ho hA e1 e2
    · exact r.inj B B' o o' b s s' n n' h1 ho h2 e1 e2
theorem ownB.thaw {φ : Phi} {h : AHeap} {A B : Nat} {cells : List Value} (hA : h[A]? = some (some ⟨true, cells⟩)) (k : ownB φ (h.set A (some ⟨false, cells⟩)) B) : ownB φ h B := by
  obtain ⟨C, o, s, n, hC, ho, e⟩ := k
  by_cases e2 : A = C
  · subst e2
    rw [set_same hA] at hC
    cases hC; cases ho
  · rw [set_ne e2] at hC
    exact ⟨C, o, s, n, hC, ho, e⟩
theorem Valid.pre {P : Program} {f : FuncId} {args : List Value} {h : AHeap} {Q : Value → AHeap → Prop} {A : Nat} {cells : List Value} (hA : h[A]? = some (some ⟨true, cells⟩)) (v : Valid P f args (h.set A (some ⟨false, cells⟩)) Q) : Valid P f args h Q := by
  refine ⟨v.1, fun φ w args' hr hg ha => (v.2 φ w args' (hr.freeze hA) hg ha).mono ?_⟩
  rintro e w' ⟨φ', h', r, r', he, st, hv, hQ⟩
  exact ⟨φ', h', r, r', he, ⟨st.ext, st.hr, st.os, st.tape, st.output, st.size, fun b h1 h2 => st.keep b h1 fun k => h2 (k.thaw hA), fun b h1 h2 => (st.fresh b h1 h2).thaw hA⟩, hv, hQ⟩
end Go.Ai
