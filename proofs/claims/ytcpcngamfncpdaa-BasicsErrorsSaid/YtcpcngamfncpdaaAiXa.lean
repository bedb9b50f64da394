/- More cuts. Generic. -/
import Derived.Test.YtcpcngamfncpdaaAiX
set_option linter.unusedVariables false
namespace Go.Ai
open Go
/-- a loop that is left by its exit: what holds behind it is told once -/
theorem xloop_cut {P : Program} {b : XCode} {id : Nat} {Q : Exit → Env → AHeap → Prop} {ρ : Env} {h : AHeap} (M : Env → AHeap → Prop) (h1 : xcode P (.loop b) (fun e ρ h => e = .exit id ∧ M ρ h) ρ h) (h2 : ∀ ρ h, M ρ h → Q .normal ρ h) : xcode P (.loop b) (kBlock id Q) ρ h :=
  xcode_mono _ h1 fun e ρ h k => by rw [k.1, kBlock_exit, if_pos rfl]; exact h2 ρ h k.2
/-- .. or by ret -/
theorem xloop_cut2 {P : Program} {b : XCode} {id : Nat} {Q : Exit → Env → AHeap → Prop} {ρ : Env} {h : AHeap} (M R : Env → AHeap → Prop) (h1 : xcode P (.loop b) (fun e ρ h => (e = .exit id ∧ M ρ h) ∨ (e = .ret ∧ R ρ h)) ρ h) (h2 : ∀ ρ h, M ρ h → Q .normal ρ h) (h3 : ∀ ρ h, R ρ h → Q .ret ρ h) : xcode P (.loop b) (kBlock id Q) ρ h :=
  xcode_mono _ h1 fun e ρ h k => by
    rcases k with ⟨rfl, k⟩ | ⟨rfl, k⟩
    · rw [kBlock_exit, if_pos rfl]; exact h2 ρ h k
    · rw [kBlock_ret]; exact h3 ρ h k
/-- an object that is written no more -/
theorem Valid.freeze {P : Program} {f : FuncId} {args : List Value} {h : AHeap} {Q : Value → AHeap → Prop} (v : Valid P f args h fun r h' => Q r h' ∨ ∃ A cells, h'[A]? = some (some ⟨true, cells⟩) ∧ Q r (h'.set A (some ⟨false, cells⟩))) : Valid P f args h Q := by
  refine ⟨v.1, fun φ w args' hr hg ha => (v.2 φ w args' hr hg ha).mono ?_⟩
  rintro e w' ⟨φ', h', r, r', he, st, hv, hQ | ⟨A, cells, hA, hQ⟩⟩
  · exact ⟨φ', h', r, r', he, st, hv, hQ⟩
  refine ⟨φ', _, r, r', he, ?_, hv, hQ⟩
  have hAl := (List.getElem?_eq_some_iff.1 hA).1
  have old : ∀ (B : Nat) (o : AObj), (h'.set A (some ⟨false, cells⟩))[B]? = some (some o) → (B = A ∧ o = ⟨false, cells⟩) ∨ (B ≠ A ∧ h'[B]? = some (some o)) := by
    intro B o hB
    by_cases e : A = B
    · subst e
      rw [set_same hA] at hB
      cases hB
      exact .inl ⟨rfl, rfl⟩
    · rw [set_ne e] at hB
      exact .inr ⟨fun h => e h.symm, hB⟩
  have own : ∀ (B : Nat) (o : AObj), (h'.set A (some ⟨false, cells⟩))[B]? = some (some o) → o.own = true → h'[B]? = some (some o) := by
    intro B o hB ho
    rcases old B o hB with ⟨_, rfl⟩ | ⟨_, h1⟩
    · cases ho
    · exact h1
  refine ⟨st.ext, ⟨fun B o hB => ?_, fun B B' o o' b s s' n n' hB ho hB' e1 e2 => ?_, fun B hB => st.hr.dom B (by simpa using hB)⟩, st.os, st.tape, st.output, st.size, st.keep, fun b ⟨B, o, s, n, hB, ho, e⟩ hlt => st.fresh b ⟨B, o, s, n, own B o hB ho, ho, e⟩ hlt, by simpa using st.new⟩
  · rcases old B o hB with ⟨rfl, rfl⟩ | ⟨_, h1⟩
    · obtain ⟨b, s, n, cs, T, fz, g1, g2, g3, g4, g5⟩ := st.hr.obj B _ hA
      exact ⟨b, s, n, cs, T, fz, g1, g2, g3, g4, fun h => (by cases h)⟩
    · exact st.hr.obj B o h1
  · have h1 := own B o hB ho
    rcases old B' o' hB' with ⟨rfl, rfl⟩ | ⟨_, h2⟩
    · exact st.hr.inj B B' o _ b s s' n n' h1 ho hA e1 e2
    · exact st.hr.inj B B' o o' b s s' n n' h1 ho h2 e1 e2
end Go.Ai
