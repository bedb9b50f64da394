/- More cuts. Generic. -/
import Derived.Test.YtkonlakldafbeaaAiX
set_option linter.unusedVariables false
namespace Go.Ai
open Go
/-- a loop that is left by its exit: what holds behind it is told once -/
theorem xloop_cut {P : Program} {b : XCode} {id : Nat} {Q : Exit → Env → AHeap → Prop} {ρ : Env} {h : AHeap} (M : Env → AHeap → Prop) (h1 : xcode P (.loop b) (fun e ρ h => e = .exit id ∧ M ρ h) ρ h) (h2 : ∀ ρ h, M ρ h → Q .normal ρ h) : xcode P (.loop b) (kBlock id Q) ρ h :=
  xcode_mono _ h1 fun e ρ h k => by rw [k.1, kBlock_exit, if_pos rfl]; exact h2 ρ h k.2
/-- .. or by ret -/
theorem xloop_cut2 {P : Program} {b : XCode} {id : Nat} {Q : Exit → Env → AHeap → Prop} {ρ : Env} {h : AHeap} (M R : Env → AHeap → Prop) (h1 : xcode P (.loop b) (fun e ρ h => (e = .exit id ∧ M ρ h) ∨ (e = .ret ∧ R ρ h)) ρ h) (h2 : ∀ ρ h, M ρ h → Q .normal ρ h) (h3 : ∀ ρ h, R ρ h → Q .ret ρ h) : xcode P (.loop b) (kBlock id Q) ρ h :=
  xcode_mono _ h1 fun e ρ h k => by
    rcases k with ⟨rfl, k⟩ | ⟨rfl, k⟩
    · rw [kBlock_exit, if_pos rfl]; exact h2 ρ h k
    · rw [kBlock_ret]; exact h3 ρ h k
end Go.Ai
