import Derived.Test.YtimfgagdfmmeeaaDoorT13
import Derived.Test.YtimfgagdfmmeeaaDoorAiYn
set_option linter.unusedVariables false
set_option linter.unusedSimpArgs false
namespace Go.Proofs.YtimfgagdfmmeeaaDoor
open Go Go.Ai Go.Proofs

def longSh : List (Bool × List Cn) := [(false, [.c (.leaf (.int .u8))]), (false, [.c (.leaf (.int .u16))])]
theorem long_sh {h : AHeap} {vs : List Value} (hF : Fl h) (hs : SmallArgsN h longSh vs) : Valid Tryd.prog 8 vs h fun r _ => r = .bool true := by
  obtain ⟨v1, r, rfl, h1, hs2⟩ := hs.cons_inv
  obtain ⟨v2, r, rfl, h2, hs3⟩ := hs2.cons_inv
  obtain rfl := hs3.nil_inv
  obtain ⟨b, rfl, w1⟩ : ∃ n, v1 = .int .u8 n ∧ (Lit.int .u8 n).wf = true := h1.1
  obtain ⟨m, rfl, w2⟩ : ∃ n, v2 = .int .u16 n ∧ (Lit.int .u16 n).wf = true := h2.1
  have b2 := bounds_u16 w2
  obtain ⟨m, rfl⟩ : ∃ k : Nat, m = k := ⟨m.toNat, by omega⟩
  exact long_law hF (bounds_u8 w1) (by omega)
end Go.Proofs.YtimfgagdfmmeeaaDoor
