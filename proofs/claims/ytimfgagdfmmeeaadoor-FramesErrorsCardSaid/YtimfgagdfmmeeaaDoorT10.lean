import Derived.Test.YtimfgagdfmmeeaaDoorT9
import Derived.Test.YtimfgagdfmmeeaaDoorAiYn
set_option linter.unusedVariables false
set_option linter.unusedSimpArgs false
namespace Go.Proofs.YtimfgagdfmmeeaaDoor
open Go Go.Ai Go.Proofs

def errorsSh : List (Bool × List Cn) := [(false, [.c (.leaf .str)]), (false, [.c (.sl [.int .u8])])]
theorem errors_sh {h : AHeap} {vs : List Value} (hF : Fl h) (hs : SmallArgsN h errorsSh vs) : Valid Tryd.prog 7 vs h fun r _ => r = .bool true := by
  obtain ⟨v1, r, rfl, h1, hs2⟩ := hs.cons_inv
  obtain ⟨v2, r, rfl, h2, hs3⟩ := hs2.cons_inv
  obtain rfl := hs3.nil_inv
  obtain ⟨s, rfl, -⟩ : ∃ s : ByteArray, v1 = .string s ∧ s.size ≤ maxLen := h1.1
  obtain ⟨q, n, c, zs, rfl, hn, hf, hz, -, -, hsp⟩ := u8_arg h2.1
  exact errors_law hF hf hn hz hsp
end Go.Proofs.YtimfgagdfmmeeaaDoor
