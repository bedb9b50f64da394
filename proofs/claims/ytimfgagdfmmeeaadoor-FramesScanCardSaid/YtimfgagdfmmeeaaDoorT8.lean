import Derived.Test.YtimfgagdfmmeeaaDoorT7
import Derived.Test.YtimfgagdfmmeeaaDoorAiYn
set_option linter.unusedVariables false
set_option linter.unusedSimpArgs false
namespace Go.Proofs.YtimfgagdfmmeeaaDoor
open Go Go.Ai Go.Proofs

def scanSh : List (Bool × List Cn) := [(false, [.c (.leaf .str)]), (false, [.c (.sl [.int .u8])])]
theorem scan_sh {h : AHeap} {vs : List Value} (hF : Fl h) (hs : SmallArgsN h scanSh vs) : Valid Tryd.prog 4 vs h fun r _ => r = .bool true := by
  obtain ⟨v1, r, rfl, h1, hs2⟩ := hs.cons_inv
  obtain ⟨v2, r, rfl, h2, hs3⟩ := hs2.cons_inv
  obtain rfl := hs3.nil_inv
  obtain ⟨s, rfl, -⟩ : ∃ s : ByteArray, v1 = .string s ∧ s.size ≤ maxLen := h1.1
  obtain ⟨q, n, c, zs, rfl, hn, hf, hz, -⟩ := u8_arg h2.1
  exact scan_law hF hf hn hz
end Go.Proofs.YtimfgagdfmmeeaaDoor
