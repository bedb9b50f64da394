import Derived.Test.YtimfgagdfmmeeaaDoorT2
import Derived.Test.YtimfgagdfmmeeaaDoorAiYn
set_option linter.unusedVariables false
set_option linter.unusedSimpArgs false
namespace Go.Proofs.YtimfgagdfmmeeaaDoor
open Go Go.Ai Go.Proofs

def backSh : List (Bool × List Cn) := [(false, [.c (.sl [.int .u8])]), (false, [.c (.sl [.int .u8])]), (false, [.c (.leaf .str)])]
theorem back_sh {h : AHeap} {vs : List Value} (hF : Fl h) (hs : SmallArgsN h backSh vs) : Valid Tryd.prog 5 vs h fun r _ => r = .bool true := by
  obtain ⟨v1, r, rfl, h1, hs2⟩ := hs.cons_inv
  obtain ⟨v2, r, rfl, h2, hs3⟩ := hs2.cons_inv
  obtain ⟨v3, r, rfl, h3, hs4⟩ := hs3.cons_inv
  obtain rfl := hs4.nil_inv
  obtain ⟨qb, nb, cb, b, rfl, hnb, hfb, hbb, hcb1, hcb2, hspb⟩ := u8_arg h1.1
  obtain ⟨q, n, c, zs, rfl, hn, hf, hz, -⟩ := u8_arg h2.1
  obtain ⟨s, rfl, -⟩ : ∃ s : ByteArray, v3 = .string s ∧ s.size ≤ maxLen := h3.1
  exact back_law hF hfb hnb hbb ⟨hcb1, hcb2⟩ hspb hf hn hz
end Go.Proofs.YtimfgagdfmmeeaaDoor
