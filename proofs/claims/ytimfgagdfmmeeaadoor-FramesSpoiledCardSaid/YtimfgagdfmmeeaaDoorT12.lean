import Derived.Test.YtimfgagdfmmeeaaDoorT11
import Derived.Test.YtimfgagdfmmeeaaDoorAiYn
set_option linter.unusedVariables false
set_option linter.unusedSimpArgs false
namespace Go.Proofs.YtimfgagdfmmeeaaDoor
open Go Go.Ai Go.Proofs

def spoiledSh : List (Bool × List Cn) := [(false, [.c (.sl [.int .u8])]), (true, [.c (.leaf (.int .u8)), .c (.leaf (.int .u8)), .c (.leaf (.int .u8)), .c (.leaf (.int .u8))]), (false, [.c (.leaf .str)])]
theorem spoiled_sh {h : AHeap} {vs : List Value} (hF : Fl h) (hs : SmallArgsN h spoiledSh vs) : Valid Tryd.prog 6 vs h fun r _ => r = .bool true := by
  obtain ⟨v1, r, rfl, h1, hs2⟩ := hs.cons_inv
  obtain ⟨v2, r, rfl, h2, hs3⟩ := hs2.cons_inv
  obtain ⟨v3, r, rfl, h3, hs4⟩ := hs3.cons_inv
  obtain rfl := hs4.nil_inv
  obtain ⟨qb, nb, cb, b, rfl, hnb, hfb, hbb, hcb1, hcb2, hspb⟩ := u8_arg h1.1
  obtain ⟨cs, rfl, p0⟩ := h2
  obtain ⟨x, r, rfl, ⟨z0, rfl, w0⟩, p1⟩ := p0.cons_inv
  obtain ⟨x, r, rfl, ⟨z1, rfl, w1⟩, p2⟩ := p1.cons_inv
  obtain ⟨x, r, rfl, ⟨z2, rfl, w2⟩, p3⟩ := p2.cons_inv
  obtain ⟨x, r, rfl, ⟨z3, rfl, w3⟩, p4⟩ := p3.cons_inv
  obtain rfl := p4.nil_inv
  obtain ⟨s, rfl, -⟩ : ∃ s : ByteArray, v3 = .string s ∧ s.size ≤ maxLen := h3.1
  refine spoiled_law hF hfb hnb hbb ⟨hcb1, hcb2⟩ hspb fun z hz => ?_
  simp only [List.mem_cons, List.not_mem_nil, or_false] at hz
  rcases hz with rfl | rfl | rfl | rfl
  · exact bounds_u8 w0
  · exact bounds_u8 w1
  · exact bounds_u8 w2
  · exact bounds_u8 w3
end Go.Proofs.YtimfgagdfmmeeaaDoor
