import Derived.Test.YtjhpohgghbimcaaT18
import Derived.Test.YtjhpohgghbimcaaAiY
set_option linter.unusedVariables false
set_option linter.unusedSimpArgs false
namespace Go.Proofs.Ytjhpohgghbimcaa
open Go Go.Ai Go.Proofs

def bothSh : List (Bool × List Cl) := [(true, [.leaf (.int .u16), .leaf (.int .u16)]), (true, [.leaf (.int .u16), .leaf (.int .u16)]), (true, [.leaf (.int .u16), .leaf (.int .u16)])]
theorem pair16 {h : AHeap} {v : Value} (k : SmallArg h (true, [.leaf (.int .u16), .leaf (.int .u16)]) v) : ∃ a b : Int, v = .agg #[.int .u16 a, .int .u16 b] ∧ 0 ≤ a ∧ a ≤ 65535 ∧ 0 ≤ b ∧ b ≤ 65535 := by
  obtain ⟨cs, rfl, g0⟩ := k.agg
  obtain ⟨_, cs, rfl, ⟨b0, rfl, x0⟩, g1⟩ := g0.cons_inv
  obtain ⟨_, cs, rfl, ⟨b1, rfl, x1⟩, g2⟩ := g1.cons_inv
  obtain rfl := g2.nil_inv
  have y0 := bounds_u16 x0
  have y1 := bounds_u16 x1
  exact ⟨b0, b1, rfl, y0.1, y0.2, y1.1, y1.2⟩
theorem both_law {h : AHeap} {vs : List Value} (hs : SmallArgs h bothSh vs) : Valid Try.prog 5 vs h fun r _ => r = .bool true := by
  obtain ⟨v0, r, rfl, h0, hs1⟩ := hs.cons_inv
  obtain ⟨v1, r, rfl, h1, hs2⟩ := hs1.cons_inv
  obtain ⟨v2, r, rfl, h2, hs3⟩ := hs2.cons_inv
  obtain rfl := hs3.nil_inv
  obtain ⟨s0, s1, rfl, a1, a2, a3, a4⟩ := pair16 h0
  obtain ⟨r0, r1, rfl, b1, b2, b3, b4⟩ := pair16 h1
  obtain ⟨c0, c1, rfl, d1, d2, d3, d4⟩ := pair16 h2
  exact both_ok a1 a3 b1 b3 d1 d3 b2 b4 d2 d4
end Go.Proofs.Ytjhpohgghbimcaa
