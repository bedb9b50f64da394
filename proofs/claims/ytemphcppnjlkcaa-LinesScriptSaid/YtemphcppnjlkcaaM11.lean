import Derived.Test.YtemphcppnjlkcaaM10
set_option linter.unusedVariables false
set_option linter.unusedSimpArgs false
namespace Go.Proofs.Ytemphcppnjlkcaa
open Go Go.Ai Go.Proofs

def scriptSh : List (Bool × List Cl) := [(true, [.leaf (.int .u8), .sl [.int .u8, .int .u8, .int .u16]]), (false, [.sl [.int .u8, .str]])]
theorem script_law {h : AHeap} {vs : List Value} (hs : SmallArgs h scriptSh vs) : Valid Try.prog 3 vs h fun r _ => r = .bool true := by
  obtain ⟨v0, r, rfl, h0, hs1⟩ := hs.cons_inv
  obtain ⟨v1, r, rfl, h1, hs2⟩ := hs1.cons_inv
  obtain rfl := hs2.nil_inv
  obtain ⟨cs, rfl, g0⟩ := h0.agg
  obtain ⟨_, cs, rfl, ⟨b0, rfl, x0⟩, g1⟩ := g0.cons_inv
  obtain ⟨_, cs, rfl, y1, g2⟩ := g1.cons_inv
  obtain rfl := g2.nil_inv
  obtain ⟨q, n, c, rows, rfl, k1, k2, k3, k4, k5, k6, k7⟩ := y1.slice
  obtain ⟨ql, nl, cl, rowsL, rfl, l1, l2, l3, l4, l5, l6, l7⟩ := h1.one.slice
  have y0 := bounds_u8 x0
  refine script_ok y0.1 k5 (Nat.le_trans k1 k2) k7 l5 (fun a ha => (l3 a ha).2.2) (Nat.le_trans l1 l2) (fun i hi => ?_)
  obtain ⟨u, e1, z, rfl, e2⟩ := l7 i hi 0 (.int .u8) rfl
  obtain ⟨v, e3, s, rfl, e4⟩ := l7 i hi 1 .str rfl
  have b := bounds_u8 e2
  exact ⟨z, s, by simpa using e1, b.1, b.2, by simpa using e3, e4⟩
end Go.Proofs.Ytemphcppnjlkcaa
