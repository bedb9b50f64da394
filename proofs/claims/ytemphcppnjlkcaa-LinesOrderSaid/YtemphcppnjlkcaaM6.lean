import Derived.Test.YtemphcppnjlkcaaM5
set_option linter.unusedVariables false
set_option linter.unusedSimpArgs false
namespace Go.Proofs.Ytemphcppnjlkcaa
open Go Go.Ai Go.Proofs

def orderSh : List (Bool × List Cl) := [(true, [.leaf (.int .u8), .sl [.int .u8, .int .u8, .int .u16]]), (false, [.sl [.str]]), (false, [.sl [.int .u8]])]
theorem order_law {h : AHeap} {vs : List Value} (hs : SmallArgs h orderSh vs) : Valid Try.prog 4 vs h fun r _ => r = .bool true := by
  obtain ⟨v0, r, rfl, h0, hs1⟩ := hs.cons_inv
  obtain ⟨v1, r, rfl, h1, hs2⟩ := hs1.cons_inv
  obtain ⟨v2, r, rfl, h2, hs3⟩ := hs2.cons_inv
  obtain rfl := hs3.nil_inv
  obtain ⟨cs, rfl, g0⟩ := h0.agg
  obtain ⟨_, cs, rfl, ⟨b0, rfl, x0⟩, g1⟩ := g0.cons_inv
  obtain ⟨_, cs, rfl, y1, g2⟩ := g1.cons_inv
  obtain rfl := g2.nil_inv
  obtain ⟨q, n, c, rows, rfl, k1, k2, k3, k4, k5, k6, k7⟩ := y1.slice
  obtain ⟨ql, nl, cl, rowsL, rfl, l1, l2, l3, l4, l5, l6, l7⟩ := h1.one.slice
  obtain ⟨qt, nt, ct, zt, rfl, t1, t2, t3, t4, t5, t6, t7⟩ := h2.one.ints
  have y0 := bounds_u8 x0
  refine order_ok y0.1 k5 (Nat.le_trans k1 k2) k7 l5 (fun a ha => (l3 a ha).2.2) (Nat.le_trans l1 l2) (fun i hi => ?_) t5 (fun a ha => (t3 a ha).2.2) (Nat.le_trans t1 t2) (fun z hz => bounds_u8 (t7 z hz))
  obtain ⟨u, e1, s, rfl, e2⟩ := l7 i hi 0 .str rfl
  exact ⟨s, by simpa using e1, e2⟩
end Go.Proofs.Ytemphcppnjlkcaa
