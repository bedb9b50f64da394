import Derived.Test.YtjhpohgghbimcaaT13
set_option linter.unusedVariables false
set_option linter.unusedSimpArgs false
namespace Go.Proofs.Ytjhpohgghbimcaa
open Go Go.Ai Go.Proofs

theorem own_law {h : AHeap} {vs : List Value} (hs : SmallArgs h ownSh vs) : Valid Try.prog 3 vs h fun r _ => r = .bool true := by
  obtain ⟨v0, r, rfl, h0, hs1⟩ := hs.cons_inv
  obtain ⟨v1, r, rfl, h1, hs2⟩ := hs1.cons_inv
  obtain rfl := hs2.nil_inv
  obtain ⟨w, rfl, _⟩ := h1.one
  obtain ⟨cs, rfl, g0⟩ := h0.agg
  obtain ⟨_, cs, rfl, ⟨a0, rfl, _⟩, g1⟩ := g0.cons_inv
  obtain ⟨_, cs, rfl, ⟨a1, rfl, _⟩, g2⟩ := g1.cons_inv
  obtain ⟨_, cs, rfl, ⟨a2, rfl, _⟩, g3⟩ := g2.cons_inv
  obtain ⟨_, cs, rfl, ⟨a3, rfl, _⟩, g4⟩ := g3.cons_inv
  obtain ⟨_, cs, rfl, ⟨a4, rfl, _⟩, g5⟩ := g4.cons_inv
  obtain ⟨_, cs, rfl, ⟨a5, rfl, _⟩, g6⟩ := g5.cons_inv
  obtain ⟨_, cs, rfl, h6, g7⟩ := g6.cons_inv
  obtain rfl := g7.nil_inv
  obtain ⟨q, n, c, zs, rfl, k1, k2, k3, k4, k5, k6, k7⟩ := h6.ints
  refine own_ok (Nat.lt_of_le_of_lt k2 (by decide)) (fun a ha => (k3 a ha).1) k1 k4 k5 fun v hv => ?_
  obtain ⟨z, _, rfl⟩ := List.mem_map.1 hv
  exact ⟨z, rfl⟩
end Go.Proofs.Ytjhpohgghbimcaa
