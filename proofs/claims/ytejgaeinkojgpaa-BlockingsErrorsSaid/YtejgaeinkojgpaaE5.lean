import Derived.Test.YtejgaeinkojgpaaE4
import Derived.Test.YtejgaeinkojgpaaAiY
set_option linter.unusedVariables false
set_option linter.unusedSimpArgs false
namespace Go.Proofs.Ytejgaeinkojgpaa
open Go Go.Ai Go.Proofs

def errorsSh : List (Bool × List Cl) := [(false, [.leaf (.int .i64)]), (false, [.leaf (.int .i64)]), (false, [.sl [.int .i64]])]
theorem errors_sh {h : AHeap} {vs : List Value} (hs : SmallArgs h errorsSh vs) : Valid Try.prog 7 vs h fun r _ => r = .bool true := by
  obtain ⟨v1, r, rfl, h1, hs2⟩ := hs.cons_inv
  obtain ⟨v2, r, rfl, h2, hs3⟩ := hs2.cons_inv
  obtain ⟨v3, r, rfl, h3, hs4⟩ := hs3.cons_inv
  obtain rfl := hs4.nil_inv
  obtain ⟨a, rfl, wa⟩ := h1.one
  obtain ⟨b, rfl, wb⟩ := h2.one
  obtain ⟨q, n, c, zs, rfl, k1, k2, k3, k4, k5, k6, k7⟩ := h3.one.ints
  have hl : zs.length = n := by have := firstV_len k5; simpa using this
  subst hl
  have hm : maxLen = 9223372036854775807 := rfl
  exact errors_ok (bounds_i64 wa) (bounds_i64 wb) ⟨k5, fun a ha => (k3 a ha).2.2⟩ (by omega)
end Go.Proofs.Ytejgaeinkojgpaa
