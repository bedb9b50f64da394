import Derived.Test.YtpbbmnfffolcoaaO3
set_option linter.unusedVariables false
set_option linter.unusedSimpArgs false
namespace Go.Proofs.Ytpbbmnfffolcoaa
open Go Go.Ai Go.Proofs

theorem once_sh {h : AHeap} {vs : List Value} (hs : SmallArgsN h actsSh vs) : Valid Try.prog 4 vs h fun r _ => r = .bool true := by
  obtain ⟨v1, r, rfl, h1, hs2⟩ := hs.cons_inv
  obtain rfl := hs2.nil_inv
  obtain ⟨q, nA, c, rfl, hA, W⟩ := acts_arg h1.1
  exact (once_ok hA W).mono fun r h' e => e.1
end Go.Proofs.Ytpbbmnfffolcoaa
