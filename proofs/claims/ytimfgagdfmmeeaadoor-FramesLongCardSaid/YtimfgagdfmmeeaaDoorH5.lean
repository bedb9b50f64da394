import Derived.Test.YtimfgagdfmmeeaaDoorH4
import Derived.Test.YtimfgagdfmmeeaaDoorAiYn
set_option linter.unusedVariables false
set_option linter.unusedSimpArgs false
namespace Go.Proofs.YtimfgagdfmmeeaaDoor
open Go Go.Ai Go.Proofs

theorem u8_arg {h : AHeap} {v : Value} (s : SmallOk h (.sl [.int .u8]) v) : ∃ (q : Option Addr) (n c : Nat) (zs : List Int), v = .slice q n c ∧ n ≤ 9223372036854775807 ∧ firstV 1 h n (.slice q n c) = some (bR zs) ∧ (∀ z ∈ zs, 0 ≤ z ∧ z ≤ 255) ∧ n ≤ c ∧ c ≤ 9223372036854775807 ∧ ∀ a, q = some a → a.spot = none := by
  obtain ⟨q, n, c, zs, rfl, k1, k2, k3, k4, k5, k6, k7⟩ := s.ints
  have hm : maxLen = 9223372036854775807 := rfl
  exact ⟨q, n, c, zs, rfl, by omega, k5, fun z hz => bounds_u8 (k7 z hz), k1, by omega, fun a ha => (k3 a ha).1⟩
theorem u16_arg {h : AHeap} {v : Value} (s : SmallOk h (.sl [.int .u16]) v) : ∃ (q : Option Addr) (n c : Nat) (zs : List Int), v = .slice q n c ∧ n ≤ 9223372036854775807 ∧ firstV 1 h n (.slice q n c) = some (wR zs) ∧ ∀ z ∈ zs, 0 ≤ z ∧ z ≤ 65535 := by
  obtain ⟨q, n, c, zs, rfl, k1, k2, k3, k4, k5, k6, k7⟩ := s.ints
  have hm : maxLen = 9223372036854775807 := rfl
  exact ⟨q, n, c, zs, rfl, by omega, k5, fun z hz => bounds_u16 (k7 z hz)⟩
def joinSh : List (Bool × List Cn) := [(false, [.c (.sl [.int .u8])]), (false, [.c (.sl [.int .u16])])]
theorem join_sh {h : AHeap} {vs : List Value} (hF : Fl h) (hs : SmallArgsN h joinSh vs) : Valid Tryd.prog 3 vs h fun r _ => r = .bool true := by
  obtain ⟨v1, r, rfl, h1, hs2⟩ := hs.cons_inv
  obtain ⟨v2, r, rfl, h2, hs3⟩ := hs2.cons_inv
  obtain rfl := hs3.nil_inv
  obtain ⟨qb, nb, cb, b, rfl, hnb, hfb, hbb, -⟩ := u8_arg h1.1
  obtain ⟨q, n, c, zs, rfl, hn, hf, hz⟩ := u16_arg h2.1
  exact join_law hF hfb hnb hbb hf hn hz
end Go.Proofs.YtimfgagdfmmeeaaDoor
