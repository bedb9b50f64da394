import Derived.Test.YtcpcngamfncpdaaD7
import Derived.Test.YtcpcngamfncpdaaRun
import Derived.Test.YtcpcngamfncpdaaAiY
set_option linter.unusedVariables false
set_option linter.unusedSimpArgs false
namespace Go.Proofs.Ytcpcngamfncpdaa
open Go Go.Ai Go.Proofs

theorem arg_bytes {h : AHeap} {v : Value} (s : SmallOk h (.sl [.int .u8]) v) : ∃ (q : Option Addr) (n c : Nat) (zs : List Int), v = .slice q n c ∧ n ≤ c ∧ c ≤ maxLen ∧ zs.length = n ∧ (∀ z ∈ zs, 0 ≤ z ∧ z ≤ 255) ∧ (n ≤ 1000000 → LoadW h (.slice q n c) zs) := by
  rcases s with rfl | ⟨B, len, cap, rows, rfl, k1, k2, k3, k4, k5, k6⟩
  · exact ⟨none, 0, 0, [], rfl, by omega, by omega, rfl, by simp, fun _ => ⟨none, 0, rfl, by simp, .inl rfl⟩⟩
  · obtain ⟨zs, rfl, h8⟩ := ints_rows (k := .u8) (n := len) (by simpa using k5) fun i hi => by simpa using k6 i hi 0 (.int .u8) rfl
    have hl : zs.length = len := by simpa using k5
    refine ⟨_, len, cap, zs, rfl, k1, k2, hl, fun z hz => bounds_u8 (h8 z hz), fun hn => ⟨_, _, by rw [hl], by omega, ?_⟩⟩
    by_cases h0 : len = 0
    · exact .inl (List.eq_nil_of_length_eq_zero (by omega))
    · exact .inr ⟨_, _, rfl, rfl, k4 h0, getN_all _ _ (by simp)⟩
theorem LoadW.view {h : AHeap} {q : Option Addr} {n c : Nat} {zs : List Int} (l : LoadW h (.slice q n c) zs) : firstV 1 h n (.slice q n c) = some (bR zs) := by
  obtain ⟨q', c', e, h2, -⟩ := l.first
  cases e; exact h2

theorem num_lt (k : Nat) : num k < 128 := by unfold num; omega
theorem lst_head {a b : Nat} (h : a < b) : (lst a b).headD [] = msg a := by
  have := lst_get (a := a) (b := b) (i := 0) (by omega)
  rw [← List.head?_eq_getElem?] at this
  simp [List.headD_eq_head?_getD, this]
theorem num_aft (s : Nat) : aft (num s) 1 = num (s + 1) := by unfold aft num; omega
end Go.Proofs.Ytcpcngamfncpdaa
