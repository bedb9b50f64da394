import Derived.Test.YtcpcngamfncpdaaS5
set_option linter.unusedVariables false
set_option linter.unusedSimpArgs false
namespace Go.Proofs.Ytcpcngamfncpdaa
open Go Go.Ai Go.Proofs

theorem bytes_load {h : AHeap} {v : Value} (s : SmallOk h (.sl [.int .u8]) v) : ∃ (q : Option Addr) (n c : Nat) (zs : List Int), v = .slice q n c ∧ zs.length = n ∧ LoadU h (.slice q n c) zs := by
  rcases s with rfl | ⟨B, len, cap, rows, rfl, k1, k2, k3, k4, k5, k6⟩
  · exact ⟨none, 0, 0, [], rfl, rfl, none, 0, rfl, .inl rfl⟩
  · obtain ⟨zs, rfl, h8⟩ := ints_rows (k := .u8) (n := len) (by simpa using k5) fun i hi => by simpa using k6 i hi 0 (.int .u8) rfl
    have hl : zs.length = len := by simpa using k5
    refine ⟨_, len, cap, zs, rfl, hl, _, _, by rw [hl], ?_⟩
    by_cases h0 : len = 0
    · exact .inl (List.eq_nil_of_length_eq_zero (by omega))
    · exact .inr ⟨_, _, rfl, rfl, k4 h0, getN_all _ _ (by simp)⟩
def actSh : List Cl := [.leaf (.int .u8), .leaf (.int .u8), .leaf (.int .u8), .leaf (.int .u8), .leaf (.int .u8), .leaf (.int .u16), .sl [.int .u8]]
theorem acts_arg {h : AHeap} {v : Value} (s : SmallOkN h (.sn actSh) v) : ∃ (q : Option Addr) (n c : Nat), v = .slice q n c ∧ ActsV h q n := by
  rcases s with rfl | ⟨B, len, cap, rows, rfl, k1, k2, k3, k4, k5, k6⟩
  · exact ⟨none, 0, 0, rfl, .inl rfl⟩
  · refine ⟨_, len, cap, rfl, ?_⟩
    by_cases h0 : len = 0
    · exact .inl h0
    · refine .inr ⟨B, rows, rfl, k4 h0, fun i hi => ?_⟩
      have hp := k6 i hi
      have h7 : actSh.length = 7 := rfl
      rw [h7] at hp k5
      have hle : i * 7 + 7 ≤ rows.length := by rw [k5]; omega
      generalize hc : (rows.drop (i * 7)).take 7 = cs at hp
      obtain ⟨x, r, rfl, ⟨k, rfl, wk⟩, p1⟩ := hp.cons_inv
      obtain ⟨x, r, rfl, ⟨a, rfl, wa⟩, p2⟩ := p1.cons_inv
      obtain ⟨x, r, rfl, ⟨b, rfl, wb⟩, p3⟩ := p2.cons_inv
      obtain ⟨x, r, rfl, ⟨c, rfl, wc⟩, p4⟩ := p3.cons_inv
      obtain ⟨x, r, rfl, ⟨d, rfl, wd⟩, p5⟩ := p4.cons_inv
      obtain ⟨x, r, rfl, ⟨e, rfl, we⟩, p6⟩ := p5.cons_inv
      obtain ⟨x, r, rfl, hs, p7⟩ := p6.cons_inv
      obtain rfl := p7.nil_inv
      obtain ⟨lq, ln, lc, bs, rfl, hl, L⟩ := bytes_load hs
      have gt : ∀ j, j < 7 → rows[i * 7 + j]? = ((rows.drop (i * 7)).take 7)[j]? := fun j hj => by
        rw [List.getElem?_take, if_pos hj, List.getElem?_drop]
      rw [hc] at gt
      refine ⟨k, a, b, c, d, e, lq, ln, lc, bs, by have := gt 0 (by omega); simpa using this, ?_, bounds_u8 wk, bounds_u8 wa, bounds_u8 wb, bounds_u8 wc, bounds_u8 wd, bounds_u16 we, hl, L⟩
      exact (getN_eq _ _ _ _).2 ⟨by rw [if_neg (by omega)]; omega, hc.symm⟩
def scriptSh : List (Bool × List Cn) := [(false, [.sn actSh])]
theorem script_sh {h : AHeap} {vs : List Value} (hs : SmallArgsN h scriptSh vs) : Valid Try.prog 8 vs h fun r _ => r = .bool true := by
  obtain ⟨v2, r, rfl, h2, hs3⟩ := hs.cons_inv
  obtain rfl := hs3.nil_inv
  obtain ⟨q, n, c, rfl, W⟩ := acts_arg h2.1
  exact script_law W
end Go.Proofs.Ytcpcngamfncpdaa
