import Derived.Test.YtejgaeinkojgpaaG7
import Derived.Test.YtejgaeinkojgpaaAiYn
set_option linter.unusedVariables false
set_option linter.unusedSimpArgs false
namespace Go.Proofs.Ytejgaeinkojgpaa
open Go Go.Ai Go.Proofs

theorem bounds_u16' {n : Int} (h : (Lit.int IntKind.u16 n).wf = true) : 0 ≤ n ∧ n ≤ 65535 := bounds_u16 h
theorem codes_arg {h : AHeap} {v : Value} (s : SmallOk h (.sl [.int .u16]) v) : ∃ (q : Option Addr) (c : Nat) (cs : List Int), v = .slice q cs.length c ∧ cs.length ≤ 9223372036854775807 ∧ CodesA h q cs := by
  obtain ⟨q, n, c, zs, rfl, k1, k2, k3, k4, k5, k6, k7⟩ := s.ints
  subst k6
  have hm : maxLen = 9223372036854775807 := rfl
  refine ⟨q, c, zs, rfl, by omega, fun j z hz => ⟨bounds_u16' (k7 z (List.mem_of_getElem? hz)), ?_⟩⟩
  have hj := (List.getElem?_eq_some_iff.1 hz).1
  cases q with
  | none => have := (k4 rfl).1; omega
  | some a =>
    obtain ⟨h1, o, v, h2, h3, h4⟩ := firstV_elem1 k5 hj
    refine ⟨a, o, rfl, h1, h2, ?_⟩
    rw [List.getElem?_map, hz] at h4
    rw [h3, ← h4]; rfl
def actSh : List Cl := [.leaf (.int .u8), .leaf .bool, .sl [.int .u16], .leaf .bool]
theorem acts_arg {h : AHeap} {v : Value} (s : SmallOkN h (.sn actSh) v) : ∃ (q : Option Addr) (n c : Nat), v = .slice q n c ∧ n ≤ 9223372036854775807 ∧ ActsA h q n := by
  have hm : maxLen = 9223372036854775807 := rfl
  rcases s with rfl | ⟨B, len, cap, rows, rfl, k1, k2, k3, k4, k5, k6⟩
  · exact ⟨none, 0, 0, rfl, by omega, .inl rfl⟩
  · refine ⟨_, len, cap, rfl, by omega, ?_⟩
    by_cases h0 : len = 0
    · exact .inl h0
    · refine .inr ⟨B, rows, rfl, k4 h0, fun i hi => ?_⟩
      have hp := k6 i hi
      have h4 : actSh.length = 4 := rfl
      rw [h4] at hp k5
      generalize hc : (rows.drop (i * 4)).take 4 = cs at hp
      obtain ⟨x, r, rfl, ⟨kd, rfl, wk⟩, p1⟩ := hp.cons_inv
      obtain ⟨x, r, rfl, ⟨sd, rfl⟩, p2⟩ := p1.cons_inv
      obtain ⟨x, r, rfl, hcs, p3⟩ := p2.cons_inv
      obtain ⟨x, r, rfl, ⟨on, rfl⟩, p4⟩ := p3.cons_inv
      obtain rfl := p4.nil_inv
      obtain ⟨cq, cc, zs, rfl, hl, hv⟩ := codes_arg hcs
      have hle : i * 4 + 4 ≤ rows.length := by rw [k5]; omega
      exact ⟨_, (getN_eq _ _ _ _).2 ⟨by rw [if_neg (by omega)]; omega, hc.symm⟩, kd, sd, on, cq, cc, zs, rfl, bounds_u8 wk, hl, hv⟩
def agreeSh : List (Bool × List Cn) := [(false, [.c (.leaf (.int .u8))]), (false, [.c (.leaf (.int .u8))]), (false, [.sn actSh])]
theorem agree_sh {h : AHeap} {vs : List Value} (hs : SmallArgsN h agreeSh vs) : Valid Try.prog 6 vs h fun r _ => r = .bool true := by
  obtain ⟨v1, r, rfl, h1, hs2⟩ := hs.cons_inv
  obtain ⟨v2, r, rfl, h2, hs3⟩ := hs2.cons_inv
  obtain ⟨v3, r, rfl, h3, hs4⟩ := hs3.cons_inv
  obtain rfl := hs4.nil_inv
  obtain ⟨a, rfl, wa⟩ := h1.1
  obtain ⟨b, rfl, wb⟩ := h2.1
  have ba := bounds_u8 wa
  have bb := bounds_u8 wb
  obtain ⟨n, rfl⟩ : ∃ n : Nat, a = n := ⟨a.toNat, by omega⟩
  obtain ⟨e, rfl⟩ : ∃ n : Nat, b = n := ⟨b.toNat, by omega⟩
  obtain ⟨q, nA, c, rfl, hA, W⟩ := acts_arg h3.1
  exact agree_law (by omega) (by omega) hA W
end Go.Proofs.Ytejgaeinkojgpaa
