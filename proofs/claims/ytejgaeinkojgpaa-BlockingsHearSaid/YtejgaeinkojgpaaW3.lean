import Derived.Test.YtejgaeinkojgpaaW2
import Derived.Test.YtejgaeinkojgpaaAiYn
set_option linter.unusedVariables false
set_option linter.unusedSimpArgs false
namespace Go.Proofs.Ytejgaeinkojgpaa
open Go Go.Ai Go.Proofs

def boolV : Value → Bool
  | .bool b => b
  | _ => false
theorem bools_rows {rows : List Value} (h : ∀ i, i < rows.length → ∃ b, rows[i]? = some (.bool b)) : rows = bB (rows.map boolV) := by
  apply List.ext_getElem?
  intro i
  unfold bB
  rw [List.getElem?_map, List.getElem?_map]
  by_cases hi : i < rows.length
  · obtain ⟨b, hb⟩ := h i hi
    rw [hb]; rfl
  · rw [List.getElem?_eq_none (by omega)]; rfl
theorem bools_arg {h : AHeap} {v : Value} (s : SmallOk h (.sl [.bool]) v) : ∃ bs : List Bool, BitsV h v bs ∧ bs.length ≤ 9223372036854775807 := by
  have hm : maxLen = 9223372036854775807 := rfl
  rcases s with rfl | ⟨B, len, cap, rows, rfl, k1, k2, k3, k4, k5, k6⟩
  · exact ⟨[], BitsV.nil _, by simp⟩
  · have hl : rows.length = len := by simpa using k5
    have e := bools_rows (rows := rows) fun i hi => by
      obtain ⟨u, hu, b, rfl⟩ := k6 i (by omega) 0 .bool rfl
      exact ⟨b, by simpa using hu⟩
    have hbl : (rows.map boolV).length = len := by rw [List.length_map, hl]
    refine ⟨rows.map boolV, ⟨some ⟨B, 0, none⟩, cap, by rw [hbl], ?_⟩, by omega⟩
    by_cases h0 : len = 0
    · exact .inl (List.eq_nil_of_length_eq_zero (by omega))
    · exact .inr ⟨_, rows, rfl, rfl, k4 h0, by rw [← e, hbl]; exact getN_all _ _ hl.symm⟩
def msgSh : List Cl := [.leaf (.int .u8), .leaf (.int .u32), .leaf (.int .i64), .sl [.bool], .sl [.bool]]
theorem bounds_u32' {n : Int} (h : (Lit.int IntKind.u32 n).wf = true) : 0 ≤ n ∧ n ≤ 4294967295 := bounds_u32 h
theorem msgs_arg {h : AHeap} {v : Value} (s : SmallOkN h (.sn msgSh) v) : ∃ (q : Option Addr) (n c : Nat), v = .slice q n c ∧ n ≤ 9223372036854775807 ∧ MsgsW h q n := by
  have hm : maxLen = 9223372036854775807 := rfl
  rcases s with rfl | ⟨B, len, cap, rows, rfl, k1, k2, k3, k4, k5, k6⟩
  · exact ⟨none, 0, 0, rfl, by omega, .inl rfl⟩
  · refine ⟨_, len, cap, rfl, by omega, ?_⟩
    by_cases h0 : len = 0
    · exact .inl h0
    · refine .inr ⟨B, rows, rfl, k4 h0, fun i hi => ?_⟩
      have hp := k6 i hi
      have h5 : msgSh.length = 5 := rfl
      rw [h5] at hp k5
      have hle : i * 5 + 5 ≤ rows.length := by rw [k5]; omega
      generalize hc : (rows.drop (i * 5)).take 5 = cs at hp
      obtain ⟨x, r, rfl, ⟨kd, rfl, wk⟩, p1⟩ := hp.cons_inv
      obtain ⟨x, r, rfl, ⟨se, rfl, ws⟩, p2⟩ := p1.cons_inv
      obtain ⟨x, r, rfl, ⟨fi, rfl, wf⟩, p3⟩ := p2.cons_inv
      obtain ⟨x, r, rfl, hmk, p4⟩ := p3.cons_inv
      obtain ⟨y, r, rfl, hon, p5⟩ := p4.cons_inv
      obtain rfl := p5.nil_inv
      obtain ⟨bm, M, lm⟩ := bools_arg hmk
      obtain ⟨bo, O, lo⟩ := bools_arg hon
      refine ⟨⟨kd, se, fi, bm, bo⟩, x, y, ?_, M, O, lm, lo, bounds_u32' ws⟩
      exact (getN_eq _ _ _ _).2 ⟨by rw [if_neg (by omega)]; omega, hc.symm⟩
def hearSh : List (Bool × List Cn) := [(false, [.c (.leaf (.int .u8))]), (false, [.sn msgSh])]
theorem hear_sh {h : AHeap} {vs : List Value} (hs : SmallArgsN h hearSh vs) : Valid Try.prog 4 vs h fun r _ => r = .bool true := by
  obtain ⟨v1, r, rfl, h1, hs2⟩ := hs.cons_inv
  obtain ⟨v2, r, rfl, h2, hs3⟩ := hs2.cons_inv
  obtain rfl := hs3.nil_inv
  obtain ⟨a, rfl, wa⟩ := h1.1
  have ba := bounds_u8 wa
  obtain ⟨n, rfl⟩ : ∃ n : Nat, a = n := ⟨a.toNat, by omega⟩
  obtain ⟨q, nA, c, rfl, hA, W⟩ := msgs_arg h2.1
  exact hear_law (by omega) hA W
end Go.Proofs.Ytejgaeinkojgpaa
