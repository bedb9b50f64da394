import Derived.Test.YtpbbmnfffolcoaaE1
import Derived.Test.YtpbbmnfffolcoaaAiY
set_option linter.unusedVariables false
set_option linter.unusedSimpArgs false
namespace Go.Proofs.Ytpbbmnfffolcoaa
open Go Go.Ai Go.Proofs

def natV : Value → Nat
  | .int _ n => n.toNat
  | _ => 0
theorem bytes_rows {rows : List Value} (h : ∀ i, i < rows.length → ∃ n : Int, rows[i]? = some (.int .u8 n) ∧ 0 ≤ n ∧ n ≤ 255) : rows = bN (rows.map natV) ∧ ∀ n ∈ rows.map natV, n ≤ 255 := by
  constructor
  · apply List.ext_getElem?
    intro i
    unfold bN
    rw [List.getElem?_map, List.getElem?_map]
    by_cases hi : i < rows.length
    · obtain ⟨n, hn, h0, h1⟩ := h i hi
      rw [hn]
      simp only [Option.map_some, natV, Option.some.injEq, Value.int.injEq, true_and]
      omega
    · rw [List.getElem?_eq_none (by omega)]; rfl
  · intro n hn
    obtain ⟨v, hv, rfl⟩ := List.mem_map.1 hn
    obtain ⟨i, hi, rfl⟩ := List.getElem_of_mem hv
    obtain ⟨k, hk, h0, h1⟩ := h i hi
    rw [List.getElem?_eq_getElem hi] at hk
    rw [Option.some.inj hk]
    simp only [natV]
    omega
theorem bytes_arg {h : AHeap} {v : Value} (s : SmallOk h (.sl [.int .u8]) v) : ∃ bs : List Nat, BytesV h v bs ∧ bs.length ≤ 9223372036854775807 ∧ ∀ n ∈ bs, n ≤ 255 := by
  have hm : maxLen = 9223372036854775807 := rfl
  rcases s with rfl | ⟨B, len, cap, rows, rfl, k1, k2, k3, k4, k5, k6⟩
  · exact ⟨[], BytesV.nil _, by simp, by simp⟩
  · have hl : rows.length = len := by simpa using k5
    obtain ⟨e, hb⟩ := bytes_rows (rows := rows) fun i hi => by
      obtain ⟨u, hu, n, rfl, hw⟩ := k6 i (by omega) 0 (.int .u8) rfl
      exact ⟨n, by simpa using hu, bounds_u8 hw⟩
    have hbl : (rows.map natV).length = len := by rw [List.length_map, hl]
    refine ⟨rows.map natV, ⟨some ⟨B, 0, none⟩, cap, by rw [hbl], ?_⟩, by omega, hb⟩
    by_cases h0 : len = 0
    · exact .inl (List.eq_nil_of_length_eq_zero (by omega))
    · exact .inr ⟨_, rows, rfl, rfl, k4 h0, by rw [← e, hbl]; exact getN_all _ _ hl.symm⟩
def errorsSh : List (Bool × List Cl) := [(false, [.leaf (.int .i64)]), (false, [.leaf (.int .i64)]), (true, [.leaf (.int .u8), .leaf (.int .i64), .leaf (.int .i64), .leaf (.int .i64), .leaf (.int .u8), .sl [.int .u8]])]
theorem errors_sh {h : AHeap} {vs : List Value} (hs : SmallArgs h errorsSh vs) : Valid Try.prog 5 vs h fun r _ => r = .bool true := by
  obtain ⟨v1, r, rfl, h1, hs2⟩ := hs.cons_inv
  obtain ⟨v2, r, rfl, h2, hs3⟩ := hs2.cons_inv
  obtain ⟨v3, r, rfl, h3, hs4⟩ := hs3.cons_inv
  obtain rfl := hs4.nil_inv
  obtain ⟨op, rfl, w1⟩ := h1.one
  obtain ⟨wt, rfl, w2⟩ := h2.one
  obtain ⟨cs, rfl, p0⟩ := h3.agg
  obtain ⟨x, r, rfl, ⟨k, rfl, wk⟩, p1⟩ := p0.cons_inv
  obtain ⟨x, r, rfl, ⟨id, rfl, wi⟩, p2⟩ := p1.cons_inv
  obtain ⟨x, r, rfl, ⟨lk, rfl, wl⟩, p3⟩ := p2.cons_inv
  obtain ⟨x, r, rfl, ⟨cd, rfl, wc⟩, p4⟩ := p3.cons_inv
  obtain ⟨x, r, rfl, ⟨pr, rfl, wp⟩, p5⟩ := p4.cons_inv
  obtain ⟨y, r, rfl, hv, p6⟩ := p5.cons_inv
  obtain rfl := p6.nil_inv
  obtain ⟨bs, V, lb, hb⟩ := bytes_arg hv
  exact (errors_ok (m := ⟨k, id, lk, cd, pr, bs⟩) ⟨_, rfl, V⟩).mono fun r h' e => e
end Go.Proofs.Ytpbbmnfffolcoaa
