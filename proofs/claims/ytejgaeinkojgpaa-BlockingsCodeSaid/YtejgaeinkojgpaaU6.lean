import Derived.Test.YtejgaeinkojgpaaU5
import Derived.Test.YtejgaeinkojgpaaAiY
set_option linter.unusedVariables false
set_option linter.unusedSimpArgs false
namespace Go.Proofs.Ytejgaeinkojgpaa
open Go Go.Ai Go.Proofs

def boolV : Value → Bool
  | .bool b => b
  | _ => false
theorem bools_rows {rows : List Value} (h : ∀ i, i < rows.length → ∃ b, rows[i]? = some (.bool b)) : rows = bB (rows.map boolV) := by
  apply List.ext_getElem?
  intro i
  unfold bB
  rw [List.getElem?_map, List.getElem?_map]
  by_cases hi : i < rows.length
  · obtain ⟨b, hb⟩ := h i hi
    rw [hb]; rfl
  · rw [List.getElem?_eq_none (by omega)]; rfl
theorem bools_arg {h : AHeap} {v : Value} (s : SmallOk h (.sl [.bool]) v) : ∃ bs : List Bool, BitsV h v bs ∧ bs.length ≤ 9223372036854775807 := by
  have hm : maxLen = 9223372036854775807 := rfl
  rcases s with rfl | ⟨B, len, cap, rows, rfl, k1, k2, k3, k4, k5, k6⟩
  · exact ⟨[], BitsV.nil _, by simp⟩
  · have hl : rows.length = len := by simpa using k5
    have e := bools_rows (rows := rows) fun i hi => by
      obtain ⟨u, hu, b, rfl⟩ := k6 i (by omega) 0 .bool rfl
      exact ⟨b, by simpa using hu⟩
    have hbl : (rows.map boolV).length = len := by rw [List.length_map, hl]
    refine ⟨rows.map boolV, ⟨some ⟨B, 0, none⟩, cap, by rw [hbl], ?_⟩, by omega⟩
    by_cases h0 : len = 0
    · exact .inl (List.eq_nil_of_length_eq_zero (by omega))
    · exact .inr ⟨_, rows, rfl, rfl, k4 h0, by rw [← e, hbl]; exact getN_all _ _ hl.symm⟩
theorem bytes_arg {h : AHeap} {v : Value} (s : SmallOk h (.sl [.int .u8]) v) : ∃ bs : List Nat, ByS h v bs ∧ bs.length ≤ 9223372036854775807 ∧ firstV 1 h bs.length v = some (bN bs) := by
  obtain ⟨q, n, c, zs, rfl, k1, k2, k3, k4, k5, k6, k7⟩ := s.ints
  subst k6
  have hm : maxLen = 9223372036854775807 := rfl
  have hb : ∀ z ∈ zs, 0 ≤ z ∧ z ≤ 255 := fun z hz => bounds_u8 (k7 z hz)
  have e : zs.map (Value.int .u8) = bN (zs.map Int.toNat) := by
    unfold bN
    rw [List.map_map]
    refine List.map_congr_left fun z hz => ?_
    have := hb z hz
    show Value.int .u8 z = Value.int .u8 ((z.toNat : Nat) : Int)
    congr 1; omega
  rw [e] at k5
  have hl : (zs.map Int.toNat).length = zs.length := List.length_map _
  refine ⟨zs.map Int.toNat, ⟨⟨q, c, by rw [hl], fun i x hx => ?_⟩, q, c, by rw [hl], .inl (by unfold unk; omega), by omega, fun a ha => (k3 a ha).1, fun hq => ?_⟩, by omega, by rw [hl]; exact k5⟩
  · have hi := (List.getElem?_eq_some_iff.1 hx).1
    have hx' := hx
    rw [List.getElem?_map] at hx
    obtain ⟨z, hz, rfl⟩ := Option.map_eq_some_iff.1 hx
    have hzb := hb z (List.mem_of_getElem? hz)
    refine ⟨by omega, ?_⟩
    cases q with
    | none => have := (k4 rfl).1; omega
    | some a =>
      obtain ⟨h1, o, v, h2, h3, h4⟩ := firstV_elem1 k5 (i := i) (by omega)
      refine ⟨a, o, rfl, h1, h2, ?_⟩
      rw [bN_get hx'] at h4
      rw [h3, ← h4]
  · have := (k4 hq).1
    exact List.eq_nil_of_length_eq_zero (by omega)
def codeSh : List (Bool × List Cl) := [(true, [.leaf (.int .u8), .leaf (.int .u32), .leaf (.int .i64), .sl [.bool], .sl [.bool]]), (false, [.sl [.int .u8]])]
theorem code_sh {h : AHeap} {vs : List Value} (hs : SmallArgs h codeSh vs) : Valid Try.prog 8 vs h fun r _ => r = .bool true := by
  obtain ⟨v1, r, rfl, h1, hs2⟩ := hs.cons_inv
  obtain ⟨v2, r, rfl, h2, hs3⟩ := hs2.cons_inv
  obtain rfl := hs3.nil_inv
  obtain ⟨cs, rfl, p0⟩ := h1.agg
  obtain ⟨x, r, rfl, ⟨kd, rfl, wk⟩, p1⟩ := p0.cons_inv
  obtain ⟨x, r, rfl, ⟨se, rfl, ws⟩, p2⟩ := p1.cons_inv
  obtain ⟨x, r, rfl, ⟨fi, rfl, wf⟩, p3⟩ := p2.cons_inv
  obtain ⟨x, r, rfl, hmk, p4⟩ := p3.cons_inv
  obtain ⟨y, r, rfl, hon, p5⟩ := p4.cons_inv
  obtain rfl := p5.nil_inv
  obtain ⟨bm, M, lm⟩ := bools_arg hmk
  obtain ⟨bo, O, lo⟩ := bools_arg hon
  obtain ⟨bs, V, lb, f⟩ := bytes_arg h2.one
  have b32 := bounds_u32 ws
  exact code_law (m := ⟨kd, se, fi, bm, bo⟩) M O lm lo b32.1 b32.2 V lb f
end Go.Proofs.Ytejgaeinkojgpaa
