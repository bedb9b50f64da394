import Derived.Test.YtemphcppnjlkcaaL1
set_option linter.unusedVariables false
set_option linter.unusedSimpArgs false
namespace Go.Proofs.Ytemphcppnjlkcaa
open Go Go.Ai Go.Proofs

theorem elemB {n c : Nat} {h : AHeap} {q : Option Addr} {zs : List Int} (hf : firstV 1 h n (.slice q n c) = some (bR zs)) {i : Nat} (hi : i < n) :
    ∃ a o z, q = some a ∧ a.spot = none ∧ h[a.block]? = some (some o) ∧ o.cells[a.off + i]? = some (.int .u8 z) ∧ zs[i]? = some z := by
  cases q with
  | none => simp [firstV] at hf; omega
  | some a =>
    obtain ⟨h1, o, v, h2, h3, h4⟩ := firstV_elem1 hf hi
    rw [bR_get] at h4
    obtain ⟨z, h5, rfl⟩ := Option.map_eq_some_iff.1 h4
    exact ⟨a, o, z, rfl, h1, h2, h3, h5⟩

theorem same_ok {h : AHeap} {qa qb : Option Addr} {n m ca cb : Nat} {za zb : List Int} (ha : firstV 1 h n (.slice qa n ca) = some (bR za)) (hb : firstV 1 h m (.slice qb m cb) = some (bR zb)) (hn : n ≤ 1152921504606846976) :
    Valid Try.prog 21 [.slice qa n ca, .slice qb m cb] h fun r h' => r = .bool (decide (za = zb)) ∧ h' = h := by
  refine v21 (by simp) ?_
  have la := firstV_len ha
  have lb := firstV_len hb
  rw [bR_len, Nat.mul_one] at la lb
  by_cases hnm : (n : Int) = m
  · have hnm' : n = m := by omega
    simp only [X21, sx, x_box, x_alloc, x_bslice, x_slice, x_append, x_b2s, xop, ev, evs, evParts, fillL, cellsL, Ai.get, Ai.put, stab, isNil?, if_false, if_true, addr?, int?, str?, agg?, bool?, shiftA, FnPost, xresL, xres1, tup, argEnv, ptr, Nat.reduceEqDiff, reduceIte, beq_self_eq_true, ne_eq, Nat.reduceAdd, Nat.reduceMul, Nat.reduceSub, abin_shl, abin_shr, load1V, loadV, storeV, cellsAt, getN, setN, allocV, lenL, lenS, bnd, oneC, Value.oneCell', Nat.reduceLeDiff, Nat.reduceLT, exists_eq_left', forall_const, reduceCtorEq, app_new, app_new0, List.append_assoc, Int.reduceToNat, Int.reduceLT, Int.reduceLE, Int.reduceEq, Int.reduceNe, Int.reduceBEq, IntKind.bits, bne_self_eq_false, Int.reducePow, hnm]
    refine xcode_loop (fun k ρ h' => ∃ i, i + k = n ∧ get ρ 5 = some (.int .i64 (i : Nat)) ∧ get ρ 0 = some (.slice qa n ca) ∧ get ρ 1 = some (.slice qb m cb) ∧ h' = h ∧ ∀ j, j < i → za[j]? = zb[j]?) n
      ⟨0, by simp, rfl, rfl, rfl, rfl, fun j h => by omega⟩ ?_
    rintro k ρ h' ⟨i, hik, g5, g0, g1, rfl, hp⟩
    by_cases hlt : i < n
    · have hlt' : (i : Int) < m := by omega
      have hlt2 : (i : Int) < n := by omega
      have hge : (0 : Int) ≤ i := by omega
      have hw : IntKind.i64.wrap ((i : Int) + 1) = ((i + 1 : Nat) : Int) := by rw [i64_wrap] <;> omega
      obtain ⟨a, oa, x, rfl, a1, a2, a3, a4⟩ := elemB ha hlt
      obtain ⟨b, ob, y, rfl, b1, b2, b3, b4⟩ := elemB hb (show i < m by omega)
      by_cases hxy : x = y
      · simp only [sx, x_box, x_alloc, x_bslice, x_slice, x_append, x_b2s, xop, ev, evs, evParts, fillL, cellsL, Ai.get, Ai.put, stab, isNil?, if_false, if_true, addr?, int?, str?, agg?, bool?, shiftA, FnPost, xresL, xres1, tup, argEnv, ptr, Nat.reduceEqDiff, reduceIte, beq_self_eq_true, ne_eq, Nat.reduceAdd, Nat.reduceMul, Nat.reduceSub, abin_shl, abin_shr, load1V, loadV, storeV, cellsAt, getN, setN, allocV, lenL, lenS, bnd, oneC, Value.oneCell', Nat.reduceLeDiff, Nat.reduceLT, exists_eq_left', forall_const, reduceCtorEq, app_new, app_new0, List.append_assoc, Int.reduceToNat, Int.reduceLT, Int.reduceLE, Int.reduceEq, Int.reduceNe, Int.reduceBEq, IntKind.bits, bne_self_eq_false, Int.reducePow, g5, g0, g1, hlt', hlt2, hge, a1, a2, a3, b1, b2, b3, hxy, Nat.mul_one, hw]
        refine ⟨k - 1, by omega, i + 1, by omega, rfl, fun j hj => ?_⟩
        rcases Nat.lt_or_ge j i with h | h
        · exact hp j h
        · rw [show j = i by omega, a4, b4, hxy]
      · have hne : ¬ za = zb := fun e => by rw [e, b4] at a4; cases a4; exact hxy rfl
        simp only [sx, x_box, x_alloc, x_bslice, x_slice, x_append, x_b2s, xop, ev, evs, evParts, fillL, cellsL, Ai.get, Ai.put, stab, isNil?, if_false, if_true, addr?, int?, str?, agg?, bool?, shiftA, FnPost, xresL, xres1, tup, argEnv, ptr, Nat.reduceEqDiff, reduceIte, beq_self_eq_true, ne_eq, Nat.reduceAdd, Nat.reduceMul, Nat.reduceSub, abin_shl, abin_shr, load1V, loadV, storeV, cellsAt, getN, setN, allocV, lenL, lenS, bnd, oneC, Value.oneCell', Nat.reduceLeDiff, Nat.reduceLT, exists_eq_left', forall_const, reduceCtorEq, app_new, app_new0, List.append_assoc, Int.reduceToNat, Int.reduceLT, Int.reduceLE, Int.reduceEq, Int.reduceNe, Int.reduceBEq, IntKind.bits, bne_self_eq_false, Int.reducePow, g5, g0, g1, hlt', hlt2, hge, a1, a2, a3, b1, b2, b3, hxy, Nat.mul_one, hne]
    · have hlt' : ¬ (i : Int) < n := by omega
      have he : za = zb := List.ext_getElem? fun j => by
        rcases Nat.lt_or_ge j n with h | h
        · exact hp j (by omega)
        · rw [List.getElem?_eq_none (by omega), List.getElem?_eq_none (by omega)]
      simp only [sx, x_box, x_alloc, x_bslice, x_slice, x_append, x_b2s, xop, ev, evs, evParts, fillL, cellsL, Ai.get, Ai.put, stab, isNil?, if_false, if_true, addr?, int?, str?, agg?, bool?, shiftA, FnPost, xresL, xres1, tup, argEnv, ptr, Nat.reduceEqDiff, reduceIte, beq_self_eq_true, ne_eq, Nat.reduceAdd, Nat.reduceMul, Nat.reduceSub, abin_shl, abin_shr, load1V, loadV, storeV, cellsAt, getN, setN, allocV, lenL, lenS, bnd, oneC, Value.oneCell', Nat.reduceLeDiff, Nat.reduceLT, exists_eq_left', forall_const, reduceCtorEq, app_new, app_new0, List.append_assoc, Int.reduceToNat, Int.reduceLT, Int.reduceLE, Int.reduceEq, Int.reduceNe, Int.reduceBEq, IntKind.bits, bne_self_eq_false, Int.reducePow, g5, g0, g1, hlt', he]
  · have hne : ¬ za = zb := fun e => by rw [e] at la; omega
    simp only [X21, sx, x_box, x_alloc, x_bslice, x_slice, x_append, x_b2s, xop, ev, evs, evParts, fillL, cellsL, Ai.get, Ai.put, stab, isNil?, if_false, if_true, addr?, int?, str?, agg?, bool?, shiftA, FnPost, xresL, xres1, tup, argEnv, ptr, Nat.reduceEqDiff, reduceIte, beq_self_eq_true, ne_eq, Nat.reduceAdd, Nat.reduceMul, Nat.reduceSub, abin_shl, abin_shr, load1V, loadV, storeV, cellsAt, getN, setN, allocV, lenL, lenS, bnd, oneC, Value.oneCell', Nat.reduceLeDiff, Nat.reduceLT, exists_eq_left', forall_const, reduceCtorEq, app_new, app_new0, List.append_assoc, Int.reduceToNat, Int.reduceLT, Int.reduceLE, Int.reduceEq, Int.reduceNe, Int.reduceBEq, IntKind.bits, bne_self_eq_false, Int.reducePow, hnm, hne]

theorem bytes_ok {h : AHeap} {qa qb : Option Addr} {n m ca cb : Nat} {za zb : List Int} (ha : firstV 1 h n (.slice qa n ca) = some (bR za)) (hb : firstV 1 h m (.slice qb m cb) = some (bR zb)) (hn : n ≤ 1152921504606846976) (hca : ca = n) :
    Valid Try.prog 16 [.slice qa n ca, .slice qb m cb] h fun r h' => r = .int .i64 (if za = zb then 0 else 1) ∧ h' = h := by
  refine v16 (by simp) ?_
  subst hca
  have h1 : ca < unk := by unfold unk; omega
  simp only [X16, sx, x_box, x_alloc, x_bslice, x_slice, x_append, x_b2s, xop, ev, evs, evParts, fillL, cellsL, Ai.get, Ai.put, stab, isNil?, if_false, if_true, addr?, int?, str?, agg?, bool?, shiftA, FnPost, xresL, xres1, tup, argEnv, ptr, Nat.reduceEqDiff, reduceIte, beq_self_eq_true, ne_eq, Nat.reduceAdd, Nat.reduceMul, Nat.reduceSub, abin_shl, abin_shr, load1V, loadV, storeV, cellsAt, getN, setN, allocV, lenL, lenS, bnd, oneC, Value.oneCell', Nat.reduceLeDiff, Nat.reduceLT, exists_eq_left', forall_const, reduceCtorEq, app_new, app_new0, List.append_assoc, Int.reduceToNat, Int.reduceLT, Int.reduceLE, Int.reduceEq, Int.reduceNe, Int.reduceBEq, IntKind.bits, bne_self_eq_false, Int.reducePow, h1, Int.lt_irrefl]
  refine xcall (same_ok ha hb hn) (by rfl) (by rfl) (by rfl) (by rfl) ?_
  rintro r h' ⟨rfl, rfl⟩
  by_cases he : za = zb <;> simp [sx, x_box, x_alloc, x_bslice, x_slice, x_append, x_b2s, xop, ev, evs, evParts, fillL, cellsL, Ai.get, Ai.put, stab, isNil?, if_false, if_true, addr?, int?, str?, agg?, bool?, shiftA, FnPost, xresL, xres1, tup, argEnv, ptr, Nat.reduceEqDiff, reduceIte, beq_self_eq_true, ne_eq, Nat.reduceAdd, Nat.reduceMul, Nat.reduceSub, abin_shl, abin_shr, load1V, loadV, storeV, cellsAt, getN, setN, allocV, lenL, lenS, bnd, oneC, Value.oneCell', Nat.reduceLeDiff, Nat.reduceLT, exists_eq_left', forall_const, reduceCtorEq, app_new, app_new0, List.append_assoc, Int.reduceToNat, Int.reduceLT, Int.reduceLE, Int.reduceEq, Int.reduceNe, Int.reduceBEq, IntKind.bits, bne_self_eq_false, Int.reducePow, he]

def checkV (zs : List Int) : Int := if 1048576 < zs.length then 3 else if ∃ z ∈ zs, 1 < z then 1 else 0
theorem check_ok {h : AHeap} {q : Option Addr} {n c : Nat} {zs : List Int} (hf : firstV 1 h n (.slice q n c) = some (bR zs)) (hn : n ≤ 1152921504606846976) :
    Valid Try.prog 26 [.slice q n c] h fun r h' => r = .int .i64 (checkV zs) ∧ ∃ J, h' = h ++ J := by
  refine v26 (by simp) ?_
  have hl := firstV_len hf
  rw [bR_len, Nat.mul_one] at hl
  unfold checkV
  rw [hl]
  by_cases hb : 1048576 < n
  · have hb' : (1048576 : Int) < n := by omega
    simp [X26, sx, x_box, x_alloc, x_bslice, x_slice, x_append, x_b2s, xop, ev, evs, evParts, fillL, cellsL, Ai.get, Ai.put, stab, isNil?, if_false, if_true, addr?, int?, str?, agg?, bool?, shiftA, FnPost, xresL, xres1, tup, argEnv, ptr, Nat.reduceEqDiff, reduceIte, beq_self_eq_true, ne_eq, Nat.reduceAdd, Nat.reduceMul, Nat.reduceSub, abin_shl, abin_shr, load1V, loadV, storeV, cellsAt, getN, setN, allocV, lenL, lenS, bnd, oneC, Value.oneCell', Nat.reduceLeDiff, Nat.reduceLT, exists_eq_left', forall_const, reduceCtorEq, app_new, app_new0, List.append_assoc, Int.reduceToNat, Int.reduceLT, Int.reduceLE, Int.reduceEq, Int.reduceNe, Int.reduceBEq, IntKind.bits, bne_self_eq_false, Int.reducePow, hb, hb']
  · have hb' : ¬ (1048576 : Int) < n := by omega
    simp only [X26, sx, x_box, x_alloc, x_bslice, x_slice, x_append, x_b2s, xop, ev, evs, evParts, fillL, cellsL, Ai.get, Ai.put, stab, isNil?, if_false, if_true, addr?, int?, str?, agg?, bool?, shiftA, FnPost, xresL, xres1, tup, argEnv, ptr, Nat.reduceEqDiff, reduceIte, beq_self_eq_true, ne_eq, Nat.reduceAdd, Nat.reduceMul, Nat.reduceSub, abin_shl, abin_shr, load1V, loadV, storeV, cellsAt, getN, setN, allocV, lenL, lenS, bnd, oneC, Value.oneCell', Nat.reduceLeDiff, Nat.reduceLT, exists_eq_left', forall_const, reduceCtorEq, app_new, app_new0, List.append_assoc, Int.reduceToNat, Int.reduceLT, Int.reduceLE, Int.reduceEq, Int.reduceNe, Int.reduceBEq, IntKind.bits, bne_self_eq_false, Int.reducePow, hb', hb]
    have hcl : ∀ J i v, i < n → (bR zs)[i]? = some v → Valid Try.prog 31 (v :: (#[] : Array Value).toList) (h ++ J) fun r h' => r = .bool (decide (1 < zs.getD i 0)) ∧ ∃ J', h' = h ++ J ++ J' := fun J i v hi hv => by
      rw [bR_get] at hv
      obtain ⟨z, h5, rfl⟩ := Option.map_eq_some_iff.1 hv
      refine v31 (by simp) ?_
      have : zs.getD i 0 = z := by simp [List.getD_eq_getElem?_getD, h5]
      simp only [X31, sx, x_box, x_alloc, x_bslice, x_slice, x_append, x_b2s, xop, ev, evs, evParts, fillL, cellsL, Ai.get, Ai.put, stab, isNil?, if_false, if_true, addr?, int?, str?, agg?, bool?, shiftA, FnPost, xresL, xres1, tup, argEnv, ptr, Nat.reduceEqDiff, reduceIte, beq_self_eq_true, ne_eq, Nat.reduceAdd, Nat.reduceMul, Nat.reduceSub, abin_shl, abin_shr, load1V, loadV, storeV, cellsAt, getN, setN, allocV, lenL, lenS, bnd, oneC, Value.oneCell', Nat.reduceLeDiff, Nat.reduceLT, exists_eq_left', forall_const, reduceCtorEq, app_new, app_new0, List.append_assoc, Int.reduceToNat, Int.reduceLT, Int.reduceLE, Int.reduceEq, Int.reduceNe, Int.reduceBEq, IntKind.bits, bne_self_eq_false, Int.reducePow, this]
      exact ⟨[], by simp⟩
    refine xcall (contains_ok v30 (index1_ok v34 hn hf (fun i => decide (1 < zs.getD i 0)) hcl)) (by rfl) (by rfl) (by rfl) (by rfl) ?_
    rintro r h' ⟨rfl, J, rfl⟩
    have e : (∃ i, i < n ∧ decide (1 < zs.getD i 0) = true) ↔ ∃ z ∈ zs, 1 < z := by
      constructor
      · rintro ⟨i, hi, h1⟩
        refine ⟨zs[i]'(by omega), List.getElem_mem _, ?_⟩
        have : zs.getD i 0 = zs[i]'(by omega) := by simp [List.getD_eq_getElem?_getD, List.getElem?_eq_getElem (show i < zs.length by omega)]
        rw [this] at h1; simpa using h1
      · rintro ⟨z, hz, h1⟩
        obtain ⟨i, hi, rfl⟩ := List.mem_iff_getElem.1 hz
        exact ⟨i, by omega, by simp [List.getD_eq_getElem?_getD, hi, h1]⟩
    by_cases he : ∃ z ∈ zs, 1 < z
    · simp only [sx, x_box, x_alloc, x_bslice, x_slice, x_append, x_b2s, xop, ev, evs, evParts, fillL, cellsL, Ai.get, Ai.put, stab, isNil?, if_false, if_true, addr?, int?, str?, agg?, bool?, shiftA, FnPost, xresL, xres1, tup, argEnv, ptr, Nat.reduceEqDiff, reduceIte, beq_self_eq_true, ne_eq, Nat.reduceAdd, Nat.reduceMul, Nat.reduceSub, abin_shl, abin_shr, load1V, loadV, storeV, cellsAt, getN, setN, allocV, lenL, lenS, bnd, oneC, Value.oneCell', Nat.reduceLeDiff, Nat.reduceLT, exists_eq_left', forall_const, reduceCtorEq, app_new, app_new0, List.append_assoc, Int.reduceToNat, Int.reduceLT, Int.reduceLE, Int.reduceEq, Int.reduceNe, Int.reduceBEq, IntKind.bits, bne_self_eq_false, Int.reducePow, e, he]
      exact ⟨_, rfl⟩
    · simp only [sx, x_box, x_alloc, x_bslice, x_slice, x_append, x_b2s, xop, ev, evs, evParts, fillL, cellsL, Ai.get, Ai.put, stab, isNil?, if_false, if_true, addr?, int?, str?, agg?, bool?, shiftA, FnPost, xresL, xres1, tup, argEnv, ptr, Nat.reduceEqDiff, reduceIte, beq_self_eq_true, ne_eq, Nat.reduceAdd, Nat.reduceMul, Nat.reduceSub, abin_shl, abin_shr, load1V, loadV, storeV, cellsAt, getN, setN, allocV, lenL, lenS, bnd, oneC, Value.oneCell', Nat.reduceLeDiff, Nat.reduceLT, exists_eq_left', forall_const, reduceCtorEq, app_new, app_new0, List.append_assoc, Int.reduceToNat, Int.reduceLT, Int.reduceLE, Int.reduceEq, Int.reduceNe, Int.reduceBEq, IntKind.bits, bne_self_eq_false, Int.reducePow, e, he]
      exact ⟨_, rfl⟩
end Go.Proofs.Ytemphcppnjlkcaa
