import Derived.Test.YtimfgagdfmmeeaaDoorX
import Derived.Test.YtimfgagdfmmeeaaDoorAiX
set_option linter.unusedVariables false
set_option linter.unusedSimpArgs false
namespace Go.Proofs.YtimfgagdfmmeeaaDoor
open Go Go.Ai Go.Proofs

/-- what was there is there still -/
def Ext (h h' : AHeap) : Prop := h.length ≤ h'.length ∧ ∀ B, B < h.length → h'[B]? = h[B]?
theorem Ext.refl (h : AHeap) : Ext h h := ⟨Nat.le_refl _, fun _ _ => rfl⟩
theorem Ext.app (h t : AHeap) : Ext h (h ++ t) := ⟨by simp, fun B hB => List.getElem?_append_left hB⟩
theorem Ext.trans {a b c : AHeap} (h : Ext a b) (k : Ext b c) : Ext a c := ⟨Nat.le_trans h.1 k.1, fun B hB => by rw [k.2 B (Nat.lt_of_lt_of_le hB h.1), h.2 B hB]⟩
theorem Ext.get {a b : AHeap} (h : Ext a b) {B : Nat} {x : Option AObj} (hB : a[B]? = some x) : b[B]? = some x := by rw [h.2 B (lt_of_get hB)]; exact hB
theorem Ext.set {a b : AHeap} (h : Ext a b) {R : Nat} (hR : a.length ≤ R) (o : Option AObj) : Ext a (b.set R o) := ⟨by simpa using h.1, fun B hB => by rw [set_ne (by omega)]; exact h.2 B hB⟩
theorem Ext.first {a b : AHeap} (h : Ext a b) {k n : Nat} {v : Value} {rows : List Value} (hf : firstV k a n v = some rows) : firstV k b n v = some rows := firstV_keep hf fun B x hB => h.get hB


/-- a text's stream -/
theorem stream_ok {h : AHeap} {s : ByteArray} (hs : s.size ≤ 1048576) : Valid Tryd.prog 17 [.string s] h fun r h' => r = .slice (some ⟨h.length, 0, none⟩) s.size s.size ∧ h' = h ++ [some ⟨true, bR (streamOf s)⟩] := by
  refine v17 (by simp) ?_
  have h1 : (s.size : Int) * 1 ≤ 140737488355328 := by omega
  have h2 : (s.size : Int) ≤ 9223372036854775807 := by omega
  have h3 : (0 : Int) ≤ s.size := by omega
  have hL := streamOf_len s
  simp only [X17, sx, x_box, x_alloc, x_bslice, x_slice, x_append, x_appz, x_b2s, x_s2b, x_mark, xop, ev, evs, evParts, fillL, cellsL, Ai.get, Ai.put, stab, isNil?, if_false, if_true, addr?, int?, str?, agg?, bool?, shiftA, FnPost, xresL, xres1, tup, argEnv, ptr, Nat.reduceEqDiff, reduceIte, beq_self_eq_true, ne_eq, Nat.reduceAdd, Nat.reduceMul, Nat.reduceSub, abin_shl, abin_shr, load1V, loadV, storeV, cellsAt, getN, setN, allocV, lenL, lenS, bnd, oneC, Value.oneCell', Nat.reduceLeDiff, Nat.reduceLT, exists_eq_left', forall_const, reduceCtorEq, app_new, app_new0, List.append_assoc, Int.reduceToNat, Int.reduceLT, Int.reduceLE, Int.reduceEq, Int.reduceNe, Int.reduceBEq, IntKind.bits, bne_self_eq_false, Int.reducePow, h1, h2, h3, Int.le_refl, zeros_bR]
  refine xcode_loop (fun m ρ h' => ∃ i, i + m = s.size ∧ get ρ 4 = some (.int .i64 (i : Nat)) ∧ get ρ 0 = some (.string s) ∧ get ρ 3 = some (.slice (some ⟨h.length, 0, none⟩) s.size s.size) ∧ h' = h ++ [some ⟨true, bR (filled (streamOf s) i s.size)⟩]) s.size
    ⟨0, by simp, rfl, rfl, rfl, by rw [filled_zero]⟩ ?_
  rintro m ρ h' ⟨i, him, g4, g0, g3, rfl⟩
  by_cases hlt : i < s.size
  · have hlt' : (i : Int) < s.size := by omega
    have hge : (0 : Int) ≤ i := by omega
    have hw : IntKind.i64.wrap ((i : Int) + 1) = ((i + 1 : Nat) : Int) := by rw [i64_wrap] <;> omega
    obtain ⟨b, hb, hb2⟩ := streamOf_get hlt
    have hle : i + 1 ≤ (bR (filled (streamOf s) i s.size)).length := by rw [bR_len, filled_len (by omega) hL]; omega
    simp only [sx, x_box, x_alloc, x_bslice, x_slice, x_append, x_appz, x_b2s, x_s2b, x_mark, xop, ev, evs, evParts, fillL, cellsL, Ai.get, Ai.put, stab, isNil?, if_false, if_true, addr?, int?, str?, agg?, bool?, shiftA, FnPost, xresL, xres1, tup, argEnv, ptr, Nat.reduceEqDiff, reduceIte, beq_self_eq_true, ne_eq, Nat.reduceAdd, Nat.reduceMul, Nat.reduceSub, abin_shl, abin_shr, load1V, loadV, storeV, cellsAt, getN, setN, allocV, lenL, lenS, bnd, oneC, Value.oneCell', Nat.reduceLeDiff, Nat.reduceLT, exists_eq_left', forall_const, reduceCtorEq, app_new, app_new0, List.append_assoc, Int.reduceToNat, Int.reduceLT, Int.reduceLE, Int.reduceEq, Int.reduceNe, Int.reduceBEq, IntKind.bits, bne_self_eq_false, Int.reducePow, g4, g0, g3, hlt', hge, hb, abin_and1, Nat.mul_one, hle, bR_set, hw]
    refine ⟨m - 1, by omega, i + 1, by omega, rfl, ?_⟩
    rw [← hb2, filled_set hlt hL]
  · have hlt' : ¬ (i : Int) < s.size := by omega
    have : i = s.size := by omega
    subst this
    simp only [sx, x_box, x_alloc, x_bslice, x_slice, x_append, x_appz, x_b2s, x_s2b, x_mark, xop, ev, evs, evParts, fillL, cellsL, Ai.get, Ai.put, stab, isNil?, if_false, if_true, addr?, int?, str?, agg?, bool?, shiftA, FnPost, xresL, xres1, tup, argEnv, ptr, Nat.reduceEqDiff, reduceIte, beq_self_eq_true, ne_eq, Nat.reduceAdd, Nat.reduceMul, Nat.reduceSub, abin_shl, abin_shr, load1V, loadV, storeV, cellsAt, getN, setN, allocV, lenL, lenS, bnd, oneC, Value.oneCell', Nat.reduceLeDiff, Nat.reduceLT, exists_eq_left', forall_const, reduceCtorEq, app_new, app_new0, List.append_assoc, Int.reduceToNat, Int.reduceLT, Int.reduceLE, Int.reduceEq, Int.reduceNe, Int.reduceBEq, IntKind.bits, bne_self_eq_false, Int.reducePow, g4, g0, g3, hlt', filled_all hL]

theorem elemB {n c : Nat} {h : AHeap} {q : Option Addr} {zs : List Int} (hf : firstV 1 h n (.slice q n c) = some (bR zs)) {i : Nat} (hi : i < n) :
    ∃ a o z, q = some a ∧ a.spot = none ∧ h[a.block]? = some (some o) ∧ o.cells[a.off + i]? = some (.int .u8 z) ∧ zs[i]? = some z := by
  cases q with
  | none => simp [firstV] at hf; omega
  | some a =>
    obtain ⟨h1, o, v, h2, h3, h4⟩ := firstV_elem1 hf hi
    rw [bR_get] at h4
    obtain ⟨z, h5, rfl⟩ := Option.map_eq_some_iff.1 h4
    exact ⟨a, o, z, rfl, h1, h2, h3, h5⟩


theorem same_ok {h : AHeap} {qa qb : Option Addr} {n m ca cb : Nat} {za zb : List Int} (ha : firstV 1 h n (.slice qa n ca) = some (bR za)) (hb : firstV 1 h m (.slice qb m cb) = some (bR zb)) (hn : n ≤ 1152921504606846976) :
    Valid Tryd.prog 16 [.slice qa n ca, .slice qb m cb] h fun r h' => r = .bool (decide (za = zb)) ∧ h' = h := by
  refine v16 (by simp) ?_
  have la := firstV_len ha
  have lb := firstV_len hb
  rw [bR_len, Nat.mul_one] at la lb
  by_cases hnm : (n : Int) = m
  · have hnm' : n = m := by omega
    simp only [X16, sx, x_box, x_alloc, x_bslice, x_slice, x_append, x_appz, x_b2s, x_s2b, x_mark, xop, ev, evs, evParts, fillL, cellsL, Ai.get, Ai.put, stab, isNil?, if_false, if_true, addr?, int?, str?, agg?, bool?, shiftA, FnPost, xresL, xres1, tup, argEnv, ptr, Nat.reduceEqDiff, reduceIte, beq_self_eq_true, ne_eq, Nat.reduceAdd, Nat.reduceMul, Nat.reduceSub, abin_shl, abin_shr, load1V, loadV, storeV, cellsAt, getN, setN, allocV, lenL, lenS, bnd, oneC, Value.oneCell', Nat.reduceLeDiff, Nat.reduceLT, exists_eq_left', forall_const, reduceCtorEq, app_new, app_new0, List.append_assoc, Int.reduceToNat, Int.reduceLT, Int.reduceLE, Int.reduceEq, Int.reduceNe, Int.reduceBEq, IntKind.bits, bne_self_eq_false, Int.reducePow, hnm]
    refine xcode_loop (fun k ρ h' => ∃ i, i + k = n ∧ get ρ 5 = some (.int .i64 (i : Nat)) ∧ get ρ 0 = some (.slice qa n ca) ∧ get ρ 1 = some (.slice qb m cb) ∧ h' = h ∧ ∀ j, j < i → za[j]? = zb[j]?) n
      ⟨0, by simp, rfl, rfl, rfl, rfl, fun j h => by omega⟩ ?_
    rintro k ρ h' ⟨i, hik, g5, g0, g1, rfl, hp⟩
    by_cases hlt : i < n
    · have hlt' : (i : Int) < m := by omega
      have hlt2 : (i : Int) < n := by omega
      have hge : (0 : Int) ≤ i := by omega
      have hw : IntKind.i64.wrap ((i : Int) + 1) = ((i + 1 : Nat) : Int) := by rw [i64_wrap] <;> omega
      obtain ⟨a, oa, x, rfl, a1, a2, a3, a4⟩ := elemB ha hlt
      obtain ⟨b, ob, y, rfl, b1, b2, b3, b4⟩ := elemB hb (show i < m by omega)
      by_cases hxy : x = y
      · simp only [sx, x_box, x_alloc, x_bslice, x_slice, x_append, x_appz, x_b2s, x_s2b, x_mark, xop, ev, evs, evParts, fillL, cellsL, Ai.get, Ai.put, stab, isNil?, if_false, if_true, addr?, int?, str?, agg?, bool?, shiftA, FnPost, xresL, xres1, tup, argEnv, ptr, Nat.reduceEqDiff, reduceIte, beq_self_eq_true, ne_eq, Nat.reduceAdd, Nat.reduceMul, Nat.reduceSub, abin_shl, abin_shr, load1V, loadV, storeV, cellsAt, getN, setN, allocV, lenL, lenS, bnd, oneC, Value.oneCell', Nat.reduceLeDiff, Nat.reduceLT, exists_eq_left', forall_const, reduceCtorEq, app_new, app_new0, List.append_assoc, Int.reduceToNat, Int.reduceLT, Int.reduceLE, Int.reduceEq, Int.reduceNe, Int.reduceBEq, IntKind.bits, bne_self_eq_false, Int.reducePow, g5, g0, g1, hlt', hlt2, hge, a1, a2, a3, b1, b2, b3, hxy, Nat.mul_one, hw]
        refine ⟨k - 1, by omega, i + 1, by omega, rfl, fun j hj => ?_⟩
        rcases Nat.lt_or_ge j i with h | h
        · exact hp j h
        · rw [show j = i by omega, a4, b4, hxy]
      · have hne : ¬ za = zb := fun e => by rw [e, b4] at a4; cases a4; exact hxy rfl
        simp only [sx, x_box, x_alloc, x_bslice, x_slice, x_append, x_appz, x_b2s, x_s2b, x_mark, xop, ev, evs, evParts, fillL, cellsL, Ai.get, Ai.put, stab, isNil?, if_false, if_true, addr?, int?, str?, agg?, bool?, shiftA, FnPost, xresL, xres1, tup, argEnv, ptr, Nat.reduceEqDiff, reduceIte, beq_self_eq_true, ne_eq, Nat.reduceAdd, Nat.reduceMul, Nat.reduceSub, abin_shl, abin_shr, load1V, loadV, storeV, cellsAt, getN, setN, allocV, lenL, lenS, bnd, oneC, Value.oneCell', Nat.reduceLeDiff, Nat.reduceLT, exists_eq_left', forall_const, reduceCtorEq, app_new, app_new0, List.append_assoc, Int.reduceToNat, Int.reduceLT, Int.reduceLE, Int.reduceEq, Int.reduceNe, Int.reduceBEq, IntKind.bits, bne_self_eq_false, Int.reducePow, g5, g0, g1, hlt', hlt2, hge, a1, a2, a3, b1, b2, b3, hxy, Nat.mul_one, hne]
    · have hlt' : ¬ (i : Int) < n := by omega
      have he : za = zb := List.ext_getElem? fun j => by
        rcases Nat.lt_or_ge j n with h | h
        · exact hp j (by omega)
        · rw [List.getElem?_eq_none (by omega), List.getElem?_eq_none (by omega)]
      simp only [sx, x_box, x_alloc, x_bslice, x_slice, x_append, x_appz, x_b2s, x_s2b, x_mark, xop, ev, evs, evParts, fillL, cellsL, Ai.get, Ai.put, stab, isNil?, if_false, if_true, addr?, int?, str?, agg?, bool?, shiftA, FnPost, xresL, xres1, tup, argEnv, ptr, Nat.reduceEqDiff, reduceIte, beq_self_eq_true, ne_eq, Nat.reduceAdd, Nat.reduceMul, Nat.reduceSub, abin_shl, abin_shr, load1V, loadV, storeV, cellsAt, getN, setN, allocV, lenL, lenS, bnd, oneC, Value.oneCell', Nat.reduceLeDiff, Nat.reduceLT, exists_eq_left', forall_const, reduceCtorEq, app_new, app_new0, List.append_assoc, Int.reduceToNat, Int.reduceLT, Int.reduceLE, Int.reduceEq, Int.reduceNe, Int.reduceBEq, IntKind.bits, bne_self_eq_false, Int.reducePow, g5, g0, g1, hlt', he]
  · have hne : ¬ za = zb := fun e => by rw [e] at la; omega
    simp only [X16, sx, x_box, x_alloc, x_bslice, x_slice, x_append, x_appz, x_b2s, x_s2b, x_mark, xop, ev, evs, evParts, fillL, cellsL, Ai.get, Ai.put, stab, isNil?, if_false, if_true, addr?, int?, str?, agg?, bool?, shiftA, FnPost, xresL, xres1, tup, argEnv, ptr, Nat.reduceEqDiff, reduceIte, beq_self_eq_true, ne_eq, Nat.reduceAdd, Nat.reduceMul, Nat.reduceSub, abin_shl, abin_shr, load1V, loadV, storeV, cellsAt, getN, setN, allocV, lenL, lenS, bnd, oneC, Value.oneCell', Nat.reduceLeDiff, Nat.reduceLT, exists_eq_left', forall_const, reduceCtorEq, app_new, app_new0, List.append_assoc, Int.reduceToNat, Int.reduceLT, Int.reduceLE, Int.reduceEq, Int.reduceNe, Int.reduceBEq, IntKind.bits, bne_self_eq_false, Int.reducePow, hnm, hne]


theorem bytes_ok {h : AHeap} {qa qb : Option Addr} {n m ca cb : Nat} {za zb : List Int} (ha : firstV 1 h n (.slice qa n ca) = some (bR za)) (hb : firstV 1 h m (.slice qb m cb) = some (bR zb)) (hn : n ≤ 1152921504606846976) (hca : ca = n) :
    Valid Tryd.prog 13 [.slice qa n ca, .slice qb m cb] h fun r h' => r = .int .i64 (if za = zb then 0 else 1) ∧ h' = h := by
  refine v13 (by simp) ?_
  subst hca
  have h1 : ca < unk := by unfold unk; omega
  simp only [X13, sx, x_box, x_alloc, x_bslice, x_slice, x_append, x_appz, x_b2s, x_s2b, x_mark, xop, ev, evs, evParts, fillL, cellsL, Ai.get, Ai.put, stab, isNil?, if_false, if_true, addr?, int?, str?, agg?, bool?, shiftA, FnPost, xresL, xres1, tup, argEnv, ptr, Nat.reduceEqDiff, reduceIte, beq_self_eq_true, ne_eq, Nat.reduceAdd, Nat.reduceMul, Nat.reduceSub, abin_shl, abin_shr, load1V, loadV, storeV, cellsAt, getN, setN, allocV, lenL, lenS, bnd, oneC, Value.oneCell', Nat.reduceLeDiff, Nat.reduceLT, exists_eq_left', forall_const, reduceCtorEq, app_new, app_new0, List.append_assoc, Int.reduceToNat, Int.reduceLT, Int.reduceLE, Int.reduceEq, Int.reduceNe, Int.reduceBEq, IntKind.bits, bne_self_eq_false, Int.reducePow, h1, Int.lt_irrefl]
  refine xcall (same_ok ha hb hn) (by rfl) (by rfl) (by rfl) (by rfl) ?_
  rintro r h' ⟨rfl, rfl⟩
  by_cases he : za = zb <;> simp [sx, x_box, x_alloc, x_bslice, x_slice, x_append, x_appz, x_b2s, x_s2b, x_mark, xop, ev, evs, evParts, fillL, cellsL, Ai.get, Ai.put, stab, isNil?, if_false, if_true, addr?, int?, str?, agg?, bool?, shiftA, FnPost, xresL, xres1, tup, argEnv, ptr, Nat.reduceEqDiff, reduceIte, beq_self_eq_true, ne_eq, Nat.reduceAdd, Nat.reduceMul, Nat.reduceSub, abin_shl, abin_shr, load1V, loadV, storeV, cellsAt, getN, setN, allocV, lenL, lenS, bnd, oneC, Value.oneCell', Nat.reduceLeDiff, Nat.reduceLT, exists_eq_left', forall_const, reduceCtorEq, app_new, app_new0, List.append_assoc, Int.reduceToNat, Int.reduceLT, Int.reduceLE, Int.reduceEq, Int.reduceNe, Int.reduceBEq, IntKind.bits, bne_self_eq_false, Int.reducePow, he]


def checkV (zs : List Int) : Int := if 1048576 < zs.length then 3 else if ∃ z ∈ zs, 1 < z then 1 else 0
theorem check_still {h : AHeap} {q : Option Addr} {n c : Nat} {zs : List Int} (hf : firstV 1 h n (.slice q n c) = some (bR zs)) (hn : n ≤ 1152921504606846976) :
    Valid Tryd.prog 42 [.slice q n c] h fun r h' => r = .int .i64 (checkV zs) ∧ h' = h := by
  refine v42 (by simp) ?_
  have hl := firstV_len hf
  rw [bR_len, Nat.mul_one] at hl
  unfold checkV
  rw [hl]
  by_cases hb : 1048576 < n
  · have hb' : (1048576 : Int) < n := by omega
    simp [X42, sx, x_box, x_alloc, x_bslice, x_slice, x_append, x_appz, x_b2s, x_s2b, x_mark, xop, ev, evs, evParts, fillL, cellsL, Ai.get, Ai.put, stab, isNil?, if_false, if_true, addr?, int?, str?, agg?, bool?, shiftA, FnPost, xresL, xres1, tup, argEnv, ptr, Nat.reduceEqDiff, reduceIte, beq_self_eq_true, ne_eq, Nat.reduceAdd, Nat.reduceMul, Nat.reduceSub, abin_shl, abin_shr, load1V, loadV, storeV, cellsAt, getN, setN, allocV, lenL, lenS, bnd, oneC, Value.oneCell', Nat.reduceLeDiff, Nat.reduceLT, exists_eq_left', forall_const, reduceCtorEq, app_new, app_new0, List.append_assoc, Int.reduceToNat, Int.reduceLT, Int.reduceLE, Int.reduceEq, Int.reduceNe, Int.reduceBEq, IntKind.bits, bne_self_eq_false, Int.reducePow, hb, hb']
  · have hb' : ¬ (1048576 : Int) < n := by omega
    simp only [X42, sx, x_box, x_alloc, x_bslice, x_slice, x_append, x_appz, x_b2s, x_s2b, x_mark, xop, ev, evs, evParts, fillL, cellsL, Ai.get, Ai.put, stab, isNil?, if_false, if_true, addr?, int?, str?, agg?, bool?, shiftA, FnPost, xresL, xres1, tup, argEnv, ptr, Nat.reduceEqDiff, reduceIte, beq_self_eq_true, ne_eq, Nat.reduceAdd, Nat.reduceMul, Nat.reduceSub, abin_shl, abin_shr, load1V, loadV, storeV, cellsAt, getN, setN, allocV, lenL, lenS, bnd, oneC, Value.oneCell', Nat.reduceLeDiff, Nat.reduceLT, exists_eq_left', forall_const, reduceCtorEq, app_new, app_new0, List.append_assoc, Int.reduceToNat, Int.reduceLT, Int.reduceLE, Int.reduceEq, Int.reduceNe, Int.reduceBEq, IntKind.bits, bne_self_eq_false, Int.reducePow, hb', hb]
    have hcl : ∀ i v, i < n → (bR zs)[i]? = some v → Valid Tryd.prog 51 (v :: (#[] : Array Value).toList) h fun r h' => r = .bool (decide (1 < zs.getD i 0)) ∧ h' = h := fun i v hi hv => by
      rw [bR_get] at hv
      obtain ⟨z, h5, rfl⟩ := Option.map_eq_some_iff.1 hv
      refine v51 (by simp) ?_
      have : zs.getD i 0 = z := by simp [List.getD_eq_getElem?_getD, h5]
      simp only [X51, sx, x_box, x_alloc, x_bslice, x_slice, x_append, x_appz, x_b2s, x_s2b, x_mark, xop, ev, evs, evParts, fillL, cellsL, Ai.get, Ai.put, stab, isNil?, if_false, if_true, addr?, int?, str?, agg?, bool?, shiftA, FnPost, xresL, xres1, tup, argEnv, ptr, Nat.reduceEqDiff, reduceIte, beq_self_eq_true, ne_eq, Nat.reduceAdd, Nat.reduceMul, Nat.reduceSub, abin_shl, abin_shr, load1V, loadV, storeV, cellsAt, getN, setN, allocV, lenL, lenS, bnd, oneC, Value.oneCell', Nat.reduceLeDiff, Nat.reduceLT, exists_eq_left', forall_const, reduceCtorEq, app_new, app_new0, List.append_assoc, Int.reduceToNat, Int.reduceLT, Int.reduceLE, Int.reduceEq, Int.reduceNe, Int.reduceBEq, IntKind.bits, bne_self_eq_false, Int.reducePow, this]
    refine xcall (contains_still v50 (index1_still v54 hn hf (fun i => decide (1 < zs.getD i 0)) hcl)) (by rfl) (by rfl) (by rfl) (by rfl) ?_
    rintro r h' ⟨rfl, rfl⟩
    have e : (∃ i, i < n ∧ decide (1 < zs.getD i 0) = true) ↔ ∃ z ∈ zs, 1 < z := by
      constructor
      · rintro ⟨i, hi, h1⟩
        refine ⟨zs[i]'(by omega), List.getElem_mem _, ?_⟩
        have : zs.getD i 0 = zs[i]'(by omega) := by simp [List.getD_eq_getElem?_getD, List.getElem?_eq_getElem (show i < zs.length by omega)]
        rw [this] at h1; simpa using h1
      · rintro ⟨z, hz, h1⟩
        obtain ⟨i, hi, rfl⟩ := List.mem_iff_getElem.1 hz
        exact ⟨i, by omega, by simp [List.getD_eq_getElem?_getD, hi, h1]⟩
    by_cases he : ∃ z ∈ zs, 1 < z
    · simp only [sx, x_box, x_alloc, x_bslice, x_slice, x_append, x_appz, x_b2s, x_s2b, x_mark, xop, ev, evs, evParts, fillL, cellsL, Ai.get, Ai.put, stab, isNil?, if_false, if_true, addr?, int?, str?, agg?, bool?, shiftA, FnPost, xresL, xres1, tup, argEnv, ptr, Nat.reduceEqDiff, reduceIte, beq_self_eq_true, ne_eq, Nat.reduceAdd, Nat.reduceMul, Nat.reduceSub, abin_shl, abin_shr, load1V, loadV, storeV, cellsAt, getN, setN, allocV, lenL, lenS, bnd, oneC, Value.oneCell', Nat.reduceLeDiff, Nat.reduceLT, exists_eq_left', forall_const, reduceCtorEq, app_new, app_new0, List.append_assoc, Int.reduceToNat, Int.reduceLT, Int.reduceLE, Int.reduceEq, Int.reduceNe, Int.reduceBEq, IntKind.bits, bne_self_eq_false, Int.reducePow, e, he]
    · simp only [sx, x_box, x_alloc, x_bslice, x_slice, x_append, x_appz, x_b2s, x_s2b, x_mark, xop, ev, evs, evParts, fillL, cellsL, Ai.get, Ai.put, stab, isNil?, if_false, if_true, addr?, int?, str?, agg?, bool?, shiftA, FnPost, xresL, xres1, tup, argEnv, ptr, Nat.reduceEqDiff, reduceIte, beq_self_eq_true, ne_eq, Nat.reduceAdd, Nat.reduceMul, Nat.reduceSub, abin_shl, abin_shr, load1V, loadV, storeV, cellsAt, getN, setN, allocV, lenL, lenS, bnd, oneC, Value.oneCell', Nat.reduceLeDiff, Nat.reduceLT, exists_eq_left', forall_const, reduceCtorEq, app_new, app_new0, List.append_assoc, Int.reduceToNat, Int.reduceLT, Int.reduceLE, Int.reduceEq, Int.reduceNe, Int.reduceBEq, IntKind.bits, bne_self_eq_false, Int.reducePow, e, he]
theorem check_ok {h : AHeap} {q : Option Addr} {n c : Nat} {zs : List Int} (hf : firstV 1 h n (.slice q n c) = some (bR zs)) (hn : n ≤ 1152921504606846976) :
    Valid Tryd.prog 42 [.slice q n c] h fun r h' => r = .int .i64 (checkV zs) ∧ ∃ J, h' = h ++ J :=
  (check_still hf hn).mono fun r h' k => ⟨k.1, [], by rw [k.2, List.append_nil]⟩

/-- a slice that is appended to: nil, or all of an array -/
def RN (h : AHeap) (sl : Value) (zs : List Int) : Prop := (sl = .slice none 0 0 ∧ zs = []) ∨ ∃ A, sl = .slice (some ⟨A, 0, none⟩) zs.length (unk + 1) ∧ h[A]? = some (some ⟨true, bR zs⟩)
theorem RN.ret {h : AHeap} {sl : Value} {zs : List Int} (r : RN h sl zs) : Ret 1 h sl zs.length (bR zs) := by
  rcases r with ⟨rfl, rfl⟩ | ⟨A, rfl, h1⟩
  · exact ⟨rfl, .inl ⟨rfl, rfl⟩⟩
  · exact ⟨by rw [bR_len, Nat.mul_one], .inr (.inr ⟨_, rfl, h1⟩)⟩
theorem RN.keep {h h' : AHeap} {sl : Value} {zs : List Int} (r : RN h sl zs) (hk : ∀ A x, slB sl = some A → h[A]? = some x → h'[A]? = some x) : RN h' sl zs := by
  rcases r with r | ⟨A, rfl, h1⟩
  · exact .inl r
  · exact .inr ⟨A, rfl, hk A _ rfl h1⟩
/-- appended to it -/
theorem RN.append {K : Env → AHeap → Prop} {r : List XOper} {ρ : Env} {h : AHeap} {zs news : List Int} {d : Option Nat} {s x : XA} {sl xv : Value} (R : RN h sl zs)
    (hs : ev ρ s = some sl) (hx : ev ρ x = some xv) (hl : lenV xv = some news.length) (hf : firstV 1 h news.length xv = some (bR news)) (hb : zs.length + news.length ≤ 1048576)
    (hK : ∀ sl' h', RN h' sl' (zs ++ news) → h.length ≤ h'.length → (∀ B, B < h.length → slB sl ≠ some B → h'[B]? = h[B]?) → (∀ A, slB sl' = some A → slB sl = some A ∨ (h.length ≤ A)) → (sl' = sl ∧ h' = h ∨ ∃ A, slB sl' = some A ∧ h.length ≤ A ∧ A < h'.length) → xops Tryd.prog K r (put d sl' ρ) h') :
    xops Tryd.prog K (⟨d, none, .append 1 1 [.int .u8 0] s x, []⟩ :: r) ρ h := by
  refine append_run (k := 1) (by_ := 1) (n := zs.length) (m := news.length) (rows := bR zs) (news := bR news) (sl := sl) (xv := xv) rfl (by decide) hs hx hl hf (by rw [bR_len, Nat.mul_one]) (bR_one _) R.ret.toO (by omega) (by omega) (fun h0 => ?_) (fun h0 h' A' hA' hg hl' hfr => ?_)
  · have : news = [] := List.eq_nil_of_length_eq_zero h0
    refine hK sl h (by rw [this, List.append_nil]; exact R) (Nat.le_refl _) (fun _ _ _ => rfl) (fun A hA => .inl hA) (.inl ⟨rfl, rfl⟩)
  · refine hK _ h' (.inr ⟨A', by rw [List.length_append], by rw [hg, bR_append]⟩) (by omega) hfr (fun A hA => ?_) (.inr ⟨A', rfl, hA', lt_of_get hg⟩)
    simp [slB] at hA; subst hA; exact .inr hA'


theorem checkV_stream {s : ByteArray} (hs : s.size ≤ 1048576) : checkV (streamOf s) = 0 := by
  unfold checkV
  rw [if_neg (by rw [streamOf_len]; omega), if_neg]
  rintro ⟨z, hz, h1⟩
  rcases streamOf_bit s z hz with rfl | rfl <;> omega
theorem stream_nonneg (s : ByteArray) : ∀ z ∈ streamOf s, 0 ≤ z := fun z hz => by rcases streamOf_bit s z hz with rfl | rfl <;> omega

theorem stream_first {h h' : AHeap} {s : ByteArray} (e : Ext (h ++ [some ⟨true, bR (streamOf s)⟩]) h') : firstV 1 h' s.size (.slice (some ⟨h.length, 0, none⟩) s.size s.size) = some (bR (streamOf s)) := by
  simp only [firstV]
  split
  · rename_i h0
    have : streamOf s = [] := List.eq_nil_of_length_eq_zero (by rw [streamOf_len]; exact h0)
    rw [this]; rfl
  · have hx : h'[h.length]? = some (some ⟨true, bR (streamOf s)⟩) := e.get (by rw [app_new0]; rfl)
    simp only [ne_eq, not_true_eq_false, if_false, cellsAt, hx, Option.bind_some]
    exact getN_all _ _ (by rw [bR_len, streamOf_len, Nat.mul_one])


theorem checkV_bits {zs : List Int} (h : checkV zs = 0) (hp : ∀ z ∈ zs, 0 ≤ z) : zs.length ≤ 1048576 ∧ ∀ z ∈ zs, z = 0 ∨ z = 1 := by
  unfold checkV at h
  split at h
  · cases h
  · split at h
    · cases h
    · rename_i h1 h2
      refine ⟨by omega, fun z hz => ?_⟩
      have h3 := hp z hz
      have h4 : ¬ 1 < z := fun h => h2 ⟨z, hz, h⟩
      omega

end Go.Proofs.YtimfgagdfmmeeaaDoor
