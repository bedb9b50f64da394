import Derived.Test.YtimfgagdfmmeeaaDoorX
import Derived.Test.YtimfgagdfmmeeaaDoorAiX
import Derived.Test.YtimfgagdfmmeeaaDoorAiXa
import Derived.Test.YtimfgagdfmmeeaaDoorAiXc
import Derived.Test.YtimfgagdfmmeeaaDoorAiXd
set_option linter.unusedVariables false
set_option linter.unusedSimpArgs false
namespace Go.Proofs.YtimfgagdfmmeeaaDoor
open Go Go.Ai Go.Proofs

/-- what was there is there still -/
def Ext (h h' : AHeap) : Prop := h.length ≤ h'.length ∧ ∀ B, B < h.length → h'[B]? = h[B]?
theorem Ext.refl (h : AHeap) : Ext h h := ⟨Nat.le_refl _, fun _ _ => rfl⟩
theorem Ext.app (h t : AHeap) : Ext h (h ++ t) := ⟨by simp, fun B hB => List.getElem?_append_left hB⟩
theorem Ext.trans {a b c : AHeap} (h : Ext a b) (k : Ext b c) : Ext a c := ⟨Nat.le_trans h.1 k.1, fun B hB => by rw [k.2 B (Nat.lt_of_lt_of_le hB h.1), h.2 B hB]⟩
theorem Ext.get {a b : AHeap} (h : Ext a b) {B : Nat} {x : Option AObj} (hB : a[B]? = some x) : b[B]? = some x := by rw [h.2 B (lt_of_get hB)]; exact hB
theorem Ext.set {a b : AHeap} (h : Ext a b) {R : Nat} (hR : a.length ≤ R) (o : Option AObj) : Ext a (b.set R o) := ⟨by simpa using h.1, fun B hB => by rw [set_ne (by omega)]; exact h.2 B hB⟩
theorem Ext.first {a b : AHeap} (h : Ext a b) {k n : Nat} {v : Value} {rows : List Value} (hf : firstV k a n v = some rows) : firstV k b n v = some rows := firstV_keep hf fun B x hB => h.get hB


/-- a text's stream -/
theorem stream_ok {h : AHeap} {s : ByteArray} (hs : s.size ≤ 1048576) : Valid Tryd.prog 17 [.string s] h fun r h' => r = .slice (some ⟨h.length, 0, none⟩) s.size s.size ∧ h' = h ++ [some ⟨true, bR (streamOf s)⟩] := by
  refine v17 (by simp) ?_
  have h1 : (s.size : Int) * 1 ≤ 140737488355328 := by omega
  have h2 : (s.size : Int) ≤ 9223372036854775807 := by omega
  have h3 : (0 : Int) ≤ s.size := by omega
  have hL := streamOf_len s
  simp only [X17, sx, x_box, x_alloc, x_bslice, x_slice, x_append, x_appz, x_b2s, x_s2b, x_mark, xop, ev, evs, evParts, fillL, cellsL, Ai.get, Ai.put, stab, isNil?, if_false, if_true, addr?, int?, str?, agg?, bool?, shiftA, FnPost, xresL, xres1, tup, argEnv, ptr, Nat.reduceEqDiff, reduceIte, beq_self_eq_true, ne_eq, Nat.reduceAdd, Nat.reduceMul, Nat.reduceSub, abin_shl, abin_shr, load1V, loadV, storeV, cellsAt, getN, setN, allocV, lenL, lenS, bnd, oneC, Value.oneCell', Nat.reduceLeDiff, Nat.reduceLT, exists_eq_left', forall_const, reduceCtorEq, app_new, app_new0, List.append_assoc, Int.reduceToNat, Int.reduceLT, Int.reduceLE, Int.reduceEq, Int.reduceNe, Int.reduceBEq, IntKind.bits, bne_self_eq_false, Int.reducePow, h1, h2, h3, Int.le_refl, zeros_bR]
  refine xcode_loop (fun m ρ h' => ∃ i, i + m = s.size ∧ get ρ 4 = some (.int .i64 (i : Nat)) ∧ get ρ 0 = some (.string s) ∧ get ρ 3 = some (.slice (some ⟨h.length, 0, none⟩) s.size s.size) ∧ h' = h ++ [some ⟨true, bR (filled (streamOf s) i s.size)⟩]) s.size
    ⟨0, by simp, rfl, rfl, rfl, by rw [filled_zero]⟩ ?_
  rintro m ρ h' ⟨i, him, g4, g0, g3, rfl⟩
  by_cases hlt : i < s.size
  · have hlt' : (i : Int) < s.size := by omega
    have hge : (0 : Int) ≤ i := by omega
    have hw : IntKind.i64.wrap ((i : Int) + 1) = ((i + 1 : Nat) : Int) := by rw [i64_wrap] <;> omega
    obtain ⟨b, hb, hb2⟩ := streamOf_get hlt
    have hle : i + 1 ≤ (bR (filled (streamOf s) i s.size)).length := by rw [bR_len, filled_len (by omega) hL]; omega
    simp only [sx, x_box, x_alloc, x_bslice, x_slice, x_append, x_appz, x_b2s, x_s2b, x_mark, xop, ev, evs, evParts, fillL, cellsL, Ai.get, Ai.put, stab, isNil?, if_false, if_true, addr?, int?, str?, agg?, bool?, shiftA, FnPost, xresL, xres1, tup, argEnv, ptr, Nat.reduceEqDiff, reduceIte, beq_self_eq_true, ne_eq, Nat.reduceAdd, Nat.reduceMul, Nat.reduceSub, abin_shl, abin_shr, load1V, loadV, storeV, cellsAt, getN, setN, allocV, lenL, lenS, bnd, oneC, Value.oneCell', Nat.reduceLeDiff, Nat.reduceLT, exists_eq_left', forall_const, reduceCtorEq, app_new, app_new0, List.append_assoc, Int.reduceToNat, Int.reduceLT, Int.reduceLE, Int.reduceEq, Int.reduceNe, Int.reduceBEq, IntKind.bits, bne_self_eq_false, Int.reducePow, g4, g0, g3, hlt', hge, hb, abin_and1, Nat.mul_one, hle, bR_set, hw]
    refine ⟨m - 1, by omega, i + 1, by omega, rfl, ?_⟩
    rw [← hb2, filled_set hlt hL]
  · have hlt' : ¬ (i : Int) < s.size := by omega
    have : i = s.size := by omega
    subst this
    simp only [sx, x_box, x_alloc, x_bslice, x_slice, x_append, x_appz, x_b2s, x_s2b, x_mark, xop, ev, evs, evParts, fillL, cellsL, Ai.get, Ai.put, stab, isNil?, if_false, if_true, addr?, int?, str?, agg?, bool?, shiftA, FnPost, xresL, xres1, tup, argEnv, ptr, Nat.reduceEqDiff, reduceIte, beq_self_eq_true, ne_eq, Nat.reduceAdd, Nat.reduceMul, Nat.reduceSub, abin_shl, abin_shr, load1V, loadV, storeV, cellsAt, getN, setN, allocV, lenL, lenS, bnd, oneC, Value.oneCell', Nat.reduceLeDiff, Nat.reduceLT, exists_eq_left', forall_const, reduceCtorEq, app_new, app_new0, List.append_assoc, Int.reduceToNat, Int.reduceLT, Int.reduceLE, Int.reduceEq, Int.reduceNe, Int.reduceBEq, IntKind.bits, bne_self_eq_false, Int.reducePow, g4, g0, g3, hlt', filled_all hL]

theorem elemB {n c : Nat} {h : AHeap} {q : Option Addr} {zs : List Int} (hf : firstV 1 h n (.slice q n c) = some (bR zs)) {i : Nat} (hi : i < n) :
    ∃ a o z, q = some a ∧ a.spot = none ∧ h[a.block]? = some (some o) ∧ o.cells[a.off + i]? = some (.int .u8 z) ∧ zs[i]? = some z := by
  cases q with
  | none => simp [firstV] at hf; omega
  | some a =>
    obtain ⟨h1, o, v, h2, h3, h4⟩ := firstV_elem1 hf hi
    rw [bR_get] at h4
    obtain ⟨z, h5, rfl⟩ := Option.map_eq_some_iff.1 h4
    exact ⟨a, o, z, rfl, h1, h2, h3, h5⟩


theorem same_ok {h : AHeap} {qa qb : Option Addr} {n m ca cb : Nat} {za zb : List Int} (ha : firstV 1 h n (.slice qa n ca) = some (bR za)) (hb : firstV 1 h m (.slice qb m cb) = some (bR zb)) (hn : n ≤ 1152921504606846976) :
    Valid Tryd.prog 16 [.slice qa n ca, .slice qb m cb] h fun r h' => r = .bool (decide (za = zb)) ∧ h' = h := by
  refine v16 (by simp) ?_
  have la := firstV_len ha
  have lb := firstV_len hb
  rw [bR_len, Nat.mul_one] at la lb
  by_cases hnm : (n : Int) = m
  · have hnm' : n = m := by omega
    simp only [X16, sx, x_box, x_alloc, x_bslice, x_slice, x_append, x_appz, x_b2s, x_s2b, x_mark, xop, ev, evs, evParts, fillL, cellsL, Ai.get, Ai.put, stab, isNil?, if_false, if_true, addr?, int?, str?, agg?, bool?, shiftA, FnPost, xresL, xres1, tup, argEnv, ptr, Nat.reduceEqDiff, reduceIte, beq_self_eq_true, ne_eq, Nat.reduceAdd, Nat.reduceMul, Nat.reduceSub, abin_shl, abin_shr, load1V, loadV, storeV, cellsAt, getN, setN, allocV, lenL, lenS, bnd, oneC, Value.oneCell', Nat.reduceLeDiff, Nat.reduceLT, exists_eq_left', forall_const, reduceCtorEq, app_new, app_new0, List.append_assoc, Int.reduceToNat, Int.reduceLT, Int.reduceLE, Int.reduceEq, Int.reduceNe, Int.reduceBEq, IntKind.bits, bne_self_eq_false, Int.reducePow, hnm]
    refine xcode_loop (fun k ρ h' => ∃ i, i + k = n ∧ get ρ 5 = some (.int .i64 (i : Nat)) ∧ get ρ 0 = some (.slice qa n ca) ∧ get ρ 1 = some (.slice qb m cb) ∧ h' = h ∧ ∀ j, j < i → za[j]? = zb[j]?) n
      ⟨0, by simp, rfl, rfl, rfl, rfl, fun j h => by omega⟩ ?_
    rintro k ρ h' ⟨i, hik, g5, g0, g1, rfl, hp⟩
    by_cases hlt : i < n
    · have hlt' : (i : Int) < m := by omega
      have hlt2 : (i : Int) < n := by omega
      have hge : (0 : Int) ≤ i := by omega
      have hw : IntKind.i64.wrap ((i : Int) + 1) = ((i + 1 : Nat) : Int) := by rw [i64_wrap] <;> omega
      obtain ⟨a, oa, x, rfl, a1, a2, a3, a4⟩ := elemB ha hlt
      obtain ⟨b, ob, y, rfl, b1, b2, b3, b4⟩ := elemB hb (show i < m by omega)
      by_cases hxy : x = y
      · simp only [sx, x_box, x_alloc, x_bslice, x_slice, x_append, x_appz, x_b2s, x_s2b, x_mark, xop, ev, evs, evParts, fillL, cellsL, Ai.get, Ai.put, stab, isNil?, if_false, if_true, addr?, int?, str?, agg?, bool?, shiftA, FnPost, xresL, xres1, tup, argEnv, ptr, Nat.reduceEqDiff, reduceIte, beq_self_eq_true, ne_eq, Nat.reduceAdd, Nat.reduceMul, Nat.reduceSub, abin_shl, abin_shr, load1V, loadV, storeV, cellsAt, getN, setN, allocV, lenL, lenS, bnd, oneC, Value.oneCell', Nat.reduceLeDiff, Nat.reduceLT, exists_eq_left', forall_const, reduceCtorEq, app_new, app_new0, List.append_assoc, Int.reduceToNat, Int.reduceLT, Int.reduceLE, Int.reduceEq, Int.reduceNe, Int.reduceBEq, IntKind.bits, bne_self_eq_false, Int.reducePow, g5, g0, g1, hlt', hlt2, hge, a1, a2, a3, b1, b2, b3, hxy, Nat.mul_one, hw]
        refine ⟨k - 1, by omega, i + 1, by omega, rfl, fun j hj => ?_⟩
        rcases Nat.lt_or_ge j i with h | h
        · exact hp j h
        · rw [show j = i by omega, a4, b4, hxy]
      · have hne : ¬ za = zb := fun e => by rw [e, b4] at a4; cases a4; exact hxy rfl
        simp only [sx, x_box, x_alloc, x_bslice, x_slice, x_append, x_appz, x_b2s, x_s2b, x_mark, xop, ev, evs, evParts, fillL, cellsL, Ai.get, Ai.put, stab, isNil?, if_false, if_true, addr?, int?, str?, agg?, bool?, shiftA, FnPost, xresL, xres1, tup, argEnv, ptr, Nat.reduceEqDiff, reduceIte, beq_self_eq_true, ne_eq, Nat.reduceAdd, Nat.reduceMul, Nat.reduceSub, abin_shl, abin_shr, load1V, loadV, storeV, cellsAt, getN, setN, allocV, lenL, lenS, bnd, oneC, Value.oneCell', Nat.reduceLeDiff, Nat.reduceLT, exists_eq_left', forall_const, reduceCtorEq, app_new, app_new0, List.append_assoc, Int.reduceToNat, Int.reduceLT, Int.reduceLE, Int.reduceEq, Int.reduceNe, Int.reduceBEq, IntKind.bits, bne_self_eq_false, Int.reducePow, g5, g0, g1, hlt', hlt2, hge, a1, a2, a3, b1, b2, b3, hxy, Nat.mul_one, hne]
    · have hlt' : ¬ (i : Int) < n := by omega
      have he : za = zb := List.ext_getElem? fun j => by
        rcases Nat.lt_or_ge j n with h | h
        · exact hp j (by omega)
        · rw [List.getElem?_eq_none (by omega), List.getElem?_eq_none (by omega)]
      simp only [sx, x_box, x_alloc, x_bslice, x_slice, x_append, x_appz, x_b2s, x_s2b, x_mark, xop, ev, evs, evParts, fillL, cellsL, Ai.get, Ai.put, stab, isNil?, if_false, if_true, addr?, int?, str?, agg?, bool?, shiftA, FnPost, xresL, xres1, tup, argEnv, ptr, Nat.reduceEqDiff, reduceIte, beq_self_eq_true, ne_eq, Nat.reduceAdd, Nat.reduceMul, Nat.reduceSub, abin_shl, abin_shr, load1V, loadV, storeV, cellsAt, getN, setN, allocV, lenL, lenS, bnd, oneC, Value.oneCell', Nat.reduceLeDiff, Nat.reduceLT, exists_eq_left', forall_const, reduceCtorEq, app_new, app_new0, List.append_assoc, Int.reduceToNat, Int.reduceLT, Int.reduceLE, Int.reduceEq, Int.reduceNe, Int.reduceBEq, IntKind.bits, bne_self_eq_false, Int.reducePow, g5, g0, g1, hlt', he]
  · have hne : ¬ za = zb := fun e => by rw [e] at la; omega
    simp only [X16, sx, x_box, x_alloc, x_bslice, x_slice, x_append, x_appz, x_b2s, x_s2b, x_mark, xop, ev, evs, evParts, fillL, cellsL, Ai.get, Ai.put, stab, isNil?, if_false, if_true, addr?, int?, str?, agg?, bool?, shiftA, FnPost, xresL, xres1, tup, argEnv, ptr, Nat.reduceEqDiff, reduceIte, beq_self_eq_true, ne_eq, Nat.reduceAdd, Nat.reduceMul, Nat.reduceSub, abin_shl, abin_shr, load1V, loadV, storeV, cellsAt, getN, setN, allocV, lenL, lenS, bnd, oneC, Value.oneCell', Nat.reduceLeDiff, Nat.reduceLT, exists_eq_left', forall_const, reduceCtorEq, app_new, app_new0, List.append_assoc, Int.reduceToNat, Int.reduceLT, Int.reduceLE, Int.reduceEq, Int.reduceNe, Int.reduceBEq, IntKind.bits, bne_self_eq_false, Int.reducePow, hnm, hne]


theorem bytes_ok {h : AHeap} {qa qb : Option Addr} {n m ca cb : Nat} {za zb : List Int} (ha : firstV 1 h n (.slice qa n ca) = some (bR za)) (hb : firstV 1 h m (.slice qb m cb) = some (bR zb)) (hn : n ≤ 1152921504606846976) (hca : ca = n) :
    Valid Tryd.prog 13 [.slice qa n ca, .slice qb m cb] h fun r h' => r = .int .i64 (if za = zb then 0 else 1) ∧ h' = h := by
  refine v13 (by simp) ?_
  subst hca
  have h1 : ca < unk := by unfold unk; omega
  simp only [X13, sx, x_box, x_alloc, x_bslice, x_slice, x_append, x_appz, x_b2s, x_s2b, x_mark, xop, ev, evs, evParts, fillL, cellsL, Ai.get, Ai.put, stab, isNil?, if_false, if_true, addr?, int?, str?, agg?, bool?, shiftA, FnPost, xresL, xres1, tup, argEnv, ptr, Nat.reduceEqDiff, reduceIte, beq_self_eq_true, ne_eq, Nat.reduceAdd, Nat.reduceMul, Nat.reduceSub, abin_shl, abin_shr, load1V, loadV, storeV, cellsAt, getN, setN, allocV, lenL, lenS, bnd, oneC, Value.oneCell', Nat.reduceLeDiff, Nat.reduceLT, exists_eq_left', forall_const, reduceCtorEq, app_new, app_new0, List.append_assoc, Int.reduceToNat, Int.reduceLT, Int.reduceLE, Int.reduceEq, Int.reduceNe, Int.reduceBEq, IntKind.bits, bne_self_eq_false, Int.reducePow, h1, Int.lt_irrefl]
  refine xcall (same_ok ha hb hn) (by rfl) (by rfl) (by rfl) (by rfl) ?_
  rintro r h' ⟨rfl, rfl⟩
  by_cases he : za = zb <;> simp [sx, x_box, x_alloc, x_bslice, x_slice, x_append, x_appz, x_b2s, x_s2b, x_mark, xop, ev, evs, evParts, fillL, cellsL, Ai.get, Ai.put, stab, isNil?, if_false, if_true, addr?, int?, str?, agg?, bool?, shiftA, FnPost, xresL, xres1, tup, argEnv, ptr, Nat.reduceEqDiff, reduceIte, beq_self_eq_true, ne_eq, Nat.reduceAdd, Nat.reduceMul, Nat.reduceSub, abin_shl, abin_shr, load1V, loadV, storeV, cellsAt, getN, setN, allocV, lenL, lenS, bnd, oneC, Value.oneCell', Nat.reduceLeDiff, Nat.reduceLT, exists_eq_left', forall_const, reduceCtorEq, app_new, app_new0, List.append_assoc, Int.reduceToNat, Int.reduceLT, Int.reduceLE, Int.reduceEq, Int.reduceNe, Int.reduceBEq, IntKind.bits, bne_self_eq_false, Int.reducePow, he]


def checkV (zs : List Int) : Int := if 1048576 < zs.length then 3 else if ∃ z ∈ zs, 1 < z then 1 else 0
theorem check_still {h : AHeap} {q : Option Addr} {n c : Nat} {zs : List Int} (hf : firstV 1 h n (.slice q n c) = some (bR zs)) (hn : n ≤ 1152921504606846976) :
    Valid Tryd.prog 42 [.slice q n c] h fun r h' => r = .int .i64 (checkV zs) ∧ h' = h := by
  refine v42 (by simp) ?_
  have hl := firstV_len hf
  rw [bR_len, Nat.mul_one] at hl
  unfold checkV
  rw [hl]
  by_cases hb : 1048576 < n
  · have hb' : (1048576 : Int) < n := by omega
    simp [X42, sx, x_box, x_alloc, x_bslice, x_slice, x_append, x_appz, x_b2s, x_s2b, x_mark, xop, ev, evs, evParts, fillL, cellsL, Ai.get, Ai.put, stab, isNil?, if_false, if_true, addr?, int?, str?, agg?, bool?, shiftA, FnPost, xresL, xres1, tup, argEnv, ptr, Nat.reduceEqDiff, reduceIte, beq_self_eq_true, ne_eq, Nat.reduceAdd, Nat.reduceMul, Nat.reduceSub, abin_shl, abin_shr, load1V, loadV, storeV, cellsAt, getN, setN, allocV, lenL, lenS, bnd, oneC, Value.oneCell', Nat.reduceLeDiff, Nat.reduceLT, exists_eq_left', forall_const, reduceCtorEq, app_new, app_new0, List.append_assoc, Int.reduceToNat, Int.reduceLT, Int.reduceLE, Int.reduceEq, Int.reduceNe, Int.reduceBEq, IntKind.bits, bne_self_eq_false, Int.reducePow, hb, hb']
  · have hb' : ¬ (1048576 : Int) < n := by omega
    simp only [X42, sx, x_box, x_alloc, x_bslice, x_slice, x_append, x_appz, x_b2s, x_s2b, x_mark, xop, ev, evs, evParts, fillL, cellsL, Ai.get, Ai.put, stab, isNil?, if_false, if_true, addr?, int?, str?, agg?, bool?, shiftA, FnPost, xresL, xres1, tup, argEnv, ptr, Nat.reduceEqDiff, reduceIte, beq_self_eq_true, ne_eq, Nat.reduceAdd, Nat.reduceMul, Nat.reduceSub, abin_shl, abin_shr, load1V, loadV, storeV, cellsAt, getN, setN, allocV, lenL, lenS, bnd, oneC, Value.oneCell', Nat.reduceLeDiff, Nat.reduceLT, exists_eq_left', forall_const, reduceCtorEq, app_new, app_new0, List.append_assoc, Int.reduceToNat, Int.reduceLT, Int.reduceLE, Int.reduceEq, Int.reduceNe, Int.reduceBEq, IntKind.bits, bne_self_eq_false, Int.reducePow, hb', hb]
    have hcl : ∀ i v, i < n → (bR zs)[i]? = some v → Valid Tryd.prog 51 (v :: (#[] : Array Value).toList) h fun r h' => r = .bool (decide (1 < zs.getD i 0)) ∧ h' = h := fun i v hi hv => by
      rw [bR_get] at hv
      obtain ⟨z, h5, rfl⟩ := Option.map_eq_some_iff.1 hv
      refine v51 (by simp) ?_
      have : zs.getD i 0 = z := by simp [List.getD_eq_getElem?_getD, h5]
      simp only [X51, sx, x_box, x_alloc, x_bslice, x_slice, x_append, x_appz, x_b2s, x_s2b, x_mark, xop, ev, evs, evParts, fillL, cellsL, Ai.get, Ai.put, stab, isNil?, if_false, if_true, addr?, int?, str?, agg?, bool?, shiftA, FnPost, xresL, xres1, tup, argEnv, ptr, Nat.reduceEqDiff, reduceIte, beq_self_eq_true, ne_eq, Nat.reduceAdd, Nat.reduceMul, Nat.reduceSub, abin_shl, abin_shr, load1V, loadV, storeV, cellsAt, getN, setN, allocV, lenL, lenS, bnd, oneC, Value.oneCell', Nat.reduceLeDiff, Nat.reduceLT, exists_eq_left', forall_const, reduceCtorEq, app_new, app_new0, List.append_assoc, Int.reduceToNat, Int.reduceLT, Int.reduceLE, Int.reduceEq, Int.reduceNe, Int.reduceBEq, IntKind.bits, bne_self_eq_false, Int.reducePow, this]
    refine xcall (contains_still v50 (index1_still v54 hn hf (fun i => decide (1 < zs.getD i 0)) hcl)) (by rfl) (by rfl) (by rfl) (by rfl) ?_
    rintro r h' ⟨rfl, rfl⟩
    have e : (∃ i, i < n ∧ decide (1 < zs.getD i 0) = true) ↔ ∃ z ∈ zs, 1 < z := by
      constructor
      · rintro ⟨i, hi, h1⟩
        refine ⟨zs[i]'(by omega), List.getElem_mem _, ?_⟩
        have : zs.getD i 0 = zs[i]'(by omega) := by simp [List.getD_eq_getElem?_getD, List.getElem?_eq_getElem (show i < zs.length by omega)]
        rw [this] at h1; simpa using h1
      · rintro ⟨z, hz, h1⟩
        obtain ⟨i, hi, rfl⟩ := List.mem_iff_getElem.1 hz
        exact ⟨i, by omega, by simp [List.getD_eq_getElem?_getD, hi, h1]⟩
    by_cases he : ∃ z ∈ zs, 1 < z
    · simp only [sx, x_box, x_alloc, x_bslice, x_slice, x_append, x_appz, x_b2s, x_s2b, x_mark, xop, ev, evs, evParts, fillL, cellsL, Ai.get, Ai.put, stab, isNil?, if_false, if_true, addr?, int?, str?, agg?, bool?, shiftA, FnPost, xresL, xres1, tup, argEnv, ptr, Nat.reduceEqDiff, reduceIte, beq_self_eq_true, ne_eq, Nat.reduceAdd, Nat.reduceMul, Nat.reduceSub, abin_shl, abin_shr, load1V, loadV, storeV, cellsAt, getN, setN, allocV, lenL, lenS, bnd, oneC, Value.oneCell', Nat.reduceLeDiff, Nat.reduceLT, exists_eq_left', forall_const, reduceCtorEq, app_new, app_new0, List.append_assoc, Int.reduceToNat, Int.reduceLT, Int.reduceLE, Int.reduceEq, Int.reduceNe, Int.reduceBEq, IntKind.bits, bne_self_eq_false, Int.reducePow, e, he]
    · simp only [sx, x_box, x_alloc, x_bslice, x_slice, x_append, x_appz, x_b2s, x_s2b, x_mark, xop, ev, evs, evParts, fillL, cellsL, Ai.get, Ai.put, stab, isNil?, if_false, if_true, addr?, int?, str?, agg?, bool?, shiftA, FnPost, xresL, xres1, tup, argEnv, ptr, Nat.reduceEqDiff, reduceIte, beq_self_eq_true, ne_eq, Nat.reduceAdd, Nat.reduceMul, Nat.reduceSub, abin_shl, abin_shr, load1V, loadV, storeV, cellsAt, getN, setN, allocV, lenL, lenS, bnd, oneC, Value.oneCell', Nat.reduceLeDiff, Nat.reduceLT, exists_eq_left', forall_const, reduceCtorEq, app_new, app_new0, List.append_assoc, Int.reduceToNat, Int.reduceLT, Int.reduceLE, Int.reduceEq, Int.reduceNe, Int.reduceBEq, IntKind.bits, bne_self_eq_false, Int.reducePow, e, he]
theorem check_ok {h : AHeap} {q : Option Addr} {n c : Nat} {zs : List Int} (hf : firstV 1 h n (.slice q n c) = some (bR zs)) (hn : n ≤ 1152921504606846976) :
    Valid Tryd.prog 42 [.slice q n c] h fun r h' => r = .int .i64 (checkV zs) ∧ ∃ J, h' = h ++ J :=
  (check_still hf hn).mono fun r h' k => ⟨k.1, [], by rw [k.2, List.append_nil]⟩

/-- a slice that is appended to: nil, or all of an array -/
def RN (h : AHeap) (sl : Value) (zs : List Int) : Prop := (sl = .slice none 0 0 ∧ zs = []) ∨ ∃ A, sl = .slice (some ⟨A, 0, none⟩) zs.length (unk + 1) ∧ h[A]? = some (some ⟨true, bR zs⟩)
theorem RN.ret {h : AHeap} {sl : Value} {zs : List Int} (r : RN h sl zs) : Ret 1 h sl zs.length (bR zs) := by
  rcases r with ⟨rfl, rfl⟩ | ⟨A, rfl, h1⟩
  · exact ⟨rfl, .inl ⟨rfl, rfl⟩⟩
  · exact ⟨by rw [bR_len, Nat.mul_one], .inr (.inr ⟨_, rfl, h1⟩)⟩
theorem RN.keep {h h' : AHeap} {sl : Value} {zs : List Int} (r : RN h sl zs) (hk : ∀ A x, slB sl = some A → h[A]? = some x → h'[A]? = some x) : RN h' sl zs := by
  rcases r with r | ⟨A, rfl, h1⟩
  · exact .inl r
  · exact .inr ⟨A, rfl, hk A _ rfl h1⟩
/-- appended to it -/
theorem RN.append {K : Env → AHeap → Prop} {r : List XOper} {ρ : Env} {h : AHeap} {zs news : List Int} {d : Option Nat} {s x : XA} {sl xv : Value} (R : RN h sl zs)
    (hs : ev ρ s = some sl) (hx : ev ρ x = some xv) (hl : lenV xv = some news.length) (hf : firstV 1 h news.length xv = some (bR news)) (hb : zs.length + news.length ≤ 1048576)
    (hK : ∀ sl' h', RN h' sl' (zs ++ news) → h.length ≤ h'.length → (∀ B, B < h.length → slB sl ≠ some B → h'[B]? = h[B]?) → (∀ A, slB sl' = some A → slB sl = some A ∨ (h.length ≤ A)) → (sl' = sl ∧ h' = h ∨ ∃ A, slB sl' = some A ∧ h.length ≤ A ∧ A < h'.length) → xops Tryd.prog K r (put d sl' ρ) h') :
    xops Tryd.prog K (⟨d, none, .append 1 1 [.int .u8 0] s x, []⟩ :: r) ρ h := by
  refine append_run (k := 1) (by_ := 1) (n := zs.length) (m := news.length) (rows := bR zs) (news := bR news) (sl := sl) (xv := xv) rfl (by decide) hs hx hl hf (by rw [bR_len, Nat.mul_one]) (bR_one _) R.ret.toO (by omega) (by omega) (fun h0 => ?_) (fun h0 h' A' hA' hg hl' hfr => ?_)
  · have : news = [] := List.eq_nil_of_length_eq_zero h0
    refine hK sl h (by rw [this, List.append_nil]; exact R) (Nat.le_refl _) (fun _ _ _ => rfl) (fun A hA => .inl hA) (.inl ⟨rfl, rfl⟩)
  · refine hK _ h' (.inr ⟨A', by rw [List.length_append], by rw [hg, bR_append]⟩) (by omega) hfr (fun A hA => ?_) (.inr ⟨A', rfl, hA', lt_of_get hg⟩)
    simp [slB] at hA; subst hA; exact .inr hA'


theorem checkV_stream {s : ByteArray} (hs : s.size ≤ 1048576) : checkV (streamOf s) = 0 := by
  unfold checkV
  rw [if_neg (by rw [streamOf_len]; omega), if_neg]
  rintro ⟨z, hz, h1⟩
  rcases streamOf_bit s z hz with rfl | rfl <;> omega
theorem stream_nonneg (s : ByteArray) : ∀ z ∈ streamOf s, 0 ≤ z := fun z hz => by rcases streamOf_bit s z hz with rfl | rfl <;> omega

theorem stream_first {h h' : AHeap} {s : ByteArray} (e : Ext (h ++ [some ⟨true, bR (streamOf s)⟩]) h') : firstV 1 h' s.size (.slice (some ⟨h.length, 0, none⟩) s.size s.size) = some (bR (streamOf s)) := by
  simp only [firstV]
  split
  · rename_i h0
    have : streamOf s = [] := List.eq_nil_of_length_eq_zero (by rw [streamOf_len]; exact h0)
    rw [this]; rfl
  · have hx : h'[h.length]? = some (some ⟨true, bR (streamOf s)⟩) := e.get (by rw [app_new0]; rfl)
    simp only [ne_eq, not_true_eq_false, if_false, cellsAt, hx, Option.bind_some]
    exact getN_all _ _ (by rw [bR_len, streamOf_len, Nat.mul_one])


theorem checkV_bits {zs : List Int} (h : checkV zs = 0) (hp : ∀ z ∈ zs, 0 ≤ z) : zs.length ≤ 1048576 ∧ ∀ z ∈ zs, z = 0 ∨ z = 1 := by
  unfold checkV at h
  split at h
  · cases h
  · split at h
    · cases h
    · rename_i h1 h2
      refine ⟨by omega, fun z hz => ?_⟩
      have h3 := hp z hz
      have h4 : ¬ 1 < z := fun h => h2 ⟨z, hz, h⟩
      omega


/-- bit k of a number; its lowest bits; the number of a list of bits -/
def bitN (v k : Nat) : Int := ((v / 2 ^ k % 2 : Nat) : Int)
def digs (v w : Nat) : List Int := (List.range w).map (bitN v)
def valN : List Int → Nat
  | [] => 0
  | z :: zs => z.toNat + 2 * valN zs
theorem digs_len (v w : Nat) : (digs v w).length = w := by simp [digs]
theorem digs_get {v w k : Nat} (h : k < w) : (digs v w)[k]'(by rw [digs_len]; exact h) = bitN v k := by simp [digs]
theorem bitN_bit (v k : Nat) : bitN v k = 0 ∨ bitN v k = 1 := by unfold bitN; omega
theorem digs_bit (v w : Nat) : ∀ z ∈ digs v w, z = 0 ∨ z = 1 := by
  intro z hz
  simp only [digs, List.mem_map] at hz
  obtain ⟨k, _, rfl⟩ := hz
  exact bitN_bit v k
theorem digs_succ (v w : Nat) : digs v (w + 1) = bitN v 0 :: digs (v / 2) w := by
  simp only [digs, List.range_succ_eq_map, List.map_cons, List.map_map]
  congr 1
  apply List.map_congr_left
  intro k _
  simp only [Function.comp, bitN, Nat.pow_succ', Nat.div_div_eq_div_mul]
theorem valN_digs : ∀ (w v : Nat), valN (digs v w) = v % 2 ^ w
  | 0, v => by simp [digs, valN, Nat.mod_one]
  | w + 1, v => by
    rw [digs_succ, valN, valN_digs w]
    simp only [bitN, Nat.pow_zero, Nat.div_one, Int.toNat_natCast]
    rw [Nat.pow_succ', Nat.mod_mul]
theorem valN_lt : ∀ {zs : List Int}, (∀ z ∈ zs, z = 0 ∨ z = 1) → valN zs < 2 ^ zs.length
  | [], _ => by simp [valN]
  | z :: zs, h => by
    have := valN_lt (zs := zs) fun z hz => h z (by simp [hz])
    have := h z (by simp)
    simp only [valN, List.length_cons, Nat.pow_succ]; omega
theorem digs_valN : ∀ {zs : List Int}, (∀ z ∈ zs, z = 0 ∨ z = 1) → digs (valN zs) zs.length = zs
  | [], _ => rfl
  | z :: zs, h => by
    have ih := digs_valN (zs := zs) fun z hz => h z (by simp [hz])
    have hz := h z (by simp)
    rw [List.length_cons, digs_succ]
    have e1 : bitN (valN (z :: zs)) 0 = z := by simp only [bitN, valN, Nat.pow_zero, Nat.div_one]; omega
    have e2 : valN (z :: zs) / 2 = valN zs := by simp only [valN]; omega
    rw [e1, e2, ih]
theorem valN_app : ∀ (a b : List Int), valN (a ++ b) = valN a + 2 ^ a.length * valN b
  | [], b => by simp [valN]
  | z :: a, b => by
    simp only [List.cons_append, valN, valN_app a b, List.length_cons, Nat.pow_succ, Nat.mul_add]
    have : 2 ^ a.length * 2 * valN b = 2 * (2 ^ a.length * valN b) := by rw [Nat.mul_comm (2 ^ a.length) 2, Nat.mul_assoc]
    omega
theorem take_snoc {α : Type} {zs : List α} {i : Nat} {z : α} (h : zs[i]? = some z) : zs.take (i + 1) = zs.take i ++ [z] := by rw [List.take_add_one, h]; rfl

theorem u64_wrap {n : Int} (h0 : 0 ≤ n) (h1 : n < 18446744073709551616) : IntKind.u64.wrap n = n := by
  show IntKind.wrap .u64 n = n
  unfold IntKind.wrap; simp [IntKind.bits, IntKind.signed]; omega
theorem u8_wrap {n : Int} (h0 : 0 ≤ n) (h1 : n < 256) : IntKind.u8.wrap n = n := by
  unfold IntKind.wrap; simp [IntKind.bits, IntKind.signed]; omega
theorem abin_shr64 (v k : Nat) (hk : k < 64) : abin .shr (.int .u64 (v : Int)) (.int .i64 (k : Int)) = some (.int .u64 ((v / 2 ^ k : Nat) : Int)) := by
  rw [abin_shr, if_neg (by omega)]
  congr 2
  rw [Int.toNat_natCast, show IntKind.u64.bits = 64 from rfl, Nat.min_eq_left (by omega)]
  rw [show ((2 : Int) ^ k) = ((2 ^ k : Nat) : Int) by simp, Int.natCast_ediv, Int.fdiv_eq_ediv_of_nonneg _ (Int.natCast_nonneg _)]
theorem and1_64 (x : Nat) : abin .and (.int .u64 (x : Int)) (.int .u64 1) = some (.int .u64 ((x % 2 : Nat) : Int)) := by
  rw [abin_and]
  congr 2
  have e : (BitVec.ofInt IntKind.u64.bits (x : Int) &&& BitVec.ofInt IntKind.u64.bits 1).toNat = x % 2 := by
    show (BitVec.ofInt 64 (x : Int) &&& BitVec.ofInt 64 1).toNat = x % 2
    rw [BitVec.toNat_and]
    have h1 : (BitVec.ofInt 64 1).toNat = 2 ^ 1 - 1 := rfl
    have h2 : (BitVec.ofInt 64 (x : Int)).toNat = x % 2 ^ 64 := by simp [BitVec.toNat_ofInt]
    rw [h1, h2, Nat.and_two_pow_sub_one_eq_mod]; omega
  rw [e]
  exact u64_wrap (by omega) (by omega)
theorem abin_shl64 (v k : Nat) (hk : k < 64) (hv : v * 2 ^ k < 2 ^ 64) : abin .shl (.int .u64 (v : Int)) (.int .i64 (k : Int)) = some (.int .u64 ((v * 2 ^ k : Nat) : Int)) := by
  rw [abin_shl, if_neg (by omega)]
  congr 2
  rw [Int.toNat_natCast, show IntKind.u64.bits = 64 from rfl, Nat.min_eq_left (by omega)]
  rw [show ((v : Int) * (2 : Int) ^ k) = ((v * 2 ^ k : Nat) : Int) by simp]
  exact u64_wrap (by omega) (by have : (2 : Nat) ^ 64 = 18446744073709551616 := rfl; omega)
theorem abin_or64 (v z k : Nat) (hv : v < 2 ^ k) (hz : z * 2 ^ k < 2 ^ 64) (hv2 : v < 2 ^ 64) : abin .or (.int .u64 (v : Int)) (.int .u64 ((z * 2 ^ k : Nat) : Int)) = some (.int .u64 ((v + 2 ^ k * z : Nat) : Int)) := by
  rw [abin_or]
  congr 2
  have h2 : ∀ x : Nat, (BitVec.ofInt 64 (x : Int)).toNat = x % 2 ^ 64 := fun x => by simp [BitVec.toNat_ofInt]
  have e : (BitVec.ofInt IntKind.u64.bits (v : Int) ||| BitVec.ofInt IntKind.u64.bits ((z * 2 ^ k : Nat) : Int)).toNat = v + 2 ^ k * z := by
    show (BitVec.ofInt 64 (v : Int) ||| BitVec.ofInt 64 ((z * 2 ^ k : Nat) : Int)).toNat = _
    rw [BitVec.toNat_or, h2, h2, Nat.mod_eq_of_lt hv2, Nat.mod_eq_of_lt hz, Nat.or_comm, Nat.mul_comm z, ← Nat.two_pow_add_eq_or_of_lt hv, Nat.add_comm]
  rw [e]
  have hlt : v + 2 ^ k * z < 2 ^ 64 := by
    rw [← e]; exact BitVec.isLt _
  exact u64_wrap (by omega) (by have : (2 : Nat) ^ 64 = 18446744073709551616 := rfl; omega)

theorem digits_ok {h : AHeap} {v w : Nat} (hw : w ≤ 64) : Valid Tryd.prog 48 [.int .u64 (v : Int), .int .i64 (w : Int)] h fun r h' => r = .slice (some ⟨h.length, 0, none⟩) w w ∧ h' = h ++ [some ⟨true, bR (digs v w)⟩] := by
  refine v48 (by simp) ?_
  have h1 : (w : Int) * 1 ≤ 140737488355328 := by omega
  have h2 : (w : Int) ≤ 9223372036854775807 := by omega
  have h3 : (0 : Int) ≤ w := by omega
  have hL := digs_len v w
  simp only [X48, sx, x_box, x_alloc, x_bslice, x_slice, x_append, x_appz, x_b2s, x_s2b, x_mark, xop, ev, evs, evParts, fillL, cellsL, Ai.get, Ai.put, stab, isNil?, if_false, if_true, addr?, int?, str?, agg?, bool?, shiftA, FnPost, xresL, xres1, tup, argEnv, ptr, Nat.reduceEqDiff, reduceIte, beq_self_eq_true, ne_eq, Nat.reduceAdd, Nat.reduceMul, Nat.reduceSub, abin_shl, abin_shr, load1V, loadV, storeV, cellsAt, getN, setN, allocV, lenL, lenS, bnd, oneC, Value.oneCell', Nat.reduceLeDiff, Nat.reduceLT, exists_eq_left', forall_const, reduceCtorEq, app_new, app_new0, List.append_assoc, Int.reduceToNat, Int.reduceLT, Int.reduceLE, Int.reduceEq, Int.reduceNe, Int.reduceBEq, IntKind.bits, bne_self_eq_false, Int.reducePow, h1, h2, h3, Int.le_refl, zeros_bR]
  refine xcode_loop (fun m ρ h' => ∃ i, i + m = w ∧ get ρ 10 = some (.int .i64 (i : Nat)) ∧ get ρ 9 = some (.int .i64 (w : Nat)) ∧ get ρ 0 = some (.int .u64 (v : Nat)) ∧ get ρ 5 = some (.slice (some ⟨h.length, 0, none⟩) w w) ∧ h' = h ++ [some ⟨true, bR (filled (digs v w) i w)⟩]) w
    ⟨0, by simp, rfl, rfl, rfl, rfl, by rw [filled_zero]⟩ ?_
  rintro m ρ h' ⟨i, him, g10, g9, g0, g5, rfl⟩
  by_cases hlt : i < w
  · have hlt' : (i : Int) < w := by omega
    have hge : (0 : Int) ≤ i := by omega
    have hwi : IntKind.i64.wrap ((i : Int) + 1) = ((i + 1 : Nat) : Int) := by rw [i64_wrap] <;> omega
    have hle : i + 1 ≤ (bR (filled (digs v w) i w)).length := by rw [bR_len, filled_len (by omega) hL]; omega
    have hc : IntKind.u8.wrap ((v / 2 ^ i % 2 : Nat) : Int) = ((v / 2 ^ i % 2 : Nat) : Int) := u8_wrap (by omega) (by omega)
    simp only [sx, x_box, x_alloc, x_bslice, x_slice, x_append, x_appz, x_b2s, x_s2b, x_mark, xop, ev, evs, evParts, fillL, cellsL, Ai.get, Ai.put, stab, isNil?, if_false, if_true, addr?, int?, str?, agg?, bool?, shiftA, FnPost, xresL, xres1, tup, argEnv, ptr, Nat.reduceEqDiff, reduceIte, beq_self_eq_true, ne_eq, Nat.reduceAdd, Nat.reduceMul, Nat.reduceSub, abin_shl, load1V, loadV, storeV, cellsAt, getN, setN, allocV, lenL, lenS, bnd, oneC, Value.oneCell', Nat.reduceLeDiff, Nat.reduceLT, exists_eq_left', forall_const, reduceCtorEq, app_new, app_new0, List.append_assoc, Int.reduceToNat, Int.reduceLT, Int.reduceLE, Int.reduceEq, Int.reduceNe, Int.reduceBEq, IntKind.bits, bne_self_eq_false, Int.reducePow, g10, g9, g0, g5, hlt', hge, abin_shr64 v i (by omega), and1_64, hc, Nat.mul_one, hle, bR_set, hwi]
    refine ⟨m - 1, by omega, i + 1, by omega, rfl, ?_⟩
    rw [← filled_set hlt hL, digs_get hlt]; rfl
  · have hlt' : ¬ (i : Int) < w := by omega
    have : i = w := by omega
    subst this
    simp only [sx, x_box, x_alloc, x_bslice, x_slice, x_append, x_appz, x_b2s, x_s2b, x_mark, xop, ev, evs, evParts, fillL, cellsL, Ai.get, Ai.put, stab, isNil?, if_false, if_true, addr?, int?, str?, agg?, bool?, shiftA, FnPost, xresL, xres1, tup, argEnv, ptr, Nat.reduceEqDiff, reduceIte, beq_self_eq_true, ne_eq, Nat.reduceAdd, Nat.reduceMul, Nat.reduceSub, abin_shl, abin_shr, load1V, loadV, storeV, cellsAt, getN, setN, allocV, lenL, lenS, bnd, oneC, Value.oneCell', Nat.reduceLeDiff, Nat.reduceLT, exists_eq_left', forall_const, reduceCtorEq, app_new, app_new0, List.append_assoc, Int.reduceToNat, Int.reduceLT, Int.reduceLE, Int.reduceEq, Int.reduceNe, Int.reduceBEq, IntKind.bits, bne_self_eq_false, Int.reducePow, g10, g9, g0, g5, hlt', filled_all hL]

theorem value_ok {h : AHeap} {q : Option Addr} {n c : Nat} {zs : List Int} (hf : firstV 1 h n (.slice q n c) = some (bR zs)) (hn : n ≤ 64) (hb : ∀ z ∈ zs, z = 0 ∨ z = 1) : Valid Tryd.prog 56 [.slice q n c] h fun r h' => r = .int .u64 ((valN zs : Nat) : Int) ∧ h' = h := by
  refine v56 (by simp) ?_
  have hzl := firstV_len hf
  rw [bR_len, Nat.mul_one] at hzl
  simp only [X56, sx, x_box, x_alloc, x_bslice, x_slice, x_append, x_appz, x_b2s, x_s2b, x_mark, xop, ev, evs, evParts, fillL, cellsL, Ai.get, Ai.put, stab, isNil?, if_false, if_true, addr?, int?, str?, agg?, bool?, shiftA, FnPost, xresL, xres1, tup, argEnv, ptr, Nat.reduceEqDiff, reduceIte, beq_self_eq_true, ne_eq, Nat.reduceAdd, Nat.reduceMul, Nat.reduceSub, abin_shl, abin_shr, load1V, loadV, storeV, cellsAt, getN, setN, allocV, lenL, lenS, bnd, oneC, Value.oneCell', Nat.reduceLeDiff, Nat.reduceLT, exists_eq_left', forall_const, reduceCtorEq, app_new, app_new0, List.append_assoc, Int.reduceToNat, Int.reduceLT, Int.reduceLE, Int.reduceEq, Int.reduceNe, Int.reduceBEq, IntKind.bits, bne_self_eq_false, Int.reducePow]
  refine xcode_loop (fun m ρ h' => ∃ i, i + m = n ∧ get ρ 8 = some (.int .i64 (i : Nat)) ∧ get ρ 7 = some (.int .i64 (n : Nat)) ∧ get ρ 6 = some (.slice q n c) ∧ get ρ 3 = some (.int .u64 ((valN (zs.take i) : Nat) : Int)) ∧ h' = h) n ⟨0, by simp, rfl, rfl, rfl, rfl, rfl⟩ ?_
  rintro m ρ h' ⟨i, him, g8, g7, g6, g3, rfl⟩
  by_cases hlt : i < n
  · have hlt' : (i : Int) < n := by omega
    have hge : (0 : Int) ≤ i := by omega
    have hwi : IntKind.i64.wrap ((i : Int) + 1) = ((i + 1 : Nat) : Int) := by rw [i64_wrap] <;> omega
    obtain ⟨a, o, z, rfl, a1, a2, a3, a4⟩ := elemB hf hlt
    have hz := hb z (List.mem_of_getElem? a4)
    obtain ⟨z, rfl⟩ : ∃ m : Nat, z = m := ⟨z.toNat, by omega⟩
    have hz1 : z ≤ 1 := by omega
    have hzw : IntKind.u64.wrap (z : Int) = (z : Int) := u64_wrap (by omega) (by omega)
    have htl : (zs.take i).length = i := by simp; omega
    have hlt2 := valN_lt (zs := zs.take i) fun z hz => hb z (List.mem_of_mem_take hz)
    rw [htl] at hlt2
    have h64 : 2 ^ i ≤ 2 ^ 63 := Nat.pow_le_pow_right (by omega) (by omega)
    have hzk : z * 2 ^ i < 2 ^ 64 := by
      have : z * 2 ^ i ≤ 1 * 2 ^ i := Nat.mul_le_mul_right _ hz1
      have : (2 : Nat) ^ 63 < 2 ^ 64 := by decide
      omega
    have hv2 : valN (zs.take i) < 2 ^ 64 := by
      have : (2 : Nat) ^ 63 < 2 ^ 64 := by decide
      omega
    simp only [sx, x_box, x_alloc, x_bslice, x_slice, x_append, x_appz, x_b2s, x_s2b, x_mark, xop, ev, evs, evParts, fillL, cellsL, Ai.get, Ai.put, stab, isNil?, if_false, if_true, addr?, int?, str?, agg?, bool?, shiftA, FnPost, xresL, xres1, tup, argEnv, ptr, Nat.reduceEqDiff, reduceIte, beq_self_eq_true, ne_eq, Nat.reduceAdd, Nat.reduceMul, Nat.reduceSub, abin_shr, load1V, loadV, storeV, cellsAt, getN, setN, allocV, lenL, lenS, bnd, oneC, Value.oneCell', Nat.reduceLeDiff, Nat.reduceLT, exists_eq_left', forall_const, reduceCtorEq, app_new, app_new0, List.append_assoc, Int.reduceToNat, Int.reduceLT, Int.reduceLE, Int.reduceEq, Int.reduceNe, Int.reduceBEq, IntKind.bits, bne_self_eq_false, Int.reducePow, g8, g7, g6, g3, hlt', hge, a1, a2, a3, Nat.mul_one, hzw, abin_shl64 z i (by omega) hzk, abin_or64 (valN (zs.take i)) z i hlt2 hzk hv2, hwi]
    refine ⟨m - 1, by omega, i + 1, by omega, rfl, ?_⟩
    rw [take_snoc a4, valN_app, htl]
    simp [valN]
  · have hlt' : ¬ (i : Int) < n := by omega
    have hin : zs.take i = zs := by rw [show i = zs.length by omega, List.take_length]
    rw [hin] at g3
    simp only [sx, x_box, x_alloc, x_bslice, x_slice, x_append, x_appz, x_b2s, x_s2b, x_mark, xop, ev, evs, evParts, fillL, cellsL, Ai.get, Ai.put, stab, isNil?, if_false, if_true, addr?, int?, str?, agg?, bool?, shiftA, FnPost, xresL, xres1, tup, argEnv, ptr, Nat.reduceEqDiff, reduceIte, beq_self_eq_true, ne_eq, Nat.reduceAdd, Nat.reduceMul, Nat.reduceSub, abin_shl, abin_shr, load1V, loadV, storeV, cellsAt, getN, setN, allocV, lenL, lenS, bnd, oneC, Value.oneCell', Nat.reduceLeDiff, Nat.reduceLT, exists_eq_left', forall_const, reduceCtorEq, app_new, app_new0, List.append_assoc, Int.reduceToNat, Int.reduceLT, Int.reduceLE, Int.reduceEq, Int.reduceNe, Int.reduceBEq, IntKind.bits, bne_self_eq_false, Int.reducePow, g8, g7, g6, g3, hlt']

theorem bit_ok {h : AHeap} {v k : Nat} (hv : v < 2 ^ 64) (hk : k ≤ 1048576) : Valid Tryd.prog 46 [.int .u64 (v : Int), .int .i64 (k : Int)] h fun r h' => r = .int .u8 (bitN v k) ∧ h' = h := by
  refine v46 (by simp) ?_
  simp only [X46, sx, x_box, x_alloc, x_bslice, x_slice, x_append, x_appz, x_b2s, x_s2b, x_mark, xop, ev, evs, evParts, fillL, cellsL, Ai.get, Ai.put, stab, isNil?, if_false, if_true, addr?, int?, str?, agg?, bool?, shiftA, FnPost, xresL, xres1, tup, argEnv, ptr, Nat.reduceEqDiff, reduceIte, beq_self_eq_true, ne_eq, Nat.reduceAdd, Nat.reduceMul, Nat.reduceSub, abin_shl, abin_shr, load1V, loadV, storeV, cellsAt, getN, setN, allocV, lenL, lenS, bnd, oneC, Value.oneCell', Nat.reduceLeDiff, Nat.reduceLT, exists_eq_left', forall_const, reduceCtorEq, app_new, app_new0, List.append_assoc, Int.reduceToNat, Int.reduceLT, Int.reduceLE, Int.reduceEq, Int.reduceNe, Int.reduceBEq, IntKind.bits, bne_self_eq_false, Int.reducePow]
  refine xcode_loop (fun m ρ h' => ∃ i, i + m = k ∧ get ρ 5 = some (.int .i64 (i : Nat)) ∧ get ρ 1 = some (.int .i64 (k : Nat)) ∧ get ρ 0 = some (.int .u64 ((v / 2 ^ i : Nat) : Int)) ∧ h' = h) k ⟨0, by simp, rfl, rfl, by simp [Ai.get], rfl⟩ ?_
  rintro m ρ h' ⟨i, him, g5, g1, g0, rfl⟩
  have h2 : ¬ (2 : Int) = 0 := by decide
  by_cases hlt : i < k
  · have hlt' : (i : Int) < k := by omega
    have hwi : IntKind.i64.wrap ((i : Int) + 1) = ((i + 1 : Nat) : Int) := by rw [i64_wrap] <;> omega
    have hq : IntKind.u64.wrap (((v / 2 ^ i : Nat) : Int).tdiv 2) = ((v / 2 ^ (i + 1) : Nat) : Int) := by
      have e : ((v / 2 ^ i : Nat) : Int).tdiv 2 = ((v / 2 ^ i / 2 : Nat) : Int) := by rw [Int.tdiv_eq_ediv_of_nonneg (Int.natCast_nonneg _)]; omega
      have e2 : v / 2 ^ i / 2 = v / 2 ^ (i + 1) := by rw [Nat.div_div_eq_div_mul, Nat.pow_succ]
      rw [e, e2]
      have h1 := Nat.div_le_self v (2 ^ (i + 1))
      have h3 : (2 : Nat) ^ 64 = 18446744073709551616 := rfl
      exact u64_wrap (Int.natCast_nonneg _) (by omega)
    simp only [sx, x_box, x_alloc, x_bslice, x_slice, x_append, x_appz, x_b2s, x_s2b, x_mark, xop, ev, evs, evParts, fillL, cellsL, Ai.get, Ai.put, stab, isNil?, if_false, if_true, addr?, int?, str?, agg?, bool?, shiftA, FnPost, xresL, xres1, tup, argEnv, ptr, Nat.reduceEqDiff, reduceIte, beq_self_eq_true, ne_eq, Nat.reduceAdd, Nat.reduceMul, Nat.reduceSub, abin_shl, abin_shr, load1V, loadV, storeV, cellsAt, getN, setN, allocV, lenL, lenS, bnd, oneC, Value.oneCell', Nat.reduceLeDiff, Nat.reduceLT, exists_eq_left', forall_const, reduceCtorEq, app_new, app_new0, List.append_assoc, Int.reduceToNat, Int.reduceLT, Int.reduceLE, Int.reduceEq, Int.reduceNe, Int.reduceBEq, IntKind.bits, bne_self_eq_false, Int.reducePow, g5, g1, g0, hlt', h2, hq, hwi]
    exact ⟨m - 1, by omega, i + 1, by omega, rfl, rfl⟩
  · have hlt' : ¬ (i : Int) < k := by omega
    have : i = k := by omega
    subst this
    have hr : IntKind.u8.wrap (((v / 2 ^ i : Nat) : Int).tmod 2) = bitN v i := by
      have e : ((v / 2 ^ i : Nat) : Int).tmod 2 = ((v / 2 ^ i % 2 : Nat) : Int) := by rw [Int.tmod_eq_emod_of_nonneg (Int.natCast_nonneg _)]; omega
      rw [e]
      exact u8_wrap (by omega) (by omega)
    simp only [sx, x_box, x_alloc, x_bslice, x_slice, x_append, x_appz, x_b2s, x_s2b, x_mark, xop, ev, evs, evParts, fillL, cellsL, Ai.get, Ai.put, stab, isNil?, if_false, if_true, addr?, int?, str?, agg?, bool?, shiftA, FnPost, xresL, xres1, tup, argEnv, ptr, Nat.reduceEqDiff, reduceIte, beq_self_eq_true, ne_eq, Nat.reduceAdd, Nat.reduceMul, Nat.reduceSub, abin_shl, abin_shr, load1V, loadV, storeV, cellsAt, getN, setN, allocV, lenL, lenS, bnd, oneC, Value.oneCell', Nat.reduceLeDiff, Nat.reduceLT, exists_eq_left', forall_const, reduceCtorEq, app_new, app_new0, List.append_assoc, Int.reduceToNat, Int.reduceLT, Int.reduceLE, Int.reduceEq, Int.reduceNe, Int.reduceBEq, IntKind.bits, bne_self_eq_false, Int.reducePow, g5, g1, g0, hlt', h2, hr]

theorem rvalue_ok {h : AHeap} {q : Option Addr} {n c : Nat} {zs : List Int} (hf : firstV 1 h n (.slice q n c) = some (bR zs)) (hn : n ≤ 64) (hb : ∀ z ∈ zs, z = 0 ∨ z = 1) : Valid Tryd.prog 49 [.slice q n c] h fun r h' => r = .int .u64 ((valN zs : Nat) : Int) ∧ h' = h := by
  refine v49 (by simp) ?_
  have hzl := firstV_len hf
  rw [bR_len, Nat.mul_one] at hzl
  have hw0 : IntKind.i64.wrap ((n : Int) - 1) = (n : Int) - 1 := i64_wrap (by omega) (by omega)
  simp only [X49, sx, x_box, x_alloc, x_bslice, x_slice, x_append, x_appz, x_b2s, x_s2b, x_mark, xop, ev, evs, evParts, fillL, cellsL, Ai.get, Ai.put, stab, isNil?, if_false, if_true, addr?, int?, str?, agg?, bool?, shiftA, FnPost, xresL, xres1, tup, argEnv, ptr, Nat.reduceEqDiff, reduceIte, beq_self_eq_true, ne_eq, Nat.reduceAdd, Nat.reduceMul, Nat.reduceSub, abin_shl, abin_shr, load1V, loadV, storeV, cellsAt, getN, setN, allocV, lenL, lenS, bnd, oneC, Value.oneCell', Nat.reduceLeDiff, Nat.reduceLT, exists_eq_left', forall_const, reduceCtorEq, app_new, app_new0, List.append_assoc, Int.reduceToNat, Int.reduceLT, Int.reduceLE, Int.reduceEq, Int.reduceNe, Int.reduceBEq, IntKind.bits, bne_self_eq_false, Int.reducePow, hw0]
  refine xcode_loop (fun m ρ h' => m ≤ n ∧ get ρ 4 = some (.int .i64 ((m : Int) - 1)) ∧ get ρ 0 = some (.slice q n c) ∧ get ρ 3 = some (.int .u64 ((valN (zs.drop m) : Nat) : Int)) ∧ h' = h) n ⟨by omega, rfl, rfl, by rw [List.drop_of_length_le (by omega)]; rfl, rfl⟩ ?_
  rintro i ρ h' ⟨hin, g4, g0, g3, rfl⟩
  cases i with
  | succ i =>
    have hge : (0 : Int) ≤ ((i + 1 : Nat) : Int) - 1 := by omega
    have hlt' : (((i + 1 : Nat) : Int) - 1) < n := by omega
    have e : ((i + 1 : Nat) : Int) - 1 = (i : Nat) := by omega
    obtain ⟨a, o, z, rfl, a1, a2, a3, a4⟩ := elemB hf (show i < n by omega)
    have hz := hb z (List.mem_of_getElem? a4)
    obtain ⟨z, rfl⟩ : ∃ m : Nat, z = m := ⟨z.toNat, by omega⟩
    have hzw : IntKind.u64.wrap (z : Int) = (z : Int) := u64_wrap (by omega) (by omega)
    have hd : zs.drop i = (z : Int) :: zs.drop (i + 1) := by
      have hi : i < zs.length := by omega
      rw [List.drop_eq_getElem_cons hi]
      congr 1
      exact (List.getElem?_eq_some_iff.1 a4).2
    have hlt2 := valN_lt (zs := zs.drop i) fun z hz => hb z (List.mem_of_mem_drop hz)
    have hv : valN (zs.drop i) = z + 2 * valN (zs.drop (i + 1)) := by rw [hd]; simp [valN]
    have h64 : valN (zs.drop i) < 2 ^ 64 := Nat.lt_of_lt_of_le hlt2 (Nat.pow_le_pow_right (by omega) (by simp; omega))
    have h64' : (2 : Nat) ^ 64 = 18446744073709551616 := rfl
    have hm : IntKind.u64.wrap (2 * ((valN (zs.drop (i + 1)) : Nat) : Int)) = ((2 * valN (zs.drop (i + 1)) : Nat) : Int) := by rw [u64_wrap] <;> omega
    have ha : IntKind.u64.wrap (((2 * valN (zs.drop (i + 1)) : Nat) : Int) + (z : Int)) = ((valN (zs.drop i) : Nat) : Int) := by rw [u64_wrap] <;> omega
    have hwi : IntKind.i64.wrap ((i : Int) - 1) = (i : Int) - 1 := i64_wrap (by omega) (by omega)
    have hge2 : (0 : Int) ≤ i := by omega
    have hlt3 : (i : Int) < n := by omega
    rw [e] at g4
    simp only [sx, x_box, x_alloc, x_bslice, x_slice, x_append, x_appz, x_b2s, x_s2b, x_mark, xop, ev, evs, evParts, fillL, cellsL, Ai.get, Ai.put, stab, isNil?, if_false, if_true, addr?, int?, str?, agg?, bool?, shiftA, FnPost, xresL, xres1, tup, argEnv, ptr, Nat.reduceEqDiff, reduceIte, beq_self_eq_true, ne_eq, Nat.reduceAdd, Nat.reduceMul, Nat.reduceSub, abin_shl, abin_shr, load1V, loadV, storeV, cellsAt, getN, setN, allocV, lenL, lenS, bnd, oneC, Value.oneCell', Nat.reduceLeDiff, Nat.reduceLT, exists_eq_left', forall_const, reduceCtorEq, app_new, app_new0, List.append_assoc, Int.reduceToNat, Int.reduceLT, Int.reduceLE, Int.reduceEq, Int.reduceNe, Int.reduceBEq, IntKind.bits, bne_self_eq_false, Int.reducePow, g4, g0, g3, hge2, hlt3, a1, a2, a3, Nat.mul_one, hzw, hm, ha, hwi]
    exact ⟨i, by omega, by omega, rfl, rfl⟩
  | zero =>
    have hge : ¬ (0 : Int) ≤ 0 - 1 := by decide
    rw [List.drop_zero] at g3
    simp only [sx, x_box, x_alloc, x_bslice, x_slice, x_append, x_appz, x_b2s, x_s2b, x_mark, xop, ev, evs, evParts, fillL, cellsL, Ai.get, Ai.put, stab, isNil?, if_false, if_true, addr?, int?, str?, agg?, bool?, shiftA, FnPost, xresL, xres1, tup, argEnv, ptr, Nat.reduceEqDiff, reduceIte, beq_self_eq_true, ne_eq, Nat.reduceAdd, Nat.reduceMul, Nat.reduceSub, abin_shl, abin_shr, load1V, loadV, storeV, cellsAt, getN, setN, allocV, lenL, lenS, bnd, oneC, Value.oneCell', Nat.reduceLeDiff, Nat.reduceLT, exists_eq_left', forall_const, reduceCtorEq, app_new, app_new0, List.append_assoc, Int.reduceToNat, Int.reduceLT, Int.reduceLE, Int.reduceEq, Int.reduceNe, Int.reduceBEq, IntKind.bits, bne_self_eq_false, Int.reducePow, g4, g0, g3, hge]

/-- the bits of octets; the octets of bits -/
def ofL (zs : List Int) : List Int := zs.flatMap fun z => digs z.toNat 8
theorem ofL_len (zs : List Int) : (ofL zs).length = 8 * zs.length := by
  induction zs with
  | nil => rfl
  | cons z zs ih => simp only [ofL, List.flatMap_cons, List.length_append, digs_len, List.length_cons] at ih ⊢; omega
theorem ofL_snoc {zs : List Int} {i : Nat} {z : Int} (h : zs[i]? = some z) : ofL (zs.take (i + 1)) = ofL (zs.take i) ++ digs z.toNat 8 := by
  unfold ofL; rw [take_snoc h, List.flatMap_append]; simp
theorem ofL_app (a b : List Int) : ofL (a ++ b) = ofL a ++ ofL b := by simp [ofL]
theorem ofL_bit (zs : List Int) : ∀ z ∈ ofL zs, z = 0 ∨ z = 1 := by
  intro z hz
  simp only [ofL, List.mem_flatMap] at hz
  obtain ⟨x, _, hx⟩ := hz
  exact digs_bit _ _ z hx
def grp (zs : List Int) (i : Nat) : List Int := (zs.drop (8 * i)).take 8
def octs (zs : List Int) : List Int := (List.range (zs.length / 8)).map fun i => ((valN (grp zs i) : Nat) : Int)
theorem octs_len (zs : List Int) : (octs zs).length = zs.length / 8 := by simp [octs]
theorem octs_get {zs : List Int} {i : Nat} (h : i < zs.length / 8) : (octs zs)[i]'(by rw [octs_len]; exact h) = ((valN (grp zs i) : Nat) : Int) := by simp [octs]
theorem grp_len {zs : List Int} {i : Nat} (h : i < zs.length / 8) : (grp zs i).length = 8 := by simp [grp]; omega
theorem grp_bit {zs : List Int} (hb : ∀ z ∈ zs, z = 0 ∨ z = 1) (i : Nat) : ∀ z ∈ grp zs i, z = 0 ∨ z = 1 := fun z hz => hb z (List.mem_of_mem_drop (List.mem_of_mem_take hz))
theorem octs_byte {zs : List Int} (hb : ∀ z ∈ zs, z = 0 ∨ z = 1) : ∀ z ∈ octs zs, 0 ≤ z ∧ z ≤ 255 := by
  intro z hz
  simp only [octs, List.mem_map, List.mem_range] at hz
  obtain ⟨i, hi, rfl⟩ := hz
  have := valN_lt (grp_bit hb i)
  rw [grp_len hi] at this
  omega

/-- a part of a slice -/
theorem firstV_part {n c c2 : Nat} {h : AHeap} {a : Addr} {zs : List Int} (hf : firstV 1 h n (.slice (some a) n c) = some (bR zs)) {lo len : Nat} (hl : lo + len ≤ n) : firstV 1 h len (.slice (some ⟨a.block, a.off + lo, none⟩) len c2) = some (bR ((zs.drop lo).take len)) := by
  simp only [firstV] at hf ⊢
  by_cases h0 : len = 0
  · rw [if_pos h0, h0]; rfl
  · rw [if_neg h0]
    rw [if_neg (by omega)] at hf
    split at hf
    · cases hf
    · rename_i h1
      simp only [ne_eq, not_true_eq_false, if_false]
      obtain ⟨cs, h2, h3⟩ := Option.bind_eq_some_iff.1 hf
      rw [h2]
      obtain ⟨h4, h5⟩ := (getN_eq _ _ _ _).1 h3
      refine (getN_eq _ _ _ _).2 ⟨by split at h4 <;> split <;> omega, ?_⟩
      rw [Nat.mul_one] at h5 ⊢
      rw [← List.drop_drop, ← bR_take]
      have e : bR (zs.drop lo) = (bR zs).drop lo := by simp [bR, List.map_drop]
      rw [e, h5, List.drop_take, List.take_take]
      congr 1; omega

/-- a part of a slice is taken -/
theorem part_run {P : Program} {K : Env → AHeap → Prop} {r : List XOper} {ρ : Env} {h : AHeap} {d : Option Nat} {x lo hi : XA} {q : Option Addr} {n c l u : Nat} {zs : List Int}
    (hx : ev ρ x = some (.slice q n c)) (hlo : ev ρ lo = some (.int .i64 (l : Int))) (hhi : ev ρ hi = some (.int .i64 (u : Int))) (hl : l ≤ u) (hu : u ≤ n) (hf : firstV 1 h n (.slice q n c) = some (bR zs))
    (hcap : (n ≤ c ∧ c < unk) ∨ (c = unk + 1 ∧ q ≠ none)) (hsp : ∀ a, q = some a → a.spot = none)
    (hK : ∀ q' c', firstV 1 h (u - l) (.slice q' (u - l) c') = some (bR ((zs.drop l).take (u - l))) → xops P K r (put d (.slice q' (u - l) c') ρ) h) : xops P K (⟨d, none, .slice 1 x (some lo) (some hi) none, []⟩ :: r) ρ h := by
  rw [x_slice]
  have b1 : ∀ top, u ≤ top → bnd ρ (some hi) n top = some u := fun top ht => by simp [bnd, hhi, int?]; omega
  have b2 : bnd ρ (some lo) 0 u = some l := by simp [bnd, hlo, int?]; omega
  have b3 : bnd ρ none c c = some c := rfl
  simp only [xop, hx, Option.bind_some]
  rcases hcap with ⟨h1, h2⟩ | ⟨rfl, h2⟩
  · rw [if_neg (by omega)]
    simp only [b3, b1 c (by omega), b2, Option.bind_some, Option.isSome_none, Bool.false_eq_true, false_and, if_false, xthen_some, stab, true_and]
    cases q with
    | none =>
      simp only [firstV] at hf
      by_cases h0 : n = 0
      · have hul : u - l = 0 := by omega
        simp only [xthen_some, stab, true_and]
        have := hK none (c - l) (by simp only [firstV]; rw [if_pos hul, hul]; rfl)
        exact this
      · rw [if_neg h0] at hf; cases hf
    | some a =>
      have hs := hsp a rfl
      simp only [hs, ne_eq, not_true_eq_false, if_false, xthen_some, stab, true_and, Nat.mul_one]
      refine hK _ _ ?_
      by_cases hcl : c = l
      · have hul : u - l = 0 := by omega
        simp only [firstV]; rw [if_pos hul, hul]; rfl
      · rw [if_neg hcl]
        exact firstV_part hf (by omega)
  · rw [if_pos (by omega)]
    simp only [Option.isSome_none, Bool.false_eq_true, if_false, b1 n hu, b2, Option.bind_some]
    cases q with
    | none => exact absurd rfl h2
    | some a =>
      have hs := hsp a rfl
      simp only [hs, ne_eq, not_true_eq_false, or_self, if_false, xthen_some, stab, true_and, Nat.mul_one]
      exact hK _ _ (firstV_part hf (by omega))

theorem set_self {h : AHeap} {X : Nat} {x : Option AObj} (hX : h[X]? = some x) : h.set X x = h := by
  apply List.ext_getElem?
  intro i
  by_cases hi : X = i
  · subst hi; rw [set_same hX, hX]
  · rw [set_ne hi]
/-- appended where there is room -/
theorem append_room {P : Program} {by_ : Nat} {z : List Value} (hz : z.length = 1) {K : Env → AHeap → Prop} {r : List XOper} {ρ : Env} {h : AHeap} {R n m c : Nat} {zs news : List Int} {d : Option Nat} {s x : XA} {xv : Value}
    (hs : ev ρ s = some (.slice (some ⟨R, 0, none⟩) n c)) (hx : ev ρ x = some xv) (hl : lenV xv = some m) (hf : firstV 1 h m xv = some (bR news)) (hnl : news.length = m) (hR : h[R]? = some (some ⟨true, bR zs⟩))
    (hc : c < unk) (hroom : n + m ≤ c) (hzl : c ≤ zs.length) (hb : (n + m) * by_ ≤ 140737488355328) (hb2 : n + m ≤ 9223372036854775807)
    (hK : xops P K r (put d (.slice (some ⟨R, 0, none⟩) (n + m) c) ρ) (h.set R (some ⟨true, bR (zs.take n ++ news ++ zs.drop (n + m))⟩))) : xops P K (⟨d, none, .append 1 by_ z s x, []⟩ :: r) ρ h := by
  have hu : ¬ unk ≤ c := by omega
  rw [x_append]
  simp only [xop, hs, hx, Option.bind_some, hl, hf, hz, Nat.lt_add_one, and_self, if_true, appendV, ne_eq, not_true_eq_false, if_false]
  by_cases hm : m = 0
  · subst hm
    have : news = [] := List.eq_nil_of_length_eq_zero hnl
    subst this
    rw [if_pos rfl, if_pos (by omega)]
    simp only [xthen_some, stab, true_and]
    rw [List.append_nil, Nat.add_zero, List.take_append_drop, set_self hR] at hK
    exact hK
  · rw [if_neg hm, if_neg (by omega), if_neg hu, if_pos hroom]
    simp only [hR]
    have h1 : 0 + n * 1 + (bR news).length ≤ (bR zs).length := by simp only [bR_len]; omega
    have h2 : setN (bR zs) (0 + n * 1) (bR news) = bR (zs.take n ++ news ++ zs.drop (n + m)) := by
      rw [setN_eq _ _ _ h1]
      simp only [bR, List.map_append, List.map_take, List.map_drop, List.length_map, Nat.zero_add, Nat.mul_one, hnl, List.append_assoc]
    rw [if_pos ⟨trivial, bR_one _, h1⟩, h2]
    simp only [xthen_some, stab, true_and]
    exact hK

set_option maxHeartbeats 1000000 in
theorem of_ok {h : AHeap} {q : Option Addr} {n c : Nat} {zs : List Int} (hf : firstV 1 h n (.slice q n c) = some (bR zs)) (hn : n ≤ 1048576) (hb : ∀ z ∈ zs, 0 ≤ z ∧ z ≤ 255) :
    Valid Tryd.prog 35 [.slice q n c] h fun r h' => ∃ R, r = .slice (some ⟨R, 0, none⟩) (8 * n) (8 * n) ∧ h.length ≤ R ∧ R < h'.length ∧ Ext h h' ∧ h'[R]? = some (some ⟨true, bR (ofL zs)⟩) := by
  refine v35 (by simp) ?_
  have hzl := firstV_len hf
  rw [bR_len, Nat.mul_one] at hzl
  have hw0 : IntKind.i64.wrap (8 * (n : Int)) = ((8 * n : Nat) : Int) := by rw [i64_wrap] <;> omega
  have h1 : ((8 * n : Nat) : Int) * 1 ≤ 140737488355328 := by omega
  have h2 : ((8 * n : Nat) : Int) ≤ 9223372036854775807 := by omega
  have h3 : (0 : Int) ≤ ((8 * n : Nat) : Int) := by omega
  simp only [X35, sx, x_box, x_alloc, x_bslice, x_slice, x_append, x_appz, x_b2s, x_s2b, x_mark, xop, ev, evs, evParts, fillL, cellsL, Ai.get, Ai.put, stab, isNil?, if_false, if_true, addr?, int?, str?, agg?, bool?, shiftA, FnPost, xresL, xres1, tup, argEnv, ptr, Nat.reduceEqDiff, reduceIte, beq_self_eq_true, ne_eq, Nat.reduceAdd, Nat.reduceMul, Nat.reduceSub, abin_shl, abin_shr, load1V, loadV, storeV, cellsAt, getN, setN, allocV, lenL, lenS, bnd, oneC, Value.oneCell', Nat.reduceLeDiff, Nat.reduceLT, exists_eq_left', forall_const, reduceCtorEq, app_new, app_new0, List.append_assoc, Int.reduceToNat, Int.reduceLT, Int.reduceLE, Int.reduceEq, Int.reduceNe, Int.reduceBEq, IntKind.bits, bne_self_eq_false, Int.reducePow, hw0, h1, h2, h3, Int.le_refl, zeros_bR]
  refine xcode_loop (fun m ρ h' => ∃ i, i + m = n ∧ get ρ 12 = some (.int .i64 (i : Nat)) ∧ get ρ 11 = some (.int .i64 (n : Nat)) ∧ get ρ 10 = some (.slice q n c) ∧ get ρ 3 = some (.slice (some ⟨h.length, 0, none⟩) (8 * i) (8 * n)) ∧ Ext h h' ∧
    h'[h.length]? = some (some ⟨true, bR (ofL (zs.take i) ++ List.replicate (8 * n - 8 * i) 0)⟩)) n ⟨0, by simp, rfl, rfl, rfl, rfl, Ext.app _ _, by rw [app_new0]; simp [ofL]⟩ ?_
  rintro m ρ h' ⟨i, him, g12, g11, g10, g3, E, hR⟩
  by_cases hlt : i < n
  · have hlt' : (i : Int) < n := by omega
    have hge : (0 : Int) ≤ i := by omega
    have hwi : IntKind.i64.wrap ((i : Int) + 1) = ((i + 1 : Nat) : Int) := by rw [i64_wrap] <;> omega
    obtain ⟨a, o, z, rfl, a1, a2, a3, a4⟩ := elemB (E.first hf) hlt
    have hz := hb z (List.mem_of_getElem? a4)
    have hsn := ofL_snoc a4
    obtain ⟨z, rfl⟩ : ∃ m : Nat, z = m := ⟨z.toNat, by omega⟩
    rw [Int.toNat_natCast] at hsn
    have hzw : IntKind.u64.wrap (z : Int) = (z : Int) := u64_wrap (by omega) (by omega)
    simp only [sx, x_box, x_alloc, x_bslice, x_slice, x_append, x_appz, x_b2s, x_s2b, x_mark, xop, ev, evs, evParts, fillL, cellsL, Ai.get, Ai.put, stab, isNil?, if_false, if_true, addr?, int?, str?, agg?, bool?, shiftA, FnPost, xresL, xres1, tup, argEnv, ptr, Nat.reduceEqDiff, reduceIte, beq_self_eq_true, ne_eq, Nat.reduceAdd, Nat.reduceMul, Nat.reduceSub, abin_shl, abin_shr, load1V, loadV, storeV, cellsAt, getN, setN, allocV, lenL, lenS, bnd, oneC, Value.oneCell', Nat.reduceLeDiff, Nat.reduceLT, exists_eq_left', forall_const, reduceCtorEq, app_new, app_new0, List.append_assoc, Int.reduceToNat, Int.reduceLT, Int.reduceLE, Int.reduceEq, Int.reduceNe, Int.reduceBEq, IntKind.bits, bne_self_eq_false, Int.reducePow, g12, g11, g10, g3, hlt', hge, a1, a2, a3, Nat.mul_one, hzw]
    refine xcall (digits_ok (v := z) (w := 8) (by omega)) (by rfl) (by rfl) (by rfl) (by rfl) ?_
    rintro r h2 ⟨rfl, rfl⟩
    have hRl := lt_of_get hR
    have hR2 : (h' ++ [some ⟨true, bR (digs z 8)⟩])[h.length]? = some (some ⟨true, bR (ofL (zs.take i) ++ List.replicate (8 * n - 8 * i) 0)⟩) := by rw [List.getElem?_append_left hRl]; exact hR
    have hlen : (ofL (zs.take i)).length = 8 * i := by rw [ofL_len]; simp; omega
    have hfd : firstV 1 (h' ++ [some ⟨true, bR (digs z 8)⟩]) 8 (.slice (some ⟨h'.length, 0, none⟩) 8 8) = some (bR (digs z 8)) := by
      simp only [firstV, cellsAt, app_new0]
      simp
      exact getN_all _ _ (by rw [bR_len, digs_len])
    simp only [sx, x_box, x_alloc, x_bslice, x_slice, x_appz, x_b2s, x_s2b, x_mark, xop, ev, evs, evParts, fillL, cellsL, Ai.get, Ai.put, stab, isNil?, if_false, if_true, addr?, int?, str?, agg?, bool?, shiftA, FnPost, xresL, xres1, tup, argEnv, ptr, Nat.reduceEqDiff, reduceIte, beq_self_eq_true, ne_eq, Nat.reduceAdd, Nat.reduceMul, Nat.reduceSub, abin_shl, abin_shr, load1V, loadV, storeV, cellsAt, getN, setN, allocV, lenL, lenS, bnd, oneC, Value.oneCell', Nat.reduceLeDiff, Nat.reduceLT, exists_eq_left', forall_const, reduceCtorEq, app_new, app_new0, List.append_assoc, Int.reduceToNat, Int.reduceLT, Int.reduceLE, Int.reduceEq, Int.reduceNe, Int.reduceBEq, IntKind.bits, bne_self_eq_false, Int.reducePow, g12, g11, g10, g3]
    refine append_room (R := h.length) (n := 8 * i) (m := 8) (c := 8 * n) (zs := ofL (zs.take i) ++ List.replicate (8 * n - 8 * i) 0) (news := digs z 8) rfl rfl rfl rfl hfd (digs_len _ _) hR2 (by unfold unk; omega) (by omega) (by simp [hlen]; omega) (by omega) (by omega) ?_
    have e1 : (ofL (zs.take i) ++ List.replicate (8 * n - 8 * i) (0 : Int)).take (8 * i) ++ digs z 8 ++ (ofL (zs.take i) ++ List.replicate (8 * n - 8 * i) (0 : Int)).drop (8 * i + 8) = ofL (zs.take (i + 1)) ++ List.replicate (8 * n - 8 * (i + 1)) 0 := by
      rw [List.take_left' hlen, hsn, ← List.drop_drop, List.drop_left' hlen, List.drop_replicate, show 8 * n - 8 * i - 8 = 8 * n - 8 * (i + 1) by omega]
    rw [e1]
    simp only [sx, x_box, x_alloc, x_bslice, x_slice, x_append, x_appz, x_b2s, x_s2b, x_mark, xop, ev, evs, evParts, fillL, cellsL, Ai.get, Ai.put, stab, isNil?, if_false, if_true, addr?, int?, str?, agg?, bool?, shiftA, FnPost, xresL, xres1, tup, argEnv, ptr, Nat.reduceEqDiff, reduceIte, beq_self_eq_true, ne_eq, Nat.reduceAdd, Nat.reduceMul, Nat.reduceSub, abin_shl, abin_shr, load1V, loadV, storeV, cellsAt, getN, setN, allocV, lenL, lenS, bnd, oneC, Value.oneCell', Nat.reduceLeDiff, Nat.reduceLT, exists_eq_left', forall_const, reduceCtorEq, app_new, app_new0, List.append_assoc, Int.reduceToNat, Int.reduceLT, Int.reduceLE, Int.reduceEq, Int.reduceNe, Int.reduceBEq, IntKind.bits, bne_self_eq_false, Int.reducePow, g12, g11, g10, g3, hwi]
    refine ⟨m - 1, by omega, i + 1, by omega, rfl, by rw [show 8 * (i + 1) = 8 * i + 8 by omega], (E.trans (Ext.app _ _)).set (Nat.le_refl _) _, set_same hR2 _⟩
  · have hlt' : ¬ (i : Int) < n := by omega
    have hin : i = n := by omega
    subst hin
    have ht : zs.take i = zs := by rw [← hzl, List.take_length]
    rw [ht, Nat.sub_self, List.replicate_zero, List.append_nil] at hR
    simp only [sx, x_box, x_alloc, x_bslice, x_slice, x_append, x_appz, x_b2s, x_s2b, x_mark, xop, ev, evs, evParts, fillL, cellsL, Ai.get, Ai.put, stab, isNil?, if_false, if_true, addr?, int?, str?, agg?, bool?, shiftA, FnPost, xresL, xres1, tup, argEnv, ptr, Nat.reduceEqDiff, reduceIte, beq_self_eq_true, ne_eq, Nat.reduceAdd, Nat.reduceMul, Nat.reduceSub, abin_shl, abin_shr, load1V, loadV, storeV, cellsAt, getN, setN, allocV, lenL, lenS, bnd, oneC, Value.oneCell', Nat.reduceLeDiff, Nat.reduceLT, exists_eq_left', forall_const, reduceCtorEq, app_new, app_new0, List.append_assoc, Int.reduceToNat, Int.reduceLT, Int.reduceLE, Int.reduceEq, Int.reduceNe, Int.reduceBEq, IntKind.bits, bne_self_eq_false, Int.reducePow, g12, g11, g10, g3, hlt']
    exact ⟨h.length, rfl, Nat.le_refl _, lt_of_get hR, E, hR⟩

theorem RN.ext {h h' : AHeap} {sl : Value} {zs : List Int} (r : RN h sl zs) (e : Ext h h') : RN h' sl zs := r.keep fun A x _ hx => e.get hx
/-- one more byte -/
theorem RN.push {K : Env → AHeap → Prop} {r : List XOper} {ρ : Env} {g0 h : AHeap} {zs : List Int} {z : Int} {d : Option Nat} {s x : XA} {sl : Value} (R : RN h sl zs) (E : Ext g0 h) (hgl : ∀ A, slB sl = some A → g0.length ≤ A)
    (hs : ev ρ s = some sl) (hx : ev ρ x = some (.slice (some ⟨h.length, 0, none⟩) 1 1)) (hb : zs.length < 1048576 * 64)
    (hK : ∀ sl' h', RN h' sl' (zs ++ [z]) → Ext g0 h' → (∀ A, slB sl' = some A → g0.length ≤ A) → xops Tryd.prog K r (put d sl' ρ) h') :
    xops Tryd.prog K (⟨d, none, .append 1 1 [.int .u8 0] s x, []⟩ :: r) ρ (h ++ [some ⟨true, [.int .u8 z]⟩]) := by
  have R2 := R.ext (Ext.app h [some ⟨true, [.int .u8 z]⟩])
  have E2 := E.trans (Ext.app h [some ⟨true, [.int .u8 z]⟩])
  have hf : firstV 1 (h ++ [some ⟨true, [.int .u8 z]⟩]) 1 (.slice (some ⟨h.length, 0, none⟩) 1 1) = some (bR [z]) := by
    simp only [firstV, cellsAt, app_new0]; simp [getN, bR]
  refine append_run (k := 1) (by_ := 1) (n := zs.length) (m := 1) (rows := bR zs) (news := bR [z]) (sl := sl) (xv := .slice (some ⟨h.length, 0, none⟩) 1 1) rfl (by decide) hs hx rfl hf rfl (bR_one _) R2.ret.toO (by omega) (by omega) (fun h0 => by omega) (fun _ h' A' hA' hg hl' hfr => ?_)
  have hlen := E2.1
  refine hK _ h' (.inr ⟨A', by simp, by rw [hg, bR_append]⟩) ⟨by omega, fun B hB => ?_⟩ (fun A hA => by simp [slB] at hA; omega)
  rw [hfr B (by omega) (fun e => by have := hgl B e; omega)]
  exact E2.2 B hB

set_option maxHeartbeats 1000000 in
theorem rof_ok {h : AHeap} {q : Option Addr} {n c : Nat} {zs : List Int} (hf : firstV 1 h n (.slice q n c) = some (bR zs)) (hn : n ≤ 1048576) (hb : ∀ z ∈ zs, 0 ≤ z ∧ z ≤ 255) :
    Valid Tryd.prog 26 [.slice q n c] h fun r h' => RN h' r (ofL zs) ∧ Ext h h' ∧ ∀ A, slB r = some A → h.length ≤ A := by
  refine v26 (by simp) ?_
  have hzl := firstV_len hf
  rw [bR_len, Nat.mul_one] at hzl
  simp only [X26, sx, x_box, x_alloc, x_bslice, x_slice, x_append, x_appz, x_b2s, x_s2b, x_mark, xop, ev, evs, evParts, fillL, cellsL, Ai.get, Ai.put, stab, isNil?, if_false, if_true, addr?, int?, str?, agg?, bool?, shiftA, FnPost, xresL, xres1, tup, argEnv, ptr, Nat.reduceEqDiff, reduceIte, beq_self_eq_true, ne_eq, Nat.reduceAdd, Nat.reduceMul, Nat.reduceSub, abin_shl, abin_shr, load1V, loadV, storeV, cellsAt, getN, setN, allocV, lenL, lenS, bnd, oneC, Value.oneCell', Nat.reduceLeDiff, Nat.reduceLT, exists_eq_left', forall_const, reduceCtorEq, app_new, app_new0, List.append_assoc, Int.reduceToNat, Int.reduceLT, Int.reduceLE, Int.reduceEq, Int.reduceNe, Int.reduceBEq, IntKind.bits, bne_self_eq_false, Int.reducePow]
  refine xcode_loop (fun m ρ h' => ∃ i sl, i + m = n ∧ get ρ 4 = some (.int .i64 (i : Nat)) ∧ get ρ 3 = some sl ∧ get ρ 0 = some (.slice q n c) ∧ RN h' sl (ofL (zs.take i)) ∧ Ext h h' ∧ ∀ A, slB sl = some A → h.length ≤ A) n
    ⟨0, _, by simp, rfl, rfl, rfl, .inl ⟨rfl, by simp [ofL]⟩, Ext.refl _, by simp [slB]⟩ ?_
  rintro m ρ h1 ⟨i, sl, him, g4, g3, g0, R, E, hA⟩
  by_cases hlt : i < n
  · have hlt' : (i : Int) < n := by omega
    have hge : (0 : Int) ≤ i := by omega
    have hwi : IntKind.i64.wrap ((i : Int) + 1) = ((i + 1 : Nat) : Int) := by rw [i64_wrap] <;> omega
    obtain ⟨a, o0, z, rfl, -, -, -, a4⟩ := elemB (E.first hf) hlt
    have hz := hb z (List.mem_of_getElem? a4)
    have hsn := ofL_snoc a4
    obtain ⟨z, rfl⟩ : ∃ m : Nat, z = m := ⟨z.toNat, by omega⟩
    rw [Int.toNat_natCast] at hsn
    have hzw : IntKind.u64.wrap (z : Int) = (z : Int) := u64_wrap (by omega) (by omega)
    have hlen : (ofL (zs.take i)).length = 8 * i := by rw [ofL_len]; simp; omega
    simp only [sx, x_box, x_alloc, x_bslice, x_slice, x_append, x_appz, x_b2s, x_s2b, x_mark, xop, ev, evs, evParts, fillL, cellsL, Ai.get, Ai.put, stab, isNil?, if_false, if_true, addr?, int?, str?, agg?, bool?, shiftA, FnPost, xresL, xres1, tup, argEnv, ptr, Nat.reduceEqDiff, reduceIte, beq_self_eq_true, ne_eq, Nat.reduceAdd, Nat.reduceMul, Nat.reduceSub, abin_shl, abin_shr, load1V, loadV, storeV, cellsAt, getN, setN, allocV, lenL, lenS, bnd, oneC, Value.oneCell', Nat.reduceLeDiff, Nat.reduceLT, exists_eq_left', forall_const, reduceCtorEq, app_new, app_new0, List.append_assoc, Int.reduceToNat, Int.reduceLT, Int.reduceLE, Int.reduceEq, Int.reduceNe, Int.reduceBEq, IntKind.bits, bne_self_eq_false, Int.reducePow, g4, g3, g0, hlt']
    refine xcode_loop (fun m ρ h' => ∃ k sl, k + m = 8 ∧ get ρ 5 = some (.int .i64 (k : Nat)) ∧ get ρ 4 = some (.int .i64 (i : Nat)) ∧ get ρ 3 = some sl ∧ get ρ 0 = some (.slice (some a) n c) ∧ RN h' sl (ofL (zs.take i) ++ digs z k) ∧ Ext h h' ∧ ∀ A, slB sl = some A → h.length ≤ A) 8
      ⟨0, sl, by simp, rfl, g4, g3, g0, by simpa [digs] using R, E, hA⟩ ?_
    clear g4 g3 g0 R E hA ρ sl
    rintro j ρ h2 ⟨k, sl, hkj, g5, g4, g3, g0, R, E, hA⟩
    by_cases hk : k < 8
    · have hk' : (k : Int) < 8 := by omega
      have hwk : IntKind.i64.wrap ((k : Int) + 1) = ((k + 1 : Nat) : Int) := by rw [i64_wrap] <;> omega
      obtain ⟨_, o, z2, e1, a1, a2, a3, a4'⟩ := elemB (E.first hf) hlt
      cases e1
      rw [a4] at a4'; cases a4'
      simp only [sx, x_box, x_alloc, x_bslice, x_slice, x_append, x_appz, x_b2s, x_s2b, x_mark, xop, ev, evs, evParts, fillL, cellsL, Ai.get, Ai.put, stab, isNil?, if_false, if_true, addr?, int?, str?, agg?, bool?, shiftA, FnPost, xresL, xres1, tup, argEnv, ptr, Nat.reduceEqDiff, reduceIte, beq_self_eq_true, ne_eq, Nat.reduceAdd, Nat.reduceMul, Nat.reduceSub, abin_shl, abin_shr, load1V, loadV, storeV, cellsAt, getN, setN, allocV, lenL, lenS, bnd, oneC, Value.oneCell', Nat.reduceLeDiff, Nat.reduceLT, exists_eq_left', forall_const, reduceCtorEq, app_new, app_new0, List.append_assoc, Int.reduceToNat, Int.reduceLT, Int.reduceLE, Int.reduceEq, Int.reduceNe, Int.reduceBEq, IntKind.bits, bne_self_eq_false, Int.reducePow, g5, g4, g3, g0, hk', hge, hlt', a1, a2, a3, Nat.mul_one, hzw]
      refine xcall (bit_ok (v := z) (k := k) (by have : (2 : Nat) ^ 64 = 18446744073709551616 := rfl; omega) (by omega)) (by rfl) (by rfl) (by rfl) (by rfl) ?_
      rintro r h3 ⟨rfl, rfl⟩
      simp only [sx, x_box, x_alloc, x_bslice, x_slice, x_appz, x_b2s, x_s2b, x_mark, xop, ev, evs, evParts, fillL, cellsL, Ai.get, Ai.put, stab, isNil?, if_false, if_true, addr?, int?, str?, agg?, bool?, shiftA, FnPost, xresL, xres1, tup, argEnv, ptr, Nat.reduceEqDiff, reduceIte, beq_self_eq_true, ne_eq, Nat.reduceAdd, Nat.reduceMul, Nat.reduceSub, abin_shl, abin_shr, load1V, loadV, storeV, cellsAt, getN, setN, allocV, lenL, lenS, bnd, oneC, Value.oneCell', Nat.reduceLeDiff, Nat.reduceLT, exists_eq_left', forall_const, reduceCtorEq, app_new, app_new0, List.append_assoc, Int.reduceToNat, Int.reduceLT, Int.reduceLE, Int.reduceEq, Int.reduceNe, Int.reduceBEq, IntKind.bits, bne_self_eq_false, Int.reducePow, g5, g4, g3, g0]
      refine R.push (z := bitN z k) E hA rfl rfl (by simp [hlen, digs_len]; omega) fun sl' h4 R4 E4 hA4 => ?_
      have e : ofL (zs.take i) ++ digs z k ++ [bitN z k] = ofL (zs.take i) ++ digs z (k + 1) := by
        rw [List.append_assoc]; congr 1
        simp [digs, List.range_succ]
      rw [e] at R4
      simp only [sx, x_box, x_alloc, x_bslice, x_slice, x_append, x_appz, x_b2s, x_s2b, x_mark, xop, ev, evs, evParts, fillL, cellsL, Ai.get, Ai.put, stab, isNil?, if_false, if_true, addr?, int?, str?, agg?, bool?, shiftA, FnPost, xresL, xres1, tup, argEnv, ptr, Nat.reduceEqDiff, reduceIte, beq_self_eq_true, ne_eq, Nat.reduceAdd, Nat.reduceMul, Nat.reduceSub, abin_shl, abin_shr, load1V, loadV, storeV, cellsAt, getN, setN, allocV, lenL, lenS, bnd, oneC, Value.oneCell', Nat.reduceLeDiff, Nat.reduceLT, exists_eq_left', forall_const, reduceCtorEq, app_new, app_new0, List.append_assoc, Int.reduceToNat, Int.reduceLT, Int.reduceLE, Int.reduceEq, Int.reduceNe, Int.reduceBEq, IntKind.bits, bne_self_eq_false, Int.reducePow, g5, g4, g3, g0, hwk]
      exact ⟨j - 1, by omega, k + 1, sl', by omega, rfl, rfl, R4, E4, hA4⟩
    · have hk' : ¬ (k : Int) < 8 := by omega
      have hk8 : k = 8 := by omega
      subst hk8
      rw [← hsn] at R
      simp only [sx, x_box, x_alloc, x_bslice, x_slice, x_append, x_appz, x_b2s, x_s2b, x_mark, xop, ev, evs, evParts, fillL, cellsL, Ai.get, Ai.put, stab, isNil?, if_false, if_true, addr?, int?, str?, agg?, bool?, shiftA, FnPost, xresL, xres1, tup, argEnv, ptr, Nat.reduceEqDiff, reduceIte, beq_self_eq_true, ne_eq, Nat.reduceAdd, Nat.reduceMul, Nat.reduceSub, abin_shl, abin_shr, load1V, loadV, storeV, cellsAt, getN, setN, allocV, lenL, lenS, bnd, oneC, Value.oneCell', Nat.reduceLeDiff, Nat.reduceLT, exists_eq_left', forall_const, reduceCtorEq, app_new, app_new0, List.append_assoc, Int.reduceToNat, Int.reduceLT, Int.reduceLE, Int.reduceEq, Int.reduceNe, Int.reduceBEq, IntKind.bits, bne_self_eq_false, Int.reducePow, g5, g4, g3, g0, hk', hwi]
      exact ⟨m - 1, by omega, i + 1, sl, by omega, rfl, rfl, R, E, hA⟩
  · have hlt' : ¬ (i : Int) < n := by omega
    have ht : zs.take i = zs := by rw [show i = zs.length by omega, List.take_length]
    rw [ht] at R
    simp only [sx, x_box, x_alloc, x_bslice, x_slice, x_append, x_appz, x_b2s, x_s2b, x_mark, xop, ev, evs, evParts, fillL, cellsL, Ai.get, Ai.put, stab, isNil?, if_false, if_true, addr?, int?, str?, agg?, bool?, shiftA, FnPost, xresL, xres1, tup, argEnv, ptr, Nat.reduceEqDiff, reduceIte, beq_self_eq_true, ne_eq, Nat.reduceAdd, Nat.reduceMul, Nat.reduceSub, abin_shl, abin_shr, load1V, loadV, storeV, cellsAt, getN, setN, allocV, lenL, lenS, bnd, oneC, Value.oneCell', Nat.reduceLeDiff, Nat.reduceLT, exists_eq_left', forall_const, reduceCtorEq, app_new, app_new0, List.append_assoc, Int.reduceToNat, Int.reduceLT, Int.reduceLE, Int.reduceEq, Int.reduceNe, Int.reduceBEq, IntKind.bits, bne_self_eq_false, Int.reducePow, g4, g3, g0, hlt']
    exact ⟨R, E, hA⟩

theorem octets_bad {h : AHeap} {q : Option Addr} {n c : Nat} {zs : List Int} (hf : firstV 1 h n (.slice q n c) = some (bR zs)) (hn : n ≤ 1152921504606846976) (hc : checkV zs ≠ 0) :
    Valid Tryd.prog 55 [.slice q n c] h fun r h' => r = .tuple #[.slice none 0 0, .int .i64 (checkV zs)] ∧ Ext h h' := by
  refine v55 (by simp) ?_
  simp only [X55, sx, x_box, x_alloc, x_bslice, x_slice, x_append, x_appz, x_b2s, x_s2b, x_mark, xop, ev, evs, evParts, fillL, cellsL, Ai.get, Ai.put, stab, isNil?, if_false, if_true, addr?, int?, str?, agg?, bool?, shiftA, FnPost, xresL, xres1, tup, argEnv, ptr, Nat.reduceEqDiff, reduceIte, beq_self_eq_true, ne_eq, Nat.reduceAdd, Nat.reduceMul, Nat.reduceSub, abin_shl, abin_shr, load1V, loadV, storeV, cellsAt, getN, setN, allocV, lenL, lenS, bnd, oneC, Value.oneCell', Nat.reduceLeDiff, Nat.reduceLT, exists_eq_left', forall_const, reduceCtorEq, app_new, app_new0, List.append_assoc, Int.reduceToNat, Int.reduceLT, Int.reduceLE, Int.reduceEq, Int.reduceNe, Int.reduceBEq, IntKind.bits, bne_self_eq_false, Int.reducePow]
  refine xcall (check_ok hf hn) (by rfl) (by rfl) (by rfl) (by rfl) ?_
  rintro r h1 ⟨rfl, J, rfl⟩
  simp only [sx, x_box, x_alloc, x_bslice, x_slice, x_append, x_appz, x_b2s, x_s2b, x_mark, xop, ev, evs, evParts, fillL, cellsL, Ai.get, Ai.put, stab, isNil?, if_false, if_true, addr?, int?, str?, agg?, bool?, shiftA, FnPost, xresL, xres1, tup, argEnv, ptr, Nat.reduceEqDiff, reduceIte, beq_self_eq_true, ne_eq, Nat.reduceAdd, Nat.reduceMul, Nat.reduceSub, abin_shl, abin_shr, load1V, loadV, storeV, cellsAt, getN, setN, allocV, lenL, lenS, bnd, oneC, Value.oneCell', Nat.reduceLeDiff, Nat.reduceLT, exists_eq_left', forall_const, reduceCtorEq, app_new, app_new0, List.append_assoc, Int.reduceToNat, Int.reduceLT, Int.reduceLE, Int.reduceEq, Int.reduceNe, Int.reduceBEq, IntKind.bits, bne_self_eq_false, Int.reducePow, hc]
  exact Ext.app _ _
theorem octets_width {h : AHeap} {q : Option Addr} {n c : Nat} {zs : List Int} (hf : firstV 1 h n (.slice q n c) = some (bR zs)) (hn : n ≤ 1152921504606846976) (hc : checkV zs = 0) (hw : n % 8 ≠ 0) :
    Valid Tryd.prog 55 [.slice q n c] h fun r h' => r = .tuple #[.slice none 0 0, .int .i64 5] ∧ Ext h h' := by
  refine v55 (by simp) ?_
  have h8 : ¬ (8 : Int) = 0 := by decide
  have hm : ¬ (n : Int).tmod 8 = 0 := by rw [Int.tmod_eq_emod_of_nonneg (Int.natCast_nonneg _)]; omega
  simp only [X55, sx, x_box, x_alloc, x_bslice, x_slice, x_append, x_appz, x_b2s, x_s2b, x_mark, xop, ev, evs, evParts, fillL, cellsL, Ai.get, Ai.put, stab, isNil?, if_false, if_true, addr?, int?, str?, agg?, bool?, shiftA, FnPost, xresL, xres1, tup, argEnv, ptr, Nat.reduceEqDiff, reduceIte, beq_self_eq_true, ne_eq, Nat.reduceAdd, Nat.reduceMul, Nat.reduceSub, abin_shl, abin_shr, load1V, loadV, storeV, cellsAt, getN, setN, allocV, lenL, lenS, bnd, oneC, Value.oneCell', Nat.reduceLeDiff, Nat.reduceLT, exists_eq_left', forall_const, reduceCtorEq, app_new, app_new0, List.append_assoc, Int.reduceToNat, Int.reduceLT, Int.reduceLE, Int.reduceEq, Int.reduceNe, Int.reduceBEq, IntKind.bits, bne_self_eq_false, Int.reducePow]
  refine xcall (check_ok hf hn) (by rfl) (by rfl) (by rfl) (by rfl) ?_
  rintro r h1 ⟨rfl, J, rfl⟩
  simp only [sx, x_box, x_alloc, x_bslice, x_slice, x_append, x_appz, x_b2s, x_s2b, x_mark, xop, ev, evs, evParts, fillL, cellsL, Ai.get, Ai.put, stab, isNil?, if_false, if_true, addr?, int?, str?, agg?, bool?, shiftA, FnPost, xresL, xres1, tup, argEnv, ptr, Nat.reduceEqDiff, reduceIte, beq_self_eq_true, ne_eq, Nat.reduceAdd, Nat.reduceMul, Nat.reduceSub, abin_shl, abin_shr, load1V, loadV, storeV, cellsAt, getN, setN, allocV, lenL, lenS, bnd, oneC, Value.oneCell', Nat.reduceLeDiff, Nat.reduceLT, exists_eq_left', forall_const, reduceCtorEq, app_new, app_new0, List.append_assoc, Int.reduceToNat, Int.reduceLT, Int.reduceLE, Int.reduceEq, Int.reduceNe, Int.reduceBEq, IntKind.bits, bne_self_eq_false, Int.reducePow, hc, h8, hm]
  exact Ext.app _ _
set_option maxHeartbeats 1000000 in
theorem octets_ok {h : AHeap} {q : Option Addr} {n c : Nat} {zs : List Int} (hf : firstV 1 h n (.slice q n c) = some (bR zs)) (hn : n ≤ 1048576) (hc : checkV zs = 0) (hp : ∀ z ∈ zs, 0 ≤ z) (hw : n % 8 = 0) (hcap : (n ≤ c ∧ c < unk) ∨ (c = unk + 1 ∧ q ≠ none)) (hsp : ∀ a, q = some a → a.spot = none) :
    Valid Tryd.prog 55 [.slice q n c] h fun r h' => ∃ R, r = .tuple #[.slice (some ⟨R, 0, none⟩) (n / 8) (n / 8), .int .i64 0] ∧ h.length ≤ R ∧ R < h'.length ∧ Ext h h' ∧ h'[R]? = some (some ⟨true, bR (octs zs)⟩) := by
  refine v55 (by simp) ?_
  have hb := (checkV_bits hc hp).2
  have hzl := firstV_len hf
  rw [bR_len, Nat.mul_one] at hzl
  have h8 : ¬ (8 : Int) = 0 := by decide
  have hm : (n : Int).tmod 8 = 0 := by rw [Int.tmod_eq_emod_of_nonneg (Int.natCast_nonneg _)]; omega
  have hq : IntKind.i64.wrap ((n : Int).tdiv 8) = ((n / 8 : Nat) : Int) := by
    rw [Int.tdiv_eq_ediv_of_nonneg (Int.natCast_nonneg _), i64_wrap (by omega) (by omega)]; omega
  have h1 : ((n / 8 : Nat) : Int) * 1 ≤ 140737488355328 := by omega
  have h2 : ((n / 8 : Nat) : Int) ≤ 9223372036854775807 := by omega
  have h3 : (0 : Int) ≤ ((n / 8 : Nat) : Int) := by omega
  simp only [X55, sx, x_box, x_alloc, x_bslice, x_slice, x_append, x_appz, x_b2s, x_s2b, x_mark, xop, ev, evs, evParts, fillL, cellsL, Ai.get, Ai.put, stab, isNil?, if_false, if_true, addr?, int?, str?, agg?, bool?, shiftA, FnPost, xresL, xres1, tup, argEnv, ptr, Nat.reduceEqDiff, reduceIte, beq_self_eq_true, ne_eq, Nat.reduceAdd, Nat.reduceMul, Nat.reduceSub, abin_shl, abin_shr, load1V, loadV, storeV, cellsAt, getN, setN, allocV, lenL, lenS, bnd, oneC, Value.oneCell', Nat.reduceLeDiff, Nat.reduceLT, exists_eq_left', forall_const, reduceCtorEq, app_new, app_new0, List.append_assoc, Int.reduceToNat, Int.reduceLT, Int.reduceLE, Int.reduceEq, Int.reduceNe, Int.reduceBEq, IntKind.bits, bne_self_eq_false, Int.reducePow]
  refine xcall (check_ok hf (by omega)) (by rfl) (by rfl) (by rfl) (by rfl) ?_
  rintro r h1 ⟨rfl, J, rfl⟩
  have E1 : Ext h (h ++ J) := Ext.app _ _
  simp only [sx, x_box, x_alloc, x_bslice, x_slice, x_append, x_appz, x_b2s, x_s2b, x_mark, xop, ev, evs, evParts, fillL, cellsL, Ai.get, Ai.put, stab, isNil?, if_false, if_true, addr?, int?, str?, agg?, bool?, shiftA, FnPost, xresL, xres1, tup, argEnv, ptr, Nat.reduceEqDiff, reduceIte, beq_self_eq_true, ne_eq, Nat.reduceAdd, Nat.reduceMul, Nat.reduceSub, abin_shl, abin_shr, load1V, loadV, storeV, cellsAt, getN, setN, allocV, lenL, lenS, bnd, oneC, Value.oneCell', Nat.reduceLeDiff, Nat.reduceLT, exists_eq_left', forall_const, reduceCtorEq, Int.reduceToNat, Int.reduceLT, Int.reduceLE, Int.reduceEq, Int.reduceNe, Int.reduceBEq, IntKind.bits, bne_self_eq_false, Int.reducePow, hc, h8, hm, hq, h1, h2, h3, Int.le_refl, zeros_bR]
  have hL := octs_len zs
  rw [hzl] at hL
  refine xcode_loop (fun m ρ h' => ∃ i, i + m = n / 8 ∧ get ρ 22 = some (.int .i64 (i : Nat)) ∧ get ρ 21 = some (.int .i64 ((n / 8 : Nat) : Int)) ∧ get ρ 0 = some (.slice q n c) ∧ get ρ 5 = some (.slice (some ⟨(h ++ J).length, 0, none⟩) (n / 8) (n / 8)) ∧ h' = (h ++ J) ++ [some ⟨true, bR (filled (octs zs) i (n / 8))⟩]) (n / 8)
    ⟨0, by simp, rfl, rfl, rfl, by simp [Ai.get], by rw [filled_zero]⟩ ?_
  have hf0 := E1.first hf
  generalize h ++ J = g at *
  rintro m ρ h' ⟨i, him, g22, g21, g0, g5, rfl⟩
  have E2 : Ext g (g ++ [some ⟨true, bR (filled (octs zs) i (n / 8))⟩]) := Ext.app _ _
  by_cases hlt : i < n / 8
  · have hlt' : (i : Int) < ((n / 8 : Nat) : Int) := by omega
    have hge : (0 : Int) ≤ i := by omega
    have hwi : IntKind.i64.wrap ((i : Int) + 1) = ((i + 1 : Nat) : Int) := by rw [i64_wrap] <;> omega
    have hw8 : IntKind.i64.wrap (8 * (i : Int)) = ((8 * i : Nat) : Int) := by rw [i64_wrap] <;> omega
    have hw9 : IntKind.i64.wrap (8 * ((i + 1 : Nat) : Int)) = ((8 * i + 8 : Nat) : Int) := by rw [i64_wrap (by omega) (by omega)]; omega
    simp only [sx, x_box, x_alloc, x_bslice, x_append, x_appz, x_b2s, x_s2b, x_mark, xop, ev, evs, evParts, fillL, cellsL, Ai.get, Ai.put, stab, isNil?, if_false, if_true, addr?, int?, str?, agg?, bool?, shiftA, FnPost, xresL, xres1, tup, argEnv, ptr, Nat.reduceEqDiff, reduceIte, beq_self_eq_true, ne_eq, Nat.reduceAdd, Nat.reduceMul, Nat.reduceSub, abin_shl, abin_shr, load1V, loadV, storeV, cellsAt, getN, setN, allocV, lenL, lenS, bnd, oneC, Value.oneCell', Nat.reduceLeDiff, Nat.reduceLT, exists_eq_left', forall_const, reduceCtorEq, app_new, app_new0, List.append_assoc, Int.reduceToNat, Int.reduceLT, Int.reduceLE, Int.reduceEq, Int.reduceNe, Int.reduceBEq, IntKind.bits, bne_self_eq_false, Int.reducePow, g22, g21, g0, g5, hlt', hwi, hw8, hw9]
    refine part_run (n := n) (c := c) (l := 8 * i) (u := 8 * i + 8) (zs := zs) rfl rfl rfl (by omega) (by omega) (E2.first hf0) hcap hsp fun q' c' hf' => ?_
    rw [show 8 * i + 8 - 8 * i = 8 by omega] at hf' ⊢
    have hgb := grp_bit hb i
    simp only [sx, x_box, x_alloc, x_bslice, x_slice, x_append, x_appz, x_b2s, x_s2b, x_mark, xop, ev, evs, evParts, fillL, cellsL, Ai.get, Ai.put, stab, isNil?, if_false, if_true, addr?, int?, str?, agg?, bool?, shiftA, FnPost, xresL, xres1, tup, argEnv, ptr, Nat.reduceEqDiff, reduceIte, beq_self_eq_true, ne_eq, Nat.reduceAdd, Nat.reduceMul, Nat.reduceSub, abin_shl, abin_shr, load1V, loadV, storeV, cellsAt, getN, setN, allocV, lenL, lenS, bnd, oneC, Value.oneCell', Nat.reduceLeDiff, Nat.reduceLT, exists_eq_left', forall_const, reduceCtorEq, app_new, app_new0, List.append_assoc, Int.reduceToNat, Int.reduceLT, Int.reduceLE, Int.reduceEq, Int.reduceNe, Int.reduceBEq, IntKind.bits, bne_self_eq_false, Int.reducePow]
    refine xcall (value_ok (zs := grp zs i) hf' (by omega) hgb) (by rfl) (by rfl) (by rfl) (by rfl) ?_
    rintro r h2 ⟨rfl, rfl⟩
    have hv := valN_lt hgb
    rw [grp_len (by omega)] at hv
    have hvw : IntKind.u8.wrap ((valN (grp zs i) : Nat) : Int) = ((valN (grp zs i) : Nat) : Int) := u8_wrap (by omega) (by omega)
    have hle : i + 1 ≤ (bR (filled (octs zs) i (n / 8))).length := by rw [bR_len, filled_len (by omega) hL]; omega
    simp only [sx, x_box, x_alloc, x_bslice, x_slice, x_append, x_appz, x_b2s, x_s2b, x_mark, xop, ev, evs, evParts, fillL, cellsL, Ai.get, Ai.put, stab, isNil?, if_false, if_true, addr?, int?, str?, agg?, bool?, shiftA, FnPost, xresL, xres1, tup, argEnv, ptr, Nat.reduceEqDiff, reduceIte, beq_self_eq_true, ne_eq, Nat.reduceAdd, Nat.reduceMul, Nat.reduceSub, abin_shl, abin_shr, load1V, loadV, storeV, cellsAt, getN, setN, allocV, lenL, lenS, bnd, oneC, Value.oneCell', Nat.reduceLeDiff, Nat.reduceLT, exists_eq_left', forall_const, reduceCtorEq, app_new, app_new0, List.append_assoc, Int.reduceToNat, Int.reduceLT, Int.reduceLE, Int.reduceEq, Int.reduceNe, Int.reduceBEq, IntKind.bits, bne_self_eq_false, Int.reducePow, g22, g21, g0, g5, hlt', hge, hvw, Nat.mul_one, hle, bR_set, hwi]
    refine ⟨m - 1, by omega, i + 1, by omega, rfl, ?_⟩
    rw [← filled_set hlt hL, octs_get (by omega)]
  · have hlt' : ¬ (i : Int) < ((n / 8 : Nat) : Int) := by omega
    have hin : i = n / 8 := by omega
    subst hin
    rw [filled_all hL] at E2
    simp only [sx, x_box, x_alloc, x_bslice, x_slice, x_append, x_appz, x_b2s, x_s2b, x_mark, xop, ev, evs, evParts, fillL, cellsL, Ai.get, Ai.put, stab, isNil?, if_false, if_true, addr?, int?, str?, agg?, bool?, shiftA, FnPost, xresL, xres1, tup, argEnv, ptr, Nat.reduceEqDiff, reduceIte, beq_self_eq_true, ne_eq, Nat.reduceAdd, Nat.reduceMul, Nat.reduceSub, abin_shl, abin_shr, load1V, loadV, storeV, cellsAt, getN, setN, allocV, lenL, lenS, bnd, oneC, Value.oneCell', Nat.reduceLeDiff, Nat.reduceLT, exists_eq_left', forall_const, reduceCtorEq, app_new, app_new0, List.append_assoc, Int.reduceToNat, Int.reduceLT, Int.reduceLE, Int.reduceEq, Int.reduceNe, Int.reduceBEq, IntKind.bits, bne_self_eq_false, Int.reducePow, g22, g21, g0, g5, hlt', filled_all hL]
    exact ⟨g.length, rfl, by have := E1.1; omega, by simp, E1.trans E2, by rw [app_new0]; rfl⟩

set_option maxHeartbeats 1000000 in
theorem roct_ok {h : AHeap} {q : Option Addr} {n c : Nat} {zs : List Int} (hf : firstV 1 h n (.slice q n c) = some (bR zs)) (hn : n ≤ 1048576) (hb : ∀ z ∈ zs, z = 0 ∨ z = 1) (hcap : (n ≤ c ∧ c < unk) ∨ (c = unk + 1 ∧ q ≠ none)) (hsp : ∀ a, q = some a → a.spot = none) :
    Valid Tryd.prog 41 [.slice q n c] h fun r h' => RN h' r (octs zs) ∧ Ext h h' ∧ ∀ A, slB r = some A → h.length ≤ A := by
  refine v41 (by simp) ?_
  have hzl := firstV_len hf
  rw [bR_len, Nat.mul_one] at hzl
  have hL := octs_len zs
  rw [hzl] at hL
  simp only [X41, sx, x_box, x_alloc, x_bslice, x_slice, x_append, x_appz, x_b2s, x_s2b, x_mark, xop, ev, evs, evParts, fillL, cellsL, Ai.get, Ai.put, stab, isNil?, if_false, if_true, addr?, int?, str?, agg?, bool?, shiftA, FnPost, xresL, xres1, tup, argEnv, ptr, Nat.reduceEqDiff, reduceIte, beq_self_eq_true, ne_eq, Nat.reduceAdd, Nat.reduceMul, Nat.reduceSub, abin_shl, abin_shr, load1V, loadV, storeV, cellsAt, getN, setN, allocV, lenL, lenS, bnd, oneC, Value.oneCell', Nat.reduceLeDiff, Nat.reduceLT, exists_eq_left', forall_const, reduceCtorEq, app_new, app_new0, List.append_assoc, Int.reduceToNat, Int.reduceLT, Int.reduceLE, Int.reduceEq, Int.reduceNe, Int.reduceBEq, IntKind.bits, bne_self_eq_false, Int.reducePow]
  refine xcode_loop (fun m ρ h' => ∃ i sl, i + m = n / 8 ∧ get ρ 4 = some (.int .i64 ((8 * i : Nat) : Int)) ∧ get ρ 3 = some sl ∧ get ρ 0 = some (.slice q n c) ∧ RN h' sl ((octs zs).take i) ∧ Ext h h' ∧ ∀ A, slB sl = some A → h.length ≤ A) (n / 8)
    ⟨0, _, by simp, rfl, rfl, rfl, .inl ⟨rfl, by simp⟩, Ext.refl _, by simp [slB]⟩ ?_
  rintro m ρ h1 ⟨i, sl, him, g4, g3, g0, R, E, hA⟩
  have hw8 : IntKind.i64.wrap (((8 * i : Nat) : Int) + 8) = ((8 * i + 8 : Nat) : Int) := by rw [i64_wrap (by omega) (by omega)]; omega
  by_cases hlt : i < n / 8
  · have hlt' : ((8 * i + 8 : Nat) : Int) ≤ (n : Nat) := by omega
    simp only [sx, x_box, x_alloc, x_bslice, x_append, x_appz, x_b2s, x_s2b, x_mark, xop, ev, evs, evParts, fillL, cellsL, Ai.get, Ai.put, stab, isNil?, if_false, if_true, addr?, int?, str?, agg?, bool?, shiftA, FnPost, xresL, xres1, tup, argEnv, ptr, Nat.reduceEqDiff, reduceIte, beq_self_eq_true, ne_eq, Nat.reduceAdd, Nat.reduceMul, Nat.reduceSub, abin_shl, abin_shr, load1V, loadV, storeV, cellsAt, getN, setN, allocV, lenL, lenS, bnd, oneC, Value.oneCell', Nat.reduceLeDiff, Nat.reduceLT, exists_eq_left', forall_const, reduceCtorEq, app_new, app_new0, List.append_assoc, Int.reduceToNat, Int.reduceLT, Int.reduceLE, Int.reduceEq, Int.reduceNe, Int.reduceBEq, IntKind.bits, bne_self_eq_false, Int.reducePow, g4, g3, g0, hw8, hlt']
    refine part_run (n := n) (c := c) (l := 8 * i) (u := 8 * i + 8) (zs := zs) rfl rfl rfl (by omega) (by omega) (E.first hf) hcap hsp fun q' c' hf' => ?_
    rw [show 8 * i + 8 - 8 * i = 8 by omega] at hf' ⊢
    have hgb := grp_bit hb i
    simp only [sx, x_box, x_alloc, x_bslice, x_slice, x_append, x_appz, x_b2s, x_s2b, x_mark, xop, ev, evs, evParts, fillL, cellsL, Ai.get, Ai.put, stab, isNil?, if_false, if_true, addr?, int?, str?, agg?, bool?, shiftA, FnPost, xresL, xres1, tup, argEnv, ptr, Nat.reduceEqDiff, reduceIte, beq_self_eq_true, ne_eq, Nat.reduceAdd, Nat.reduceMul, Nat.reduceSub, abin_shl, abin_shr, load1V, loadV, storeV, cellsAt, getN, setN, allocV, lenL, lenS, bnd, oneC, Value.oneCell', Nat.reduceLeDiff, Nat.reduceLT, exists_eq_left', forall_const, reduceCtorEq, app_new, app_new0, List.append_assoc, Int.reduceToNat, Int.reduceLT, Int.reduceLE, Int.reduceEq, Int.reduceNe, Int.reduceBEq, IntKind.bits, bne_self_eq_false, Int.reducePow]
    refine xcall (rvalue_ok (zs := grp zs i) hf' (by omega) hgb) (by rfl) (by rfl) (by rfl) (by rfl) ?_
    rintro r h2 ⟨rfl, rfl⟩
    have hv := valN_lt hgb
    rw [grp_len (by omega)] at hv
    have hvw : IntKind.u8.wrap ((valN (grp zs i) : Nat) : Int) = ((valN (grp zs i) : Nat) : Int) := u8_wrap (by omega) (by omega)
    simp only [sx, x_box, x_alloc, x_bslice, x_slice, x_appz, x_b2s, x_s2b, x_mark, xop, ev, evs, evParts, fillL, cellsL, Ai.get, Ai.put, stab, isNil?, if_false, if_true, addr?, int?, str?, agg?, bool?, shiftA, FnPost, xresL, xres1, tup, argEnv, ptr, Nat.reduceEqDiff, reduceIte, beq_self_eq_true, ne_eq, Nat.reduceAdd, Nat.reduceMul, Nat.reduceSub, abin_shl, abin_shr, load1V, loadV, storeV, cellsAt, getN, setN, allocV, lenL, lenS, bnd, oneC, Value.oneCell', Nat.reduceLeDiff, Nat.reduceLT, exists_eq_left', forall_const, reduceCtorEq, app_new, app_new0, List.append_assoc, Int.reduceToNat, Int.reduceLT, Int.reduceLE, Int.reduceEq, Int.reduceNe, Int.reduceBEq, IntKind.bits, bne_self_eq_false, Int.reducePow, g4, g3, g0, hvw]
    refine R.push (z := ((valN (grp zs i) : Nat) : Int)) E hA rfl rfl (by simp; omega) fun sl' h4 R4 E4 hA4 => ?_
    have e : (octs zs).take i ++ [((valN (grp zs i) : Nat) : Int)] = (octs zs).take (i + 1) := by
      rw [take_snoc (i := i) (z := ((valN (grp zs i) : Nat) : Int))]
      rw [List.getElem?_eq_getElem (by omega), octs_get (by omega)]
    rw [e] at R4
    simp only [sx, x_box, x_alloc, x_bslice, x_slice, x_append, x_appz, x_b2s, x_s2b, x_mark, xop, ev, evs, evParts, fillL, cellsL, Ai.get, Ai.put, stab, isNil?, if_false, if_true, addr?, int?, str?, agg?, bool?, shiftA, FnPost, xresL, xres1, tup, argEnv, ptr, Nat.reduceEqDiff, reduceIte, beq_self_eq_true, ne_eq, Nat.reduceAdd, Nat.reduceMul, Nat.reduceSub, abin_shl, abin_shr, load1V, loadV, storeV, cellsAt, getN, setN, allocV, lenL, lenS, bnd, oneC, Value.oneCell', Nat.reduceLeDiff, Nat.reduceLT, exists_eq_left', forall_const, reduceCtorEq, app_new, app_new0, List.append_assoc, Int.reduceToNat, Int.reduceLT, Int.reduceLE, Int.reduceEq, Int.reduceNe, Int.reduceBEq, IntKind.bits, bne_self_eq_false, Int.reducePow, g4, g3, g0, hw8]
    exact ⟨m - 1, by omega, i + 1, sl', by omega, by rw [show 8 * (i + 1) = 8 * i + 8 by omega], rfl, R4, E4, hA4⟩
  · have hlt' : ¬ ((8 * i + 8 : Nat) : Int) ≤ (n : Nat) := by omega
    have hin : i = n / 8 := by omega
    have ht : (octs zs).take i = octs zs := by rw [hin, ← hL, List.take_length]
    rw [ht] at R
    simp only [sx, x_box, x_alloc, x_bslice, x_slice, x_append, x_appz, x_b2s, x_s2b, x_mark, xop, ev, evs, evParts, fillL, cellsL, Ai.get, Ai.put, stab, isNil?, if_false, if_true, addr?, int?, str?, agg?, bool?, shiftA, FnPost, xresL, xres1, tup, argEnv, ptr, Nat.reduceEqDiff, reduceIte, beq_self_eq_true, ne_eq, Nat.reduceAdd, Nat.reduceMul, Nat.reduceSub, abin_shl, abin_shr, load1V, loadV, storeV, cellsAt, getN, setN, allocV, lenL, lenS, bnd, oneC, Value.oneCell', Nat.reduceLeDiff, Nat.reduceLT, exists_eq_left', forall_const, reduceCtorEq, app_new, app_new0, List.append_assoc, Int.reduceToNat, Int.reduceLT, Int.reduceLE, Int.reduceEq, Int.reduceNe, Int.reduceBEq, IntKind.bits, bne_self_eq_false, Int.reducePow, g4, g3, g0, hw8, hlt']
    exact ⟨R, E, hA⟩

/-- a slice of bytes with room -/
def CR (h : AHeap) (sl : Value) (zs : List Int) : Prop := (zs = [] ∧ (sl = .slice none 0 0 ∨ ∃ A cs, sl = .slice (some ⟨A, 0, none⟩) 0 (unk + 1) ∧ h[A]? = some (some ⟨true, cs⟩))) ∨ ∃ A, sl = .slice (some ⟨A, 0, none⟩) zs.length (unk + 1) ∧ h[A]? = some (some ⟨true, bR zs⟩)
theorem CR.toO {h : AHeap} {sl : Value} {zs : List Int} (r : CR h sl zs) : RetO 1 h sl zs.length (bR zs) := by
  rcases r with ⟨rfl, rfl | ⟨A, cs, rfl, hA⟩⟩ | ⟨A, rfl, hA⟩
  · exact ⟨rfl, .inl ⟨rfl, rfl⟩⟩
  · exact ⟨rfl, .inr (.inr ⟨A, 0, cs, rfl, hA, rfl⟩)⟩
  · exact ⟨by rw [bR_len, Nat.mul_one], .inr (.inr ⟨A, 0, _, rfl, hA, getN_all _ _ (by rw [bR_len, Nat.mul_one])⟩)⟩
theorem clipR_ok {h : AHeap} {sl : Value} {zs : List Int} (r : CR h sl zs) (hz : zs.length ≤ 1048576 * 2) : Valid Tryd.prog 36 [sl] h fun r h' => (∃ q, r = .slice q zs.length zs.length ∧ ∀ a, q = some a → a.spot = none) ∧ firstV 1 h' zs.length r = some (bR zs) ∧ slB r = slB sl ∧ h' = h := by
  have hf := r.toO.first
  rcases r with ⟨rfl, rfl | ⟨A, cs, rfl, hA⟩⟩ | ⟨A, rfl, hA⟩
  · refine (clip_nil v36 h).mono ?_
    rintro r h' ⟨rfl, rfl⟩
    exact ⟨⟨none, rfl, by simp⟩, rfl, rfl, rfl⟩
  · refine (clip_ok v36 h A 0 (unk + 1) (by decide) (.inr rfl)).mono ?_
    rintro r h' ⟨rfl, rfl⟩
    exact ⟨⟨_, rfl, fun a ha => by cases ha; rfl⟩, rfl, rfl, rfl⟩
  · refine (clip_ok v36 h A zs.length (unk + 1) (by unfold unk; omega) (.inr rfl)).mono ?_
    rintro r h' ⟨rfl, rfl⟩
    exact ⟨⟨_, rfl, fun a ha => by cases ha; rfl⟩, by simpa only [firstV] using hf, rfl, rfl⟩
/-- the longest run, as it is counted -/
def runStep (v : Int) (s : Nat × Nat) (z : Int) : Nat × Nat := let r := if z = v then s.2 + 1 else 0; (max s.1 r, r)
def runSt (v : Int) (zs : List Int) : Nat × Nat := zs.foldl (runStep v) (0, 0)
theorem runSt_snoc {zs : List Int} {i : Nat} {z : Int} (v : Int) (h : zs[i]? = some z) : runSt v (zs.take (i + 1)) = runStep v (runSt v (zs.take i)) z := by
  rw [take_snoc h]; simp [runSt, List.foldl_append]
theorem runSt_le (v : Int) (zs : List Int) : (runSt v zs).1 ≤ zs.length ∧ (runSt v zs).2 ≤ zs.length := by
  have key : ∀ (zs : List Int) (s : Nat × Nat) (k : Nat), s.1 ≤ k → s.2 ≤ k → (zs.foldl (runStep v) s).1 ≤ k + zs.length ∧ (zs.foldl (runStep v) s).2 ≤ k + zs.length := by
    intro zs
    induction zs with
    | nil => intro s k h1 h2; exact ⟨h1, h2⟩
    | cons z zs ih =>
      intro s k h1 h2
      have h3 : (runStep v s z).1 ≤ k + 1 ∧ (runStep v s z).2 ≤ k + 1 := by
        unfold runStep; dsimp only
        by_cases h : z = v
        · rw [if_pos h]; omega
        · rw [if_neg h]; omega
      have := ih (runStep v s z) (k + 1) h3.1 h3.2
      simp only [List.foldl_cons, List.length_cons]; omega
  have := key zs (0, 0) 0 (Nat.le_refl _) (Nat.le_refl _)
  simpa [runSt] using this
theorem run_ok {h : AHeap} {q : Option Addr} {n c : Nat} {v : Int} {zs : List Int} (hf : firstV 1 h n (.slice q n c) = some (bR zs)) (hn : n ≤ 1152921504606846976) :
    Valid Tryd.prog 29 [.slice q n c, .int .u8 v] h fun r h' => r = .int .i64 ((runSt v zs).1 : Nat) ∧ h' = h := by
  refine v29 (by simp) ?_
  have hzl := firstV_len hf
  rw [bR_len, Nat.mul_one] at hzl
  simp only [X29, sx, x_box, x_alloc, x_bslice, x_slice, x_append, x_appz, x_b2s, x_s2b, x_mark, xop, ev, evs, evParts, fillL, cellsL, Ai.get, Ai.put, stab, isNil?, if_false, if_true, addr?, int?, str?, agg?, bool?, shiftA, FnPost, xresL, xres1, tup, argEnv, ptr, Nat.reduceEqDiff, reduceIte, beq_self_eq_true, ne_eq, Nat.reduceAdd, Nat.reduceMul, Nat.reduceSub, abin_shl, abin_shr, load1V, loadV, storeV, cellsAt, getN, setN, allocV, lenL, lenS, bnd, oneC, Value.oneCell', Nat.reduceLeDiff, Nat.reduceLT, exists_eq_left', forall_const, reduceCtorEq, app_new, app_new0, List.append_assoc, Int.reduceToNat, Int.reduceLT, Int.reduceLE, Int.reduceEq, Int.reduceNe, Int.reduceBEq, IntKind.bits, bne_self_eq_false, Int.reducePow]
  refine xcode_loop (fun m ρ h' => ∃ i, i + m = n ∧ get ρ 11 = some (.int .i64 (i : Nat)) ∧ get ρ 10 = some (.int .i64 (n : Nat)) ∧ get ρ 9 = some (.slice q n c) ∧ get ρ 1 = some (.int .u8 v) ∧ get ρ 5 = some (.int .i64 ((runSt v (zs.take i)).1 : Nat)) ∧ get ρ 6 = some (.int .i64 ((runSt v (zs.take i)).2 : Nat)) ∧ h' = h) n
    ⟨0, by simp, rfl, rfl, rfl, rfl, rfl, rfl, rfl⟩ ?_
  rintro m ρ h' ⟨i, him, g11, g10, g9, g1, g5, g6, rfl⟩
  by_cases hlt : i < n
  · have hlt' : (i : Int) < n := by omega
    have hge : (0 : Int) ≤ i := by omega
    have hwi : IntKind.i64.wrap ((i : Int) + 1) = ((i + 1 : Nat) : Int) := by rw [i64_wrap] <;> omega
    obtain ⟨a, o, z, rfl, a1, a2, a3, a4⟩ := elemB hf hlt
    have hsn := runSt_snoc v a4
    have hle := runSt_le v (zs.take i)
    have htl : (zs.take i).length ≤ n := by simp; omega
    generalize runSt v (zs.take i) = s at *
    obtain ⟨s1, s2⟩ := s
    simp only at g5 g6 hle
    have hw2 : IntKind.i64.wrap ((s2 : Int) + 1) = ((s2 + 1 : Nat) : Int) := by rw [i64_wrap] <;> omega
    by_cases hzv : z = v
    · have e : runStep v (s1, s2) z = (max s1 (s2 + 1), s2 + 1) := by simp [runStep, hzv]
      rw [e] at hsn
      by_cases hg : ((s2 + 1 : Nat) : Int) > (s1 : Int)
      · have hmax : max s1 (s2 + 1) = s2 + 1 := by omega
        rw [hmax] at hsn
        simp only [sx, x_box, x_alloc, x_bslice, x_slice, x_append, x_appz, x_b2s, x_s2b, x_mark, xop, ev, evs, evParts, fillL, cellsL, Ai.get, Ai.put, stab, isNil?, if_false, if_true, addr?, int?, str?, agg?, bool?, shiftA, FnPost, xresL, xres1, tup, argEnv, ptr, Nat.reduceEqDiff, reduceIte, beq_self_eq_true, ne_eq, Nat.reduceAdd, Nat.reduceMul, Nat.reduceSub, abin_shl, abin_shr, load1V, loadV, storeV, cellsAt, getN, setN, allocV, lenL, lenS, bnd, oneC, Value.oneCell', Nat.reduceLeDiff, Nat.reduceLT, exists_eq_left', forall_const, reduceCtorEq, app_new, app_new0, List.append_assoc, Int.reduceToNat, Int.reduceLT, Int.reduceLE, Int.reduceEq, Int.reduceNe, Int.reduceBEq, IntKind.bits, bne_self_eq_false, Int.reducePow, g11, g10, g9, g1, g5, g6, hlt', hge, a1, a2, a3, Nat.mul_one, hw2, hzv, List.foldlM_cons, List.foldlM_nil, hg, hwi]
        refine ⟨m - 1, by omega, i + 1, by omega, rfl, ?_⟩
        rw [hsn]; simp
      · have hmax : max s1 (s2 + 1) = s1 := by omega
        rw [hmax] at hsn
        simp only [sx, x_box, x_alloc, x_bslice, x_slice, x_append, x_appz, x_b2s, x_s2b, x_mark, xop, ev, evs, evParts, fillL, cellsL, Ai.get, Ai.put, stab, isNil?, if_false, if_true, addr?, int?, str?, agg?, bool?, shiftA, FnPost, xresL, xres1, tup, argEnv, ptr, Nat.reduceEqDiff, reduceIte, beq_self_eq_true, ne_eq, Nat.reduceAdd, Nat.reduceMul, Nat.reduceSub, abin_shl, abin_shr, load1V, loadV, storeV, cellsAt, getN, setN, allocV, lenL, lenS, bnd, oneC, Value.oneCell', Nat.reduceLeDiff, Nat.reduceLT, exists_eq_left', forall_const, reduceCtorEq, app_new, app_new0, List.append_assoc, Int.reduceToNat, Int.reduceLT, Int.reduceLE, Int.reduceEq, Int.reduceNe, Int.reduceBEq, IntKind.bits, bne_self_eq_false, Int.reducePow, g11, g10, g9, g1, g5, g6, hlt', hge, a1, a2, a3, Nat.mul_one, hw2, hzv, List.foldlM_cons, List.foldlM_nil, hg, hwi]
        refine ⟨m - 1, by omega, i + 1, by omega, rfl, ?_⟩
        rw [hsn]; simp
    · have e : runStep v (s1, s2) z = (s1, 0) := by simp [runStep, hzv]
      rw [e] at hsn
      have hg : ¬ (0 : Int) > (s1 : Int) := by omega
      simp only [sx, x_box, x_alloc, x_bslice, x_slice, x_append, x_appz, x_b2s, x_s2b, x_mark, xop, ev, evs, evParts, fillL, cellsL, Ai.get, Ai.put, stab, isNil?, if_false, if_true, addr?, int?, str?, agg?, bool?, shiftA, FnPost, xresL, xres1, tup, argEnv, ptr, Nat.reduceEqDiff, reduceIte, beq_self_eq_true, ne_eq, Nat.reduceAdd, Nat.reduceMul, Nat.reduceSub, abin_shl, abin_shr, load1V, loadV, storeV, cellsAt, getN, setN, allocV, lenL, lenS, bnd, oneC, Value.oneCell', Nat.reduceLeDiff, Nat.reduceLT, exists_eq_left', forall_const, reduceCtorEq, app_new, app_new0, List.append_assoc, Int.reduceToNat, Int.reduceLT, Int.reduceLE, Int.reduceEq, Int.reduceNe, Int.reduceBEq, IntKind.bits, bne_self_eq_false, Int.reducePow, g11, g10, g9, g1, g5, g6, hlt', hge, a1, a2, a3, Nat.mul_one, hw2, hzv, List.foldlM_cons, List.foldlM_nil, hg, hwi]
      refine ⟨m - 1, by omega, i + 1, by omega, rfl, ?_⟩
      rw [hsn]; simp
  · have hlt' : ¬ (i : Int) < n := by omega
    have ht : zs.take i = zs := by rw [show i = zs.length by omega, List.take_length]
    rw [ht] at g5
    simp only [sx, x_box, x_alloc, x_bslice, x_slice, x_append, x_appz, x_b2s, x_s2b, x_mark, xop, ev, evs, evParts, fillL, cellsL, Ai.get, Ai.put, stab, isNil?, if_false, if_true, addr?, int?, str?, agg?, bool?, shiftA, FnPost, xresL, xres1, tup, argEnv, ptr, Nat.reduceEqDiff, reduceIte, beq_self_eq_true, ne_eq, Nat.reduceAdd, Nat.reduceMul, Nat.reduceSub, abin_shl, abin_shr, load1V, loadV, storeV, cellsAt, getN, setN, allocV, lenL, lenS, bnd, oneC, Value.oneCell', Nat.reduceLeDiff, Nat.reduceLT, exists_eq_left', forall_const, reduceCtorEq, app_new, app_new0, List.append_assoc, Int.reduceToNat, Int.reduceLT, Int.reduceLE, Int.reduceEq, Int.reduceNe, Int.reduceBEq, IntKind.bits, bne_self_eq_false, Int.reducePow, g11, g10, g9, g1, g5, g6, hlt']
theorem rcheck_ok {h : AHeap} {q : Option Addr} {n c : Nat} {zs : List Int} (hf : firstV 1 h n (.slice q n c) = some (bR zs)) (hn : n ≤ 1152921504606846976) :
    Valid Tryd.prog 24 [.slice q n c] h fun r h' => r = .int .i64 (checkV zs) ∧ h' = h := by
  refine v24 (by simp) ?_
  have hl := firstV_len hf
  rw [bR_len, Nat.mul_one] at hl
  unfold checkV
  rw [hl]
  by_cases hb : 1048576 < n
  · have hb' : (1048576 : Int) < n := by omega
    simp [X24, sx, x_box, x_alloc, x_bslice, x_slice, x_append, x_appz, x_b2s, x_s2b, x_mark, xop, ev, evs, evParts, fillL, cellsL, Ai.get, Ai.put, stab, isNil?, if_false, if_true, addr?, int?, str?, agg?, bool?, shiftA, FnPost, xresL, xres1, tup, argEnv, ptr, Nat.reduceEqDiff, reduceIte, beq_self_eq_true, ne_eq, Nat.reduceAdd, Nat.reduceMul, Nat.reduceSub, abin_shl, abin_shr, load1V, loadV, storeV, cellsAt, getN, setN, allocV, lenL, lenS, bnd, oneC, Value.oneCell', Nat.reduceLeDiff, Nat.reduceLT, exists_eq_left', forall_const, reduceCtorEq, app_new, app_new0, List.append_assoc, Int.reduceToNat, Int.reduceLT, Int.reduceLE, Int.reduceEq, Int.reduceNe, Int.reduceBEq, IntKind.bits, bne_self_eq_false, Int.reducePow, hb, hb']
  · have hb' : ¬ (1048576 : Int) < n := by omega
    simp only [X24, sx, x_box, x_alloc, x_bslice, x_slice, x_append, x_appz, x_b2s, x_s2b, x_mark, xop, ev, evs, evParts, fillL, cellsL, Ai.get, Ai.put, stab, isNil?, if_false, if_true, addr?, int?, str?, agg?, bool?, shiftA, FnPost, xresL, xres1, tup, argEnv, ptr, Nat.reduceEqDiff, reduceIte, beq_self_eq_true, ne_eq, Nat.reduceAdd, Nat.reduceMul, Nat.reduceSub, abin_shl, abin_shr, load1V, loadV, storeV, cellsAt, getN, setN, allocV, lenL, lenS, bnd, oneC, Value.oneCell', Nat.reduceLeDiff, Nat.reduceLT, exists_eq_left', forall_const, reduceCtorEq, app_new, app_new0, List.append_assoc, Int.reduceToNat, Int.reduceLT, Int.reduceLE, Int.reduceEq, Int.reduceNe, Int.reduceBEq, IntKind.bits, bne_self_eq_false, Int.reducePow, hb', hb]
    refine xcode_loop (fun m ρ h' => ∃ i, i + m = n ∧ get ρ 3 = some (.int .i64 (i : Nat)) ∧ get ρ 0 = some (.slice q n c) ∧ h' = h ∧ ∀ j (z : Int), j < i → zs[j]? = some z → ¬ 1 < z) n ⟨0, by simp, rfl, rfl, rfl, fun j z h => by omega⟩ ?_
    rintro m ρ h' ⟨i, him, g3, g0, rfl, hp⟩
    by_cases hlt : i < n
    · have hlt' : (i : Int) < n := by omega
      have hge : (0 : Int) ≤ i := by omega
      have hw : IntKind.i64.wrap ((i : Int) + 1) = ((i + 1 : Nat) : Int) := by rw [i64_wrap] <;> omega
      obtain ⟨a, o, z, rfl, a1, a2, a3, a4⟩ := elemB hf hlt
      by_cases hz : 1 < z
      · have e : ∃ z ∈ zs, 1 < z := ⟨z, List.mem_of_getElem? a4, hz⟩
        simp only [sx, x_box, x_alloc, x_bslice, x_slice, x_append, x_appz, x_b2s, x_s2b, x_mark, xop, ev, evs, evParts, fillL, cellsL, Ai.get, Ai.put, stab, isNil?, if_false, if_true, addr?, int?, str?, agg?, bool?, shiftA, FnPost, xresL, xres1, tup, argEnv, ptr, Nat.reduceEqDiff, reduceIte, beq_self_eq_true, ne_eq, Nat.reduceAdd, Nat.reduceMul, Nat.reduceSub, abin_shl, abin_shr, load1V, loadV, storeV, cellsAt, getN, setN, allocV, lenL, lenS, bnd, oneC, Value.oneCell', Nat.reduceLeDiff, Nat.reduceLT, exists_eq_left', forall_const, reduceCtorEq, app_new, app_new0, List.append_assoc, Int.reduceToNat, Int.reduceLT, Int.reduceLE, Int.reduceEq, Int.reduceNe, Int.reduceBEq, IntKind.bits, bne_self_eq_false, Int.reducePow, g3, g0, hlt', hge, a1, a2, a3, Nat.mul_one, hz, e]
      · simp only [sx, x_box, x_alloc, x_bslice, x_slice, x_append, x_appz, x_b2s, x_s2b, x_mark, xop, ev, evs, evParts, fillL, cellsL, Ai.get, Ai.put, stab, isNil?, if_false, if_true, addr?, int?, str?, agg?, bool?, shiftA, FnPost, xresL, xres1, tup, argEnv, ptr, Nat.reduceEqDiff, reduceIte, beq_self_eq_true, ne_eq, Nat.reduceAdd, Nat.reduceMul, Nat.reduceSub, abin_shl, abin_shr, load1V, loadV, storeV, cellsAt, getN, setN, allocV, lenL, lenS, bnd, oneC, Value.oneCell', Nat.reduceLeDiff, Nat.reduceLT, exists_eq_left', forall_const, reduceCtorEq, app_new, app_new0, List.append_assoc, Int.reduceToNat, Int.reduceLT, Int.reduceLE, Int.reduceEq, Int.reduceNe, Int.reduceBEq, IntKind.bits, bne_self_eq_false, Int.reducePow, g3, g0, hlt', hge, a1, a2, a3, Nat.mul_one, hz, hw]
        refine ⟨m - 1, by omega, i + 1, by omega, rfl, fun j y hj hy => ?_⟩
        rcases Nat.lt_or_ge j i with h | h
        · exact hp j y h hy
        · rw [show j = i by omega, a4] at hy; cases hy; exact hz
    · have hlt' : ¬ (i : Int) < n := by omega
      have e : ¬ ∃ z ∈ zs, 1 < z := by
        rintro ⟨z, hz, h1⟩
        obtain ⟨j, hj, rfl⟩ := List.mem_iff_getElem.1 hz
        exact hp j _ (by omega) (List.getElem?_eq_getElem hj) h1
      simp only [sx, x_box, x_alloc, x_bslice, x_slice, x_append, x_appz, x_b2s, x_s2b, x_mark, xop, ev, evs, evParts, fillL, cellsL, Ai.get, Ai.put, stab, isNil?, if_false, if_true, addr?, int?, str?, agg?, bool?, shiftA, FnPost, xresL, xres1, tup, argEnv, ptr, Nat.reduceEqDiff, reduceIte, beq_self_eq_true, ne_eq, Nat.reduceAdd, Nat.reduceMul, Nat.reduceSub, abin_shl, abin_shr, load1V, loadV, storeV, cellsAt, getN, setN, allocV, lenL, lenS, bnd, oneC, Value.oneCell', Nat.reduceLeDiff, Nat.reduceLT, exists_eq_left', forall_const, reduceCtorEq, app_new, app_new0, List.append_assoc, Int.reduceToNat, Int.reduceLT, Int.reduceLE, Int.reduceEq, Int.reduceNe, Int.reduceBEq, IntKind.bits, bne_self_eq_false, Int.reducePow, g3, g0, hlt', e]

end Go.Proofs.YtimfgagdfmmeeaaDoor
