import Derived.Test.YtejgaeinkojgpaaK10
set_option linter.unusedVariables false
set_option linter.unusedSimpArgs false
namespace Go.Proofs.Ytejgaeinkojgpaa
open Go Go.Ai Go.Proofs

def bitC (b : Bool) : UInt8 := if b then 49 else 48
def bitS (bs : List Bool) : ByteArray := ⟨(bs.map bitC).toArray⟩
theorem bitS_len (bs : List Bool) : (bitS bs).size = bs.length := by simp [bitS, ByteArray.size]
theorem bitS_snoc (bs : List Bool) (b : Bool) : bitS (bs ++ [b]) = bitS bs ++ ⟨#[bitC b]⟩ := by
  apply ByteArray.ext
  simp [bitS, ByteArray.data_append]
theorem bitC_inj {a b : Bool} (h : bitC a = bitC b) : a = b := by cases a <;> cases b <;> first | rfl | exact absurd h (by decide)
theorem bitS_list (bs : List Bool) : (bitS bs).toList = bs.map bitC := by
  rw [ByteArray.toList_eq]; simp [bitS]
theorem bitS_eq {a b : List Bool} : ((bitS a).toList == (bitS b).toList) = decide (a = b) := by
  rw [bitS_list, bitS_list]
  by_cases e : a = b
  · subst e; simp
  · have : ¬ (a.map bitC = b.map bitC) := fun h => e (List.map_inj_right (fun x y => bitC_inj) |>.1 h)
    simp [e, this]
theorem abin_cat {s t : ByteArray} (h : s.size + t.size ≤ 9223372036854775807) : abin .add (.string s) (.string t) = some (.string (s ++ t)) := by
  have h' : ¬ (9223372036854775807 : Int) < (s.size : Int) + (t.size : Int) := by omega
  simp [abin, binOp, Op.stringOp, semVal, pure, h']
def TxI (h0 : AHeap) (q : Option Addr) (c : Nat) (bs : List Bool) (m : Nat) (ρ : Env) (h : AHeap) : Prop := ∃ i, i + m = bs.length ∧ get ρ 4 = some (.int .i64 (i : Nat)) ∧ get ρ 3 = some (.string (bitS (bs.take i))) ∧ get ρ 0 = some (.slice q bs.length c) ∧ h = h0
theorem text_ok {h : AHeap} {v : Value} {bs : List Bool} (B : BitsV h v bs) (hn : bs.length ≤ 1000000) : Valid Try.prog 26 [v] h fun r h' => r = .string (bitS bs) ∧ h' = h := by
  refine v26 (by simp) ?_
  obtain ⟨q, c, rfl⟩ := B.shape
  simp only [X26, sx, x_box, x_alloc, x_bslice, x_slice, x_append, x_appz, x_b2s, xop, ev, evs, evParts, fillL, cellsL, Ai.get, Ai.put, stab, isNil?, if_false, if_true, addr?, int?, str?, agg?, bool?, shiftA, FnPost, xresL, xres1, tup, argEnv, ptr, Nat.reduceEqDiff, reduceIte, beq_self_eq_true, ne_eq, Nat.reduceAdd, Nat.reduceMul, Nat.reduceSub, abin_shl, abin_shr, load1V, loadV, storeV, cellsAt, getN, setN, allocV, lenL, lenS, bnd, oneC, Value.oneCell', Nat.reduceLeDiff, Nat.reduceLT, exists_eq_left', forall_const, reduceCtorEq, app_new, app_new0, List.append_assoc, Int.reduceToNat, Int.reduceLT, Int.reduceLE, Int.reduceEq, Int.reduceNe, Int.reduceBEq, IntKind.bits, bne_self_eq_false, Int.reducePow]
  refine xcode_loop (TxI h q c bs) bs.length ⟨0, by omega, rfl, rfl, rfl, rfl⟩ ?_
  rintro m ρ h1 ⟨i, him, g4, g3, g0, rfl⟩
  by_cases hlt : i < bs.length
  · have hlt' : (i : Int) < bs.length := by omega
    have hge : (0 : Int) ≤ i := by omega
    have hwi : IntKind.i64.wrap ((i : Int) + 1) = ((i + 1 : Nat) : Int) := by rw [i64_wrap] <;> omega
    have eb := List.getElem?_eq_getElem hlt
    generalize bs[i] = b at eb
    obtain ⟨-, a, cs, rfl, a1, a2, a3⟩ := B.elem eb
    have hsz : (bitS (bs.take i)).size + 1 ≤ 9223372036854775807 := by rw [bitS_len, List.length_take]; omega
    have ht : bitS (bs.take (i + 1)) = bitS (bs.take i) ++ ⟨#[bitC b]⟩ := by
      rw [List.take_add_one, eb]; exact bitS_snoc _ _
    have c1 : abin .add (.string (bitS (bs.take i))) (.string ⟨#[49]⟩) = some (.string (bitS (bs.take i) ++ ⟨#[49]⟩)) := abin_cat hsz
    have c0 : abin .add (.string (bitS (bs.take i))) (.string ⟨#[48]⟩) = some (.string (bitS (bs.take i) ++ ⟨#[48]⟩)) := abin_cat hsz
    cases b
    · simp only [sx, x_box, x_alloc, x_bslice, x_slice, x_append, x_appz, x_b2s, xop, ev, evs, evParts, fillL, cellsL, Ai.get, Ai.put, stab, isNil?, if_false, if_true, addr?, int?, str?, agg?, bool?, shiftA, FnPost, xresL, xres1, tup, argEnv, ptr, Nat.reduceEqDiff, reduceIte, beq_self_eq_true, ne_eq, Nat.reduceAdd, Nat.reduceMul, Nat.reduceSub, abin_shl, abin_shr, load1V, loadV, storeV, cellsAt, getN, setN, allocV, lenL, lenS, bnd, oneC, Value.oneCell', Nat.reduceLeDiff, Nat.reduceLT, exists_eq_left', forall_const, reduceCtorEq, app_new, app_new0, List.append_assoc, Int.reduceToNat, Int.reduceLT, Int.reduceLE, Int.reduceEq, Int.reduceNe, Int.reduceBEq, IntKind.bits, bne_self_eq_false, Int.reducePow, g4, g3, g0, hlt', hge, a1, a2, a3, Nat.mul_one, hwi, c0, c1]
      exact ⟨m - 1, by omega, i + 1, by omega, rfl, by rw [ht]; rfl, g0, rfl⟩
    · simp only [sx, x_box, x_alloc, x_bslice, x_slice, x_append, x_appz, x_b2s, xop, ev, evs, evParts, fillL, cellsL, Ai.get, Ai.put, stab, isNil?, if_false, if_true, addr?, int?, str?, agg?, bool?, shiftA, FnPost, xresL, xres1, tup, argEnv, ptr, Nat.reduceEqDiff, reduceIte, beq_self_eq_true, ne_eq, Nat.reduceAdd, Nat.reduceMul, Nat.reduceSub, abin_shl, abin_shr, load1V, loadV, storeV, cellsAt, getN, setN, allocV, lenL, lenS, bnd, oneC, Value.oneCell', Nat.reduceLeDiff, Nat.reduceLT, exists_eq_left', forall_const, reduceCtorEq, app_new, app_new0, List.append_assoc, Int.reduceToNat, Int.reduceLT, Int.reduceLE, Int.reduceEq, Int.reduceNe, Int.reduceBEq, IntKind.bits, bne_self_eq_false, Int.reducePow, g4, g3, g0, hlt', hge, a1, a2, a3, Nat.mul_one, hwi, c0, c1]
      exact ⟨m - 1, by omega, i + 1, by omega, rfl, by rw [ht]; rfl, g0, rfl⟩
  · have hlt' : ¬ (i : Int) < bs.length := by omega
    simp only [sx, x_box, x_alloc, x_bslice, x_slice, x_append, x_appz, x_b2s, xop, ev, evs, evParts, fillL, cellsL, Ai.get, Ai.put, stab, isNil?, if_false, if_true, addr?, int?, str?, agg?, bool?, shiftA, FnPost, xresL, xres1, tup, argEnv, ptr, Nat.reduceEqDiff, reduceIte, beq_self_eq_true, ne_eq, Nat.reduceAdd, Nat.reduceMul, Nat.reduceSub, abin_shl, abin_shr, load1V, loadV, storeV, cellsAt, getN, setN, allocV, lenL, lenS, bnd, oneC, Value.oneCell', Nat.reduceLeDiff, Nat.reduceLT, exists_eq_left', forall_const, reduceCtorEq, app_new, app_new0, List.append_assoc, Int.reduceToNat, Int.reduceLT, Int.reduceLE, Int.reduceEq, Int.reduceNe, Int.reduceBEq, IntKind.bits, bne_self_eq_false, Int.reducePow, g4, g3, g0, hlt']
    rw [List.take_of_length_le (by omega)]
/-- equal messages -/
def SmP (h : AHeap) (a b : Ms) (r : Value) (h' : AHeap) : Prop := Kp h h' ∧ ∃ t, r = .bool t ∧ (t = true ↔ a = b)
theorem Ms.ext_iff' {a b : Ms} : a = b ↔ a.kind = b.kind ∧ a.serial = b.serial ∧ a.first = b.first ∧ a.mask = b.mask ∧ a.on = b.on := by
  cases a; cases b; simp
set_option maxHeartbeats 4000000 in
theorem same_ok {h : AHeap} {v w : Value} {a b : Ms} (ha : MV h v a) (hb : MV h w b) (h1 : a.mask.length ≤ 1000000) (h2 : a.on.length ≤ 1000000) (h3 : b.mask.length ≤ 1000000) (h4 : b.on.length ≤ 1000000) : Valid Try.prog 17 [v, w] h fun r h' => SmP h a b r h' := by
  refine v17 (by simp) ?_
  obtain ⟨am, ao, rfl, AM, AO⟩ := ha
  obtain ⟨bm, bo, rfl, BM, BO⟩ := hb
  simp only [X17, Ms.cells, sx, x_alloc, x_bslice, x_slice, x_append, x_appz, x_b2s, xop, ev, evs, evParts, fillL, cellsL, Ai.get, Ai.put, stab, isNil?, if_false, if_true, addr?, int?, str?, agg?, bool?, shiftA, FnPost, xresL, xres1, tup, argEnv, ptr, Nat.reduceEqDiff, reduceIte, beq_self_eq_true, ne_eq, Nat.reduceAdd, Nat.reduceMul, Nat.reduceSub, abin_shl, abin_shr, load1V, loadV, storeV, cellsAt, getN, setN, allocV, lenL, lenS, bnd, oneC, Value.oneCell', Nat.reduceLeDiff, Nat.reduceLT, exists_eq_left', forall_const, reduceCtorEq, app_new, app_new0, List.append_assoc, Int.reduceToNat, Int.reduceLT, Int.reduceLE, Int.reduceEq, Int.reduceNe, Int.reduceBEq, IntKind.bits, bne_self_eq_false, Int.reducePow]
  refine box_run rfl fun g1 R K1 hR hRl _ => ⟨trivial, ?_⟩
  simp only [sx, x_alloc, x_bslice, x_slice, x_append, x_appz, x_b2s, xop, ev, evs, evParts, fillL, cellsL, Ai.get, Ai.put, stab, isNil?, if_false, if_true, addr?, int?, str?, agg?, bool?, shiftA, FnPost, xresL, xres1, tup, argEnv, ptr, Nat.reduceEqDiff, reduceIte, beq_self_eq_true, ne_eq, Nat.reduceAdd, Nat.reduceMul, Nat.reduceSub, abin_shl, abin_shr, load1V, loadV, storeV, cellsAt, getN, setN, allocV, lenL, lenS, bnd, oneC, Value.oneCell', Nat.reduceLeDiff, Nat.reduceLT, exists_eq_left', forall_const, reduceCtorEq, app_new, app_new0, List.append_assoc, Int.reduceToNat, Int.reduceLT, Int.reduceLE, Int.reduceEq, Int.reduceNe, Int.reduceBEq, IntKind.bits, bne_self_eq_false, Int.reducePow]
  refine box_run rfl fun g2 S K2 hS hSl _ => ⟨trivial, ?_⟩
  simp only [cellsL] at hR hS
  have hR2 := K2.get hR
  have KK := K1.trans K2
  have no : ¬ a = b → SmP h a b (.bool false) g2 := fun hn => ⟨KK, _, rfl, Iff.intro (fun h => by cases h) (fun h => absurd h hn)⟩
  by_cases e1 : a.kind = b.kind
  rotate_left
  · simp only [sx, x_box, x_alloc, x_bslice, x_slice, x_append, x_appz, x_b2s, xop, ev, evs, evParts, fillL, cellsL, Ai.get, Ai.put, stab, isNil?, if_false, if_true, addr?, int?, str?, agg?, bool?, shiftA, FnPost, xresL, xres1, tup, argEnv, ptr, Nat.reduceEqDiff, reduceIte, beq_self_eq_true, ne_eq, Nat.reduceAdd, Nat.reduceMul, Nat.reduceSub, abin_shl, abin_shr, load1V, loadV, storeV, cellsAt, getN, setN, allocV, lenL, lenS, bnd, oneC, Value.oneCell', Nat.reduceLeDiff, Nat.reduceLT, exists_eq_left', forall_const, reduceCtorEq, app_new, app_new0, List.append_assoc, Int.reduceToNat, Int.reduceLT, Int.reduceLE, Int.reduceEq, Int.reduceNe, Int.reduceBEq, IntKind.bits, bne_self_eq_false, Int.reducePow, hR2, hS, e1]
    exact no fun h => e1 (by rw [h])
  by_cases e2 : a.serial = b.serial
  rotate_left
  · simp only [sx, x_box, x_alloc, x_bslice, x_slice, x_append, x_appz, x_b2s, xop, ev, evs, evParts, fillL, cellsL, Ai.get, Ai.put, stab, isNil?, if_false, if_true, addr?, int?, str?, agg?, bool?, shiftA, FnPost, xresL, xres1, tup, argEnv, ptr, Nat.reduceEqDiff, reduceIte, beq_self_eq_true, ne_eq, Nat.reduceAdd, Nat.reduceMul, Nat.reduceSub, abin_shl, abin_shr, load1V, loadV, storeV, cellsAt, getN, setN, allocV, lenL, lenS, bnd, oneC, Value.oneCell', Nat.reduceLeDiff, Nat.reduceLT, exists_eq_left', forall_const, reduceCtorEq, app_new, app_new0, List.append_assoc, Int.reduceToNat, Int.reduceLT, Int.reduceLE, Int.reduceEq, Int.reduceNe, Int.reduceBEq, IntKind.bits, bne_self_eq_false, Int.reducePow, hR2, hS, e1, e2]
    exact no fun h => e2 (by rw [h])
  by_cases e3 : a.first = b.first
  rotate_left
  · simp only [sx, x_box, x_alloc, x_bslice, x_slice, x_append, x_appz, x_b2s, xop, ev, evs, evParts, fillL, cellsL, Ai.get, Ai.put, stab, isNil?, if_false, if_true, addr?, int?, str?, agg?, bool?, shiftA, FnPost, xresL, xres1, tup, argEnv, ptr, Nat.reduceEqDiff, reduceIte, beq_self_eq_true, ne_eq, Nat.reduceAdd, Nat.reduceMul, Nat.reduceSub, abin_shl, abin_shr, load1V, loadV, storeV, cellsAt, getN, setN, allocV, lenL, lenS, bnd, oneC, Value.oneCell', Nat.reduceLeDiff, Nat.reduceLT, exists_eq_left', forall_const, reduceCtorEq, app_new, app_new0, List.append_assoc, Int.reduceToNat, Int.reduceLT, Int.reduceLE, Int.reduceEq, Int.reduceNe, Int.reduceBEq, IntKind.bits, bne_self_eq_false, Int.reducePow, hR2, hS, e1, e2, e3]
    exact no fun h => e3 (by rw [h])
  simp only [sx, x_box, x_alloc, x_bslice, x_slice, x_append, x_appz, x_b2s, xop, ev, evs, evParts, fillL, cellsL, Ai.get, Ai.put, stab, isNil?, if_false, if_true, addr?, int?, str?, agg?, bool?, shiftA, FnPost, xresL, xres1, tup, argEnv, ptr, Nat.reduceEqDiff, reduceIte, beq_self_eq_true, ne_eq, Nat.reduceAdd, Nat.reduceMul, Nat.reduceSub, abin_shl, abin_shr, load1V, loadV, storeV, cellsAt, getN, setN, allocV, lenL, lenS, bnd, oneC, Value.oneCell', Nat.reduceLeDiff, Nat.reduceLT, exists_eq_left', forall_const, reduceCtorEq, app_new, app_new0, List.append_assoc, Int.reduceToNat, Int.reduceLT, Int.reduceLE, Int.reduceEq, Int.reduceNe, Int.reduceBEq, IntKind.bits, bne_self_eq_false, Int.reducePow, hR2, hS, e1, e2, e3]
  refine xcall (text_ok (AM.frz KK.frz) h1) (by rfl) (by rfl) (by rfl) (by rfl) ?_
  rintro r g3 ⟨rfl, rfl⟩
  simp only [sx, x_box, x_alloc, x_bslice, x_slice, x_append, x_appz, x_b2s, xop, ev, evs, evParts, fillL, cellsL, Ai.get, Ai.put, stab, isNil?, if_false, if_true, addr?, int?, str?, agg?, bool?, shiftA, FnPost, xresL, xres1, tup, argEnv, ptr, Nat.reduceEqDiff, reduceIte, beq_self_eq_true, ne_eq, Nat.reduceAdd, Nat.reduceMul, Nat.reduceSub, abin_shl, abin_shr, load1V, loadV, storeV, cellsAt, getN, setN, allocV, lenL, lenS, bnd, oneC, Value.oneCell', Nat.reduceLeDiff, Nat.reduceLT, exists_eq_left', forall_const, reduceCtorEq, app_new, app_new0, List.append_assoc, Int.reduceToNat, Int.reduceLT, Int.reduceLE, Int.reduceEq, Int.reduceNe, Int.reduceBEq, IntKind.bits, bne_self_eq_false, Int.reducePow, hR2, hS]
  refine xcall (text_ok (BM.frz KK.frz) h3) (by rfl) (by rfl) (by rfl) (by rfl) ?_
  rintro r g4 ⟨rfl, rfl⟩
  by_cases e4 : a.mask = b.mask
  rotate_left
  · have d4 : ((bitS a.mask).toList == (bitS b.mask).toList) = false := by rw [bitS_eq]; simp [e4]
    simp only [sx, x_box, x_alloc, x_bslice, x_slice, x_append, x_appz, x_b2s, xop, ev, evs, evParts, fillL, cellsL, Ai.get, Ai.put, stab, isNil?, if_false, if_true, addr?, int?, str?, agg?, bool?, shiftA, FnPost, xresL, xres1, tup, argEnv, ptr, Nat.reduceEqDiff, reduceIte, beq_self_eq_true, ne_eq, Nat.reduceAdd, Nat.reduceMul, Nat.reduceSub, abin_shl, abin_shr, load1V, loadV, storeV, cellsAt, getN, setN, allocV, lenL, lenS, bnd, oneC, Value.oneCell', Nat.reduceLeDiff, Nat.reduceLT, exists_eq_left', forall_const, reduceCtorEq, app_new, app_new0, List.append_assoc, Int.reduceToNat, Int.reduceLT, Int.reduceLE, Int.reduceEq, Int.reduceNe, Int.reduceBEq, IntKind.bits, bne_self_eq_false, Int.reducePow, hR2, hS, d4]
    exact no fun h => e4 (by rw [h])
  have d4 : ((bitS a.mask).toList == (bitS b.mask).toList) = true := by rw [bitS_eq]; simp [e4]
  simp only [sx, x_box, x_alloc, x_bslice, x_slice, x_append, x_appz, x_b2s, xop, ev, evs, evParts, fillL, cellsL, Ai.get, Ai.put, stab, isNil?, if_false, if_true, addr?, int?, str?, agg?, bool?, shiftA, FnPost, xresL, xres1, tup, argEnv, ptr, Nat.reduceEqDiff, reduceIte, beq_self_eq_true, ne_eq, Nat.reduceAdd, Nat.reduceMul, Nat.reduceSub, abin_shl, abin_shr, load1V, loadV, storeV, cellsAt, getN, setN, allocV, lenL, lenS, bnd, oneC, Value.oneCell', Nat.reduceLeDiff, Nat.reduceLT, exists_eq_left', forall_const, reduceCtorEq, app_new, app_new0, List.append_assoc, Int.reduceToNat, Int.reduceLT, Int.reduceLE, Int.reduceEq, Int.reduceNe, Int.reduceBEq, IntKind.bits, bne_self_eq_false, Int.reducePow, hR2, hS, d4]
  refine xcall (text_ok (AO.frz KK.frz) h2) (by rfl) (by rfl) (by rfl) (by rfl) ?_
  rintro r g5 ⟨rfl, rfl⟩
  simp only [sx, x_box, x_alloc, x_bslice, x_slice, x_append, x_appz, x_b2s, xop, ev, evs, evParts, fillL, cellsL, Ai.get, Ai.put, stab, isNil?, if_false, if_true, addr?, int?, str?, agg?, bool?, shiftA, FnPost, xresL, xres1, tup, argEnv, ptr, Nat.reduceEqDiff, reduceIte, beq_self_eq_true, ne_eq, Nat.reduceAdd, Nat.reduceMul, Nat.reduceSub, abin_shl, abin_shr, load1V, loadV, storeV, cellsAt, getN, setN, allocV, lenL, lenS, bnd, oneC, Value.oneCell', Nat.reduceLeDiff, Nat.reduceLT, exists_eq_left', forall_const, reduceCtorEq, app_new, app_new0, List.append_assoc, Int.reduceToNat, Int.reduceLT, Int.reduceLE, Int.reduceEq, Int.reduceNe, Int.reduceBEq, IntKind.bits, bne_self_eq_false, Int.reducePow, hR2, hS]
  refine xcall (text_ok (BO.frz KK.frz) h4) (by rfl) (by rfl) (by rfl) (by rfl) ?_
  rintro r g6 ⟨rfl, rfl⟩
  simp only [sx, x_box, x_alloc, x_bslice, x_slice, x_append, x_appz, x_b2s, xop, ev, evs, evParts, fillL, cellsL, Ai.get, Ai.put, stab, isNil?, if_false, if_true, addr?, int?, str?, agg?, bool?, shiftA, FnPost, xresL, xres1, tup, argEnv, ptr, Nat.reduceEqDiff, reduceIte, beq_self_eq_true, ne_eq, Nat.reduceAdd, Nat.reduceMul, Nat.reduceSub, abin_shl, abin_shr, load1V, loadV, storeV, cellsAt, getN, setN, allocV, lenL, lenS, bnd, oneC, Value.oneCell', Nat.reduceLeDiff, Nat.reduceLT, exists_eq_left', forall_const, reduceCtorEq, app_new, app_new0, List.append_assoc, Int.reduceToNat, Int.reduceLT, Int.reduceLE, Int.reduceEq, Int.reduceNe, Int.reduceBEq, IntKind.bits, bne_self_eq_false, Int.reducePow, hR2, hS, bitS_eq]
  refine ⟨KK, _, rfl, ?_⟩
  rw [decide_eq_true_eq, Ms.ext_iff']
  exact ⟨fun h => ⟨e1, e2, e3, e4, h⟩, fun h => h.2.2.2.2⟩
end Go.Proofs.Ytejgaeinkojgpaa
