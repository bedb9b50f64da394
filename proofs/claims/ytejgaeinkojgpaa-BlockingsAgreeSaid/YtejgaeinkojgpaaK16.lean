import Derived.Test.YtejgaeinkojgpaaK15
set_option linter.unusedVariables false
set_option linter.unusedSimpArgs false
namespace Go.Proofs.Ytejgaeinkojgpaa
open Go Go.Ai Go.Proofs

def d0 : DK := DK.fresh (List.replicate 40 ⟨false, false⟩) 9
def dA : DK := d0.setAll true [3, 5, 39]
def mA : Ms := ⟨1, 1, 3, [true, false, true], [true, false, true]⟩
theorem dA_out : dA.out = [mA] := by kernel_rfl
def dB : DK := DK.setAll { dA with out := [] } false [5]
theorem dB_out : dB.out = [] := by kernel_rfl
def dC : DK := dB.ackd 1
def mB : Ms := ⟨1, 2, 5, [true], [false]⟩
theorem dC_out : dC.out = [mB] := by kernel_rfl
theorem dA_in : ([3, 5, 39] : List Int).all (inR d0.cs.length) = true := by kernel_rfl
theorem dB_in : inR (DK.cs { dA with out := [] }).length 5 = true := by kernel_rfl
theorem dC_39 : DK.blkAt { dC with out := [] } false 39 = true := by kernel_rfl
theorem dC_5 : DK.blkAt { dC with out := [] } false 5 = false := by kernel_rfl
theorem mA_ok : mA.Ok := ⟨.inl rfl, by decide, rfl, .inr ⟨rfl, by decide, by decide, by decide, by decide, rfl, rfl, fun i h => by
  match i with
  | 0 => rfl
  | 1 => cases h
  | 2 => rfl
  | n + 3 => cases h⟩⟩
theorem ack_ok {s : Int} (h : s ≠ 0) : (ackM s).Ok := ⟨.inr rfl, h, rfl, .inl ⟨rfl, rfl, rfl⟩⟩
theorem ack_mv (h : AHeap) (s : Int) : MV h (.agg #[.int .u8 2, .int .u32 s, .int .i64 0, .slice none 0 0, .slice none 0 0]) (ackM s) := ⟨.slice none 0 0, .slice none 0 0, rfl, BitsV.nil _, BitsV.nil _⟩
theorem mA_enc : bN (enc mA) = [.int .u8 1, .int .u8 1, .int .u8 0, .int .u8 0, .int .u8 0, .int .u8 3, .int .u8 3, .int .u8 5, .int .u8 5] := by kernel_rfl
theorem mA_len : (enc mA).length = 9 := by kernel_rfl
set_option maxHeartbeats 8000000 in
set_option maxRecDepth 20000 in
theorem lives_ok (h : AHeap) : Valid Try.prog 9 [] h fun r h' => r = .bool true := by
  refine v9 (by simp) ?_
  simp only [X9, sx, x_box, x_alloc, x_bslice, x_slice, x_append, x_appz, x_b2s, xop, ev, evs, evParts, fillL, cellsL, Ai.get, Ai.put, stab, isNil?, if_false, if_true, addr?, int?, str?, agg?, bool?, shiftA, FnPost, xresL, xres1, tup, argEnv, ptr, Nat.reduceEqDiff, reduceIte, beq_self_eq_true, ne_eq, Nat.reduceAdd, Nat.reduceMul, Nat.reduceSub, abin_shl, abin_shr, load1V, loadV, storeV, cellsAt, getN, setN, allocV, lenL, lenS, bnd, oneC, Value.oneCell', Nat.reduceLeDiff, Nat.reduceLT, exists_eq_left', forall_const, reduceCtorEq, app_new, app_new0, List.append_assoc, Int.reduceToNat, Int.reduceLT, Int.reduceLE, Int.reduceEq, Int.reduceNe, Int.reduceBEq, IntKind.bits, bne_self_eq_false, Int.reducePow]
  refine xcall (group_ok (n := 40) (by decide) (by decide)) (by rfl) (by rfl) (by rfl) (by rfl) ?_
  rintro r h1 ⟨G, L, rfl, g, K1, hG, hL⟩
  simp only [sx, x_box, x_alloc, x_bslice, x_slice, x_append, x_appz, x_b2s, xop, ev, evs, evParts, fillL, cellsL, Ai.get, Ai.put, stab, isNil?, if_false, if_true, addr?, int?, str?, agg?, bool?, shiftA, FnPost, xresL, xres1, tup, argEnv, ptr, Nat.reduceEqDiff, reduceIte, beq_self_eq_true, ne_eq, Nat.reduceAdd, Nat.reduceMul, Nat.reduceSub, abin_shl, abin_shr, load1V, loadV, storeV, cellsAt, getN, setN, allocV, lenL, lenS, bnd, oneC, Value.oneCell', Nat.reduceLeDiff, Nat.reduceLT, exists_eq_left', forall_const, reduceCtorEq, app_new, app_new0, List.append_assoc, Int.reduceToNat, Int.reduceLT, Int.reduceLE, Int.reduceEq, Int.reduceNe, Int.reduceBEq, IntKind.bits, bne_self_eq_false, Int.reducePow]
  refine xcall (new_ok (again := 9) g) (by rfl) (by rfl) (by rfl) (by rfl) ?_
  rintro r h2 (⟨hbad, -⟩ | ⟨-, -, D, T, rfl, A0, K2, hD, hT⟩)
  · rw [isF_free] at hbad; rcases hbad with h | h <;> cases h
  have A0' : DAt h2 D G L T d0 (.pointer none) (.slice none 0 0) := A0
  clear A0
  simp only [sx, x_box, x_alloc, x_bslice, x_slice, x_append, x_appz, x_b2s, xop, ev, evs, evParts, fillL, cellsL, Ai.get, Ai.put, stab, isNil?, if_false, if_true, addr?, int?, str?, agg?, bool?, shiftA, FnPost, xresL, xres1, tup, argEnv, ptr, Nat.reduceEqDiff, reduceIte, beq_self_eq_true, ne_eq, Nat.reduceAdd, Nat.reduceMul, Nat.reduceSub, abin_shl, abin_shr, load1V, loadV, storeV, cellsAt, getN, setN, allocV, lenL, lenS, bnd, oneC, Value.oneCell', Nat.reduceLeDiff, Nat.reduceLT, exists_eq_left', forall_const, reduceCtorEq, app_new, app_new0, List.append_assoc, Int.reduceToNat, Int.reduceLT, Int.reduceLE, Int.reduceEq, Int.reduceNe, Int.reduceBEq, IntKind.bits, bne_self_eq_false, Int.reducePow]
  have K3 : Kp h2 (h2 ++ [some ⟨true, [.int .i64 3, .int .i64 5, .int .i64 39]⟩]) := Kp.app _ _
  have hB := app_one h2 (some (AObj.mk true [Value.int .i64 3, .int .i64 5, .int .i64 39]))
  have hl1 : (h2 ++ [some (AObj.mk true [Value.int .i64 3, .int .i64 5, .int .i64 39])]).length = h2.length + 1 := by simp
  have hLl := A0'.lt (i := 2) (B := L) (.inr (.inr (.inl ⟨rfl, rfl⟩)))
  generalize h2 ++ [some (AObj.mk true [Value.int .i64 3, .int .i64 5, .int .i64 39])] = h3 at *
  refine xcall (setall_ok (on := true) (zs := [3, 5, 39]) (q := some ⟨h2.length, 0, none⟩) (c := 3) (A0'.kp K3) ⟨by simp [firstV, cellsAt, hB, getN], fun a ha => by cases ha; show h2.length < _; omega⟩ (fun a ha => by cases ha; show h2.length ≠ L; omega) (by simp) (by decide)) (by rfl) (by rfl) (by rfl) (by rfl) ?_
  rintro r h4 (⟨-, rfl, W⟩ | ⟨e, -⟩)
  rotate_left
  · rw [dA_in] at e; cases e
  obtain ⟨opv, outv, A4, F4, n4⟩ := W
  have A4' : DAt h4 D G L T dA opv outv := A4
  clear A4
  simp only [sx, x_box, x_alloc, x_bslice, x_slice, x_append, x_appz, x_b2s, xop, ev, evs, evParts, fillL, cellsL, Ai.get, Ai.put, stab, isNil?, if_false, if_true, addr?, int?, str?, agg?, bool?, shiftA, FnPost, xresL, xres1, tup, argEnv, ptr, Nat.reduceEqDiff, reduceIte, beq_self_eq_true, ne_eq, Nat.reduceAdd, Nat.reduceMul, Nat.reduceSub, abin_shl, abin_shr, load1V, loadV, storeV, cellsAt, getN, setN, allocV, lenL, lenS, bnd, oneC, Value.oneCell', Nat.reduceLeDiff, Nat.reduceLT, exists_eq_left', forall_const, reduceCtorEq, app_new, app_new0, List.append_assoc, Int.reduceToNat, Int.reduceLT, Int.reduceLE, Int.reduceEq, Int.reduceNe, Int.reduceBEq, IntKind.bits, bne_self_eq_false, Int.reducePow]
  refine xcall (taken_ok A4' (by rw [dA_out]; decide)) (by rfl) (by rfl) (by rfl) (by rfl) ?_
  rintro r h5 ⟨M5, A5, o5, F5, s5⟩
  rw [dA_out] at M5
  have hr1 : ∃ q, r = .slice q 1 1 := by obtain ⟨q, _, rfl, _⟩ := M5; exact ⟨q, rfl⟩
  obtain ⟨q1, rfl⟩ := hr1
  simp only [sx, x_box, x_alloc, x_bslice, x_slice, x_append, x_appz, x_b2s, xop, ev, evs, evParts, fillL, cellsL, Ai.get, Ai.put, stab, isNil?, if_false, if_true, addr?, int?, str?, agg?, bool?, shiftA, FnPost, xresL, xres1, tup, argEnv, ptr, Nat.reduceEqDiff, reduceIte, beq_self_eq_true, ne_eq, Nat.reduceAdd, Nat.reduceMul, Nat.reduceSub, abin_shl, abin_shr, load1V, loadV, storeV, cellsAt, getN, setN, allocV, lenL, lenS, bnd, oneC, Value.oneCell', Nat.reduceLeDiff, Nat.reduceLT, exists_eq_left', forall_const, reduceCtorEq, app_new, app_new0, List.append_assoc, Int.reduceToNat, Int.reduceLT, Int.reduceLE, Int.reduceEq, Int.reduceNe, Int.reduceBEq, IntKind.bits, bne_self_eq_false, Int.reducePow]
  refine xcall (set1_ok (z := 5) (on := false) A5 (by decide)) (by rfl) (by rfl) (by rfl) (by rfl) ?_
  rintro r h6 (⟨-, rfl, W⟩ | ⟨e, -⟩)
  rotate_left
  · rw [dB_in] at e; cases e
  obtain ⟨opv6, outv6, A6, F6, n6⟩ := W
  obtain ⟨M6, o6⟩ := hold A5 o5 M5 F6 n6
  have A6' : DAt h6 D G L T dB opv6 outv6 := A6
  clear A6
  simp only [sx, x_box, x_alloc, x_bslice, x_slice, x_append, x_appz, x_b2s, xop, ev, evs, evParts, fillL, cellsL, Ai.get, Ai.put, stab, isNil?, if_false, if_true, addr?, int?, str?, agg?, bool?, shiftA, FnPost, xresL, xres1, tup, argEnv, ptr, Nat.reduceEqDiff, reduceIte, beq_self_eq_true, ne_eq, Nat.reduceAdd, Nat.reduceMul, Nat.reduceSub, abin_shl, abin_shr, load1V, loadV, storeV, cellsAt, getN, setN, allocV, lenL, lenS, bnd, oneC, Value.oneCell', Nat.reduceLeDiff, Nat.reduceLT, exists_eq_left', forall_const, reduceCtorEq, app_new, app_new0, List.append_assoc, Int.reduceToNat, Int.reduceLT, Int.reduceLE, Int.reduceEq, Int.reduceNe, Int.reduceBEq, IntKind.bits, bne_self_eq_false, Int.reducePow]
  refine xcall (hear_ok A6' (ack_mv _ 1) (by decide) (by rw [dB_out]; decide)) (by rfl) (by rfl) (by rfl) (by rfl) ?_
  rintro r h7 (⟨e, -⟩ | ⟨-, -, -, rfl, W⟩ | ⟨-, -, e, -⟩)
  · exact absurd ⟨ack_ok (by decide), by show (0 : Int) + ((0 : Nat) : Int) ≤ _; omega⟩ e
  rotate_left
  · cases e
  obtain ⟨opv7, outv7, A7, F7, n7⟩ := W
  obtain ⟨M7, o7⟩ := hold A6' o6 M6 F7 n7
  have A7' : DAt h7 D G L T dC opv7 outv7 := A7
  clear A7
  simp only [sx, x_box, x_alloc, x_bslice, x_slice, x_append, x_appz, x_b2s, xop, ev, evs, evParts, fillL, cellsL, Ai.get, Ai.put, stab, isNil?, if_false, if_true, addr?, int?, str?, agg?, bool?, shiftA, FnPost, xresL, xres1, tup, argEnv, ptr, Nat.reduceEqDiff, reduceIte, beq_self_eq_true, ne_eq, Nat.reduceAdd, Nat.reduceMul, Nat.reduceSub, abin_shl, abin_shr, load1V, loadV, storeV, cellsAt, getN, setN, allocV, lenL, lenS, bnd, oneC, Value.oneCell', Nat.reduceLeDiff, Nat.reduceLT, exists_eq_left', forall_const, reduceCtorEq, app_new, app_new0, List.append_assoc, Int.reduceToNat, Int.reduceLT, Int.reduceLE, Int.reduceEq, Int.reduceNe, Int.reduceBEq, IntKind.bits, bne_self_eq_false, Int.reducePow]
  refine xcall (taken_ok A7' (by rw [dC_out]; decide)) (by rfl) (by rfl) (by rfl) (by rfl) ?_
  rintro r h8 ⟨M8, A8, o8, F8, s8⟩
  rw [dC_out] at M8
  obtain ⟨M7b, o7b⟩ := hold (outv' := .slice none 0 0) A7' o7 M7 F8 (fun B hB => .inl (by
    obtain ⟨i, hi | hi | hi | hi | ⟨-, hi⟩⟩ := hB
    · exact ⟨i, .inl hi⟩
    · exact ⟨i, .inr (.inl hi)⟩
    · exact ⟨i, .inr (.inr (.inl hi))⟩
    · exact ⟨i, .inr (.inr (.inr (.inl hi)))⟩
    · simp [slB] at hi))
  obtain ⟨a, oa, mv, ov, ea, a1, a2, a3, a4, a5, a6⟩ := M7b.one
  cases ea
  obtain ⟨b, ob, mv2, ov2, rfl, b1, b2, b3, b4, b5, b6⟩ := M8.one
  have n1 : ¬ (0 : Int) ≠ 0 := by decide
  have n2 : ¬ ((1 : Nat) : Int) ≠ 1 := by decide
  have i00 : (0 : Int) ≤ 0 := by decide
  have i01 : (0 : Int) < ((1 : Nat) : Int) := by decide
  have t0 : (0 : Int).toNat = 0 := rfl
  simp only [Ms.cells] at a3
  have c1 := b6 1 (by decide)
  have c2 := b6 2 (by decide)
  have c3 := b6 3 (by decide)
  have c4 := b6 4 (by decide)
  simp only [Ms.cells, List.getElem?_cons_succ, List.getElem?_cons_zero, mB] at c1 c2 c3 c4
  simp only [sx, x_box, x_alloc, x_bslice, x_slice, x_append, x_appz, x_b2s, xop, ev, evs, evParts, fillL, cellsL, Ai.get, Ai.put, stab, isNil?, if_false, if_true, addr?, int?, str?, agg?, bool?, shiftA, FnPost, xresL, xres1, tup, argEnv, ptr, Nat.reduceEqDiff, reduceIte, beq_self_eq_true, ne_eq, Nat.reduceAdd, Nat.reduceMul, Nat.reduceSub, abin_shl, abin_shr, load1V, loadV, storeV, cellsAt, setN, allocV, lenL, lenS, bnd, oneC, Value.oneCell', Nat.reduceLeDiff, Nat.reduceLT, exists_eq_left', forall_const, reduceCtorEq, app_new, app_new0, List.append_assoc, Int.reduceToNat, Int.reduceLT, Int.reduceLE, Int.reduceEq, Int.reduceNe, Int.reduceBEq, IntKind.bits, bne_self_eq_false, Int.reducePow, n1, n2, i00, i01, t0, a1, a2, a3, Nat.zero_mul]
  refine xcall (encode_ok (m := mA) ⟨_, _, rfl, a4, a5⟩ (by decide)) (by rfl) (by rfl) (by rfl) (by rfl) ?_
  rintro r h9 (⟨e, -⟩ | ⟨-, E, rfl, hE, K9, hEl⟩)
  · exact absurd mA_ok e
  have A9 := A8.kp K9
  have b2' := K9.get b2
  have b4' := b4.frz K9.frz
  have b5' := b5.frz K9.frz
  rw [mA_enc] at hE
  rw [mA_len]
  have hbs : bytesOf [Value.int .u8 1, .int .u8 1, .int .u8 0, .int .u8 0, .int .u8 0, .int .u8 3, .int .u8 3, .int .u8 5, .int .u8 5] = some ⟨#[1, 1, 0, 0, 0, 3, 3, 5, 5]⟩ := by rfl
  have heq : ((⟨#[1, 1, 0, 0, 0, 3, 3, 5, 5]⟩ : ByteArray).toList == (⟨#[1, 1, 0, 0, 0, 3, 3, 5, 5]⟩ : ByteArray).toList) = true := by simp
  simp only [sx, x_box, x_alloc, x_bslice, x_slice, x_append, x_appz, x_b2s, xop, ev, evs, evParts, fillL, cellsL, Ai.get, Ai.put, stab, isNil?, if_false, if_true, addr?, int?, str?, agg?, bool?, shiftA, FnPost, xresL, xres1, tup, argEnv, ptr, Nat.reduceEqDiff, reduceIte, beq_self_eq_true, ne_eq, Nat.reduceAdd, Nat.reduceMul, Nat.reduceSub, abin_shl, abin_shr, load1V, loadV, storeV, cellsAt, getN, setN, allocV, lenL, lenS, bnd, oneC, Value.oneCell', Nat.reduceLeDiff, Nat.reduceLT, exists_eq_left', forall_const, reduceCtorEq, app_new, app_new0, List.append_assoc, Int.reduceToNat, Int.reduceLT, Int.reduceLE, Int.reduceEq, Int.reduceNe, Int.reduceBEq, IntKind.bits, bne_self_eq_false, Int.reducePow, hE, hbs, heq, i00, i01, t0, b1, b2', c1, c2, c3, c4, Nat.zero_mul]
  refine xcall (text_ok b4' (by decide)) (by rfl) (by rfl) (by rfl) (by rfl) ?_
  rintro r h10 ⟨rfl, rfl⟩
  have e1 : ((bitS mB.mask).toList == (⟨#[49]⟩ : ByteArray).toList) = true := by
    have : (⟨#[49]⟩ : ByteArray) = bitS [true] := rfl
    rw [this, bitS_eq]; rfl
  have e2 : ((bitS mB.on).toList == (⟨#[48]⟩ : ByteArray).toList) = true := by
    have : (⟨#[48]⟩ : ByteArray) = bitS [false] := rfl
    rw [this, bitS_eq]; rfl
  simp only [sx, x_box, x_alloc, x_bslice, x_slice, x_append, x_appz, x_b2s, xop, ev, evs, evParts, fillL, cellsL, Ai.get, Ai.put, stab, isNil?, if_false, if_true, addr?, int?, str?, agg?, bool?, shiftA, FnPost, xresL, xres1, tup, argEnv, ptr, Nat.reduceEqDiff, reduceIte, beq_self_eq_true, ne_eq, Nat.reduceAdd, Nat.reduceMul, Nat.reduceSub, abin_shl, abin_shr, load1V, loadV, storeV, cellsAt, getN, setN, allocV, lenL, lenS, bnd, oneC, Value.oneCell', Nat.reduceLeDiff, Nat.reduceLT, exists_eq_left', forall_const, reduceCtorEq, app_new, app_new0, List.append_assoc, Int.reduceToNat, Int.reduceLT, Int.reduceLE, Int.reduceEq, Int.reduceNe, Int.reduceBEq, IntKind.bits, bne_self_eq_false, Int.reducePow, e1, i00, i01, t0, b1, b2', c1, c2, c3, c4, Nat.zero_mul]
  refine xcall (text_ok b5' (by decide)) (by rfl) (by rfl) (by rfl) (by rfl) ?_
  rintro r h11 ⟨rfl, rfl⟩
  simp only [sx, x_box, x_alloc, x_bslice, x_slice, x_append, x_appz, x_b2s, xop, ev, evs, evParts, fillL, cellsL, Ai.get, Ai.put, stab, isNil?, if_false, if_true, addr?, int?, str?, agg?, bool?, shiftA, FnPost, xresL, xres1, tup, argEnv, ptr, Nat.reduceEqDiff, reduceIte, beq_self_eq_true, ne_eq, Nat.reduceAdd, Nat.reduceMul, Nat.reduceSub, abin_shl, abin_shr, load1V, loadV, storeV, cellsAt, getN, setN, allocV, lenL, lenS, bnd, oneC, Value.oneCell', Nat.reduceLeDiff, Nat.reduceLT, exists_eq_left', forall_const, reduceCtorEq, app_new, app_new0, List.append_assoc, Int.reduceToNat, Int.reduceLT, Int.reduceLE, Int.reduceEq, Int.reduceNe, Int.reduceBEq, IntKind.bits, bne_self_eq_false, Int.reducePow, e2]
  refine xcall (local_ok (k := 39) A9) (by rfl) (by rfl) (by rfl) (by rfl) ?_
  rintro r h12 ⟨rfl, K12⟩
  rw [dC_39]
  simp only [sx, x_box, x_alloc, x_bslice, x_slice, x_append, x_appz, x_b2s, xop, ev, evs, evParts, fillL, cellsL, Ai.get, Ai.put, stab, isNil?, if_false, if_true, addr?, int?, str?, agg?, bool?, shiftA, FnPost, xresL, xres1, tup, argEnv, ptr, Nat.reduceEqDiff, reduceIte, beq_self_eq_true, ne_eq, Nat.reduceAdd, Nat.reduceMul, Nat.reduceSub, abin_shl, abin_shr, load1V, loadV, storeV, cellsAt, getN, setN, allocV, lenL, lenS, bnd, oneC, Value.oneCell', Nat.reduceLeDiff, Nat.reduceLT, exists_eq_left', forall_const, reduceCtorEq, app_new, app_new0, List.append_assoc, Int.reduceToNat, Int.reduceLT, Int.reduceLE, Int.reduceEq, Int.reduceNe, Int.reduceBEq, IntKind.bits, bne_self_eq_false, Int.reducePow]
  refine xcall (local_ok (k := 5) (A9.kp K12)) (by rfl) (by rfl) (by rfl) (by rfl) ?_
  rintro r h13 ⟨rfl, K13⟩
  rw [dC_5]
  simp only [sx, x_box, x_alloc, x_bslice, x_slice, x_append, x_appz, x_b2s, xop, ev, evs, evParts, fillL, cellsL, Ai.get, Ai.put, stab, isNil?, if_false, if_true, addr?, int?, str?, agg?, bool?, shiftA, FnPost, xresL, xres1, tup, argEnv, ptr, Nat.reduceEqDiff, reduceIte, beq_self_eq_true, ne_eq, Nat.reduceAdd, Nat.reduceMul, Nat.reduceSub, abin_shl, abin_shr, load1V, loadV, storeV, cellsAt, getN, setN, allocV, lenL, lenS, bnd, oneC, Value.oneCell', Nat.reduceLeDiff, Nat.reduceLT, exists_eq_left', forall_const, reduceCtorEq, app_new, app_new0, List.append_assoc, Int.reduceToNat, Int.reduceLT, Int.reduceLE, Int.reduceEq, Int.reduceNe, Int.reduceBEq, IntKind.bits, bne_self_eq_false, Int.reducePow]
end Go.Proofs.Ytejgaeinkojgpaa
