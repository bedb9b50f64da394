import Derived.Test.YtemphcppnjlkcaaL7
import Derived.Test.YtemphcppnjlkcaaAiY
set_option linter.unusedVariables false
set_option linter.unusedSimpArgs false
namespace Go.Proofs.Ytemphcppnjlkcaa
open Go Go.Ai Go.Proofs

theorem checkV_stream {s : ByteArray} (hs : s.size ≤ 1048576) : checkV (streamOf s) = 0 := by
  unfold checkV
  rw [if_neg (by rw [streamOf_len]; omega), if_neg]
  rintro ⟨z, hz, h1⟩
  rcases streamOf_bit s z hz with rfl | rfl <;> omega
theorem stream_nonneg (s : ByteArray) : ∀ z ∈ streamOf s, 0 ≤ z := fun z hz => by rcases streamOf_bit s z hz with rfl | rfl <;> omega
theorem remZ_nil (sent : Int) (zs : List Int) : remZ [] sent zs = zs := by
  have h : ∀ k, ¬ hasN [] sent k := fun k ⟨x, hx, _⟩ => by simp at hx
  unfold remZ; rw [if_neg (h 0), if_neg (h 2)]; rfl
theorem stream_first {h h' : AHeap} {s : ByteArray} (e : Ext (h ++ [some ⟨true, bR (streamOf s)⟩]) h') : firstV 1 h' s.size (.slice (some ⟨h.length, 0, none⟩) s.size s.size) = some (bR (streamOf s)) := by
  simp only [firstV]
  split
  · rename_i h0
    have : streamOf s = [] := List.eq_nil_of_length_eq_zero (by rw [streamOf_len]; exact h0)
    rw [this]; rfl
  · have hx : h'[h.length]? = some (some ⟨true, bR (streamOf s)⟩) := e.get (by rw [app_new0]; rfl)
    simp only [ne_eq, not_true_eq_false, if_false, cellsAt, hx, Option.bind_some]
    exact getN_all _ _ (by rw [bR_len, streamOf_len, Nat.mul_one])

set_option maxHeartbeats 2000000 in
theorem clean_ok {h : AHeap} {d : Int} {s : ByteArray} (hd0 : 0 ≤ d) (hd1 : d ≤ 255) (hsz : s.size ≤ 9223372036854775807) : Valid Try.prog 5 [.int .u8 d, .string s] h fun r h' => r = .bool true := by
  refine v5 (by simp) ?_
  by_cases hs : 400 < s.size
  · have hs' : (400 : Int) < s.size := by omega
    simp only [X5, sx, x_box, x_alloc, x_bslice, x_slice, x_append, x_b2s, xop, ev, evs, evParts, fillL, cellsL, Ai.get, Ai.put, stab, isNil?, if_false, if_true, addr?, int?, str?, agg?, bool?, shiftA, FnPost, xresL, xres1, tup, argEnv, ptr, Nat.reduceEqDiff, reduceIte, beq_self_eq_true, ne_eq, Nat.reduceAdd, Nat.reduceMul, Nat.reduceSub, abin_shl, abin_shr, load1V, loadV, storeV, cellsAt, getN, setN, allocV, lenL, lenS, bnd, oneC, Value.oneCell', Nat.reduceLeDiff, Nat.reduceLT, exists_eq_left', forall_const, reduceCtorEq, app_new, app_new0, List.append_assoc, Int.reduceToNat, Int.reduceLT, Int.reduceLE, Int.reduceEq, Int.reduceNe, Int.reduceBEq, IntKind.bits, bne_self_eq_false, Int.reducePow, hs']
    refine xcall (lives_ok _) (by rfl) (by rfl) (by rfl) (by rfl) ?_
    rintro r h' ⟨rfl, rfl⟩
    simp only [sx, x_box, x_alloc, x_bslice, x_slice, x_append, x_b2s, xop, ev, evs, evParts, fillL, cellsL, Ai.get, Ai.put, stab, isNil?, if_false, if_true, addr?, int?, str?, agg?, bool?, shiftA, FnPost, xresL, xres1, tup, argEnv, ptr, Nat.reduceEqDiff, reduceIte, beq_self_eq_true, ne_eq, Nat.reduceAdd, Nat.reduceMul, Nat.reduceSub, abin_shl, abin_shr, load1V, loadV, storeV, cellsAt, getN, setN, allocV, lenL, lenS, bnd, oneC, Value.oneCell', Nat.reduceLeDiff, Nat.reduceLT, exists_eq_left', forall_const, reduceCtorEq, app_new, app_new0, List.append_assoc, Int.reduceToNat, Int.reduceLT, Int.reduceLE, Int.reduceEq, Int.reduceNe, Int.reduceBEq, IntKind.bits, bne_self_eq_false, Int.reducePow]
  · have hs' : ¬ (400 : Int) < s.size := by omega
    obtain ⟨dl, hdl, hw1, hw2, d1, d2⟩ : ∃ dl : Int, dl = 1 + d.tmod 64 ∧ IntKind.i64.wrap (d.tmod 64) = d.tmod 64 ∧ IntKind.i64.wrap (1 + d.tmod 64) = dl ∧ 1 ≤ dl ∧ dl ≤ 64 := by
      have h0 : 0 ≤ d.tmod 64 := Int.tmod_nonneg _ hd0
      have h1 : d.tmod 64 < 64 := Int.tmod_lt_of_pos _ (by omega)
      exact ⟨_, rfl, i64_wrap (by omega) (by omega), i64_wrap (by omega) (by omega), by omega, by omega⟩
    have hne : ¬ (64 : Int) = 0 := by decide
    simp only [X5, sx, x_box, x_alloc, x_bslice, x_slice, x_append, x_b2s, xop, ev, evs, evParts, fillL, cellsL, Ai.get, Ai.put, stab, isNil?, if_false, if_true, addr?, int?, str?, agg?, bool?, shiftA, FnPost, xresL, xres1, tup, argEnv, ptr, Nat.reduceEqDiff, reduceIte, beq_self_eq_true, ne_eq, Nat.reduceAdd, Nat.reduceMul, Nat.reduceSub, abin_shl, abin_shr, load1V, loadV, storeV, cellsAt, getN, setN, allocV, lenL, lenS, bnd, oneC, Value.oneCell', Nat.reduceLeDiff, Nat.reduceLT, exists_eq_left', forall_const, reduceCtorEq, app_new, app_new0, List.append_assoc, Int.reduceToNat, Int.reduceLT, Int.reduceLE, Int.reduceEq, Int.reduceNe, Int.reduceBEq, IntKind.bits, bne_self_eq_false, Int.reducePow, hs', hne, hw1, hw2]
    refine xcall (new_ok (delay := dl) (q := none) (c := 0) (n := 0) (l := []) rfl (by simp [firstV, rowsN]) (by omega) (by omega) (by omega) (fun ⟨x, hx, _⟩ => by simp at hx)) (by rfl) (by rfl) (by rfl) (by rfl) ?_
    rintro r h1 ⟨X, nq, nc, rfl, E1, hX, L1, _⟩
    simp only [sx, x_box, x_alloc, x_bslice, x_slice, x_append, x_b2s, xop, ev, evs, evParts, fillL, cellsL, Ai.get, Ai.put, stab, isNil?, if_false, if_true, addr?, int?, str?, agg?, bool?, shiftA, FnPost, xresL, xres1, tup, argEnv, ptr, Nat.reduceEqDiff, reduceIte, beq_self_eq_true, ne_eq, Nat.reduceAdd, Nat.reduceMul, Nat.reduceSub, abin_shl, abin_shr, load1V, loadV, storeV, cellsAt, getN, setN, allocV, lenL, lenS, bnd, oneC, Value.oneCell', Nat.reduceLeDiff, Nat.reduceLT, exists_eq_left', forall_const, reduceCtorEq, app_new, app_new0, List.append_assoc, Int.reduceToNat, Int.reduceLT, Int.reduceLE, Int.reduceEq, Int.reduceNe, Int.reduceBEq, IntKind.bits, bne_self_eq_false, Int.reducePow]
    refine xcall (stream_ok (s := s) (by omega)) (by rfl) (by rfl) (by rfl) (by rfl) ?_
    rintro r h2 ⟨rfl, rfl⟩
    simp only [sx, x_box, x_alloc, x_bslice, x_slice, x_append, x_b2s, xop, ev, evs, evParts, fillL, cellsL, Ai.get, Ai.put, stab, isNil?, if_false, if_true, addr?, int?, str?, agg?, bool?, shiftA, FnPost, xresL, xres1, tup, argEnv, ptr, Nat.reduceEqDiff, reduceIte, beq_self_eq_true, ne_eq, Nat.reduceAdd, Nat.reduceMul, Nat.reduceSub, abin_shl, abin_shr, load1V, loadV, storeV, cellsAt, getN, setN, allocV, lenL, lenS, bnd, oneC, Value.oneCell', Nat.reduceLeDiff, Nat.reduceLT, exists_eq_left', forall_const, reduceCtorEq, app_new, app_new0, List.append_assoc, Int.reduceToNat, Int.reduceLT, Int.reduceLE, Int.reduceEq, Int.reduceNe, Int.reduceBEq, IntKind.bits, bne_self_eq_false, Int.reducePow]
    have hlen := streamOf_len s
    refine xcall (send_ok (L1.ext (Ext.app _ _)) (by omega) (by simp) (stream_first (Ext.refl _)) (stream_nonneg s) (checkV_stream (by omega)) (by simp) (by omega) (by omega) (by rw [remZ_nil, hlen]; omega) (by omega) (by omega) (by omega) (by omega) (by omega) (by omega) (by simp)) (by rfl) (by rfl) (by rfl) (by rfl) ?_
    rintro r h2 ⟨rfl, usl, v, L2, _, _⟩
    rw [remZ_nil] at L2
    simp only [List.nil_append, Int.zero_add] at L2
    simp only [sx, x_box, x_alloc, x_bslice, x_slice, x_append, x_b2s, xop, ev, evs, evParts, fillL, cellsL, Ai.get, Ai.put, stab, isNil?, if_false, if_true, addr?, int?, str?, agg?, bool?, shiftA, FnPost, xresL, xres1, tup, argEnv, ptr, Nat.reduceEqDiff, reduceIte, beq_self_eq_true, ne_eq, Nat.reduceAdd, Nat.reduceMul, Nat.reduceSub, abin_shl, abin_shr, load1V, loadV, storeV, cellsAt, getN, setN, allocV, lenL, lenS, bnd, oneC, Value.oneCell', Nat.reduceLeDiff, Nat.reduceLT, exists_eq_left', forall_const, reduceCtorEq, app_new, app_new0, List.append_assoc, Int.reduceToNat, Int.reduceLT, Int.reduceLE, Int.reduceEq, Int.reduceNe, Int.reduceBEq, IntKind.bits, bne_self_eq_false, Int.reducePow]
    refine xcode_loop (fun m ρ h' => ∃ i usl, i + m = dl.toNat ∧ get ρ 8 = some (.int .i64 (i : Nat)) ∧ get ρ 5 = some (.int .i64 dl) ∧ get ρ 6 = some (ptr X 0) ∧ get ρ 1 = some (.string s) ∧ LineAt h' X dl (i : Nat) 1 ((streamOf s).length : Nat) [] nq nc usl [⟨dl, v, streamOf s⟩]) dl.toNat
      ⟨0, usl, by simp, rfl, rfl, rfl, rfl, L2⟩ ?_
    clear L2 L1 E1
    rintro m ρ h3 ⟨i, usl, him, g8, g5, g6, g1, L3⟩
    unfold ptr at g6
    have hb1 : (bitsU [⟨dl, v, streamOf s⟩]).length ≤ 1048576 := by simp [bitsU]; omega
    by_cases hlt : i < dl.toNat
    · have hlt' : (i : Int) < dl := by omega
      have hw : IntKind.i64.wrap ((i : Int) + 1) = ((i + 1 : Nat) : Int) := by rw [i64_wrap] <;> omega
      have hrip : ripe [⟨dl, v, streamOf s⟩] (i : Nat) = [] := by
        have : ¬ dl ≤ (i : Int) := by omega
        simp [ripe, List.takeWhile_cons, this]
      simp only [sx, x_box, x_alloc, x_bslice, x_slice, x_append, x_b2s, xop, ev, evs, evParts, fillL, cellsL, Ai.get, Ai.put, stab, isNil?, if_false, if_true, addr?, int?, str?, agg?, bool?, shiftA, FnPost, xresL, xres1, tup, argEnv, ptr, Nat.reduceEqDiff, reduceIte, beq_self_eq_true, ne_eq, Nat.reduceAdd, Nat.reduceMul, Nat.reduceSub, abin_shl, abin_shr, load1V, loadV, storeV, cellsAt, getN, setN, allocV, lenL, lenS, bnd, oneC, Value.oneCell', Nat.reduceLeDiff, Nat.reduceLT, exists_eq_left', forall_const, reduceCtorEq, app_new, app_new0, List.append_assoc, Int.reduceToNat, Int.reduceLT, Int.reduceLE, Int.reduceEq, Int.reduceNe, Int.reduceBEq, IntKind.bits, bne_self_eq_false, Int.reducePow, g8, g5, g6, g1, hlt']
      refine xcall (take_ok L3 hb1 (by simp) (by omega) (by omega)) (by rfl) (by rfl) (by rfl) (by rfl) ?_
      rintro r h4 ⟨usl', q, L4, _, _, rfl, _⟩
      rw [hrip] at L4 ⊢
      simp only [bitsU, List.flatMap_nil, List.length_nil, List.drop_zero, Int.natCast_zero, Int.sub_zero] at L4 ⊢
      simp only [sx, x_box, x_alloc, x_bslice, x_slice, x_append, x_b2s, xop, ev, evs, evParts, fillL, cellsL, Ai.get, Ai.put, stab, isNil?, if_false, if_true, addr?, int?, str?, agg?, bool?, shiftA, FnPost, xresL, xres1, tup, argEnv, ptr, Nat.reduceEqDiff, reduceIte, beq_self_eq_true, ne_eq, Nat.reduceAdd, Nat.reduceMul, Nat.reduceSub, abin_shl, abin_shr, load1V, loadV, storeV, cellsAt, getN, setN, allocV, lenL, lenS, bnd, oneC, Value.oneCell', Nat.reduceLeDiff, Nat.reduceLT, exists_eq_left', forall_const, reduceCtorEq, app_new, app_new0, List.append_assoc, Int.reduceToNat, Int.reduceLT, Int.reduceLE, Int.reduceEq, Int.reduceNe, Int.reduceBEq, IntKind.bits, bne_self_eq_false, Int.reducePow, g8, g5, g6, g1]
      refine xcall (tick_ok L4 (by omega) (by omega) (by omega)) (by rfl) (by rfl) (by rfl) (by rfl) ?_
      rintro r h5 ⟨rfl, L5, _⟩
      simp only [sx, x_box, x_alloc, x_bslice, x_slice, x_append, x_b2s, xop, ev, evs, evParts, fillL, cellsL, Ai.get, Ai.put, stab, isNil?, if_false, if_true, addr?, int?, str?, agg?, bool?, shiftA, FnPost, xresL, xres1, tup, argEnv, ptr, Nat.reduceEqDiff, reduceIte, beq_self_eq_true, ne_eq, Nat.reduceAdd, Nat.reduceMul, Nat.reduceSub, abin_shl, abin_shr, load1V, loadV, storeV, cellsAt, getN, setN, allocV, lenL, lenS, bnd, oneC, Value.oneCell', Nat.reduceLeDiff, Nat.reduceLT, exists_eq_left', forall_const, reduceCtorEq, app_new, app_new0, List.append_assoc, Int.reduceToNat, Int.reduceLT, Int.reduceLE, Int.reduceEq, Int.reduceNe, Int.reduceBEq, IntKind.bits, bne_self_eq_false, Int.reducePow, g8, g5, g6, g1, hw]
      exact ⟨m - 1, by omega, i + 1, usl', by omega, rfl, L5⟩
    · have hlt' : ¬ (i : Int) < dl := by omega
      have hi : (i : Int) = dl := by omega
      have hrip : ripe [⟨dl, v, streamOf s⟩] (i : Nat) = [⟨dl, v, streamOf s⟩] := by
        simp [ripe, List.takeWhile_cons, hi]
      simp only [sx, x_box, x_alloc, x_bslice, x_slice, x_append, x_b2s, xop, ev, evs, evParts, fillL, cellsL, Ai.get, Ai.put, stab, isNil?, if_false, if_true, addr?, int?, str?, agg?, bool?, shiftA, FnPost, xresL, xres1, tup, argEnv, ptr, Nat.reduceEqDiff, reduceIte, beq_self_eq_true, ne_eq, Nat.reduceAdd, Nat.reduceMul, Nat.reduceSub, abin_shl, abin_shr, load1V, loadV, storeV, cellsAt, getN, setN, allocV, lenL, lenS, bnd, oneC, Value.oneCell', Nat.reduceLeDiff, Nat.reduceLT, exists_eq_left', forall_const, reduceCtorEq, app_new, app_new0, List.append_assoc, Int.reduceToNat, Int.reduceLT, Int.reduceLE, Int.reduceEq, Int.reduceNe, Int.reduceBEq, IntKind.bits, bne_self_eq_false, Int.reducePow, g8, g5, g6, g1, hlt']
      refine xcall (take_ok L3 hb1 (by simp) (by omega) (by omega)) (by rfl) (by rfl) (by rfl) (by rfl) ?_
      rintro r h4 ⟨usl', q, L4, _, _, rfl, hf4⟩
      rw [hrip] at L4 hf4 ⊢
      have hbu : bitsU [⟨dl, v, streamOf s⟩] = streamOf s := by simp [bitsU]
      rw [hbu] at L4 hf4 ⊢
      rw [List.drop_length] at L4
      simp only [sx, x_box, x_alloc, x_bslice, x_slice, x_append, x_b2s, xop, ev, evs, evParts, fillL, cellsL, Ai.get, Ai.put, stab, isNil?, if_false, if_true, addr?, int?, str?, agg?, bool?, shiftA, FnPost, xresL, xres1, tup, argEnv, ptr, Nat.reduceEqDiff, reduceIte, beq_self_eq_true, ne_eq, Nat.reduceAdd, Nat.reduceMul, Nat.reduceSub, abin_shl, abin_shr, load1V, loadV, storeV, cellsAt, getN, setN, allocV, lenL, lenS, bnd, oneC, Value.oneCell', Nat.reduceLeDiff, Nat.reduceLT, exists_eq_left', forall_const, reduceCtorEq, app_new, app_new0, List.append_assoc, Int.reduceToNat, Int.reduceLT, Int.reduceLE, Int.reduceEq, Int.reduceNe, Int.reduceBEq, IntKind.bits, bne_self_eq_false, Int.reducePow, g8, g5, g6, g1]
      refine xcall (stream_ok (s := s) (by omega)) (by rfl) (by rfl) (by rfl) (by rfl) ?_
      rintro r h5 ⟨rfl, rfl⟩
      simp only [sx, x_box, x_alloc, x_bslice, x_slice, x_append, x_b2s, xop, ev, evs, evParts, fillL, cellsL, Ai.get, Ai.put, stab, isNil?, if_false, if_true, addr?, int?, str?, agg?, bool?, shiftA, FnPost, xresL, xres1, tup, argEnv, ptr, Nat.reduceEqDiff, reduceIte, beq_self_eq_true, ne_eq, Nat.reduceAdd, Nat.reduceMul, Nat.reduceSub, abin_shl, abin_shr, load1V, loadV, storeV, cellsAt, getN, setN, allocV, lenL, lenS, bnd, oneC, Value.oneCell', Nat.reduceLeDiff, Nat.reduceLT, exists_eq_left', forall_const, reduceCtorEq, app_new, app_new0, List.append_assoc, Int.reduceToNat, Int.reduceLT, Int.reduceLE, Int.reduceEq, Int.reduceNe, Int.reduceBEq, IntKind.bits, bne_self_eq_false, Int.reducePow, g8, g5, g6, g1]
      refine xcall (bytes_ok (firstV_app hf4) (stream_first (Ext.refl _)) (by omega) rfl) (by rfl) (by rfl) (by rfl) (by rfl) ?_
      rintro r h5 ⟨rfl, rfl⟩
      simp only [sx, x_box, x_alloc, x_bslice, x_slice, x_append, x_b2s, xop, ev, evs, evParts, fillL, cellsL, Ai.get, Ai.put, stab, isNil?, if_false, if_true, addr?, int?, str?, agg?, bool?, shiftA, FnPost, xresL, xres1, tup, argEnv, ptr, Nat.reduceEqDiff, reduceIte, beq_self_eq_true, ne_eq, Nat.reduceAdd, Nat.reduceMul, Nat.reduceSub, abin_shl, abin_shr, load1V, loadV, storeV, cellsAt, getN, setN, allocV, lenL, lenS, bnd, oneC, Value.oneCell', Nat.reduceLeDiff, Nat.reduceLT, exists_eq_left', forall_const, reduceCtorEq, app_new, app_new0, List.append_assoc, Int.reduceToNat, Int.reduceLT, Int.reduceLE, Int.reduceEq, Int.reduceNe, Int.reduceBEq, IntKind.bits, bne_self_eq_false, Int.reducePow, g8, g5, g6, g1, eq_self]
      refine xcall (take_ok (L4.ext (Ext.app _ _)) (by simp [bitsU]) (by simp) (by omega) (by omega)) (by rfl) (by rfl) (by rfl) (by rfl) ?_
      rintro r h5 ⟨usl2, q2, _, _, _, rfl, _⟩
      have e0 : (bitsU (ripe [] (i : Nat))).length = 0 := rfl
      simp only [sx, x_box, x_alloc, x_bslice, x_slice, x_append, x_b2s, xop, ev, evs, evParts, fillL, cellsL, Ai.get, Ai.put, stab, isNil?, if_false, if_true, addr?, int?, str?, agg?, bool?, shiftA, FnPost, xresL, xres1, tup, argEnv, ptr, Nat.reduceEqDiff, reduceIte, beq_self_eq_true, ne_eq, Nat.reduceAdd, Nat.reduceMul, Nat.reduceSub, abin_shl, abin_shr, load1V, loadV, storeV, cellsAt, getN, setN, allocV, lenL, lenS, bnd, oneC, Value.oneCell', Nat.reduceLeDiff, Nat.reduceLT, exists_eq_left', forall_const, reduceCtorEq, app_new, app_new0, List.append_assoc, Int.reduceToNat, Int.reduceLT, Int.reduceLE, Int.reduceEq, Int.reduceNe, Int.reduceBEq, IntKind.bits, bne_self_eq_false, Int.reducePow, g8, g5, g6, g1, e0, Int.natCast_zero]
      refine xcall (lives_ok _) (by rfl) (by rfl) (by rfl) (by rfl) ?_
      rintro r h' ⟨rfl, rfl⟩
      simp only [sx, x_box, x_alloc, x_bslice, x_slice, x_append, x_b2s, xop, ev, evs, evParts, fillL, cellsL, Ai.get, Ai.put, stab, isNil?, if_false, if_true, addr?, int?, str?, agg?, bool?, shiftA, FnPost, xresL, xres1, tup, argEnv, ptr, Nat.reduceEqDiff, reduceIte, beq_self_eq_true, ne_eq, Nat.reduceAdd, Nat.reduceMul, Nat.reduceSub, abin_shl, abin_shr, load1V, loadV, storeV, cellsAt, getN, setN, allocV, lenL, lenS, bnd, oneC, Value.oneCell', Nat.reduceLeDiff, Nat.reduceLT, exists_eq_left', forall_const, reduceCtorEq, app_new, app_new0, List.append_assoc, Int.reduceToNat, Int.reduceLT, Int.reduceLE, Int.reduceEq, Int.reduceNe, Int.reduceBEq, IntKind.bits, bne_self_eq_false, Int.reducePow]

def cleanSh : List (Bool × List Cl) := [(false, [.leaf (.int .u8)]), (false, [.leaf .str])]
theorem clean_law {h : AHeap} {vs : List Value} (hs : SmallArgs h cleanSh vs) : Valid Try.prog 5 vs h fun r _ => r = .bool true := by
  obtain ⟨v0, r, rfl, h0, hs1⟩ := hs.cons_inv
  obtain ⟨v1, r, rfl, h1, hs2⟩ := hs1.cons_inv
  obtain rfl := hs2.nil_inv
  obtain ⟨a0, rfl, w0⟩ := h0.one
  obtain ⟨s, rfl, w1⟩ := h1.one
  have := bounds_u8 w0
  exact clean_ok (by omega) (by omega) w1
end Go.Proofs.Ytemphcppnjlkcaa
