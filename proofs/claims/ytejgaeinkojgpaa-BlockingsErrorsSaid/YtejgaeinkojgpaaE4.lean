import Derived.Test.YtejgaeinkojgpaaE3
set_option linter.unusedVariables false
set_option linter.unusedSimpArgs false
namespace Go.Proofs.Ytejgaeinkojgpaa
open Go Go.Ai Go.Proofs

set_option maxHeartbeats 16000000 in
set_option maxRecDepth 20000 in
theorem errors_ok {h : AHeap} {many again : Int} {q : Option Addr} {c : Nat} {zs : List Int} (hmany : -9223372036854775808 ≤ many ∧ many ≤ 9223372036854775807) (hag : -9223372036854775808 ≤ again ∧ again ≤ 9223372036854775807) (V : CdV h q c zs) (hn : zs.length ≤ 9223372036854775807) :
    Valid Try.prog 7 [.int .i64 many, .int .i64 again, .slice q zs.length c] h fun r h' => r = .bool true := by
  refine v7 (by simp) ?_
  by_cases hbig : 20 < zs.length
  · have hbig' : (20 : Int) < zs.length := by omega
    simp only [X7, sx, x_box, x_alloc, x_bslice, x_slice, x_append, x_appz, x_b2s, xop, ev, evs, evParts, fillL, cellsL, Ai.get, Ai.put, stab, isNil?, if_false, if_true, addr?, int?, str?, agg?, bool?, shiftA, FnPost, xresL, xres1, tup, argEnv, ptr, Nat.reduceEqDiff, reduceIte, beq_self_eq_true, ne_eq, Nat.reduceAdd, Nat.reduceMul, Nat.reduceSub, abin_shl, abin_shr, load1V, loadV, storeV, cellsAt, getN, setN, allocV, lenL, lenS, bnd, oneC, Value.oneCell', Nat.reduceLeDiff, Nat.reduceLT, exists_eq_left', forall_const, reduceCtorEq, app_new, app_new0, List.append_assoc, Int.reduceToNat, Int.reduceLT, Int.reduceLE, Int.reduceEq, Int.reduceNe, Int.reduceBEq, IntKind.bits, bne_self_eq_false, Int.reducePow, hbig']
    refine xcall (lives_ok _) (by rfl) (by rfl) (by rfl) (by rfl) ?_
    rintro r h' rfl
    simp only [sx, x_box, x_alloc, x_bslice, x_slice, x_append, x_appz, x_b2s, xop, ev, evs, evParts, fillL, cellsL, Ai.get, Ai.put, stab, isNil?, if_false, if_true, addr?, int?, str?, agg?, bool?, shiftA, FnPost, xresL, xres1, tup, argEnv, ptr, Nat.reduceEqDiff, reduceIte, beq_self_eq_true, ne_eq, Nat.reduceAdd, Nat.reduceMul, Nat.reduceSub, abin_shl, abin_shr, load1V, loadV, storeV, cellsAt, getN, setN, allocV, lenL, lenS, bnd, oneC, Value.oneCell', Nat.reduceLeDiff, Nat.reduceLT, exists_eq_left', forall_const, reduceCtorEq, app_new, app_new0, List.append_assoc, Int.reduceToNat, Int.reduceLT, Int.reduceLE, Int.reduceEq, Int.reduceNe, Int.reduceBEq, IntKind.bits, bne_self_eq_false, Int.reducePow]
  have hbig' : ¬ (20 : Int) < zs.length := by omega
  simp only [X7, sx, x_box, x_alloc, x_bslice, x_slice, x_append, x_appz, x_b2s, xop, ev, evs, evParts, fillL, cellsL, Ai.get, Ai.put, stab, isNil?, if_false, if_true, addr?, int?, str?, agg?, bool?, shiftA, FnPost, xresL, xres1, tup, argEnv, ptr, Nat.reduceEqDiff, reduceIte, beq_self_eq_true, ne_eq, Nat.reduceAdd, Nat.reduceMul, Nat.reduceSub, abin_shl, abin_shr, load1V, loadV, storeV, cellsAt, getN, setN, allocV, lenL, lenS, bnd, oneC, Value.oneCell', Nat.reduceLeDiff, Nat.reduceLT, exists_eq_left', forall_const, reduceCtorEq, app_new, app_new0, List.append_assoc, Int.reduceToNat, Int.reduceLT, Int.reduceLE, Int.reduceEq, Int.reduceNe, Int.reduceBEq, IntKind.bits, bne_self_eq_false, Int.reducePow, hbig']
  by_cases hin : many < 1 ∨ 256 < many
  · refine xcall (group_none34 hin) (by rfl) (by rfl) (by rfl) (by rfl) ?_
    rintro r h1 ⟨⟨e, he, rfl⟩, rfl⟩
    have he' : e ≠ 0 := he
    simp only [sx, x_box, x_bslice, x_slice, x_append, x_appz, x_b2s, xop, ev, evs, evParts, fillL, cellsL, Ai.get, Ai.put, stab, isNil?, if_false, if_true, addr?, int?, str?, agg?, bool?, shiftA, FnPost, xresL, xres1, tup, argEnv, ptr, Nat.reduceEqDiff, reduceIte, beq_self_eq_true, ne_eq, Nat.reduceAdd, Nat.reduceMul, Nat.reduceSub, abin_shl, abin_shr, load1V, loadV, storeV, cellsAt, getN, setN, allocV, lenL, lenS, bnd, oneC, Value.oneCell', Nat.reduceLeDiff, Nat.reduceLT, exists_eq_left', forall_const, reduceCtorEq, app_new, app_new0, List.append_assoc, Int.reduceToNat, Int.reduceLT, Int.reduceLE, Int.reduceEq, Int.reduceNe, Int.reduceBEq, IntKind.bits, bne_self_eq_false, Int.reducePow, he']
    refine xcall new_none (by rfl) (by rfl) (by rfl) (by rfl) ?_
    rintro r h2 ⟨rfl, rfl⟩
    simp only [sx, x_box, x_bslice, x_slice, x_append, x_appz, x_b2s, xop, ev, evs, evParts, fillL, cellsL, Ai.get, Ai.put, stab, isNil?, if_false, if_true, addr?, int?, str?, agg?, bool?, shiftA, FnPost, xresL, xres1, tup, argEnv, ptr, Nat.reduceEqDiff, reduceIte, beq_self_eq_true, ne_eq, Nat.reduceAdd, Nat.reduceMul, Nat.reduceSub, abin_shl, abin_shr, load1V, loadV, storeV, cellsAt, getN, setN, allocV, lenL, lenS, bnd, oneC, Value.oneCell', Nat.reduceLeDiff, Nat.reduceLT, exists_eq_left', forall_const, reduceCtorEq, app_new, app_new0, List.append_assoc, Int.reduceToNat, Int.reduceLT, Int.reduceLE, Int.reduceEq, Int.reduceNe, Int.reduceBEq, IntKind.bits, bne_self_eq_false, Int.reducePow]
    refine alloc_run fun g Z KZ hZ hZl _ => ?_
    simp only [sx, x_box, x_alloc, x_bslice, x_slice, x_append, x_appz, x_b2s, xop, ev, evs, evParts, fillL, cellsL, Ai.get, Ai.put, stab, isNil?, if_false, if_true, addr?, int?, str?, agg?, bool?, shiftA, FnPost, xresL, xres1, tup, argEnv, ptr, Nat.reduceEqDiff, reduceIte, beq_self_eq_true, ne_eq, Nat.reduceAdd, Nat.reduceMul, Nat.reduceSub, abin_shl, abin_shr, load1V, loadV, storeV, cellsAt, getN, setN, allocV, lenL, lenS, bnd, oneC, Value.oneCell', Nat.reduceLeDiff, Nat.reduceLT, exists_eq_left', forall_const, reduceCtorEq, app_new, app_new0, List.append_assoc, Int.reduceToNat, Int.reduceLT, Int.reduceLE, Int.reduceEq, Int.reduceNe, Int.reduceBEq, IntKind.bits, bne_self_eq_false, Int.reducePow]
    have hB := app_one g (some (AObj.mk true [Value.pointer none, .pointer (some ⟨Z, 0, none⟩)]))
    have hl1 : (g ++ [some (AObj.mk true [Value.pointer none, .pointer (some ⟨Z, 0, none⟩)])]).length = g.length + 1 := by simp
    have hZ1 := app_old (t := [some (AObj.mk true [Value.pointer none, .pointer (some ⟨Z, 0, none⟩)])]) hZ
    generalize g ++ [some (AObj.mk true [Value.pointer none, .pointer (some ⟨Z, 0, none⟩)])] = g0 at *
    refine xloop_cut (ErE g0 [(0, .int .i64 many), (1, .int .i64 again), (2, .slice q zs.length c), (9, .int .i64 2), (11, .int .i64 2), (10, .pointer none)]) ?_ ?_
    · refine xcode_loop (ErI g0 g.length Z [(0, .int .i64 many), (1, .int .i64 again), (2, .slice q zs.length c), (9, .int .i64 2), (11, .int .i64 2), (10, .pointer none)]) 2 ⟨0, by omega, rfl, rfl, (by intro p hp; simp only [List.mem_cons, List.not_mem_nil, or_false] at hp; rcases hp with rfl | rfl | rfl | rfl | rfl | rfl <;> rfl), Kp.refl _⟩ ?_
      rintro m ρ h1' ⟨i, him, g14, g13, hr, K⟩
      by_cases hi : i < 2
      · have hi' : (i : Int) < 2 := by omega
        have hi2 : (i : Int) < ((2 : Nat) : Int) := by omega
        have hge : (0 : Int) ≤ i := by omega
        have hwi : IntKind.i64.wrap ((i : Int) + 1) = ((i + 1 : Nat) : Int) := by rw [i64_wrap] <;> omega
        have hB1 := K.get hB
        obtain ⟨x, hx, nx⟩ := nn_cell hB1 (K.get hZ1) hi
        have c2 : ¬ (2 : Int) ≠ 2 := by decide
        have l0 : ¬ ((0 : Nat) : Int) ≠ 0 := by decide
        simp only [sx, x_box, x_alloc, x_bslice, x_slice, x_append, x_appz, x_b2s, xop, ev, evs, evParts, fillL, cellsL, Ai.get, Ai.put, stab, isNil?, if_false, if_true, addr?, int?, str?, agg?, bool?, shiftA, FnPost, xresL, xres1, tup, argEnv, ptr, Nat.reduceEqDiff, reduceIte, beq_self_eq_true, ne_eq, Nat.reduceAdd, Nat.reduceMul, Nat.reduceSub, abin_shl, abin_shr, load1V, loadV, storeV, cellsAt, getN, setN, allocV, lenL, lenS, bnd, oneC, Value.oneCell', Nat.reduceLeDiff, Nat.reduceLT, exists_eq_left', forall_const, reduceCtorEq, app_new, app_new0, List.append_assoc, Int.reduceToNat, Int.reduceLT, Int.reduceLE, Int.reduceEq, Int.reduceNe, Int.reduceBEq, IntKind.bits, bne_self_eq_false, Int.reducePow, g14, g13, hi', hi2, hge, hB1, hx, Nat.mul_one]
        refine xcall (tick_nn nx) (by rfl) (by rfl) (by rfl) (by rfl) ?_
        rintro r g1 rfl
        simp only [sx, x_box, x_alloc, x_bslice, x_slice, x_append, x_appz, x_b2s, xop, ev, evs, evParts, fillL, cellsL, Ai.get, Ai.put, stab, isNil?, if_false, if_true, addr?, int?, str?, agg?, bool?, shiftA, FnPost, xresL, xres1, tup, argEnv, ptr, Nat.reduceEqDiff, reduceIte, beq_self_eq_true, ne_eq, Nat.reduceAdd, Nat.reduceMul, Nat.reduceSub, abin_shl, abin_shr, load1V, loadV, storeV, cellsAt, getN, setN, allocV, lenL, lenS, bnd, oneC, Value.oneCell', Nat.reduceLeDiff, Nat.reduceLT, exists_eq_left', forall_const, reduceCtorEq, app_new, app_new0, List.append_assoc, Int.reduceToNat, Int.reduceLT, Int.reduceLE, Int.reduceEq, Int.reduceNe, Int.reduceBEq, IntKind.bits, bne_self_eq_false, Int.reducePow]
        refine xcall (set_nn (z := .int .i64 0) rfl nx) (by rfl) (by rfl) (by rfl) (by rfl) ?_
        rintro r g2 ⟨rfl, K2⟩
        simp only [sx, x_box, x_alloc, x_bslice, x_slice, x_append, x_appz, x_b2s, xop, ev, evs, evParts, fillL, cellsL, Ai.get, Ai.put, stab, isNil?, if_false, if_true, addr?, int?, str?, agg?, bool?, shiftA, FnPost, xresL, xres1, tup, argEnv, ptr, Nat.reduceEqDiff, reduceIte, beq_self_eq_true, ne_eq, Nat.reduceAdd, Nat.reduceMul, Nat.reduceSub, abin_shl, abin_shr, load1V, loadV, storeV, cellsAt, getN, setN, allocV, lenL, lenS, bnd, oneC, Value.oneCell', Nat.reduceLeDiff, Nat.reduceLT, exists_eq_left', forall_const, reduceCtorEq, app_new, app_new0, List.append_assoc, Int.reduceToNat, Int.reduceLT, Int.reduceLE, Int.reduceEq, Int.reduceNe, Int.reduceBEq, IntKind.bits, bne_self_eq_false, Int.reducePow, c2]
        refine xcall (setall_nn (nx.kp K2)) (by rfl) (by rfl) (by rfl) (by rfl) ?_
        rintro r g3 ⟨rfl, K3⟩
        simp only [sx, x_box, x_alloc, x_bslice, x_slice, x_append, x_appz, x_b2s, xop, ev, evs, evParts, fillL, cellsL, Ai.get, Ai.put, stab, isNil?, if_false, if_true, addr?, int?, str?, agg?, bool?, shiftA, FnPost, xresL, xres1, tup, argEnv, ptr, Nat.reduceEqDiff, reduceIte, beq_self_eq_true, ne_eq, Nat.reduceAdd, Nat.reduceMul, Nat.reduceSub, abin_shl, abin_shr, load1V, loadV, storeV, cellsAt, getN, setN, allocV, lenL, lenS, bnd, oneC, Value.oneCell', Nat.reduceLeDiff, Nat.reduceLT, exists_eq_left', forall_const, reduceCtorEq, app_new, app_new0, List.append_assoc, Int.reduceToNat, Int.reduceLT, Int.reduceLE, Int.reduceEq, Int.reduceNe, Int.reduceBEq, IntKind.bits, bne_self_eq_false, Int.reducePow, c2]
        refine xcall (hear_nn ⟨_, rfl⟩ ((nx.kp K2).kp K3)) (by rfl) (by rfl) (by rfl) (by rfl) ?_
        rintro r g4 ⟨rfl, K4⟩
        have n4 := ((nx.kp K2).kp K3).kp K4
        simp only [sx, x_box, x_alloc, x_bslice, x_slice, x_append, x_appz, x_b2s, xop, ev, evs, evParts, fillL, cellsL, Ai.get, Ai.put, stab, isNil?, if_false, if_true, addr?, int?, str?, agg?, bool?, shiftA, FnPost, xresL, xres1, tup, argEnv, ptr, Nat.reduceEqDiff, reduceIte, beq_self_eq_true, ne_eq, Nat.reduceAdd, Nat.reduceMul, Nat.reduceSub, abin_shl, abin_shr, load1V, loadV, storeV, cellsAt, getN, setN, allocV, lenL, lenS, bnd, oneC, Value.oneCell', Nat.reduceLeDiff, Nat.reduceLT, exists_eq_left', forall_const, reduceCtorEq, app_new, app_new0, List.append_assoc, Int.reduceToNat, Int.reduceLT, Int.reduceLE, Int.reduceEq, Int.reduceNe, Int.reduceBEq, IntKind.bits, bne_self_eq_false, Int.reducePow, c2]
        refine xcall (local_nn n4) (by rfl) (by rfl) (by rfl) (by rfl) ?_
        rintro r g5 ⟨rfl, rfl⟩
        simp only [sx, x_box, x_alloc, x_bslice, x_slice, x_append, x_appz, x_b2s, xop, ev, evs, evParts, fillL, cellsL, Ai.get, Ai.put, stab, isNil?, if_false, if_true, addr?, int?, str?, agg?, bool?, shiftA, FnPost, xresL, xres1, tup, argEnv, ptr, Nat.reduceEqDiff, reduceIte, beq_self_eq_true, ne_eq, Nat.reduceAdd, Nat.reduceMul, Nat.reduceSub, abin_shl, abin_shr, load1V, loadV, storeV, cellsAt, getN, setN, allocV, lenL, lenS, bnd, oneC, Value.oneCell', Nat.reduceLeDiff, Nat.reduceLT, exists_eq_left', forall_const, reduceCtorEq, app_new, app_new0, List.append_assoc, Int.reduceToNat, Int.reduceLT, Int.reduceLE, Int.reduceEq, Int.reduceNe, Int.reduceBEq, IntKind.bits, bne_self_eq_false, Int.reducePow]
        refine xcall (remote_nn n4) (by rfl) (by rfl) (by rfl) (by rfl) ?_
        rintro r g6 ⟨rfl, rfl⟩
        simp only [sx, x_box, x_alloc, x_bslice, x_slice, x_append, x_appz, x_b2s, xop, ev, evs, evParts, fillL, cellsL, Ai.get, Ai.put, stab, isNil?, if_false, if_true, addr?, int?, str?, agg?, bool?, shiftA, FnPost, xresL, xres1, tup, argEnv, ptr, Nat.reduceEqDiff, reduceIte, beq_self_eq_true, ne_eq, Nat.reduceAdd, Nat.reduceMul, Nat.reduceSub, abin_shl, abin_shr, load1V, loadV, storeV, cellsAt, getN, setN, allocV, lenL, lenS, bnd, oneC, Value.oneCell', Nat.reduceLeDiff, Nat.reduceLT, exists_eq_left', forall_const, reduceCtorEq, app_new, app_new0, List.append_assoc, Int.reduceToNat, Int.reduceLT, Int.reduceLE, Int.reduceEq, Int.reduceNe, Int.reduceBEq, IntKind.bits, bne_self_eq_false, Int.reducePow]
        refine xcall (rest_nn n4) (by rfl) (by rfl) (by rfl) (by rfl) ?_
        rintro r g7 ⟨rfl, rfl⟩
        simp only [sx, x_box, x_alloc, x_bslice, x_slice, x_append, x_appz, x_b2s, xop, ev, evs, evParts, fillL, cellsL, Ai.get, Ai.put, stab, isNil?, if_false, if_true, addr?, int?, str?, agg?, bool?, shiftA, FnPost, xresL, xres1, tup, argEnv, ptr, Nat.reduceEqDiff, reduceIte, beq_self_eq_true, ne_eq, Nat.reduceAdd, Nat.reduceMul, Nat.reduceSub, abin_shl, abin_shr, load1V, loadV, storeV, cellsAt, getN, setN, allocV, lenL, lenS, bnd, oneC, Value.oneCell', Nat.reduceLeDiff, Nat.reduceLT, exists_eq_left', forall_const, reduceCtorEq, app_new, app_new0, List.append_assoc, Int.reduceToNat, Int.reduceLT, Int.reduceLE, Int.reduceEq, Int.reduceNe, Int.reduceBEq, IntKind.bits, bne_self_eq_false, Int.reducePow]
        refine xcall (take_nn n4) (by rfl) (by rfl) (by rfl) (by rfl) ?_
        rintro r g8 ⟨rfl, rfl⟩
        simp only [sx, x_box, x_alloc, x_bslice, x_slice, x_append, x_appz, x_b2s, xop, ev, evs, evParts, fillL, cellsL, Ai.get, Ai.put, stab, isNil?, if_false, if_true, addr?, int?, str?, agg?, bool?, shiftA, FnPost, xresL, xres1, tup, argEnv, ptr, Nat.reduceEqDiff, reduceIte, beq_self_eq_true, ne_eq, Nat.reduceAdd, Nat.reduceMul, Nat.reduceSub, abin_shl, abin_shr, load1V, loadV, storeV, cellsAt, getN, setN, allocV, lenL, lenS, bnd, oneC, Value.oneCell', Nat.reduceLeDiff, Nat.reduceLT, exists_eq_left', forall_const, reduceCtorEq, app_new, app_new0, List.append_assoc, Int.reduceToNat, Int.reduceLT, Int.reduceLE, Int.reduceEq, Int.reduceNe, Int.reduceBEq, IntKind.bits, bne_self_eq_false, Int.reducePow, l0, g14, hwi]
        exact ⟨m - 1, by omega, i + 1, by omega, rfl, g13, (by intro p hp; have hh := hr p hp; simp only [List.mem_cons, List.not_mem_nil, or_false] at hp; rcases hp with rfl | rfl | rfl | rfl | rfl | rfl <;> exact hh), ((K.trans K2).trans K3).trans K4⟩
      · have hi' : ¬ (i : Int) < 2 := by omega
        simp only [sx, x_box, x_alloc, x_bslice, x_slice, x_append, x_appz, x_b2s, xop, ev, evs, evParts, fillL, cellsL, Ai.get, Ai.put, stab, isNil?, if_false, if_true, addr?, int?, str?, agg?, bool?, shiftA, FnPost, xresL, xres1, tup, argEnv, ptr, Nat.reduceEqDiff, reduceIte, beq_self_eq_true, ne_eq, Nat.reduceAdd, Nat.reduceMul, Nat.reduceSub, abin_shl, abin_shr, load1V, loadV, storeV, cellsAt, getN, setN, allocV, lenL, lenS, bnd, oneC, Value.oneCell', Nat.reduceLeDiff, Nat.reduceLT, exists_eq_left', forall_const, reduceCtorEq, app_new, app_new0, List.append_assoc, Int.reduceToNat, Int.reduceLT, Int.reduceLE, Int.reduceEq, Int.reduceNe, Int.reduceBEq, IntKind.bits, bne_self_eq_false, Int.reducePow, g14, hi']
        exact ⟨(by intro p hp; have hh := hr p hp; simp only [List.mem_cons, List.not_mem_nil, or_false] at hp; rcases hp with rfl | rfl | rfl | rfl | rfl | rfl <;> exact hh), K⟩
    · rintro ρ g1 ⟨hr, K⟩
      have g9 : get ρ 9 = some (.int .i64 2) := hr (9, .int .i64 2) (by simp)
      have g11 : get ρ 11 = some (.int .i64 2) := hr (11, .int .i64 2) (by simp)
      have g10 : get ρ 10 = some (.pointer none) := hr (10, .pointer none) (by simp)
      have c2 : ¬ (2 : Int) ≠ 2 := by decide
      have c0 : (2 : Int) ≠ 0 := by decide
      have b1 : ((true : Bool) != true) = false := rfl
      simp only [sx, x_box, x_alloc, x_bslice, x_slice, x_append, x_appz, x_b2s, xop, ev, evs, evParts, fillL, cellsL, Ai.get, Ai.put, stab, isNil?, if_false, if_true, addr?, int?, str?, agg?, bool?, shiftA, FnPost, xresL, xres1, tup, argEnv, ptr, Nat.reduceEqDiff, reduceIte, beq_self_eq_true, ne_eq, Nat.reduceAdd, Nat.reduceMul, Nat.reduceSub, abin_shl, abin_shr, load1V, loadV, storeV, cellsAt, getN, setN, allocV, lenL, lenS, bnd, oneC, Value.oneCell', Nat.reduceLeDiff, Nat.reduceLT, exists_eq_left', forall_const, reduceCtorEq, app_new, app_new0, List.append_assoc, Int.reduceToNat, Int.reduceLT, Int.reduceLE, Int.reduceEq, Int.reduceNe, Int.reduceBEq, IntKind.bits, bne_self_eq_false, Int.reducePow, g9, g11, g10, c2, c0, b1]
      refine xcall (lives_ok _) (by rfl) (by rfl) (by rfl) (by rfl) ?_
      rintro r h' rfl
      simp only [sx, x_box, x_alloc, x_bslice, x_slice, x_append, x_appz, x_b2s, xop, ev, evs, evParts, fillL, cellsL, Ai.get, Ai.put, stab, isNil?, if_false, if_true, addr?, int?, str?, agg?, bool?, shiftA, FnPost, xresL, xres1, tup, argEnv, ptr, Nat.reduceEqDiff, reduceIte, beq_self_eq_true, ne_eq, Nat.reduceAdd, Nat.reduceMul, Nat.reduceSub, abin_shl, abin_shr, load1V, loadV, storeV, cellsAt, getN, setN, allocV, lenL, lenS, bnd, oneC, Value.oneCell', Nat.reduceLeDiff, Nat.reduceLT, exists_eq_left', forall_const, reduceCtorEq, app_new, app_new0, List.append_assoc, Int.reduceToNat, Int.reduceLT, Int.reduceLE, Int.reduceEq, Int.reduceNe, Int.reduceBEq, IntKind.bits, bne_self_eq_false, Int.reducePow]
  · obtain ⟨n, rfl⟩ : ∃ n : Nat, many = n := ⟨many.toNat, by omega⟩
    have ee : ¬ (0 : Int) ≠ 0 := by decide
    refine xcall (group_new34 (n := n) (by omega) (by omega)) (by rfl) (by rfl) (by rfl) (by rfl) ?_
    rintro r h1 ⟨G, L, rfl, gg, K1, hG, hL⟩
    by_cases hag1 : again < 1
    · simp only [sx, x_box, x_bslice, x_slice, x_append, x_appz, x_b2s, xop, ev, evs, evParts, fillL, cellsL, Ai.get, Ai.put, stab, isNil?, if_false, if_true, addr?, int?, str?, agg?, bool?, shiftA, FnPost, xresL, xres1, tup, argEnv, ptr, Nat.reduceEqDiff, reduceIte, beq_self_eq_true, ne_eq, Nat.reduceAdd, Nat.reduceMul, Nat.reduceSub, abin_shl, abin_shr, load1V, loadV, storeV, cellsAt, getN, setN, allocV, lenL, lenS, bnd, oneC, Value.oneCell', Nat.reduceLeDiff, Nat.reduceLT, exists_eq_left', forall_const, reduceCtorEq, app_new, app_new0, List.append_assoc, Int.reduceToNat, Int.reduceLT, Int.reduceLE, Int.reduceEq, Int.reduceNe, Int.reduceBEq, IntKind.bits, bne_self_eq_false, Int.reducePow, ee, hag1]
      refine xcall (new_ok gg) (by rfl) (by rfl) (by rfl) (by rfl) ?_
      rintro r h2 (⟨-, rfl, K2⟩ | ⟨hbad, -⟩)
      rotate_left
      · omega
      simp only [sx, x_box, x_bslice, x_slice, x_append, x_appz, x_b2s, xop, ev, evs, evParts, fillL, cellsL, Ai.get, Ai.put, stab, isNil?, if_false, if_true, addr?, int?, str?, agg?, bool?, shiftA, FnPost, xresL, xres1, tup, argEnv, ptr, Nat.reduceEqDiff, reduceIte, beq_self_eq_true, ne_eq, Nat.reduceAdd, Nat.reduceMul, Nat.reduceSub, abin_shl, abin_shr, load1V, loadV, storeV, cellsAt, getN, setN, allocV, lenL, lenS, bnd, oneC, Value.oneCell', Nat.reduceLeDiff, Nat.reduceLT, exists_eq_left', forall_const, reduceCtorEq, app_new, app_new0, List.append_assoc, Int.reduceToNat, Int.reduceLT, Int.reduceLE, Int.reduceEq, Int.reduceNe, Int.reduceBEq, IntKind.bits, bne_self_eq_false, Int.reducePow]
      refine alloc_run fun g Z KZ hZ hZl _ => ?_
      simp only [sx, x_box, x_alloc, x_bslice, x_slice, x_append, x_appz, x_b2s, xop, ev, evs, evParts, fillL, cellsL, Ai.get, Ai.put, stab, isNil?, if_false, if_true, addr?, int?, str?, agg?, bool?, shiftA, FnPost, xresL, xres1, tup, argEnv, ptr, Nat.reduceEqDiff, reduceIte, beq_self_eq_true, ne_eq, Nat.reduceAdd, Nat.reduceMul, Nat.reduceSub, abin_shl, abin_shr, load1V, loadV, storeV, cellsAt, getN, setN, allocV, lenL, lenS, bnd, oneC, Value.oneCell', Nat.reduceLeDiff, Nat.reduceLT, exists_eq_left', forall_const, reduceCtorEq, app_new, app_new0, List.append_assoc, Int.reduceToNat, Int.reduceLT, Int.reduceLE, Int.reduceEq, Int.reduceNe, Int.reduceBEq, IntKind.bits, bne_self_eq_false, Int.reducePow]
      have hB := app_one g (some (AObj.mk true [Value.pointer none, .pointer (some ⟨Z, 0, none⟩)]))
      have hl1 : (g ++ [some (AObj.mk true [Value.pointer none, .pointer (some ⟨Z, 0, none⟩)])]).length = g.length + 1 := by simp
      have hZ1 := app_old (t := [some (AObj.mk true [Value.pointer none, .pointer (some ⟨Z, 0, none⟩)])]) hZ
      generalize g ++ [some (AObj.mk true [Value.pointer none, .pointer (some ⟨Z, 0, none⟩)])] = g0 at *
      refine xloop_cut (ErE g0 [(0, .int .i64 (n : Nat)), (1, .int .i64 again), (2, .slice q zs.length c), (9, .int .i64 1), (11, .int .i64 1), (10, .pointer none)]) ?_ ?_
      · refine xcode_loop (ErI g0 g.length Z [(0, .int .i64 (n : Nat)), (1, .int .i64 again), (2, .slice q zs.length c), (9, .int .i64 1), (11, .int .i64 1), (10, .pointer none)]) 2 ⟨0, by omega, rfl, rfl, (by intro p hp; simp only [List.mem_cons, List.not_mem_nil, or_false] at hp; rcases hp with rfl | rfl | rfl | rfl | rfl | rfl <;> rfl), Kp.refl _⟩ ?_
        rintro m ρ h1' ⟨i, him, g14, g13, hr, K⟩
        by_cases hi : i < 2
        · have hi' : (i : Int) < 2 := by omega
          have hi2 : (i : Int) < ((2 : Nat) : Int) := by omega
          have hge : (0 : Int) ≤ i := by omega
          have hwi : IntKind.i64.wrap ((i : Int) + 1) = ((i + 1 : Nat) : Int) := by rw [i64_wrap] <;> omega
          have hB1 := K.get hB
          obtain ⟨x, hx, nx⟩ := nn_cell hB1 (K.get hZ1) hi
          have c2 : ¬ (2 : Int) ≠ 2 := by decide
          have l0 : ¬ ((0 : Nat) : Int) ≠ 0 := by decide
          simp only [sx, x_box, x_alloc, x_bslice, x_slice, x_append, x_appz, x_b2s, xop, ev, evs, evParts, fillL, cellsL, Ai.get, Ai.put, stab, isNil?, if_false, if_true, addr?, int?, str?, agg?, bool?, shiftA, FnPost, xresL, xres1, tup, argEnv, ptr, Nat.reduceEqDiff, reduceIte, beq_self_eq_true, ne_eq, Nat.reduceAdd, Nat.reduceMul, Nat.reduceSub, abin_shl, abin_shr, load1V, loadV, storeV, cellsAt, getN, setN, allocV, lenL, lenS, bnd, oneC, Value.oneCell', Nat.reduceLeDiff, Nat.reduceLT, exists_eq_left', forall_const, reduceCtorEq, app_new, app_new0, List.append_assoc, Int.reduceToNat, Int.reduceLT, Int.reduceLE, Int.reduceEq, Int.reduceNe, Int.reduceBEq, IntKind.bits, bne_self_eq_false, Int.reducePow, g14, g13, hi', hi2, hge, hB1, hx, Nat.mul_one]
          refine xcall (tick_nn nx) (by rfl) (by rfl) (by rfl) (by rfl) ?_
          rintro r g1 rfl
          simp only [sx, x_box, x_alloc, x_bslice, x_slice, x_append, x_appz, x_b2s, xop, ev, evs, evParts, fillL, cellsL, Ai.get, Ai.put, stab, isNil?, if_false, if_true, addr?, int?, str?, agg?, bool?, shiftA, FnPost, xresL, xres1, tup, argEnv, ptr, Nat.reduceEqDiff, reduceIte, beq_self_eq_true, ne_eq, Nat.reduceAdd, Nat.reduceMul, Nat.reduceSub, abin_shl, abin_shr, load1V, loadV, storeV, cellsAt, getN, setN, allocV, lenL, lenS, bnd, oneC, Value.oneCell', Nat.reduceLeDiff, Nat.reduceLT, exists_eq_left', forall_const, reduceCtorEq, app_new, app_new0, List.append_assoc, Int.reduceToNat, Int.reduceLT, Int.reduceLE, Int.reduceEq, Int.reduceNe, Int.reduceBEq, IntKind.bits, bne_self_eq_false, Int.reducePow]
          refine xcall (set_nn (z := .int .i64 0) rfl nx) (by rfl) (by rfl) (by rfl) (by rfl) ?_
          rintro r g2 ⟨rfl, K2⟩
          simp only [sx, x_box, x_alloc, x_bslice, x_slice, x_append, x_appz, x_b2s, xop, ev, evs, evParts, fillL, cellsL, Ai.get, Ai.put, stab, isNil?, if_false, if_true, addr?, int?, str?, agg?, bool?, shiftA, FnPost, xresL, xres1, tup, argEnv, ptr, Nat.reduceEqDiff, reduceIte, beq_self_eq_true, ne_eq, Nat.reduceAdd, Nat.reduceMul, Nat.reduceSub, abin_shl, abin_shr, load1V, loadV, storeV, cellsAt, getN, setN, allocV, lenL, lenS, bnd, oneC, Value.oneCell', Nat.reduceLeDiff, Nat.reduceLT, exists_eq_left', forall_const, reduceCtorEq, app_new, app_new0, List.append_assoc, Int.reduceToNat, Int.reduceLT, Int.reduceLE, Int.reduceEq, Int.reduceNe, Int.reduceBEq, IntKind.bits, bne_self_eq_false, Int.reducePow, c2]
          refine xcall (setall_nn (nx.kp K2)) (by rfl) (by rfl) (by rfl) (by rfl) ?_
          rintro r g3 ⟨rfl, K3⟩
          simp only [sx, x_box, x_alloc, x_bslice, x_slice, x_append, x_appz, x_b2s, xop, ev, evs, evParts, fillL, cellsL, Ai.get, Ai.put, stab, isNil?, if_false, if_true, addr?, int?, str?, agg?, bool?, shiftA, FnPost, xresL, xres1, tup, argEnv, ptr, Nat.reduceEqDiff, reduceIte, beq_self_eq_true, ne_eq, Nat.reduceAdd, Nat.reduceMul, Nat.reduceSub, abin_shl, abin_shr, load1V, loadV, storeV, cellsAt, getN, setN, allocV, lenL, lenS, bnd, oneC, Value.oneCell', Nat.reduceLeDiff, Nat.reduceLT, exists_eq_left', forall_const, reduceCtorEq, app_new, app_new0, List.append_assoc, Int.reduceToNat, Int.reduceLT, Int.reduceLE, Int.reduceEq, Int.reduceNe, Int.reduceBEq, IntKind.bits, bne_self_eq_false, Int.reducePow, c2]
          refine xcall (hear_nn ⟨_, rfl⟩ ((nx.kp K2).kp K3)) (by rfl) (by rfl) (by rfl) (by rfl) ?_
          rintro r g4 ⟨rfl, K4⟩
          have n4 := ((nx.kp K2).kp K3).kp K4
          simp only [sx, x_box, x_alloc, x_bslice, x_slice, x_append, x_appz, x_b2s, xop, ev, evs, evParts, fillL, cellsL, Ai.get, Ai.put, stab, isNil?, if_false, if_true, addr?, int?, str?, agg?, bool?, shiftA, FnPost, xresL, xres1, tup, argEnv, ptr, Nat.reduceEqDiff, reduceIte, beq_self_eq_true, ne_eq, Nat.reduceAdd, Nat.reduceMul, Nat.reduceSub, abin_shl, abin_shr, load1V, loadV, storeV, cellsAt, getN, setN, allocV, lenL, lenS, bnd, oneC, Value.oneCell', Nat.reduceLeDiff, Nat.reduceLT, exists_eq_left', forall_const, reduceCtorEq, app_new, app_new0, List.append_assoc, Int.reduceToNat, Int.reduceLT, Int.reduceLE, Int.reduceEq, Int.reduceNe, Int.reduceBEq, IntKind.bits, bne_self_eq_false, Int.reducePow, c2]
          refine xcall (local_nn n4) (by rfl) (by rfl) (by rfl) (by rfl) ?_
          rintro r g5 ⟨rfl, rfl⟩
          simp only [sx, x_box, x_alloc, x_bslice, x_slice, x_append, x_appz, x_b2s, xop, ev, evs, evParts, fillL, cellsL, Ai.get, Ai.put, stab, isNil?, if_false, if_true, addr?, int?, str?, agg?, bool?, shiftA, FnPost, xresL, xres1, tup, argEnv, ptr, Nat.reduceEqDiff, reduceIte, beq_self_eq_true, ne_eq, Nat.reduceAdd, Nat.reduceMul, Nat.reduceSub, abin_shl, abin_shr, load1V, loadV, storeV, cellsAt, getN, setN, allocV, lenL, lenS, bnd, oneC, Value.oneCell', Nat.reduceLeDiff, Nat.reduceLT, exists_eq_left', forall_const, reduceCtorEq, app_new, app_new0, List.append_assoc, Int.reduceToNat, Int.reduceLT, Int.reduceLE, Int.reduceEq, Int.reduceNe, Int.reduceBEq, IntKind.bits, bne_self_eq_false, Int.reducePow]
          refine xcall (remote_nn n4) (by rfl) (by rfl) (by rfl) (by rfl) ?_
          rintro r g6 ⟨rfl, rfl⟩
          simp only [sx, x_box, x_alloc, x_bslice, x_slice, x_append, x_appz, x_b2s, xop, ev, evs, evParts, fillL, cellsL, Ai.get, Ai.put, stab, isNil?, if_false, if_true, addr?, int?, str?, agg?, bool?, shiftA, FnPost, xresL, xres1, tup, argEnv, ptr, Nat.reduceEqDiff, reduceIte, beq_self_eq_true, ne_eq, Nat.reduceAdd, Nat.reduceMul, Nat.reduceSub, abin_shl, abin_shr, load1V, loadV, storeV, cellsAt, getN, setN, allocV, lenL, lenS, bnd, oneC, Value.oneCell', Nat.reduceLeDiff, Nat.reduceLT, exists_eq_left', forall_const, reduceCtorEq, app_new, app_new0, List.append_assoc, Int.reduceToNat, Int.reduceLT, Int.reduceLE, Int.reduceEq, Int.reduceNe, Int.reduceBEq, IntKind.bits, bne_self_eq_false, Int.reducePow]
          refine xcall (rest_nn n4) (by rfl) (by rfl) (by rfl) (by rfl) ?_
          rintro r g7 ⟨rfl, rfl⟩
          simp only [sx, x_box, x_alloc, x_bslice, x_slice, x_append, x_appz, x_b2s, xop, ev, evs, evParts, fillL, cellsL, Ai.get, Ai.put, stab, isNil?, if_false, if_true, addr?, int?, str?, agg?, bool?, shiftA, FnPost, xresL, xres1, tup, argEnv, ptr, Nat.reduceEqDiff, reduceIte, beq_self_eq_true, ne_eq, Nat.reduceAdd, Nat.reduceMul, Nat.reduceSub, abin_shl, abin_shr, load1V, loadV, storeV, cellsAt, getN, setN, allocV, lenL, lenS, bnd, oneC, Value.oneCell', Nat.reduceLeDiff, Nat.reduceLT, exists_eq_left', forall_const, reduceCtorEq, app_new, app_new0, List.append_assoc, Int.reduceToNat, Int.reduceLT, Int.reduceLE, Int.reduceEq, Int.reduceNe, Int.reduceBEq, IntKind.bits, bne_self_eq_false, Int.reducePow]
          refine xcall (take_nn n4) (by rfl) (by rfl) (by rfl) (by rfl) ?_
          rintro r g8 ⟨rfl, rfl⟩
          simp only [sx, x_box, x_alloc, x_bslice, x_slice, x_append, x_appz, x_b2s, xop, ev, evs, evParts, fillL, cellsL, Ai.get, Ai.put, stab, isNil?, if_false, if_true, addr?, int?, str?, agg?, bool?, shiftA, FnPost, xresL, xres1, tup, argEnv, ptr, Nat.reduceEqDiff, reduceIte, beq_self_eq_true, ne_eq, Nat.reduceAdd, Nat.reduceMul, Nat.reduceSub, abin_shl, abin_shr, load1V, loadV, storeV, cellsAt, getN, setN, allocV, lenL, lenS, bnd, oneC, Value.oneCell', Nat.reduceLeDiff, Nat.reduceLT, exists_eq_left', forall_const, reduceCtorEq, app_new, app_new0, List.append_assoc, Int.reduceToNat, Int.reduceLT, Int.reduceLE, Int.reduceEq, Int.reduceNe, Int.reduceBEq, IntKind.bits, bne_self_eq_false, Int.reducePow, l0, g14, hwi]
          exact ⟨m - 1, by omega, i + 1, by omega, rfl, g13, (by intro p hp; have hh := hr p hp; simp only [List.mem_cons, List.not_mem_nil, or_false] at hp; rcases hp with rfl | rfl | rfl | rfl | rfl | rfl <;> exact hh), ((K.trans K2).trans K3).trans K4⟩
        · have hi' : ¬ (i : Int) < 2 := by omega
          simp only [sx, x_box, x_alloc, x_bslice, x_slice, x_append, x_appz, x_b2s, xop, ev, evs, evParts, fillL, cellsL, Ai.get, Ai.put, stab, isNil?, if_false, if_true, addr?, int?, str?, agg?, bool?, shiftA, FnPost, xresL, xres1, tup, argEnv, ptr, Nat.reduceEqDiff, reduceIte, beq_self_eq_true, ne_eq, Nat.reduceAdd, Nat.reduceMul, Nat.reduceSub, abin_shl, abin_shr, load1V, loadV, storeV, cellsAt, getN, setN, allocV, lenL, lenS, bnd, oneC, Value.oneCell', Nat.reduceLeDiff, Nat.reduceLT, exists_eq_left', forall_const, reduceCtorEq, app_new, app_new0, List.append_assoc, Int.reduceToNat, Int.reduceLT, Int.reduceLE, Int.reduceEq, Int.reduceNe, Int.reduceBEq, IntKind.bits, bne_self_eq_false, Int.reducePow, g14, hi']
          exact ⟨(by intro p hp; have hh := hr p hp; simp only [List.mem_cons, List.not_mem_nil, or_false] at hp; rcases hp with rfl | rfl | rfl | rfl | rfl | rfl <;> exact hh), K⟩
      · rintro ρ g1 ⟨hr, K⟩
        have g9 : get ρ 9 = some (.int .i64 1) := hr (9, .int .i64 1) (by simp)
        have g11 : get ρ 11 = some (.int .i64 1) := hr (11, .int .i64 1) (by simp)
        have g10 : get ρ 10 = some (.pointer none) := hr (10, .pointer none) (by simp)
        have c2 : ¬ (1 : Int) ≠ 1 := by decide
        have c0 : (1 : Int) ≠ 0 := by decide
        have b1 : ((true : Bool) != true) = false := rfl
        simp only [sx, x_box, x_alloc, x_bslice, x_slice, x_append, x_appz, x_b2s, xop, ev, evs, evParts, fillL, cellsL, Ai.get, Ai.put, stab, isNil?, if_false, if_true, addr?, int?, str?, agg?, bool?, shiftA, FnPost, xresL, xres1, tup, argEnv, ptr, Nat.reduceEqDiff, reduceIte, beq_self_eq_true, ne_eq, Nat.reduceAdd, Nat.reduceMul, Nat.reduceSub, abin_shl, abin_shr, load1V, loadV, storeV, cellsAt, getN, setN, allocV, lenL, lenS, bnd, oneC, Value.oneCell', Nat.reduceLeDiff, Nat.reduceLT, exists_eq_left', forall_const, reduceCtorEq, app_new, app_new0, List.append_assoc, Int.reduceToNat, Int.reduceLT, Int.reduceLE, Int.reduceEq, Int.reduceNe, Int.reduceBEq, IntKind.bits, bne_self_eq_false, Int.reducePow, g9, g11, g10, c2, c0, b1]
        refine xcall (lives_ok _) (by rfl) (by rfl) (by rfl) (by rfl) ?_
        rintro r h' rfl
        simp only [sx, x_box, x_alloc, x_bslice, x_slice, x_append, x_appz, x_b2s, xop, ev, evs, evParts, fillL, cellsL, Ai.get, Ai.put, stab, isNil?, if_false, if_true, addr?, int?, str?, agg?, bool?, shiftA, FnPost, xresL, xres1, tup, argEnv, ptr, Nat.reduceEqDiff, reduceIte, beq_self_eq_true, ne_eq, Nat.reduceAdd, Nat.reduceMul, Nat.reduceSub, abin_shl, abin_shr, load1V, loadV, storeV, cellsAt, getN, setN, allocV, lenL, lenS, bnd, oneC, Value.oneCell', Nat.reduceLeDiff, Nat.reduceLT, exists_eq_left', forall_const, reduceCtorEq, app_new, app_new0, List.append_assoc, Int.reduceToNat, Int.reduceLT, Int.reduceLE, Int.reduceEq, Int.reduceNe, Int.reduceBEq, IntKind.bits, bne_self_eq_false, Int.reducePow]
    · simp only [sx, x_box, x_bslice, x_slice, x_append, x_appz, x_b2s, xop, ev, evs, evParts, fillL, cellsL, Ai.get, Ai.put, stab, isNil?, if_false, if_true, addr?, int?, str?, agg?, bool?, shiftA, FnPost, xresL, xres1, tup, argEnv, ptr, Nat.reduceEqDiff, reduceIte, beq_self_eq_true, ne_eq, Nat.reduceAdd, Nat.reduceMul, Nat.reduceSub, abin_shl, abin_shr, load1V, loadV, storeV, cellsAt, getN, setN, allocV, lenL, lenS, bnd, oneC, Value.oneCell', Nat.reduceLeDiff, Nat.reduceLT, exists_eq_left', forall_const, reduceCtorEq, app_new, app_new0, List.append_assoc, Int.reduceToNat, Int.reduceLT, Int.reduceLE, Int.reduceEq, Int.reduceNe, Int.reduceBEq, IntKind.bits, bne_self_eq_false, Int.reducePow, ee, hag1]
      refine xcall (new_ok gg) (by rfl) (by rfl) (by rfl) (by rfl) ?_
      rintro r h2 (⟨hbad, -⟩ | ⟨-, -, D, T, rfl, A, K2, hD, hT⟩)
      · rw [isF_free] at hbad; rcases hbad with h | h
        · omega
        · cases h
      simp only [sx, x_box, x_bslice, x_slice, x_append, x_appz, x_b2s, xop, ev, evs, evParts, fillL, cellsL, Ai.get, Ai.put, stab, isNil?, if_false, if_true, addr?, int?, str?, agg?, bool?, shiftA, FnPost, xresL, xres1, tup, argEnv, ptr, Nat.reduceEqDiff, reduceIte, beq_self_eq_true, ne_eq, Nat.reduceAdd, Nat.reduceMul, Nat.reduceSub, abin_shl, abin_shr, load1V, loadV, storeV, cellsAt, getN, setN, allocV, lenL, lenS, bnd, oneC, Value.oneCell', Nat.reduceLeDiff, Nat.reduceLT, exists_eq_left', forall_const, reduceCtorEq, app_new, app_new0, List.append_assoc, Int.reduceToNat, Int.reduceLT, Int.reduceLE, Int.reduceEq, Int.reduceNe, Int.reduceBEq, IntKind.bits, bne_self_eq_false, Int.reducePow]
      refine alloc_run fun g Z KZ hZ hZl _ => ?_
      simp only [sx, x_box, x_alloc, x_bslice, x_slice, x_append, x_appz, x_b2s, xop, ev, evs, evParts, fillL, cellsL, Ai.get, Ai.put, stab, isNil?, if_false, if_true, addr?, int?, str?, agg?, bool?, shiftA, FnPost, xresL, xres1, tup, argEnv, ptr, Nat.reduceEqDiff, reduceIte, beq_self_eq_true, ne_eq, Nat.reduceAdd, Nat.reduceMul, Nat.reduceSub, abin_shl, abin_shr, load1V, loadV, storeV, cellsAt, getN, setN, allocV, lenL, lenS, bnd, oneC, Value.oneCell', Nat.reduceLeDiff, Nat.reduceLT, exists_eq_left', forall_const, reduceCtorEq, app_new, app_new0, List.append_assoc, Int.reduceToNat, Int.reduceLT, Int.reduceLE, Int.reduceEq, Int.reduceNe, Int.reduceBEq, IntKind.bits, bne_self_eq_false, Int.reducePow]
      have hB := app_one g (some (AObj.mk true [Value.pointer none, .pointer (some ⟨Z, 0, none⟩)]))
      have KT := Kp.app g [some (AObj.mk true [Value.pointer none, .pointer (some ⟨Z, 0, none⟩)])]
      have hl1 : (g ++ [some (AObj.mk true [Value.pointer none, .pointer (some ⟨Z, 0, none⟩)])]).length = g.length + 1 := by simp
      have hZ1 := app_old (t := [some (AObj.mk true [Value.pointer none, .pointer (some ⟨Z, 0, none⟩)])]) hZ
      generalize g ++ [some (AObj.mk true [Value.pointer none, .pointer (some ⟨Z, 0, none⟩)])] = g0 at *
      refine xloop_cut (ErE g0 [(0, .int .i64 (n : Nat)), (1, .int .i64 again), (2, .slice q zs.length c), (9, .int .i64 0), (11, .int .i64 0), (10, .pointer (some ⟨D, 0, none⟩)), (7, .pointer (some ⟨G, 0, none⟩))]) ?_ ?_
      · refine xcode_loop (ErI g0 g.length Z [(0, .int .i64 (n : Nat)), (1, .int .i64 again), (2, .slice q zs.length c), (9, .int .i64 0), (11, .int .i64 0), (10, .pointer (some ⟨D, 0, none⟩)), (7, .pointer (some ⟨G, 0, none⟩))]) 2 ⟨0, by omega, rfl, rfl, (by intro p hp; simp only [List.mem_cons, List.not_mem_nil, or_false] at hp; rcases hp with rfl | rfl | rfl | rfl | rfl | rfl | rfl <;> rfl), Kp.refl _⟩ ?_
        rintro m ρ h1' ⟨i, him, g14, g13, hr, K⟩
        by_cases hi : i < 2
        · have hi' : (i : Int) < 2 := by omega
          have hi2 : (i : Int) < ((2 : Nat) : Int) := by omega
          have hge : (0 : Int) ≤ i := by omega
          have hwi : IntKind.i64.wrap ((i : Int) + 1) = ((i + 1 : Nat) : Int) := by rw [i64_wrap] <;> omega
          have hB1 := K.get hB
          obtain ⟨x, hx, nx⟩ := nn_cell hB1 (K.get hZ1) hi
          have c2 : ¬ (2 : Int) ≠ 2 := by decide
          have l0 : ¬ ((0 : Nat) : Int) ≠ 0 := by decide
          simp only [sx, x_box, x_alloc, x_bslice, x_slice, x_append, x_appz, x_b2s, xop, ev, evs, evParts, fillL, cellsL, Ai.get, Ai.put, stab, isNil?, if_false, if_true, addr?, int?, str?, agg?, bool?, shiftA, FnPost, xresL, xres1, tup, argEnv, ptr, Nat.reduceEqDiff, reduceIte, beq_self_eq_true, ne_eq, Nat.reduceAdd, Nat.reduceMul, Nat.reduceSub, abin_shl, abin_shr, load1V, loadV, storeV, cellsAt, getN, setN, allocV, lenL, lenS, bnd, oneC, Value.oneCell', Nat.reduceLeDiff, Nat.reduceLT, exists_eq_left', forall_const, reduceCtorEq, app_new, app_new0, List.append_assoc, Int.reduceToNat, Int.reduceLT, Int.reduceLE, Int.reduceEq, Int.reduceNe, Int.reduceBEq, IntKind.bits, bne_self_eq_false, Int.reducePow, g14, g13, hi', hi2, hge, hB1, hx, Nat.mul_one]
          refine xcall (tick_nn nx) (by rfl) (by rfl) (by rfl) (by rfl) ?_
          rintro r g1 rfl
          simp only [sx, x_box, x_alloc, x_bslice, x_slice, x_append, x_appz, x_b2s, xop, ev, evs, evParts, fillL, cellsL, Ai.get, Ai.put, stab, isNil?, if_false, if_true, addr?, int?, str?, agg?, bool?, shiftA, FnPost, xresL, xres1, tup, argEnv, ptr, Nat.reduceEqDiff, reduceIte, beq_self_eq_true, ne_eq, Nat.reduceAdd, Nat.reduceMul, Nat.reduceSub, abin_shl, abin_shr, load1V, loadV, storeV, cellsAt, getN, setN, allocV, lenL, lenS, bnd, oneC, Value.oneCell', Nat.reduceLeDiff, Nat.reduceLT, exists_eq_left', forall_const, reduceCtorEq, app_new, app_new0, List.append_assoc, Int.reduceToNat, Int.reduceLT, Int.reduceLE, Int.reduceEq, Int.reduceNe, Int.reduceBEq, IntKind.bits, bne_self_eq_false, Int.reducePow]
          refine xcall (set_nn (z := .int .i64 0) rfl nx) (by rfl) (by rfl) (by rfl) (by rfl) ?_
          rintro r g2 ⟨rfl, K2⟩
          simp only [sx, x_box, x_alloc, x_bslice, x_slice, x_append, x_appz, x_b2s, xop, ev, evs, evParts, fillL, cellsL, Ai.get, Ai.put, stab, isNil?, if_false, if_true, addr?, int?, str?, agg?, bool?, shiftA, FnPost, xresL, xres1, tup, argEnv, ptr, Nat.reduceEqDiff, reduceIte, beq_self_eq_true, ne_eq, Nat.reduceAdd, Nat.reduceMul, Nat.reduceSub, abin_shl, abin_shr, load1V, loadV, storeV, cellsAt, getN, setN, allocV, lenL, lenS, bnd, oneC, Value.oneCell', Nat.reduceLeDiff, Nat.reduceLT, exists_eq_left', forall_const, reduceCtorEq, app_new, app_new0, List.append_assoc, Int.reduceToNat, Int.reduceLT, Int.reduceLE, Int.reduceEq, Int.reduceNe, Int.reduceBEq, IntKind.bits, bne_self_eq_false, Int.reducePow, c2]
          refine xcall (setall_nn (nx.kp K2)) (by rfl) (by rfl) (by rfl) (by rfl) ?_
          rintro r g3 ⟨rfl, K3⟩
          simp only [sx, x_box, x_alloc, x_bslice, x_slice, x_append, x_appz, x_b2s, xop, ev, evs, evParts, fillL, cellsL, Ai.get, Ai.put, stab, isNil?, if_false, if_true, addr?, int?, str?, agg?, bool?, shiftA, FnPost, xresL, xres1, tup, argEnv, ptr, Nat.reduceEqDiff, reduceIte, beq_self_eq_true, ne_eq, Nat.reduceAdd, Nat.reduceMul, Nat.reduceSub, abin_shl, abin_shr, load1V, loadV, storeV, cellsAt, getN, setN, allocV, lenL, lenS, bnd, oneC, Value.oneCell', Nat.reduceLeDiff, Nat.reduceLT, exists_eq_left', forall_const, reduceCtorEq, app_new, app_new0, List.append_assoc, Int.reduceToNat, Int.reduceLT, Int.reduceLE, Int.reduceEq, Int.reduceNe, Int.reduceBEq, IntKind.bits, bne_self_eq_false, Int.reducePow, c2]
          refine xcall (hear_nn ⟨_, rfl⟩ ((nx.kp K2).kp K3)) (by rfl) (by rfl) (by rfl) (by rfl) ?_
          rintro r g4 ⟨rfl, K4⟩
          have n4 := ((nx.kp K2).kp K3).kp K4
          simp only [sx, x_box, x_alloc, x_bslice, x_slice, x_append, x_appz, x_b2s, xop, ev, evs, evParts, fillL, cellsL, Ai.get, Ai.put, stab, isNil?, if_false, if_true, addr?, int?, str?, agg?, bool?, shiftA, FnPost, xresL, xres1, tup, argEnv, ptr, Nat.reduceEqDiff, reduceIte, beq_self_eq_true, ne_eq, Nat.reduceAdd, Nat.reduceMul, Nat.reduceSub, abin_shl, abin_shr, load1V, loadV, storeV, cellsAt, getN, setN, allocV, lenL, lenS, bnd, oneC, Value.oneCell', Nat.reduceLeDiff, Nat.reduceLT, exists_eq_left', forall_const, reduceCtorEq, app_new, app_new0, List.append_assoc, Int.reduceToNat, Int.reduceLT, Int.reduceLE, Int.reduceEq, Int.reduceNe, Int.reduceBEq, IntKind.bits, bne_self_eq_false, Int.reducePow, c2]
          refine xcall (local_nn n4) (by rfl) (by rfl) (by rfl) (by rfl) ?_
          rintro r g5 ⟨rfl, rfl⟩
          simp only [sx, x_box, x_alloc, x_bslice, x_slice, x_append, x_appz, x_b2s, xop, ev, evs, evParts, fillL, cellsL, Ai.get, Ai.put, stab, isNil?, if_false, if_true, addr?, int?, str?, agg?, bool?, shiftA, FnPost, xresL, xres1, tup, argEnv, ptr, Nat.reduceEqDiff, reduceIte, beq_self_eq_true, ne_eq, Nat.reduceAdd, Nat.reduceMul, Nat.reduceSub, abin_shl, abin_shr, load1V, loadV, storeV, cellsAt, getN, setN, allocV, lenL, lenS, bnd, oneC, Value.oneCell', Nat.reduceLeDiff, Nat.reduceLT, exists_eq_left', forall_const, reduceCtorEq, app_new, app_new0, List.append_assoc, Int.reduceToNat, Int.reduceLT, Int.reduceLE, Int.reduceEq, Int.reduceNe, Int.reduceBEq, IntKind.bits, bne_self_eq_false, Int.reducePow]
          refine xcall (remote_nn n4) (by rfl) (by rfl) (by rfl) (by rfl) ?_
          rintro r g6 ⟨rfl, rfl⟩
          simp only [sx, x_box, x_alloc, x_bslice, x_slice, x_append, x_appz, x_b2s, xop, ev, evs, evParts, fillL, cellsL, Ai.get, Ai.put, stab, isNil?, if_false, if_true, addr?, int?, str?, agg?, bool?, shiftA, FnPost, xresL, xres1, tup, argEnv, ptr, Nat.reduceEqDiff, reduceIte, beq_self_eq_true, ne_eq, Nat.reduceAdd, Nat.reduceMul, Nat.reduceSub, abin_shl, abin_shr, load1V, loadV, storeV, cellsAt, getN, setN, allocV, lenL, lenS, bnd, oneC, Value.oneCell', Nat.reduceLeDiff, Nat.reduceLT, exists_eq_left', forall_const, reduceCtorEq, app_new, app_new0, List.append_assoc, Int.reduceToNat, Int.reduceLT, Int.reduceLE, Int.reduceEq, Int.reduceNe, Int.reduceBEq, IntKind.bits, bne_self_eq_false, Int.reducePow]
          refine xcall (rest_nn n4) (by rfl) (by rfl) (by rfl) (by rfl) ?_
          rintro r g7 ⟨rfl, rfl⟩
          simp only [sx, x_box, x_alloc, x_bslice, x_slice, x_append, x_appz, x_b2s, xop, ev, evs, evParts, fillL, cellsL, Ai.get, Ai.put, stab, isNil?, if_false, if_true, addr?, int?, str?, agg?, bool?, shiftA, FnPost, xresL, xres1, tup, argEnv, ptr, Nat.reduceEqDiff, reduceIte, beq_self_eq_true, ne_eq, Nat.reduceAdd, Nat.reduceMul, Nat.reduceSub, abin_shl, abin_shr, load1V, loadV, storeV, cellsAt, getN, setN, allocV, lenL, lenS, bnd, oneC, Value.oneCell', Nat.reduceLeDiff, Nat.reduceLT, exists_eq_left', forall_const, reduceCtorEq, app_new, app_new0, List.append_assoc, Int.reduceToNat, Int.reduceLT, Int.reduceLE, Int.reduceEq, Int.reduceNe, Int.reduceBEq, IntKind.bits, bne_self_eq_false, Int.reducePow]
          refine xcall (take_nn n4) (by rfl) (by rfl) (by rfl) (by rfl) ?_
          rintro r g8 ⟨rfl, rfl⟩
          simp only [sx, x_box, x_alloc, x_bslice, x_slice, x_append, x_appz, x_b2s, xop, ev, evs, evParts, fillL, cellsL, Ai.get, Ai.put, stab, isNil?, if_false, if_true, addr?, int?, str?, agg?, bool?, shiftA, FnPost, xresL, xres1, tup, argEnv, ptr, Nat.reduceEqDiff, reduceIte, beq_self_eq_true, ne_eq, Nat.reduceAdd, Nat.reduceMul, Nat.reduceSub, abin_shl, abin_shr, load1V, loadV, storeV, cellsAt, getN, setN, allocV, lenL, lenS, bnd, oneC, Value.oneCell', Nat.reduceLeDiff, Nat.reduceLT, exists_eq_left', forall_const, reduceCtorEq, app_new, app_new0, List.append_assoc, Int.reduceToNat, Int.reduceLT, Int.reduceLE, Int.reduceEq, Int.reduceNe, Int.reduceBEq, IntKind.bits, bne_self_eq_false, Int.reducePow, l0, g14, hwi]
          exact ⟨m - 1, by omega, i + 1, by omega, rfl, g13, (by intro p hp; have hh := hr p hp; simp only [List.mem_cons, List.not_mem_nil, or_false] at hp; rcases hp with rfl | rfl | rfl | rfl | rfl | rfl | rfl <;> exact hh), ((K.trans K2).trans K3).trans K4⟩
        · have hi' : ¬ (i : Int) < 2 := by omega
          simp only [sx, x_box, x_alloc, x_bslice, x_slice, x_append, x_appz, x_b2s, xop, ev, evs, evParts, fillL, cellsL, Ai.get, Ai.put, stab, isNil?, if_false, if_true, addr?, int?, str?, agg?, bool?, shiftA, FnPost, xresL, xres1, tup, argEnv, ptr, Nat.reduceEqDiff, reduceIte, beq_self_eq_true, ne_eq, Nat.reduceAdd, Nat.reduceMul, Nat.reduceSub, abin_shl, abin_shr, load1V, loadV, storeV, cellsAt, getN, setN, allocV, lenL, lenS, bnd, oneC, Value.oneCell', Nat.reduceLeDiff, Nat.reduceLT, exists_eq_left', forall_const, reduceCtorEq, app_new, app_new0, List.append_assoc, Int.reduceToNat, Int.reduceLT, Int.reduceLE, Int.reduceEq, Int.reduceNe, Int.reduceBEq, IntKind.bits, bne_self_eq_false, Int.reducePow, g14, hi']
          exact ⟨(by intro p hp; have hh := hr p hp; simp only [List.mem_cons, List.not_mem_nil, or_false] at hp; rcases hp with rfl | rfl | rfl | rfl | rfl | rfl | rfl <;> exact hh), K⟩
      · rintro ρ g1 ⟨hr, K⟩
        have g0 : get ρ 0 = some (.int .i64 (n : Nat)) := hr (0, .int .i64 (n : Nat)) (by simp)
        have g2 : get ρ 2 = some (.slice q zs.length c) := hr (2, .slice q zs.length c) (by simp)
        have g9 : get ρ 9 = some (.int .i64 0) := hr (9, .int .i64 0) (by simp)
        have g11 : get ρ 11 = some (.int .i64 0) := hr (11, .int .i64 0) (by simp)
        have g10 : get ρ 10 = some (.pointer (some ⟨D, 0, none⟩)) := hr (10, .pointer (some ⟨D, 0, none⟩)) (by simp)
        have g7 : get ρ 7 = some (.pointer (some ⟨G, 0, none⟩)) := hr (7, .pointer (some ⟨G, 0, none⟩)) (by simp)
        have c0 : ¬ (0 : Int) ≠ 0 := by decide
        have b1 : ((false : Bool) != false) = false := rfl
        have KA := (KZ.trans KT).trans K
        have A1 := A.kp KA
        have V1 := ((V.kp K1).kp K2).kp KA
        have hL1 : ∀ a, q = some a → a.block ≠ L := fun a ha => by have := V.2 a ha; omega
        have hD1 : ∀ B, ftD D G L T (.slice none 0 0) B → h.length ≤ B := by
          rintro B ⟨i, hi | hi | hi | hi | ⟨-, hi⟩⟩
          · have := hi.2; have := K1.1; omega
          · have := hi.2; omega
          · have := hi.2; omega
          · have := hi.2; have := K1.1; omega
          · simp [slB] at hi
        have hl1 : h.length ≤ g1.length := Nat.le_trans (Nat.le_trans K1.1 K2.1) KA.1
        have hql : ∀ a, q = some a → a.block < h.length := V.2
        clear hr K KA A V hB hZ1 hZ hZl KZ KT K1 K2 hl1 hG hL hD hT gg
        simp only [sx, x_box, x_alloc, x_bslice, x_slice, x_append, x_appz, x_b2s, xop, ev, evs, evParts, fillL, cellsL, Ai.get, Ai.put, stab, isNil?, if_false, if_true, addr?, int?, str?, agg?, bool?, shiftA, FnPost, xresL, xres1, tup, argEnv, ptr, Nat.reduceEqDiff, reduceIte, beq_self_eq_true, ne_eq, Nat.reduceAdd, Nat.reduceMul, Nat.reduceSub, abin_shl, abin_shr, load1V, loadV, storeV, cellsAt, getN, setN, allocV, lenL, lenS, bnd, oneC, Value.oneCell', Nat.reduceLeDiff, Nat.reduceLT, exists_eq_left', forall_const, reduceCtorEq, app_new, app_new0, List.append_assoc, Int.reduceToNat, Int.reduceLT, Int.reduceLE, Int.reduceEq, Int.reduceNe, Int.reduceBEq, IntKind.bits, bne_self_eq_false, Int.reducePow, g9, g10, g11, c0, b1]
        have hfd : (DK.fresh (List.replicate n ⟨false, false⟩) again).cs.length = n := by simp [DK.fresh]
        have hfo : (DK.fresh (List.replicate n ⟨false, false⟩) again).out.length < 100000 := by simp [DK.fresh]
        have hfb := fresh_blk n again
        generalize DK.fresh (List.replicate n ⟨false, false⟩) again = d at *
        refine xloop_cut (BdE g1 n D G q c zs) ?_ ?_
        · refine xcode_loop (BdI g1 n D G q c zs) zs.length ⟨0, by omega, rfl, rfl, g0, g2, g10, g7, rfl⟩ ?_
          rintro m ρ h1' ⟨i, him, k17, k16, k0, k2, k10, k7, rfl⟩
          by_cases hi : i < zs.length
          · have hi' : (i : Int) < zs.length := by omega
            have hge : (0 : Int) ≤ i := by omega
            have hwi : IntKind.i64.wrap ((i : Int) + 1) = ((i + 1 : Nat) : Int) := by rw [i64_wrap] <;> omega
            obtain ⟨z, hz⟩ : ∃ z, zs[i]? = some z := ⟨_, List.getElem?_eq_getElem hi⟩
            obtain ⟨a, o, rfl, hs, ha, hc⟩ := V1.elem hz
            have e1 := take_bad n hz
            by_cases hb : (zs.take i).all (inR n) = true
            · by_cases hz0 : z < 0
              · have e2 : inR n z = false := by simp [inR]; omega
                rw [hb, e2] at e1
                simp only [sx, x_box, x_alloc, x_bslice, x_slice, x_append, x_appz, x_b2s, xop, ev, evs, evParts, fillL, cellsL, Ai.get, Ai.put, stab, isNil?, if_false, if_true, addr?, int?, str?, agg?, bool?, shiftA, FnPost, xresL, xres1, tup, argEnv, ptr, Nat.reduceEqDiff, reduceIte, beq_self_eq_true, ne_eq, Nat.reduceAdd, Nat.reduceMul, Nat.reduceSub, abin_shl, abin_shr, load1V, loadV, storeV, cellsAt, getN, setN, allocV, lenL, lenS, bnd, oneC, Value.oneCell', Nat.reduceLeDiff, Nat.reduceLT, exists_eq_left', forall_const, reduceCtorEq, app_new, app_new0, List.append_assoc, Int.reduceToNat, Int.reduceLT, Int.reduceLE, Int.reduceEq, Int.reduceNe, Int.reduceBEq, IntKind.bits, bne_self_eq_false, Int.reducePow, k17, k16, k0, k2, hi', hge, hs, ha, hc, hb, hz0, Nat.mul_one, hwi, Bool.not_true, Bool.not_false]
                exact ⟨m - 1, by omega, i + 1, by omega, rfl, by rw [e1]; rfl, k0, k2, k10, k7, rfl⟩
              · by_cases hzn : (n : Int) ≤ z
                · have e2 : inR n z = false := by simp [inR]; omega
                  rw [hb, e2] at e1
                  simp only [sx, x_box, x_alloc, x_bslice, x_slice, x_append, x_appz, x_b2s, xop, ev, evs, evParts, fillL, cellsL, Ai.get, Ai.put, stab, isNil?, if_false, if_true, addr?, int?, str?, agg?, bool?, shiftA, FnPost, xresL, xres1, tup, argEnv, ptr, Nat.reduceEqDiff, reduceIte, beq_self_eq_true, ne_eq, Nat.reduceAdd, Nat.reduceMul, Nat.reduceSub, abin_shl, abin_shr, load1V, loadV, storeV, cellsAt, getN, setN, allocV, lenL, lenS, bnd, oneC, Value.oneCell', Nat.reduceLeDiff, Nat.reduceLT, exists_eq_left', forall_const, reduceCtorEq, app_new, app_new0, List.append_assoc, Int.reduceToNat, Int.reduceLT, Int.reduceLE, Int.reduceEq, Int.reduceNe, Int.reduceBEq, IntKind.bits, bne_self_eq_false, Int.reducePow, k17, k16, k0, k2, hi', hge, hs, ha, hc, hb, hz0, hzn, Nat.mul_one, hwi, Bool.not_true, Bool.not_false]
                  exact ⟨m - 1, by omega, i + 1, by omega, rfl, by rw [e1]; rfl, k0, k2, k10, k7, rfl⟩
                · have e2 : inR n z = true := by simp [inR]; omega
                  rw [hb, e2] at e1
                  simp only [sx, x_box, x_alloc, x_bslice, x_slice, x_append, x_appz, x_b2s, xop, ev, evs, evParts, fillL, cellsL, Ai.get, Ai.put, stab, isNil?, if_false, if_true, addr?, int?, str?, agg?, bool?, shiftA, FnPost, xresL, xres1, tup, argEnv, ptr, Nat.reduceEqDiff, reduceIte, beq_self_eq_true, ne_eq, Nat.reduceAdd, Nat.reduceMul, Nat.reduceSub, abin_shl, abin_shr, load1V, loadV, storeV, cellsAt, getN, setN, allocV, lenL, lenS, bnd, oneC, Value.oneCell', Nat.reduceLeDiff, Nat.reduceLT, exists_eq_left', forall_const, reduceCtorEq, app_new, app_new0, List.append_assoc, Int.reduceToNat, Int.reduceLT, Int.reduceLE, Int.reduceEq, Int.reduceNe, Int.reduceBEq, IntKind.bits, bne_self_eq_false, Int.reducePow, k17, k16, k0, k2, hi', hge, hs, ha, hc, hb, hz0, hzn, Nat.mul_one, hwi, Bool.not_true, Bool.not_false]
                  exact ⟨m - 1, by omega, i + 1, by omega, rfl, by rw [e1]; rfl, k0, k2, k10, k7, rfl⟩
            · have hb' : (zs.take i).all (inR n) = false := by simpa using hb
              rw [hb', Bool.false_and] at e1
              simp only [sx, x_box, x_alloc, x_bslice, x_slice, x_append, x_appz, x_b2s, xop, ev, evs, evParts, fillL, cellsL, Ai.get, Ai.put, stab, isNil?, if_false, if_true, addr?, int?, str?, agg?, bool?, shiftA, FnPost, xresL, xres1, tup, argEnv, ptr, Nat.reduceEqDiff, reduceIte, beq_self_eq_true, ne_eq, Nat.reduceAdd, Nat.reduceMul, Nat.reduceSub, abin_shl, abin_shr, load1V, loadV, storeV, cellsAt, getN, setN, allocV, lenL, lenS, bnd, oneC, Value.oneCell', Nat.reduceLeDiff, Nat.reduceLT, exists_eq_left', forall_const, reduceCtorEq, app_new, app_new0, List.append_assoc, Int.reduceToNat, Int.reduceLT, Int.reduceLE, Int.reduceEq, Int.reduceNe, Int.reduceBEq, IntKind.bits, bne_self_eq_false, Int.reducePow, k17, k16, k0, k2, hi', hge, hs, ha, hc, hb', Nat.mul_one, hwi, Bool.not_true, Bool.not_false]
              exact ⟨m - 1, by omega, i + 1, by omega, rfl, by rw [e1]; rfl, k0, k2, k10, k7, rfl⟩
          · have hi' : ¬ (i : Int) < zs.length := by omega
            simp only [sx, x_box, x_alloc, x_bslice, x_slice, x_append, x_appz, x_b2s, xop, ev, evs, evParts, fillL, cellsL, Ai.get, Ai.put, stab, isNil?, if_false, if_true, addr?, int?, str?, agg?, bool?, shiftA, FnPost, xresL, xres1, tup, argEnv, ptr, Nat.reduceEqDiff, reduceIte, beq_self_eq_true, ne_eq, Nat.reduceAdd, Nat.reduceMul, Nat.reduceSub, abin_shl, abin_shr, load1V, loadV, storeV, cellsAt, getN, setN, allocV, lenL, lenS, bnd, oneC, Value.oneCell', Nat.reduceLeDiff, Nat.reduceLT, exists_eq_left', forall_const, reduceCtorEq, app_new, app_new0, List.append_assoc, Int.reduceToNat, Int.reduceLT, Int.reduceLE, Int.reduceEq, Int.reduceNe, Int.reduceBEq, IntKind.bits, bne_self_eq_false, Int.reducePow, k17, k2, hi']
            rw [List.take_of_length_le (by omega)] at k16
            exact ⟨k16, k0, k2, k10, k7, rfl⟩
        · rintro ρ g1' ⟨k16, k0, k2, k10, k7, rfl⟩
          simp only [sx, x_box, x_alloc, x_bslice, x_slice, x_append, x_appz, x_b2s, xop, ev, evs, evParts, fillL, cellsL, Ai.get, Ai.put, stab, isNil?, if_false, if_true, addr?, int?, str?, agg?, bool?, shiftA, FnPost, xresL, xres1, tup, argEnv, ptr, Nat.reduceEqDiff, reduceIte, beq_self_eq_true, ne_eq, Nat.reduceAdd, Nat.reduceMul, Nat.reduceSub, abin_shl, abin_shr, load1V, loadV, storeV, cellsAt, getN, setN, allocV, lenL, lenS, bnd, oneC, Value.oneCell', Nat.reduceLeDiff, Nat.reduceLT, exists_eq_left', forall_const, reduceCtorEq, app_new, app_new0, List.append_assoc, Int.reduceToNat, Int.reduceLT, Int.reduceLE, Int.reduceEq, Int.reduceNe, Int.reduceBEq, IntKind.bits, bne_self_eq_false, Int.reducePow, k10, k2]
          refine xcall (setall_ok (on := true) A1 V1 hL1 (by omega) hfo) (by rfl) (by rfl) (by rfl) (by rfl) ?_
          rw [hfd]
          rintro r g3 hr
          have hr' : ∃ opv outv d', r = .int .i64 (if zs.all (inR n) then 0 else 1) ∧ DAt g3 D G L T d' opv outv ∧ d'.cs.length = n ∧ CdV g3 q c zs ∧ (∀ z ∈ zs, d'.blkAt false z = zs.all (inR n)) := by
            rcases hr with ⟨e, rfl, opv, outv, A3, F3, n3⟩ | ⟨e, rfl, K3⟩
            · refine ⟨opv, outv, _, by rw [e]; rfl, A3, by unfold DK.setAll; rw [DK.next_cs, setLs_len, hfd], V1.keep F3.1 fun a ha => F3.2 _ (V1.2 a ha) fun hf => ?_, fun z hz => ?_⟩
              · have := hD1 _ hf; have := hql a ha; omega
              · rw [e]; exact setAll_local hz (by rw [hfd]; exact List.all_eq_true.1 e z hz)
            · exact ⟨_, _, _, by rw [e]; rfl, A1.kp K3, hfd, V1.kp K3, fun z _ => by rw [e]; exact hfb _ _⟩
          obtain ⟨opv, outv, d', rfl, A3, hd', V3, hbl⟩ := hr'
          clear hr A1 V1
          generalize hal : zs.all (inR n) = al at *
          have hn1 : 1 ≤ n := by omega
          cases al
          · simp only [sx, x_box, x_alloc, x_bslice, x_slice, x_append, x_appz, x_b2s, xop, ev, evs, evParts, fillL, cellsL, Ai.get, Ai.put, stab, isNil?, if_false, if_true, addr?, int?, str?, agg?, bool?, shiftA, FnPost, xresL, xres1, tup, argEnv, ptr, Nat.reduceEqDiff, reduceIte, beq_self_eq_true, ne_eq, Nat.reduceAdd, Nat.reduceMul, Nat.reduceSub, abin_shl, abin_shr, load1V, loadV, storeV, cellsAt, getN, setN, allocV, lenL, lenS, bnd, oneC, Value.oneCell', Nat.reduceLeDiff, Nat.reduceLT, exists_eq_left', forall_const, reduceCtorEq, app_new, app_new0, List.append_assoc, Int.reduceToNat, Int.reduceLT, Int.reduceLE, Int.reduceEq, Int.reduceNe, Int.reduceBEq, IntKind.bits, bne_self_eq_false, Int.reducePow, k16, k10, k2, k0, k7, Bool.not_true, Bool.not_false, if_true, if_false, Bool.false_eq_true]
            refine xloop_cut (LqE g3 n D G) ?_ ?_
            · refine xcode_loop (LqI g3 n D G _ q c zs) zs.length ⟨0, by omega, rfl, k16, k0, k2, k10, k7, Kp.refl _⟩ ?_
              rintro m ρ h1' ⟨i, him, k19, k16, k0, k2, k10, k7, K⟩
              by_cases hi : i < zs.length
              · have hi' : (i : Int) < zs.length := by omega
                have hge : (0 : Int) ≤ i := by omega
                have hwi : IntKind.i64.wrap ((i : Int) + 1) = ((i + 1 : Nat) : Int) := by rw [i64_wrap] <;> omega
                obtain ⟨z, hz⟩ : ∃ z, zs[i]? = some z := ⟨_, List.getElem?_eq_getElem hi⟩
                have e1 := hbl z (List.mem_of_getElem? hz)
                obtain ⟨a, o, rfl, hs, ha, hc⟩ := (V3.kp K).elem hz
                have bq1 : ((false : Bool) == true) = false := rfl
                have bq2 : ((true : Bool) == false) = false := rfl
                simp only [sx, x_box, x_alloc, x_bslice, x_slice, x_append, x_appz, x_b2s, xop, ev, evs, evParts, fillL, cellsL, Ai.get, Ai.put, stab, isNil?, if_false, if_true, addr?, int?, str?, agg?, bool?, shiftA, FnPost, xresL, xres1, tup, argEnv, ptr, Nat.reduceEqDiff, reduceIte, beq_self_eq_true, ne_eq, Nat.reduceAdd, Nat.reduceMul, Nat.reduceSub, abin_shl, abin_shr, load1V, loadV, storeV, cellsAt, getN, setN, allocV, lenL, lenS, bnd, oneC, Value.oneCell', Nat.reduceLeDiff, Nat.reduceLT, exists_eq_left', forall_const, reduceCtorEq, app_new, app_new0, List.append_assoc, Int.reduceToNat, Int.reduceLT, Int.reduceLE, Int.reduceEq, Int.reduceNe, Int.reduceBEq, IntKind.bits, bne_self_eq_false, Int.reducePow, k19, k16, k0, k2, k10, hi', hge, hs, ha, hc, Nat.mul_one]
                refine xcall (local_ok (A3.kp K)) (by rfl) (by rfl) (by rfl) (by rfl) ?_
                rintro r g4 ⟨rfl, K4⟩
                rw [e1]
                simp only [sx, x_box, x_alloc, x_bslice, x_slice, x_append, x_appz, x_b2s, xop, ev, evs, evParts, fillL, cellsL, Ai.get, Ai.put, stab, isNil?, if_false, if_true, addr?, int?, str?, agg?, bool?, shiftA, FnPost, xresL, xres1, tup, argEnv, ptr, Nat.reduceEqDiff, reduceIte, beq_self_eq_true, ne_eq, Nat.reduceAdd, Nat.reduceMul, Nat.reduceSub, abin_shl, abin_shr, load1V, loadV, storeV, cellsAt, getN, setN, allocV, lenL, lenS, bnd, oneC, Value.oneCell', Nat.reduceLeDiff, Nat.reduceLT, exists_eq_left', forall_const, reduceCtorEq, app_new, app_new0, List.append_assoc, Int.reduceToNat, Int.reduceLT, Int.reduceLE, Int.reduceEq, Int.reduceNe, Int.reduceBEq, IntKind.bits, bne_self_eq_false, Int.reducePow, k16, k19, hwi, bq1, bq2, Bool.false_eq_true]
                exact ⟨m - 1, by omega, i + 1, by omega, rfl, k16, k0, k2, k10, k7, K.trans K4⟩
              · have hi' : ¬ (i : Int) < zs.length := by omega
                simp only [sx, x_box, x_alloc, x_bslice, x_slice, x_append, x_appz, x_b2s, xop, ev, evs, evParts, fillL, cellsL, Ai.get, Ai.put, stab, isNil?, if_false, if_true, addr?, int?, str?, agg?, bool?, shiftA, FnPost, xresL, xres1, tup, argEnv, ptr, Nat.reduceEqDiff, reduceIte, beq_self_eq_true, ne_eq, Nat.reduceAdd, Nat.reduceMul, Nat.reduceSub, abin_shl, abin_shr, load1V, loadV, storeV, cellsAt, getN, setN, allocV, lenL, lenS, bnd, oneC, Value.oneCell', Nat.reduceLeDiff, Nat.reduceLT, exists_eq_left', forall_const, reduceCtorEq, app_new, app_new0, List.append_assoc, Int.reduceToNat, Int.reduceLT, Int.reduceLE, Int.reduceEq, Int.reduceNe, Int.reduceBEq, IntKind.bits, bne_self_eq_false, Int.reducePow, k19, k2, hi']
                exact ⟨k0, k10, k7, K⟩
            · rintro ρ g4 ⟨k0, k10, k7, K⟩
              have A4 := A3.kp K
              have i0 : inR d'.cs.length 0 = true := by simp [inR, hd']; omega
              simp only [sx, x_box, x_alloc, x_bslice, x_slice, x_append, x_appz, x_b2s, xop, ev, evs, evParts, fillL, cellsL, Ai.get, Ai.put, stab, isNil?, if_false, if_true, addr?, int?, str?, agg?, bool?, shiftA, FnPost, xresL, xres1, tup, argEnv, ptr, Nat.reduceEqDiff, reduceIte, beq_self_eq_true, ne_eq, Nat.reduceAdd, Nat.reduceMul, Nat.reduceSub, abin_shl, abin_shr, load1V, loadV, storeV, cellsAt, getN, setN, allocV, lenL, lenS, bnd, oneC, Value.oneCell', Nat.reduceLeDiff, Nat.reduceLT, exists_eq_left', forall_const, reduceCtorEq, app_new, app_new0, List.append_assoc, Int.reduceToNat, Int.reduceLT, Int.reduceLE, Int.reduceEq, Int.reduceNe, Int.reduceBEq, IntKind.bits, bne_self_eq_false, Int.reducePow, k7]
              refine xcall (A4.gset (z := 0) (r := true) (on := true) i0) (by rfl) (by rfl) (by rfl) (by rfl) ?_
              rintro r g5 ⟨rfl, A5, -⟩
              simp only [sx, x_box, x_alloc, x_bslice, x_slice, x_append, x_appz, x_b2s, xop, ev, evs, evParts, fillL, cellsL, Ai.get, Ai.put, stab, isNil?, if_false, if_true, addr?, int?, str?, agg?, bool?, shiftA, FnPost, xresL, xres1, tup, argEnv, ptr, Nat.reduceEqDiff, reduceIte, beq_self_eq_true, ne_eq, Nat.reduceAdd, Nat.reduceMul, Nat.reduceSub, abin_shl, abin_shr, load1V, loadV, storeV, cellsAt, getN, setN, allocV, lenL, lenS, bnd, oneC, Value.oneCell', Nat.reduceLeDiff, Nat.reduceLT, exists_eq_left', forall_const, reduceCtorEq, app_new, app_new0, List.append_assoc, Int.reduceToNat, Int.reduceLT, Int.reduceLE, Int.reduceEq, Int.reduceNe, Int.reduceBEq, IntKind.bits, bne_self_eq_false, Int.reducePow, k7]
              refine xcall (new_ok (again := 1) A5.g) (by rfl) (by rfl) (by rfl) (by rfl) ?_
              rintro r g6 (⟨-, rfl, K6⟩ | ⟨-, hbad, -⟩)
              rotate_left
              · rw [show (setC d'.cs true true (0 : Int).toNat) = setC d'.cs true true 0 from rfl, isF_set (by omega)] at hbad; cases hbad
              have A6 := A5.kp K6
              simp only [sx, x_box, x_alloc, x_bslice, x_slice, x_append, x_appz, x_b2s, xop, ev, evs, evParts, fillL, cellsL, Ai.get, Ai.put, stab, isNil?, if_false, if_true, addr?, int?, str?, agg?, bool?, shiftA, FnPost, xresL, xres1, tup, argEnv, ptr, Nat.reduceEqDiff, reduceIte, beq_self_eq_true, ne_eq, Nat.reduceAdd, Nat.reduceMul, Nat.reduceSub, abin_shl, abin_shr, load1V, loadV, storeV, cellsAt, getN, setN, allocV, lenL, lenS, bnd, oneC, Value.oneCell', Nat.reduceLeDiff, Nat.reduceLT, exists_eq_left', forall_const, reduceCtorEq, app_new, app_new0, List.append_assoc, Int.reduceToNat, Int.reduceLT, Int.reduceLE, Int.reduceEq, Int.reduceNe, Int.reduceBEq, IntKind.bits, bne_self_eq_false, Int.reducePow, k10]
              refine xcall (local_ok A6) (by rfl) (by rfl) (by rfl) (by rfl) ?_
              rintro r g7 ⟨rfl, K7⟩
              rw [blk_low]
              simp only [sx, x_box, x_alloc, x_bslice, x_slice, x_append, x_appz, x_b2s, xop, ev, evs, evParts, fillL, cellsL, Ai.get, Ai.put, stab, isNil?, if_false, if_true, addr?, int?, str?, agg?, bool?, shiftA, FnPost, xresL, xres1, tup, argEnv, ptr, Nat.reduceEqDiff, reduceIte, beq_self_eq_true, ne_eq, Nat.reduceAdd, Nat.reduceMul, Nat.reduceSub, abin_shl, abin_shr, load1V, loadV, storeV, cellsAt, getN, setN, allocV, lenL, lenS, bnd, oneC, Value.oneCell', Nat.reduceLeDiff, Nat.reduceLT, exists_eq_left', forall_const, reduceCtorEq, app_new, app_new0, List.append_assoc, Int.reduceToNat, Int.reduceLT, Int.reduceLE, Int.reduceEq, Int.reduceNe, Int.reduceBEq, IntKind.bits, bne_self_eq_false, Int.reducePow, k10, k0, Bool.not_false]
              refine xcall (remote_ok (A6.kp K7)) (by rfl) (by rfl) (by rfl) (by rfl) ?_
              rintro r g8 ⟨rfl, K8⟩
              rw [blk_high (by rw [← hd']; exact setC_len _ _ _ _)]
              simp only [sx, x_box, x_alloc, x_bslice, x_slice, x_append, x_appz, x_b2s, xop, ev, evs, evParts, fillL, cellsL, Ai.get, Ai.put, stab, isNil?, if_false, if_true, addr?, int?, str?, agg?, bool?, shiftA, FnPost, xresL, xres1, tup, argEnv, ptr, Nat.reduceEqDiff, reduceIte, beq_self_eq_true, ne_eq, Nat.reduceAdd, Nat.reduceMul, Nat.reduceSub, abin_shl, abin_shr, load1V, loadV, storeV, cellsAt, getN, setN, allocV, lenL, lenS, bnd, oneC, Value.oneCell', Nat.reduceLeDiff, Nat.reduceLT, exists_eq_left', forall_const, reduceCtorEq, app_new, app_new0, List.append_assoc, Int.reduceToNat, Int.reduceLT, Int.reduceLE, Int.reduceEq, Int.reduceNe, Int.reduceBEq, IntKind.bits, bne_self_eq_false, Int.reducePow, Bool.not_false]
              refine xcall (lives_ok _) (by rfl) (by rfl) (by rfl) (by rfl) ?_
              rintro r g9 rfl
              simp only [sx, x_box, x_alloc, x_bslice, x_slice, x_append, x_appz, x_b2s, xop, ev, evs, evParts, fillL, cellsL, Ai.get, Ai.put, stab, isNil?, if_false, if_true, addr?, int?, str?, agg?, bool?, shiftA, FnPost, xresL, xres1, tup, argEnv, ptr, Nat.reduceEqDiff, reduceIte, beq_self_eq_true, ne_eq, Nat.reduceAdd, Nat.reduceMul, Nat.reduceSub, abin_shl, abin_shr, load1V, loadV, storeV, cellsAt, getN, setN, allocV, lenL, lenS, bnd, oneC, Value.oneCell', Nat.reduceLeDiff, Nat.reduceLT, exists_eq_left', forall_const, reduceCtorEq, app_new, app_new0, List.append_assoc, Int.reduceToNat, Int.reduceLT, Int.reduceLE, Int.reduceEq, Int.reduceNe, Int.reduceBEq, IntKind.bits, bne_self_eq_false, Int.reducePow]
          · simp only [sx, x_box, x_alloc, x_bslice, x_slice, x_append, x_appz, x_b2s, xop, ev, evs, evParts, fillL, cellsL, Ai.get, Ai.put, stab, isNil?, if_false, if_true, addr?, int?, str?, agg?, bool?, shiftA, FnPost, xresL, xres1, tup, argEnv, ptr, Nat.reduceEqDiff, reduceIte, beq_self_eq_true, ne_eq, Nat.reduceAdd, Nat.reduceMul, Nat.reduceSub, abin_shl, abin_shr, load1V, loadV, storeV, cellsAt, getN, setN, allocV, lenL, lenS, bnd, oneC, Value.oneCell', Nat.reduceLeDiff, Nat.reduceLT, exists_eq_left', forall_const, reduceCtorEq, app_new, app_new0, List.append_assoc, Int.reduceToNat, Int.reduceLT, Int.reduceLE, Int.reduceEq, Int.reduceNe, Int.reduceBEq, IntKind.bits, bne_self_eq_false, Int.reducePow, k16, k10, k2, k0, k7, Bool.not_true, Bool.not_false, if_true, if_false, Bool.false_eq_true]
            refine xloop_cut (LqE g3 n D G) ?_ ?_
            · refine xcode_loop (LqI g3 n D G _ q c zs) zs.length ⟨0, by omega, rfl, k16, k0, k2, k10, k7, Kp.refl _⟩ ?_
              rintro m ρ h1' ⟨i, him, k19, k16, k0, k2, k10, k7, K⟩
              by_cases hi : i < zs.length
              · have hi' : (i : Int) < zs.length := by omega
                have hge : (0 : Int) ≤ i := by omega
                have hwi : IntKind.i64.wrap ((i : Int) + 1) = ((i + 1 : Nat) : Int) := by rw [i64_wrap] <;> omega
                obtain ⟨z, hz⟩ : ∃ z, zs[i]? = some z := ⟨_, List.getElem?_eq_getElem hi⟩
                have e1 := hbl z (List.mem_of_getElem? hz)
                obtain ⟨a, o, rfl, hs, ha, hc⟩ := (V3.kp K).elem hz
                have bq1 : ((false : Bool) == true) = false := rfl
                have bq2 : ((true : Bool) == false) = false := rfl
                simp only [sx, x_box, x_alloc, x_bslice, x_slice, x_append, x_appz, x_b2s, xop, ev, evs, evParts, fillL, cellsL, Ai.get, Ai.put, stab, isNil?, if_false, if_true, addr?, int?, str?, agg?, bool?, shiftA, FnPost, xresL, xres1, tup, argEnv, ptr, Nat.reduceEqDiff, reduceIte, beq_self_eq_true, ne_eq, Nat.reduceAdd, Nat.reduceMul, Nat.reduceSub, abin_shl, abin_shr, load1V, loadV, storeV, cellsAt, getN, setN, allocV, lenL, lenS, bnd, oneC, Value.oneCell', Nat.reduceLeDiff, Nat.reduceLT, exists_eq_left', forall_const, reduceCtorEq, app_new, app_new0, List.append_assoc, Int.reduceToNat, Int.reduceLT, Int.reduceLE, Int.reduceEq, Int.reduceNe, Int.reduceBEq, IntKind.bits, bne_self_eq_false, Int.reducePow, k19, k16, k0, k2, k10, hi', hge, hs, ha, hc, Nat.mul_one]
                refine xcall (local_ok (A3.kp K)) (by rfl) (by rfl) (by rfl) (by rfl) ?_
                rintro r g4 ⟨rfl, K4⟩
                rw [e1]
                simp only [sx, x_box, x_alloc, x_bslice, x_slice, x_append, x_appz, x_b2s, xop, ev, evs, evParts, fillL, cellsL, Ai.get, Ai.put, stab, isNil?, if_false, if_true, addr?, int?, str?, agg?, bool?, shiftA, FnPost, xresL, xres1, tup, argEnv, ptr, Nat.reduceEqDiff, reduceIte, beq_self_eq_true, ne_eq, Nat.reduceAdd, Nat.reduceMul, Nat.reduceSub, abin_shl, abin_shr, load1V, loadV, storeV, cellsAt, getN, setN, allocV, lenL, lenS, bnd, oneC, Value.oneCell', Nat.reduceLeDiff, Nat.reduceLT, exists_eq_left', forall_const, reduceCtorEq, app_new, app_new0, List.append_assoc, Int.reduceToNat, Int.reduceLT, Int.reduceLE, Int.reduceEq, Int.reduceNe, Int.reduceBEq, IntKind.bits, bne_self_eq_false, Int.reducePow, k16, k19, hwi, bq1, bq2, Bool.false_eq_true]
                exact ⟨m - 1, by omega, i + 1, by omega, rfl, k16, k0, k2, k10, k7, K.trans K4⟩
              · have hi' : ¬ (i : Int) < zs.length := by omega
                simp only [sx, x_box, x_alloc, x_bslice, x_slice, x_append, x_appz, x_b2s, xop, ev, evs, evParts, fillL, cellsL, Ai.get, Ai.put, stab, isNil?, if_false, if_true, addr?, int?, str?, agg?, bool?, shiftA, FnPost, xresL, xres1, tup, argEnv, ptr, Nat.reduceEqDiff, reduceIte, beq_self_eq_true, ne_eq, Nat.reduceAdd, Nat.reduceMul, Nat.reduceSub, abin_shl, abin_shr, load1V, loadV, storeV, cellsAt, getN, setN, allocV, lenL, lenS, bnd, oneC, Value.oneCell', Nat.reduceLeDiff, Nat.reduceLT, exists_eq_left', forall_const, reduceCtorEq, app_new, app_new0, List.append_assoc, Int.reduceToNat, Int.reduceLT, Int.reduceLE, Int.reduceEq, Int.reduceNe, Int.reduceBEq, IntKind.bits, bne_self_eq_false, Int.reducePow, k19, k2, hi']
                exact ⟨k0, k10, k7, K⟩
            · rintro ρ g4 ⟨k0, k10, k7, K⟩
              have A4 := A3.kp K
              have i0 : inR d'.cs.length 0 = true := by simp [inR, hd']; omega
              simp only [sx, x_box, x_alloc, x_bslice, x_slice, x_append, x_appz, x_b2s, xop, ev, evs, evParts, fillL, cellsL, Ai.get, Ai.put, stab, isNil?, if_false, if_true, addr?, int?, str?, agg?, bool?, shiftA, FnPost, xresL, xres1, tup, argEnv, ptr, Nat.reduceEqDiff, reduceIte, beq_self_eq_true, ne_eq, Nat.reduceAdd, Nat.reduceMul, Nat.reduceSub, abin_shl, abin_shr, load1V, loadV, storeV, cellsAt, getN, setN, allocV, lenL, lenS, bnd, oneC, Value.oneCell', Nat.reduceLeDiff, Nat.reduceLT, exists_eq_left', forall_const, reduceCtorEq, app_new, app_new0, List.append_assoc, Int.reduceToNat, Int.reduceLT, Int.reduceLE, Int.reduceEq, Int.reduceNe, Int.reduceBEq, IntKind.bits, bne_self_eq_false, Int.reducePow, k7]
              refine xcall (A4.gset (z := 0) (r := true) (on := true) i0) (by rfl) (by rfl) (by rfl) (by rfl) ?_
              rintro r g5 ⟨rfl, A5, -⟩
              simp only [sx, x_box, x_alloc, x_bslice, x_slice, x_append, x_appz, x_b2s, xop, ev, evs, evParts, fillL, cellsL, Ai.get, Ai.put, stab, isNil?, if_false, if_true, addr?, int?, str?, agg?, bool?, shiftA, FnPost, xresL, xres1, tup, argEnv, ptr, Nat.reduceEqDiff, reduceIte, beq_self_eq_true, ne_eq, Nat.reduceAdd, Nat.reduceMul, Nat.reduceSub, abin_shl, abin_shr, load1V, loadV, storeV, cellsAt, getN, setN, allocV, lenL, lenS, bnd, oneC, Value.oneCell', Nat.reduceLeDiff, Nat.reduceLT, exists_eq_left', forall_const, reduceCtorEq, app_new, app_new0, List.append_assoc, Int.reduceToNat, Int.reduceLT, Int.reduceLE, Int.reduceEq, Int.reduceNe, Int.reduceBEq, IntKind.bits, bne_self_eq_false, Int.reducePow, k7]
              refine xcall (new_ok (again := 1) A5.g) (by rfl) (by rfl) (by rfl) (by rfl) ?_
              rintro r g6 (⟨-, rfl, K6⟩ | ⟨-, hbad, -⟩)
              rotate_left
              · rw [show (setC d'.cs true true (0 : Int).toNat) = setC d'.cs true true 0 from rfl, isF_set (by omega)] at hbad; cases hbad
              have A6 := A5.kp K6
              simp only [sx, x_box, x_alloc, x_bslice, x_slice, x_append, x_appz, x_b2s, xop, ev, evs, evParts, fillL, cellsL, Ai.get, Ai.put, stab, isNil?, if_false, if_true, addr?, int?, str?, agg?, bool?, shiftA, FnPost, xresL, xres1, tup, argEnv, ptr, Nat.reduceEqDiff, reduceIte, beq_self_eq_true, ne_eq, Nat.reduceAdd, Nat.reduceMul, Nat.reduceSub, abin_shl, abin_shr, load1V, loadV, storeV, cellsAt, getN, setN, allocV, lenL, lenS, bnd, oneC, Value.oneCell', Nat.reduceLeDiff, Nat.reduceLT, exists_eq_left', forall_const, reduceCtorEq, app_new, app_new0, List.append_assoc, Int.reduceToNat, Int.reduceLT, Int.reduceLE, Int.reduceEq, Int.reduceNe, Int.reduceBEq, IntKind.bits, bne_self_eq_false, Int.reducePow, k10]
              refine xcall (local_ok A6) (by rfl) (by rfl) (by rfl) (by rfl) ?_
              rintro r g7 ⟨rfl, K7⟩
              rw [blk_low]
              simp only [sx, x_box, x_alloc, x_bslice, x_slice, x_append, x_appz, x_b2s, xop, ev, evs, evParts, fillL, cellsL, Ai.get, Ai.put, stab, isNil?, if_false, if_true, addr?, int?, str?, agg?, bool?, shiftA, FnPost, xresL, xres1, tup, argEnv, ptr, Nat.reduceEqDiff, reduceIte, beq_self_eq_true, ne_eq, Nat.reduceAdd, Nat.reduceMul, Nat.reduceSub, abin_shl, abin_shr, load1V, loadV, storeV, cellsAt, getN, setN, allocV, lenL, lenS, bnd, oneC, Value.oneCell', Nat.reduceLeDiff, Nat.reduceLT, exists_eq_left', forall_const, reduceCtorEq, app_new, app_new0, List.append_assoc, Int.reduceToNat, Int.reduceLT, Int.reduceLE, Int.reduceEq, Int.reduceNe, Int.reduceBEq, IntKind.bits, bne_self_eq_false, Int.reducePow, k10, k0, Bool.not_false]
              refine xcall (remote_ok (A6.kp K7)) (by rfl) (by rfl) (by rfl) (by rfl) ?_
              rintro r g8 ⟨rfl, K8⟩
              rw [blk_high (by rw [← hd']; exact setC_len _ _ _ _)]
              simp only [sx, x_box, x_alloc, x_bslice, x_slice, x_append, x_appz, x_b2s, xop, ev, evs, evParts, fillL, cellsL, Ai.get, Ai.put, stab, isNil?, if_false, if_true, addr?, int?, str?, agg?, bool?, shiftA, FnPost, xresL, xres1, tup, argEnv, ptr, Nat.reduceEqDiff, reduceIte, beq_self_eq_true, ne_eq, Nat.reduceAdd, Nat.reduceMul, Nat.reduceSub, abin_shl, abin_shr, load1V, loadV, storeV, cellsAt, getN, setN, allocV, lenL, lenS, bnd, oneC, Value.oneCell', Nat.reduceLeDiff, Nat.reduceLT, exists_eq_left', forall_const, reduceCtorEq, app_new, app_new0, List.append_assoc, Int.reduceToNat, Int.reduceLT, Int.reduceLE, Int.reduceEq, Int.reduceNe, Int.reduceBEq, IntKind.bits, bne_self_eq_false, Int.reducePow, Bool.not_false]
              refine xcall (lives_ok _) (by rfl) (by rfl) (by rfl) (by rfl) ?_
              rintro r g9 rfl
              simp only [sx, x_box, x_alloc, x_bslice, x_slice, x_append, x_appz, x_b2s, xop, ev, evs, evParts, fillL, cellsL, Ai.get, Ai.put, stab, isNil?, if_false, if_true, addr?, int?, str?, agg?, bool?, shiftA, FnPost, xresL, xres1, tup, argEnv, ptr, Nat.reduceEqDiff, reduceIte, beq_self_eq_true, ne_eq, Nat.reduceAdd, Nat.reduceMul, Nat.reduceSub, abin_shl, abin_shr, load1V, loadV, storeV, cellsAt, getN, setN, allocV, lenL, lenS, bnd, oneC, Value.oneCell', Nat.reduceLeDiff, Nat.reduceLT, exists_eq_left', forall_const, reduceCtorEq, app_new, app_new0, List.append_assoc, Int.reduceToNat, Int.reduceLT, Int.reduceLE, Int.reduceEq, Int.reduceNe, Int.reduceBEq, IntKind.bits, bne_self_eq_false, Int.reducePow]
end Go.Proofs.Ytejgaeinkojgpaa
