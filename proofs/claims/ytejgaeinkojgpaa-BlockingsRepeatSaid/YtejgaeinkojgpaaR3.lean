import Derived.Test.YtejgaeinkojgpaaR2
import Derived.Test.YtejgaeinkojgpaaAiY
set_option linter.unusedVariables false
set_option linter.unusedSimpArgs false
namespace Go.Proofs.Ytejgaeinkojgpaa
open Go Go.Ai Go.Proofs

theorem MsgL.shp {h : AHeap} {r : Value} {ms : List Ms} (M : MsgL h r ms) : ∃ q, r = .slice q ms.length ms.length := by obtain ⟨q, _, rfl, _⟩ := M; exact ⟨q, rfl⟩
theorem MsgL.kp {h h' : AHeap} {r : Value} {ms : List Ms} (M : MsgL h r ms) (K : Kp h h') : MsgL h' r ms := by
  obtain ⟨q, cells, rfl, hf, R⟩ := M
  exact ⟨q, cells, rfl, K.first hf, R.frz K.frz⟩
theorem Off.kp {h h' : AHeap} {D G L T : Nat} {outv r : Value} (o : Off h D G L T outv r) (K : Kp h h') : Off h' D G L T outv r := fun a n c e => ⟨Nat.lt_of_lt_of_le (o a n c e).1 K.1, (o a n c e).2⟩
set_option maxHeartbeats 16000000 in
set_option maxRecDepth 20000 in
theorem repeat_ok {h : AHeap} {a ticks k : Nat} (ha : a < 256) (ht : ticks < 256) (hk : k < 256) : Valid Try.prog 5 [.int .u8 (a : Nat), .int .u8 (ticks : Nat), .int .u8 (k : Nat)] h fun r h' => r = .bool true := by
  refine v5 (by simp) ?_
  have n8 : ¬ (8 : Int) = 0 := by decide
  have n41 : ¬ (41 : Int) = 0 := by decide
  have n50 : ¬ (50 : Int) = 0 := by decide
  have q1 : ((a : Nat) : Int).tmod 8 = ((a % 8 : Nat) : Int) := by rw [Int.tmod_eq_emod_of_nonneg (by omega)]; omega
  have q2 : IntKind.i64.wrap ((a % 8 : Nat) : Int) = ((a % 8 : Nat) : Int) := i64_wrap (by omega) (by omega)
  have q3 : IntKind.i64.wrap (1 + ((a % 8 : Nat) : Int)) = ((1 + a % 8 : Nat) : Int) := by rw [i64_wrap] <;> omega
  have q4 : ((k : Nat) : Int).tmod 50 = ((k % 50 : Nat) : Int) := by rw [Int.tmod_eq_emod_of_nonneg (by omega)]; omega
  have q5 : IntKind.i64.wrap ((k % 50 : Nat) : Int) = ((k % 50 : Nat) : Int) := i64_wrap (by omega) (by omega)
  have q6 : IntKind.u8.wrap (((k : Nat) : Int) + 1) = (((k + 1) % 256 : Nat) : Int) := by rw [u8_mod]; omega
  have q7 : IntKind.i64.wrap (((k + 1) % 256 : Nat) : Int) = (((k + 1) % 256 : Nat) : Int) := i64_wrap (by omega) (by omega)
  have q8 : (((k + 1) % 256 : Nat) : Int).tmod 50 = ((eOf k : Nat) : Int) := by rw [Int.tmod_eq_emod_of_nonneg (by omega)]; unfold eOf; omega
  have q9 : ((ticks : Nat) : Int).tmod 41 = ((ticks % 41 : Nat) : Int) := by rw [Int.tmod_eq_emod_of_nonneg (by omega)]; omega
  have q10 : IntKind.i64.wrap ((ticks % 41 : Nat) : Int) = ((ticks % 41 : Nat) : Int) := i64_wrap (by omega) (by omega)
  have hev : 1 + a % 8 ≤ 8 := by omega
  have hN : ticks % 41 ≤ 40 := by omega
  have he50 : eOf k < 50 := by unfold eOf; omega
  simp only [X5, sx, x_box, x_alloc, x_bslice, x_slice, x_append, x_appz, x_b2s, xop, ev, evs, evParts, fillL, cellsL, Ai.get, Ai.put, stab, isNil?, if_false, if_true, addr?, int?, str?, agg?, bool?, shiftA, FnPost, xresL, xres1, tup, argEnv, ptr, Nat.reduceEqDiff, reduceIte, beq_self_eq_true, ne_eq, Nat.reduceAdd, Nat.reduceMul, Nat.reduceSub, abin_shl, abin_shr, load1V, loadV, storeV, cellsAt, getN, setN, allocV, lenL, lenS, bnd, oneC, Value.oneCell', Nat.reduceLeDiff, Nat.reduceLT, exists_eq_left', forall_const, reduceCtorEq, app_new, app_new0, List.append_assoc, Int.reduceToNat, Int.reduceLT, Int.reduceLE, Int.reduceEq, Int.reduceNe, Int.reduceBEq, IntKind.bits, bne_self_eq_false, Int.reducePow, n8, q1, q2, q3]
  generalize hevd : 1 + a % 8 = eo at *
  have hev1 : 1 ≤ eo := by omega
  refine xcall (group_ok (n := 50) (by decide) (by decide)) (by rfl) (by rfl) (by rfl) (by rfl) ?_
  rintro r h1 ⟨G, L, rfl, g, K1, hG, hL⟩
  simp only [sx, x_box, x_alloc, x_bslice, x_slice, x_append, x_appz, x_b2s, xop, ev, evs, evParts, fillL, cellsL, Ai.get, Ai.put, stab, isNil?, if_false, if_true, addr?, int?, str?, agg?, bool?, shiftA, FnPost, xresL, xres1, tup, argEnv, ptr, Nat.reduceEqDiff, reduceIte, beq_self_eq_true, ne_eq, Nat.reduceAdd, Nat.reduceMul, Nat.reduceSub, abin_shl, abin_shr, load1V, loadV, storeV, cellsAt, getN, setN, allocV, lenL, lenS, bnd, oneC, Value.oneCell', Nat.reduceLeDiff, Nat.reduceLT, exists_eq_left', forall_const, reduceCtorEq, app_new, app_new0, List.append_assoc, Int.reduceToNat, Int.reduceLT, Int.reduceLE, Int.reduceEq, Int.reduceNe, Int.reduceBEq, IntKind.bits, bne_self_eq_false, Int.reducePow]
  refine xcall (new_ok (again := (eo : Int)) g) (by rfl) (by rfl) (by rfl) (by rfl) ?_
  rintro r h2 (⟨hbad, -⟩ | ⟨-, -, D, T, rfl, A0, K2, hD, hT⟩)
  · rw [isF_free] at hbad; rcases hbad with h | h
    · omega
    · cases h
  simp only [sx, x_box, x_alloc, x_bslice, x_slice, x_append, x_appz, x_b2s, xop, ev, evs, evParts, fillL, cellsL, Ai.get, Ai.put, stab, isNil?, if_false, if_true, addr?, int?, str?, agg?, bool?, shiftA, FnPost, xresL, xres1, tup, argEnv, ptr, Nat.reduceEqDiff, reduceIte, beq_self_eq_true, ne_eq, Nat.reduceAdd, Nat.reduceMul, Nat.reduceSub, abin_shl, abin_shr, load1V, loadV, storeV, cellsAt, getN, setN, allocV, lenL, lenS, bnd, oneC, Value.oneCell', Nat.reduceLeDiff, Nat.reduceLT, exists_eq_left', forall_const, reduceCtorEq, app_new, app_new0, List.append_assoc, Int.reduceToNat, Int.reduceLT, Int.reduceLE, Int.reduceEq, Int.reduceNe, Int.reduceBEq, IntKind.bits, bne_self_eq_false, Int.reducePow, n50, q4, q5]
  refine xcall (set1_ok (z := ((k % 50 : Nat) : Int)) (on := true) A0 (show 0 < 100000 by decide)) (by rfl) (by rfl) (by rfl) (by rfl) ?_
  have i1 : inR (DK.fresh (List.replicate 50 ⟨false, false⟩) (eo : Int)).cs.length ((k % 50 : Nat) : Int) = true := by
    simp only [inR, DK.fresh, List.length_replicate, decide_eq_true_eq]; omega
  rintro r h3 (⟨-, rfl, W⟩ | ⟨e, -⟩)
  rotate_left
  · rw [i1] at e; cases e
  rw [set_r1] at W
  obtain ⟨opv, outv, A3, F3, n3⟩ := W
  simp only [sx, x_box, x_alloc, x_bslice, x_slice, x_append, x_appz, x_b2s, xop, ev, evs, evParts, fillL, cellsL, Ai.get, Ai.put, stab, isNil?, if_false, if_true, addr?, int?, str?, agg?, bool?, shiftA, FnPost, xresL, xres1, tup, argEnv, ptr, Nat.reduceEqDiff, reduceIte, beq_self_eq_true, ne_eq, Nat.reduceAdd, Nat.reduceMul, Nat.reduceSub, abin_shl, abin_shr, load1V, loadV, storeV, cellsAt, getN, setN, allocV, lenL, lenS, bnd, oneC, Value.oneCell', Nat.reduceLeDiff, Nat.reduceLT, exists_eq_left', forall_const, reduceCtorEq, app_new, app_new0, List.append_assoc, Int.reduceToNat, Int.reduceLT, Int.reduceLE, Int.reduceEq, Int.reduceNe, Int.reduceBEq, IntKind.bits, bne_self_eq_false, Int.reducePow]
  refine xcall (taken_ok A3 (show 1 < 1000000 by decide)) (by rfl) (by rfl) (by rfl) (by rfl) ?_
  rintro r h4 ⟨M4, A4, o4, F4, s4⟩
  have M4' : MsgL h4 r [mOf 1 (k % 50)] := M4
  clear M4
  obtain ⟨q, rfl⟩ := M4'.shp
  have m0 : ¬ (0 : Int) ≠ 0 := by decide
  have m1 : ¬ ((1 : Nat) : Int) ≠ 1 := by decide
  simp only [sx, x_box, x_alloc, x_bslice, x_slice, x_append, x_appz, x_b2s, xop, ev, evs, evParts, fillL, cellsL, Ai.get, Ai.put, stab, isNil?, if_false, if_true, addr?, int?, str?, agg?, bool?, shiftA, FnPost, xresL, xres1, tup, argEnv, ptr, Nat.reduceEqDiff, reduceIte, beq_self_eq_true, ne_eq, Nat.reduceAdd, Nat.reduceMul, Nat.reduceSub, abin_shl, abin_shr, load1V, loadV, storeV, cellsAt, getN, setN, allocV, lenL, lenS, bnd, oneC, Value.oneCell', Nat.reduceLeDiff, Nat.reduceLT, exists_eq_left', forall_const, reduceCtorEq, app_new, app_new0, List.append_assoc, Int.reduceToNat, Int.reduceLT, Int.reduceLE, Int.reduceEq, Int.reduceNe, Int.reduceBEq, IntKind.bits, bne_self_eq_false, Int.reducePow, m0, m1, q6, q7, q8, n50]
  refine xcall (set1_ok (z := ((eOf k : Nat) : Int)) (on := true) A4 (show 0 < 100000 by decide)) (by rfl) (by rfl) (by rfl) (by rfl) ?_
  have i2 : inR (cs1 (k % 50)).length ((eOf k : Nat) : Int) = true := by
    simp only [inR, cs1, List.length_set, List.length_replicate, decide_eq_true_eq]; omega
  rintro r h5 (⟨-, rfl, W⟩ | ⟨e, -⟩)
  rotate_left
  · have e' : inR (cs1 (k % 50)).length ((eOf k : Nat) : Int) = false := e
    rw [i2] at e'; cases e'
  rw [set_r2 _ hk] at W
  obtain ⟨opv5, outv5, A5, F5, n5⟩ := W
  obtain ⟨M5, o5⟩ := hold A4 o4 M4' F5 n5
  simp only [sx, x_box, x_alloc, x_bslice, x_slice, x_append, x_appz, x_b2s, xop, ev, evs, evParts, fillL, cellsL, Ai.get, Ai.put, stab, isNil?, if_false, if_true, addr?, int?, str?, agg?, bool?, shiftA, FnPost, xresL, xres1, tup, argEnv, ptr, Nat.reduceEqDiff, reduceIte, beq_self_eq_true, ne_eq, Nat.reduceAdd, Nat.reduceMul, Nat.reduceSub, abin_shl, abin_shr, load1V, loadV, storeV, cellsAt, getN, setN, allocV, lenL, lenS, bnd, oneC, Value.oneCell', Nat.reduceLeDiff, Nat.reduceLT, exists_eq_left', forall_const, reduceCtorEq, app_new, app_new0, List.append_assoc, Int.reduceToNat, Int.reduceLT, Int.reduceLE, Int.reduceEq, Int.reduceNe, Int.reduceBEq, IntKind.bits, bne_self_eq_false, Int.reducePow]
  refine xloop_cut (RpE D G L T eo k) ?_ ?_
  · refine xcode_loop (RpI D G L T eo ticks k (ticks % 41) (.slice q 1 1)) (ticks % 41) ⟨1, opv5, outv5, by omega, by omega, rfl, rfl, rfl, rfl, rfl, rfl, by simpa using A5, M5, o5⟩ ?_
    clear A5 M5 o5 F5 n5 A4 o4 F4 s4 M4' A3 F3 n3 A0 K2 K1 g
    rintro m ρ g1 ⟨t, opvt, outvt, htm, ht1, g12, gg1, gg2, g7, g8, g11, At, Mt, ot⟩
    by_cases hlt : t ≤ ticks % 41
    · have hlt' : ((t : Nat) : Int) ≤ ((ticks % 41 : Nat) : Int) := by omega
      have hwt : IntKind.i64.wrap ((t : Int) + 1) = ((t + 1 : Nat) : Int) := by rw [i64_wrap] <;> omega
      simp only [sx, x_box, x_alloc, x_bslice, x_slice, x_append, x_appz, x_b2s, xop, ev, evs, evParts, fillL, cellsL, Ai.get, Ai.put, stab, isNil?, if_false, if_true, addr?, int?, str?, agg?, bool?, shiftA, FnPost, xresL, xres1, tup, argEnv, ptr, Nat.reduceEqDiff, reduceIte, beq_self_eq_true, ne_eq, Nat.reduceAdd, Nat.reduceMul, Nat.reduceSub, abin_shl, abin_shr, load1V, loadV, storeV, cellsAt, getN, setN, allocV, lenL, lenS, bnd, oneC, Value.oneCell', Nat.reduceLeDiff, Nat.reduceLT, exists_eq_left', forall_const, reduceCtorEq, app_new, app_new0, List.append_assoc, Int.reduceToNat, Int.reduceLT, Int.reduceLE, Int.reduceEq, Int.reduceNe, Int.reduceBEq, IntKind.bits, bne_self_eq_false, Int.reducePow, g12, gg1, gg2, g7, g8, g11, n41, q9, q10, hlt']
      refine xcall (tick_ok At (show 0 < 100000 by decide) (fun x hx => by
        have : x = mOf 1 (k % 50) := (Option.some.inj hx).symm
        subst this; exact ⟨show 1 ≤ 1000000 by decide, show 1 ≤ 1000000 by decide⟩)) (by rfl) (by rfl) (by rfl) (by rfl) ?_
      rintro r g2 W
      rw [tick_rt hev1 (by omega) ht1 (by omega)] at W
      obtain ⟨opv6, outv6, A6, F6, n6⟩ := W
      obtain ⟨M6, o6⟩ := hold At ot Mt F6 n6
      simp only [sx, x_box, x_alloc, x_bslice, x_slice, x_append, x_appz, x_b2s, xop, ev, evs, evParts, fillL, cellsL, Ai.get, Ai.put, stab, isNil?, if_false, if_true, addr?, int?, str?, agg?, bool?, shiftA, FnPost, xresL, xres1, tup, argEnv, ptr, Nat.reduceEqDiff, reduceIte, beq_self_eq_true, ne_eq, Nat.reduceAdd, Nat.reduceMul, Nat.reduceSub, abin_shl, abin_shr, load1V, loadV, storeV, cellsAt, getN, setN, allocV, lenL, lenS, bnd, oneC, Value.oneCell', Nat.reduceLeDiff, Nat.reduceLT, exists_eq_left', forall_const, reduceCtorEq, app_new, app_new0, List.append_assoc, Int.reduceToNat, Int.reduceLT, Int.reduceLE, Int.reduceEq, Int.reduceNe, Int.reduceBEq, IntKind.bits, bne_self_eq_false, Int.reducePow, g8]
      have hol : (if t % eo = 0 then [mOf 1 (k % 50)] else []).length < 1000000 := by split <;> simp
      refine xcall (taken_ok A6 hol) (by rfl) (by rfl) (by rfl) (by rfl) ?_
      rintro r g3 ⟨M7, A7, o7, F7, s7⟩
      obtain ⟨M6b, o6b⟩ := hold (outv' := .slice none 0 0) A6 o6 M6 F7 (fun B hB => .inl (ft_nil hB))
      have M7' : MsgL g3 r (if t % eo = 0 then [mOf 1 (k % 50)] else []) := M7
      have A7' : DAt g3 D G L T (rt eo ((t % eo : Nat) : Int) k []) opv6 (.slice none 0 0) := A7
      clear M7 A7
      have hz : ¬ ((eo : Nat) : Int) = 0 := by omega
      have hrem : ((t : Nat) : Int).tmod ((eo : Nat) : Int) = ((t % eo : Nat) : Int) := by rw [Int.tmod_eq_emod_of_nonneg (by omega)]; omega
      by_cases hmod : t % eo = 0
      · rw [if_pos hmod] at M7'
        have hmod' : ((t % eo : Nat) : Int) = 0 := by omega
        obtain ⟨a7, oa, mv, ov, rfl, a1, a2, a3, a4, a5, a6⟩ := M7'.one
        obtain ⟨b7, ob, mv2, ov2, eb, b1, b2, b3, b4, b5, b6⟩ := M6b.one
        cases eb
        have hq1 : ((1 : Nat) : Int) = 1 := rfl
        have hq2 : ¬ (1 : Int) < ((1 : Nat) : Int) := by decide
        have hq3 : ((true : Bool) != true) = false := rfl
        have i00 : (0 : Int) ≤ 0 := by decide
        have i01 : (0 : Int) < ((1 : Nat) : Int) := by decide
        have t0 : (0 : Int).toNat = 0 := rfl
        simp only [Ms.cells] at a3 b3
        simp only [sx, x_box, x_alloc, x_bslice, x_slice, x_append, x_appz, x_b2s, xop, ev, evs, evParts, fillL, cellsL, Ai.get, Ai.put, stab, isNil?, if_false, if_true, addr?, int?, str?, agg?, bool?, shiftA, FnPost, xresL, xres1, tup, argEnv, ptr, Nat.reduceEqDiff, reduceIte, beq_self_eq_true, ne_eq, Nat.reduceAdd, Nat.reduceMul, Nat.reduceSub, abin_shl, abin_shr, load1V, loadV, storeV, cellsAt, setN, allocV, lenL, lenS, bnd, oneC, Value.oneCell', Nat.reduceLeDiff, Nat.reduceLT, exists_eq_left', forall_const, reduceCtorEq, app_new, app_new0, List.append_assoc, Int.reduceToNat, Int.reduceLT, Int.reduceLE, Int.reduceEq, Int.reduceNe, Int.reduceBEq, IntKind.bits, bne_self_eq_false, Int.reducePow, g12, gg1, gg2, g7, g8, g11, hz, hrem, hmod', hq1, hq2, hq3, i00, i01, t0, a1, a2, a3, b1, b2, b3, Nat.zero_mul]
        refine xcall (same_ok (a := mOf 1 (k % 50)) (b := mOf 1 (k % 50)) ⟨mv, ov, rfl, a4, a5⟩ ⟨mv2, ov2, rfl, b4, b5⟩ (show 1 ≤ 1000000 by decide) (show 1 ≤ 1000000 by decide) (show 1 ≤ 1000000 by decide) (show 1 ≤ 1000000 by decide)) (by rfl) (by rfl) (by rfl) (by rfl) ?_
        rintro r g4 ⟨K8, tt, rfl, htt⟩
        have htt' : tt = true := htt.2 rfl
        subst htt'
        simp only [sx, x_box, x_alloc, x_bslice, x_slice, x_append, x_appz, x_b2s, xop, ev, evs, evParts, fillL, cellsL, Ai.get, Ai.put, stab, isNil?, if_false, if_true, addr?, int?, str?, agg?, bool?, shiftA, FnPost, xresL, xres1, tup, argEnv, ptr, Nat.reduceEqDiff, reduceIte, beq_self_eq_true, ne_eq, Nat.reduceAdd, Nat.reduceMul, Nat.reduceSub, abin_shl, abin_shr, load1V, loadV, storeV, cellsAt, getN, setN, allocV, lenL, lenS, bnd, oneC, Value.oneCell', Nat.reduceLeDiff, Nat.reduceLT, exists_eq_left', forall_const, reduceCtorEq, app_new, app_new0, List.append_assoc, Int.reduceToNat, Int.reduceLT, Int.reduceLE, Int.reduceEq, Int.reduceNe, Int.reduceBEq, IntKind.bits, bne_self_eq_false, Int.reducePow, g12, hwt]
        exact ⟨m - 1, by omega, t + 1, opv6, .slice none 0 0, by omega, by omega, rfl, gg1, gg2, g7, g8, g11, by rw [Nat.add_sub_cancel]; exact A7'.kp K8, M6b.kp K8, o6b.kp K8⟩
      · rw [if_neg hmod] at M7'
        have hmod' : ¬ ((t % eo : Nat) : Int) = 0 := by omega
        obtain ⟨q7', rfl⟩ := M7'.shp
        have hq1 : ¬ ((0 : Nat) : Int) = 1 := by decide
        have hq2 : ¬ (1 : Int) < ((0 : Nat) : Int) := by decide
        have hq3 : ((false : Bool) != false) = false := rfl
        simp only [sx, x_box, x_alloc, x_bslice, x_slice, x_append, x_appz, x_b2s, xop, ev, evs, evParts, fillL, cellsL, Ai.get, Ai.put, stab, isNil?, if_false, if_true, addr?, int?, str?, agg?, bool?, shiftA, FnPost, xresL, xres1, tup, argEnv, ptr, Nat.reduceEqDiff, reduceIte, beq_self_eq_true, ne_eq, Nat.reduceAdd, Nat.reduceMul, Nat.reduceSub, abin_shl, abin_shr, load1V, loadV, storeV, cellsAt, getN, setN, allocV, lenL, lenS, bnd, oneC, Value.oneCell', Nat.reduceLeDiff, Nat.reduceLT, exists_eq_left', forall_const, reduceCtorEq, app_new, app_new0, List.append_assoc, Int.reduceToNat, Int.reduceLT, Int.reduceLE, Int.reduceEq, Int.reduceNe, Int.reduceBEq, IntKind.bits, bne_self_eq_false, Int.reducePow, g12, gg1, gg2, g7, g8, g11, hz, hrem, hmod', hq1, hq2, hq3, hwt]
        exact ⟨m - 1, by omega, t + 1, opv6, .slice none 0 0, by omega, by omega, rfl, gg1, gg2, g7, g8, g11, by rw [Nat.add_sub_cancel]; exact A7', M6b, o6b⟩
    · have hlt' : ¬ ((t : Nat) : Int) ≤ ((ticks % 41 : Nat) : Int) := by omega
      simp only [sx, x_box, x_alloc, x_bslice, x_slice, x_append, x_appz, x_b2s, xop, ev, evs, evParts, fillL, cellsL, Ai.get, Ai.put, stab, isNil?, if_false, if_true, addr?, int?, str?, agg?, bool?, shiftA, FnPost, xresL, xres1, tup, argEnv, ptr, Nat.reduceEqDiff, reduceIte, beq_self_eq_true, ne_eq, Nat.reduceAdd, Nat.reduceMul, Nat.reduceSub, abin_shl, abin_shr, load1V, loadV, storeV, cellsAt, getN, setN, allocV, lenL, lenS, bnd, oneC, Value.oneCell', Nat.reduceLeDiff, Nat.reduceLT, exists_eq_left', forall_const, reduceCtorEq, app_new, app_new0, List.append_assoc, Int.reduceToNat, Int.reduceLT, Int.reduceLE, Int.reduceEq, Int.reduceNe, Int.reduceBEq, IntKind.bits, bne_self_eq_false, Int.reducePow, g12, gg1, gg2, g7, g8, g11, n41, q9, q10, hlt']
      exact ⟨_, opvt, outvt, gg2, g8, At⟩
  · rintro ρ g1 ⟨age, opv6, outv6, gg2, g8, A6⟩
    simp only [sx, x_box, x_alloc, x_bslice, x_slice, x_append, x_appz, x_b2s, xop, ev, evs, evParts, fillL, cellsL, Ai.get, Ai.put, stab, isNil?, if_false, if_true, addr?, int?, str?, agg?, bool?, shiftA, FnPost, xresL, xres1, tup, argEnv, ptr, Nat.reduceEqDiff, reduceIte, beq_self_eq_true, ne_eq, Nat.reduceAdd, Nat.reduceMul, Nat.reduceSub, abin_shl, abin_shr, load1V, loadV, storeV, cellsAt, getN, setN, allocV, lenL, lenS, bnd, oneC, Value.oneCell', Nat.reduceLeDiff, Nat.reduceLT, exists_eq_left', forall_const, reduceCtorEq, app_new, app_new0, List.append_assoc, Int.reduceToNat, Int.reduceLT, Int.reduceLE, Int.reduceEq, Int.reduceNe, Int.reduceBEq, IntKind.bits, bne_self_eq_false, Int.reducePow, g8]
    refine xcall (rest_ok A6) (by rfl) (by rfl) (by rfl) (by rfl) ?_
    rintro r g2 ⟨rfl, rfl⟩
    have hn : (rt eo age k []).op.isNone = false := rfl
    rw [hn]
    simp only [sx, x_box, x_alloc, x_bslice, x_slice, x_append, x_appz, x_b2s, xop, ev, evs, evParts, fillL, cellsL, Ai.get, Ai.put, stab, isNil?, if_false, if_true, addr?, int?, str?, agg?, bool?, shiftA, FnPost, xresL, xres1, tup, argEnv, ptr, Nat.reduceEqDiff, reduceIte, beq_self_eq_true, ne_eq, Nat.reduceAdd, Nat.reduceMul, Nat.reduceSub, abin_shl, abin_shr, load1V, loadV, storeV, cellsAt, getN, setN, allocV, lenL, lenS, bnd, oneC, Value.oneCell', Nat.reduceLeDiff, Nat.reduceLT, exists_eq_left', forall_const, reduceCtorEq, app_new, app_new0, List.append_assoc, Int.reduceToNat, Int.reduceLT, Int.reduceLE, Int.reduceEq, Int.reduceNe, Int.reduceBEq, IntKind.bits, bne_self_eq_false, Int.reducePow, g8]
    refine xcall (hear_ok A6 (ack_mv _ 1) (show 0 ≤ 9223372036854775807 by decide) (show 0 < 100000 by decide)) (by rfl) (by rfl) (by rfl) (by rfl) ?_
    rintro r g3 (⟨e, -⟩ | ⟨-, -, -, rfl, W⟩ | ⟨-, -, e, -⟩)
    · exact absurd ⟨ack_ok (by decide), by show (0 : Int) + ((0 : Nat) : Int) ≤ _; omega⟩ e
    rotate_left
    · cases e
    have W' : WentD g2 g3 D G L T ((rt eo age k []).ackd 1) outv6 := W
    rw [ack_r3 _ _ hk] at W'
    obtain ⟨opv7, outv7, A7, F7, n7⟩ := W'
    have m0 : ¬ (0 : Int) ≠ 0 := by decide
    simp only [sx, x_box, x_alloc, x_bslice, x_slice, x_append, x_appz, x_b2s, xop, ev, evs, evParts, fillL, cellsL, Ai.get, Ai.put, stab, isNil?, if_false, if_true, addr?, int?, str?, agg?, bool?, shiftA, FnPost, xresL, xres1, tup, argEnv, ptr, Nat.reduceEqDiff, reduceIte, beq_self_eq_true, ne_eq, Nat.reduceAdd, Nat.reduceMul, Nat.reduceSub, abin_shl, abin_shr, load1V, loadV, storeV, cellsAt, getN, setN, allocV, lenL, lenS, bnd, oneC, Value.oneCell', Nat.reduceLeDiff, Nat.reduceLT, exists_eq_left', forall_const, reduceCtorEq, app_new, app_new0, List.append_assoc, Int.reduceToNat, Int.reduceLT, Int.reduceLE, Int.reduceEq, Int.reduceNe, Int.reduceBEq, IntKind.bits, bne_self_eq_false, Int.reducePow, g8, m0]
    refine xcall (taken_ok A7 (show 1 < 1000000 by decide)) (by rfl) (by rfl) (by rfl) (by rfl) ?_
    rintro r g4 ⟨M8, A8, o8, F8, s8⟩
    have M8' : MsgL g4 r [mOf 2 (eOf k)] := M8
    obtain ⟨b7, ob, mv, ov, rfl, b1, b2, b3, b4, b5, b6⟩ := M8'.one
    have c1 := b6 1 (by decide)
    have c2 := b6 2 (by decide)
    simp only [Ms.cells, List.getElem?_cons_succ, List.getElem?_cons_zero, mOf] at c1 c2
    have i00 : (0 : Int) ≤ 0 := by decide
    have i01 : (0 : Int) < ((1 : Nat) : Int) := by decide
    have t0 : (0 : Int).toNat = 0 := rfl
    simp only [sx, x_box, x_alloc, x_bslice, x_slice, x_append, x_appz, x_b2s, xop, ev, evs, evParts, fillL, cellsL, Ai.get, Ai.put, stab, isNil?, if_false, if_true, addr?, int?, str?, agg?, bool?, shiftA, FnPost, xresL, xres1, tup, argEnv, ptr, Nat.reduceEqDiff, reduceIte, beq_self_eq_true, ne_eq, Nat.reduceAdd, Nat.reduceMul, Nat.reduceSub, abin_shl, abin_shr, load1V, loadV, storeV, cellsAt, getN, setN, allocV, lenL, lenS, bnd, oneC, Value.oneCell', Nat.reduceLeDiff, Nat.reduceLT, exists_eq_left', forall_const, reduceCtorEq, app_new, app_new0, List.append_assoc, Int.reduceToNat, Int.reduceLT, Int.reduceLE, Int.reduceEq, Int.reduceNe, Int.reduceBEq, IntKind.bits, bne_self_eq_false, Int.reducePow, g8, gg2, i00, i01, t0, b1, b2, c1, c2, Nat.zero_mul, q6, q7, q8, n50]
    refine xcall (rest_ok A8) (by rfl) (by rfl) (by rfl) (by rfl) ?_
    rintro r g5 ⟨rfl, rfl⟩
    have hn2 : (DK.op { r3 (eo : Int) k with out := [] }).isNone = false := rfl
    rw [hn2]
    simp only [sx, x_box, x_alloc, x_bslice, x_slice, x_append, x_appz, x_b2s, xop, ev, evs, evParts, fillL, cellsL, Ai.get, Ai.put, stab, isNil?, if_false, if_true, addr?, int?, str?, agg?, bool?, shiftA, FnPost, xresL, xres1, tup, argEnv, ptr, Nat.reduceEqDiff, reduceIte, beq_self_eq_true, ne_eq, Nat.reduceAdd, Nat.reduceMul, Nat.reduceSub, abin_shl, abin_shr, load1V, loadV, storeV, cellsAt, getN, setN, allocV, lenL, lenS, bnd, oneC, Value.oneCell', Nat.reduceLeDiff, Nat.reduceLT, exists_eq_left', forall_const, reduceCtorEq, app_new, app_new0, List.append_assoc, Int.reduceToNat, Int.reduceLT, Int.reduceLE, Int.reduceEq, Int.reduceNe, Int.reduceBEq, IntKind.bits, bne_self_eq_false, Int.reducePow]
    refine xcall (lives_ok _) (by rfl) (by rfl) (by rfl) (by rfl) ?_
    rintro r g6 rfl
    simp only [sx, x_box, x_alloc, x_bslice, x_slice, x_append, x_appz, x_b2s, xop, ev, evs, evParts, fillL, cellsL, Ai.get, Ai.put, stab, isNil?, if_false, if_true, addr?, int?, str?, agg?, bool?, shiftA, FnPost, xresL, xres1, tup, argEnv, ptr, Nat.reduceEqDiff, reduceIte, beq_self_eq_true, ne_eq, Nat.reduceAdd, Nat.reduceMul, Nat.reduceSub, abin_shl, abin_shr, load1V, loadV, storeV, cellsAt, getN, setN, allocV, lenL, lenS, bnd, oneC, Value.oneCell', Nat.reduceLeDiff, Nat.reduceLT, exists_eq_left', forall_const, reduceCtorEq, app_new, app_new0, List.append_assoc, Int.reduceToNat, Int.reduceLT, Int.reduceLE, Int.reduceEq, Int.reduceNe, Int.reduceBEq, IntKind.bits, bne_self_eq_false, Int.reducePow]
def repeatSh : List (Bool × List Cl) := [(false, [.leaf (.int .u8)]), (false, [.leaf (.int .u8)]), (false, [.leaf (.int .u8)])]
theorem bd_u8 {n : Int} (h : (Lit.int IntKind.u8 n).wf = true) : ∃ m : Nat, n = m ∧ m < 256 := by
  have := bounds_u8 h
  exact ⟨n.toNat, by omega, by omega⟩
theorem repeat_sh {h : AHeap} {vs : List Value} (hs : SmallArgs h repeatSh vs) : Valid Try.prog 5 vs h fun r _ => r = .bool true := by
  obtain ⟨v1, r, rfl, h1, hs2⟩ := hs.cons_inv
  obtain ⟨v2, r, rfl, h2, hs3⟩ := hs2.cons_inv
  obtain ⟨v3, r, rfl, h3, hs4⟩ := hs3.cons_inv
  obtain rfl := hs4.nil_inv
  obtain ⟨a, rfl, wa⟩ := h1.one
  obtain ⟨b, rfl, wb⟩ := h2.one
  obtain ⟨c, rfl, wc⟩ := h3.one
  obtain ⟨a, rfl, ha⟩ := bd_u8 wa
  obtain ⟨b, rfl, hb⟩ := bd_u8 wb
  obtain ⟨c, rfl, hc⟩ := bd_u8 wc
  exact repeat_ok ha hb hc
end Go.Proofs.Ytejgaeinkojgpaa
