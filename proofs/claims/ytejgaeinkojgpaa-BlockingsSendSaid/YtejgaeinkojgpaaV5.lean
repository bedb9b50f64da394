import Derived.Test.YtejgaeinkojgpaaV4
set_option linter.unusedVariables false
set_option linter.unusedSimpArgs false
namespace Go.Proofs.Ytejgaeinkojgpaa
open Go Go.Ai Go.Proofs

set_option maxHeartbeats 32000000 in
set_option maxRecDepth 20000 in
theorem send_law {h : AHeap} {many : Nat} {q : Option Addr} {nA c : Nat} (hm : many < 256) (hA : nA ≤ 9223372036854775807) (W : ActsW h q nA) :
    Valid Try.prog 3 [.int .u8 (many : Nat), .slice q nA c] h fun r h' => r = .bool true := by
  refine v3 (by simp) ?_
  by_cases hbig : 20 < nA
  · have hbig' : (20 : Int) < nA := by omega
    simp only [X3, sx, x_box, x_alloc, x_bslice, x_slice, x_append, x_appz, x_b2s, xop, ev, evs, evParts, fillL, cellsL, Ai.get, Ai.put, stab, isNil?, if_false, if_true, addr?, int?, str?, agg?, bool?, shiftA, FnPost, xresL, xres1, tup, argEnv, ptr, Nat.reduceEqDiff, reduceIte, beq_self_eq_true, ne_eq, Nat.reduceAdd, Nat.reduceMul, Nat.reduceSub, abin_shl, abin_shr, load1V, loadV, storeV, cellsAt, getN, setN, allocV, lenL, lenS, bnd, oneC, Value.oneCell', Nat.reduceLeDiff, Nat.reduceLT, exists_eq_left', forall_const, reduceCtorEq, app_new, app_new0, List.append_assoc, Int.reduceToNat, Int.reduceLT, Int.reduceLE, Int.reduceEq, Int.reduceNe, Int.reduceBEq, IntKind.bits, bne_self_eq_false, Int.reducePow, hbig']
    refine xcall (lives_ok _) (by rfl) (by rfl) (by rfl) (by rfl) ?_
    rintro r h' rfl
    simp only [sx, x_box, x_alloc, x_bslice, x_slice, x_append, x_appz, x_b2s, xop, ev, evs, evParts, fillL, cellsL, Ai.get, Ai.put, stab, isNil?, if_false, if_true, addr?, int?, str?, agg?, bool?, shiftA, FnPost, xresL, xres1, tup, argEnv, ptr, Nat.reduceEqDiff, reduceIte, beq_self_eq_true, ne_eq, Nat.reduceAdd, Nat.reduceMul, Nat.reduceSub, abin_shl, abin_shr, load1V, loadV, storeV, cellsAt, getN, setN, allocV, lenL, lenS, bnd, oneC, Value.oneCell', Nat.reduceLeDiff, Nat.reduceLT, exists_eq_left', forall_const, reduceCtorEq, app_new, app_new0, List.append_assoc, Int.reduceToNat, Int.reduceLT, Int.reduceLE, Int.reduceEq, Int.reduceNe, Int.reduceBEq, IntKind.bits, bne_self_eq_false, Int.reducePow]
  have hbig' : ¬ (20 : Int) < nA := by omega
  have n80 : ¬ (80 : Int) = 0 := by decide
  have q1 : ((many : Nat) : Int).tmod 80 = ((many % 80 : Nat) : Int) := by rw [Int.tmod_eq_emod_of_nonneg (by omega)]; omega
  have q2 : IntKind.i64.wrap ((many % 80 : Nat) : Int) = ((many % 80 : Nat) : Int) := i64_wrap (by omega) (by omega)
  have q3 : IntKind.i64.wrap (1 + ((many % 80 : Nat) : Int)) = ((1 + many % 80 : Nat) : Int) := by rw [i64_wrap] <;> omega
  simp only [X3, sx, x_box, x_alloc, x_bslice, x_slice, x_append, x_appz, x_b2s, xop, ev, evs, evParts, fillL, cellsL, Ai.get, Ai.put, stab, isNil?, if_false, if_true, addr?, int?, str?, agg?, bool?, shiftA, FnPost, xresL, xres1, tup, argEnv, ptr, Nat.reduceEqDiff, reduceIte, beq_self_eq_true, ne_eq, Nat.reduceAdd, Nat.reduceMul, Nat.reduceSub, abin_shl, abin_shr, load1V, loadV, storeV, cellsAt, getN, setN, allocV, lenL, lenS, bnd, oneC, Value.oneCell', Nat.reduceLeDiff, Nat.reduceLT, exists_eq_left', forall_const, reduceCtorEq, app_new, app_new0, List.append_assoc, Int.reduceToNat, Int.reduceLT, Int.reduceLE, Int.reduceEq, Int.reduceNe, Int.reduceBEq, IntKind.bits, bne_self_eq_false, Int.reducePow, hbig', n80, q1, q2, q3]
  have hN1 : 1 ≤ 1 + many % 80 := by omega
  have hN80 : 1 + many % 80 ≤ 80 := by omega
  generalize 1 + many % 80 = N at *
  clear q1 q2 q3 hm
  refine xcall (group_ok (n := N) hN1 (by omega)) (by rfl) (by rfl) (by rfl) (by rfl) ?_
  rintro r h1 ⟨G, L, rfl, g, K1, hG, hL⟩
  simp only [sx, x_box, x_alloc, x_bslice, x_slice, x_append, x_appz, x_b2s, xop, ev, evs, evParts, fillL, cellsL, Ai.get, Ai.put, stab, isNil?, if_false, if_true, addr?, int?, str?, agg?, bool?, shiftA, FnPost, xresL, xres1, tup, argEnv, ptr, Nat.reduceEqDiff, reduceIte, beq_self_eq_true, ne_eq, Nat.reduceAdd, Nat.reduceMul, Nat.reduceSub, abin_shl, abin_shr, load1V, loadV, storeV, cellsAt, getN, setN, allocV, lenL, lenS, bnd, oneC, Value.oneCell', Nat.reduceLeDiff, Nat.reduceLT, exists_eq_left', forall_const, reduceCtorEq, app_new, app_new0, List.append_assoc, Int.reduceToNat, Int.reduceLT, Int.reduceLE, Int.reduceEq, Int.reduceNe, Int.reduceBEq, IntKind.bits, bne_self_eq_false, Int.reducePow]
  refine xcall (new_ok (again := 3) g) (by rfl) (by rfl) (by rfl) (by rfl) ?_
  rintro r h2 (⟨hbad, -⟩ | ⟨-, -, D, T, rfl, A0, K2, hD, hT⟩)
  · rw [isF_free] at hbad; rcases hbad with h | h
    · omega
    · cases h
  have m0 : ¬ (0 : Int) ≠ 0 := by decide
  have c5 : (0 : Int) ≤ (N : Nat) := by omega
  have c6 : ((N : Nat) : Int) * 1 ≤ 140737488355328 := by omega
  have c7 : ((N : Nat) : Int) ≤ 9223372036854775807 := by omega
  have hz : (List.replicate N [Value.bool false]).flatten = bB (List.replicate N false) := by
    unfold bB; simp
  simp only [sx, x_box, x_alloc, x_bslice, x_slice, x_append, x_appz, x_b2s, xop, ev, evs, evParts, fillL, cellsL, Ai.get, Ai.put, stab, isNil?, if_false, if_true, addr?, int?, str?, agg?, bool?, shiftA, FnPost, xresL, xres1, tup, argEnv, ptr, Nat.reduceEqDiff, reduceIte, beq_self_eq_true, ne_eq, Nat.reduceAdd, Nat.reduceMul, Nat.reduceSub, abin_shl, abin_shr, load1V, loadV, storeV, cellsAt, getN, setN, allocV, lenL, lenS, bnd, oneC, Value.oneCell', Nat.reduceLeDiff, Nat.reduceLT, exists_eq_left', forall_const, reduceCtorEq, app_new, app_new0, List.append_assoc, Int.reduceToNat, Int.reduceLT, Int.reduceLE, Int.reduceEq, Int.reduceNe, Int.reduceBEq, IntKind.bits, bne_self_eq_false, Int.reducePow, m0, c5, c6, c7, Int.le_refl, hz]
  have b0 : Bs N (DK.fresh (List.replicate N ⟨false, false⟩) 3) (List.replicate N false) (List.replicate N false) 0 false :=
    ⟨by simp [DK.fresh], by simp [DK.locals, DK.fresh], by simp [DK.fresh], by simp, rfl, rfl, rfl, (fun m h => by cases h), fun h => by cases h⟩
  have hs0 : HS h (h2 ++ [some (AObj.mk true (bB (List.replicate N false))), some (AObj.mk true (bB (List.replicate N false)))]) D G L T h2.length (h2.length + 1) (DK.fresh (List.replicate N (Ci.mk false false)) 3) (.pointer none) (.slice none 0 0) (List.replicate N false) (List.replicate N false) := by
    have K3 : Kp h2 (h2 ++ [some (AObj.mk true (bB (List.replicate N false))), some (AObj.mk true (bB (List.replicate N false)))]) := Kp.app _ _
    have l1 := K1.1
    have l2 := K2.1
    refine HS.mk ((K1.trans K2).trans K3) (A0.kp K3) (fun B hB => ?_) (by simp) (by simp) (by omega) (by omega) (by omega)
    obtain ⟨i, hB⟩ := hB
    have hlt := A0.lt hB
    refine And.intro ?_ (And.intro (by omega) (by omega))
    rcases hB with hi | hi | hi | hi | ⟨-, hi⟩
    · have := hi.2; omega
    · have := hi.2; omega
    · have := hi.2; omega
    · have := hi.2; omega
    · simp [slB] at hi
  generalize h2.length + 1 = TW at *
  generalize h2.length = NW at *
  generalize h2 ++ [some (AObj.mk true (bB (List.replicate N false))), some (AObj.mk true (bB (List.replicate N false)))] = h3 at *
  generalize DK.fresh (List.replicate N ⟨false, false⟩) 3 = d0 at *
  clear A0 K1 K2 g hG hL hD hT hz c5 c6 c7
  refine xloop_cut (fun ρ h => True) ?_ ?_
  rotate_left
  · rintro ρ g -
    simp only [sx, x_box, x_alloc, x_bslice, x_slice, x_append, x_appz, x_b2s, xop, ev, evs, evParts, fillL, cellsL, Ai.get, Ai.put, stab, isNil?, if_false, if_true, addr?, int?, str?, agg?, bool?, shiftA, FnPost, xresL, xres1, tup, argEnv, ptr, Nat.reduceEqDiff, reduceIte, beq_self_eq_true, ne_eq, Nat.reduceAdd, Nat.reduceMul, Nat.reduceSub, abin_shl, abin_shr, load1V, loadV, storeV, cellsAt, getN, setN, allocV, lenL, lenS, bnd, oneC, Value.oneCell', Nat.reduceLeDiff, Nat.reduceLT, exists_eq_left', forall_const, reduceCtorEq, app_new, app_new0, List.append_assoc, Int.reduceToNat, Int.reduceLT, Int.reduceLE, Int.reduceEq, Int.reduceNe, Int.reduceBEq, IntKind.bits, bne_self_eq_false, Int.reducePow]
    refine xcall (lives_ok _) (by rfl) (by rfl) (by rfl) (by rfl) ?_
    rintro r h' rfl
    simp only [sx, x_box, x_alloc, x_bslice, x_slice, x_append, x_appz, x_b2s, xop, ev, evs, evParts, fillL, cellsL, Ai.get, Ai.put, stab, isNil?, if_false, if_true, addr?, int?, str?, agg?, bool?, shiftA, FnPost, xresL, xres1, tup, argEnv, ptr, Nat.reduceEqDiff, reduceIte, beq_self_eq_true, ne_eq, Nat.reduceAdd, Nat.reduceMul, Nat.reduceSub, abin_shl, abin_shr, load1V, loadV, storeV, cellsAt, getN, setN, allocV, lenL, lenS, bnd, oneC, Value.oneCell', Nat.reduceLeDiff, Nat.reduceLT, exists_eq_left', forall_const, reduceCtorEq, app_new, app_new0, List.append_assoc, Int.reduceToNat, Int.reduceLT, Int.reduceLE, Int.reduceEq, Int.reduceNe, Int.reduceBEq, IntKind.bits, bne_self_eq_false, Int.reducePow]
  refine xcode_loop (ActI h D G L T NW TW N q nA c) nA ⟨0, 0, false, d0, _, _, _, _, by omega, ⟨rfl, rfl, rfl, rfl, rfl⟩, ⟨rfl, rfl, rfl⟩, hs0, b0, by omega⟩ ?_
  clear hs0 b0 h3 d0
  rintro m ρ g ⟨i, s, op, d, opv, outv, nw, tw, him, ⟨r1, r5, r6, r8, r9⟩, ⟨r10, r11, r12⟩, H, B, hs⟩
  by_cases hi : i < nA
  rotate_left
  · have hi' : ¬ (i : Int) < nA := by omega
    simp only [sx, x_box, x_alloc, x_bslice, x_slice, x_append, x_appz, x_b2s, xop, ev, evs, evParts, fillL, cellsL, Ai.get, Ai.put, stab, isNil?, if_false, if_true, addr?, int?, str?, agg?, bool?, shiftA, FnPost, xresL, xres1, tup, argEnv, ptr, Nat.reduceEqDiff, reduceIte, beq_self_eq_true, ne_eq, Nat.reduceAdd, Nat.reduceMul, Nat.reduceSub, abin_shl, abin_shr, load1V, loadV, storeV, cellsAt, getN, setN, allocV, lenL, lenS, bnd, oneC, Value.oneCell', Nat.reduceLeDiff, Nat.reduceLT, exists_eq_left', forall_const, reduceCtorEq, app_new, app_new0, List.append_assoc, Int.reduceToNat, Int.reduceLT, Int.reduceLE, Int.reduceEq, Int.reduceNe, Int.reduceBEq, IntKind.bits, bne_self_eq_false, Int.reducePow, r12, r1, hi']
  have hi' : (i : Int) < nA := by omega
  have hi0 : (0 : Int) ≤ i := by omega
  have hwi : IntKind.i64.wrap ((i : Int) + 1) = ((i + 1 : Nat) : Int) := by rw [i64_wrap] <;> omega
  simp only [sx, x_box, x_alloc, x_bslice, x_slice, x_append, x_appz, x_b2s, xop, ev, evs, evParts, fillL, cellsL, Ai.get, Ai.put, stab, isNil?, if_false, if_true, addr?, int?, str?, agg?, bool?, shiftA, FnPost, xresL, xres1, tup, argEnv, ptr, Nat.reduceEqDiff, reduceIte, beq_self_eq_true, ne_eq, Nat.reduceAdd, Nat.reduceMul, Nat.reduceSub, abin_shl, abin_shr, load1V, loadV, storeV, cellsAt, getN, setN, allocV, lenL, lenS, bnd, oneC, Value.oneCell', Nat.reduceLeDiff, Nat.reduceLT, exists_eq_left', forall_const, reduceCtorEq, app_new, app_new0, List.append_assoc, Int.reduceToNat, Int.reduceLT, Int.reduceLE, Int.reduceEq, Int.reduceNe, Int.reduceBEq, IntKind.bits, bne_self_eq_false, Int.reducePow, r12, r1, hi']
  obtain ⟨AB, rows, rfl, hAB, kd, sd, on, cq, cc, cs, a1, a2, a3, a4, a5, a6, a7⟩ := W.at (Kp.refl h) hi
  refine xloop_cut (CodE h D G L T NW TW N (some ⟨AB, 0, none⟩) nA c i s op d opv outv nw tw cs on) ?_ ?_
  · refine xcode_loop (CodI h D G L T NW TW N (some ⟨AB, 0, none⟩) nA c i s op d opv outv nw tw cs on) (min cs.length 40) ⟨0, .slice none 0 0, by omega, ⟨r1, r5, r6, r8, r9⟩, ⟨r10, r11, r12⟩, rfl, rfl, H, RetN.nil 1 _, fun B hB => by cases hB⟩ ?_
    clear H
    rintro m ρ g ⟨j, v, hjm, ⟨r1, r5, r6, r8, r9⟩, ⟨r10, r11, r12⟩, r14, r13, H, C⟩
    have hABg := H.kp.get hAB
    by_cases hj1 : j < cs.length
    rotate_left
    · have hj1' : ¬ (j : Int) < cs.length := by omega
      simp only [sx, x_box, x_alloc, x_bslice, x_slice, x_append, x_appz, x_b2s, xop, ev, evs, evParts, fillL, cellsL, Ai.get, Ai.put, stab, isNil?, if_false, if_true, addr?, int?, str?, agg?, bool?, shiftA, FnPost, xresL, xres1, tup, argEnv, ptr, Nat.reduceEqDiff, reduceIte, beq_self_eq_true, ne_eq, Nat.reduceAdd, Nat.reduceMul, Nat.reduceSub, abin_shl, abin_shr, load1V, loadV, storeV, cellsAt, getN, setN, allocV, lenL, lenS, bnd, oneC, Value.oneCell', Nat.reduceLeDiff, Nat.reduceLT, exists_eq_left', forall_const, reduceCtorEq, app_new, app_new0, List.append_assoc, Int.reduceToNat, Int.reduceLT, Int.reduceLE, Int.reduceEq, Int.reduceNe, Int.reduceBEq, IntKind.bits, bne_self_eq_false, Int.reducePow, r12, r1, r14, hi', hi0, hABg, a4, hj1']
      exact ⟨cds N cs j, v, ⟨r1, r5, r6, r8, r9⟩, ⟨r10, r11, r12⟩, r13, by rw [cds_len]; omega, cds_in hN1 cs j, H, C⟩
    have hj1' : (j : Int) < cs.length := by omega
    by_cases hj2 : j < 40
    rotate_left
    · have hj2' : ¬ (j : Int) < 40 := by omega
      simp only [sx, x_box, x_alloc, x_bslice, x_slice, x_append, x_appz, x_b2s, xop, ev, evs, evParts, fillL, cellsL, Ai.get, Ai.put, stab, isNil?, if_false, if_true, addr?, int?, str?, agg?, bool?, shiftA, FnPost, xresL, xres1, tup, argEnv, ptr, Nat.reduceEqDiff, reduceIte, beq_self_eq_true, ne_eq, Nat.reduceAdd, Nat.reduceMul, Nat.reduceSub, abin_shl, abin_shr, load1V, loadV, storeV, cellsAt, getN, setN, allocV, lenL, lenS, bnd, oneC, Value.oneCell', Nat.reduceLeDiff, Nat.reduceLT, exists_eq_left', forall_const, reduceCtorEq, app_new, app_new0, List.append_assoc, Int.reduceToNat, Int.reduceLT, Int.reduceLE, Int.reduceEq, Int.reduceNe, Int.reduceBEq, IntKind.bits, bne_self_eq_false, Int.reducePow, r12, r1, r14, hi', hi0, hABg, a4, hj1', hj2']
      exact ⟨cds N cs j, v, ⟨r1, r5, r6, r8, r9⟩, ⟨r10, r11, r12⟩, r13, by rw [cds_len]; omega, cds_in hN1 cs j, H, C⟩
    have hj2' : (j : Int) < 40 := by omega
    have hj0 : (0 : Int) ≤ j := by omega
    obtain ⟨z, hz⟩ : ∃ z, cs[j]? = some z := ⟨_, List.getElem?_eq_getElem hj1⟩
    obtain ⟨⟨z1, z2⟩, ca, co, rfl, c1, c2, c3⟩ := a7 j z hz
    have c2g := H.kp.get c2
    have w1 : IntKind.i64.wrap z = z := i64_wrap (by omega) (by omega)
    have wy0 := Int.emod_nonneg z (show ((N : Nat) : Int) ≠ 0 by omega)
    have wy1 := Int.emod_lt_of_pos z (show (0 : Int) < ((N : Nat) : Int) by omega)
    obtain ⟨y, hy⟩ : ∃ y : Nat, z % (N : Int) = y := ⟨(z % (N : Int)).toNat, by omega⟩
    have w2 : z.tmod (N : Int) = (y : Int) := by rw [Int.tmod_eq_emod_of_nonneg z1, hy]
    have hyN : y < N := by omega
    have ecs := cds_snoc N hz
    rw [hy] at ecs
    have eln : (cds N cs j).length = j := by rw [cds_len]; omega
    have wN : ¬ ((N : Nat) : Int) = 0 := by omega
    have w3 : IntKind.i64.wrap ((j : Int) + 1) = ((j + 1 : Nat) : Int) := by rw [i64_wrap] <;> omega
    simp only [sx, x_box, x_alloc, x_bslice, x_slice, x_appz, x_b2s, xop, ev, evs, evParts, fillL, cellsL, Ai.get, Ai.put, stab, isNil?, if_false, if_true, addr?, int?, str?, agg?, bool?, shiftA, FnPost, xresL, xres1, tup, argEnv, ptr, Nat.reduceEqDiff, reduceIte, beq_self_eq_true, ne_eq, Nat.reduceAdd, Nat.reduceMul, Nat.reduceSub, abin_shl, abin_shr, load1V, loadV, storeV, cellsAt, getN, setN, allocV, lenL, lenS, bnd, oneC, Value.oneCell', Nat.reduceLeDiff, Nat.reduceLT, exists_eq_left', forall_const, reduceCtorEq, app_new, app_new0, List.append_assoc, Int.reduceToNat, Int.reduceLT, Int.reduceLE, Int.reduceEq, Int.reduceNe, Int.reduceBEq, IntKind.bits, bne_self_eq_false, Int.reducePow, r12, r1, r14, r5, r13, hi', hi0, hABg, a4, hj1', hj2', hj0, c1, c2g, c3, w1, w2, wN, Nat.mul_one, Nat.zero_add]
    have Kb := Kp.app g [some (AObj.mk true [Value.int IntKind.i64 (y : Int)])]
    have hx1 := app_one g (some (AObj.mk true [Value.int IntKind.i64 (y : Int)]))
    have C1 := C.keep Kb
    have H1 := H.keep Kb
    have hlb : (g ++ [some (AObj.mk true [Value.int IntKind.i64 (y : Int)])]).length = g.length + 1 := by simp
    generalize g ++ [some (AObj.mk true [Value.int IntKind.i64 (y : Int)])] = g1 at *
    have hf1 : firstV 1 g1 1 (.slice (some ⟨g.length, 0, none⟩) 1 1) = some [.int .i64 (y : Int)] := by simp [firstV, cellsAt, hx1, getN]
    refine append_run (k := 1) (by_ := 8) (n := (cds N cs j).length) (m := 1) (rows := (cds N cs j).map (.int .i64)) (news := [.int .i64 (y : Int)]) (sl := v) (xv := .slice (some ⟨g.length, 0, none⟩) 1 1) rfl (by decide) rfl rfl rfl hf1 rfl rfl C1.R.toO (by omega) (by omega) (fun h0 => by omega) (fun _ g2 A' hA' hg hl' hfr => ?_)
    have H2 := H1.app C1 (by omega) hfr
    have C2 : CV h g2 D G L T NW TW outv (.slice (some ⟨A', 0, none⟩) ((cds N cs j).length + 1) (unk + 1)) (cds N cs (j + 1)) := by
      have el : (cds N cs j).length + 1 = (cds N cs (j + 1)).length := by rw [ecs]; simp
      rw [el]
      refine CV.mk ?_ ?_
      · refine RetN.all ?_ (by simp)
        rw [hg, ecs]; simp
      · intro B hB
        obtain rfl : A' = B := Option.some.inj hB
        have := H1.kp.1
        have l1 := lt_of_get H1.nwo
        have l2 := lt_of_get H1.two
        exact ⟨by omega, by omega, by omega, fun ⟨i, hf⟩ => by have := H1.A.lt hf; omega⟩
    have hABg2 := H2.kp.get hAB
    have c2g2 := H2.kp.get c2
    have hnw := H2.nwo
    have hyn : (y : Int) < ((N : Nat) : Int) := by omega
    have hy0 : (0 : Int) ≤ (y : Int) := by omega
    have fl : ((cds N cs j).foldl (fun l z => l.set z.toNat on) nw).length = N := by rw [fold_len]; exact B.nl
    have hle : y + 1 ≤ (bB ((cds N cs j).foldl (fun l z => l.set z.toNat on) nw)).length := by rw [bB_len, fl]; omega
    have efl : (cds N cs (j + 1)).foldl (fun l z => l.set z.toNat on) nw = ((cds N cs j).foldl (fun l z => l.set z.toNat on) nw).set y on := by rw [ecs, List.foldl_append]; rfl
    simp only [sx, x_box, x_alloc, x_bslice, x_slice, x_append, x_appz, x_b2s, xop, ev, evs, evParts, fillL, cellsL, Ai.get, Ai.put, stab, isNil?, if_false, if_true, addr?, int?, str?, agg?, bool?, shiftA, FnPost, xresL, xres1, tup, argEnv, ptr, Nat.reduceEqDiff, reduceIte, beq_self_eq_true, ne_eq, Nat.reduceAdd, Nat.reduceMul, Nat.reduceSub, abin_shl, abin_shr, load1V, loadV, storeV, cellsAt, getN, setN, allocV, lenL, lenS, bnd, oneC, Value.oneCell', Nat.reduceLeDiff, Nat.reduceLT, exists_eq_left', forall_const, reduceCtorEq, app_new, app_new0, List.append_assoc, Int.reduceToNat, Int.reduceLT, Int.reduceLE, Int.reduceEq, Int.reduceNe, Int.reduceBEq, IntKind.bits, bne_self_eq_false, Int.reducePow, r12, r1, r14, r5, r8, hi', hi0, hABg2, a4, a5, hj1', hj2', hj0, c1, c2g2, c3, w1, w2, wN, w3, hnw, hyn, hy0, hle, Nat.mul_one, Nat.zero_add, bB_set]
    exact ⟨m - 1, by omega, j + 1, _, by omega, ⟨r1, r5, r6, r8, r9⟩, ⟨r10, r11, r12⟩, rfl, rfl, by rw [efl]; exact H2.setN, CV.mk (C2.R.keep fun A hA => set_ne (fun e => (C2.apart A hA).2.1 e.symm) _) C2.apart⟩
  · clear H
    rintro ρ g ⟨zs, v, ⟨r1, r5, r6, r8, r9⟩, ⟨r10, r11, r12⟩, r13, hzl, hzr, H, C⟩
    have hABg := H.kp.get hAB
    obtain ⟨zq, zk, rfl, V, hVL⟩ := C.cdv
    simp only [sx, x_box, x_alloc, x_bslice, x_slice, x_append, x_appz, x_b2s, xop, ev, evs, evParts, fillL, cellsL, Ai.get, Ai.put, stab, isNil?, if_false, if_true, addr?, int?, str?, agg?, bool?, shiftA, FnPost, xresL, xres1, tup, argEnv, ptr, Nat.reduceEqDiff, reduceIte, beq_self_eq_true, ne_eq, Nat.reduceAdd, Nat.reduceMul, Nat.reduceSub, abin_shl, abin_shr, load1V, loadV, storeV, cellsAt, getN, setN, allocV, lenL, lenS, bnd, oneC, Value.oneCell', Nat.reduceLeDiff, Nat.reduceLT, exists_eq_left', forall_const, reduceCtorEq, app_new, app_new0, List.append_assoc, Int.reduceToNat, Int.reduceLT, Int.reduceLE, Int.reduceEq, Int.reduceNe, Int.reduceBEq, IntKind.bits, bne_self_eq_false, Int.reducePow, r12, r1, r6, r13, hi', hi0, hABg, a5]
    refine xcall (setall_ok (on := on) H.A V hVL (by omega) (by rw [B.ou]; exact (by decide : 0 < 100000))) (by rfl) (by rfl) (by rfl) (by rfl) ?_
    rintro r g1 (⟨-, rfl, Wt⟩ | ⟨hno, -⟩)
    rotate_left
    · rw [B.cl] at hno
      have : zs.all (inR N) = true := List.all_eq_true.2 fun z hz => by have := hzr z hz; simp [inR]; omega
      rw [this] at hno; cases hno
    have B1 := B.setls on zs
    obtain ⟨opv1, outv1, H1, -⟩ := H.went Wt
    unfold DK.setAll at H1
    have hsl := hs
    generalize { d with cs := setLs d.cs on zs } = e at *
    generalize zs.foldl (fun l z => l.set z.toNat on) nw = nw1 at *
    clear H C V hVL hABg Wt B
    simp only [sx, x_box, x_alloc, x_bslice, x_slice, x_append, x_appz, x_b2s, xop, ev, evs, evParts, fillL, cellsL, Ai.get, Ai.put, stab, isNil?, if_false, if_true, addr?, int?, str?, agg?, bool?, shiftA, FnPost, xresL, xres1, tup, argEnv, ptr, Nat.reduceEqDiff, reduceIte, beq_self_eq_true, ne_eq, Nat.reduceAdd, Nat.reduceMul, Nat.reduceSub, abin_shl, abin_shr, load1V, loadV, storeV, cellsAt, getN, setN, allocV, lenL, lenS, bnd, oneC, Value.oneCell', Nat.reduceLeDiff, Nat.reduceLT, exists_eq_left', forall_const, reduceCtorEq, app_new, app_new0, List.append_assoc, Int.reduceToNat, Int.reduceLT, Int.reduceLE, Int.reduceEq, Int.reduceNe, Int.reduceBEq, IntKind.bits, bne_self_eq_false, Int.reducePow, m0]
    refine xloop_cut (StpE h D G L T NW TW N (some ⟨AB, 0, none⟩) nA c i) ?_ ?_
    rotate_left
    · rintro ρ g2 ⟨d2, s2, op2, opv2, outv2, nw2, tw2, ⟨r1, r5, r6, r8, r9⟩, ⟨r10, r11, r12⟩, H2, B2, hs2⟩
      simp only [sx, x_box, x_alloc, x_bslice, x_slice, x_append, x_appz, x_b2s, xop, ev, evs, evParts, fillL, cellsL, Ai.get, Ai.put, stab, isNil?, if_false, if_true, addr?, int?, str?, agg?, bool?, shiftA, FnPost, xresL, xres1, tup, argEnv, ptr, Nat.reduceEqDiff, reduceIte, beq_self_eq_true, ne_eq, Nat.reduceAdd, Nat.reduceMul, Nat.reduceSub, abin_shl, abin_shr, load1V, loadV, storeV, cellsAt, getN, setN, allocV, lenL, lenS, bnd, oneC, Value.oneCell', Nat.reduceLeDiff, Nat.reduceLT, exists_eq_left', forall_const, reduceCtorEq, app_new, app_new0, List.append_assoc, Int.reduceToNat, Int.reduceLT, Int.reduceLE, Int.reduceEq, Int.reduceNe, Int.reduceBEq, IntKind.bits, bne_self_eq_false, Int.reducePow, r12, hwi]
      exact ⟨m - 1, by omega, i + 1, s2, op2, d2, opv2, outv2, nw2, tw2, by omega, ⟨r1, r5, r6, r8, r9⟩, ⟨r10, r11, rfl⟩, H2, B2, by omega⟩
    refine xcode_loop (StpI h D G L T NW TW N (some ⟨AB, 0, none⟩) nA c i) 2 ⟨0, e, s, op, opv1, outv1, nw1, tw, by omega, ⟨r1, r5, r6, r8, r9⟩, ⟨r10, r11, r12⟩, rfl, H1, B1, by omega, by omega⟩ ?_
    clear H1 B1 r1 r5 r6 r8 r9 r10 r11 r12 r13 g1 g
    rintro m ρ g ⟨k, e, s, op, opv, outv, nw, tw, hkm, ⟨r1, r5, r6, r8, r9⟩, ⟨r10, r11, r12⟩, r15, H, B, hs, hk2⟩
    by_cases hk : k < 2
    rotate_left
    · have hk' : ¬ (k : Int) < 2 := by omega
      simp only [sx, x_box, x_alloc, x_bslice, x_slice, x_append, x_appz, x_b2s, xop, ev, evs, evParts, fillL, cellsL, Ai.get, Ai.put, stab, isNil?, if_false, if_true, addr?, int?, str?, agg?, bool?, shiftA, FnPost, xresL, xres1, tup, argEnv, ptr, Nat.reduceEqDiff, reduceIte, beq_self_eq_true, ne_eq, Nat.reduceAdd, Nat.reduceMul, Nat.reduceSub, abin_shl, abin_shr, load1V, loadV, storeV, cellsAt, getN, setN, allocV, lenL, lenS, bnd, oneC, Value.oneCell', Nat.reduceLeDiff, Nat.reduceLT, exists_eq_left', forall_const, reduceCtorEq, app_new, app_new0, List.append_assoc, Int.reduceToNat, Int.reduceLT, Int.reduceLE, Int.reduceEq, Int.reduceNe, Int.reduceBEq, IntKind.bits, bne_self_eq_false, Int.reducePow, r15, hk']
      have hid := B.idle (hk2 (by omega))
      rw [hid] at H
      exact ⟨e, s, op, opv, outv, nw, tw, ⟨r1, r5, r6, r8, r9⟩, ⟨r10, r11, r12⟩, H, B, by omega⟩
    have hk' : (k : Int) < 2 := by omega
    have hk0 : (0 : Int) ≤ k := by omega
    have wk : IntKind.i64.wrap ((k : Int) + 1) = ((k + 1 : Nat) : Int) := by rw [i64_wrap] <;> omega
    have wN1 : IntKind.i64.wrap ((N : Int) - 1) = (N : Int) - 1 := i64_wrap (by omega) (by omega)
    clear hk2
    simp only [sx, x_box, x_alloc, x_bslice, x_slice, x_append, x_appz, x_b2s, xop, ev, evs, evParts, fillL, cellsL, Ai.get, Ai.put, stab, isNil?, if_false, if_true, addr?, int?, str?, agg?, bool?, shiftA, FnPost, xresL, xres1, tup, argEnv, ptr, Nat.reduceEqDiff, reduceIte, beq_self_eq_true, ne_eq, Nat.reduceAdd, Nat.reduceMul, Nat.reduceSub, abin_shl, abin_shr, load1V, loadV, storeV, cellsAt, getN, setN, allocV, lenL, lenS, bnd, oneC, Value.oneCell', Nat.reduceLeDiff, Nat.reduceLT, exists_eq_left', forall_const, reduceCtorEq, app_new, app_new0, List.append_assoc, Int.reduceToNat, Int.reduceLT, Int.reduceLE, Int.reduceEq, Int.reduceNe, Int.reduceBEq, IntKind.bits, bne_self_eq_false, Int.reducePow, r15, hk', r5, wN1]
    refine xloop_cut (FirE g (some ⟨AB, 0, none⟩) nA c N D NW TW i s op k nw tw) ?_ ?_
    · refine xcode_loop (FirI g (some ⟨AB, 0, none⟩) nA c N D NW TW i s op k nw tw) N ⟨-1, Nat.le_refl _, ⟨r1, r5, r6, r8, r9⟩, ⟨r10, r11, r12⟩, r15, rfl, rfl, Fd.none B.nl B.tl, rfl⟩ ?_
      have hnw := H.nwo
      have htw := H.two
      have hnl := B.nl
      have htl := B.tl
      clear r1 r5 r6 r8 r9 r10 r11 r12 r15 H B
      rintro m ρ g' ⟨f, hmN, ⟨r1, r5, r6, r8, r9⟩, ⟨r10, r11, r12⟩, r15, r17, r16, F, rfl⟩
      match m, hmN, r17, F with
      | 0, hmN, r17, F =>
        have r17' : get ρ 17 = some (.int .i64 (-1)) := r17
        have hq : ¬ (0 : Int) ≤ -1 := by decide
        simp only [sx, x_box, x_alloc, x_bslice, x_slice, x_append, x_appz, x_b2s, xop, ev, evs, evParts, fillL, cellsL, Ai.get, Ai.put, stab, isNil?, if_false, if_true, addr?, int?, str?, agg?, bool?, shiftA, FnPost, xresL, xres1, tup, argEnv, ptr, Nat.reduceEqDiff, reduceIte, beq_self_eq_true, ne_eq, Nat.reduceAdd, Nat.reduceMul, Nat.reduceSub, abin_shl, abin_shr, load1V, loadV, storeV, cellsAt, getN, setN, allocV, lenL, lenS, bnd, oneC, Value.oneCell', Nat.reduceLeDiff, Nat.reduceLT, exists_eq_left', forall_const, reduceCtorEq, app_new, app_new0, List.append_assoc, Int.reduceToNat, Int.reduceLT, Int.reduceLE, Int.reduceEq, Int.reduceNe, Int.reduceBEq, IntKind.bits, bne_self_eq_false, Int.reducePow, r17', hq]
        exact ⟨f, ⟨r1, r5, r6, r8, r9⟩, ⟨r10, r11, r12⟩, r15, r16, F, rfl⟩
      | x + 1, hmN, r17, F =>
        have ex : (((x + 1 : Nat) : Int) - 1) = (x : Int) := by omega
        rw [ex] at r17
        have hx0 : (0 : Int) ≤ (x : Int) := by omega
        have hxN : (x : Int) < ((N : Nat) : Int) := by omega
        have wx : IntKind.i64.wrap ((x : Int) - 1) = (x : Int) - 1 := i64_wrap (by omega) (by omega)
        have ea := List.getElem?_eq_getElem (l := nw) (i := x) (by omega)
        have eb := List.getElem?_eq_getElem (l := tw) (i := x) (by omega)
        generalize nw[x]'(by omega) = xa at ea
        generalize tw[x]'(by omega) = xb at eb
        have ca := bB_get ea
        have cb := bB_get eb
        by_cases hab : xa = xb
        · subst hab
          have hxx : (xa != xa) = false := by simp
          simp only [sx, x_box, x_alloc, x_bslice, x_slice, x_append, x_appz, x_b2s, xop, ev, evs, evParts, fillL, cellsL, Ai.get, Ai.put, stab, isNil?, if_false, if_true, addr?, int?, str?, agg?, bool?, shiftA, FnPost, xresL, xres1, tup, argEnv, ptr, Nat.reduceEqDiff, reduceIte, beq_self_eq_true, ne_eq, Nat.reduceAdd, Nat.reduceMul, Nat.reduceSub, abin_shl, abin_shr, load1V, loadV, storeV, cellsAt, getN, setN, allocV, lenL, lenS, bnd, oneC, Value.oneCell', Nat.reduceLeDiff, Nat.reduceLT, exists_eq_left', forall_const, reduceCtorEq, app_new, app_new0, List.append_assoc, Int.reduceToNat, Int.reduceLT, Int.reduceLE, Int.reduceEq, Int.reduceNe, Int.reduceBEq, IntKind.bits, bne_self_eq_false, Int.reducePow, r17, r8, r9, hx0, hxN, hnw, htw, ca, cb, wx, hxx, Nat.mul_one, Nat.zero_add]
          exact ⟨x, by omega, f, by omega, ⟨r1, r5, r6, r8, r9⟩, ⟨r10, r11, r12⟩, r15, rfl, r16, F.step (by rw [ea, eb]), rfl⟩
        · have hxx : (xa != xb) = true := by simpa using hab
          simp only [sx, x_box, x_alloc, x_bslice, x_slice, x_append, x_appz, x_b2s, xop, ev, evs, evParts, fillL, cellsL, Ai.get, Ai.put, stab, isNil?, if_false, if_true, addr?, int?, str?, agg?, bool?, shiftA, FnPost, xresL, xres1, tup, argEnv, ptr, Nat.reduceEqDiff, reduceIte, beq_self_eq_true, ne_eq, Nat.reduceAdd, Nat.reduceMul, Nat.reduceSub, abin_shl, abin_shr, load1V, loadV, storeV, cellsAt, getN, setN, allocV, lenL, lenS, bnd, oneC, Value.oneCell', Nat.reduceLeDiff, Nat.reduceLT, exists_eq_left', forall_const, reduceCtorEq, app_new, app_new0, List.append_assoc, Int.reduceToNat, Int.reduceLT, Int.reduceLE, Int.reduceEq, Int.reduceNe, Int.reduceBEq, IntKind.bits, bne_self_eq_false, Int.reducePow, r17, r8, r9, hx0, hxN, hnw, htw, ca, cb, wx, hxx, Nat.mul_one, Nat.zero_add]
          exact ⟨x, by omega, _, by omega, ⟨r1, r5, r6, r8, r9⟩, ⟨r10, r11, r12⟩, r15, rfl, rfl, Fd.here (by omega) (by rw [ea, eb]; simpa using hab), rfl⟩
    clear r1 r5 r6 r8 r9 r10 r11 r12 r15
    rintro ρ g' ⟨f, ⟨r1, r5, r6, r8, r9⟩, ⟨r10, r11, r12⟩, r15, r16, F, rfl⟩
    have hol : e.next.out.length < 1000000 := by
      unfold DK.next; split
      · rw [B.ou]; decide
      · unfold DK.went; simp only [B.ou]; exact (by decide : 1 < 1000000)
    simp only [sx, x_box, x_alloc, x_bslice, x_slice, x_append, x_appz, x_b2s, xop, ev, evs, evParts, fillL, cellsL, Ai.get, Ai.put, stab, isNil?, if_false, if_true, addr?, int?, str?, agg?, bool?, shiftA, FnPost, xresL, xres1, tup, argEnv, ptr, Nat.reduceEqDiff, reduceIte, beq_self_eq_true, ne_eq, Nat.reduceAdd, Nat.reduceMul, Nat.reduceSub, abin_shl, abin_shr, load1V, loadV, storeV, cellsAt, getN, setN, allocV, lenL, lenS, bnd, oneC, Value.oneCell', Nat.reduceLeDiff, Nat.reduceLT, exists_eq_left', forall_const, reduceCtorEq, app_new, app_new0, List.append_assoc, Int.reduceToNat, Int.reduceLT, Int.reduceLE, Int.reduceEq, Int.reduceNe, Int.reduceBEq, IntKind.bits, bne_self_eq_false, Int.reducePow, r6]
    refine xcall (taken_ok H.A hol) (by rfl) (by rfl) (by rfl) (by rfl) ?_
    rintro r g1 ⟨M, A1, off, F1, sl⟩
    obtain ⟨opv1, outv1, H1, -⟩ := H.went ⟨opv, .slice none 0 0, A1, F1, fun B hB => .inl (ft_nil hB)⟩
    have far := H.far
    clear H A1 F1
    simp only [sx, x_box, x_alloc, x_bslice, x_slice, x_append, x_appz, x_b2s, xop, ev, evs, evParts, fillL, cellsL, Ai.get, Ai.put, stab, isNil?, if_false, if_true, addr?, int?, str?, agg?, bool?, shiftA, FnPost, xresL, xres1, tup, argEnv, ptr, Nat.reduceEqDiff, reduceIte, beq_self_eq_true, ne_eq, Nat.reduceAdd, Nat.reduceMul, Nat.reduceSub, abin_shl, abin_shr, load1V, loadV, storeV, cellsAt, getN, setN, allocV, lenL, lenS, bnd, oneC, Value.oneCell', Nat.reduceLeDiff, Nat.reduceLT, exists_eq_left', forall_const, reduceCtorEq, app_new, app_new0, List.append_assoc, Int.reduceToNat, Int.reduceLT, Int.reduceLE, Int.reduceEq, Int.reduceNe, Int.reduceBEq, IntKind.bits, bne_self_eq_false, Int.reducePow, r11, r16]
    refine xgrd_cut (WinS g1 (some ⟨AB, 0, none⟩) nA c N D NW TW i s op k f r) ?_ ?_
    · cases op
      · by_cases hf : f < 0
        · simp only [sx, x_box, x_alloc, x_bslice, x_slice, x_append, x_appz, x_b2s, xop, ev, evs, evParts, fillL, cellsL, Ai.get, Ai.put, stab, isNil?, if_false, if_true, addr?, int?, str?, agg?, bool?, shiftA, FnPost, xresL, xres1, tup, argEnv, ptr, Nat.reduceEqDiff, reduceIte, beq_self_eq_true, ne_eq, Nat.reduceAdd, Nat.reduceMul, Nat.reduceSub, abin_shl, abin_shr, load1V, loadV, storeV, cellsAt, getN, setN, allocV, lenL, lenS, bnd, oneC, Value.oneCell', Nat.reduceLeDiff, Nat.reduceLT, exists_eq_left', forall_const, reduceCtorEq, app_new, app_new0, List.append_assoc, Int.reduceToNat, Int.reduceLT, Int.reduceLE, Int.reduceEq, Int.reduceNe, Int.reduceBEq, IntKind.bits, bne_self_eq_false, Int.reducePow, r16, hf, Bool.false_or]
          exact ⟨⟨r1, r5, r6, r8, r9⟩, ⟨r10, r11, r12⟩, r15, r16, rfl, by rw [show (false || decide (f < 0)) = true from by simp [hf]]; rfl, rfl⟩
        · simp only [sx, x_box, x_alloc, x_bslice, x_slice, x_append, x_appz, x_b2s, xop, ev, evs, evParts, fillL, cellsL, Ai.get, Ai.put, stab, isNil?, if_false, if_true, addr?, int?, str?, agg?, bool?, shiftA, FnPost, xresL, xres1, tup, argEnv, ptr, Nat.reduceEqDiff, reduceIte, beq_self_eq_true, ne_eq, Nat.reduceAdd, Nat.reduceMul, Nat.reduceSub, abin_shl, abin_shr, load1V, loadV, storeV, cellsAt, getN, setN, allocV, lenL, lenS, bnd, oneC, Value.oneCell', Nat.reduceLeDiff, Nat.reduceLT, exists_eq_left', forall_const, reduceCtorEq, app_new, app_new0, List.append_assoc, Int.reduceToNat, Int.reduceLT, Int.reduceLE, Int.reduceEq, Int.reduceNe, Int.reduceBEq, IntKind.bits, bne_self_eq_false, Int.reducePow, r16, hf, Bool.false_or]
          exact ⟨⟨r1, r5, r6, r8, r9⟩, ⟨r10, r11, r12⟩, r15, r16, rfl, by rw [show (false || decide (f < 0)) = false from by simp [hf]]; rfl, rfl⟩
      · simp only [sx, x_box, x_alloc, x_bslice, x_slice, x_append, x_appz, x_b2s, xop, ev, evs, evParts, fillL, cellsL, Ai.get, Ai.put, stab, isNil?, if_false, if_true, addr?, int?, str?, agg?, bool?, shiftA, FnPost, xresL, xres1, tup, argEnv, ptr, Nat.reduceEqDiff, reduceIte, beq_self_eq_true, ne_eq, Nat.reduceAdd, Nat.reduceMul, Nat.reduceSub, abin_shl, abin_shr, load1V, loadV, storeV, cellsAt, getN, setN, allocV, lenL, lenS, bnd, oneC, Value.oneCell', Nat.reduceLeDiff, Nat.reduceLT, exists_eq_left', forall_const, reduceCtorEq, app_new, app_new0, List.append_assoc, Int.reduceToNat, Int.reduceLT, Int.reduceLE, Int.reduceEq, Int.reduceNe, Int.reduceBEq, IntKind.bits, bne_self_eq_false, Int.reducePow, r16, Bool.true_or]
        exact ⟨⟨r1, r5, r6, r8, r9⟩, ⟨r10, r11, r12⟩, r15, r16, rfl, rfl, rfl⟩
    clear r1 r5 r6 r8 r9 r10 r11 r12 r15 r16
    rintro ρ g1' ⟨⟨r1, r5, r6, r8, r9⟩, ⟨r10, r11, r12⟩, r15, r16, r18, r128, rfl⟩
    simp only [sx, x_box, x_alloc, x_bslice, x_slice, x_append, x_appz, x_b2s, xop, ev, evs, evParts, fillL, cellsL, Ai.get, Ai.put, stab, isNil?, if_false, if_true, addr?, int?, str?, agg?, bool?, shiftA, FnPost, xresL, xres1, tup, argEnv, ptr, Nat.reduceEqDiff, reduceIte, beq_self_eq_true, ne_eq, Nat.reduceAdd, Nat.reduceMul, Nat.reduceSub, abin_shl, abin_shr, load1V, loadV, storeV, cellsAt, getN, setN, allocV, lenL, lenS, bnd, oneC, Value.oneCell', Nat.reduceLeDiff, Nat.reduceLT, exists_eq_left', forall_const, reduceCtorEq, app_new, app_new0, List.append_assoc, Int.reduceToNat, Int.reduceLT, Int.reduceLE, Int.reduceEq, Int.reduceNe, Int.reduceBEq, IntKind.bits, bne_self_eq_false, Int.reducePow, r128]
    refine xcond_cut (AftM h D G L T NW TW N (some ⟨AB, 0, none⟩) nA c i k) ?_ ?_
    · by_cases hid : op = true ∨ f < 0
      · have hb : (op || decide (f < 0)) = true := by simpa using hid
        have hid2 : op = true ∨ nw = tw := by
          rcases hid with h | h
          · exact .inl h
          · right
            rcases F with ⟨-, h2⟩ | ⟨y, rfl, -⟩
            · exact List.ext_getElem? fun k => h2 k (Nat.zero_le _)
            · omega
        have en := B.idle hid2
        rw [en] at H1 M
        rw [B.ou] at M
        obtain ⟨rq, rfl⟩ := M.shp
        have l0 : ¬ ((0 : Nat) : Int) ≠ 0 := by decide
        simp only [sx, x_box, x_alloc, x_bslice, x_slice, x_append, x_appz, x_b2s, xop, ev, evs, evParts, fillL, cellsL, Ai.get, Ai.put, stab, isNil?, if_false, if_true, addr?, int?, str?, agg?, bool?, shiftA, FnPost, xresL, xres1, tup, argEnv, ptr, Nat.reduceEqDiff, reduceIte, beq_self_eq_true, ne_eq, Nat.reduceAdd, Nat.reduceMul, Nat.reduceSub, abin_shl, abin_shr, load1V, loadV, storeV, cellsAt, getN, setN, allocV, lenL, lenS, bnd, oneC, Value.oneCell', Nat.reduceLeDiff, Nat.reduceLT, exists_eq_left', forall_const, reduceCtorEq, app_new, app_new0, List.append_assoc, Int.reduceToNat, Int.reduceLT, Int.reduceLE, Int.reduceEq, Int.reduceNe, Int.reduceBEq, IntKind.bits, bne_self_eq_false, Int.reducePow, hb, r18, r6, List.length_nil, l0]
        refine xcall (rest_ok H1.A) (by rfl) (by rfl) (by rfl) (by rfl) ?_
        rintro r g2 ⟨rfl, rfl⟩
        have hbe : (e.op.isNone == op) = false := by
          have := B.o1
          cases ho : e.op <;> rw [ho] at this <;> subst this <;> rfl
        simp only [sx, x_box, x_alloc, x_bslice, x_slice, x_append, x_appz, x_b2s, xop, ev, evs, evParts, fillL, cellsL, Ai.get, Ai.put, stab, isNil?, if_false, if_true, addr?, int?, str?, agg?, bool?, shiftA, FnPost, xresL, xres1, tup, argEnv, ptr, Nat.reduceEqDiff, reduceIte, beq_self_eq_true, ne_eq, Nat.reduceAdd, Nat.reduceMul, Nat.reduceSub, abin_shl, abin_shr, load1V, loadV, storeV, cellsAt, getN, setN, allocV, lenL, lenS, bnd, oneC, Value.oneCell', Nat.reduceLeDiff, Nat.reduceLT, exists_eq_left', forall_const, reduceCtorEq, app_new, app_new0, List.append_assoc, Int.reduceToNat, Int.reduceLT, Int.reduceLE, Int.reduceEq, Int.reduceNe, Int.reduceBEq, IntKind.bits, bne_self_eq_false, Int.reducePow, r11, hbe]
        exact ⟨_, s, op, opv1, outv1, nw, tw, ⟨r1, r5, r6, r8, r9⟩, ⟨r10, r11, r12⟩, r15, H1, Bs.mk B.cl B.lo B.td B.tl B.la rfl B.o1 B.o2 B.o3, by omega, hid2⟩
      · have hb : (op || decide (f < 0)) = false := by
          cases op
          · simp only [Bool.false_or, decide_eq_false_iff_not]; exact fun h => hid (.inr h)
          · exact absurd (.inl rfl) hid
        have ho : op = false := by cases op; rfl; exact absurd (.inl rfl) hid
        subst ho
        rcases F with ⟨rfl, h2⟩ | ⟨y, rfl, -, hyN, hyd, hyb⟩
        · exact absurd (.inr (by decide)) hid
        have hne : nw ≠ tw := fun e => hyd (by rw [e])
        obtain ⟨f', ms, eo, S, B'⟩ := B.sent hne (by omega) (by omega)
        obtain rfl := S.first hyd fun k hk => hyb k (Nat.zero_le _) hk
        rw [eo] at M
        obtain ⟨a, o, mv, ov, rfl, b1, b2, b3, b4, b5, b6⟩ := M.one
        have x0 := b6 0 (by decide)
        have x1 := b6 1 (by decide)
        have x2 := b6 2 (by decide)
        simp only [Ms.cells, List.getElem?_cons_succ, List.getElem?_cons_zero] at x0 x1 x2
        rw [S.k] at x0
        rw [S.se] at x1
        have hfst : ms.first = (f' : Int) := S.nb.fst
        rw [hfst] at x2
        have ws : IntKind.u32.wrap ((s : Int) + 1) = ((s + 1 : Nat) : Int) := by rw [u32_wrap_small (by omega) (by omega)]; omega
        have m1 : ¬ ((1 : Nat) : Int) ≠ 1 := by decide
        have m2 : ¬ (1 : Int) ≠ 1 := by decide
        have m3 : ¬ ((s + 1 : Nat) : Int) ≠ ((s + 1 : Nat) : Int) := fun h => h rfl
        have m4 : ¬ ((f' : Nat) : Int) ≠ ((f' : Nat) : Int) := fun h => h rfl
        have i00 : (0 : Int) ≤ 0 := by decide
        have i01 : (0 : Int) < ((1 : Nat) : Int) := by decide
        have t0 : (0 : Int).toNat = 0 := rfl
        rw [Nat.add_zero] at x0
        simp only [sx, x_box, x_alloc, x_bslice, x_slice, x_append, x_appz, x_b2s, xop, ev, evs, evParts, fillL, cellsL, Ai.get, Ai.put, stab, isNil?, if_false, if_true, addr?, int?, str?, agg?, bool?, shiftA, FnPost, xresL, xres1, tup, argEnv, ptr, Nat.reduceEqDiff, reduceIte, beq_self_eq_true, ne_eq, Nat.reduceAdd, Nat.reduceMul, Nat.reduceSub, abin_shl, abin_shr, load1V, loadV, storeV, cellsAt, setN, allocV, lenL, lenS, bnd, oneC, Value.oneCell', Nat.reduceLeDiff, Nat.reduceLT, exists_eq_left', forall_const, reduceCtorEq, app_new, app_new0, List.append_assoc, Int.reduceToNat, Int.reduceLT, Int.reduceLE, Int.reduceEq, Int.reduceNe, Int.reduceBEq, IntKind.bits, bne_self_eq_false, Int.reducePow, hb, r18, r6, r10, r16, ws, m1, m2, m3, m4, i00, i01, t0, b1, b2, b3, x0, x1, x2, Nat.zero_mul]
        refine xcall (lvalid_ok (m := ms) ⟨mv, ov, rfl, b4, b5⟩ (by have := S.nb.len; simp only at this; omega)) (by rfl) (by rfl) (by rfl) (by rfl) ?_
        rintro r g2 ⟨K2, vb, rfl, hvb⟩
        obtain rfl : vb = true := hvb.2 S.ok
        have H2 := H1.keep K2
        have b2' := K2.get b2
        have b4' := b4.frz K2.frz
        have b5' := b5.frz K2.frz
        have aTW : a.block ≠ TW := (far a.block ⟨4, .inr (.inr (.inr (.inr ⟨rfl, sl a 1 1 rfl⟩)))⟩).2.2
        clear K2 b4 b5 b2 hvb
        have x3 := b6 3 (by decide)
        have x4 := b6 4 (by decide)
        simp only [Ms.cells, List.getElem?_cons_succ, List.getElem?_cons_zero] at x3 x4
        simp only [sx, x_box, x_alloc, x_bslice, x_slice, x_append, x_appz, x_b2s, xop, ev, evs, evParts, fillL, cellsL, Ai.get, Ai.put, stab, isNil?, if_false, if_true, addr?, int?, str?, agg?, bool?, shiftA, FnPost, xresL, xres1, tup, argEnv, ptr, Nat.reduceEqDiff, reduceIte, beq_self_eq_true, ne_eq, Nat.reduceAdd, Nat.reduceMul, Nat.reduceSub, abin_shl, abin_shr, load1V, loadV, storeV, cellsAt, getN, setN, allocV, lenL, lenS, bnd, oneC, Value.oneCell', Nat.reduceLeDiff, Nat.reduceLT, exists_eq_left', forall_const, reduceCtorEq, app_new, app_new0, List.append_assoc, Int.reduceToNat, Int.reduceLT, Int.reduceLE, Int.reduceEq, Int.reduceNe, Int.reduceBEq, IntKind.bits, bne_self_eq_false, Int.reducePow, r16]
        refine xloop_cut (CmpE h D G L T NW TW N (some ⟨AB, 0, none⟩) nA c i k (s + 1) { e.next with out := [] } opv1 outv1 nw) ?_ ?_
        · refine xcode_loop (CmpI h D G L T NW TW N (some ⟨AB, 0, none⟩) nA c i k (s + 1) f' { e.next with out := [] } opv1 outv1 nw tw a o mv ov ms) (min N (f' + 32) - f') ⟨f', tw, Nat.le_refl _, by omega, ⟨r1, r5, r6, r8, r9⟩, ⟨rfl, rfl, r12⟩, r15, r16, r18, rfl, H2, B.tl, fun x => ?_, b2', b4', b5'⟩ ?_
          · by_cases hx : x < f'
            · rw [if_pos hx]; exact (S.nb.bef x hx).symm
            · rw [if_neg hx]
          clear H1 H2 b2' b4' b5' r1 r5 r6 r8 r9 r10 r11 r12 r15 r16 r18 r128
          rintro m ρ g3 ⟨j, twj, hfj, hjm, ⟨r1, r5, r6, r8, r9⟩, ⟨r10, r11, r12⟩, r15, r16, r18, r19, H3, htl, htj, c2, c4, c5⟩
          have hABg := H3.kp.get hAB
          have wf : IntKind.i64.wrap ((f' : Int) + 32) = ((f' + 32 : Nat) : Int) := by rw [i64_wrap] <;> omega
          by_cases h1 : j < N
          rotate_left
          · have h1' : ¬ (j : Int) < ((N : Nat) : Int) := by omega
            simp only [sx, x_box, x_alloc, x_bslice, x_slice, x_append, x_appz, x_b2s, xop, ev, evs, evParts, fillL, cellsL, Ai.get, Ai.put, stab, isNil?, if_false, if_true, addr?, int?, str?, agg?, bool?, shiftA, FnPost, xresL, xres1, tup, argEnv, ptr, Nat.reduceEqDiff, reduceIte, beq_self_eq_true, ne_eq, Nat.reduceAdd, Nat.reduceMul, Nat.reduceSub, abin_shl, abin_shr, load1V, loadV, storeV, cellsAt, getN, setN, allocV, lenL, lenS, bnd, oneC, Value.oneCell', Nat.reduceLeDiff, Nat.reduceLT, exists_eq_left', forall_const, reduceCtorEq, app_new, app_new0, List.append_assoc, Int.reduceToNat, Int.reduceLT, Int.reduceLE, Int.reduceEq, Int.reduceNe, Int.reduceBEq, IntKind.bits, bne_self_eq_false, Int.reducePow, r19, r5, h1']
            have hje : j = min N (f' + 32) := by omega
            refine ⟨⟨r1, r5, r6, r8, r9⟩, ⟨r10, r11, r12⟩, r15, H3.two' (List.ext_getElem? fun x => ?_)⟩
            rw [htj x, hje]; exact (S.nb.told x).symm
          have h1' : (j : Int) < ((N : Nat) : Int) := by omega
          by_cases h2 : j < f' + 32
          rotate_left
          · have h2' : ¬ (j : Int) < ((f' + 32 : Nat) : Int) := by omega
            simp only [sx, x_box, x_alloc, x_bslice, x_slice, x_append, x_appz, x_b2s, xop, ev, evs, evParts, fillL, cellsL, Ai.get, Ai.put, stab, isNil?, if_false, if_true, addr?, int?, str?, agg?, bool?, shiftA, FnPost, xresL, xres1, tup, argEnv, ptr, Nat.reduceEqDiff, reduceIte, beq_self_eq_true, ne_eq, Nat.reduceAdd, Nat.reduceMul, Nat.reduceSub, abin_shl, abin_shr, load1V, loadV, storeV, cellsAt, getN, setN, allocV, lenL, lenS, bnd, oneC, Value.oneCell', Nat.reduceLeDiff, Nat.reduceLT, exists_eq_left', forall_const, reduceCtorEq, app_new, app_new0, List.append_assoc, Int.reduceToNat, Int.reduceLT, Int.reduceLE, Int.reduceEq, Int.reduceNe, Int.reduceBEq, IntKind.bits, bne_self_eq_false, Int.reducePow, r19, r5, r16, h1', wf, h2']
            have hje : j = min N (f' + 32) := by omega
            refine ⟨⟨r1, r5, r6, r8, r9⟩, ⟨r10, r11, r12⟩, r15, H3.two' (List.ext_getElem? fun x => ?_)⟩
            rw [htj x, hje]; exact (S.nb.told x).symm
          have h2' : (j : Int) < ((f' + 32 : Nat) : Int) := by omega
          have hj0 : (0 : Int) ≤ (j : Int) := by omega
          have wj : IntKind.i64.wrap ((j : Int) - (f' : Int)) = ((j - f' : Nat) : Int) := by rw [i64_wrap] <;> omega
          have wj1 : IntKind.i64.wrap ((j : Int) + 1) = ((j + 1 : Nat) : Int) := by rw [i64_wrap] <;> omega
          have hjf0 : (0 : Int) ≤ ((j - f' : Nat) : Int) := by omega
          obtain ⟨mq, mc, rfl⟩ := c4.shape
          obtain ⟨oq, oc, rfl⟩ := c5.shape
          have ea := List.getElem?_eq_getElem (l := nw) (i := j) (by rw [B.nl]; omega)
          have eb := List.getElem?_eq_getElem (l := twj) (i := j) (by omega)
          generalize nw[j]'(by rw [B.nl]; omega) = xa at ea
          generalize twj[j]'(by omega) = xb at eb
          have ec : tw[j]? = some xb := by rw [← eb, htj j, if_neg (by omega)]
          have ca := bB_get ea
          have cb := bB_get eb
          have hnw := H3.nwo
          have htw := H3.two
          have hle : j + 1 ≤ (bB twj).length := by rw [bB_len]; omega
          have hst := told_set htj ea (by rw [B.tl]; exact h1)
          have c2' : ∀ w, (g3.set TW w)[a.block]? = some (some o) := fun w => by rw [set_ne aTW.symm]; exact c2
          have c4' : ∀ w, BitsV (g3.set TW w) (.slice mq ms.mask.length mc) ms.mask := fun w => c4.set htw w
          have c5' : ∀ w, BitsV (g3.set TW w) (.slice oq ms.on.length oc) ms.on := fun w => c5.set htw w
          have j1 : f' ≤ j + 1 := by omega
          have j2 : j + 1 + (m - 1) = min N (f' + 32) := by omega
          have j3 : m - 1 < m := by omega
          have j4 : (twj.set j xa).length = N := by simpa using htl
          have hoe : ms.on.length = ms.mask.length := S.nb.el
          by_cases hlt : j - f' < ms.mask.length
          · have hlt' : ((j - f' : Nat) : Int) < (ms.mask.length : Nat) := by omega
            have hlt2 : ((j - f' : Nat) : Int) < (ms.on.length : Nat) := by omega
            have em := S.nb.mkd (j - f') hlt
            have eon := S.nb.on (j - f') hlt
            rw [show f' + (j - f') = j by omega, ea, ec] at em eon
            obtain ⟨-, am, cm, rfl, y1, y2, y3⟩ := c4.elem em
            obtain ⟨-, an, cn, rfl, z1', z2', z3'⟩ := c5.elem eon
            by_cases hab : xa = xb
            · subst hab
              have hxx : (xa != xa) = false := by simp
              have hd : decide (some xa ≠ some xa) = false := by simp
              have hff : ((false : Bool) != false) = false := rfl
              rw [hd] at y3
              simp only [sx, x_box, x_alloc, x_bslice, x_slice, x_append, x_appz, x_b2s, xop, ev, evs, evParts, fillL, cellsL, Ai.get, Ai.put, stab, isNil?, if_false, if_true, addr?, int?, str?, agg?, bool?, shiftA, FnPost, xresL, xres1, tup, argEnv, ptr, Nat.reduceEqDiff, reduceIte, beq_self_eq_true, ne_eq, Nat.reduceAdd, Nat.reduceMul, Nat.reduceSub, abin_shl, abin_shr, load1V, loadV, storeV, cellsAt, getN, setN, allocV, lenL, lenS, bnd, oneC, Value.oneCell', Nat.reduceLeDiff, Nat.reduceLT, exists_eq_left', forall_const, reduceCtorEq, app_new, app_new0, List.append_assoc, Int.reduceToNat, Int.reduceLT, Int.reduceLE, Int.reduceEq, Int.reduceNe, Int.reduceBEq, IntKind.bits, bne_self_eq_false, Int.reducePow, r19, r5, r16, r18, r8, r9, h1', wf, h2', hj0, wj, hlt', hjf0, b1, c2, x3, y1, y2, y3, hnw, htw, ca, cb, hxx, hff, hle, i00, i01, t0, wj1, Nat.mul_one, Nat.zero_mul, Nat.zero_add, bB_set]
              exact ⟨m - 1, j3, j + 1, twj.set j xa, j1, j2, ⟨r1, r5, r6, r8, r9⟩, ⟨r10, r11, r12⟩, r15, r16, r18, rfl, H3.setT, j4, hst, c2' _, c4' _, c5' _⟩
            · have hxx : (xa != xb) = true := by simpa using hab
              have hd : decide (some xa ≠ some xb) = true := by simpa using hab
              have htt : ((true : Bool) != true) = false := rfl
              have hxa : (xa != xa) = false := by simp
              rw [hd] at y3
              have hd2 : (decide (some xa ≠ some xb) && (some xa).getD false) = xa := by rw [hd]; simp
              rw [hd2] at z3'
              simp only [sx, x_box, x_alloc, x_bslice, x_slice, x_append, x_appz, x_b2s, xop, ev, evs, evParts, fillL, cellsL, Ai.get, Ai.put, stab, isNil?, if_false, if_true, addr?, int?, str?, agg?, bool?, shiftA, FnPost, xresL, xres1, tup, argEnv, ptr, Nat.reduceEqDiff, reduceIte, beq_self_eq_true, ne_eq, Nat.reduceAdd, Nat.reduceMul, Nat.reduceSub, abin_shl, abin_shr, load1V, loadV, storeV, cellsAt, getN, setN, allocV, lenL, lenS, bnd, oneC, Value.oneCell', Nat.reduceLeDiff, Nat.reduceLT, exists_eq_left', forall_const, reduceCtorEq, app_new, app_new0, List.append_assoc, Int.reduceToNat, Int.reduceLT, Int.reduceLE, Int.reduceEq, Int.reduceNe, Int.reduceBEq, IntKind.bits, bne_self_eq_false, Int.reducePow, r19, r5, r16, r18, r8, r9, h1', wf, h2', hj0, wj, hlt', hlt2, hjf0, b1, c2, x3, x4, y1, y2, y3, z1', z2', z3', hnw, htw, ca, cb, hxx, htt, hxa, hle, i00, i01, t0, wj1, Nat.mul_one, Nat.zero_mul, Nat.zero_add, bB_set]
              exact ⟨m - 1, j3, j + 1, twj.set j xa, j1, j2, ⟨r1, r5, r6, r8, r9⟩, ⟨r10, r11, r12⟩, r15, r16, r18, rfl, H3.setT, j4, hst, c2' _, c4' _, c5' _⟩
          · have hlt' : ¬ ((j - f' : Nat) : Int) < (ms.mask.length : Nat) := by omega
            have hg := S.nb.gap j (by show f' + ms.mask.length ≤ j; omega) (by omega)
            rw [ea, ec] at hg
            obtain rfl := Option.some.inj hg
            have hxx : (xa != xa) = false := by simp
            have hff : ((false : Bool) != false) = false := rfl
            simp only [sx, x_box, x_alloc, x_bslice, x_slice, x_append, x_appz, x_b2s, xop, ev, evs, evParts, fillL, cellsL, Ai.get, Ai.put, stab, isNil?, if_false, if_true, addr?, int?, str?, agg?, bool?, shiftA, FnPost, xresL, xres1, tup, argEnv, ptr, Nat.reduceEqDiff, reduceIte, beq_self_eq_true, ne_eq, Nat.reduceAdd, Nat.reduceMul, Nat.reduceSub, abin_shl, abin_shr, load1V, loadV, storeV, cellsAt, getN, setN, allocV, lenL, lenS, bnd, oneC, Value.oneCell', Nat.reduceLeDiff, Nat.reduceLT, exists_eq_left', forall_const, reduceCtorEq, app_new, app_new0, List.append_assoc, Int.reduceToNat, Int.reduceLT, Int.reduceLE, Int.reduceEq, Int.reduceNe, Int.reduceBEq, IntKind.bits, bne_self_eq_false, Int.reducePow, r19, r5, r16, r18, r8, r9, h1', wf, h2', hj0, wj, hlt', hjf0, b1, c2, x3, hnw, htw, ca, cb, hxx, hff, hle, i00, i01, t0, wj1, Nat.mul_one, Nat.zero_mul, Nat.zero_add, bB_set]
            exact ⟨m - 1, j3, j + 1, twj.set j xa, j1, j2, ⟨r1, r5, r6, r8, r9⟩, ⟨r10, r11, r12⟩, r15, r16, r18, rfl, H3.setT, j4, hst, c2' _, c4' _, c5' _⟩
        · rintro ρ g3 ⟨⟨r1, r5, r6, r8, r9⟩, ⟨r10, r11, r12⟩, r15, H3⟩
          exact ⟨rfl, _, s + 1, true, opv1, outv1, nw, _, ⟨r1, r5, r6, r8, r9⟩, ⟨r10, r11, r12⟩, r15, H3, B', by omega, .inl rfl⟩
    · clear r1 r5 r6 r8 r9 r10 r11 r12 r15 r16 r18 r128 H1 B M off sl F hol
      rintro ρ g2 ⟨d1, s1, op1, opv1, outv1, nw1, tw1, ⟨r1, r5, r6, r8, r9⟩, ⟨r10, r11, r12⟩, r15, H1, B, hs1, hid⟩
      have hABg := H1.kp.get hAB
      have en := B.idle hid
      cases sd
      · simp only [sx, x_box, x_alloc, x_bslice, x_slice, x_append, x_appz, x_b2s, xop, ev, evs, evParts, fillL, cellsL, Ai.get, Ai.put, stab, isNil?, if_false, if_true, addr?, int?, str?, agg?, bool?, shiftA, FnPost, xresL, xres1, tup, argEnv, ptr, Nat.reduceEqDiff, reduceIte, beq_self_eq_true, ne_eq, Nat.reduceAdd, Nat.reduceMul, Nat.reduceSub, abin_shl, abin_shr, load1V, loadV, storeV, cellsAt, getN, setN, allocV, lenL, lenS, bnd, oneC, Value.oneCell', Nat.reduceLeDiff, Nat.reduceLT, exists_eq_left', forall_const, reduceCtorEq, app_new, app_new0, List.append_assoc, Int.reduceToNat, Int.reduceLT, Int.reduceLE, Int.reduceEq, Int.reduceNe, Int.reduceBEq, IntKind.bits, bne_self_eq_false, Int.reducePow, r1, r12, r15, hi', hi0, hABg, a3, wk]
        exact ⟨m - 1, by omega, k + 1, d1, s1, op1, opv1, outv1, nw1, tw1, by omega, ⟨r1, r5, r6, r8, r9⟩, ⟨r10, r11, r12⟩, rfl, by rw [en]; exact H1, B, by omega, fun _ => hid⟩
      · cases op1
        · simp only [sx, x_box, x_alloc, x_bslice, x_slice, x_append, x_appz, x_b2s, xop, ev, evs, evParts, fillL, cellsL, Ai.get, Ai.put, stab, isNil?, if_false, if_true, addr?, int?, str?, agg?, bool?, shiftA, FnPost, xresL, xres1, tup, argEnv, ptr, Nat.reduceEqDiff, reduceIte, beq_self_eq_true, ne_eq, Nat.reduceAdd, Nat.reduceMul, Nat.reduceSub, abin_shl, abin_shr, load1V, loadV, storeV, cellsAt, getN, setN, allocV, lenL, lenS, bnd, oneC, Value.oneCell', Nat.reduceLeDiff, Nat.reduceLT, exists_eq_left', forall_const, reduceCtorEq, app_new, app_new0, List.append_assoc, Int.reduceToNat, Int.reduceLT, Int.reduceLE, Int.reduceEq, Int.reduceNe, Int.reduceBEq, IntKind.bits, bne_self_eq_false, Int.reducePow, r1, r11, r12, r15, hi', hi0, hABg, a3, wk]
          exact ⟨m - 1, by omega, k + 1, d1, s1, false, opv1, outv1, nw1, tw1, by omega, ⟨r1, r5, r6, r8, r9⟩, ⟨r10, r11, r12⟩, rfl, by rw [en]; exact H1, B, by omega, fun _ => hid⟩
        · by_cases hk0' : k = 0
          · subst hk0'
            have hk00 : ((0 : Nat) : Int) = 0 := rfl
            have ws0 : IntKind.u32.wrap ((s1 : Int) + 1) = ((s1 + 1 : Nat) : Int) := by rw [u32_wrap_small (by omega) (by omega)]; omega
            have m00 : ¬ (0 : Int) ≠ 0 := by decide
            simp only [sx, x_box, x_alloc, x_bslice, x_slice, x_append, x_appz, x_b2s, xop, ev, evs, evParts, fillL, cellsL, Ai.get, Ai.put, stab, isNil?, if_false, if_true, addr?, int?, str?, agg?, bool?, shiftA, FnPost, xresL, xres1, tup, argEnv, ptr, Nat.reduceEqDiff, reduceIte, beq_self_eq_true, ne_eq, Nat.reduceAdd, Nat.reduceMul, Nat.reduceSub, abin_shl, abin_shr, load1V, loadV, storeV, cellsAt, getN, setN, allocV, lenL, lenS, bnd, oneC, Value.oneCell', Nat.reduceLeDiff, Nat.reduceLT, exists_eq_left', forall_const, reduceCtorEq, app_new, app_new0, List.append_assoc, Int.reduceToNat, Int.reduceLT, Int.reduceLE, Int.reduceEq, Int.reduceNe, Int.reduceBEq, IntKind.bits, bne_self_eq_false, Int.reducePow, r1, r6, r10, r11, r12, r15, hi', hi0, hABg, a3, hk00, ws0]
            have hfit : ∀ z : Int, (ackM z).first + ((ackM z).mask.length : Nat) ≤ (d1.cs.length : Nat) := fun z => by show (0 : Int) + ((0 : Nat) : Int) ≤ _; omega
            refine xcall (hear_ok H1.A (ack_mv _ ((s1 + 1 : Nat) : Int)) (show 0 ≤ 9223372036854775807 by decide) (by rw [B.ou]; exact (by decide : 0 < 100000))) (by rfl) (by rfl) (by rfl) (by rfl) ?_
            rintro r g3 (⟨e, -⟩ | ⟨-, -, -, rfl, Wt⟩ | ⟨-, -, e, -⟩)
            · exact absurd ⟨ack_ok (by omega), hfit _⟩ e
            rotate_left
            · cases e
            have Wt' : WentD g2 g3 D G L T d1 outv1 := by have := B.ack0; rw [← this]; exact Wt
            obtain ⟨opv3, outv3, H3, -⟩ := H1.went Wt'
            clear Wt Wt' H1
            have hop : d1.op.isNone = false := by have := B.o1; cases ho : d1.op <;> rw [ho] at this <;> first | rfl | cases this
            simp only [sx, x_box, x_alloc, x_bslice, x_slice, x_append, x_appz, x_b2s, xop, ev, evs, evParts, fillL, cellsL, Ai.get, Ai.put, stab, isNil?, if_false, if_true, addr?, int?, str?, agg?, bool?, shiftA, FnPost, xresL, xres1, tup, argEnv, ptr, Nat.reduceEqDiff, reduceIte, beq_self_eq_true, ne_eq, Nat.reduceAdd, Nat.reduceMul, Nat.reduceSub, abin_shl, abin_shr, load1V, loadV, storeV, cellsAt, getN, setN, allocV, lenL, lenS, bnd, oneC, Value.oneCell', Nat.reduceLeDiff, Nat.reduceLT, exists_eq_left', forall_const, reduceCtorEq, app_new, app_new0, List.append_assoc, Int.reduceToNat, Int.reduceLT, Int.reduceLE, Int.reduceEq, Int.reduceNe, Int.reduceBEq, IntKind.bits, bne_self_eq_false, Int.reducePow, r6, r10, m00]
            refine xcall (rest_ok H3.A) (by rfl) (by rfl) (by rfl) (by rfl) ?_
            rintro r g4 ⟨rfl, rfl⟩
            rw [hop]
            simp only [sx, x_box, x_alloc, x_bslice, x_slice, x_append, x_appz, x_b2s, xop, ev, evs, evParts, fillL, cellsL, Ai.get, Ai.put, stab, isNil?, if_false, if_true, addr?, int?, str?, agg?, bool?, shiftA, FnPost, xresL, xres1, tup, argEnv, ptr, Nat.reduceEqDiff, reduceIte, beq_self_eq_true, ne_eq, Nat.reduceAdd, Nat.reduceMul, Nat.reduceSub, abin_shl, abin_shr, load1V, loadV, storeV, cellsAt, getN, setN, allocV, lenL, lenS, bnd, oneC, Value.oneCell', Nat.reduceLeDiff, Nat.reduceLT, exists_eq_left', forall_const, reduceCtorEq, app_new, app_new0, List.append_assoc, Int.reduceToNat, Int.reduceLT, Int.reduceLE, Int.reduceEq, Int.reduceNe, Int.reduceBEq, IntKind.bits, bne_self_eq_false, Int.reducePow, r6, r10]
            have hs0 := B.o3 rfl
            refine xcall (hear_ok H3.A (ack_mv _ (s1 : Int)) (show 0 ≤ 9223372036854775807 by decide) (by rw [B.ou]; exact (by decide : 0 < 100000))) (by rfl) (by rfl) (by rfl) (by rfl) ?_
            rintro r g5 (⟨e, -⟩ | ⟨-, -, -, rfl, Wt⟩ | ⟨-, -, e, -⟩)
            · exact absurd ⟨ack_ok (by omega), hfit _⟩ e
            rotate_left
            · cases e
            have Wt' : WentD g4 g5 D G L T (DK.next { d1 with op := none }) outv3 := by have := B.ack1; rw [← this]; exact Wt
            obtain ⟨opv5, outv5, H5, -⟩ := H3.went Wt'
            clear Wt Wt' H3
            simp only [sx, x_box, x_alloc, x_bslice, x_slice, x_append, x_appz, x_b2s, xop, ev, evs, evParts, fillL, cellsL, Ai.get, Ai.put, stab, isNil?, if_false, if_true, addr?, int?, str?, agg?, bool?, shiftA, FnPost, xresL, xres1, tup, argEnv, ptr, Nat.reduceEqDiff, reduceIte, beq_self_eq_true, ne_eq, Nat.reduceAdd, Nat.reduceMul, Nat.reduceSub, abin_shl, abin_shr, load1V, loadV, storeV, cellsAt, getN, setN, allocV, lenL, lenS, bnd, oneC, Value.oneCell', Nat.reduceLeDiff, Nat.reduceLT, exists_eq_left', forall_const, reduceCtorEq, app_new, app_new0, List.append_assoc, Int.reduceToNat, Int.reduceLT, Int.reduceLE, Int.reduceEq, Int.reduceNe, Int.reduceBEq, IntKind.bits, bne_self_eq_false, Int.reducePow, r15, m00, wk]
            exact ⟨m - 1, by omega, 1, { d1 with op := none }, s1, false, opv5, outv5, nw1, tw1, by omega, ⟨r1, r5, r6, r8, r9⟩, ⟨r10, rfl, r12⟩, rfl, H5, B.noop, by omega, by omega⟩
          · have hkn : ¬ (k : Int) = 0 := by omega
            simp only [sx, x_box, x_alloc, x_bslice, x_slice, x_append, x_appz, x_b2s, xop, ev, evs, evParts, fillL, cellsL, Ai.get, Ai.put, stab, isNil?, if_false, if_true, addr?, int?, str?, agg?, bool?, shiftA, FnPost, xresL, xres1, tup, argEnv, ptr, Nat.reduceEqDiff, reduceIte, beq_self_eq_true, ne_eq, Nat.reduceAdd, Nat.reduceMul, Nat.reduceSub, abin_shl, abin_shr, load1V, loadV, storeV, cellsAt, getN, setN, allocV, lenL, lenS, bnd, oneC, Value.oneCell', Nat.reduceLeDiff, Nat.reduceLT, exists_eq_left', forall_const, reduceCtorEq, app_new, app_new0, List.append_assoc, Int.reduceToNat, Int.reduceLT, Int.reduceLE, Int.reduceEq, Int.reduceNe, Int.reduceBEq, IntKind.bits, bne_self_eq_false, Int.reducePow, r1, r11, r12, r15, hi', hi0, hABg, a3, hkn, wk]
            exact ⟨m - 1, by omega, k + 1, d1, s1, true, opv1, outv1, nw1, tw1, by omega, ⟨r1, r5, r6, r8, r9⟩, ⟨r10, r11, r12⟩, rfl, by rw [en]; exact H1, B, by omega, fun _ => hid⟩
end Go.Proofs.Ytejgaeinkojgpaa
