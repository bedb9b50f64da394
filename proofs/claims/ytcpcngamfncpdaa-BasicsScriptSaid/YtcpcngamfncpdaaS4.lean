import Derived.Test.YtcpcngamfncpdaaS3
set_option linter.unusedVariables false
set_option linter.unusedSimpArgs false
namespace Go.Proofs.Ytcpcngamfncpdaa
open Go Go.Ai Go.Proofs

/-- behind the bit -/
def MhM (h : AHeap) (M R g s a : Nat) (f : BE) (u : UP) (lv : Value) (ρ : Env) (h2 : AHeap) : Prop := h2[M]? = some (some ⟨true, MC f g s a⟩) ∧ Fr (· = M) h h2 ∧ get ρ 0 = some (.pointer (some ⟨M, 0, none⟩)) ∧ get ρ 3 = some (.pointer (some ⟨R, 0, none⟩)) ∧ h2[R]? = some (some ⟨true, u.cells lv⟩)
set_option maxHeartbeats 8000000 in
set_option maxRecDepth 20000 in
theorem mhear_ok {h : AHeap} {M g s a : Nat} {e : BE} {v : Value} {u : UP} (X : EX e g s a) (hM : h[M]? = some (some ⟨true, MC e g s a⟩)) (hfl : e.fl = false) (U : UV h v u) (k : U4 u) :
    Valid Try.prog 33 [.pointer (some ⟨M, 0, none⟩), v] h fun r h' => r = .bool (!(e.hear u).2.1.isEmpty) ∧ Fr (· = M) h h' ∧ ∃ a', h'[M]? = some (some ⟨true, MC (e.hear u).1 g s a'⟩) ∧ EX (e.hear u).1 g s a' := by
  refine v33 (by simp) ?_
  obtain ⟨lv, rfl, L⟩ := U
  obtain ⟨ql, cl, rfl, -⟩ := id L
  have hMl := lt_of_get hM
  obtain ⟨b, hbe⟩ : ∃ b : Nat, u.back = b := ⟨u.back.toNat, by have := k.b; omega⟩
  have hb128 : b < 128 := by have := k.b; omega
  have hN := X.hear hfl k hbe rfl
  simp only [X33, sx, x_alloc, x_bslice, x_slice, x_append, x_b2s, xop, ev, evs, evParts, fillL, cellsL, Ai.get, Ai.put, stab, isNil?, if_false, if_true, addr?, int?, str?, agg?, bool?, shiftA, FnPost, xresL, xres1, tup, argEnv, ptr, Nat.reduceEqDiff, reduceIte, beq_self_eq_true, ne_eq, Nat.reduceAdd, Nat.reduceMul, Nat.reduceSub, abin_shl, abin_shr, load1V, loadV, storeV, cellsAt, getN, setN, allocV, lenL, lenS, bnd, oneC, Value.oneCell', Nat.reduceLeDiff, Nat.reduceLT, exists_eq_left', forall_const, reduceCtorEq, app_new, app_new0, List.append_assoc, Int.reduceToNat, Int.reduceLT, Int.reduceLE, Int.reduceEq, Int.reduceNe, Int.reduceBEq, IntKind.bits, bne_self_eq_false, Int.reducePow]
  refine box_run rfl fun g1 R K1 hR hRl _ => ?_
  have hM1 := K1.get hM
  have hM1' := hM1
  simp only [MC] at hM1
  have hR' : g1[R]? = some (some ⟨true, u.cells (.slice ql u.load.length cl)⟩) := hR
  simp only [UP.cells, cellsL] at hR
  have hMR : M ≠ R := by omega
  have sMR := set_far hMR
  have F1 : Fr (· = M) h g1 := K1.fr _
  by_cases hk1 : u.kind = 1
  · rcases hN with ⟨-, hN⟩ | ⟨n1, -⟩ | ⟨n1, -⟩
    · rw [hN]
      simp only [sx, x_box, x_alloc, x_bslice, x_slice, x_append, x_b2s, xop, ev, evs, evParts, fillL, cellsL, Ai.get, Ai.put, stab, isNil?, if_false, if_true, addr?, int?, str?, agg?, bool?, shiftA, FnPost, xresL, xres1, tup, argEnv, ptr, Nat.reduceEqDiff, reduceIte, beq_self_eq_true, ne_eq, Nat.reduceAdd, Nat.reduceMul, Nat.reduceSub, abin_shl, abin_shr, load1V, loadV, storeV, cellsAt, getN, setN, allocV, lenL, lenS, bnd, oneC, Value.oneCell', Nat.reduceLeDiff, Nat.reduceLT, exists_eq_left', forall_const, reduceCtorEq, app_new, app_new0, List.append_assoc, Int.reduceToNat, Int.reduceLT, Int.reduceLE, Int.reduceEq, Int.reduceNe, Int.reduceBEq, IntKind.bits, bne_self_eq_false, Int.reducePow, hR, hk1]
      exact ⟨rfl, F1, a, hM1', X⟩
    · exact absurd hk1 n1
    · exact absurd hk1 n1
  have hw1 : IntKind.i64.wrap (b : Int) = b := i64_wrap (by omega) (by omega)
  have hw2 : IntKind.i64.wrap ((b : Int) + 128) = ((b + 128 : Nat) : Int) := by rw [i64_wrap] <;> omega
  have hna := num_lt a
  have hw3 : IntKind.i64.wrap ((num a : Nat) : Int) = ((num a : Nat) : Int) := i64_wrap (by omega) (by omega)
  have hw4 : (IntKind.i64.wrap (((b + 128 : Nat) : Int) - ((num a : Nat) : Int))).tmod 128 = ((ahd (num a) b : Nat) : Int) := by
    rw [i64_wrap (by omega) (by omega), Int.tmod_eq_emod_of_nonneg (by omega)]; unfold ahd; omega
  have h128 : ¬ (128 : Int) = 0 := by decide
  have h1 := X.h1
  have h2 := X.h2
  have hg := X.hg
  have hw5 : IntKind.i64.wrap ((s : Int) - a) = ((s - a : Nat) : Int) := by rw [i64_wrap (by omega) (by omega)]; omega
  rw [hbe] at hR
  simp only [sx, x_box, x_alloc, x_bslice, x_slice, x_append, x_b2s, xop, ev, evs, evParts, fillL, cellsL, Ai.get, Ai.put, stab, isNil?, if_false, if_true, addr?, int?, str?, agg?, bool?, shiftA, FnPost, xresL, xres1, tup, argEnv, ptr, Nat.reduceEqDiff, reduceIte, beq_self_eq_true, ne_eq, Nat.reduceAdd, Nat.reduceMul, Nat.reduceSub, abin_shl, abin_shr, load1V, loadV, storeV, cellsAt, getN, setN, allocV, lenL, lenS, bnd, oneC, Value.oneCell', Nat.reduceLeDiff, Nat.reduceLT, exists_eq_left', forall_const, reduceCtorEq, app_new, app_new0, List.append_assoc, Int.reduceToNat, Int.reduceLT, Int.reduceLE, Int.reduceEq, Int.reduceNe, Int.reduceBEq, IntKind.bits, bne_self_eq_false, Int.reducePow, hR, hk1, hM1, hw1, hw2]
  refine xcall (number_ok (k := a) (by omega)) (by rfl) (by rfl) (by rfl) (by rfl) ?_
  rintro r h3 ⟨rfl, rfl⟩
  have sRM := set_far hMR.symm
  rcases hN with ⟨n1, -⟩ | ⟨-, n2, hN⟩ | ⟨-, n2, hN, XA, hag⟩
  · exact absurd n1 hk1
  · have hwr : ((s - a : Nat) : Int) < ((ahd (num a) b : Nat) : Int) := by omega
    rw [hN]
    cases h0 : e.a0
    · simp only [sx, x_box, x_alloc, x_bslice, x_slice, x_append, x_b2s, xop, ev, evs, evParts, fillL, cellsL, Ai.get, Ai.put, stab, isNil?, if_false, if_true, addr?, int?, str?, agg?, bool?, shiftA, FnPost, xresL, xres1, tup, argEnv, ptr, Nat.reduceEqDiff, reduceIte, beq_self_eq_true, ne_eq, Nat.reduceAdd, Nat.reduceMul, Nat.reduceSub, abin_shl, abin_shr, load1V, loadV, storeV, cellsAt, getN, setN, allocV, lenL, lenS, bnd, oneC, Value.oneCell', Nat.reduceLeDiff, Nat.reduceLT, exists_eq_left', forall_const, reduceCtorEq, app_new, app_new0, List.append_assoc, Int.reduceToNat, Int.reduceLT, Int.reduceLE, Int.reduceEq, Int.reduceNe, Int.reduceBEq, IntKind.bits, bne_self_eq_false, Int.reducePow, hR, hM1, h0, hw3, hw4, hw5, h128, hwr, set_here, sMR, List.set_set]
      refine ⟨rfl, F1.trans (Fr.set _ rfl) fun B h => .inl h.symm, a, ?_, ⟨X.q, X.o, X.sent, X.ack, X.h1, X.h2, X.h3, X.h4, X.h6, X.h7, X.hg, X.rd⟩⟩
      simp [MC, BE.abn]
    · simp only [sx, x_box, x_alloc, x_bslice, x_slice, x_append, x_b2s, xop, ev, evs, evParts, fillL, cellsL, Ai.get, Ai.put, stab, isNil?, if_false, if_true, addr?, int?, str?, agg?, bool?, shiftA, FnPost, xresL, xres1, tup, argEnv, ptr, Nat.reduceEqDiff, reduceIte, beq_self_eq_true, ne_eq, Nat.reduceAdd, Nat.reduceMul, Nat.reduceSub, abin_shl, abin_shr, load1V, loadV, storeV, cellsAt, getN, setN, allocV, lenL, lenS, bnd, oneC, Value.oneCell', Nat.reduceLeDiff, Nat.reduceLT, exists_eq_left', forall_const, reduceCtorEq, app_new, app_new0, List.append_assoc, Int.reduceToNat, Int.reduceLT, Int.reduceLE, Int.reduceEq, Int.reduceNe, Int.reduceBEq, IntKind.bits, bne_self_eq_false, Int.reducePow, hR, hM1, h0, hw3, hw4, hw5, h128, hwr, set_here, sMR, List.set_set]
      refine ⟨rfl, F1.trans (Fr.set _ rfl) fun B h => .inl h.symm, a, ?_, ⟨X.q, X.o, X.sent, X.ack, X.h1, X.h2, X.h3, X.h4, X.h6, X.h7, X.hg, X.rd⟩⟩
      simp [MC, BE.abn]
  · generalize hd : ahd (num a) b = d at *
    obtain ⟨s1, s2, s3, s4, s5, s6⟩ := heard_same e b u
    have hwr : ¬ ((s - a : Nat) : Int) < ((d : Nat) : Int) := by omega
    have hpa := X.h6
    have hac := X.h7
    have hkf := k.f
    have hw6 : IntKind.i64.wrap ((a : Int) + (d : Int)) = ((a + d : Nat) : Int) := by rw [i64_wrap] <;> omega
    have hmx : (if ((a + d : Nat) : Int) > ((s - e.again : Nat) : Int) then ((a + d : Nat) : Int) else ((s - e.again : Nat) : Int)) = ((s - min e.again (s - a - d) : Nat) : Int) := by split <;> omega
    have R3 := hR'
    simp only [UP.cells, hbe] at R3
    simp only [sx, x_box, x_alloc, x_bslice, x_slice, x_append, x_b2s, xop, ev, evs, evParts, fillL, cellsL, Ai.get, Ai.put, stab, isNil?, if_false, if_true, addr?, int?, str?, agg?, bool?, shiftA, FnPost, xresL, xres1, tup, argEnv, ptr, Nat.reduceEqDiff, reduceIte, beq_self_eq_true, ne_eq, Nat.reduceAdd, Nat.reduceMul, Nat.reduceSub, abin_shl, abin_shr, load1V, loadV, storeV, cellsAt, getN, setN, allocV, lenL, lenS, bnd, oneC, Value.oneCell', Nat.reduceLeDiff, Nat.reduceLT, exists_eq_left', forall_const, reduceCtorEq, app_new, app_new0, List.append_assoc, Int.reduceToNat, Int.reduceLT, Int.reduceLE, Int.reduceEq, Int.reduceNe, Int.reduceBEq, IntKind.bits, bne_self_eq_false, Int.reducePow, hR, hM1, hw3, hw4, hw5, h128, hwr, set_here, sMR, List.set_set, hw6, hmx, List.foldlM_cons, List.foldlM_nil]
    refine xcond_cut (MhM h M R g s (a + d) (e.heard b u) u (.slice ql u.load.length cl)) ?_ ?_
    · by_cases hbb : u.bb = e.fb
      · have hb2 : (u.bb != e.fb) = false := by rw [hbb]; cases e.fb <;> rfl
        rw [if_pos hbb] at hag
        simp only [sx, x_box, x_alloc, x_bslice, x_slice, x_append, x_b2s, xop, ev, evs, evParts, fillL, cellsL, Ai.get, Ai.put, stab, isNil?, if_false, if_true, addr?, int?, str?, agg?, bool?, shiftA, FnPost, xresL, xres1, tup, argEnv, ptr, Nat.reduceEqDiff, reduceIte, beq_self_eq_true, ne_eq, Nat.reduceAdd, Nat.reduceMul, Nat.reduceSub, abin_shl, abin_shr, load1V, loadV, storeV, cellsAt, getN, setN, allocV, lenL, lenS, bnd, oneC, Value.oneCell', Nat.reduceLeDiff, Nat.reduceLT, exists_eq_left', forall_const, reduceCtorEq, app_new, app_new0, List.append_assoc, Int.reduceToNat, Int.reduceLT, Int.reduceLE, Int.reduceEq, Int.reduceNe, Int.reduceBEq, IntKind.bits, bne_self_eq_false, Int.reducePow, hb2]
        refine ⟨?_, F1.trans (Fr.set _ rfl) fun B h => .inl h.symm, rfl, rfl, (sMR _ _).trans hR'⟩
        rw [set_same hM1]
        simp only [MC, hag, s1, s2, s3, s4, s5, s6, hbb, hfl]
      · have hb2 : (u.bb != e.fb) = true := by cases h1 : u.bb <;> cases h2 : e.fb <;> simp_all
        rw [if_neg hbb] at hag
        have hsd : s - (s - a - d) = a + d := by omega
        simp only [sx, x_box, x_alloc, x_bslice, x_slice, x_append, x_b2s, xop, ev, evs, evParts, fillL, cellsL, Ai.get, Ai.put, stab, isNil?, if_false, if_true, addr?, int?, str?, agg?, bool?, shiftA, FnPost, xresL, xres1, tup, argEnv, ptr, Nat.reduceEqDiff, reduceIte, beq_self_eq_true, ne_eq, Nat.reduceAdd, Nat.reduceMul, Nat.reduceSub, abin_shl, abin_shr, load1V, loadV, storeV, cellsAt, getN, setN, allocV, lenL, lenS, bnd, oneC, Value.oneCell', Nat.reduceLeDiff, Nat.reduceLT, exists_eq_left', forall_const, reduceCtorEq, app_new, app_new0, List.append_assoc, Int.reduceToNat, Int.reduceLT, Int.reduceLE, Int.reduceEq, Int.reduceNe, Int.reduceBEq, IntKind.bits, bne_self_eq_false, Int.reducePow, hb2, hR, hM1, set_here, sMR, List.set_set]
        refine ⟨?_, F1.trans (Fr.set _ rfl) fun B h => .inl h.symm, rfl, rfl, (sMR _ _).trans hR'⟩
        rw [set_same hM1]
        simp only [MC, hag, s1, s2, s3, s4, s5, s6, hfl, hsd]
    clear hM1 hM1' R3 hR hR' F1 hM
    rintro ρ2 h5 ⟨M5, F5, g0, g3, R5⟩
    generalize hf : e.heard b u = f at *
    rw [hN]
    have hwf : IntKind.i64.wrap u.fore = u.fore := i64_wrap (by omega) (by omega)
    have hwa : IntKind.i64.wrap (f.acc : Int) = f.acc := i64_wrap (by omega) (by omega)
    have hwb : (IntKind.i64.wrap ((f.acc : Int) + 1)).tmod 128 = ((aft f.acc 1 : Nat) : Int) := by
      rw [i64_wrap (by omega) (by omega), Int.tmod_eq_emod_of_nonneg (by omega)]; unfold aft; omega
    have M5' := M5
    simp only [MC] at M5
    simp only [UP.cells] at R5
    by_cases c1 : u.fb = f.bb
    · have c1' : (u.fb != f.bb) = false := by rw [c1]; cases f.bb <;> rfl
      by_cases c2 : u.kind = 2
      · by_cases c3 : u.fore = (aft f.acc 1 : Nat)
        · have hrv : f.recv u = ({ f with acc := aft f.acc 1 }, true) := by unfold BE.recv; rw [if_pos c1, if_pos ⟨c2, c3⟩]
          have hwq : IntKind.i64.wrap ((aft f.acc 1 : Nat) : Int) = ((aft f.acc 1 : Nat) : Int) := by rw [← c3]; exact hwf
          rw [hrv]
          simp only [sx, x_box, x_alloc, x_bslice, x_slice, x_append, x_b2s, xop, ev, evs, evParts, fillL, cellsL, Ai.get, Ai.put, stab, isNil?, if_false, if_true, addr?, int?, str?, agg?, bool?, shiftA, FnPost, xresL, xres1, tup, argEnv, ptr, Nat.reduceEqDiff, reduceIte, beq_self_eq_true, ne_eq, Nat.reduceAdd, Nat.reduceMul, Nat.reduceSub, abin_shl, abin_shr, load1V, loadV, storeV, cellsAt, getN, setN, allocV, lenL, lenS, bnd, oneC, Value.oneCell', Nat.reduceLeDiff, Nat.reduceLT, exists_eq_left', forall_const, reduceCtorEq, app_new, app_new0, List.append_assoc, Int.reduceToNat, Int.reduceLT, Int.reduceLE, Int.reduceEq, Int.reduceNe, Int.reduceBEq, IntKind.bits, bne_self_eq_false, Int.reducePow, g0, g3, M5, R5, c1', c2, c3, hwq, hwa, hwb, set_here, sMR]
          refine ⟨rfl, F5.trans (Fr.set _ rfl) fun B h => .inl h.symm, a + d, ?_, ⟨XA.q, XA.o, XA.sent, XA.ack, XA.h1, XA.h2, XA.h3, XA.h4, XA.h6, aft_lt f.acc 1, XA.hg, XA.rd⟩⟩
          first | rfl | (rw [set_same M5]; rfl)
        · have hn2 : ¬ (u.kind = 2 ∧ u.fore = (aft f.acc 1 : Nat)) := fun h => c3 h.2
          by_cases c4 : u.fore = (f.acc : Nat)
          · have hrv : f.recv u = (f, false) := by unfold BE.recv; rw [if_pos c1, if_neg hn2, if_pos c4]
            rw [hrv]
            have c3' : ¬ (f.acc : Int) = ((aft f.acc 1 : Nat) : Int) := by rw [← c4]; exact c3
            simp only [sx, x_box, x_alloc, x_bslice, x_slice, x_append, x_b2s, xop, ev, evs, evParts, fillL, cellsL, Ai.get, Ai.put, stab, isNil?, if_false, if_true, addr?, int?, str?, agg?, bool?, shiftA, FnPost, xresL, xres1, tup, argEnv, ptr, Nat.reduceEqDiff, reduceIte, beq_self_eq_true, ne_eq, Nat.reduceAdd, Nat.reduceMul, Nat.reduceSub, abin_shl, abin_shr, load1V, loadV, storeV, cellsAt, getN, setN, allocV, lenL, lenS, bnd, oneC, Value.oneCell', Nat.reduceLeDiff, Nat.reduceLT, exists_eq_left', forall_const, reduceCtorEq, app_new, app_new0, List.append_assoc, Int.reduceToNat, Int.reduceLT, Int.reduceLE, Int.reduceEq, Int.reduceNe, Int.reduceBEq, IntKind.bits, bne_self_eq_false, Int.reducePow, g0, g3, M5, R5, c1', c2, c3', c4, hwa, hwb, set_here, sMR]
            exact ⟨rfl, F5, a + d, by first | rfl | exact M5', XA⟩
          · have hrv : f.recv u = ({ f with bb := !f.bb }, false) := by unfold BE.recv; rw [if_pos c1, if_neg hn2, if_neg c4]
            rw [hrv]
            simp only [sx, x_box, x_alloc, x_bslice, x_slice, x_append, x_b2s, xop, ev, evs, evParts, fillL, cellsL, Ai.get, Ai.put, stab, isNil?, if_false, if_true, addr?, int?, str?, agg?, bool?, shiftA, FnPost, xresL, xres1, tup, argEnv, ptr, Nat.reduceEqDiff, reduceIte, beq_self_eq_true, ne_eq, Nat.reduceAdd, Nat.reduceMul, Nat.reduceSub, abin_shl, abin_shr, load1V, loadV, storeV, cellsAt, getN, setN, allocV, lenL, lenS, bnd, oneC, Value.oneCell', Nat.reduceLeDiff, Nat.reduceLT, exists_eq_left', forall_const, reduceCtorEq, app_new, app_new0, List.append_assoc, Int.reduceToNat, Int.reduceLT, Int.reduceLE, Int.reduceEq, Int.reduceNe, Int.reduceBEq, IntKind.bits, bne_self_eq_false, Int.reducePow, g0, g3, M5, R5, c1', c2, c3, c4, hwf, hwa, hwb, set_here, sMR]
            refine ⟨rfl, F5.trans (Fr.set _ rfl) fun B h => .inl h.symm, a + d, ?_, ⟨XA.q, XA.o, XA.sent, XA.ack, XA.h1, XA.h2, XA.h3, XA.h4, XA.h6, XA.h7, XA.hg, XA.rd⟩⟩
            first | rfl | (rw [set_same M5]; rfl)
      · have hn2 : ¬ (u.kind = 2 ∧ u.fore = (aft f.acc 1 : Nat)) := fun h => c2 h.1
        by_cases c4 : u.fore = (f.acc : Nat)
        · have hrv : f.recv u = (f, false) := by unfold BE.recv; rw [if_pos c1, if_neg hn2, if_pos c4]
          rw [hrv]
          simp only [sx, x_box, x_alloc, x_bslice, x_slice, x_append, x_b2s, xop, ev, evs, evParts, fillL, cellsL, Ai.get, Ai.put, stab, isNil?, if_false, if_true, addr?, int?, str?, agg?, bool?, shiftA, FnPost, xresL, xres1, tup, argEnv, ptr, Nat.reduceEqDiff, reduceIte, beq_self_eq_true, ne_eq, Nat.reduceAdd, Nat.reduceMul, Nat.reduceSub, abin_shl, abin_shr, load1V, loadV, storeV, cellsAt, getN, setN, allocV, lenL, lenS, bnd, oneC, Value.oneCell', Nat.reduceLeDiff, Nat.reduceLT, exists_eq_left', forall_const, reduceCtorEq, app_new, app_new0, List.append_assoc, Int.reduceToNat, Int.reduceLT, Int.reduceLE, Int.reduceEq, Int.reduceNe, Int.reduceBEq, IntKind.bits, bne_self_eq_false, Int.reducePow, g0, g3, M5, R5, c1', c2, c4, hwa, hwb, set_here, sMR]
          exact ⟨rfl, F5, a + d, by first | rfl | exact M5', XA⟩
        · have hrv : f.recv u = ({ f with bb := !f.bb }, false) := by unfold BE.recv; rw [if_pos c1, if_neg hn2, if_neg c4]
          rw [hrv]
          simp only [sx, x_box, x_alloc, x_bslice, x_slice, x_append, x_b2s, xop, ev, evs, evParts, fillL, cellsL, Ai.get, Ai.put, stab, isNil?, if_false, if_true, addr?, int?, str?, agg?, bool?, shiftA, FnPost, xresL, xres1, tup, argEnv, ptr, Nat.reduceEqDiff, reduceIte, beq_self_eq_true, ne_eq, Nat.reduceAdd, Nat.reduceMul, Nat.reduceSub, abin_shl, abin_shr, load1V, loadV, storeV, cellsAt, getN, setN, allocV, lenL, lenS, bnd, oneC, Value.oneCell', Nat.reduceLeDiff, Nat.reduceLT, exists_eq_left', forall_const, reduceCtorEq, app_new, app_new0, List.append_assoc, Int.reduceToNat, Int.reduceLT, Int.reduceLE, Int.reduceEq, Int.reduceNe, Int.reduceBEq, IntKind.bits, bne_self_eq_false, Int.reducePow, g0, g3, M5, R5, c1', c2, c4, hwf, hwa, hwb, set_here, sMR]
          refine ⟨rfl, F5.trans (Fr.set _ rfl) fun B h => .inl h.symm, a + d, ?_, ⟨XA.q, XA.o, XA.sent, XA.ack, XA.h1, XA.h2, XA.h3, XA.h4, XA.h6, XA.h7, XA.hg, XA.rd⟩⟩
          first | rfl | (rw [set_same M5]; rfl)
    · have c1' : (u.fb != f.bb) = true := by cases h1 : u.fb <;> cases h2 : f.bb <;> simp_all
      have hrv : f.recv u = (f, false) := by unfold BE.recv; rw [if_neg c1]
      rw [hrv]
      simp only [sx, x_box, x_alloc, x_bslice, x_slice, x_append, x_b2s, xop, ev, evs, evParts, fillL, cellsL, Ai.get, Ai.put, stab, isNil?, if_false, if_true, addr?, int?, str?, agg?, bool?, shiftA, FnPost, xresL, xres1, tup, argEnv, ptr, Nat.reduceEqDiff, reduceIte, beq_self_eq_true, ne_eq, Nat.reduceAdd, Nat.reduceMul, Nat.reduceSub, abin_shl, abin_shr, load1V, loadV, storeV, cellsAt, getN, setN, allocV, lenL, lenS, bnd, oneC, Value.oneCell', Nat.reduceLeDiff, Nat.reduceLT, exists_eq_left', forall_const, reduceCtorEq, app_new, app_new0, List.append_assoc, Int.reduceToNat, Int.reduceLT, Int.reduceLE, Int.reduceEq, Int.reduceNe, Int.reduceBEq, IntKind.bits, bne_self_eq_false, Int.reducePow, g0, g3, M5, R5, c1']
      exact ⟨rfl, F5, a + d, by first | rfl | exact M5', XA⟩
end Go.Proofs.Ytcpcngamfncpdaa
