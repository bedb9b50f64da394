import Derived.Test.YtkbpfebohpdgbaaS3
set_option linter.unusedVariables false
set_option linter.unusedSimpArgs false
namespace Go.Proofs.Ytkbpfebohpdgbaa
open Go Go.Ai Go.Proofs

theorem U4.chk {u : UP} (k : U4 u) : chk u = 0 := by
  unfold Proofs.Ytkbpfebohpdgbaa.chk
  have h1 := k.b
  have h2 := k.f
  have h3 := k.k
  have h4 := k.s
  rw [if_neg, if_neg]
  · rintro (⟨h5, h6⟩ | ⟨h5, h6⟩)
    · have := k.l2 h5; omega
    · rw [k.l1 h5] at h6; simp at h6
  · rintro (h5 | h5 | h5 | h5 | ⟨h5, h6⟩)
    · omega
    · omega
    · omega
    · omega
    · exact h5 (k.s1 h6)
/-- what hearing does, in counts -/
theorem EX.hear {e : BE} {g s a : Nat} (X : EX e g s a) (hfl : e.fl = false) {u : UP} (k : U4 u) {b d : Nat} (hb : u.back = b) (hd : d = ahd (num a) b) :
    (u.kind = 1 ∧ e.hear u = (e, [], 0)) ∨
    (u.kind ≠ 1 ∧ s - a < d ∧ e.hear u = ({ e.abn true with fl := e.a0 || e.a1 }, [], if (e.a0 || e.a1) = true then 6 else 0)) ∨
    (u.kind ≠ 1 ∧ d ≤ s - a ∧ e.hear u = (if u.kind = 2 ∧ u.fore = (aft e.acc 1 : Nat) then ({ (e.abn false).ackd b with acc := aft e.acc 1 }, [u.load], 0) else ((e.abn false).ackd b, [], 0)) ∧ EX ((e.abn false).ackd b) g s (a + d) ∧ ((e.abn false).ackd b).pl = e.pl - d) := by
  have hst : e.st = 0 := by unfold BE.st; rw [hfl]; rfl
  have hbt : u.back.toNat = b := by omega
  have hbl : b < 128 := by have := k.b; omega
  have hol : e.o.length = s - a := by rw [X.o, lst_len]
  unfold BE.hear
  rw [hst, k.chk, if_neg (by simp), if_neg (by simp), hbt, X.ack, hol, ← hd]
  by_cases k1 : u.kind = 1
  · left; rw [if_pos k1]; exact ⟨k1, rfl⟩
  · right
    rw [if_neg k1]
    by_cases hw : s - a < d
    · left
      rw [if_pos hw]
      refine ⟨k1, hw, ?_⟩
      cases h0 : e.a0 <;> cases h1 : e.a1 <;> simp [BE.abn, hfl]
    · right
      rw [if_neg hw]
      have h1 := X.h1
      have h6 := X.h6
      have hack : num (a + d) = b := by rw [hd]; unfold ahd num; omega
      refine ⟨k1, by omega, rfl, ⟨X.q, ?_, X.sent, hack.symm, by omega, X.h2, by show s ≤ a + d + e.ml; have := X.h3; omega, X.h4, X.h5, ?_, X.h7, X.hg, X.l1, X.l2⟩, ?_⟩
      · show e.o.drop (ahd e.ack b) = _
        rw [X.ack, ← hd, X.o, lst_drop (by omega)]
      · show e.pl - ahd e.ack b ≤ s - (a + d)
        rw [X.ack, ← hd]; omega
      · show e.pl - ahd e.ack b = _
        rw [X.ack, ← hd]
set_option maxHeartbeats 8000000 in
set_option maxRecDepth 20000 in
theorem mhear_ok {h : AHeap} {M g s a : Nat} {e : BE} {v : Value} {u : UP} (X : EX e g s a) (hM : h[M]? = some (some ⟨true, MC e g s a⟩)) (hfl : e.fl = false) (U : UV h v u) (k : U4 u) :
    Valid Try.prog 32 [.pointer (some ⟨M, 0, none⟩), v] h fun r h' => r = .bool (!(e.hear u).2.1.isEmpty) ∧ Fr (· = M) h h' ∧ ∃ a', h'[M]? = some (some ⟨true, MC (e.hear u).1 g s a'⟩) ∧ EX (e.hear u).1 g s a' := by
  refine v32 (by simp) ?_
  obtain ⟨lv, rfl, L⟩ := U
  have hMl := lt_of_get hM
  obtain ⟨b, hbe⟩ : ∃ b : Nat, u.back = b := ⟨u.back.toNat, by have := k.b; omega⟩
  have hb128 : b < 128 := by have := k.b; omega
  have hN := X.hear hfl k hbe rfl
  simp only [X32, sx, x_alloc, x_bslice, x_slice, x_append, x_b2s, xop, ev, evs, evParts, fillL, cellsL, Ai.get, Ai.put, stab, isNil?, if_false, if_true, addr?, int?, str?, agg?, bool?, shiftA, FnPost, xresL, xres1, tup, argEnv, ptr, Nat.reduceEqDiff, reduceIte, beq_self_eq_true, ne_eq, Nat.reduceAdd, Nat.reduceMul, Nat.reduceSub, abin_shl, abin_shr, load1V, loadV, storeV, cellsAt, getN, setN, allocV, lenL, lenS, bnd, oneC, Value.oneCell', Nat.reduceLeDiff, Nat.reduceLT, exists_eq_left', forall_const, reduceCtorEq, app_new, app_new0, List.append_assoc, Int.reduceToNat, Int.reduceLT, Int.reduceLE, Int.reduceEq, Int.reduceNe, Int.reduceBEq, IntKind.bits, bne_self_eq_false, Int.reducePow]
  refine box_run rfl fun g1 R K1 hR hRl _ => ?_
  have hM1 := K1.get hM
  have hM1' := hM1
  simp only [MC] at hM1
  simp only [UP.cells, cellsL] at hR
  have hMR : M ≠ R := by omega
  have sMR := set_far hMR
  have F1 : Fr (· = M) h g1 := K1.fr _
  by_cases hk1 : u.kind = 1
  · rcases hN with ⟨-, hN⟩ | ⟨n1, -⟩ | ⟨n1, -⟩
    · rw [hN]
      simp only [sx, x_box, x_alloc, x_bslice, x_slice, x_append, x_b2s, xop, ev, evs, evParts, fillL, cellsL, Ai.get, Ai.put, stab, isNil?, if_false, if_true, addr?, int?, str?, agg?, bool?, shiftA, FnPost, xresL, xres1, tup, argEnv, ptr, Nat.reduceEqDiff, reduceIte, beq_self_eq_true, ne_eq, Nat.reduceAdd, Nat.reduceMul, Nat.reduceSub, abin_shl, abin_shr, load1V, loadV, storeV, cellsAt, getN, setN, allocV, lenL, lenS, bnd, oneC, Value.oneCell', Nat.reduceLeDiff, Nat.reduceLT, exists_eq_left', forall_const, reduceCtorEq, app_new, app_new0, List.append_assoc, Int.reduceToNat, Int.reduceLT, Int.reduceLE, Int.reduceEq, Int.reduceNe, Int.reduceBEq, IntKind.bits, bne_self_eq_false, Int.reducePow, hR, hk1]
      exact ⟨rfl, F1, a, hM1', X⟩
    · exact absurd hk1 n1
    · exact absurd hk1 n1
  have hw1 : IntKind.i64.wrap (b : Int) = b := i64_wrap (by omega) (by omega)
  have hw2 : IntKind.i64.wrap ((b : Int) + 128) = ((b + 128 : Nat) : Int) := by rw [i64_wrap] <;> omega
  have hna := num_lt a
  have hw3 : IntKind.i64.wrap ((num a : Nat) : Int) = ((num a : Nat) : Int) := i64_wrap (by omega) (by omega)
  have hw4 : (IntKind.i64.wrap (((b + 128 : Nat) : Int) - ((num a : Nat) : Int))).tmod 128 = ((ahd (num a) b : Nat) : Int) := by
    rw [i64_wrap (by omega) (by omega), Int.tmod_eq_emod_of_nonneg (by omega)]; unfold ahd; omega
  have h128 : ¬ (128 : Int) = 0 := by decide
  have h1 := X.h1
  have h2 := X.h2
  have hg := X.hg
  have hw5 : IntKind.i64.wrap ((s : Int) - a) = ((s - a : Nat) : Int) := by rw [i64_wrap (by omega) (by omega)]; omega
  rw [hbe] at hR
  simp only [sx, x_box, x_alloc, x_bslice, x_slice, x_append, x_b2s, xop, ev, evs, evParts, fillL, cellsL, Ai.get, Ai.put, stab, isNil?, if_false, if_true, addr?, int?, str?, agg?, bool?, shiftA, FnPost, xresL, xres1, tup, argEnv, ptr, Nat.reduceEqDiff, reduceIte, beq_self_eq_true, ne_eq, Nat.reduceAdd, Nat.reduceMul, Nat.reduceSub, abin_shl, abin_shr, load1V, loadV, storeV, cellsAt, getN, setN, allocV, lenL, lenS, bnd, oneC, Value.oneCell', Nat.reduceLeDiff, Nat.reduceLT, exists_eq_left', forall_const, reduceCtorEq, app_new, app_new0, List.append_assoc, Int.reduceToNat, Int.reduceLT, Int.reduceLE, Int.reduceEq, Int.reduceNe, Int.reduceBEq, IntKind.bits, bne_self_eq_false, Int.reducePow, hR, hk1, hM1, hw1, hw2]
  refine xcall (number_ok (k := a) (by omega)) (by rfl) (by rfl) (by rfl) (by rfl) ?_
  rintro r h3 ⟨rfl, rfl⟩
  have sRM := set_far hMR.symm
  rcases hN with ⟨n1, -⟩ | ⟨-, n2, hN⟩ | ⟨-, n2, hN, XA, hpl⟩
  · exact absurd n1 hk1
  · have hwr : ((s - a : Nat) : Int) < ((ahd (num a) b : Nat) : Int) := by omega
    rw [hN]
    cases h0 : e.a0
    · simp only [sx, x_box, x_alloc, x_bslice, x_slice, x_append, x_b2s, xop, ev, evs, evParts, fillL, cellsL, Ai.get, Ai.put, stab, isNil?, if_false, if_true, addr?, int?, str?, agg?, bool?, shiftA, FnPost, xresL, xres1, tup, argEnv, ptr, Nat.reduceEqDiff, reduceIte, beq_self_eq_true, ne_eq, Nat.reduceAdd, Nat.reduceMul, Nat.reduceSub, abin_shl, abin_shr, load1V, loadV, storeV, cellsAt, getN, setN, allocV, lenL, lenS, bnd, oneC, Value.oneCell', Nat.reduceLeDiff, Nat.reduceLT, exists_eq_left', forall_const, reduceCtorEq, app_new, app_new0, List.append_assoc, Int.reduceToNat, Int.reduceLT, Int.reduceLE, Int.reduceEq, Int.reduceNe, Int.reduceBEq, IntKind.bits, bne_self_eq_false, Int.reducePow, hR, hM1, h0, hw3, hw4, hw5, h128, hwr, set_here, sMR, List.set_set]
      refine ⟨rfl, F1.trans (Fr.set _ rfl) fun B h => .inl h.symm, a, ?_, ⟨X.q, X.o, X.sent, X.ack, X.h1, X.h2, X.h3, X.h4, X.h5, X.h6, X.h7, X.hg, X.l1, X.l2⟩⟩
      simp [MC, BE.abn]
    · simp only [sx, x_box, x_alloc, x_bslice, x_slice, x_append, x_b2s, xop, ev, evs, evParts, fillL, cellsL, Ai.get, Ai.put, stab, isNil?, if_false, if_true, addr?, int?, str?, agg?, bool?, shiftA, FnPost, xresL, xres1, tup, argEnv, ptr, Nat.reduceEqDiff, reduceIte, beq_self_eq_true, ne_eq, Nat.reduceAdd, Nat.reduceMul, Nat.reduceSub, abin_shl, abin_shr, load1V, loadV, storeV, cellsAt, getN, setN, allocV, lenL, lenS, bnd, oneC, Value.oneCell', Nat.reduceLeDiff, Nat.reduceLT, exists_eq_left', forall_const, reduceCtorEq, app_new, app_new0, List.append_assoc, Int.reduceToNat, Int.reduceLT, Int.reduceLE, Int.reduceEq, Int.reduceNe, Int.reduceBEq, IntKind.bits, bne_self_eq_false, Int.reducePow, hR, hM1, h0, hw3, hw4, hw5, h128, hwr, set_here, sMR, List.set_set]
      refine ⟨rfl, F1.trans (Fr.set _ rfl) fun B h => .inl h.symm, a, ?_, ⟨X.q, X.o, X.sent, X.ack, X.h1, X.h2, X.h3, X.h4, X.h5, X.h6, X.h7, X.hg, X.l1, X.l2⟩⟩
      simp [MC, BE.abn]
  · generalize hd : ahd (num a) b = d at *
    have hwr : ¬ ((s - a : Nat) : Int) < ((d : Nat) : Int) := by omega
    have hpa := X.h6
    have hac := X.h7
    have hkf := k.f
    have hw6 : IntKind.i64.wrap ((a : Int) + (d : Int)) = ((a + d : Nat) : Int) := by rw [i64_wrap] <;> omega
    have hmx : (if ((a + d : Nat) : Int) > ((a + e.pl : Nat) : Int) then ((a + d : Nat) : Int) else ((a + e.pl : Nat) : Int)) = ((a + d + (e.pl - d) : Nat) : Int) := by split <;> omega
    have hwf : IntKind.i64.wrap u.fore = u.fore := i64_wrap (by omega) (by omega)
    have hwa : IntKind.i64.wrap (e.acc : Int) = e.acc := i64_wrap (by omega) (by omega)
    have hwb : (IntKind.i64.wrap ((e.acc : Int) + 1)).tmod 128 = ((aft e.acc 1 : Nat) : Int) := by
      rw [i64_wrap (by omega) (by omega), Int.tmod_eq_emod_of_nonneg (by omega)]; unfold aft; omega
    have hal := aft_lt e.acc 1
    have hwq : IntKind.i64.wrap ((aft e.acc 1 : Nat) : Int) = ((aft e.acc 1 : Nat) : Int) := i64_wrap (by omega) (by omega)
    by_cases hk2 : u.kind = 2 ∧ u.fore = (aft e.acc 1 : Nat)
    · rw [if_pos hk2] at hN
      rw [hN]
      simp only [sx, x_box, x_alloc, x_bslice, x_slice, x_append, x_b2s, xop, ev, evs, evParts, fillL, cellsL, Ai.get, Ai.put, stab, isNil?, if_false, if_true, addr?, int?, str?, agg?, bool?, shiftA, FnPost, xresL, xres1, tup, argEnv, ptr, Nat.reduceEqDiff, reduceIte, beq_self_eq_true, ne_eq, Nat.reduceAdd, Nat.reduceMul, Nat.reduceSub, abin_shl, abin_shr, load1V, loadV, storeV, cellsAt, getN, setN, allocV, lenL, lenS, bnd, oneC, Value.oneCell', Nat.reduceLeDiff, Nat.reduceLT, exists_eq_left', forall_const, reduceCtorEq, app_new, app_new0, List.append_assoc, Int.reduceToNat, Int.reduceLT, Int.reduceLE, Int.reduceEq, Int.reduceNe, Int.reduceBEq, IntKind.bits, bne_self_eq_false, Int.reducePow, hR, hM1, hw3, hw4, hw5, h128, hwr, set_here, sMR, List.set_set, hw6, hmx, List.foldlM_cons, List.foldlM_nil, hk2.1, hk2.2, hwq, hwa, hwb]
      refine ⟨rfl, F1.trans (Fr.set _ rfl) fun B h => .inl h.symm, a + d, ?_, ⟨XA.q, XA.o, XA.sent, XA.ack, XA.h1, XA.h2, XA.h3, XA.h4, XA.h5, XA.h6, aft_lt e.acc 1, XA.hg, XA.l1, XA.l2⟩⟩
      simp [MC, BE.abn, BE.ackd, X.ack, hd, hfl]
    · rw [if_neg hk2] at hN
      rw [hN]
      by_cases hk3 : u.kind = 2
      · have hk4 : ¬ u.fore = ((aft e.acc 1 : Nat) : Int) := fun h => hk2 ⟨hk3, h⟩
        simp only [sx, x_box, x_alloc, x_bslice, x_slice, x_append, x_b2s, xop, ev, evs, evParts, fillL, cellsL, Ai.get, Ai.put, stab, isNil?, if_false, if_true, addr?, int?, str?, agg?, bool?, shiftA, FnPost, xresL, xres1, tup, argEnv, ptr, Nat.reduceEqDiff, reduceIte, beq_self_eq_true, ne_eq, Nat.reduceAdd, Nat.reduceMul, Nat.reduceSub, abin_shl, abin_shr, load1V, loadV, storeV, cellsAt, getN, setN, allocV, lenL, lenS, bnd, oneC, Value.oneCell', Nat.reduceLeDiff, Nat.reduceLT, exists_eq_left', forall_const, reduceCtorEq, app_new, app_new0, List.append_assoc, Int.reduceToNat, Int.reduceLT, Int.reduceLE, Int.reduceEq, Int.reduceNe, Int.reduceBEq, IntKind.bits, bne_self_eq_false, Int.reducePow, hR, hM1, hw3, hw4, hw5, h128, hwr, set_here, sMR, List.set_set, hw6, hmx, List.foldlM_cons, List.foldlM_nil, hk3, hk4, hwf, hwa, hwb]
        refine ⟨rfl, F1.trans (Fr.set _ rfl) fun B h => .inl h.symm, a + d, ?_, XA⟩
        simp [MC, BE.abn, BE.ackd, X.ack, hd, hfl]
      · simp only [sx, x_box, x_alloc, x_bslice, x_slice, x_append, x_b2s, xop, ev, evs, evParts, fillL, cellsL, Ai.get, Ai.put, stab, isNil?, if_false, if_true, addr?, int?, str?, agg?, bool?, shiftA, FnPost, xresL, xres1, tup, argEnv, ptr, Nat.reduceEqDiff, reduceIte, beq_self_eq_true, ne_eq, Nat.reduceAdd, Nat.reduceMul, Nat.reduceSub, abin_shl, abin_shr, load1V, loadV, storeV, cellsAt, getN, setN, allocV, lenL, lenS, bnd, oneC, Value.oneCell', Nat.reduceLeDiff, Nat.reduceLT, exists_eq_left', forall_const, reduceCtorEq, app_new, app_new0, List.append_assoc, Int.reduceToNat, Int.reduceLT, Int.reduceLE, Int.reduceEq, Int.reduceNe, Int.reduceBEq, IntKind.bits, bne_self_eq_false, Int.reducePow, hR, hM1, hw3, hw4, hw5, h128, hwr, set_here, sMR, List.set_set, hw6, hmx, List.foldlM_cons, List.foldlM_nil, hk3]
        refine ⟨rfl, F1.trans (Fr.set _ rfl) fun B h => .inl h.symm, a + d, ?_, XA⟩
        simp [MC, BE.abn, BE.ackd, X.ack, hd, hfl]
end Go.Proofs.Ytkbpfebohpdgbaa
