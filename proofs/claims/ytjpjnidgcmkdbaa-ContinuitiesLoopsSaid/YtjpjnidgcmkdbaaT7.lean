import Derived.Test.YtjpjnidgcmkdbaaT4
set_option linter.unusedVariables false
set_option linter.unusedSimpArgs false
namespace Go.Proofs.Ytjpjnidgcmkdbaa
open Go Go.Ai Go.Proofs

def StepP (h : AHeap) (X L : Nat) (w p m : Int) (cs : List Cir) (sl : Value) (ms : List Msg) (h' : AHeap) (cs' : List Cir) (new : List Msg) : Prop :=
  ∃ sl', EndAt h' X L w p m cs' sl' (ms ++ new) ∧ FrE h h' X L sl ∧ Grew h sl sl'
theorem FrE.refl (h : AHeap) (X L : Nat) (sl : Value) : FrE h h X L sl := ⟨Nat.le_refl _, fun _ _ _ _ _ => rfl⟩
theorem FrE.ap (h t : AHeap) (X L : Nat) (sl : Value) : FrE h (h ++ t) X L sl := ⟨by simp, fun B hB _ _ _ => List.getElem?_append_left hB⟩
theorem StepP.none {h : AHeap} {X L : Nat} {w p m : Int} {cs : List Cir} {sl : Value} {ms : List Msg} (E : EndAt h X L w p m cs sl ms) (J : AHeap) : StepP h X L w p m cs sl ms (h ++ J) cs [] :=
  ⟨sl, by simpa using E.app J, FrE.ap _ _ _ _ _, .inl rfl⟩
theorem StepP.app {h t h' : AHeap} {X L : Nat} {w p m : Int} {cs cs' : List Cir} {sl : Value} {ms new : List Msg} (s : StepP (h ++ t) X L w p m cs sl ms h' cs' new) : StepP h X L w p m cs sl ms h' cs' new := by
  obtain ⟨sl', E, f, g⟩ := s
  exact ⟨sl', E, f.app, g.app⟩
theorem StepP.trans {h h1 h2 : AHeap} {X L : Nat} {w p m : Int} {cs cs1 cs2 : List Cir} {sl : Value} {ms n1 n2 : List Msg} (a : StepP h X L w p m cs sl ms h1 cs1 n1) (b : ∀ sl1, EndAt h1 X L w p m cs1 sl1 (ms ++ n1) → StepP h1 X L w p m cs1 sl1 (ms ++ n1) h2 cs2 n2) : StepP h X L w p m cs sl ms h2 cs2 (n1 ++ n2) := by
  obtain ⟨sl1, E1, f1, g1⟩ := a
  obtain ⟨sl2, E2, f2, g2⟩ := b sl1 E1
  exact ⟨sl2, by rw [← List.append_assoc]; exact E2, f1.trans g1 f2, g1.trans f1.1 g2⟩

section
variable {h : AHeap} {X L : Nat} {w p m : Int} {cs : List Cir} {sl : Value} {ms : List Msg}
/-- a store in a circuit's row, as a step -/
theorem enter_step {i : Nat} {c : Cir} {s : Int} (E : EndAt h X L w p m cs sl ms) (hc : cs[i]? = some c) :
    Valid Try.prog 23 [.pointer (some ⟨L, i * 4, none⟩), .int .u8 s] h fun r h' => StepP h X L w p m cs sl ms h' (cs.set i ⟨s, 0, c.tries, c.lp⟩) [] := by
  refine (enter_cir E hc).mono ?_
  rintro r h' ⟨E', l', f'⟩
  exact ⟨sl, by simpa using E', ⟨by omega, fun B _ _ h2 _ => f' B h2⟩, .inl rfl⟩
theorem send_step {kd code : Int} {good : Bool} (E : EndAt h X L w p m cs sl ms) (hn : ms.length < 65536) :
    Valid Try.prog 22 [ptr X 0, .int .u8 kd, .int .i64 code, .bool good] h fun r h' => StepP h X L w p m cs sl ms h' cs [⟨kd, code, good⟩] := by
  refine (send_ok E hn).mono ?_
  rintro r h' ⟨sl', E', ⟨A, e, hl⟩, l', f'⟩
  exact ⟨sl', E', ⟨l', fun B hB h1 _ h3 => f' B hB h1 h3⟩, .inr ⟨A, e, hl⟩⟩
theorem store_step {i j : Nat} {c e : Cir} {v : Value} (E : EndAt h X L w p m cs sl ms) (hc : cs[i]? = some c) (hj : j < 4) (he : e.cells = c.cells.set j v) :
    StepP h X L w p m cs sl ms (h.set L (some ⟨true, (rowsC cs).set (i * 4 + j) v⟩)) (cs.set i e) [] := by
  obtain ⟨E', f'⟩ := E.store hc hj he
  exact ⟨sl, by simpa using E', ⟨by simp, fun B _ _ h2 _ => f' B h2⟩, .inl rfl⟩
end

section
variable {h : AHeap} {X L : Nat} {w p m : Int} {cs : List Cir} {sl : Value} {ms : List Msg} {k : Int} {c : Cir} {b0 b1 : Nat}
theorem tone1_ok (E : EndAt h X L w p m cs sl ms) (h0 : 0 ≤ k) (h1 : k < cs.length) (hc : cs[k.toNat]? = some c) (hn : ms.length < 65536)
    (hb0 : h[b0]? = some (some ⟨true, [ptr X 0]⟩)) (hb1 : h[b1]? = some (some ⟨true, [.int .i64 k]⟩)) (f0 : b0 ≠ X ∧ b0 ≠ L ∧ slB sl ≠ some b0) (f1 : b1 ≠ X ∧ b1 ≠ L ∧ slB sl ≠ some b1) :
    Valid Try.prog 29 [.pointer (some ⟨L, k.toNat * 4, none⟩), ptr b0 0, ptr b1 0] h fun r h' => (c.st ≠ 2 → r = .int .i64 6 ∧ h' = h) ∧
      (c.st = 2 → r = .int .i64 0 ∧ StepP h X L w p m cs sl ms h' (cs.set k.toNat ⟨4, 0, c.tries, c.lp⟩) [⟨3, k, true⟩]) := by
  refine v29 (by simp) ?_
  have hL := E.row
  have g0 : (rowsC cs)[k.toNat * 4]? = some (.int .u8 c.st) := by have := rowsC_get 0 (by omega) hc; rw [Nat.add_zero] at this; rw [this]; rfl
  by_cases hs : c.st = 2
  · simp only [X29, sx, x_box, x_alloc, x_bslice, x_slice, x_append, x_b2s, xop, ev, evs, evParts, fillL, cellsL, Ai.get, Ai.put, stab, isNil?, if_false, if_true, addr?, int?, str?, agg?, bool?, shiftA, FnPost, xresL, xres1, tup, argEnv, ptr, Nat.reduceEqDiff, reduceIte, beq_self_eq_true, ne_eq, Nat.reduceAdd, Nat.reduceMul, Nat.reduceSub, abin_shl, abin_shr, load1V, loadV, storeV, cellsAt, getN, setN, allocV, lenL, lenS, bnd, oneC, Value.oneCell', Nat.reduceLeDiff, Nat.reduceLT, exists_eq_left', forall_const, reduceCtorEq, app_new, app_new0, List.append_assoc, Int.reduceToNat, Int.reduceLT, Int.reduceLE, Int.reduceEq, Int.reduceNe, Int.reduceBEq, IntKind.bits, bne_self_eq_false, Int.reducePow, hL, g0, hs]
    refine xcall (enter_step E hc) (by rfl) (by rfl) (by rfl) (by rfl) ?_
    rintro v h2 s2
    obtain ⟨sl2, E2, F2, G2⟩ := id s2
    have e0 : h2[b0]? = some (some ⟨true, [ptr X 0]⟩) := by rw [F2.2 b0 (lt_of_get hb0) f0.1 f0.2.1 f0.2.2]; exact hb0
    have e1 : h2[b1]? = some (some ⟨true, [.int .i64 k]⟩) := by rw [F2.2 b1 (lt_of_get hb1) f1.1 f1.2.1 f1.2.2]; exact hb1
    unfold ptr at e0
    simp only [sx, x_box, x_alloc, x_bslice, x_slice, x_append, x_b2s, xop, ev, evs, evParts, fillL, cellsL, Ai.get, Ai.put, stab, isNil?, if_false, if_true, addr?, int?, str?, agg?, bool?, shiftA, FnPost, xresL, xres1, tup, argEnv, ptr, Nat.reduceEqDiff, reduceIte, beq_self_eq_true, ne_eq, Nat.reduceAdd, Nat.reduceMul, Nat.reduceSub, abin_shl, abin_shr, load1V, loadV, storeV, cellsAt, getN, setN, allocV, lenL, lenS, bnd, oneC, Value.oneCell', Nat.reduceLeDiff, Nat.reduceLT, exists_eq_left', forall_const, reduceCtorEq, app_new, app_new0, List.append_assoc, Int.reduceToNat, Int.reduceLT, Int.reduceLE, Int.reduceEq, Int.reduceNe, Int.reduceBEq, IntKind.bits, bne_self_eq_false, Int.reducePow, e0, e1]
    refine xcall (send_step E2 (by simpa using hn)) (by rfl) (by rfl) (by rfl) (by rfl) ?_
    rintro v h3 s3
    simp only [sx, x_box, x_alloc, x_bslice, x_slice, x_append, x_b2s, xop, ev, evs, evParts, fillL, cellsL, Ai.get, Ai.put, stab, isNil?, if_false, if_true, addr?, int?, str?, agg?, bool?, shiftA, FnPost, xresL, xres1, tup, argEnv, ptr, Nat.reduceEqDiff, reduceIte, beq_self_eq_true, ne_eq, Nat.reduceAdd, Nat.reduceMul, Nat.reduceSub, abin_shl, abin_shr, load1V, loadV, storeV, cellsAt, getN, setN, allocV, lenL, lenS, bnd, oneC, Value.oneCell', Nat.reduceLeDiff, Nat.reduceLT, exists_eq_left', forall_const, reduceCtorEq, app_new, app_new0, List.append_assoc, Int.reduceToNat, Int.reduceLT, Int.reduceLE, Int.reduceEq, Int.reduceNe, Int.reduceBEq, IntKind.bits, bne_self_eq_false, Int.reducePow]
    obtain ⟨sl3, E3, F3, G3⟩ := s3
    exact ⟨sl3, by simpa using E3, F2.trans G2 F3, G2.trans F2.1 G3⟩
  · simp [X29, sx, x_box, x_alloc, x_bslice, x_slice, x_append, x_b2s, xop, ev, evs, evParts, fillL, cellsL, Ai.get, Ai.put, stab, isNil?, if_false, if_true, addr?, int?, str?, agg?, bool?, shiftA, FnPost, xresL, xres1, tup, argEnv, ptr, Nat.reduceEqDiff, reduceIte, beq_self_eq_true, ne_eq, Nat.reduceAdd, Nat.reduceMul, Nat.reduceSub, abin_shl, abin_shr, load1V, loadV, storeV, cellsAt, getN, setN, allocV, lenL, lenS, bnd, oneC, Value.oneCell', Nat.reduceLeDiff, Nat.reduceLT, exists_eq_left', forall_const, reduceCtorEq, app_new, app_new0, List.append_assoc, Int.reduceToNat, Int.reduceLT, Int.reduceLE, Int.reduceEq, Int.reduceNe, Int.reduceBEq, IntKind.bits, bne_self_eq_false, Int.reducePow, hL, g0, hs]
theorem stop1_ok (E : EndAt h X L w p m cs sl ms) (h0 : 0 ≤ k) (h1 : k < cs.length) (hc : cs[k.toNat]? = some c) (hn : ms.length < 65536)
    (hb0 : h[b0]? = some (some ⟨true, [ptr X 0]⟩)) (hb1 : h[b1]? = some (some ⟨true, [.int .i64 k]⟩)) :
    Valid Try.prog 30 [.pointer (some ⟨L, k.toNat * 4, none⟩), ptr b0 0, ptr b1 0] h fun r h' => r = .int .i64 0 ∧ ∃ new, StepP h X L w p m cs sl ms h' (cs.set k.toNat ⟨0, 0, c.tries, c.lp⟩) new ∧ new = if c.st = 1 ∨ c.st = 2 then [⟨3, k, false⟩] else [] := by
  refine v30 (by simp) ?_
  have hL := E.row
  have g0 : (rowsC cs)[k.toNat * 4]? = some (.int .u8 c.st) := by have := rowsC_get 0 (by omega) hc; rw [Nat.add_zero] at this; rw [this]; rfl
  unfold ptr at hb0
  by_cases hs : c.st = 1 ∨ c.st = 2
  · rcases hs with hs | hs
    · simp only [X30, sx, x_box, x_alloc, x_bslice, x_slice, x_append, x_b2s, xop, ev, evs, evParts, fillL, cellsL, Ai.get, Ai.put, stab, isNil?, if_false, if_true, addr?, int?, str?, agg?, bool?, shiftA, FnPost, xresL, xres1, tup, argEnv, ptr, Nat.reduceEqDiff, reduceIte, beq_self_eq_true, ne_eq, Nat.reduceAdd, Nat.reduceMul, Nat.reduceSub, abin_shl, abin_shr, load1V, loadV, storeV, cellsAt, getN, setN, allocV, lenL, lenS, bnd, oneC, Value.oneCell', Nat.reduceLeDiff, Nat.reduceLT, exists_eq_left', forall_const, reduceCtorEq, app_new, app_new0, List.append_assoc, Int.reduceToNat, Int.reduceLT, Int.reduceLE, Int.reduceEq, Int.reduceNe, Int.reduceBEq, IntKind.bits, bne_self_eq_false, Int.reducePow, hL, g0, hs, hb0, hb1]
      refine xcall (send_step E hn) (by rfl) (by rfl) (by rfl) (by rfl) ?_
      rintro v h2 ⟨sl2, E2, F2, G2⟩
      simp only [sx, x_box, x_alloc, x_bslice, x_slice, x_append, x_b2s, xop, ev, evs, evParts, fillL, cellsL, Ai.get, Ai.put, stab, isNil?, if_false, if_true, addr?, int?, str?, agg?, bool?, shiftA, FnPost, xresL, xres1, tup, argEnv, ptr, Nat.reduceEqDiff, reduceIte, beq_self_eq_true, ne_eq, Nat.reduceAdd, Nat.reduceMul, Nat.reduceSub, abin_shl, abin_shr, load1V, loadV, storeV, cellsAt, getN, setN, allocV, lenL, lenS, bnd, oneC, Value.oneCell', Nat.reduceLeDiff, Nat.reduceLT, exists_eq_left', forall_const, reduceCtorEq, app_new, app_new0, List.append_assoc, Int.reduceToNat, Int.reduceLT, Int.reduceLE, Int.reduceEq, Int.reduceNe, Int.reduceBEq, IntKind.bits, bne_self_eq_false, Int.reducePow]
      refine xcall (enter_step E2 hc) (by rfl) (by rfl) (by rfl) (by rfl) ?_
      rintro v h3 ⟨sl3, E3, F3, G3⟩
      simp only [sx, x_box, x_alloc, x_bslice, x_slice, x_append, x_b2s, xop, ev, evs, evParts, fillL, cellsL, Ai.get, Ai.put, stab, isNil?, if_false, if_true, addr?, int?, str?, agg?, bool?, shiftA, FnPost, xresL, xres1, tup, argEnv, ptr, Nat.reduceEqDiff, reduceIte, beq_self_eq_true, ne_eq, Nat.reduceAdd, Nat.reduceMul, Nat.reduceSub, abin_shl, abin_shr, load1V, loadV, storeV, cellsAt, getN, setN, allocV, lenL, lenS, bnd, oneC, Value.oneCell', Nat.reduceLeDiff, Nat.reduceLT, exists_eq_left', forall_const, reduceCtorEq, app_new, app_new0, List.append_assoc, Int.reduceToNat, Int.reduceLT, Int.reduceLE, Int.reduceEq, Int.reduceNe, Int.reduceBEq, IntKind.bits, bne_self_eq_false, Int.reducePow]
      exact ⟨_, ⟨sl3, by simpa using E3, F2.trans G2 F3, G2.trans F2.1 G3⟩, by simp⟩
    · simp only [X30, sx, x_box, x_alloc, x_bslice, x_slice, x_append, x_b2s, xop, ev, evs, evParts, fillL, cellsL, Ai.get, Ai.put, stab, isNil?, if_false, if_true, addr?, int?, str?, agg?, bool?, shiftA, FnPost, xresL, xres1, tup, argEnv, ptr, Nat.reduceEqDiff, reduceIte, beq_self_eq_true, ne_eq, Nat.reduceAdd, Nat.reduceMul, Nat.reduceSub, abin_shl, abin_shr, load1V, loadV, storeV, cellsAt, getN, setN, allocV, lenL, lenS, bnd, oneC, Value.oneCell', Nat.reduceLeDiff, Nat.reduceLT, exists_eq_left', forall_const, reduceCtorEq, app_new, app_new0, List.append_assoc, Int.reduceToNat, Int.reduceLT, Int.reduceLE, Int.reduceEq, Int.reduceNe, Int.reduceBEq, IntKind.bits, bne_self_eq_false, Int.reducePow, hL, g0, hs, hb0, hb1]
      refine xcall (send_step E hn) (by rfl) (by rfl) (by rfl) (by rfl) ?_
      rintro v h2 ⟨sl2, E2, F2, G2⟩
      simp only [sx, x_box, x_alloc, x_bslice, x_slice, x_append, x_b2s, xop, ev, evs, evParts, fillL, cellsL, Ai.get, Ai.put, stab, isNil?, if_false, if_true, addr?, int?, str?, agg?, bool?, shiftA, FnPost, xresL, xres1, tup, argEnv, ptr, Nat.reduceEqDiff, reduceIte, beq_self_eq_true, ne_eq, Nat.reduceAdd, Nat.reduceMul, Nat.reduceSub, abin_shl, abin_shr, load1V, loadV, storeV, cellsAt, getN, setN, allocV, lenL, lenS, bnd, oneC, Value.oneCell', Nat.reduceLeDiff, Nat.reduceLT, exists_eq_left', forall_const, reduceCtorEq, app_new, app_new0, List.append_assoc, Int.reduceToNat, Int.reduceLT, Int.reduceLE, Int.reduceEq, Int.reduceNe, Int.reduceBEq, IntKind.bits, bne_self_eq_false, Int.reducePow]
      refine xcall (enter_step E2 hc) (by rfl) (by rfl) (by rfl) (by rfl) ?_
      rintro v h3 ⟨sl3, E3, F3, G3⟩
      simp only [sx, x_box, x_alloc, x_bslice, x_slice, x_append, x_b2s, xop, ev, evs, evParts, fillL, cellsL, Ai.get, Ai.put, stab, isNil?, if_false, if_true, addr?, int?, str?, agg?, bool?, shiftA, FnPost, xresL, xres1, tup, argEnv, ptr, Nat.reduceEqDiff, reduceIte, beq_self_eq_true, ne_eq, Nat.reduceAdd, Nat.reduceMul, Nat.reduceSub, abin_shl, abin_shr, load1V, loadV, storeV, cellsAt, getN, setN, allocV, lenL, lenS, bnd, oneC, Value.oneCell', Nat.reduceLeDiff, Nat.reduceLT, exists_eq_left', forall_const, reduceCtorEq, app_new, app_new0, List.append_assoc, Int.reduceToNat, Int.reduceLT, Int.reduceLE, Int.reduceEq, Int.reduceNe, Int.reduceBEq, IntKind.bits, bne_self_eq_false, Int.reducePow]
      exact ⟨_, ⟨sl3, by simpa using E3, F2.trans G2 F3, G2.trans F2.1 G3⟩, by simp⟩
  · have hs1 : ¬ c.st = 1 := fun h => hs (.inl h)
    have hs2 : ¬ c.st = 2 := fun h => hs (.inr h)
    simp only [X30, sx, x_box, x_alloc, x_bslice, x_slice, x_append, x_b2s, xop, ev, evs, evParts, fillL, cellsL, Ai.get, Ai.put, stab, isNil?, if_false, if_true, addr?, int?, str?, agg?, bool?, shiftA, FnPost, xresL, xres1, tup, argEnv, ptr, Nat.reduceEqDiff, reduceIte, beq_self_eq_true, ne_eq, Nat.reduceAdd, Nat.reduceMul, Nat.reduceSub, abin_shl, abin_shr, load1V, loadV, storeV, cellsAt, getN, setN, allocV, lenL, lenS, bnd, oneC, Value.oneCell', Nat.reduceLeDiff, Nat.reduceLT, exists_eq_left', forall_const, reduceCtorEq, app_new, app_new0, List.append_assoc, Int.reduceToNat, Int.reduceLT, Int.reduceLE, Int.reduceEq, Int.reduceNe, Int.reduceBEq, IntKind.bits, bne_self_eq_false, Int.reducePow, hL, g0, hs1, hs2]
    refine xcall (enter_step E hc) (by rfl) (by rfl) (by rfl) (by rfl) ?_
    rintro v h3 s3
    simp only [sx, x_box, x_alloc, x_bslice, x_slice, x_append, x_b2s, xop, ev, evs, evParts, fillL, cellsL, Ai.get, Ai.put, stab, isNil?, if_false, if_true, addr?, int?, str?, agg?, bool?, shiftA, FnPost, xresL, xres1, tup, argEnv, ptr, Nat.reduceEqDiff, reduceIte, beq_self_eq_true, ne_eq, Nat.reduceAdd, Nat.reduceMul, Nat.reduceSub, abin_shl, abin_shr, load1V, loadV, storeV, cellsAt, getN, setN, allocV, lenL, lenS, bnd, oneC, Value.oneCell', Nat.reduceLeDiff, Nat.reduceLT, exists_eq_left', forall_const, reduceCtorEq, app_new, app_new0, List.append_assoc, Int.reduceToNat, Int.reduceLT, Int.reduceLE, Int.reduceEq, Int.reduceNe, Int.reduceBEq, IntKind.bits, bne_self_eq_false, Int.reducePow]
    exact ⟨_, s3, by simp⟩
end
end Go.Proofs.Ytjpjnidgcmkdbaa
