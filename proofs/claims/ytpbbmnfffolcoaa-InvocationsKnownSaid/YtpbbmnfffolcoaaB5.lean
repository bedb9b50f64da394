import Derived.Test.YtpbbmnfffolcoaaB4
set_option linter.unusedVariables false
set_option linter.unusedSimpArgs false
namespace Go.Proofs.Ytpbbmnfffolcoaa
open Go Go.Ai Go.Proofs

theorem reject_ok {h : AHeap} {id p : Int} : Valid Try.prog 28 [.int .i64 id, .int .u8 p] h fun r h' => r = .tuple #[.agg #[.int .u8 5, .int .i64 id, .int .i64 0, .int .i64 0, .int .u8 p, .slice none 0 0], .bool true, .int .i64 0] ∧ Kp h h' := by
  refine v28 (by simp) ?_
  simp only [X28, sx, x_box, x_alloc, x_bslice, x_slice, x_append, x_appz, x_b2s, x_s2b, x_mark, xop, ev, evs, evParts, fillL, cellsL, Ai.get, Ai.put, stab, isNil?, if_false, if_true, addr?, int?, str?, agg?, bool?, shiftA, FnPost, xresL, xres1, tup, argEnv, ptr, Nat.reduceEqDiff, reduceIte, beq_self_eq_true, ne_eq, Nat.reduceAdd, Nat.reduceMul, Nat.reduceSub, abin_shl, abin_shr, load1V, loadV, storeV, cellsAt, getN, setN, allocV, lenL, lenS, bnd, oneC, Value.oneCell', Nat.reduceLeDiff, Nat.reduceLT, exists_eq_left', forall_const, reduceCtorEq, app_new, app_new0, List.append_assoc, Int.reduceToNat, Int.reduceLT, Int.reduceLE, Int.reduceEq, Int.reduceNe, Int.reduceBEq, IntKind.bits, bne_self_eq_false, Int.reducePow]
  exact Kp.app _ _
def fitsB (x : Iv) (m : Cm) : Bool := if m.k = 4 then decide (x.cl = 1 ∨ x.cl = 2) else decide (m.cd = x.op ∧ (x.cl = 1 ∨ x.cl = 3) ∧ x.pb.length + m.val.length ≤ 65536)
set_option maxHeartbeats 4000000 in
theorem fits_ok {h : AHeap} {v : Value} {x : Iv} {pv : Value} {m : Cm} (hp : BytesV h pv x.pb) (hm : CMV h v m) (h1 : x.pb.length ≤ 1000000) (h2 : m.val.length ≤ 1000000) : Valid Try.prog 29 [.agg (rwC (x, pv)).toArray, v] h fun r h' => r = .bool (fitsB x m) ∧ Kp h h' := by
  refine v29 (by simp) ?_
  obtain ⟨vv, rfl, V⟩ := hm
  obtain ⟨q, c, rfl⟩ := V.shape
  obtain ⟨q', c', rfl⟩ := hp.shape
  simp only [X29, Cm.cells, rwC, sx, x_alloc, x_bslice, x_slice, x_append, x_appz, x_b2s, x_s2b, x_mark, xop, ev, evs, evParts, fillL, cellsL, Ai.get, Ai.put, stab, isNil?, if_false, if_true, addr?, int?, str?, agg?, bool?, shiftA, FnPost, xresL, xres1, tup, argEnv, ptr, Nat.reduceEqDiff, reduceIte, beq_self_eq_true, ne_eq, Nat.reduceAdd, Nat.reduceMul, Nat.reduceSub, abin_shl, abin_shr, load1V, loadV, storeV, cellsAt, getN, setN, allocV, lenL, lenS, bnd, oneC, Value.oneCell', Nat.reduceLeDiff, Nat.reduceLT, exists_eq_left', forall_const, reduceCtorEq, app_new, app_new0, List.append_assoc, Int.reduceToNat, Int.reduceLT, Int.reduceLE, Int.reduceEq, Int.reduceNe, Int.reduceBEq, IntKind.bits, bne_self_eq_false, Int.reducePow]
  refine box_run rfl fun g1 R1 K1 hR1 hRl1 _ => ⟨trivial, ?_⟩
  simp only [cellsL] at hR1
  simp only [sx, x_alloc, x_bslice, x_slice, x_append, x_appz, x_b2s, x_s2b, x_mark, xop, ev, evs, evParts, fillL, cellsL, Ai.get, Ai.put, stab, isNil?, if_false, if_true, addr?, int?, str?, agg?, bool?, shiftA, FnPost, xresL, xres1, tup, argEnv, ptr, Nat.reduceEqDiff, reduceIte, beq_self_eq_true, ne_eq, Nat.reduceAdd, Nat.reduceMul, Nat.reduceSub, abin_shl, abin_shr, load1V, loadV, storeV, cellsAt, getN, setN, allocV, lenL, lenS, bnd, oneC, Value.oneCell', Nat.reduceLeDiff, Nat.reduceLT, exists_eq_left', forall_const, reduceCtorEq, app_new, app_new0, List.append_assoc, Int.reduceToNat, Int.reduceLT, Int.reduceLE, Int.reduceEq, Int.reduceNe, Int.reduceBEq, IntKind.bits, bne_self_eq_false, Int.reducePow]
  refine box_run rfl fun g2 R2 K2 hR2 hRl2 _ => ⟨trivial, ?_⟩
  simp only [cellsL] at hR2
  have hR1' := K2.get hR1
  have KK := K1.trans K2
  by_cases k4 : m.k = 4
  · by_cases c1 : x.cl = 1
    · simp only [sx, x_box, x_alloc, x_bslice, x_slice, x_append, x_appz, x_b2s, x_s2b, x_mark, xop, ev, evs, evParts, fillL, cellsL, Ai.get, Ai.put, stab, isNil?, if_false, if_true, addr?, int?, str?, agg?, bool?, shiftA, FnPost, xresL, xres1, tup, argEnv, ptr, Nat.reduceEqDiff, reduceIte, beq_self_eq_true, ne_eq, Nat.reduceAdd, Nat.reduceMul, Nat.reduceSub, abin_shl, abin_shr, load1V, loadV, storeV, cellsAt, getN, setN, allocV, lenL, lenS, bnd, oneC, Value.oneCell', Nat.reduceLeDiff, Nat.reduceLT, exists_eq_left', forall_const, reduceCtorEq, app_new, app_new0, List.append_assoc, Int.reduceToNat, Int.reduceLT, Int.reduceLE, Int.reduceEq, Int.reduceNe, Int.reduceBEq, IntKind.bits, bne_self_eq_false, Int.reducePow, hR1', hR2, k4, c1]
      exact ⟨(by unfold fitsB; simp [k4, c1]), KK⟩
    · by_cases c2 : x.cl = 2
      · have c21 : ¬ (2 : Int) = 1 := by decide
        simp only [sx, x_box, x_alloc, x_bslice, x_slice, x_append, x_appz, x_b2s, x_s2b, x_mark, xop, ev, evs, evParts, fillL, cellsL, Ai.get, Ai.put, stab, isNil?, if_false, if_true, addr?, int?, str?, agg?, bool?, shiftA, FnPost, xresL, xres1, tup, argEnv, ptr, Nat.reduceEqDiff, reduceIte, beq_self_eq_true, ne_eq, Nat.reduceAdd, Nat.reduceMul, Nat.reduceSub, abin_shl, abin_shr, load1V, loadV, storeV, cellsAt, getN, setN, allocV, lenL, lenS, bnd, oneC, Value.oneCell', Nat.reduceLeDiff, Nat.reduceLT, exists_eq_left', forall_const, reduceCtorEq, app_new, app_new0, List.append_assoc, Int.reduceToNat, Int.reduceLT, Int.reduceLE, Int.reduceEq, Int.reduceNe, Int.reduceBEq, IntKind.bits, bne_self_eq_false, Int.reducePow, hR1', hR2, k4, c2, c21]
        exact ⟨(by unfold fitsB; simp [k4, c2]), KK⟩
      · simp only [sx, x_box, x_alloc, x_bslice, x_slice, x_append, x_appz, x_b2s, x_s2b, x_mark, xop, ev, evs, evParts, fillL, cellsL, Ai.get, Ai.put, stab, isNil?, if_false, if_true, addr?, int?, str?, agg?, bool?, shiftA, FnPost, xresL, xres1, tup, argEnv, ptr, Nat.reduceEqDiff, reduceIte, beq_self_eq_true, ne_eq, Nat.reduceAdd, Nat.reduceMul, Nat.reduceSub, abin_shl, abin_shr, load1V, loadV, storeV, cellsAt, getN, setN, allocV, lenL, lenS, bnd, oneC, Value.oneCell', Nat.reduceLeDiff, Nat.reduceLT, exists_eq_left', forall_const, reduceCtorEq, app_new, app_new0, List.append_assoc, Int.reduceToNat, Int.reduceLT, Int.reduceLE, Int.reduceEq, Int.reduceNe, Int.reduceBEq, IntKind.bits, bne_self_eq_false, Int.reducePow, hR1', hR2, k4, c1, c2]
        exact ⟨(by unfold fitsB; simp [k4, c1, c2]), KK⟩
  · have ef : fitsB x m = decide (m.cd = x.op ∧ (x.cl = 1 ∨ x.cl = 3) ∧ x.pb.length + m.val.length ≤ 65536) := by unfold fitsB; rw [if_neg k4]
    have ws : IntKind.i64.wrap ((x.pb.length : Int) + (m.val.length : Int)) = ((x.pb.length + m.val.length : Nat) : Int) := by rw [i64_wrap] <;> omega
    by_cases d1 : m.cd = x.op
    · have rest : ∀ hc : x.cl = 1 ∨ x.cl = 3, fitsB x m = decide (x.pb.length + m.val.length ≤ 65536) := fun hc => by
        rw [ef, decide_eq_decide]
        exact ⟨fun h => h.2.2, fun h => ⟨d1, hc, h⟩⟩
      by_cases c1 : x.cl = 1
      · by_cases hl : x.pb.length + m.val.length ≤ 65536
        · have hl' : ((x.pb.length + m.val.length : Nat) : Int) ≤ 65536 := by omega
          simp only [sx, x_box, x_alloc, x_bslice, x_slice, x_append, x_appz, x_b2s, x_s2b, x_mark, xop, ev, evs, evParts, fillL, cellsL, Ai.get, Ai.put, stab, isNil?, if_false, if_true, addr?, int?, str?, agg?, bool?, shiftA, FnPost, xresL, xres1, tup, argEnv, ptr, Nat.reduceEqDiff, reduceIte, beq_self_eq_true, ne_eq, Nat.reduceAdd, Nat.reduceMul, Nat.reduceSub, abin_shl, abin_shr, load1V, loadV, storeV, cellsAt, getN, setN, allocV, lenL, lenS, bnd, oneC, Value.oneCell', Nat.reduceLeDiff, Nat.reduceLT, exists_eq_left', forall_const, reduceCtorEq, app_new, app_new0, List.append_assoc, Int.reduceToNat, Int.reduceLT, Int.reduceLE, Int.reduceEq, Int.reduceNe, Int.reduceBEq, IntKind.bits, bne_self_eq_false, Int.reducePow, hR1', hR2, k4, d1, c1, ws, hl']
          exact ⟨(by rw [rest (.inl c1)]; simp [hl]), KK⟩
        · have hl' : ¬ ((x.pb.length + m.val.length : Nat) : Int) ≤ 65536 := by omega
          simp only [sx, x_box, x_alloc, x_bslice, x_slice, x_append, x_appz, x_b2s, x_s2b, x_mark, xop, ev, evs, evParts, fillL, cellsL, Ai.get, Ai.put, stab, isNil?, if_false, if_true, addr?, int?, str?, agg?, bool?, shiftA, FnPost, xresL, xres1, tup, argEnv, ptr, Nat.reduceEqDiff, reduceIte, beq_self_eq_true, ne_eq, Nat.reduceAdd, Nat.reduceMul, Nat.reduceSub, abin_shl, abin_shr, load1V, loadV, storeV, cellsAt, getN, setN, allocV, lenL, lenS, bnd, oneC, Value.oneCell', Nat.reduceLeDiff, Nat.reduceLT, exists_eq_left', forall_const, reduceCtorEq, app_new, app_new0, List.append_assoc, Int.reduceToNat, Int.reduceLT, Int.reduceLE, Int.reduceEq, Int.reduceNe, Int.reduceBEq, IntKind.bits, bne_self_eq_false, Int.reducePow, hR1', hR2, k4, d1, c1, ws, hl']
          exact ⟨(by rw [rest (.inl c1)]; simp [hl]), KK⟩
      · by_cases c3 : x.cl = 3
        · have c31 : ¬ (3 : Int) = 1 := by decide
          by_cases hl : x.pb.length + m.val.length ≤ 65536
          · have hl' : ((x.pb.length + m.val.length : Nat) : Int) ≤ 65536 := by omega
            simp only [sx, x_box, x_alloc, x_bslice, x_slice, x_append, x_appz, x_b2s, x_s2b, x_mark, xop, ev, evs, evParts, fillL, cellsL, Ai.get, Ai.put, stab, isNil?, if_false, if_true, addr?, int?, str?, agg?, bool?, shiftA, FnPost, xresL, xres1, tup, argEnv, ptr, Nat.reduceEqDiff, reduceIte, beq_self_eq_true, ne_eq, Nat.reduceAdd, Nat.reduceMul, Nat.reduceSub, abin_shl, abin_shr, load1V, loadV, storeV, cellsAt, getN, setN, allocV, lenL, lenS, bnd, oneC, Value.oneCell', Nat.reduceLeDiff, Nat.reduceLT, exists_eq_left', forall_const, reduceCtorEq, app_new, app_new0, List.append_assoc, Int.reduceToNat, Int.reduceLT, Int.reduceLE, Int.reduceEq, Int.reduceNe, Int.reduceBEq, IntKind.bits, bne_self_eq_false, Int.reducePow, hR1', hR2, k4, d1, c3, c31, ws, hl']
            exact ⟨(by rw [rest (.inr c3)]; simp [hl]), KK⟩
          · have hl' : ¬ ((x.pb.length + m.val.length : Nat) : Int) ≤ 65536 := by omega
            simp only [sx, x_box, x_alloc, x_bslice, x_slice, x_append, x_appz, x_b2s, x_s2b, x_mark, xop, ev, evs, evParts, fillL, cellsL, Ai.get, Ai.put, stab, isNil?, if_false, if_true, addr?, int?, str?, agg?, bool?, shiftA, FnPost, xresL, xres1, tup, argEnv, ptr, Nat.reduceEqDiff, reduceIte, beq_self_eq_true, ne_eq, Nat.reduceAdd, Nat.reduceMul, Nat.reduceSub, abin_shl, abin_shr, load1V, loadV, storeV, cellsAt, getN, setN, allocV, lenL, lenS, bnd, oneC, Value.oneCell', Nat.reduceLeDiff, Nat.reduceLT, exists_eq_left', forall_const, reduceCtorEq, app_new, app_new0, List.append_assoc, Int.reduceToNat, Int.reduceLT, Int.reduceLE, Int.reduceEq, Int.reduceNe, Int.reduceBEq, IntKind.bits, bne_self_eq_false, Int.reducePow, hR1', hR2, k4, d1, c3, c31, ws, hl']
            exact ⟨(by rw [rest (.inr c3)]; simp [hl]), KK⟩
        · simp only [sx, x_box, x_alloc, x_bslice, x_slice, x_append, x_appz, x_b2s, x_s2b, x_mark, xop, ev, evs, evParts, fillL, cellsL, Ai.get, Ai.put, stab, isNil?, if_false, if_true, addr?, int?, str?, agg?, bool?, shiftA, FnPost, xresL, xres1, tup, argEnv, ptr, Nat.reduceEqDiff, reduceIte, beq_self_eq_true, ne_eq, Nat.reduceAdd, Nat.reduceMul, Nat.reduceSub, abin_shl, abin_shr, load1V, loadV, storeV, cellsAt, getN, setN, allocV, lenL, lenS, bnd, oneC, Value.oneCell', Nat.reduceLeDiff, Nat.reduceLT, exists_eq_left', forall_const, reduceCtorEq, app_new, app_new0, List.append_assoc, Int.reduceToNat, Int.reduceLT, Int.reduceLE, Int.reduceEq, Int.reduceNe, Int.reduceBEq, IntKind.bits, bne_self_eq_false, Int.reducePow, hR1', hR2, k4, d1, c1, c3]
          exact ⟨(by rw [ef]; simp [c1, c3]), KK⟩
    · simp only [sx, x_box, x_alloc, x_bslice, x_slice, x_append, x_appz, x_b2s, x_s2b, x_mark, xop, ev, evs, evParts, fillL, cellsL, Ai.get, Ai.put, stab, isNil?, if_false, if_true, addr?, int?, str?, agg?, bool?, shiftA, FnPost, xresL, xres1, tup, argEnv, ptr, Nat.reduceEqDiff, reduceIte, beq_self_eq_true, ne_eq, Nat.reduceAdd, Nat.reduceMul, Nat.reduceSub, abin_shl, abin_shr, load1V, loadV, storeV, cellsAt, getN, setN, allocV, lenL, lenS, bnd, oneC, Value.oneCell', Nat.reduceLeDiff, Nat.reduceLT, exists_eq_left', forall_const, reduceCtorEq, app_new, app_new0, List.append_assoc, Int.reduceToNat, Int.reduceLT, Int.reduceLE, Int.reduceEq, Int.reduceNe, Int.reduceBEq, IntKind.bits, bne_self_eq_false, Int.reducePow, hR1', hR2, k4, d1]
      exact ⟨(by rw [ef]; simp [d1]), KK⟩
def CzI (h0 : AHeap) (m : Nat) (ρ : Env) (h : AHeap) : Prop := get ρ 11 = some (.int .i64 0) ∧ get ρ 10 = some (.int .i64 0) ∧ get ρ 3 = some (.int .i64 0) ∧ get ρ 0 = some (.slice none 0 0) ∧ h = h0
def CzE (h0 : AHeap) (ρ : Env) (h : AHeap) : Prop := get ρ 3 = some (.int .i64 0) ∧ get ρ 0 = some (.slice none 0 0) ∧ h = h0
def CyI (h0 : AHeap) (r : Value) (m : Nat) (ρ : Env) (h : AHeap) : Prop := get ρ 27 = some (.int .i64 0) ∧ get ρ 26 = some (.int .i64 0) ∧ get ρ 6 = some r ∧ h = h0
def CyE (h0 : AHeap) (r : Value) (ρ : Env) (h : AHeap) : Prop := get ρ 6 = some r ∧ h = h0
/-- Concat of nothing -/
theorem cat0_ok {h : AHeap} : Valid Try.prog 30 [.slice none 0 0] h fun r h' => CRr h' r (bN []) ∧ Kp h h' ∧ ∀ A, slB r = some A → h.length ≤ A := by
  refine v30 (by simp) ?_
  have l00 : ¬ (0 : Int) < 0 := by decide
  simp only [X30, sx, x_box, x_alloc, x_bslice, x_slice, x_append, x_appz, x_b2s, x_s2b, x_mark, xop, ev, evs, evParts, fillL, cellsL, Ai.get, Ai.put, stab, isNil?, if_false, if_true, addr?, int?, str?, agg?, bool?, shiftA, FnPost, xresL, xres1, tup, argEnv, ptr, Nat.reduceEqDiff, reduceIte, beq_self_eq_true, ne_eq, Nat.reduceAdd, Nat.reduceMul, Nat.reduceSub, abin_shl, abin_shr, load1V, loadV, storeV, cellsAt, getN, setN, allocV, lenL, lenS, bnd, oneC, Value.oneCell', Nat.reduceLeDiff, Nat.reduceLT, exists_eq_left', forall_const, reduceCtorEq, app_new, app_new0, List.append_assoc, Int.reduceToNat, Int.reduceLT, Int.reduceLE, Int.reduceEq, Int.reduceNe, Int.reduceBEq, IntKind.bits, bne_self_eq_false, Int.reducePow]
  refine xloop_cut (CzE h) ?_ ?_
  · refine xcode_loop (CzI h) 0 ⟨rfl, rfl, rfl, rfl, rfl⟩ ?_
    rintro m ρ g ⟨g11, g10, g3, g0, e0⟩
    simp only [sx, x_box, x_alloc, x_bslice, x_slice, x_append, x_appz, x_b2s, x_s2b, x_mark, xop, ev, evs, evParts, fillL, cellsL, Ai.get, Ai.put, stab, isNil?, if_false, if_true, addr?, int?, str?, agg?, bool?, shiftA, FnPost, xresL, xres1, tup, argEnv, ptr, Nat.reduceEqDiff, reduceIte, beq_self_eq_true, ne_eq, Nat.reduceAdd, Nat.reduceMul, Nat.reduceSub, abin_shl, abin_shr, load1V, loadV, storeV, cellsAt, getN, setN, allocV, lenL, lenS, bnd, oneC, Value.oneCell', Nat.reduceLeDiff, Nat.reduceLT, exists_eq_left', forall_const, reduceCtorEq, app_new, app_new0, List.append_assoc, Int.reduceToNat, Int.reduceLT, Int.reduceLE, Int.reduceEq, Int.reduceNe, Int.reduceBEq, IntKind.bits, bne_self_eq_false, Int.reducePow, g11, g10, l00]
    exact ⟨g3, g0, e0⟩
  rintro ρ g ⟨g3, g0, e0⟩
  subst e0
  simp only [sx, x_box, x_alloc, x_bslice, x_slice, x_append, x_appz, x_b2s, x_s2b, x_mark, xop, ev, evs, evParts, fillL, cellsL, Ai.get, Ai.put, stab, isNil?, if_false, if_true, addr?, int?, str?, agg?, bool?, shiftA, FnPost, xresL, xres1, tup, argEnv, ptr, Nat.reduceEqDiff, reduceIte, beq_self_eq_true, ne_eq, Nat.reduceAdd, Nat.reduceMul, Nat.reduceSub, abin_shl, abin_shr, load1V, loadV, storeV, cellsAt, getN, setN, allocV, lenL, lenS, bnd, oneC, Value.oneCell', Nat.reduceLeDiff, Nat.reduceLT, exists_eq_left', forall_const, reduceCtorEq, app_new, app_new0, List.append_assoc, Int.reduceToNat, Int.reduceLT, Int.reduceLE, Int.reduceEq, Int.reduceNe, Int.reduceBEq, IntKind.bits, bne_self_eq_false, Int.reducePow, g3, l00]
  refine xcall (grow_one (by_ := 1) (z := [.int .u8 0]) (n := 0) rfl v33 (by decide) (by decide)) (by rfl) (by rfl) (by rfl) (by rfl) ?_
  rintro r g2 ⟨R, K, hA⟩
  simp only [sx, x_box, x_alloc, x_bslice, x_slice, x_append, x_appz, x_b2s, x_s2b, x_mark, xop, ev, evs, evParts, fillL, cellsL, Ai.get, Ai.put, stab, isNil?, if_false, if_true, addr?, int?, str?, agg?, bool?, shiftA, FnPost, xresL, xres1, tup, argEnv, ptr, Nat.reduceEqDiff, reduceIte, beq_self_eq_true, ne_eq, Nat.reduceAdd, Nat.reduceMul, Nat.reduceSub, abin_shl, abin_shr, load1V, loadV, storeV, cellsAt, getN, setN, allocV, lenL, lenS, bnd, oneC, Value.oneCell', Nat.reduceLeDiff, Nat.reduceLT, exists_eq_left', forall_const, reduceCtorEq, app_new, app_new0, List.append_assoc, Int.reduceToNat, Int.reduceLT, Int.reduceLE, Int.reduceEq, Int.reduceNe, Int.reduceBEq, IntKind.bits, bne_self_eq_false, Int.reducePow, g0]
  refine xloop_cut (CyE g2 r) ?_ ?_
  · refine xcode_loop (CyI g2 r) 0 ⟨rfl, rfl, rfl, rfl⟩ ?_
    rintro m ρ g3 ⟨g27, g26, g6, e0⟩
    simp only [sx, x_box, x_alloc, x_bslice, x_slice, x_append, x_appz, x_b2s, x_s2b, x_mark, xop, ev, evs, evParts, fillL, cellsL, Ai.get, Ai.put, stab, isNil?, if_false, if_true, addr?, int?, str?, agg?, bool?, shiftA, FnPost, xresL, xres1, tup, argEnv, ptr, Nat.reduceEqDiff, reduceIte, beq_self_eq_true, ne_eq, Nat.reduceAdd, Nat.reduceMul, Nat.reduceSub, abin_shl, abin_shr, load1V, loadV, storeV, cellsAt, getN, setN, allocV, lenL, lenS, bnd, oneC, Value.oneCell', Nat.reduceLeDiff, Nat.reduceLT, exists_eq_left', forall_const, reduceCtorEq, app_new, app_new0, List.append_assoc, Int.reduceToNat, Int.reduceLT, Int.reduceLE, Int.reduceEq, Int.reduceNe, Int.reduceBEq, IntKind.bits, bne_self_eq_false, Int.reducePow, g27, g26, l00]
    exact ⟨g6, e0⟩
  rintro ρ g3 ⟨g6, e0⟩
  subst e0
  simp only [sx, x_box, x_alloc, x_bslice, x_slice, x_append, x_appz, x_b2s, x_s2b, x_mark, xop, ev, evs, evParts, fillL, cellsL, Ai.get, Ai.put, stab, isNil?, if_false, if_true, addr?, int?, str?, agg?, bool?, shiftA, FnPost, xresL, xres1, tup, argEnv, ptr, Nat.reduceEqDiff, reduceIte, beq_self_eq_true, ne_eq, Nat.reduceAdd, Nat.reduceMul, Nat.reduceSub, abin_shl, abin_shr, load1V, loadV, storeV, cellsAt, getN, setN, allocV, lenL, lenS, bnd, oneC, Value.oneCell', Nat.reduceLeDiff, Nat.reduceLT, exists_eq_left', forall_const, reduceCtorEq, app_new, app_new0, List.append_assoc, Int.reduceToNat, Int.reduceLT, Int.reduceLE, Int.reduceEq, Int.reduceNe, Int.reduceBEq, IntKind.bits, bne_self_eq_false, Int.reducePow, g6]
  exact ⟨R, K, hA⟩
theorem cat2_ok {h : AHeap} {C : Nat} {v1 v2 : Value} {b1 b2 : List Nat} (hC : h[C]? = some (some ⟨true, [v1, v2]⟩)) (h1 : BytesV h v1 b1) (h2 : BytesV h v2 b2) (l1 : b1.length ≤ 1000000) (l2 : b2.length ≤ 1000000) : Valid Try.prog 30 [.slice (some ⟨C, 0, none⟩) 2 2] h fun r h' => CRr h' r (bN (b1 ++ b2)) ∧ Kp h h' ∧ ∀ A, slB r = some A → h.length ≤ A := by
  have := concat_one (P := Try.prog) (by_ := 1) (z := [.int .u8 0]) rfl v30 v33 (vs := [v1, v2]) (rs := [bN b1, bN b2]) hC ⟨h1.part, h2.part, trivial⟩ (by simp) (by simp [bN_len]; omega) (by simp [bN_len]; omega)
  have e : [bN b1, bN b2].flatten = bN (b1 ++ b2) := by simp [bN_app]
  rw [e] at this
  exact this
theorem clip_b {g h : AHeap} {sl : Value} {bs : List Nat} (r : CRr h sl (bN bs)) (K : Kp g h) (hA : ∀ A, slB sl = some A → g.length ≤ A) (hz : bs.length ≤ 1000000000) : Valid Try.prog 32 [sl] h fun r h' => Kp g h' ∧ ∃ q, r = .slice q bs.length bs.length ∧ BytesV h' r bs := by
  refine Valid.freezeA ?_
  refine (clip_one v32 r (by rw [bN_len]; unfold unk; omega)).mono ?_
  rintro r' h' ⟨q, rfl, k1, k2, k3, k4, e0⟩
  subst e0
  rw [bN_len] at *
  by_cases hb : bs = []
  · subst hb
    exact ⟨h'.length, by rw [frzAt_end]; exact ⟨K, q, rfl, q, 0, rfl, .inl rfl⟩⟩
  · obtain ⟨A, rfl, hA'⟩ := k4 (fun e => hb (by cases bs with | nil => rfl | cons a l => cases e))
    have hAl := hA A (by rw [← k3]; rfl)
    exact ⟨A, frzAt_kp K hAl, _, rfl, _, _, rfl, .inr ⟨_, _, rfl, rfl, by rw [frzAt_own hA']; exact List.getElem?_set_self (lt_of_get hA'), getN_all _ _ (bN_len bs).symm⟩⟩
end Go.Proofs.Ytpbbmnfffolcoaa
