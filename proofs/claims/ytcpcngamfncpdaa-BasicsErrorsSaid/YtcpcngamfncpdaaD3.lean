import Derived.Test.YtcpcngamfncpdaaD2
set_option linter.unusedVariables false
set_option linter.unusedSimpArgs false
namespace Go.Proofs.Ytcpcngamfncpdaa
open Go Go.Ai Go.Proofs

/-- a copy of a load -/
theorem copied_ok {h : AHeap} {v : Value} {zs : List Int} (L : LoadW h v zs) (h0 : 0 < zs.length) (h3 : zs.length ≤ 300) : Valid Try.prog 35 [v] h fun r h' => LoadV h' r zs ∧ Kp h h' := by
  obtain ⟨q, c, rfl, hf, -⟩ := L.first
  refine Valid.freeze ?_
  refine v35 (by simp) ?_
  simp only [X35, sx, x_box, x_alloc, x_bslice, x_slice, x_append, x_appz, x_b2s, x_s2b, x_mark, xop, ev, evs, evParts, fillL, cellsL, Ai.get, Ai.put, stab, isNil?, if_false, if_true, addr?, int?, str?, agg?, bool?, shiftA, FnPost, xresL, xres1, tup, argEnv, ptr, Nat.reduceEqDiff, reduceIte, beq_self_eq_true, ne_eq, Nat.reduceAdd, Nat.reduceMul, Nat.reduceSub, abin_shl, abin_shr, load1V, loadV, storeV, cellsAt, getN, setN, allocV, lenL, lenS, bnd, oneC, Value.oneCell', Nat.reduceLeDiff, Nat.reduceLT, exists_eq_left', forall_const, reduceCtorEq, app_new, app_new0, List.append_assoc, Int.reduceToNat, Int.reduceLT, Int.reduceLE, Int.reduceEq, Int.reduceNe, Int.reduceBEq, IntKind.bits, bne_self_eq_false, Int.reducePow]
  refine xcall (clone_clip (k := 1) (by_ := 1) (z := [.int .u8 0]) rfl (by decide) v46 v45 hf (by omega) (by omega)) (by rfl) (by rfl) (by rfl) (by rfl) ?_
  intro r1 h1 hV
  simp only [sx, x_box, x_alloc, x_bslice, x_slice, x_append, x_appz, x_b2s, x_s2b, x_mark, xop, ev, evs, evParts, fillL, cellsL, Ai.get, Ai.put, stab, isNil?, if_false, if_true, addr?, int?, str?, agg?, bool?, shiftA, FnPost, xresL, xres1, tup, argEnv, ptr, Nat.reduceEqDiff, reduceIte, beq_self_eq_true, ne_eq, Nat.reduceAdd, Nat.reduceMul, Nat.reduceSub, abin_shl, abin_shr, load1V, loadV, storeV, cellsAt, getN, setN, allocV, lenL, lenS, bnd, oneC, Value.oneCell', Nat.reduceLeDiff, Nat.reduceLT, exists_eq_left', forall_const, reduceCtorEq, app_new, app_new0, List.append_assoc, Int.reduceToNat, Int.reduceLT, Int.reduceLE, Int.reduceEq, Int.reduceNe, Int.reduceBEq, IntKind.bits, bne_self_eq_false, Int.reducePow]
  refine xcall hV (by rfl) (by rfl) (by rfl) (by rfl) ?_
  rintro r2 h2 ⟨J, rfl, O⟩
  simp only [sx, x_box, x_alloc, x_bslice, x_slice, x_append, x_appz, x_b2s, x_s2b, x_mark, xop, ev, evs, evParts, fillL, cellsL, Ai.get, Ai.put, stab, isNil?, if_false, if_true, addr?, int?, str?, agg?, bool?, shiftA, FnPost, xresL, xres1, tup, argEnv, ptr, Nat.reduceEqDiff, reduceIte, beq_self_eq_true, ne_eq, Nat.reduceAdd, Nat.reduceMul, Nat.reduceSub, abin_shl, abin_shr, load1V, loadV, storeV, cellsAt, getN, setN, allocV, lenL, lenS, bnd, oneC, Value.oneCell', Nat.reduceLeDiff, Nat.reduceLT, exists_eq_left', forall_const, reduceCtorEq, app_new, app_new0, List.append_assoc, Int.reduceToNat, Int.reduceLT, Int.reduceLE, Int.reduceEq, Int.reduceNe, Int.reduceBEq, IntKind.bits, bne_self_eq_false, Int.reducePow]
  rcases O with ⟨-, e⟩ | ⟨B, n, rfl, k1, k2, k3, k4⟩
  · have : zs = [] := bR_inj e
    subst this; simp at h0
  rw [bR_len, Nat.mul_one] at k2
  subst k2
  refine .inr ⟨B, bR zs, k4 (by omega), ⟨B, rfl, set_same (k4 (by omega)) _, h0, h3⟩, (Kp.app _ _).set k1 _⟩

def aft (n : Nat) (k : Int) : Nat := (((n : Int) + k) % 128).toNat
def ahd (f t : Nat) : Nat := (((t : Int) - f) % 128).toNat
theorem after_ok {h : AHeap} {n : Nat} {k : Int} (hn : n < 256) (hk : -1000000 ≤ k ∧ k ≤ 1000000) : Valid Try.prog 41 [.int .u8 (n : Int), .int .i64 k] h fun r h' => r = .int .u8 (aft n k : Nat) ∧ h' = h := by
  refine v41 (by simp) ?_
  have h1 : ¬ (128 : Int) = 0 := by decide
  have e : (IntKind.u8.wrap ((n : Int) + IntKind.u8.wrap (k.tmod 128))).tmod 128 = ((aft n k : Nat) : Int) := by
    rw [u8_wrap_mod, u8_wrap_mod, Int.tmod_eq_emod_of_nonneg (by omega)]
    unfold aft
    rcases Int.le_total 0 k with h0 | h0
    · rw [Int.tmod_eq_emod_of_nonneg h0]; omega
    · obtain ⟨m, rfl⟩ : ∃ m, k = -m := ⟨-k, by omega⟩
      rw [Int.neg_tmod, Int.tmod_eq_emod_of_nonneg (by omega)]; omega
  simp only [X41, sx, x_box, x_alloc, x_bslice, x_slice, x_append, x_appz, x_b2s, x_s2b, x_mark, xop, ev, evs, evParts, fillL, cellsL, Ai.get, Ai.put, stab, isNil?, if_false, if_true, addr?, int?, str?, agg?, bool?, shiftA, FnPost, xresL, xres1, tup, argEnv, ptr, Nat.reduceEqDiff, reduceIte, beq_self_eq_true, ne_eq, Nat.reduceAdd, Nat.reduceMul, Nat.reduceSub, abin_shl, abin_shr, load1V, loadV, storeV, cellsAt, getN, setN, allocV, lenL, lenS, bnd, oneC, Value.oneCell', Nat.reduceLeDiff, Nat.reduceLT, exists_eq_left', forall_const, reduceCtorEq, app_new, app_new0, List.append_assoc, Int.reduceToNat, Int.reduceLT, Int.reduceLE, Int.reduceEq, Int.reduceNe, Int.reduceBEq, IntKind.bits, bne_self_eq_false, Int.reducePow, h1, e]
theorem ahead_ok {h : AHeap} {f t : Nat} (hf : f < 256) (ht : t < 256) : Valid Try.prog 36 [.int .u8 (f : Int), .int .u8 (t : Int)] h fun r h' => r = .int .i64 (ahd f t : Nat) ∧ h' = h := by
  refine v36 (by simp) ?_
  have h1 : ¬ (128 : Int) = 0 := by decide
  have e : IntKind.i64.wrap ((IntKind.u8.wrap ((t : Int) - f)).tmod 128) = ((ahd f t : Nat) : Int) := by
    rw [u8_wrap_mod, Int.tmod_eq_emod_of_nonneg (by omega)]
    unfold ahd
    rw [i64_wrap (by omega) (by omega)]; omega
  simp only [X36, sx, x_box, x_alloc, x_bslice, x_slice, x_append, x_appz, x_b2s, x_s2b, x_mark, xop, ev, evs, evParts, fillL, cellsL, Ai.get, Ai.put, stab, isNil?, if_false, if_true, addr?, int?, str?, agg?, bool?, shiftA, FnPost, xresL, xres1, tup, argEnv, ptr, Nat.reduceEqDiff, reduceIte, beq_self_eq_true, ne_eq, Nat.reduceAdd, Nat.reduceMul, Nat.reduceSub, abin_shl, abin_shr, load1V, loadV, storeV, cellsAt, getN, setN, allocV, lenL, lenS, bnd, oneC, Value.oneCell', Nat.reduceLeDiff, Nat.reduceLT, exists_eq_left', forall_const, reduceCtorEq, app_new, app_new0, List.append_assoc, Int.reduceToNat, Int.reduceLT, Int.reduceLE, Int.reduceEq, Int.reduceNe, Int.reduceBEq, IntKind.bits, bne_self_eq_false, Int.reducePow, h1, e]

/-- a unit -/
structure UP where
  back : Int
  bb : Bool
  fore : Int
  fb : Bool
  kind : Int
  st : Int
  load : List Int
def UP.cells (u : UP) (lv : Value) : List Value := [.int .u8 u.back, .bool u.bb, .int .u8 u.fore, .bool u.fb, .int .u8 u.kind, .int .u8 u.st, lv]
def UV (h : AHeap) (v : Value) (u : UP) : Prop := ∃ lv, v = .agg (u.cells lv).toArray ∧ LoadW h lv u.load
theorem UV.frz {h h' : AHeap} {v : Value} {u : UP} (k : UV h v u) (z : Frz h h') : UV h' v u := by
  obtain ⟨lv, h1, h2⟩ := k; exact ⟨lv, h1, h2.frz z⟩
def chk (u : UP) : Int := if 128 ≤ u.back ∨ 128 ≤ u.fore ∨ 2 < u.kind ∨ 5 < u.st ∨ (u.st ≠ 0 ∧ u.kind ≠ 1) then 1 else if (u.kind = 2 ∧ (u.load.length < 2 ∨ 273 < u.load.length)) ∨ (u.kind ≠ 2 ∧ 0 < u.load.length) then 5 else 0

set_option maxHeartbeats 2000000 in
set_option maxRecDepth 20000 in
theorem check_ok {h : AHeap} {v : Value} {u : UP} (U : UV h v u) : Valid Try.prog 27 [v] h fun r h' => r = .int .i64 (chk u) ∧ ∃ J, h' = h ++ J := by
  obtain ⟨lv, rfl, L⟩ := U
  obtain ⟨q, c, rfl, hf, hl⟩ := L.first
  obtain ⟨back, bb, fore, fb, kind, st, load⟩ := u
  simp only at hf hl
  refine v27 (by simp) ?_
  unfold chk
  simp only [UP.cells]
  by_cases h1 : 128 ≤ back
  · rw [if_pos (.inl h1)]
    simp only [X27, sx, x_box, x_alloc, x_bslice, x_slice, x_append, x_appz, x_b2s, x_s2b, x_mark, xop, ev, evs, evParts, fillL, cellsL, Ai.get, Ai.put, stab, isNil?, if_false, if_true, addr?, int?, str?, agg?, bool?, shiftA, FnPost, xresL, xres1, tup, argEnv, ptr, Nat.reduceEqDiff, reduceIte, beq_self_eq_true, ne_eq, Nat.reduceAdd, Nat.reduceMul, Nat.reduceSub, abin_shl, abin_shr, load1V, loadV, storeV, cellsAt, getN, setN, allocV, lenL, lenS, bnd, oneC, Value.oneCell', Nat.reduceLeDiff, Nat.reduceLT, exists_eq_left', forall_const, reduceCtorEq, app_new, app_new0, List.append_assoc, Int.reduceToNat, Int.reduceLT, Int.reduceLE, Int.reduceEq, Int.reduceNe, Int.reduceBEq, IntKind.bits, bne_self_eq_false, Int.reducePow, h1]
    exact ⟨_, rfl⟩
  by_cases h2 : 128 ≤ fore
  · rw [if_pos (.inr (.inl h2))]
    simp only [X27, sx, x_box, x_alloc, x_bslice, x_slice, x_append, x_appz, x_b2s, x_s2b, x_mark, xop, ev, evs, evParts, fillL, cellsL, Ai.get, Ai.put, stab, isNil?, if_false, if_true, addr?, int?, str?, agg?, bool?, shiftA, FnPost, xresL, xres1, tup, argEnv, ptr, Nat.reduceEqDiff, reduceIte, beq_self_eq_true, ne_eq, Nat.reduceAdd, Nat.reduceMul, Nat.reduceSub, abin_shl, abin_shr, load1V, loadV, storeV, cellsAt, getN, setN, allocV, lenL, lenS, bnd, oneC, Value.oneCell', Nat.reduceLeDiff, Nat.reduceLT, exists_eq_left', forall_const, reduceCtorEq, app_new, app_new0, List.append_assoc, Int.reduceToNat, Int.reduceLT, Int.reduceLE, Int.reduceEq, Int.reduceNe, Int.reduceBEq, IntKind.bits, bne_self_eq_false, Int.reducePow, h1, h2]
    exact ⟨_, rfl⟩
  by_cases h3 : 2 < kind
  · rw [if_pos (.inr (.inr (.inl h3)))]
    simp only [X27, sx, x_box, x_alloc, x_bslice, x_slice, x_append, x_appz, x_b2s, x_s2b, x_mark, xop, ev, evs, evParts, fillL, cellsL, Ai.get, Ai.put, stab, isNil?, if_false, if_true, addr?, int?, str?, agg?, bool?, shiftA, FnPost, xresL, xres1, tup, argEnv, ptr, Nat.reduceEqDiff, reduceIte, beq_self_eq_true, ne_eq, Nat.reduceAdd, Nat.reduceMul, Nat.reduceSub, abin_shl, abin_shr, load1V, loadV, storeV, cellsAt, getN, setN, allocV, lenL, lenS, bnd, oneC, Value.oneCell', Nat.reduceLeDiff, Nat.reduceLT, exists_eq_left', forall_const, reduceCtorEq, app_new, app_new0, List.append_assoc, Int.reduceToNat, Int.reduceLT, Int.reduceLE, Int.reduceEq, Int.reduceNe, Int.reduceBEq, IntKind.bits, bne_self_eq_false, Int.reducePow, h1, h2, h3]
    exact ⟨_, rfl⟩
  by_cases h4 : 5 < st
  · rw [if_pos (.inr (.inr (.inr (.inl h4))))]
    simp only [X27, sx, x_box, x_alloc, x_bslice, x_slice, x_append, x_appz, x_b2s, x_s2b, x_mark, xop, ev, evs, evParts, fillL, cellsL, Ai.get, Ai.put, stab, isNil?, if_false, if_true, addr?, int?, str?, agg?, bool?, shiftA, FnPost, xresL, xres1, tup, argEnv, ptr, Nat.reduceEqDiff, reduceIte, beq_self_eq_true, ne_eq, Nat.reduceAdd, Nat.reduceMul, Nat.reduceSub, abin_shl, abin_shr, load1V, loadV, storeV, cellsAt, getN, setN, allocV, lenL, lenS, bnd, oneC, Value.oneCell', Nat.reduceLeDiff, Nat.reduceLT, exists_eq_left', forall_const, reduceCtorEq, app_new, app_new0, List.append_assoc, Int.reduceToNat, Int.reduceLT, Int.reduceLE, Int.reduceEq, Int.reduceNe, Int.reduceBEq, IntKind.bits, bne_self_eq_false, Int.reducePow, h1, h2, h3, h4]
    exact ⟨_, rfl⟩
  have second : ¬ (st ≠ 0 ∧ kind ≠ 1) → xcode Try.prog X27 (FnPost [(.tmp 2)] fun r h' => r = .int .i64 (if (kind = 2 ∧ (load.length < 2 ∨ 273 < load.length)) ∨ (kind ≠ 2 ∧ 0 < load.length) then 5 else 0) ∧ ∃ J, h' = h ++ J) (argEnv 0 [.agg [Value.int .u8 back, .bool bb, .int .u8 fore, .bool fb, .int .u8 kind, .int .u8 st, .slice q load.length c].toArray]) h := by
    intro h5
    by_cases k2 : kind = 2
    · have k1 : ¬ (2 : Int) = 1 := by decide
      have s0 : st = 0 := by
        by_cases s0 : st = 0
        · exact s0
        · exact absurd ⟨s0, by omega⟩ h5
      subst k2 s0
      by_cases l1 : load.length < 2
      · have l1' : (load.length : Int) < 2 := by omega
        rw [if_pos (.inl ⟨rfl, .inl l1⟩)]
        simp only [X27, sx, x_box, x_alloc, x_bslice, x_slice, x_append, x_appz, x_b2s, x_s2b, x_mark, xop, ev, evs, evParts, fillL, cellsL, Ai.get, Ai.put, stab, isNil?, if_false, if_true, addr?, int?, str?, agg?, bool?, shiftA, FnPost, xresL, xres1, tup, argEnv, ptr, Nat.reduceEqDiff, reduceIte, beq_self_eq_true, ne_eq, Nat.reduceAdd, Nat.reduceMul, Nat.reduceSub, abin_shl, abin_shr, load1V, loadV, storeV, cellsAt, getN, setN, allocV, lenL, lenS, bnd, oneC, Value.oneCell', Nat.reduceLeDiff, Nat.reduceLT, exists_eq_left', forall_const, reduceCtorEq, app_new, app_new0, List.append_assoc, Int.reduceToNat, Int.reduceLT, Int.reduceLE, Int.reduceEq, Int.reduceNe, Int.reduceBEq, IntKind.bits, bne_self_eq_false, Int.reducePow, h1, h2, h3, h4, l1']
        exact ⟨_, rfl⟩
      · have l1' : ¬ (load.length : Int) < 2 := by omega
        by_cases l2 : 273 < load.length
        · have l2' : (273 : Int) < load.length := by omega
          rw [if_pos (.inl ⟨rfl, .inr l2⟩)]
          simp only [X27, sx, x_box, x_alloc, x_bslice, x_slice, x_append, x_appz, x_b2s, x_s2b, x_mark, xop, ev, evs, evParts, fillL, cellsL, Ai.get, Ai.put, stab, isNil?, if_false, if_true, addr?, int?, str?, agg?, bool?, shiftA, FnPost, xresL, xres1, tup, argEnv, ptr, Nat.reduceEqDiff, reduceIte, beq_self_eq_true, ne_eq, Nat.reduceAdd, Nat.reduceMul, Nat.reduceSub, abin_shl, abin_shr, load1V, loadV, storeV, cellsAt, getN, setN, allocV, lenL, lenS, bnd, oneC, Value.oneCell', Nat.reduceLeDiff, Nat.reduceLT, exists_eq_left', forall_const, reduceCtorEq, app_new, app_new0, List.append_assoc, Int.reduceToNat, Int.reduceLT, Int.reduceLE, Int.reduceEq, Int.reduceNe, Int.reduceBEq, IntKind.bits, bne_self_eq_false, Int.reducePow, h1, h2, h3, h4, l1', l2']
          exact ⟨_, rfl⟩
        · have l2' : ¬ (273 : Int) < load.length := by omega
          rw [if_neg (by omega)]
          simp only [X27, sx, x_box, x_alloc, x_bslice, x_slice, x_append, x_appz, x_b2s, x_s2b, x_mark, xop, ev, evs, evParts, fillL, cellsL, Ai.get, Ai.put, stab, isNil?, if_false, if_true, addr?, int?, str?, agg?, bool?, shiftA, FnPost, xresL, xres1, tup, argEnv, ptr, Nat.reduceEqDiff, reduceIte, beq_self_eq_true, ne_eq, Nat.reduceAdd, Nat.reduceMul, Nat.reduceSub, abin_shl, abin_shr, load1V, loadV, storeV, cellsAt, getN, setN, allocV, lenL, lenS, bnd, oneC, Value.oneCell', Nat.reduceLeDiff, Nat.reduceLT, exists_eq_left', forall_const, reduceCtorEq, app_new, app_new0, List.append_assoc, Int.reduceToNat, Int.reduceLT, Int.reduceLE, Int.reduceEq, Int.reduceNe, Int.reduceBEq, IntKind.bits, bne_self_eq_false, Int.reducePow, h1, h2, h3, h4, l1', l2']
          exact ⟨_, rfl⟩
    · by_cases l1 : 0 < load.length
      · have l1' : (0 : Int) < load.length := by omega
        rw [if_pos (.inr ⟨k2, l1⟩)]
        by_cases s0 : st = 0
        · simp only [X27, sx, x_box, x_alloc, x_bslice, x_slice, x_append, x_appz, x_b2s, x_s2b, x_mark, xop, ev, evs, evParts, fillL, cellsL, Ai.get, Ai.put, stab, isNil?, if_false, if_true, addr?, int?, str?, agg?, bool?, shiftA, FnPost, xresL, xres1, tup, argEnv, ptr, Nat.reduceEqDiff, reduceIte, beq_self_eq_true, ne_eq, Nat.reduceAdd, Nat.reduceMul, Nat.reduceSub, abin_shl, abin_shr, load1V, loadV, storeV, cellsAt, getN, setN, allocV, lenL, lenS, bnd, oneC, Value.oneCell', Nat.reduceLeDiff, Nat.reduceLT, exists_eq_left', forall_const, reduceCtorEq, app_new, app_new0, List.append_assoc, Int.reduceToNat, Int.reduceLT, Int.reduceLE, Int.reduceEq, Int.reduceNe, Int.reduceBEq, IntKind.bits, bne_self_eq_false, Int.reducePow, h1, h2, h3, h4, k2, l1', s0]
          exact ⟨_, rfl⟩
        · have k1 : kind = 1 := by
            by_cases k1 : kind = 1
            · exact k1
            · exact absurd ⟨s0, k1⟩ h5
          subst k1
          simp only [X27, sx, x_box, x_alloc, x_bslice, x_slice, x_append, x_appz, x_b2s, x_s2b, x_mark, xop, ev, evs, evParts, fillL, cellsL, Ai.get, Ai.put, stab, isNil?, if_false, if_true, addr?, int?, str?, agg?, bool?, shiftA, FnPost, xresL, xres1, tup, argEnv, ptr, Nat.reduceEqDiff, reduceIte, beq_self_eq_true, ne_eq, Nat.reduceAdd, Nat.reduceMul, Nat.reduceSub, abin_shl, abin_shr, load1V, loadV, storeV, cellsAt, getN, setN, allocV, lenL, lenS, bnd, oneC, Value.oneCell', Nat.reduceLeDiff, Nat.reduceLT, exists_eq_left', forall_const, reduceCtorEq, app_new, app_new0, List.append_assoc, Int.reduceToNat, Int.reduceLT, Int.reduceLE, Int.reduceEq, Int.reduceNe, Int.reduceBEq, IntKind.bits, bne_self_eq_false, Int.reducePow, h1, h2, h3, h4, k2, l1', s0]
          exact ⟨_, rfl⟩
      · have l1' : ¬ (0 : Int) < load.length := by omega
        rw [if_neg (by omega)]
        by_cases s0 : st = 0
        · simp only [X27, sx, x_box, x_alloc, x_bslice, x_slice, x_append, x_appz, x_b2s, x_s2b, x_mark, xop, ev, evs, evParts, fillL, cellsL, Ai.get, Ai.put, stab, isNil?, if_false, if_true, addr?, int?, str?, agg?, bool?, shiftA, FnPost, xresL, xres1, tup, argEnv, ptr, Nat.reduceEqDiff, reduceIte, beq_self_eq_true, ne_eq, Nat.reduceAdd, Nat.reduceMul, Nat.reduceSub, abin_shl, abin_shr, load1V, loadV, storeV, cellsAt, getN, setN, allocV, lenL, lenS, bnd, oneC, Value.oneCell', Nat.reduceLeDiff, Nat.reduceLT, exists_eq_left', forall_const, reduceCtorEq, app_new, app_new0, List.append_assoc, Int.reduceToNat, Int.reduceLT, Int.reduceLE, Int.reduceEq, Int.reduceNe, Int.reduceBEq, IntKind.bits, bne_self_eq_false, Int.reducePow, h1, h2, h3, h4, k2, l1', s0]
          exact ⟨_, rfl⟩
        · have k1 : kind = 1 := by
            by_cases k1 : kind = 1
            · exact k1
            · exact absurd ⟨s0, k1⟩ h5
          subst k1
          simp only [X27, sx, x_box, x_alloc, x_bslice, x_slice, x_append, x_appz, x_b2s, x_s2b, x_mark, xop, ev, evs, evParts, fillL, cellsL, Ai.get, Ai.put, stab, isNil?, if_false, if_true, addr?, int?, str?, agg?, bool?, shiftA, FnPost, xresL, xres1, tup, argEnv, ptr, Nat.reduceEqDiff, reduceIte, beq_self_eq_true, ne_eq, Nat.reduceAdd, Nat.reduceMul, Nat.reduceSub, abin_shl, abin_shr, load1V, loadV, storeV, cellsAt, getN, setN, allocV, lenL, lenS, bnd, oneC, Value.oneCell', Nat.reduceLeDiff, Nat.reduceLT, exists_eq_left', forall_const, reduceCtorEq, app_new, app_new0, List.append_assoc, Int.reduceToNat, Int.reduceLT, Int.reduceLE, Int.reduceEq, Int.reduceNe, Int.reduceBEq, IntKind.bits, bne_self_eq_false, Int.reducePow, h1, h2, h3, h4, k2, l1', s0]
          exact ⟨_, rfl⟩
  by_cases h5 : st ≠ 0 ∧ kind ≠ 1
  · rw [if_pos (.inr (.inr (.inr (.inr h5))))]
    simp only [X27, sx, x_box, x_alloc, x_bslice, x_slice, x_append, x_appz, x_b2s, x_s2b, x_mark, xop, ev, evs, evParts, fillL, cellsL, Ai.get, Ai.put, stab, isNil?, if_false, if_true, addr?, int?, str?, agg?, bool?, shiftA, FnPost, xresL, xres1, tup, argEnv, ptr, Nat.reduceEqDiff, reduceIte, beq_self_eq_true, ne_eq, Nat.reduceAdd, Nat.reduceMul, Nat.reduceSub, abin_shl, abin_shr, load1V, loadV, storeV, cellsAt, getN, setN, allocV, lenL, lenS, bnd, oneC, Value.oneCell', Nat.reduceLeDiff, Nat.reduceLT, exists_eq_left', forall_const, reduceCtorEq, app_new, app_new0, List.append_assoc, Int.reduceToNat, Int.reduceLT, Int.reduceLE, Int.reduceEq, Int.reduceNe, Int.reduceBEq, IntKind.bits, bne_self_eq_false, Int.reducePow, h1, h2, h3, h4, h5]
    exact ⟨_, rfl⟩
  · have : ¬ (128 ≤ back ∨ 128 ≤ fore ∨ 2 < kind ∨ 5 < st ∨ (st ≠ 0 ∧ kind ≠ 1)) := by
      rintro (h | h | h | h | h)
      · exact h1 h
      · exact h2 h
      · exact h3 h
      · exact h4 h
      · exact h5 h
    rw [if_neg this]
    exact second h5

/-- the law's loads -/
def msg (k : Nat) : List Int := [((k % 256 : Nat) : Int), ((k / 256 % 256 : Nat) : Int)]
theorem message_ok {h : AHeap} {k : Nat} (hk : k ≤ 1000000) : Valid Try.prog 15 [.int .i64 (k : Int)] h fun r h' => LoadV h' r (msg k) ∧ Kp h h' := by
  refine Valid.freeze ?_
  refine v15 (by simp) ?_
  have h1 : ¬ (256 : Int) = 0 := by decide
  have e1 : IntKind.u8.wrap ((k : Int).tmod 256) = ((k % 256 : Nat) : Int) := by
    rw [Int.tmod_eq_emod_of_nonneg (by omega), u8_wrap_mod]; omega
  have e2 : IntKind.u8.wrap ((IntKind.i64.wrap ((k : Int).tdiv 256)).tmod 256) = ((k / 256 % 256 : Nat) : Int) := by
    rw [Int.tdiv_eq_ediv_of_nonneg (by omega), i64_wrap (by omega) (by omega), Int.tmod_eq_emod_of_nonneg (by omega), u8_wrap_mod]; omega
  simp only [X15, sx, x_box, x_alloc, x_bslice, x_slice, x_append, x_appz, x_b2s, x_s2b, x_mark, xop, ev, evs, evParts, fillL, cellsL, Ai.get, Ai.put, stab, isNil?, if_false, if_true, addr?, int?, str?, agg?, bool?, shiftA, FnPost, xresL, xres1, tup, argEnv, ptr, Nat.reduceEqDiff, reduceIte, beq_self_eq_true, ne_eq, Nat.reduceAdd, Nat.reduceMul, Nat.reduceSub, abin_shl, abin_shr, load1V, loadV, storeV, cellsAt, getN, setN, allocV, lenL, lenS, bnd, oneC, Value.oneCell', Nat.reduceLeDiff, Nat.reduceLT, exists_eq_left', forall_const, reduceCtorEq, app_new, app_new0, List.append_assoc, Int.reduceToNat, Int.reduceLT, Int.reduceLE, Int.reduceEq, Int.reduceNe, Int.reduceBEq, IntKind.bits, bne_self_eq_false, Int.reducePow, h1, e1, e2]
  refine .inr ⟨h.length, _, by rw [app_new0]; rfl, ⟨h.length, rfl, ?_, by simp [msg], by simp [msg]⟩, (Kp.app _ _).set (Nat.le_refl _) _⟩
  rw [set_new0, app_new0]; rfl
def num (k : Nat) : Nat := (k + 127) % 128
theorem number_ok {h : AHeap} {k : Nat} (hk : k ≤ 1000000) : Valid Try.prog 25 [.int .i64 (k : Int)] h fun r h' => r = .int .u8 (num k : Nat) ∧ h' = h := by
  refine v25 (by simp) ?_
  have h1 : ¬ (128 : Int) = 0 := by decide
  have e : IntKind.u8.wrap ((IntKind.i64.wrap ((k : Int) + 127)).tmod 128) = ((num k : Nat) : Int) := by
    rw [i64_wrap (by omega) (by omega), Int.tmod_eq_emod_of_nonneg (by omega), u8_wrap_mod]; unfold num; omega
  simp only [X25, sx, x_box, x_alloc, x_bslice, x_slice, x_append, x_appz, x_b2s, x_s2b, x_mark, xop, ev, evs, evParts, fillL, cellsL, Ai.get, Ai.put, stab, isNil?, if_false, if_true, addr?, int?, str?, agg?, bool?, shiftA, FnPost, xresL, xres1, tup, argEnv, ptr, Nat.reduceEqDiff, reduceIte, beq_self_eq_true, ne_eq, Nat.reduceAdd, Nat.reduceMul, Nat.reduceSub, abin_shl, abin_shr, load1V, loadV, storeV, cellsAt, getN, setN, allocV, lenL, lenS, bnd, oneC, Value.oneCell', Nat.reduceLeDiff, Nat.reduceLT, exists_eq_left', forall_const, reduceCtorEq, app_new, app_new0, List.append_assoc, Int.reduceToNat, Int.reduceLT, Int.reduceLE, Int.reduceEq, Int.reduceNe, Int.reduceBEq, IntKind.bits, bne_self_eq_false, Int.reducePow, h1, e]
def lst (a b : Nat) : List (List Int) := (List.range (b - a)).map fun i => msg (a + i)
theorem lst_len (a b : Nat) : (lst a b).length = b - a := by simp [lst]
theorem lst_succ {a b : Nat} (h : a ≤ b) : lst a (b + 1) = lst a b ++ [msg b] := by
  unfold lst
  rw [show b + 1 - a = (b - a) + 1 by omega, List.range_succ, List.map_append]
  simp [show a + (b - a) = b by omega]
theorem lst_get {a b i : Nat} (h : i < b - a) : (lst a b)[i]? = some (msg (a + i)) := by simp [lst, h]
theorem lst_drop {a b i : Nat} (h : a + i ≤ b) : (lst a b).drop i = lst (a + i) b := by
  apply List.ext_getElem?
  intro j
  rw [List.getElem?_drop]
  rcases Nat.lt_or_ge j (b - (a + i)) with h1 | h1
  · rw [lst_get (by omega), lst_get h1, show a + (i + j) = a + i + j by omega]
  · rw [List.getElem?_eq_none (by rw [lst_len]; omega), List.getElem?_eq_none (by rw [lst_len]; omega)]
theorem lst_app {a b c : Nat} (h1 : a ≤ b) (h2 : b ≤ c) : lst a b ++ lst b c = lst a c := by
  apply List.ext_getElem?
  intro j
  rcases Nat.lt_or_ge j (b - a) with h | h
  · rw [List.getElem?_append_left (by rw [lst_len]; exact h), lst_get h, lst_get (by omega)]
  · rw [List.getElem?_append_right (by rw [lst_len]; exact h), lst_len]
    rcases Nat.lt_or_ge j (c - a) with h3 | h3
    · rw [lst_get (by omega), lst_get h3, show b + (j - (b - a)) = a + j by omega]
    · rw [List.getElem?_eq_none (by rw [lst_len]; omega), List.getElem?_eq_none (by rw [lst_len]; omega)]
theorem lst_nil {a b : Nat} (h : b ≤ a) : lst a b = [] := by simp [lst, show b - a = 0 by omega]
theorem list_ok {h : AHeap} {a b : Nat} (hab : a ≤ b) (hb : b ≤ 900000) : Valid Try.prog 20 [.int .i64 (a : Int), .int .i64 (b : Int)] h fun r h' => QAt h' r (lst a b) ∧ Kp h h' := by
  refine v20 (by simp) ?_
  simp only [X20, sx, x_box, x_alloc, x_bslice, x_slice, x_append, x_appz, x_b2s, x_s2b, x_mark, xop, ev, evs, evParts, fillL, cellsL, Ai.get, Ai.put, stab, isNil?, if_false, if_true, addr?, int?, str?, agg?, bool?, shiftA, FnPost, xresL, xres1, tup, argEnv, ptr, Nat.reduceEqDiff, reduceIte, beq_self_eq_true, ne_eq, Nat.reduceAdd, Nat.reduceMul, Nat.reduceSub, abin_shl, abin_shr, load1V, loadV, storeV, cellsAt, getN, setN, allocV, lenL, lenS, bnd, oneC, Value.oneCell', Nat.reduceLeDiff, Nat.reduceLT, exists_eq_left', forall_const, reduceCtorEq, app_new, app_new0, List.append_assoc, Int.reduceToNat, Int.reduceLT, Int.reduceLE, Int.reduceEq, Int.reduceNe, Int.reduceBEq, IntKind.bits, bne_self_eq_false, Int.reducePow]
  refine xcode_loop (fun m ρ h' => ∃ i sl, a ≤ i ∧ i + m = b ∧ get ρ 6 = some (.int .i64 (i : Nat)) ∧ get ρ 1 = some (.int .i64 (b : Nat)) ∧ get ρ 5 = some sl ∧ QAt h' sl (lst a i) ∧ Kp h h' ∧ ∀ A, slB sl = some A → h.length ≤ A) (b - a)
    ⟨a, _, Nat.le_refl _, by omega, rfl, rfl, rfl, by rw [lst_nil (Nat.le_refl _)]; exact QAt.nil h, Kp.refl h, by simp [slB]⟩ ?_
  rintro m ρ h1 ⟨i, sl, hai, him, g6, g1, g5, Q, E, hA⟩
  by_cases hlt : i < b
  · have hlt' : (i : Int) < b := by omega
    have hwi : IntKind.i64.wrap ((i : Int) + 1) = ((i + 1 : Nat) : Int) := by rw [i64_wrap] <;> omega
    simp only [sx, x_box, x_alloc, x_bslice, x_slice, x_append, x_appz, x_b2s, x_s2b, x_mark, xop, ev, evs, evParts, fillL, cellsL, Ai.get, Ai.put, stab, isNil?, if_false, if_true, addr?, int?, str?, agg?, bool?, shiftA, FnPost, xresL, xres1, tup, argEnv, ptr, Nat.reduceEqDiff, reduceIte, beq_self_eq_true, ne_eq, Nat.reduceAdd, Nat.reduceMul, Nat.reduceSub, abin_shl, abin_shr, load1V, loadV, storeV, cellsAt, getN, setN, allocV, lenL, lenS, bnd, oneC, Value.oneCell', Nat.reduceLeDiff, Nat.reduceLT, exists_eq_left', forall_const, reduceCtorEq, app_new, app_new0, List.append_assoc, Int.reduceToNat, Int.reduceLT, Int.reduceLE, Int.reduceEq, Int.reduceNe, Int.reduceBEq, IntKind.bits, bne_self_eq_false, Int.reducePow, g6, g1, g5, hlt']
    refine xcall (message_ok (k := i) (by omega)) (by rfl) (by rfl) (by rfl) (by rfl) ?_
    rintro r h2 ⟨L, E2⟩
    have Q2 : QAt h2 sl (lst a i) := Q.keep E2.frz fun A hA => E2.2 A (Q.lt hA)
    have L' := L
    obtain ⟨B, rfl, -⟩ := L'
    simp only [sx, x_box, x_alloc, x_bslice, x_slice, x_appz, x_b2s, x_s2b, x_mark, xop, ev, evs, evParts, fillL, cellsL, Ai.get, Ai.put, stab, isNil?, if_false, if_true, addr?, int?, str?, agg?, bool?, shiftA, FnPost, xresL, xres1, tup, argEnv, ptr, Nat.reduceEqDiff, reduceIte, beq_self_eq_true, ne_eq, Nat.reduceAdd, Nat.reduceMul, Nat.reduceSub, abin_shl, abin_shr, load1V, loadV, storeV, cellsAt, getN, setN, allocV, lenL, lenS, bnd, oneC, Value.oneCell', Nat.reduceLeDiff, Nat.reduceLT, exists_eq_left', forall_const, reduceCtorEq, app_new, app_new0, List.append_assoc, Int.reduceToNat, Int.reduceLT, Int.reduceLE, Int.reduceEq, Int.reduceNe, Int.reduceBEq, IntKind.bits, bne_self_eq_false, Int.reducePow, g6, g1, g5]
    refine Q2.push L rfl rfl (by rw [lst_len]; omega) fun h3 A' hA' hl3 Q3 hfr3 z3 => ?_
    have hE := E.1
    have hE2 := E2.1
    simp only [sx, x_box, x_alloc, x_bslice, x_slice, x_append, x_appz, x_b2s, x_s2b, x_mark, xop, ev, evs, evParts, fillL, cellsL, Ai.get, Ai.put, stab, isNil?, if_false, if_true, addr?, int?, str?, agg?, bool?, shiftA, FnPost, xresL, xres1, tup, argEnv, ptr, Nat.reduceEqDiff, reduceIte, beq_self_eq_true, ne_eq, Nat.reduceAdd, Nat.reduceMul, Nat.reduceSub, abin_shl, abin_shr, load1V, loadV, storeV, cellsAt, getN, setN, allocV, lenL, lenS, bnd, oneC, Value.oneCell', Nat.reduceLeDiff, Nat.reduceLT, exists_eq_left', forall_const, reduceCtorEq, app_new, app_new0, List.append_assoc, Int.reduceToNat, Int.reduceLT, Int.reduceLE, Int.reduceEq, Int.reduceNe, Int.reduceBEq, IntKind.bits, bne_self_eq_false, Int.reducePow, g6, g1, g5, hwi]
    rw [lst_len] at Q3 ⊢
    refine ⟨m - 1, by omega, i + 1, _, by omega, by omega, rfl, rfl, by rw [lst_succ hai]; exact Q3, ⟨by omega, fun B hB => ?_⟩, fun A hA2 => by simp [slB] at hA2; omega⟩
    rw [hfr3 B (by omega) (fun e => by have := hA B e; omega)]
    exact (E.trans E2).2 B hB
  · have hlt' : ¬ (i : Int) < b := by omega
    have : i = b := by omega
    subst this
    simp only [sx, x_box, x_alloc, x_bslice, x_slice, x_append, x_appz, x_b2s, x_s2b, x_mark, xop, ev, evs, evParts, fillL, cellsL, Ai.get, Ai.put, stab, isNil?, if_false, if_true, addr?, int?, str?, agg?, bool?, shiftA, FnPost, xresL, xres1, tup, argEnv, ptr, Nat.reduceEqDiff, reduceIte, beq_self_eq_true, ne_eq, Nat.reduceAdd, Nat.reduceMul, Nat.reduceSub, abin_shl, abin_shr, load1V, loadV, storeV, cellsAt, getN, setN, allocV, lenL, lenS, bnd, oneC, Value.oneCell', Nat.reduceLeDiff, Nat.reduceLT, exists_eq_left', forall_const, reduceCtorEq, app_new, app_new0, List.append_assoc, Int.reduceToNat, Int.reduceLT, Int.reduceLE, Int.reduceEq, Int.reduceNe, Int.reduceBEq, IntKind.bits, bne_self_eq_false, Int.reducePow, g6, g1, g5, hlt']
    exact ⟨Q, E⟩

/-- a list of loads, as long as its room -/
def ListV (h : AHeap) (v : Value) (ls : List (List Int)) : Prop := ∃ q cells, v = .slice q ls.length ls.length ∧ firstV 1 h ls.length v = some cells ∧ LoadsR h cells ls ∧ ls.length ≤ 1000000
/-- a load whose room is not told -/
def LoadQ (h : AHeap) (v : Value) (zs : List Int) : Prop := LoadW h v zs ∧ 0 < zs.length ∧ zs.length ≤ 300
theorem LoadQ.frz {h h' : AHeap} {v : Value} {zs : List Int} (l : LoadQ h v zs) (z : Frz h h') : LoadQ h' v zs := ⟨l.1.frz z, l.2⟩
theorem LoadQ.oneC {h : AHeap} {v : Value} {zs : List Int} (l : LoadQ h v zs) : oneC v = true := by
  obtain ⟨⟨q, c, rfl, -⟩, -⟩ := l; rfl
theorem LoadV.qq {h : AHeap} {v : Value} {zs : List Int} (l : LoadV h v zs) : LoadQ h v zs := ⟨l.w, by obtain ⟨B, -, -, h1, h2⟩ := l; exact ⟨h1, h2⟩⟩
/-- loads, one behind the other -/
def LoadsW (h : AHeap) : List Value → List (List Int) → Prop
  | [], [] => True
  | v :: vs, z :: zs => LoadQ h v z ∧ LoadsW h vs zs
  | _, _ => False
theorem LoadsW.frz {h h' : AHeap} (z : Frz h h') : ∀ {vs : List Value} {ls : List (List Int)}, LoadsW h vs ls → LoadsW h' vs ls
  | [], [], _ => trivial
  | _ :: _, _ :: _, k => ⟨k.1.frz z, LoadsW.frz z k.2⟩
theorem LoadsW.len {h : AHeap} : ∀ {vs : List Value} {ls : List (List Int)}, LoadsW h vs ls → vs.length = ls.length
  | [], [], _ => rfl
  | _ :: _, _ :: _, k => by simp [LoadsW.len k.2]
theorem LoadsW.get {h : AHeap} : ∀ {vs : List Value} {ls : List (List Int)} {i : Nat}, LoadsW h vs ls → i < ls.length → ∃ v z, vs[i]? = some v ∧ ls[i]? = some z ∧ LoadQ h v z
  | v :: vs, z :: ls, 0, k, _ => ⟨v, z, rfl, rfl, k.1⟩
  | v :: vs, z :: ls, i + 1, k, hi => by simpa using LoadsW.get (i := i) k.2 (by simpa using hi)
  | [], [], _, _, hi => by simp at hi
  | [], _ :: _, _, k, _ => k.elim
  | _ :: _, [], _, k, _ => k.elim
theorem LoadsR.qq {h : AHeap} : ∀ {vs : List Value} {ls : List (List Int)}, LoadsR h vs ls → LoadsW h vs ls
  | [], [], _ => trivial
  | _ :: _, _ :: _, k => ⟨k.1.qq, LoadsR.qq k.2⟩
def ListW (h : AHeap) (w : Value) (ws : List (List Int)) : Prop := ∃ cells a c, w = .slice a ws.length c ∧ firstV 1 h ws.length (.slice a ws.length c) = some cells ∧ LoadsW h cells ws
theorem lists_okW {h : AHeap} {v w : Value} {gs ws : List (List Int)} (V : ListV h v gs) (W : ListW h w ws) (hw : ws.length ≤ 1000000) : Valid Try.prog 19 [v, w] h fun r h' => r = .int .i64 (if gs = ws then 0 else 1) ∧ h' = h := by
  obtain ⟨q, cells, rfl, hf, hl, hg⟩ := V
  obtain ⟨cells2, q2, c2, rfl, hf2, hl2⟩ := W
  refine v19 (by simp) ?_
  have hu : gs.length < unk := by unfold unk; omega
  by_cases hnm : gs.length = ws.length
  · have hnm' : (gs.length : Int) = ws.length := by omega
    simp only [X19, sx, x_box, x_alloc, x_bslice, x_slice, x_append, x_appz, x_b2s, x_s2b, x_mark, xop, ev, evs, evParts, fillL, cellsL, Ai.get, Ai.put, stab, isNil?, if_false, if_true, addr?, int?, str?, agg?, bool?, shiftA, FnPost, xresL, xres1, tup, argEnv, ptr, Nat.reduceEqDiff, reduceIte, beq_self_eq_true, ne_eq, Nat.reduceAdd, Nat.reduceMul, Nat.reduceSub, abin_shl, abin_shr, load1V, loadV, storeV, cellsAt, getN, setN, allocV, lenL, lenS, bnd, oneC, Value.oneCell', Nat.reduceLeDiff, Nat.reduceLT, exists_eq_left', forall_const, reduceCtorEq, app_new, app_new0, List.append_assoc, Int.reduceToNat, Int.reduceLT, Int.reduceLE, Int.reduceEq, Int.reduceNe, Int.reduceBEq, IntKind.bits, bne_self_eq_false, Int.reducePow, hnm', hu, Int.lt_irrefl]
    refine xcode_loop (fun m ρ h' => ∃ i, i + m = gs.length ∧ get ρ 5 = some (.int .i64 (i : Nat)) ∧ get ρ 0 = some (.slice q gs.length gs.length) ∧ get ρ 1 = some (.slice q2 ws.length c2) ∧ h' = h ∧ ∀ j, j < i → gs[j]? = ws[j]?) gs.length
      ⟨0, by simp, rfl, rfl, rfl, rfl, fun j hj => by omega⟩ ?_
    rintro m ρ h' ⟨i, him, g5, g0, g1, rfl, hp⟩
    by_cases hlt : i < gs.length
    · have hlt' : (i : Int) < gs.length := by omega
      have hlt2 : (i : Int) < ws.length := by omega
      have hge : (0 : Int) ≤ i := by omega
      have hwi : IntKind.i64.wrap ((i : Int) + 1) = ((i + 1 : Nat) : Int) := by rw [i64_wrap] <;> omega
      cases q with
      | none => simp only [firstV] at hf; rw [if_neg (by omega)] at hf; cases hf
      | some a =>
      cases q2 with
      | none => simp only [firstV] at hf2; rw [if_neg (by omega)] at hf2; cases hf2
      | some b =>
      obtain ⟨a1, oa, x, a2, a3, a4⟩ := firstV_elem1 hf hlt
      obtain ⟨b1, ob, y, b2, b3, b4⟩ := firstV_elem1 hf2 (show i < ws.length by omega)
      obtain ⟨x', zs, e1, e2, Lx⟩ := hl.get hlt
      obtain ⟨y', ys, e3, e4, Ly⟩ := hl2.get (show i < ws.length by omega)
      rw [a4] at e1; cases e1
      rw [b4] at e3; cases e3
      obtain ⟨qx, rfl, fx, lx⟩ := Lx.first
      obtain ⟨qy, cy, rfl, fy, ly⟩ := Ly.1.first
      simp only [sx, x_box, x_alloc, x_bslice, x_slice, x_append, x_appz, x_b2s, x_s2b, x_mark, xop, ev, evs, evParts, fillL, cellsL, Ai.get, Ai.put, stab, isNil?, if_false, if_true, addr?, int?, str?, agg?, bool?, shiftA, FnPost, xresL, xres1, tup, argEnv, ptr, Nat.reduceEqDiff, reduceIte, beq_self_eq_true, ne_eq, Nat.reduceAdd, Nat.reduceMul, Nat.reduceSub, abin_shl, abin_shr, load1V, loadV, storeV, cellsAt, getN, setN, allocV, lenL, lenS, bnd, oneC, Value.oneCell', Nat.reduceLeDiff, Nat.reduceLT, exists_eq_left', forall_const, reduceCtorEq, app_new, app_new0, List.append_assoc, Int.reduceToNat, Int.reduceLT, Int.reduceLE, Int.reduceEq, Int.reduceNe, Int.reduceBEq, IntKind.bits, bne_self_eq_false, Int.reducePow, g5, g0, g1, hlt', hlt2, hge, a1, a2, a3, b1, b2, b3, Nat.mul_one]
      refine xcall (bytes_ok fx fy (by omega) rfl) (by rfl) (by rfl) (by rfl) (by rfl) ?_
      rintro r h2 ⟨rfl, rfl⟩
      by_cases hxy : zs = ys
      · simp only [sx, x_box, x_alloc, x_bslice, x_slice, x_append, x_appz, x_b2s, x_s2b, x_mark, xop, ev, evs, evParts, fillL, cellsL, Ai.get, Ai.put, stab, isNil?, if_false, if_true, addr?, int?, str?, agg?, bool?, shiftA, FnPost, xresL, xres1, tup, argEnv, ptr, Nat.reduceEqDiff, reduceIte, beq_self_eq_true, ne_eq, Nat.reduceAdd, Nat.reduceMul, Nat.reduceSub, abin_shl, abin_shr, load1V, loadV, storeV, cellsAt, getN, setN, allocV, lenL, lenS, bnd, oneC, Value.oneCell', Nat.reduceLeDiff, Nat.reduceLT, exists_eq_left', forall_const, reduceCtorEq, app_new, app_new0, List.append_assoc, Int.reduceToNat, Int.reduceLT, Int.reduceLE, Int.reduceEq, Int.reduceNe, Int.reduceBEq, IntKind.bits, bne_self_eq_false, Int.reducePow, g5, g0, g1, hxy, hwi]
        refine ⟨m - 1, by omega, i + 1, by omega, rfl, fun j hj => ?_⟩
        rcases Nat.lt_or_ge j i with h | h
        · exact hp j h
        · rw [show j = i by omega, e2, e4, hxy]
      · have hne : ¬ gs = ws := fun e => by rw [e, e4] at e2; cases e2; exact hxy rfl
        have h10 : ¬ (1 : Int) = 0 := by decide
        simp only [sx, x_box, x_alloc, x_bslice, x_slice, x_append, x_appz, x_b2s, x_s2b, x_mark, xop, ev, evs, evParts, fillL, cellsL, Ai.get, Ai.put, stab, isNil?, if_false, if_true, addr?, int?, str?, agg?, bool?, shiftA, FnPost, xresL, xres1, tup, argEnv, ptr, Nat.reduceEqDiff, reduceIte, beq_self_eq_true, ne_eq, Nat.reduceAdd, Nat.reduceMul, Nat.reduceSub, abin_shl, abin_shr, load1V, loadV, storeV, cellsAt, getN, setN, allocV, lenL, lenS, bnd, oneC, Value.oneCell', Nat.reduceLeDiff, Nat.reduceLT, exists_eq_left', forall_const, reduceCtorEq, app_new, app_new0, List.append_assoc, Int.reduceToNat, Int.reduceLT, Int.reduceLE, Int.reduceEq, Int.reduceNe, Int.reduceBEq, IntKind.bits, bne_self_eq_false, Int.reducePow, g5, g0, g1, hxy, hne, h10]
    · have hlt' : ¬ (i : Int) < ws.length := by omega
      have hlt2 : ¬ (i : Int) < gs.length := by omega
      have he : gs = ws := List.ext_getElem? fun j => by
        rcases Nat.lt_or_ge j gs.length with h | h
        · exact hp j (by omega)
        · rw [List.getElem?_eq_none (by omega), List.getElem?_eq_none (by omega)]
      simp only [sx, x_box, x_alloc, x_bslice, x_slice, x_append, x_appz, x_b2s, x_s2b, x_mark, xop, ev, evs, evParts, fillL, cellsL, Ai.get, Ai.put, stab, isNil?, if_false, if_true, addr?, int?, str?, agg?, bool?, shiftA, FnPost, xresL, xres1, tup, argEnv, ptr, Nat.reduceEqDiff, reduceIte, beq_self_eq_true, ne_eq, Nat.reduceAdd, Nat.reduceMul, Nat.reduceSub, abin_shl, abin_shr, load1V, loadV, storeV, cellsAt, getN, setN, allocV, lenL, lenS, bnd, oneC, Value.oneCell', Nat.reduceLeDiff, Nat.reduceLT, exists_eq_left', forall_const, reduceCtorEq, app_new, app_new0, List.append_assoc, Int.reduceToNat, Int.reduceLT, Int.reduceLE, Int.reduceEq, Int.reduceNe, Int.reduceBEq, IntKind.bits, bne_self_eq_false, Int.reducePow, g5, g0, g1, hlt', hlt2, he]
  · have hnm' : ¬ (gs.length : Int) = ws.length := by omega
    have hne : ¬ gs = ws := fun e => hnm (by rw [e])
    simp only [X19, sx, x_box, x_alloc, x_bslice, x_slice, x_append, x_appz, x_b2s, x_s2b, x_mark, xop, ev, evs, evParts, fillL, cellsL, Ai.get, Ai.put, stab, isNil?, if_false, if_true, addr?, int?, str?, agg?, bool?, shiftA, FnPost, xresL, xres1, tup, argEnv, ptr, Nat.reduceEqDiff, reduceIte, beq_self_eq_true, ne_eq, Nat.reduceAdd, Nat.reduceMul, Nat.reduceSub, abin_shl, abin_shr, load1V, loadV, storeV, cellsAt, getN, setN, allocV, lenL, lenS, bnd, oneC, Value.oneCell', Nat.reduceLeDiff, Nat.reduceLT, exists_eq_left', forall_const, reduceCtorEq, app_new, app_new0, List.append_assoc, Int.reduceToNat, Int.reduceLT, Int.reduceLE, Int.reduceEq, Int.reduceNe, Int.reduceBEq, IntKind.bits, bne_self_eq_false, Int.reducePow, hnm', hne]
theorem lists_ok {h : AHeap} {v w : Value} {gs ws : List (List Int)} (V : ListV h v gs) (W : QAt h w ws) (hw : ws.length ≤ 1000000) : Valid Try.prog 19 [v, w] h fun r h' => r = .int .i64 (if gs = ws then 0 else 1) ∧ h' = h := by
  obtain ⟨cells, a, c, h1, h2, h3⟩ := W.first
  exact lists_okW V ⟨cells, a, c, h1, h2, h3.qq⟩ hw
end Go.Proofs.Ytcpcngamfncpdaa
