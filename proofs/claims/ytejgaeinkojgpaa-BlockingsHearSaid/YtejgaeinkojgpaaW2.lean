import Derived.Test.YtejgaeinkojgpaaW1
set_option linter.unusedVariables false
set_option linter.unusedSimpArgs false
namespace Go.Proofs.Ytejgaeinkojgpaa
open Go Go.Ai Go.Proofs

def Rq (q : Option Addr) (nA c N D NW : Nat) (ρ : Env) : Prop := get ρ 1 = some (.slice q nA c) ∧ get ρ 5 = some (.int .i64 (N : Nat)) ∧ get ρ 6 = some (.pointer (some ⟨D, 0, none⟩)) ∧ get ρ 8 = some (.slice (some ⟨NW, 0, none⟩) N N)
/-- the message is judged -/
def HrJ (g0 : AHeap) (q : Option Addr) (nA c N D NW i R : Nat) (hd rc : Int) (r : Value) (bad : Bool) (ρ : Env) (h : AHeap) : Prop := Rq q nA c N D NW ρ ∧ get ρ 9 = some (.int .u32 hd) ∧ get ρ 10 = some (.int .i64 (i : Nat)) ∧ get ρ 11 = some (.pointer (some ⟨R, 0, none⟩)) ∧ get ρ 12 = some (.int .i64 rc) ∧ get ρ 13 = some r ∧ get ρ 66 = some (.bool bad) ∧ Kp g0 h
/-- between two messages -/
def HrO (h0 : AHeap) (D G L T NW N : Nat) (q : Option Addr) (nA c : Nat) (m : Nat) (ρ : Env) (h : AHeap) : Prop := ∃ i hd d opv outv want, i + m = nA ∧ Rq q nA c N D NW ρ ∧ get ρ 9 = some (.int .u32 hd) ∧ get ρ 10 = some (.int .i64 (i : Nat)) ∧ HH h0 h D G L T NW d opv outv want ∧ Bh N d want hd
/-- the message is done -/
def HrA (h0 : AHeap) (D G L T NW N : Nat) (q : Option Addr) (nA c i : Nat) (ρ : Env) (h : AHeap) : Prop := ∃ hd d opv outv want, Rq q nA c N D NW ρ ∧ get ρ 9 = some (.int .u32 hd) ∧ get ρ 10 = some (.int .i64 (i : Nat)) ∧ HH h0 h D G L T NW d opv outv want ∧ Bh N d want hd
/-- the circuits are compared -/
def HrC (h0 : AHeap) (D G L T NW N : Nat) (q : Option Addr) (nA c i : Nat) (hd : Int) (d : DK) (opv outv : Value) (want : List Bool) (m : Nat) (ρ : Env) (h : AHeap) : Prop := ∃ j, j + m = N ∧ Rq q nA c N D NW ρ ∧ get ρ 9 = some (.int .u32 hd) ∧ get ρ 10 = some (.int .i64 (i : Nat)) ∧ get ρ 15 = some (.int .i64 (j : Nat)) ∧ HH h0 h D G L T NW d opv outv want
/-- the want is set -/
def HrW (h0 : AHeap) (D G L T NW N R : Nat) (q : Option Addr) (nA c i : Nat) (hd : Int) (d : DK) (opv outv : Value) (cs : List Ci) (ms : Ms) (mv ov : Value) (m : Nat) (ρ : Env) (h : AHeap) : Prop := ∃ j, j + m = ms.mask.length ∧ (hd < ms.serial ∨ j = 0) ∧ Rq q nA c N D NW ρ ∧ get ρ 9 = some (.int .u32 hd) ∧ get ρ 10 = some (.int .i64 (i : Nat)) ∧ get ρ 11 = some (.pointer (some ⟨R, 0, none⟩)) ∧ get ρ 14 = some (.int .i64 (j : Nat)) ∧ HH h0 h D G L T NW d opv outv ((setM ms cs j).map Ci.re) ∧ h[R]? = some (some ⟨true, ms.cells mv ov⟩) ∧ BitsV h mv ms.mask ∧ BitsV h ov ms.on
def HrV (h0 : AHeap) (D G L T NW N R : Nat) (q : Option Addr) (nA c i : Nat) (hd : Int) (d : DK) (opv outv : Value) (want : List Bool) (ms : Ms) (mv ov : Value) (ρ : Env) (h : AHeap) : Prop := Rq q nA c N D NW ρ ∧ get ρ 9 = some (.int .u32 hd) ∧ get ρ 10 = some (.int .i64 (i : Nat)) ∧ get ρ 11 = some (.pointer (some ⟨R, 0, none⟩)) ∧ HH h0 h D G L T NW d opv outv want ∧ h[R]? = some (some ⟨true, ms.cells mv ov⟩)
theorem MsgsW.at {h h' : AHeap} {q : Option Addr} {n : Nat} (w : MsgsW h q n) (K : Kp h h') {i : Nat} (hi : i < n) : ∃ B rows, q = some ⟨B, 0, none⟩ ∧ h'[B]? = some (some ⟨false, rows⟩) ∧ MsgP h' rows i := by
  rcases w with h0 | ⟨B, rows, h1, h2, h3⟩
  · omega
  · obtain ⟨ms, mv, ov, a1, a2, a3, a4, a5, a6⟩ := h3 i hi
    exact ⟨B, rows, h1, K.get h2, ms, mv, ov, a1, a2.frz K.frz, a3.frz K.frz, a4, a5, a6⟩

set_option maxHeartbeats 32000000 in
set_option maxRecDepth 20000 in
theorem hear_law {h : AHeap} {many : Nat} {q : Option Addr} {nA c : Nat} (hm : many < 256) (hA : nA ≤ 9223372036854775807) (W : MsgsW h q nA) :
    Valid Try.prog 4 [.int .u8 (many : Nat), .slice q nA c] h fun r h' => r = .bool true := by
  refine v4 (by simp) ?_
  by_cases hbig : 20 < nA
  · have hbig' : (20 : Int) < nA := by omega
    simp only [X4, sx, x_box, x_alloc, x_bslice, x_slice, x_append, x_appz, x_b2s, xop, ev, evs, evParts, fillL, cellsL, Ai.get, Ai.put, stab, isNil?, if_false, if_true, addr?, int?, str?, agg?, bool?, shiftA, FnPost, xresL, xres1, tup, argEnv, ptr, Nat.reduceEqDiff, reduceIte, beq_self_eq_true, ne_eq, Nat.reduceAdd, Nat.reduceMul, Nat.reduceSub, abin_shl, abin_shr, load1V, loadV, storeV, cellsAt, getN, setN, allocV, lenL, lenS, bnd, oneC, Value.oneCell', Nat.reduceLeDiff, Nat.reduceLT, exists_eq_left', forall_const, reduceCtorEq, app_new, app_new0, List.append_assoc, Int.reduceToNat, Int.reduceLT, Int.reduceLE, Int.reduceEq, Int.reduceNe, Int.reduceBEq, IntKind.bits, bne_self_eq_false, Int.reducePow, hbig']
    refine xcall (lives_ok _) (by rfl) (by rfl) (by rfl) (by rfl) ?_
    rintro r h' rfl
    simp only [sx, x_box, x_alloc, x_bslice, x_slice, x_append, x_appz, x_b2s, xop, ev, evs, evParts, fillL, cellsL, Ai.get, Ai.put, stab, isNil?, if_false, if_true, addr?, int?, str?, agg?, bool?, shiftA, FnPost, xresL, xres1, tup, argEnv, ptr, Nat.reduceEqDiff, reduceIte, beq_self_eq_true, ne_eq, Nat.reduceAdd, Nat.reduceMul, Nat.reduceSub, abin_shl, abin_shr, load1V, loadV, storeV, cellsAt, getN, setN, allocV, lenL, lenS, bnd, oneC, Value.oneCell', Nat.reduceLeDiff, Nat.reduceLT, exists_eq_left', forall_const, reduceCtorEq, app_new, app_new0, List.append_assoc, Int.reduceToNat, Int.reduceLT, Int.reduceLE, Int.reduceEq, Int.reduceNe, Int.reduceBEq, IntKind.bits, bne_self_eq_false, Int.reducePow]
  have hbig' : ¬ (20 : Int) < nA := by omega
  have n80 : ¬ (80 : Int) = 0 := by decide
  have q1 : ((many : Nat) : Int).tmod 80 = ((many % 80 : Nat) : Int) := by rw [Int.tmod_eq_emod_of_nonneg (by omega)]; omega
  have q2 : IntKind.i64.wrap ((many % 80 : Nat) : Int) = ((many % 80 : Nat) : Int) := i64_wrap (by omega) (by omega)
  have q3 : IntKind.i64.wrap (1 + ((many % 80 : Nat) : Int)) = ((1 + many % 80 : Nat) : Int) := by rw [i64_wrap] <;> omega
  simp only [X4, sx, x_box, x_alloc, x_bslice, x_slice, x_append, x_appz, x_b2s, xop, ev, evs, evParts, fillL, cellsL, Ai.get, Ai.put, stab, isNil?, if_false, if_true, addr?, int?, str?, agg?, bool?, shiftA, FnPost, xresL, xres1, tup, argEnv, ptr, Nat.reduceEqDiff, reduceIte, beq_self_eq_true, ne_eq, Nat.reduceAdd, Nat.reduceMul, Nat.reduceSub, abin_shl, abin_shr, load1V, loadV, storeV, cellsAt, getN, setN, allocV, lenL, lenS, bnd, oneC, Value.oneCell', Nat.reduceLeDiff, Nat.reduceLT, exists_eq_left', forall_const, reduceCtorEq, app_new, app_new0, List.append_assoc, Int.reduceToNat, Int.reduceLT, Int.reduceLE, Int.reduceEq, Int.reduceNe, Int.reduceBEq, IntKind.bits, bne_self_eq_false, Int.reducePow, hbig', n80, q1, q2, q3]
  have hN1 : 1 ≤ 1 + many % 80 := by omega
  have hN80 : 1 + many % 80 ≤ 80 := by omega
  generalize 1 + many % 80 = N at *
  clear q1 q2 q3 hm
  refine xcall (group_ok (n := N) hN1 (by omega)) (by rfl) (by rfl) (by rfl) (by rfl) ?_
  rintro r h1 ⟨G, L, rfl, g, K1, hG, hL⟩
  simp only [sx, x_box, x_alloc, x_bslice, x_slice, x_append, x_appz, x_b2s, xop, ev, evs, evParts, fillL, cellsL, Ai.get, Ai.put, stab, isNil?, if_false, if_true, addr?, int?, str?, agg?, bool?, shiftA, FnPost, xresL, xres1, tup, argEnv, ptr, Nat.reduceEqDiff, reduceIte, beq_self_eq_true, ne_eq, Nat.reduceAdd, Nat.reduceMul, Nat.reduceSub, abin_shl, abin_shr, load1V, loadV, storeV, cellsAt, getN, setN, allocV, lenL, lenS, bnd, oneC, Value.oneCell', Nat.reduceLeDiff, Nat.reduceLT, exists_eq_left', forall_const, reduceCtorEq, app_new, app_new0, List.append_assoc, Int.reduceToNat, Int.reduceLT, Int.reduceLE, Int.reduceEq, Int.reduceNe, Int.reduceBEq, IntKind.bits, bne_self_eq_false, Int.reducePow]
  refine xcall (new_ok (again := 3) g) (by rfl) (by rfl) (by rfl) (by rfl) ?_
  rintro r h2 (⟨hbad, -⟩ | ⟨-, -, D, T, rfl, A0, K2, hD, hT⟩)
  · rw [isF_free] at hbad; rcases hbad with h | h
    · omega
    · cases h
  have m0 : ¬ (0 : Int) ≠ 0 := by decide
  have c5 : (0 : Int) ≤ (N : Nat) := by omega
  have c6 : ((N : Nat) : Int) * 1 ≤ 140737488355328 := by omega
  have c7 : ((N : Nat) : Int) ≤ 9223372036854775807 := by omega
  have hz : (List.replicate N [Value.bool false]).flatten = bB (List.replicate N false) := by
    unfold bB; simp
  simp only [sx, x_box, x_alloc, x_bslice, x_slice, x_append, x_appz, x_b2s, xop, ev, evs, evParts, fillL, cellsL, Ai.get, Ai.put, stab, isNil?, if_false, if_true, addr?, int?, str?, agg?, bool?, shiftA, FnPost, xresL, xres1, tup, argEnv, ptr, Nat.reduceEqDiff, reduceIte, beq_self_eq_true, ne_eq, Nat.reduceAdd, Nat.reduceMul, Nat.reduceSub, abin_shl, abin_shr, load1V, loadV, storeV, cellsAt, getN, setN, allocV, lenL, lenS, bnd, oneC, Value.oneCell', Nat.reduceLeDiff, Nat.reduceLT, exists_eq_left', forall_const, reduceCtorEq, app_new, app_new0, List.append_assoc, Int.reduceToNat, Int.reduceLT, Int.reduceLE, Int.reduceEq, Int.reduceNe, Int.reduceBEq, IntKind.bits, bne_self_eq_false, Int.reducePow, m0, c5, c6, c7, Int.le_refl, hz]
  have b0 : Bh N (DK.fresh (List.replicate N ⟨false, false⟩) 3) (List.replicate N false) 0 := by
    refine ⟨by simp [DK.fresh], by simp [DK.fresh], fun c hc => ?_, rfl, rfl, rfl, by decide⟩
    have : c = ⟨false, false⟩ := List.eq_of_mem_replicate hc
    rw [this]
  have hs0 : HH h (h2 ++ [some (AObj.mk true (bB (List.replicate N false)))]) D G L T h2.length (DK.fresh (List.replicate N (Ci.mk false false)) 3) (.pointer none) (.slice none 0 0) (List.replicate N false) := by
    have K3 : Kp h2 (h2 ++ [some (AObj.mk true (bB (List.replicate N false)))]) := Kp.app _ _
    have l1 := K1.1
    have l2 := K2.1
    refine HH.mk ((K1.trans K2).trans K3) (A0.kp K3) (fun B hB => ?_) (by simp) (by omega)
    obtain ⟨i, hB⟩ := hB
    have hlt := A0.lt hB
    refine And.intro ?_ (by omega)
    rcases hB with hi | hi | hi | hi | ⟨-, hi⟩
    · have := hi.2; omega
    · have := hi.2; omega
    · have := hi.2; omega
    · have := hi.2; omega
    · simp [slB] at hi
  generalize h2.length = NW at *
  generalize h2 ++ [some (AObj.mk true (bB (List.replicate N false)))] = h3 at *
  generalize DK.fresh (List.replicate N ⟨false, false⟩) 3 = d0 at *
  clear A0 K1 K2 g hG hL hD hT hz c5 c6 c7
  refine xloop_cut (fun ρ h => True) ?_ ?_
  rotate_left
  · rintro ρ g -
    simp only [sx, x_box, x_alloc, x_bslice, x_slice, x_append, x_appz, x_b2s, xop, ev, evs, evParts, fillL, cellsL, Ai.get, Ai.put, stab, isNil?, if_false, if_true, addr?, int?, str?, agg?, bool?, shiftA, FnPost, xresL, xres1, tup, argEnv, ptr, Nat.reduceEqDiff, reduceIte, beq_self_eq_true, ne_eq, Nat.reduceAdd, Nat.reduceMul, Nat.reduceSub, abin_shl, abin_shr, load1V, loadV, storeV, cellsAt, getN, setN, allocV, lenL, lenS, bnd, oneC, Value.oneCell', Nat.reduceLeDiff, Nat.reduceLT, exists_eq_left', forall_const, reduceCtorEq, app_new, app_new0, List.append_assoc, Int.reduceToNat, Int.reduceLT, Int.reduceLE, Int.reduceEq, Int.reduceNe, Int.reduceBEq, IntKind.bits, bne_self_eq_false, Int.reducePow]
    refine xcall (lives_ok _) (by rfl) (by rfl) (by rfl) (by rfl) ?_
    rintro r h' rfl
    simp only [sx, x_box, x_alloc, x_bslice, x_slice, x_append, x_appz, x_b2s, xop, ev, evs, evParts, fillL, cellsL, Ai.get, Ai.put, stab, isNil?, if_false, if_true, addr?, int?, str?, agg?, bool?, shiftA, FnPost, xresL, xres1, tup, argEnv, ptr, Nat.reduceEqDiff, reduceIte, beq_self_eq_true, ne_eq, Nat.reduceAdd, Nat.reduceMul, Nat.reduceSub, abin_shl, abin_shr, load1V, loadV, storeV, cellsAt, getN, setN, allocV, lenL, lenS, bnd, oneC, Value.oneCell', Nat.reduceLeDiff, Nat.reduceLT, exists_eq_left', forall_const, reduceCtorEq, app_new, app_new0, List.append_assoc, Int.reduceToNat, Int.reduceLT, Int.reduceLE, Int.reduceEq, Int.reduceNe, Int.reduceBEq, IntKind.bits, bne_self_eq_false, Int.reducePow]
  refine xcode_loop (HrO h D G L T NW N q nA c) nA ⟨0, 0, d0, _, _, _, by omega, ⟨rfl, rfl, rfl, rfl⟩, rfl, rfl, hs0, b0⟩ ?_
  clear hs0 b0 h3 d0
  rintro m ρ g ⟨i, hd, d, opv, outv, want, him, ⟨r1, r5, r6, r8⟩, r9, r10, H, B⟩
  by_cases hi : i < nA
  rotate_left
  · have hi' : ¬ (i : Int) < nA := by omega
    simp only [sx, x_box, x_alloc, x_bslice, x_slice, x_append, x_appz, x_b2s, xop, ev, evs, evParts, fillL, cellsL, Ai.get, Ai.put, stab, isNil?, if_false, if_true, addr?, int?, str?, agg?, bool?, shiftA, FnPost, xresL, xres1, tup, argEnv, ptr, Nat.reduceEqDiff, reduceIte, beq_self_eq_true, ne_eq, Nat.reduceAdd, Nat.reduceMul, Nat.reduceSub, abin_shl, abin_shr, load1V, loadV, storeV, cellsAt, getN, setN, allocV, lenL, lenS, bnd, oneC, Value.oneCell', Nat.reduceLeDiff, Nat.reduceLT, exists_eq_left', forall_const, reduceCtorEq, app_new, app_new0, List.append_assoc, Int.reduceToNat, Int.reduceLT, Int.reduceLE, Int.reduceEq, Int.reduceNe, Int.reduceBEq, IntKind.bits, bne_self_eq_false, Int.reducePow, r10, r1, hi']
  have hi' : (i : Int) < nA := by omega
  have hi0 : (0 : Int) ≤ i := by omega
  have hwi : IntKind.i64.wrap ((i : Int) + 1) = ((i + 1 : Nat) : Int) := by rw [i64_wrap] <;> omega
  obtain ⟨AB, rows, rfl, hAB, ms, mv, ov, a1, a2, a3, a4, a5, a6⟩ := W.at H.kp hi
  obtain ⟨mq, mc, rfl⟩ := a2.shape
  obtain ⟨oq, oc, rfl⟩ := a3.shape
  simp only [Ms.cells] at a1
  have hl5 : ∀ a b c d e : Value, getN [a, b, c, d, e] 0 5 = some [a, b, c, d, e] := fun a b c d e => rfl
  simp only [sx, x_box, x_alloc, x_bslice, x_slice, x_append, x_appz, x_b2s, xop, ev, evs, evParts, fillL, cellsL, Ai.get, Ai.put, stab, isNil?, if_false, if_true, addr?, int?, str?, agg?, bool?, shiftA, FnPost, xresL, xres1, tup, argEnv, ptr, Nat.reduceEqDiff, reduceIte, beq_self_eq_true, ne_eq, Nat.reduceAdd, Nat.reduceMul, Nat.reduceSub, abin_shl, abin_shr, load1V, loadV, storeV, cellsAt, setN, allocV, lenL, lenS, bnd, oneC, Value.oneCell', Nat.reduceLeDiff, Nat.reduceLT, exists_eq_left', forall_const, reduceCtorEq, app_new, app_new0, List.append_assoc, Int.reduceToNat, Int.reduceLT, Int.reduceLE, Int.reduceEq, Int.reduceNe, Int.reduceBEq, IntKind.bits, bne_self_eq_false, Int.reducePow, r10, r1, hi', hi0, hAB, a1]
  have Kb := Kp.app g [some (AObj.mk true [Value.int IntKind.u8 ms.kind, .int .u32 ms.serial, .int .i64 ms.first, .slice mq ms.mask.length mc, .slice oq ms.on.length oc])]
  have hR := app_one g (some (AObj.mk true [Value.int IntKind.u8 ms.kind, .int .u32 ms.serial, .int .i64 ms.first, .slice mq ms.mask.length mc, .slice oq ms.on.length oc]))
  have hRn : ¬ ftD D G L T outv g.length := fun ⟨i, hf⟩ => by have := H.A.lt hf; omega
  have hRW : g.length ≠ NW := by have := lt_of_get H.nwo; omega
  have H1 := H.keep Kb
  have M1 := a2.frz Kb.frz
  have O1 := a3.frz Kb.frz
  generalize g ++ [some (AObj.mk true [Value.int IntKind.u8 ms.kind, .int .u32 ms.serial, .int .i64 ms.first, .slice mq ms.mask.length mc, .slice oq ms.on.length oc])] = g1 at *
  generalize g.length = R at *
  clear H Kb a2 a3 hAB
  simp only [sx, x_box, x_alloc, x_bslice, x_slice, x_append, x_appz, x_b2s, xop, ev, evs, evParts, fillL, cellsL, Ai.get, Ai.put, stab, isNil?, if_false, if_true, addr?, int?, str?, agg?, bool?, shiftA, FnPost, xresL, xres1, tup, argEnv, ptr, Nat.reduceEqDiff, reduceIte, beq_self_eq_true, ne_eq, Nat.reduceAdd, Nat.reduceMul, Nat.reduceSub, abin_shl, abin_shr, load1V, loadV, storeV, cellsAt, setN, allocV, lenL, lenS, bnd, oneC, Value.oneCell', Nat.reduceLeDiff, Nat.reduceLT, exists_eq_left', forall_const, reduceCtorEq, app_new, app_new0, List.append_assoc, Int.reduceToNat, Int.reduceLT, Int.reduceLE, Int.reduceEq, Int.reduceNe, Int.reduceBEq, IntKind.bits, bne_self_eq_false, Int.reducePow, hR, hl5, r6]
  refine xcall (hear_ok (m := ms) H1.A ⟨_, _, rfl, M1, O1⟩ a4 (by rw [B.ou]; exact (by decide : 0 < 100000))) (by rfl) (by rfl) (by rfl) (by rfl) ?_
  rintro r g2 hP
  obtain ⟨d', rc, rfl, Wt, hcase⟩ := B.heard hP
  obtain ⟨opv2, outv2, H2, hR2, hRn2, z2⟩ := H1.step Wt hR hRn
  clear H1 hP Wt hR hRn
  simp only [sx, x_box, x_alloc, x_bslice, x_slice, x_append, x_appz, x_b2s, xop, ev, evs, evParts, fillL, cellsL, Ai.get, Ai.put, stab, isNil?, if_false, if_true, addr?, int?, str?, agg?, bool?, shiftA, FnPost, xresL, xres1, tup, argEnv, ptr, Nat.reduceEqDiff, reduceIte, beq_self_eq_true, ne_eq, Nat.reduceAdd, Nat.reduceMul, Nat.reduceSub, abin_shl, abin_shr, load1V, loadV, storeV, cellsAt, getN, setN, allocV, lenL, lenS, bnd, oneC, Value.oneCell', Nat.reduceLeDiff, Nat.reduceLT, exists_eq_left', forall_const, reduceCtorEq, app_new, app_new0, List.append_assoc, Int.reduceToNat, Int.reduceLT, Int.reduceLE, Int.reduceEq, Int.reduceNe, Int.reduceBEq, IntKind.bits, bne_self_eq_false, Int.reducePow, r6]
  refine xcall (taken_ok H2.A (hcase.few B)) (by rfl) (by rfl) (by rfl) (by rfl) ?_
  rintro r g3 ⟨M, A3, off, F3, -⟩
  obtain ⟨opv3, outv3, H3, hR3, -, z3⟩ := H2.step ⟨opv2, .slice none 0 0, A3, F3, fun B hB => .inl (ft_nil hB)⟩ hR2 hRn2
  clear H2 A3 F3 off hR2 hRn2
  have M3 := (M1.frz z2).frz z3
  have O3 := (O1.frz z2).frz z3
  clear M1 O1 z2 z3
  simp only [sx, x_box, x_alloc, x_bslice, x_slice, x_append, x_appz, x_b2s, xop, ev, evs, evParts, fillL, cellsL, Ai.get, Ai.put, stab, isNil?, if_false, if_true, addr?, int?, str?, agg?, bool?, shiftA, FnPost, xresL, xres1, tup, argEnv, ptr, Nat.reduceEqDiff, reduceIte, beq_self_eq_true, ne_eq, Nat.reduceAdd, Nat.reduceMul, Nat.reduceSub, abin_shl, abin_shr, load1V, loadV, storeV, cellsAt, setN, allocV, lenL, lenS, bnd, oneC, Value.oneCell', Nat.reduceLeDiff, Nat.reduceLT, exists_eq_left', forall_const, reduceCtorEq, app_new, app_new0, List.append_assoc, Int.reduceToNat, Int.reduceLT, Int.reduceLE, Int.reduceEq, Int.reduceNe, Int.reduceBEq, IntKind.bits, bne_self_eq_false, Int.reducePow, hR3, hl5]
  refine xcall (lvalid_ok (m := ms) ⟨_, _, rfl, M3, O3⟩ a4) (by rfl) (by rfl) (by rfl) (by rfl) ?_
  rintro r' g4 ⟨K4, vb, rfl, hvb⟩
  have hR4 := K4.get hR3
  have hbad : ∃ bad : Bool, (bad = true ↔ ¬ (ms.Ok ∧ ms.first + ms.mask.length ≤ N)) := by
    by_cases hh : ms.Ok ∧ ms.first + ms.mask.length ≤ N
    · exact ⟨false, Iff.intro (fun h => by cases h) (fun h => absurd hh h)⟩
    · exact ⟨true, Iff.intro (fun _ => hh) (fun _ => rfl)⟩
  obtain ⟨bad, hbad⟩ := hbad
  simp only [sx, x_box, x_alloc, x_bslice, x_slice, x_append, x_appz, x_b2s, xop, ev, evs, evParts, fillL, cellsL, Ai.get, Ai.put, stab, isNil?, if_false, if_true, addr?, int?, str?, agg?, bool?, shiftA, FnPost, xresL, xres1, tup, argEnv, ptr, Nat.reduceEqDiff, reduceIte, beq_self_eq_true, ne_eq, Nat.reduceAdd, Nat.reduceMul, Nat.reduceSub, abin_shl, abin_shr, load1V, loadV, storeV, cellsAt, setN, allocV, lenL, lenS, bnd, oneC, Value.oneCell', Nat.reduceLeDiff, Nat.reduceLT, exists_eq_left', forall_const, reduceCtorEq, app_new, app_new0, List.append_assoc, Int.reduceToNat, Int.reduceLT, Int.reduceLE, Int.reduceEq, Int.reduceNe, Int.reduceBEq, IntKind.bits, bne_self_eq_false, Int.reducePow, hR4, hl5]
  refine xgrd_cut (HrJ g3 (some ⟨AB, 0, none⟩) nA c N D NW i R hd rc r bad) ?_ ?_
  · by_cases hok : ms.Ok
    · obtain rfl : vb = true := hvb.2 hok
      have hv := hok
      obtain ⟨hkk, -, -, hkind⟩ := hv
      have hf0 : (0 : Int) ≤ ms.first ∧ ms.first + ms.mask.length ≤ 256 := by
        rcases hkind with ⟨-, h1, h2⟩ | ⟨-, -, -, h1, h2, -⟩ <;> omega
      have wf : IntKind.i64.wrap (ms.first + (ms.mask.length : Nat)) = ms.first + (ms.mask.length : Nat) := i64_wrap (by omega) (by omega)
      by_cases hk : ms.kind = 1
      · by_cases hfit : (N : Int) < ms.first + (ms.mask.length : Nat)
        · obtain rfl : bad = true := hbad.2 fun h => by omega
          simp only [sx, x_box, x_alloc, x_bslice, x_slice, x_append, x_appz, x_b2s, xop, ev, evs, evParts, fillL, cellsL, Ai.get, Ai.put, stab, isNil?, if_false, if_true, addr?, int?, str?, agg?, bool?, shiftA, FnPost, xresL, xres1, tup, argEnv, ptr, Nat.reduceEqDiff, reduceIte, beq_self_eq_true, ne_eq, Nat.reduceAdd, Nat.reduceMul, Nat.reduceSub, abin_shl, abin_shr, load1V, loadV, storeV, cellsAt, setN, allocV, lenL, lenS, bnd, oneC, Value.oneCell', Nat.reduceLeDiff, Nat.reduceLT, exists_eq_left', forall_const, reduceCtorEq, app_new, app_new0, List.append_assoc, Int.reduceToNat, Int.reduceLT, Int.reduceLE, Int.reduceEq, Int.reduceNe, Int.reduceBEq, IntKind.bits, bne_self_eq_false, Int.reducePow, hR4, hl5, hk, wf, r5, hfit]
          exact ⟨⟨r1, r5, r6, r8⟩, r9, r10, rfl, rfl, rfl, rfl, K4⟩
        · obtain rfl : bad = false := by cases bad; rfl; exact absurd ⟨hok, by omega⟩ (hbad.1 rfl)
          simp only [sx, x_box, x_alloc, x_bslice, x_slice, x_append, x_appz, x_b2s, xop, ev, evs, evParts, fillL, cellsL, Ai.get, Ai.put, stab, isNil?, if_false, if_true, addr?, int?, str?, agg?, bool?, shiftA, FnPost, xresL, xres1, tup, argEnv, ptr, Nat.reduceEqDiff, reduceIte, beq_self_eq_true, ne_eq, Nat.reduceAdd, Nat.reduceMul, Nat.reduceSub, abin_shl, abin_shr, load1V, loadV, storeV, cellsAt, setN, allocV, lenL, lenS, bnd, oneC, Value.oneCell', Nat.reduceLeDiff, Nat.reduceLT, exists_eq_left', forall_const, reduceCtorEq, app_new, app_new0, List.append_assoc, Int.reduceToNat, Int.reduceLT, Int.reduceLE, Int.reduceEq, Int.reduceNe, Int.reduceBEq, IntKind.bits, bne_self_eq_false, Int.reducePow, hR4, hl5, hk, wf, r5, hfit]
          exact ⟨⟨r1, r5, r6, r8⟩, r9, r10, rfl, rfl, rfl, rfl, K4⟩
      · obtain rfl : bad = false := by
          cases bad; rfl
          refine absurd ⟨hok, ?_⟩ (hbad.1 rfl)
          rcases hkind with ⟨-, h1, h2⟩ | ⟨h, -⟩
          · omega
          · exact absurd h hk
        simp only [sx, x_box, x_alloc, x_bslice, x_slice, x_append, x_appz, x_b2s, xop, ev, evs, evParts, fillL, cellsL, Ai.get, Ai.put, stab, isNil?, if_false, if_true, addr?, int?, str?, agg?, bool?, shiftA, FnPost, xresL, xres1, tup, argEnv, ptr, Nat.reduceEqDiff, reduceIte, beq_self_eq_true, ne_eq, Nat.reduceAdd, Nat.reduceMul, Nat.reduceSub, abin_shl, abin_shr, load1V, loadV, storeV, cellsAt, setN, allocV, lenL, lenS, bnd, oneC, Value.oneCell', Nat.reduceLeDiff, Nat.reduceLT, exists_eq_left', forall_const, reduceCtorEq, app_new, app_new0, List.append_assoc, Int.reduceToNat, Int.reduceLT, Int.reduceLE, Int.reduceEq, Int.reduceNe, Int.reduceBEq, IntKind.bits, bne_self_eq_false, Int.reducePow, hR4, hl5, hk]
        exact ⟨⟨r1, r5, r6, r8⟩, r9, r10, rfl, rfl, rfl, rfl, K4⟩
    · obtain rfl : vb = false := by cases vb; rfl; exact absurd (hvb.1 rfl) hok
      obtain rfl : bad = true := hbad.2 fun h => hok h.1
      simp only [sx, x_box, x_alloc, x_bslice, x_slice, x_append, x_appz, x_b2s, xop, ev, evs, evParts, fillL, cellsL, Ai.get, Ai.put, stab, isNil?, if_false, if_true, addr?, int?, str?, agg?, bool?, shiftA, FnPost, xresL, xres1, tup, argEnv, ptr, Nat.reduceEqDiff, reduceIte, beq_self_eq_true, ne_eq, Nat.reduceAdd, Nat.reduceMul, Nat.reduceSub, abin_shl, abin_shr, load1V, loadV, storeV, cellsAt, setN, allocV, lenL, lenS, bnd, oneC, Value.oneCell', Nat.reduceLeDiff, Nat.reduceLT, exists_eq_left', forall_const, reduceCtorEq, app_new, app_new0, List.append_assoc, Int.reduceToNat, Int.reduceLT, Int.reduceLE, Int.reduceEq, Int.reduceNe, Int.reduceBEq, IntKind.bits, bne_self_eq_false, Int.reducePow, hR4, hl5]
      exact ⟨⟨r1, r5, r6, r8⟩, r9, r10, rfl, rfl, rfl, rfl, K4⟩
  clear r1 r5 r6 r8 r9 r10 hvb hR4 K4
  rintro ρ g4 ⟨⟨r1, r5, r6, r8⟩, r9, r10, r11, r12, r13, r66, K4⟩
  have H4 := H3.keep K4
  have hR4 := K4.get hR3
  have M4 := M3.frz K4.frz
  have O4 := O3.frz K4.frz
  have Q4 := M.kp K4
  clear H3 hR3 M3 O3 M K4
  simp only [sx, x_box, x_alloc, x_bslice, x_slice, x_append, x_appz, x_b2s, xop, ev, evs, evParts, fillL, cellsL, Ai.get, Ai.put, stab, isNil?, if_false, if_true, addr?, int?, str?, agg?, bool?, shiftA, FnPost, xresL, xres1, tup, argEnv, ptr, Nat.reduceEqDiff, reduceIte, beq_self_eq_true, ne_eq, Nat.reduceAdd, Nat.reduceMul, Nat.reduceSub, abin_shl, abin_shr, load1V, loadV, storeV, cellsAt, setN, allocV, lenL, lenS, bnd, oneC, Value.oneCell', Nat.reduceLeDiff, Nat.reduceLT, exists_eq_left', forall_const, reduceCtorEq, app_new, app_new0, List.append_assoc, Int.reduceToNat, Int.reduceLT, Int.reduceLE, Int.reduceEq, Int.reduceNe, Int.reduceBEq, IntKind.bits, bne_self_eq_false, Int.reducePow, r66]
  refine xcond_cut (HrA h D G L T NW N (some ⟨AB, 0, none⟩) nA c i) ?_ ?_
  · rcases hcase with ⟨h1, rfl, rfl⟩ | ⟨h1, h2, h3, rfl, rfl⟩ | ⟨h1, h2, h3, rfl, rfl⟩
    · obtain rfl : bad = true := hbad.2 h1
      rw [B.ou] at Q4
      obtain ⟨rq, rfl⟩ := Q4.shp
      have e1 : ¬ (1 : Int) ≠ 1 := by decide
      have e0 : ¬ ((0 : Nat) : Int) ≠ 0 := by decide
      simp only [sx, x_box, x_alloc, x_bslice, x_slice, x_append, x_appz, x_b2s, xop, ev, evs, evParts, fillL, cellsL, Ai.get, Ai.put, stab, isNil?, if_false, if_true, addr?, int?, str?, agg?, bool?, shiftA, FnPost, xresL, xres1, tup, argEnv, ptr, Nat.reduceEqDiff, reduceIte, beq_self_eq_true, ne_eq, Nat.reduceAdd, Nat.reduceMul, Nat.reduceSub, abin_shl, abin_shr, load1V, loadV, storeV, cellsAt, setN, allocV, lenL, lenS, bnd, oneC, Value.oneCell', Nat.reduceLeDiff, Nat.reduceLT, exists_eq_left', forall_const, reduceCtorEq, app_new, app_new0, List.append_assoc, Int.reduceToNat, Int.reduceLT, Int.reduceLE, Int.reduceEq, Int.reduceNe, Int.reduceBEq, IntKind.bits, bne_self_eq_false, Int.reducePow, r12, r13, e1, e0, List.length_nil]
      exact ⟨hd, _, opv3, outv3, want, ⟨r1, r5, r6, r8⟩, r9, r10, H4, Bh.mk B.cl B.re B.lo B.op rfl B.he B.h0⟩
    · obtain rfl : bad = false := by cases bad; rfl; exact absurd ⟨h1, h2⟩ (hbad.1 rfl)
      rw [B.ou] at Q4
      obtain ⟨rq, rfl⟩ := Q4.shp
      have e0 : ¬ ((0 : Nat) : Int) ≠ 0 := by decide
      have e00 : ¬ (0 : Int) ≠ 0 := by decide
      simp only [sx, x_box, x_alloc, x_bslice, x_slice, x_append, x_appz, x_b2s, xop, ev, evs, evParts, fillL, cellsL, Ai.get, Ai.put, stab, isNil?, if_false, if_true, addr?, int?, str?, agg?, bool?, shiftA, FnPost, xresL, xres1, tup, argEnv, ptr, Nat.reduceEqDiff, reduceIte, beq_self_eq_true, ne_eq, Nat.reduceAdd, Nat.reduceMul, Nat.reduceSub, abin_shl, abin_shr, load1V, loadV, storeV, cellsAt, setN, allocV, lenL, lenS, bnd, oneC, Value.oneCell', Nat.reduceLeDiff, Nat.reduceLT, exists_eq_left', forall_const, reduceCtorEq, app_new, app_new0, List.append_assoc, Int.reduceToNat, Int.reduceLT, Int.reduceLE, Int.reduceEq, Int.reduceNe, Int.reduceBEq, IntKind.bits, bne_self_eq_false, Int.reducePow, r11, r12, r13, hR4, h3, e00, e0, List.length_nil]
      exact ⟨hd, _, opv3, outv3, want, ⟨r1, r5, r6, r8⟩, r9, r10, H4, Bh.mk B.cl B.re B.lo B.op rfl B.he B.h0⟩
    · obtain rfl : bad = false := by cases bad; rfl; exact absurd ⟨h1, h2⟩ (hbad.1 rfl)
      have e00 : ¬ (0 : Int) ≠ 0 := by decide
      have e12 : ¬ (1 : Int) = 2 := by decide
      have e1 : ¬ ((1 : Nat) : Int) ≠ 1 := by decide
      have eo : (d.heardS ms).out = [ackM ms.serial] := by show d.out ++ [ackM ms.serial] = _; rw [B.ou]; rfl
      rw [eo] at Q4
      obtain ⟨a, o, mv', ov', rfl, b1, b2, b3, b4, b5, -⟩ := Q4.one
      simp only [Ms.cells, ackM] at b3
      have i00 : (0 : Int) ≤ 0 := by decide
      have i01 : (0 : Int) < ((1 : Nat) : Int) := by decide
      have t0 : (0 : Int).toNat = 0 := rfl
      simp only [sx, x_box, x_alloc, x_bslice, x_slice, x_append, x_appz, x_b2s, xop, ev, evs, evParts, fillL, cellsL, Ai.get, Ai.put, stab, isNil?, if_false, if_true, addr?, int?, str?, agg?, bool?, shiftA, FnPost, xresL, xres1, tup, argEnv, ptr, Nat.reduceEqDiff, reduceIte, beq_self_eq_true, ne_eq, Nat.reduceAdd, Nat.reduceMul, Nat.reduceSub, abin_shl, abin_shr, load1V, loadV, storeV, cellsAt, setN, allocV, lenL, lenS, bnd, oneC, Value.oneCell', Nat.reduceLeDiff, Nat.reduceLT, exists_eq_left', forall_const, reduceCtorEq, app_new, app_new0, List.append_assoc, Int.reduceToNat, Int.reduceLT, Int.reduceLE, Int.reduceEq, Int.reduceNe, Int.reduceBEq, IntKind.bits, bne_self_eq_false, Int.reducePow, r11, r12, r13, hR4, h3, e00, e12, e1, i00, i01, t0, b1, b2, b3, Nat.zero_mul]
      refine xcall (same_ok (a := ackM ms.serial) (b := ackM ms.serial) ⟨mv', ov', rfl, b4, b5⟩ (ack_mv _ _) (show 0 ≤ 1000000 by decide) (show 0 ≤ 1000000 by decide) (show 0 ≤ 1000000 by decide) (show 0 ≤ 1000000 by decide)) (by rfl) (by rfl) (by rfl) (by rfl) ?_
      rintro r g5 ⟨K5, tt, rfl, htt⟩
      obtain rfl : tt = true := htt.2 rfl
      have H5 := H4.keep K5
      have hR5 := K5.get hR4
      have M5 := M4.frz K5.frz
      have O5 := O4.frz K5.frz
      clear H4 hR4 M4 O4 K5 b1 b2 b3 b4 b5 Q4
      simp only [sx, x_box, x_alloc, x_bslice, x_slice, x_append, x_appz, x_b2s, xop, ev, evs, evParts, fillL, cellsL, Ai.get, Ai.put, stab, isNil?, if_false, if_true, addr?, int?, str?, agg?, bool?, shiftA, FnPost, xresL, xres1, tup, argEnv, ptr, Nat.reduceEqDiff, reduceIte, beq_self_eq_true, ne_eq, Nat.reduceAdd, Nat.reduceMul, Nat.reduceSub, abin_shl, abin_shr, load1V, loadV, storeV, cellsAt, setN, allocV, lenL, lenS, bnd, oneC, Value.oneCell', Nat.reduceLeDiff, Nat.reduceLT, exists_eq_left', forall_const, reduceCtorEq, app_new, app_new0, List.append_assoc, Int.reduceToNat, Int.reduceLT, Int.reduceLE, Int.reduceEq, Int.reduceNe, Int.reduceBEq, IntKind.bits, bne_self_eq_false, Int.reducePow]
      refine xloop_cut (HrV h D G L T NW N R (some ⟨AB, 0, none⟩) nA c i hd { d.heardS ms with out := [] } opv3 outv3 (if hd < ms.serial then (setM ms d.cs ms.mask.length).map Ci.re else want) ms (.slice mq ms.mask.length mc) (.slice oq ms.on.length oc)) ?_ ?_
      · refine xcode_loop (HrW h D G L T NW N R (some ⟨AB, 0, none⟩) nA c i hd { d.heardS ms with out := [] } opv3 outv3 d.cs ms (.slice mq ms.mask.length mc) (.slice oq ms.on.length oc)) ms.mask.length ⟨0, by omega, .inr rfl, ⟨r1, r5, r6, r8⟩, r9, r10, r11, rfl, by show HH _ _ _ _ _ _ _ _ _ _ (d.cs.map Ci.re); rw [B.re]; exact H5, hR5, M5, O5⟩ ?_
        clear r1 r5 r6 r8 r9 r10 r11 r12 r13 r66 H5 hR5 M5 O5
        rintro m ρ g6 ⟨j, hjm, hj0, ⟨r1, r5, r6, r8⟩, r9, r10, r11, r14, H6, hR6, M6, O6⟩
        have hR6' := hR6
        simp only [Ms.cells] at hR6'
        by_cases hj : j < ms.mask.length
        rotate_left
        · have hj' : ¬ (j : Int) < (ms.mask.length : Nat) := by omega
          simp only [sx, x_box, x_alloc, x_bslice, x_slice, x_append, x_appz, x_b2s, xop, ev, evs, evParts, fillL, cellsL, Ai.get, Ai.put, stab, isNil?, if_false, if_true, addr?, int?, str?, agg?, bool?, shiftA, FnPost, xresL, xres1, tup, argEnv, ptr, Nat.reduceEqDiff, reduceIte, beq_self_eq_true, ne_eq, Nat.reduceAdd, Nat.reduceMul, Nat.reduceSub, abin_shl, abin_shr, load1V, loadV, storeV, cellsAt, setN, allocV, lenL, lenS, bnd, oneC, Value.oneCell', Nat.reduceLeDiff, Nat.reduceLT, exists_eq_left', forall_const, reduceCtorEq, app_new, app_new0, List.append_assoc, Int.reduceToNat, Int.reduceLT, Int.reduceLE, Int.reduceEq, Int.reduceNe, Int.reduceBEq, IntKind.bits, bne_self_eq_false, Int.reducePow, r14, r11, hR6', hj']
          refine ⟨⟨r1, r5, r6, r8⟩, r9, r10, r11, ?_, hR6⟩
          have ej : j = ms.mask.length := by omega
          subst ej
          have e : (if hd < ms.serial then (setM ms d.cs ms.mask.length).map Ci.re else want) = (setM ms d.cs ms.mask.length).map Ci.re := by
            rcases hj0 with h | h
            · rw [if_pos h]
            · by_cases hs : hd < ms.serial
              · rw [if_pos hs]
              · rw [if_neg hs, h]; exact B.re.symm
          rw [e]; exact H6
        have hj' : (j : Int) < (ms.mask.length : Nat) := by omega
        by_cases hs : hd < ms.serial
        rotate_left
        · have ej : j = 0 := hj0.resolve_left hs
          have hs' : ¬ (ms.serial > hd) := hs
          simp only [sx, x_box, x_alloc, x_bslice, x_slice, x_append, x_appz, x_b2s, xop, ev, evs, evParts, fillL, cellsL, Ai.get, Ai.put, stab, isNil?, if_false, if_true, addr?, int?, str?, agg?, bool?, shiftA, FnPost, xresL, xres1, tup, argEnv, ptr, Nat.reduceEqDiff, reduceIte, beq_self_eq_true, ne_eq, Nat.reduceAdd, Nat.reduceMul, Nat.reduceSub, abin_shl, abin_shr, load1V, loadV, storeV, cellsAt, setN, allocV, lenL, lenS, bnd, oneC, Value.oneCell', Nat.reduceLeDiff, Nat.reduceLT, exists_eq_left', forall_const, reduceCtorEq, app_new, app_new0, List.append_assoc, Int.reduceToNat, Int.reduceLT, Int.reduceLE, Int.reduceEq, Int.reduceNe, Int.reduceBEq, IntKind.bits, bne_self_eq_false, Int.reducePow, r14, r11, r9, hR6', hj', hs']
          refine ⟨⟨r1, r5, r6, r8⟩, r9, r10, r11, ?_, hR6⟩
          rw [ej] at H6
          rw [← B.re]; exact H6
        have hjn : (0 : Int) ≤ (j : Int) := by omega
        have wj : IntKind.i64.wrap ((j : Int) + 1) = ((j + 1 : Nat) : Int) := by rw [i64_wrap] <;> omega
        have hv := h1
        obtain ⟨-, -, hol, hkind⟩ := hv
        have hkind2 := hkind.resolve_left fun h => by have := h.1; omega
        obtain ⟨-, -, hk32, hf0, -⟩ := hkind2
        obtain ⟨fN, hfN⟩ : ∃ fN : Nat, ms.first = (fN : Int) := ⟨ms.first.toNat, by omega⟩
        have em := List.getElem?_eq_getElem (l := ms.mask) (i := j) hj
        have eon := List.getElem?_eq_getElem (l := ms.on) (i := j) (by omega)
        generalize ms.mask[j]'hj = x at em
        generalize ms.on[j]'(by omega) = y at eon
        obtain ⟨-, am, cm, rfl, y1, y2, y3⟩ := M6.elem em
        obtain ⟨-, an, cn, rfl, z1, z2, z3⟩ := O6.elem eon
        have hlo : (j : Int) < (ms.on.length : Nat) := by omega
        have sre := setM_re ms d.cs j
        rw [em, eon, hfN, Int.toNat_natCast] at sre
        cases x
        · rw [if_neg (by decide)] at sre
          simp only [sx, x_box, x_alloc, x_bslice, x_slice, x_append, x_appz, x_b2s, xop, ev, evs, evParts, fillL, cellsL, Ai.get, Ai.put, stab, isNil?, if_false, if_true, addr?, int?, str?, agg?, bool?, shiftA, FnPost, xresL, xres1, tup, argEnv, ptr, Nat.reduceEqDiff, reduceIte, beq_self_eq_true, ne_eq, Nat.reduceAdd, Nat.reduceMul, Nat.reduceSub, abin_shl, abin_shr, load1V, loadV, storeV, cellsAt, setN, allocV, lenL, lenS, bnd, oneC, Value.oneCell', Nat.reduceLeDiff, Nat.reduceLT, exists_eq_left', forall_const, reduceCtorEq, app_new, app_new0, List.append_assoc, Int.reduceToNat, Int.reduceLT, Int.reduceLE, Int.reduceEq, Int.reduceNe, Int.reduceBEq, IntKind.bits, bne_self_eq_false, Int.reducePow, r14, r11, r9, hR6', hj', hs, hjn, y1, y2, y3, wj, Nat.mul_one]
          exact ⟨m - 1, by omega, j + 1, by omega, .inl hs, ⟨r1, r5, r6, r8⟩, r9, r10, r11, rfl, by rw [sre]; exact H6, hR6, M6, O6⟩
        · rw [if_pos rfl] at sre
          have wf : IntKind.i64.wrap ((fN : Int) + (j : Int)) = ((fN + j : Nat) : Int) := by rw [i64_wrap] <;> omega
          have hfj : ((fN + j : Nat) : Int) < ((N : Nat) : Int) := by omega
          have hfj0 : (0 : Int) ≤ ((fN + j : Nat) : Int) := by omega
          have hnw := H6.nwo
          have hle : fN + j + 1 ≤ (bB ((setM ms d.cs j).map Ci.re)).length := by rw [bB_len, List.length_map, setM_len, B.cl]; omega
          rw [hfN] at hR6'
          simp only [sx, x_box, x_alloc, x_bslice, x_slice, x_append, x_appz, x_b2s, xop, ev, evs, evParts, fillL, cellsL, Ai.get, Ai.put, stab, isNil?, if_false, if_true, addr?, int?, str?, agg?, bool?, shiftA, FnPost, xresL, xres1, tup, argEnv, ptr, Nat.reduceEqDiff, reduceIte, beq_self_eq_true, ne_eq, Nat.reduceAdd, Nat.reduceMul, Nat.reduceSub, abin_shl, abin_shr, load1V, loadV, storeV, cellsAt, setN, allocV, lenL, lenS, bnd, oneC, Value.oneCell', Nat.reduceLeDiff, Nat.reduceLT, exists_eq_left', forall_const, reduceCtorEq, app_new, app_new0, List.append_assoc, Int.reduceToNat, Int.reduceLT, Int.reduceLE, Int.reduceEq, Int.reduceNe, Int.reduceBEq, IntKind.bits, bne_self_eq_false, Int.reducePow, r14, r11, r9, r8, hR6', hj', hs, hjn, y1, y2, y3, wj, hlo, z1, z2, z3, wf, hfj, hfj0, hnw, hle, Nat.mul_one, Nat.zero_add, bB_set]
          refine ⟨m - 1, by omega, j + 1, by omega, .inl hs, ⟨r1, r5, r6, r8⟩, r9, r10, r11, rfl, ?_, ?_, ?_, ?_⟩
          · rw [sre]; exact H6.setN
          · rw [set_ne hRW.symm]; exact hR6
          · exact M6.frz (frz_set hnw _)
          · exact O6.frz (frz_set hnw _)
      · clear r1 r5 r6 r8 r9 r10 r11 r12 r13 r66 H5 hR5 M5 O5
        rintro ρ g6 ⟨⟨r1, r5, r6, r8⟩, r9, r10, r11, H6, hR6⟩
        simp only [Ms.cells] at hR6
        simp only [sx, x_box, x_alloc, x_bslice, x_slice, x_append, x_appz, x_b2s, xop, ev, evs, evParts, fillL, cellsL, Ai.get, Ai.put, stab, isNil?, if_false, if_true, addr?, int?, str?, agg?, bool?, shiftA, FnPost, xresL, xres1, tup, argEnv, ptr, Nat.reduceEqDiff, reduceIte, beq_self_eq_true, ne_eq, Nat.reduceAdd, Nat.reduceMul, Nat.reduceSub, abin_shl, abin_shr, load1V, loadV, storeV, cellsAt, setN, allocV, lenL, lenS, bnd, oneC, Value.oneCell', Nat.reduceLeDiff, Nat.reduceLT, exists_eq_left', forall_const, reduceCtorEq, app_new, app_new0, List.append_assoc, Int.reduceToNat, Int.reduceLT, Int.reduceLE, Int.reduceEq, Int.reduceNe, Int.reduceBEq, IntKind.bits, bne_self_eq_false, Int.reducePow, r9, r11, hR6, List.foldlM_cons, List.foldlM_nil]
        have emx : (if ms.serial > hd then ms.serial else hd) = max hd ms.serial := by split <;> omega
        rw [emx]
        exact ⟨max hd ms.serial, _, opv3, outv3, _, ⟨r1, r5, r6, r8⟩, rfl, r10, H6, B.set ms a6.1⟩
  · clear r1 r5 r6 r8 r9 r10 r11 r12 r13 r66 H4 hR4 M4 O4 Q4 hcase B
    rintro ρ g5 ⟨hd, d, opv, outv, want, ⟨r1, r5, r6, r8⟩, r9, r10, H, B⟩
    simp only [sx, x_box, x_alloc, x_bslice, x_slice, x_append, x_appz, x_b2s, xop, ev, evs, evParts, fillL, cellsL, Ai.get, Ai.put, stab, isNil?, if_false, if_true, addr?, int?, str?, agg?, bool?, shiftA, FnPost, xresL, xres1, tup, argEnv, ptr, Nat.reduceEqDiff, reduceIte, beq_self_eq_true, ne_eq, Nat.reduceAdd, Nat.reduceMul, Nat.reduceSub, abin_shl, abin_shr, load1V, loadV, storeV, cellsAt, getN, setN, allocV, lenL, lenS, bnd, oneC, Value.oneCell', Nat.reduceLeDiff, Nat.reduceLT, exists_eq_left', forall_const, reduceCtorEq, app_new, app_new0, List.append_assoc, Int.reduceToNat, Int.reduceLT, Int.reduceLE, Int.reduceEq, Int.reduceNe, Int.reduceBEq, IntKind.bits, bne_self_eq_false, Int.reducePow]
    refine xloop_cut (HrA h D G L T NW N (some ⟨AB, 0, none⟩) nA c i) ?_ ?_
    · refine xcode_loop (HrC h D G L T NW N (some ⟨AB, 0, none⟩) nA c i hd d opv outv want) N ⟨0, by omega, ⟨r1, r5, r6, r8⟩, r9, r10, rfl, H⟩ ?_
      clear H r1 r5 r6 r8 r9 r10
      rintro m ρ g6 ⟨j, hjm, ⟨r1, r5, r6, r8⟩, r9, r10, r15, H⟩
      by_cases hj : j < N
      rotate_left
      · have hj' : ¬ (j : Int) < ((N : Nat) : Int) := by omega
        simp only [sx, x_box, x_alloc, x_bslice, x_slice, x_append, x_appz, x_b2s, xop, ev, evs, evParts, fillL, cellsL, Ai.get, Ai.put, stab, isNil?, if_false, if_true, addr?, int?, str?, agg?, bool?, shiftA, FnPost, xresL, xres1, tup, argEnv, ptr, Nat.reduceEqDiff, reduceIte, beq_self_eq_true, ne_eq, Nat.reduceAdd, Nat.reduceMul, Nat.reduceSub, abin_shl, abin_shr, load1V, loadV, storeV, cellsAt, getN, setN, allocV, lenL, lenS, bnd, oneC, Value.oneCell', Nat.reduceLeDiff, Nat.reduceLT, exists_eq_left', forall_const, reduceCtorEq, app_new, app_new0, List.append_assoc, Int.reduceToNat, Int.reduceLT, Int.reduceLE, Int.reduceEq, Int.reduceNe, Int.reduceBEq, IntKind.bits, bne_self_eq_false, Int.reducePow, r15, r5, hj']
        exact ⟨hd, d, opv, outv, want, ⟨r1, r5, r6, r8⟩, r9, r10, H, B⟩
      have hj' : (j : Int) < ((N : Nat) : Int) := by omega
      have hjn : (0 : Int) ≤ (j : Int) := by omega
      have wj : IntKind.i64.wrap ((j : Int) + 1) = ((j + 1 : Nat) : Int) := by rw [i64_wrap] <;> omega
      have ew := List.getElem?_eq_getElem (l := want) (i := j) (by rw [B.wl]; exact hj)
      generalize want[j]'(by rw [B.wl]; exact hj) = x at ew
      obtain ⟨k1, k2⟩ := B.blk ew
      have cw := bB_get ew
      have hnw := H.nwo
      simp only [sx, x_box, x_alloc, x_bslice, x_slice, x_append, x_appz, x_b2s, xop, ev, evs, evParts, fillL, cellsL, Ai.get, Ai.put, stab, isNil?, if_false, if_true, addr?, int?, str?, agg?, bool?, shiftA, FnPost, xresL, xres1, tup, argEnv, ptr, Nat.reduceEqDiff, reduceIte, beq_self_eq_true, ne_eq, Nat.reduceAdd, Nat.reduceMul, Nat.reduceSub, abin_shl, abin_shr, load1V, loadV, storeV, cellsAt, getN, setN, allocV, lenL, lenS, bnd, oneC, Value.oneCell', Nat.reduceLeDiff, Nat.reduceLT, exists_eq_left', forall_const, reduceCtorEq, app_new, app_new0, List.append_assoc, Int.reduceToNat, Int.reduceLT, Int.reduceLE, Int.reduceEq, Int.reduceNe, Int.reduceBEq, IntKind.bits, bne_self_eq_false, Int.reducePow, r15, r5, r6, r8, hj', hjn, hnw, cw, Nat.mul_one, Nat.zero_add]
      refine xcall (remote_ok (k := (j : Int)) H.A) (by rfl) (by rfl) (by rfl) (by rfl) ?_
      rintro r g7 ⟨rfl, K7⟩
      have H7 := H.keep K7
      have hnw7 := H7.nwo
      have hxx : (x != x) = false := by simp
      rw [k1]
      simp only [sx, x_box, x_alloc, x_bslice, x_slice, x_append, x_appz, x_b2s, xop, ev, evs, evParts, fillL, cellsL, Ai.get, Ai.put, stab, isNil?, if_false, if_true, addr?, int?, str?, agg?, bool?, shiftA, FnPost, xresL, xres1, tup, argEnv, ptr, Nat.reduceEqDiff, reduceIte, beq_self_eq_true, ne_eq, Nat.reduceAdd, Nat.reduceMul, Nat.reduceSub, abin_shl, abin_shr, load1V, loadV, storeV, cellsAt, getN, setN, allocV, lenL, lenS, bnd, oneC, Value.oneCell', Nat.reduceLeDiff, Nat.reduceLT, exists_eq_left', forall_const, reduceCtorEq, app_new, app_new0, List.append_assoc, Int.reduceToNat, Int.reduceLT, Int.reduceLE, Int.reduceEq, Int.reduceNe, Int.reduceBEq, IntKind.bits, bne_self_eq_false, Int.reducePow, hnw7, cw, hxx, r15, r6]
      refine xcall (local_ok (k := (j : Int)) H7.A) (by rfl) (by rfl) (by rfl) (by rfl) ?_
      rintro r g8 ⟨rfl, K8⟩
      rw [k2]
      simp only [sx, x_box, x_alloc, x_bslice, x_slice, x_append, x_appz, x_b2s, xop, ev, evs, evParts, fillL, cellsL, Ai.get, Ai.put, stab, isNil?, if_false, if_true, addr?, int?, str?, agg?, bool?, shiftA, FnPost, xresL, xres1, tup, argEnv, ptr, Nat.reduceEqDiff, reduceIte, beq_self_eq_true, ne_eq, Nat.reduceAdd, Nat.reduceMul, Nat.reduceSub, abin_shl, abin_shr, load1V, loadV, storeV, cellsAt, getN, setN, allocV, lenL, lenS, bnd, oneC, Value.oneCell', Nat.reduceLeDiff, Nat.reduceLT, exists_eq_left', forall_const, reduceCtorEq, app_new, app_new0, List.append_assoc, Int.reduceToNat, Int.reduceLT, Int.reduceLE, Int.reduceEq, Int.reduceNe, Int.reduceBEq, IntKind.bits, bne_self_eq_false, Int.reducePow, r15, wj]
      exact ⟨m - 1, by omega, j + 1, by omega, ⟨r1, r5, r6, r8⟩, r9, r10, rfl, H7.keep K8⟩
    · clear H r1 r5 r6 r8 r9 r10 B
      rintro ρ g6 ⟨hd, d, opv, outv, want, ⟨r1, r5, r6, r8⟩, r9, r10, H, B⟩
      simp only [sx, x_box, x_alloc, x_bslice, x_slice, x_append, x_appz, x_b2s, xop, ev, evs, evParts, fillL, cellsL, Ai.get, Ai.put, stab, isNil?, if_false, if_true, addr?, int?, str?, agg?, bool?, shiftA, FnPost, xresL, xres1, tup, argEnv, ptr, Nat.reduceEqDiff, reduceIte, beq_self_eq_true, ne_eq, Nat.reduceAdd, Nat.reduceMul, Nat.reduceSub, abin_shl, abin_shr, load1V, loadV, storeV, cellsAt, getN, setN, allocV, lenL, lenS, bnd, oneC, Value.oneCell', Nat.reduceLeDiff, Nat.reduceLT, exists_eq_left', forall_const, reduceCtorEq, app_new, app_new0, List.append_assoc, Int.reduceToNat, Int.reduceLT, Int.reduceLE, Int.reduceEq, Int.reduceNe, Int.reduceBEq, IntKind.bits, bne_self_eq_false, Int.reducePow, r10, hwi]
      exact ⟨m - 1, by omega, i + 1, hd, d, opv, outv, want, by omega, ⟨r1, r5, r6, r8⟩, r9, rfl, H, B⟩
end Go.Proofs.Ytejgaeinkojgpaa
