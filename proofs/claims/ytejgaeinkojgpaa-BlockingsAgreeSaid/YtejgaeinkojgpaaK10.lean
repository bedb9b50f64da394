import Derived.Test.YtejgaeinkojgpaaK9
set_option linter.unusedVariables false
set_option linter.unusedSimpArgs false
namespace Go.Proofs.Ytejgaeinkojgpaa
open Go Go.Ai Go.Proofs

def isF (cs : List Ci) : Bool := cs.all fun c => c.blk == 0
def DK.fresh (cs : List Ci) (again : Int) : DK := ⟨cs, again, 0, List.replicate cs.length false, 0, 0, none, []⟩
def NewP (h : AHeap) (G L : Nat) (cs : List Ci) (again : Int) (r : Value) (h' : AHeap) : Prop :=
  ((again < 1 ∨ isF cs = false) ∧ r = .tuple #[.pointer none, .int .i64 1] ∧ Kp h h') ∨
  (1 ≤ again ∧ isF cs = true ∧ ∃ D T, r = .tuple #[.pointer (some ⟨D, 0, none⟩), .int .i64 0] ∧ DAt h' D G L T (DK.fresh cs again) (.pointer none) (.slice none 0 0) ∧ Kp h h' ∧ h.length ≤ D ∧ h.length ≤ T)
def NwI (h0 : AHeap) (G : Nat) (again : Int) (cs : List Ci) (m : Nat) (ρ : Env) (h : AHeap) : Prop := ∃ i, i + m = cs.length ∧ get ρ 16 = some (.int .i64 (i : Nat)) ∧ get ρ 15 = some (.int .i64 (cs.length : Nat)) ∧ get ρ 0 = some (.pointer (some ⟨G, 0, none⟩)) ∧ get ρ 1 = some (.int .i64 again) ∧ Kp h0 h ∧ ∀ c ∈ cs.take i, (c.blk == 0) = true
set_option maxHeartbeats 4000000 in
theorem new_ok {h : AHeap} {G L : Nat} {cs : List Ci} {again : Int} (g : GAt h G L cs) : Valid Try.prog 10 [.pointer (some ⟨G, 0, none⟩), .int .i64 again] h fun r h' => NewP h G L cs again r h' := by
  refine v10 (by simp) ?_
  have hb := g.big
  have hp := g.pos
  have h0 : ¬ (cs.length : Int) = 0 := by omega
  simp only [X10, sx, x_box, x_alloc, x_bslice, x_slice, x_append, x_appz, x_b2s, xop, ev, evs, evParts, fillL, cellsL, Ai.get, Ai.put, stab, isNil?, if_false, if_true, addr?, int?, str?, agg?, bool?, shiftA, FnPost, xresL, xres1, tup, argEnv, ptr, Nat.reduceEqDiff, reduceIte, beq_self_eq_true, ne_eq, Nat.reduceAdd, Nat.reduceMul, Nat.reduceSub, abin_shl, abin_shr, load1V, loadV, storeV, cellsAt, getN, setN, allocV, lenL, lenS, bnd, oneC, Value.oneCell', Nat.reduceLeDiff, Nat.reduceLT, exists_eq_left', forall_const, reduceCtorEq, app_new, app_new0, List.append_assoc, Int.reduceToNat, Int.reduceLT, Int.reduceLE, Int.reduceEq, Int.reduceNe, Int.reduceBEq, IntKind.bits, bne_self_eq_false, Int.reducePow]
  refine xcall (size_ok g) (by rfl) (by rfl) (by rfl) (by rfl) ?_
  rintro r h1 ⟨rfl, rfl⟩
  by_cases ha : again < 1
  · simp only [sx, x_box, x_alloc, x_bslice, x_slice, x_append, x_appz, x_b2s, xop, ev, evs, evParts, fillL, cellsL, Ai.get, Ai.put, stab, isNil?, if_false, if_true, addr?, int?, str?, agg?, bool?, shiftA, FnPost, xresL, xres1, tup, argEnv, ptr, Nat.reduceEqDiff, reduceIte, beq_self_eq_true, ne_eq, Nat.reduceAdd, Nat.reduceMul, Nat.reduceSub, abin_shl, abin_shr, load1V, loadV, storeV, cellsAt, getN, setN, allocV, lenL, lenS, bnd, oneC, Value.oneCell', Nat.reduceLeDiff, Nat.reduceLT, exists_eq_left', forall_const, reduceCtorEq, app_new, app_new0, List.append_assoc, Int.reduceToNat, Int.reduceLT, Int.reduceLE, Int.reduceEq, Int.reduceNe, Int.reduceBEq, IntKind.bits, bne_self_eq_false, Int.reducePow, h0, ha]
    exact .inl ⟨.inl ha, rfl, Kp.refl _⟩
  simp only [sx, x_box, x_alloc, x_bslice, x_slice, x_append, x_appz, x_b2s, xop, ev, evs, evParts, fillL, cellsL, Ai.get, Ai.put, stab, isNil?, if_false, if_true, addr?, int?, str?, agg?, bool?, shiftA, FnPost, xresL, xres1, tup, argEnv, ptr, Nat.reduceEqDiff, reduceIte, beq_self_eq_true, ne_eq, Nat.reduceAdd, Nat.reduceMul, Nat.reduceSub, abin_shl, abin_shr, load1V, loadV, storeV, cellsAt, getN, setN, allocV, lenL, lenS, bnd, oneC, Value.oneCell', Nat.reduceLeDiff, Nat.reduceLT, exists_eq_left', forall_const, reduceCtorEq, app_new, app_new0, List.append_assoc, Int.reduceToNat, Int.reduceLT, Int.reduceLE, Int.reduceEq, Int.reduceNe, Int.reduceBEq, IntKind.bits, bne_self_eq_false, Int.reducePow, h0, ha]
  refine xcall (size_ok g) (by rfl) (by rfl) (by rfl) (by rfl) ?_
  rintro r h1' ⟨rfl, rfl⟩
  simp only [sx, x_box, x_alloc, x_bslice, x_slice, x_append, x_appz, x_b2s, xop, ev, evs, evParts, fillL, cellsL, Ai.get, Ai.put, stab, isNil?, if_false, if_true, addr?, int?, str?, agg?, bool?, shiftA, FnPost, xresL, xres1, tup, argEnv, ptr, Nat.reduceEqDiff, reduceIte, beq_self_eq_true, ne_eq, Nat.reduceAdd, Nat.reduceMul, Nat.reduceSub, abin_shl, abin_shr, load1V, loadV, storeV, cellsAt, getN, setN, allocV, lenL, lenS, bnd, oneC, Value.oneCell', Nat.reduceLeDiff, Nat.reduceLT, exists_eq_left', forall_const, reduceCtorEq, app_new, app_new0, List.append_assoc, Int.reduceToNat, Int.reduceLT, Int.reduceLE, Int.reduceEq, Int.reduceNe, Int.reduceBEq, IntKind.bits, bne_self_eq_false, Int.reducePow]
  refine xloop_cut2 (fun ρ h' => get ρ 0 = some (.pointer (some ⟨G, 0, none⟩)) ∧ get ρ 1 = some (.int .i64 again) ∧ Kp h1' h' ∧ isF cs = true) (fun ρ h' => get ρ 4 = some (.pointer none) ∧ get ρ 5 = some (.int .i64 1) ∧ Kp h1' h' ∧ isF cs = false) ?_ ?_ ?_
  · refine xcode_loop (NwI h1' G again cs) cs.length ⟨0, by omega, rfl, rfl, rfl, rfl, Kp.refl _, by simp⟩ ?_
    rintro m ρ h2 ⟨i, him, g16, g15, g0, g1, K, hall⟩
    by_cases hlt : i < cs.length
    · have hlt' : (i : Int) < cs.length := by omega
      have hwi : IntKind.i64.wrap ((i : Int) + 1) = ((i + 1 : Nat) : Int) := by rw [i64_wrap] <;> omega
      have hc := List.getElem?_eq_getElem hlt
      generalize cs[i] = c at hc
      simp only [sx, x_box, x_alloc, x_bslice, x_slice, x_append, x_appz, x_b2s, xop, ev, evs, evParts, fillL, cellsL, Ai.get, Ai.put, stab, isNil?, if_false, if_true, addr?, int?, str?, agg?, bool?, shiftA, FnPost, xresL, xres1, tup, argEnv, ptr, Nat.reduceEqDiff, reduceIte, beq_self_eq_true, ne_eq, Nat.reduceAdd, Nat.reduceMul, Nat.reduceSub, abin_shl, abin_shr, load1V, loadV, storeV, cellsAt, getN, setN, allocV, lenL, lenS, bnd, oneC, Value.oneCell', Nat.reduceLeDiff, Nat.reduceLT, exists_eq_left', forall_const, reduceCtorEq, app_new, app_new0, List.append_assoc, Int.reduceToNat, Int.reduceLT, Int.reduceLE, Int.reduceEq, Int.reduceNe, Int.reduceBEq, IntKind.bits, bne_self_eq_false, Int.reducePow, g16, g15, g0, g1, hlt']
      refine xcall (at_ok (g.kp K) hc) (by rfl) (by rfl) (by rfl) (by rfl) ?_
      rintro r h3 ⟨rfl, K3⟩
      simp only [Ci.cells]
      simp only [sx, x_box, x_bslice, x_slice, x_append, x_appz, x_b2s, xop, ev, evs, evParts, fillL, cellsL, Ai.get, Ai.put, stab, isNil?, if_false, if_true, addr?, int?, str?, agg?, bool?, shiftA, FnPost, xresL, xres1, tup, argEnv, ptr, Nat.reduceEqDiff, reduceIte, beq_self_eq_true, ne_eq, Nat.reduceAdd, Nat.reduceMul, Nat.reduceSub, abin_shl, abin_shr, load1V, loadV, storeV, cellsAt, getN, setN, allocV, lenL, lenS, bnd, oneC, Value.oneCell', Nat.reduceLeDiff, Nat.reduceLT, exists_eq_left', forall_const, reduceCtorEq, app_new, app_new0, List.append_assoc, Int.reduceToNat, Int.reduceLT, Int.reduceLE, Int.reduceEq, Int.reduceNe, Int.reduceBEq, IntKind.bits, bne_self_eq_false, Int.reducePow]
      refine alloc_run fun g2 U K4 hU hUl _ => ?_
      have KK := (K.trans K3).trans (K4.set hUl (some ⟨true, [.int .u8 0, .int .u8 c.blk, .int .i64 0]⟩))
      by_cases hcb : c.blk = 0
      · have e0 : ¬ (0 : Int) ≠ 0 := by decide
        rw [hcb] at KK
        simp only [sx, x_box, x_alloc, x_bslice, x_slice, x_append, x_appz, x_b2s, xop, ev, evs, evParts, fillL, cellsL, Ai.get, Ai.put, stab, isNil?, if_false, if_true, addr?, int?, str?, agg?, bool?, shiftA, FnPost, xresL, xres1, tup, argEnv, ptr, Nat.reduceEqDiff, reduceIte, beq_self_eq_true, ne_eq, Nat.reduceAdd, Nat.reduceMul, Nat.reduceSub, abin_shl, abin_shr, load1V, loadV, storeV, cellsAt, getN, setN, allocV, lenL, lenS, bnd, oneC, Value.oneCell', Nat.reduceLeDiff, Nat.reduceLT, exists_eq_left', forall_const, reduceCtorEq, app_new, app_new0, List.append_assoc, Int.reduceToNat, Int.reduceLT, Int.reduceLE, Int.reduceEq, Int.reduceNe, Int.reduceBEq, IntKind.bits, bne_self_eq_false, Int.reducePow, hU, set_here, hcb, e0, g16, hwi]
        refine ⟨m - 1, by omega, i + 1, by omega, rfl, g15, g0, g1, KK, fun y hy => ?_⟩
        rw [List.take_add_one, hc] at hy
        rcases List.mem_append.1 hy with hy | hy
        · exact hall y hy
        · simp at hy; rw [hy]; simp [hcb]
      · have e0 : c.blk ≠ 0 := hcb
        simp only [sx, x_box, x_alloc, x_bslice, x_slice, x_append, x_appz, x_b2s, xop, ev, evs, evParts, fillL, cellsL, Ai.get, Ai.put, stab, isNil?, if_false, if_true, addr?, int?, str?, agg?, bool?, shiftA, FnPost, xresL, xres1, tup, argEnv, ptr, Nat.reduceEqDiff, reduceIte, beq_self_eq_true, ne_eq, Nat.reduceAdd, Nat.reduceMul, Nat.reduceSub, abin_shl, abin_shr, load1V, loadV, storeV, cellsAt, getN, setN, allocV, lenL, lenS, bnd, oneC, Value.oneCell', Nat.reduceLeDiff, Nat.reduceLT, exists_eq_left', forall_const, reduceCtorEq, app_new, app_new0, List.append_assoc, Int.reduceToNat, Int.reduceLT, Int.reduceLE, Int.reduceEq, Int.reduceNe, Int.reduceBEq, IntKind.bits, bne_self_eq_false, Int.reducePow, hU, set_here, e0]
        refine .inr ⟨KK, ?_⟩
        unfold isF
        rw [List.all_eq_false]
        exact ⟨c, List.mem_of_getElem? hc, by simp [hcb]⟩
    · have hlt' : ¬ (i : Int) < cs.length := by omega
      simp only [sx, x_box, x_alloc, x_bslice, x_slice, x_append, x_appz, x_b2s, xop, ev, evs, evParts, fillL, cellsL, Ai.get, Ai.put, stab, isNil?, if_false, if_true, addr?, int?, str?, agg?, bool?, shiftA, FnPost, xresL, xres1, tup, argEnv, ptr, Nat.reduceEqDiff, reduceIte, beq_self_eq_true, ne_eq, Nat.reduceAdd, Nat.reduceMul, Nat.reduceSub, abin_shl, abin_shr, load1V, loadV, storeV, cellsAt, getN, setN, allocV, lenL, lenS, bnd, oneC, Value.oneCell', Nat.reduceLeDiff, Nat.reduceLT, exists_eq_left', forall_const, reduceCtorEq, app_new, app_new0, List.append_assoc, Int.reduceToNat, Int.reduceLT, Int.reduceLE, Int.reduceEq, Int.reduceNe, Int.reduceBEq, IntKind.bits, bne_self_eq_false, Int.reducePow, g16, g15, g0, g1, hlt']
      rw [List.take_of_length_le (by omega)] at hall
      exact .inl ⟨K, List.all_eq_true.2 hall⟩
  · rintro ρ h2 ⟨g0, g1, K, hf⟩
    simp only [sx, x_box, x_alloc, x_bslice, x_slice, x_append, x_appz, x_b2s, xop, ev, evs, evParts, fillL, cellsL, Ai.get, Ai.put, stab, isNil?, if_false, if_true, addr?, int?, str?, agg?, bool?, shiftA, FnPost, xresL, xres1, tup, argEnv, ptr, Nat.reduceEqDiff, reduceIte, beq_self_eq_true, ne_eq, Nat.reduceAdd, Nat.reduceMul, Nat.reduceSub, abin_shl, abin_shr, load1V, loadV, storeV, cellsAt, getN, setN, allocV, lenL, lenS, bnd, oneC, Value.oneCell', Nat.reduceLeDiff, Nat.reduceLT, exists_eq_left', forall_const, reduceCtorEq, app_new, app_new0, List.append_assoc, Int.reduceToNat, Int.reduceLT, Int.reduceLE, Int.reduceEq, Int.reduceNe, Int.reduceBEq, IntKind.bits, bne_self_eq_false, Int.reducePow, g0, g1]
    refine xcall (size_ok (g.kp K)) (by rfl) (by rfl) (by rfl) (by rfl) ?_
    rintro r h2' ⟨rfl, rfl⟩
    have c5 : (0 : Int) ≤ (cs.length : Nat) := by omega
    have c6 : ((cs.length : Nat) : Int) * 1 ≤ 140737488355328 := by omega
    have c7 : ((cs.length : Nat) : Int) ≤ 9223372036854775807 := by omega
    have hz : (List.replicate cs.length [Value.bool false]).flatten = bB (List.replicate cs.length false) := by unfold bB; simp
    simp only [sx, x_alloc, x_bslice, x_slice, x_append, x_appz, x_b2s, xop, ev, evs, evParts, fillL, cellsL, Ai.get, Ai.put, stab, isNil?, if_false, if_true, addr?, int?, str?, agg?, bool?, shiftA, FnPost, xresL, xres1, tup, argEnv, ptr, Nat.reduceEqDiff, reduceIte, beq_self_eq_true, ne_eq, Nat.reduceAdd, Nat.reduceMul, Nat.reduceSub, abin_shl, abin_shr, load1V, loadV, storeV, cellsAt, getN, setN, allocV, lenL, lenS, bnd, oneC, Value.oneCell', Nat.reduceLeDiff, Nat.reduceLT, exists_eq_left', forall_const, reduceCtorEq, app_new, app_new0, List.append_assoc, Int.reduceToNat, Int.reduceLT, Int.reduceLE, Int.reduceEq, Int.reduceNe, Int.reduceBEq, IntKind.bits, bne_self_eq_false, Int.reducePow, g0, g1, c5, c6, c7, Int.le_refl, hz]
    have K1 : Kp h2' (h2' ++ [some ⟨true, bB (List.replicate cs.length false)⟩]) := Kp.app _ _
    have hT : (h2' ++ [some ⟨true, bB (List.replicate cs.length false)⟩])[h2'.length]? = some (some ⟨true, bB (List.replicate cs.length false)⟩) := app_new0
    have hl1 : (h2' ++ [some (AObj.mk true (bB (List.replicate cs.length false)))]).length = h2'.length + 1 := by simp
    generalize h2' ++ [some (AObj.mk true (bB (List.replicate cs.length false)))] = h3 at *
    refine box_run rfl fun h4 D K4 hD hDl _ => ⟨trivial, ?_⟩
    simp only [cellsL] at hD
    simp only [sx, x_box, x_alloc, x_bslice, x_slice, x_append, x_appz, x_b2s, xop, ev, evs, evParts, fillL, cellsL, Ai.get, Ai.put, stab, isNil?, if_false, if_true, addr?, int?, str?, agg?, bool?, shiftA, FnPost, xresL, xres1, tup, argEnv, ptr, Nat.reduceEqDiff, reduceIte, beq_self_eq_true, ne_eq, Nat.reduceAdd, Nat.reduceMul, Nat.reduceSub, abin_shl, abin_shr, load1V, loadV, storeV, cellsAt, getN, setN, allocV, lenL, lenS, bnd, oneC, Value.oneCell', Nat.reduceLeDiff, Nat.reduceLT, exists_eq_left', forall_const, reduceCtorEq, app_new, app_new0, List.append_assoc, Int.reduceToNat, Int.reduceLT, Int.reduceLE, Int.reduceEq, Int.reduceNe, Int.reduceBEq, IntKind.bits, bne_self_eq_false, Int.reducePow]
    have KK := (K.trans K1).trans K4
    have hGl : G < h1'.length := by obtain ⟨_, _, hgo⟩ := g.obj; exact lt_of_get hgo
    have hLl := lt_of_get g.row
    have hKl := K.1
    refine .inr ⟨by omega, hf, D, h2'.length, rfl, ⟨hD, g.kp KK, K4.get hT, by simp [DK.fresh], rfl, MQ.nil _, ?_⟩, KK, by omega, hKl⟩
    rintro i j B hi hj
    have gn := g.ne
    simp only [FD, slB, reduceCtorEq, and_false, or_false] at hi hj
    omega
  · rintro ρ h2 ⟨g4, g5, K, hf⟩
    have := Kp.refl h2
    simp only [sx, x_box, x_alloc, x_bslice, x_slice, x_append, x_appz, x_b2s, xop, ev, evs, evParts, fillL, cellsL, Ai.get, Ai.put, stab, isNil?, if_false, if_true, addr?, int?, str?, agg?, bool?, shiftA, FnPost, xresL, xres1, tup, argEnv, ptr, Nat.reduceEqDiff, reduceIte, beq_self_eq_true, ne_eq, Nat.reduceAdd, Nat.reduceMul, Nat.reduceSub, abin_shl, abin_shr, load1V, loadV, storeV, cellsAt, getN, setN, allocV, lenL, lenS, bnd, oneC, Value.oneCell', Nat.reduceLeDiff, Nat.reduceLT, exists_eq_left', forall_const, reduceCtorEq, app_new, app_new0, List.append_assoc, Int.reduceToNat, Int.reduceLT, Int.reduceLE, Int.reduceEq, Int.reduceNe, Int.reduceBEq, IntKind.bits, bne_self_eq_false, Int.reducePow, g4, g5]
    exact .inl ⟨.inr hf, rfl, K⟩
theorem isF_free (n : Nat) : isF (List.replicate n ⟨false, false⟩) = true := by
  unfold isF; rw [List.all_eq_true]; intro c hc; rw [(List.mem_replicate.1 hc).2]; rfl
theorem group_ok {h : AHeap} {n : Nat} (h1 : 1 ≤ n) (h2 : n ≤ 256) : Valid Try.prog 11 [.int .i64 (n : Int)] h fun r h' => ∃ G L, r = .pointer (some ⟨G, 0, none⟩) ∧ GAt h' G L (List.replicate n ⟨false, false⟩) ∧ Kp h h' ∧ h.length ≤ G ∧ h.length ≤ L := by
  refine v11 (by simp) ?_
  simp only [X11, sx, x_box, x_alloc, x_bslice, x_slice, x_append, x_appz, x_b2s, xop, ev, evs, evParts, fillL, cellsL, Ai.get, Ai.put, stab, isNil?, if_false, if_true, addr?, int?, str?, agg?, bool?, shiftA, FnPost, xresL, xres1, tup, argEnv, ptr, Nat.reduceEqDiff, reduceIte, beq_self_eq_true, ne_eq, Nat.reduceAdd, Nat.reduceMul, Nat.reduceSub, abin_shl, abin_shr, load1V, loadV, storeV, cellsAt, getN, setN, allocV, lenL, lenS, bnd, oneC, Value.oneCell', Nat.reduceLeDiff, Nat.reduceLT, exists_eq_left', forall_const, reduceCtorEq, app_new, app_new0, List.append_assoc, Int.reduceToNat, Int.reduceLT, Int.reduceLE, Int.reduceEq, Int.reduceNe, Int.reduceBEq, IntKind.bits, bne_self_eq_false, Int.reducePow]
  refine xcall (group_new h1 h2) (by rfl) (by rfl) (by rfl) (by rfl) ?_
  rintro r h' ⟨G, L, rfl, g, K, k1, k2⟩
  simp only [sx, x_box, x_alloc, x_bslice, x_slice, x_append, x_appz, x_b2s, xop, ev, evs, evParts, fillL, cellsL, Ai.get, Ai.put, stab, isNil?, if_false, if_true, addr?, int?, str?, agg?, bool?, shiftA, FnPost, xresL, xres1, tup, argEnv, ptr, Nat.reduceEqDiff, reduceIte, beq_self_eq_true, ne_eq, Nat.reduceAdd, Nat.reduceMul, Nat.reduceSub, abin_shl, abin_shr, load1V, loadV, storeV, cellsAt, getN, setN, allocV, lenL, lenS, bnd, oneC, Value.oneCell', Nat.reduceLeDiff, Nat.reduceLT, exists_eq_left', forall_const, reduceCtorEq, app_new, app_new0, List.append_assoc, Int.reduceToNat, Int.reduceLT, Int.reduceLE, Int.reduceEq, Int.reduceNe, Int.reduceBEq, IntKind.bits, bne_self_eq_false, Int.reducePow]
  exact ⟨G, L, rfl, g, K, k1, k2⟩
section
variable {h : AHeap} {D G L T : Nat} {d : DK} {opv outv : Value}
theorem set1_ok {z : Int} {on : Bool} (A : DAt h D G L T d opv outv) (hl : d.out.length < 100000) :
    Valid Try.prog 20 [.pointer (some ⟨D, 0, none⟩), .int .i64 z, .bool on] h fun r h' => (inR d.cs.length z = true ∧ r = .int .i64 0 ∧ WentD h h' D G L T (d.setAll on [z]) outv) ∨ (inR d.cs.length z = false ∧ r = .int .i64 1 ∧ Kp h h') := by
  refine v20 (by simp) ?_
  simp only [X20, sx, x_box, x_alloc, x_bslice, x_slice, x_append, x_appz, x_b2s, xop, ev, evs, evParts, fillL, cellsL, Ai.get, Ai.put, stab, isNil?, if_false, if_true, addr?, int?, str?, agg?, bool?, shiftA, FnPost, xresL, xres1, tup, argEnv, ptr, Nat.reduceEqDiff, reduceIte, beq_self_eq_true, ne_eq, Nat.reduceAdd, Nat.reduceMul, Nat.reduceSub, abin_shl, abin_shr, load1V, loadV, storeV, cellsAt, getN, setN, allocV, lenL, lenS, bnd, oneC, Value.oneCell', Nat.reduceLeDiff, Nat.reduceLT, exists_eq_left', forall_const, reduceCtorEq, app_new, app_new0, List.append_assoc, Int.reduceToNat, Int.reduceLT, Int.reduceLE, Int.reduceEq, Int.reduceNe, Int.reduceBEq, IntKind.bits, bne_self_eq_false, Int.reducePow]
  have K1 : Kp h (h ++ [some ⟨true, [.int .i64 z]⟩]) := Kp.app _ _
  have hB := app_one h (some (AObj.mk true [Value.int .i64 z]))
  have hl1 : (h ++ [some (AObj.mk true [Value.int .i64 z])]).length = h.length + 1 := by simp
  generalize h ++ [some (AObj.mk true [Value.int .i64 z])] = h1 at *
  have hLl := A.lt (i := 2) (B := L) (.inr (.inr (.inl ⟨rfl, rfl⟩)))
  refine xcall (setall_ok (on := on) (zs := [z]) (q := some ⟨h.length, 0, none⟩) (c := 1) (A.kp K1) ⟨by simp [firstV, cellsAt, hB, getN], fun a ha => by cases ha; show h.length < _; omega⟩ (fun a ha => by cases ha; show h.length ≠ L; omega) (by simp) hl) (by rfl) (by rfl) (by rfl) (by rfl) ?_
  have hall : [z].all (inR d.cs.length) = inR d.cs.length z := by simp
  rintro r h2 (⟨e, rfl, W⟩ | ⟨e, rfl, K⟩)
  · simp only [sx, x_box, x_alloc, x_bslice, x_slice, x_append, x_appz, x_b2s, xop, ev, evs, evParts, fillL, cellsL, Ai.get, Ai.put, stab, isNil?, if_false, if_true, addr?, int?, str?, agg?, bool?, shiftA, FnPost, xresL, xres1, tup, argEnv, ptr, Nat.reduceEqDiff, reduceIte, beq_self_eq_true, ne_eq, Nat.reduceAdd, Nat.reduceMul, Nat.reduceSub, abin_shl, abin_shr, load1V, loadV, storeV, cellsAt, getN, setN, allocV, lenL, lenS, bnd, oneC, Value.oneCell', Nat.reduceLeDiff, Nat.reduceLT, exists_eq_left', forall_const, reduceCtorEq, app_new, app_new0, List.append_assoc, Int.reduceToNat, Int.reduceLT, Int.reduceLE, Int.reduceEq, Int.reduceNe, Int.reduceBEq, IntKind.bits, bne_self_eq_false, Int.reducePow]
    exact .inl ⟨by rw [← hall]; exact e, W.kp K1⟩
  · simp only [sx, x_box, x_alloc, x_bslice, x_slice, x_append, x_appz, x_b2s, xop, ev, evs, evParts, fillL, cellsL, Ai.get, Ai.put, stab, isNil?, if_false, if_true, addr?, int?, str?, agg?, bool?, shiftA, FnPost, xresL, xres1, tup, argEnv, ptr, Nat.reduceEqDiff, reduceIte, beq_self_eq_true, ne_eq, Nat.reduceAdd, Nat.reduceMul, Nat.reduceSub, abin_shl, abin_shr, load1V, loadV, storeV, cellsAt, getN, setN, allocV, lenL, lenS, bnd, oneC, Value.oneCell', Nat.reduceLeDiff, Nat.reduceLT, exists_eq_left', forall_const, reduceCtorEq, app_new, app_new0, List.append_assoc, Int.reduceToNat, Int.reduceLT, Int.reduceLE, Int.reduceEq, Int.reduceNe, Int.reduceBEq, IntKind.bits, bne_self_eq_false, Int.reducePow]
    exact .inr ⟨by rw [← hall]; exact e, K1.trans K⟩
end
end Go.Proofs.Ytejgaeinkojgpaa
