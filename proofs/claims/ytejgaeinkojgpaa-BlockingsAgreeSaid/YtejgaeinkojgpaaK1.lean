import Derived.Test.YtejgaeinkojgpaaX
import Derived.Test.YtejgaeinkojgpaaAiXd
set_option linter.unusedVariables false
set_option linter.unusedSimpArgs false
namespace Go.Proofs.Ytejgaeinkojgpaa
open Go Go.Ai Go.Proofs

theorem i64_wrap {n : Int} (h1 : -9223372036854775808 ≤ n) (h2 : n ≤ 9223372036854775807) : IntKind.i64.wrap n = n := by
  rw [IntKind.wrap_i64]; omega
/-- a circuit: its blocks, local and remote -/
structure Ci where
  lo : Bool
  re : Bool
def Ci.blk (c : Ci) : Int := match c.lo, c.re with
  | false, false => 0
  | true, false => 1
  | false, true => 2
  | true, true => 3
def Ci.cells (c : Ci) : List Value := [.int .u8 0, .int .u8 c.blk, .int .i64 0]
def rowsC (cs : List Ci) : List Value := cs.flatMap Ci.cells
theorem rowsC_len (cs : List Ci) : (rowsC cs).length = cs.length * 3 := by
  induction cs with
  | nil => rfl
  | cons c cs ih => simp only [rowsC, List.flatMap_cons, List.length_append, List.length_cons] at ih ⊢; rw [ih]; simp [Ci.cells]; omega
theorem rowsC_cell {c : Ci} : ∀ {cs : List Ci} {i : Nat}, cs[i]? = some c → getN (rowsC cs) (i * 3) 3 = some c.cells ∧ (rowsC cs)[i * 3 + 1]? = some (.int .u8 c.blk)
  | [], i, h => by simp at h
  | d :: cs, 0, h => by
    simp at h; subst h
    have : rowsC (d :: cs) = d.cells ++ rowsC cs := rfl
    rw [this]
    refine ⟨?_, rfl⟩
    refine (getN_eq _ _ _ _).2 ⟨by simp [Ci.cells], rfl⟩
  | d :: cs, i + 1, h => by
    have e : rowsC (d :: cs) = .int .u8 0 :: .int .u8 d.blk :: .int .i64 0 :: rowsC cs := rfl
    obtain ⟨h1, h2⟩ := rowsC_cell (cs := cs) (i := i) (by simpa using h)
    rw [e, show (i + 1) * 3 = i * 3 + 1 + 1 + 1 by omega]
    refine ⟨?_, by rw [show i * 3 + 1 + 1 + 1 + 1 = (i * 3 + 1) + 1 + 1 + 1 by omega]; simpa using h2⟩
    obtain ⟨g1, g2⟩ := (getN_eq _ _ _ _).1 h1
    refine (getN_eq _ _ _ _).2 ⟨by simp only [List.length_cons]; split at g1 <;> split <;> omega, by simpa using g2⟩
theorem rowsC_set {c : Ci} (b : Ci) : ∀ {cs : List Ci} {i : Nat}, cs[i]? = some c → (rowsC cs).set (i * 3 + 1) (.int .u8 b.blk) = rowsC (cs.set i b)
  | [], i, h => by simp at h
  | d :: cs, 0, h => by simp [rowsC, Ci.cells]
  | d :: cs, i + 1, h => by
    have e : rowsC (d :: cs) = .int .u8 0 :: .int .u8 d.blk :: .int .i64 0 :: rowsC cs := rfl
    have ih := rowsC_set b (cs := cs) (i := i) (by simpa using h)
    rw [e, show (i + 1) * 3 + 1 = (i * 3 + 1) + 1 + 1 + 1 by omega]
    simp only [List.set_cons_succ]
    rw [ih]; rfl
/-- a group in the heap -/
structure GAt (h : AHeap) (G L : Nat) (cs : List Ci) : Prop where
  obj : ∃ a b : Int, h[G]? = some (some ⟨true, [.int .u16 a, .int .u16 b, .slice (some ⟨L, 0, none⟩) cs.length cs.length]⟩)
  row : h[L]? = some (some ⟨true, rowsC cs⟩)
  ne : G ≠ L
  pos : 0 < cs.length
  big : cs.length ≤ 256
theorem GAt.keep {h h' : AHeap} {G L : Nat} {cs : List Ci} (g : GAt h G L cs) (h1 : h'[G]? = h[G]?) (h2 : h'[L]? = h[L]?) : GAt h' G L cs := ⟨by rw [h1]; exact g.obj, by rw [h2]; exact g.row, g.ne, g.pos, g.big⟩
theorem GAt.kp {h h' : AHeap} {G L : Nat} {cs : List Ci} (g : GAt h G L cs) (k : Kp h h') : GAt h' G L cs := ⟨g.obj.imp fun _ h => h.imp fun _ h => k.get h, k.get g.row, g.ne, g.pos, g.big⟩
theorem size_ok {h : AHeap} {G L : Nat} {cs : List Ci} (g : GAt h G L cs) : Valid Try.prog 27 [.pointer (some ⟨G, 0, none⟩)] h fun r h' => r = .int .i64 (cs.length : Nat) ∧ h' = h := by
  refine v27 (by simp) ?_
  obtain ⟨_, _, hg⟩ := g.obj
  simp only [X27, sx, x_box, x_alloc, x_bslice, x_slice, x_append, x_appz, x_b2s, xop, ev, evs, evParts, fillL, cellsL, Ai.get, Ai.put, stab, isNil?, if_false, if_true, addr?, int?, str?, agg?, bool?, shiftA, FnPost, xresL, xres1, tup, argEnv, ptr, Nat.reduceEqDiff, reduceIte, beq_self_eq_true, ne_eq, Nat.reduceAdd, Nat.reduceMul, Nat.reduceSub, abin_shl, abin_shr, load1V, loadV, storeV, cellsAt, getN, setN, allocV, lenL, lenS, bnd, oneC, Value.oneCell', Nat.reduceLeDiff, Nat.reduceLT, exists_eq_left', forall_const, reduceCtorEq, app_new, app_new0, List.append_assoc, Int.reduceToNat, Int.reduceLT, Int.reduceLE, Int.reduceEq, Int.reduceNe, Int.reduceBEq, IntKind.bits, bne_self_eq_false, Int.reducePow, hg]
theorem size_nil {h : AHeap} : Valid Try.prog 27 [.pointer none] h fun r h' => r = .int .i64 0 ∧ h' = h := by
  refine v27 (by simp) ?_
  simp only [X27, sx, x_box, x_alloc, x_bslice, x_slice, x_append, x_appz, x_b2s, xop, ev, evs, evParts, fillL, cellsL, Ai.get, Ai.put, stab, isNil?, if_false, if_true, addr?, int?, str?, agg?, bool?, shiftA, FnPost, xresL, xres1, tup, argEnv, ptr, Nat.reduceEqDiff, reduceIte, beq_self_eq_true, ne_eq, Nat.reduceAdd, Nat.reduceMul, Nat.reduceSub, abin_shl, abin_shr, load1V, loadV, storeV, cellsAt, getN, setN, allocV, lenL, lenS, bnd, oneC, Value.oneCell', Nat.reduceLeDiff, Nat.reduceLT, exists_eq_left', forall_const, reduceCtorEq, app_new, app_new0, List.append_assoc, Int.reduceToNat, Int.reduceLT, Int.reduceLE, Int.reduceEq, Int.reduceNe, Int.reduceBEq, IntKind.bits, bne_self_eq_false, Int.reducePow]
theorem has_ok {h : AHeap} {G L : Nat} {cs : List Ci} {k : Int} (g : GAt h G L cs) : Valid Try.prog 49 [.pointer (some ⟨G, 0, none⟩), .int .i64 k] h fun r h' => r = .bool (decide (0 ≤ k ∧ k < cs.length)) ∧ h' = h := by
  refine v49 (by simp) ?_
  by_cases h0 : 0 ≤ k
  · simp only [X49, sx, x_box, x_alloc, x_bslice, x_slice, x_append, x_appz, x_b2s, xop, ev, evs, evParts, fillL, cellsL, Ai.get, Ai.put, stab, isNil?, if_false, if_true, addr?, int?, str?, agg?, bool?, shiftA, FnPost, xresL, xres1, tup, argEnv, ptr, Nat.reduceEqDiff, reduceIte, beq_self_eq_true, ne_eq, Nat.reduceAdd, Nat.reduceMul, Nat.reduceSub, abin_shl, abin_shr, load1V, loadV, storeV, cellsAt, getN, setN, allocV, lenL, lenS, bnd, oneC, Value.oneCell', Nat.reduceLeDiff, Nat.reduceLT, exists_eq_left', forall_const, reduceCtorEq, app_new, app_new0, List.append_assoc, Int.reduceToNat, Int.reduceLT, Int.reduceLE, Int.reduceEq, Int.reduceNe, Int.reduceBEq, IntKind.bits, bne_self_eq_false, Int.reducePow, h0]
    refine xcall (size_ok g) (by rfl) (by rfl) (by rfl) (by rfl) ?_
    rintro r h' ⟨rfl, rfl⟩
    by_cases h1 : k < (cs.length : Int)
    · simp only [sx, x_box, x_alloc, x_bslice, x_slice, x_append, x_appz, x_b2s, xop, ev, evs, evParts, fillL, cellsL, Ai.get, Ai.put, stab, isNil?, if_false, if_true, addr?, int?, str?, agg?, bool?, shiftA, FnPost, xresL, xres1, tup, argEnv, ptr, Nat.reduceEqDiff, reduceIte, beq_self_eq_true, ne_eq, Nat.reduceAdd, Nat.reduceMul, Nat.reduceSub, abin_shl, abin_shr, load1V, loadV, storeV, cellsAt, getN, setN, allocV, lenL, lenS, bnd, oneC, Value.oneCell', Nat.reduceLeDiff, Nat.reduceLT, exists_eq_left', forall_const, reduceCtorEq, app_new, app_new0, List.append_assoc, Int.reduceToNat, Int.reduceLT, Int.reduceLE, Int.reduceEq, Int.reduceNe, Int.reduceBEq, IntKind.bits, bne_self_eq_false, Int.reducePow, h0, h1]
    · simp only [sx, x_box, x_alloc, x_bslice, x_slice, x_append, x_appz, x_b2s, xop, ev, evs, evParts, fillL, cellsL, Ai.get, Ai.put, stab, isNil?, if_false, if_true, addr?, int?, str?, agg?, bool?, shiftA, FnPost, xresL, xres1, tup, argEnv, ptr, Nat.reduceEqDiff, reduceIte, beq_self_eq_true, ne_eq, Nat.reduceAdd, Nat.reduceMul, Nat.reduceSub, abin_shl, abin_shr, load1V, loadV, storeV, cellsAt, getN, setN, allocV, lenL, lenS, bnd, oneC, Value.oneCell', Nat.reduceLeDiff, Nat.reduceLT, exists_eq_left', forall_const, reduceCtorEq, app_new, app_new0, List.append_assoc, Int.reduceToNat, Int.reduceLT, Int.reduceLE, Int.reduceEq, Int.reduceNe, Int.reduceBEq, IntKind.bits, bne_self_eq_false, Int.reducePow, h0, h1]
  · simp only [X49, sx, x_box, x_alloc, x_bslice, x_slice, x_append, x_appz, x_b2s, xop, ev, evs, evParts, fillL, cellsL, Ai.get, Ai.put, stab, isNil?, if_false, if_true, addr?, int?, str?, agg?, bool?, shiftA, FnPost, xresL, xres1, tup, argEnv, ptr, Nat.reduceEqDiff, reduceIte, beq_self_eq_true, ne_eq, Nat.reduceAdd, Nat.reduceMul, Nat.reduceSub, abin_shl, abin_shr, load1V, loadV, storeV, cellsAt, getN, setN, allocV, lenL, lenS, bnd, oneC, Value.oneCell', Nat.reduceLeDiff, Nat.reduceLT, exists_eq_left', forall_const, reduceCtorEq, app_new, app_new0, List.append_assoc, Int.reduceToNat, Int.reduceLT, Int.reduceLE, Int.reduceEq, Int.reduceNe, Int.reduceBEq, IntKind.bits, bne_self_eq_false, Int.reducePow, h0, false_and]
/-- with, of a code that belongs to the group -/
theorem with_in {h : AHeap} {G L : Nat} {cs : List Ci} {k : Nat} {f : FuncId} {caps : Array Value} {Q : Value → AHeap → Prop} (g : GAt h G L cs) (hk : k < cs.length) (hf : Valid Try.prog f (.pointer (some ⟨L, k * 3, none⟩) :: caps.toList) h Q) :
    Valid Try.prog 37 [.pointer (some ⟨G, 0, none⟩), .int .i64 (k : Int), .func (.func f) #[] caps] h Q := by
  refine v37 (by simp) ?_
  have h0 : ¬ (cs.length : Int) = 0 := by have := g.pos; omega
  have hk0 : (0 : Int) ≤ k := by omega
  have hk1 : (k : Int) < cs.length := by omega
  obtain ⟨_, _, hg⟩ := g.obj
  simp only [X37, sx, x_box, x_alloc, x_bslice, x_slice, x_append, x_appz, x_b2s, xop, ev, evs, evParts, fillL, cellsL, Ai.get, Ai.put, stab, isNil?, if_false, if_true, addr?, int?, str?, agg?, bool?, shiftA, FnPost, xresL, xres1, tup, argEnv, ptr, Nat.reduceEqDiff, reduceIte, beq_self_eq_true, ne_eq, Nat.reduceAdd, Nat.reduceMul, Nat.reduceSub, abin_shl, abin_shr, load1V, loadV, storeV, cellsAt, getN, setN, allocV, lenL, lenS, bnd, oneC, Value.oneCell', Nat.reduceLeDiff, Nat.reduceLT, exists_eq_left', forall_const, reduceCtorEq, app_new, app_new0, List.append_assoc, Int.reduceToNat, Int.reduceLT, Int.reduceLE, Int.reduceEq, Int.reduceNe, Int.reduceBEq, IntKind.bits, bne_self_eq_false, Int.reducePow]
  refine xcall (size_ok g) (by rfl) (by rfl) (by rfl) (by rfl) ?_
  rintro r h' ⟨rfl, rfl⟩
  simp only [sx, x_box, x_alloc, x_bslice, x_slice, x_append, x_appz, x_b2s, xop, ev, evs, evParts, fillL, cellsL, Ai.get, Ai.put, stab, isNil?, if_false, if_true, addr?, int?, str?, agg?, bool?, shiftA, FnPost, xresL, xres1, tup, argEnv, ptr, Nat.reduceEqDiff, reduceIte, beq_self_eq_true, ne_eq, Nat.reduceAdd, Nat.reduceMul, Nat.reduceSub, abin_shl, abin_shr, load1V, loadV, storeV, cellsAt, getN, setN, allocV, lenL, lenS, bnd, oneC, Value.oneCell', Nat.reduceLeDiff, Nat.reduceLT, exists_eq_left', forall_const, reduceCtorEq, app_new, app_new0, List.append_assoc, Int.reduceToNat, Int.reduceLT, Int.reduceLE, Int.reduceEq, Int.reduceNe, Int.reduceBEq, IntKind.bits, bne_self_eq_false, Int.reducePow, h0]
  refine xcall (has_ok g) (by rfl) (by rfl) (by rfl) (by rfl) ?_
  rintro r h' ⟨rfl, rfl⟩
  simp only [sx, x_box, x_alloc, x_bslice, x_slice, x_append, x_appz, x_b2s, xop, ev, evs, evParts, fillL, cellsL, Ai.get, Ai.put, stab, isNil?, if_false, if_true, addr?, int?, str?, agg?, bool?, shiftA, FnPost, xresL, xres1, tup, argEnv, ptr, Nat.reduceEqDiff, reduceIte, beq_self_eq_true, ne_eq, Nat.reduceAdd, Nat.reduceMul, Nat.reduceSub, abin_shl, abin_shr, load1V, loadV, storeV, cellsAt, getN, setN, allocV, lenL, lenS, bnd, oneC, Value.oneCell', Nat.reduceLeDiff, Nat.reduceLT, exists_eq_left', forall_const, reduceCtorEq, app_new, app_new0, List.append_assoc, Int.reduceToNat, Int.reduceLT, Int.reduceLE, Int.reduceEq, Int.reduceNe, Int.reduceBEq, IntKind.bits, bne_self_eq_false, Int.reducePow, hk0, hk1, hg]
  refine xcall hf (by rfl) (by rfl) (by rfl) (by simp) ?_
  intro r h' hQ
  simp only [sx, x_box, x_alloc, x_bslice, x_slice, x_append, x_appz, x_b2s, xop, ev, evs, evParts, fillL, cellsL, Ai.get, Ai.put, stab, isNil?, if_false, if_true, addr?, int?, str?, agg?, bool?, shiftA, FnPost, xresL, xres1, tup, argEnv, ptr, Nat.reduceEqDiff, reduceIte, beq_self_eq_true, ne_eq, Nat.reduceAdd, Nat.reduceMul, Nat.reduceSub, abin_shl, abin_shr, load1V, loadV, storeV, cellsAt, getN, setN, allocV, lenL, lenS, bnd, oneC, Value.oneCell', Nat.reduceLeDiff, Nat.reduceLT, exists_eq_left', forall_const, reduceCtorEq, app_new, app_new0, List.append_assoc, Int.reduceToNat, Int.reduceLT, Int.reduceLE, Int.reduceEq, Int.reduceNe, Int.reduceBEq, IntKind.bits, bne_self_eq_false, Int.reducePow]
  exact hQ
theorem with_out {h : AHeap} {G L : Nat} {cs : List Ci} {k : Int} {v : Value} (g : GAt h G L cs) (hk : ¬ (0 ≤ k ∧ k < cs.length)) : Valid Try.prog 37 [.pointer (some ⟨G, 0, none⟩), .int .i64 k, v] h fun r h' => r = .int .i64 1 ∧ h' = h := by
  refine v37 (by simp) ?_
  have h0 : ¬ (cs.length : Int) = 0 := by have := g.pos; omega
  simp only [X37, sx, x_box, x_alloc, x_bslice, x_slice, x_append, x_appz, x_b2s, xop, ev, evs, evParts, fillL, cellsL, Ai.get, Ai.put, stab, isNil?, if_false, if_true, addr?, int?, str?, agg?, bool?, shiftA, FnPost, xresL, xres1, tup, argEnv, ptr, Nat.reduceEqDiff, reduceIte, beq_self_eq_true, ne_eq, Nat.reduceAdd, Nat.reduceMul, Nat.reduceSub, abin_shl, abin_shr, load1V, loadV, storeV, cellsAt, getN, setN, allocV, lenL, lenS, bnd, oneC, Value.oneCell', Nat.reduceLeDiff, Nat.reduceLT, exists_eq_left', forall_const, reduceCtorEq, app_new, app_new0, List.append_assoc, Int.reduceToNat, Int.reduceLT, Int.reduceLE, Int.reduceEq, Int.reduceNe, Int.reduceBEq, IntKind.bits, bne_self_eq_false, Int.reducePow]
  refine xcall (size_ok g) (by rfl) (by rfl) (by rfl) (by rfl) ?_
  rintro r h' ⟨rfl, rfl⟩
  simp only [sx, x_box, x_alloc, x_bslice, x_slice, x_append, x_appz, x_b2s, xop, ev, evs, evParts, fillL, cellsL, Ai.get, Ai.put, stab, isNil?, if_false, if_true, addr?, int?, str?, agg?, bool?, shiftA, FnPost, xresL, xres1, tup, argEnv, ptr, Nat.reduceEqDiff, reduceIte, beq_self_eq_true, ne_eq, Nat.reduceAdd, Nat.reduceMul, Nat.reduceSub, abin_shl, abin_shr, load1V, loadV, storeV, cellsAt, getN, setN, allocV, lenL, lenS, bnd, oneC, Value.oneCell', Nat.reduceLeDiff, Nat.reduceLT, exists_eq_left', forall_const, reduceCtorEq, app_new, app_new0, List.append_assoc, Int.reduceToNat, Int.reduceLT, Int.reduceLE, Int.reduceEq, Int.reduceNe, Int.reduceBEq, IntKind.bits, bne_self_eq_false, Int.reducePow, h0]
  refine xcall (has_ok g) (by rfl) (by rfl) (by rfl) (by rfl) ?_
  rintro r h' ⟨rfl, rfl⟩
  simp only [sx, x_box, x_alloc, x_bslice, x_slice, x_append, x_appz, x_b2s, xop, ev, evs, evParts, fillL, cellsL, Ai.get, Ai.put, stab, isNil?, if_false, if_true, addr?, int?, str?, agg?, bool?, shiftA, FnPost, xresL, xres1, tup, argEnv, ptr, Nat.reduceEqDiff, reduceIte, beq_self_eq_true, ne_eq, Nat.reduceAdd, Nat.reduceMul, Nat.reduceSub, abin_shl, abin_shr, load1V, loadV, storeV, cellsAt, getN, setN, allocV, lenL, lenS, bnd, oneC, Value.oneCell', Nat.reduceLeDiff, Nat.reduceLT, exists_eq_left', forall_const, reduceCtorEq, app_new, app_new0, List.append_assoc, Int.reduceToNat, Int.reduceLT, Int.reduceLE, Int.reduceEq, Int.reduceNe, Int.reduceBEq, IntKind.bits, bne_self_eq_false, Int.reducePow, hk]
theorem with_none {h : AHeap} {k : Int} {v : Value} : Valid Try.prog 37 [.pointer none, .int .i64 k, v] h fun r h' => r = .int .i64 2 ∧ h' = h := by
  refine v37 (by simp) ?_
  simp only [X37, sx, x_box, x_alloc, x_bslice, x_slice, x_append, x_appz, x_b2s, xop, ev, evs, evParts, fillL, cellsL, Ai.get, Ai.put, stab, isNil?, if_false, if_true, addr?, int?, str?, agg?, bool?, shiftA, FnPost, xresL, xres1, tup, argEnv, ptr, Nat.reduceEqDiff, reduceIte, beq_self_eq_true, ne_eq, Nat.reduceAdd, Nat.reduceMul, Nat.reduceSub, abin_shl, abin_shr, load1V, loadV, storeV, cellsAt, getN, setN, allocV, lenL, lenS, bnd, oneC, Value.oneCell', Nat.reduceLeDiff, Nat.reduceLT, exists_eq_left', forall_const, reduceCtorEq, app_new, app_new0, List.append_assoc, Int.reduceToNat, Int.reduceLT, Int.reduceLE, Int.reduceEq, Int.reduceNe, Int.reduceBEq, IntKind.bits, bne_self_eq_false, Int.reducePow]
  refine xcall size_nil (by rfl) (by rfl) (by rfl) (by rfl) ?_
  rintro r h' ⟨rfl, rfl⟩
  simp only [sx, x_box, x_alloc, x_bslice, x_slice, x_append, x_appz, x_b2s, xop, ev, evs, evParts, fillL, cellsL, Ai.get, Ai.put, stab, isNil?, if_false, if_true, addr?, int?, str?, agg?, bool?, shiftA, FnPost, xresL, xres1, tup, argEnv, ptr, Nat.reduceEqDiff, reduceIte, beq_self_eq_true, ne_eq, Nat.reduceAdd, Nat.reduceMul, Nat.reduceSub, abin_shl, abin_shr, load1V, loadV, storeV, cellsAt, getN, setN, allocV, lenL, lenS, bnd, oneC, Value.oneCell', Nat.reduceLeDiff, Nat.reduceLT, exists_eq_left', forall_const, reduceCtorEq, app_new, app_new0, List.append_assoc, Int.reduceToNat, Int.reduceLT, Int.reduceLE, Int.reduceEq, Int.reduceNe, Int.reduceBEq, IntKind.bits, bne_self_eq_false, Int.reducePow]
theorem at_ok {h : AHeap} {G L : Nat} {cs : List Ci} {k : Nat} {c : Ci} (g : GAt h G L cs) (hc : cs[k]? = some c) : Valid Try.prog 28 [.pointer (some ⟨G, 0, none⟩), .int .i64 (k : Int)] h fun r h' => r = .tuple #[.agg c.cells.toArray, .int .i64 0] ∧ Kp h h' := by
  refine v28 (by simp) ?_
  have hk := (List.getElem?_eq_some_iff.1 hc).1
  simp only [X28, sx, x_box, x_bslice, x_slice, x_append, x_appz, x_b2s, xop, ev, evs, evParts, fillL, cellsL, Ai.get, Ai.put, stab, isNil?, if_false, if_true, addr?, int?, str?, agg?, bool?, shiftA, FnPost, xresL, xres1, tup, argEnv, ptr, Nat.reduceEqDiff, reduceIte, beq_self_eq_true, ne_eq, Nat.reduceAdd, Nat.reduceMul, Nat.reduceSub, abin_shl, abin_shr, load1V, loadV, storeV, cellsAt, getN, setN, allocV, lenL, lenS, bnd, oneC, Value.oneCell', Nat.reduceLeDiff, Nat.reduceLT, exists_eq_left', forall_const, reduceCtorEq, app_new, app_new0, List.append_assoc, Int.reduceToNat, Int.reduceLT, Int.reduceLE, Int.reduceEq, Int.reduceNe, Int.reduceBEq, IntKind.bits, bne_self_eq_false, Int.reducePow]
  refine alloc_run fun g1 T K1 hT hTl _ => ?_
  have G1 := g.kp K1
  have hrow := G1.row
  have hLl := lt_of_get g.row
  have hTL : T ≠ L := by omega
  obtain ⟨c1, c2⟩ := rowsC_cell hc
  have hf : Valid Try.prog 43 (.pointer (some ⟨L, k * 3, none⟩) :: (#[Value.pointer (some ⟨T, 0, none⟩)] : Array Value).toList) g1 fun r h' => r = .int .i64 0 ∧ h' = g1.set T (some ⟨true, c.cells⟩) := by
    refine v43 (by simp) ?_
    simp only [Ci.cells] at c1
    simp only [X43, sx, x_box, x_alloc, x_bslice, x_slice, x_append, x_appz, x_b2s, xop, ev, evs, evParts, fillL, cellsL, Ai.get, Ai.put, stab, isNil?, if_false, if_true, addr?, int?, str?, agg?, bool?, shiftA, FnPost, xresL, xres1, tup, argEnv, ptr, Nat.reduceEqDiff, reduceIte, beq_self_eq_true, ne_eq, Nat.reduceAdd, Nat.reduceMul, Nat.reduceSub, abin_shl, abin_shr, load1V, loadV, storeV, cellsAt, setN, allocV, lenL, lenS, bnd, oneC, Value.oneCell', Nat.reduceLeDiff, Nat.reduceLT, exists_eq_left', forall_const, reduceCtorEq, app_new, app_new0, List.append_assoc, Int.reduceToNat, Int.reduceLT, Int.reduceLE, Int.reduceEq, Int.reduceNe, Int.reduceBEq, IntKind.bits, bne_self_eq_false, Int.reducePow, hrow, c1, hT, Ci.cells]
  simp only [sx, x_box, x_alloc, x_bslice, x_slice, x_append, x_appz, x_b2s, xop, ev, evs, evParts, fillL, cellsL, Ai.get, Ai.put, stab, isNil?, if_false, if_true, addr?, int?, str?, agg?, bool?, shiftA, FnPost, xresL, xres1, tup, argEnv, ptr, Nat.reduceEqDiff, reduceIte, beq_self_eq_true, ne_eq, Nat.reduceAdd, Nat.reduceMul, Nat.reduceSub, abin_shl, abin_shr, load1V, loadV, storeV, cellsAt, getN, setN, allocV, lenL, lenS, bnd, oneC, Value.oneCell', Nat.reduceLeDiff, Nat.reduceLT, exists_eq_left', forall_const, reduceCtorEq, app_new, app_new0, List.append_assoc, Int.reduceToNat, Int.reduceLT, Int.reduceLE, Int.reduceEq, Int.reduceNe, Int.reduceBEq, IntKind.bits, bne_self_eq_false, Int.reducePow]
  refine xcall (with_in G1 hk hf) (by rfl) (by rfl) (by rfl) (by rfl) ?_
  rintro r h' ⟨rfl, rfl⟩
  have hT2 := set_same hT (some ⟨true, c.cells⟩)
  simp only [Ci.cells] at hT2 ⊢
  simp only [sx, x_box, x_alloc, x_bslice, x_slice, x_append, x_appz, x_b2s, xop, ev, evs, evParts, fillL, cellsL, Ai.get, Ai.put, stab, isNil?, if_false, if_true, addr?, int?, str?, agg?, bool?, shiftA, FnPost, xresL, xres1, tup, argEnv, ptr, Nat.reduceEqDiff, reduceIte, beq_self_eq_true, ne_eq, Nat.reduceAdd, Nat.reduceMul, Nat.reduceSub, abin_shl, abin_shr, load1V, loadV, storeV, cellsAt, getN, setN, allocV, lenL, lenS, bnd, oneC, Value.oneCell', Nat.reduceLeDiff, Nat.reduceLT, exists_eq_left', forall_const, reduceCtorEq, app_new, app_new0, List.append_assoc, Int.reduceToNat, Int.reduceLT, Int.reduceLE, Int.reduceEq, Int.reduceNe, Int.reduceBEq, IntKind.bits, bne_self_eq_false, Int.reducePow, hT2, set_here]
  exact (K1.set (by omega) _).set (by omega) _
theorem at_out {h : AHeap} {G L : Nat} {cs : List Ci} {k : Int} (g : GAt h G L cs) (hk : ¬ (0 ≤ k ∧ k < cs.length)) : Valid Try.prog 28 [.pointer (some ⟨G, 0, none⟩), .int .i64 k] h fun r h' => r = .tuple #[.agg #[.int .u8 0, .int .u8 0, .int .i64 0], .int .i64 1] ∧ Kp h h' := by
  refine v28 (by simp) ?_
  simp only [X28, sx, x_box, x_bslice, x_slice, x_append, x_appz, x_b2s, xop, ev, evs, evParts, fillL, cellsL, Ai.get, Ai.put, stab, isNil?, if_false, if_true, addr?, int?, str?, agg?, bool?, shiftA, FnPost, xresL, xres1, tup, argEnv, ptr, Nat.reduceEqDiff, reduceIte, beq_self_eq_true, ne_eq, Nat.reduceAdd, Nat.reduceMul, Nat.reduceSub, abin_shl, abin_shr, load1V, loadV, storeV, cellsAt, getN, setN, allocV, lenL, lenS, bnd, oneC, Value.oneCell', Nat.reduceLeDiff, Nat.reduceLT, exists_eq_left', forall_const, reduceCtorEq, app_new, app_new0, List.append_assoc, Int.reduceToNat, Int.reduceLT, Int.reduceLE, Int.reduceEq, Int.reduceNe, Int.reduceBEq, IntKind.bits, bne_self_eq_false, Int.reducePow]
  refine alloc_run fun g1 T K1 hT hTl _ => ?_
  simp only [sx, x_box, x_alloc, x_bslice, x_slice, x_append, x_appz, x_b2s, xop, ev, evs, evParts, fillL, cellsL, Ai.get, Ai.put, stab, isNil?, if_false, if_true, addr?, int?, str?, agg?, bool?, shiftA, FnPost, xresL, xres1, tup, argEnv, ptr, Nat.reduceEqDiff, reduceIte, beq_self_eq_true, ne_eq, Nat.reduceAdd, Nat.reduceMul, Nat.reduceSub, abin_shl, abin_shr, load1V, loadV, storeV, cellsAt, getN, setN, allocV, lenL, lenS, bnd, oneC, Value.oneCell', Nat.reduceLeDiff, Nat.reduceLT, exists_eq_left', forall_const, reduceCtorEq, app_new, app_new0, List.append_assoc, Int.reduceToNat, Int.reduceLT, Int.reduceLE, Int.reduceEq, Int.reduceNe, Int.reduceBEq, IntKind.bits, bne_self_eq_false, Int.reducePow]
  refine xcall (with_out (g.kp K1) hk) (by rfl) (by rfl) (by rfl) (by rfl) ?_
  rintro r h' ⟨rfl, rfl⟩
  simp only [sx, x_box, x_alloc, x_bslice, x_slice, x_append, x_appz, x_b2s, xop, ev, evs, evParts, fillL, cellsL, Ai.get, Ai.put, stab, isNil?, if_false, if_true, addr?, int?, str?, agg?, bool?, shiftA, FnPost, xresL, xres1, tup, argEnv, ptr, Nat.reduceEqDiff, reduceIte, beq_self_eq_true, ne_eq, Nat.reduceAdd, Nat.reduceMul, Nat.reduceSub, abin_shl, abin_shr, load1V, loadV, storeV, cellsAt, getN, setN, allocV, lenL, lenS, bnd, oneC, Value.oneCell', Nat.reduceLeDiff, Nat.reduceLT, exists_eq_left', forall_const, reduceCtorEq, app_new, app_new0, List.append_assoc, Int.reduceToNat, Int.reduceLT, Int.reduceLE, Int.reduceEq, Int.reduceNe, Int.reduceBEq, IntKind.bits, bne_self_eq_false, Int.reducePow, hT, set_here]
  exact K1.set (by omega) _
/-- the blocks as bits -/
theorem bits8 : abin .or (.int .u8 0) (.int .u8 1) = some (.int .u8 1) ∧
    abin .or (.int .u8 1) (.int .u8 1) = some (.int .u8 1) ∧
    abin .or (.int .u8 2) (.int .u8 1) = some (.int .u8 3) ∧
    abin .or (.int .u8 3) (.int .u8 1) = some (.int .u8 3) ∧
    abin .or (.int .u8 0) (.int .u8 2) = some (.int .u8 2) ∧
    abin .or (.int .u8 1) (.int .u8 2) = some (.int .u8 3) ∧
    abin .or (.int .u8 2) (.int .u8 2) = some (.int .u8 2) ∧
    abin .or (.int .u8 3) (.int .u8 2) = some (.int .u8 3) ∧
    abin .andNot (.int .u8 0) (.int .u8 1) = some (.int .u8 0) ∧
    abin .andNot (.int .u8 1) (.int .u8 1) = some (.int .u8 0) ∧
    abin .andNot (.int .u8 2) (.int .u8 1) = some (.int .u8 2) ∧
    abin .andNot (.int .u8 3) (.int .u8 1) = some (.int .u8 2) ∧
    abin .andNot (.int .u8 0) (.int .u8 2) = some (.int .u8 0) ∧
    abin .andNot (.int .u8 1) (.int .u8 2) = some (.int .u8 1) ∧
    abin .andNot (.int .u8 2) (.int .u8 2) = some (.int .u8 0) ∧
    abin .andNot (.int .u8 3) (.int .u8 2) = some (.int .u8 1) ∧
    abin .and (.int .u8 0) (.int .u8 1) = some (.int .u8 0) ∧
    abin .and (.int .u8 1) (.int .u8 1) = some (.int .u8 1) ∧
    abin .and (.int .u8 2) (.int .u8 1) = some (.int .u8 0) ∧
    abin .and (.int .u8 3) (.int .u8 1) = some (.int .u8 1) ∧
    abin .and (.int .u8 0) (.int .u8 2) = some (.int .u8 0) ∧
    abin .and (.int .u8 1) (.int .u8 2) = some (.int .u8 0) ∧
    abin .and (.int .u8 2) (.int .u8 2) = some (.int .u8 2) ∧
    abin .and (.int .u8 3) (.int .u8 2) = some (.int .u8 2) := by
  refine ⟨?_, ?_, ?_, ?_, ?_, ?_, ?_, ?_, ?_, ?_, ?_, ?_, ?_, ?_, ?_, ?_, ?_, ?_, ?_, ?_, ?_, ?_, ?_, ?_⟩ <;> rfl
/-- a block set or removed -/
def Ci.put (c : Ci) (r on : Bool) : Ci := if r then ⟨c.lo, on⟩ else ⟨on, c.re⟩
def bkI (r : Bool) : Int := if r then 2 else 1
theorem gset_in {h : AHeap} {G L : Nat} {cs : List Ci} {k : Nat} {c : Ci} {r on : Bool} (g : GAt h G L cs) (hc : cs[k]? = some c) : Valid Try.prog 23 [.pointer (some ⟨G, 0, none⟩), .int .i64 (k : Int), .int .u8 (bkI r), .bool on] h fun v h' => v = .int .i64 0 ∧ GAt h' G L (cs.set k (c.put r on)) ∧ Fr (· = L) h h' := by
  refine v23 (by simp) ?_
  have hk := (List.getElem?_eq_some_iff.1 hc).1
  simp only [X23, sx, x_alloc, x_bslice, x_slice, x_append, x_appz, x_b2s, xop, ev, evs, evParts, fillL, cellsL, Ai.get, Ai.put, stab, isNil?, if_false, if_true, addr?, int?, str?, agg?, bool?, shiftA, FnPost, xresL, xres1, tup, argEnv, ptr, Nat.reduceEqDiff, reduceIte, beq_self_eq_true, ne_eq, Nat.reduceAdd, Nat.reduceMul, Nat.reduceSub, abin_shl, abin_shr, load1V, loadV, storeV, cellsAt, getN, setN, allocV, lenL, lenS, bnd, oneC, Value.oneCell', Nat.reduceLeDiff, Nat.reduceLT, exists_eq_left', forall_const, reduceCtorEq, app_new, app_new0, List.append_assoc, Int.reduceToNat, Int.reduceLT, Int.reduceLE, Int.reduceEq, Int.reduceNe, Int.reduceBEq, IntKind.bits, bne_self_eq_false, Int.reducePow]
  refine box_run rfl fun g1 B1 K1 hB1 hBl1 _ => ?_
  simp only [sx, x_alloc, x_bslice, x_slice, x_append, x_appz, x_b2s, xop, ev, evs, evParts, fillL, cellsL, Ai.get, Ai.put, stab, isNil?, if_false, if_true, addr?, int?, str?, agg?, bool?, shiftA, FnPost, xresL, xres1, tup, argEnv, ptr, Nat.reduceEqDiff, reduceIte, beq_self_eq_true, ne_eq, Nat.reduceAdd, Nat.reduceMul, Nat.reduceSub, abin_shl, abin_shr, load1V, loadV, storeV, cellsAt, getN, setN, allocV, lenL, lenS, bnd, oneC, Value.oneCell', Nat.reduceLeDiff, Nat.reduceLT, exists_eq_left', forall_const, reduceCtorEq, app_new, app_new0, List.append_assoc, Int.reduceToNat, Int.reduceLT, Int.reduceLE, Int.reduceEq, Int.reduceNe, Int.reduceBEq, IntKind.bits, bne_self_eq_false, Int.reducePow]
  refine box_run rfl fun g2 B2 K2 hB2 hBl2 _ => ?_
  have hB12 := K2.get hB1
  simp only [cellsL] at hB12 hB2
  have K := K1.trans K2
  have G2 := g.kp K
  have hrow := G2.row
  obtain ⟨c1, c2⟩ := rowsC_cell hc
  have hlen : k * 3 + 1 + 1 ≤ (rowsC cs).length := by rw [rowsC_len]; omega
  have hf : Valid Try.prog 38 (.pointer (some ⟨L, k * 3, none⟩) :: (#[Value.pointer (some ⟨B1, 0, none⟩), .pointer (some ⟨B2, 0, none⟩)] : Array Value).toList) g2 fun v h' => v = .int .i64 0 ∧ h' = g2.set L (some ⟨true, rowsC (cs.set k (c.put r on))⟩) := by
    refine v38 (by simp) ?_
    rw [← rowsC_set (c.put r on) hc]
    have n1 : ¬ (2 : Int) = 1 := by decide
    have n2 : ¬ (1 : Int) = 2 := by decide
    obtain ⟨lo, re⟩ := c
    cases r <;> cases on <;> cases lo <;> cases re <;> simp only [bkI, Ci.put, Ci.blk, if_true, if_false, Bool.false_eq_true] at c2 hB12 ⊢ <;>
      simp only [X38, sx, x_box, x_alloc, x_bslice, x_slice, x_append, x_appz, x_b2s, xop, ev, evs, evParts, fillL, cellsL, Ai.get, Ai.put, stab, isNil?, if_false, if_true, addr?, int?, str?, agg?, bool?, shiftA, FnPost, xresL, xres1, tup, argEnv, ptr, Nat.reduceEqDiff, reduceIte, beq_self_eq_true, ne_eq, Nat.reduceAdd, Nat.reduceMul, Nat.reduceSub, abin_shl, abin_shr, load1V, loadV, storeV, cellsAt, setN, allocV, lenL, lenS, bnd, oneC, Value.oneCell', Nat.reduceLeDiff, Nat.reduceLT, exists_eq_left', forall_const, reduceCtorEq, app_new, app_new0, List.append_assoc, Int.reduceToNat, Int.reduceLT, Int.reduceLE, Int.reduceEq, Int.reduceNe, Int.reduceBEq, IntKind.bits, bne_self_eq_false, Int.reducePow, hrow, c2, hB12, hB2, n1, n2, hlen, bits8]
  simp only [sx, x_box, x_alloc, x_bslice, x_slice, x_append, x_appz, x_b2s, xop, ev, evs, evParts, fillL, cellsL, Ai.get, Ai.put, stab, isNil?, if_false, if_true, addr?, int?, str?, agg?, bool?, shiftA, FnPost, xresL, xres1, tup, argEnv, ptr, Nat.reduceEqDiff, reduceIte, beq_self_eq_true, ne_eq, Nat.reduceAdd, Nat.reduceMul, Nat.reduceSub, abin_shl, abin_shr, load1V, loadV, storeV, cellsAt, getN, setN, allocV, lenL, lenS, bnd, oneC, Value.oneCell', Nat.reduceLeDiff, Nat.reduceLT, exists_eq_left', forall_const, reduceCtorEq, app_new, app_new0, List.append_assoc, Int.reduceToNat, Int.reduceLT, Int.reduceLE, Int.reduceEq, Int.reduceNe, Int.reduceBEq, IntKind.bits, bne_self_eq_false, Int.reducePow]
  refine xcall (with_in G2 hk hf) (by rfl) (by rfl) (by rfl) (by rfl) ?_
  rintro v h' ⟨rfl, rfl⟩
  simp only [sx, x_box, x_alloc, x_bslice, x_slice, x_append, x_appz, x_b2s, xop, ev, evs, evParts, fillL, cellsL, Ai.get, Ai.put, stab, isNil?, if_false, if_true, addr?, int?, str?, agg?, bool?, shiftA, FnPost, xresL, xres1, tup, argEnv, ptr, Nat.reduceEqDiff, reduceIte, beq_self_eq_true, ne_eq, Nat.reduceAdd, Nat.reduceMul, Nat.reduceSub, abin_shl, abin_shr, load1V, loadV, storeV, cellsAt, getN, setN, allocV, lenL, lenS, bnd, oneC, Value.oneCell', Nat.reduceLeDiff, Nat.reduceLT, exists_eq_left', forall_const, reduceCtorEq, app_new, app_new0, List.append_assoc, Int.reduceToNat, Int.reduceLT, Int.reduceLE, Int.reduceEq, Int.reduceNe, Int.reduceBEq, IntKind.bits, bne_self_eq_false, Int.reducePow]
  refine ⟨⟨?_, ?_, g.ne, by simpa using g.pos, by simpa using g.big⟩, (K.fr _).trans (Fr.set (S := (· = L)) (X := L) _ rfl) fun B h => .inl h⟩
  · rw [set_ne g.ne.symm, List.length_set]; exact G2.obj
  · exact set_same hrow _
theorem gset_out {h : AHeap} {G L : Nat} {cs : List Ci} {k : Int} {v w : Value} (g : GAt h G L cs) (hk : ¬ (0 ≤ k ∧ k < cs.length)) : Valid Try.prog 23 [.pointer (some ⟨G, 0, none⟩), .int .i64 k, v, w] h fun r h' => r = .int .i64 1 ∧ Kp h h' := by
  refine v23 (by simp) ?_
  simp only [X23, sx, x_alloc, x_bslice, x_slice, x_append, x_appz, x_b2s, xop, ev, evs, evParts, fillL, cellsL, Ai.get, Ai.put, stab, isNil?, if_false, if_true, addr?, int?, str?, agg?, bool?, shiftA, FnPost, xresL, xres1, tup, argEnv, ptr, Nat.reduceEqDiff, reduceIte, beq_self_eq_true, ne_eq, Nat.reduceAdd, Nat.reduceMul, Nat.reduceSub, abin_shl, abin_shr, load1V, loadV, storeV, cellsAt, getN, setN, allocV, lenL, lenS, bnd, oneC, Value.oneCell', Nat.reduceLeDiff, Nat.reduceLT, exists_eq_left', forall_const, reduceCtorEq, app_new, app_new0, List.append_assoc, Int.reduceToNat, Int.reduceLT, Int.reduceLE, Int.reduceEq, Int.reduceNe, Int.reduceBEq, IntKind.bits, bne_self_eq_false, Int.reducePow]
  refine box_run rfl fun g1 B1 K1 hB1 hBl1 _ => ?_
  simp only [sx, x_alloc, x_bslice, x_slice, x_append, x_appz, x_b2s, xop, ev, evs, evParts, fillL, cellsL, Ai.get, Ai.put, stab, isNil?, if_false, if_true, addr?, int?, str?, agg?, bool?, shiftA, FnPost, xresL, xres1, tup, argEnv, ptr, Nat.reduceEqDiff, reduceIte, beq_self_eq_true, ne_eq, Nat.reduceAdd, Nat.reduceMul, Nat.reduceSub, abin_shl, abin_shr, load1V, loadV, storeV, cellsAt, getN, setN, allocV, lenL, lenS, bnd, oneC, Value.oneCell', Nat.reduceLeDiff, Nat.reduceLT, exists_eq_left', forall_const, reduceCtorEq, app_new, app_new0, List.append_assoc, Int.reduceToNat, Int.reduceLT, Int.reduceLE, Int.reduceEq, Int.reduceNe, Int.reduceBEq, IntKind.bits, bne_self_eq_false, Int.reducePow]
  refine box_run rfl fun g2 B2 K2 hB2 hBl2 _ => ?_
  simp only [sx, x_box, x_alloc, x_bslice, x_slice, x_append, x_appz, x_b2s, xop, ev, evs, evParts, fillL, cellsL, Ai.get, Ai.put, stab, isNil?, if_false, if_true, addr?, int?, str?, agg?, bool?, shiftA, FnPost, xresL, xres1, tup, argEnv, ptr, Nat.reduceEqDiff, reduceIte, beq_self_eq_true, ne_eq, Nat.reduceAdd, Nat.reduceMul, Nat.reduceSub, abin_shl, abin_shr, load1V, loadV, storeV, cellsAt, getN, setN, allocV, lenL, lenS, bnd, oneC, Value.oneCell', Nat.reduceLeDiff, Nat.reduceLT, exists_eq_left', forall_const, reduceCtorEq, app_new, app_new0, List.append_assoc, Int.reduceToNat, Int.reduceLT, Int.reduceLE, Int.reduceEq, Int.reduceNe, Int.reduceBEq, IntKind.bits, bne_self_eq_false, Int.reducePow]
  refine xcall (with_out (g.kp (K1.trans K2)) hk) (by rfl) (by rfl) (by rfl) (by rfl) ?_
  rintro v h' ⟨rfl, rfl⟩
  simp only [sx, x_box, x_alloc, x_bslice, x_slice, x_append, x_appz, x_b2s, xop, ev, evs, evParts, fillL, cellsL, Ai.get, Ai.put, stab, isNil?, if_false, if_true, addr?, int?, str?, agg?, bool?, shiftA, FnPost, xresL, xres1, tup, argEnv, ptr, Nat.reduceEqDiff, reduceIte, beq_self_eq_true, ne_eq, Nat.reduceAdd, Nat.reduceMul, Nat.reduceSub, abin_shl, abin_shr, load1V, loadV, storeV, cellsAt, getN, setN, allocV, lenL, lenS, bnd, oneC, Value.oneCell', Nat.reduceLeDiff, Nat.reduceLT, exists_eq_left', forall_const, reduceCtorEq, app_new, app_new0, List.append_assoc, Int.reduceToNat, Int.reduceLT, Int.reduceLE, Int.reduceEq, Int.reduceNe, Int.reduceBEq, IntKind.bits, bne_self_eq_false, Int.reducePow]
  exact K1.trans K2
/-- New of a group -/
theorem rows_free (n : Nat) : (List.replicate n [Value.int .u8 0, .int .u8 0, .int .i64 0]).flatten = rowsC (List.replicate n ⟨false, false⟩) := by
  induction n with
  | zero => rfl
  | succ n ih => rw [List.replicate_succ, List.flatten_cons, ih]; rfl
theorem group_new {h : AHeap} {n : Nat} (h1 : 1 ≤ n) (h2 : n ≤ 256) : Valid Try.prog 22 [.int .u16 1, .int .u16 2, .int .i64 (n : Int)] h fun r h' => ∃ G L, r = .tuple #[.pointer (some ⟨G, 0, none⟩), .int .i64 0] ∧ GAt h' G L (List.replicate n ⟨false, false⟩) ∧ Kp h h' ∧ h.length ≤ G ∧ h.length ≤ L := by
  refine v22 (by simp) ?_
  have c0 : ¬ (16383 : Int) < 1 := by decide
  have c1 : ¬ (16383 : Int) < 2 := by decide
  have c2 : ¬ (1 : Int) = 2 := by decide
  have c3 : ¬ (n : Int) < 1 := by omega
  have c4 : ¬ (256 : Int) < n := by omega
  have c5 : (0 : Int) ≤ n := by omega
  have c6 : (n : Int) * 16 ≤ 140737488355328 := by omega
  have c7 : (n : Int) ≤ 9223372036854775807 := by omega
  simp only [X22, sx, x_box, x_alloc, x_bslice, x_slice, x_append, x_appz, x_b2s, xop, ev, evs, evParts, fillL, cellsL, Ai.get, Ai.put, stab, isNil?, if_false, if_true, addr?, int?, str?, agg?, bool?, shiftA, FnPost, xresL, xres1, tup, argEnv, ptr, Nat.reduceEqDiff, reduceIte, beq_self_eq_true, ne_eq, Nat.reduceAdd, Nat.reduceMul, Nat.reduceSub, abin_shl, abin_shr, load1V, loadV, storeV, cellsAt, getN, setN, allocV, lenL, lenS, bnd, oneC, Value.oneCell', Nat.reduceLeDiff, Nat.reduceLT, exists_eq_left', forall_const, reduceCtorEq, app_new, app_new0, List.append_assoc, Int.reduceToNat, Int.reduceLT, Int.reduceLE, Int.reduceEq, Int.reduceNe, Int.reduceBEq, IntKind.bits, bne_self_eq_false, Int.reducePow, c0, c1, c2, c3, c4, c5, c6, c7, Int.le_refl, rows_free]
  refine ⟨h.length + 1, h.length, rfl, ⟨⟨1, 2, ?_⟩, ?_, by omega, by rw [List.length_replicate]; omega, by simpa using h2⟩, Kp.app _ _, by omega, Nat.le_refl _⟩
  · rw [List.getElem?_append_right (by omega)]; simp
  · rw [List.getElem?_append_right (by omega)]; simp
theorem group_new34 {h : AHeap} {n : Nat} (h1 : 1 ≤ n) (h2 : n ≤ 256) : Valid Try.prog 22 [.int .u16 3, .int .u16 4, .int .i64 (n : Int)] h fun r h' => ∃ G L, r = .tuple #[.pointer (some ⟨G, 0, none⟩), .int .i64 0] ∧ GAt h' G L (List.replicate n ⟨false, false⟩) ∧ Kp h h' ∧ h.length ≤ G ∧ h.length ≤ L := by
  refine v22 (by simp) ?_
  have c0 : ¬ (16383 : Int) < 3 := by decide
  have c1 : ¬ (16383 : Int) < 4 := by decide
  have c2 : ¬ (3 : Int) = 4 := by decide
  have c3 : ¬ (n : Int) < 1 := by omega
  have c4 : ¬ (256 : Int) < n := by omega
  have c5 : (0 : Int) ≤ n := by omega
  have c6 : (n : Int) * 16 ≤ 140737488355328 := by omega
  have c7 : (n : Int) ≤ 9223372036854775807 := by omega
  simp only [X22, sx, x_box, x_alloc, x_bslice, x_slice, x_append, x_appz, x_b2s, xop, ev, evs, evParts, fillL, cellsL, Ai.get, Ai.put, stab, isNil?, if_false, if_true, addr?, int?, str?, agg?, bool?, shiftA, FnPost, xresL, xres1, tup, argEnv, ptr, Nat.reduceEqDiff, reduceIte, beq_self_eq_true, ne_eq, Nat.reduceAdd, Nat.reduceMul, Nat.reduceSub, abin_shl, abin_shr, load1V, loadV, storeV, cellsAt, getN, setN, allocV, lenL, lenS, bnd, oneC, Value.oneCell', Nat.reduceLeDiff, Nat.reduceLT, exists_eq_left', forall_const, reduceCtorEq, app_new, app_new0, List.append_assoc, Int.reduceToNat, Int.reduceLT, Int.reduceLE, Int.reduceEq, Int.reduceNe, Int.reduceBEq, IntKind.bits, bne_self_eq_false, Int.reducePow, c0, c1, c2, c3, c4, c5, c6, c7, Int.le_refl, rows_free]
  refine ⟨h.length + 1, h.length, rfl, ⟨⟨3, 4, ?_⟩, ?_, by omega, by rw [List.length_replicate]; omega, by simpa using h2⟩, Kp.app _ _, by omega, Nat.le_refl _⟩
  · rw [List.getElem?_append_right (by omega)]; simp
  · rw [List.getElem?_append_right (by omega)]; simp
theorem group_none34 {h : AHeap} {n : Int} (h1 : n < 1 ∨ 256 < n) : Valid Try.prog 22 [.int .u16 3, .int .u16 4, .int .i64 n] h fun r h' => (∃ e : Int, e ≠ 0 ∧ r = .tuple #[.pointer none, .int .i64 e]) ∧ h' = h := by
  refine v22 (by simp) ?_
  have c0 : ¬ (16383 : Int) < 3 := by decide
  have c1 : ¬ (16383 : Int) < 4 := by decide
  have c2 : ¬ (3 : Int) = 4 := by decide
  by_cases c3 : n < 1
  · simp only [X22, sx, x_box, x_alloc, x_bslice, x_slice, x_append, x_appz, x_b2s, xop, ev, evs, evParts, fillL, cellsL, Ai.get, Ai.put, stab, isNil?, if_false, if_true, addr?, int?, str?, agg?, bool?, shiftA, FnPost, xresL, xres1, tup, argEnv, ptr, Nat.reduceEqDiff, reduceIte, beq_self_eq_true, ne_eq, Nat.reduceAdd, Nat.reduceMul, Nat.reduceSub, abin_shl, abin_shr, load1V, loadV, storeV, cellsAt, getN, setN, allocV, lenL, lenS, bnd, oneC, Value.oneCell', Nat.reduceLeDiff, Nat.reduceLT, exists_eq_left', forall_const, reduceCtorEq, app_new, app_new0, List.append_assoc, Int.reduceToNat, Int.reduceLT, Int.reduceLE, Int.reduceEq, Int.reduceNe, Int.reduceBEq, IntKind.bits, bne_self_eq_false, Int.reducePow, c0, c1, c2, c3]
    exact ⟨1, by decide, rfl⟩
  · have c4 : (256 : Int) < n := by omega
    simp only [X22, sx, x_box, x_alloc, x_bslice, x_slice, x_append, x_appz, x_b2s, xop, ev, evs, evParts, fillL, cellsL, Ai.get, Ai.put, stab, isNil?, if_false, if_true, addr?, int?, str?, agg?, bool?, shiftA, FnPost, xresL, xres1, tup, argEnv, ptr, Nat.reduceEqDiff, reduceIte, beq_self_eq_true, ne_eq, Nat.reduceAdd, Nat.reduceMul, Nat.reduceSub, abin_shl, abin_shr, load1V, loadV, storeV, cellsAt, getN, setN, allocV, lenL, lenS, bnd, oneC, Value.oneCell', Nat.reduceLeDiff, Nat.reduceLT, exists_eq_left', forall_const, reduceCtorEq, app_new, app_new0, List.append_assoc, Int.reduceToNat, Int.reduceLT, Int.reduceLE, Int.reduceEq, Int.reduceNe, Int.reduceBEq, IntKind.bits, bne_self_eq_false, Int.reducePow, c0, c1, c2, c3, c4]
    exact ⟨3, by decide, rfl⟩
end Go.Proofs.Ytejgaeinkojgpaa
