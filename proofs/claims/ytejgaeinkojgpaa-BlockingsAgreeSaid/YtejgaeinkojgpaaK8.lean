import Derived.Test.YtejgaeinkojgpaaK7
set_option linter.unusedVariables false
set_option linter.unusedSimpArgs false
namespace Go.Proofs.Ytejgaeinkojgpaa
open Go Go.Ai Go.Proofs

/-- a valid message -/
def Ms.Ok (m : Ms) : Prop := (m.kind = 1 ∨ m.kind = 2) ∧ m.serial ≠ 0 ∧ m.on.length = m.mask.length ∧ ((m.kind = 2 ∧ m.first = 0 ∧ m.mask.length = 0) ∨ (m.kind = 1 ∧ 1 ≤ m.mask.length ∧ m.mask.length ≤ 32 ∧ 0 ≤ m.first ∧ m.first + m.mask.length ≤ 256 ∧ m.mask[0]? = some true ∧ m.mask[m.mask.length - 1]? = some true ∧ ∀ i : Nat, m.on[i]? = some true → m.mask[i]? = some true))
def VOk (h : AHeap) (m : Ms) (r : Value) (h' : AHeap) : Prop := Kp h h' ∧ ∃ b, r = .bool b ∧ (b = true ↔ m.Ok)
def VaI (h0 : AHeap) (R : Nat) (oq : Option Addr) (oc : Nat) (m : Ms) (f : Nat) (ρ : Env) (h : AHeap) : Prop := ∃ i, i + f = m.on.length ∧ get ρ 75 = some (.int .i64 (i : Nat)) ∧ get ρ 74 = some (.int .i64 (m.on.length : Nat)) ∧ get ρ 73 = some (.slice oq m.on.length oc) ∧ get ρ 1 = some (.pointer (some ⟨R, 0, none⟩)) ∧ h = h0 ∧ ∀ j : Nat, j < i → m.on[j]? = some true → m.mask[j]? = some true
set_option maxHeartbeats 4000000 in
set_option maxRecDepth 20000 in
theorem valid_ok {h : AHeap} {v : Value} {m : Ms} (hm : MV h v m) (hn : m.mask.length ≤ 9223372036854775807) : Valid Try.prog 34 [v] h fun r h' => VOk h m r h' := by
  refine v34 (by simp) ?_
  obtain ⟨mv, ov, rfl, M, O⟩ := hm
  obtain ⟨mq, mc, rfl⟩ := M.shape
  obtain ⟨oq, oc, rfl⟩ := O.shape
  simp only [X34, Ms.cells, sx, x_alloc, x_bslice, x_slice, x_append, x_appz, x_b2s, xop, ev, evs, evParts, fillL, cellsL, Ai.get, Ai.put, stab, isNil?, if_false, if_true, addr?, int?, str?, agg?, bool?, shiftA, FnPost, xresL, xres1, tup, argEnv, ptr, Nat.reduceEqDiff, reduceIte, beq_self_eq_true, ne_eq, Nat.reduceAdd, Nat.reduceMul, Nat.reduceSub, abin_shl, abin_shr, load1V, loadV, storeV, cellsAt, getN, setN, allocV, lenL, lenS, bnd, oneC, Value.oneCell', Nat.reduceLeDiff, Nat.reduceLT, exists_eq_left', forall_const, reduceCtorEq, app_new, app_new0, List.append_assoc, Int.reduceToNat, Int.reduceLT, Int.reduceLE, Int.reduceEq, Int.reduceNe, Int.reduceBEq, IntKind.bits, bne_self_eq_false, Int.reducePow]
  refine box_run rfl fun g1 R K1 hR hRl _ => ⟨trivial, ?_⟩
  simp only [cellsL] at hR
  have M1 := M.frz K1.frz
  have O1 := O.frz K1.frz
  have no : ∀ P : Prop, ¬ P → (false = true ↔ P) := fun P hP => Iff.intro (fun h => by cases h) (fun h => absurd h hP)
  by_cases hk : m.kind = 1 ∨ m.kind = 2
  rotate_left
  · have k1 : ¬ m.kind = 1 := fun h => hk (.inl h)
    have k2 : ¬ m.kind = 2 := fun h => hk (.inr h)
    have k1' : m.kind ≠ 1 := k1
    have k2' : m.kind ≠ 2 := k2
    simp only [sx, x_box, x_alloc, x_bslice, x_slice, x_append, x_appz, x_b2s, xop, ev, evs, evParts, fillL, cellsL, Ai.get, Ai.put, stab, isNil?, if_false, if_true, addr?, int?, str?, agg?, bool?, shiftA, FnPost, xresL, xres1, tup, argEnv, ptr, Nat.reduceEqDiff, reduceIte, beq_self_eq_true, ne_eq, Nat.reduceAdd, Nat.reduceMul, Nat.reduceSub, abin_shl, abin_shr, load1V, loadV, storeV, cellsAt, getN, setN, allocV, lenL, lenS, bnd, oneC, Value.oneCell', Nat.reduceLeDiff, Nat.reduceLT, exists_eq_left', forall_const, reduceCtorEq, app_new, app_new0, List.append_assoc, Int.reduceToNat, Int.reduceLT, Int.reduceLE, Int.reduceEq, Int.reduceNe, Int.reduceBEq, IntKind.bits, bne_self_eq_false, Int.reducePow, hR, k1', k2']
    exact ⟨K1, _, rfl, no _ fun h => hk h.1⟩
  by_cases hs : m.serial = 0
  · rcases hk with hk | hk
    · have k1 : ¬ (1 : Int) ≠ 1 := by decide
      simp only [sx, x_box, x_alloc, x_bslice, x_slice, x_append, x_appz, x_b2s, xop, ev, evs, evParts, fillL, cellsL, Ai.get, Ai.put, stab, isNil?, if_false, if_true, addr?, int?, str?, agg?, bool?, shiftA, FnPost, xresL, xres1, tup, argEnv, ptr, Nat.reduceEqDiff, reduceIte, beq_self_eq_true, ne_eq, Nat.reduceAdd, Nat.reduceMul, Nat.reduceSub, abin_shl, abin_shr, load1V, loadV, storeV, cellsAt, getN, setN, allocV, lenL, lenS, bnd, oneC, Value.oneCell', Nat.reduceLeDiff, Nat.reduceLT, exists_eq_left', forall_const, reduceCtorEq, app_new, app_new0, List.append_assoc, Int.reduceToNat, Int.reduceLT, Int.reduceLE, Int.reduceEq, Int.reduceNe, Int.reduceBEq, IntKind.bits, bne_self_eq_false, Int.reducePow, hR, hk, k1, hs]
      exact ⟨K1, _, rfl, no _ fun h => h.2.1 hs⟩
    · have k1 : (2 : Int) ≠ 1 := by decide
      have k2 : ¬ (2 : Int) ≠ 2 := by decide
      simp only [sx, x_box, x_alloc, x_bslice, x_slice, x_append, x_appz, x_b2s, xop, ev, evs, evParts, fillL, cellsL, Ai.get, Ai.put, stab, isNil?, if_false, if_true, addr?, int?, str?, agg?, bool?, shiftA, FnPost, xresL, xres1, tup, argEnv, ptr, Nat.reduceEqDiff, reduceIte, beq_self_eq_true, ne_eq, Nat.reduceAdd, Nat.reduceMul, Nat.reduceSub, abin_shl, abin_shr, load1V, loadV, storeV, cellsAt, getN, setN, allocV, lenL, lenS, bnd, oneC, Value.oneCell', Nat.reduceLeDiff, Nat.reduceLT, exists_eq_left', forall_const, reduceCtorEq, app_new, app_new0, List.append_assoc, Int.reduceToNat, Int.reduceLT, Int.reduceLE, Int.reduceEq, Int.reduceNe, Int.reduceBEq, IntKind.bits, bne_self_eq_false, Int.reducePow, hR, hk, k1, k2, hs]
      exact ⟨K1, _, rfl, no _ fun h => h.2.1 hs⟩
  by_cases hl : m.on.length = m.mask.length
  rotate_left
  · have hl' : ((m.on.length : Nat) : Int) ≠ (m.mask.length : Nat) := by omega
    rcases hk with hk | hk
    · have k1 : ¬ (1 : Int) ≠ 1 := by decide
      simp only [sx, x_box, x_alloc, x_bslice, x_slice, x_append, x_appz, x_b2s, xop, ev, evs, evParts, fillL, cellsL, Ai.get, Ai.put, stab, isNil?, if_false, if_true, addr?, int?, str?, agg?, bool?, shiftA, FnPost, xresL, xres1, tup, argEnv, ptr, Nat.reduceEqDiff, reduceIte, beq_self_eq_true, ne_eq, Nat.reduceAdd, Nat.reduceMul, Nat.reduceSub, abin_shl, abin_shr, load1V, loadV, storeV, cellsAt, getN, setN, allocV, lenL, lenS, bnd, oneC, Value.oneCell', Nat.reduceLeDiff, Nat.reduceLT, exists_eq_left', forall_const, reduceCtorEq, app_new, app_new0, List.append_assoc, Int.reduceToNat, Int.reduceLT, Int.reduceLE, Int.reduceEq, Int.reduceNe, Int.reduceBEq, IntKind.bits, bne_self_eq_false, Int.reducePow, hR, hk, k1, hs, hl']
      exact ⟨K1, _, rfl, no _ fun h => hl h.2.2.1⟩
    · have k1 : (2 : Int) ≠ 1 := by decide
      have k2 : ¬ (2 : Int) ≠ 2 := by decide
      simp only [sx, x_box, x_alloc, x_bslice, x_slice, x_append, x_appz, x_b2s, xop, ev, evs, evParts, fillL, cellsL, Ai.get, Ai.put, stab, isNil?, if_false, if_true, addr?, int?, str?, agg?, bool?, shiftA, FnPost, xresL, xres1, tup, argEnv, ptr, Nat.reduceEqDiff, reduceIte, beq_self_eq_true, ne_eq, Nat.reduceAdd, Nat.reduceMul, Nat.reduceSub, abin_shl, abin_shr, load1V, loadV, storeV, cellsAt, getN, setN, allocV, lenL, lenS, bnd, oneC, Value.oneCell', Nat.reduceLeDiff, Nat.reduceLT, exists_eq_left', forall_const, reduceCtorEq, app_new, app_new0, List.append_assoc, Int.reduceToNat, Int.reduceLT, Int.reduceLE, Int.reduceEq, Int.reduceNe, Int.reduceBEq, IntKind.bits, bne_self_eq_false, Int.reducePow, hR, hk, k1, k2, hs, hl']
      exact ⟨K1, _, rfl, no _ fun h => hl h.2.2.1⟩
  have hl' : ¬ ((m.on.length : Nat) : Int) ≠ (m.mask.length : Nat) := by omega
  rcases hk with hk | hk
  rotate_left
  · have k1 : (2 : Int) ≠ 1 := by decide
    have k2 : ¬ (2 : Int) ≠ 2 := by decide
    by_cases hf : m.first = 0
    · by_cases h0 : (m.mask.length : Int) = 0
      · have hl0 : ¬ ((m.on.length : Nat) : Int) ≠ 0 := by omega
        simp only [sx, x_box, x_alloc, x_bslice, x_slice, x_append, x_appz, x_b2s, xop, ev, evs, evParts, fillL, cellsL, Ai.get, Ai.put, stab, isNil?, if_false, if_true, addr?, int?, str?, agg?, bool?, shiftA, FnPost, xresL, xres1, tup, argEnv, ptr, Nat.reduceEqDiff, reduceIte, beq_self_eq_true, ne_eq, Nat.reduceAdd, Nat.reduceMul, Nat.reduceSub, abin_shl, abin_shr, load1V, loadV, storeV, cellsAt, getN, setN, allocV, lenL, lenS, bnd, oneC, Value.oneCell', Nat.reduceLeDiff, Nat.reduceLT, exists_eq_left', forall_const, reduceCtorEq, app_new, app_new0, List.append_assoc, Int.reduceToNat, Int.reduceLT, Int.reduceLE, Int.reduceEq, Int.reduceNe, Int.reduceBEq, IntKind.bits, bne_self_eq_false, Int.reducePow, hR, hk, k1, k2, hs, hl0, hf, h0]
        exact ⟨K1, _, rfl, fun _ => ⟨.inr hk, hs, hl, .inl ⟨hk, hf, by omega⟩⟩, fun _ => rfl⟩
      · simp only [sx, x_box, x_alloc, x_bslice, x_slice, x_append, x_appz, x_b2s, xop, ev, evs, evParts, fillL, cellsL, Ai.get, Ai.put, stab, isNil?, if_false, if_true, addr?, int?, str?, agg?, bool?, shiftA, FnPost, xresL, xres1, tup, argEnv, ptr, Nat.reduceEqDiff, reduceIte, beq_self_eq_true, ne_eq, Nat.reduceAdd, Nat.reduceMul, Nat.reduceSub, abin_shl, abin_shr, load1V, loadV, storeV, cellsAt, getN, setN, allocV, lenL, lenS, bnd, oneC, Value.oneCell', Nat.reduceLeDiff, Nat.reduceLT, exists_eq_left', forall_const, reduceCtorEq, app_new, app_new0, List.append_assoc, Int.reduceToNat, Int.reduceLT, Int.reduceLE, Int.reduceEq, Int.reduceNe, Int.reduceBEq, IntKind.bits, bne_self_eq_false, Int.reducePow, hR, hk, k1, k2, hs, hl', hf, h0]
        refine ⟨K1, _, rfl, no _ ?_⟩
        rintro ⟨-, -, -, ⟨-, -, h⟩ | ⟨h, -⟩⟩ <;> omega
    · simp only [sx, x_box, x_alloc, x_bslice, x_slice, x_append, x_appz, x_b2s, xop, ev, evs, evParts, fillL, cellsL, Ai.get, Ai.put, stab, isNil?, if_false, if_true, addr?, int?, str?, agg?, bool?, shiftA, FnPost, xresL, xres1, tup, argEnv, ptr, Nat.reduceEqDiff, reduceIte, beq_self_eq_true, ne_eq, Nat.reduceAdd, Nat.reduceMul, Nat.reduceSub, abin_shl, abin_shr, load1V, loadV, storeV, cellsAt, getN, setN, allocV, lenL, lenS, bnd, oneC, Value.oneCell', Nat.reduceLeDiff, Nat.reduceLT, exists_eq_left', forall_const, reduceCtorEq, app_new, app_new0, List.append_assoc, Int.reduceToNat, Int.reduceLT, Int.reduceLE, Int.reduceEq, Int.reduceNe, Int.reduceBEq, IntKind.bits, bne_self_eq_false, Int.reducePow, hR, hk, k1, k2, hs, hl', hf]
      refine ⟨K1, _, rfl, no _ ?_⟩
      rintro ⟨-, -, -, ⟨-, h, -⟩ | ⟨h, -⟩⟩ <;> omega
  have k1 : ¬ (1 : Int) ≠ 1 := by decide
  have k2 : ¬ (1 : Int) = 2 := by decide
  have part : m.Ok → (1 ≤ m.mask.length ∧ m.mask.length ≤ 32 ∧ 0 ≤ m.first ∧ m.first + m.mask.length ≤ 256 ∧ m.mask[0]? = some true ∧ m.mask[m.mask.length - 1]? = some true ∧ ∀ i : Nat, m.on[i]? = some true → m.mask[i]? = some true) := by
    rintro ⟨-, -, -, ⟨h, -⟩ | ⟨-, h⟩⟩
    · omega
    · exact h
  by_cases h1 : (m.mask.length : Int) < 1
  · simp only [sx, x_box, x_alloc, x_bslice, x_slice, x_append, x_appz, x_b2s, xop, ev, evs, evParts, fillL, cellsL, Ai.get, Ai.put, stab, isNil?, if_false, if_true, addr?, int?, str?, agg?, bool?, shiftA, FnPost, xresL, xres1, tup, argEnv, ptr, Nat.reduceEqDiff, reduceIte, beq_self_eq_true, ne_eq, Nat.reduceAdd, Nat.reduceMul, Nat.reduceSub, abin_shl, abin_shr, load1V, loadV, storeV, cellsAt, getN, setN, allocV, lenL, lenS, bnd, oneC, Value.oneCell', Nat.reduceLeDiff, Nat.reduceLT, exists_eq_left', forall_const, reduceCtorEq, app_new, app_new0, List.append_assoc, Int.reduceToNat, Int.reduceLT, Int.reduceLE, Int.reduceEq, Int.reduceNe, Int.reduceBEq, IntKind.bits, bne_self_eq_false, Int.reducePow, hR, hk, k1, k2, hs, hl', h1]
    exact ⟨K1, _, rfl, no _ fun h => by have := (part h).1; omega⟩
  by_cases h2 : (32 : Int) < m.mask.length
  · simp only [sx, x_box, x_alloc, x_bslice, x_slice, x_append, x_appz, x_b2s, xop, ev, evs, evParts, fillL, cellsL, Ai.get, Ai.put, stab, isNil?, if_false, if_true, addr?, int?, str?, agg?, bool?, shiftA, FnPost, xresL, xres1, tup, argEnv, ptr, Nat.reduceEqDiff, reduceIte, beq_self_eq_true, ne_eq, Nat.reduceAdd, Nat.reduceMul, Nat.reduceSub, abin_shl, abin_shr, load1V, loadV, storeV, cellsAt, getN, setN, allocV, lenL, lenS, bnd, oneC, Value.oneCell', Nat.reduceLeDiff, Nat.reduceLT, exists_eq_left', forall_const, reduceCtorEq, app_new, app_new0, List.append_assoc, Int.reduceToNat, Int.reduceLT, Int.reduceLE, Int.reduceEq, Int.reduceNe, Int.reduceBEq, IntKind.bits, bne_self_eq_false, Int.reducePow, hR, hk, k1, k2, hs, hl', h1, h2]
    exact ⟨K1, _, rfl, no _ fun h => by have := (part h).2.1; omega⟩
  by_cases h3 : m.first < 0
  · simp only [sx, x_box, x_alloc, x_bslice, x_slice, x_append, x_appz, x_b2s, xop, ev, evs, evParts, fillL, cellsL, Ai.get, Ai.put, stab, isNil?, if_false, if_true, addr?, int?, str?, agg?, bool?, shiftA, FnPost, xresL, xres1, tup, argEnv, ptr, Nat.reduceEqDiff, reduceIte, beq_self_eq_true, ne_eq, Nat.reduceAdd, Nat.reduceMul, Nat.reduceSub, abin_shl, abin_shr, load1V, loadV, storeV, cellsAt, getN, setN, allocV, lenL, lenS, bnd, oneC, Value.oneCell', Nat.reduceLeDiff, Nat.reduceLT, exists_eq_left', forall_const, reduceCtorEq, app_new, app_new0, List.append_assoc, Int.reduceToNat, Int.reduceLT, Int.reduceLE, Int.reduceEq, Int.reduceNe, Int.reduceBEq, IntKind.bits, bne_self_eq_false, Int.reducePow, hR, hk, k1, k2, hs, hl', h1, h2, h3]
    exact ⟨K1, _, rfl, no _ fun h => by have := (part h).2.2.1; omega⟩
  have hw : IntKind.i64.wrap (256 - (m.mask.length : Int)) = 256 - (m.mask.length : Int) := i64_wrap (by omega) (by omega)
  by_cases h4 : 256 - (m.mask.length : Int) < m.first
  · simp only [sx, x_box, x_alloc, x_bslice, x_slice, x_append, x_appz, x_b2s, xop, ev, evs, evParts, fillL, cellsL, Ai.get, Ai.put, stab, isNil?, if_false, if_true, addr?, int?, str?, agg?, bool?, shiftA, FnPost, xresL, xres1, tup, argEnv, ptr, Nat.reduceEqDiff, reduceIte, beq_self_eq_true, ne_eq, Nat.reduceAdd, Nat.reduceMul, Nat.reduceSub, abin_shl, abin_shr, load1V, loadV, storeV, cellsAt, getN, setN, allocV, lenL, lenS, bnd, oneC, Value.oneCell', Nat.reduceLeDiff, Nat.reduceLT, exists_eq_left', forall_const, reduceCtorEq, app_new, app_new0, List.append_assoc, Int.reduceToNat, Int.reduceLT, Int.reduceLE, Int.reduceEq, Int.reduceNe, Int.reduceBEq, IntKind.bits, bne_self_eq_false, Int.reducePow, hR, hk, k1, k2, hs, hl', h1, h2, h3, hw, h4]
    exact ⟨K1, _, rfl, no _ fun h => by have := (part h).2.2.2.1; omega⟩
  have e0 := List.getElem?_eq_getElem (l := m.mask) (i := 0) (by omega)
  have e1 := List.getElem?_eq_getElem (l := m.mask) (i := m.mask.length - 1) (by omega)
  generalize hb0 : m.mask[0]'(by omega) = b0 at e0
  generalize hb1 : m.mask[m.mask.length - 1]'(by omega) = b1 at e1
  obtain ⟨-, a, cs, rfl, a1, a2, a3⟩ := M1.elem e0
  obtain ⟨-, a', cs', ha', -, a2', a4⟩ := M1.elem e1
  cases ha'
  rw [a2] at a2'; cases a2'
  rw [Nat.add_zero] at a3
  have hp : (0 : Int) < m.mask.length := by omega
  have hi1 : IntKind.i64.wrap ((m.mask.length : Int) - 1) = ((m.mask.length - 1 : Nat) : Int) := by rw [i64_wrap] <;> omega
  have hq0 : (0 : Int) ≤ ((m.mask.length - 1 : Nat) : Int) := by omega
  have hq1 : ((m.mask.length - 1 : Nat) : Int) < m.mask.length := by omega
  have i00 : (0 : Int) ≤ 0 := by decide
  have t0 : (0 : Int).toNat = 0 := rfl
  cases b0
  · simp only [sx, x_box, x_alloc, x_bslice, x_slice, x_append, x_appz, x_b2s, xop, ev, evs, evParts, fillL, cellsL, Ai.get, Ai.put, stab, isNil?, if_false, if_true, addr?, int?, str?, agg?, bool?, shiftA, FnPost, xresL, xres1, tup, argEnv, ptr, Nat.reduceEqDiff, reduceIte, beq_self_eq_true, ne_eq, Nat.reduceAdd, Nat.reduceMul, Nat.reduceSub, abin_shl, abin_shr, load1V, loadV, storeV, cellsAt, getN, setN, allocV, lenL, lenS, bnd, oneC, Value.oneCell', Nat.reduceLeDiff, Nat.reduceLT, exists_eq_left', forall_const, reduceCtorEq, app_new, app_new0, List.append_assoc, Int.reduceToNat, Int.reduceLT, Int.reduceLE, Int.reduceEq, Int.reduceNe, Int.reduceBEq, IntKind.bits, bne_self_eq_false, Int.reducePow, hR, hk, k1, k2, hs, hl', h1, h2, h3, hw, h4, hp, i00, t0, a1, a2, a3, Nat.zero_mul, Nat.mul_one]
    exact ⟨K1, _, rfl, no _ fun h => by have := (part h).2.2.2.2.1; rw [e0] at this; cases this⟩
  cases b1
  · simp only [sx, x_box, x_alloc, x_bslice, x_slice, x_append, x_appz, x_b2s, xop, ev, evs, evParts, fillL, cellsL, Ai.get, Ai.put, stab, isNil?, if_false, if_true, addr?, int?, str?, agg?, bool?, shiftA, FnPost, xresL, xres1, tup, argEnv, ptr, Nat.reduceEqDiff, reduceIte, beq_self_eq_true, ne_eq, Nat.reduceAdd, Nat.reduceMul, Nat.reduceSub, abin_shl, abin_shr, load1V, loadV, storeV, cellsAt, getN, setN, allocV, lenL, lenS, bnd, oneC, Value.oneCell', Nat.reduceLeDiff, Nat.reduceLT, exists_eq_left', forall_const, reduceCtorEq, app_new, app_new0, List.append_assoc, Int.reduceToNat, Int.reduceLT, Int.reduceLE, Int.reduceEq, Int.reduceNe, Int.reduceBEq, IntKind.bits, bne_self_eq_false, Int.reducePow, hR, hk, k1, k2, hs, hl', h1, h2, h3, hw, h4, hp, i00, t0, a1, a2, a3, a4, hi1, hq0, hq1, Nat.zero_mul, Nat.mul_one]
    exact ⟨K1, _, rfl, no _ fun h => by have := (part h).2.2.2.2.2.1; rw [e1] at this; cases this⟩
  simp only [sx, x_box, x_alloc, x_bslice, x_slice, x_append, x_appz, x_b2s, xop, ev, evs, evParts, fillL, cellsL, Ai.get, Ai.put, stab, isNil?, if_false, if_true, addr?, int?, str?, agg?, bool?, shiftA, FnPost, xresL, xres1, tup, argEnv, ptr, Nat.reduceEqDiff, reduceIte, beq_self_eq_true, ne_eq, Nat.reduceAdd, Nat.reduceMul, Nat.reduceSub, abin_shl, abin_shr, load1V, loadV, storeV, cellsAt, getN, setN, allocV, lenL, lenS, bnd, oneC, Value.oneCell', Nat.reduceLeDiff, Nat.reduceLT, exists_eq_left', forall_const, reduceCtorEq, app_new, app_new0, List.append_assoc, Int.reduceToNat, Int.reduceLT, Int.reduceLE, Int.reduceEq, Int.reduceNe, Int.reduceBEq, IntKind.bits, bne_self_eq_false, Int.reducePow, hR, hk, k1, k2, hs, hl', h1, h2, h3, hw, h4, hp, i00, t0, a1, a2, a3, a4, hi1, hq0, hq1, Nat.zero_mul, Nat.mul_one]
  refine xcode_loop (VaI g1 R oq oc m) m.on.length ⟨0, by omega, rfl, rfl, rfl, rfl, rfl, fun j hj => by omega⟩ ?_
  rintro f ρ h' ⟨i, hif, g75, g74, g73, gg1, rfl, hall⟩
  by_cases hlt : i < m.on.length
  · have hlt' : (i : Int) < m.on.length := by omega
    have hlm : (i : Int) < m.mask.length := by omega
    have hge : (0 : Int) ≤ i := by omega
    have hwi : IntKind.i64.wrap ((i : Int) + 1) = ((i + 1 : Nat) : Int) := by rw [i64_wrap] <;> omega
    have eo := List.getElem?_eq_getElem (l := m.on) hlt
    have em := List.getElem?_eq_getElem (l := m.mask) (i := i) (by omega)
    generalize m.on[i] = x at eo
    generalize m.mask[i]'(by omega) = y at em
    obtain ⟨-, b, cs2, rfl, b1, b2, b3⟩ := O1.elem eo
    obtain ⟨-, b', cs3, hb', -, b2', b4⟩ := M1.elem em
    cases hb'
    rw [a2] at b2'; cases b2'
    cases x
    · simp only [sx, x_box, x_alloc, x_bslice, x_slice, x_append, x_appz, x_b2s, xop, ev, evs, evParts, fillL, cellsL, Ai.get, Ai.put, stab, isNil?, if_false, if_true, addr?, int?, str?, agg?, bool?, shiftA, FnPost, xresL, xres1, tup, argEnv, ptr, Nat.reduceEqDiff, reduceIte, beq_self_eq_true, ne_eq, Nat.reduceAdd, Nat.reduceMul, Nat.reduceSub, abin_shl, abin_shr, load1V, loadV, storeV, cellsAt, getN, setN, allocV, lenL, lenS, bnd, oneC, Value.oneCell', Nat.reduceLeDiff, Nat.reduceLT, exists_eq_left', forall_const, reduceCtorEq, app_new, app_new0, List.append_assoc, Int.reduceToNat, Int.reduceLT, Int.reduceLE, Int.reduceEq, Int.reduceNe, Int.reduceBEq, IntKind.bits, bne_self_eq_false, Int.reducePow, g75, g74, g73, gg1, hlt', hlm, hge, hR, a1, a2, b1, b2, b3, b4, Nat.mul_one, hwi]
      refine ⟨f - 1, by omega, i + 1, by omega, rfl, g74, g73, gg1, rfl, fun j hj ho => ?_⟩
      by_cases e : j = i
      · subst e; rw [eo] at ho; cases ho
      · exact hall j (by omega) ho
    · cases y
      · simp only [sx, x_box, x_alloc, x_bslice, x_slice, x_append, x_appz, x_b2s, xop, ev, evs, evParts, fillL, cellsL, Ai.get, Ai.put, stab, isNil?, if_false, if_true, addr?, int?, str?, agg?, bool?, shiftA, FnPost, xresL, xres1, tup, argEnv, ptr, Nat.reduceEqDiff, reduceIte, beq_self_eq_true, ne_eq, Nat.reduceAdd, Nat.reduceMul, Nat.reduceSub, abin_shl, abin_shr, load1V, loadV, storeV, cellsAt, getN, setN, allocV, lenL, lenS, bnd, oneC, Value.oneCell', Nat.reduceLeDiff, Nat.reduceLT, exists_eq_left', forall_const, reduceCtorEq, app_new, app_new0, List.append_assoc, Int.reduceToNat, Int.reduceLT, Int.reduceLE, Int.reduceEq, Int.reduceNe, Int.reduceBEq, IntKind.bits, bne_self_eq_false, Int.reducePow, g75, g74, g73, gg1, hlt', hlm, hge, hR, a1, a2, b1, b2, b3, b4, Nat.mul_one, hwi]
        refine ⟨K1, _, rfl, no _ fun h => ?_⟩
        have := (part h).2.2.2.2.2.2 i eo
        rw [em] at this; cases this
      · simp only [sx, x_box, x_alloc, x_bslice, x_slice, x_append, x_appz, x_b2s, xop, ev, evs, evParts, fillL, cellsL, Ai.get, Ai.put, stab, isNil?, if_false, if_true, addr?, int?, str?, agg?, bool?, shiftA, FnPost, xresL, xres1, tup, argEnv, ptr, Nat.reduceEqDiff, reduceIte, beq_self_eq_true, ne_eq, Nat.reduceAdd, Nat.reduceMul, Nat.reduceSub, abin_shl, abin_shr, load1V, loadV, storeV, cellsAt, getN, setN, allocV, lenL, lenS, bnd, oneC, Value.oneCell', Nat.reduceLeDiff, Nat.reduceLT, exists_eq_left', forall_const, reduceCtorEq, app_new, app_new0, List.append_assoc, Int.reduceToNat, Int.reduceLT, Int.reduceLE, Int.reduceEq, Int.reduceNe, Int.reduceBEq, IntKind.bits, bne_self_eq_false, Int.reducePow, g75, g74, g73, gg1, hlt', hlm, hge, hR, a1, a2, b1, b2, b3, b4, Nat.mul_one, hwi]
        refine ⟨f - 1, by omega, i + 1, by omega, rfl, g74, g73, gg1, rfl, fun j hj ho => ?_⟩
        by_cases e : j = i
        · subst e; exact em
        · exact hall j (by omega) ho
  · have hlt' : ¬ (i : Int) < m.on.length := by omega
    simp only [sx, x_box, x_alloc, x_bslice, x_slice, x_append, x_appz, x_b2s, xop, ev, evs, evParts, fillL, cellsL, Ai.get, Ai.put, stab, isNil?, if_false, if_true, addr?, int?, str?, agg?, bool?, shiftA, FnPost, xresL, xres1, tup, argEnv, ptr, Nat.reduceEqDiff, reduceIte, beq_self_eq_true, ne_eq, Nat.reduceAdd, Nat.reduceMul, Nat.reduceSub, abin_shl, abin_shr, load1V, loadV, storeV, cellsAt, getN, setN, allocV, lenL, lenS, bnd, oneC, Value.oneCell', Nat.reduceLeDiff, Nat.reduceLT, exists_eq_left', forall_const, reduceCtorEq, app_new, app_new0, List.append_assoc, Int.reduceToNat, Int.reduceLT, Int.reduceLE, Int.reduceEq, Int.reduceNe, Int.reduceBEq, IntKind.bits, bne_self_eq_false, Int.reducePow, g75, g74, g73, gg1, hlt']
    refine ⟨K1, _, rfl, fun _ => ⟨.inl hk, hs, hl, .inr ⟨hk, by omega, by omega, by omega, by omega, e0, e1, fun j ho => ?_⟩⟩, fun _ => rfl⟩
    exact hall j (by have := (List.getElem?_eq_some_iff.1 ho).1; omega) ho
end Go.Proofs.Ytejgaeinkojgpaa
