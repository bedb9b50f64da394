import Derived.Test.YtjpjnidgcmkdbaaT2
set_option linter.unusedVariables false
set_option linter.unusedSimpArgs false
namespace Go.Proofs.Ytjpjnidgcmkdbaa
open Go Go.Ai Go.Proofs

/-- one cell of a circuit is written -/
theorem EndAt.store {h : AHeap} {X L : Nat} {w p m : Int} {cs : List Cir} {sl : Value} {ms : List Msg} {i j : Nat} {c e : Cir} {v : Value} (E : EndAt h X L w p m cs sl ms) (hc : cs[i]? = some c) (hj : j < 4) (he : e.cells = c.cells.set j v) :
    EndAt (h.set L (some ⟨true, (rowsC cs).set (i * 4 + j) v⟩)) X L w p m (cs.set i e) sl ms ∧ ∀ B, B ≠ L → (h.set L (some ⟨true, (rowsC cs).set (i * 4 + j) v⟩))[B]? = h[B]? := by
  have hlt := (List.getElem?_eq_some_iff.1 hc).1
  have hfr : ∀ B, B ≠ L → (h.set L (some ⟨true, (rowsC cs).set (i * 4 + j) v⟩))[B]? = h[B]? := fun B hB => set_ne (Ne.symm hB) _
  refine ⟨⟨?_, ?_, E.out.keep fun A x hA hx => ?_, E.ne, E.n1, E.n2, fun A hA => by simpa using E.n3 A hA, by simpa using E.pos, by simpa using E.big⟩, hfr⟩
  · rw [hfr _ E.ne]; simpa using E.obj
  · rw [set_same E.row]
    refine congrArg (fun l => some (some (AObj.mk true l))) (rowsC_set (c := c) _ hc (by simp [rowsC_len]) ?_ ?_)
    · intro k hk
      rw [he, List.getElem?_set, List.getElem?_set]
      have h4 : i * 4 + 3 < (rowsC cs).length := by rw [rowsC_len]; omega
      have h5 : c.cells.length = 4 := rfl
      by_cases hjk : j = k
      · subst hjk; simp; rw [if_pos (by omega), if_pos (by omega)]
      · rw [if_neg (by omega), if_neg hjk, rowsC_get k hk hc]
    · intro k hk
      rw [List.getElem?_set_ne (by omega)]
  · rw [hfr _ (fun e => E.n2 (by rw [← e]; exact hA))]; exact hx

/-- what changes besides an end -/
def FrE (h h' : AHeap) (X L : Nat) (sl : Value) : Prop := h.length ≤ h'.length ∧ ∀ B, B < h.length → B ≠ X → B ≠ L → slB sl ≠ some B → h'[B]? = h[B]?
def Grew (h : AHeap) (sl sl' : Value) : Prop := sl' = sl ∨ ∃ A, slB sl' = some A ∧ h.length ≤ A
theorem FrE.trans {h h1 h2 : AHeap} {X L : Nat} {sl sl' : Value} (a : FrE h h1 X L sl) (g : Grew h sl sl') (b : FrE h1 h2 X L sl') : FrE h h2 X L sl :=
  ⟨Nat.le_trans a.1 b.1, fun B hB h1 h2 h3 => by
    rw [b.2 B (Nat.lt_of_lt_of_le hB a.1) h1 h2 (fun e => by
      rcases g with rfl | ⟨A, hA, hl⟩
      · exact h3 e
      · rw [hA] at e; cases e; omega), a.2 B hB h1 h2 h3]⟩
theorem Grew.trans {h h1 : AHeap} {sl sl1 sl2 : Value} (a : Grew h sl sl1) (hl : h.length ≤ h1.length) (b : Grew h1 sl1 sl2) : Grew h sl sl2 := by
  rcases b with rfl | ⟨A, hA, hl2⟩
  · exact a
  · exact .inr ⟨A, hA, by omega⟩

theorem toNat_get {cs : List Cir} {k : Int} (h0 : 0 ≤ k) (h1 : k < cs.length) : ∃ c, cs[k.toNat]? = some c := ⟨cs[k.toNat]'(by omega), List.getElem?_eq_getElem (by omega)⟩

set_option maxHeartbeats 1000000 in
theorem try_ok {h : AHeap} {X L : Nat} {w p m : Int} {cs : List Cir} {sl : Value} {ms : List Msg} {k : Int} {c : Cir} (E : EndAt h X L w p m cs sl ms) (h0 : 0 ≤ k) (h1 : k < cs.length) (hc : cs[k.toNat]? = some c) (hn : ms.length < 65536) :
    Valid Try.prog 21 [ptr X 0, .int .i64 k] h fun r h' => ∃ sl', EndAt h' X L w p m (cs.set k.toNat ⟨1, 0, IntKind.i64.wrap (c.tries + 1), c.lp⟩) sl' (ms ++ [⟨1, k, false⟩]) ∧ FrE h h' X L sl ∧ Grew h sl sl' := by
  refine v21 (by simp) ?_
  have hX := E.obj
  have hL := E.row
  have hlt := (List.getElem?_eq_some_iff.1 hc).1
  have g2 : (rowsC cs)[k.toNat * 4 + 2]? = some (.int .i64 c.tries) := by rw [rowsC_get 2 (by omega) hc]; rfl
  have hlen : k.toNat * 4 + 2 + 1 ≤ (rowsC cs).length := by rw [rowsC_len]; omega
  obtain ⟨E1, f1⟩ := E.store (j := 2) (e := ⟨c.st, c.age, IntKind.i64.wrap (c.tries + 1), c.lp⟩) (v := .int .i64 (IntKind.i64.wrap (c.tries + 1))) hc (by omega) rfl
  unfold endC at hX
  simp only [X21, sx, x_box, x_alloc, x_bslice, x_slice, x_append, x_b2s, xop, ev, evs, evParts, fillL, cellsL, Ai.get, Ai.put, stab, isNil?, if_false, if_true, addr?, int?, str?, agg?, bool?, shiftA, FnPost, xresL, xres1, tup, argEnv, ptr, Nat.reduceEqDiff, reduceIte, beq_self_eq_true, ne_eq, Nat.reduceAdd, Nat.reduceMul, Nat.reduceSub, abin_shl, abin_shr, load1V, loadV, storeV, cellsAt, getN, setN, allocV, lenL, lenS, bnd, oneC, Value.oneCell', Nat.reduceLeDiff, Nat.reduceLT, exists_eq_left', forall_const, reduceCtorEq, app_new, app_new0, List.append_assoc, Int.reduceToNat, Int.reduceLT, Int.reduceLE, Int.reduceEq, Int.reduceNe, Int.reduceBEq, IntKind.bits, bne_self_eq_false, Int.reducePow, hX, h0, h1, hL, g2, hlen]
  refine xcall (enter_cir (i := k.toNat) (s := 1) E1 (by rw [List.getElem?_set_self hlt])) (by rfl) (by rfl) (by rfl) (by rfl) ?_
  rintro v h2 ⟨E2, l2, f2⟩
  rw [List.set_set] at E2
  simp only [sx, x_box, x_alloc, x_bslice, x_slice, x_append, x_b2s, xop, ev, evs, evParts, fillL, cellsL, Ai.get, Ai.put, stab, isNil?, if_false, if_true, addr?, int?, str?, agg?, bool?, shiftA, FnPost, xresL, xres1, tup, argEnv, ptr, Nat.reduceEqDiff, reduceIte, beq_self_eq_true, ne_eq, Nat.reduceAdd, Nat.reduceMul, Nat.reduceSub, abin_shl, abin_shr, load1V, loadV, storeV, cellsAt, getN, setN, allocV, lenL, lenS, bnd, oneC, Value.oneCell', Nat.reduceLeDiff, Nat.reduceLT, exists_eq_left', forall_const, reduceCtorEq, app_new, app_new0, List.append_assoc, Int.reduceToNat, Int.reduceLT, Int.reduceLE, Int.reduceEq, Int.reduceNe, Int.reduceBEq, IntKind.bits, bne_self_eq_false, Int.reducePow]
  refine xcall (send_ok E2 hn) (by rfl) (by rfl) (by rfl) (by rfl) ?_
  rintro v h3 ⟨sl', E3, g3, l3, f3⟩
  simp only [sx, x_box, x_alloc, x_bslice, x_slice, x_append, x_b2s, xop, ev, evs, evParts, fillL, cellsL, Ai.get, Ai.put, stab, isNil?, if_false, if_true, addr?, int?, str?, agg?, bool?, shiftA, FnPost, xresL, xres1, tup, argEnv, ptr, Nat.reduceEqDiff, reduceIte, beq_self_eq_true, ne_eq, Nat.reduceAdd, Nat.reduceMul, Nat.reduceSub, abin_shl, abin_shr, load1V, loadV, storeV, cellsAt, getN, setN, allocV, lenL, lenS, bnd, oneC, Value.oneCell', Nat.reduceLeDiff, Nat.reduceLT, exists_eq_left', forall_const, reduceCtorEq, app_new, app_new0, List.append_assoc, Int.reduceToNat, Int.reduceLT, Int.reduceLE, Int.reduceEq, Int.reduceNe, Int.reduceBEq, IntKind.bits, bne_self_eq_false, Int.reducePow]
  refine ⟨sl', E3, ⟨by simp at l2; omega, fun B hB b1 b2 b3 => ?_⟩, ?_⟩
  · simp at l2
    rw [f3 B (by omega) b1 b3, f2 B b2, f1 B b2]
  · obtain ⟨A, e, hl⟩ := g3
    simp at l2
    exact .inr ⟨A, e, by omega⟩

/-- begins a test? -/
def Cir.busy (c : Cir) : Prop := (1 ≤ c.st ∧ c.st ≤ 3) ∨ c.lp = true
theorem running_ok {h : AHeap} {X L : Nat} {w p m : Int} {cs : List Cir} {sl : Value} {ms : List Msg} {i : Nat} {c : Cir} (E : EndAt h X L w p m cs sl ms) (hc : cs[i]? = some c) :
    Valid Try.prog 20 [.pointer (some ⟨L, i * 4, none⟩)] h fun r h' => r = .bool (decide (1 ≤ c.st ∧ c.st ≤ 3)) ∧ h' = h := by
  refine v20 (by simp) ?_
  have hL := E.row
  have g0 : (rowsC cs)[i * 4]? = some (.int .u8 c.st) := by have := rowsC_get 0 (by omega) hc; rw [Nat.add_zero] at this; rw [this]; rfl
  by_cases h1 : 1 ≤ c.st
  · by_cases h2 : c.st ≤ 3 <;> simp [X20, sx, x_box, x_alloc, x_bslice, x_slice, x_append, x_b2s, xop, ev, evs, evParts, fillL, cellsL, Ai.get, Ai.put, stab, isNil?, if_false, if_true, addr?, int?, str?, agg?, bool?, shiftA, FnPost, xresL, xres1, tup, argEnv, ptr, Nat.reduceEqDiff, reduceIte, beq_self_eq_true, ne_eq, Nat.reduceAdd, Nat.reduceMul, Nat.reduceSub, abin_shl, abin_shr, load1V, loadV, storeV, cellsAt, getN, setN, allocV, lenL, lenS, bnd, oneC, Value.oneCell', Nat.reduceLeDiff, Nat.reduceLT, exists_eq_left', forall_const, reduceCtorEq, app_new, app_new0, List.append_assoc, Int.reduceToNat, Int.reduceLT, Int.reduceLE, Int.reduceEq, Int.reduceNe, Int.reduceBEq, IntKind.bits, bne_self_eq_false, Int.reducePow, hL, g0, h1, h2]
  · simp [X20, sx, x_box, x_alloc, x_bslice, x_slice, x_append, x_b2s, xop, ev, evs, evParts, fillL, cellsL, Ai.get, Ai.put, stab, isNil?, if_false, if_true, addr?, int?, str?, agg?, bool?, shiftA, FnPost, xresL, xres1, tup, argEnv, ptr, Nat.reduceEqDiff, reduceIte, beq_self_eq_true, ne_eq, Nat.reduceAdd, Nat.reduceMul, Nat.reduceSub, abin_shl, abin_shr, load1V, loadV, storeV, cellsAt, getN, setN, allocV, lenL, lenS, bnd, oneC, Value.oneCell', Nat.reduceLeDiff, Nat.reduceLT, exists_eq_left', forall_const, reduceCtorEq, app_new, app_new0, List.append_assoc, Int.reduceToNat, Int.reduceLT, Int.reduceLE, Int.reduceEq, Int.reduceNe, Int.reduceBEq, IntKind.bits, bne_self_eq_false, Int.reducePow, hL, g0, h1]
end Go.Proofs.Ytjpjnidgcmkdbaa
