import Derived.Test.YtjpjnidgcmkdbaaT4
import Derived.Test.YtjpjnidgcmkdbaaAiY
set_option linter.unusedVariables false
set_option linter.unusedSimpArgs false
namespace Go.Proofs.Ytjpjnidgcmkdbaa
open Go Go.Ai Go.Proofs

def bad (many w p m : Int) : Prop := many < 1 ∨ w < 1 ∨ p < 1 ∨ m < 1
theorem rows_idle (n : Nat) : (List.replicate n [Value.int .u8 0, .int .i64 0, .int .i64 0, .bool false]).flatten = rowsC (List.replicate n ⟨0, 0, 0, false⟩) := by
  induction n with
  | zero => rfl
  | succ n ih => simp only [List.replicate_succ, List.flatten_cons, rowsC, List.flatMap_cons] at ih ⊢; rw [ih]; rfl

theorem new_bad {h : AHeap} {many w p m : Int} (hb : bad many w p m) : Valid Try.prog 8 [.int .i64 many, .agg #[.int .i64 w, .int .i64 p, .int .i64 m]] h fun r h' => r = .tuple #[.pointer none, .int .i64 1] ∧ ∃ J, h' = h ++ J := by
  refine v8 (by simp) ?_
  by_cases h1 : many < 1
  · simp [X8, sx, x_box, x_alloc, x_bslice, x_slice, x_append, x_b2s, xop, ev, evs, evParts, fillL, cellsL, Ai.get, Ai.put, stab, isNil?, if_false, if_true, addr?, int?, str?, agg?, bool?, shiftA, FnPost, xresL, xres1, tup, argEnv, ptr, Nat.reduceEqDiff, reduceIte, beq_self_eq_true, ne_eq, Nat.reduceAdd, Nat.reduceMul, Nat.reduceSub, abin_shl, abin_shr, load1V, loadV, storeV, cellsAt, getN, setN, allocV, lenL, lenS, bnd, oneC, Value.oneCell', Nat.reduceLeDiff, Nat.reduceLT, exists_eq_left', forall_const, reduceCtorEq, app_new, app_new0, List.append_assoc, Int.reduceToNat, Int.reduceLT, Int.reduceLE, Int.reduceEq, Int.reduceNe, Int.reduceBEq, IntKind.bits, bne_self_eq_false, Int.reducePow, h1]
  · by_cases h2 : w < 1
    · simp [X8, sx, x_box, x_alloc, x_bslice, x_slice, x_append, x_b2s, xop, ev, evs, evParts, fillL, cellsL, Ai.get, Ai.put, stab, isNil?, if_false, if_true, addr?, int?, str?, agg?, bool?, shiftA, FnPost, xresL, xres1, tup, argEnv, ptr, Nat.reduceEqDiff, reduceIte, beq_self_eq_true, ne_eq, Nat.reduceAdd, Nat.reduceMul, Nat.reduceSub, abin_shl, abin_shr, load1V, loadV, storeV, cellsAt, getN, setN, allocV, lenL, lenS, bnd, oneC, Value.oneCell', Nat.reduceLeDiff, Nat.reduceLT, exists_eq_left', forall_const, reduceCtorEq, app_new, app_new0, List.append_assoc, Int.reduceToNat, Int.reduceLT, Int.reduceLE, Int.reduceEq, Int.reduceNe, Int.reduceBEq, IntKind.bits, bne_self_eq_false, Int.reducePow, h1, h2]
    · by_cases h3 : p < 1
      · simp [X8, sx, x_box, x_alloc, x_bslice, x_slice, x_append, x_b2s, xop, ev, evs, evParts, fillL, cellsL, Ai.get, Ai.put, stab, isNil?, if_false, if_true, addr?, int?, str?, agg?, bool?, shiftA, FnPost, xresL, xres1, tup, argEnv, ptr, Nat.reduceEqDiff, reduceIte, beq_self_eq_true, ne_eq, Nat.reduceAdd, Nat.reduceMul, Nat.reduceSub, abin_shl, abin_shr, load1V, loadV, storeV, cellsAt, getN, setN, allocV, lenL, lenS, bnd, oneC, Value.oneCell', Nat.reduceLeDiff, Nat.reduceLT, exists_eq_left', forall_const, reduceCtorEq, app_new, app_new0, List.append_assoc, Int.reduceToNat, Int.reduceLT, Int.reduceLE, Int.reduceEq, Int.reduceNe, Int.reduceBEq, IntKind.bits, bne_self_eq_false, Int.reducePow, h1, h2, h3]
      · have h4 : m < 1 := by rcases hb with h | h | h | h <;> first | omega | exact h
        simp [X8, sx, x_box, x_alloc, x_bslice, x_slice, x_append, x_b2s, xop, ev, evs, evParts, fillL, cellsL, Ai.get, Ai.put, stab, isNil?, if_false, if_true, addr?, int?, str?, agg?, bool?, shiftA, FnPost, xresL, xres1, tup, argEnv, ptr, Nat.reduceEqDiff, reduceIte, beq_self_eq_true, ne_eq, Nat.reduceAdd, Nat.reduceMul, Nat.reduceSub, abin_shl, abin_shr, load1V, loadV, storeV, cellsAt, getN, setN, allocV, lenL, lenS, bnd, oneC, Value.oneCell', Nat.reduceLeDiff, Nat.reduceLT, exists_eq_left', forall_const, reduceCtorEq, app_new, app_new0, List.append_assoc, Int.reduceToNat, Int.reduceLT, Int.reduceLE, Int.reduceEq, Int.reduceNe, Int.reduceBEq, IntKind.bits, bne_self_eq_false, Int.reducePow, h1, h2, h3, h4]
theorem new_much {h : AHeap} {many w p m : Int} (hb : ¬ bad many w p m) (hm : 256 < many) : Valid Try.prog 8 [.int .i64 many, .agg #[.int .i64 w, .int .i64 p, .int .i64 m]] h fun r h' => r = .tuple #[.pointer none, .int .i64 3] ∧ ∃ J, h' = h ++ J := by
  refine v8 (by simp) ?_
  unfold bad at hb
  have h1 : ¬ many < 1 := by omega
  have h2 : ¬ w < 1 := by omega
  have h3 : ¬ p < 1 := by omega
  have h4 : ¬ m < 1 := by omega
  simp [X8, sx, x_box, x_alloc, x_bslice, x_slice, x_append, x_b2s, xop, ev, evs, evParts, fillL, cellsL, Ai.get, Ai.put, stab, isNil?, if_false, if_true, addr?, int?, str?, agg?, bool?, shiftA, FnPost, xresL, xres1, tup, argEnv, ptr, Nat.reduceEqDiff, reduceIte, beq_self_eq_true, ne_eq, Nat.reduceAdd, Nat.reduceMul, Nat.reduceSub, abin_shl, abin_shr, load1V, loadV, storeV, cellsAt, getN, setN, allocV, lenL, lenS, bnd, oneC, Value.oneCell', Nat.reduceLeDiff, Nat.reduceLT, exists_eq_left', forall_const, reduceCtorEq, app_new, app_new0, List.append_assoc, Int.reduceToNat, Int.reduceLT, Int.reduceLE, Int.reduceEq, Int.reduceNe, Int.reduceBEq, IntKind.bits, bne_self_eq_false, Int.reducePow, h1, h2, h3, h4, hm]
theorem new_ok {h : AHeap} {many w p m : Int} (hb : ¬ bad many w p m) (hm : ¬ 256 < many) : Valid Try.prog 8 [.int .i64 many, .agg #[.int .i64 w, .int .i64 p, .int .i64 m]] h fun r h' => r = .tuple #[ptr (h.length + 2) 0, .int .i64 0] ∧ (∃ J, h' = h ++ J) ∧
    EndAt h' (h.length + 2) (h.length + 1) w p m (List.replicate many.toNat ⟨0, 0, 0, false⟩) (.slice none 0 0) [] := by
  refine v8 (by simp) ?_
  unfold bad at hb
  have h1 : ¬ many < 1 := by omega
  have h2 : ¬ w < 1 := by omega
  have h3 : ¬ p < 1 := by omega
  have h4 : ¬ m < 1 := by omega
  have h5 : 0 ≤ many := by omega
  have h6 : many * 32 ≤ 140737488355328 := by omega
  have h7 : many ≤ 9223372036854775807 := by omega
  simp only [X8, sx, x_box, x_alloc, x_bslice, x_slice, x_append, x_b2s, xop, ev, evs, evParts, fillL, cellsL, Ai.get, Ai.put, stab, isNil?, if_false, if_true, addr?, int?, str?, agg?, bool?, shiftA, FnPost, xresL, xres1, tup, argEnv, ptr, Nat.reduceEqDiff, reduceIte, beq_self_eq_true, ne_eq, Nat.reduceAdd, Nat.reduceMul, Nat.reduceSub, abin_shl, abin_shr, load1V, loadV, storeV, cellsAt, getN, setN, allocV, lenL, lenS, bnd, oneC, Value.oneCell', Nat.reduceLeDiff, Nat.reduceLT, exists_eq_left', forall_const, reduceCtorEq, app_new, app_new0, List.append_assoc, Int.reduceToNat, Int.reduceLT, Int.reduceLE, Int.reduceEq, Int.reduceNe, Int.reduceBEq, IntKind.bits, bne_self_eq_false, Int.reducePow, h1, h2, h3, h4, h5, h6, h7, hm, Int.le_refl]
  refine ⟨⟨_, rfl⟩, ⟨?_, ?_, ⟨rfl, .inl ⟨rfl, rfl⟩⟩, by omega, by simp [slB], by simp [slB], by simp [slB], by simp; omega, by simp; omega⟩⟩
  · rw [app_new]; simp [endC]
  · rw [app_new, rows_idle]; rfl
end Go.Proofs.Ytjpjnidgcmkdbaa
