import Derived.Test.YtemphcppnjlkcaaRun
import Derived.Test.YtemphcppnjlkcaaAiZ
set_option linter.unusedVariables false
set_option linter.unusedSimpArgs false
namespace Go.Proofs.Ytemphcppnjlkcaa
open Go Go.Ai Go.Proofs

/-- a text's stream -/
theorem stream_ok {h : AHeap} {s : ByteArray} (hs : s.size ≤ 1048576) : Valid Try.prog 12 [.string s] h fun r h' => r = .slice (some ⟨h.length, 0, none⟩) s.size s.size ∧ h' = h ++ [some ⟨true, bR (streamOf s)⟩] := by
  refine v12 (by simp) ?_
  have h1 : (s.size : Int) * 1 ≤ 140737488355328 := by omega
  have h2 : (s.size : Int) ≤ 9223372036854775807 := by omega
  have h3 : (0 : Int) ≤ s.size := by omega
  have hL := streamOf_len s
  simp only [X12, sx, x_box, x_alloc, x_bslice, x_slice, x_append, x_b2s, xop, ev, evs, evParts, fillL, cellsL, Ai.get, Ai.put, stab, isNil?, if_false, if_true, addr?, int?, str?, agg?, bool?, shiftA, FnPost, xresL, xres1, tup, argEnv, ptr, Nat.reduceEqDiff, reduceIte, beq_self_eq_true, ne_eq, Nat.reduceAdd, Nat.reduceMul, Nat.reduceSub, abin_shl, abin_shr, load1V, loadV, storeV, cellsAt, getN, setN, allocV, lenL, lenS, bnd, oneC, Value.oneCell', Nat.reduceLeDiff, Nat.reduceLT, exists_eq_left', forall_const, reduceCtorEq, app_new, app_new0, List.append_assoc, Int.reduceToNat, Int.reduceLT, Int.reduceLE, Int.reduceEq, Int.reduceNe, Int.reduceBEq, IntKind.bits, bne_self_eq_false, Int.reducePow, h1, h2, h3, Int.le_refl, zeros_bR]
  refine xcode_loop (fun m ρ h' => ∃ i, i + m = s.size ∧ get ρ 4 = some (.int .i64 (i : Nat)) ∧ get ρ 0 = some (.string s) ∧ get ρ 3 = some (.slice (some ⟨h.length, 0, none⟩) s.size s.size) ∧ h' = h ++ [some ⟨true, bR (filled (streamOf s) i s.size)⟩]) s.size
    ⟨0, by simp, rfl, rfl, rfl, by rw [filled_zero]⟩ ?_
  rintro m ρ h' ⟨i, him, g4, g0, g3, rfl⟩
  by_cases hlt : i < s.size
  · have hlt' : (i : Int) < s.size := by omega
    have hge : (0 : Int) ≤ i := by omega
    have hw : IntKind.i64.wrap ((i : Int) + 1) = ((i + 1 : Nat) : Int) := by rw [i64_wrap] <;> omega
    obtain ⟨b, hb, hb2⟩ := streamOf_get hlt
    have hle : i + 1 ≤ (bR (filled (streamOf s) i s.size)).length := by rw [bR_len, filled_len (by omega) hL]; omega
    simp only [sx, x_box, x_alloc, x_bslice, x_slice, x_append, x_b2s, xop, ev, evs, evParts, fillL, cellsL, Ai.get, Ai.put, stab, isNil?, if_false, if_true, addr?, int?, str?, agg?, bool?, shiftA, FnPost, xresL, xres1, tup, argEnv, ptr, Nat.reduceEqDiff, reduceIte, beq_self_eq_true, ne_eq, Nat.reduceAdd, Nat.reduceMul, Nat.reduceSub, abin_shl, abin_shr, load1V, loadV, storeV, cellsAt, getN, setN, allocV, lenL, lenS, bnd, oneC, Value.oneCell', Nat.reduceLeDiff, Nat.reduceLT, exists_eq_left', forall_const, reduceCtorEq, app_new, app_new0, List.append_assoc, Int.reduceToNat, Int.reduceLT, Int.reduceLE, Int.reduceEq, Int.reduceNe, Int.reduceBEq, IntKind.bits, bne_self_eq_false, Int.reducePow, g4, g0, g3, hlt', hge, hb, abin_and1, Nat.mul_one, hle, bR_set, hw]
    refine ⟨m - 1, by omega, i + 1, by omega, rfl, ?_⟩
    rw [← hb2, filled_set hlt hL]
  · have hlt' : ¬ (i : Int) < s.size := by omega
    have : i = s.size := by omega
    subst this
    simp only [sx, x_box, x_alloc, x_bslice, x_slice, x_append, x_b2s, xop, ev, evs, evParts, fillL, cellsL, Ai.get, Ai.put, stab, isNil?, if_false, if_true, addr?, int?, str?, agg?, bool?, shiftA, FnPost, xresL, xres1, tup, argEnv, ptr, Nat.reduceEqDiff, reduceIte, beq_self_eq_true, ne_eq, Nat.reduceAdd, Nat.reduceMul, Nat.reduceSub, abin_shl, abin_shr, load1V, loadV, storeV, cellsAt, getN, setN, allocV, lenL, lenS, bnd, oneC, Value.oneCell', Nat.reduceLeDiff, Nat.reduceLT, exists_eq_left', forall_const, reduceCtorEq, app_new, app_new0, List.append_assoc, Int.reduceToNat, Int.reduceLT, Int.reduceLE, Int.reduceEq, Int.reduceNe, Int.reduceBEq, IntKind.bits, bne_self_eq_false, Int.reducePow, g4, g0, g3, hlt', filled_all hL]
end Go.Proofs.Ytemphcppnjlkcaa
