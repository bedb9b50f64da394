import Derived.Test.YtjpjnidgcmkdbaaT7
set_option linter.unusedVariables false
set_option linter.unusedSimpArgs false
namespace Go.Proofs.Ytjpjnidgcmkdbaa
open Go Go.Ai Go.Proofs

def hearC (c : Cir) (kd : Int) : Cir := if kd = 1 then ⟨c.st, c.age, c.tries, true⟩ else if kd = 3 then ⟨c.st, c.age, c.tries, false⟩ else if c.st = 1 then ⟨2, 0, c.tries, c.lp⟩ else c
def hearM (kd k : Int) : List Msg := if kd = 1 then [⟨2, k, false⟩] else []
def badM (kd : Int) (good : Bool) : Prop := kd < 1 ∨ 3 < kd ∨ (good = true ∧ kd ≠ 3)

theorem set_self {cs : List Cir} {i : Nat} {c : Cir} (h : cs[i]? = some c) : cs.set i c = cs := by
  obtain ⟨hi, rfl⟩ := List.getElem?_eq_some_iff.1 h
  exact List.set_getElem_self hi

section
variable {h : AHeap} {X L : Nat} {w p m : Int} {cs : List Cir} {sl : Value} {ms : List Msg} {k kd : Int} {good : Bool} {c : Cir} {b0 bm : Nat}
theorem hear1_bad (hbm : h[bm]? = some (some ⟨true, [.int .u8 kd, .int .i64 k, .bool good]⟩)) (hb : badM kd good) {v e : Value} :
    Valid Try.prog 26 [v, ptr bm 0, e] h fun r h' => r = .int .i64 1 ∧ h' = h := by
  refine v26 (by simp) ?_
  by_cases h1 : kd < 1
  · simp [X26, sx, x_box, x_alloc, x_bslice, x_slice, x_append, x_b2s, xop, ev, evs, evParts, fillL, cellsL, Ai.get, Ai.put, stab, isNil?, if_false, if_true, addr?, int?, str?, agg?, bool?, shiftA, FnPost, xresL, xres1, tup, argEnv, ptr, Nat.reduceEqDiff, reduceIte, beq_self_eq_true, ne_eq, Nat.reduceAdd, Nat.reduceMul, Nat.reduceSub, abin_shl, abin_shr, load1V, loadV, storeV, cellsAt, getN, setN, allocV, lenL, lenS, bnd, oneC, Value.oneCell', Nat.reduceLeDiff, Nat.reduceLT, exists_eq_left', forall_const, reduceCtorEq, app_new, app_new0, List.append_assoc, Int.reduceToNat, Int.reduceLT, Int.reduceLE, Int.reduceEq, Int.reduceNe, Int.reduceBEq, IntKind.bits, bne_self_eq_false, Int.reducePow, hbm, h1]
  · by_cases h2 : 3 < kd
    · simp [X26, sx, x_box, x_alloc, x_bslice, x_slice, x_append, x_b2s, xop, ev, evs, evParts, fillL, cellsL, Ai.get, Ai.put, stab, isNil?, if_false, if_true, addr?, int?, str?, agg?, bool?, shiftA, FnPost, xresL, xres1, tup, argEnv, ptr, Nat.reduceEqDiff, reduceIte, beq_self_eq_true, ne_eq, Nat.reduceAdd, Nat.reduceMul, Nat.reduceSub, abin_shl, abin_shr, load1V, loadV, storeV, cellsAt, getN, setN, allocV, lenL, lenS, bnd, oneC, Value.oneCell', Nat.reduceLeDiff, Nat.reduceLT, exists_eq_left', forall_const, reduceCtorEq, app_new, app_new0, List.append_assoc, Int.reduceToNat, Int.reduceLT, Int.reduceLE, Int.reduceEq, Int.reduceNe, Int.reduceBEq, IntKind.bits, bne_self_eq_false, Int.reducePow, hbm, h1, h2]
    · rcases hb with hb | hb | ⟨rfl, hb⟩
      · exact absurd hb h1
      · exact absurd hb h2
      · simp [X26, sx, x_box, x_alloc, x_bslice, x_slice, x_append, x_b2s, xop, ev, evs, evParts, fillL, cellsL, Ai.get, Ai.put, stab, isNil?, if_false, if_true, addr?, int?, str?, agg?, bool?, shiftA, FnPost, xresL, xres1, tup, argEnv, ptr, Nat.reduceEqDiff, reduceIte, beq_self_eq_true, ne_eq, Nat.reduceAdd, Nat.reduceMul, Nat.reduceSub, abin_shl, abin_shr, load1V, loadV, storeV, cellsAt, getN, setN, allocV, lenL, lenS, bnd, oneC, Value.oneCell', Nat.reduceLeDiff, Nat.reduceLT, exists_eq_left', forall_const, reduceCtorEq, app_new, app_new0, List.append_assoc, Int.reduceToNat, Int.reduceLT, Int.reduceLE, Int.reduceEq, Int.reduceNe, Int.reduceBEq, IntKind.bits, bne_self_eq_false, Int.reducePow, hbm, h1, h2, hb]
theorem hear1_ok (E : EndAt h X L w p m cs sl ms) (h0 : 0 ≤ k) (h1 : k < cs.length) (hc : cs[k.toNat]? = some c) (hn : ms.length < 65536)
    (hb0 : h[b0]? = some (some ⟨true, [ptr X 0]⟩)) (hbm : h[bm]? = some (some ⟨true, [.int .u8 kd, .int .i64 k, .bool good]⟩)) (f0 : b0 ≠ L) (fm : bm ≠ L) (hb : ¬ badM kd good) :
    Valid Try.prog 26 [.pointer (some ⟨L, k.toNat * 4, none⟩), ptr bm 0, ptr b0 0] h fun r h' => r = .int .i64 0 ∧ StepP h X L w p m cs sl ms h' (cs.set k.toNat (hearC c kd)) (hearM kd k) := by
  refine v26 (by simp) ?_
  have hL := E.row
  have hlt := (List.getElem?_eq_some_iff.1 hc).1
  have g0 : (rowsC cs)[k.toNat * 4]? = some (.int .u8 c.st) := by have := rowsC_get 0 (by omega) hc; rw [Nat.add_zero] at this; rw [this]; rfl
  have hlen : k.toNat * 4 + 3 + 1 ≤ (rowsC cs).length := by rw [rowsC_len]; omega
  unfold badM at hb
  have n1 : ¬ kd < 1 := fun h => hb (.inl h)
  have n2 : ¬ 3 < kd := fun h => hb (.inr (.inl h))
  unfold ptr at hb0
  refine xcode_mono _ (Q := FnPost [(.tmp 4)] fun r h' => r = .int .i64 0 ∧ StepP h X L w p m cs sl ms h' (cs.set k.toNat (hearC c kd)) (hearM kd k)) ?_ (fun _ _ _ h => h)
  have hg : good = false ∨ (good = true ∧ kd = 3) := by
    cases good
    · exact .inl rfl
    · exact .inr ⟨rfl, Classical.byContradiction fun h => hb (.inr (.inr ⟨rfl, h⟩))⟩
  by_cases k1 : kd = 1
  · obtain rfl : good = false := by rcases hg with h | h; exact h; omega
    subst k1
    obtain ⟨sl2, E2, F2, G2⟩ := store_step (j := 3) (e := ⟨c.st, c.age, c.tries, true⟩) (v := .bool true) E hc (by omega) rfl
    have e0 := (set_ne (Ne.symm f0) (some ⟨true, (rowsC cs).set (k.toNat * 4 + 3) (.bool true)⟩)).trans hb0
    have em := (set_ne (Ne.symm fm) (some ⟨true, (rowsC cs).set (k.toNat * 4 + 3) (.bool true)⟩)).trans hbm
    simp only [X26, sx, x_box, x_alloc, x_bslice, x_slice, x_append, x_b2s, xop, ev, evs, evParts, fillL, cellsL, Ai.get, Ai.put, stab, isNil?, if_false, if_true, addr?, int?, str?, agg?, bool?, shiftA, FnPost, xresL, xres1, tup, argEnv, ptr, Nat.reduceEqDiff, reduceIte, beq_self_eq_true, ne_eq, Nat.reduceAdd, Nat.reduceMul, Nat.reduceSub, abin_shl, abin_shr, load1V, loadV, storeV, cellsAt, getN, setN, allocV, lenL, lenS, bnd, oneC, Value.oneCell', Nat.reduceLeDiff, Nat.reduceLT, exists_eq_left', forall_const, reduceCtorEq, app_new, app_new0, List.append_assoc, Int.reduceToNat, Int.reduceLT, Int.reduceLE, Int.reduceEq, Int.reduceNe, Int.reduceBEq, IntKind.bits, bne_self_eq_false, Int.reducePow, hbm, hL, hlen, e0, em]
    refine xcall (send_step E2 (by simpa using hn)) (by rfl) (by rfl) (by rfl) (by rfl) ?_
    rintro v h3 ⟨sl3, E3, F3, G3⟩
    simp only [sx, x_box, x_alloc, x_bslice, x_slice, x_append, x_b2s, xop, ev, evs, evParts, fillL, cellsL, Ai.get, Ai.put, stab, isNil?, if_false, if_true, addr?, int?, str?, agg?, bool?, shiftA, FnPost, xresL, xres1, tup, argEnv, ptr, Nat.reduceEqDiff, reduceIte, beq_self_eq_true, ne_eq, Nat.reduceAdd, Nat.reduceMul, Nat.reduceSub, abin_shl, abin_shr, load1V, loadV, storeV, cellsAt, getN, setN, allocV, lenL, lenS, bnd, oneC, Value.oneCell', Nat.reduceLeDiff, Nat.reduceLT, exists_eq_left', forall_const, reduceCtorEq, app_new, app_new0, List.append_assoc, Int.reduceToNat, Int.reduceLT, Int.reduceLE, Int.reduceEq, Int.reduceNe, Int.reduceBEq, IntKind.bits, bne_self_eq_false, Int.reducePow]
    exact ⟨sl3, by simpa [hearC, hearM] using E3, F2.trans G2 F3, G2.trans F2.1 G3⟩
  · by_cases k3 : kd = 3
    · subst k3
      have s2 := store_step (j := 3) (e := ⟨c.st, c.age, c.tries, false⟩) (v := .bool false) E hc (by omega) rfl
      have e1 : hearC c 3 = ⟨c.st, c.age, c.tries, false⟩ := by simp [hearC]
      have e2 : hearM 3 k = [] := by simp [hearM]
      rw [e1, e2]
      cases good
      · simp only [X26, sx, x_box, x_alloc, x_bslice, x_slice, x_append, x_b2s, xop, ev, evs, evParts, fillL, cellsL, Ai.get, Ai.put, stab, isNil?, if_false, if_true, addr?, int?, str?, agg?, bool?, shiftA, FnPost, xresL, xres1, tup, argEnv, ptr, Nat.reduceEqDiff, reduceIte, beq_self_eq_true, ne_eq, Nat.reduceAdd, Nat.reduceMul, Nat.reduceSub, abin_shl, abin_shr, load1V, loadV, storeV, cellsAt, getN, setN, allocV, lenL, lenS, bnd, oneC, Value.oneCell', Nat.reduceLeDiff, Nat.reduceLT, exists_eq_left', forall_const, reduceCtorEq, app_new, app_new0, List.append_assoc, Int.reduceToNat, Int.reduceLT, Int.reduceLE, Int.reduceEq, Int.reduceNe, Int.reduceBEq, IntKind.bits, bne_self_eq_false, Int.reducePow, hbm, hL, hlen]
        exact s2
      · simp only [X26, sx, x_box, x_alloc, x_bslice, x_slice, x_append, x_b2s, xop, ev, evs, evParts, fillL, cellsL, Ai.get, Ai.put, stab, isNil?, if_false, if_true, addr?, int?, str?, agg?, bool?, shiftA, FnPost, xresL, xres1, tup, argEnv, ptr, Nat.reduceEqDiff, reduceIte, beq_self_eq_true, ne_eq, Nat.reduceAdd, Nat.reduceMul, Nat.reduceSub, abin_shl, abin_shr, load1V, loadV, storeV, cellsAt, getN, setN, allocV, lenL, lenS, bnd, oneC, Value.oneCell', Nat.reduceLeDiff, Nat.reduceLT, exists_eq_left', forall_const, reduceCtorEq, app_new, app_new0, List.append_assoc, Int.reduceToNat, Int.reduceLT, Int.reduceLE, Int.reduceEq, Int.reduceNe, Int.reduceBEq, IntKind.bits, bne_self_eq_false, Int.reducePow, hbm, hL, hlen]
        exact s2
    · obtain rfl : good = false := by rcases hg with h | h; exact h; exact absurd h.2 k3
      have e2 : hearM kd k = [] := by simp [hearM, k1]
      rw [e2]
      by_cases hs : c.st = 1
      · have e1 : hearC c kd = ⟨2, 0, c.tries, c.lp⟩ := by simp [hearC, k1, k3, hs]
        rw [e1]
        simp only [X26, sx, x_box, x_alloc, x_bslice, x_slice, x_append, x_b2s, xop, ev, evs, evParts, fillL, cellsL, Ai.get, Ai.put, stab, isNil?, if_false, if_true, addr?, int?, str?, agg?, bool?, shiftA, FnPost, xresL, xres1, tup, argEnv, ptr, Nat.reduceEqDiff, reduceIte, beq_self_eq_true, ne_eq, Nat.reduceAdd, Nat.reduceMul, Nat.reduceSub, abin_shl, abin_shr, load1V, loadV, storeV, cellsAt, getN, setN, allocV, lenL, lenS, bnd, oneC, Value.oneCell', Nat.reduceLeDiff, Nat.reduceLT, exists_eq_left', forall_const, reduceCtorEq, app_new, app_new0, List.append_assoc, Int.reduceToNat, Int.reduceLT, Int.reduceLE, Int.reduceEq, Int.reduceNe, Int.reduceBEq, IntKind.bits, bne_self_eq_false, Int.reducePow, hbm, hL, hlen, n1, n2, k1, k3, g0, hs]
        refine xcall (enter_step E hc) (by rfl) (by rfl) (by rfl) (by rfl) ?_
        rintro v h3 s3
        simp only [sx, x_box, x_alloc, x_bslice, x_slice, x_append, x_b2s, xop, ev, evs, evParts, fillL, cellsL, Ai.get, Ai.put, stab, isNil?, if_false, if_true, addr?, int?, str?, agg?, bool?, shiftA, FnPost, xresL, xres1, tup, argEnv, ptr, Nat.reduceEqDiff, reduceIte, beq_self_eq_true, ne_eq, Nat.reduceAdd, Nat.reduceMul, Nat.reduceSub, abin_shl, abin_shr, load1V, loadV, storeV, cellsAt, getN, setN, allocV, lenL, lenS, bnd, oneC, Value.oneCell', Nat.reduceLeDiff, Nat.reduceLT, exists_eq_left', forall_const, reduceCtorEq, app_new, app_new0, List.append_assoc, Int.reduceToNat, Int.reduceLT, Int.reduceLE, Int.reduceEq, Int.reduceNe, Int.reduceBEq, IntKind.bits, bne_self_eq_false, Int.reducePow]
        exact s3
      · have e1 : hearC c kd = c := by simp [hearC, k1, k3, hs]
        rw [e1, set_self hc]
        simp only [X26, sx, x_box, x_alloc, x_bslice, x_slice, x_append, x_b2s, xop, ev, evs, evParts, fillL, cellsL, Ai.get, Ai.put, stab, isNil?, if_false, if_true, addr?, int?, str?, agg?, bool?, shiftA, FnPost, xresL, xres1, tup, argEnv, ptr, Nat.reduceEqDiff, reduceIte, beq_self_eq_true, ne_eq, Nat.reduceAdd, Nat.reduceMul, Nat.reduceSub, abin_shl, abin_shr, load1V, loadV, storeV, cellsAt, getN, setN, allocV, lenL, lenS, bnd, oneC, Value.oneCell', Nat.reduceLeDiff, Nat.reduceLT, exists_eq_left', forall_const, reduceCtorEq, app_new, app_new0, List.append_assoc, Int.reduceToNat, Int.reduceLT, Int.reduceLE, Int.reduceEq, Int.reduceNe, Int.reduceBEq, IntKind.bits, bne_self_eq_false, Int.reducePow, hbm, hL, hlen, n1, n2, k1, k3, g0, hs]
        have := StepP.none E []
        rwa [List.append_nil] at this
end
end Go.Proofs.Ytjpjnidgcmkdbaa
