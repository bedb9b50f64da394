import Derived.Test.YtcpcngamfncpdaaY1
set_option linter.unusedVariables false
set_option linter.unusedSimpArgs false
namespace Go.Proofs.Ytcpcngamfncpdaa
open Go Go.Ai Go.Proofs

theorem copied1_ok {h : AHeap} {v : Value} {zs : List Int} (L : LoadW h v zs) (h0 : 0 < zs.length) (h3 : zs.length ≤ 300) : Valid Try.prog 35 [v] h fun r h' => ∃ B, r = .slice (some ⟨B, 0, none⟩) zs.length zs.length ∧ h'[B]? = some (some ⟨false, bR zs⟩) ∧ Kp h h' ∧ h.length ≤ B := by
  obtain ⟨q, c, rfl, hf, -⟩ := L.first
  refine Valid.freeze ?_
  refine v35 (by simp) ?_
  simp only [X35, sx, x_box, x_alloc, x_bslice, x_slice, x_append, x_appz, x_b2s, x_s2b, x_mark, xop, ev, evs, evParts, fillL, cellsL, Ai.get, Ai.put, stab, isNil?, if_false, if_true, addr?, int?, str?, agg?, bool?, shiftA, FnPost, xresL, xres1, tup, argEnv, ptr, Nat.reduceEqDiff, reduceIte, beq_self_eq_true, ne_eq, Nat.reduceAdd, Nat.reduceMul, Nat.reduceSub, abin_shl, abin_shr, load1V, loadV, storeV, cellsAt, getN, setN, allocV, lenL, lenS, bnd, oneC, Value.oneCell', Nat.reduceLeDiff, Nat.reduceLT, exists_eq_left', forall_const, reduceCtorEq, app_new, app_new0, List.append_assoc, Int.reduceToNat, Int.reduceLT, Int.reduceLE, Int.reduceEq, Int.reduceNe, Int.reduceBEq, IntKind.bits, bne_self_eq_false, Int.reducePow]
  refine xcall (clone_clip (k := 1) (by_ := 1) (z := [.int .u8 0]) rfl (by decide) v46 v45 hf (by omega) (by omega)) (by rfl) (by rfl) (by rfl) (by rfl) ?_
  intro r1 h1 hV
  simp only [sx, x_box, x_alloc, x_bslice, x_slice, x_append, x_appz, x_b2s, x_s2b, x_mark, xop, ev, evs, evParts, fillL, cellsL, Ai.get, Ai.put, stab, isNil?, if_false, if_true, addr?, int?, str?, agg?, bool?, shiftA, FnPost, xresL, xres1, tup, argEnv, ptr, Nat.reduceEqDiff, reduceIte, beq_self_eq_true, ne_eq, Nat.reduceAdd, Nat.reduceMul, Nat.reduceSub, abin_shl, abin_shr, load1V, loadV, storeV, cellsAt, getN, setN, allocV, lenL, lenS, bnd, oneC, Value.oneCell', Nat.reduceLeDiff, Nat.reduceLT, exists_eq_left', forall_const, reduceCtorEq, app_new, app_new0, List.append_assoc, Int.reduceToNat, Int.reduceLT, Int.reduceLE, Int.reduceEq, Int.reduceNe, Int.reduceBEq, IntKind.bits, bne_self_eq_false, Int.reducePow]
  refine xcall hV (by rfl) (by rfl) (by rfl) (by rfl) ?_
  rintro r2 h2 ⟨J, rfl, O⟩
  simp only [sx, x_box, x_alloc, x_bslice, x_slice, x_append, x_appz, x_b2s, x_s2b, x_mark, xop, ev, evs, evParts, fillL, cellsL, Ai.get, Ai.put, stab, isNil?, if_false, if_true, addr?, int?, str?, agg?, bool?, shiftA, FnPost, xresL, xres1, tup, argEnv, ptr, Nat.reduceEqDiff, reduceIte, beq_self_eq_true, ne_eq, Nat.reduceAdd, Nat.reduceMul, Nat.reduceSub, abin_shl, abin_shr, load1V, loadV, storeV, cellsAt, getN, setN, allocV, lenL, lenS, bnd, oneC, Value.oneCell', Nat.reduceLeDiff, Nat.reduceLT, exists_eq_left', forall_const, reduceCtorEq, app_new, app_new0, List.append_assoc, Int.reduceToNat, Int.reduceLT, Int.reduceLE, Int.reduceEq, Int.reduceNe, Int.reduceBEq, IntKind.bits, bne_self_eq_false, Int.reducePow]
  rcases O with ⟨-, e⟩ | ⟨B, n, rfl, k1, k2, k3, k4⟩
  · have : zs = [] := bR_inj e
    subst this; simp at h0
  rw [bR_len, Nat.mul_one] at k2
  subst k2
  exact .inr ⟨B, bR zs, k4 (by omega), B, rfl, set_same (k4 (by omega)) _, (Kp.app _ _).set k1 _, k1⟩
/-- the new end with one load -/
def BE.one (zs : List Int) : BE := ⟨[zs], [], 0, 127, 127, true, 127, true, false, false, true, false⟩
/-- .. and where it lies -/
def OneAt (h : AHeap) (X A B : Nat) (zs : List Int) : Prop := h[X]? = some (some ⟨true, (BE.one zs).cells (.slice (some ⟨A, 0, none⟩) 1 (unk + 1)) (.slice none 0 0)⟩) ∧ h[A]? = some (some ⟨true, [.slice (some ⟨B, 0, none⟩) zs.length zs.length]⟩) ∧ h[B]? = some (some ⟨false, bR zs⟩)
theorem OneAt.be {h : AHeap} {X A B : Nat} {zs : List Int} (O : OneAt h X A B zs) (hl : 2 ≤ zs.length ∧ zs.length ≤ 273) : BAt h X (BE.one zs) (.slice (some ⟨A, 0, none⟩) 1 (unk + 1)) (.slice none 0 0) := by
  obtain ⟨h1, h2, h3⟩ := O
  refine ⟨h1, ⟨_, RetN.all h2 rfl, ⟨B, rfl, h3, by omega, by omega⟩, trivial⟩, QAt.nil _, ?_, by simp [slB], (by simp [slB]), (by simp [BE.one]), (by simp [BE.one]), (by simp [BE.one]), (by simp [BE.one]), (by simp [BE.one]), (by simp [BE.one])⟩
  intro e
  simp only [slB, Option.map_some, Option.some.injEq] at e
  rw [e, h1] at h2
  simp [BE.cells] at h2
theorem accept1_ok {h : AHeap} {X : Nat} {lv : Value} {zs : List Int} (E : BAt h X BE.new (.slice none 0 0) (.slice none 0 0)) (L : LoadW h lv zs) (hb : 2 ≤ zs.length ∧ zs.length ≤ 273) :
    Valid Try.prog 14 [.pointer (some ⟨X, 0, none⟩), lv] h fun r h' => r = .int .i64 0 ∧ ∃ A B, OneAt h' X A B zs ∧ h.length ≤ A ∧ h.length ≤ B ∧ Fr (fun C => C = X) h h' := by
  refine v14 (by simp) ?_
  have L' := L
  obtain ⟨ql, cl, rfl, hl1, -⟩ := L'
  simp only [X14, sx, x_box, x_alloc, x_bslice, x_slice, x_append, x_appz, x_b2s, x_s2b, x_mark, xop, ev, evs, evParts, fillL, cellsL, Ai.get, Ai.put, stab, isNil?, if_false, if_true, addr?, int?, str?, agg?, bool?, shiftA, FnPost, xresL, xres1, tup, argEnv, ptr, Nat.reduceEqDiff, reduceIte, beq_self_eq_true, ne_eq, Nat.reduceAdd, Nat.reduceMul, Nat.reduceSub, abin_shl, abin_shr, load1V, loadV, storeV, cellsAt, getN, setN, allocV, lenL, lenS, bnd, oneC, Value.oneCell', Nat.reduceLeDiff, Nat.reduceLT, exists_eq_left', forall_const, reduceCtorEq, app_new, app_new0, List.append_assoc, Int.reduceToNat, Int.reduceLT, Int.reduceLE, Int.reduceEq, Int.reduceNe, Int.reduceBEq, IntKind.bits, bne_self_eq_false, Int.reducePow]
  refine xcall (state_ok E) (by rfl) (by rfl) (by rfl) (by rfl) ?_
  rintro r h' ⟨rfl, rfl⟩
  have hs : BE.new.st = 0 := rfl
  simp only [sx, x_box, x_alloc, x_bslice, x_slice, x_append, x_appz, x_b2s, x_s2b, x_mark, xop, ev, evs, evParts, fillL, cellsL, Ai.get, Ai.put, stab, isNil?, if_false, if_true, addr?, int?, str?, agg?, bool?, shiftA, FnPost, xresL, xres1, tup, argEnv, ptr, Nat.reduceEqDiff, reduceIte, beq_self_eq_true, ne_eq, Nat.reduceAdd, Nat.reduceMul, Nat.reduceSub, abin_shl, abin_shr, load1V, loadV, storeV, cellsAt, getN, setN, allocV, lenL, lenS, bnd, oneC, Value.oneCell', Nat.reduceLeDiff, Nat.reduceLT, exists_eq_left', forall_const, reduceCtorEq, app_new, app_new0, List.append_assoc, Int.reduceToNat, Int.reduceLT, Int.reduceLE, Int.reduceEq, Int.reduceNe, Int.reduceBEq, IntKind.bits, bne_self_eq_false, Int.reducePow, hs]
  have U : UV h' (.agg #[.int .u8 0, .bool false, .int .u8 0, .bool false, .int .u8 2, .int .u8 0, .slice ql zs.length cl]) ⟨0, false, 0, false, 2, 0, zs⟩ := ⟨_, rfl, L⟩
  refine xcall (check_ok U) (by rfl) (by rfl) (by rfl) (by rfl) ?_
  rintro r h1 ⟨rfl, J, rfl⟩
  have K1 : Kp h' (h' ++ J) := Kp.app _ _
  have E1 := E.kp K1
  have L1 := L.frz K1.frz
  have hc : chk ⟨0, false, 0, false, 2, 0, zs⟩ = 0 := by
    unfold chk
    rw [if_neg (by simp), if_neg (by simp; omega)]
  have hX := E1.obj
  generalize h' ++ J = h1 at *
  simp only [BE.cells, BE.new] at hX
  simp only [sx, x_box, x_alloc, x_bslice, x_slice, x_append, x_appz, x_b2s, x_s2b, x_mark, xop, ev, evs, evParts, fillL, cellsL, Ai.get, Ai.put, stab, isNil?, if_false, if_true, addr?, int?, str?, agg?, bool?, shiftA, FnPost, xresL, xres1, tup, argEnv, ptr, Nat.reduceEqDiff, reduceIte, beq_self_eq_true, ne_eq, Nat.reduceAdd, Nat.reduceMul, Nat.reduceSub, abin_shl, abin_shr, load1V, loadV, storeV, cellsAt, getN, setN, allocV, lenL, lenS, bnd, oneC, Value.oneCell', Nat.reduceLeDiff, Nat.reduceLT, exists_eq_left', forall_const, reduceCtorEq, app_new, app_new0, Int.reduceToNat, Int.reduceLT, Int.reduceLE, Int.reduceEq, Int.reduceNe, Int.reduceBEq, IntKind.bits, bne_self_eq_false, Int.reducePow, hc, hX]
  refine xcall (copied1_ok L1 (by omega) (by omega)) (by rfl) (by rfl) (by rfl) (by rfl) ?_
  rintro r h2 ⟨B, rfl, hB, K2, hBl⟩
  have hX2 := K2.get hX
  have hk1 := K1.1
  have hk2 := K2.1
  have hXl := lt_of_get hX
  simp only [sx, x_box, x_alloc, x_slice, x_append, x_appz, x_b2s, x_s2b, x_mark, xop, ev, evs, evParts, fillL, cellsL, Ai.get, Ai.put, stab, isNil?, if_false, if_true, addr?, int?, str?, agg?, bool?, shiftA, FnPost, xresL, xres1, tup, argEnv, ptr, Nat.reduceEqDiff, reduceIte, beq_self_eq_true, ne_eq, Nat.reduceAdd, Nat.reduceMul, Nat.reduceSub, abin_shl, abin_shr, load1V, loadV, storeV, cellsAt, getN, setN, allocV, lenL, lenS, bnd, oneC, Value.oneCell', Nat.reduceLeDiff, Nat.reduceLT, exists_eq_left', forall_const, reduceCtorEq, app_new, app_new0, List.append_assoc, Int.reduceToNat, Int.reduceLT, Int.reduceLE, Int.reduceEq, Int.reduceNe, Int.reduceBEq, IntKind.bits, bne_self_eq_false, Int.reducePow, hX2]
  refine bslice_run rfl rfl fun g3 R3 K3 hR3 hRl3 hg3 => ?_
  have hX3 := K3.get hX2
  simp only [sx, x_box, x_alloc, x_bslice, x_slice, x_appz, x_b2s, x_s2b, x_mark, xop, ev, evs, evParts, fillL, cellsL, Ai.get, Ai.put, stab, isNil?, if_false, if_true, addr?, int?, str?, agg?, bool?, shiftA, FnPost, xresL, xres1, tup, argEnv, ptr, Nat.reduceEqDiff, reduceIte, beq_self_eq_true, ne_eq, Nat.reduceAdd, Nat.reduceMul, Nat.reduceSub, abin_shl, abin_shr, load1V, loadV, storeV, cellsAt, getN, setN, allocV, lenL, lenS, bnd, oneC, Value.oneCell', Nat.reduceLeDiff, Nat.reduceLT, exists_eq_left', forall_const, reduceCtorEq, app_new, app_new0, Int.reduceToNat, Int.reduceLT, Int.reduceLE, Int.reduceEq, Int.reduceNe, Int.reduceBEq, IntKind.bits, bne_self_eq_false, Int.reducePow, hX3]
  have hf3 : firstV 1 g3 1 (.slice (some ⟨R3, 0, none⟩) 1 1) = some [.slice (some ⟨B, 0, none⟩) zs.length zs.length] := by
    simp only [firstV, cellsAt, hR3]; rfl
  refine append_run (k := 1) (by_ := 24) (n := 0) (m := 1) (rows := []) (news := [.slice (some ⟨B, 0, none⟩) zs.length zs.length]) (sl := .slice none 0 0) (xv := .slice (some ⟨R3, 0, none⟩) 1 1) rfl (by decide) rfl rfl rfl hf3 rfl rfl ⟨rfl, .inl ⟨rfl, rfl⟩⟩ (by omega) (by omega) (fun h0 => by omega) fun _ g4 A4 hA4 hA hl4 hfr => ?_
  have hX4 : g4[X]? = _ := (hfr X (lt_of_get hX3) (by simp [slB])).trans hX3
  have hk3 := K3.1
  simp only [sx, x_box, x_alloc, x_bslice, x_slice, x_append, x_appz, x_b2s, x_s2b, x_mark, xop, ev, evs, evParts, fillL, cellsL, Ai.get, Ai.put, stab, isNil?, if_false, if_true, addr?, int?, str?, agg?, bool?, shiftA, FnPost, xresL, xres1, tup, argEnv, ptr, Nat.reduceEqDiff, reduceIte, beq_self_eq_true, ne_eq, Nat.reduceAdd, Nat.reduceMul, Nat.reduceSub, abin_shl, abin_shr, load1V, loadV, storeV, cellsAt, getN, setN, allocV, lenL, lenS, bnd, oneC, Value.oneCell', Nat.reduceLeDiff, Nat.reduceLT, exists_eq_left', forall_const, reduceCtorEq, app_new, app_new0, List.append_assoc, Int.reduceToNat, Int.reduceLT, Int.reduceLE, Int.reduceEq, Int.reduceNe, Int.reduceBEq, IntKind.bits, bne_self_eq_false, Int.reducePow, hX4]
  have hB4 : g4[B]? = some (some ⟨false, bR zs⟩) := (hfr B (by have := lt_of_get hB; omega) (by simp [slB])).trans (K3.get hB)
  have hXA : X ≠ A4 := by have := lt_of_get hX3; omega
  have hXB : X ≠ B := fun e => by rw [← e] at hB; rw [hX2] at hB; cases hB
  refine ⟨A4, B, ⟨set_same hX4 _, ?_, ?_⟩, by omega, by omega, by simp only [List.length_set]; omega, fun C hC hn => ?_⟩
  · rw [set_ne hXA]; simpa using hA
  · rw [set_ne hXB]; exact hB4
  · rw [set_ne (fun e => hn e.symm), hfr C (by omega) (by simp [slB]), K3.2 C (by omega), K2.2 C (by omega), K1.2 C hC]
end Go.Proofs.Ytcpcngamfncpdaa
