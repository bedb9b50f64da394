import Derived.Test.YtkbpfebohpdgbaaD5
set_option linter.unusedVariables false
set_option linter.unusedSimpArgs false
namespace Go.Proofs.Ytkbpfebohpdgbaa
open Go Go.Ai Go.Proofs

def BE.unit (e : BE) : UP := ⟨e.acc, true, e.choose.2.1, true, (if e.choose.2.2.isSome = true then 2 else 0), 0, e.choose.2.2.getD []⟩
def BE.next (e : BE) : BE × UP × Int := if e.st ≠ 0 then (e, UP.zero, e.st) else (e.choose.1, e.unit, 0)
theorem next_nil {h : AHeap} : Valid Try.prog 13 [.pointer none] h fun r h' => r = .tuple #[.agg (UP.zero.cells (.slice none 0 0)).toArray, .int .i64 2] ∧ Kp h h' := by
  refine v13 (by simp) ?_
  simp only [X13, sx, x_box, x_alloc, x_bslice, x_slice, x_append, x_b2s, xop, ev, evs, evParts, fillL, cellsL, Ai.get, Ai.put, stab, isNil?, if_false, if_true, addr?, int?, str?, agg?, bool?, shiftA, FnPost, xresL, xres1, tup, argEnv, ptr, Nat.reduceEqDiff, reduceIte, beq_self_eq_true, ne_eq, Nat.reduceAdd, Nat.reduceMul, Nat.reduceSub, abin_shl, abin_shr, load1V, loadV, storeV, cellsAt, getN, setN, allocV, lenL, lenS, bnd, oneC, Value.oneCell', Nat.reduceLeDiff, Nat.reduceLT, exists_eq_left', forall_const, reduceCtorEq, app_new, app_new0, List.append_assoc, Int.reduceToNat, Int.reduceLT, Int.reduceLE, Int.reduceEq, Int.reduceNe, Int.reduceBEq, IntKind.bits, bne_self_eq_false, Int.reducePow]
  refine xcall state_nil (by rfl) (by rfl) (by rfl) (by rfl) ?_
  rintro r h' ⟨rfl, rfl⟩
  simp only [sx, x_box, x_alloc, x_bslice, x_slice, x_append, x_b2s, xop, ev, evs, evParts, fillL, cellsL, Ai.get, Ai.put, stab, isNil?, if_false, if_true, addr?, int?, str?, agg?, bool?, shiftA, FnPost, xresL, xres1, tup, argEnv, ptr, Nat.reduceEqDiff, reduceIte, beq_self_eq_true, ne_eq, Nat.reduceAdd, Nat.reduceMul, Nat.reduceSub, abin_shl, abin_shr, load1V, loadV, storeV, cellsAt, getN, setN, allocV, lenL, lenS, bnd, oneC, Value.oneCell', Nat.reduceLeDiff, Nat.reduceLT, exists_eq_left', forall_const, reduceCtorEq, app_new, app_new0, List.append_assoc, Int.reduceToNat, Int.reduceLT, Int.reduceLE, Int.reduceEq, Int.reduceNe, Int.reduceBEq, IntKind.bits, bne_self_eq_false, Int.reducePow, UP.zero, UP.cells]
  exact Kp.app _ _
theorem unit_zero (h : AHeap) : UV h (.agg (UP.zero.cells (.slice none 0 0)).toArray) UP.zero := ⟨_, rfl, none, 0, rfl, by decide, .inl rfl⟩
def zeroC : List Value := [.int .u8 0, .bool false, .int .u8 0, .bool false, .int .u8 0, .int .u8 0, .slice none 0 0]
def BE.unit0 (e : BE) : List Value := [.int .u8 (e.acc : Int), .bool true, .int .u8 0, .bool true, .int .u8 0, .int .u8 0, .slice none 0 0]
theorem LoadW.cells {h : AHeap} {v : Value} {zs : List Int} (l : LoadW h v zs) : cellsL v = [v] := by
  obtain ⟨q, c, rfl, -⟩ := l; rfl
/-- another block is written -/
theorem BAt.aside {h : AHeap} {X : Nat} {e : BE} {qv ov : Value} (E : BAt h X e qv ov) {U : Nat} {cs : List Value} (hU : h[U]? = some (some ⟨true, cs⟩)) (hd : ∀ B, foot X qv ov B → B ≠ U) (cs' : List Value) : BAt (h.set U (some ⟨true, cs'⟩)) X e qv ov ∧ Frz h (h.set U (some ⟨true, cs'⟩)) := by
  have z : Frz h (h.set U (some ⟨true, cs'⟩)) := fun B cs hB => by
    rw [set_ne (fun e1 => by rw [← e1, hU] at hB; cases hB)]; exact hB
  exact ⟨E.keep z fun B hB => set_ne (fun e1 => hd B hB e1.symm) _, z⟩
set_option maxHeartbeats 4000000 in
set_option maxRecDepth 20000 in
theorem next_okV {h : AHeap} {X : Nat} {e : BE} {qv ov : Value} (E : BAt h X e qv ov) : Valid Try.prog 13 [.pointer (some ⟨X, 0, none⟩)] h fun r h' => (∃ lv, r = .tuple #[.agg (e.next.2.1.cells lv).toArray, .int .i64 e.next.2.2] ∧ LoadW h' lv e.next.2.1.load ∧ (e.next.2.1.kind = 2 → LoadV h' lv e.next.2.1.load)) ∧ Went h h' X e.next.1 qv ov := by
  refine v13 (by simp) ?_
  simp only [X13, sx, x_box, x_bslice, x_slice, x_append, x_b2s, xop, ev, evs, evParts, fillL, cellsL, Ai.get, Ai.put, stab, isNil?, if_false, if_true, addr?, int?, str?, agg?, bool?, shiftA, FnPost, xresL, xres1, tup, argEnv, ptr, Nat.reduceEqDiff, reduceIte, beq_self_eq_true, ne_eq, Nat.reduceAdd, Nat.reduceMul, Nat.reduceSub, abin_shl, abin_shr, load1V, loadV, storeV, cellsAt, getN, setN, allocV, lenL, lenS, bnd, oneC, Value.oneCell', Nat.reduceLeDiff, Nat.reduceLT, exists_eq_left', forall_const, reduceCtorEq, app_new, app_new0, List.append_assoc, Int.reduceToNat, Int.reduceLT, Int.reduceLE, Int.reduceEq, Int.reduceNe, Int.reduceBEq, IntKind.bits, bne_self_eq_false, Int.reducePow]
  refine alloc_run fun g R K0 hR hRl _ => ?_
  have E0 := E.kp K0
  have hXl := E.lt (.inl rfl)
  simp only [sx, x_box, x_alloc, x_bslice, x_slice, x_append, x_b2s, xop, ev, evs, evParts, fillL, cellsL, Ai.get, Ai.put, stab, isNil?, if_false, if_true, addr?, int?, str?, agg?, bool?, shiftA, FnPost, xresL, xres1, tup, argEnv, ptr, Nat.reduceEqDiff, reduceIte, beq_self_eq_true, ne_eq, Nat.reduceAdd, Nat.reduceMul, Nat.reduceSub, abin_shl, abin_shr, load1V, loadV, storeV, cellsAt, getN, setN, allocV, lenL, lenS, bnd, oneC, Value.oneCell', Nat.reduceLeDiff, Nat.reduceLT, exists_eq_left', forall_const, reduceCtorEq, app_new, app_new0, List.append_assoc, Int.reduceToNat, Int.reduceLT, Int.reduceLE, Int.reduceEq, Int.reduceNe, Int.reduceBEq, IntKind.bits, bne_self_eq_false, Int.reducePow]
  refine xcall (state_ok E0) (by rfl) (by rfl) (by rfl) (by rfl) ?_
  rintro r h' ⟨rfl, rfl⟩
  unfold BE.next
  by_cases hs : e.st = 0
  rotate_left
  · rw [if_pos hs]
    simp only [sx, x_box, x_alloc, x_bslice, x_slice, x_append, x_b2s, xop, ev, evs, evParts, fillL, cellsL, Ai.get, Ai.put, stab, isNil?, if_false, if_true, addr?, int?, str?, agg?, bool?, shiftA, FnPost, xresL, xres1, tup, argEnv, ptr, Nat.reduceEqDiff, reduceIte, beq_self_eq_true, ne_eq, Nat.reduceAdd, Nat.reduceMul, Nat.reduceSub, abin_shl, abin_shr, load1V, loadV, storeV, cellsAt, getN, setN, allocV, lenL, lenS, bnd, oneC, Value.oneCell', Nat.reduceLeDiff, Nat.reduceLT, exists_eq_left', forall_const, reduceCtorEq, app_new, app_new0, List.append_assoc, Int.reduceToNat, Int.reduceLT, Int.reduceLE, Int.reduceEq, Int.reduceNe, Int.reduceBEq, IntKind.bits, bne_self_eq_false, Int.reducePow, hs, hR, set_here]
    exact ⟨⟨.slice none 0 0, rfl, ⟨none, 0, rfl, by decide, .inl rfl⟩, fun h => absurd h (by decide)⟩, E.same (K0.set hRl _)⟩
  rw [if_neg (by simp [hs])]
  have hX := E0.obj
  have hXR : X ≠ R := by omega
  simp only [BE.cells] at hX
  simp only [sx, x_box, x_bslice, x_slice, x_append, x_b2s, xop, ev, evs, evParts, fillL, cellsL, Ai.get, Ai.put, stab, isNil?, if_false, if_true, addr?, int?, str?, agg?, bool?, shiftA, FnPost, xresL, xres1, tup, argEnv, ptr, Nat.reduceEqDiff, reduceIte, beq_self_eq_true, ne_eq, Nat.reduceAdd, Nat.reduceMul, Nat.reduceSub, abin_shl, abin_shr, load1V, loadV, storeV, cellsAt, getN, setN, allocV, lenL, lenS, bnd, oneC, Value.oneCell', Nat.reduceLeDiff, Nat.reduceLT, exists_eq_left', forall_const, reduceCtorEq, app_new, app_new0, List.append_assoc, Int.reduceToNat, Int.reduceLT, Int.reduceLE, Int.reduceEq, Int.reduceNe, Int.reduceBEq, IntKind.bits, bne_self_eq_false, Int.reducePow, hs, hX]
  refine alloc_run fun g1 U K1 hU hUl _ => ?_
  have hRg := lt_of_get hR
  have hK0 := K0.1
  have hXU : X ≠ U := by omega
  have hRU : R ≠ U := by omega
  replace hX := K1.get hX
  replace hR := K1.get hR
  have K01 := K0.trans K1
  have E1 := E0.kp K1
  clear K0 K1 E0
  have s2 := set_far hXU.symm
  have s6 := set_far hRU.symm
  simp only [sx, x_box, x_alloc, x_bslice, x_slice, x_append, x_b2s, xop, ev, evs, evParts, fillL, cellsL, Ai.get, Ai.put, stab, isNil?, if_false, if_true, addr?, int?, str?, agg?, bool?, shiftA, FnPost, xresL, xres1, tup, argEnv, ptr, Nat.reduceEqDiff, reduceIte, beq_self_eq_true, ne_eq, Nat.reduceAdd, Nat.reduceMul, Nat.reduceSub, abin_shl, abin_shr, load1V, loadV, storeV, cellsAt, getN, setN, allocV, lenL, lenS, bnd, oneC, Value.oneCell', Nat.reduceLeDiff, Nat.reduceLT, exists_eq_left', forall_const, reduceCtorEq, app_new, app_new0, List.append_assoc, Int.reduceToNat, Int.reduceLT, Int.reduceLE, Int.reduceEq, Int.reduceNe, Int.reduceBEq, IntKind.bits, bne_self_eq_false, Int.reducePow, hX, hU]
  have U0 : (g1.set U (some ⟨true, e.unit0⟩))[U]? = some (some ⟨true, e.unit0⟩) := by rw [set_here, hU]; rfl
  have K02 : Kp h (g1.set U (some ⟨true, e.unit0⟩)) := K01.set (by omega) _
  have R0 : (g1.set U (some ⟨true, e.unit0⟩))[R]? = some (some ⟨true, zeroC⟩) := (s6 _ _).trans hR
  have E2 := E.kp K02
  change xops Try.prog _ _ _ (g1.set U (some ⟨true, e.unit0⟩))
  generalize g1.set U (some ⟨true, e.unit0⟩) = g2 at *
  clear hX hU hR E1 K01
  refine xcall (choose_ok E2) (by rfl) (by rfl) (by rfl) (by rfl) ?_
  rintro r g3 ⟨⟨v, rfl, hv⟩, qv', ov', E3, F3, D3⟩
  unfold BE.unit
  have hRl2 := lt_of_get R0
  have hUl2 := lt_of_get U0
  have hFR : ¬ foot X qv ov R := fun hB => by have := E.lt hB; omega
  have hFU : ¬ foot X qv ov U := fun hB => by have := E.lt hB; omega
  have R3 := F3.get R0 hFR
  have U3 := F3.get U0 hFU
  have hg2 := K02.1
  have F03 : Fr (foot X qv ov) h g3 := (K02.fr _).trans F3 fun B hB => .inl hB
  have D03 : ∀ B, foot X qv' ov' B → foot X qv ov B ∨ h.length ≤ B := fun B hB => (D3 B hB).elim .inl fun h1 => .inr (by omega)
  have nU : ∀ B, foot X qv' ov' B → B ≠ U := fun B hB e1 => by
    rcases D3 B hB with h1 | h1
    · exact hFU (by rw [← e1]; exact h1)
    · omega
  have nR : ∀ B, foot X qv' ov' B → B ≠ R := fun B hB e1 => by
    rcases D3 B hB with h1 | h1
    · exact hFR (by rw [← e1]; exact h1)
    · omega
  clear E2 K02
  obtain ⟨n, hn⟩ : ∃ n, n = e.choose.2.1 := ⟨_, rfl⟩
  rw [← hn]
  generalize e.choose.2.2 = ol at *
  generalize e.choose.1 = f at *
  simp only [BE.unit0] at U3
  obtain ⟨E4, z4⟩ := E3.aside U3 nU [.int .u8 (e.acc : Int), .bool true, .int .u8 (n : Int), .bool true, .int .u8 0, .int .u8 0, .slice none 0 0]
  have F4 := F03.aside (U := U) (by omega) (some ⟨true, [.int .u8 (e.acc : Int), .bool true, .int .u8 (n : Int), .bool true, .int .u8 0, .int .u8 0, .slice none 0 0]⟩)
  have R4 : (g3.set U (some ⟨true, [.int .u8 (e.acc : Int), .bool true, .int .u8 (n : Int), .bool true, .int .u8 0, .int .u8 0, .slice none 0 0]⟩))[R]? = some (some ⟨true, zeroC⟩) := (s6 _ _).trans R3
  have U4 : (g3.set U (some ⟨true, [.int .u8 (e.acc : Int), .bool true, .int .u8 (n : Int), .bool true, .int .u8 0, .int .u8 0, .slice none 0 0]⟩))[U]? = some (some ⟨true, [.int .u8 (e.acc : Int), .bool true, .int .u8 (n : Int), .bool true, .int .u8 0, .int .u8 0, .slice none 0 0]⟩) := by rw [set_here, U3]; rfl
  cases ol with
  | none =>
    simp only at hv
    subst hv
    simp only [zeroC] at R4
    simp only [sx, x_box, x_alloc, x_bslice, x_slice, x_append, x_b2s, xop, ev, evs, evParts, fillL, cellsL, Ai.get, Ai.put, stab, isNil?, if_false, if_true, addr?, int?, str?, agg?, bool?, shiftA, FnPost, xresL, xres1, tup, argEnv, ptr, Nat.reduceEqDiff, reduceIte, beq_self_eq_true, ne_eq, Nat.reduceAdd, Nat.reduceMul, Nat.reduceSub, abin_shl, abin_shr, load1V, loadV, storeV, cellsAt, getN, setN, allocV, lenL, lenS, bnd, oneC, Value.oneCell', Nat.reduceLeDiff, Nat.reduceLT, exists_eq_left', forall_const, reduceCtorEq, app_new, app_new0, List.append_assoc, Int.reduceToNat, Int.reduceLT, Int.reduceLE, Int.reduceEq, Int.reduceNe, Int.reduceBEq, IntKind.bits, bne_self_eq_false, Int.reducePow, ← hn, U3]
    generalize (g3.set U (some ⟨true, [Value.int .u8 (e.acc : Int), .bool true, .int .u8 (n : Int), .bool true, .int .u8 0, .int .u8 0, .slice none 0 0]⟩)) = g4 at *
    simp only [sx, x_box, x_alloc, x_bslice, x_slice, x_append, x_b2s, xop, ev, evs, evParts, fillL, cellsL, Ai.get, Ai.put, stab, isNil?, if_false, if_true, addr?, int?, str?, agg?, bool?, shiftA, FnPost, xresL, xres1, tup, argEnv, ptr, Nat.reduceEqDiff, reduceIte, beq_self_eq_true, ne_eq, Nat.reduceAdd, Nat.reduceMul, Nat.reduceSub, abin_shl, abin_shr, load1V, loadV, storeV, cellsAt, getN, setN, allocV, lenL, lenS, bnd, oneC, Value.oneCell', Nat.reduceLeDiff, Nat.reduceLT, exists_eq_left', forall_const, reduceCtorEq, app_new, app_new0, List.append_assoc, Int.reduceToNat, Int.reduceLT, Int.reduceLE, Int.reduceEq, Int.reduceNe, Int.reduceBEq, IntKind.bits, bne_self_eq_false, Int.reducePow, U4, R4, set_here]
    obtain ⟨E5, z5⟩ := E4.aside R4 nR [.int .u8 (e.acc : Int), .bool true, .int .u8 (n : Int), .bool true, .int .u8 0, .int .u8 0, .slice none 0 0]
    exact ⟨⟨.slice none 0 0, rfl, ⟨none, 0, rfl, by simp, .inl rfl⟩⟩, _, _, E5, F4.aside hRl _, D03⟩
  | some z =>
    simp only at hv
    have hv4 := hv.frz z4
    have hv' := hv
    obtain ⟨B, hvB, -, z0, z300⟩ := hv'
    subst hvB
    simp only [sx, x_box, x_alloc, x_bslice, x_slice, x_append, x_b2s, xop, ev, evs, evParts, fillL, cellsL, Ai.get, Ai.put, stab, isNil?, if_false, if_true, addr?, int?, str?, agg?, bool?, shiftA, FnPost, xresL, xres1, tup, argEnv, ptr, Nat.reduceEqDiff, reduceIte, beq_self_eq_true, ne_eq, Nat.reduceAdd, Nat.reduceMul, Nat.reduceSub, abin_shl, abin_shr, load1V, loadV, storeV, cellsAt, getN, setN, allocV, lenL, lenS, bnd, oneC, Value.oneCell', Nat.reduceLeDiff, Nat.reduceLT, exists_eq_left', forall_const, reduceCtorEq, app_new, app_new0, List.append_assoc, Int.reduceToNat, Int.reduceLT, Int.reduceLE, Int.reduceEq, Int.reduceNe, Int.reduceBEq, IntKind.bits, bne_self_eq_false, Int.reducePow, ← hn, U3]
    generalize (g3.set U (some ⟨true, [Value.int .u8 (e.acc : Int), .bool true, .int .u8 (n : Int), .bool true, .int .u8 0, .int .u8 0, .slice none 0 0]⟩)) = g4 at *
    refine xcall (copied_ok hv4.w z0 z300) (by rfl) (by rfl) (by rfl) (by rfl) ?_
    rintro r g5 ⟨L5, K5⟩
    have E5 := E4.kp K5
    have F5 := F4.kp K5
    have U5 := K5.get U4
    have R5 := K5.get R4
    have L5' := L5
    obtain ⟨B5, hB5, -⟩ := L5'
    subst hB5
    simp only [zeroC] at R5
    have s7 := set_far hRU
    simp only [sx, x_box, x_alloc, x_bslice, x_slice, x_append, x_b2s, xop, ev, evs, evParts, fillL, cellsL, Ai.get, Ai.put, stab, isNil?, if_false, if_true, addr?, int?, str?, agg?, bool?, shiftA, FnPost, xresL, xres1, tup, argEnv, ptr, Nat.reduceEqDiff, reduceIte, beq_self_eq_true, ne_eq, Nat.reduceAdd, Nat.reduceMul, Nat.reduceSub, abin_shl, abin_shr, load1V, loadV, storeV, cellsAt, getN, setN, allocV, lenL, lenS, bnd, oneC, Value.oneCell', Nat.reduceLeDiff, Nat.reduceLT, exists_eq_left', forall_const, reduceCtorEq, app_new, app_new0, List.append_assoc, Int.reduceToNat, Int.reduceLT, Int.reduceLE, Int.reduceEq, Int.reduceNe, Int.reduceBEq, IntKind.bits, bne_self_eq_false, Int.reducePow, U5, R5, set_here, s6, s7, List.set_set]
    obtain ⟨E6, z6⟩ := E5.aside U5 nU [.int .u8 (e.acc : Int), .bool true, .int .u8 (n : Int), .bool true, .int .u8 2, .int .u8 0, .slice (some ⟨B5, 0, none⟩) z.length z.length]
    have R6 := (s6 (g5) (some ⟨true, [.int .u8 (e.acc : Int), .bool true, .int .u8 (n : Int), .bool true, .int .u8 2, .int .u8 0, .slice (some ⟨B5, 0, none⟩) z.length z.length]⟩)).trans R5
    obtain ⟨E7, z7⟩ := E6.aside R6 nR [.int .u8 (e.acc : Int), .bool true, .int .u8 (n : Int), .bool true, .int .u8 2, .int .u8 0, .slice (some ⟨B5, 0, none⟩) z.length z.length]
    exact ⟨⟨.slice (some ⟨B5, 0, none⟩) z.length z.length, rfl, ((L5.frz z6).frz z7).w, (L5.frz z6).frz z7⟩, _, _, E7, (F5.aside (by omega) _).aside hRl _, D03⟩
theorem next_ok {h : AHeap} {X : Nat} {e : BE} {qv ov : Value} (E : BAt h X e qv ov) : Valid Try.prog 13 [.pointer (some ⟨X, 0, none⟩)] h fun r h' => (∃ v, r = .tuple #[v, .int .i64 e.next.2.2] ∧ UV h' v e.next.2.1) ∧ Went h h' X e.next.1 qv ov :=
  (next_okV E).mono fun r h' ⟨⟨lv, k1, k2, _⟩, k3⟩ => ⟨⟨_, k1, lv, rfl, k2⟩, k3⟩
end Go.Proofs.Ytkbpfebohpdgbaa
