import Derived.Test.YtcpcngamfncpdaaS2
set_option linter.unusedVariables false
set_option linter.unusedSimpArgs false
namespace Go.Proofs.Ytcpcngamfncpdaa
open Go Go.Ai Go.Proofs

theorem frz_set {h : AHeap} {X : Nat} {c : List Value} (hX : h[X]? = some (some ⟨true, c⟩)) (o : Option AObj) : Frz h (h.set X o) := fun B cs hB => by
  rw [set_ne (fun e1 => by rw [← e1, hX] at hB; cases hB)]; exact hB
def unitB (e : BE) : List Value := [.int .u8 (e.acc : Int), .bool e.bb, .int .u8 0, .bool e.fb, .int .u8 0, .int .u8 0, .slice none 0 0]
set_option maxHeartbeats 8000000 in
set_option maxRecDepth 20000 in
theorem mnext_ok {h : AHeap} {M g s a : Nat} {e : BE} (X : EX e g s a) (hM : h[M]? = some (some ⟨true, MC e g s a⟩)) (hfl : e.fl = false) :
    Valid Try.prog 31 [.pointer (some ⟨M, 0, none⟩)] h fun r h' => (∃ lv, r = .agg (e.next.2.1.cells lv).toArray ∧ LoadW h' lv e.next.2.1.load) ∧ Fr (· = M) h h' ∧ ∃ s', h'[M]? = some (some ⟨true, MC e.next.1 g s' a⟩) ∧ EX e.next.1 g s' a := by
  refine v31 (by simp) ?_
  have hMl := lt_of_get hM
  simp only [X31, sx, x_box, x_bslice, x_slice, x_append, x_b2s, xop, ev, evs, evParts, fillL, cellsL, Ai.get, Ai.put, stab, isNil?, if_false, if_true, addr?, int?, str?, agg?, bool?, shiftA, FnPost, xresL, xres1, tup, argEnv, ptr, Nat.reduceEqDiff, reduceIte, beq_self_eq_true, ne_eq, Nat.reduceAdd, Nat.reduceMul, Nat.reduceSub, abin_shl, abin_shr, load1V, loadV, storeV, cellsAt, getN, setN, allocV, lenL, lenS, bnd, oneC, Value.oneCell', Nat.reduceLeDiff, Nat.reduceLT, exists_eq_left', forall_const, reduceCtorEq, app_new, app_new0, List.append_assoc, Int.reduceToNat, Int.reduceLT, Int.reduceLE, Int.reduceEq, Int.reduceNe, Int.reduceBEq, IntKind.bits, bne_self_eq_false, Int.reducePow]
  refine alloc_run fun g1 R K1 hR hRl _ => ?_
  have hM1 := K1.get hM
  have hM1' := hM1
  simp only [MC] at hM1'
  simp only [sx, x_box, x_bslice, x_slice, x_append, x_b2s, xop, ev, evs, evParts, fillL, cellsL, Ai.get, Ai.put, stab, isNil?, if_false, if_true, addr?, int?, str?, agg?, bool?, shiftA, FnPost, xresL, xres1, tup, argEnv, ptr, Nat.reduceEqDiff, reduceIte, beq_self_eq_true, ne_eq, Nat.reduceAdd, Nat.reduceMul, Nat.reduceSub, abin_shl, abin_shr, load1V, loadV, storeV, cellsAt, getN, setN, allocV, lenL, lenS, bnd, oneC, Value.oneCell', Nat.reduceLeDiff, Nat.reduceLT, exists_eq_left', forall_const, reduceCtorEq, app_new, app_new0, List.append_assoc, Int.reduceToNat, Int.reduceLT, Int.reduceLE, Int.reduceEq, Int.reduceNe, Int.reduceBEq, IntKind.bits, bne_self_eq_false, Int.reducePow, hM1']
  refine alloc_run fun g2 U K2 hU hUl _ => ?_
  have hM2 := K2.get hM1
  have hR2 := K2.get hR
  have hRl2 := lt_of_get hR
  have hK1 := K1.1
  have hMR : M ≠ R := by omega
  have hMU : M ≠ U := by omega
  have hRU : R ≠ U := by omega
  have hM2' := hM2
  simp only [MC] at hM2'
  have hN := X.next hfl
  have h1 := X.h1
  have h2 := X.h2
  have h3 := X.h3
  have h6 := X.h6
  have hg := X.hg
  have sUM := set_far hMU.symm
  have sMU := set_far hMU
  have sUR := set_far hRU.symm
  have sRU := set_far hRU
  have sMR := set_far hMR
  have sRM := set_far hMR.symm
  have hw5 : IntKind.i64.wrap ((s : Int) - a) = ((s - a : Nat) : Int) := by rw [i64_wrap (by omega) (by omega)]; omega
  have hw1 : IntKind.i64.wrap ((s : Int) + 1) = ((s + 1 : Nat) : Int) := by rw [i64_wrap] <;> omega
  have hUh : h.length ≤ U := by omega
  rcases hN with ⟨n1, n2, n3, hN, XN⟩ | ⟨n1, hN, XN⟩ | ⟨n1, n2, hN⟩
  · have e1 : ((s - e.again : Nat) : Int) = s := by omega
    have e2 : (s : Int) < g := by omega
    have e3 : ((s - a : Nat) : Int) < 127 := by omega
    have e4 : (s : Int) < ((s + 1 : Nat) : Int) := by omega
    simp only [sx, x_box, x_alloc, x_bslice, x_slice, x_append, x_b2s, xop, ev, evs, evParts, fillL, cellsL, Ai.get, Ai.put, stab, isNil?, if_false, if_true, addr?, int?, str?, agg?, bool?, shiftA, FnPost, xresL, xres1, tup, argEnv, ptr, Nat.reduceEqDiff, reduceIte, beq_self_eq_true, ne_eq, Nat.reduceAdd, Nat.reduceMul, Nat.reduceSub, abin_shl, abin_shr, load1V, loadV, storeV, cellsAt, getN, setN, allocV, lenL, lenS, bnd, oneC, Value.oneCell', Nat.reduceLeDiff, Nat.reduceLT, exists_eq_left', forall_const, reduceCtorEq, app_new, app_new0, List.append_assoc, Int.reduceToNat, Int.reduceLT, Int.reduceLE, Int.reduceEq, Int.reduceNe, Int.reduceBEq, IntKind.bits, bne_self_eq_false, Int.reducePow, hU, hM2', sUM, sMU, set_here, e1, e2, e3, e4, hw5, hw1]
    refine xcall (message_ok (k := s) (by omega)) (by rfl) (by rfl) (by rfl) (by rfl) ?_
    rintro r g10 ⟨L, K10⟩
    have U7 : g10[U]? = some (some ⟨true, [.int .u8 (e.acc : Int), .bool e.bb, .int .u8 0, .bool e.fb, .int .u8 2, .int .u8 0, .slice none 0 0]⟩) := K10.get (by simp only [set_here, sMU, hU, Option.map_some])
    have M7 : g10[M]? = some (some ⟨true, [.int .i64 (g : Int), .int .i64 ((s + 1 : Nat) : Int), .int .i64 (a : Int), .int .i64 (s : Int), .bool e.fb, .int .u8 (e.acc : Int), .bool e.bb, .bool e.a0, .bool e.a1, .bool e.fl]⟩) := K10.get (by simp only [set_here, sUM, hM2', Option.map_some])
    have R7 : g10[R]? = some (some ⟨true, zeroC⟩) := K10.get (by simp only [sUR, sMR]; exact hR2)
    have F7 : Fr (· = M) h g10 := Fr.kp (((((K1.trans K2).fr _).aside hUh _).trans (Fr.set (S := (· = M)) (X := M) _ rfl) fun B h => .inl h).aside hUh _) K10
    clear K10
    simp only [zeroC] at R7
    obtain ⟨B, rfl, -⟩ := id L
    simp only [sx, x_box, x_alloc, x_bslice, x_slice, x_append, x_b2s, xop, ev, evs, evParts, fillL, cellsL, Ai.get, Ai.put, stab, isNil?, if_false, if_true, addr?, int?, str?, agg?, bool?, shiftA, FnPost, xresL, xres1, tup, argEnv, ptr, Nat.reduceEqDiff, reduceIte, beq_self_eq_true, ne_eq, Nat.reduceAdd, Nat.reduceMul, Nat.reduceSub, abin_shl, abin_shr, load1V, loadV, storeV, cellsAt, getN, setN, allocV, lenL, lenS, bnd, oneC, Value.oneCell', Nat.reduceLeDiff, Nat.reduceLT, exists_eq_left', forall_const, reduceCtorEq, app_new, app_new0, List.append_assoc, Int.reduceToNat, Int.reduceLT, Int.reduceLE, Int.reduceEq, Int.reduceNe, Int.reduceBEq, IntKind.bits, bne_self_eq_false, Int.reducePow, U7, M7, sUM, sMU, set_here, hw1]
    refine xcall (number_ok (k := s + 1) (by omega)) (by rfl) (by rfl) (by rfl) (by rfl) ?_
    rintro r g11 ⟨rfl, rfl⟩
    simp only [sx, x_box, x_alloc, x_bslice, x_slice, x_append, x_b2s, xop, ev, evs, evParts, fillL, cellsL, Ai.get, Ai.put, stab, isNil?, if_false, if_true, addr?, int?, str?, agg?, bool?, shiftA, FnPost, xresL, xres1, tup, argEnv, ptr, Nat.reduceEqDiff, reduceIte, beq_self_eq_true, ne_eq, Nat.reduceAdd, Nat.reduceMul, Nat.reduceSub, abin_shl, abin_shr, load1V, loadV, storeV, cellsAt, getN, setN, allocV, lenL, lenS, bnd, oneC, Value.oneCell', Nat.reduceLeDiff, Nat.reduceLT, exists_eq_left', forall_const, reduceCtorEq, app_new, app_new0, List.append_assoc, Int.reduceToNat, Int.reduceLT, Int.reduceLE, Int.reduceEq, Int.reduceNe, Int.reduceBEq, IntKind.bits, bne_self_eq_false, Int.reducePow, U7, M7, R7, sUM, sMU, sRU, sUR, sMR, sRM, set_here]
    rw [hN]
    refine ⟨⟨.slice (some ⟨B, 0, none⟩) (msg s).length (msg s).length, rfl, ?_⟩, ?_, s + 1, ?_, XN⟩
    · refine L.w.frz (fun Y cs hY => ?_)
      have y1 : U ≠ Y := fun e => by rw [← e, U7] at hY; cases hY
      have y2 : M ≠ Y := fun e => by rw [← e, M7] at hY; cases hY
      have y3 : R ≠ Y := fun e => by rw [← e, R7] at hY; cases hY
      simp only [set_far y1, set_far y2, set_far y3]; exact hY
    · exact (((F7.aside hUh _).trans (Fr.set (S := (· = M)) (X := M) _ rfl) fun B h => .inl h).aside hUh _).aside hRl _
    · simp only [sRM, sUM, set_here, M7, Option.map_some, MC, Nat.sub_zero]
  · have e1 : ¬ ((s - e.again : Nat) : Int) = s := by omega
    have e4 : ((s - e.again : Nat) : Int) < s := by omega
    have hw2 : IntKind.i64.wrap (((s - e.again : Nat) : Int) + 1) = ((s - e.again + 1 : Nat) : Int) := by rw [i64_wrap] <;> omega
    simp only [sx, x_box, x_alloc, x_bslice, x_slice, x_append, x_b2s, xop, ev, evs, evParts, fillL, cellsL, Ai.get, Ai.put, stab, isNil?, if_false, if_true, addr?, int?, str?, agg?, bool?, shiftA, FnPost, xresL, xres1, tup, argEnv, ptr, Nat.reduceEqDiff, reduceIte, beq_self_eq_true, ne_eq, Nat.reduceAdd, Nat.reduceMul, Nat.reduceSub, abin_shl, abin_shr, load1V, loadV, storeV, cellsAt, getN, setN, allocV, lenL, lenS, bnd, oneC, Value.oneCell', Nat.reduceLeDiff, Nat.reduceLT, exists_eq_left', forall_const, reduceCtorEq, app_new, app_new0, List.append_assoc, Int.reduceToNat, Int.reduceLT, Int.reduceLE, Int.reduceEq, Int.reduceNe, Int.reduceBEq, IntKind.bits, bne_self_eq_false, Int.reducePow, hU, hM2', sUM, sMU, set_here, e1, e4, hw5, hw1]
    refine xcall (message_ok (k := s - e.again) (by omega)) (by rfl) (by rfl) (by rfl) (by rfl) ?_
    rintro r g10 ⟨L, K10⟩
    have U7 : g10[U]? = some (some ⟨true, [.int .u8 (e.acc : Int), .bool e.bb, .int .u8 0, .bool e.fb, .int .u8 2, .int .u8 0, .slice none 0 0]⟩) := K10.get (by simp only [set_here, sMU, hU, Option.map_some])
    have M7 : g10[M]? = some (some ⟨true, [.int .i64 (g : Int), .int .i64 (s : Int), .int .i64 (a : Int), .int .i64 ((s - e.again : Nat) : Int), .bool e.fb, .int .u8 (e.acc : Int), .bool e.bb, .bool e.a0, .bool e.a1, .bool e.fl]⟩) := K10.get (by simp only [set_here, sUM, hM2', Option.map_some])
    have R7 : g10[R]? = some (some ⟨true, zeroC⟩) := K10.get (by simp only [sUR, sMR]; exact hR2)
    have F7 : Fr (· = M) h g10 := Fr.kp ((((K1.trans K2).fr _).aside hUh _).aside hUh _) K10
    clear K10
    simp only [zeroC] at R7
    obtain ⟨B, rfl, -⟩ := id L
    simp only [sx, x_box, x_alloc, x_bslice, x_slice, x_append, x_b2s, xop, ev, evs, evParts, fillL, cellsL, Ai.get, Ai.put, stab, isNil?, if_false, if_true, addr?, int?, str?, agg?, bool?, shiftA, FnPost, xresL, xres1, tup, argEnv, ptr, Nat.reduceEqDiff, reduceIte, beq_self_eq_true, ne_eq, Nat.reduceAdd, Nat.reduceMul, Nat.reduceSub, abin_shl, abin_shr, load1V, loadV, storeV, cellsAt, getN, setN, allocV, lenL, lenS, bnd, oneC, Value.oneCell', Nat.reduceLeDiff, Nat.reduceLT, exists_eq_left', forall_const, reduceCtorEq, app_new, app_new0, List.append_assoc, Int.reduceToNat, Int.reduceLT, Int.reduceLE, Int.reduceEq, Int.reduceNe, Int.reduceBEq, IntKind.bits, bne_self_eq_false, Int.reducePow, U7, M7, sUM, sMU, set_here, hw2]
    refine xcall (number_ok (k := s - e.again + 1) (by omega)) (by rfl) (by rfl) (by rfl) (by rfl) ?_
    rintro r g11 ⟨rfl, rfl⟩
    simp only [sx, x_box, x_alloc, x_bslice, x_slice, x_append, x_b2s, xop, ev, evs, evParts, fillL, cellsL, Ai.get, Ai.put, stab, isNil?, if_false, if_true, addr?, int?, str?, agg?, bool?, shiftA, FnPost, xresL, xres1, tup, argEnv, ptr, Nat.reduceEqDiff, reduceIte, beq_self_eq_true, ne_eq, Nat.reduceAdd, Nat.reduceMul, Nat.reduceSub, abin_shl, abin_shr, load1V, loadV, storeV, cellsAt, getN, setN, allocV, lenL, lenS, bnd, oneC, Value.oneCell', Nat.reduceLeDiff, Nat.reduceLT, exists_eq_left', forall_const, reduceCtorEq, app_new, app_new0, List.append_assoc, Int.reduceToNat, Int.reduceLT, Int.reduceLE, Int.reduceEq, Int.reduceNe, Int.reduceBEq, IntKind.bits, bne_self_eq_false, Int.reducePow, U7, M7, R7, sUM, sMU, sRU, sUR, sMR, sRM, set_here]
    rw [hN]
    refine ⟨⟨.slice (some ⟨B, 0, none⟩) (msg (s - e.again)).length (msg (s - e.again)).length, rfl, ?_⟩, ?_, s, ?_, XN⟩
    · refine L.w.frz (fun Y cs hY => ?_)
      have y1 : U ≠ Y := fun e => by rw [← e, U7] at hY; cases hY
      have y2 : M ≠ Y := fun e => by rw [← e, M7] at hY; cases hY
      have y3 : R ≠ Y := fun e => by rw [← e, R7] at hY; cases hY
      simp only [set_far y1, set_far y2, set_far y3]; exact hY
    · exact (((F7.aside hUh _).trans (Fr.set (S := (· = M)) (X := M) _ rfl) fun B h => .inl h).aside hUh _).aside hRl _
    · have e5 : s - (e.again - 1) = s - e.again + 1 := by omega
      simp only [sRM, sUM, set_here, M7, Option.map_some, MC, e5]
  · have e1 : ((s - e.again : Nat) : Int) = s := by omega
    have e4 : ¬ (s : Int) < s := by omega
    by_cases e2 : s < g
    · have e2' : (s : Int) < g := by omega
      have e3 : ¬ ((s - a : Nat) : Int) < 127 := by omega
      simp only [sx, x_box, x_alloc, x_bslice, x_slice, x_append, x_b2s, xop, ev, evs, evParts, fillL, cellsL, Ai.get, Ai.put, stab, isNil?, if_false, if_true, addr?, int?, str?, agg?, bool?, shiftA, FnPost, xresL, xres1, tup, argEnv, ptr, Nat.reduceEqDiff, reduceIte, beq_self_eq_true, ne_eq, Nat.reduceAdd, Nat.reduceMul, Nat.reduceSub, abin_shl, abin_shr, load1V, loadV, storeV, cellsAt, getN, setN, allocV, lenL, lenS, bnd, oneC, Value.oneCell', Nat.reduceLeDiff, Nat.reduceLT, exists_eq_left', forall_const, reduceCtorEq, app_new, app_new0, List.append_assoc, Int.reduceToNat, Int.reduceLT, Int.reduceLE, Int.reduceEq, Int.reduceNe, Int.reduceBEq, IntKind.bits, bne_self_eq_false, Int.reducePow, hU, hM2', sUM, sMU, set_here, e1, e2', e3, e4, hw5, hw1]
      refine xcall (number_ok (k := s) (by omega)) (by rfl) (by rfl) (by rfl) (by rfl) ?_
      rintro r h9 ⟨rfl, rfl⟩
      simp only [sx, x_box, x_alloc, x_bslice, x_slice, x_append, x_b2s, xop, ev, evs, evParts, fillL, cellsL, Ai.get, Ai.put, stab, isNil?, if_false, if_true, addr?, int?, str?, agg?, bool?, shiftA, FnPost, xresL, xres1, tup, argEnv, ptr, Nat.reduceEqDiff, reduceIte, beq_self_eq_true, ne_eq, Nat.reduceAdd, Nat.reduceMul, Nat.reduceSub, abin_shl, abin_shr, load1V, loadV, storeV, cellsAt, getN, setN, allocV, lenL, lenS, bnd, oneC, Value.oneCell', Nat.reduceLeDiff, Nat.reduceLT, exists_eq_left', forall_const, reduceCtorEq, app_new, app_new0, List.append_assoc, Int.reduceToNat, Int.reduceLT, Int.reduceLE, Int.reduceEq, Int.reduceNe, Int.reduceBEq, IntKind.bits, bne_self_eq_false, Int.reducePow, set_here, sUM, sMU, sRU, sUR, sMR, sRM, hU, hM2', hR2, List.set_set]
      rw [hN]
      refine ⟨⟨.slice none 0 0, rfl, none, 0, rfl, by simp, .inl rfl⟩, ?_, s, ?_, X⟩
      · exact (((K1.trans K2).fr _).aside hUh _).aside hRl _
      · simp only [sRM, sUM]; first | rfl | exact hM2
    · have e2' : ¬ (s : Int) < g := by omega
      simp only [sx, x_box, x_alloc, x_bslice, x_slice, x_append, x_b2s, xop, ev, evs, evParts, fillL, cellsL, Ai.get, Ai.put, stab, isNil?, if_false, if_true, addr?, int?, str?, agg?, bool?, shiftA, FnPost, xresL, xres1, tup, argEnv, ptr, Nat.reduceEqDiff, reduceIte, beq_self_eq_true, ne_eq, Nat.reduceAdd, Nat.reduceMul, Nat.reduceSub, abin_shl, abin_shr, load1V, loadV, storeV, cellsAt, getN, setN, allocV, lenL, lenS, bnd, oneC, Value.oneCell', Nat.reduceLeDiff, Nat.reduceLT, exists_eq_left', forall_const, reduceCtorEq, app_new, app_new0, List.append_assoc, Int.reduceToNat, Int.reduceLT, Int.reduceLE, Int.reduceEq, Int.reduceNe, Int.reduceBEq, IntKind.bits, bne_self_eq_false, Int.reducePow, hU, hM2', sUM, sMU, set_here, e1, e2', e4, hw5, hw1]
      refine xcall (number_ok (k := s) (by omega)) (by rfl) (by rfl) (by rfl) (by rfl) ?_
      rintro r h9 ⟨rfl, rfl⟩
      simp only [sx, x_box, x_alloc, x_bslice, x_slice, x_append, x_b2s, xop, ev, evs, evParts, fillL, cellsL, Ai.get, Ai.put, stab, isNil?, if_false, if_true, addr?, int?, str?, agg?, bool?, shiftA, FnPost, xresL, xres1, tup, argEnv, ptr, Nat.reduceEqDiff, reduceIte, beq_self_eq_true, ne_eq, Nat.reduceAdd, Nat.reduceMul, Nat.reduceSub, abin_shl, abin_shr, load1V, loadV, storeV, cellsAt, getN, setN, allocV, lenL, lenS, bnd, oneC, Value.oneCell', Nat.reduceLeDiff, Nat.reduceLT, exists_eq_left', forall_const, reduceCtorEq, app_new, app_new0, List.append_assoc, Int.reduceToNat, Int.reduceLT, Int.reduceLE, Int.reduceEq, Int.reduceNe, Int.reduceBEq, IntKind.bits, bne_self_eq_false, Int.reducePow, set_here, sUM, sMU, sRU, sUR, sMR, sRM, hU, hM2', hR2, List.set_set]
      rw [hN]
      refine ⟨⟨.slice none 0 0, rfl, none, 0, rfl, by simp, .inl rfl⟩, ?_, s, ?_, X⟩
      · exact (((K1.trans K2).fr _).aside hUh _).aside hRl _
      · simp only [sRM, sUM]; first | rfl | exact hM2
end Go.Proofs.Ytcpcngamfncpdaa
