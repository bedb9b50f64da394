import Derived.Test.YtcpcngamfncpdaaD5
set_option linter.unusedVariables false
set_option linter.unusedSimpArgs false
namespace Go.Proofs.Ytcpcngamfncpdaa
open Go Go.Ai Go.Proofs

def BE.ackd (e : BE) (b : Nat) : BE := { e with o := e.o.drop (ahd e.ack b), again := min e.again (e.o.length - ahd e.ack b), ack := b }
def BE.recv (e : BE) (u : UP) : BE × Bool := if u.fb = e.bb then (if u.kind = 2 ∧ u.fore = (aft e.acc 1 : Nat) then ({ e with acc := aft e.acc 1 }, true) else if u.fore = (e.acc : Nat) then (e, false) else ({ e with bb := !e.bb }, false)) else (e, false)

/-- numbers and the list of open loads turn -/
theorem BAt.setO {h : AHeap} {X : Nat} {e : BE} {qv ov ov' : Value} (E : BAt h X e qv ov) (e' : BE) (hq : e'.q = e.q) (Q' : QAt h ov' e'.o) (hs : ∀ B, slB ov' = some B → slB ov = some B) (h1 : e'.sent < 128) (h2 : e'.ack < 128) (h3 : e'.acc < 128) (h4 : e'.o.length ≤ 127) (h6 : e'.again ≤ e'.o.length) : BAt (h.set X (some ⟨true, e'.cells qv ov'⟩)) X e' qv ov' := by
  have z : Frz h (h.set X (some ⟨true, e'.cells qv ov'⟩)) := fun B cs hB => by
    rw [set_ne (fun e1 => by rw [← e1, E.obj] at hB; cases hB)]; exact hB
  exact ⟨set_same E.obj _, by rw [hq]; exact E.q.keep z fun A hA => set_ne (fun e1 => E.n1 (by rw [e1]; exact hA)) _, Q'.keep z fun A hA => set_ne (fun e1 => E.n2 (by rw [e1]; exact hs _ hA)) _, E.n1, fun h => E.n2 (hs _ h), fun B hB hB2 => E.n3 B hB (hs _ hB2), h1, h2, h3, h4, by rw [hq]; exact E.b5, h6⟩
theorem BAt.fset {h : AHeap} {X : Nat} {e : BE} {qv ov : Value} (E : BAt h X e qv ov) (o : Option AObj) : Fr (foot X qv ov) h (h.set X o) := Fr.set o (.inl rfl)

theorem ack_ok {h : AHeap} {X : Nat} {e : BE} {qv ov : Value} {b : Nat} (E : BAt h X e qv ov) (hb : b < 128) (hn : ahd e.ack b ≤ e.o.length) : Valid Try.prog 37 [.pointer (some ⟨X, 0, none⟩), .int .u8 (b : Int)] h fun r h' => ∃ ov', BAt h' X (e.ackd b) qv ov' ∧ Fr (foot X qv ov) h h' ∧ ∀ B, slB ov' = some B → slB ov = some B := by
  refine v37 (by simp) ?_
  have hX := E.obj
  obtain ⟨oa, oc, hov⟩ := E.o.shape
  subst hov
  simp only [BE.cells] at hX
  simp only [X37, sx, x_box, x_alloc, x_bslice, x_slice, x_append, x_appz, x_b2s, x_s2b, x_mark, xop, ev, evs, evParts, fillL, cellsL, Ai.get, Ai.put, stab, isNil?, if_false, if_true, addr?, int?, str?, agg?, bool?, shiftA, FnPost, xresL, xres1, tup, argEnv, ptr, Nat.reduceEqDiff, reduceIte, beq_self_eq_true, ne_eq, Nat.reduceAdd, Nat.reduceMul, Nat.reduceSub, abin_shl, abin_shr, load1V, loadV, storeV, cellsAt, getN, setN, allocV, lenL, lenS, bnd, oneC, Value.oneCell', Nat.reduceLeDiff, Nat.reduceLT, exists_eq_left', forall_const, reduceCtorEq, app_new, app_new0, List.append_assoc, Int.reduceToNat, Int.reduceLT, Int.reduceLE, Int.reduceEq, Int.reduceNe, Int.reduceBEq, IntKind.bits, bne_self_eq_false, Int.reducePow, hX]
  refine xcall (ahead_ok (f := e.ack) (t := b) (by have := E.b2; omega) (by omega)) (by rfl) (by rfl) (by rfl) (by rfl) ?_
  rintro r h' ⟨rfl, rfl⟩
  obtain ⟨sl', hsl, Q', hsb⟩ := E.o.behind hn
  obtain ⟨oa', oc', hsl'⟩ := Q'.shape
  subst hsl'
  simp only [sx, x_box, x_alloc, x_bslice, x_append, x_appz, x_b2s, x_s2b, x_mark, xop, ev, evs, evParts, fillL, cellsL, Ai.get, Ai.put, stab, isNil?, if_false, if_true, addr?, int?, str?, agg?, bool?, shiftA, FnPost, xresL, xres1, tup, argEnv, ptr, Nat.reduceEqDiff, reduceIte, beq_self_eq_true, ne_eq, Nat.reduceAdd, Nat.reduceMul, Nat.reduceSub, abin_shl, abin_shr, load1V, loadV, storeV, cellsAt, getN, setN, allocV, lenL, lenS, bnd, oneC, Value.oneCell', Nat.reduceLeDiff, Nat.reduceLT, exists_eq_left', forall_const, reduceCtorEq, app_new, app_new0, List.append_assoc, Int.reduceToNat, Int.reduceLT, Int.reduceLE, Int.reduceEq, Int.reduceNe, Int.reduceBEq, IntKind.bits, bne_self_eq_false, Int.reducePow, hX]
  rw [x_slice, hsl _ _ _ rfl rfl]
  have h4 := E.b4
  have h6 := E.b6
  have hlen : (e.o.drop (ahd e.ack b)).length = e.o.length - ahd e.ack b := by simp
  by_cases hm : ((e.o.length - ahd e.ack b : Nat) : Int) < e.again
  · have hmin : (e.ackd b).again = e.o.length - ahd e.ack b := by simp only [BE.ackd]; omega
    simp only [sx, x_box, x_alloc, x_bslice, x_slice, x_append, x_appz, x_b2s, x_s2b, x_mark, xop, ev, evs, evParts, fillL, cellsL, Ai.get, Ai.put, stab, isNil?, if_false, if_true, addr?, int?, str?, agg?, bool?, shiftA, FnPost, xresL, xres1, tup, argEnv, ptr, Nat.reduceEqDiff, reduceIte, beq_self_eq_true, ne_eq, Nat.reduceAdd, Nat.reduceMul, Nat.reduceSub, abin_shl, abin_shr, load1V, loadV, storeV, cellsAt, getN, setN, allocV, lenL, lenS, bnd, oneC, Value.oneCell', Nat.reduceLeDiff, Nat.reduceLT, exists_eq_left', forall_const, reduceCtorEq, app_new, app_new0, List.append_assoc, Int.reduceToNat, Int.reduceLT, Int.reduceLE, Int.reduceEq, Int.reduceNe, Int.reduceBEq, IntKind.bits, bne_self_eq_false, Int.reducePow, hX, set_here, hlen, List.foldlM_cons, List.foldlM_nil, hm]
    refine ⟨_, ?_, (((E.fset _).trans (Fr.set _ (.inl rfl)) (fun B h => .inl h)).trans (Fr.set _ (.inl rfl)) (fun B h => .inl h)), hsb⟩
    simp only [List.set_set]
    rw [← hlen]
    have := E.setO (e.ackd b) rfl Q' hsb E.b1 hb E.b3 (by simp only [BE.ackd, hlen]; omega) (by rw [hmin]; simp only [BE.ackd, hlen]; omega)
    simp only [BE.cells, hmin] at this
    rw [hlen] at this ⊢
    exact this
  · have hmin : (e.ackd b).again = e.again := by simp only [BE.ackd]; omega
    simp only [sx, x_box, x_alloc, x_bslice, x_slice, x_append, x_appz, x_b2s, x_s2b, x_mark, xop, ev, evs, evParts, fillL, cellsL, Ai.get, Ai.put, stab, isNil?, if_false, if_true, addr?, int?, str?, agg?, bool?, shiftA, FnPost, xresL, xres1, tup, argEnv, ptr, Nat.reduceEqDiff, reduceIte, beq_self_eq_true, ne_eq, Nat.reduceAdd, Nat.reduceMul, Nat.reduceSub, abin_shl, abin_shr, load1V, loadV, storeV, cellsAt, getN, setN, allocV, lenL, lenS, bnd, oneC, Value.oneCell', Nat.reduceLeDiff, Nat.reduceLT, exists_eq_left', forall_const, reduceCtorEq, app_new, app_new0, List.append_assoc, Int.reduceToNat, Int.reduceLT, Int.reduceLE, Int.reduceEq, Int.reduceNe, Int.reduceBEq, IntKind.bits, bne_self_eq_false, Int.reducePow, hX, set_here, hlen, List.foldlM_cons, List.foldlM_nil, hm]
    refine ⟨_, ?_, (((E.fset _).trans (Fr.set _ (.inl rfl)) (fun B h => .inl h)).trans (Fr.set _ (.inl rfl)) (fun B h => .inl h)), hsb⟩
    simp only [List.set_set]
    have := E.setO (e.ackd b) rfl Q' hsb E.b1 hb E.b3 (by simp only [BE.ackd, hlen]; omega) (by rw [hmin]; simp only [BE.ackd, hlen]; omega)
    simp only [BE.cells, hmin] at this
    rw [hlen] at this ⊢
    exact this

theorem recv_ok {h : AHeap} {X : Nat} {e : BE} {qv ov v : Value} {u : UP} (E : BAt h X e qv ov) (U : UV h v u) (hf : 0 ≤ u.fore) : Valid Try.prog 38 [.pointer (some ⟨X, 6, none⟩), v] h fun r h' => r = .bool (e.recv u).2 ∧ BAt h' X (e.recv u).1 qv ov ∧ Fr (foot X qv ov) h h' := by
  refine v38 (by simp) ?_
  obtain ⟨lv, rfl, L⟩ := U
  obtain ⟨back, bb, fore, fb, kind, st, load⟩ := u
  simp only [X38, sx, x_alloc, x_bslice, x_slice, x_append, x_appz, x_b2s, x_s2b, x_mark, xop, ev, evs, evParts, fillL, cellsL, Ai.get, Ai.put, stab, isNil?, if_false, if_true, addr?, int?, str?, agg?, bool?, shiftA, FnPost, xresL, xres1, tup, argEnv, ptr, Nat.reduceEqDiff, reduceIte, beq_self_eq_true, ne_eq, Nat.reduceAdd, Nat.reduceMul, Nat.reduceSub, abin_shl, abin_shr, load1V, loadV, storeV, cellsAt, getN, setN, allocV, lenL, lenS, bnd, oneC, Value.oneCell', Nat.reduceLeDiff, Nat.reduceLT, exists_eq_left', forall_const, reduceCtorEq, app_new, app_new0, List.append_assoc, Int.reduceToNat, Int.reduceLT, Int.reduceLE, Int.reduceEq, Int.reduceNe, Int.reduceBEq, IntKind.bits, bne_self_eq_false, Int.reducePow]
  refine box_run rfl fun g R K0 hR hRl _ => ?_
  have E0 := E.kp K0
  have hX := E0.obj
  simp only [BE.cells] at hX
  have hXl := E.lt (.inl rfl)
  have hXR : X ≠ R := by omega
  simp only [UP.cells, cellsL] at hR
  unfold BE.recv
  have hacc := E.b3
  by_cases h1 : fb = e.bb
  · subst h1
    simp only [if_true]
    by_cases h2 : kind = 2
    · subst h2
      simp only [sx, x_box, x_alloc, x_bslice, x_slice, x_append, x_appz, x_b2s, x_s2b, x_mark, xop, ev, evs, evParts, fillL, cellsL, Ai.get, Ai.put, stab, isNil?, if_false, if_true, addr?, int?, str?, agg?, bool?, shiftA, FnPost, xresL, xres1, tup, argEnv, ptr, Nat.reduceEqDiff, reduceIte, beq_self_eq_true, ne_eq, Nat.reduceAdd, Nat.reduceMul, Nat.reduceSub, abin_shl, abin_shr, load1V, loadV, storeV, cellsAt, getN, setN, allocV, lenL, lenS, bnd, oneC, Value.oneCell', Nat.reduceLeDiff, Nat.reduceLT, exists_eq_left', forall_const, reduceCtorEq, app_new, app_new0, List.append_assoc, Int.reduceToNat, Int.reduceLT, Int.reduceLE, Int.reduceEq, Int.reduceNe, Int.reduceBEq, IntKind.bits, bne_self_eq_false, Int.reducePow, hR, hX]
      refine xcall (after_ok (n := e.acc) (k := 1) (by omega) (by omega)) (by rfl) (by rfl) (by rfl) (by rfl) ?_
      rintro r h' ⟨rfl, rfl⟩
      by_cases h3 : fore = ((aft e.acc 1 : Nat) : Int)
      · subst h3
        simp only [sx, x_box, x_alloc, x_bslice, x_slice, x_append, x_appz, x_b2s, x_s2b, x_mark, xop, ev, evs, evParts, fillL, cellsL, Ai.get, Ai.put, stab, isNil?, if_false, if_true, addr?, int?, str?, agg?, bool?, shiftA, FnPost, xresL, xres1, tup, argEnv, ptr, Nat.reduceEqDiff, reduceIte, beq_self_eq_true, ne_eq, Nat.reduceAdd, Nat.reduceMul, Nat.reduceSub, abin_shl, abin_shr, load1V, loadV, storeV, cellsAt, getN, setN, allocV, lenL, lenS, bnd, oneC, Value.oneCell', Nat.reduceLeDiff, Nat.reduceLT, exists_eq_left', forall_const, reduceCtorEq, app_new, app_new0, List.append_assoc, Int.reduceToNat, Int.reduceLT, Int.reduceLE, Int.reduceEq, Int.reduceNe, Int.reduceBEq, IntKind.bits, bne_self_eq_false, Int.reducePow, hR, hX]
        exact ⟨E0.set { e with acc := aft e.acc 1 } rfl rfl E.b1 E.b2 (aft_lt e.acc 1) E.b6, (K0.fr _).trans (E0.fset _) fun B h => .inl h⟩
      · by_cases h4 : fore = (e.acc : Int)
        · subst h4
          simp only [sx, x_box, x_alloc, x_bslice, x_slice, x_append, x_appz, x_b2s, x_s2b, x_mark, xop, ev, evs, evParts, fillL, cellsL, Ai.get, Ai.put, stab, isNil?, if_false, if_true, addr?, int?, str?, agg?, bool?, shiftA, FnPost, xresL, xres1, tup, argEnv, ptr, Nat.reduceEqDiff, reduceIte, beq_self_eq_true, ne_eq, Nat.reduceAdd, Nat.reduceMul, Nat.reduceSub, abin_shl, abin_shr, load1V, loadV, storeV, cellsAt, getN, setN, allocV, lenL, lenS, bnd, oneC, Value.oneCell', Nat.reduceLeDiff, Nat.reduceLT, exists_eq_left', forall_const, reduceCtorEq, app_new, app_new0, List.append_assoc, Int.reduceToNat, Int.reduceLT, Int.reduceLE, Int.reduceEq, Int.reduceNe, Int.reduceBEq, IntKind.bits, bne_self_eq_false, Int.reducePow, hR, hX, h3, and_false]
          exact ⟨E0, K0.fr _⟩
        · simp only [sx, x_box, x_alloc, x_bslice, x_slice, x_append, x_appz, x_b2s, x_s2b, x_mark, xop, ev, evs, evParts, fillL, cellsL, Ai.get, Ai.put, stab, isNil?, if_false, if_true, addr?, int?, str?, agg?, bool?, shiftA, FnPost, xresL, xres1, tup, argEnv, ptr, Nat.reduceEqDiff, reduceIte, beq_self_eq_true, ne_eq, Nat.reduceAdd, Nat.reduceMul, Nat.reduceSub, abin_shl, abin_shr, load1V, loadV, storeV, cellsAt, getN, setN, allocV, lenL, lenS, bnd, oneC, Value.oneCell', Nat.reduceLeDiff, Nat.reduceLT, exists_eq_left', forall_const, reduceCtorEq, app_new, app_new0, List.append_assoc, Int.reduceToNat, Int.reduceLT, Int.reduceLE, Int.reduceEq, Int.reduceNe, Int.reduceBEq, IntKind.bits, bne_self_eq_false, Int.reducePow, hR, hX, h3, h4, and_false]
          exact ⟨E0.set { e with bb := !e.bb } rfl rfl E.b1 E.b2 E.b3 E.b6, (K0.fr _).trans (E0.fset _) fun B h => .inl h⟩
    · by_cases h4 : fore = (e.acc : Int)
      · subst h4
        simp only [sx, x_box, x_alloc, x_bslice, x_slice, x_append, x_appz, x_b2s, x_s2b, x_mark, xop, ev, evs, evParts, fillL, cellsL, Ai.get, Ai.put, stab, isNil?, if_false, if_true, addr?, int?, str?, agg?, bool?, shiftA, FnPost, xresL, xres1, tup, argEnv, ptr, Nat.reduceEqDiff, reduceIte, beq_self_eq_true, ne_eq, Nat.reduceAdd, Nat.reduceMul, Nat.reduceSub, abin_shl, abin_shr, load1V, loadV, storeV, cellsAt, getN, setN, allocV, lenL, lenS, bnd, oneC, Value.oneCell', Nat.reduceLeDiff, Nat.reduceLT, exists_eq_left', forall_const, reduceCtorEq, app_new, app_new0, List.append_assoc, Int.reduceToNat, Int.reduceLT, Int.reduceLE, Int.reduceEq, Int.reduceNe, Int.reduceBEq, IntKind.bits, bne_self_eq_false, Int.reducePow, hR, hX, h2, false_and]
        exact ⟨E0, K0.fr _⟩
      · simp only [sx, x_box, x_alloc, x_bslice, x_slice, x_append, x_appz, x_b2s, x_s2b, x_mark, xop, ev, evs, evParts, fillL, cellsL, Ai.get, Ai.put, stab, isNil?, if_false, if_true, addr?, int?, str?, agg?, bool?, shiftA, FnPost, xresL, xres1, tup, argEnv, ptr, Nat.reduceEqDiff, reduceIte, beq_self_eq_true, ne_eq, Nat.reduceAdd, Nat.reduceMul, Nat.reduceSub, abin_shl, abin_shr, load1V, loadV, storeV, cellsAt, getN, setN, allocV, lenL, lenS, bnd, oneC, Value.oneCell', Nat.reduceLeDiff, Nat.reduceLT, exists_eq_left', forall_const, reduceCtorEq, app_new, app_new0, List.append_assoc, Int.reduceToNat, Int.reduceLT, Int.reduceLE, Int.reduceEq, Int.reduceNe, Int.reduceBEq, IntKind.bits, bne_self_eq_false, Int.reducePow, hR, hX, h2, h4, false_and]
        exact ⟨E0.set { e with bb := !e.bb } rfl rfl E.b1 E.b2 E.b3 E.b6, (K0.fr _).trans (E0.fset _) fun B h => .inl h⟩
  · have h1' : (fb != e.bb) = true := by cases hfb : fb <;> cases hbb : e.bb <;> simp_all
    simp only [sx, x_box, x_alloc, x_bslice, x_slice, x_append, x_appz, x_b2s, x_s2b, x_mark, xop, ev, evs, evParts, fillL, cellsL, Ai.get, Ai.put, stab, isNil?, if_false, if_true, addr?, int?, str?, agg?, bool?, shiftA, FnPost, xresL, xres1, tup, argEnv, ptr, Nat.reduceEqDiff, reduceIte, beq_self_eq_true, ne_eq, Nat.reduceAdd, Nat.reduceMul, Nat.reduceSub, abin_shl, abin_shr, load1V, loadV, storeV, cellsAt, getN, setN, allocV, lenL, lenS, bnd, oneC, Value.oneCell', Nat.reduceLeDiff, Nat.reduceLT, exists_eq_left', forall_const, reduceCtorEq, app_new, app_new0, List.append_assoc, Int.reduceToNat, Int.reduceLT, Int.reduceLE, Int.reduceEq, Int.reduceNe, Int.reduceBEq, IntKind.bits, bne_self_eq_false, Int.reducePow, hR, hX, h1, h1']
    exact ⟨E0, K0.fr _⟩

/-- two abnormal units; one -/
def BE.abn (e : BE) (w : Bool) : BE := { e with a0 := e.a1, a1 := w }
def BE.turn (e : BE) (b : Bool) : BE := if b = e.fb then e else { e with fb := b, again := e.o.length }
def BE.hear (e : BE) (u : UP) : BE × List (List Int) × Int :=
  if e.st ≠ 0 then (e, [], e.st) else if chk u ≠ 0 then (e, [], chk u) else if u.kind = 1 then (e, [], 0) else
  if ahd e.ack e.sent < ahd e.ack u.back.toNat then (if e.a0 = true ∨ e.a1 = true then ({ e.abn true with fl := true }, [], 6) else (e.abn true, [], 0)) else
  let r := (((e.abn false).ackd u.back.toNat).turn u.bb).recv u
  if r.2 = true then (r.1, [u.load], 0) else (r.1, [], 0)
theorem listV_nil (h : AHeap) : ListV h (.slice none 0 0) [] := ⟨none, [], rfl, rfl, trivial, by simp⟩
theorem chk0 {u : UP} (h : chk u = 0) : u.back < 128 ∧ u.fore < 128 ∧ (u.kind = 2 → 2 ≤ u.load.length ∧ u.load.length ≤ 273) := by
  unfold chk at h
  split at h
  · cases h
  · split at h
    · cases h
    · rename_i h1 h2
      refine ⟨?_, ?_, ?_⟩ <;> omega
theorem Went.start {h h' : AHeap} {X : Nat} {e e' : BE} {qv ov qv' ov' : Value} (E' : BAt h' X e' qv' ov') (F : Fr (foot X qv ov) h h') (hs : ∀ B, foot X qv' ov' B → foot X qv ov B ∨ h.length ≤ B) : Went h h' X e' qv ov := ⟨qv', ov', E', F, hs⟩

set_option maxHeartbeats 4000000 in
set_option maxRecDepth 20000 in
theorem hear_ok {h : AHeap} {X : Nat} {e : BE} {qv ov v : Value} {u : UP} (E : BAt h X e qv ov) (U : UV h v u) (hb : 0 ≤ u.back ∧ 0 ≤ u.fore) (hk : ahd e.ack e.sent = e.o.length) :
    Valid Try.prog 16 [.pointer (some ⟨X, 0, none⟩), v] h fun r h' => (∃ lv, r = .tuple #[lv, .int .i64 (e.hear u).2.2] ∧ ListV h' lv (e.hear u).2.1 ∧ ∀ B, slB lv = some B → h.length ≤ B) ∧ Went h h' X (e.hear u).1 qv ov := by
  refine v16 (by simp) ?_
  have U0 := U
  obtain ⟨lv, rfl, L⟩ := U0
  simp only [X16, sx, x_alloc, x_bslice, x_slice, x_append, x_appz, x_b2s, x_s2b, x_mark, xop, ev, evs, evParts, fillL, cellsL, Ai.get, Ai.put, stab, isNil?, if_false, if_true, addr?, int?, str?, agg?, bool?, shiftA, FnPost, xresL, xres1, tup, argEnv, ptr, Nat.reduceEqDiff, reduceIte, beq_self_eq_true, ne_eq, Nat.reduceAdd, Nat.reduceMul, Nat.reduceSub, abin_shl, abin_shr, load1V, loadV, storeV, cellsAt, getN, setN, allocV, lenL, lenS, bnd, oneC, Value.oneCell', Nat.reduceLeDiff, Nat.reduceLT, exists_eq_left', forall_const, reduceCtorEq, app_new, app_new0, List.append_assoc, Int.reduceToNat, Int.reduceLT, Int.reduceLE, Int.reduceEq, Int.reduceNe, Int.reduceBEq, IntKind.bits, bne_self_eq_false, Int.reducePow]
  refine box_run rfl fun g R K0 hR hRl _ => ?_
  have E0 := E.kp K0
  have hX := E0.obj
  simp only [BE.cells] at hX
  have hXl := E.lt (.inl rfl)
  have hXR : X ≠ R := by omega
  simp only [UP.cells, cellsL] at hR
  simp only [sx, x_box, x_alloc, x_bslice, x_slice, x_append, x_appz, x_b2s, x_s2b, x_mark, xop, ev, evs, evParts, fillL, cellsL, Ai.get, Ai.put, stab, isNil?, if_false, if_true, addr?, int?, str?, agg?, bool?, shiftA, FnPost, xresL, xres1, tup, argEnv, ptr, Nat.reduceEqDiff, reduceIte, beq_self_eq_true, ne_eq, Nat.reduceAdd, Nat.reduceMul, Nat.reduceSub, abin_shl, abin_shr, load1V, loadV, storeV, cellsAt, getN, setN, allocV, lenL, lenS, bnd, oneC, Value.oneCell', Nat.reduceLeDiff, Nat.reduceLT, exists_eq_left', forall_const, reduceCtorEq, app_new, app_new0, List.append_assoc, Int.reduceToNat, Int.reduceLT, Int.reduceLE, Int.reduceEq, Int.reduceNe, Int.reduceBEq, IntKind.bits, bne_self_eq_false, Int.reducePow]
  refine xcall (state_ok E0) (by rfl) (by rfl) (by rfl) (by rfl) ?_
  rintro r h' ⟨rfl, rfl⟩
  unfold BE.hear
  by_cases hs : e.st = 0
  rotate_left
  · rw [if_pos hs]
    simp only [sx, x_box, x_alloc, x_bslice, x_slice, x_append, x_appz, x_b2s, x_s2b, x_mark, xop, ev, evs, evParts, fillL, cellsL, Ai.get, Ai.put, stab, isNil?, if_false, if_true, addr?, int?, str?, agg?, bool?, shiftA, FnPost, xresL, xres1, tup, argEnv, ptr, Nat.reduceEqDiff, reduceIte, beq_self_eq_true, ne_eq, Nat.reduceAdd, Nat.reduceMul, Nat.reduceSub, abin_shl, abin_shr, load1V, loadV, storeV, cellsAt, getN, setN, allocV, lenL, lenS, bnd, oneC, Value.oneCell', Nat.reduceLeDiff, Nat.reduceLT, exists_eq_left', forall_const, reduceCtorEq, app_new, app_new0, List.append_assoc, Int.reduceToNat, Int.reduceLT, Int.reduceLE, Int.reduceEq, Int.reduceNe, Int.reduceBEq, IntKind.bits, bne_self_eq_false, Int.reducePow, hs]
    exact ⟨⟨_, rfl, listV_nil _, by simp [slB]⟩, E.same K0⟩
  rw [if_neg (by simp [hs])]
  have U1 : UV h' (.agg (u.cells lv).toArray) u := U.frz K0.frz
  simp only [sx, x_box, x_alloc, x_bslice, x_slice, x_append, x_appz, x_b2s, x_s2b, x_mark, xop, ev, evs, evParts, fillL, cellsL, Ai.get, Ai.put, stab, isNil?, if_false, if_true, addr?, int?, str?, agg?, bool?, shiftA, FnPost, xresL, xres1, tup, argEnv, ptr, Nat.reduceEqDiff, reduceIte, beq_self_eq_true, ne_eq, Nat.reduceAdd, Nat.reduceMul, Nat.reduceSub, abin_shl, abin_shr, load1V, loadV, storeV, cellsAt, getN, setN, allocV, lenL, lenS, bnd, oneC, Value.oneCell', Nat.reduceLeDiff, Nat.reduceLT, exists_eq_left', forall_const, reduceCtorEq, app_new, app_new0, List.append_assoc, Int.reduceToNat, Int.reduceLT, Int.reduceLE, Int.reduceEq, Int.reduceNe, Int.reduceBEq, IntKind.bits, bne_self_eq_false, Int.reducePow, hs, hR]
  refine xcall (check_ok U1) (by rfl) (by rfl) (by rfl) (by rfl) ?_
  rintro r h1 ⟨rfl, J, rfl⟩
  have K1 : Kp h' (h' ++ J) := Kp.app _ _
  have E1 := E0.kp K1
  have hR1 := K1.get hR
  have hX1 := K1.get hX
  have U2 := U1.frz K1.frz
  have K01 := K0.trans K1
  generalize h' ++ J = g1 at *
  by_cases hc : chk u = 0
  rotate_left
  · rw [if_pos hc]
    simp only [sx, x_box, x_alloc, x_bslice, x_slice, x_append, x_appz, x_b2s, x_s2b, x_mark, xop, ev, evs, evParts, fillL, cellsL, Ai.get, Ai.put, stab, isNil?, if_false, if_true, addr?, int?, str?, agg?, bool?, shiftA, FnPost, xresL, xres1, tup, argEnv, ptr, Nat.reduceEqDiff, reduceIte, beq_self_eq_true, ne_eq, Nat.reduceAdd, Nat.reduceMul, Nat.reduceSub, abin_shl, abin_shr, load1V, loadV, storeV, cellsAt, getN, setN, allocV, lenL, lenS, bnd, oneC, Value.oneCell', Nat.reduceLeDiff, Nat.reduceLT, exists_eq_left', forall_const, reduceCtorEq, app_new, app_new0, List.append_assoc, Int.reduceToNat, Int.reduceLT, Int.reduceLE, Int.reduceEq, Int.reduceNe, Int.reduceBEq, IntKind.bits, bne_self_eq_false, Int.reducePow, hc]
    exact ⟨⟨_, rfl, listV_nil _, by simp [slB]⟩, E.same K01⟩
  rw [if_neg (by simp [hc])]
  obtain ⟨c1, c2, c3⟩ := chk0 hc
  by_cases hk1 : u.kind = 1
  · rw [if_pos hk1]
    simp only [sx, x_box, x_alloc, x_bslice, x_slice, x_append, x_appz, x_b2s, x_s2b, x_mark, xop, ev, evs, evParts, fillL, cellsL, Ai.get, Ai.put, stab, isNil?, if_false, if_true, addr?, int?, str?, agg?, bool?, shiftA, FnPost, xresL, xres1, tup, argEnv, ptr, Nat.reduceEqDiff, reduceIte, beq_self_eq_true, ne_eq, Nat.reduceAdd, Nat.reduceMul, Nat.reduceSub, abin_shl, abin_shr, load1V, loadV, storeV, cellsAt, getN, setN, allocV, lenL, lenS, bnd, oneC, Value.oneCell', Nat.reduceLeDiff, Nat.reduceLT, exists_eq_left', forall_const, reduceCtorEq, app_new, app_new0, List.append_assoc, Int.reduceToNat, Int.reduceLT, Int.reduceLE, Int.reduceEq, Int.reduceNe, Int.reduceBEq, IntKind.bits, bne_self_eq_false, Int.reducePow, hc, hR1, hk1]
    exact ⟨⟨_, rfl, listV_nil _, by simp [slB]⟩, E.same K01⟩
  rw [if_neg hk1]
  obtain ⟨b, hbe⟩ : ∃ b : Nat, u.back = b := ⟨u.back.toNat, by omega⟩
  have hbt : u.back.toNat = b := by omega
  rw [hbe] at hR1 c1
  rw [hbt]
  simp only [sx, x_box, x_alloc, x_bslice, x_slice, x_append, x_appz, x_b2s, x_s2b, x_mark, xop, ev, evs, evParts, fillL, cellsL, Ai.get, Ai.put, stab, isNil?, if_false, if_true, addr?, int?, str?, agg?, bool?, shiftA, FnPost, xresL, xres1, tup, argEnv, ptr, Nat.reduceEqDiff, reduceIte, beq_self_eq_true, ne_eq, Nat.reduceAdd, Nat.reduceMul, Nat.reduceSub, abin_shl, abin_shr, load1V, loadV, storeV, cellsAt, getN, setN, allocV, lenL, lenS, bnd, oneC, Value.oneCell', Nat.reduceLeDiff, Nat.reduceLT, exists_eq_left', forall_const, reduceCtorEq, app_new, app_new0, List.append_assoc, Int.reduceToNat, Int.reduceLT, Int.reduceLE, Int.reduceEq, Int.reduceNe, Int.reduceBEq, IntKind.bits, bne_self_eq_false, Int.reducePow, hc, hR1, hX1, hk1]
  refine xcall (ahead_ok (f := e.ack) (t := b) (by have := E.b2; omega) (by omega)) (by rfl) (by rfl) (by rfl) (by rfl) ?_
  rintro r h2 ⟨rfl, rfl⟩
  simp only [sx, x_box, x_alloc, x_bslice, x_slice, x_append, x_appz, x_b2s, x_s2b, x_mark, xop, ev, evs, evParts, fillL, cellsL, Ai.get, Ai.put, stab, isNil?, if_false, if_true, addr?, int?, str?, agg?, bool?, shiftA, FnPost, xresL, xres1, tup, argEnv, ptr, Nat.reduceEqDiff, reduceIte, beq_self_eq_true, ne_eq, Nat.reduceAdd, Nat.reduceMul, Nat.reduceSub, abin_shl, abin_shr, load1V, loadV, storeV, cellsAt, getN, setN, allocV, lenL, lenS, bnd, oneC, Value.oneCell', Nat.reduceLeDiff, Nat.reduceLT, exists_eq_left', forall_const, reduceCtorEq, app_new, app_new0, List.append_assoc, Int.reduceToNat, Int.reduceLT, Int.reduceLE, Int.reduceEq, Int.reduceNe, Int.reduceBEq, IntKind.bits, bne_self_eq_false, Int.reducePow, hR1, hX1]
  refine xcall (ahead_ok (f := e.ack) (t := e.sent) (by have := E.b2; omega) (by have := E.b1; omega)) (by rfl) (by rfl) (by rfl) (by rfl) ?_
  rintro r h2' ⟨rfl, rfl⟩
  by_cases hw : ahd e.ack e.sent < ahd e.ack b
  · have hw' : ((ahd e.ack e.sent : Nat) : Int) < ((ahd e.ack b : Nat) : Int) := by omega
    rw [if_pos hw]
    have fin : ∀ (f : Bool), BAt (h2'.set X (some ⟨true, ({ e.abn true with fl := f } : BE).cells qv ov⟩)) X { e.abn true with fl := f } qv ov ∧ Fr (foot X qv ov) h (h2'.set X (some ⟨true, ({ e.abn true with fl := f } : BE).cells qv ov⟩)) := fun f =>
      ⟨E1.set { e.abn true with fl := f } rfl rfl E.b1 E.b2 E.b3 E.b6, (K01.fr _).trans (E1.fset _) fun B h => .inl h⟩
    have hst : e.fl = false := by
      unfold BE.st at hs
      split at hs
      · split at hs
        · cases hs
        · rename_i h1; simpa using h1
      · cases hs
    by_cases ha0 : e.a0 = true
    · rw [if_pos (.inl ha0)]
      simp only [sx, x_box, x_alloc, x_bslice, x_slice, x_append, x_appz, x_b2s, x_s2b, x_mark, xop, ev, evs, evParts, fillL, cellsL, Ai.get, Ai.put, stab, isNil?, if_false, if_true, addr?, int?, str?, agg?, bool?, shiftA, FnPost, xresL, xres1, tup, argEnv, ptr, Nat.reduceEqDiff, reduceIte, beq_self_eq_true, ne_eq, Nat.reduceAdd, Nat.reduceMul, Nat.reduceSub, abin_shl, abin_shr, load1V, loadV, storeV, cellsAt, getN, setN, allocV, lenL, lenS, bnd, oneC, Value.oneCell', Nat.reduceLeDiff, Nat.reduceLT, exists_eq_left', forall_const, reduceCtorEq, app_new, app_new0, List.append_assoc, Int.reduceToNat, Int.reduceLT, Int.reduceLE, Int.reduceEq, Int.reduceNe, Int.reduceBEq, IntKind.bits, bne_self_eq_false, Int.reducePow, hR1, hX1, hw', ha0, set_here]
      obtain ⟨f1, f2⟩ := fin true
      simp only [List.set_set]
      exact ⟨⟨_, rfl, listV_nil _, by simp [slB]⟩, _, _, f1, f2, fun B hB => .inl hB⟩
    · by_cases ha1 : e.a1 = true
      · rw [if_pos (.inr ha1)]
        simp only [sx, x_box, x_alloc, x_bslice, x_slice, x_append, x_appz, x_b2s, x_s2b, x_mark, xop, ev, evs, evParts, fillL, cellsL, Ai.get, Ai.put, stab, isNil?, if_false, if_true, addr?, int?, str?, agg?, bool?, shiftA, FnPost, xresL, xres1, tup, argEnv, ptr, Nat.reduceEqDiff, reduceIte, beq_self_eq_true, ne_eq, Nat.reduceAdd, Nat.reduceMul, Nat.reduceSub, abin_shl, abin_shr, load1V, loadV, storeV, cellsAt, getN, setN, allocV, lenL, lenS, bnd, oneC, Value.oneCell', Nat.reduceLeDiff, Nat.reduceLT, exists_eq_left', forall_const, reduceCtorEq, app_new, app_new0, List.append_assoc, Int.reduceToNat, Int.reduceLT, Int.reduceLE, Int.reduceEq, Int.reduceNe, Int.reduceBEq, IntKind.bits, bne_self_eq_false, Int.reducePow, hR1, hX1, hw', ha0, ha1, set_here]
        obtain ⟨f1, f2⟩ := fin true
        simp only [BE.abn, ha1, BE.cells] at f1 f2
        simp only [List.set_set, BE.abn, ha1]
        exact ⟨⟨_, rfl, listV_nil _, by simp [slB]⟩, _, _, f1, f2, fun B hB => .inl hB⟩
      · rw [if_neg (by rintro (h | h); exact ha0 h; exact ha1 h)]
        simp only [sx, x_box, x_alloc, x_bslice, x_slice, x_append, x_appz, x_b2s, x_s2b, x_mark, xop, ev, evs, evParts, fillL, cellsL, Ai.get, Ai.put, stab, isNil?, if_false, if_true, addr?, int?, str?, agg?, bool?, shiftA, FnPost, xresL, xres1, tup, argEnv, ptr, Nat.reduceEqDiff, reduceIte, beq_self_eq_true, ne_eq, Nat.reduceAdd, Nat.reduceMul, Nat.reduceSub, abin_shl, abin_shr, load1V, loadV, storeV, cellsAt, getN, setN, allocV, lenL, lenS, bnd, oneC, Value.oneCell', Nat.reduceLeDiff, Nat.reduceLT, exists_eq_left', forall_const, reduceCtorEq, app_new, app_new0, List.append_assoc, Int.reduceToNat, Int.reduceLT, Int.reduceLE, Int.reduceEq, Int.reduceNe, Int.reduceBEq, IntKind.bits, bne_self_eq_false, Int.reducePow, hR1, hX1, hw', ha0, ha1, set_here]
        obtain ⟨f1, f2⟩ := fin e.fl
        simp only [Bool.not_eq_true] at ha1 ha0
        simp only [BE.abn, ha1, BE.cells] at f1 f2
        simp only [List.set_set, BE.abn, ha1]
        exact ⟨⟨_, rfl, listV_nil _, by simp [slB]⟩, _, _, f1, f2, fun B hB => .inl hB⟩
  · have hw' : ¬ ((ahd e.ack e.sent : Nat) : Int) < ((ahd e.ack b : Nat) : Int) := by omega
    rw [if_neg hw]
    have hRf : ∀ B, foot X qv ov B → B ≠ R := fun B hB e1 => by have := E.lt hB; omega
    have E2 := E1.set (e.abn false) rfl rfl E.b1 E.b2 E.b3 E.b6
    have F2 : Fr (foot X qv ov) h (h2'.set X (some ⟨true, (e.abn false).cells qv ov⟩)) := (K01.fr _).trans (E1.fset _) fun B h => .inl h
    have z2 : Frz h2' (h2'.set X (some ⟨true, (e.abn false).cells qv ov⟩)) := E1.frz (E1.fset _)
    have hR2 : (h2'.set X (some ⟨true, (e.abn false).cells qv ov⟩))[R]? = _ := (set_far hXR _ _).trans hR1
    simp only [sx, x_box, x_alloc, x_bslice, x_slice, x_append, x_appz, x_b2s, x_s2b, x_mark, xop, ev, evs, evParts, fillL, cellsL, Ai.get, Ai.put, stab, isNil?, if_false, if_true, addr?, int?, str?, agg?, bool?, shiftA, FnPost, xresL, xres1, tup, argEnv, ptr, Nat.reduceEqDiff, reduceIte, beq_self_eq_true, ne_eq, Nat.reduceAdd, Nat.reduceMul, Nat.reduceSub, abin_shl, abin_shr, load1V, loadV, storeV, cellsAt, getN, setN, allocV, lenL, lenS, bnd, oneC, Value.oneCell', Nat.reduceLeDiff, Nat.reduceLT, exists_eq_left', forall_const, reduceCtorEq, app_new, app_new0, List.append_assoc, Int.reduceToNat, Int.reduceLT, Int.reduceLE, Int.reduceEq, Int.reduceNe, Int.reduceBEq, IntKind.bits, bne_self_eq_false, Int.reducePow, hR1, hX1, hw', set_here, List.set_set, set_far hXR]
    change xops Try.prog _ _ _ (h2'.set X (some ⟨true, (e.abn false).cells qv ov⟩))
    have U3 := U2.frz z2
    generalize h2'.set X (some ⟨true, (e.abn false).cells qv ov⟩) = h3 at *
    have hle : ahd (e.abn false).ack b ≤ (e.abn false).o.length := by simp only [BE.abn]; omega
    refine xcall (ack_ok (b := b) E2 (by omega) hle) (by rfl) (by rfl) (by rfl) (by rfl) ?_
    rintro r h4 ⟨ov4, E4, F4, s4⟩
    have hR4 := F4.get hR2 (fun hB => hRf R hB rfl)
    have F4' := F2.trans F4 fun B h => .inl h
    have U4 := U3.frz (E2.frz F4)
    have hs4 : ∀ B, foot X qv ov4 B → foot X qv ov B := fun B hB => by
      rcases hB with h1 | h1 | h1
      · exact .inl h1
      · exact .inr (.inl h1)
      · exact .inr (.inr (s4 B h1))
    clear E2 F2 z2 U3 hR2 F4
    obtain ⟨oa, oc, hov⟩ := E4.o.shape
    subst hov
    have hX4 := E4.obj
    simp only [BE.cells] at hX4
    simp only [sx, x_box, x_alloc, x_bslice, x_slice, x_append, x_appz, x_b2s, x_s2b, x_mark, xop, ev, evs, evParts, fillL, cellsL, Ai.get, Ai.put, stab, isNil?, if_false, if_true, addr?, int?, str?, agg?, bool?, shiftA, FnPost, xresL, xres1, tup, argEnv, ptr, Nat.reduceEqDiff, reduceIte, beq_self_eq_true, ne_eq, Nat.reduceAdd, Nat.reduceMul, Nat.reduceSub, abin_shl, abin_shr, load1V, loadV, storeV, cellsAt, getN, setN, allocV, lenL, lenS, bnd, oneC, Value.oneCell', Nat.reduceLeDiff, Nat.reduceLT, exists_eq_left', forall_const, reduceCtorEq, app_new, app_new0, List.append_assoc, Int.reduceToNat, Int.reduceLT, Int.reduceLE, Int.reduceEq, Int.reduceNe, Int.reduceBEq, IntKind.bits, bne_self_eq_false, Int.reducePow, hR4, hX4]
    refine xcond_cut (fun ρ h5 => BAt h5 X (((e.abn false).ackd b).turn u.bb) qv (.slice oa ((e.abn false).ackd b).o.length oc) ∧ Fr (foot X qv ov) h h5 ∧ h5[R]? = some (some ⟨true, [.int .u8 (b : Int), .bool u.bb, .int .u8 u.fore, .bool u.fb, .int .u8 u.kind, .int .u8 u.st, lv]⟩) ∧ UV h5 (.agg (u.cells lv).toArray) u ∧
        get ρ 0 = some (.pointer (some ⟨X, 0, none⟩)) ∧ get ρ 3 = some (.pointer (some ⟨R, 0, none⟩))) ?_ ?_
    · by_cases ht : u.bb = ((e.abn false).ackd b).fb
      · have ht' : (u.bb != ((e.abn false).ackd b).fb) = false := by rw [ht]; exact bne_self_eq_false _
        simp only [sx, x_box, x_alloc, x_bslice, x_slice, x_append, x_appz, x_b2s, x_s2b, x_mark, xop, ev, evs, evParts, fillL, cellsL, Ai.get, Ai.put, stab, isNil?, if_false, if_true, addr?, int?, str?, agg?, bool?, shiftA, FnPost, xresL, xres1, tup, argEnv, ptr, Nat.reduceEqDiff, reduceIte, beq_self_eq_true, ne_eq, Nat.reduceAdd, Nat.reduceMul, Nat.reduceSub, abin_shl, abin_shr, load1V, loadV, storeV, cellsAt, getN, setN, allocV, lenL, lenS, bnd, oneC, Value.oneCell', Nat.reduceLeDiff, Nat.reduceLT, exists_eq_left', forall_const, reduceCtorEq, app_new, app_new0, List.append_assoc, Int.reduceToNat, Int.reduceLT, Int.reduceLE, Int.reduceEq, Int.reduceNe, Int.reduceBEq, IntKind.bits, bne_self_eq_false, Int.reducePow, ht', hR4, hX4]
        unfold BE.turn
        rw [if_pos ht]
        exact ⟨E4, F4', U4⟩
      · have ht' : (u.bb != ((e.abn false).ackd b).fb) = true := by
          generalize ((e.abn false).ackd b).fb = x at *
          cases hx : u.bb <;> cases x <;> simp_all
        have E5 := E4.set { (e.abn false).ackd b with fb := u.bb, again := ((e.abn false).ackd b).o.length } rfl rfl E4.b1 E4.b2 E4.b3 (Nat.le_refl _)
        have F5 := F4'.trans (E4.fset (some ⟨true, ({ (e.abn false).ackd b with fb := u.bb, again := ((e.abn false).ackd b).o.length } : BE).cells qv (.slice oa ((e.abn false).ackd b).o.length oc)⟩)) fun B hB => .inl (hs4 B hB)
        have U5 := U4.frz (E4.frz (E4.fset (some ⟨true, ({ (e.abn false).ackd b with fb := u.bb, again := ((e.abn false).ackd b).o.length } : BE).cells qv (.slice oa ((e.abn false).ackd b).o.length oc)⟩)))
        simp only [sx, x_box, x_alloc, x_bslice, x_slice, x_append, x_appz, x_b2s, x_s2b, x_mark, xop, ev, evs, evParts, fillL, cellsL, Ai.get, Ai.put, stab, isNil?, if_false, if_true, addr?, int?, str?, agg?, bool?, shiftA, FnPost, xresL, xres1, tup, argEnv, ptr, Nat.reduceEqDiff, reduceIte, beq_self_eq_true, ne_eq, Nat.reduceAdd, Nat.reduceMul, Nat.reduceSub, abin_shl, abin_shr, load1V, loadV, storeV, cellsAt, getN, setN, allocV, lenL, lenS, bnd, oneC, Value.oneCell', Nat.reduceLeDiff, Nat.reduceLT, exists_eq_left', forall_const, reduceCtorEq, app_new, app_new0, List.append_assoc, Int.reduceToNat, Int.reduceLT, Int.reduceLE, Int.reduceEq, Int.reduceNe, Int.reduceBEq, IntKind.bits, bne_self_eq_false, Int.reducePow, ht', hR4, hX4, set_here, set_far hXR, List.set_set]
        unfold BE.turn
        rw [if_neg ht]
        exact ⟨E5, F5, U5⟩
    clear E4 F4' U4 hR4 hX4 h4 hRl
    rintro ρ h5 ⟨E5, F5, hR5, U5, g0, g3⟩
    generalize hee : ((e.abn false).ackd b).turn u.bb = e5 at *
    generalize hoo : Value.slice oa ((e.abn false).ackd b).o.length oc = ov5 at *
    simp only [sx, x_box, x_alloc, x_bslice, x_slice, x_append, x_appz, x_b2s, x_s2b, x_mark, xop, ev, evs, evParts, fillL, cellsL, Ai.get, Ai.put, stab, isNil?, if_false, if_true, addr?, int?, str?, agg?, bool?, shiftA, FnPost, xresL, xres1, tup, argEnv, ptr, Nat.reduceEqDiff, reduceIte, beq_self_eq_true, ne_eq, Nat.reduceAdd, Nat.reduceMul, Nat.reduceSub, abin_shl, abin_shr, load1V, loadV, storeV, cellsAt, getN, setN, allocV, lenL, lenS, bnd, oneC, Value.oneCell', Nat.reduceLeDiff, Nat.reduceLT, exists_eq_left', forall_const, reduceCtorEq, app_new, app_new0, List.append_assoc, Int.reduceToNat, Int.reduceLT, Int.reduceLE, Int.reduceEq, Int.reduceNe, Int.reduceBEq, IntKind.bits, bne_self_eq_false, Int.reducePow, g0, g3, hR5]
    have hag : (u.cells lv).toArray = #[.int .u8 (b : Int), .bool u.bb, .int .u8 u.fore, .bool u.fb, .int .u8 u.kind, .int .u8 u.st, lv] := by
      simp only [UP.cells, hbe]
    have U5' := U5
    rw [hag] at U5'
    refine xcall (recv_ok E5 U5' hb.2) (by rfl) (by rfl) (by rfl) (by rfl) ?_
    rintro r h6 ⟨rfl, E6, F6⟩
    have hR6 := F6.get hR5 (fun hB => hRf R (hs4 R hB) rfl)
    have F6' := F5.trans F6 fun B hB => .inl (hs4 B hB)
    have U6 := U5.frz (E5.frz F6)
    by_cases hr : (e5.recv u).2 = true
    · rw [if_pos hr]
      obtain ⟨lv', hlv', L6⟩ := U6
      have hll : lv' = lv := by
        have := congrArg (fun (v : Value) => match v with | .agg a => a.toList[6]? | _ => none) hlv'
        simpa [UP.cells] using this.symm
      subst hll
      have hlen : u.kind = 2 := by
        unfold BE.recv at hr
        split at hr
        · split at hr
          · rename_i h1; exact h1.1
          · split at hr <;> cases hr
        · cases hr
      obtain ⟨l1, l2⟩ := c3 hlen
      simp only [sx, x_box, x_alloc, x_bslice, x_slice, x_append, x_appz, x_b2s, x_s2b, x_mark, xop, ev, evs, evParts, fillL, cellsL, Ai.get, Ai.put, stab, isNil?, if_false, if_true, addr?, int?, str?, agg?, bool?, shiftA, FnPost, xresL, xres1, tup, argEnv, ptr, Nat.reduceEqDiff, reduceIte, beq_self_eq_true, ne_eq, Nat.reduceAdd, Nat.reduceMul, Nat.reduceSub, abin_shl, abin_shr, load1V, loadV, storeV, cellsAt, getN, setN, allocV, lenL, lenS, bnd, oneC, Value.oneCell', Nat.reduceLeDiff, Nat.reduceLT, exists_eq_left', forall_const, reduceCtorEq, app_new, app_new0, List.append_assoc, Int.reduceToNat, Int.reduceLT, Int.reduceLE, Int.reduceEq, Int.reduceNe, Int.reduceBEq, IntKind.bits, bne_self_eq_false, Int.reducePow, g0, g3, hR6, hr]
      refine xcall (copied_ok L6 (by omega) (by omega)) (by rfl) (by rfl) (by rfl) (by rfl) ?_
      rintro r h7 ⟨L7, K7⟩
      have E7 := E6.kp K7
      have F7 := F6'.kp K7
      have L7' := L7
      obtain ⟨B7, hB7, -⟩ := L7'
      subst hB7
      have hF7 := F7.1
      have K8 : Kp h7 (h7 ++ [some ⟨true, [Value.slice (some ⟨B7, 0, none⟩) u.load.length u.load.length]⟩]) := Kp.app _ _
      simp only [sx, x_box, x_alloc, x_bslice, x_slice, x_append, x_appz, x_b2s, x_s2b, x_mark, xop, ev, evs, evParts, fillL, cellsL, Ai.get, Ai.put, stab, isNil?, if_false, if_true, addr?, int?, str?, agg?, bool?, shiftA, FnPost, xresL, xres1, tup, argEnv, ptr, Nat.reduceEqDiff, reduceIte, beq_self_eq_true, ne_eq, Nat.reduceAdd, Nat.reduceMul, Nat.reduceSub, abin_shl, abin_shr, load1V, loadV, storeV, cellsAt, getN, setN, allocV, lenL, lenS, bnd, oneC, Value.oneCell', Nat.reduceLeDiff, Nat.reduceLT, exists_eq_left', forall_const, reduceCtorEq, List.append_assoc, Int.reduceToNat, Int.reduceLT, Int.reduceLE, Int.reduceEq, Int.reduceNe, Int.reduceBEq, IntKind.bits, bne_self_eq_false, Int.reducePow, g0, g3]
      refine ⟨⟨_, rfl, ⟨_, [Value.slice (some ⟨B7, 0, none⟩) u.load.length u.load.length], rfl, ?_, ⟨L7.frz K8.frz, trivial⟩, by simp⟩, fun B hB => by simp [slB] at hB; omega⟩, _, _, E7.kp K8, F7.kp K8, fun B hB => .inl (hs4 B hB)⟩
      simp only [firstV, cellsAt, app_new0]; simp [getN]
    · rw [if_neg hr]
      have hr' : (e5.recv u).2 = false := by simpa using hr
      simp only [sx, x_box, x_alloc, x_bslice, x_slice, x_append, x_appz, x_b2s, x_s2b, x_mark, xop, ev, evs, evParts, fillL, cellsL, Ai.get, Ai.put, stab, isNil?, if_false, if_true, addr?, int?, str?, agg?, bool?, shiftA, FnPost, xresL, xres1, tup, argEnv, ptr, Nat.reduceEqDiff, reduceIte, beq_self_eq_true, ne_eq, Nat.reduceAdd, Nat.reduceMul, Nat.reduceSub, abin_shl, abin_shr, load1V, loadV, storeV, cellsAt, getN, setN, allocV, lenL, lenS, bnd, oneC, Value.oneCell', Nat.reduceLeDiff, Nat.reduceLT, exists_eq_left', forall_const, reduceCtorEq, app_new, app_new0, List.append_assoc, Int.reduceToNat, Int.reduceLT, Int.reduceLE, Int.reduceEq, Int.reduceNe, Int.reduceBEq, IntKind.bits, bne_self_eq_false, Int.reducePow, g0, g3, hr']
      exact ⟨⟨_, rfl, listV_nil _, by simp [slB]⟩, _, _, E6, F6', fun B hB => .inl (hs4 B hB)⟩
end Go.Proofs.Ytcpcngamfncpdaa
