import Derived.Test.YtcpcngamfncpdaaD3
set_option linter.unusedVariables false
set_option linter.unusedSimpArgs false
namespace Go.Proofs.Ytcpcngamfncpdaa
open Go Go.Ai Go.Proofs

/-- an end -/
structure BE where
  q : List (List Int)
  o : List (List Int)
  again : Nat
  sent : Nat
  ack : Nat
  fb : Bool
  acc : Nat
  bb : Bool
  a0 : Bool
  a1 : Bool
  rd : Bool
  fl : Bool
def BE.cells (e : BE) (qv ov : Value) : List Value := [qv, ov, .int .i64 (e.again : Int), .int .u8 (e.sent : Int), .int .u8 (e.ack : Int), .bool e.fb, .int .u8 (e.acc : Int), .bool e.bb, .bool e.a0, .bool e.a1, .bool e.rd, .bool e.fl]
structure BAt (h : AHeap) (X : Nat) (e : BE) (qv ov : Value) : Prop where
  obj : h[X]? = some (some ⟨true, e.cells qv ov⟩)
  q : QAt h qv e.q
  o : QAt h ov e.o
  n1 : slB qv ≠ some X
  n2 : slB ov ≠ some X
  n3 : ∀ B, slB qv = some B → slB ov ≠ some B
  b1 : e.sent < 128
  b2 : e.ack < 128
  b3 : e.acc < 128
  b4 : e.o.length ≤ 127
  b5 : e.q.length ≤ 64
  b6 : e.again ≤ e.o.length
/-- the blocks that an end's methods write -/
def foot (X : Nat) (qv ov : Value) (B : Nat) : Prop := B = X ∨ slB qv = some B ∨ slB ov = some B
theorem BAt.own {h : AHeap} {X : Nat} {e : BE} {qv ov : Value} (E : BAt h X e qv ov) {B : Nat} (hB : foot X qv ov B) : ∃ cs, h[B]? = some (some ⟨true, cs⟩) := by
  rcases hB with rfl | hB | hB
  · exact ⟨_, E.obj⟩
  · exact E.q.own hB
  · exact E.o.own hB
theorem BAt.lt {h : AHeap} {X : Nat} {e : BE} {qv ov : Value} (E : BAt h X e qv ov) {B : Nat} (hB : foot X qv ov B) : B < h.length := by
  obtain ⟨cs, h1⟩ := E.own hB; exact lt_of_get h1
theorem BAt.frz {h h' : AHeap} {X : Nat} {e : BE} {qv ov : Value} (E : BAt h X e qv ov) (k : Fr (foot X qv ov) h h') : Frz h h' :=
  k.frz fun B cs hB h1 => by obtain ⟨cs', h2⟩ := E.own hB; rw [h2] at h1; cases h1
theorem BAt.keep {h h' : AHeap} {X : Nat} {e : BE} {qv ov : Value} (E : BAt h X e qv ov) (z : Frz h h') (hk : ∀ B, foot X qv ov B → h'[B]? = h[B]?) : BAt h' X e qv ov :=
  ⟨by rw [hk X (.inl rfl)]; exact E.obj, E.q.keep z fun A hA => hk A (.inr (.inl hA)), E.o.keep z fun A hA => hk A (.inr (.inr hA)), E.n1, E.n2, E.n3, E.b1, E.b2, E.b3, E.b4, E.b5, E.b6⟩
theorem BAt.kp {h h' : AHeap} {X : Nat} {e : BE} {qv ov : Value} (E : BAt h X e qv ov) (k : Kp h h') : BAt h' X e qv ov := E.keep k.frz fun B hB => k.2 B (E.lt hB)
/-- what an end's method leaves -/
def Went (h h' : AHeap) (X : Nat) (e' : BE) (qv ov : Value) : Prop := ∃ qv' ov', BAt h' X e' qv' ov' ∧ Fr (foot X qv ov) h h' ∧ ∀ B, foot X qv' ov' B → foot X qv ov B ∨ h.length ≤ B
theorem BAt.same {h : AHeap} {X : Nat} {e : BE} {qv ov : Value} (E : BAt h X e qv ov) {h' : AHeap} (k : Kp h h') : Went h h' X e qv ov := ⟨qv, ov, E.kp k, k.fr _, fun B hB => .inl hB⟩
/-- numbers alone turn -/
theorem BAt.set {h : AHeap} {X : Nat} {e : BE} {qv ov : Value} (E : BAt h X e qv ov) (e' : BE) (hq : e'.q = e.q) (ho : e'.o = e.o) (h1 : e'.sent < 128) (h2 : e'.ack < 128) (h3 : e'.acc < 128) (h6 : e'.again ≤ e.o.length) : BAt (h.set X (some ⟨true, e'.cells qv ov⟩)) X e' qv ov := by
  have z : Frz h (h.set X (some ⟨true, e'.cells qv ov⟩)) := fun B cs hB => by
    rw [set_ne (fun e1 => by rw [← e1, E.obj] at hB; cases hB)]; exact hB
  exact ⟨set_same E.obj _, by rw [hq]; exact E.q.keep z fun A hA => set_ne (fun e1 => E.n1 (by rw [e1]; exact hA)) _, by rw [ho]; exact E.o.keep z fun A hA => set_ne (fun e1 => E.n2 (by rw [e1]; exact hA)) _, E.n1, E.n2, E.n3, h1, h2, h3, by rw [ho]; exact E.b4, by rw [hq]; exact E.b5, by rw [ho]; exact h6⟩

def BE.st (e : BE) : Int := if e.rd = true then (if e.fl = true then 6 else 0) else 2
theorem state_ok {h : AHeap} {X : Nat} {e : BE} {qv ov : Value} (E : BAt h X e qv ov) : Valid Try.prog 34 [.pointer (some ⟨X, 0, none⟩)] h fun r h' => r = .int .i64 e.st ∧ h' = h := by
  refine v34 (by simp) ?_
  have hX := E.obj
  obtain ⟨q, o, again, sent, ack, fb, acc, bb, a0, a1, rd, fl⟩ := e
  simp only [BE.cells] at hX
  unfold BE.st
  cases rd
  · simp only [X34, sx, x_box, x_alloc, x_bslice, x_slice, x_append, x_appz, x_b2s, x_s2b, x_mark, xop, ev, evs, evParts, fillL, cellsL, Ai.get, Ai.put, stab, isNil?, if_false, if_true, addr?, int?, str?, agg?, bool?, shiftA, FnPost, xresL, xres1, tup, argEnv, ptr, Nat.reduceEqDiff, reduceIte, beq_self_eq_true, ne_eq, Nat.reduceAdd, Nat.reduceMul, Nat.reduceSub, abin_shl, abin_shr, load1V, loadV, storeV, cellsAt, getN, setN, allocV, lenL, lenS, bnd, oneC, Value.oneCell', Nat.reduceLeDiff, Nat.reduceLT, exists_eq_left', forall_const, reduceCtorEq, app_new, app_new0, List.append_assoc, Int.reduceToNat, Int.reduceLT, Int.reduceLE, Int.reduceEq, Int.reduceNe, Int.reduceBEq, IntKind.bits, bne_self_eq_false, Int.reducePow, hX]
  · cases fl
    · simp only [X34, sx, x_box, x_alloc, x_bslice, x_slice, x_append, x_appz, x_b2s, x_s2b, x_mark, xop, ev, evs, evParts, fillL, cellsL, Ai.get, Ai.put, stab, isNil?, if_false, if_true, addr?, int?, str?, agg?, bool?, shiftA, FnPost, xresL, xres1, tup, argEnv, ptr, Nat.reduceEqDiff, reduceIte, beq_self_eq_true, ne_eq, Nat.reduceAdd, Nat.reduceMul, Nat.reduceSub, abin_shl, abin_shr, load1V, loadV, storeV, cellsAt, getN, setN, allocV, lenL, lenS, bnd, oneC, Value.oneCell', Nat.reduceLeDiff, Nat.reduceLT, exists_eq_left', forall_const, reduceCtorEq, app_new, app_new0, List.append_assoc, Int.reduceToNat, Int.reduceLT, Int.reduceLE, Int.reduceEq, Int.reduceNe, Int.reduceBEq, IntKind.bits, bne_self_eq_false, Int.reducePow, hX]
    · simp only [X34, sx, x_box, x_alloc, x_bslice, x_slice, x_append, x_appz, x_b2s, x_s2b, x_mark, xop, ev, evs, evParts, fillL, cellsL, Ai.get, Ai.put, stab, isNil?, if_false, if_true, addr?, int?, str?, agg?, bool?, shiftA, FnPost, xresL, xres1, tup, argEnv, ptr, Nat.reduceEqDiff, reduceIte, beq_self_eq_true, ne_eq, Nat.reduceAdd, Nat.reduceMul, Nat.reduceSub, abin_shl, abin_shr, load1V, loadV, storeV, cellsAt, getN, setN, allocV, lenL, lenS, bnd, oneC, Value.oneCell', Nat.reduceLeDiff, Nat.reduceLT, exists_eq_left', forall_const, reduceCtorEq, app_new, app_new0, List.append_assoc, Int.reduceToNat, Int.reduceLT, Int.reduceLE, Int.reduceEq, Int.reduceNe, Int.reduceBEq, IntKind.bits, bne_self_eq_false, Int.reducePow, hX]
theorem state_nil {h : AHeap} : Valid Try.prog 34 [.pointer none] h fun r h' => r = .int .i64 2 ∧ h' = h := by
  refine v34 (by simp) ?_
  simp only [X34, sx, x_box, x_alloc, x_bslice, x_slice, x_append, x_appz, x_b2s, x_s2b, x_mark, xop, ev, evs, evParts, fillL, cellsL, Ai.get, Ai.put, stab, isNil?, if_false, if_true, addr?, int?, str?, agg?, bool?, shiftA, FnPost, xresL, xres1, tup, argEnv, ptr, Nat.reduceEqDiff, reduceIte, beq_self_eq_true, ne_eq, Nat.reduceAdd, Nat.reduceMul, Nat.reduceSub, abin_shl, abin_shr, load1V, loadV, storeV, cellsAt, getN, setN, allocV, lenL, lenS, bnd, oneC, Value.oneCell', Nat.reduceLeDiff, Nat.reduceLT, exists_eq_left', forall_const, reduceCtorEq, app_new, app_new0, List.append_assoc, Int.reduceToNat, Int.reduceLT, Int.reduceLE, Int.reduceEq, Int.reduceNe, Int.reduceBEq, IntKind.bits, bne_self_eq_false, Int.reducePow]
def BE.new : BE := ⟨[], [], 0, 127, 127, true, 127, true, false, false, true, false⟩
theorem new_ok {h : AHeap} : Valid Try.prog 13 [] h fun r h' => r = .pointer (some ⟨h.length, 0, none⟩) ∧ Kp h h' ∧ BAt h' h.length BE.new (.slice none 0 0) (.slice none 0 0) := by
  refine v13 (by simp) ?_
  simp only [X13, sx, x_box, x_alloc, x_bslice, x_slice, x_append, x_appz, x_b2s, x_s2b, x_mark, xop, ev, evs, evParts, fillL, cellsL, Ai.get, Ai.put, stab, isNil?, if_false, if_true, addr?, int?, str?, agg?, bool?, shiftA, FnPost, xresL, xres1, tup, argEnv, ptr, Nat.reduceEqDiff, reduceIte, beq_self_eq_true, ne_eq, Nat.reduceAdd, Nat.reduceMul, Nat.reduceSub, abin_shl, abin_shr, load1V, loadV, storeV, cellsAt, getN, setN, allocV, lenL, lenS, bnd, oneC, Value.oneCell', Nat.reduceLeDiff, Nat.reduceLT, exists_eq_left', forall_const, reduceCtorEq, app_new, app_new0, List.append_assoc, Int.reduceToNat, Int.reduceLT, Int.reduceLE, Int.reduceEq, Int.reduceNe, Int.reduceBEq, IntKind.bits, bne_self_eq_false, Int.reducePow]
  exact ⟨Kp.app _ _, by rw [app_new0]; rfl, QAt.nil _, QAt.nil _, by simp [slB], by simp [slB], by simp [slB], by decide, by decide, by decide, by decide, by decide, by decide⟩

def BE.accept (e : BE) (zs : List Int) : BE × Int :=
  if e.st ≠ 0 then (e, e.st) else if zs.length < 2 ∨ 273 < zs.length then (e, 5) else if 64 ≤ e.q.length then (e, 9) else ({ e with q := e.q ++ [zs] }, 0)

set_option maxHeartbeats 2000000 in
theorem accept_ok {h : AHeap} {X : Nat} {e : BE} {qv ov lv : Value} {zs : List Int} (E : BAt h X e qv ov) (L : LoadW h lv zs) : Valid Try.prog 14 [.pointer (some ⟨X, 0, none⟩), lv] h fun r h' => r = .int .i64 (e.accept zs).2 ∧ Went h h' X (e.accept zs).1 qv ov := by
  refine v14 (by simp) ?_
  have L' := L
  obtain ⟨ql, cl, rfl, hl1, -⟩ := L'
  simp only [X14, sx, x_box, x_alloc, x_bslice, x_slice, x_append, x_appz, x_b2s, x_s2b, x_mark, xop, ev, evs, evParts, fillL, cellsL, Ai.get, Ai.put, stab, isNil?, if_false, if_true, addr?, int?, str?, agg?, bool?, shiftA, FnPost, xresL, xres1, tup, argEnv, ptr, Nat.reduceEqDiff, reduceIte, beq_self_eq_true, ne_eq, Nat.reduceAdd, Nat.reduceMul, Nat.reduceSub, abin_shl, abin_shr, load1V, loadV, storeV, cellsAt, getN, setN, allocV, lenL, lenS, bnd, oneC, Value.oneCell', Nat.reduceLeDiff, Nat.reduceLT, exists_eq_left', forall_const, reduceCtorEq, app_new, app_new0, List.append_assoc, Int.reduceToNat, Int.reduceLT, Int.reduceLE, Int.reduceEq, Int.reduceNe, Int.reduceBEq, IntKind.bits, bne_self_eq_false, Int.reducePow]
  refine xcall (state_ok E) (by rfl) (by rfl) (by rfl) (by rfl) ?_
  rintro r h' ⟨rfl, rfl⟩
  unfold BE.accept
  by_cases hs : e.st = 0
  · rw [if_neg (by simp [hs])]
    simp only [sx, x_box, x_alloc, x_bslice, x_slice, x_append, x_appz, x_b2s, x_s2b, x_mark, xop, ev, evs, evParts, fillL, cellsL, Ai.get, Ai.put, stab, isNil?, if_false, if_true, addr?, int?, str?, agg?, bool?, shiftA, FnPost, xresL, xres1, tup, argEnv, ptr, Nat.reduceEqDiff, reduceIte, beq_self_eq_true, ne_eq, Nat.reduceAdd, Nat.reduceMul, Nat.reduceSub, abin_shl, abin_shr, load1V, loadV, storeV, cellsAt, getN, setN, allocV, lenL, lenS, bnd, oneC, Value.oneCell', Nat.reduceLeDiff, Nat.reduceLT, exists_eq_left', forall_const, reduceCtorEq, app_new, app_new0, List.append_assoc, Int.reduceToNat, Int.reduceLT, Int.reduceLE, Int.reduceEq, Int.reduceNe, Int.reduceBEq, IntKind.bits, bne_self_eq_false, Int.reducePow, hs]
    have U : UV h' (.agg #[.int .u8 0, .bool false, .int .u8 0, .bool false, .int .u8 2, .int .u8 0, .slice ql zs.length cl]) ⟨0, false, 0, false, 2, 0, zs⟩ := ⟨_, rfl, L⟩
    refine xcall (check_ok U) (by rfl) (by rfl) (by rfl) (by rfl) ?_
    rintro r h1 ⟨rfl, J, rfl⟩
    have K1 : Kp h' (h' ++ J) := Kp.app _ _
    have E1 := E.kp K1
    have L1 := L.frz K1.frz
    by_cases hb : zs.length < 2 ∨ 273 < zs.length
    · rw [if_pos hb]
      have hc : chk ⟨0, false, 0, false, 2, 0, zs⟩ = 5 := by
        unfold chk
        rw [if_neg (by simp), if_pos (.inl ⟨rfl, hb⟩)]
      simp only [sx, x_box, x_alloc, x_bslice, x_slice, x_append, x_appz, x_b2s, x_s2b, x_mark, xop, ev, evs, evParts, fillL, cellsL, Ai.get, Ai.put, stab, isNil?, if_false, if_true, addr?, int?, str?, agg?, bool?, shiftA, FnPost, xresL, xres1, tup, argEnv, ptr, Nat.reduceEqDiff, reduceIte, beq_self_eq_true, ne_eq, Nat.reduceAdd, Nat.reduceMul, Nat.reduceSub, abin_shl, abin_shr, load1V, loadV, storeV, cellsAt, getN, setN, allocV, lenL, lenS, bnd, oneC, Value.oneCell', Nat.reduceLeDiff, Nat.reduceLT, exists_eq_left', forall_const, reduceCtorEq, app_new, app_new0, List.append_assoc, Int.reduceToNat, Int.reduceLT, Int.reduceLE, Int.reduceEq, Int.reduceNe, Int.reduceBEq, IntKind.bits, bne_self_eq_false, Int.reducePow, hc]
      exact E.same K1
    · rw [if_neg hb]
      have hc : chk ⟨0, false, 0, false, 2, 0, zs⟩ = 0 := by
        unfold chk
        rw [if_neg (by simp), if_neg (by simp; omega)]
      obtain ⟨qa, qc, rfl⟩ := E.q.shape
      have hX := E1.obj
      obtain ⟨q, o, again, sent, ack, fb, acc, bb, a0, a1, rd, fl⟩ := e
      simp only [BE.cells] at hX
      by_cases h64 : 64 ≤ q.length
      · have h64' : (64 : Int) ≤ q.length := by omega
        rw [if_pos h64]
        simp only [sx, x_box, x_alloc, x_bslice, x_slice, x_append, x_appz, x_b2s, x_s2b, x_mark, xop, ev, evs, evParts, fillL, cellsL, Ai.get, Ai.put, stab, isNil?, if_false, if_true, addr?, int?, str?, agg?, bool?, shiftA, FnPost, xresL, xres1, tup, argEnv, ptr, Nat.reduceEqDiff, reduceIte, beq_self_eq_true, ne_eq, Nat.reduceAdd, Nat.reduceMul, Nat.reduceSub, abin_shl, abin_shr, load1V, loadV, storeV, cellsAt, getN, setN, allocV, lenL, lenS, bnd, oneC, Value.oneCell', Nat.reduceLeDiff, Nat.reduceLT, exists_eq_left', forall_const, reduceCtorEq, app_new, app_new0, List.append_assoc, Int.reduceToNat, Int.reduceLT, Int.reduceLE, Int.reduceEq, Int.reduceNe, Int.reduceBEq, IntKind.bits, bne_self_eq_false, Int.reducePow, hc, hX, h64']
        exact E.same K1
      · have h64' : ¬ (64 : Int) ≤ q.length := by omega
        rw [if_neg h64]
        simp only [sx, x_box, x_alloc, x_bslice, x_slice, x_append, x_appz, x_b2s, x_s2b, x_mark, xop, ev, evs, evParts, fillL, cellsL, Ai.get, Ai.put, stab, isNil?, if_false, if_true, addr?, int?, str?, agg?, bool?, shiftA, FnPost, xresL, xres1, tup, argEnv, ptr, Nat.reduceEqDiff, reduceIte, beq_self_eq_true, ne_eq, Nat.reduceAdd, Nat.reduceMul, Nat.reduceSub, abin_shl, abin_shr, load1V, loadV, storeV, cellsAt, getN, setN, allocV, lenL, lenS, bnd, oneC, Value.oneCell', Nat.reduceLeDiff, Nat.reduceLT, exists_eq_left', forall_const, reduceCtorEq, app_new, app_new0, Int.reduceToNat, Int.reduceLT, Int.reduceLE, Int.reduceEq, Int.reduceNe, Int.reduceBEq, IntKind.bits, bne_self_eq_false, Int.reducePow, hc, hX, h64']
        refine xcall (copied_ok L1 (by omega) (by omega)) (by rfl) (by rfl) (by rfl) (by rfl) ?_
        rintro r h2 ⟨L2, K2⟩
        have E2 := E1.kp K2
        have hX2 := E2.obj
        simp only [BE.cells] at hX2
        have L2' := L2
        obtain ⟨B, rfl, -⟩ := L2'
        have hX3 := app_old (t := [some ⟨true, [Value.slice (some ⟨B, 0, none⟩) zs.length zs.length]⟩]) hX2
        simp only [sx, x_box, x_alloc, x_bslice, x_slice, x_appz, x_b2s, x_s2b, x_mark, xop, ev, evs, evParts, fillL, cellsL, Ai.get, Ai.put, stab, isNil?, if_false, if_true, addr?, int?, str?, agg?, bool?, shiftA, FnPost, xresL, xres1, tup, argEnv, ptr, Nat.reduceEqDiff, reduceIte, beq_self_eq_true, ne_eq, Nat.reduceAdd, Nat.reduceMul, Nat.reduceSub, abin_shl, abin_shr, load1V, loadV, storeV, cellsAt, getN, setN, allocV, lenL, lenS, bnd, oneC, Value.oneCell', Nat.reduceLeDiff, Nat.reduceLT, exists_eq_left', forall_const, reduceCtorEq, app_new, app_new0, Int.reduceToNat, Int.reduceLT, Int.reduceLE, Int.reduceEq, Int.reduceNe, Int.reduceBEq, IntKind.bits, bne_self_eq_false, Int.reducePow, hX2, hX3]
        refine QAt.push E2.q L2 rfl rfl (by simp only; omega) fun h3 A' hA' hl3 Q3 hfr3 z3 => ?_
        have hX4 : h3[X]? = some (some ⟨true, BE.cells ⟨q, o, again, sent, ack, fb, acc, bb, a0, a1, rd, fl⟩ (.slice qa q.length qc) ov⟩) := by rw [hfr3 X (lt_of_get hX2) E2.n1]; exact E2.obj
        have hX4' := hX4
        simp only [BE.cells] at hX4
        simp only [sx, x_box, x_alloc, x_bslice, x_slice, x_append, x_appz, x_b2s, x_s2b, x_mark, xop, ev, evs, evParts, fillL, cellsL, Ai.get, Ai.put, stab, isNil?, if_false, if_true, addr?, int?, str?, agg?, bool?, shiftA, FnPost, xresL, xres1, tup, argEnv, ptr, Nat.reduceEqDiff, reduceIte, beq_self_eq_true, ne_eq, Nat.reduceAdd, Nat.reduceMul, Nat.reduceSub, abin_shl, abin_shr, load1V, loadV, storeV, cellsAt, getN, setN, allocV, lenL, lenS, bnd, oneC, Value.oneCell', Nat.reduceLeDiff, Nat.reduceLT, exists_eq_left', forall_const, reduceCtorEq, app_new, app_new0, List.append_assoc, Int.reduceToNat, Int.reduceLT, Int.reduceLE, Int.reduceEq, Int.reduceNe, Int.reduceBEq, IntKind.bits, bne_self_eq_false, Int.reducePow, hX4]
        have hK1 := K1.1
        have hK2 := K2.1
        have hXl := lt_of_get hX2
        have O3 : QAt h3 ov o := E2.o.keep z3 fun A hA => hfr3 A (E2.o.lt hA) fun e1 => E2.n3 A e1 hA
        have zS : Frz h3 (h3.set X (some ⟨true, BE.cells ⟨q ++ [zs], o, again, sent, ack, fb, acc, bb, a0, a1, rd, fl⟩ (.slice (some ⟨A', 0, none⟩) (q.length + 1) (unk + 1)) ov⟩)) := fun B cs hB => by
          rw [set_ne (fun e1 => by rw [← e1, hX4'] at hB; cases hB)]; exact hB
        refine ⟨.slice (some ⟨A', 0, none⟩) (q.length + 1) (unk + 1), ov, ⟨set_same hX4' _, ?_, ?_, ?_, E.n2, ?_, E.b1, E.b2, E.b3, E.b4, ?_, E.b6⟩, ⟨?_, ?_⟩, ?_⟩
        · simp only [List.length_append, List.length_cons, List.length_nil]
          exact Q3.keep zS fun A hA => set_ne (fun e1 => by simp [slB] at hA; omega) _
        · exact O3.keep zS fun A hA => set_ne (fun e1 => E.n2 (by rw [e1]; exact hA)) _
        · simp only [slB]; intro e1; cases e1; omega
        · intro B hB hB2
          simp [slB] at hB
          have := E2.o.lt hB2
          omega
        · simp; omega
        · simp; omega
        · intro B hB hn
          have hn' : X ≠ B := fun e1 => hn (.inl e1.symm)
          rw [set_ne hn', hfr3 B (by omega) (fun e1 => hn (.inr (.inl e1))), K2.2 B (by omega), K1.2 B hB]
        · intro B hB
          rcases hB with rfl | hB | hB
          · exact .inl (.inl rfl)
          · simp [slB] at hB; exact .inr (by omega)
          · exact .inl (.inr (.inr hB))
  · rw [if_pos hs]
    simp only [sx, x_box, x_alloc, x_bslice, x_slice, x_append, x_appz, x_b2s, x_s2b, x_mark, xop, ev, evs, evParts, fillL, cellsL, Ai.get, Ai.put, stab, isNil?, if_false, if_true, addr?, int?, str?, agg?, bool?, shiftA, FnPost, xresL, xres1, tup, argEnv, ptr, Nat.reduceEqDiff, reduceIte, beq_self_eq_true, ne_eq, Nat.reduceAdd, Nat.reduceMul, Nat.reduceSub, abin_shl, abin_shr, load1V, loadV, storeV, cellsAt, getN, setN, allocV, lenL, lenS, bnd, oneC, Value.oneCell', Nat.reduceLeDiff, Nat.reduceLT, exists_eq_left', forall_const, reduceCtorEq, app_new, app_new0, List.append_assoc, Int.reduceToNat, Int.reduceLT, Int.reduceLE, Int.reduceEq, Int.reduceNe, Int.reduceBEq, IntKind.bits, bne_self_eq_false, Int.reducePow, hs]
    exact E.same (Kp.refl _)
theorem accept_nil {h : AHeap} {lv : Value} : Valid Try.prog 14 [.pointer none, lv] h fun r h' => r = .int .i64 2 ∧ h' = h := by
  refine v14 (by simp) ?_
  simp only [X14, sx, x_box, x_alloc, x_bslice, x_slice, x_append, x_appz, x_b2s, x_s2b, x_mark, xop, ev, evs, evParts, fillL, cellsL, Ai.get, Ai.put, stab, isNil?, if_false, if_true, addr?, int?, str?, agg?, bool?, shiftA, FnPost, xresL, xres1, tup, argEnv, ptr, Nat.reduceEqDiff, reduceIte, beq_self_eq_true, ne_eq, Nat.reduceAdd, Nat.reduceMul, Nat.reduceSub, abin_shl, abin_shr, load1V, loadV, storeV, cellsAt, getN, setN, allocV, lenL, lenS, bnd, oneC, Value.oneCell', Nat.reduceLeDiff, Nat.reduceLT, exists_eq_left', forall_const, reduceCtorEq, app_new, app_new0, List.append_assoc, Int.reduceToNat, Int.reduceLT, Int.reduceLE, Int.reduceEq, Int.reduceNe, Int.reduceBEq, IntKind.bits, bne_self_eq_false, Int.reducePow]
  refine xcall state_nil (by rfl) (by rfl) (by rfl) (by rfl) ?_
  rintro r h' ⟨rfl, rfl⟩
  simp only [sx, x_box, x_alloc, x_bslice, x_slice, x_append, x_appz, x_b2s, x_s2b, x_mark, xop, ev, evs, evParts, fillL, cellsL, Ai.get, Ai.put, stab, isNil?, if_false, if_true, addr?, int?, str?, agg?, bool?, shiftA, FnPost, xresL, xres1, tup, argEnv, ptr, Nat.reduceEqDiff, reduceIte, beq_self_eq_true, ne_eq, Nat.reduceAdd, Nat.reduceMul, Nat.reduceSub, abin_shl, abin_shr, load1V, loadV, storeV, cellsAt, getN, setN, allocV, lenL, lenS, bnd, oneC, Value.oneCell', Nat.reduceLeDiff, Nat.reduceLT, exists_eq_left', forall_const, reduceCtorEq, app_new, app_new0, List.append_assoc, Int.reduceToNat, Int.reduceLT, Int.reduceLE, Int.reduceEq, Int.reduceNe, Int.reduceBEq, IntKind.bits, bne_self_eq_false, Int.reducePow]
theorem waiting_ok {h : AHeap} {X : Nat} {e : BE} {qv ov : Value} (E : BAt h X e qv ov) : Valid Try.prog 24 [.pointer (some ⟨X, 0, none⟩)] h fun r h' => r = .tuple #[.int .i64 (e.q.length : Nat), .int .i64 (e.o.length : Nat)] ∧ h' = h := by
  refine v24 (by simp) ?_
  obtain ⟨qa, qc, rfl⟩ := E.q.shape
  obtain ⟨oa, oc, rfl⟩ := E.o.shape
  have hX := E.obj
  simp only [BE.cells] at hX
  simp only [X24, sx, x_box, x_alloc, x_bslice, x_slice, x_append, x_appz, x_b2s, x_s2b, x_mark, xop, ev, evs, evParts, fillL, cellsL, Ai.get, Ai.put, stab, isNil?, if_false, if_true, addr?, int?, str?, agg?, bool?, shiftA, FnPost, xresL, xres1, tup, argEnv, ptr, Nat.reduceEqDiff, reduceIte, beq_self_eq_true, ne_eq, Nat.reduceAdd, Nat.reduceMul, Nat.reduceSub, abin_shl, abin_shr, load1V, loadV, storeV, cellsAt, getN, setN, allocV, lenL, lenS, bnd, oneC, Value.oneCell', Nat.reduceLeDiff, Nat.reduceLT, exists_eq_left', forall_const, reduceCtorEq, app_new, app_new0, List.append_assoc, Int.reduceToNat, Int.reduceLT, Int.reduceLE, Int.reduceEq, Int.reduceNe, Int.reduceBEq, IntKind.bits, bne_self_eq_false, Int.reducePow, hX]
theorem waiting_nil {h : AHeap} : Valid Try.prog 24 [.pointer none] h fun r h' => r = .tuple #[.int .i64 0, .int .i64 0] ∧ h' = h := by
  refine v24 (by simp) ?_
  simp only [X24, sx, x_box, x_alloc, x_bslice, x_slice, x_append, x_appz, x_b2s, x_s2b, x_mark, xop, ev, evs, evParts, fillL, cellsL, Ai.get, Ai.put, stab, isNil?, if_false, if_true, addr?, int?, str?, agg?, bool?, shiftA, FnPost, xresL, xres1, tup, argEnv, ptr, Nat.reduceEqDiff, reduceIte, beq_self_eq_true, ne_eq, Nat.reduceAdd, Nat.reduceMul, Nat.reduceSub, abin_shl, abin_shr, load1V, loadV, storeV, cellsAt, getN, setN, allocV, lenL, lenS, bnd, oneC, Value.oneCell', Nat.reduceLeDiff, Nat.reduceLT, exists_eq_left', forall_const, reduceCtorEq, app_new, app_new0, List.append_assoc, Int.reduceToNat, Int.reduceLT, Int.reduceLE, Int.reduceEq, Int.reduceNe, Int.reduceBEq, IntKind.bits, bne_self_eq_false, Int.reducePow]
theorem failed_ok {h : AHeap} {X : Nat} {e : BE} {qv ov : Value} (E : BAt h X e qv ov) : Valid Try.prog 17 [.pointer (some ⟨X, 0, none⟩)] h fun r h' => r = .bool e.fl ∧ h' = h := by
  refine v17 (by simp) ?_
  have hX := E.obj
  simp only [BE.cells] at hX
  simp only [X17, sx, x_box, x_alloc, x_bslice, x_slice, x_append, x_appz, x_b2s, x_s2b, x_mark, xop, ev, evs, evParts, fillL, cellsL, Ai.get, Ai.put, stab, isNil?, if_false, if_true, addr?, int?, str?, agg?, bool?, shiftA, FnPost, xresL, xres1, tup, argEnv, ptr, Nat.reduceEqDiff, reduceIte, beq_self_eq_true, ne_eq, Nat.reduceAdd, Nat.reduceMul, Nat.reduceSub, abin_shl, abin_shr, load1V, loadV, storeV, cellsAt, getN, setN, allocV, lenL, lenS, bnd, oneC, Value.oneCell', Nat.reduceLeDiff, Nat.reduceLT, exists_eq_left', forall_const, reduceCtorEq, app_new, app_new0, List.append_assoc, Int.reduceToNat, Int.reduceLT, Int.reduceLE, Int.reduceEq, Int.reduceNe, Int.reduceBEq, IntKind.bits, bne_self_eq_false, Int.reducePow, hX]
theorem failed_nil {h : AHeap} : Valid Try.prog 17 [.pointer none] h fun r h' => r = .bool false ∧ h' = h := by
  refine v17 (by simp) ?_
  simp only [X17, sx, x_box, x_alloc, x_bslice, x_slice, x_append, x_appz, x_b2s, x_s2b, x_mark, xop, ev, evs, evParts, fillL, cellsL, Ai.get, Ai.put, stab, isNil?, if_false, if_true, addr?, int?, str?, agg?, bool?, shiftA, FnPost, xresL, xres1, tup, argEnv, ptr, Nat.reduceEqDiff, reduceIte, beq_self_eq_true, ne_eq, Nat.reduceAdd, Nat.reduceMul, Nat.reduceSub, abin_shl, abin_shr, load1V, loadV, storeV, cellsAt, getN, setN, allocV, lenL, lenS, bnd, oneC, Value.oneCell', Nat.reduceLeDiff, Nat.reduceLT, exists_eq_left', forall_const, reduceCtorEq, app_new, app_new0, List.append_assoc, Int.reduceToNat, Int.reduceLT, Int.reduceLE, Int.reduceEq, Int.reduceNe, Int.reduceBEq, IntKind.bits, bne_self_eq_false, Int.reducePow]
theorem last_ok {h : AHeap} {X : Nat} {e : BE} {qv ov : Value} (E : BAt h X e qv ov) : Valid Try.prog 26 [.pointer (some ⟨X, 0, none⟩)] h fun r h' => r = .int .u8 (e.acc : Nat) ∧ h' = h := by
  refine v26 (by simp) ?_
  have hX := E.obj
  simp only [BE.cells] at hX
  simp only [X26, sx, x_box, x_alloc, x_bslice, x_slice, x_append, x_appz, x_b2s, x_s2b, x_mark, xop, ev, evs, evParts, fillL, cellsL, Ai.get, Ai.put, stab, isNil?, if_false, if_true, addr?, int?, str?, agg?, bool?, shiftA, FnPost, xresL, xres1, tup, argEnv, ptr, Nat.reduceEqDiff, reduceIte, beq_self_eq_true, ne_eq, Nat.reduceAdd, Nat.reduceMul, Nat.reduceSub, abin_shl, abin_shr, load1V, loadV, storeV, cellsAt, getN, setN, allocV, lenL, lenS, bnd, oneC, Value.oneCell', Nat.reduceLeDiff, Nat.reduceLT, exists_eq_left', forall_const, reduceCtorEq, app_new, app_new0, List.append_assoc, Int.reduceToNat, Int.reduceLT, Int.reduceLE, Int.reduceEq, Int.reduceNe, Int.reduceBEq, IntKind.bits, bne_self_eq_false, Int.reducePow, hX]
theorem last_nil {h : AHeap} : Valid Try.prog 26 [.pointer none] h fun r h' => r = .int .u8 0 ∧ h' = h := by
  refine v26 (by simp) ?_
  simp only [X26, sx, x_box, x_alloc, x_bslice, x_slice, x_append, x_appz, x_b2s, x_s2b, x_mark, xop, ev, evs, evParts, fillL, cellsL, Ai.get, Ai.put, stab, isNil?, if_false, if_true, addr?, int?, str?, agg?, bool?, shiftA, FnPost, xresL, xres1, tup, argEnv, ptr, Nat.reduceEqDiff, reduceIte, beq_self_eq_true, ne_eq, Nat.reduceAdd, Nat.reduceMul, Nat.reduceSub, abin_shl, abin_shr, load1V, loadV, storeV, cellsAt, getN, setN, allocV, lenL, lenS, bnd, oneC, Value.oneCell', Nat.reduceLeDiff, Nat.reduceLT, exists_eq_left', forall_const, reduceCtorEq, app_new, app_new0, List.append_assoc, Int.reduceToNat, Int.reduceLT, Int.reduceLE, Int.reduceEq, Int.reduceNe, Int.reduceBEq, IntKind.bits, bne_self_eq_false, Int.reducePow]
end Go.Proofs.Ytcpcngamfncpdaa
