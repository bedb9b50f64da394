import Derived.Test.YtcpcngamfncpdaaD4
import Derived.Test.YtcpcngamfncpdaaAiXd
set_option linter.unusedVariables false
set_option linter.unusedSimpArgs false
namespace Go.Proofs.Ytcpcngamfncpdaa
open Go Go.Ai Go.Proofs

def UP.zero : UP := ⟨0, false, 0, false, 0, 0, []⟩
/-- a load is made one that is to be sent -/
def BE.pull (e : BE) : BE := if e.again = 0 ∧ 0 < e.q.length ∧ e.o.length < 127 then { e with o := e.o ++ [e.q.headD []], q := e.q.drop 1, sent := aft e.sent 1, again := 1 } else e
def BE.unit (e : BE) : UP := if 0 < e.again then ⟨e.acc, e.bb, aft e.sent (1 - e.again), e.fb, 2, 0, e.o.getD (e.o.length - e.again) []⟩ else ⟨e.acc, e.bb, e.sent, e.fb, 0, 0, []⟩
def BE.next (e : BE) : BE × UP × Int := if e.st ≠ 0 then (e, UP.zero, e.st) else ({ e.pull with again := e.pull.again - 1 }, e.pull.unit, 0)

theorem next_nil {h : AHeap} : Valid Try.prog 21 [.pointer none] h fun r h' => r = .tuple #[.agg (UP.zero.cells (.slice none 0 0)).toArray, .int .i64 2] ∧ Kp h h' := by
  refine v21 (by simp) ?_
  simp only [X21, sx, x_box, x_alloc, x_bslice, x_slice, x_append, x_appz, x_b2s, x_s2b, x_mark, xop, ev, evs, evParts, fillL, cellsL, Ai.get, Ai.put, stab, isNil?, if_false, if_true, addr?, int?, str?, agg?, bool?, shiftA, FnPost, xresL, xres1, tup, argEnv, ptr, Nat.reduceEqDiff, reduceIte, beq_self_eq_true, ne_eq, Nat.reduceAdd, Nat.reduceMul, Nat.reduceSub, abin_shl, abin_shr, load1V, loadV, storeV, cellsAt, getN, setN, allocV, lenL, lenS, bnd, oneC, Value.oneCell', Nat.reduceLeDiff, Nat.reduceLT, exists_eq_left', forall_const, reduceCtorEq, app_new, app_new0, List.append_assoc, Int.reduceToNat, Int.reduceLT, Int.reduceLE, Int.reduceEq, Int.reduceNe, Int.reduceBEq, IntKind.bits, bne_self_eq_false, Int.reducePow]
  refine xcall state_nil (by rfl) (by rfl) (by rfl) (by rfl) ?_
  rintro r h' ⟨rfl, rfl⟩
  simp only [sx, x_box, x_alloc, x_bslice, x_slice, x_append, x_appz, x_b2s, x_s2b, x_mark, xop, ev, evs, evParts, fillL, cellsL, Ai.get, Ai.put, stab, isNil?, if_false, if_true, addr?, int?, str?, agg?, bool?, shiftA, FnPost, xresL, xres1, tup, argEnv, ptr, Nat.reduceEqDiff, reduceIte, beq_self_eq_true, ne_eq, Nat.reduceAdd, Nat.reduceMul, Nat.reduceSub, abin_shl, abin_shr, load1V, loadV, storeV, cellsAt, getN, setN, allocV, lenL, lenS, bnd, oneC, Value.oneCell', Nat.reduceLeDiff, Nat.reduceLT, exists_eq_left', forall_const, reduceCtorEq, app_new, app_new0, List.append_assoc, Int.reduceToNat, Int.reduceLT, Int.reduceLE, Int.reduceEq, Int.reduceNe, Int.reduceBEq, IntKind.bits, bne_self_eq_false, Int.reducePow, UP.zero, UP.cells]
  exact Kp.app _ _
theorem aft_lt (n : Nat) (k : Int) : aft n k < 128 := by unfold aft; omega
theorem unit_zero (h : AHeap) : UV h (.agg (UP.zero.cells (.slice none 0 0)).toArray) UP.zero := ⟨_, rfl, none, 0, rfl, by decide, .inl rfl⟩

def zeroC : List Value := [.int .u8 0, .bool false, .int .u8 0, .bool false, .int .u8 0, .int .u8 0, .slice none 0 0]
def BE.unit0 (e : BE) : List Value := [.int .u8 (e.acc : Int), .bool e.bb, .int .u8 (e.sent : Int), .bool e.fb, .int .u8 0, .int .u8 0, .slice none 0 0]
def BE.sent1 (e : BE) : BE := { e with again := e.again - 1 }
/-- behind Next's choice: an end that went on, and the unit -/
def NextM (h : AHeap) (X : Nat) (e' : BE) (u : UP) (qv ov : Value) (U R : Nat) (ρ : Env) (h2 : AHeap) : Prop := get ρ 5 = some (.pointer (some ⟨U, 0, none⟩)) ∧ get ρ 2 = some (.pointer (some ⟨R, 0, none⟩)) ∧ (∃ lv, h2[U]? = some (some ⟨true, u.cells lv⟩) ∧ LoadW h2 lv u.load ∧ (u.load ≠ [] → LoadV h2 lv u.load)) ∧
  h2[R]? = some (some ⟨true, zeroC⟩) ∧ ∃ qv' ov', BAt h2 X e' qv' ov' ∧ Fr (foot X qv ov) h h2 ∧ (∀ B, foot X qv' ov' B → foot X qv ov B ∨ h.length ≤ B) ∧ ∀ B, foot X qv' ov' B → B ≠ R
/-- Next's loop -/
def NextI (h : AHeap) (X : Nat) (e : BE) (qv ov : Value) (U R : Nat) (m : Nat) (ρ : Env) (h2 : AHeap) : Prop := ∃ ep qp op, ((m = 1 ∧ ep = e) ∨ (m = 0 ∧ ep = e.pull ∧ 0 < e.pull.again)) ∧ BAt h2 X ep qp op ∧ Fr (foot X qv ov) h h2 ∧ (∀ B, foot X qp op B → foot X qv ov B ∨ h.length ≤ B) ∧ (∀ B, foot X qp op B → B ≠ U ∧ B ≠ R) ∧
      get ρ 0 = some (.pointer (some ⟨X, 0, none⟩)) ∧ get ρ 5 = some (.pointer (some ⟨U, 0, none⟩)) ∧ get ρ 2 = some (.pointer (some ⟨R, 0, none⟩)) ∧ h2[U]? = some (some ⟨true, e.unit0⟩) ∧ h2[R]? = some (some ⟨true, zeroC⟩)
theorem LoadW.cells {h : AHeap} {v : Value} {zs : List Int} (l : LoadW h v zs) : cellsL v = [v] := by
  obtain ⟨q, c, rfl, -⟩ := l; rfl
theorem pull_same (e : BE) : e.pull.acc = e.acc ∧ e.pull.bb = e.bb ∧ e.pull.fb = e.fb := by unfold BE.pull; split <;> exact ⟨rfl, rfl, rfl⟩

/-- another block is written -/
theorem BAt.aside {h : AHeap} {X : Nat} {e : BE} {qv ov : Value} (E : BAt h X e qv ov) {U : Nat} {cs : List Value} (hU : h[U]? = some (some ⟨true, cs⟩)) (hd : ∀ B, foot X qv ov B → B ≠ U) (cs' : List Value) : BAt (h.set U (some ⟨true, cs'⟩)) X e qv ov ∧ Frz h (h.set U (some ⟨true, cs'⟩)) := by
  have z : Frz h (h.set U (some ⟨true, cs'⟩)) := fun B cs hB => by
    rw [set_ne (fun e1 => by rw [← e1, hU] at hB; cases hB)]; exact hB
  exact ⟨E.keep z fun B hB => set_ne (fun e1 => hd B hB e1.symm) _, z⟩
set_option maxHeartbeats 4000000 in
set_option maxRecDepth 20000 in
theorem next2_ok {h : AHeap} {X : Nat} {e : BE} {qv ov : Value} (E : BAt h X e qv ov) : Valid Try.prog 21 [.pointer (some ⟨X, 0, none⟩)] h fun r h' => (∃ lv, r = .tuple #[.agg (e.next.2.1.cells lv).toArray, .int .i64 e.next.2.2] ∧ LoadW h' lv e.next.2.1.load ∧ (e.next.2.1.load ≠ [] → LoadV h' lv e.next.2.1.load)) ∧ Went h h' X e.next.1 qv ov := by
  refine v21 (by simp) ?_
  simp only [X21, sx, x_box, x_bslice, x_slice, x_append, x_appz, x_b2s, x_s2b, x_mark, xop, ev, evs, evParts, fillL, cellsL, Ai.get, Ai.put, stab, isNil?, if_false, if_true, addr?, int?, str?, agg?, bool?, shiftA, FnPost, xresL, xres1, tup, argEnv, ptr, Nat.reduceEqDiff, reduceIte, beq_self_eq_true, ne_eq, Nat.reduceAdd, Nat.reduceMul, Nat.reduceSub, abin_shl, abin_shr, load1V, loadV, storeV, cellsAt, getN, setN, allocV, lenL, lenS, bnd, oneC, Value.oneCell', Nat.reduceLeDiff, Nat.reduceLT, exists_eq_left', forall_const, reduceCtorEq, app_new, app_new0, List.append_assoc, Int.reduceToNat, Int.reduceLT, Int.reduceLE, Int.reduceEq, Int.reduceNe, Int.reduceBEq, IntKind.bits, bne_self_eq_false, Int.reducePow]
  refine alloc_run fun g R K0 hR hRl _ => ?_
  have E0 := E.kp K0
  have hXl := E.lt (.inl rfl)
  simp only [sx, x_box, x_alloc, x_bslice, x_slice, x_append, x_appz, x_b2s, x_s2b, x_mark, xop, ev, evs, evParts, fillL, cellsL, Ai.get, Ai.put, stab, isNil?, if_false, if_true, addr?, int?, str?, agg?, bool?, shiftA, FnPost, xresL, xres1, tup, argEnv, ptr, Nat.reduceEqDiff, reduceIte, beq_self_eq_true, ne_eq, Nat.reduceAdd, Nat.reduceMul, Nat.reduceSub, abin_shl, abin_shr, load1V, loadV, storeV, cellsAt, getN, setN, allocV, lenL, lenS, bnd, oneC, Value.oneCell', Nat.reduceLeDiff, Nat.reduceLT, exists_eq_left', forall_const, reduceCtorEq, app_new, app_new0, List.append_assoc, Int.reduceToNat, Int.reduceLT, Int.reduceLE, Int.reduceEq, Int.reduceNe, Int.reduceBEq, IntKind.bits, bne_self_eq_false, Int.reducePow]
  refine xcall (state_ok E0) (by rfl) (by rfl) (by rfl) (by rfl) ?_
  rintro r h' ⟨rfl, rfl⟩
  unfold BE.next
  by_cases hs : e.st = 0
  rotate_left
  · rw [if_pos hs]
    simp only [sx, x_box, x_alloc, x_bslice, x_slice, x_append, x_appz, x_b2s, x_s2b, x_mark, xop, ev, evs, evParts, fillL, cellsL, Ai.get, Ai.put, stab, isNil?, if_false, if_true, addr?, int?, str?, agg?, bool?, shiftA, FnPost, xresL, xres1, tup, argEnv, ptr, Nat.reduceEqDiff, reduceIte, beq_self_eq_true, ne_eq, Nat.reduceAdd, Nat.reduceMul, Nat.reduceSub, abin_shl, abin_shr, load1V, loadV, storeV, cellsAt, getN, setN, allocV, lenL, lenS, bnd, oneC, Value.oneCell', Nat.reduceLeDiff, Nat.reduceLT, exists_eq_left', forall_const, reduceCtorEq, app_new, app_new0, List.append_assoc, Int.reduceToNat, Int.reduceLT, Int.reduceLE, Int.reduceEq, Int.reduceNe, Int.reduceBEq, IntKind.bits, bne_self_eq_false, Int.reducePow, hs, hR, set_here]
    exact ⟨⟨_, rfl, ⟨none, 0, rfl, by decide, .inl rfl⟩, fun h => absurd rfl h⟩, E.same (K0.set hRl _)⟩
  rw [if_neg (by simp [hs])]
  have hX := E0.obj
  have hXR : X ≠ R := by omega
  simp only [BE.cells] at hX
  simp only [sx, x_box, x_bslice, x_slice, x_append, x_appz, x_b2s, x_s2b, x_mark, xop, ev, evs, evParts, fillL, cellsL, Ai.get, Ai.put, stab, isNil?, if_false, if_true, addr?, int?, str?, agg?, bool?, shiftA, FnPost, xresL, xres1, tup, argEnv, ptr, Nat.reduceEqDiff, reduceIte, beq_self_eq_true, ne_eq, Nat.reduceAdd, Nat.reduceMul, Nat.reduceSub, abin_shl, abin_shr, load1V, loadV, storeV, cellsAt, getN, setN, allocV, lenL, lenS, bnd, oneC, Value.oneCell', Nat.reduceLeDiff, Nat.reduceLT, exists_eq_left', forall_const, reduceCtorEq, app_new, app_new0, List.append_assoc, Int.reduceToNat, Int.reduceLT, Int.reduceLE, Int.reduceEq, Int.reduceNe, Int.reduceBEq, IntKind.bits, bne_self_eq_false, Int.reducePow, hs, hX]
  refine alloc_run fun g1 U K1 hU hUl _ => ?_
  have hRg := lt_of_get hR
  have hK0 := K0.1
  have hXU : X ≠ U := by omega
  have hRU : R ≠ U := by omega
  replace hX := K1.get hX
  replace hR := K1.get hR
  have K01 := K0.trans K1
  have E1 := E0.kp K1
  clear K0 K1 E0
  have s2 := set_far hXU.symm
  have s6 := set_far hRU.symm
  simp only [sx, x_box, x_alloc, x_bslice, x_slice, x_append, x_appz, x_b2s, x_s2b, x_mark, xop, ev, evs, evParts, fillL, cellsL, Ai.get, Ai.put, stab, isNil?, if_false, if_true, addr?, int?, str?, agg?, bool?, shiftA, FnPost, xresL, xres1, tup, argEnv, ptr, Nat.reduceEqDiff, reduceIte, beq_self_eq_true, ne_eq, Nat.reduceAdd, Nat.reduceMul, Nat.reduceSub, abin_shl, abin_shr, load1V, loadV, storeV, cellsAt, getN, setN, allocV, lenL, lenS, bnd, oneC, Value.oneCell', Nat.reduceLeDiff, Nat.reduceLT, exists_eq_left', forall_const, reduceCtorEq, app_new, app_new0, List.append_assoc, Int.reduceToNat, Int.reduceLT, Int.reduceLE, Int.reduceEq, Int.reduceNe, Int.reduceBEq, IntKind.bits, bne_self_eq_false, Int.reducePow, hX, hU]
  have U0 : (g1.set U (some ⟨true, e.unit0⟩))[U]? = some (some ⟨true, e.unit0⟩) := by rw [set_here, hU]; rfl
  have K02 : Kp h (g1.set U (some ⟨true, e.unit0⟩)) := K01.set (by omega) _
  have R0 : (g1.set U (some ⟨true, e.unit0⟩))[R]? = some (some ⟨true, zeroC⟩) := (s6 _ _).trans hR
  have E2 := E.kp K02
  change xcode Try.prog _ _ _ (g1.set U (some ⟨true, e.unit0⟩))
  generalize g1.set U (some ⟨true, e.unit0⟩) = g2 at *
  clear hX hU hR E1 K01
  refine xloop_cut (NextM h X e.pull.sent1 e.pull.unit qv ov U R) ?_ ?_
  · refine xcode_loop (NextI h X e qv ov U R) 1
      ⟨e, qv, ov, .inl ⟨rfl, rfl⟩, E2, K02.fr _, fun B hB => .inl hB, fun B hB => by have := E.lt hB; omega, rfl, rfl, rfl, U0, R0⟩ ?_
    clear U0 R0 K02 E2 g2 
    rintro m ρ h2 ⟨ep, qp, op, hm, Ep, F2, hn2, hd2, g0, g5, g2, U0, R0⟩
    have hX := Ep.obj
    obtain ⟨oa, oc, hop⟩ := Ep.o.shape
    subst hop
    obtain ⟨qa, qc, hqp⟩ := Ep.q.shape
    subst hqp
    have hU0 := U0
    simp only [BE.unit0] at hU0
    simp only [BE.cells] at hX
    obtain ⟨k1, k2, k3⟩ := pull_same e
    by_cases ha : 0 < ep.again
    · have hep : ep = e.pull := by
        rcases hm with ⟨_, h1⟩ | ⟨_, h1, _⟩
        · rw [h1] at ha ⊢
          unfold BE.pull
          rw [if_neg (by omega)]
        · exact h1
      rw [← hep] at k1 k2 k3 ⊢
      have hag := Ep.b6
      have hol := Ep.b4
      have ha' : (0 : Int) < ep.again := by omega
      have hw1 : IntKind.i64.wrap (1 - (ep.again : Int)) = 1 - (ep.again : Int) := i64_wrap (by omega) (by omega)
      have hw2 : IntKind.i64.wrap ((ep.o.length : Int) - ep.again) = ((ep.o.length - ep.again : Nat) : Int) := by rw [i64_wrap (by omega) (by omega)]; omega
      have hw3 : IntKind.i64.wrap ((ep.again : Int) - 1) = ((ep.again - 1 : Nat) : Int) := by rw [i64_wrap (by omega) (by omega)]; omega
      have hlt : ((ep.o.length - ep.again : Nat) : Int) < ep.o.length := by omega
      have hge : (0 : Int) ≤ ((ep.o.length - ep.again : Nat) : Int) := by omega
      obtain ⟨A, off, c, cs, v, z, e1, e2, e3, e4, e5⟩ := Ep.o.elem (show ep.o.length - ep.again < ep.o.length by omega)
      cases e1
      have hAf : foot X (.slice qa ep.q.length qc) (.slice (some ⟨A, off, none⟩) ep.o.length oc) A := .inr (.inr rfl)
      have hAU := (hd2 A hAf).1
      have sA := set_far hAU.symm
      have hUlt := lt_of_get U0
      simp only [sx, x_box, x_alloc, x_bslice, x_slice, x_append, x_appz, x_b2s, x_s2b, x_mark, xop, ev, evs, evParts, fillL, cellsL, Ai.get, Ai.put, stab, isNil?, if_false, if_true, addr?, int?, str?, agg?, bool?, shiftA, FnPost, xresL, xres1, tup, argEnv, ptr, Nat.reduceEqDiff, reduceIte, beq_self_eq_true, ne_eq, Nat.reduceAdd, Nat.reduceMul, Nat.reduceSub, abin_shl, abin_shr, load1V, loadV, storeV, cellsAt, getN, setN, allocV, lenL, lenS, bnd, oneC, Value.oneCell', Nat.reduceLeDiff, Nat.reduceLT, exists_eq_left', forall_const, reduceCtorEq, app_new, app_new0, List.append_assoc, Int.reduceToNat, Int.reduceLT, Int.reduceLE, Int.reduceEq, Int.reduceNe, Int.reduceBEq, IntKind.bits, bne_self_eq_false, Int.reducePow, g0, g5, g2, hX, ha', hw1]
      refine xcall (after_ok (n := ep.sent) (k := 1 - (ep.again : Int)) (by have := Ep.b1; omega) (by omega)) (by rfl) (by rfl) (by rfl) (by rfl) ?_
      rintro r h' ⟨rfl, rfl⟩
      simp only [sx, x_box, x_alloc, x_bslice, x_slice, x_append, x_appz, x_b2s, x_s2b, x_mark, xop, ev, evs, evParts, fillL, cellsL, Ai.get, Ai.put, stab, isNil?, if_false, if_true, addr?, int?, str?, agg?, bool?, shiftA, FnPost, xresL, xres1, tup, argEnv, ptr, Nat.reduceEqDiff, reduceIte, beq_self_eq_true, ne_eq, Nat.reduceAdd, Nat.reduceMul, Nat.reduceSub, abin_shl, abin_shr, load1V, loadV, storeV, cellsAt, getN, setN, allocV, lenL, lenS, bnd, oneC, Value.oneCell', Nat.reduceLeDiff, Nat.reduceLT, exists_eq_left', forall_const, reduceCtorEq, app_new, app_new0, List.append_assoc, Int.reduceToNat, Int.reduceLT, Int.reduceLE, Int.reduceEq, Int.reduceNe, Int.reduceBEq, IntKind.bits, bne_self_eq_false, Int.reducePow, g0, g5, g2, hX, hU0, s2, s6, set_here, hw2, hlt, hge, sA, e2, e3, Nat.mul_one]
      have U3 : (h'.set U (some ⟨true, [.int .u8 (e.acc : Int), .bool e.bb, .int .u8 ((aft ep.sent (1 - ep.again) : Nat) : Int), .bool e.fb, .int .u8 2, .int .u8 0, .slice none 0 0]⟩))[U]? = some (some ⟨true, [.int .u8 (e.acc : Int), .bool e.bb, .int .u8 ((aft ep.sent (1 - ep.again) : Nat) : Int), .bool e.fb, .int .u8 2, .int .u8 0, .slice none 0 0]⟩) := by rw [set_here, U0]; rfl
      have R3 : (h'.set U (some ⟨true, [.int .u8 (e.acc : Int), .bool e.bb, .int .u8 ((aft ep.sent (1 - ep.again) : Nat) : Int), .bool e.fb, .int .u8 2, .int .u8 0, .slice none 0 0]⟩))[R]? = some (some ⟨true, zeroC⟩) := (s6 _ _).trans R0
      obtain ⟨E3, z3⟩ := Ep.aside U0 (fun B hB => (hd2 B hB).1) [.int .u8 (e.acc : Int), .bool e.bb, .int .u8 ((aft ep.sent (1 - ep.again) : Nat) : Int), .bool e.fb, .int .u8 2, .int .u8 0, .slice none 0 0]
      have F3 := F2.aside (U := U) (by omega) (some ⟨true, [.int .u8 (e.acc : Int), .bool e.bb, .int .u8 ((aft ep.sent (1 - ep.again) : Nat) : Int), .bool e.fb, .int .u8 2, .int .u8 0, .slice none 0 0]⟩)
      rw [List.set_set]
      generalize (h'.set U (some ⟨true, [.int .u8 (e.acc : Int), .bool e.bb, .int .u8 ((aft ep.sent (1 - ep.again) : Nat) : Int), .bool e.fb, .int .u8 2, .int .u8 0, .slice none 0 0]⟩)) = h3 at *
      have L3 := e5.frz z3
      have L3' := e5
      obtain ⟨-, -, -, z0, z300⟩ := L3'
      refine xcall (copied_ok L3.w z0 z300) (by rfl) (by rfl) (by rfl) (by rfl) ?_
      rintro r h4 ⟨L4, K4⟩
      have E4 := E3.kp K4
      have F4 := F3.kp K4
      have hX4 := E4.obj
      have U4 := K4.get U3
      have R4 := K4.get R3
      have L4' := L4
      obtain ⟨B4, rfl, -⟩ := L4'
      simp only [BE.cells] at hX4
      simp only [sx, x_box, x_alloc, x_bslice, x_slice, x_append, x_appz, x_b2s, x_s2b, x_mark, xop, ev, evs, evParts, fillL, cellsL, Ai.get, Ai.put, stab, isNil?, if_false, if_true, addr?, int?, str?, agg?, bool?, shiftA, FnPost, xresL, xres1, tup, argEnv, ptr, Nat.reduceEqDiff, reduceIte, beq_self_eq_true, ne_eq, Nat.reduceAdd, Nat.reduceMul, Nat.reduceSub, abin_shl, abin_shr, load1V, loadV, storeV, cellsAt, getN, setN, allocV, lenL, lenS, bnd, oneC, Value.oneCell', Nat.reduceLeDiff, Nat.reduceLT, exists_eq_left', forall_const, reduceCtorEq, app_new, app_new0, List.append_assoc, Int.reduceToNat, Int.reduceLT, Int.reduceLE, Int.reduceEq, Int.reduceNe, Int.reduceBEq, IntKind.bits, bne_self_eq_false, Int.reducePow, g0, g5, g2, hX4, U4, s2, set_here, hw3]
      obtain ⟨E5, z5⟩ := E4.aside U4 (fun B hB => (hd2 B hB).1) [.int .u8 (e.acc : Int), .bool e.bb, .int .u8 ((aft ep.sent (1 - ep.again) : Nat) : Int), .bool e.fb, .int .u8 2, .int .u8 0, .slice (some ⟨B4, 0, none⟩) z.length z.length]
      have E6 := E5.set ep.sent1 rfl rfl E5.b1 E5.b2 E5.b3 (by have := E5.b6; simp only [BE.sent1]; omega)
      have hun : ep.unit = ⟨ep.acc, ep.bb, aft ep.sent (1 - ep.again), ep.fb, 2, 0, z⟩ := by
        unfold BE.unit
        rw [if_pos ha, List.getD_eq_getElem?_getD, e4]; rfl
      have s1 := set_far hXU
      have s3 := set_far hXR
      have z6 : Frz h4 ((h4.set U (some ⟨true, [.int .u8 (e.acc : Int), .bool e.bb, .int .u8 ((aft ep.sent (1 - ep.again) : Nat) : Int), .bool e.fb, .int .u8 2, .int .u8 0, .slice (some ⟨B4, 0, none⟩) z.length z.length]⟩)).set X (some ⟨true, ep.sent1.cells (.slice qa ep.q.length qc) (.slice (some ⟨A, off, none⟩) ep.o.length oc)⟩)) := z5.trans fun B cs hB => by
        rw [set_ne (fun e1 => by rw [← e1, E5.obj] at hB; cases hB)]; exact hB
      refine ⟨by simp only [Ai.get, Nat.reduceEqDiff, reduceIte, g5], by simp only [Ai.get, Nat.reduceEqDiff, reduceIte, g2], ⟨.slice (some ⟨B4, 0, none⟩) z.length z.length, ?_, ?_⟩, ?_, _, _, E6, ⟨by have := F4.1; simpa using this, fun B hB hn => ?_⟩, hn2, fun B hB => (hd2 B hB).2⟩
      · rw [s1, set_here, U4, hun, k1, k2, k3]; rfl
      · rw [hun]; exact ⟨(L4.frz z6).w, fun _ => L4.frz z6⟩
      · rw [s3, s6]; exact R4
      · have hXB : X ≠ B := fun e1 => by
          rcases hn2 X (.inl rfl) with h1 | h1
          · exact hn (by rw [← e1]; exact h1)
          · omega
        rw [set_ne hXB, set_ne (by omega)]
        exact F4.2 B hB hn
    · have ha' : ¬ (0 : Int) < ep.again := by omega
      have hm1 : m = 1 ∧ ep = e := by
        rcases hm with h1 | ⟨_, h1, h2⟩
        · exact h1
        · rw [h1] at ha; exact absurd h2 ha
      obtain ⟨rfl, rfl⟩ := hm1
      by_cases hp : 0 < ep.q.length ∧ ep.o.length < 127
      · have hp1 : (0 : Int) < ep.q.length := by omega
        have hp2 : (ep.o.length : Int) < 127 := by omega
        have hpull : ep.pull = { ep with o := ep.o ++ [ep.q.headD []], q := ep.q.drop 1, sent := aft ep.sent 1, again := 1 } := by
          unfold BE.pull; rw [if_pos ⟨by omega, hp.1, hp.2⟩]
        obtain ⟨A, off, c, cs, v, z, e1, e2, e3, e4, e5⟩ := Ep.q.elem hp.1
        rw [Nat.add_zero] at e3
        obtain ⟨sl', hsl, Q', hsb⟩ := Ep.q.behind (j := 1) (by omega)
        obtain ⟨qa', qc', hsl'⟩ := Q'.shape
        subst hsl'
        have hz : ep.q.headD [] = z := by
          cases hq : ep.q with
          | nil => rw [hq] at hp; simp at hp
          | cons y ys => rw [hq] at e4; simpa using e4
        have e5' := e5
        obtain ⟨B5, hv, -⟩ := e5'
        subst hv
        cases e1
        have hXl2 := lt_of_get hX
        simp only [sx, x_box, x_alloc, x_bslice, x_append, x_appz, x_b2s, x_s2b, x_mark, xop, ev, evs, evParts, fillL, cellsL, Ai.get, Ai.put, stab, isNil?, if_false, if_true, addr?, int?, str?, agg?, bool?, shiftA, FnPost, xresL, xres1, tup, argEnv, ptr, Nat.reduceEqDiff, reduceIte, beq_self_eq_true, ne_eq, Nat.reduceAdd, Nat.reduceMul, Nat.reduceSub, abin_shl, abin_shr, load1V, loadV, storeV, cellsAt, getN, setN, allocV, lenL, lenS, bnd, oneC, Value.oneCell', Nat.reduceLeDiff, Nat.reduceLT, exists_eq_left', forall_const, reduceCtorEq, app_new, app_new0, List.append_assoc, Int.reduceToNat, Int.reduceLT, Int.reduceLE, Int.reduceEq, Int.reduceNe, Int.reduceBEq, IntKind.bits, bne_self_eq_false, Int.reducePow, g0, g5, g2, hX, ha', hp1, hp2, e2, e3, Nat.zero_mul]
        rw [x_slice, hsl _ _ _ rfl rfl]
        have hX' : ∀ t : AHeap, (h2 ++ t)[X]? = h2[X]? := fun t => List.getElem?_append_left hXl2
        simp only [sx, x_box, x_alloc, x_bslice, x_slice, x_appz, x_b2s, x_s2b, x_mark, xop, ev, evs, evParts, fillL, cellsL, Ai.get, Ai.put, stab, isNil?, if_false, if_true, addr?, int?, str?, agg?, bool?, shiftA, FnPost, xresL, xres1, tup, argEnv, ptr, Nat.reduceEqDiff, reduceIte, beq_self_eq_true, ne_eq, Nat.reduceAdd, Nat.reduceMul, Nat.reduceSub, abin_shl, abin_shr, load1V, loadV, storeV, cellsAt, getN, setN, allocV, lenL, lenS, bnd, oneC, Value.oneCell', Nat.reduceLeDiff, Nat.reduceLT, exists_eq_left', forall_const, reduceCtorEq, app_new, app_new0, List.append_assoc, Int.reduceToNat, Int.reduceLT, Int.reduceLE, Int.reduceEq, Int.reduceNe, Int.reduceBEq, IntKind.bits, bne_self_eq_false, Int.reducePow, g0, g5, g2, hX, hX']
        refine xops_st ?_
        refine QAt.push Ep.o e5 (by rfl) (by rfl) (by omega) fun h3 A' hA' hl3 Q3 hfr3 z3 => ?_
        have hX3 : h3[X]? = some (some ⟨true, ep.cells (.slice (some ⟨A, off, none⟩) ep.q.length qc) (.slice oa ep.o.length oc)⟩) := by rw [hfr3 X hXl2 Ep.n2]; exact Ep.obj
        have hX3' := hX3
        simp only [BE.cells] at hX3
        simp only [sx, x_box, x_alloc, x_bslice, x_slice, x_append, x_appz, x_b2s, x_s2b, x_mark, xop, ev, evs, evParts, fillL, cellsL, Ai.get, Ai.put, stab, isNil?, if_false, if_true, addr?, int?, str?, agg?, bool?, shiftA, FnPost, xresL, xres1, tup, argEnv, ptr, Nat.reduceEqDiff, reduceIte, beq_self_eq_true, ne_eq, Nat.reduceAdd, Nat.reduceMul, Nat.reduceSub, abin_shl, abin_shr, load1V, loadV, storeV, cellsAt, getN, setN, allocV, lenL, lenS, bnd, oneC, Value.oneCell', Nat.reduceLeDiff, Nat.reduceLT, exists_eq_left', forall_const, reduceCtorEq, app_new, app_new0, List.append_assoc, Int.reduceToNat, Int.reduceLT, Int.reduceLE, Int.reduceEq, Int.reduceNe, Int.reduceBEq, IntKind.bits, bne_self_eq_false, Int.reducePow, g0, g5, g2, hX3, set_here]
        refine xcall (after_ok (n := ep.sent) (k := 1) (by have := Ep.b1; omega) (by omega)) (by rfl) (by rfl) (by rfl) (by rfl) ?_
        rintro r h' ⟨rfl, rfl⟩
        simp only [sx, x_box, x_alloc, x_bslice, x_slice, x_append, x_appz, x_b2s, x_s2b, x_mark, xop, ev, evs, evParts, fillL, cellsL, Ai.get, Ai.put, stab, isNil?, if_false, if_true, addr?, int?, str?, agg?, bool?, shiftA, FnPost, xresL, xres1, tup, argEnv, ptr, Nat.reduceEqDiff, reduceIte, beq_self_eq_true, ne_eq, Nat.reduceAdd, Nat.reduceMul, Nat.reduceSub, abin_shl, abin_shr, load1V, loadV, storeV, cellsAt, getN, setN, allocV, lenL, lenS, bnd, oneC, Value.oneCell', Nat.reduceLeDiff, Nat.reduceLT, exists_eq_left', forall_const, reduceCtorEq, app_new, app_new0, List.append_assoc, Int.reduceToNat, Int.reduceLT, Int.reduceLE, Int.reduceEq, Int.reduceNe, Int.reduceBEq, IntKind.bits, bne_self_eq_false, Int.reducePow, g0, g5, g2, hX3, set_here]
        have hF2 := F2.1
        have hqf : ∀ B, slB (.slice qa' (ep.q.drop 1).length qc') = some B → slB (.slice (some ⟨A, off, none⟩) ep.q.length qc) = some B := hsb
        have Q3' : QAt h3 (.slice qa' (ep.q.drop 1).length qc') (ep.q.drop 1) := Q'.keep z3 fun B hB => hfr3 B (Ep.q.lt (hqf B hB)) fun e1 => Ep.n3 B (hqf B hB) e1
        have hUl2 := lt_of_get U0
        have hRl2 := lt_of_get R0
        have zS : ∀ cs', Frz h3 (h3.set X (some ⟨true, cs'⟩)) := fun cs' B cs hB => by
          rw [set_ne (fun e1 => by rw [← e1, hX3'] at hB; cases hB)]; exact hB
        have hn1 : ∀ B, slB (.slice qa' (ep.q.drop 1).length qc') = some B → X ≠ B := fun B hB e1 => Ep.n1 (by rw [e1]; exact hqf B hB)
        refine ⟨0, by omega, ep.pull, .slice qa' (ep.q.drop 1).length qc', .slice (some ⟨A', 0, none⟩) (ep.o.length + 1) (unk + 1), .inr ⟨rfl, rfl, by rw [hpull]; exact Nat.one_pos⟩, ?_, ⟨by simp only [List.length_set]; omega, fun B hB hn => ?_⟩, fun B hB => ?_, fun B hB => ?_, g0, g5, g2, ?_, ?_⟩
        · rw [hpull, hz]
          refine ⟨?_, ?_, ?_, fun e1 => hn1 X e1 rfl, ?_, ?_, aft_lt ep.sent 1, Ep.b2, Ep.b3, ?_, ?_, ?_⟩
          · simp only [List.set_set]; rw [set_here, hX3']; rfl
          · simp only [List.set_set]; exact Q3'.keep (zS _) fun B hB => set_ne (hn1 B hB) _
          · simp only [List.set_set, List.length_append, List.length_cons, List.length_nil, Nat.zero_add]
            exact Q3.keep (zS _) fun B hB => set_ne (fun e1 => by simp [slB] at hB; omega) _
          · simp only [slB]; intro e1; cases e1; omega
          · intro B hB hB2
            simp [slB] at hB2
            have := Ep.q.lt (hqf B hB)
            omega
          · simp; omega
          · have := Ep.b5; simp; omega
          · simp
        · have hXB : X ≠ B := fun e1 => by
            rcases hn2 X (.inl rfl) with h1 | h1
            · exact hn (by rw [← e1]; exact h1)
            · omega
          simp only [List.set_set]
          rw [set_ne hXB, hfr3 B (by omega) (fun e1 => by
            rcases hn2 B (.inr (.inr e1)) with h1 | h1
            · exact hn h1
            · omega)]
          exact F2.2 B hB hn
        · rcases hB with rfl | hB | hB
          · exact hn2 _ (.inl rfl)
          · exact hn2 _ (.inr (.inl (hqf B hB)))
          · simp [slB] at hB; exact .inr (by omega)
        · rcases hB with rfl | hB | hB
          · exact hd2 _ (.inl rfl)
          · exact hd2 _ (.inr (.inl (hqf B hB)))
          · simp [slB] at hB; omega
        · simp only [List.set_set]
          rw [set_ne hXU, hfr3 U hUl2 (fun e1 => (hd2 U (.inr (.inr e1))).1 rfl)]; exact U0
        · simp only [List.set_set]
          rw [set_ne hXR, hfr3 R hRl2 (fun e1 => (hd2 R (.inr (.inr e1))).2 rfl)]; exact R0
      · have hpull : ep.pull = ep := by unfold BE.pull; rw [if_neg (by rintro ⟨-, h1, h2⟩; exact hp ⟨h1, h2⟩)]
        have fin : NextM h X ep.pull.sent1 ep.pull.unit qv ov U R ρ h2 := by
          rw [hpull]
          have hun : ep.unit = ⟨ep.acc, ep.bb, ep.sent, ep.fb, 0, 0, []⟩ := by unfold BE.unit; rw [if_neg ha]
          have hs1 : ep.sent1 = ep := by unfold BE.sent1; rw [show ep.again - 1 = ep.again by omega]
          rw [hun, hs1]
          exact ⟨g5, g2, ⟨.slice none 0 0, U0, ⟨none, 0, rfl, by simp, .inl rfl⟩, fun h => absurd rfl h⟩, R0, _, _, Ep, F2, hn2, fun B hB => (hd2 B hB).2⟩
        have keep : ∀ ρ', get ρ' 5 = get ρ 5 → get ρ' 2 = get ρ 2 → NextM h X ep.pull.sent1 ep.pull.unit qv ov U R ρ' h2 := fun ρ' k5 k2' => by
          obtain ⟨f1, f2, f3⟩ := fin
          exact ⟨k5.trans f1, k2'.trans f2, f3⟩
        by_cases hp1' : 0 < ep.q.length
        · have hp1 : (0 : Int) < ep.q.length := by omega
          have hp2 : ¬ (ep.o.length : Int) < 127 := by omega
          simp only [sx, x_box, x_alloc, x_bslice, x_slice, x_append, x_appz, x_b2s, x_s2b, x_mark, xop, ev, evs, evParts, fillL, cellsL, Ai.get, Ai.put, stab, isNil?, if_false, if_true, addr?, int?, str?, agg?, bool?, shiftA, FnPost, xresL, xres1, tup, argEnv, ptr, Nat.reduceEqDiff, reduceIte, beq_self_eq_true, ne_eq, Nat.reduceAdd, Nat.reduceMul, Nat.reduceSub, abin_shl, abin_shr, load1V, loadV, storeV, cellsAt, getN, setN, allocV, lenL, lenS, bnd, oneC, Value.oneCell', Nat.reduceLeDiff, Nat.reduceLT, exists_eq_left', forall_const, reduceCtorEq, app_new, app_new0, List.append_assoc, Int.reduceToNat, Int.reduceLT, Int.reduceLE, Int.reduceEq, Int.reduceNe, Int.reduceBEq, IntKind.bits, bne_self_eq_false, Int.reducePow, g0, g5, g2, hX, ha', hp1, hp2]
          exact keep _ (by simp only [Ai.get, Nat.reduceEqDiff, reduceIte]) (by simp only [Ai.get, Nat.reduceEqDiff, reduceIte])
        · have hp1 : ¬ (0 : Int) < ep.q.length := by omega
          simp only [sx, x_box, x_alloc, x_bslice, x_slice, x_append, x_appz, x_b2s, x_s2b, x_mark, xop, ev, evs, evParts, fillL, cellsL, Ai.get, Ai.put, stab, isNil?, if_false, if_true, addr?, int?, str?, agg?, bool?, shiftA, FnPost, xresL, xres1, tup, argEnv, ptr, Nat.reduceEqDiff, reduceIte, beq_self_eq_true, ne_eq, Nat.reduceAdd, Nat.reduceMul, Nat.reduceSub, abin_shl, abin_shr, load1V, loadV, storeV, cellsAt, getN, setN, allocV, lenL, lenS, bnd, oneC, Value.oneCell', Nat.reduceLeDiff, Nat.reduceLT, exists_eq_left', forall_const, reduceCtorEq, app_new, app_new0, List.append_assoc, Int.reduceToNat, Int.reduceLT, Int.reduceLE, Int.reduceEq, Int.reduceNe, Int.reduceBEq, IntKind.bits, bne_self_eq_false, Int.reducePow, g0, g5, g2, hX, ha', hp1]
          exact keep _ (by simp only [Ai.get, Nat.reduceEqDiff, reduceIte]) (by simp only [Ai.get, Nat.reduceEqDiff, reduceIte])
  · clear U0 R0 K02 E2 g2
    rintro ρ h2 ⟨g5, g2, ⟨lv, U2, L2, L2v⟩, R2, qv', ov', E2, F2, hn2, hd2⟩
    have hU := U2
    have L2' := L2
    obtain ⟨ql, cl, hlv, -⟩ := L2'
    subst hlv
    simp only [UP.cells] at hU
    have hR2 := R2
    simp only [zeroC] at hR2
    obtain ⟨E3, z3⟩ := E2.aside R2 hd2 (e.pull.unit.cells (.slice ql e.pull.unit.load.length cl))
    generalize hu : e.pull.unit = u at *
    simp only [sx, x_box, x_alloc, x_bslice, x_slice, x_append, x_appz, x_b2s, x_s2b, x_mark, xop, ev, evs, evParts, fillL, cellsL, Ai.get, Ai.put, stab, isNil?, if_false, if_true, addr?, int?, str?, agg?, bool?, shiftA, FnPost, xresL, xres1, tup, argEnv, ptr, Nat.reduceEqDiff, reduceIte, beq_self_eq_true, ne_eq, Nat.reduceAdd, Nat.reduceMul, Nat.reduceSub, abin_shl, abin_shr, load1V, loadV, storeV, cellsAt, getN, setN, allocV, lenL, lenS, bnd, oneC, Value.oneCell', Nat.reduceLeDiff, Nat.reduceLT, exists_eq_left', forall_const, reduceCtorEq, app_new, app_new0, List.append_assoc, Int.reduceToNat, Int.reduceLT, Int.reduceLE, Int.reduceEq, Int.reduceNe, Int.reduceBEq, IntKind.bits, bne_self_eq_false, Int.reducePow, g5, g2, hU, hR2, set_here]
    refine ⟨⟨_, rfl, L2.frz z3, fun h => (L2v h).frz z3⟩, _, _, E3, F2.aside hRl _, hn2⟩
theorem next_ok {h : AHeap} {X : Nat} {e : BE} {qv ov : Value} (E : BAt h X e qv ov) : Valid Try.prog 21 [.pointer (some ⟨X, 0, none⟩)] h fun r h' => (∃ v, r = .tuple #[v, .int .i64 e.next.2.2] ∧ UV h' v e.next.2.1) ∧ Went h h' X e.next.1 qv ov :=
  (next2_ok E).mono fun r h' ⟨⟨lv, h1, h2, _⟩, h3⟩ => ⟨⟨_, h1, _, rfl, h2⟩, h3⟩
end Go.Proofs.Ytcpcngamfncpdaa
