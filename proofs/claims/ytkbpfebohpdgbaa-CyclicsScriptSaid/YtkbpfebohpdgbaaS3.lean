import Derived.Test.YtkbpfebohpdgbaaS2
import Derived.Test.YtkbpfebohpdgbaaAiXd
set_option linter.unusedVariables false
set_option linter.unusedSimpArgs false
namespace Go.Proofs.Ytkbpfebohpdgbaa
open Go Go.Ai Go.Proofs

theorem force_pl2 (e : BE) (h : e.pl ≤ e.o.length) : e.force.pl ≤ e.o.length := by
  have h1 : e.f1.pl ≤ e.o.length := by unfold BE.f1; split; exact Nat.zero_le _; exact h
  unfold BE.force BE.f2
  split
  · split
    · exact Nat.zero_le _
    · exact h1
  · exact h1
theorem EX.f1 {e : BE} {g s a : Nat} (X : EX e g s a) : EX e.f1 g s a := by
  obtain ⟨k1, k2, k3, k4, k5, k6, k7, k8, k9, k10⟩ := f1_same e
  exact ⟨k3.trans X.q, k4.trans X.o, k5.trans X.sent, k6.trans X.ack, X.h1, X.h2, by rw [k1]; exact X.h3, X.h4, by rw [k1]; exact X.h5, by unfold BE.f1; split; exact Nat.zero_le _; exact X.h6, by rw [k7]; exact X.h7, X.hg, by rw [k1]; exact X.l1, by rw [k2]; exact X.l2⟩
theorem EX.f2 {e : BE} {g s a : Nat} {b : Bool} (X : EX e g s a) : EX (e.f2 b) g s a := by
  obtain ⟨k1, k2, k3, k4, k5, k6, k7, k8, k9, k10⟩ := f2_same e b
  exact ⟨k3.trans X.q, k4.trans X.o, k5.trans X.sent, k6.trans X.ack, X.h1, X.h2, by rw [k1]; exact X.h3, X.h4, by rw [k1]; exact X.h5, by unfold BE.f2; split; (split; exact Nat.zero_le _; exact X.h6); exact X.h6, by rw [k7]; exact X.h7, X.hg, by rw [k1]; exact X.l1, by rw [k2]; exact X.l2⟩
theorem EX.force {e : BE} {g s a : Nat} (X : EX e g s a) : EX e.force g s a := X.f1.f2
/-- what Next does, in counts -/
theorem EX.next {e : BE} {g s a : Nat} (X : EX e g s a) (hfl : e.fl = false) :
    (e.force.fo = false ∧ s < g ∧ s < a + e.ml ∧ e.next = ({ e.force with o := lst a (s + 1), q := lst (s + 1) g, sent := num (s + 1) }, ⟨e.acc, true, (num (s + 1) : Nat), true, 2, 0, msg s⟩, 0)) ∨
    (¬ (e.force.fo = false ∧ s < g) ∧ a < s ∧ e.next = ({ e.force with pl := e.force.pl % (s - a) + 1 }, ⟨e.acc, true, (num (a + e.force.pl % (s - a) + 1) : Nat), true, 2, 0, msg (a + e.force.pl % (s - a))⟩, 0)) ∨
    (¬ (e.force.fo = false ∧ s < g) ∧ a = s ∧ e.next = (e.force, ⟨e.acc, true, (num s : Nat), true, 0, 0, []⟩, 0)) := by
  have F := X.force
  have hq : e.force.q.length = g - s := by rw [F.q, lst_len]
  have ho : e.force.o.length = s - a := by rw [F.o, lst_len]
  have hlim := force_lim e
  have hml : e.force.ml = e.ml := by unfold BE.force; exact (f2_same _ _).1.trans (f1_same e).1
  have hoe : e.o.length = s - a := by rw [X.o, lst_len]
  have h1 := X.h1
  have h2 := X.h2
  by_cases hA : e.force.fo = false ∧ s < g
  · left
    have hl := hlim hA.1
    unfold BE.lim at hl
    simp only [Bool.or_eq_false_iff, decide_eq_false_iff_not] at hl
    have hch : e.choose = ({ e.force with o := lst a (s + 1), q := lst (s + 1) g, sent := num (s + 1) }, num (s + 1), some (msg s)) := by
      unfold BE.choose
      dsimp only
      rw [if_pos ⟨hA.1, by omega⟩]
      have e1 : e.force.q.headD [] = msg s := by rw [F.q, lst_head (by omega)]
      have e2 : e.force.q.drop 1 = lst (s + 1) g := by rw [F.q, lst_drop (by omega)]
      have e3 : e.force.o ++ [msg s] = lst a (s + 1) := by rw [F.o, lst_succ h1]
      have e4 : aft e.force.sent 1 = num (s + 1) := by rw [F.sent, num_aft]
      rw [e1, e2, e3, e4]
    refine ⟨hA.1, hA.2, by omega, ?_⟩
    rw [next_eq hfl hch]; rfl
  · right
    by_cases h0 : a < s
    · left
      refine ⟨hA, h0, ?_⟩
      have hch := round (f := e.force) (e := e) (x := a) (m := s) (fun h => hA ⟨h.1, by have := h.2; rw [hq] at this; omega⟩) F.o h0 F.ack rfl
      rw [next_eq hfl hch, num_succ]; rfl
    · right
      refine ⟨hA, by omega, ?_⟩
      have hch : e.choose = (e.force, num s, none) := by
        unfold BE.choose
        dsimp only
        rw [if_neg (fun h => hA ⟨h.1, by have := h.2; rw [hq] at this; omega⟩), if_pos (by omega), F.sent]
      rw [next_eq hfl hch]; rfl
theorem frz_set {h : AHeap} {X : Nat} {c : List Value} (hX : h[X]? = some (some ⟨true, c⟩)) (o : Option AObj) : Frz h (h.set X o) := fun B cs hB => by
  rw [set_ne (fun e1 => by rw [← e1, hX] at hB; cases hB)]; exact hB
def unit0 (acc : Nat) : List Value := [.int .u8 (acc : Int), .bool true, .int .u8 0, .bool true, .int .u8 0, .int .u8 0, .slice none 0 0]
/-- under way in the model's next -/
def NxM (h : AHeap) (M g s a : Nat) (f : BE) (b : Bool) (acc R U : Nat) (ρ : Env) (h2 : AHeap) : Prop := h2[M]? = some (some ⟨true, MC f g s a⟩) ∧ Fr (· = M) h h2 ∧ get ρ 0 = some (.pointer (some ⟨M, 0, none⟩)) ∧ get ρ 3 = some (.pointer (some ⟨U, 0, none⟩)) ∧ get ρ 2 = some (.pointer (some ⟨R, 0, none⟩)) ∧ get ρ 4 = some (.bool b) ∧ h2[U]? = some (some ⟨true, unit0 acc⟩) ∧ h2[R]? = some (some ⟨true, zeroC⟩)
def RdM (h : AHeap) (M g s a : Nat) (f : BE) (acc R U : Nat) (ρ : Env) (h9 : AHeap) : Prop := h9[M]? = some (some ⟨true, MC f g s a⟩) ∧ Fr (· = M) h h9 ∧ get ρ 0 = some (.pointer (some ⟨M, 0, none⟩)) ∧ get ρ 3 = some (.pointer (some ⟨U, 0, none⟩)) ∧ get ρ 2 = some (.pointer (some ⟨R, 0, none⟩)) ∧ h9[U]? = some (some ⟨true, unit0 acc⟩) ∧ h9[R]? = some (some ⟨true, zeroC⟩)
/-- a question's answer -/
def NxG (h : AHeap) (M j : Nat) (c b : Bool) (R U : Nat) (ρ : Env) (h2 : AHeap) : Prop := get ρ j = some (.bool c) ∧ get ρ 0 = some (.pointer (some ⟨M, 0, none⟩)) ∧ get ρ 3 = some (.pointer (some ⟨U, 0, none⟩)) ∧ get ρ 2 = some (.pointer (some ⟨R, 0, none⟩)) ∧ get ρ 4 = some (.bool b) ∧ h2 = h
set_option maxHeartbeats 8000000 in
set_option maxRecDepth 20000 in
theorem mnext_ok {h : AHeap} {M g s a : Nat} {e : BE} (X : EX e g s a) (hM : h[M]? = some (some ⟨true, MC e g s a⟩)) (hfl : e.fl = false) :
    Valid Try.prog 30 [.pointer (some ⟨M, 0, none⟩)] h fun r h' => (∃ lv, r = .agg (e.next.2.1.cells lv).toArray ∧ LoadW h' lv e.next.2.1.load) ∧ Fr (· = M) h h' ∧ ∃ s', h'[M]? = some (some ⟨true, MC e.next.1 g s' a⟩) ∧ EX e.next.1 g s' a := by
  refine v30 (by simp) ?_
  have hMl := lt_of_get hM
  simp only [X30, sx, x_box, x_bslice, x_slice, x_append, x_b2s, xop, ev, evs, evParts, fillL, cellsL, Ai.get, Ai.put, stab, isNil?, if_false, if_true, addr?, int?, str?, agg?, bool?, shiftA, FnPost, xresL, xres1, tup, argEnv, ptr, Nat.reduceEqDiff, reduceIte, beq_self_eq_true, ne_eq, Nat.reduceAdd, Nat.reduceMul, Nat.reduceSub, abin_shl, abin_shr, load1V, loadV, storeV, cellsAt, getN, setN, allocV, lenL, lenS, bnd, oneC, Value.oneCell', Nat.reduceLeDiff, Nat.reduceLT, exists_eq_left', forall_const, reduceCtorEq, app_new, app_new0, List.append_assoc, Int.reduceToNat, Int.reduceLT, Int.reduceLE, Int.reduceEq, Int.reduceNe, Int.reduceBEq, IntKind.bits, bne_self_eq_false, Int.reducePow]
  refine alloc_run fun g1 R K1 hR hRl _ => ?_
  have hM1 := K1.get hM
  have hM1' := hM1
  simp only [MC] at hM1'
  simp only [sx, x_box, x_bslice, x_slice, x_append, x_b2s, xop, ev, evs, evParts, fillL, cellsL, Ai.get, Ai.put, stab, isNil?, if_false, if_true, addr?, int?, str?, agg?, bool?, shiftA, FnPost, xresL, xres1, tup, argEnv, ptr, Nat.reduceEqDiff, reduceIte, beq_self_eq_true, ne_eq, Nat.reduceAdd, Nat.reduceMul, Nat.reduceSub, abin_shl, abin_shr, load1V, loadV, storeV, cellsAt, getN, setN, allocV, lenL, lenS, bnd, oneC, Value.oneCell', Nat.reduceLeDiff, Nat.reduceLT, exists_eq_left', forall_const, reduceCtorEq, app_new, app_new0, List.append_assoc, Int.reduceToNat, Int.reduceLT, Int.reduceLE, Int.reduceEq, Int.reduceNe, Int.reduceBEq, IntKind.bits, bne_self_eq_false, Int.reducePow, hM1']
  refine alloc_run fun g2 U K2 hU hUl _ => ?_
  have hM2 := K2.get hM1
  have hR2 := K2.get hR
  have hRl2 := lt_of_get hR
  have hK1 := K1.1
  have hMR : M ≠ R := by omega
  have hMU : M ≠ U := by omega
  have hRU : R ≠ U := by omega
  simp only [sx, x_box, x_alloc, x_bslice, x_slice, x_append, x_b2s, xop, ev, evs, evParts, fillL, cellsL, Ai.get, Ai.put, stab, isNil?, if_false, if_true, addr?, int?, str?, agg?, bool?, shiftA, FnPost, xresL, xres1, tup, argEnv, ptr, Nat.reduceEqDiff, reduceIte, beq_self_eq_true, ne_eq, Nat.reduceAdd, Nat.reduceMul, Nat.reduceSub, abin_shl, abin_shr, load1V, loadV, storeV, cellsAt, getN, setN, allocV, lenL, lenS, bnd, oneC, Value.oneCell', Nat.reduceLeDiff, Nat.reduceLT, exists_eq_left', forall_const, reduceCtorEq, app_new, app_new0, List.append_assoc, Int.reduceToNat, Int.reduceLT, Int.reduceLE, Int.reduceEq, Int.reduceNe, Int.reduceBEq, IntKind.bits, bne_self_eq_false, Int.reducePow, hU]
  have U3 := set_same hU (some ⟨true, unit0 e.acc⟩)
  have R3 := (set_far hRU.symm g2 (some ⟨true, unit0 e.acc⟩)).trans hR2
  have M3 := (set_far hMU.symm g2 (some ⟨true, unit0 e.acc⟩)).trans hM2
  have K3 : Kp h (g2.set U (some ⟨true, unit0 e.acc⟩)) := (K1.trans K2).set (by omega) _
  change xops Try.prog _ _ _ (g2.set U (some ⟨true, unit0 e.acc⟩))
  generalize g2.set U (some ⟨true, unit0 e.acc⟩) = g3 at *
  refine xcall (mlimited_ok X M3) (by rfl) (by rfl) (by rfl) (by rfl) ?_
  rintro r g4 ⟨rfl, K4⟩
  have U4 := K4.get U3
  have R4 := K4.get R3
  have M4 := K4.get M3
  have F4 : Fr (· = M) h g4 := (K3.trans K4).fr _
  clear K3 K4 U3 R3 M3 hM2 hR2 hU K2 hM1 hM1' hR K1
  have sMR := set_far hMR
  have sMU := set_far hMU
  simp only [MC] at M4
  simp only [sx, x_box, x_alloc, x_bslice, x_slice, x_append, x_b2s, xop, ev, evs, evParts, fillL, cellsL, Ai.get, Ai.put, stab, isNil?, if_false, if_true, addr?, int?, str?, agg?, bool?, shiftA, FnPost, xresL, xres1, tup, argEnv, ptr, Nat.reduceEqDiff, reduceIte, beq_self_eq_true, ne_eq, Nat.reduceAdd, Nat.reduceMul, Nat.reduceSub, abin_shl, abin_shr, load1V, loadV, storeV, cellsAt, getN, setN, allocV, lenL, lenS, bnd, oneC, Value.oneCell', Nat.reduceLeDiff, Nat.reduceLT, exists_eq_left', forall_const, reduceCtorEq, app_new, app_new0, List.append_assoc, Int.reduceToNat, Int.reduceLT, Int.reduceLE, Int.reduceEq, Int.reduceNe, Int.reduceBEq, IntKind.bits, bne_self_eq_false, Int.reducePow, M4]
  refine xgrd_cut (NxG g4 M 19 (!e.fo && e.lim) e.lim R U) (by
    cases h1 : e.fo
    · simp only [sx, x_box, x_alloc, x_bslice, x_slice, x_append, x_b2s, xop, ev, evs, evParts, fillL, cellsL, Ai.get, Ai.put, stab, isNil?, if_false, if_true, addr?, int?, str?, agg?, bool?, shiftA, FnPost, xresL, xres1, tup, argEnv, ptr, Nat.reduceEqDiff, reduceIte, beq_self_eq_true, ne_eq, Nat.reduceAdd, Nat.reduceMul, Nat.reduceSub, abin_shl, abin_shr, load1V, loadV, storeV, cellsAt, getN, setN, allocV, lenL, lenS, bnd, oneC, Value.oneCell', Nat.reduceLeDiff, Nat.reduceLT, exists_eq_left', forall_const, reduceCtorEq, app_new, app_new0, List.append_assoc, Int.reduceToNat, Int.reduceLT, Int.reduceLE, Int.reduceEq, Int.reduceNe, Int.reduceBEq, IntKind.bits, bne_self_eq_false, Int.reducePow, h1]
      exact ⟨by simp [Ai.get], by simp [Ai.get], by simp [Ai.get], by simp [Ai.get], by simp [Ai.get], rfl⟩
    · simp only [sx, x_box, x_alloc, x_bslice, x_slice, x_append, x_b2s, xop, ev, evs, evParts, fillL, cellsL, Ai.get, Ai.put, stab, isNil?, if_false, if_true, addr?, int?, str?, agg?, bool?, shiftA, FnPost, xresL, xres1, tup, argEnv, ptr, Nat.reduceEqDiff, reduceIte, beq_self_eq_true, ne_eq, Nat.reduceAdd, Nat.reduceMul, Nat.reduceSub, abin_shl, abin_shr, load1V, loadV, storeV, cellsAt, getN, setN, allocV, lenL, lenS, bnd, oneC, Value.oneCell', Nat.reduceLeDiff, Nat.reduceLT, exists_eq_left', forall_const, reduceCtorEq, app_new, app_new0, List.append_assoc, Int.reduceToNat, Int.reduceLT, Int.reduceLE, Int.reduceEq, Int.reduceNe, Int.reduceBEq, IntKind.bits, bne_self_eq_false, Int.reducePow, h1]
      exact ⟨by simp [Ai.get], by simp [Ai.get], by simp [Ai.get], by simp [Ai.get], by simp [Ai.get], rfl⟩) ?_
  rintro ρ h4 ⟨g19, g0, g3, g2, g4, rfl⟩
  simp only [sx, x_box, x_alloc, x_bslice, x_slice, x_append, x_b2s, xop, ev, evs, evParts, fillL, cellsL, Ai.get, Ai.put, stab, isNil?, if_false, if_true, addr?, int?, str?, agg?, bool?, shiftA, FnPost, xresL, xres1, tup, argEnv, ptr, Nat.reduceEqDiff, reduceIte, beq_self_eq_true, ne_eq, Nat.reduceAdd, Nat.reduceMul, Nat.reduceSub, abin_shl, abin_shr, load1V, loadV, storeV, cellsAt, getN, setN, allocV, lenL, lenS, bnd, oneC, Value.oneCell', Nat.reduceLeDiff, Nat.reduceLT, exists_eq_left', forall_const, reduceCtorEq, app_new, app_new0, List.append_assoc, Int.reduceToNat, Int.reduceLT, Int.reduceLE, Int.reduceEq, Int.reduceNe, Int.reduceBEq, IntKind.bits, bne_self_eq_false, Int.reducePow, g19, g0, g3, g2, g4]
  refine xcond_cut (NxM h M g s a e.f1 e.lim e.acc R U) ?_ ?_
  · by_cases hc : e.fo = false ∧ e.lim = true
    · have hf : e.f1 = { e with fo := true, pl := 0 } := by unfold BE.f1; rw [if_pos hc]
      have hcc : (!e.fo && e.lim) = true := by rw [hc.1, hc.2]; rfl
      simp only [sx, x_box, x_alloc, x_bslice, x_slice, x_append, x_b2s, xop, ev, evs, evParts, fillL, cellsL, Ai.get, Ai.put, stab, isNil?, if_false, if_true, addr?, int?, str?, agg?, bool?, shiftA, FnPost, xresL, xres1, tup, argEnv, ptr, Nat.reduceEqDiff, reduceIte, beq_self_eq_true, ne_eq, Nat.reduceAdd, Nat.reduceMul, Nat.reduceSub, abin_shl, abin_shr, load1V, loadV, storeV, cellsAt, getN, setN, allocV, lenL, lenS, bnd, oneC, Value.oneCell', Nat.reduceLeDiff, Nat.reduceLT, exists_eq_left', forall_const, reduceCtorEq, app_new, app_new0, List.append_assoc, Int.reduceToNat, Int.reduceLT, Int.reduceLE, Int.reduceEq, Int.reduceNe, Int.reduceBEq, IntKind.bits, bne_self_eq_false, Int.reducePow, M4, hcc, g0, g3, g2, g4, set_here, List.set_set]
      refine ⟨?_, F4.trans (Fr.set _ rfl) fun B h => .inl h.symm, g0, g3, g2, g4, (sMU _ _).trans U4, (sMR _ _).trans R4⟩
      rw [hf]; exact set_same M4 _
    · have hf : e.f1 = e := by unfold BE.f1; rw [if_neg hc]
      have hcc : (!e.fo && e.lim) = false := by
        cases h1 : e.fo <;> cases h2 : e.lim <;> simp_all
      simp only [sx, x_box, x_alloc, x_bslice, x_slice, x_append, x_b2s, xop, ev, evs, evParts, fillL, cellsL, Ai.get, Ai.put, stab, isNil?, if_false, if_true, addr?, int?, str?, agg?, bool?, shiftA, FnPost, xresL, xres1, tup, argEnv, ptr, Nat.reduceEqDiff, reduceIte, beq_self_eq_true, ne_eq, Nat.reduceAdd, Nat.reduceMul, Nat.reduceSub, abin_shl, abin_shr, load1V, loadV, storeV, cellsAt, getN, setN, allocV, lenL, lenS, bnd, oneC, Value.oneCell', Nat.reduceLeDiff, Nat.reduceLT, exists_eq_left', forall_const, reduceCtorEq, app_new, app_new0, List.append_assoc, Int.reduceToNat, Int.reduceLT, Int.reduceLE, Int.reduceEq, Int.reduceNe, Int.reduceBEq, IntKind.bits, bne_self_eq_false, Int.reducePow, hcc]
      rw [hf]
      exact ⟨M4, F4, g0, g3, g2, g4, U4, R4⟩
  have X1 := X.f1
  have hfb : e.f1.f2 e.lim = e.force := rfl
  clear M4 F4 U4 R4 g19 g0 g3 g2 g4
  rintro ρ1 h5 ⟨M5, F5, g0, g3, g2, g4, U5, R5⟩
  generalize e.f1 = f at *
  generalize hbb : e.lim = b at *
  have M5' := M5
  simp only [MC] at M5
  have hpl := X1.h6
  have hgg := X1.hg
  have hsg := X1.h2
  have has := X1.h1
  simp only [sx, x_box, x_alloc, x_bslice, x_slice, x_append, x_b2s, xop, ev, evs, evParts, fillL, cellsL, Ai.get, Ai.put, stab, isNil?, if_false, if_true, addr?, int?, str?, agg?, bool?, shiftA, FnPost, xresL, xres1, tup, argEnv, ptr, Nat.reduceEqDiff, reduceIte, beq_self_eq_true, ne_eq, Nat.reduceAdd, Nat.reduceMul, Nat.reduceSub, abin_shl, abin_shr, load1V, loadV, storeV, cellsAt, getN, setN, allocV, lenL, lenS, bnd, oneC, Value.oneCell', Nat.reduceLeDiff, Nat.reduceLT, exists_eq_left', forall_const, reduceCtorEq, app_new, app_new0, List.append_assoc, Int.reduceToNat, Int.reduceLT, Int.reduceLE, Int.reduceEq, Int.reduceNe, Int.reduceBEq, IntKind.bits, bne_self_eq_false, Int.reducePow, g0, g3, g2, g4, M5]
  refine xgrd_cut (NxG h5 M 44 (f.fo && decide (a + f.pl = s)) b R U) (by
    cases h1 : f.fo
    · simp only [sx, x_box, x_alloc, x_bslice, x_slice, x_append, x_b2s, xop, ev, evs, evParts, fillL, cellsL, Ai.get, Ai.put, stab, isNil?, if_false, if_true, addr?, int?, str?, agg?, bool?, shiftA, FnPost, xresL, xres1, tup, argEnv, ptr, Nat.reduceEqDiff, reduceIte, beq_self_eq_true, ne_eq, Nat.reduceAdd, Nat.reduceMul, Nat.reduceSub, abin_shl, abin_shr, load1V, loadV, storeV, cellsAt, getN, setN, allocV, lenL, lenS, bnd, oneC, Value.oneCell', Nat.reduceLeDiff, Nat.reduceLT, exists_eq_left', forall_const, reduceCtorEq, app_new, app_new0, List.append_assoc, Int.reduceToNat, Int.reduceLT, Int.reduceLE, Int.reduceEq, Int.reduceNe, Int.reduceBEq, IntKind.bits, bne_self_eq_false, Int.reducePow, h1, g0, g3, g2, g4, M5]
      exact ⟨by simp [Ai.get], by simp [Ai.get, g0], by simp [Ai.get, g3], by simp [Ai.get, g2], by simp [Ai.get, g4], rfl⟩
    · by_cases h2 : a + f.pl = s
      · have h2' : ((a + f.pl : Nat) : Int) = s := by omega
        simp only [sx, x_box, x_alloc, x_bslice, x_slice, x_append, x_b2s, xop, ev, evs, evParts, fillL, cellsL, Ai.get, Ai.put, stab, isNil?, if_false, if_true, addr?, int?, str?, agg?, bool?, shiftA, FnPost, xresL, xres1, tup, argEnv, ptr, Nat.reduceEqDiff, reduceIte, beq_self_eq_true, ne_eq, Nat.reduceAdd, Nat.reduceMul, Nat.reduceSub, abin_shl, abin_shr, load1V, loadV, storeV, cellsAt, getN, setN, allocV, lenL, lenS, bnd, oneC, Value.oneCell', Nat.reduceLeDiff, Nat.reduceLT, exists_eq_left', forall_const, reduceCtorEq, app_new, app_new0, List.append_assoc, Int.reduceToNat, Int.reduceLT, Int.reduceLE, Int.reduceEq, Int.reduceNe, Int.reduceBEq, IntKind.bits, bne_self_eq_false, Int.reducePow, h1, g0, g3, g2, g4, M5, h2']
        exact ⟨by simp [Ai.get, h2], by simp [Ai.get, g0], by simp [Ai.get, g3], by simp [Ai.get, g2], by simp [Ai.get, g4], rfl⟩
      · have h2' : ¬ ((a + f.pl : Nat) : Int) = s := by omega
        simp only [sx, x_box, x_alloc, x_bslice, x_slice, x_append, x_b2s, xop, ev, evs, evParts, fillL, cellsL, Ai.get, Ai.put, stab, isNil?, if_false, if_true, addr?, int?, str?, agg?, bool?, shiftA, FnPost, xresL, xres1, tup, argEnv, ptr, Nat.reduceEqDiff, reduceIte, beq_self_eq_true, ne_eq, Nat.reduceAdd, Nat.reduceMul, Nat.reduceSub, abin_shl, abin_shr, load1V, loadV, storeV, cellsAt, getN, setN, allocV, lenL, lenS, bnd, oneC, Value.oneCell', Nat.reduceLeDiff, Nat.reduceLT, exists_eq_left', forall_const, reduceCtorEq, app_new, app_new0, List.append_assoc, Int.reduceToNat, Int.reduceLT, Int.reduceLE, Int.reduceEq, Int.reduceNe, Int.reduceBEq, IntKind.bits, bne_self_eq_false, Int.reducePow, h1, g0, g3, g2, g4, M5, h2']
        exact ⟨by simp [Ai.get, h2], by simp [Ai.get, g0], by simp [Ai.get, g3], by simp [Ai.get, g2], by simp [Ai.get, g4], rfl⟩) ?_
  rintro ρ2 h6 ⟨g44, g0, g3, g2, g4, rfl⟩
  simp only [sx, x_box, x_alloc, x_bslice, x_slice, x_append, x_b2s, xop, ev, evs, evParts, fillL, cellsL, Ai.get, Ai.put, stab, isNil?, if_false, if_true, addr?, int?, str?, agg?, bool?, shiftA, FnPost, xresL, xres1, tup, argEnv, ptr, Nat.reduceEqDiff, reduceIte, beq_self_eq_true, ne_eq, Nat.reduceAdd, Nat.reduceMul, Nat.reduceSub, abin_shl, abin_shr, load1V, loadV, storeV, cellsAt, getN, setN, allocV, lenL, lenS, bnd, oneC, Value.oneCell', Nat.reduceLeDiff, Nat.reduceLT, exists_eq_left', forall_const, reduceCtorEq, app_new, app_new0, List.append_assoc, Int.reduceToNat, Int.reduceLT, Int.reduceLE, Int.reduceEq, Int.reduceNe, Int.reduceBEq, IntKind.bits, bne_self_eq_false, Int.reducePow, g44, g0, g3, g2, g4]
  refine xcond_cut (NxM h M g s a e.force b e.acc R U) ?_ ?_
  · rw [← hfb]
    have hol : f.o.length = s - a := by rw [X1.o, lst_len]
    by_cases hc : f.fo = true ∧ f.pl = f.o.length
    · have hcc : (f.fo && decide (a + f.pl = s)) = true := by rw [hc.1, hc.2, hol]; simp; omega
      cases b
      · have hf : f.f2 false = { f with fo := false } := by unfold BE.f2; rw [if_pos hc]; simp
        simp only [sx, x_box, x_alloc, x_bslice, x_slice, x_append, x_b2s, xop, ev, evs, evParts, fillL, cellsL, Ai.get, Ai.put, stab, isNil?, if_false, if_true, addr?, int?, str?, agg?, bool?, shiftA, FnPost, xresL, xres1, tup, argEnv, ptr, Nat.reduceEqDiff, reduceIte, beq_self_eq_true, ne_eq, Nat.reduceAdd, Nat.reduceMul, Nat.reduceSub, abin_shl, abin_shr, load1V, loadV, storeV, cellsAt, getN, setN, allocV, lenL, lenS, bnd, oneC, Value.oneCell', Nat.reduceLeDiff, Nat.reduceLT, exists_eq_left', forall_const, reduceCtorEq, app_new, app_new0, List.append_assoc, Int.reduceToNat, Int.reduceLT, Int.reduceLE, Int.reduceEq, Int.reduceNe, Int.reduceBEq, IntKind.bits, bne_self_eq_false, Int.reducePow, M5, hcc, g0, g3, g2, g4, set_here, List.set_set]
        refine ⟨?_, F5.trans (Fr.set _ rfl) fun B h => .inl h.symm, g0, g3, g2, g4, (sMU _ _).trans U5, (sMR _ _).trans R5⟩
        rw [hf]; exact set_same M5 _
      · have hf : f.f2 true = { f with fo := true, pl := 0 } := by unfold BE.f2; rw [if_pos hc]; simp
        simp only [sx, x_box, x_alloc, x_bslice, x_slice, x_append, x_b2s, xop, ev, evs, evParts, fillL, cellsL, Ai.get, Ai.put, stab, isNil?, if_false, if_true, addr?, int?, str?, agg?, bool?, shiftA, FnPost, xresL, xres1, tup, argEnv, ptr, Nat.reduceEqDiff, reduceIte, beq_self_eq_true, ne_eq, Nat.reduceAdd, Nat.reduceMul, Nat.reduceSub, abin_shl, abin_shr, load1V, loadV, storeV, cellsAt, getN, setN, allocV, lenL, lenS, bnd, oneC, Value.oneCell', Nat.reduceLeDiff, Nat.reduceLT, exists_eq_left', forall_const, reduceCtorEq, app_new, app_new0, List.append_assoc, Int.reduceToNat, Int.reduceLT, Int.reduceLE, Int.reduceEq, Int.reduceNe, Int.reduceBEq, IntKind.bits, bne_self_eq_false, Int.reducePow, M5, hcc, g0, g3, g2, g4, set_here, List.set_set]
        refine ⟨?_, F5.trans (Fr.set _ rfl) fun B h => .inl h.symm, g0, g3, g2, g4, (sMU _ _).trans U5, (sMR _ _).trans R5⟩
        rw [hf]; exact set_same M5 _
    · have hf : f.f2 b = f := by unfold BE.f2; rw [if_neg hc]
      have hcc : (f.fo && decide (a + f.pl = s)) = false := by
        cases h1 : f.fo
        · rfl
        · simp only [Bool.true_and, decide_eq_false_iff_not]; intro h2; exact hc ⟨h1, by omega⟩
      simp only [sx, x_box, x_alloc, x_bslice, x_slice, x_append, x_b2s, xop, ev, evs, evParts, fillL, cellsL, Ai.get, Ai.put, stab, isNil?, if_false, if_true, addr?, int?, str?, agg?, bool?, shiftA, FnPost, xresL, xres1, tup, argEnv, ptr, Nat.reduceEqDiff, reduceIte, beq_self_eq_true, ne_eq, Nat.reduceAdd, Nat.reduceMul, Nat.reduceSub, abin_shl, abin_shr, load1V, loadV, storeV, cellsAt, getN, setN, allocV, lenL, lenS, bnd, oneC, Value.oneCell', Nat.reduceLeDiff, Nat.reduceLT, exists_eq_left', forall_const, reduceCtorEq, app_new, app_new0, List.append_assoc, Int.reduceToNat, Int.reduceLT, Int.reduceLE, Int.reduceEq, Int.reduceNe, Int.reduceBEq, IntKind.bits, bne_self_eq_false, Int.reducePow, hcc]
      rw [hf]
      exact ⟨M5', F5, g0, g3, g2, g4, U5, R5⟩
  clear M5 M5' F5 U5 R5 g44 g0 g3 g2 g4 hfb X1 hpl
  have XF := X.force
  have hN := X.next hfl
  rintro ρ3 h7 ⟨M5, F5, g0, g3, g2, g4, U5, R5⟩
  have M5' := M5
  simp only [MC] at M5
  have hpl := XF.h6
  have hgg := X.hg
  have hsg := X.h2
  have has := X.h1
  simp only [unit0] at U5
  simp only [zeroC] at R5
  simp only [sx, x_box, x_alloc, x_bslice, x_slice, x_append, x_b2s, xop, ev, evs, evParts, fillL, cellsL, Ai.get, Ai.put, stab, isNil?, if_false, if_true, addr?, int?, str?, agg?, bool?, shiftA, FnPost, xresL, xres1, tup, argEnv, ptr, Nat.reduceEqDiff, reduceIte, beq_self_eq_true, ne_eq, Nat.reduceAdd, Nat.reduceMul, Nat.reduceSub, abin_shl, abin_shr, load1V, loadV, storeV, cellsAt, getN, setN, allocV, lenL, lenS, bnd, oneC, Value.oneCell', Nat.reduceLeDiff, Nat.reduceLT, exists_eq_left', forall_const, reduceCtorEq, app_new, app_new0, List.append_assoc, Int.reduceToNat, Int.reduceLT, Int.reduceLE, Int.reduceEq, Int.reduceNe, Int.reduceBEq, IntKind.bits, bne_self_eq_false, Int.reducePow, g0, g3, g2, g4, M5]
  refine xgrd_cut (NxG h7 M 63 (!e.force.fo && decide (s < g)) b R U) (by
    cases h1 : e.force.fo
    · by_cases h2 : s < g
      · have h2' : (s : Int) < g := by omega
        simp only [sx, x_box, x_alloc, x_bslice, x_slice, x_append, x_b2s, xop, ev, evs, evParts, fillL, cellsL, Ai.get, Ai.put, stab, isNil?, if_false, if_true, addr?, int?, str?, agg?, bool?, shiftA, FnPost, xresL, xres1, tup, argEnv, ptr, Nat.reduceEqDiff, reduceIte, beq_self_eq_true, ne_eq, Nat.reduceAdd, Nat.reduceMul, Nat.reduceSub, abin_shl, abin_shr, load1V, loadV, storeV, cellsAt, getN, setN, allocV, lenL, lenS, bnd, oneC, Value.oneCell', Nat.reduceLeDiff, Nat.reduceLT, exists_eq_left', forall_const, reduceCtorEq, app_new, app_new0, List.append_assoc, Int.reduceToNat, Int.reduceLT, Int.reduceLE, Int.reduceEq, Int.reduceNe, Int.reduceBEq, IntKind.bits, bne_self_eq_false, Int.reducePow, h1, g0, g3, g2, g4, M5, h2']
        exact ⟨by simp [Ai.get, h2], by simp [Ai.get, g0], by simp [Ai.get, g3], by simp [Ai.get, g2], by simp [Ai.get, g4], rfl⟩
      · have h2' : ¬ (s : Int) < g := by omega
        simp only [sx, x_box, x_alloc, x_bslice, x_slice, x_append, x_b2s, xop, ev, evs, evParts, fillL, cellsL, Ai.get, Ai.put, stab, isNil?, if_false, if_true, addr?, int?, str?, agg?, bool?, shiftA, FnPost, xresL, xres1, tup, argEnv, ptr, Nat.reduceEqDiff, reduceIte, beq_self_eq_true, ne_eq, Nat.reduceAdd, Nat.reduceMul, Nat.reduceSub, abin_shl, abin_shr, load1V, loadV, storeV, cellsAt, getN, setN, allocV, lenL, lenS, bnd, oneC, Value.oneCell', Nat.reduceLeDiff, Nat.reduceLT, exists_eq_left', forall_const, reduceCtorEq, app_new, app_new0, List.append_assoc, Int.reduceToNat, Int.reduceLT, Int.reduceLE, Int.reduceEq, Int.reduceNe, Int.reduceBEq, IntKind.bits, bne_self_eq_false, Int.reducePow, h1, g0, g3, g2, g4, M5, h2']
        exact ⟨by simp [Ai.get, h2], by simp [Ai.get, g0], by simp [Ai.get, g3], by simp [Ai.get, g2], by simp [Ai.get, g4], rfl⟩
    · simp only [sx, x_box, x_alloc, x_bslice, x_slice, x_append, x_b2s, xop, ev, evs, evParts, fillL, cellsL, Ai.get, Ai.put, stab, isNil?, if_false, if_true, addr?, int?, str?, agg?, bool?, shiftA, FnPost, xresL, xres1, tup, argEnv, ptr, Nat.reduceEqDiff, reduceIte, beq_self_eq_true, ne_eq, Nat.reduceAdd, Nat.reduceMul, Nat.reduceSub, abin_shl, abin_shr, load1V, loadV, storeV, cellsAt, getN, setN, allocV, lenL, lenS, bnd, oneC, Value.oneCell', Nat.reduceLeDiff, Nat.reduceLT, exists_eq_left', forall_const, reduceCtorEq, app_new, app_new0, List.append_assoc, Int.reduceToNat, Int.reduceLT, Int.reduceLE, Int.reduceEq, Int.reduceNe, Int.reduceBEq, IntKind.bits, bne_self_eq_false, Int.reducePow, h1, g0, g3, g2, g4, M5]
      exact ⟨by simp [Ai.get], by simp [Ai.get, g0], by simp [Ai.get, g3], by simp [Ai.get, g2], by simp [Ai.get, g4], rfl⟩) ?_
  rintro ρ4 h8 ⟨g63, g0, g3, g2, g4, rfl⟩
  have sRU := set_far hRU.symm
  have sRM := set_far hMR.symm
  have sUM := set_far hMU.symm
  have sUR := set_far hRU
  have sUR' := set_far hRU.symm
  rcases hN with ⟨n1, n2, n3, hN⟩ | ⟨n1, n2, hN⟩ | ⟨n1, n2, hN⟩
  · have hcc : (!e.force.fo && decide (s < g)) = true := by rw [n1]; simp [n2]
    have hws : IntKind.i64.wrap ((s : Int) + 1) = ((s + 1 : Nat) : Int) := by rw [i64_wrap] <;> omega
    simp only [sx, x_box, x_alloc, x_bslice, x_slice, x_append, x_b2s, xop, ev, evs, evParts, fillL, cellsL, Ai.get, Ai.put, stab, isNil?, if_false, if_true, addr?, int?, str?, agg?, bool?, shiftA, FnPost, xresL, xres1, tup, argEnv, ptr, Nat.reduceEqDiff, reduceIte, beq_self_eq_true, ne_eq, Nat.reduceAdd, Nat.reduceMul, Nat.reduceSub, abin_shl, abin_shr, load1V, loadV, storeV, cellsAt, getN, setN, allocV, lenL, lenS, bnd, oneC, Value.oneCell', Nat.reduceLeDiff, Nat.reduceLT, exists_eq_left', forall_const, reduceCtorEq, app_new, app_new0, List.append_assoc, Int.reduceToNat, Int.reduceLT, Int.reduceLE, Int.reduceEq, Int.reduceNe, Int.reduceBEq, IntKind.bits, bne_self_eq_false, Int.reducePow, g63, hcc, g0, g3, g2, g4, M5, U5, sUM]
    have U6 := set_same U5 (some ⟨true, [.int .u8 (e.acc : Int), .bool true, .int .u8 0, .bool true, .int .u8 2, .int .u8 0, .slice none 0 0]⟩)
    have M6 := (sUM h8 (some ⟨true, [.int .u8 (e.acc : Int), .bool true, .int .u8 0, .bool true, .int .u8 2, .int .u8 0, .slice none 0 0]⟩)).trans M5
    have R6 := (sRU h8 (some ⟨true, [.int .u8 (e.acc : Int), .bool true, .int .u8 0, .bool true, .int .u8 2, .int .u8 0, .slice none 0 0]⟩)).trans R5
    have F6 : Fr (· = M) h (h8.set U (some ⟨true, [.int .u8 (e.acc : Int), .bool true, .int .u8 0, .bool true, .int .u8 2, .int .u8 0, .slice none 0 0]⟩)) := F5.aside (U := U) (by omega) _
    generalize (h8.set U (some ⟨true, [Value.int .u8 (e.acc : Int), .bool true, .int .u8 0, .bool true, .int .u8 2, .int .u8 0, .slice none 0 0]⟩)) = h9 at *
    refine xcall (message_ok (k := s) (by omega)) (by rfl) (by rfl) (by rfl) (by rfl) ?_
    rintro r g10 ⟨L, K10⟩
    have U7 := K10.get U6
    have M7 := K10.get M6
    have R7 := K10.get R6
    have F7 := F6.kp K10
    obtain ⟨⟨qq, cc, rfl, hq⟩, hl⟩ := id L
    simp only [sx, x_box, x_alloc, x_bslice, x_slice, x_append, x_b2s, xop, ev, evs, evParts, fillL, cellsL, Ai.get, Ai.put, stab, isNil?, if_false, if_true, addr?, int?, str?, agg?, bool?, shiftA, FnPost, xresL, xres1, tup, argEnv, ptr, Nat.reduceEqDiff, reduceIte, beq_self_eq_true, ne_eq, Nat.reduceAdd, Nat.reduceMul, Nat.reduceSub, abin_shl, abin_shr, load1V, loadV, storeV, cellsAt, getN, setN, allocV, lenL, lenS, bnd, oneC, Value.oneCell', Nat.reduceLeDiff, Nat.reduceLT, exists_eq_left', forall_const, reduceCtorEq, app_new, app_new0, List.append_assoc, Int.reduceToNat, Int.reduceLT, Int.reduceLE, Int.reduceEq, Int.reduceNe, Int.reduceBEq, IntKind.bits, bne_self_eq_false, Int.reducePow, g0, g3, g2, g4, U7, M7, sUM, sMU, set_here, hws]
    refine xcall (number_ok (k := s + 1) (by omega)) (by rfl) (by rfl) (by rfl) (by rfl) ?_
    rintro r g11 ⟨rfl, rfl⟩
    simp only [sx, x_box, x_alloc, x_bslice, x_slice, x_append, x_b2s, xop, ev, evs, evParts, fillL, cellsL, Ai.get, Ai.put, stab, isNil?, if_false, if_true, addr?, int?, str?, agg?, bool?, shiftA, FnPost, xresL, xres1, tup, argEnv, ptr, Nat.reduceEqDiff, reduceIte, beq_self_eq_true, ne_eq, Nat.reduceAdd, Nat.reduceMul, Nat.reduceSub, abin_shl, abin_shr, load1V, loadV, storeV, cellsAt, getN, setN, allocV, lenL, lenS, bnd, oneC, Value.oneCell', Nat.reduceLeDiff, Nat.reduceLT, exists_eq_left', forall_const, reduceCtorEq, app_new, app_new0, List.append_assoc, Int.reduceToNat, Int.reduceLT, Int.reduceLE, Int.reduceEq, Int.reduceNe, Int.reduceBEq, IntKind.bits, bne_self_eq_false, Int.reducePow, g0, g3, g2, g4, U7, M7, R7, sUM, sMU, sRU, sUR, sMR, set_here]
    rw [hN]
    have hUh : h.length ≤ U := by omega
    generalize ex : (some ⟨true, [Value.int .u8 (e.acc : Int), .bool true, .int .u8 0, .bool true, .int .u8 2, .int .u8 0, .slice qq (msg s).length cc]⟩ : Option AObj) = x
    have hx : ∃ c, x = some ⟨true, c⟩ := ⟨_, ex.symm⟩
    generalize ey : (some ⟨true, [Value.int .u8 (e.acc : Int), .bool true, .int .u8 ((num (s + 1) : Nat) : Int), .bool true, .int .u8 2, .int .u8 0, .slice qq (msg s).length cc]⟩ : Option AObj) = y
    obtain ⟨cx, rfl⟩ := hx
    have fr : ∀ m y2, Fr (· = M) h ((((g10.set U (some ⟨true, cx⟩)).set M (some ⟨true, m⟩)).set U y).set R y2) := fun m y2 => ((((F7.aside hUh _).trans (Fr.set (S := (· = M)) (h := g10.set U (some ⟨true, cx⟩)) (X := M) _ rfl) fun B h => .inl h).aside hUh _).aside hRl _)
    have fz : ∀ m y2, Frz g10 ((((g10.set U (some ⟨true, cx⟩)).set M (some ⟨true, m⟩)).set U y).set R y2) := fun m y2 => by
      have a1 := frz_set U7 (some ⟨true, cx⟩)
      have a2 := frz_set ((sUM g10 (some ⟨true, cx⟩)).trans M7) (some ⟨true, m⟩)
      have a3 := frz_set ((sMU _ (some ⟨true, m⟩)).trans (set_same U7 (some ⟨true, cx⟩))) y
      have a4 := frz_set (((sUR' _ y).trans (sMR _ (some ⟨true, m⟩))).trans ((sUR' _ (some ⟨true, cx⟩)).trans R7)) y2
      exact ((a1.trans a2).trans a3).trans a4
    refine ⟨⟨.slice qq (msg s).length cc, rfl, L.1.frz (fz _ _)⟩, fr _ _, s + 1, ?_, ⟨rfl, rfl, rfl, XF.ack, by omega, by omega, ?_, by have := XF.h4; omega, XF.h5, ?_, XF.h7, XF.hg, XF.l1, XF.l2⟩⟩
    · refine (sRM _ _).trans ((sUM _ _).trans ?_)
      exact set_same ((sUM g10 (some ⟨true, cx⟩)).trans M7) _
    · show s + 1 ≤ a + e.force.ml
      have : e.force.ml = e.ml := by unfold BE.force; exact (f2_same _ _).1.trans (f1_same e).1
      omega
    · show e.force.pl ≤ s + 1 - a
      omega
  · have hcc : (!e.force.fo && decide (s < g)) = false := by
      cases h1 : e.force.fo
      · simp only [Bool.not_false, Bool.true_and, decide_eq_false_iff_not]; exact fun h => n1 ⟨h1, h⟩
      · rfl
    have h2' : (a : Int) < s := by omega
    have hp : e.force.pl % (s - a) = (if e.force.pl = s - a then 0 else e.force.pl) := by
      split
      · rename_i h; rw [h]; exact Nat.mod_self _
      · exact Nat.mod_eq_of_lt (by omega)
    have hpl2 : e.force.pl % (s - a) < s - a := Nat.mod_lt _ (by omega)
    simp only [sx, x_box, x_alloc, x_bslice, x_slice, x_append, x_b2s, xop, ev, evs, evParts, fillL, cellsL, Ai.get, Ai.put, stab, isNil?, if_false, if_true, addr?, int?, str?, agg?, bool?, shiftA, FnPost, xresL, xres1, tup, argEnv, ptr, Nat.reduceEqDiff, reduceIte, beq_self_eq_true, ne_eq, Nat.reduceAdd, Nat.reduceMul, Nat.reduceSub, abin_shl, abin_shr, load1V, loadV, storeV, cellsAt, getN, setN, allocV, lenL, lenS, bnd, oneC, Value.oneCell', Nat.reduceLeDiff, Nat.reduceLT, exists_eq_left', forall_const, reduceCtorEq, app_new, app_new0, List.append_assoc, Int.reduceToNat, Int.reduceLT, Int.reduceLE, Int.reduceEq, Int.reduceNe, Int.reduceBEq, IntKind.bits, bne_self_eq_false, Int.reducePow, g63, hcc, g0, g3, g2, g4, M5, h2']
    refine xcond_cut (RdM h M g s a { e.force with pl := e.force.pl % (s - a) } e.acc R U) ?_ ?_
    · by_cases hps : e.force.pl = s - a
      · have h2 : ((a + e.force.pl : Nat) : Int) = s := by omega
        rw [hp, if_pos hps]
        simp only [sx, x_box, x_alloc, x_bslice, x_slice, x_append, x_b2s, xop, ev, evs, evParts, fillL, cellsL, Ai.get, Ai.put, stab, isNil?, if_false, if_true, addr?, int?, str?, agg?, bool?, shiftA, FnPost, xresL, xres1, tup, argEnv, ptr, Nat.reduceEqDiff, reduceIte, beq_self_eq_true, ne_eq, Nat.reduceAdd, Nat.reduceMul, Nat.reduceSub, abin_shl, abin_shr, load1V, loadV, storeV, cellsAt, getN, setN, allocV, lenL, lenS, bnd, oneC, Value.oneCell', Nat.reduceLeDiff, Nat.reduceLT, exists_eq_left', forall_const, reduceCtorEq, app_new, app_new0, List.append_assoc, Int.reduceToNat, Int.reduceLT, Int.reduceLE, Int.reduceEq, Int.reduceNe, Int.reduceBEq, IntKind.bits, bne_self_eq_false, Int.reducePow, g0, g3, g2, g4, M5, h2, set_here]
        exact ⟨set_same M5 _, F5.trans (Fr.set _ rfl) fun B h => .inl h.symm, g0, g3, g2, (sMU _ _).trans U5, (sMR _ _).trans R5⟩
      · have h2 : ¬ ((a + e.force.pl : Nat) : Int) = s := by omega
        rw [hp, if_neg hps]
        simp only [sx, x_box, x_alloc, x_bslice, x_slice, x_append, x_b2s, xop, ev, evs, evParts, fillL, cellsL, Ai.get, Ai.put, stab, isNil?, if_false, if_true, addr?, int?, str?, agg?, bool?, shiftA, FnPost, xresL, xres1, tup, argEnv, ptr, Nat.reduceEqDiff, reduceIte, beq_self_eq_true, ne_eq, Nat.reduceAdd, Nat.reduceMul, Nat.reduceSub, abin_shl, abin_shr, load1V, loadV, storeV, cellsAt, getN, setN, allocV, lenL, lenS, bnd, oneC, Value.oneCell', Nat.reduceLeDiff, Nat.reduceLT, exists_eq_left', forall_const, reduceCtorEq, app_new, app_new0, List.append_assoc, Int.reduceToNat, Int.reduceLT, Int.reduceLE, Int.reduceEq, Int.reduceNe, Int.reduceBEq, IntKind.bits, bne_self_eq_false, Int.reducePow, g0, g3, g2, g4, M5, h2, set_here]
        exact ⟨M5', F5, g0, g3, g2, U5, R5⟩
    · have hXn : EX { e.force with pl := e.force.pl % (s - a) + 1 } g s a := ⟨XF.q, XF.o, XF.sent, XF.ack, XF.h1, XF.h2, XF.h3, XF.h4, XF.h5, by show e.force.pl % (s - a) + 1 ≤ s - a; omega, XF.h7, XF.hg, XF.l1, XF.l2⟩
      clear M5 M5' F5 U5 R5 g63 g0 g3 g2 g4 h2' hp
      rintro ρ9 h9 ⟨M5, F5, g0, g3, g2, U5, R5⟩
      rw [hN]
      generalize e.force.pl % (s - a) = p at *
      simp only [MC] at M5
      simp only [unit0] at U5
      simp only [zeroC] at R5
      have hws : IntKind.i64.wrap (((a + p : Nat) : Int) + 1) = ((a + p + 1 : Nat) : Int) := by rw [i64_wrap] <;> omega
      simp only [sx, x_box, x_alloc, x_bslice, x_slice, x_append, x_b2s, xop, ev, evs, evParts, fillL, cellsL, Ai.get, Ai.put, stab, isNil?, if_false, if_true, addr?, int?, str?, agg?, bool?, shiftA, FnPost, xresL, xres1, tup, argEnv, ptr, Nat.reduceEqDiff, reduceIte, beq_self_eq_true, ne_eq, Nat.reduceAdd, Nat.reduceMul, Nat.reduceSub, abin_shl, abin_shr, load1V, loadV, storeV, cellsAt, getN, setN, allocV, lenL, lenS, bnd, oneC, Value.oneCell', Nat.reduceLeDiff, Nat.reduceLT, exists_eq_left', forall_const, reduceCtorEq, app_new, app_new0, List.append_assoc, Int.reduceToNat, Int.reduceLT, Int.reduceLE, Int.reduceEq, Int.reduceNe, Int.reduceBEq, IntKind.bits, bne_self_eq_false, Int.reducePow, g0, g3, g2, M5, U5, sUM]
      have U6 := set_same U5 (some ⟨true, [.int .u8 (e.acc : Int), .bool true, .int .u8 0, .bool true, .int .u8 2, .int .u8 0, .slice none 0 0]⟩)
      have M6 := (sUM h9 (some ⟨true, [.int .u8 (e.acc : Int), .bool true, .int .u8 0, .bool true, .int .u8 2, .int .u8 0, .slice none 0 0]⟩)).trans M5
      have R6 := (sRU h9 (some ⟨true, [.int .u8 (e.acc : Int), .bool true, .int .u8 0, .bool true, .int .u8 2, .int .u8 0, .slice none 0 0]⟩)).trans R5
      have F6 : Fr (· = M) h (h9.set U (some ⟨true, [.int .u8 (e.acc : Int), .bool true, .int .u8 0, .bool true, .int .u8 2, .int .u8 0, .slice none 0 0]⟩)) := F5.aside (U := U) (by omega) _
      generalize (h9.set U (some ⟨true, [Value.int .u8 (e.acc : Int), .bool true, .int .u8 0, .bool true, .int .u8 2, .int .u8 0, .slice none 0 0]⟩)) = h9 at *
      refine xcall (message_ok (k := a + p) (by omega)) (by rfl) (by rfl) (by rfl) (by rfl) ?_
      rintro r g10 ⟨L, K10⟩
      have U7 := K10.get U6
      have M7 := K10.get M6
      have R7 := K10.get R6
      have F7 := F6.kp K10
      obtain ⟨⟨qq, cc, rfl, hq⟩, hl⟩ := id L
      simp only [sx, x_box, x_alloc, x_bslice, x_slice, x_append, x_b2s, xop, ev, evs, evParts, fillL, cellsL, Ai.get, Ai.put, stab, isNil?, if_false, if_true, addr?, int?, str?, agg?, bool?, shiftA, FnPost, xresL, xres1, tup, argEnv, ptr, Nat.reduceEqDiff, reduceIte, beq_self_eq_true, ne_eq, Nat.reduceAdd, Nat.reduceMul, Nat.reduceSub, abin_shl, abin_shr, load1V, loadV, storeV, cellsAt, getN, setN, allocV, lenL, lenS, bnd, oneC, Value.oneCell', Nat.reduceLeDiff, Nat.reduceLT, exists_eq_left', forall_const, reduceCtorEq, app_new, app_new0, List.append_assoc, Int.reduceToNat, Int.reduceLT, Int.reduceLE, Int.reduceEq, Int.reduceNe, Int.reduceBEq, IntKind.bits, bne_self_eq_false, Int.reducePow, g0, g3, g2, U7, M7, sUM, sMU, set_here, hws]
      refine xcall (number_ok (k := a + p + 1) (by omega)) (by rfl) (by rfl) (by rfl) (by rfl) ?_
      rintro r g11 ⟨rfl, rfl⟩
      simp only [sx, x_box, x_alloc, x_bslice, x_slice, x_append, x_b2s, xop, ev, evs, evParts, fillL, cellsL, Ai.get, Ai.put, stab, isNil?, if_false, if_true, addr?, int?, str?, agg?, bool?, shiftA, FnPost, xresL, xres1, tup, argEnv, ptr, Nat.reduceEqDiff, reduceIte, beq_self_eq_true, ne_eq, Nat.reduceAdd, Nat.reduceMul, Nat.reduceSub, abin_shl, abin_shr, load1V, loadV, storeV, cellsAt, getN, setN, allocV, lenL, lenS, bnd, oneC, Value.oneCell', Nat.reduceLeDiff, Nat.reduceLT, exists_eq_left', forall_const, reduceCtorEq, app_new, app_new0, List.append_assoc, Int.reduceToNat, Int.reduceLT, Int.reduceLE, Int.reduceEq, Int.reduceNe, Int.reduceBEq, IntKind.bits, bne_self_eq_false, Int.reducePow, g0, g3, g2, U7, M7, R7, sUM, sMU, sRU, sUR, sMR, set_here]
      have hUh : h.length ≤ U := by omega
      generalize ex : (some ⟨true, [Value.int .u8 (e.acc : Int), .bool true, .int .u8 0, .bool true, .int .u8 2, .int .u8 0, .slice qq (msg (a + p)).length cc]⟩ : Option AObj) = x
      have hx : ∃ c, x = some ⟨true, c⟩ := ⟨_, ex.symm⟩
      generalize ey : (some ⟨true, [Value.int .u8 (e.acc : Int), .bool true, .int .u8 ((num (a + p + 1) : Nat) : Int), .bool true, .int .u8 2, .int .u8 0, .slice qq (msg (a + p)).length cc]⟩ : Option AObj) = y
      obtain ⟨cx, rfl⟩ := hx
      have fr : ∀ m y2, Fr (· = M) h ((((g10.set U (some ⟨true, cx⟩)).set M (some ⟨true, m⟩)).set U y).set R y2) := fun m y2 => ((((F7.aside hUh _).trans (Fr.set (S := (· = M)) (h := g10.set U (some ⟨true, cx⟩)) (X := M) _ rfl) fun B h => .inl h).aside hUh _).aside hRl _)
      have fz : ∀ m y2, Frz g10 ((((g10.set U (some ⟨true, cx⟩)).set M (some ⟨true, m⟩)).set U y).set R y2) := fun m y2 => by
        have a1 := frz_set U7 (some ⟨true, cx⟩)
        have a2 := frz_set ((sUM g10 (some ⟨true, cx⟩)).trans M7) (some ⟨true, m⟩)
        have a3 := frz_set ((sMU _ (some ⟨true, m⟩)).trans (set_same U7 (some ⟨true, cx⟩))) y
        have a4 := frz_set (((sUR' _ y).trans (sMR _ (some ⟨true, m⟩))).trans ((sUR' _ (some ⟨true, cx⟩)).trans R7)) y2
        exact ((a1.trans a2).trans a3).trans a4
      refine ⟨⟨.slice qq (msg (a + p)).length cc, rfl, L.1.frz (fz _ _)⟩, fr _ _, s, ?_, hXn⟩
      refine (sRM _ _).trans ((sUM _ _).trans ?_)
      exact set_same ((sUM g10 (some ⟨true, cx⟩)).trans M7) _
  · have hcc : (!e.force.fo && decide (s < g)) = false := by
      cases h1 : e.force.fo
      · simp only [Bool.not_false, Bool.true_and, decide_eq_false_iff_not]; exact fun h => n1 ⟨h1, h⟩
      · rfl
    have h2' : ¬ (a : Int) < s := by omega
    simp only [sx, x_box, x_alloc, x_bslice, x_slice, x_append, x_b2s, xop, ev, evs, evParts, fillL, cellsL, Ai.get, Ai.put, stab, isNil?, if_false, if_true, addr?, int?, str?, agg?, bool?, shiftA, FnPost, xresL, xres1, tup, argEnv, ptr, Nat.reduceEqDiff, reduceIte, beq_self_eq_true, ne_eq, Nat.reduceAdd, Nat.reduceMul, Nat.reduceSub, abin_shl, abin_shr, load1V, loadV, storeV, cellsAt, getN, setN, allocV, lenL, lenS, bnd, oneC, Value.oneCell', Nat.reduceLeDiff, Nat.reduceLT, exists_eq_left', forall_const, reduceCtorEq, app_new, app_new0, List.append_assoc, Int.reduceToNat, Int.reduceLT, Int.reduceLE, Int.reduceEq, Int.reduceNe, Int.reduceBEq, IntKind.bits, bne_self_eq_false, Int.reducePow, g63, hcc, g0, g3, g2, g4, M5, h2']
    refine xcall (number_ok (k := s) (by omega)) (by rfl) (by rfl) (by rfl) (by rfl) ?_
    rintro r h9 ⟨rfl, rfl⟩
    simp only [sx, x_box, x_alloc, x_bslice, x_slice, x_append, x_b2s, xop, ev, evs, evParts, fillL, cellsL, Ai.get, Ai.put, stab, isNil?, if_false, if_true, addr?, int?, str?, agg?, bool?, shiftA, FnPost, xresL, xres1, tup, argEnv, ptr, Nat.reduceEqDiff, reduceIte, beq_self_eq_true, ne_eq, Nat.reduceAdd, Nat.reduceMul, Nat.reduceSub, abin_shl, abin_shr, load1V, loadV, storeV, cellsAt, getN, setN, allocV, lenL, lenS, bnd, oneC, Value.oneCell', Nat.reduceLeDiff, Nat.reduceLT, exists_eq_left', forall_const, reduceCtorEq, app_new, app_new0, List.append_assoc, Int.reduceToNat, Int.reduceLT, Int.reduceLE, Int.reduceEq, Int.reduceNe, Int.reduceBEq, IntKind.bits, bne_self_eq_false, Int.reducePow, g0, g3, g2, g4, U5, R5, set_here, sRU, sUR, sMU, sMR]
    rw [hN]
    refine ⟨⟨.slice none 0 0, rfl, none, 0, rfl, by simp, .inl rfl⟩, ?_, s, ?_, XF⟩
    · exact (F5.aside (U := U) (by omega) _).aside hRl _
    · exact (sRM _ _).trans ((sUM _ _).trans M5')
end Go.Proofs.Ytkbpfebohpdgbaa
