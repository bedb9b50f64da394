import Derived.Test.YtkbpfebohpdgbaaS1
import Derived.Test.YtkbpfebohpdgbaaG2a
set_option linter.unusedVariables false
set_option linter.unusedSimpArgs false
namespace Go.Proofs.Ytkbpfebohpdgbaa
open Go Go.Ai Go.Proofs

/-- an end in counts, whatever it has heard -/
structure EX (e : BE) (g s a : Nat) : Prop where
  q : e.q = lst s g
  o : e.o = lst a s
  sent : e.sent = num s
  ack : e.ack = num a
  h1 : a ≤ s
  h2 : s ≤ g
  h3 : s ≤ a + e.ml
  h4 : g ≤ s + 64
  h5 : e.ml ≤ 127
  h6 : e.pl ≤ s - a
  h7 : e.acc < 128
  hg : g ≤ 1000
  l1 : 1 ≤ e.ml
  l2 : 1 ≤ e.mo ∧ e.mo ≤ 65535
/-- the law's model of it -/
def MC (e : BE) (g s a : Nat) : List Value := [.int .i64 (e.ml : Int), .int .i64 (e.mo : Int), .int .i64 (g : Int), .int .i64 (s : Int), .int .i64 (a : Int), .int .i64 ((a + e.pl : Nat) : Int), .bool e.fo, .int .u8 (e.acc : Int), .bool e.a0, .bool e.a1, .bool e.fl]
def LmI (M s a : Nat) (cs : List Value) (h0 : AHeap) (m : Nat) (ρ : Env) (h : AHeap) : Prop := ∃ i, i + m = s ∧ a ≤ i ∧ get ρ 0 = some (.pointer (some ⟨M, 0, none⟩)) ∧ get ρ 4 = some (.int .i64 (i : Nat)) ∧ get ρ 3 = some (.int .i64 (tot (lst a i) : Nat)) ∧ Kp h0 h ∧ h[M]? = some (some ⟨true, cs⟩)
def LmM (M s a : Nat) (cs : List Value) (h0 : AHeap) (ρ : Env) (h : AHeap) : Prop := get ρ 0 = some (.pointer (some ⟨M, 0, none⟩)) ∧ get ρ 3 = some (.int .i64 (tot (lst a s) : Nat)) ∧ Kp h0 h ∧ h[M]? = some (some ⟨true, cs⟩)
theorem tot_le (a s : Nat) : tot (lst a s) ≤ (s - a) * 5 := by
  rcases Nat.le_total a s with h | h
  · obtain ⟨d, rfl⟩ : ∃ d, s = a + d := ⟨s - a, by omega⟩
    clear h
    induction d with
    | zero => simp [lst_nil, tot]
    | succ d ih =>
      have := msg_len (a + d)
      rw [← Nat.add_assoc, lst_succ (by omega), tot_app, tot_one]
      omega
  · rw [lst_nil h]; simp [tot]
set_option maxHeartbeats 2000000 in
theorem mlimited_ok {h : AHeap} {M g s a : Nat} {e : BE} (X : EX e g s a) (hM : h[M]? = some (some ⟨true, MC e g s a⟩)) : Valid Try.prog 46 [.pointer (some ⟨M, 0, none⟩)] h fun r h' => r = .bool e.lim ∧ Kp h h' := by
  refine v46 (by simp) ?_
  have hM0 := hM
  have hlm : e.lim = (decide (e.ml ≤ s - a) || decide (e.mo ≤ tot (lst a s))) := by
    unfold BE.lim; rw [X.o, lst_len]
  simp only [MC] at hM
  have hg := X.hg
  have h1 := X.h1
  have h2 := X.h2
  have ht := tot_le a s
  simp only [X46, sx, x_box, x_alloc, x_bslice, x_slice, x_append, x_b2s, xop, ev, evs, evParts, fillL, cellsL, Ai.get, Ai.put, stab, isNil?, if_false, if_true, addr?, int?, str?, agg?, bool?, shiftA, FnPost, xresL, xres1, tup, argEnv, ptr, Nat.reduceEqDiff, reduceIte, beq_self_eq_true, ne_eq, Nat.reduceAdd, Nat.reduceMul, Nat.reduceSub, abin_shl, abin_shr, load1V, loadV, storeV, cellsAt, getN, setN, allocV, lenL, lenS, bnd, oneC, Value.oneCell', Nat.reduceLeDiff, Nat.reduceLT, exists_eq_left', forall_const, reduceCtorEq, app_new, app_new0, List.append_assoc, Int.reduceToNat, Int.reduceLT, Int.reduceLE, Int.reduceEq, Int.reduceNe, Int.reduceBEq, IntKind.bits, bne_self_eq_false, Int.reducePow, hM]
  refine xloop_cut (LmM M s a (MC e g s a) h) ?_ ?_
  · refine xcode_loop (LmI M s a (MC e g s a) h) (s - a) ⟨a, by omega, Nat.le_refl _, rfl, rfl, by rw [lst_nil (Nat.le_refl _)]; rfl, Kp.refl _, hM0⟩ ?_
    clear hM hM0
    rintro m ρ h' ⟨i, him, hai, g0, g4, g3, K, hM0⟩
    have hM := hM0
    simp only [MC] at hM
    by_cases hlt : i < s
    · have hlt' : (i : Int) < s := by omega
      have hwi : IntKind.i64.wrap ((i : Int) + 1) = ((i + 1 : Nat) : Int) := by rw [i64_wrap] <;> omega
      simp only [sx, x_box, x_alloc, x_bslice, x_slice, x_append, x_b2s, xop, ev, evs, evParts, fillL, cellsL, Ai.get, Ai.put, stab, isNil?, if_false, if_true, addr?, int?, str?, agg?, bool?, shiftA, FnPost, xresL, xres1, tup, argEnv, ptr, Nat.reduceEqDiff, reduceIte, beq_self_eq_true, ne_eq, Nat.reduceAdd, Nat.reduceMul, Nat.reduceSub, abin_shl, abin_shr, load1V, loadV, storeV, cellsAt, getN, setN, allocV, lenL, lenS, bnd, oneC, Value.oneCell', Nat.reduceLeDiff, Nat.reduceLT, exists_eq_left', forall_const, reduceCtorEq, app_new, app_new0, List.append_assoc, Int.reduceToNat, Int.reduceLT, Int.reduceLE, Int.reduceEq, Int.reduceNe, Int.reduceBEq, IntKind.bits, bne_self_eq_false, Int.reducePow, g0, g4, g3, hM, hlt']
      refine xcall (message_ok (k := i) (by omega)) (by rfl) (by rfl) (by rfl) (by rfl) ?_
      rintro r h2 ⟨L, K2⟩
      obtain ⟨⟨qq, cc, rfl, -⟩, -⟩ := L
      have hti := tot_le a i
      have hml := msg_len i
      have hwt : IntKind.i64.wrap ((tot (lst a i) : Nat) + ((msg i).length : Int)) = ((tot (lst a (i + 1)) : Nat) : Int) := by
        rw [lst_succ hai, tot_app, tot_one, i64_wrap] <;> omega
      simp only [sx, x_box, x_alloc, x_bslice, x_slice, x_append, x_b2s, xop, ev, evs, evParts, fillL, cellsL, Ai.get, Ai.put, stab, isNil?, if_false, if_true, addr?, int?, str?, agg?, bool?, shiftA, FnPost, xresL, xres1, tup, argEnv, ptr, Nat.reduceEqDiff, reduceIte, beq_self_eq_true, ne_eq, Nat.reduceAdd, Nat.reduceMul, Nat.reduceSub, abin_shl, abin_shr, load1V, loadV, storeV, cellsAt, getN, setN, allocV, lenL, lenS, bnd, oneC, Value.oneCell', Nat.reduceLeDiff, Nat.reduceLT, exists_eq_left', forall_const, reduceCtorEq, app_new, app_new0, List.append_assoc, Int.reduceToNat, Int.reduceLT, Int.reduceLE, Int.reduceEq, Int.reduceNe, Int.reduceBEq, IntKind.bits, bne_self_eq_false, Int.reducePow, g0, g4, g3, hwi, hwt]
      exact ⟨m - 1, by omega, i + 1, by omega, by omega, g0, rfl, rfl, K.trans K2, K2.get hM0⟩
    · have hlt' : ¬ (i : Int) < s := by omega
      have hi : i = s := by omega
      subst hi
      simp only [sx, x_box, x_alloc, x_bslice, x_slice, x_append, x_b2s, xop, ev, evs, evParts, fillL, cellsL, Ai.get, Ai.put, stab, isNil?, if_false, if_true, addr?, int?, str?, agg?, bool?, shiftA, FnPost, xresL, xres1, tup, argEnv, ptr, Nat.reduceEqDiff, reduceIte, beq_self_eq_true, ne_eq, Nat.reduceAdd, Nat.reduceMul, Nat.reduceSub, abin_shl, abin_shr, load1V, loadV, storeV, cellsAt, getN, setN, allocV, lenL, lenS, bnd, oneC, Value.oneCell', Nat.reduceLeDiff, Nat.reduceLT, exists_eq_left', forall_const, reduceCtorEq, app_new, app_new0, List.append_assoc, Int.reduceToNat, Int.reduceLT, Int.reduceLE, Int.reduceEq, Int.reduceNe, Int.reduceBEq, IntKind.bits, bne_self_eq_false, Int.reducePow, g0, g4, g3, hM, hlt']
      exact ⟨g0, g3, K, hM0⟩
  · rintro ρ h' ⟨g0, g3, K, hM⟩
    simp only [MC] at hM
    rw [hlm]
    have hws : IntKind.i64.wrap ((s : Int) - a) = ((s - a : Nat) : Int) := by rw [i64_wrap (by omega) (by omega)]; omega
    by_cases c1 : e.ml ≤ s - a
    · have c1' : (e.ml : Int) ≤ ((s - a : Nat) : Int) := by omega
      simp only [sx, x_box, x_alloc, x_bslice, x_slice, x_append, x_b2s, xop, ev, evs, evParts, fillL, cellsL, Ai.get, Ai.put, stab, isNil?, if_false, if_true, addr?, int?, str?, agg?, bool?, shiftA, FnPost, xresL, xres1, tup, argEnv, ptr, Nat.reduceEqDiff, reduceIte, beq_self_eq_true, ne_eq, Nat.reduceAdd, Nat.reduceMul, Nat.reduceSub, abin_shl, abin_shr, load1V, loadV, storeV, cellsAt, getN, setN, allocV, lenL, lenS, bnd, oneC, Value.oneCell', Nat.reduceLeDiff, Nat.reduceLT, exists_eq_left', forall_const, reduceCtorEq, app_new, app_new0, List.append_assoc, Int.reduceToNat, Int.reduceLT, Int.reduceLE, Int.reduceEq, Int.reduceNe, Int.reduceBEq, IntKind.bits, bne_self_eq_false, Int.reducePow, g0, g3, hM, hws, c1, c1']
      exact ⟨by simp, K⟩
    · have c1' : ¬ (e.ml : Int) ≤ ((s - a : Nat) : Int) := by omega
      by_cases c2 : e.mo ≤ tot (lst a s)
      · have c2' : (e.mo : Int) ≤ (tot (lst a s) : Nat) := by omega
        simp only [sx, x_box, x_alloc, x_bslice, x_slice, x_append, x_b2s, xop, ev, evs, evParts, fillL, cellsL, Ai.get, Ai.put, stab, isNil?, if_false, if_true, addr?, int?, str?, agg?, bool?, shiftA, FnPost, xresL, xres1, tup, argEnv, ptr, Nat.reduceEqDiff, reduceIte, beq_self_eq_true, ne_eq, Nat.reduceAdd, Nat.reduceMul, Nat.reduceSub, abin_shl, abin_shr, load1V, loadV, storeV, cellsAt, getN, setN, allocV, lenL, lenS, bnd, oneC, Value.oneCell', Nat.reduceLeDiff, Nat.reduceLT, exists_eq_left', forall_const, reduceCtorEq, app_new, app_new0, List.append_assoc, Int.reduceToNat, Int.reduceLT, Int.reduceLE, Int.reduceEq, Int.reduceNe, Int.reduceBEq, IntKind.bits, bne_self_eq_false, Int.reducePow, g0, g3, hM, hws, c1, c1', c2, c2']
        exact ⟨by simp, K⟩
      · have c2' : ¬ (e.mo : Int) ≤ (tot (lst a s) : Nat) := by omega
        simp only [sx, x_box, x_alloc, x_bslice, x_slice, x_append, x_b2s, xop, ev, evs, evParts, fillL, cellsL, Ai.get, Ai.put, stab, isNil?, if_false, if_true, addr?, int?, str?, agg?, bool?, shiftA, FnPost, xresL, xres1, tup, argEnv, ptr, Nat.reduceEqDiff, reduceIte, beq_self_eq_true, ne_eq, Nat.reduceAdd, Nat.reduceMul, Nat.reduceSub, abin_shl, abin_shr, load1V, loadV, storeV, cellsAt, getN, setN, allocV, lenL, lenS, bnd, oneC, Value.oneCell', Nat.reduceLeDiff, Nat.reduceLT, exists_eq_left', forall_const, reduceCtorEq, app_new, app_new0, List.append_assoc, Int.reduceToNat, Int.reduceLT, Int.reduceLE, Int.reduceEq, Int.reduceNe, Int.reduceBEq, IntKind.bits, bne_self_eq_false, Int.reducePow, g0, g3, hM, hws, c1, c1', c2, c2']
        exact ⟨by simp, K⟩
end Go.Proofs.Ytkbpfebohpdgbaa
