import Derived.Test.YtjpjnidgcmkdbaaT8
set_option linter.unusedVariables false
set_option linter.unusedSimpArgs false
namespace Go.Proofs.Ytjpjnidgcmkdbaa
open Go Go.Ai Go.Proofs

/-- a circuit's tick -/
def tickC (w p m : Int) (c : Cir) : Cir :=
  if 1 ≤ c.st ∧ c.st ≤ 3 then
    if IntKind.i64.wrap (c.age + 1) < (if c.st = 3 then p else w) then ⟨c.st, IntKind.i64.wrap (c.age + 1), c.tries, c.lp⟩
    else if c.st = 3 then ⟨1, 0, IntKind.i64.wrap (c.tries + 1), c.lp⟩
    else if c.tries < m then ⟨3, 0, c.tries, c.lp⟩ else ⟨5, 0, c.tries, c.lp⟩
  else c
def tickM (w p m : Int) (c : Cir) (k : Int) : List Msg :=
  if 1 ≤ c.st ∧ c.st ≤ 3 then
    if IntKind.i64.wrap (c.age + 1) < (if c.st = 3 then p else w) then []
    else if c.st = 3 then [⟨1, k, false⟩]
    else [⟨3, k, false⟩]
  else []
def tickN (w p m : Int) (cs : List Cir) : Nat → List Cir × List Msg
  | 0 => (cs, [])
  | i + 1 => match (tickN w p m cs i).1[i]? with
    | some c => ((tickN w p m cs i).1.set i (tickC w p m c), (tickN w p m cs i).2 ++ tickM w p m c (i : Nat))
    | none => tickN w p m cs i
theorem tickM_len (w p m : Int) (c : Cir) (k : Int) : (tickM w p m c k).length ≤ 1 := by
  unfold tickM
  by_cases h1 : 1 ≤ c.st ∧ c.st ≤ 3
  · rw [if_pos h1]
    by_cases h2 : IntKind.i64.wrap (c.age + 1) < (if c.st = 3 then p else w)
    · rw [if_pos h2]; exact Nat.zero_le _
    · rw [if_neg h2]; split <;> exact Nat.le_refl _
  · rw [if_neg h1]; exact Nat.zero_le _
theorem tickN_len (w p m : Int) (cs : List Cir) : ∀ i, (tickN w p m cs i).1.length = cs.length ∧ (tickN w p m cs i).2.length ≤ i
  | 0 => ⟨rfl, by simp [tickN]⟩
  | i + 1 => by
    obtain ⟨h1, h2⟩ := tickN_len w p m cs i
    cases hc : (tickN w p m cs i).1[i]? with
    | some c =>
      have := tickM_len w p m c (i : Nat)
      simp only [tickN, hc]
      exact ⟨by simpa using h1, by simp; omega⟩
    | none =>
      simp only [tickN, hc]
      exact ⟨h1, by omega⟩
theorem tickN_some {w p m : Int} {cs : List Cir} {i : Nat} {c : Cir} (h : (tickN w p m cs i).1[i]? = some c) : tickN w p m cs (i + 1) = ((tickN w p m cs i).1.set i (tickC w p m c), (tickN w p m cs i).2 ++ tickM w p m c (i : Nat)) := by
  simp only [tickN, h]

section
variable {h : AHeap} {X L : Nat} {w p m : Int} {cs : List Cir} {sl : Value} {ms : List Msg}
theorem try_step {k : Int} {c : Cir} (E : EndAt h X L w p m cs sl ms) (h0 : 0 ≤ k) (h1 : k < cs.length) (hc : cs[k.toNat]? = some c) (hn : ms.length < 65536) :
    Valid Try.prog 21 [ptr X 0, .int .i64 k] h fun r h' => StepP h X L w p m cs sl ms h' (cs.set k.toNat ⟨1, 0, IntKind.i64.wrap (c.tries + 1), c.lp⟩) [⟨1, k, false⟩] := try_ok E h0 h1 hc hn

set_option maxHeartbeats 2000000 in
theorem tick_ok (E : EndAt h X L w p m cs sl ms) (hn : ms.length < 60000) :
    Valid Try.prog 10 [ptr X 0] h fun r h' => StepP h X L w p m cs sl ms h' (tickN w p m cs cs.length).1 (tickN w p m cs cs.length).2 := by
  refine v10 (by simp) ?_
  have hX := E.obj
  unfold endC at hX
  simp only [X10, sx, x_box, x_alloc, x_bslice, x_slice, x_append, x_b2s, xop, ev, evs, evParts, fillL, cellsL, Ai.get, Ai.put, stab, isNil?, if_false, if_true, addr?, int?, str?, agg?, bool?, shiftA, FnPost, xresL, xres1, tup, argEnv, ptr, Nat.reduceEqDiff, reduceIte, beq_self_eq_true, ne_eq, Nat.reduceAdd, Nat.reduceMul, Nat.reduceSub, abin_shl, abin_shr, load1V, loadV, storeV, cellsAt, getN, setN, allocV, lenL, lenS, bnd, oneC, Value.oneCell', Nat.reduceLeDiff, Nat.reduceLT, exists_eq_left', forall_const, reduceCtorEq, app_new, app_new0, List.append_assoc, Int.reduceToNat, Int.reduceLT, Int.reduceLE, Int.reduceEq, Int.reduceNe, Int.reduceBEq, IntKind.bits, bne_self_eq_false, Int.reducePow]
  refine xcall (none_live E.obj E.pos) (by rfl) (by rfl) (by rfl) (by rfl) ?_
  rintro v h1 ⟨rfl, rfl⟩
  simp only [sx, x_box, x_alloc, x_bslice, x_slice, x_append, x_b2s, xop, ev, evs, evParts, fillL, cellsL, Ai.get, Ai.put, stab, isNil?, if_false, if_true, addr?, int?, str?, agg?, bool?, shiftA, FnPost, xresL, xres1, tup, argEnv, ptr, Nat.reduceEqDiff, reduceIte, beq_self_eq_true, ne_eq, Nat.reduceAdd, Nat.reduceMul, Nat.reduceSub, abin_shl, abin_shr, load1V, loadV, storeV, cellsAt, getN, setN, allocV, lenL, lenS, bnd, oneC, Value.oneCell', Nat.reduceLeDiff, Nat.reduceLT, exists_eq_left', forall_const, reduceCtorEq, app_new, app_new0, List.append_assoc, Int.reduceToNat, Int.reduceLT, Int.reduceLE, Int.reduceEq, Int.reduceNe, Int.reduceBEq, IntKind.bits, bne_self_eq_false, Int.reducePow, hX, app_old hX, ptr]
  refine xcode_loop (fun j ρ h' => ∃ i, i + j = cs.length ∧ get ρ 28 = some (.int .i64 (i : Nat)) ∧ get ρ 27 = some (.int .i64 cs.length) ∧ get ρ 0 = some (ptr X 0) ∧ get ρ 2 = some (ptr h1.length 0) ∧
    StepP (h1 ++ [some ⟨true, [.int .i64 0, .int .i64 w, .int .i64 w, .int .i64 p, .int .i64 0, .int .i64 0]⟩]) X L w p m cs sl ms h' (tickN w p m cs i).1 (tickN w p m cs i).2) cs.length
    ⟨0, by simp, rfl, rfl, rfl, rfl, by
      have := StepP.none (E.app [some ⟨true, [.int .i64 0, .int .i64 w, .int .i64 w, .int .i64 p, .int .i64 0, .int .i64 0]⟩]) []
      rwa [List.append_nil] at this⟩ ?_
  rintro j ρ h2 ⟨i, hij, g28, g27, g0, g2, S⟩
  obtain ⟨sl2, E2, F2, G2⟩ := id S
  have hX2 := E2.obj
  have hl1 := tickN_len w p m cs i
  have hXl := lt_of_get E.obj
  have hLl := lt_of_get E.row
  have hbig := E.big
  have hlim : h2[h1.length]? = some (some ⟨true, [.int .i64 0, .int .i64 w, .int .i64 w, .int .i64 p, .int .i64 0, .int .i64 0]⟩) := by
    rw [F2.2 h1.length (by simp) (by omega) (by omega) (fun e => by have := E.n3 _ e; omega), app_new0]; rfl
  have hms : (ms ++ (tickN w p m cs i).2).length < 65536 := by simp; omega
  rw [hl1.1] at hX2
  unfold endC at hX2
  unfold ptr at g0 g2
  by_cases hlt : i < cs.length
  · have hlt' : (i : Int) < cs.length := by omega
    have hge : (0 : Int) ≤ i := by omega
    have hw : IntKind.i64.wrap ((i : Int) + 1) = ((i + 1 : Nat) : Int) := by rw [IntKind.wrap_i64]; omega
    obtain ⟨c, hc⟩ : ∃ c, (tickN w p m cs i).1[i]? = some c := ⟨_, List.getElem?_eq_getElem (by omega)⟩
    have hsn := tickN_some hc
    have hL2 := E2.row
    have hlen : i * 4 + 1 + 1 ≤ (rowsC (tickN w p m cs i).1).length := by rw [rowsC_len]; omega
    have q0 : (rowsC (tickN w p m cs i).1)[i * 4]? = some (.int .u8 c.st) := by have := rowsC_get 0 (by omega) hc; rw [Nat.add_zero] at this; rw [this]; rfl
    have q1 : (rowsC (tickN w p m cs i).1)[i * 4 + 1]? = some (.int .i64 c.age) := by rw [rowsC_get 1 (by omega) hc]; rfl
    have fin : ∀ {h3 : AHeap} {c' : Cir} {new : List Msg}, c' = tickC w p m c → new = tickM w p m c (i : Nat) → StepP h2 X L w p m (tickN w p m cs i).1 sl2 (ms ++ (tickN w p m cs i).2) h3 ((tickN w p m cs i).1.set i c') new →
        StepP (h1 ++ [some ⟨true, [.int .i64 0, .int .i64 w, .int .i64 w, .int .i64 p, .int .i64 0, .int .i64 0]⟩]) X L w p m cs sl ms h3 (tickN w p m cs (i + 1)).1 (tickN w p m cs (i + 1)).2 := fun e1 e2 s => by
      rw [hsn]
      obtain ⟨sl3, E3, F3, G3⟩ := s
      subst e1 e2
      exact ⟨sl3, by simpa using E3, F2.trans G2 F3, G2.trans F2.1 G3⟩
    generalize tickN w p m cs i = tn at *
    simp only [sx, x_box, x_alloc, x_bslice, x_slice, x_append, x_b2s, xop, ev, evs, evParts, fillL, cellsL, Ai.get, Ai.put, stab, isNil?, if_false, if_true, addr?, int?, str?, agg?, bool?, shiftA, FnPost, xresL, xres1, tup, argEnv, ptr, Nat.reduceEqDiff, reduceIte, beq_self_eq_true, ne_eq, Nat.reduceAdd, Nat.reduceMul, Nat.reduceSub, abin_shl, abin_shr, load1V, loadV, storeV, cellsAt, getN, setN, allocV, lenL, lenS, bnd, oneC, Value.oneCell', Nat.reduceLeDiff, Nat.reduceLT, exists_eq_left', forall_const, reduceCtorEq, app_new, app_new0, List.append_assoc, Int.reduceToNat, Int.reduceLT, Int.reduceLE, Int.reduceEq, Int.reduceNe, Int.reduceBEq, IntKind.bits, bne_self_eq_false, Int.reducePow, g28, g27, g0, g2, hX2, hlt', hge]
    refine xcall (running_ok E2 hc) (by rfl) (by rfl) (by rfl) (by rfl) ?_
    rintro v h3 ⟨rfl, rfl⟩
    by_cases hr : 1 ≤ c.st ∧ c.st ≤ 3
    · obtain ⟨sA, EA, FA, GA⟩ := store_step (j := 1) (e := ⟨c.st, IntKind.i64.wrap (c.age + 1), c.tries, c.lp⟩) (v := .int .i64 (IntKind.i64.wrap (c.age + 1))) E2 hc (by omega) rfl
      have hltn : i < tn.1.length := by omega
      have hcA : (tn.1.set i ⟨c.st, IntKind.i64.wrap (c.age + 1), c.tries, c.lp⟩)[i]? = some ⟨c.st, IntKind.i64.wrap (c.age + 1), c.tries, c.lp⟩ := List.getElem?_set_self hltn
      have hXA := EA.obj
      have hRA := EA.row
      have hlA := hlim
      have hfA := FA.2 h1.length (by have := lt_of_get hlim; exact this) (by omega) (by omega) (fun e => by
        rcases G2 with rfl | ⟨A, hA, hl⟩
        · have := E.n3 _ e; omega
        · rw [hA] at e; cases e; simp at hl; omega)
      rw [← hfA] at hlA
      simp only [List.length_set, hl1.1] at hXA
      unfold endC at hXA
      have hr' := hr
      simp only [sx, x_box, x_alloc, x_bslice, x_slice, x_append, x_b2s, xop, ev, evs, evParts, fillL, cellsL, Ai.get, Ai.put, stab, isNil?, if_false, if_true, addr?, int?, str?, agg?, bool?, shiftA, FnPost, xresL, xres1, tup, argEnv, ptr, Nat.reduceEqDiff, reduceIte, beq_self_eq_true, ne_eq, Nat.reduceAdd, Nat.reduceMul, Nat.reduceSub, abin_shl, abin_shr, load1V, loadV, storeV, cellsAt, getN, setN, allocV, lenL, lenS, bnd, oneC, Value.oneCell', Nat.reduceLeDiff, Nat.reduceLT, exists_eq_left', forall_const, reduceCtorEq, app_new, app_new0, List.append_assoc, Int.reduceToNat, Int.reduceLT, Int.reduceLE, Int.reduceEq, Int.reduceNe, Int.reduceBEq, IntKind.bits, bne_self_eq_false, Int.reducePow, hr, hL2, q1, hlen]
      generalize h3.set L (some ⟨true, (rowsC tn.1).set (i * 4 + 1) (.int .i64 (IntKind.i64.wrap (c.age + 1)))⟩) = hA at *
      have p0 := rowsC_get 0 (by omega) hcA
      have p1 := rowsC_get 1 (by omega) hcA
      have p2 := rowsC_get 2 (by omega) hcA
      rw [Nat.add_zero] at p0
      have p0' : (rowsC (tn.1.set i ⟨c.st, IntKind.i64.wrap (c.age + 1), c.tries, c.lp⟩))[i * 4]? = some (.int .u8 c.st) := by rw [p0]; rfl
      have p1' : (rowsC (tn.1.set i ⟨c.st, IntKind.i64.wrap (c.age + 1), c.tries, c.lp⟩))[i * 4 + 1]? = some (.int .i64 (IntKind.i64.wrap (c.age + 1))) := by rw [p1]; rfl
      have p2' : (rowsC (tn.1.set i ⟨c.st, IntKind.i64.wrap (c.age + 1), c.tries, c.lp⟩))[i * 4 + 2]? = some (.int .i64 c.tries) := by rw [p2]; rfl
      have hr1 : 0 ≤ c.st := by omega
      have hr2 : c.st < 6 := by omega
      have hst : c.st = 1 ∨ c.st = 2 ∨ c.st = 3 := by omega
      have gt : ∃ lim : Int, [Value.int .i64 0, .int .i64 w, .int .i64 w, .int .i64 p, .int .i64 0, .int .i64 0][c.st.toNat]? = some (.int .i64 lim) ∧ lim = if c.st = 3 then p else w := by
        rcases hst with e | e | e <;> rw [e] <;> exact ⟨_, rfl, rfl⟩
      obtain ⟨lim, gt1, gt2⟩ := gt
      by_cases hage : IntKind.i64.wrap (c.age + 1) < lim
      · have e1 : tickC w p m c = ⟨c.st, IntKind.i64.wrap (c.age + 1), c.tries, c.lp⟩ := by unfold tickC; rw [if_pos hr', if_pos (by rw [← gt2]; exact hage)]
        have e2 : tickM w p m c (i : Nat) = [] := by unfold tickM; rw [if_pos hr', if_pos (by rw [← gt2]; exact hage)]
        simp only [sx, x_box, x_alloc, x_bslice, x_slice, x_append, x_b2s, xop, ev, evs, evParts, fillL, cellsL, Ai.get, Ai.put, stab, isNil?, if_false, if_true, addr?, int?, str?, agg?, bool?, shiftA, FnPost, xresL, xres1, tup, argEnv, ptr, Nat.reduceEqDiff, reduceIte, beq_self_eq_true, ne_eq, Nat.reduceAdd, Nat.reduceMul, Nat.reduceSub, abin_shl, abin_shr, load1V, loadV, storeV, cellsAt, getN, setN, allocV, lenL, lenS, bnd, oneC, Value.oneCell', Nat.reduceLeDiff, Nat.reduceLT, exists_eq_left', forall_const, reduceCtorEq, app_new, app_new0, List.append_assoc, Int.reduceToNat, Int.reduceLT, Int.reduceLE, Int.reduceEq, Int.reduceNe, Int.reduceBEq, IntKind.bits, bne_self_eq_false, Int.reducePow, hXA, hRA, hlA, p0', p1', p2', hr1, hr2, gt1, hage, Nat.mul_one, g28, g27, g0, g2, hw]
        exact ⟨j - 1, by omega, i + 1, by omega, rfl, fin e1.symm e2.symm ⟨sA, EA, FA, GA⟩⟩
      · have hmsA : (ms ++ tn.2 ++ []).length < 65536 := by simpa using hms
        by_cases h3s : c.st = 3
        · have e1 : tickC w p m c = ⟨1, 0, IntKind.i64.wrap (c.tries + 1), c.lp⟩ := by unfold tickC; rw [if_pos hr', if_neg (by rw [← gt2]; exact hage), if_pos h3s]
          have e2 : tickM w p m c (i : Nat) = [⟨1, (i : Nat), false⟩] := by unfold tickM; rw [if_pos hr', if_neg (by rw [← gt2]; exact hage), if_pos h3s]
          simp only [sx, x_box, x_alloc, x_bslice, x_slice, x_append, x_b2s, xop, ev, evs, evParts, fillL, cellsL, Ai.get, Ai.put, stab, isNil?, if_false, if_true, addr?, int?, str?, agg?, bool?, shiftA, FnPost, xresL, xres1, tup, argEnv, ptr, Nat.reduceEqDiff, reduceIte, beq_self_eq_true, ne_eq, Nat.reduceAdd, Nat.reduceMul, Nat.reduceSub, abin_shl, abin_shr, load1V, loadV, storeV, cellsAt, getN, setN, allocV, lenL, lenS, bnd, oneC, Value.oneCell', Nat.reduceLeDiff, Nat.reduceLT, exists_eq_left', forall_const, reduceCtorEq, app_new, app_new0, List.append_assoc, Int.reduceToNat, Int.reduceLT, Int.reduceLE, Int.reduceEq, Int.reduceNe, Int.reduceBEq, IntKind.bits, bne_self_eq_false, Int.reducePow, hXA, hRA, hlA, p0', p1', p2', hr1, hr2, gt1, hage, eq_true h3s, Nat.mul_one, g28, g27, g0, g2]
          refine xcall (try_step (k := (i : Nat)) EA (by omega) (by simp; omega) hcA hmsA) (by rfl) (by rfl) (by rfl) (by rfl) ?_
          rintro v h4 ⟨sB, EB, FB, GB⟩
          simp only [sx, x_box, x_alloc, x_bslice, x_slice, x_append, x_b2s, xop, ev, evs, evParts, fillL, cellsL, Ai.get, Ai.put, stab, isNil?, if_false, if_true, addr?, int?, str?, agg?, bool?, shiftA, FnPost, xresL, xres1, tup, argEnv, ptr, Nat.reduceEqDiff, reduceIte, beq_self_eq_true, ne_eq, Nat.reduceAdd, Nat.reduceMul, Nat.reduceSub, abin_shl, abin_shr, load1V, loadV, storeV, cellsAt, getN, setN, allocV, lenL, lenS, bnd, oneC, Value.oneCell', Nat.reduceLeDiff, Nat.reduceLT, exists_eq_left', forall_const, reduceCtorEq, app_new, app_new0, List.append_assoc, Int.reduceToNat, Int.reduceLT, Int.reduceLE, Int.reduceEq, Int.reduceNe, Int.reduceBEq, IntKind.bits, bne_self_eq_false, Int.reducePow, g28, g27, g0, g2, hw]
          refine ⟨j - 1, by omega, i + 1, by omega, rfl, fin e1.symm e2.symm ⟨sB, ?_, FA.trans GA FB, GA.trans FA.1 GB⟩⟩
          have := EB
          rw [show ((i : Nat) : Int).toNat = i from rfl, List.set_set] at this
          simpa using this
        · simp only [sx, x_box, x_alloc, x_bslice, x_slice, x_append, x_b2s, xop, ev, evs, evParts, fillL, cellsL, Ai.get, Ai.put, stab, isNil?, if_false, if_true, addr?, int?, str?, agg?, bool?, shiftA, FnPost, xresL, xres1, tup, argEnv, ptr, Nat.reduceEqDiff, reduceIte, beq_self_eq_true, ne_eq, Nat.reduceAdd, Nat.reduceMul, Nat.reduceSub, abin_shl, abin_shr, load1V, loadV, storeV, cellsAt, getN, setN, allocV, lenL, lenS, bnd, oneC, Value.oneCell', Nat.reduceLeDiff, Nat.reduceLT, exists_eq_left', forall_const, reduceCtorEq, app_new, app_new0, List.append_assoc, Int.reduceToNat, Int.reduceLT, Int.reduceLE, Int.reduceEq, Int.reduceNe, Int.reduceBEq, IntKind.bits, bne_self_eq_false, Int.reducePow, hXA, hRA, hlA, p0', p1', p2', hr1, hr2, gt1, hage, h3s, Nat.mul_one, g28, g27, g0, g2]
          refine xcall (send_step EA hmsA) (by rfl) (by rfl) (by rfl) (by rfl) ?_
          rintro v h4 ⟨sB, EB, FB, GB⟩
          have e2 : tickM w p m c (i : Nat) = [⟨3, (i : Nat), false⟩] := by unfold tickM; rw [if_pos hr', if_neg (by rw [← gt2]; exact hage), if_neg h3s]
          have hXB := EB.obj
          have hRB := EB.row
          simp only [List.length_set, hl1.1] at hXB
          unfold endC at hXB
          by_cases htr : c.tries < m
          · have e1 : tickC w p m c = ⟨3, 0, c.tries, c.lp⟩ := by unfold tickC; rw [if_pos hr', if_neg (by rw [← gt2]; exact hage), if_neg h3s, if_pos htr]
            simp only [sx, x_box, x_alloc, x_bslice, x_slice, x_append, x_b2s, xop, ev, evs, evParts, fillL, cellsL, Ai.get, Ai.put, stab, isNil?, if_false, if_true, addr?, int?, str?, agg?, bool?, shiftA, FnPost, xresL, xres1, tup, argEnv, ptr, Nat.reduceEqDiff, reduceIte, beq_self_eq_true, ne_eq, Nat.reduceAdd, Nat.reduceMul, Nat.reduceSub, abin_shl, abin_shr, load1V, loadV, storeV, cellsAt, getN, setN, allocV, lenL, lenS, bnd, oneC, Value.oneCell', Nat.reduceLeDiff, Nat.reduceLT, exists_eq_left', forall_const, reduceCtorEq, app_new, app_new0, List.append_assoc, Int.reduceToNat, Int.reduceLT, Int.reduceLE, Int.reduceEq, Int.reduceNe, Int.reduceBEq, IntKind.bits, bne_self_eq_false, Int.reducePow, hXB, hRB, p2', htr, g28, g27, g0, g2]
            refine xcall (enter_step EB hcA) (by rfl) (by rfl) (by rfl) (by rfl) ?_
            rintro v h5 ⟨sC, EC, FC, GC⟩
            simp only [sx, x_box, x_alloc, x_bslice, x_slice, x_append, x_b2s, xop, ev, evs, evParts, fillL, cellsL, Ai.get, Ai.put, stab, isNil?, if_false, if_true, addr?, int?, str?, agg?, bool?, shiftA, FnPost, xresL, xres1, tup, argEnv, ptr, Nat.reduceEqDiff, reduceIte, beq_self_eq_true, ne_eq, Nat.reduceAdd, Nat.reduceMul, Nat.reduceSub, abin_shl, abin_shr, load1V, loadV, storeV, cellsAt, getN, setN, allocV, lenL, lenS, bnd, oneC, Value.oneCell', Nat.reduceLeDiff, Nat.reduceLT, exists_eq_left', forall_const, reduceCtorEq, app_new, app_new0, List.append_assoc, Int.reduceToNat, Int.reduceLT, Int.reduceLE, Int.reduceEq, Int.reduceNe, Int.reduceBEq, IntKind.bits, bne_self_eq_false, Int.reducePow, g28, g27, g0, g2, hw]
            refine ⟨j - 1, by omega, i + 1, by omega, rfl, fin e1.symm e2.symm ⟨sC, ?_, (FA.trans GA FB).trans (GA.trans FA.1 GB) FC, (GA.trans FA.1 GB).trans (FA.trans GA FB).1 GC⟩⟩
            have := EC
            rw [List.set_set] at this
            simpa using this
          · have e1 : tickC w p m c = ⟨5, 0, c.tries, c.lp⟩ := by unfold tickC; rw [if_pos hr', if_neg (by rw [← gt2]; exact hage), if_neg h3s, if_neg htr]
            simp only [sx, x_box, x_alloc, x_bslice, x_slice, x_append, x_b2s, xop, ev, evs, evParts, fillL, cellsL, Ai.get, Ai.put, stab, isNil?, if_false, if_true, addr?, int?, str?, agg?, bool?, shiftA, FnPost, xresL, xres1, tup, argEnv, ptr, Nat.reduceEqDiff, reduceIte, beq_self_eq_true, ne_eq, Nat.reduceAdd, Nat.reduceMul, Nat.reduceSub, abin_shl, abin_shr, load1V, loadV, storeV, cellsAt, getN, setN, allocV, lenL, lenS, bnd, oneC, Value.oneCell', Nat.reduceLeDiff, Nat.reduceLT, exists_eq_left', forall_const, reduceCtorEq, app_new, app_new0, List.append_assoc, Int.reduceToNat, Int.reduceLT, Int.reduceLE, Int.reduceEq, Int.reduceNe, Int.reduceBEq, IntKind.bits, bne_self_eq_false, Int.reducePow, hXB, hRB, p2', htr, g28, g27, g0, g2]
            refine xcall (enter_step EB hcA) (by rfl) (by rfl) (by rfl) (by rfl) ?_
            rintro v h5 ⟨sC, EC, FC, GC⟩
            simp only [sx, x_box, x_alloc, x_bslice, x_slice, x_append, x_b2s, xop, ev, evs, evParts, fillL, cellsL, Ai.get, Ai.put, stab, isNil?, if_false, if_true, addr?, int?, str?, agg?, bool?, shiftA, FnPost, xresL, xres1, tup, argEnv, ptr, Nat.reduceEqDiff, reduceIte, beq_self_eq_true, ne_eq, Nat.reduceAdd, Nat.reduceMul, Nat.reduceSub, abin_shl, abin_shr, load1V, loadV, storeV, cellsAt, getN, setN, allocV, lenL, lenS, bnd, oneC, Value.oneCell', Nat.reduceLeDiff, Nat.reduceLT, exists_eq_left', forall_const, reduceCtorEq, app_new, app_new0, List.append_assoc, Int.reduceToNat, Int.reduceLT, Int.reduceLE, Int.reduceEq, Int.reduceNe, Int.reduceBEq, IntKind.bits, bne_self_eq_false, Int.reducePow, g28, g27, g0, g2, hw]
            refine ⟨j - 1, by omega, i + 1, by omega, rfl, fin e1.symm e2.symm ⟨sC, ?_, (FA.trans GA FB).trans (GA.trans FA.1 GB) FC, (GA.trans FA.1 GB).trans (FA.trans GA FB).1 GC⟩⟩
            have := EC
            rw [List.set_set] at this
            simpa using this
    · have e1 : tickC w p m c = c := by simp [tickC, hr]
      have e2 : tickM w p m c (i : Nat) = [] := by simp [tickM, hr]
      simp only [sx, x_box, x_alloc, x_bslice, x_slice, x_append, x_b2s, xop, ev, evs, evParts, fillL, cellsL, Ai.get, Ai.put, stab, isNil?, if_false, if_true, addr?, int?, str?, agg?, bool?, shiftA, FnPost, xresL, xres1, tup, argEnv, ptr, Nat.reduceEqDiff, reduceIte, beq_self_eq_true, ne_eq, Nat.reduceAdd, Nat.reduceMul, Nat.reduceSub, abin_shl, abin_shr, load1V, loadV, storeV, cellsAt, getN, setN, allocV, lenL, lenS, bnd, oneC, Value.oneCell', Nat.reduceLeDiff, Nat.reduceLT, exists_eq_left', forall_const, reduceCtorEq, app_new, app_new0, List.append_assoc, Int.reduceToNat, Int.reduceLT, Int.reduceLE, Int.reduceEq, Int.reduceNe, Int.reduceBEq, IntKind.bits, bne_self_eq_false, Int.reducePow, hr, g28, g27, g0, g2, hw]
      refine ⟨j - 1, by omega, i + 1, by omega, rfl, fin (c' := c) (new := []) e1.symm e2.symm ?_⟩
      rw [set_self hc]
      have := StepP.none E2 []
      rwa [List.append_nil] at this
  · have hlt' : ¬ (i : Int) < cs.length := by omega
    have : i = cs.length := by omega
    subst this
    simp only [sx, x_box, x_alloc, x_bslice, x_slice, x_append, x_b2s, xop, ev, evs, evParts, fillL, cellsL, Ai.get, Ai.put, stab, isNil?, if_false, if_true, addr?, int?, str?, agg?, bool?, shiftA, FnPost, xresL, xres1, tup, argEnv, ptr, Nat.reduceEqDiff, reduceIte, beq_self_eq_true, ne_eq, Nat.reduceAdd, Nat.reduceMul, Nat.reduceSub, abin_shl, abin_shr, load1V, loadV, storeV, cellsAt, getN, setN, allocV, lenL, lenS, bnd, oneC, Value.oneCell', Nat.reduceLeDiff, Nat.reduceLT, exists_eq_left', forall_const, reduceCtorEq, app_new, app_new0, List.append_assoc, Int.reduceToNat, Int.reduceLT, Int.reduceLE, Int.reduceEq, Int.reduceNe, Int.reduceBEq, IntKind.bits, bne_self_eq_false, Int.reducePow, g28, g27, g0, g2, hlt']
    exact S.app
end
end Go.Proofs.Ytjpjnidgcmkdbaa
