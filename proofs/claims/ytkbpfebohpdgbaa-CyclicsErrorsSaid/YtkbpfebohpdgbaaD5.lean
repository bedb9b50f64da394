import Derived.Test.YtkbpfebohpdgbaaD4
import Derived.Test.YtkbpfebohpdgbaaAiXd
set_option linter.unusedVariables false
set_option linter.unusedSimpArgs false
namespace Go.Proofs.Ytkbpfebohpdgbaa
open Go Go.Ai Go.Proofs

def UP.zero : UP := ⟨0, false, 0, false, 0, 0, []⟩
theorem aft_lt (n : Nat) (k : Int) : aft n k < 128 := by unfold aft; omega
def tot (ls : List (List Int)) : Nat := (ls.map List.length).sum
theorem tot_app (a b : List (List Int)) : tot (a ++ b) = tot a + tot b := by simp [tot]
theorem tot_one (z : List Int) : tot [z] = z.length := by simp [tot]
theorem LoadsR.tot {h : AHeap} : ∀ {vs : List Value} {ls : List (List Int)}, LoadsR h vs ls → tot ls ≤ ls.length * 300
  | [], [], _ => by simp [Proofs.Ytkbpfebohpdgbaa.tot]
  | _ :: _, _ :: ls, k => by
    have := LoadsR.tot k.2
    obtain ⟨-, -, -, -, h1⟩ := k.1
    simp only [Proofs.Ytkbpfebohpdgbaa.tot, List.map_cons, List.sum_cons, List.length_cons] at this ⊢
    omega
  | [], _ :: _, k => k.elim
  | _ :: _, [], k => k.elim
theorem tot_take (ls : List (List Int)) (i : Nat) : tot (ls.take i) ≤ tot ls := by
  have : tot ls = tot (ls.take i) + tot (ls.drop i) := by rw [← tot_app, List.take_append_drop]
  omega
def BE.lim (e : BE) : Bool := decide (e.ml ≤ e.o.length) || decide (e.mo ≤ tot e.o)
def LimI (h : AHeap) (X : Nat) (o : List (List Int)) (ov : Value) (m : Nat) (ρ : Env) (h' : AHeap) : Prop := ∃ i, i + m = o.length ∧ get ρ 0 = some (.pointer (some ⟨X, 0, none⟩)) ∧ get ρ 11 = some (.int .i64 (i : Nat)) ∧ get ρ 10 = some (.int .i64 (o.length : Nat)) ∧ get ρ 9 = some ov ∧ get ρ 3 = some (.int .i64 (tot (o.take i) : Nat)) ∧ h' = h
theorem limited_ok {h : AHeap} {X : Nat} {e : BE} {qv ov : Value} (E : BAt h X e qv ov) : Valid Try.prog 50 [.pointer (some ⟨X, 0, none⟩)] h fun r h' => r = .bool e.lim ∧ h' = h := by
  refine v50 (by simp) ?_
  have hX := E.obj
  have hoT := E.o.choose_spec.2.tot
  obtain ⟨oa, oc, hov⟩ := E.o.shape
  subst hov
  simp only [BE.cells] at hX
  have h4 := E.b4
  have h7 := E.b7
  simp only [X50, sx, x_box, x_alloc, x_bslice, x_slice, x_append, x_b2s, xop, ev, evs, evParts, fillL, cellsL, Ai.get, Ai.put, stab, isNil?, if_false, if_true, addr?, int?, str?, agg?, bool?, shiftA, FnPost, xresL, xres1, tup, argEnv, ptr, Nat.reduceEqDiff, reduceIte, beq_self_eq_true, ne_eq, Nat.reduceAdd, Nat.reduceMul, Nat.reduceSub, abin_shl, abin_shr, load1V, loadV, storeV, cellsAt, getN, setN, allocV, lenL, lenS, bnd, oneC, Value.oneCell', Nat.reduceLeDiff, Nat.reduceLT, exists_eq_left', forall_const, reduceCtorEq, app_new, app_new0, List.append_assoc, Int.reduceToNat, Int.reduceLT, Int.reduceLE, Int.reduceEq, Int.reduceNe, Int.reduceBEq, IntKind.bits, bne_self_eq_false, Int.reducePow, hX]
  refine xloop_cut (fun ρ h' => get ρ 0 = some (.pointer (some ⟨X, 0, none⟩)) ∧ get ρ 3 = some (.int .i64 (tot e.o : Nat)) ∧ h' = h) ?_ ?_
  · refine xcode_loop (LimI h X e.o (.slice oa e.o.length oc)) e.o.length
      ⟨0, by simp, rfl, rfl, rfl, rfl, rfl, rfl⟩ ?_
    rintro m ρ h' ⟨i, him, g0, g11, g10, g9, g3, rfl⟩
    by_cases hlt : i < e.o.length
    · have hlt' : (i : Int) < e.o.length := by omega
      have hge : (0 : Int) ≤ i := by omega
      have hwi : IntKind.i64.wrap ((i : Int) + 1) = ((i + 1 : Nat) : Int) := by rw [i64_wrap] <;> omega
      obtain ⟨A, off, c, cs, v, z, e1, e2, e3, e4, e5⟩ := E.o.elem hlt
      cases e1
      obtain ⟨B5, hv, -, -, hz⟩ := e5
      subst hv
      have hts : e.o.take (i + 1) = e.o.take i ++ [z] := by rw [List.take_add_one, e4]; rfl
      have htt := tot_take e.o i
      have hwt : IntKind.i64.wrap ((tot (e.o.take i) : Nat) + (z.length : Int)) = ((tot (e.o.take (i + 1)) : Nat) : Int) := by
        rw [hts, tot_app, tot_one, i64_wrap] <;> omega
      simp only [sx, x_box, x_alloc, x_bslice, x_slice, x_append, x_b2s, xop, ev, evs, evParts, fillL, cellsL, Ai.get, Ai.put, stab, isNil?, if_false, if_true, addr?, int?, str?, agg?, bool?, shiftA, FnPost, xresL, xres1, tup, argEnv, ptr, Nat.reduceEqDiff, reduceIte, beq_self_eq_true, ne_eq, Nat.reduceAdd, Nat.reduceMul, Nat.reduceSub, abin_shl, abin_shr, load1V, loadV, storeV, cellsAt, getN, setN, allocV, lenL, lenS, bnd, oneC, Value.oneCell', Nat.reduceLeDiff, Nat.reduceLT, exists_eq_left', forall_const, reduceCtorEq, app_new, app_new0, List.append_assoc, Int.reduceToNat, Int.reduceLT, Int.reduceLE, Int.reduceEq, Int.reduceNe, Int.reduceBEq, IntKind.bits, bne_self_eq_false, Int.reducePow, g0, g11, g10, g9, g3, hlt', hge, e2, e3, Nat.mul_one, hwi, hwt]
      exact ⟨m - 1, by omega, i + 1, by omega, g0, rfl, g10, g9, rfl, rfl⟩
    · have hlt' : ¬ (i : Int) < e.o.length := by omega
      have hi : i = e.o.length := by omega
      subst hi
      rw [List.take_length] at g3
      simp only [sx, x_box, x_alloc, x_bslice, x_slice, x_append, x_b2s, xop, ev, evs, evParts, fillL, cellsL, Ai.get, Ai.put, stab, isNil?, if_false, if_true, addr?, int?, str?, agg?, bool?, shiftA, FnPost, xresL, xres1, tup, argEnv, ptr, Nat.reduceEqDiff, reduceIte, beq_self_eq_true, ne_eq, Nat.reduceAdd, Nat.reduceMul, Nat.reduceSub, abin_shl, abin_shr, load1V, loadV, storeV, cellsAt, getN, setN, allocV, lenL, lenS, bnd, oneC, Value.oneCell', Nat.reduceLeDiff, Nat.reduceLT, exists_eq_left', forall_const, reduceCtorEq, app_new, app_new0, List.append_assoc, Int.reduceToNat, Int.reduceLT, Int.reduceLE, Int.reduceEq, Int.reduceNe, Int.reduceBEq, IntKind.bits, bne_self_eq_false, Int.reducePow, g0, g11, g10, g9, g3, hlt']
  · rintro ρ h' ⟨g0, g3, rfl⟩
    unfold BE.lim
    by_cases h1 : e.ml ≤ e.o.length
    · have h1' : (e.ml : Int) ≤ e.o.length := by omega
      simp only [sx, x_box, x_alloc, x_bslice, x_slice, x_append, x_b2s, xop, ev, evs, evParts, fillL, cellsL, Ai.get, Ai.put, stab, isNil?, if_false, if_true, addr?, int?, str?, agg?, bool?, shiftA, FnPost, xresL, xres1, tup, argEnv, ptr, Nat.reduceEqDiff, reduceIte, beq_self_eq_true, ne_eq, Nat.reduceAdd, Nat.reduceMul, Nat.reduceSub, abin_shl, abin_shr, load1V, loadV, storeV, cellsAt, getN, setN, allocV, lenL, lenS, bnd, oneC, Value.oneCell', Nat.reduceLeDiff, Nat.reduceLT, exists_eq_left', forall_const, reduceCtorEq, app_new, app_new0, List.append_assoc, Int.reduceToNat, Int.reduceLT, Int.reduceLE, Int.reduceEq, Int.reduceNe, Int.reduceBEq, IntKind.bits, bne_self_eq_false, Int.reducePow, g0, g3, hX, h1, h1']
      simp
    · have h1' : ¬ (e.ml : Int) ≤ e.o.length := by omega
      by_cases h2 : e.mo ≤ tot e.o
      · have h2' : (e.mo : Int) ≤ (tot e.o : Nat) := by omega
        simp only [sx, x_box, x_alloc, x_bslice, x_slice, x_append, x_b2s, xop, ev, evs, evParts, fillL, cellsL, Ai.get, Ai.put, stab, isNil?, if_false, if_true, addr?, int?, str?, agg?, bool?, shiftA, FnPost, xresL, xres1, tup, argEnv, ptr, Nat.reduceEqDiff, reduceIte, beq_self_eq_true, ne_eq, Nat.reduceAdd, Nat.reduceMul, Nat.reduceSub, abin_shl, abin_shr, load1V, loadV, storeV, cellsAt, getN, setN, allocV, lenL, lenS, bnd, oneC, Value.oneCell', Nat.reduceLeDiff, Nat.reduceLT, exists_eq_left', forall_const, reduceCtorEq, app_new, app_new0, List.append_assoc, Int.reduceToNat, Int.reduceLT, Int.reduceLE, Int.reduceEq, Int.reduceNe, Int.reduceBEq, IntKind.bits, bne_self_eq_false, Int.reducePow, g0, g3, hX, h1, h1', h2, h2']
        simp
      · have h2' : ¬ (e.mo : Int) ≤ (tot e.o : Nat) := by omega
        simp only [sx, x_box, x_alloc, x_bslice, x_slice, x_append, x_b2s, xop, ev, evs, evParts, fillL, cellsL, Ai.get, Ai.put, stab, isNil?, if_false, if_true, addr?, int?, str?, agg?, bool?, shiftA, FnPost, xresL, xres1, tup, argEnv, ptr, Nat.reduceEqDiff, reduceIte, beq_self_eq_true, ne_eq, Nat.reduceAdd, Nat.reduceMul, Nat.reduceSub, abin_shl, abin_shr, load1V, loadV, storeV, cellsAt, getN, setN, allocV, lenL, lenS, bnd, oneC, Value.oneCell', Nat.reduceLeDiff, Nat.reduceLT, exists_eq_left', forall_const, reduceCtorEq, app_new, app_new0, List.append_assoc, Int.reduceToNat, Int.reduceLT, Int.reduceLE, Int.reduceEq, Int.reduceNe, Int.reduceBEq, IntKind.bits, bne_self_eq_false, Int.reducePow, g0, g3, hX, h1, h1', h2, h2']
        simp
def BE.f1 (e : BE) : BE := if e.fo = false ∧ e.lim = true then { e with fo := true, pl := 0 } else e
def BE.f2 (e : BE) (b : Bool) : BE := if e.fo = true ∧ e.pl = e.o.length then (if b = true then { e with fo := true, pl := 0 } else { e with fo := false }) else e
def BE.force (e : BE) : BE := e.f1.f2 e.lim
/-- what Next sends -/
def BE.choose (e : BE) : BE × Nat × Option (List Int) :=
  let f := e.force
  if f.fo = false ∧ 0 < f.q.length then ({ f with o := f.o ++ [f.q.headD []], q := f.q.drop 1, sent := aft f.sent 1 }, aft f.sent 1, some (f.q.headD []))
  else if f.o.length = 0 then (f, f.sent, none)
  else ({ f with pl := f.pl % f.o.length + 1 }, aft f.ack (f.pl % f.o.length + 1 : Nat), some (f.o.getD (f.pl % f.o.length) []))
theorem f1_same (e : BE) : e.f1.ml = e.ml ∧ e.f1.mo = e.mo ∧ e.f1.q = e.q ∧ e.f1.o = e.o ∧ e.f1.sent = e.sent ∧ e.f1.ack = e.ack ∧ e.f1.acc = e.acc ∧ e.f1.a0 = e.a0 ∧ e.f1.a1 = e.a1 ∧ e.f1.fl = e.fl := by unfold BE.f1; split <;> simp
theorem f2_same (e : BE) (b : Bool) : (e.f2 b).ml = e.ml ∧ (e.f2 b).mo = e.mo ∧ (e.f2 b).q = e.q ∧ (e.f2 b).o = e.o ∧ (e.f2 b).sent = e.sent ∧ (e.f2 b).ack = e.ack ∧ (e.f2 b).acc = e.acc ∧ (e.f2 b).a0 = e.a0 ∧ (e.f2 b).a1 = e.a1 ∧ (e.f2 b).fl = e.fl := by
  unfold BE.f2
  split
  · split <;> simp
  · simp
theorem force_lim (e : BE) (h : e.force.fo = false) : e.lim = false := by
  unfold BE.force BE.f2 at h
  split at h
  · split at h
    · cases h
    · rename_i h1; simpa using h1
  · rename_i h1
    cases hl : e.lim with
    | false => rfl
    | true =>
      exfalso
      unfold BE.f1 at h
      by_cases hf : e.fo = false
      · rw [if_pos ⟨hf, hl⟩] at h; cases h
      · rw [if_neg (by simp [hf])] at h; exact hf h

/-- behind a question's reckoning -/
def ChG (h : AHeap) (X : Nat) (c : Bool) (j : Nat) (b : Bool) (ρ : Env) (h2 : AHeap) : Prop := get ρ j = some (.bool c) ∧ get ρ 0 = some (.pointer (some ⟨X, 0, none⟩)) ∧ get ρ 4 = some (.bool b) ∧ h2 = h
def ChG2 (h : AHeap) (X : Nat) (j : Nat) (ρ : Env) (h2 : AHeap) : Prop := get ρ j = some (.bool false) ∧ get ρ 0 = some (.pointer (some ⟨X, 0, none⟩)) ∧ h2 = h
/-- behind choose's first two questions -/
def ChM (h : AHeap) (X : Nat) (f : BE) (b : Bool) (qv ov : Value) (ρ : Env) (h2 : AHeap) : Prop := BAt h2 X f qv ov ∧ Fr (foot X qv ov) h h2 ∧ h2.length = h.length ∧ get ρ 0 = some (.pointer (some ⟨X, 0, none⟩)) ∧ get ρ 4 = some (.bool b)
theorem BAt.fset {h : AHeap} {X : Nat} {e : BE} {qv ov : Value} (E : BAt h X e qv ov) (o : Option AObj) : Fr (foot X qv ov) h (h.set X o) := Fr.set o (.inl rfl)

set_option maxHeartbeats 4000000 in
set_option maxRecDepth 20000 in
theorem choose_ok {h : AHeap} {X : Nat} {e : BE} {qv ov : Value} (E : BAt h X e qv ov) : Valid Try.prog 37 [.pointer (some ⟨X, 0, none⟩)] h fun r h' => (∃ v, r = .tuple #[.int .u8 (e.choose.2.1 : Nat), v] ∧ match e.choose.2.2 with | none => v = .slice none 0 0 | some z => LoadV h' v z) ∧ Went h h' X e.choose.1 qv ov := by
  refine v37 (by simp) ?_
  simp only [X37, sx, x_box, x_alloc, x_bslice, x_slice, x_append, x_b2s, xop, ev, evs, evParts, fillL, cellsL, Ai.get, Ai.put, stab, isNil?, if_false, if_true, addr?, int?, str?, agg?, bool?, shiftA, FnPost, xresL, xres1, tup, argEnv, ptr, Nat.reduceEqDiff, reduceIte, beq_self_eq_true, ne_eq, Nat.reduceAdd, Nat.reduceMul, Nat.reduceSub, abin_shl, abin_shr, load1V, loadV, storeV, cellsAt, getN, setN, allocV, lenL, lenS, bnd, oneC, Value.oneCell', Nat.reduceLeDiff, Nat.reduceLT, exists_eq_left', forall_const, reduceCtorEq, app_new, app_new0, List.append_assoc, Int.reduceToNat, Int.reduceLT, Int.reduceLE, Int.reduceEq, Int.reduceNe, Int.reduceBEq, IntKind.bits, bne_self_eq_false, Int.reducePow]
  refine xcall (limited_ok E) (by rfl) (by rfl) (by rfl) (by rfl) ?_
  rintro r h' ⟨rfl, rfl⟩
  have hX := E.obj
  obtain ⟨oa, oc, hov⟩ := E.o.shape
  subst hov
  obtain ⟨qa, qc, hqv⟩ := E.q.shape
  subst hqv
  have hX' := hX
  simp only [BE.cells] at hX
  simp only [sx, x_box, x_alloc, x_bslice, x_slice, x_append, x_b2s, xop, ev, evs, evParts, fillL, cellsL, Ai.get, Ai.put, stab, isNil?, if_false, if_true, addr?, int?, str?, agg?, bool?, shiftA, FnPost, xresL, xres1, tup, argEnv, ptr, Nat.reduceEqDiff, reduceIte, beq_self_eq_true, ne_eq, Nat.reduceAdd, Nat.reduceMul, Nat.reduceSub, abin_shl, abin_shr, load1V, loadV, storeV, cellsAt, getN, setN, allocV, lenL, lenS, bnd, oneC, Value.oneCell', Nat.reduceLeDiff, Nat.reduceLT, exists_eq_left', forall_const, reduceCtorEq, app_new, app_new0, List.append_assoc, Int.reduceToNat, Int.reduceLT, Int.reduceLE, Int.reduceEq, Int.reduceNe, Int.reduceBEq, IntKind.bits, bne_self_eq_false, Int.reducePow, hX]
  refine xgrd_cut (ChG h' X (!e.fo && e.lim) 16 e.lim) (by
    cases h1 : e.fo
    · simp only [sx, x_box, x_alloc, x_bslice, x_slice, x_append, x_b2s, xop, ev, evs, evParts, fillL, cellsL, Ai.get, Ai.put, stab, isNil?, if_false, if_true, addr?, int?, str?, agg?, bool?, shiftA, FnPost, xresL, xres1, tup, argEnv, ptr, Nat.reduceEqDiff, reduceIte, beq_self_eq_true, ne_eq, Nat.reduceAdd, Nat.reduceMul, Nat.reduceSub, abin_shl, abin_shr, load1V, loadV, storeV, cellsAt, getN, setN, allocV, lenL, lenS, bnd, oneC, Value.oneCell', Nat.reduceLeDiff, Nat.reduceLT, exists_eq_left', forall_const, reduceCtorEq, app_new, app_new0, List.append_assoc, Int.reduceToNat, Int.reduceLT, Int.reduceLE, Int.reduceEq, Int.reduceNe, Int.reduceBEq, IntKind.bits, bne_self_eq_false, Int.reducePow, h1]
      exact ⟨by simp [Ai.get], by simp [Ai.get], by simp [Ai.get], rfl⟩
    · simp only [sx, x_box, x_alloc, x_bslice, x_slice, x_append, x_b2s, xop, ev, evs, evParts, fillL, cellsL, Ai.get, Ai.put, stab, isNil?, if_false, if_true, addr?, int?, str?, agg?, bool?, shiftA, FnPost, xresL, xres1, tup, argEnv, ptr, Nat.reduceEqDiff, reduceIte, beq_self_eq_true, ne_eq, Nat.reduceAdd, Nat.reduceMul, Nat.reduceSub, abin_shl, abin_shr, load1V, loadV, storeV, cellsAt, getN, setN, allocV, lenL, lenS, bnd, oneC, Value.oneCell', Nat.reduceLeDiff, Nat.reduceLT, exists_eq_left', forall_const, reduceCtorEq, app_new, app_new0, List.append_assoc, Int.reduceToNat, Int.reduceLT, Int.reduceLE, Int.reduceEq, Int.reduceNe, Int.reduceBEq, IntKind.bits, bne_self_eq_false, Int.reducePow, h1]
      exact ⟨by simp [Ai.get], by simp [Ai.get], by simp [Ai.get], rfl⟩) ?_
  rintro ρ h2 ⟨g16, g0, g4, rfl⟩
  simp only [sx, x_box, x_alloc, x_bslice, x_slice, x_append, x_b2s, xop, ev, evs, evParts, fillL, cellsL, Ai.get, Ai.put, stab, isNil?, if_false, if_true, addr?, int?, str?, agg?, bool?, shiftA, FnPost, xresL, xres1, tup, argEnv, ptr, Nat.reduceEqDiff, reduceIte, beq_self_eq_true, ne_eq, Nat.reduceAdd, Nat.reduceMul, Nat.reduceSub, abin_shl, abin_shr, load1V, loadV, storeV, cellsAt, getN, setN, allocV, lenL, lenS, bnd, oneC, Value.oneCell', Nat.reduceLeDiff, Nat.reduceLT, exists_eq_left', forall_const, reduceCtorEq, app_new, app_new0, List.append_assoc, Int.reduceToNat, Int.reduceLT, Int.reduceLE, Int.reduceEq, Int.reduceNe, Int.reduceBEq, IntKind.bits, bne_self_eq_false, Int.reducePow, g16, g0, g4]
  refine xcond_cut (ChM h2 X e.f1 e.lim (.slice qa e.q.length qc) (.slice oa e.o.length oc)) ?_ ?_
  · by_cases hc : e.fo = false ∧ e.lim = true
    · obtain ⟨hc1, hc2⟩ := hc
      have hf : e.f1 = { e with fo := true, pl := 0 } := by unfold BE.f1; rw [if_pos ⟨hc1, hc2⟩]
      have hcc : (!e.fo && e.lim) = true := by rw [hc1, hc2]; rfl
      have E1 := E.set e.f1 (f1_same e).2.2.1 (f1_same e).2.2.2.1 ⟨(f1_same e).1, (f1_same e).2.1⟩ (by rw [hf]; exact E.b1) (by rw [hf]; exact E.b2) (by rw [hf]; exact E.b3) (by rw [hf]; exact Nat.zero_le _)
      simp only [sx, x_box, x_alloc, x_bslice, x_slice, x_append, x_b2s, xop, ev, evs, evParts, fillL, cellsL, Ai.get, Ai.put, stab, isNil?, if_false, if_true, addr?, int?, str?, agg?, bool?, shiftA, FnPost, xresL, xres1, tup, argEnv, ptr, Nat.reduceEqDiff, reduceIte, beq_self_eq_true, ne_eq, Nat.reduceAdd, Nat.reduceMul, Nat.reduceSub, abin_shl, abin_shr, load1V, loadV, storeV, cellsAt, getN, setN, allocV, lenL, lenS, bnd, oneC, Value.oneCell', Nat.reduceLeDiff, Nat.reduceLT, exists_eq_left', forall_const, reduceCtorEq, app_new, app_new0, List.append_assoc, Int.reduceToNat, Int.reduceLT, Int.reduceLE, Int.reduceEq, Int.reduceNe, Int.reduceBEq, IntKind.bits, bne_self_eq_false, Int.reducePow, hX, hcc, g0, g4, set_here, List.set_set]
      refine ⟨?_, ?_, by simp, g0, g4⟩
      · rw [hf] at E1 ⊢; exact E1
      · exact E.fset _
    · have hf : e.f1 = e := by unfold BE.f1; rw [if_neg hc]
      have hcc : (!e.fo && e.lim) = false := by
        cases h1 : e.fo <;> cases h2 : e.lim <;> simp_all
      rw [hf]
      simp only [sx, x_box, x_alloc, x_bslice, x_slice, x_append, x_b2s, xop, ev, evs, evParts, fillL, cellsL, Ai.get, Ai.put, stab, isNil?, if_false, if_true, addr?, int?, str?, agg?, bool?, shiftA, FnPost, xresL, xres1, tup, argEnv, ptr, Nat.reduceEqDiff, reduceIte, beq_self_eq_true, ne_eq, Nat.reduceAdd, Nat.reduceMul, Nat.reduceSub, abin_shl, abin_shr, load1V, loadV, storeV, cellsAt, getN, setN, allocV, lenL, lenS, bnd, oneC, Value.oneCell', Nat.reduceLeDiff, Nat.reduceLT, exists_eq_left', forall_const, reduceCtorEq, app_new, app_new0, List.append_assoc, Int.reduceToNat, Int.reduceLT, Int.reduceLE, Int.reduceEq, Int.reduceNe, Int.reduceBEq, IntKind.bits, bne_self_eq_false, Int.reducePow, hcc]
      exact ⟨E, Fr.refl _ _, rfl, g0, g4⟩
  have hq1 := (f1_same e).2.2.1
  have ho1 := (f1_same e).2.2.2.1
  clear hX hX'
  rintro ρ1 h3 ⟨E1, F1, l1, g0, g4⟩
  have hX1 := E1.obj
  simp only [BE.cells] at hX1
  have hfb : e.f1.f2 e.lim = e.force := rfl
  generalize e.f1 = f at *
  generalize e.lim = b at *
  simp only [sx, x_box, x_alloc, x_bslice, x_slice, x_append, x_b2s, xop, ev, evs, evParts, fillL, cellsL, Ai.get, Ai.put, stab, isNil?, if_false, if_true, addr?, int?, str?, agg?, bool?, shiftA, FnPost, xresL, xres1, tup, argEnv, ptr, Nat.reduceEqDiff, reduceIte, beq_self_eq_true, ne_eq, Nat.reduceAdd, Nat.reduceMul, Nat.reduceSub, abin_shl, abin_shr, load1V, loadV, storeV, cellsAt, getN, setN, allocV, lenL, lenS, bnd, oneC, Value.oneCell', Nat.reduceLeDiff, Nat.reduceLT, exists_eq_left', forall_const, reduceCtorEq, app_new, app_new0, List.append_assoc, Int.reduceToNat, Int.reduceLT, Int.reduceLE, Int.reduceEq, Int.reduceNe, Int.reduceBEq, IntKind.bits, bne_self_eq_false, Int.reducePow, g0, g4, hX1]
  refine xgrd_cut (ChG h3 X (f.fo && decide (f.pl = f.o.length)) 38 b) (by
    cases h1 : f.fo
    · simp only [sx, x_box, x_alloc, x_bslice, x_slice, x_append, x_b2s, xop, ev, evs, evParts, fillL, cellsL, Ai.get, Ai.put, stab, isNil?, if_false, if_true, addr?, int?, str?, agg?, bool?, shiftA, FnPost, xresL, xres1, tup, argEnv, ptr, Nat.reduceEqDiff, reduceIte, beq_self_eq_true, ne_eq, Nat.reduceAdd, Nat.reduceMul, Nat.reduceSub, abin_shl, abin_shr, load1V, loadV, storeV, cellsAt, getN, setN, allocV, lenL, lenS, bnd, oneC, Value.oneCell', Nat.reduceLeDiff, Nat.reduceLT, exists_eq_left', forall_const, reduceCtorEq, app_new, app_new0, List.append_assoc, Int.reduceToNat, Int.reduceLT, Int.reduceLE, Int.reduceEq, Int.reduceNe, Int.reduceBEq, IntKind.bits, bne_self_eq_false, Int.reducePow, h1, g0, g4, hX1]
      exact ⟨by simp [Ai.get], by simp [Ai.get, g0], by simp [Ai.get, g4], rfl⟩
    · by_cases h2 : f.pl = f.o.length
      · have h2' : (f.pl : Int) = e.o.length := by rw [← ho1, h2]
        simp only [sx, x_box, x_alloc, x_bslice, x_slice, x_append, x_b2s, xop, ev, evs, evParts, fillL, cellsL, Ai.get, Ai.put, stab, isNil?, if_false, if_true, addr?, int?, str?, agg?, bool?, shiftA, FnPost, xresL, xres1, tup, argEnv, ptr, Nat.reduceEqDiff, reduceIte, beq_self_eq_true, ne_eq, Nat.reduceAdd, Nat.reduceMul, Nat.reduceSub, abin_shl, abin_shr, load1V, loadV, storeV, cellsAt, getN, setN, allocV, lenL, lenS, bnd, oneC, Value.oneCell', Nat.reduceLeDiff, Nat.reduceLT, exists_eq_left', forall_const, reduceCtorEq, app_new, app_new0, List.append_assoc, Int.reduceToNat, Int.reduceLT, Int.reduceLE, Int.reduceEq, Int.reduceNe, Int.reduceBEq, IntKind.bits, bne_self_eq_false, Int.reducePow, h1, g0, g4, hX1, h2']
        exact ⟨by simp [Ai.get, h2], by simp [Ai.get, g0], by simp [Ai.get, g4], rfl⟩
      · have h2' : ¬ (f.pl : Int) = e.o.length := by rw [← ho1]; omega
        simp only [sx, x_box, x_alloc, x_bslice, x_slice, x_append, x_b2s, xop, ev, evs, evParts, fillL, cellsL, Ai.get, Ai.put, stab, isNil?, if_false, if_true, addr?, int?, str?, agg?, bool?, shiftA, FnPost, xresL, xres1, tup, argEnv, ptr, Nat.reduceEqDiff, reduceIte, beq_self_eq_true, ne_eq, Nat.reduceAdd, Nat.reduceMul, Nat.reduceSub, abin_shl, abin_shr, load1V, loadV, storeV, cellsAt, getN, setN, allocV, lenL, lenS, bnd, oneC, Value.oneCell', Nat.reduceLeDiff, Nat.reduceLT, exists_eq_left', forall_const, reduceCtorEq, app_new, app_new0, List.append_assoc, Int.reduceToNat, Int.reduceLT, Int.reduceLE, Int.reduceEq, Int.reduceNe, Int.reduceBEq, IntKind.bits, bne_self_eq_false, Int.reducePow, h1, g0, g4, hX1, h2']
        exact ⟨by simp [Ai.get, h2], by simp [Ai.get, g0], by simp [Ai.get, g4], rfl⟩) ?_
  rintro ρ2 h4 ⟨g38, g0, g4, rfl⟩
  simp only [sx, x_box, x_alloc, x_bslice, x_slice, x_append, x_b2s, xop, ev, evs, evParts, fillL, cellsL, Ai.get, Ai.put, stab, isNil?, if_false, if_true, addr?, int?, str?, agg?, bool?, shiftA, FnPost, xresL, xres1, tup, argEnv, ptr, Nat.reduceEqDiff, reduceIte, beq_self_eq_true, ne_eq, Nat.reduceAdd, Nat.reduceMul, Nat.reduceSub, abin_shl, abin_shr, load1V, loadV, storeV, cellsAt, getN, setN, allocV, lenL, lenS, bnd, oneC, Value.oneCell', Nat.reduceLeDiff, Nat.reduceLT, exists_eq_left', forall_const, reduceCtorEq, app_new, app_new0, List.append_assoc, Int.reduceToNat, Int.reduceLT, Int.reduceLE, Int.reduceEq, Int.reduceNe, Int.reduceBEq, IntKind.bits, bne_self_eq_false, Int.reducePow, g38, g0, g4]
  refine xcond_cut (ChM h4 X (f.f2 b) b (.slice qa e.q.length qc) (.slice oa e.o.length oc)) ?_ ?_
  · by_cases hc : f.fo = true ∧ f.pl = f.o.length
    · have hcc : (f.fo && decide (f.pl = f.o.length)) = true := by rw [hc.1, hc.2]; simp
      cases b
      · have hf : f.f2 false = { f with fo := false } := by unfold BE.f2; rw [if_pos hc]; simp
        have E2 := E1.set (f.f2 false) (f2_same f false).2.2.1 (f2_same f false).2.2.2.1 ⟨(f2_same f false).1, (f2_same f false).2.1⟩ (by rw [hf]; exact E1.b1) (by rw [hf]; exact E1.b2) (by rw [hf]; exact E1.b3) (by rw [hf]; exact E1.b6)
        simp only [sx, x_box, x_alloc, x_bslice, x_slice, x_append, x_b2s, xop, ev, evs, evParts, fillL, cellsL, Ai.get, Ai.put, stab, isNil?, if_false, if_true, addr?, int?, str?, agg?, bool?, shiftA, FnPost, xresL, xres1, tup, argEnv, ptr, Nat.reduceEqDiff, reduceIte, beq_self_eq_true, ne_eq, Nat.reduceAdd, Nat.reduceMul, Nat.reduceSub, abin_shl, abin_shr, load1V, loadV, storeV, cellsAt, getN, setN, allocV, lenL, lenS, bnd, oneC, Value.oneCell', Nat.reduceLeDiff, Nat.reduceLT, exists_eq_left', forall_const, reduceCtorEq, app_new, app_new0, List.append_assoc, Int.reduceToNat, Int.reduceLT, Int.reduceLE, Int.reduceEq, Int.reduceNe, Int.reduceBEq, IntKind.bits, bne_self_eq_false, Int.reducePow, hX1, hcc, g0, g4, set_here, List.set_set]
        refine ⟨?_, ?_, by simp, g0, g4⟩
        · rw [hf] at E2 ⊢; exact E2
        · exact E1.fset _
      · have hf : f.f2 true = { f with fo := true, pl := 0 } := by unfold BE.f2; rw [if_pos hc]; simp
        have E2 := E1.set (f.f2 true) (f2_same f true).2.2.1 (f2_same f true).2.2.2.1 ⟨(f2_same f true).1, (f2_same f true).2.1⟩ (by rw [hf]; exact E1.b1) (by rw [hf]; exact E1.b2) (by rw [hf]; exact E1.b3) (by rw [hf]; exact Nat.zero_le _)
        simp only [sx, x_box, x_alloc, x_bslice, x_slice, x_append, x_b2s, xop, ev, evs, evParts, fillL, cellsL, Ai.get, Ai.put, stab, isNil?, if_false, if_true, addr?, int?, str?, agg?, bool?, shiftA, FnPost, xresL, xres1, tup, argEnv, ptr, Nat.reduceEqDiff, reduceIte, beq_self_eq_true, ne_eq, Nat.reduceAdd, Nat.reduceMul, Nat.reduceSub, abin_shl, abin_shr, load1V, loadV, storeV, cellsAt, getN, setN, allocV, lenL, lenS, bnd, oneC, Value.oneCell', Nat.reduceLeDiff, Nat.reduceLT, exists_eq_left', forall_const, reduceCtorEq, app_new, app_new0, List.append_assoc, Int.reduceToNat, Int.reduceLT, Int.reduceLE, Int.reduceEq, Int.reduceNe, Int.reduceBEq, IntKind.bits, bne_self_eq_false, Int.reducePow, hX1, hcc, g0, g4, set_here, List.set_set]
        refine ⟨?_, ?_, by simp, g0, g4⟩
        · rw [hf] at E2 ⊢; exact E2
        · exact E1.fset _
    · have hf : f.f2 b = f := by unfold BE.f2; rw [if_neg hc]
      have hcc : (f.fo && decide (f.pl = f.o.length)) = false := by
        cases h1 : f.fo <;> simp_all
      rw [hf]
      simp only [sx, x_box, x_alloc, x_bslice, x_slice, x_append, x_b2s, xop, ev, evs, evParts, fillL, cellsL, Ai.get, Ai.put, stab, isNil?, if_false, if_true, addr?, int?, str?, agg?, bool?, shiftA, FnPost, xresL, xres1, tup, argEnv, ptr, Nat.reduceEqDiff, reduceIte, beq_self_eq_true, ne_eq, Nat.reduceAdd, Nat.reduceMul, Nat.reduceSub, abin_shl, abin_shr, load1V, loadV, storeV, cellsAt, getN, setN, allocV, lenL, lenS, bnd, oneC, Value.oneCell', Nat.reduceLeDiff, Nat.reduceLT, exists_eq_left', forall_const, reduceCtorEq, app_new, app_new0, List.append_assoc, Int.reduceToNat, Int.reduceLT, Int.reduceLE, Int.reduceEq, Int.reduceNe, Int.reduceBEq, IntKind.bits, bne_self_eq_false, Int.reducePow, hcc]
      exact ⟨E1, Fr.refl _ _, rfl, g0, g4⟩
  have hq2 := (f2_same f b).2.2.1.trans hq1
  have ho2 := (f2_same f b).2.2.2.1.trans ho1
  rintro ρ3 h5 ⟨E3, F3, l3, g0', g4'⟩
  have F03 := F1.trans F3 fun B hB => .inl hB
  have l03 : h5.length = h2.length := by omega
  have hlim := force_lim e
  unfold BE.choose
  rw [hfb] at E3 hq2 ho2
  have hml : e.force.ml = e.ml ∧ e.force.mo = e.mo := by
    unfold BE.force; exact ⟨(f2_same _ _).1.trans (f1_same e).1, (f2_same _ _).2.1.trans (f1_same e).2.1⟩
  clear E1 F1 l1 hX1 hfb F3 l3 hq1 ho1 g38 g0 g4
  have hlm : e.force.fo = false → e.force.o.length < e.force.ml := fun h => by
    have h1 := hlim h
    unfold BE.lim at h1
    simp only [Bool.or_eq_false_iff, decide_eq_false_iff_not] at h1
    have := h1.1; rw [ho2, hml.1]; omega
  generalize hff : e.force = f at *
  have hqe : e.q.length = f.q.length := by rw [hq2]
  have hoe : e.o.length = f.o.length := by rw [ho2]
  rw [hqe, hoe] at E3 F03 ⊢
  clear hq2 ho2 hlim hqe hoe hff E g16 hml g4'
  clear e
  have hX := E3.obj
  have hX' := hX
  simp only [BE.cells] at hX
  have hb1 := E3.b1
  have hb2 := E3.b2
  have h7' := E3.b7
  by_cases hA : f.fo = false ∧ 0 < f.q.length
  · rw [if_pos hA]
    obtain ⟨hA1, hA2⟩ := hA
    have hA2' : (0 : Int) < f.q.length := by omega
    obtain ⟨A, off, c, cs, v, z, e1, e2, e3, e4, e5⟩ := E3.q.elem hA2
    rw [Nat.add_zero] at e3
    obtain ⟨sl', hsl, Q', hsb⟩ := E3.q.behind (j := 1) (by omega)
    obtain ⟨qa', qc', hsl'⟩ := Q'.shape
    subst hsl'
    have hz : f.q.headD [] = z := by
      cases hq : f.q with
      | nil => rw [hq] at hA2; simp at hA2
      | cons y ys => rw [hq] at e4; simpa using e4
    have e5' := e5
    obtain ⟨B5, hv, -⟩ := e5'
    subst hv
    cases e1
    have hXl2 := lt_of_get hX
    simp only [sx, x_box, x_alloc, x_bslice, x_append, x_b2s, xop, ev, evs, evParts, fillL, cellsL, Ai.get, Ai.put, stab, isNil?, if_false, if_true, addr?, int?, str?, agg?, bool?, shiftA, FnPost, xresL, xres1, tup, argEnv, ptr, Nat.reduceEqDiff, reduceIte, beq_self_eq_true, ne_eq, Nat.reduceAdd, Nat.reduceMul, Nat.reduceSub, abin_shl, abin_shr, load1V, loadV, storeV, cellsAt, getN, setN, allocV, lenL, lenS, bnd, oneC, Value.oneCell', Nat.reduceLeDiff, Nat.reduceLT, exists_eq_left', forall_const, reduceCtorEq, app_new, app_new0, List.append_assoc, Int.reduceToNat, Int.reduceLT, Int.reduceLE, Int.reduceEq, Int.reduceNe, Int.reduceBEq, IntKind.bits, bne_self_eq_false, Int.reducePow, g0', hX, hA1, hA2', e2, e3, Nat.zero_mul]
    rw [x_slice, hsl _ _ _ rfl rfl]
    have hXt : ∀ t : AHeap, (h5 ++ t)[X]? = h5[X]? := fun t => List.getElem?_append_left hXl2
    simp only [sx, x_box, x_alloc, x_bslice, x_slice, x_b2s, xop, ev, evs, evParts, fillL, cellsL, Ai.get, Ai.put, stab, isNil?, if_false, if_true, addr?, int?, str?, agg?, bool?, shiftA, FnPost, xresL, xres1, tup, argEnv, ptr, Nat.reduceEqDiff, reduceIte, beq_self_eq_true, ne_eq, Nat.reduceAdd, Nat.reduceMul, Nat.reduceSub, abin_shl, abin_shr, load1V, loadV, storeV, cellsAt, getN, setN, allocV, lenL, lenS, bnd, oneC, Value.oneCell', Nat.reduceLeDiff, Nat.reduceLT, exists_eq_left', forall_const, reduceCtorEq, app_new, app_new0, List.append_assoc, Int.reduceToNat, Int.reduceLT, Int.reduceLE, Int.reduceEq, Int.reduceNe, Int.reduceBEq, IntKind.bits, bne_self_eq_false, Int.reducePow, g0', hX, hXt]
    refine xops_st ?_
    refine QAt.push E3.o e5 (by rfl) (by rfl) (by have := E3.b4; omega) fun h6 A' hA' hl6 Q6 hfr6 z6 => ?_
    have hX6 : h6[X]? = some (some ⟨true, f.cells (.slice (some ⟨A, off, none⟩) f.q.length qc) (.slice oa f.o.length oc)⟩) := by rw [hfr6 X hXl2 E3.n2]; exact hX'
    have hX6' := hX6
    simp only [BE.cells] at hX6
    simp only [sx, x_box, x_alloc, x_bslice, x_slice, x_append, x_b2s, xop, ev, evs, evParts, fillL, cellsL, Ai.get, Ai.put, stab, isNil?, if_false, if_true, addr?, int?, str?, agg?, bool?, shiftA, FnPost, xresL, xres1, tup, argEnv, ptr, Nat.reduceEqDiff, reduceIte, beq_self_eq_true, ne_eq, Nat.reduceAdd, Nat.reduceMul, Nat.reduceSub, abin_shl, abin_shr, load1V, loadV, storeV, cellsAt, getN, setN, allocV, lenL, lenS, bnd, oneC, Value.oneCell', Nat.reduceLeDiff, Nat.reduceLT, exists_eq_left', forall_const, reduceCtorEq, app_new, app_new0, List.append_assoc, Int.reduceToNat, Int.reduceLT, Int.reduceLE, Int.reduceEq, Int.reduceNe, Int.reduceBEq, IntKind.bits, bne_self_eq_false, Int.reducePow, g0', hX6, set_here]
    refine xcall (after_ok (n := f.sent) (k := 1) (by omega) (by omega)) (by rfl) (by rfl) (by rfl) (by rfl) ?_
    rintro r h7 ⟨rfl, rfl⟩
    simp only [sx, x_box, x_alloc, x_bslice, x_slice, x_append, x_b2s, xop, ev, evs, evParts, fillL, cellsL, Ai.get, Ai.put, stab, isNil?, if_false, if_true, addr?, int?, str?, agg?, bool?, shiftA, FnPost, xresL, xres1, tup, argEnv, ptr, Nat.reduceEqDiff, reduceIte, beq_self_eq_true, ne_eq, Nat.reduceAdd, Nat.reduceMul, Nat.reduceSub, abin_shl, abin_shr, load1V, loadV, storeV, cellsAt, getN, setN, allocV, lenL, lenS, bnd, oneC, Value.oneCell', Nat.reduceLeDiff, Nat.reduceLT, exists_eq_left', forall_const, reduceCtorEq, app_new, app_new0, List.append_assoc, Int.reduceToNat, Int.reduceLT, Int.reduceLE, Int.reduceEq, Int.reduceNe, Int.reduceBEq, IntKind.bits, bne_self_eq_false, Int.reducePow, g0', hX6, set_here]
    have hqf : ∀ B, slB (.slice qa' (f.q.drop 1).length qc') = some B → slB (.slice (some ⟨A, off, none⟩) f.q.length qc) = some B := hsb
    have Q7 : QAt h6 (.slice qa' (f.q.drop 1).length qc') (f.q.drop 1) := Q'.keep z6 fun B hB => hfr6 B (E3.q.lt (hqf B hB)) fun e1 => E3.n3 B (hqf B hB) e1
    have zS : ∀ cs', Frz h6 (h6.set X (some ⟨true, cs'⟩)) := fun cs' B cs hB => by
      rw [set_ne (fun e1 => by rw [← e1, hX6'] at hB; cases hB)]; exact hB
    have hn1 : ∀ B, slB (.slice qa' (f.q.drop 1).length qc') = some B → X ≠ B := fun B hB e1 => E3.n1 (by rw [e1]; exact hqf B hB)
    refine ⟨⟨_, rfl, ?_⟩, .slice qa' (f.q.drop 1).length qc', .slice (some ⟨A', 0, none⟩) (f.o.length + 1) (unk + 1), ?_, ⟨?_, fun B hB hn => ?_⟩, fun B hB => ?_⟩
    · simp only [hz]
      exact (e5.frz z6).frz (by simp only [List.set_set]; exact zS _)
    · rw [hz]
      refine ⟨?_, ?_, ?_, fun e1 => hn1 X e1 rfl, ?_, ?_, aft_lt f.sent 1, hb2, E3.b3, ?_, ?_, ?_, h7', E3.b8⟩
      · simp only [List.set_set]; rw [set_here, hX6']; simp only [BE.cells, hA1]; rfl
      · simp only [List.set_set]; exact Q7.keep (zS _) fun B hB => set_ne (hn1 B hB) _
      · simp only [List.set_set, List.length_append, List.length_cons, List.length_nil, Nat.zero_add]
        exact Q6.keep (zS _) fun B hB => set_ne (fun e1 => by simp [slB] at hB; omega) _
      · simp only [slB]; intro e1; cases e1; omega
      · intro B hB hB2
        simp [slB] at hB2
        have := E3.q.lt (hqf B hB)
        omega
      · have := hlm hA1; simp; omega
      · have := E3.b5; simp; omega
      · have := E3.b6; simp; omega
    · simp only [List.length_set]; omega
    · have hXB : X ≠ B := fun e1 => hn (.inl e1.symm)
      simp only [List.set_set]
      rw [set_ne hXB, hfr6 B (by omega) (fun e1 => hn (.inr (.inr e1)))]
      exact F03.2 B hB hn
    · rcases hB with rfl | hB | hB
      · exact .inl (.inl rfl)
      · exact .inl (.inr (.inl (hqf B hB)))
      · simp [slB] at hB; exact .inr (by omega)
  rw [if_neg hA]
  simp only [sx, x_box, x_alloc, x_bslice, x_slice, x_append, x_b2s, xop, ev, evs, evParts, fillL, cellsL, Ai.get, Ai.put, stab, isNil?, if_false, if_true, addr?, int?, str?, agg?, bool?, shiftA, FnPost, xresL, xres1, tup, argEnv, ptr, Nat.reduceEqDiff, reduceIte, beq_self_eq_true, ne_eq, Nat.reduceAdd, Nat.reduceMul, Nat.reduceSub, abin_shl, abin_shr, load1V, loadV, storeV, cellsAt, getN, setN, allocV, lenL, lenS, bnd, oneC, Value.oneCell', Nat.reduceLeDiff, Nat.reduceLT, exists_eq_left', forall_const, reduceCtorEq, app_new, app_new0, List.append_assoc, Int.reduceToNat, Int.reduceLT, Int.reduceLE, Int.reduceEq, Int.reduceNe, Int.reduceBEq, IntKind.bits, bne_self_eq_false, Int.reducePow, g0', hX]
  refine xgrd_cut (ChG2 h5 X 59) (by
    cases h1 : f.fo
    · have h2 : ¬ (0 : Int) < f.q.length := fun h => hA ⟨h1, by omega⟩
      simp only [sx, x_box, x_alloc, x_bslice, x_slice, x_append, x_b2s, xop, ev, evs, evParts, fillL, cellsL, Ai.get, Ai.put, stab, isNil?, if_false, if_true, addr?, int?, str?, agg?, bool?, shiftA, FnPost, xresL, xres1, tup, argEnv, ptr, Nat.reduceEqDiff, reduceIte, beq_self_eq_true, ne_eq, Nat.reduceAdd, Nat.reduceMul, Nat.reduceSub, abin_shl, abin_shr, load1V, loadV, storeV, cellsAt, getN, setN, allocV, lenL, lenS, bnd, oneC, Value.oneCell', Nat.reduceLeDiff, Nat.reduceLT, exists_eq_left', forall_const, reduceCtorEq, app_new, app_new0, List.append_assoc, Int.reduceToNat, Int.reduceLT, Int.reduceLE, Int.reduceEq, Int.reduceNe, Int.reduceBEq, IntKind.bits, bne_self_eq_false, Int.reducePow, h1, h2, g0', hX]
      exact ⟨by simp [Ai.get], by simp [Ai.get, g0'], rfl⟩
    · simp only [sx, x_box, x_alloc, x_bslice, x_slice, x_append, x_b2s, xop, ev, evs, evParts, fillL, cellsL, Ai.get, Ai.put, stab, isNil?, if_false, if_true, addr?, int?, str?, agg?, bool?, shiftA, FnPost, xresL, xres1, tup, argEnv, ptr, Nat.reduceEqDiff, reduceIte, beq_self_eq_true, ne_eq, Nat.reduceAdd, Nat.reduceMul, Nat.reduceSub, abin_shl, abin_shr, load1V, loadV, storeV, cellsAt, getN, setN, allocV, lenL, lenS, bnd, oneC, Value.oneCell', Nat.reduceLeDiff, Nat.reduceLT, exists_eq_left', forall_const, reduceCtorEq, app_new, app_new0, List.append_assoc, Int.reduceToNat, Int.reduceLT, Int.reduceLE, Int.reduceEq, Int.reduceNe, Int.reduceBEq, IntKind.bits, bne_self_eq_false, Int.reducePow, h1, g0', hX]
      exact ⟨by simp [Ai.get], by simp [Ai.get, g0'], rfl⟩) ?_
  rintro ρ6 h6 ⟨g59, g06, rfl⟩
  simp only [sx, x_box, x_alloc, x_bslice, x_slice, x_append, x_b2s, xop, ev, evs, evParts, fillL, cellsL, Ai.get, Ai.put, stab, isNil?, if_false, if_true, addr?, int?, str?, agg?, bool?, shiftA, FnPost, xresL, xres1, tup, argEnv, ptr, Nat.reduceEqDiff, reduceIte, beq_self_eq_true, ne_eq, Nat.reduceAdd, Nat.reduceMul, Nat.reduceSub, abin_shl, abin_shr, load1V, loadV, storeV, cellsAt, getN, setN, allocV, lenL, lenS, bnd, oneC, Value.oneCell', Nat.reduceLeDiff, Nat.reduceLT, exists_eq_left', forall_const, reduceCtorEq, app_new, app_new0, List.append_assoc, Int.reduceToNat, Int.reduceLT, Int.reduceLE, Int.reduceEq, Int.reduceNe, Int.reduceBEq, IntKind.bits, bne_self_eq_false, Int.reducePow, g59, g06, hX]
  by_cases hn : f.o.length = 0
  · rw [if_pos hn]
    have hn' : (f.o.length : Int) = 0 := by omega
    simp only [sx, x_box, x_alloc, x_bslice, x_slice, x_append, x_b2s, xop, ev, evs, evParts, fillL, cellsL, Ai.get, Ai.put, stab, isNil?, if_false, if_true, addr?, int?, str?, agg?, bool?, shiftA, FnPost, xresL, xres1, tup, argEnv, ptr, Nat.reduceEqDiff, reduceIte, beq_self_eq_true, ne_eq, Nat.reduceAdd, Nat.reduceMul, Nat.reduceSub, abin_shl, abin_shr, load1V, loadV, storeV, cellsAt, getN, setN, allocV, lenL, lenS, bnd, oneC, Value.oneCell', Nat.reduceLeDiff, Nat.reduceLT, exists_eq_left', forall_const, reduceCtorEq, app_new, app_new0, List.append_assoc, Int.reduceToNat, Int.reduceLT, Int.reduceLE, Int.reduceEq, Int.reduceNe, Int.reduceBEq, IntKind.bits, bne_self_eq_false, Int.reducePow, g06, hX, hn']
    exact ⟨⟨_, rfl, rfl⟩, _, _, E3, F03, fun B hB => .inl hB⟩
  · rw [if_neg hn]
    have hn' : ¬ (f.o.length : Int) = 0 := by omega
    have h4 := E3.b4
    have h6 := E3.b6
    have hmod : (f.pl : Int).tmod f.o.length = ((f.pl % f.o.length : Nat) : Int) := by rw [Int.tmod_eq_emod_of_nonneg (by omega)]; omega
    have hlt : f.pl % f.o.length < f.o.length := Nat.mod_lt _ (by omega)
    have hE5 := E3.o
    generalize hpp : f.pl % f.o.length = p at *
    have hwi : IntKind.i64.wrap ((p : Int) + 1) = ((p + 1 : Nat) : Int) := by rw [i64_wrap] <;> omega
    have hge : (0 : Int) ≤ p := by omega
    have hlt' : (p : Int) < f.o.length := by omega
    obtain ⟨A, off, c, cs, v, z, e1, e2, e3, e4, e5⟩ := hE5.elem hlt
    cases e1
    have hAX : X ≠ A := fun e1 => E3.n2 (by rw [e1]; rfl)
    have sA := set_far hAX
    simp only [sx, x_box, x_alloc, x_bslice, x_slice, x_append, x_b2s, xop, ev, evs, evParts, fillL, cellsL, Ai.get, Ai.put, stab, isNil?, if_false, if_true, addr?, int?, str?, agg?, bool?, shiftA, FnPost, xresL, xres1, tup, argEnv, ptr, Nat.reduceEqDiff, reduceIte, beq_self_eq_true, ne_eq, Nat.reduceAdd, Nat.reduceMul, Nat.reduceSub, abin_shl, abin_shr, load1V, loadV, storeV, cellsAt, getN, setN, allocV, lenL, lenS, bnd, oneC, Value.oneCell', Nat.reduceLeDiff, Nat.reduceLT, exists_eq_left', forall_const, reduceCtorEq, app_new, app_new0, List.append_assoc, Int.reduceToNat, Int.reduceLT, Int.reduceLE, Int.reduceEq, Int.reduceNe, Int.reduceBEq, IntKind.bits, bne_self_eq_false, Int.reducePow, g06, hX, hn', hmod, hwi, hge, hlt', set_here, sA, e2, e3, Nat.mul_one, List.set_set]
    refine xcall (after_ok (n := f.ack) (k := ((p + 1 : Nat) : Int)) (by omega) (by omega)) (by rfl) (by rfl) (by rfl) (by rfl) ?_
    rintro r h7 ⟨rfl, rfl⟩
    have E7 := E3.set { f with pl := p + 1 } rfl rfl ⟨rfl, rfl⟩ hb1 hb2 E3.b3 (by simp only; omega)
    have z7 := E3.frz (E3.fset (some ⟨true, ({ f with pl := p + 1 } : BE).cells (.slice qa f.q.length qc) (.slice (some ⟨A, off, none⟩) f.o.length oc)⟩))
    simp only [sx, x_box, x_alloc, x_bslice, x_slice, x_append, x_b2s, xop, ev, evs, evParts, fillL, cellsL, Ai.get, Ai.put, stab, isNil?, if_false, if_true, addr?, int?, str?, agg?, bool?, shiftA, FnPost, xresL, xres1, tup, argEnv, ptr, Nat.reduceEqDiff, reduceIte, beq_self_eq_true, ne_eq, Nat.reduceAdd, Nat.reduceMul, Nat.reduceSub, abin_shl, abin_shr, load1V, loadV, storeV, cellsAt, getN, setN, allocV, lenL, lenS, bnd, oneC, Value.oneCell', Nat.reduceLeDiff, Nat.reduceLT, exists_eq_left', forall_const, reduceCtorEq, app_new, app_new0, List.append_assoc, Int.reduceToNat, Int.reduceLT, Int.reduceLE, Int.reduceEq, Int.reduceNe, Int.reduceBEq, IntKind.bits, bne_self_eq_false, Int.reducePow, g06]
    have hgd : f.o.getD p [] = z := by rw [List.getD_eq_getElem?_getD, e4]; rfl
    refine ⟨⟨_, rfl, ?_⟩, _, _, E7, F03.trans (E3.fset _) fun B hB => .inl hB, fun B hB => .inl hB⟩
    simp only [hgd]
    exact e5.frz z7
end Go.Proofs.Ytkbpfebohpdgbaa
