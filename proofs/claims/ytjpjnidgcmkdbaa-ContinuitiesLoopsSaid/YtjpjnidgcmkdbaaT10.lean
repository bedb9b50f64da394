import Derived.Test.YtjpjnidgcmkdbaaT9
set_option linter.unusedVariables false
set_option linter.unusedSimpArgs false
namespace Go.Proofs.Ytjpjnidgcmkdbaa
open Go Go.Ai Go.Proofs

instance (c : Cir) : Decidable c.busy := by unfold Cir.busy; infer_instance
instance (kd : Int) (good : Bool) : Decidable (badM kd good) := by unfold badM; infer_instance
/-- what an act does with its circuit, and what is sent -/
def actC (kind code : Int) (good : Bool) (c : Cir) : Cir × List Msg :=
  if kind = 0 then (if c.busy then (c, []) else (⟨1, 0, 1, c.lp⟩, [⟨1, code, false⟩]))
  else if kind = 1 then (if c.st = 2 then (⟨4, 0, c.tries, c.lp⟩, [⟨3, code, true⟩]) else (c, []))
  else if kind = 2 then (⟨0, 0, c.tries, c.lp⟩, if c.st = 1 ∨ c.st = 2 then [⟨3, code, false⟩] else [])
  else if badM (kind - 2) good then (c, []) else (hearC c (kind - 2), hearM (kind - 2) code)
def actOn (cs : List Cir) (kind code : Int) (good : Bool) : List Cir × List Msg :=
  if 0 ≤ code ∧ code < cs.length then (match cs[code.toNat]? with
    | some c => (cs.set code.toNat (actC kind code good c).1, (actC kind code good c).2)
    | none => (cs, []))
  else (cs, [])
def actS (w p m : Int) (cs : List Cir) (kind code : Int) (good : Bool) : List Cir × List Msg :=
  if kind = 6 then tickN w p m cs cs.length else actOn cs kind code good

section
variable {h : AHeap} {X L : Nat} {w p m : Int} {cs : List Cir} {sl : Value} {ms : List Msg} {k : Int}
theorem actOn_in {kind : Int} {good : Bool} {c : Cir} (h0 : 0 ≤ k) (h1 : k < cs.length) (hc : cs[k.toNat]? = some c) : actOn cs kind k good = (cs.set k.toNat (actC kind k good c).1, (actC kind k good c).2) := by
  unfold actOn; rw [if_pos ⟨h0, h1⟩, hc]
theorem actOn_out {kind : Int} {good : Bool} (hk : ¬ (0 ≤ k ∧ k < cs.length)) : actOn cs kind k good = (cs, []) := by
  unfold actOn; rw [if_neg hk]
theorem StepP.same {c : Cir} (E : EndAt h X L w p m cs sl ms) (hc : cs[k.toNat]? = some c) (J : AHeap) : StepP h X L w p m cs sl ms (h ++ J) (cs.set k.toNat c) [] := by
  rw [set_self hc]; exact StepP.none E J
theorem start_step (E : EndAt h X L w p m cs sl ms) (hn : ms.length < 65536) :
    Valid Try.prog 15 [ptr X 0, .int .i64 k] h fun r h' => (∃ e, r = .int .i64 e) ∧ StepP h X L w p m cs sl ms h' (actOn cs 0 k false).1 (actOn cs 0 k false).2 := by
  by_cases hk : 0 ≤ k ∧ k < cs.length
  · obtain ⟨c, hc⟩ := toNat_get hk.1 hk.2
    rw [actOn_in hk.1 hk.2 hc]
    refine (start_ok E hk.1 hk.2 hc hn).mono ?_
    rintro r h' ⟨g1, g2⟩
    by_cases hb : c.busy
    · obtain ⟨rfl, J, rfl⟩ := g1 hb
      simp only [actC, if_pos hb, if_true]
      exact ⟨⟨_, rfl⟩, StepP.same E hc J⟩
    · obtain ⟨rfl, s⟩ := g2 hb
      simp only [actC, if_neg hb, if_true]
      exact ⟨⟨_, rfl⟩, s⟩
  · rw [actOn_out hk]
    refine (start_out E hk).mono ?_
    rintro r h' ⟨rfl, J, rfl⟩
    exact ⟨⟨_, rfl⟩, StepP.none E J⟩
theorem ncl (E : EndAt h X L w p m cs sl ms) (t : AHeap) (i : Nat) (hi : i < t.length) : h.length + i ≠ X ∧ h.length + i ≠ L ∧ slB sl ≠ some (h.length + i) :=
  ⟨fun e => by have := lt_of_get E.obj; omega, fun e => by have := lt_of_get E.row; omega, fun e => by have := E.n3 _ e; omega⟩
theorem tone_step (E : EndAt h X L w p m cs sl ms) (hn : ms.length < 65536) :
    Valid Try.prog 16 [ptr X 0, .int .i64 k] h fun r h' => (∃ e, r = .int .i64 e) ∧ StepP h X L w p m cs sl ms h' (actOn cs 1 k false).1 (actOn cs 1 k false).2 := by
  refine v16 (by simp) ?_
  simp only [X16, sx, x_box, x_alloc, x_bslice, x_slice, x_append, x_b2s, xop, ev, evs, evParts, fillL, cellsL, Ai.get, Ai.put, stab, isNil?, if_false, if_true, addr?, int?, str?, agg?, bool?, shiftA, FnPost, xresL, xres1, tup, argEnv, ptr, Nat.reduceEqDiff, reduceIte, beq_self_eq_true, ne_eq, Nat.reduceAdd, Nat.reduceMul, Nat.reduceSub, abin_shl, abin_shr, load1V, loadV, storeV, cellsAt, getN, setN, allocV, lenL, lenS, bnd, oneC, Value.oneCell', Nat.reduceLeDiff, Nat.reduceLT, exists_eq_left', forall_const, reduceCtorEq, app_new, app_new0, List.append_assoc, Int.reduceToNat, Int.reduceLT, Int.reduceLE, Int.reduceEq, Int.reduceNe, Int.reduceBEq, IntKind.bits, bne_self_eq_false, Int.reducePow]
  by_cases hk : 0 ≤ k ∧ k < cs.length
  · obtain ⟨c, hc⟩ := toNat_get hk.1 hk.2
    rw [actOn_in hk.1 hk.2 hc]
    have n0 := ncl E [none, none] 0 (by simp)
    have n1 := ncl E [none, none] 1 (by simp)
    refine xcall (with_in (E.app _) hk.1 hk.2 (tone1_ok (E.app _) hk.1 hk.2 hc hn (b0 := h.length) (b1 := h.length + 1) (by rw [app_new0]; rfl) (by rw [app_new]; rfl) n0 n1)) (by rfl) (by rfl) (by rfl) (by rfl) ?_
    rintro r h' ⟨g1, g2⟩
    simp only [sx, x_box, x_alloc, x_bslice, x_slice, x_append, x_b2s, xop, ev, evs, evParts, fillL, cellsL, Ai.get, Ai.put, stab, isNil?, if_false, if_true, addr?, int?, str?, agg?, bool?, shiftA, FnPost, xresL, xres1, tup, argEnv, ptr, Nat.reduceEqDiff, reduceIte, beq_self_eq_true, ne_eq, Nat.reduceAdd, Nat.reduceMul, Nat.reduceSub, abin_shl, abin_shr, load1V, loadV, storeV, cellsAt, getN, setN, allocV, lenL, lenS, bnd, oneC, Value.oneCell', Nat.reduceLeDiff, Nat.reduceLT, exists_eq_left', forall_const, reduceCtorEq, app_new, app_new0, List.append_assoc, Int.reduceToNat, Int.reduceLT, Int.reduceLE, Int.reduceEq, Int.reduceNe, Int.reduceBEq, IntKind.bits, bne_self_eq_false, Int.reducePow]
    by_cases hb : c.st = 2
    · obtain ⟨rfl, s⟩ := g2 hb
      simp only [actC, hb, if_true]
      exact ⟨⟨_, rfl⟩, s.app⟩
    · obtain ⟨rfl, rfl⟩ := g1 hb
      simp only [actC, hb, if_true, if_false]
      exact ⟨⟨_, rfl⟩, StepP.same E hc _⟩
  · rw [actOn_out hk]
    refine xcall (with_out (E.app _) hk) (by rfl) (by rfl) (by rfl) (by rfl) ?_
    rintro r h' ⟨rfl, rfl⟩
    simp only [sx, x_box, x_alloc, x_bslice, x_slice, x_append, x_b2s, xop, ev, evs, evParts, fillL, cellsL, Ai.get, Ai.put, stab, isNil?, if_false, if_true, addr?, int?, str?, agg?, bool?, shiftA, FnPost, xresL, xres1, tup, argEnv, ptr, Nat.reduceEqDiff, reduceIte, beq_self_eq_true, ne_eq, Nat.reduceAdd, Nat.reduceMul, Nat.reduceSub, abin_shl, abin_shr, load1V, loadV, storeV, cellsAt, getN, setN, allocV, lenL, lenS, bnd, oneC, Value.oneCell', Nat.reduceLeDiff, Nat.reduceLT, exists_eq_left', forall_const, reduceCtorEq, app_new, app_new0, List.append_assoc, Int.reduceToNat, Int.reduceLT, Int.reduceLE, Int.reduceEq, Int.reduceNe, Int.reduceBEq, IntKind.bits, bne_self_eq_false, Int.reducePow]
    exact ⟨⟨_, rfl⟩, StepP.none E _⟩
theorem stop_step (E : EndAt h X L w p m cs sl ms) (hn : ms.length < 65536) :
    Valid Try.prog 17 [ptr X 0, .int .i64 k] h fun r h' => (∃ e, r = .int .i64 e) ∧ StepP h X L w p m cs sl ms h' (actOn cs 2 k false).1 (actOn cs 2 k false).2 := by
  refine v17 (by simp) ?_
  simp only [X17, sx, x_box, x_alloc, x_bslice, x_slice, x_append, x_b2s, xop, ev, evs, evParts, fillL, cellsL, Ai.get, Ai.put, stab, isNil?, if_false, if_true, addr?, int?, str?, agg?, bool?, shiftA, FnPost, xresL, xres1, tup, argEnv, ptr, Nat.reduceEqDiff, reduceIte, beq_self_eq_true, ne_eq, Nat.reduceAdd, Nat.reduceMul, Nat.reduceSub, abin_shl, abin_shr, load1V, loadV, storeV, cellsAt, getN, setN, allocV, lenL, lenS, bnd, oneC, Value.oneCell', Nat.reduceLeDiff, Nat.reduceLT, exists_eq_left', forall_const, reduceCtorEq, app_new, app_new0, List.append_assoc, Int.reduceToNat, Int.reduceLT, Int.reduceLE, Int.reduceEq, Int.reduceNe, Int.reduceBEq, IntKind.bits, bne_self_eq_false, Int.reducePow]
  by_cases hk : 0 ≤ k ∧ k < cs.length
  · obtain ⟨c, hc⟩ := toNat_get hk.1 hk.2
    rw [actOn_in hk.1 hk.2 hc]
    refine xcall (with_in (E.app _) hk.1 hk.2 (stop1_ok (E.app _) hk.1 hk.2 hc hn (b0 := h.length) (b1 := h.length + 1) (by rw [app_new0]; rfl) (by rw [app_new]; rfl))) (by rfl) (by rfl) (by rfl) (by rfl) ?_
    rintro r h' ⟨rfl, new, s, rfl⟩
    simp only [sx, x_box, x_alloc, x_bslice, x_slice, x_append, x_b2s, xop, ev, evs, evParts, fillL, cellsL, Ai.get, Ai.put, stab, isNil?, if_false, if_true, addr?, int?, str?, agg?, bool?, shiftA, FnPost, xresL, xres1, tup, argEnv, ptr, Nat.reduceEqDiff, reduceIte, beq_self_eq_true, ne_eq, Nat.reduceAdd, Nat.reduceMul, Nat.reduceSub, abin_shl, abin_shr, load1V, loadV, storeV, cellsAt, getN, setN, allocV, lenL, lenS, bnd, oneC, Value.oneCell', Nat.reduceLeDiff, Nat.reduceLT, exists_eq_left', forall_const, reduceCtorEq, app_new, app_new0, List.append_assoc, Int.reduceToNat, Int.reduceLT, Int.reduceLE, Int.reduceEq, Int.reduceNe, Int.reduceBEq, IntKind.bits, bne_self_eq_false, Int.reducePow]
    exact ⟨⟨_, rfl⟩, s.app⟩
  · rw [actOn_out hk]
    refine xcall (with_out (E.app _) hk) (by rfl) (by rfl) (by rfl) (by rfl) ?_
    rintro r h' ⟨rfl, rfl⟩
    simp only [sx, x_box, x_alloc, x_bslice, x_slice, x_append, x_b2s, xop, ev, evs, evParts, fillL, cellsL, Ai.get, Ai.put, stab, isNil?, if_false, if_true, addr?, int?, str?, agg?, bool?, shiftA, FnPost, xresL, xres1, tup, argEnv, ptr, Nat.reduceEqDiff, reduceIte, beq_self_eq_true, ne_eq, Nat.reduceAdd, Nat.reduceMul, Nat.reduceSub, abin_shl, abin_shr, load1V, loadV, storeV, cellsAt, getN, setN, allocV, lenL, lenS, bnd, oneC, Value.oneCell', Nat.reduceLeDiff, Nat.reduceLT, exists_eq_left', forall_const, reduceCtorEq, app_new, app_new0, List.append_assoc, Int.reduceToNat, Int.reduceLT, Int.reduceLE, Int.reduceEq, Int.reduceNe, Int.reduceBEq, IntKind.bits, bne_self_eq_false, Int.reducePow]
    exact ⟨⟨_, rfl⟩, StepP.none E _⟩
theorem hear_step {kd : Int} {good : Bool} (E : EndAt h X L w p m cs sl ms) (hn : ms.length < 65536) (hkd : kd + 2 ≠ 0 ∧ kd + 2 ≠ 1 ∧ kd + 2 ≠ 2) :
    Valid Try.prog 12 [ptr X 0, .agg #[.int .u8 kd, .int .i64 k, .bool good]] h fun r h' => (∃ e, r = .int .i64 e) ∧ StepP h X L w p m cs sl ms h' (actOn cs (kd + 2) k good).1 (actOn cs (kd + 2) k good).2 := by
  refine v12 (by simp) ?_
  simp only [X12, sx, x_box, x_alloc, x_bslice, x_slice, x_append, x_b2s, xop, ev, evs, evParts, fillL, cellsL, Ai.get, Ai.put, stab, isNil?, if_false, if_true, addr?, int?, str?, agg?, bool?, shiftA, FnPost, xresL, xres1, tup, argEnv, ptr, Nat.reduceEqDiff, reduceIte, beq_self_eq_true, ne_eq, Nat.reduceAdd, Nat.reduceMul, Nat.reduceSub, abin_shl, abin_shr, load1V, loadV, storeV, cellsAt, getN, setN, allocV, lenL, lenS, bnd, oneC, Value.oneCell', Nat.reduceLeDiff, Nat.reduceLT, exists_eq_left', forall_const, reduceCtorEq, app_new, app_new0, List.append_assoc, Int.reduceToNat, Int.reduceLT, Int.reduceLE, Int.reduceEq, Int.reduceNe, Int.reduceBEq, IntKind.bits, bne_self_eq_false, Int.reducePow]
  have ekd : kd + 2 - 2 = kd := by omega
  by_cases hk : 0 ≤ k ∧ k < cs.length
  · obtain ⟨c, hc⟩ := toNat_get hk.1 hk.2
    rw [actOn_in hk.1 hk.2 hc]
    have n0 := ncl E [none, none] 0 (by simp)
    have n1 := ncl E [none, none] 1 (by simp)
    by_cases hb : badM kd good
    · refine xcall (with_in (E.app _) hk.1 hk.2 (hear1_bad (bm := h.length + 1) (k := k) (kd := kd) (good := good) (by rw [app_new]; rfl) hb)) (by rfl) (by rfl) (by rfl) (by rfl) ?_
      rintro r h' ⟨rfl, rfl⟩
      simp only [sx, x_box, x_alloc, x_bslice, x_slice, x_append, x_b2s, xop, ev, evs, evParts, fillL, cellsL, Ai.get, Ai.put, stab, isNil?, if_false, if_true, addr?, int?, str?, agg?, bool?, shiftA, FnPost, xresL, xres1, tup, argEnv, ptr, Nat.reduceEqDiff, reduceIte, beq_self_eq_true, ne_eq, Nat.reduceAdd, Nat.reduceMul, Nat.reduceSub, abin_shl, abin_shr, load1V, loadV, storeV, cellsAt, getN, setN, allocV, lenL, lenS, bnd, oneC, Value.oneCell', Nat.reduceLeDiff, Nat.reduceLT, exists_eq_left', forall_const, reduceCtorEq, app_new, app_new0, List.append_assoc, Int.reduceToNat, Int.reduceLT, Int.reduceLE, Int.reduceEq, Int.reduceNe, Int.reduceBEq, IntKind.bits, bne_self_eq_false, Int.reducePow, actC, hkd.1, hkd.2.1, hkd.2.2, ekd, hb]
      exact ⟨⟨_, rfl⟩, StepP.same E hc _⟩
    · refine xcall (with_in (E.app _) hk.1 hk.2 (hear1_ok (E.app _) hk.1 hk.2 hc hn (b0 := h.length) (bm := h.length + 1) (kd := kd) (good := good) (by rw [app_new0]; rfl) (by rw [app_new]; rfl) n0.2.1 n1.2.1 hb)) (by rfl) (by rfl) (by rfl) (by rfl) ?_
      rintro r h' ⟨rfl, s⟩
      simp only [sx, x_box, x_alloc, x_bslice, x_slice, x_append, x_b2s, xop, ev, evs, evParts, fillL, cellsL, Ai.get, Ai.put, stab, isNil?, if_false, if_true, addr?, int?, str?, agg?, bool?, shiftA, FnPost, xresL, xres1, tup, argEnv, ptr, Nat.reduceEqDiff, reduceIte, beq_self_eq_true, ne_eq, Nat.reduceAdd, Nat.reduceMul, Nat.reduceSub, abin_shl, abin_shr, load1V, loadV, storeV, cellsAt, getN, setN, allocV, lenL, lenS, bnd, oneC, Value.oneCell', Nat.reduceLeDiff, Nat.reduceLT, exists_eq_left', forall_const, reduceCtorEq, app_new, app_new0, List.append_assoc, Int.reduceToNat, Int.reduceLT, Int.reduceLE, Int.reduceEq, Int.reduceNe, Int.reduceBEq, IntKind.bits, bne_self_eq_false, Int.reducePow, actC, hkd.1, hkd.2.1, hkd.2.2, ekd, hb]
      exact ⟨⟨_, rfl⟩, s.app⟩
  · rw [actOn_out hk]
    refine xcall (with_out (E.app _) hk) (by rfl) (by rfl) (by rfl) (by rfl) ?_
    rintro r h' ⟨rfl, rfl⟩
    simp only [sx, x_box, x_alloc, x_bslice, x_slice, x_append, x_b2s, xop, ev, evs, evParts, fillL, cellsL, Ai.get, Ai.put, stab, isNil?, if_false, if_true, addr?, int?, str?, agg?, bool?, shiftA, FnPost, xresL, xres1, tup, argEnv, ptr, Nat.reduceEqDiff, reduceIte, beq_self_eq_true, ne_eq, Nat.reduceAdd, Nat.reduceMul, Nat.reduceSub, abin_shl, abin_shr, load1V, loadV, storeV, cellsAt, getN, setN, allocV, lenL, lenS, bnd, oneC, Value.oneCell', Nat.reduceLeDiff, Nat.reduceLT, exists_eq_left', forall_const, reduceCtorEq, app_new, app_new0, List.append_assoc, Int.reduceToNat, Int.reduceLT, Int.reduceLE, Int.reduceEq, Int.reduceNe, Int.reduceBEq, IntKind.bits, bne_self_eq_false, Int.reducePow]
    exact ⟨⟨_, rfl⟩, StepP.none E _⟩

set_option maxHeartbeats 2000000 in
theorem act_ok {kind code : Int} {good : Bool} (E : EndAt h X L w p m cs sl ms) (hn : ms.length < 60000) (k0 : 0 ≤ kind) (c0 : -128 ≤ code) (c1 : code ≤ 127) :
    Valid Try.prog 9 [ptr X 0, .agg #[.int .u8 kind, .int .i8 code, .bool good]] h fun r h' => (∃ e, r = .int .i64 e) ∧ StepP h X L w p m cs sl ms h' (actS w p m cs (kind.tmod 7) code good).1 (actS w p m cs (kind.tmod 7) code good).2 := by
  refine v9 (by simp) ?_
  have hw : IntKind.i64.wrap code = code := by rw [IntKind.wrap_i64]; omega
  have hm0 : 0 ≤ kind.tmod 7 := Int.tmod_nonneg _ k0
  have hm1 : kind.tmod 7 < 7 := Int.tmod_lt_of_pos _ (by omega)
  have hne : ¬ (7 : Int) = 0 := by decide
  have hcase : kind.tmod 7 = 0 ∨ kind.tmod 7 = 1 ∨ kind.tmod 7 = 2 ∨ kind.tmod 7 = 3 ∨ kind.tmod 7 = 4 ∨ kind.tmod 7 = 5 ∨ kind.tmod 7 = 6 := by omega
  have u1 : IntKind.u8.wrap (3 - 2) = 1 := rfl
  have u2 : IntKind.u8.wrap (4 - 2) = 2 := rfl
  have u3 : IntKind.u8.wrap (5 - 2) = 3 := rfl
  have hn2 : ms.length < 65536 := by omega
  have E1 := E.app [some ⟨true, [.int .u8 kind, .int .i8 code, .bool good]⟩]
  rcases hcase with e | e | e | e | e | e | e
  · simp only [X9, sx, x_box, x_alloc, x_bslice, x_slice, x_append, x_b2s, xop, ev, evs, evParts, fillL, cellsL, Ai.get, Ai.put, stab, isNil?, if_false, if_true, addr?, int?, str?, agg?, bool?, shiftA, FnPost, xresL, xres1, tup, argEnv, ptr, Nat.reduceEqDiff, reduceIte, beq_self_eq_true, ne_eq, Nat.reduceAdd, Nat.reduceMul, Nat.reduceSub, abin_shl, abin_shr, load1V, loadV, storeV, cellsAt, getN, setN, allocV, lenL, lenS, bnd, oneC, Value.oneCell', Nat.reduceLeDiff, Nat.reduceLT, exists_eq_left', forall_const, reduceCtorEq, app_new, app_new0, List.append_assoc, Int.reduceToNat, Int.reduceLT, Int.reduceLE, Int.reduceEq, Int.reduceNe, Int.reduceBEq, IntKind.bits, bne_self_eq_false, Int.reducePow, hw, hne, e]
    refine xcall (start_step E1 hn2) (by rfl) (by rfl) (by rfl) (by rfl) ?_
    rintro r h' ⟨⟨e, rfl⟩, s⟩
    simp only [sx, x_box, x_alloc, x_bslice, x_slice, x_append, x_b2s, xop, ev, evs, evParts, fillL, cellsL, Ai.get, Ai.put, stab, isNil?, if_false, if_true, addr?, int?, str?, agg?, bool?, shiftA, FnPost, xresL, xres1, tup, argEnv, ptr, Nat.reduceEqDiff, reduceIte, beq_self_eq_true, ne_eq, Nat.reduceAdd, Nat.reduceMul, Nat.reduceSub, abin_shl, abin_shr, load1V, loadV, storeV, cellsAt, getN, setN, allocV, lenL, lenS, bnd, oneC, Value.oneCell', Nat.reduceLeDiff, Nat.reduceLT, exists_eq_left', forall_const, reduceCtorEq, app_new, app_new0, List.append_assoc, Int.reduceToNat, Int.reduceLT, Int.reduceLE, Int.reduceEq, Int.reduceNe, Int.reduceBEq, IntKind.bits, bne_self_eq_false, Int.reducePow]
    exact ⟨⟨_, rfl⟩, by simpa [actS, actOn, actC] using s.app⟩
  · simp only [X9, sx, x_box, x_alloc, x_bslice, x_slice, x_append, x_b2s, xop, ev, evs, evParts, fillL, cellsL, Ai.get, Ai.put, stab, isNil?, if_false, if_true, addr?, int?, str?, agg?, bool?, shiftA, FnPost, xresL, xres1, tup, argEnv, ptr, Nat.reduceEqDiff, reduceIte, beq_self_eq_true, ne_eq, Nat.reduceAdd, Nat.reduceMul, Nat.reduceSub, abin_shl, abin_shr, load1V, loadV, storeV, cellsAt, getN, setN, allocV, lenL, lenS, bnd, oneC, Value.oneCell', Nat.reduceLeDiff, Nat.reduceLT, exists_eq_left', forall_const, reduceCtorEq, app_new, app_new0, List.append_assoc, Int.reduceToNat, Int.reduceLT, Int.reduceLE, Int.reduceEq, Int.reduceNe, Int.reduceBEq, IntKind.bits, bne_self_eq_false, Int.reducePow, hw, hne, e]
    refine xcall (tone_step E1 hn2) (by rfl) (by rfl) (by rfl) (by rfl) ?_
    rintro r h' ⟨⟨e, rfl⟩, s⟩
    simp only [sx, x_box, x_alloc, x_bslice, x_slice, x_append, x_b2s, xop, ev, evs, evParts, fillL, cellsL, Ai.get, Ai.put, stab, isNil?, if_false, if_true, addr?, int?, str?, agg?, bool?, shiftA, FnPost, xresL, xres1, tup, argEnv, ptr, Nat.reduceEqDiff, reduceIte, beq_self_eq_true, ne_eq, Nat.reduceAdd, Nat.reduceMul, Nat.reduceSub, abin_shl, abin_shr, load1V, loadV, storeV, cellsAt, getN, setN, allocV, lenL, lenS, bnd, oneC, Value.oneCell', Nat.reduceLeDiff, Nat.reduceLT, exists_eq_left', forall_const, reduceCtorEq, app_new, app_new0, List.append_assoc, Int.reduceToNat, Int.reduceLT, Int.reduceLE, Int.reduceEq, Int.reduceNe, Int.reduceBEq, IntKind.bits, bne_self_eq_false, Int.reducePow]
    exact ⟨⟨_, rfl⟩, by simpa [actS, actOn, actC] using s.app⟩
  · simp only [X9, sx, x_box, x_alloc, x_bslice, x_slice, x_append, x_b2s, xop, ev, evs, evParts, fillL, cellsL, Ai.get, Ai.put, stab, isNil?, if_false, if_true, addr?, int?, str?, agg?, bool?, shiftA, FnPost, xresL, xres1, tup, argEnv, ptr, Nat.reduceEqDiff, reduceIte, beq_self_eq_true, ne_eq, Nat.reduceAdd, Nat.reduceMul, Nat.reduceSub, abin_shl, abin_shr, load1V, loadV, storeV, cellsAt, getN, setN, allocV, lenL, lenS, bnd, oneC, Value.oneCell', Nat.reduceLeDiff, Nat.reduceLT, exists_eq_left', forall_const, reduceCtorEq, app_new, app_new0, List.append_assoc, Int.reduceToNat, Int.reduceLT, Int.reduceLE, Int.reduceEq, Int.reduceNe, Int.reduceBEq, IntKind.bits, bne_self_eq_false, Int.reducePow, hw, hne, e]
    refine xcall (stop_step E1 hn2) (by rfl) (by rfl) (by rfl) (by rfl) ?_
    rintro r h' ⟨⟨e, rfl⟩, s⟩
    simp only [sx, x_box, x_alloc, x_bslice, x_slice, x_append, x_b2s, xop, ev, evs, evParts, fillL, cellsL, Ai.get, Ai.put, stab, isNil?, if_false, if_true, addr?, int?, str?, agg?, bool?, shiftA, FnPost, xresL, xres1, tup, argEnv, ptr, Nat.reduceEqDiff, reduceIte, beq_self_eq_true, ne_eq, Nat.reduceAdd, Nat.reduceMul, Nat.reduceSub, abin_shl, abin_shr, load1V, loadV, storeV, cellsAt, getN, setN, allocV, lenL, lenS, bnd, oneC, Value.oneCell', Nat.reduceLeDiff, Nat.reduceLT, exists_eq_left', forall_const, reduceCtorEq, app_new, app_new0, List.append_assoc, Int.reduceToNat, Int.reduceLT, Int.reduceLE, Int.reduceEq, Int.reduceNe, Int.reduceBEq, IntKind.bits, bne_self_eq_false, Int.reducePow]
    exact ⟨⟨_, rfl⟩, by simpa [actS, actOn, actC] using s.app⟩
  · simp only [X9, sx, x_box, x_alloc, x_bslice, x_slice, x_append, x_b2s, xop, ev, evs, evParts, fillL, cellsL, Ai.get, Ai.put, stab, isNil?, if_false, if_true, addr?, int?, str?, agg?, bool?, shiftA, FnPost, xresL, xres1, tup, argEnv, ptr, Nat.reduceEqDiff, reduceIte, beq_self_eq_true, ne_eq, Nat.reduceAdd, Nat.reduceMul, Nat.reduceSub, abin_shl, abin_shr, load1V, loadV, storeV, cellsAt, getN, setN, allocV, lenL, lenS, bnd, oneC, Value.oneCell', Nat.reduceLeDiff, Nat.reduceLT, exists_eq_left', forall_const, reduceCtorEq, app_new, app_new0, List.append_assoc, Int.reduceToNat, Int.reduceLT, Int.reduceLE, Int.reduceEq, Int.reduceNe, Int.reduceBEq, IntKind.bits, bne_self_eq_false, Int.reducePow, hw, hne, e, u1]
    refine xcall (hear_step (kd := 1) (good := good) E1 hn2 (by omega)) (by rfl) (by rfl) (by rfl) (by rfl) ?_
    rintro r h' ⟨⟨e, rfl⟩, s⟩
    simp only [sx, x_box, x_alloc, x_bslice, x_slice, x_append, x_b2s, xop, ev, evs, evParts, fillL, cellsL, Ai.get, Ai.put, stab, isNil?, if_false, if_true, addr?, int?, str?, agg?, bool?, shiftA, FnPost, xresL, xres1, tup, argEnv, ptr, Nat.reduceEqDiff, reduceIte, beq_self_eq_true, ne_eq, Nat.reduceAdd, Nat.reduceMul, Nat.reduceSub, abin_shl, abin_shr, load1V, loadV, storeV, cellsAt, getN, setN, allocV, lenL, lenS, bnd, oneC, Value.oneCell', Nat.reduceLeDiff, Nat.reduceLT, exists_eq_left', forall_const, reduceCtorEq, app_new, app_new0, List.append_assoc, Int.reduceToNat, Int.reduceLT, Int.reduceLE, Int.reduceEq, Int.reduceNe, Int.reduceBEq, IntKind.bits, bne_self_eq_false, Int.reducePow]
    exact ⟨⟨_, rfl⟩, by simpa [actS] using s.app⟩
  · simp only [X9, sx, x_box, x_alloc, x_bslice, x_slice, x_append, x_b2s, xop, ev, evs, evParts, fillL, cellsL, Ai.get, Ai.put, stab, isNil?, if_false, if_true, addr?, int?, str?, agg?, bool?, shiftA, FnPost, xresL, xres1, tup, argEnv, ptr, Nat.reduceEqDiff, reduceIte, beq_self_eq_true, ne_eq, Nat.reduceAdd, Nat.reduceMul, Nat.reduceSub, abin_shl, abin_shr, load1V, loadV, storeV, cellsAt, getN, setN, allocV, lenL, lenS, bnd, oneC, Value.oneCell', Nat.reduceLeDiff, Nat.reduceLT, exists_eq_left', forall_const, reduceCtorEq, app_new, app_new0, List.append_assoc, Int.reduceToNat, Int.reduceLT, Int.reduceLE, Int.reduceEq, Int.reduceNe, Int.reduceBEq, IntKind.bits, bne_self_eq_false, Int.reducePow, hw, hne, e, u2]
    refine xcall (hear_step (kd := 2) (good := good) E1 hn2 (by omega)) (by rfl) (by rfl) (by rfl) (by rfl) ?_
    rintro r h' ⟨⟨e, rfl⟩, s⟩
    simp only [sx, x_box, x_alloc, x_bslice, x_slice, x_append, x_b2s, xop, ev, evs, evParts, fillL, cellsL, Ai.get, Ai.put, stab, isNil?, if_false, if_true, addr?, int?, str?, agg?, bool?, shiftA, FnPost, xresL, xres1, tup, argEnv, ptr, Nat.reduceEqDiff, reduceIte, beq_self_eq_true, ne_eq, Nat.reduceAdd, Nat.reduceMul, Nat.reduceSub, abin_shl, abin_shr, load1V, loadV, storeV, cellsAt, getN, setN, allocV, lenL, lenS, bnd, oneC, Value.oneCell', Nat.reduceLeDiff, Nat.reduceLT, exists_eq_left', forall_const, reduceCtorEq, app_new, app_new0, List.append_assoc, Int.reduceToNat, Int.reduceLT, Int.reduceLE, Int.reduceEq, Int.reduceNe, Int.reduceBEq, IntKind.bits, bne_self_eq_false, Int.reducePow]
    exact ⟨⟨_, rfl⟩, by simpa [actS] using s.app⟩
  · simp only [X9, sx, x_box, x_alloc, x_bslice, x_slice, x_append, x_b2s, xop, ev, evs, evParts, fillL, cellsL, Ai.get, Ai.put, stab, isNil?, if_false, if_true, addr?, int?, str?, agg?, bool?, shiftA, FnPost, xresL, xres1, tup, argEnv, ptr, Nat.reduceEqDiff, reduceIte, beq_self_eq_true, ne_eq, Nat.reduceAdd, Nat.reduceMul, Nat.reduceSub, abin_shl, abin_shr, load1V, loadV, storeV, cellsAt, getN, setN, allocV, lenL, lenS, bnd, oneC, Value.oneCell', Nat.reduceLeDiff, Nat.reduceLT, exists_eq_left', forall_const, reduceCtorEq, app_new, app_new0, List.append_assoc, Int.reduceToNat, Int.reduceLT, Int.reduceLE, Int.reduceEq, Int.reduceNe, Int.reduceBEq, IntKind.bits, bne_self_eq_false, Int.reducePow, hw, hne, e, u3]
    refine xcall (hear_step (kd := 3) (good := good) E1 hn2 (by omega)) (by rfl) (by rfl) (by rfl) (by rfl) ?_
    rintro r h' ⟨⟨e, rfl⟩, s⟩
    simp only [sx, x_box, x_alloc, x_bslice, x_slice, x_append, x_b2s, xop, ev, evs, evParts, fillL, cellsL, Ai.get, Ai.put, stab, isNil?, if_false, if_true, addr?, int?, str?, agg?, bool?, shiftA, FnPost, xresL, xres1, tup, argEnv, ptr, Nat.reduceEqDiff, reduceIte, beq_self_eq_true, ne_eq, Nat.reduceAdd, Nat.reduceMul, Nat.reduceSub, abin_shl, abin_shr, load1V, loadV, storeV, cellsAt, getN, setN, allocV, lenL, lenS, bnd, oneC, Value.oneCell', Nat.reduceLeDiff, Nat.reduceLT, exists_eq_left', forall_const, reduceCtorEq, app_new, app_new0, List.append_assoc, Int.reduceToNat, Int.reduceLT, Int.reduceLE, Int.reduceEq, Int.reduceNe, Int.reduceBEq, IntKind.bits, bne_self_eq_false, Int.reducePow]
    exact ⟨⟨_, rfl⟩, by simpa [actS] using s.app⟩
  · simp only [X9, sx, x_box, x_alloc, x_bslice, x_slice, x_append, x_b2s, xop, ev, evs, evParts, fillL, cellsL, Ai.get, Ai.put, stab, isNil?, if_false, if_true, addr?, int?, str?, agg?, bool?, shiftA, FnPost, xresL, xres1, tup, argEnv, ptr, Nat.reduceEqDiff, reduceIte, beq_self_eq_true, ne_eq, Nat.reduceAdd, Nat.reduceMul, Nat.reduceSub, abin_shl, abin_shr, load1V, loadV, storeV, cellsAt, getN, setN, allocV, lenL, lenS, bnd, oneC, Value.oneCell', Nat.reduceLeDiff, Nat.reduceLT, exists_eq_left', forall_const, reduceCtorEq, app_new, app_new0, List.append_assoc, Int.reduceToNat, Int.reduceLT, Int.reduceLE, Int.reduceEq, Int.reduceNe, Int.reduceBEq, IntKind.bits, bne_self_eq_false, Int.reducePow, hw, hne, e]
    refine xcall (tick_ok E1 hn) (by rfl) (by rfl) (by rfl) (by rfl) ?_
    rintro r h' s
    simp only [sx, x_box, x_alloc, x_bslice, x_slice, x_append, x_b2s, xop, ev, evs, evParts, fillL, cellsL, Ai.get, Ai.put, stab, isNil?, if_false, if_true, addr?, int?, str?, agg?, bool?, shiftA, FnPost, xresL, xres1, tup, argEnv, ptr, Nat.reduceEqDiff, reduceIte, beq_self_eq_true, ne_eq, Nat.reduceAdd, Nat.reduceMul, Nat.reduceSub, abin_shl, abin_shr, load1V, loadV, storeV, cellsAt, getN, setN, allocV, lenL, lenS, bnd, oneC, Value.oneCell', Nat.reduceLeDiff, Nat.reduceLT, exists_eq_left', forall_const, reduceCtorEq, app_new, app_new0, List.append_assoc, Int.reduceToNat, Int.reduceLT, Int.reduceLE, Int.reduceEq, Int.reduceNe, Int.reduceBEq, IntKind.bits, bne_self_eq_false, Int.reducePow]
    exact ⟨⟨_, rfl⟩, by simpa [actS] using s.app⟩
end
end Go.Proofs.Ytjpjnidgcmkdbaa
