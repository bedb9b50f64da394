import Derived.Test.YtpbbmnfffolcoaaB8
set_option linter.unusedVariables false
set_option linter.unusedSimpArgs false
namespace Go.Proofs.Ytpbbmnfffolcoaa
open Go Go.Ai Go.Proofs

instance (op cl wt : Int) : Decidable (bad op cl wt) := by unfold bad; infer_instance
def errE (op cl wt : Int) : Int := if bad op cl wt then 1 else if 1048576 < wt then 3 else 0
/-- what is known of the book in the loop -/
structure ErB (h1 h : AHeap) (B : Nat) (b : Bk) (i : Nat) : Prop where
  w : WentB h1 h B b (.slice none 0 0)
  n : b.cnt ≤ i
  e : b.es = []
  pb : ∀ x ∈ b.is, x.pb.length ≤ 65536
def ErI (h1 : AHeap) (B R : Nat) (op wt : Int) (m : Nat) (ρ : Env) (h : AHeap) : Prop := ∃ (i : Nat) (b : Bk), i + m = 7 ∧ get ρ 8 = some (.int .i64 (i : Int)) ∧ get ρ 0 = some (.int .i64 op) ∧ get ρ 1 = some (.int .i64 wt) ∧ get ρ 7 = some (.pointer (some ⟨B, 0, none⟩)) ∧ get ρ 5 = some (.pointer (some ⟨R, 0, none⟩)) ∧ ErB h1 h B b i
def ErE (h1 : AHeap) (B R : Nat) (ρ : Env) (h : AHeap) : Prop := ∃ (b : Bk), get ρ 7 = some (.pointer (some ⟨B, 0, none⟩)) ∧ get ρ 5 = some (.pointer (some ⟨R, 0, none⟩)) ∧ ErB h1 h B b 7
def ErC (h0 : AHeap) (B R : Nat) (op wt : Int) (i : Nat) (ρ : Env) (h : AHeap) : Prop := get ρ 8 = some (.int .i64 (i : Int)) ∧ get ρ 0 = some (.int .i64 op) ∧ get ρ 1 = some (.int .i64 wt) ∧ get ρ 7 = some (.pointer (some ⟨B, 0, none⟩)) ∧ get ρ 5 = some (.pointer (some ⟨R, 0, none⟩)) ∧ get ρ 9 = some (.int .i64 (errE op i wt)) ∧ h = h0
theorem cnt_ask {b : Bk} {op cl wt : Int} : (b.ask op cl wt).1.cnt ≤ b.cnt + 1 := by
  unfold Bk.ask
  split
  · rename_i i hi
    unfold Bk.cnt
    by_cases hl : i < b.is.length
    · rw [List.countP_set hl]
      have : (if opn ⟨op, cl, wt, []⟩ = true then 1 else 0) ≤ 1 := by split <;> omega
      omega
    · rw [List.set_eq_of_length_le (by omega)]; simp
  · exact Nat.le_succ _
theorem ask_some {h : AHeap} {B : Nat} {b : Bk} {rs : List (Iv × Value)} {dv : Value} {op cl wt : Int} (A : BkAt h B b rs dv) (hn : b.cnt < 128) : ∃ i, (b.ask op cl wt).2 = some i := by
  unfold Bk.ask
  split
  · exact ⟨_, rfl⟩
  · rename_i hi
    exfalso
    have := askF_none 128 hi
    have e : b.is.countP opn = b.is.length := by
      rw [List.countP_eq_length]
      intro a ha
      obtain ⟨k, hk, rfl⟩ := List.getElem_of_mem ha
      have hk' : k < 128 := by rw [← A.len]; exact hk
      have hx := A.nx
      rcases this ((k + 128 - b.nx) % 128) (Nat.mod_lt _ (by decide)) with h | h
      · rw [show (b.nx + (k + 128 - b.nx) % 128) % 128 = k by omega, List.getElem?_eq_getElem hk] at h
        exact h
      · omega
    unfold Bk.cnt at hn
    rw [e, A.len] at hn
    omega
theorem ask_pb {b : Bk} {op cl wt : Int} (h : ∀ x ∈ b.is, x.pb.length ≤ 65536) : ∀ x ∈ (b.ask op cl wt).1.is, x.pb.length ≤ 65536 := by
  unfold Bk.ask
  split
  · intro x hx
    rcases List.mem_or_eq_of_mem_set hx with h1 | rfl
    · exact h x h1
    · simp
  · exact h
theorem ask_es {b : Bk} {op cl wt : Int} : (b.ask op cl wt).1.es = b.es := by
  unfold Bk.ask; split <;> rfl
theorem WentB.go {h g h' : AHeap} {B : Nat} {b2 : Bk} {dv dv0 : Value} (W : WentB g h' B b2 dv) (F : Fr (ftB B dv0) h g) (n : ∀ X, ftB B dv X → ftB B dv0 X ∨ h.length ≤ X) : WentB h h' B b2 dv0 := by
  obtain ⟨rs2, dv2, A2, F2, n2⟩ := W
  refine ⟨rs2, dv2, A2, F.trans F2 n, fun X hX => ?_⟩
  have := F.1
  rcases n2 X hX with h | h
  · exact n X h
  · exact .inr (by omega)
theorem frz_of {h g : AHeap} {B : Nat} {cs : List Value} (hB : h[B]? = some (some ⟨true, cs⟩)) (F : Fr (ftB B (.slice none 0 0)) h g) : Frz h g := fun X c hX => by
  rw [F.2 X (lt_of_get hX) (fun h1 => by
    rcases h1 with rfl | h1
    · rw [hB] at hX; cases hX
    · cases h1)]
  exact hX
def ErT (h0 : AHeap) (B R : Nat) (m : Cm) (ρ : Env) (h : AHeap) : Prop := ∃ e : Int, get ρ 13 = some (.int .i64 e) ∧ ((2000 < m.val.length ∧ e = 3) ∨ (m.val.length ≤ 2000 ∧ okC m ∧ m.k ≠ 1 ∧ e = 0) ∨ (m.val.length ≤ 2000 ∧ (¬ okC m ∨ m.k = 1) ∧ e = 1)) ∧ get ρ 7 = some (.pointer (some ⟨B, 0, none⟩)) ∧ get ρ 5 = some (.pointer (some ⟨R, 0, none⟩)) ∧ h = h0
def ErU (h0 : AHeap) (B R : Nat) (m : Cm) (ρ : Env) (h : AHeap) : Prop := ∃ (e : Int) (t : Bool), get ρ 13 = some (.int .i64 e) ∧ get ρ 92 = some (.bool t) ∧ ((2000 < m.val.length ∧ e = 3) ∨ (m.val.length ≤ 2000 ∧ okC m ∧ e = 0) ∨ (m.val.length ≤ 2000 ∧ ¬ okC m ∧ e = 1)) ∧ (t = true ↔ e = 0 ∧ m.k = 1) ∧ get ρ 7 = some (.pointer (some ⟨B, 0, none⟩)) ∧ get ρ 5 = some (.pointer (some ⟨R, 0, none⟩)) ∧ h = h0
def ErF (h0 : AHeap) (R : Nat) (ρ : Env) (h : AHeap) : Prop := get ρ 122 = some (.bool false) ∧ get ρ 5 = some (.pointer (some ⟨R, 0, none⟩)) ∧ h = h0
def ErV (h0 : AHeap) (ρ : Env) (h : AHeap) : Prop := get ρ 122 = some (.bool false) ∧ h = h0
def ErG (h0 : AHeap) (B R : Nat) (op wt : Int) (i : Nat) (ρ : Env) (h : AHeap) : Prop := ∃ t : Bool, get ρ 34 = some (.bool t) ∧ (t = true ↔ bad op i wt) ∧ get ρ 8 = some (.int .i64 (i : Int)) ∧ get ρ 0 = some (.int .i64 op) ∧ get ρ 1 = some (.int .i64 wt) ∧ get ρ 7 = some (.pointer (some ⟨B, 0, none⟩)) ∧ get ρ 5 = some (.pointer (some ⟨R, 0, none⟩)) ∧ get ρ 9 = some (.int .i64 0) ∧ h = h0
set_option maxHeartbeats 16000000 in
set_option maxRecDepth 20000 in
theorem errors_ok {h : AHeap} {op wt : Int} {v : Value} {m : Cm} (hm : CMV h v m) :
    Valid Try.prog 5 [.int .i64 op, .int .i64 wt, v] h fun r h' => r = .bool true := by
  refine v5 (by simp) ?_
  obtain ⟨vv, rfl, V⟩ := hm
  obtain ⟨q, c, rfl⟩ := V.shape
  simp only [X5, Cm.cells, sx, x_bslice, x_slice, x_append, x_appz, x_b2s, x_s2b, x_mark, xop, ev, evs, evParts, fillL, cellsL, Ai.get, Ai.put, stab, isNil?, if_false, if_true, addr?, int?, str?, agg?, bool?, shiftA, FnPost, xresL, xres1, tup, argEnv, ptr, Nat.reduceEqDiff, reduceIte, beq_self_eq_true, ne_eq, Nat.reduceAdd, Nat.reduceMul, Nat.reduceSub, abin_shl, abin_shr, load1V, loadV, storeV, cellsAt, getN, setN, allocV, lenL, lenS, bnd, oneC, Value.oneCell', Nat.reduceLeDiff, Nat.reduceLT, exists_eq_left', forall_const, reduceCtorEq, app_new, app_new0, List.append_assoc, Int.reduceToNat, Int.reduceLT, Int.reduceLE, Int.reduceEq, Int.reduceNe, Int.reduceBEq, IntKind.bits, bne_self_eq_false, Int.reducePow]
  refine box_run rfl fun g1 R5 K1 hR5 hRl5 hg1 => ⟨trivial, ?_⟩
  simp only [cellsL] at hR5
  by_cases hbig : 2100 < m.val.length
  · have hbig' : (2100 : Int) < (m.val.length : Nat) := by omega
    simp only [sx, x_box, x_alloc, x_bslice, x_slice, x_append, x_appz, x_b2s, x_s2b, x_mark, xop, ev, evs, evParts, fillL, cellsL, Ai.get, Ai.put, stab, isNil?, if_false, if_true, addr?, int?, str?, agg?, bool?, shiftA, FnPost, xresL, xres1, tup, argEnv, ptr, Nat.reduceEqDiff, reduceIte, beq_self_eq_true, ne_eq, Nat.reduceAdd, Nat.reduceMul, Nat.reduceSub, abin_shl, abin_shr, load1V, loadV, storeV, cellsAt, getN, setN, allocV, lenL, lenS, bnd, oneC, Value.oneCell', Nat.reduceLeDiff, Nat.reduceLT, exists_eq_left', forall_const, reduceCtorEq, app_new, app_new0, List.append_assoc, Int.reduceToNat, Int.reduceLT, Int.reduceLE, Int.reduceEq, Int.reduceNe, Int.reduceBEq, IntKind.bits, bne_self_eq_false, Int.reducePow, hR5, hbig']
    refine xcall (lives_ok _) (by rfl) (by rfl) (by rfl) (by rfl) ?_
    rintro r h' ⟨rfl, -⟩
    simp only [sx, x_box, x_alloc, x_bslice, x_slice, x_append, x_appz, x_b2s, x_s2b, x_mark, xop, ev, evs, evParts, fillL, cellsL, Ai.get, Ai.put, stab, isNil?, if_false, if_true, addr?, int?, str?, agg?, bool?, shiftA, FnPost, xresL, xres1, tup, argEnv, ptr, Nat.reduceEqDiff, reduceIte, beq_self_eq_true, ne_eq, Nat.reduceAdd, Nat.reduceMul, Nat.reduceSub, abin_shl, abin_shr, load1V, loadV, storeV, cellsAt, getN, setN, allocV, lenL, lenS, bnd, oneC, Value.oneCell', Nat.reduceLeDiff, Nat.reduceLT, exists_eq_left', forall_const, reduceCtorEq, app_new, app_new0, List.append_assoc, Int.reduceToNat, Int.reduceLT, Int.reduceLE, Int.reduceEq, Int.reduceNe, Int.reduceBEq, IntKind.bits, bne_self_eq_false, Int.reducePow]
  have hbig' : ¬ (2100 : Int) < (m.val.length : Nat) := by omega
  simp only [sx, x_box, x_bslice, x_slice, x_append, x_appz, x_b2s, x_s2b, x_mark, xop, ev, evs, evParts, fillL, cellsL, Ai.get, Ai.put, stab, isNil?, if_false, if_true, addr?, int?, str?, agg?, bool?, shiftA, FnPost, xresL, xres1, tup, argEnv, ptr, Nat.reduceEqDiff, reduceIte, beq_self_eq_true, ne_eq, Nat.reduceAdd, Nat.reduceMul, Nat.reduceSub, abin_shl, abin_shr, load1V, loadV, storeV, cellsAt, getN, setN, allocV, lenL, lenS, bnd, oneC, Value.oneCell', Nat.reduceLeDiff, Nat.reduceLT, exists_eq_left', forall_const, reduceCtorEq, app_new, app_new0, List.append_assoc, Int.reduceToNat, Int.reduceLT, Int.reduceLE, Int.reduceEq, Int.reduceNe, Int.reduceBEq, IntKind.bits, bne_self_eq_false, Int.reducePow, hR5, hbig']
  refine xcall new_ok (by rfl) (by rfl) (by rfl) (by rfl) ?_
  rintro r g2 ⟨B, rfl, A, K2, hBl⟩
  simp only [sx, x_box, x_bslice, x_slice, x_append, x_appz, x_b2s, x_s2b, x_mark, xop, ev, evs, evParts, fillL, cellsL, Ai.get, Ai.put, stab, isNil?, if_false, if_true, addr?, int?, str?, agg?, bool?, shiftA, FnPost, xresL, xres1, tup, argEnv, ptr, Nat.reduceEqDiff, reduceIte, beq_self_eq_true, ne_eq, Nat.reduceAdd, Nat.reduceMul, Nat.reduceSub, abin_shl, abin_shr, load1V, loadV, storeV, cellsAt, getN, setN, allocV, lenL, lenS, bnd, oneC, Value.oneCell', Nat.reduceLeDiff, Nat.reduceLT, exists_eq_left', forall_const, reduceCtorEq, app_new, app_new0, List.append_assoc, Int.reduceToNat, Int.reduceLT, Int.reduceLE, Int.reduceEq, Int.reduceNe, Int.reduceBEq, IntKind.bits, bne_self_eq_false, Int.reducePow]
  have hR52 := K2.get hR5
  have hR5B : R5 < B := Nat.lt_of_lt_of_le (lt_of_get hR5) hBl
  refine xloop_cut (ErE g2 B R5) ?_ ?_
  · refine xcode_loop (ErI g2 B R5 op wt) 7 ⟨0, Bk.nil, by omega, rfl, rfl, rfl, rfl, rfl, A.same (Kp.refl _), by decide, rfl, ?_⟩ ?_
    · intro x hx
      have : x = iv0 := List.eq_of_mem_replicate hx
      rw [this]; decide
    rintro n ρ g ⟨i, b, hin, g8, g0, g1, g7, g5, E⟩
    by_cases hi : i < 7
    · have hi' : (i : Int) < 7 := by omega
      have wi : IntKind.i64.wrap ((i : Int) + 1) = ((i + 1 : Nat) : Int) := by rw [i64_wrap] <;> omega
      have wu : IntKind.u8.wrap (i : Int) = (i : Int) := by rw [IntKind.wrap_u8]; omega
      simp only [sx, x_box, x_alloc, x_bslice, x_slice, x_append, x_appz, x_b2s, x_s2b, x_mark, xop, ev, evs, evParts, fillL, cellsL, Ai.get, Ai.put, stab, isNil?, if_false, if_true, addr?, int?, str?, agg?, bool?, shiftA, FnPost, xresL, xres1, tup, argEnv, ptr, Nat.reduceEqDiff, reduceIte, beq_self_eq_true, ne_eq, Nat.reduceAdd, Nat.reduceMul, Nat.reduceSub, abin_shl, abin_shr, load1V, loadV, storeV, cellsAt, getN, setN, allocV, lenL, lenS, bnd, oneC, Value.oneCell', Nat.reduceLeDiff, Nat.reduceLT, exists_eq_left', forall_const, reduceCtorEq, app_new, app_new0, List.append_assoc, Int.reduceToNat, Int.reduceLT, Int.reduceLE, Int.reduceEq, Int.reduceNe, Int.reduceBEq, IntKind.bits, bne_self_eq_false, Int.reducePow, g8, hi']
      refine xthen_cut (ErG g B R5 op wt i) ?_ ?_
      · have iff1 : ∀ {p : Prop}, p → (true = true ↔ p) := fun hp => ⟨fun _ => hp, fun _ => rfl⟩
        have iff0 : ∀ {p : Prop}, ¬ p → (false = true ↔ p) := fun hp => ⟨fun e => (by cases e), fun h => absurd h hp⟩
        by_cases c1 : op < 0
        · simp only [sx, x_box, x_alloc, x_bslice, x_slice, x_append, x_appz, x_b2s, x_s2b, x_mark, xop, ev, evs, evParts, fillL, cellsL, Ai.get, Ai.put, stab, isNil?, if_false, if_true, addr?, int?, str?, agg?, bool?, shiftA, FnPost, xresL, xres1, tup, argEnv, ptr, Nat.reduceEqDiff, reduceIte, beq_self_eq_true, ne_eq, Nat.reduceAdd, Nat.reduceMul, Nat.reduceSub, abin_shl, abin_shr, load1V, loadV, storeV, cellsAt, getN, setN, allocV, lenL, lenS, bnd, oneC, Value.oneCell', Nat.reduceLeDiff, Nat.reduceLT, exists_eq_left', forall_const, reduceCtorEq, app_new, app_new0, List.append_assoc, Int.reduceToNat, Int.reduceLT, Int.reduceLE, Int.reduceEq, Int.reduceNe, Int.reduceBEq, IntKind.bits, bne_self_eq_false, Int.reducePow, g8, g0, g1, c1]
          exact ⟨_, rfl, iff1 (.inl c1), g8, g0, g1, g7, g5, rfl, rfl⟩
        by_cases c2 : 255 < op
        · simp only [sx, x_box, x_alloc, x_bslice, x_slice, x_append, x_appz, x_b2s, x_s2b, x_mark, xop, ev, evs, evParts, fillL, cellsL, Ai.get, Ai.put, stab, isNil?, if_false, if_true, addr?, int?, str?, agg?, bool?, shiftA, FnPost, xresL, xres1, tup, argEnv, ptr, Nat.reduceEqDiff, reduceIte, beq_self_eq_true, ne_eq, Nat.reduceAdd, Nat.reduceMul, Nat.reduceSub, abin_shl, abin_shr, load1V, loadV, storeV, cellsAt, getN, setN, allocV, lenL, lenS, bnd, oneC, Value.oneCell', Nat.reduceLeDiff, Nat.reduceLT, exists_eq_left', forall_const, reduceCtorEq, app_new, app_new0, List.append_assoc, Int.reduceToNat, Int.reduceLT, Int.reduceLE, Int.reduceEq, Int.reduceNe, Int.reduceBEq, IntKind.bits, bne_self_eq_false, Int.reducePow, g8, g0, g1, c1, c2]
          exact ⟨_, rfl, iff1 (.inr (.inl c2)), g8, g0, g1, g7, g5, rfl, rfl⟩
        by_cases c3 : (i : Int) < 1
        · simp only [sx, x_box, x_alloc, x_bslice, x_slice, x_append, x_appz, x_b2s, x_s2b, x_mark, xop, ev, evs, evParts, fillL, cellsL, Ai.get, Ai.put, stab, isNil?, if_false, if_true, addr?, int?, str?, agg?, bool?, shiftA, FnPost, xresL, xres1, tup, argEnv, ptr, Nat.reduceEqDiff, reduceIte, beq_self_eq_true, ne_eq, Nat.reduceAdd, Nat.reduceMul, Nat.reduceSub, abin_shl, abin_shr, load1V, loadV, storeV, cellsAt, getN, setN, allocV, lenL, lenS, bnd, oneC, Value.oneCell', Nat.reduceLeDiff, Nat.reduceLT, exists_eq_left', forall_const, reduceCtorEq, app_new, app_new0, List.append_assoc, Int.reduceToNat, Int.reduceLT, Int.reduceLE, Int.reduceEq, Int.reduceNe, Int.reduceBEq, IntKind.bits, bne_self_eq_false, Int.reducePow, g8, g0, g1, c1, c2, c3]
          exact ⟨_, rfl, iff1 (.inr (.inr (.inl c3))), g8, g0, g1, g7, g5, rfl, rfl⟩
        by_cases c4 : 4 < (i : Int)
        · simp only [sx, x_box, x_alloc, x_bslice, x_slice, x_append, x_appz, x_b2s, x_s2b, x_mark, xop, ev, evs, evParts, fillL, cellsL, Ai.get, Ai.put, stab, isNil?, if_false, if_true, addr?, int?, str?, agg?, bool?, shiftA, FnPost, xresL, xres1, tup, argEnv, ptr, Nat.reduceEqDiff, reduceIte, beq_self_eq_true, ne_eq, Nat.reduceAdd, Nat.reduceMul, Nat.reduceSub, abin_shl, abin_shr, load1V, loadV, storeV, cellsAt, getN, setN, allocV, lenL, lenS, bnd, oneC, Value.oneCell', Nat.reduceLeDiff, Nat.reduceLT, exists_eq_left', forall_const, reduceCtorEq, app_new, app_new0, List.append_assoc, Int.reduceToNat, Int.reduceLT, Int.reduceLE, Int.reduceEq, Int.reduceNe, Int.reduceBEq, IntKind.bits, bne_self_eq_false, Int.reducePow, g8, g0, g1, c1, c2, c3, c4]
          exact ⟨_, rfl, iff1 (.inr (.inr (.inr (.inl c4)))), g8, g0, g1, g7, g5, rfl, rfl⟩
        by_cases c5 : wt < 1
        · simp only [sx, x_box, x_alloc, x_bslice, x_slice, x_append, x_appz, x_b2s, x_s2b, x_mark, xop, ev, evs, evParts, fillL, cellsL, Ai.get, Ai.put, stab, isNil?, if_false, if_true, addr?, int?, str?, agg?, bool?, shiftA, FnPost, xresL, xres1, tup, argEnv, ptr, Nat.reduceEqDiff, reduceIte, beq_self_eq_true, ne_eq, Nat.reduceAdd, Nat.reduceMul, Nat.reduceSub, abin_shl, abin_shr, load1V, loadV, storeV, cellsAt, getN, setN, allocV, lenL, lenS, bnd, oneC, Value.oneCell', Nat.reduceLeDiff, Nat.reduceLT, exists_eq_left', forall_const, reduceCtorEq, app_new, app_new0, List.append_assoc, Int.reduceToNat, Int.reduceLT, Int.reduceLE, Int.reduceEq, Int.reduceNe, Int.reduceBEq, IntKind.bits, bne_self_eq_false, Int.reducePow, g8, g0, g1, c1, c2, c3, c4, c5]
          exact ⟨_, rfl, iff1 (.inr (.inr (.inr (.inr c5)))), g8, g0, g1, g7, g5, rfl, rfl⟩
        · simp only [sx, x_box, x_alloc, x_bslice, x_slice, x_append, x_appz, x_b2s, x_s2b, x_mark, xop, ev, evs, evParts, fillL, cellsL, Ai.get, Ai.put, stab, isNil?, if_false, if_true, addr?, int?, str?, agg?, bool?, shiftA, FnPost, xresL, xres1, tup, argEnv, ptr, Nat.reduceEqDiff, reduceIte, beq_self_eq_true, ne_eq, Nat.reduceAdd, Nat.reduceMul, Nat.reduceSub, abin_shl, abin_shr, load1V, loadV, storeV, cellsAt, getN, setN, allocV, lenL, lenS, bnd, oneC, Value.oneCell', Nat.reduceLeDiff, Nat.reduceLT, exists_eq_left', forall_const, reduceCtorEq, app_new, app_new0, List.append_assoc, Int.reduceToNat, Int.reduceLT, Int.reduceLE, Int.reduceEq, Int.reduceNe, Int.reduceBEq, IntKind.bits, bne_self_eq_false, Int.reducePow, g8, g0, g1, c1, c2, c3, c4, c5]
          exact ⟨_, rfl, iff0 (by rintro (h | h | h | h | h) <;> contradiction), g8, g0, g1, g7, g5, rfl, rfl⟩
      rintro ρ1 g' ⟨t, t34, ht, t8, t0, t1, t7, t5, t9, e0⟩
      subst e0
      rw [kSeq_normal]
      refine xcode_cut (ErC g' B R5 op wt i) ?_ ?_
      · cases t
        · have nb : ¬ bad op i wt := fun h => by have := ht.2 h; cases this
          by_cases c6 : 1048576 < wt
          · simp only [sx, x_box, x_alloc, x_bslice, x_slice, x_append, x_appz, x_b2s, x_s2b, x_mark, xop, ev, evs, evParts, fillL, cellsL, Ai.get, Ai.put, stab, isNil?, if_false, if_true, addr?, int?, str?, agg?, bool?, shiftA, FnPost, xresL, xres1, tup, argEnv, ptr, Nat.reduceEqDiff, reduceIte, beq_self_eq_true, ne_eq, Nat.reduceAdd, Nat.reduceMul, Nat.reduceSub, abin_shl, abin_shr, load1V, loadV, storeV, cellsAt, getN, setN, allocV, lenL, lenS, bnd, oneC, Value.oneCell', Nat.reduceLeDiff, Nat.reduceLT, exists_eq_left', forall_const, reduceCtorEq, app_new, app_new0, List.append_assoc, Int.reduceToNat, Int.reduceLT, Int.reduceLE, Int.reduceEq, Int.reduceNe, Int.reduceBEq, IntKind.bits, bne_self_eq_false, Int.reducePow, t34, t1, c6]
            exact ⟨t8, t0, t1, t7, t5, (by unfold errE; rw [if_neg nb, if_pos c6]; rfl), rfl⟩
          · simp only [sx, x_box, x_alloc, x_bslice, x_slice, x_append, x_appz, x_b2s, x_s2b, x_mark, xop, ev, evs, evParts, fillL, cellsL, Ai.get, Ai.put, stab, isNil?, if_false, if_true, addr?, int?, str?, agg?, bool?, shiftA, FnPost, xresL, xres1, tup, argEnv, ptr, Nat.reduceEqDiff, reduceIte, beq_self_eq_true, ne_eq, Nat.reduceAdd, Nat.reduceMul, Nat.reduceSub, abin_shl, abin_shr, load1V, loadV, storeV, cellsAt, getN, setN, allocV, lenL, lenS, bnd, oneC, Value.oneCell', Nat.reduceLeDiff, Nat.reduceLT, exists_eq_left', forall_const, reduceCtorEq, app_new, app_new0, List.append_assoc, Int.reduceToNat, Int.reduceLT, Int.reduceLE, Int.reduceEq, Int.reduceNe, Int.reduceBEq, IntKind.bits, bne_self_eq_false, Int.reducePow, t34, t1, c6]
            exact ⟨t8, t0, t1, t7, t5, (by unfold errE; rw [if_neg nb, if_neg c6]; exact t9), rfl⟩
        · have nb := ht.1 rfl
          simp only [sx, x_box, x_alloc, x_bslice, x_slice, x_append, x_appz, x_b2s, x_s2b, x_mark, xop, ev, evs, evParts, fillL, cellsL, Ai.get, Ai.put, stab, isNil?, if_false, if_true, addr?, int?, str?, agg?, bool?, shiftA, FnPost, xresL, xres1, tup, argEnv, ptr, Nat.reduceEqDiff, reduceIte, beq_self_eq_true, ne_eq, Nat.reduceAdd, Nat.reduceMul, Nat.reduceSub, abin_shl, abin_shr, load1V, loadV, storeV, cellsAt, getN, setN, allocV, lenL, lenS, bnd, oneC, Value.oneCell', Nat.reduceLeDiff, Nat.reduceLT, exists_eq_left', forall_const, reduceCtorEq, app_new, app_new0, List.append_assoc, Int.reduceToNat, Int.reduceLT, Int.reduceLE, Int.reduceEq, Int.reduceNe, Int.reduceBEq, IntKind.bits, bne_self_eq_false, Int.reducePow, t34]
          exact ⟨t8, t0, t1, t7, t5, (by unfold errE; rw [if_pos nb]; rfl), rfl⟩
      rintro ρ2 g'' ⟨t8, t0, t1, t7, t5, t9, e0⟩
      subst e0
      clear t34 ht
      obtain ⟨rs, dv, A', F', n'⟩ := E.w
      simp only [sx, x_box, x_alloc, x_bslice, x_slice, x_append, x_appz, x_b2s, x_s2b, x_mark, xop, ev, evs, evParts, fillL, cellsL, Ai.get, Ai.put, stab, isNil?, if_false, if_true, addr?, int?, str?, agg?, bool?, shiftA, FnPost, xresL, xres1, tup, argEnv, ptr, Nat.reduceEqDiff, reduceIte, beq_self_eq_true, ne_eq, Nat.reduceAdd, Nat.reduceMul, Nat.reduceSub, abin_shl, abin_shr, load1V, loadV, storeV, cellsAt, getN, setN, allocV, lenL, lenS, bnd, oneC, Value.oneCell', Nat.reduceLeDiff, Nat.reduceLT, exists_eq_left', forall_const, reduceCtorEq, app_new, app_new0, List.append_assoc, Int.reduceToNat, Int.reduceLT, Int.reduceLE, Int.reduceEq, Int.reduceNe, Int.reduceBEq, IntKind.bits, bne_self_eq_false, Int.reducePow, t7]
      refine xcall (open_ok A') (by rfl) (by rfl) (by rfl) (by rfl) ?_
      rintro r g3 ⟨rfl, e0⟩
      subst e0
      simp only [sx, x_box, x_alloc, x_bslice, x_slice, x_append, x_appz, x_b2s, x_s2b, x_mark, xop, ev, evs, evParts, fillL, cellsL, Ai.get, Ai.put, stab, isNil?, if_false, if_true, addr?, int?, str?, agg?, bool?, shiftA, FnPost, xresL, xres1, tup, argEnv, ptr, Nat.reduceEqDiff, reduceIte, beq_self_eq_true, ne_eq, Nat.reduceAdd, Nat.reduceMul, Nat.reduceSub, abin_shl, abin_shr, load1V, loadV, storeV, cellsAt, getN, setN, allocV, lenL, lenS, bnd, oneC, Value.oneCell', Nat.reduceLeDiff, Nat.reduceLT, exists_eq_left', forall_const, reduceCtorEq, app_new, app_new0, List.append_assoc, Int.reduceToNat, Int.reduceLT, Int.reduceLE, Int.reduceEq, Int.reduceNe, Int.reduceBEq, IntKind.bits, bne_self_eq_false, Int.reducePow, t8, t0, t1, t7, t9, wu]
      refine xcall (ask_ok A') (by rfl) (by rfl) (by rfl) (by rfl) ?_
      intro r g4 HA
      have e00 : ¬ (0 : Int) ≠ 0 := by decide
      have e10 : (1 : Int) ≠ 0 := by decide
      have e30 : (3 : Int) ≠ 0 := by decide
      rcases HA with ⟨hb, rfl, rfl⟩ | ⟨hb, hw, rfl, rfl⟩ | ⟨hb, hw, W, hr⟩
      · have ee : errE op i wt = 1 := by unfold errE; rw [if_pos hb]
        rw [ee] at t9
        have e11 : ¬ (1 : Int) ≠ 1 := by decide
        simp only [sx, x_box, x_alloc, x_bslice, x_slice, x_append, x_appz, x_b2s, x_s2b, x_mark, xop, ev, evs, evParts, fillL, cellsL, Ai.get, Ai.put, stab, isNil?, if_false, if_true, addr?, int?, str?, agg?, bool?, shiftA, FnPost, xresL, xres1, tup, argEnv, ptr, Nat.reduceEqDiff, reduceIte, beq_self_eq_true, ne_eq, Nat.reduceAdd, Nat.reduceMul, Nat.reduceSub, abin_shl, abin_shr, load1V, loadV, storeV, cellsAt, getN, setN, allocV, lenL, lenS, bnd, oneC, Value.oneCell', Nat.reduceLeDiff, Nat.reduceLT, exists_eq_left', forall_const, reduceCtorEq, app_new, app_new0, List.append_assoc, Int.reduceToNat, Int.reduceLT, Int.reduceLE, Int.reduceEq, Int.reduceNe, Int.reduceBEq, IntKind.bits, bne_self_eq_false, Int.reducePow, t9, t7, e11, e10, e00]
        refine xcall (open_ok A') (by rfl) (by rfl) (by rfl) (by rfl) ?_
        rintro r g5 ⟨rfl, e0⟩
        subst e0
        have ecc : ¬ (b.cnt : Int) ≠ (b.cnt : Int) := fun h => h rfl
        simp only [sx, x_box, x_alloc, x_bslice, x_slice, x_append, x_appz, x_b2s, x_s2b, x_mark, xop, ev, evs, evParts, fillL, cellsL, Ai.get, Ai.put, stab, isNil?, if_false, if_true, addr?, int?, str?, agg?, bool?, shiftA, FnPost, xresL, xres1, tup, argEnv, ptr, Nat.reduceEqDiff, reduceIte, beq_self_eq_true, ne_eq, Nat.reduceAdd, Nat.reduceMul, Nat.reduceSub, abin_shl, abin_shr, load1V, loadV, storeV, cellsAt, getN, setN, allocV, lenL, lenS, bnd, oneC, Value.oneCell', Nat.reduceLeDiff, Nat.reduceLT, exists_eq_left', forall_const, reduceCtorEq, app_new, app_new0, List.append_assoc, Int.reduceToNat, Int.reduceLT, Int.reduceLE, Int.reduceEq, Int.reduceNe, Int.reduceBEq, IntKind.bits, bne_self_eq_false, Int.reducePow, ecc, t8, wi]
        exact ⟨n - 1, by omega, i + 1, b, by omega, rfl, t0, t1, t7, t5, E.w, by have := E.n; omega, E.e, E.pb⟩
      · have ee : errE op i wt = 3 := by unfold errE; rw [if_neg hb, if_pos hw]
        rw [ee] at t9
        have e33 : ¬ (3 : Int) ≠ 3 := by decide
        simp only [sx, x_box, x_alloc, x_bslice, x_slice, x_append, x_appz, x_b2s, x_s2b, x_mark, xop, ev, evs, evParts, fillL, cellsL, Ai.get, Ai.put, stab, isNil?, if_false, if_true, addr?, int?, str?, agg?, bool?, shiftA, FnPost, xresL, xres1, tup, argEnv, ptr, Nat.reduceEqDiff, reduceIte, beq_self_eq_true, ne_eq, Nat.reduceAdd, Nat.reduceMul, Nat.reduceSub, abin_shl, abin_shr, load1V, loadV, storeV, cellsAt, getN, setN, allocV, lenL, lenS, bnd, oneC, Value.oneCell', Nat.reduceLeDiff, Nat.reduceLT, exists_eq_left', forall_const, reduceCtorEq, app_new, app_new0, List.append_assoc, Int.reduceToNat, Int.reduceLT, Int.reduceLE, Int.reduceEq, Int.reduceNe, Int.reduceBEq, IntKind.bits, bne_self_eq_false, Int.reducePow, t9, t7, e33, e30, e00]
        refine xcall (open_ok A') (by rfl) (by rfl) (by rfl) (by rfl) ?_
        rintro r g5 ⟨rfl, e0⟩
        subst e0
        have ecc : ¬ (b.cnt : Int) ≠ (b.cnt : Int) := fun h => h rfl
        simp only [sx, x_box, x_alloc, x_bslice, x_slice, x_append, x_appz, x_b2s, x_s2b, x_mark, xop, ev, evs, evParts, fillL, cellsL, Ai.get, Ai.put, stab, isNil?, if_false, if_true, addr?, int?, str?, agg?, bool?, shiftA, FnPost, xresL, xres1, tup, argEnv, ptr, Nat.reduceEqDiff, reduceIte, beq_self_eq_true, ne_eq, Nat.reduceAdd, Nat.reduceMul, Nat.reduceSub, abin_shl, abin_shr, load1V, loadV, storeV, cellsAt, getN, setN, allocV, lenL, lenS, bnd, oneC, Value.oneCell', Nat.reduceLeDiff, Nat.reduceLT, exists_eq_left', forall_const, reduceCtorEq, app_new, app_new0, List.append_assoc, Int.reduceToNat, Int.reduceLT, Int.reduceLE, Int.reduceEq, Int.reduceNe, Int.reduceBEq, IntKind.bits, bne_self_eq_false, Int.reducePow, ecc, t8, wi]
        exact ⟨n - 1, by omega, i + 1, b, by omega, rfl, t0, t1, t7, t5, E.w, by have := E.n; omega, E.e, E.pb⟩
      · have ee : errE op i wt = 0 := by unfold errE; rw [if_neg hb, if_neg (by omega)]
        rw [ee] at t9
        obtain ⟨k, hk⟩ := ask_some (op := op) (cl := i) (wt := wt) A' (by have := E.n; omega)
        rw [hk] at hr
        simp only at hr
        subst hr
        simp only [sx, x_box, x_alloc, x_bslice, x_slice, x_append, x_appz, x_b2s, x_s2b, x_mark, xop, ev, evs, evParts, fillL, cellsL, Ai.get, Ai.put, stab, isNil?, if_false, if_true, addr?, int?, str?, agg?, bool?, shiftA, FnPost, xresL, xres1, tup, argEnv, ptr, Nat.reduceEqDiff, reduceIte, beq_self_eq_true, ne_eq, Nat.reduceAdd, Nat.reduceMul, Nat.reduceSub, abin_shl, abin_shr, load1V, loadV, storeV, cellsAt, getN, setN, allocV, lenL, lenS, bnd, oneC, Value.oneCell', Nat.reduceLeDiff, Nat.reduceLT, exists_eq_left', forall_const, reduceCtorEq, app_new, app_new0, List.append_assoc, Int.reduceToNat, Int.reduceLT, Int.reduceLE, Int.reduceEq, Int.reduceNe, Int.reduceBEq, IntKind.bits, bne_self_eq_false, Int.reducePow, t9, e00, t8, wi]
        have hc := cnt_ask (b := b) (op := op) (cl := i) (wt := wt)
        have hn := E.n
        exact ⟨n - 1, by omega, i + 1, (b.ask op i wt).1, by omega, rfl, t0, t1, t7, t5, W.go F' n', by omega, by rw [ask_es]; exact E.e, ask_pb E.pb⟩
    · have hi' : ¬ (i : Int) < 7 := by omega
      have : i = 7 := by omega
      subst this
      simp only [sx, x_box, x_alloc, x_bslice, x_slice, x_append, x_appz, x_b2s, x_s2b, x_mark, xop, ev, evs, evParts, fillL, cellsL, Ai.get, Ai.put, stab, isNil?, if_false, if_true, addr?, int?, str?, agg?, bool?, shiftA, FnPost, xresL, xres1, tup, argEnv, ptr, Nat.reduceEqDiff, reduceIte, beq_self_eq_true, ne_eq, Nat.reduceAdd, Nat.reduceMul, Nat.reduceSub, abin_shl, abin_shr, load1V, loadV, storeV, cellsAt, getN, setN, allocV, lenL, lenS, bnd, oneC, Value.oneCell', Nat.reduceLeDiff, Nat.reduceLT, exists_eq_left', forall_const, reduceCtorEq, app_new, app_new0, List.append_assoc, Int.reduceToNat, Int.reduceLT, Int.reduceLE, Int.reduceEq, Int.reduceNe, Int.reduceBEq, IntKind.bits, bne_self_eq_false, Int.reducePow, g8, hi']
      exact ⟨b, g7, g5, E⟩
  · rintro ρ g ⟨b, g7, g5, E⟩
    obtain ⟨rs, dv, A', F', n'⟩ := E.w
    have hR5g := F'.get hR52 (fun h1 => by
      rcases h1 with h1 | h1
      · omega
      · cases h1)
    have Vg := (V.frz (K1.trans K2).frz).frz (frz_of A.obj F')
    have Cg : CMV g (.agg #[.int .u8 m.k, .int .i64 m.id, .int .i64 m.lk, .int .i64 m.cd, .int .u8 m.pr, .slice q m.val.length c]) m := ⟨_, rfl, Vg⟩
    have hl6 : ∀ a b c d e f : Value, getN [a, b, c, d, e, f] 0 6 = some [a, b, c, d, e, f] := fun a b c d e f => rfl
    simp only [sx, x_box, x_alloc, x_bslice, x_slice, x_append, x_appz, x_b2s, x_s2b, x_mark, xop, ev, evs, evParts, fillL, cellsL, Ai.get, Ai.put, stab, isNil?, if_false, if_true, addr?, int?, str?, agg?, bool?, shiftA, FnPost, xresL, xres1, tup, argEnv, ptr, Nat.reduceEqDiff, reduceIte, beq_self_eq_true, ne_eq, Nat.reduceAdd, Nat.reduceMul, Nat.reduceSub, abin_shl, abin_shr, load1V, loadV, storeV, cellsAt, setN, allocV, lenL, lenS, bnd, oneC, Value.oneCell', Nat.reduceLeDiff, Nat.reduceLT, exists_eq_left', forall_const, reduceCtorEq, app_new, app_new0, List.append_assoc, Int.reduceToNat, Int.reduceLT, Int.reduceLE, Int.reduceEq, Int.reduceNe, Int.reduceBEq, IntKind.bits, bne_self_eq_false, Int.reducePow, g5, hR5g, hl6]
    refine xcall (check_ok Cg) (by rfl) (by rfl) (by rfl) (by rfl) ?_
    rintro r g3 ⟨K3, e, rfl, he⟩
    have hR53 := K3.get hR5g
    simp only [sx, x_box, x_alloc, x_bslice, x_slice, x_append, x_appz, x_b2s, x_s2b, x_mark, xop, ev, evs, evParts, fillL, cellsL, Ai.get, Ai.put, stab, isNil?, if_false, if_true, addr?, int?, str?, agg?, bool?, shiftA, FnPost, xresL, xres1, tup, argEnv, ptr, Nat.reduceEqDiff, reduceIte, beq_self_eq_true, ne_eq, Nat.reduceAdd, Nat.reduceMul, Nat.reduceSub, abin_shl, abin_shr, load1V, loadV, storeV, cellsAt, getN, setN, allocV, lenL, lenS, bnd, oneC, Value.oneCell', Nat.reduceLeDiff, Nat.reduceLT, exists_eq_left', forall_const, reduceCtorEq, app_new, app_new0, List.append_assoc, Int.reduceToNat, Int.reduceLT, Int.reduceLE, Int.reduceEq, Int.reduceNe, Int.reduceBEq, IntKind.bits, bne_self_eq_false, Int.reducePow]
    refine xgrd_cut (ErU g3 B R5 m) ?_ ?_
    · rcases he with ⟨h1, rfl⟩ | ⟨h1, hok, rfl⟩ | ⟨h1, hno, rfl⟩
      · have z : ¬ (3 : Int) = 0 := by decide
        simp only [sx, x_box, x_alloc, x_bslice, x_slice, x_append, x_appz, x_b2s, x_s2b, x_mark, xop, ev, evs, evParts, fillL, cellsL, Ai.get, Ai.put, stab, isNil?, if_false, if_true, addr?, int?, str?, agg?, bool?, shiftA, FnPost, xresL, xres1, tup, argEnv, ptr, Nat.reduceEqDiff, reduceIte, beq_self_eq_true, ne_eq, Nat.reduceAdd, Nat.reduceMul, Nat.reduceSub, abin_shl, abin_shr, load1V, loadV, storeV, cellsAt, getN, setN, allocV, lenL, lenS, bnd, oneC, Value.oneCell', Nat.reduceLeDiff, Nat.reduceLT, exists_eq_left', forall_const, reduceCtorEq, app_new, app_new0, List.append_assoc, Int.reduceToNat, Int.reduceLT, Int.reduceLE, Int.reduceEq, Int.reduceNe, Int.reduceBEq, IntKind.bits, bne_self_eq_false, Int.reducePow, z]
        exact ⟨3, false, rfl, rfl, .inl ⟨h1, rfl⟩, ⟨(fun h => by cases h), fun h => absurd h.1 z⟩, g7, g5, rfl⟩
      · by_cases k1 : m.k = 1
        · simp only [sx, x_box, x_alloc, x_bslice, x_slice, x_append, x_appz, x_b2s, x_s2b, x_mark, xop, ev, evs, evParts, fillL, cellsL, Ai.get, Ai.put, stab, isNil?, if_false, if_true, addr?, int?, str?, agg?, bool?, shiftA, FnPost, xresL, xres1, tup, argEnv, ptr, Nat.reduceEqDiff, reduceIte, beq_self_eq_true, ne_eq, Nat.reduceAdd, Nat.reduceMul, Nat.reduceSub, abin_shl, abin_shr, load1V, loadV, storeV, cellsAt, getN, setN, allocV, lenL, lenS, bnd, oneC, Value.oneCell', Nat.reduceLeDiff, Nat.reduceLT, exists_eq_left', forall_const, reduceCtorEq, app_new, app_new0, List.append_assoc, Int.reduceToNat, Int.reduceLT, Int.reduceLE, Int.reduceEq, Int.reduceNe, Int.reduceBEq, IntKind.bits, bne_self_eq_false, Int.reducePow, g5, hR53, k1]
          exact ⟨0, true, rfl, rfl, .inr (.inl ⟨h1, hok, rfl⟩), ⟨fun _ => ⟨rfl, k1⟩, fun _ => rfl⟩, g7, g5, rfl⟩
        · simp only [sx, x_box, x_alloc, x_bslice, x_slice, x_append, x_appz, x_b2s, x_s2b, x_mark, xop, ev, evs, evParts, fillL, cellsL, Ai.get, Ai.put, stab, isNil?, if_false, if_true, addr?, int?, str?, agg?, bool?, shiftA, FnPost, xresL, xres1, tup, argEnv, ptr, Nat.reduceEqDiff, reduceIte, beq_self_eq_true, ne_eq, Nat.reduceAdd, Nat.reduceMul, Nat.reduceSub, abin_shl, abin_shr, load1V, loadV, storeV, cellsAt, getN, setN, allocV, lenL, lenS, bnd, oneC, Value.oneCell', Nat.reduceLeDiff, Nat.reduceLT, exists_eq_left', forall_const, reduceCtorEq, app_new, app_new0, List.append_assoc, Int.reduceToNat, Int.reduceLT, Int.reduceLE, Int.reduceEq, Int.reduceNe, Int.reduceBEq, IntKind.bits, bne_self_eq_false, Int.reducePow, g5, hR53, k1]
          exact ⟨0, false, rfl, rfl, .inr (.inl ⟨h1, hok, rfl⟩), ⟨(fun h => by cases h), fun h => absurd h.2 k1⟩, g7, g5, rfl⟩
      · have z : ¬ (1 : Int) = 0 := by decide
        simp only [sx, x_box, x_alloc, x_bslice, x_slice, x_append, x_appz, x_b2s, x_s2b, x_mark, xop, ev, evs, evParts, fillL, cellsL, Ai.get, Ai.put, stab, isNil?, if_false, if_true, addr?, int?, str?, agg?, bool?, shiftA, FnPost, xresL, xres1, tup, argEnv, ptr, Nat.reduceEqDiff, reduceIte, beq_self_eq_true, ne_eq, Nat.reduceAdd, Nat.reduceMul, Nat.reduceSub, abin_shl, abin_shr, load1V, loadV, storeV, cellsAt, getN, setN, allocV, lenL, lenS, bnd, oneC, Value.oneCell', Nat.reduceLeDiff, Nat.reduceLT, exists_eq_left', forall_const, reduceCtorEq, app_new, app_new0, List.append_assoc, Int.reduceToNat, Int.reduceLT, Int.reduceLE, Int.reduceEq, Int.reduceNe, Int.reduceBEq, IntKind.bits, bne_self_eq_false, Int.reducePow, z]
        exact ⟨1, false, rfl, rfl, .inr (.inr ⟨h1, hno, rfl⟩), ⟨(fun h => by cases h), fun h => absurd h.1 z⟩, g7, g5, rfl⟩
    rintro ρ1 g' ⟨e', t, t13, t92, he', ht, t7, t5, e0⟩
    subst e0
    rw [kSeq_normal]
    refine xcode_cut (ErT g' B R5 m) ?_ ?_
    · cases t
      · simp only [sx, x_box, x_alloc, x_bslice, x_slice, x_append, x_appz, x_b2s, x_s2b, x_mark, xop, ev, evs, evParts, fillL, cellsL, Ai.get, Ai.put, stab, isNil?, if_false, if_true, addr?, int?, str?, agg?, bool?, shiftA, FnPost, xresL, xres1, tup, argEnv, ptr, Nat.reduceEqDiff, reduceIte, beq_self_eq_true, ne_eq, Nat.reduceAdd, Nat.reduceMul, Nat.reduceSub, abin_shl, abin_shr, load1V, loadV, storeV, cellsAt, getN, setN, allocV, lenL, lenS, bnd, oneC, Value.oneCell', Nat.reduceLeDiff, Nat.reduceLT, exists_eq_left', forall_const, reduceCtorEq, app_new, app_new0, List.append_assoc, Int.reduceToNat, Int.reduceLT, Int.reduceLE, Int.reduceEq, Int.reduceNe, Int.reduceBEq, IntKind.bits, bne_self_eq_false, Int.reducePow, t92]
        refine ⟨e', t13, ?_, t7, t5, rfl⟩
        rcases he' with ⟨h1, rfl⟩ | ⟨h1, hok, rfl⟩ | ⟨h1, hno, rfl⟩
        · exact .inl ⟨h1, rfl⟩
        · exact .inr (.inl ⟨h1, hok, fun k1 => (by have := ht.2 ⟨rfl, k1⟩; cases this), rfl⟩)
        · exact .inr (.inr ⟨h1, .inl hno, rfl⟩)
      · simp only [sx, x_box, x_alloc, x_bslice, x_slice, x_append, x_appz, x_b2s, x_s2b, x_mark, xop, ev, evs, evParts, fillL, cellsL, Ai.get, Ai.put, stab, isNil?, if_false, if_true, addr?, int?, str?, agg?, bool?, shiftA, FnPost, xresL, xres1, tup, argEnv, ptr, Nat.reduceEqDiff, reduceIte, beq_self_eq_true, ne_eq, Nat.reduceAdd, Nat.reduceMul, Nat.reduceSub, abin_shl, abin_shr, load1V, loadV, storeV, cellsAt, getN, setN, allocV, lenL, lenS, bnd, oneC, Value.oneCell', Nat.reduceLeDiff, Nat.reduceLT, exists_eq_left', forall_const, reduceCtorEq, app_new, app_new0, List.append_assoc, Int.reduceToNat, Int.reduceLT, Int.reduceLE, Int.reduceEq, Int.reduceNe, Int.reduceBEq, IntKind.bits, bne_self_eq_false, Int.reducePow, t92]
        obtain ⟨e0, k1⟩ := ht.1 rfl
        refine ⟨1, rfl, ?_, t7, t5, rfl⟩
        rcases he' with ⟨h1, h2⟩ | ⟨h1, hok, h2⟩ | ⟨h1, hno, h2⟩
        · omega
        · exact .inr (.inr ⟨h1, .inr k1, rfl⟩)
        · omega
    rintro ρ2 g'' ⟨e2, t13, he2, t7, t5, e0⟩
    subst e0
    clear he he' ht t92 g5 g7
    have A3 := A'.kp K3
    have Cg3 := Cg.frz K3.frz
    simp only [sx, x_box, x_alloc, x_bslice, x_slice, x_append, x_appz, x_b2s, x_s2b, x_mark, xop, ev, evs, evParts, fillL, cellsL, Ai.get, Ai.put, stab, isNil?, if_false, if_true, addr?, int?, str?, agg?, bool?, shiftA, FnPost, xresL, xres1, tup, argEnv, ptr, Nat.reduceEqDiff, reduceIte, beq_self_eq_true, ne_eq, Nat.reduceAdd, Nat.reduceMul, Nat.reduceSub, abin_shl, abin_shr, load1V, loadV, storeV, cellsAt, getN, setN, allocV, lenL, lenS, bnd, oneC, Value.oneCell', Nat.reduceLeDiff, Nat.reduceLT, exists_eq_left', forall_const, reduceCtorEq, app_new, app_new0, List.append_assoc, Int.reduceToNat, Int.reduceLT, Int.reduceLE, Int.reduceEq, Int.reduceNe, Int.reduceBEq, IntKind.bits, bne_self_eq_false, Int.reducePow, t7]
    refine xcall (open_ok A3) (by rfl) (by rfl) (by rfl) (by rfl) ?_
    rintro r g4 ⟨rfl, e0⟩
    subst e0
    simp only [sx, x_box, x_bslice, x_slice, x_append, x_appz, x_b2s, x_s2b, x_mark, xop, ev, evs, evParts, fillL, cellsL, Ai.get, Ai.put, stab, isNil?, if_false, if_true, addr?, int?, str?, agg?, bool?, shiftA, FnPost, xresL, xres1, tup, argEnv, ptr, Nat.reduceEqDiff, reduceIte, beq_self_eq_true, ne_eq, Nat.reduceAdd, Nat.reduceMul, Nat.reduceSub, abin_shl, abin_shr, load1V, loadV, storeV, cellsAt, setN, allocV, lenL, lenS, bnd, oneC, Value.oneCell', Nat.reduceLeDiff, Nat.reduceLT, exists_eq_left', forall_const, reduceCtorEq, app_new, app_new0, List.append_assoc, Int.reduceToNat, Int.reduceLT, Int.reduceLE, Int.reduceEq, Int.reduceNe, Int.reduceBEq, IntKind.bits, bne_self_eq_false, Int.reducePow, t7, t5, hR53, hl6]
    refine xcall (hear_ok A3 Cg3 E.pb (by rw [E.e]; decide)) (by rfl) (by rfl) (by rfl) (by rfl) ?_
    intro r g5 H
    have H' : ∃ (x : Bool) (kk idd pp : Int) (b' : Bk), r = .tuple #[.agg #[.int .u8 kk, .int .i64 idd, .int .i64 0, .int .i64 0, .int .u8 pp, .slice none 0 0], .bool x, .int .i64 e2] ∧ (e2 = 0 ∨ (e2 ≠ 0 ∧ x = false ∧ kk = 0 ∧ b' = b)) ∧ WentB g4 g5 B b' dv := by
      rcases H with ⟨h1, hr, K⟩ | ⟨h1, h2, hr, K⟩ | ⟨h1, hok, k1, W, hr⟩
      · rcases he2 with ⟨-, rfl⟩ | ⟨h3, -⟩ | ⟨h3, -⟩
        · exact ⟨false, 0, 0, 0, b, hr, .inr ⟨by decide, rfl, rfl, rfl⟩, A3.same K⟩
        · omega
        · omega
      · rcases he2 with ⟨h3, -⟩ | ⟨-, hok, k1, rfl⟩ | ⟨-, -, rfl⟩
        · omega
        · rcases h2 with h2 | h2 <;> contradiction
        · exact ⟨false, 0, 0, 0, b, hr, .inr ⟨by decide, rfl, rfl, rfl⟩, A3.same K⟩
      · rcases he2 with ⟨h3, -⟩ | ⟨-, -, -, rfl⟩ | ⟨-, h2, -⟩
        · omega
        · cases hh : (b.heard m).2
          · rw [hh] at hr
            exact ⟨false, 0, 0, 0, _, hr, .inl rfl, W⟩
          · rw [hh] at hr
            exact ⟨true, 5, m.id, _, _, hr, .inl rfl, W⟩
        · rcases h2 with h2 | h2 <;> contradiction
    clear H
    obtain ⟨x, kk, idd, pp, b', rfl, hx, W⟩ := H'
    have W2 := W.go (K3.fr (ftB B dv)) (fun X hX => .inl hX)
    obtain ⟨rs4, dv4, A4, F4, n4⟩ := W
    have hR55 := F4.get hR53 (fun hf => by
      rcases hf with hf | hf
      · omega
      · rcases n' _ (.inr hf) with h1 | h1
        · rcases h1 with h1 | h1
          · omega
          · cases h1
        · have := lt_of_get hR52; omega)
    simp only [sx, x_box, x_bslice, x_slice, x_append, x_appz, x_b2s, x_s2b, x_mark, xop, ev, evs, evParts, fillL, cellsL, Ai.get, Ai.put, stab, isNil?, if_false, if_true, addr?, int?, str?, agg?, bool?, shiftA, FnPost, xresL, xres1, tup, argEnv, ptr, Nat.reduceEqDiff, reduceIte, beq_self_eq_true, ne_eq, Nat.reduceAdd, Nat.reduceMul, Nat.reduceSub, abin_shl, abin_shr, load1V, loadV, storeV, cellsAt, getN, setN, allocV, lenL, lenS, bnd, oneC, Value.oneCell', Nat.reduceLeDiff, Nat.reduceLT, exists_eq_left', forall_const, reduceCtorEq, app_new, app_new0, List.append_assoc, Int.reduceToNat, Int.reduceLT, Int.reduceLE, Int.reduceEq, Int.reduceNe, Int.reduceBEq, IntKind.bits, bne_self_eq_false, Int.reducePow]
    refine alloc_run fun g6 R15 K6 hR15 hRl15 _ => ⟨trivial, ?_⟩
    have hR15s : ∀ x : Option AObj, (g6.set R15 x)[R15]? = some x := fun x => List.getElem?_set_self (lt_of_get hR15)
    have A6 := A4.kp K6
    have hR56 := K6.get hR55
    have K6' : Kp g5 (g6.set R15 (some ⟨true, [.int .u8 kk, .int .i64 idd, .int .i64 0, .int .i64 0, .int .u8 pp, .slice none 0 0]⟩)) := K6.set hRl15 _
    have A6' := A4.kp K6'
    have hR56' := K6'.get hR55
    have V6 : BytesV (g6.set R15 (some ⟨true, [.int .u8 kk, .int .i64 idd, .int .i64 0, .int .i64 0, .int .u8 pp, .slice none 0 0]⟩)) (.slice q m.val.length c) m.val := by
      refine (Vg.frz ?_).frz K6'.frz
      exact fun X cs hX => (F4.2 X (lt_of_get (K3.frz X cs hX)) fun hf => by
        rcases hf with hf | hf
        · subst hf; have := K3.get A'.obj; rw [K3.frz X cs hX] at this; cases this
        · obtain ⟨cs', ho⟩ := A3.eq.own hf; rw [K3.frz X cs hX] at ho; cases ho).trans (K3.frz X cs hX)
    have hs15 := hR15s (some ⟨true, [.int .u8 kk, .int .i64 idd, .int .i64 0, .int .i64 0, .int .u8 pp, .slice none 0 0]⟩)
    simp only [sx, x_box, x_alloc, x_bslice, x_slice, x_append, x_appz, x_b2s, x_s2b, x_mark, xop, ev, evs, evParts, fillL, cellsL, Ai.get, Ai.put, stab, isNil?, if_false, if_true, addr?, int?, str?, agg?, bool?, shiftA, FnPost, xresL, xres1, tup, argEnv, ptr, Nat.reduceEqDiff, reduceIte, beq_self_eq_true, ne_eq, Nat.reduceAdd, Nat.reduceMul, Nat.reduceSub, abin_shl, abin_shr, load1V, loadV, storeV, cellsAt, getN, setN, allocV, lenL, lenS, bnd, oneC, Value.oneCell', Nat.reduceLeDiff, Nat.reduceLT, exists_eq_left', forall_const, reduceCtorEq, app_new, app_new0, List.append_assoc, Int.reduceToNat, Int.reduceLT, Int.reduceLE, Int.reduceEq, Int.reduceNe, Int.reduceBEq, IntKind.bits, bne_self_eq_false, Int.reducePow, hR15, t13]
    generalize g6.set R15 (some (AObj.mk true [.int .u8 kk, .int .i64 idd, .int .i64 0, .int .i64 0, .int .u8 pp, .slice none 0 0])) = g7 at *
    have ene : ¬ e2 ≠ e2 := fun h => h rfl
    refine xgrd_cut (ErF g7 R5) ?_ ?_
    · rcases hx with rfl | ⟨h0, rfl, rfl, rfl⟩
      · have e00 : ¬ (0 : Int) ≠ 0 := by decide
        simp only [sx, x_box, x_alloc, x_bslice, x_slice, x_append, x_appz, x_b2s, x_s2b, x_mark, xop, ev, evs, evParts, fillL, cellsL, Ai.get, Ai.put, stab, isNil?, if_false, if_true, addr?, int?, str?, agg?, bool?, shiftA, FnPost, xresL, xres1, tup, argEnv, ptr, Nat.reduceEqDiff, reduceIte, beq_self_eq_true, ne_eq, Nat.reduceAdd, Nat.reduceMul, Nat.reduceSub, abin_shl, abin_shr, load1V, loadV, storeV, cellsAt, getN, setN, allocV, lenL, lenS, bnd, oneC, Value.oneCell', Nat.reduceLeDiff, Nat.reduceLT, exists_eq_left', forall_const, reduceCtorEq, app_new, app_new0, List.append_assoc, Int.reduceToNat, Int.reduceLT, Int.reduceLE, Int.reduceEq, Int.reduceNe, Int.reduceBEq, IntKind.bits, bne_self_eq_false, Int.reducePow, e00]
        exact ⟨rfl, t5, rfl⟩
      · have e00 : ¬ (0 : Int) ≠ 0 := by decide
        simp only [sx, x_box, x_alloc, x_bslice, x_slice, x_append, x_appz, x_b2s, x_s2b, x_mark, xop, ev, evs, evParts, fillL, cellsL, Ai.get, Ai.put, stab, isNil?, if_false, if_true, addr?, int?, str?, agg?, bool?, shiftA, FnPost, xresL, xres1, tup, argEnv, ptr, Nat.reduceEqDiff, reduceIte, beq_self_eq_true, ne_eq, Nat.reduceAdd, Nat.reduceMul, Nat.reduceSub, abin_shl, abin_shr, load1V, loadV, storeV, cellsAt, getN, setN, allocV, lenL, lenS, bnd, oneC, Value.oneCell', Nat.reduceLeDiff, Nat.reduceLT, exists_eq_left', forall_const, reduceCtorEq, app_new, app_new0, List.append_assoc, Int.reduceToNat, Int.reduceLT, Int.reduceLE, Int.reduceEq, Int.reduceNe, Int.reduceBEq, IntKind.bits, bne_self_eq_false, Int.reducePow, ene, h0, hs15, e00, t7]
        refine xcall (open_ok A6') (by rfl) (by rfl) (by rfl) (by rfl) ?_
        rintro r g8 ⟨rfl, e0⟩
        subst e0
        have ecc : ¬ (b'.cnt : Int) ≠ (b'.cnt : Int) := fun h => h rfl
        simp only [sx, x_box, x_alloc, x_bslice, x_slice, x_append, x_appz, x_b2s, x_s2b, x_mark, xop, ev, evs, evParts, fillL, cellsL, Ai.get, Ai.put, stab, isNil?, if_false, if_true, addr?, int?, str?, agg?, bool?, shiftA, FnPost, xresL, xres1, tup, argEnv, ptr, Nat.reduceEqDiff, reduceIte, beq_self_eq_true, ne_eq, Nat.reduceAdd, Nat.reduceMul, Nat.reduceSub, abin_shl, abin_shr, load1V, loadV, storeV, cellsAt, getN, setN, allocV, lenL, lenS, bnd, oneC, Value.oneCell', Nat.reduceLeDiff, Nat.reduceLT, exists_eq_left', forall_const, reduceCtorEq, app_new, app_new0, List.append_assoc, Int.reduceToNat, Int.reduceLT, Int.reduceLE, Int.reduceEq, Int.reduceNe, Int.reduceBEq, IntKind.bits, bne_self_eq_false, Int.reducePow, ecc]
        exact ⟨rfl, t5, rfl⟩
    rintro ρ3 g8 ⟨t122, t5, e0⟩
    subst e0
    simp only [sx, x_box, x_alloc, x_bslice, x_slice, x_append, x_appz, x_b2s, x_s2b, x_mark, xop, ev, evs, evParts, fillL, cellsL, Ai.get, Ai.put, stab, isNil?, if_false, if_true, addr?, int?, str?, agg?, bool?, shiftA, FnPost, xresL, xres1, tup, argEnv, ptr, Nat.reduceEqDiff, reduceIte, beq_self_eq_true, ne_eq, Nat.reduceAdd, Nat.reduceMul, Nat.reduceSub, abin_shl, abin_shr, load1V, loadV, storeV, cellsAt, getN, setN, allocV, lenL, lenS, bnd, oneC, Value.oneCell', Nat.reduceLeDiff, Nat.reduceLT, exists_eq_left', forall_const, reduceCtorEq, app_new, app_new0, List.append_assoc, Int.reduceToNat, Int.reduceLT, Int.reduceLE, Int.reduceEq, Int.reduceNe, Int.reduceBEq, IntKind.bits, bne_self_eq_false, Int.reducePow, t122]
    refine xcall close_nil (by rfl) (by rfl) (by rfl) (by rfl) ?_
    intro r g9 e0
    subst e0
    simp only [sx, x_box, x_alloc, x_bslice, x_slice, x_append, x_appz, x_b2s, x_s2b, x_mark, xop, ev, evs, evParts, fillL, cellsL, Ai.get, Ai.put, stab, isNil?, if_false, if_true, addr?, int?, str?, agg?, bool?, shiftA, FnPost, xresL, xres1, tup, argEnv, ptr, Nat.reduceEqDiff, reduceIte, beq_self_eq_true, ne_eq, Nat.reduceAdd, Nat.reduceMul, Nat.reduceSub, abin_shl, abin_shr, load1V, loadV, storeV, cellsAt, getN, setN, allocV, lenL, lenS, bnd, oneC, Value.oneCell', Nat.reduceLeDiff, Nat.reduceLT, exists_eq_left', forall_const, reduceCtorEq, app_new, app_new0, List.append_assoc, Int.reduceToNat, Int.reduceLT, Int.reduceLE, Int.reduceEq, Int.reduceNe, Int.reduceBEq, IntKind.bits, bne_self_eq_false, Int.reducePow]
    refine xcall tick_nil (by rfl) (by rfl) (by rfl) (by rfl) ?_
    intro r g10 e0
    subst e0
    simp only [sx, x_box, x_alloc, x_bslice, x_slice, x_append, x_appz, x_b2s, x_s2b, x_mark, xop, ev, evs, evParts, fillL, cellsL, Ai.get, Ai.put, stab, isNil?, if_false, if_true, addr?, int?, str?, agg?, bool?, shiftA, FnPost, xresL, xres1, tup, argEnv, ptr, Nat.reduceEqDiff, reduceIte, beq_self_eq_true, ne_eq, Nat.reduceAdd, Nat.reduceMul, Nat.reduceSub, abin_shl, abin_shr, load1V, loadV, storeV, cellsAt, getN, setN, allocV, lenL, lenS, bnd, oneC, Value.oneCell', Nat.reduceLeDiff, Nat.reduceLT, exists_eq_left', forall_const, reduceCtorEq, app_new, app_new0, List.append_assoc, Int.reduceToNat, Int.reduceLT, Int.reduceLE, Int.reduceEq, Int.reduceNe, Int.reduceBEq, IntKind.bits, bne_self_eq_false, Int.reducePow]
    refine xcall ask_nil (by rfl) (by rfl) (by rfl) (by rfl) ?_
    rintro r g11 ⟨rfl, e0⟩
    subst e0
    simp only [sx, x_box, x_alloc, x_bslice, x_slice, x_append, x_appz, x_b2s, x_s2b, x_mark, xop, ev, evs, evParts, fillL, cellsL, Ai.get, Ai.put, stab, isNil?, if_false, if_true, addr?, int?, str?, agg?, bool?, shiftA, FnPost, xresL, xres1, tup, argEnv, ptr, Nat.reduceEqDiff, reduceIte, beq_self_eq_true, ne_eq, Nat.reduceAdd, Nat.reduceMul, Nat.reduceSub, abin_shl, abin_shr, load1V, loadV, storeV, cellsAt, setN, allocV, lenL, lenS, bnd, oneC, Value.oneCell', Nat.reduceLeDiff, Nat.reduceLT, exists_eq_left', forall_const, reduceCtorEq, app_new, app_new0, List.append_assoc, Int.reduceToNat, Int.reduceLT, Int.reduceLE, Int.reduceEq, Int.reduceNe, Int.reduceBEq, IntKind.bits, bne_self_eq_false, Int.reducePow, t5, hR56', hl6]
    refine xcall (hear_nil (m := m) ⟨_, rfl, V6⟩) (by rfl) (by rfl) (by rfl) (by rfl) ?_
    rintro r g12 ⟨rfl, K12⟩
    simp only [sx, x_box, x_bslice, x_slice, x_append, x_appz, x_b2s, x_s2b, x_mark, xop, ev, evs, evParts, fillL, cellsL, Ai.get, Ai.put, stab, isNil?, if_false, if_true, addr?, int?, str?, agg?, bool?, shiftA, FnPost, xresL, xres1, tup, argEnv, ptr, Nat.reduceEqDiff, reduceIte, beq_self_eq_true, ne_eq, Nat.reduceAdd, Nat.reduceMul, Nat.reduceSub, abin_shl, abin_shr, load1V, loadV, storeV, cellsAt, getN, setN, allocV, lenL, lenS, bnd, oneC, Value.oneCell', Nat.reduceLeDiff, Nat.reduceLT, exists_eq_left', forall_const, reduceCtorEq, app_new, app_new0, List.append_assoc, Int.reduceToNat, Int.reduceLT, Int.reduceLE, Int.reduceEq, Int.reduceNe, Int.reduceBEq, IntKind.bits, bne_self_eq_false, Int.reducePow, zC]
    refine alloc_run fun g13 R21 K13 hR21 hRl21 _ => ⟨trivial, ?_⟩
    simp only [sx, x_box, x_alloc, x_bslice, x_slice, x_append, x_appz, x_b2s, x_s2b, x_mark, xop, ev, evs, evParts, fillL, cellsL, Ai.get, Ai.put, stab, isNil?, if_false, if_true, addr?, int?, str?, agg?, bool?, shiftA, FnPost, xresL, xres1, tup, argEnv, ptr, Nat.reduceEqDiff, reduceIte, beq_self_eq_true, ne_eq, Nat.reduceAdd, Nat.reduceMul, Nat.reduceSub, abin_shl, abin_shr, load1V, loadV, storeV, cellsAt, getN, setN, allocV, lenL, lenS, bnd, oneC, Value.oneCell', Nat.reduceLeDiff, Nat.reduceLT, exists_eq_left', forall_const, reduceCtorEq, app_new, app_new0, List.append_assoc, Int.reduceToNat, Int.reduceLT, Int.reduceLE, Int.reduceEq, Int.reduceNe, Int.reduceBEq, IntKind.bits, bne_self_eq_false, Int.reducePow, hR21]
    refine xcall cancel_nil (by rfl) (by rfl) (by rfl) (by rfl) ?_
    rintro r g14 ⟨rfl, e0⟩
    subst e0
    simp only [sx, x_box, x_alloc, x_bslice, x_slice, x_append, x_appz, x_b2s, x_s2b, x_mark, xop, ev, evs, evParts, fillL, cellsL, Ai.get, Ai.put, stab, isNil?, if_false, if_true, addr?, int?, str?, agg?, bool?, shiftA, FnPost, xresL, xres1, tup, argEnv, ptr, Nat.reduceEqDiff, reduceIte, beq_self_eq_true, ne_eq, Nat.reduceAdd, Nat.reduceMul, Nat.reduceSub, abin_shl, abin_shr, load1V, loadV, storeV, cellsAt, getN, setN, allocV, lenL, lenS, bnd, oneC, Value.oneCell', Nat.reduceLeDiff, Nat.reduceLT, exists_eq_left', forall_const, reduceCtorEq, app_new, app_new0, List.append_assoc, Int.reduceToNat, Int.reduceLT, Int.reduceLE, Int.reduceEq, Int.reduceNe, Int.reduceBEq, IntKind.bits, bne_self_eq_false, Int.reducePow]
    refine xcall is_nil (by rfl) (by rfl) (by rfl) (by rfl) ?_
    rintro r g15 ⟨rfl, e0⟩
    subst e0
    simp only [sx, x_box, x_alloc, x_bslice, x_slice, x_append, x_appz, x_b2s, x_s2b, x_mark, xop, ev, evs, evParts, fillL, cellsL, Ai.get, Ai.put, stab, isNil?, if_false, if_true, addr?, int?, str?, agg?, bool?, shiftA, FnPost, xresL, xres1, tup, argEnv, ptr, Nat.reduceEqDiff, reduceIte, beq_self_eq_true, ne_eq, Nat.reduceAdd, Nat.reduceMul, Nat.reduceSub, abin_shl, abin_shr, load1V, loadV, storeV, cellsAt, getN, setN, allocV, lenL, lenS, bnd, oneC, Value.oneCell', Nat.reduceLeDiff, Nat.reduceLT, exists_eq_left', forall_const, reduceCtorEq, app_new, app_new0, List.append_assoc, Int.reduceToNat, Int.reduceLT, Int.reduceLE, Int.reduceEq, Int.reduceNe, Int.reduceBEq, IntKind.bits, bne_self_eq_false, Int.reducePow]
    refine xcall open_nil (by rfl) (by rfl) (by rfl) (by rfl) ?_
    rintro r g16 ⟨rfl, e0⟩
    subst e0
    simp only [sx, x_box, x_alloc, x_bslice, x_slice, x_append, x_appz, x_b2s, x_s2b, x_mark, xop, ev, evs, evParts, fillL, cellsL, Ai.get, Ai.put, stab, isNil?, if_false, if_true, addr?, int?, str?, agg?, bool?, shiftA, FnPost, xresL, xres1, tup, argEnv, ptr, Nat.reduceEqDiff, reduceIte, beq_self_eq_true, ne_eq, Nat.reduceAdd, Nat.reduceMul, Nat.reduceSub, abin_shl, abin_shr, load1V, loadV, storeV, cellsAt, getN, setN, allocV, lenL, lenS, bnd, oneC, Value.oneCell', Nat.reduceLeDiff, Nat.reduceLT, exists_eq_left', forall_const, reduceCtorEq, app_new, app_new0, List.append_assoc, Int.reduceToNat, Int.reduceLT, Int.reduceLE, Int.reduceEq, Int.reduceNe, Int.reduceBEq, IntKind.bits, bne_self_eq_false, Int.reducePow]
    refine xcall ends_nil (by rfl) (by rfl) (by rfl) (by rfl) ?_
    rintro r g17 ⟨rfl, e0⟩
    subst e0
    simp only [sx, x_box, x_alloc, x_bslice, x_slice, x_append, x_appz, x_b2s, x_s2b, x_mark, xop, ev, evs, evParts, fillL, cellsL, Ai.get, Ai.put, stab, isNil?, if_false, if_true, addr?, int?, str?, agg?, bool?, shiftA, FnPost, xresL, xres1, tup, argEnv, ptr, Nat.reduceEqDiff, reduceIte, beq_self_eq_true, ne_eq, Nat.reduceAdd, Nat.reduceMul, Nat.reduceSub, abin_shl, abin_shr, load1V, loadV, storeV, cellsAt, getN, setN, allocV, lenL, lenS, bnd, oneC, Value.oneCell', Nat.reduceLeDiff, Nat.reduceLT, exists_eq_left', forall_const, reduceCtorEq, app_new, app_new0, List.append_assoc, Int.reduceToNat, Int.reduceLT, Int.reduceLE, Int.reduceEq, Int.reduceNe, Int.reduceBEq, IntKind.bits, bne_self_eq_false, Int.reducePow]
    refine xcall (lives_ok _) (by rfl) (by rfl) (by rfl) (by rfl) ?_
    rintro r g18 ⟨rfl, e0⟩
    simp only [sx, x_box, x_alloc, x_bslice, x_slice, x_append, x_appz, x_b2s, x_s2b, x_mark, xop, ev, evs, evParts, fillL, cellsL, Ai.get, Ai.put, stab, isNil?, if_false, if_true, addr?, int?, str?, agg?, bool?, shiftA, FnPost, xresL, xres1, tup, argEnv, ptr, Nat.reduceEqDiff, reduceIte, beq_self_eq_true, ne_eq, Nat.reduceAdd, Nat.reduceMul, Nat.reduceSub, abin_shl, abin_shr, load1V, loadV, storeV, cellsAt, getN, setN, allocV, lenL, lenS, bnd, oneC, Value.oneCell', Nat.reduceLeDiff, Nat.reduceLT, exists_eq_left', forall_const, reduceCtorEq, app_new, app_new0, List.append_assoc, Int.reduceToNat, Int.reduceLT, Int.reduceLE, Int.reduceEq, Int.reduceNe, Int.reduceBEq, IntKind.bits, bne_self_eq_false, Int.reducePow]
end Go.Proofs.Ytpbbmnfffolcoaa
