import Derived.Test.YtpbbmnfffolcoaaB2
set_option linter.unusedVariables false
set_option linter.unusedSimpArgs false
namespace Go.Proofs.Ytpbbmnfffolcoaa
open Go Go.Ai Go.Proofs

/-- the place that Ask finds, in so many steps -/
def askF (is : List Iv) : Nat → Nat → Option Nat
  | _, 0 => none
  | nx, k + 1 => if opn (is[nx]?.getD iv0) = false then some nx else askF is ((nx + 1) % 128) k
def Bk.ask (b : Bk) (op cl wt : Int) : Bk × Option Nat := match askF b.is b.nx 128 with
  | some i => (⟨b.is.set i ⟨op, cl, wt, []⟩, (i + 1) % 128, b.es⟩, some i)
  | none => (b, none)
theorem askF_lt : ∀ (k : Nat) {is : List Iv} {nx i : Nat}, nx < 128 → askF is nx k = some i → i < 128 ∧ opn (is[i]?.getD iv0) = false
  | 0, is, nx, i, h, e => by cases e
  | k + 1, is, nx, i, h, e => by
    unfold askF at e
    split at e
    · rename_i ho; cases e; exact ⟨h, ho⟩
    · exact askF_lt k (Nat.mod_lt _ (by decide)) e
/-- none is free: all are open -/
theorem askF_none : ∀ (k : Nat) {is : List Iv} {nx : Nat}, askF is nx k = none → ∀ j, j < k → opn (is[(nx + j) % 128]?.getD iv0) = true ∨ 128 ≤ nx
  | 0, is, nx, e, j, hj => by omega
  | k + 1, is, nx, e, j, hj => by
    by_cases hnx : 128 ≤ nx
    · exact .inr hnx
    unfold askF at e
    split at e
    · cases e
    · rename_i ho
      cases j with
      | zero =>
        left
        rw [Nat.add_zero, Nat.mod_eq_of_lt (by omega)]
        simpa using ho
      | succ j =>
        have h128 : (nx + 1) % 128 < 128 := Nat.mod_lt _ (by decide)
        rcases askF_none k e j (by omega) with h | h
        · left
          rw [show (nx + (j + 1)) % 128 = ((nx + 1) % 128 + j) % 128 by omega]; exact h
        · omega
def bad (op cl wt : Int) : Prop := op < 0 ∨ 255 < op ∨ cl < 1 ∨ 4 < cl ∨ wt < 1
/-- what Ask answers -/
def AskP (h : AHeap) (B : Nat) (b : Bk) (dv : Value) (op cl wt : Int) (r : Value) (h' : AHeap) : Prop :=
  (bad op cl wt ∧ r = .tuple #[.int .i64 0, .int .i64 1] ∧ h' = h) ∨ (¬ bad op cl wt ∧ 1048576 < wt ∧ r = .tuple #[.int .i64 0, .int .i64 3] ∧ h' = h) ∨
  (¬ bad op cl wt ∧ wt ≤ 1048576 ∧ WentB h h' B (b.ask op cl wt).1 dv ∧ r = match (b.ask op cl wt).2 with
    | some i => .tuple #[.int .i64 (i : Int), .int .i64 0]
    | none => .tuple #[.int .i64 0, .int .i64 9])
def AskI (h0 : AHeap) (B : Nat) (b : Bk) (rs : List (Iv × Value)) (dv : Value) (op cl wt : Int) (m : Nat) (ρ : Env) (h : AHeap) : Prop := ∃ i nx, i + m = 128 ∧ get ρ 36 = some (.int .i64 (i : Nat)) ∧ get ρ 0 = some (.pointer (some ⟨B, 0, none⟩)) ∧ get ρ 1 = some (.int .i64 op) ∧ get ρ 2 = some (.int .u8 cl) ∧ get ρ 3 = some (.int .i64 wt) ∧
  BkAt h B { b with nx := nx } rs dv ∧ Fr (· = B) h0 h ∧ askF b.is nx m = askF b.is b.nx 128 ∧ nx = (b.nx + i) % 128
def AskM (h0 : AHeap) (B : Nat) (b : Bk) (dv : Value) (ρ : Env) (h : AHeap) : Prop := ∃ rs', BkAt h B b rs' dv ∧ Fr (· = B) h0 h ∧ askF b.is b.nx 128 = none
def AskR (h0 : AHeap) (B : Nat) (b : Bk) (dv : Value) (op cl wt : Int) (ρ : Env) (h : AHeap) : Prop := ∃ i : Nat, get ρ 8 = some (.int .i64 (i : Int)) ∧ get ρ 9 = some (.int .i64 0) ∧ askF b.is b.nx 128 = some i ∧ WentB h0 h B ⟨b.is.set i ⟨op, cl, wt, []⟩, (i + 1) % 128, b.es⟩ dv
theorem WentB.of {h h' : AHeap} {B : Nat} {b : Bk} {rs : List (Iv × Value)} {dv : Value} (A : BkAt h' B b rs dv) (F : Fr (· = B) h h') : WentB h h' B b dv := ⟨rs, dv, A, F.mono fun X h => .inl h, fun X h => .inl h⟩
set_option maxHeartbeats 8000000 in
set_option maxRecDepth 20000 in
theorem ask_ok {h : AHeap} {B : Nat} {b : Bk} {rs : List (Iv × Value)} {dv : Value} {op cl wt : Int} (A : BkAt h B b rs dv) : Valid Try.prog 15 [.pointer (some ⟨B, 0, none⟩), .int .i64 op, .int .u8 cl, .int .i64 wt] h fun r h' => AskP h B b dv op cl wt r h' := by
  refine v15 (by simp) ?_
  by_cases c1 : op < 0
  · simp only [X15, sx, x_box, x_alloc, x_bslice, x_slice, x_append, x_appz, x_b2s, x_s2b, x_mark, xop, ev, evs, evParts, fillL, cellsL, Ai.get, Ai.put, stab, isNil?, if_false, if_true, addr?, int?, str?, agg?, bool?, shiftA, FnPost, xresL, xres1, tup, argEnv, ptr, Nat.reduceEqDiff, reduceIte, beq_self_eq_true, ne_eq, Nat.reduceAdd, Nat.reduceMul, Nat.reduceSub, abin_shl, abin_shr, load1V, loadV, storeV, cellsAt, getN, setN, allocV, lenL, lenS, bnd, oneC, Value.oneCell', Nat.reduceLeDiff, Nat.reduceLT, exists_eq_left', forall_const, reduceCtorEq, app_new, app_new0, List.append_assoc, Int.reduceToNat, Int.reduceLT, Int.reduceLE, Int.reduceEq, Int.reduceNe, Int.reduceBEq, IntKind.bits, bne_self_eq_false, Int.reducePow, c1]
    exact .inl ⟨.inl c1, rfl, rfl⟩
  by_cases c2 : 255 < op
  · simp only [X15, sx, x_box, x_alloc, x_bslice, x_slice, x_append, x_appz, x_b2s, x_s2b, x_mark, xop, ev, evs, evParts, fillL, cellsL, Ai.get, Ai.put, stab, isNil?, if_false, if_true, addr?, int?, str?, agg?, bool?, shiftA, FnPost, xresL, xres1, tup, argEnv, ptr, Nat.reduceEqDiff, reduceIte, beq_self_eq_true, ne_eq, Nat.reduceAdd, Nat.reduceMul, Nat.reduceSub, abin_shl, abin_shr, load1V, loadV, storeV, cellsAt, getN, setN, allocV, lenL, lenS, bnd, oneC, Value.oneCell', Nat.reduceLeDiff, Nat.reduceLT, exists_eq_left', forall_const, reduceCtorEq, app_new, app_new0, List.append_assoc, Int.reduceToNat, Int.reduceLT, Int.reduceLE, Int.reduceEq, Int.reduceNe, Int.reduceBEq, IntKind.bits, bne_self_eq_false, Int.reducePow, c1, c2]
    exact .inl ⟨.inr (.inl c2), rfl, rfl⟩
  by_cases c3 : cl < 1
  · simp only [X15, sx, x_box, x_alloc, x_bslice, x_slice, x_append, x_appz, x_b2s, x_s2b, x_mark, xop, ev, evs, evParts, fillL, cellsL, Ai.get, Ai.put, stab, isNil?, if_false, if_true, addr?, int?, str?, agg?, bool?, shiftA, FnPost, xresL, xres1, tup, argEnv, ptr, Nat.reduceEqDiff, reduceIte, beq_self_eq_true, ne_eq, Nat.reduceAdd, Nat.reduceMul, Nat.reduceSub, abin_shl, abin_shr, load1V, loadV, storeV, cellsAt, getN, setN, allocV, lenL, lenS, bnd, oneC, Value.oneCell', Nat.reduceLeDiff, Nat.reduceLT, exists_eq_left', forall_const, reduceCtorEq, app_new, app_new0, List.append_assoc, Int.reduceToNat, Int.reduceLT, Int.reduceLE, Int.reduceEq, Int.reduceNe, Int.reduceBEq, IntKind.bits, bne_self_eq_false, Int.reducePow, c1, c2, c3]
    exact .inl ⟨.inr (.inr (.inl c3)), rfl, rfl⟩
  by_cases c4 : 4 < cl
  · simp only [X15, sx, x_box, x_alloc, x_bslice, x_slice, x_append, x_appz, x_b2s, x_s2b, x_mark, xop, ev, evs, evParts, fillL, cellsL, Ai.get, Ai.put, stab, isNil?, if_false, if_true, addr?, int?, str?, agg?, bool?, shiftA, FnPost, xresL, xres1, tup, argEnv, ptr, Nat.reduceEqDiff, reduceIte, beq_self_eq_true, ne_eq, Nat.reduceAdd, Nat.reduceMul, Nat.reduceSub, abin_shl, abin_shr, load1V, loadV, storeV, cellsAt, getN, setN, allocV, lenL, lenS, bnd, oneC, Value.oneCell', Nat.reduceLeDiff, Nat.reduceLT, exists_eq_left', forall_const, reduceCtorEq, app_new, app_new0, List.append_assoc, Int.reduceToNat, Int.reduceLT, Int.reduceLE, Int.reduceEq, Int.reduceNe, Int.reduceBEq, IntKind.bits, bne_self_eq_false, Int.reducePow, c1, c2, c3, c4]
    exact .inl ⟨.inr (.inr (.inr (.inl c4))), rfl, rfl⟩
  by_cases c5 : wt < 1
  · simp only [X15, sx, x_box, x_alloc, x_bslice, x_slice, x_append, x_appz, x_b2s, x_s2b, x_mark, xop, ev, evs, evParts, fillL, cellsL, Ai.get, Ai.put, stab, isNil?, if_false, if_true, addr?, int?, str?, agg?, bool?, shiftA, FnPost, xresL, xres1, tup, argEnv, ptr, Nat.reduceEqDiff, reduceIte, beq_self_eq_true, ne_eq, Nat.reduceAdd, Nat.reduceMul, Nat.reduceSub, abin_shl, abin_shr, load1V, loadV, storeV, cellsAt, getN, setN, allocV, lenL, lenS, bnd, oneC, Value.oneCell', Nat.reduceLeDiff, Nat.reduceLT, exists_eq_left', forall_const, reduceCtorEq, app_new, app_new0, List.append_assoc, Int.reduceToNat, Int.reduceLT, Int.reduceLE, Int.reduceEq, Int.reduceNe, Int.reduceBEq, IntKind.bits, bne_self_eq_false, Int.reducePow, c1, c2, c3, c4, c5]
    exact .inl ⟨.inr (.inr (.inr (.inr c5))), rfl, rfl⟩
  have nb : ¬ bad op cl wt := by rintro (h | h | h | h | h) <;> contradiction
  by_cases c6 : 1048576 < wt
  · simp only [X15, sx, x_box, x_alloc, x_bslice, x_slice, x_append, x_appz, x_b2s, x_s2b, x_mark, xop, ev, evs, evParts, fillL, cellsL, Ai.get, Ai.put, stab, isNil?, if_false, if_true, addr?, int?, str?, agg?, bool?, shiftA, FnPost, xresL, xres1, tup, argEnv, ptr, Nat.reduceEqDiff, reduceIte, beq_self_eq_true, ne_eq, Nat.reduceAdd, Nat.reduceMul, Nat.reduceSub, abin_shl, abin_shr, load1V, loadV, storeV, cellsAt, getN, setN, allocV, lenL, lenS, bnd, oneC, Value.oneCell', Nat.reduceLeDiff, Nat.reduceLT, exists_eq_left', forall_const, reduceCtorEq, app_new, app_new0, List.append_assoc, Int.reduceToNat, Int.reduceLT, Int.reduceLE, Int.reduceEq, Int.reduceNe, Int.reduceBEq, IntKind.bits, bne_self_eq_false, Int.reducePow, c1, c2, c3, c4, c5, c6]
    exact .inr (.inl ⟨nb, c6, rfl, rfl⟩)
  simp only [X15, sx, x_box, x_alloc, x_bslice, x_slice, x_append, x_appz, x_b2s, x_s2b, x_mark, xop, ev, evs, evParts, fillL, cellsL, Ai.get, Ai.put, stab, isNil?, if_false, if_true, addr?, int?, str?, agg?, bool?, shiftA, FnPost, xresL, xres1, tup, argEnv, ptr, Nat.reduceEqDiff, reduceIte, beq_self_eq_true, ne_eq, Nat.reduceAdd, Nat.reduceMul, Nat.reduceSub, abin_shl, abin_shr, load1V, loadV, storeV, cellsAt, getN, setN, allocV, lenL, lenS, bnd, oneC, Value.oneCell', Nat.reduceLeDiff, Nat.reduceLT, exists_eq_left', forall_const, reduceCtorEq, app_new, app_new0, List.append_assoc, Int.reduceToNat, Int.reduceLT, Int.reduceLE, Int.reduceEq, Int.reduceNe, Int.reduceBEq, IntKind.bits, bne_self_eq_false, Int.reducePow, c1, c2, c3, c4, c5, c6]
  refine xloop_cut2 (AskM h B b dv) (AskR h B b dv op cl wt) ?_ ?_ ?_
  · refine xcode_loop (AskI h B b rs dv op cl wt) 128 ⟨0, b.nx, by omega, rfl, rfl, rfl, rfl, rfl, A, Fr.refl _ _, rfl, by rw [Nat.add_zero, Nat.mod_eq_of_lt A.nx]⟩ ?_
    have hAnx := A.nx
    clear A
    rintro m ρ g ⟨i, nx, him, g36, g0, g1, g2, g3, A, F, hf, hnx⟩
    by_cases hi : i < 128
    rotate_left
    · have hi' : ¬ (i : Int) < 128 := by omega
      have hm : m = 0 := by omega
      subst hm
      have en : nx = b.nx := by rw [hnx, show i = 128 by omega]; omega
      subst en
      simp only [sx, x_box, x_alloc, x_bslice, x_slice, x_append, x_appz, x_b2s, x_s2b, x_mark, xop, ev, evs, evParts, fillL, cellsL, Ai.get, Ai.put, stab, isNil?, if_false, if_true, addr?, int?, str?, agg?, bool?, shiftA, FnPost, xresL, xres1, tup, argEnv, ptr, Nat.reduceEqDiff, reduceIte, beq_self_eq_true, ne_eq, Nat.reduceAdd, Nat.reduceMul, Nat.reduceSub, abin_shl, abin_shr, load1V, loadV, storeV, cellsAt, getN, setN, allocV, lenL, lenS, bnd, oneC, Value.oneCell', Nat.reduceLeDiff, Nat.reduceLT, exists_eq_left', forall_const, reduceCtorEq, app_new, app_new0, List.append_assoc, Int.reduceToNat, Int.reduceLT, Int.reduceLE, Int.reduceEq, Int.reduceNe, Int.reduceBEq, IntKind.bits, bne_self_eq_false, Int.reducePow, g36, hi']
      exact .inl ⟨rs, A, F, hf.symm⟩
    have hi' : (i : Int) < 128 := by omega
    have wi : IntKind.i64.wrap ((i : Int) + 1) = ((i + 1 : Nat) : Int) := by rw [i64_wrap] <;> omega
    have hnl : nx < 128 := A.nx
    have n128 : ¬ (128 : Int) = 0 := by decide
    have wn : IntKind.i64.wrap ((nx : Int) + 1) = ((nx + 1 : Nat) : Int) := by rw [i64_wrap] <;> omega
    have wm : (((nx + 1 : Nat) : Int)).tmod 128 = (((nx + 1) % 128 : Nat) : Int) := by rw [Int.tmod_eq_emod_of_nonneg (by omega)]; omega
    have hn0 : (0 : Int) ≤ (nx : Int) := by omega
    have hn1 : (nx : Int) < 128 := by omega
    have hB := A.obj
    simp only at hB
    obtain ⟨x, hx, hix⟩ := A.cls hnl
    simp only at hix
    have e0 := tail0 A.n (.int .i64 (nx : Int)) dv
    have eS := tailS0 A.n (.int .i64 (nx : Int)) dv (.int .i64 (((nx + 1) % 128 : Nat) : Int))
    have eL := tailL A.n (.int .i64 (nx : Int)) dv
    have hle : 513 ≤ 514 := by decide
    have A2 := A.put (b' := { b with nx := (nx + 1) % 128 }) A.fst A.n (Nat.mod_lt _ (by decide)) rfl fun y hy => .inl hy
    have F2 : Fr (· = B) h (g.set B (some ⟨true, rowsB rs ++ [.int .i64 (((nx + 1) % 128 : Nat) : Int), dv]⟩)) := F.trans (Fr.set (S := (· = B)) _ rfl) fun X hX => .inl hX
    have hBs : ∀ y : Option AObj, (g.set B y)[B]? = some y := fun y => List.getElem?_set_self (lt_of_get hB)
    have hc := (rowsB_get (t := [.int .i64 (((nx + 1) % 128 : Nat) : Int), dv]) hx).2 1 (by decide)
    have hc' : (rwC x)[1]? = some (.int .u8 x.1.cl) := rfl
    rw [hc'] at hc
    have hget : (b.is[nx]?.getD iv0) = x.1 := by rw [hix]; rfl
    by_cases hz : x.1.cl = 0
    · have hop : opn (b.is[nx]?.getD iv0) = false := by rw [hget]; unfold opn; simp [hz]
      have hfm : askF b.is b.nx 128 = some nx := by
        rw [← hf]
        obtain ⟨m', rfl⟩ : ∃ m', m = m' + 1 := ⟨m - 1, by omega⟩
        unfold askF; rw [if_pos hop]
      have hset := rowsB_set (t := [.int .i64 (((nx + 1) % 128 : Nat) : Int), dv]) (⟨op, cl, wt, []⟩, .slice none 0 0) hx
      simp only [rwC, setN] at hset
      have eL2 := tailL A.n (.int .i64 (((nx + 1) % 128 : Nat) : Int)) dv
      have hle4 : nx * 4 + 4 ≤ 514 := by omega
      simp only [sx, x_box, x_alloc, x_bslice, x_slice, x_append, x_appz, x_b2s, x_s2b, x_mark, xop, ev, evs, evParts, fillL, cellsL, Ai.get, Ai.put, stab, isNil?, if_false, if_true, addr?, int?, str?, agg?, bool?, shiftA, FnPost, xresL, xres1, tup, argEnv, ptr, Nat.reduceEqDiff, reduceIte, beq_self_eq_true, ne_eq, Nat.reduceAdd, Nat.reduceMul, Nat.reduceSub, abin_shl, abin_shr, load1V, loadV, storeV, cellsAt, setN, allocV, lenL, lenS, bnd, oneC, Value.oneCell', Nat.reduceLeDiff, Nat.reduceLT, exists_eq_left', forall_const, reduceCtorEq, app_new, app_new0, List.append_assoc, Int.reduceToNat, Int.reduceLT, Int.reduceLE, Int.reduceEq, Int.reduceNe, Int.reduceBEq, IntKind.bits, bne_self_eq_false, Int.reducePow, abin_rem, g36, g0, g1, g2, g3, hi', hB, hBs, n128, wn, wm, hn0, hn1, e0, eS, eL, eL2, hle, hle4, hc, hz, hset, List.set_set]
      refine .inr ⟨nx, rfl, rfl, hfm, ?_⟩
      have A3 := A2.put (b' := ⟨b.is.set nx ⟨op, cl, wt, []⟩, (nx + 1) % 128, b.es⟩) (rs' := rs.set nx (⟨op, cl, wt, []⟩, .slice none 0 0)) (by rw [List.map_set, A.fst]) (by rw [List.length_set, A.n]) (Nat.mod_lt _ (by decide)) rfl fun y hy => by
        rcases List.mem_or_eq_of_mem_set hy with h | rfl
        · exact .inl h
        · exact .inr (BytesV.nil _)
      rw [List.set_set] at A3
      exact WentB.of A3 (F.trans (Fr.set (S := (· = B)) _ rfl) fun X hX => .inl hX)
    · simp only [sx, x_box, x_alloc, x_bslice, x_slice, x_append, x_appz, x_b2s, x_s2b, x_mark, xop, ev, evs, evParts, fillL, cellsL, Ai.get, Ai.put, stab, isNil?, if_false, if_true, addr?, int?, str?, agg?, bool?, shiftA, FnPost, xresL, xres1, tup, argEnv, ptr, Nat.reduceEqDiff, reduceIte, beq_self_eq_true, ne_eq, Nat.reduceAdd, Nat.reduceMul, Nat.reduceSub, abin_shl, abin_shr, load1V, loadV, storeV, cellsAt, setN, allocV, lenL, lenS, bnd, oneC, Value.oneCell', Nat.reduceLeDiff, Nat.reduceLT, exists_eq_left', forall_const, reduceCtorEq, app_new, app_new0, List.append_assoc, Int.reduceToNat, Int.reduceLT, Int.reduceLE, Int.reduceEq, Int.reduceNe, Int.reduceBEq, IntKind.bits, bne_self_eq_false, Int.reducePow, abin_rem, g36, g0, g1, g2, g3, hi', hB, hBs, n128, wn, wm, hn0, hn1, e0, eS, eL, hle, hc, hz, wi]
      refine ⟨m - 1, by omega, i + 1, (nx + 1) % 128, by omega, rfl, g0, g1, g2, g3, A2, F2, ?_, by omega⟩
      rw [← hf]
      obtain ⟨m', rfl⟩ : ∃ m', m = m' + 1 := ⟨m - 1, by omega⟩
      have hop : ¬ opn (b.is[nx]?.getD iv0) = false := by rw [hget]; unfold opn; simp [hz]
      show askF b.is ((nx + 1) % 128) (m' + 1 - 1) = _
      conv => rhs; unfold askF
      rw [if_neg hop]; rfl
  · rintro ρ g ⟨rs', A', F, hf⟩
    simp only [sx, x_box, x_alloc, x_bslice, x_slice, x_append, x_appz, x_b2s, x_s2b, x_mark, xop, ev, evs, evParts, fillL, cellsL, Ai.get, Ai.put, stab, isNil?, if_false, if_true, addr?, int?, str?, agg?, bool?, shiftA, FnPost, xresL, xres1, tup, argEnv, ptr, Nat.reduceEqDiff, reduceIte, beq_self_eq_true, ne_eq, Nat.reduceAdd, Nat.reduceMul, Nat.reduceSub, abin_shl, abin_shr, load1V, loadV, storeV, cellsAt, getN, setN, allocV, lenL, lenS, bnd, oneC, Value.oneCell', Nat.reduceLeDiff, Nat.reduceLT, exists_eq_left', forall_const, reduceCtorEq, app_new, app_new0, List.append_assoc, Int.reduceToNat, Int.reduceLT, Int.reduceLE, Int.reduceEq, Int.reduceNe, Int.reduceBEq, IntKind.bits, bne_self_eq_false, Int.reducePow]
    refine .inr (.inr ⟨nb, by omega, ?_, ?_⟩)
    · unfold Bk.ask; rw [hf]; exact WentB.of A' F
    · unfold Bk.ask; rw [hf]
  · rintro ρ g ⟨i, g8, g9, hf, Wt⟩
    simp only [sx, x_box, x_alloc, x_bslice, x_slice, x_append, x_appz, x_b2s, x_s2b, x_mark, xop, ev, evs, evParts, fillL, cellsL, Ai.get, Ai.put, stab, isNil?, if_false, if_true, addr?, int?, str?, agg?, bool?, shiftA, FnPost, xresL, xres1, tup, argEnv, ptr, Nat.reduceEqDiff, reduceIte, beq_self_eq_true, ne_eq, Nat.reduceAdd, Nat.reduceMul, Nat.reduceSub, abin_shl, abin_shr, load1V, loadV, storeV, cellsAt, getN, setN, allocV, lenL, lenS, bnd, oneC, Value.oneCell', Nat.reduceLeDiff, Nat.reduceLT, exists_eq_left', forall_const, reduceCtorEq, app_new, app_new0, List.append_assoc, Int.reduceToNat, Int.reduceLT, Int.reduceLE, Int.reduceEq, Int.reduceNe, Int.reduceBEq, IntKind.bits, bne_self_eq_false, Int.reducePow, g8, g9]
    refine .inr (.inr ⟨nb, by omega, ?_, ?_⟩)
    · unfold Bk.ask; rw [hf]; exact Wt
    · unfold Bk.ask; rw [hf]
end Go.Proofs.Ytpbbmnfffolcoaa
