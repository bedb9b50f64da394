import Derived.Test.YtpbbmnfffolcoaaB1
set_option linter.unusedVariables false
set_option linter.unusedSimpArgs false
namespace Go.Proofs.Ytpbbmnfffolcoaa
open Go Go.Ai Go.Proofs

theorem tail0 {rs : List (Iv × Value)} (hn : rs.length = 128) (a c : Value) : (rowsB rs ++ [a, c])[512]? = some a := by
  rw [List.getElem?_append_right (by rw [rowsB_len]; omega), rowsB_len, hn]; rfl
theorem tail1 {rs : List (Iv × Value)} (hn : rs.length = 128) (a c : Value) : (rowsB rs ++ [a, c])[513]? = some c := by
  rw [List.getElem?_append_right (by rw [rowsB_len]; omega), rowsB_len, hn]; rfl
theorem tailS0 {rs : List (Iv × Value)} (hn : rs.length = 128) (a c x : Value) : (rowsB rs ++ [a, c]).set 512 x = rowsB rs ++ [x, c] := by
  rw [List.set_append_right _ _ (by rw [rowsB_len]; omega), rowsB_len, hn]; rfl
theorem tailS1 {rs : List (Iv × Value)} (hn : rs.length = 128) (a c x : Value) : (rowsB rs ++ [a, c]).set 513 x = rowsB rs ++ [a, x] := by
  rw [List.set_append_right _ _ (by rw [rowsB_len]; omega), rowsB_len, hn]; rfl
theorem tailL {rs : List (Iv × Value)} (hn : rs.length = 128) (a c : Value) : (rowsB rs ++ [a, c]).length = 514 := by
  rw [List.length_append, rowsB_len, hn]; rfl
/-- the object's cells are put in anew -/
theorem BkAt.put {h : AHeap} {B : Nat} {b b' : Bk} {rs rs' : List (Iv × Value)} {dv : Value} (A : BkAt h B b rs dv) (h1 : rs'.map Prod.fst = b'.is) (h2 : rs'.length = 128) (h3 : b'.nx < 128) (h4 : b'.es = b.es) (h5 : ∀ x ∈ rs', x ∈ rs ∨ BytesV h x.2 x.1.pb) :
    BkAt (h.set B (some ⟨true, rowsB rs' ++ [.int .i64 (b'.nx : Int), dv]⟩)) B b' rs' dv := by
  have z : Frz h (h.set B (some ⟨true, rowsB rs' ++ [.int .i64 (b'.nx : Int), dv]⟩)) := fun X cs hX => by
    rw [set_ne (fun e => by subst e; rw [A.obj] at hX; cases hX)]; exact hX
  refine ⟨List.getElem?_set_self (lt_of_get A.obj), h1, h2, h3, fun x hx => ?_, ?_, A.s⟩
  · rcases h5 x hx with h | h
    · exact (A.pv x h).frz z
    · exact h.frz z
  · rw [h4]; exact A.eq.keep z fun X hX => set_ne (fun e => A.s X hX e.symm) _
def opn (x : Iv) : Bool := decide (x.cl ≠ 0)
def Bk.cnt (b : Bk) : Nat := b.is.countP opn
theorem isO_at {b : Bk} {i : Nat} {x : Iv} (hi : i < 128) (h : b.is[i]? = some x) : b.isO (i : Int) = opn x := by
  unfold Bk.isO opn
  rw [Int.toNat_natCast, h]
  have : decide (0 ≤ (i : Int) ∧ (i : Int) < 128) = true := by rw [decide_eq_true_iff]; omega
  rw [this]; rfl
def OpI (h0 : AHeap) (B : Nat) (b : Bk) (m : Nat) (ρ : Env) (h : AHeap) : Prop := ∃ i, i + m = 128 ∧ get ρ 4 = some (.int .i64 (i : Nat)) ∧ get ρ 0 = some (.pointer (some ⟨B, 0, none⟩)) ∧ get ρ 2 = some (.int .i64 (((b.is.take i).countP opn : Nat) : Int)) ∧ h = h0
theorem open_ok {h : AHeap} {B : Nat} {b : Bk} {rs : List (Iv × Value)} {dv : Value} (A : BkAt h B b rs dv) : Valid Try.prog 10 [.pointer (some ⟨B, 0, none⟩)] h fun r h' => r = .int .i64 (b.cnt : Int) ∧ h' = h := by
  refine v10 (by simp) ?_
  simp only [X10, sx, x_box, x_alloc, x_bslice, x_slice, x_append, x_appz, x_b2s, x_s2b, x_mark, xop, ev, evs, evParts, fillL, cellsL, Ai.get, Ai.put, stab, isNil?, if_false, if_true, addr?, int?, str?, agg?, bool?, shiftA, FnPost, xresL, xres1, tup, argEnv, ptr, Nat.reduceEqDiff, reduceIte, beq_self_eq_true, ne_eq, Nat.reduceAdd, Nat.reduceMul, Nat.reduceSub, abin_shl, abin_shr, load1V, loadV, storeV, cellsAt, getN, setN, allocV, lenL, lenS, bnd, oneC, Value.oneCell', Nat.reduceLeDiff, Nat.reduceLT, exists_eq_left', forall_const, reduceCtorEq, app_new, app_new0, List.append_assoc, Int.reduceToNat, Int.reduceLT, Int.reduceLE, Int.reduceEq, Int.reduceNe, Int.reduceBEq, IntKind.bits, bne_self_eq_false, Int.reducePow]
  refine xloop_cut (fun ρ h' => get ρ 2 = some (.int .i64 (b.cnt : Int)) ∧ h' = h) ?_ ?_
  · refine xcode_loop (OpI h B b) 128 ⟨0, by omega, rfl, rfl, rfl, rfl⟩ ?_
    rintro m ρ h' ⟨i, him, g4, g0, g2, rfl⟩
    by_cases hi : i < 128
    · have hi' : (i : Int) < 128 := by omega
      have wi : IntKind.i64.wrap ((i : Int) + 1) = ((i + 1 : Nat) : Int) := by rw [i64_wrap] <;> omega
      obtain ⟨x, hx, hix⟩ := A.cls hi
      have hcl : (b.is.take i).countP opn ≤ 128 := Nat.le_trans List.countP_le_length (by rw [List.length_take, A.len]; omega)
      have wc : IntKind.i64.wrap ((((b.is.take i).countP opn : Nat) : Int) + 1) = (((b.is.take i).countP opn + 1 : Nat) : Int) := by rw [i64_wrap] <;> omega
      have ec : (b.is.take (i + 1)).countP opn = (b.is.take i).countP opn + if opn x.1 then 1 else 0 := by
        rw [List.take_add_one, hix, List.countP_append]; simp [List.countP_cons]
      simp only [sx, x_box, x_alloc, x_bslice, x_slice, x_append, x_appz, x_b2s, x_s2b, x_mark, xop, ev, evs, evParts, fillL, cellsL, Ai.get, Ai.put, stab, isNil?, if_false, if_true, addr?, int?, str?, agg?, bool?, shiftA, FnPost, xresL, xres1, tup, argEnv, ptr, Nat.reduceEqDiff, reduceIte, beq_self_eq_true, ne_eq, Nat.reduceAdd, Nat.reduceMul, Nat.reduceSub, abin_shl, abin_shr, load1V, loadV, storeV, cellsAt, getN, setN, allocV, lenL, lenS, bnd, oneC, Value.oneCell', Nat.reduceLeDiff, Nat.reduceLT, exists_eq_left', forall_const, reduceCtorEq, app_new, app_new0, List.append_assoc, Int.reduceToNat, Int.reduceLT, Int.reduceLE, Int.reduceEq, Int.reduceNe, Int.reduceBEq, IntKind.bits, bne_self_eq_false, Int.reducePow, g4, g0, hi']
      refine xcall (is_ok (id := (i : Int)) A) (by rfl) (by rfl) (by rfl) (by rfl) ?_
      rintro r h2 ⟨rfl, e0⟩
      subst e0
      rw [isO_at hi hix]
      cases ho : opn x.1
      · rw [ho] at ec
        simp only [sx, x_box, x_alloc, x_bslice, x_slice, x_append, x_appz, x_b2s, x_s2b, x_mark, xop, ev, evs, evParts, fillL, cellsL, Ai.get, Ai.put, stab, isNil?, if_false, if_true, addr?, int?, str?, agg?, bool?, shiftA, FnPost, xresL, xres1, tup, argEnv, ptr, Nat.reduceEqDiff, reduceIte, beq_self_eq_true, ne_eq, Nat.reduceAdd, Nat.reduceMul, Nat.reduceSub, abin_shl, abin_shr, load1V, loadV, storeV, cellsAt, getN, setN, allocV, lenL, lenS, bnd, oneC, Value.oneCell', Nat.reduceLeDiff, Nat.reduceLT, exists_eq_left', forall_const, reduceCtorEq, app_new, app_new0, List.append_assoc, Int.reduceToNat, Int.reduceLT, Int.reduceLE, Int.reduceEq, Int.reduceNe, Int.reduceBEq, IntKind.bits, bne_self_eq_false, Int.reducePow, g4, wi]
        exact ⟨m - 1, by omega, i + 1, by omega, rfl, g0, by rw [ec]; exact g2, rfl⟩
      · rw [ho, if_pos rfl] at ec
        simp only [sx, x_box, x_alloc, x_bslice, x_slice, x_append, x_appz, x_b2s, x_s2b, x_mark, xop, ev, evs, evParts, fillL, cellsL, Ai.get, Ai.put, stab, isNil?, if_false, if_true, addr?, int?, str?, agg?, bool?, shiftA, FnPost, xresL, xres1, tup, argEnv, ptr, Nat.reduceEqDiff, reduceIte, beq_self_eq_true, ne_eq, Nat.reduceAdd, Nat.reduceMul, Nat.reduceSub, abin_shl, abin_shr, load1V, loadV, storeV, cellsAt, getN, setN, allocV, lenL, lenS, bnd, oneC, Value.oneCell', Nat.reduceLeDiff, Nat.reduceLT, exists_eq_left', forall_const, reduceCtorEq, app_new, app_new0, List.append_assoc, Int.reduceToNat, Int.reduceLT, Int.reduceLE, Int.reduceEq, Int.reduceNe, Int.reduceBEq, IntKind.bits, bne_self_eq_false, Int.reducePow, g4, g2, wi, wc]
        exact ⟨m - 1, by omega, i + 1, by omega, rfl, g0, by rw [ec]; rfl, rfl⟩
    · have hi' : ¬ (i : Int) < 128 := by omega
      simp only [sx, x_box, x_alloc, x_bslice, x_slice, x_append, x_appz, x_b2s, x_s2b, x_mark, xop, ev, evs, evParts, fillL, cellsL, Ai.get, Ai.put, stab, isNil?, if_false, if_true, addr?, int?, str?, agg?, bool?, shiftA, FnPost, xresL, xres1, tup, argEnv, ptr, Nat.reduceEqDiff, reduceIte, beq_self_eq_true, ne_eq, Nat.reduceAdd, Nat.reduceMul, Nat.reduceSub, abin_shl, abin_shr, load1V, loadV, storeV, cellsAt, getN, setN, allocV, lenL, lenS, bnd, oneC, Value.oneCell', Nat.reduceLeDiff, Nat.reduceLT, exists_eq_left', forall_const, reduceCtorEq, app_new, app_new0, List.append_assoc, Int.reduceToNat, Int.reduceLT, Int.reduceLE, Int.reduceEq, Int.reduceNe, Int.reduceBEq, IntKind.bits, bne_self_eq_false, Int.reducePow, g4, hi']
      rw [List.take_of_length_le (by rw [A.len]; omega)] at g2
      first | exact ⟨g2, rfl⟩ | exact g2
  · rintro ρ h' ⟨g2, e0⟩
    subst e0
    simp only [sx, x_box, x_alloc, x_bslice, x_slice, x_append, x_appz, x_b2s, x_s2b, x_mark, xop, ev, evs, evParts, fillL, cellsL, Ai.get, Ai.put, stab, isNil?, if_false, if_true, addr?, int?, str?, agg?, bool?, shiftA, FnPost, xresL, xres1, tup, argEnv, ptr, Nat.reduceEqDiff, reduceIte, beq_self_eq_true, ne_eq, Nat.reduceAdd, Nat.reduceMul, Nat.reduceSub, abin_shl, abin_shr, load1V, loadV, storeV, cellsAt, getN, setN, allocV, lenL, lenS, bnd, oneC, Value.oneCell', Nat.reduceLeDiff, Nat.reduceLT, exists_eq_left', forall_const, reduceCtorEq, app_new, app_new0, List.append_assoc, Int.reduceToNat, Int.reduceLT, Int.reduceLE, Int.reduceEq, Int.reduceNe, Int.reduceBEq, IntKind.bits, bne_self_eq_false, Int.reducePow, g2]
def OnI (h0 : AHeap) (m : Nat) (ρ : Env) (h : AHeap) : Prop := ∃ i : Nat, i + m = 128 ∧ get ρ 4 = some (.int .i64 (i : Nat)) ∧ get ρ 0 = some (.pointer none) ∧ get ρ 2 = some (.int .i64 0) ∧ h = h0
theorem open_nil {h : AHeap} : Valid Try.prog 10 [.pointer none] h fun r h' => r = .int .i64 0 ∧ h' = h := by
  refine v10 (by simp) ?_
  simp only [X10, sx, x_box, x_alloc, x_bslice, x_slice, x_append, x_appz, x_b2s, x_s2b, x_mark, xop, ev, evs, evParts, fillL, cellsL, Ai.get, Ai.put, stab, isNil?, if_false, if_true, addr?, int?, str?, agg?, bool?, shiftA, FnPost, xresL, xres1, tup, argEnv, ptr, Nat.reduceEqDiff, reduceIte, beq_self_eq_true, ne_eq, Nat.reduceAdd, Nat.reduceMul, Nat.reduceSub, abin_shl, abin_shr, load1V, loadV, storeV, cellsAt, getN, setN, allocV, lenL, lenS, bnd, oneC, Value.oneCell', Nat.reduceLeDiff, Nat.reduceLT, exists_eq_left', forall_const, reduceCtorEq, app_new, app_new0, List.append_assoc, Int.reduceToNat, Int.reduceLT, Int.reduceLE, Int.reduceEq, Int.reduceNe, Int.reduceBEq, IntKind.bits, bne_self_eq_false, Int.reducePow]
  refine xloop_cut (fun ρ h' => get ρ 2 = some (.int .i64 0) ∧ h' = h) ?_ ?_
  · refine xcode_loop (OnI h) 128 ⟨0, by omega, rfl, rfl, rfl, rfl⟩ ?_
    rintro m ρ h' ⟨i, him, g4, g0, g2, rfl⟩
    by_cases hi : i < 128
    · have hi' : (i : Int) < 128 := by omega
      have wi : IntKind.i64.wrap ((i : Int) + 1) = ((i + 1 : Nat) : Int) := by rw [i64_wrap] <;> omega
      simp only [sx, x_box, x_alloc, x_bslice, x_slice, x_append, x_appz, x_b2s, x_s2b, x_mark, xop, ev, evs, evParts, fillL, cellsL, Ai.get, Ai.put, stab, isNil?, if_false, if_true, addr?, int?, str?, agg?, bool?, shiftA, FnPost, xresL, xres1, tup, argEnv, ptr, Nat.reduceEqDiff, reduceIte, beq_self_eq_true, ne_eq, Nat.reduceAdd, Nat.reduceMul, Nat.reduceSub, abin_shl, abin_shr, load1V, loadV, storeV, cellsAt, getN, setN, allocV, lenL, lenS, bnd, oneC, Value.oneCell', Nat.reduceLeDiff, Nat.reduceLT, exists_eq_left', forall_const, reduceCtorEq, app_new, app_new0, List.append_assoc, Int.reduceToNat, Int.reduceLT, Int.reduceLE, Int.reduceEq, Int.reduceNe, Int.reduceBEq, IntKind.bits, bne_self_eq_false, Int.reducePow, g4, g0, hi']
      refine xcall (is_nil (v := .int .i64 (i : Int))) (by rfl) (by rfl) (by rfl) (by rfl) ?_
      rintro r h2 ⟨rfl, e0⟩
      subst e0
      simp only [sx, x_box, x_alloc, x_bslice, x_slice, x_append, x_appz, x_b2s, x_s2b, x_mark, xop, ev, evs, evParts, fillL, cellsL, Ai.get, Ai.put, stab, isNil?, if_false, if_true, addr?, int?, str?, agg?, bool?, shiftA, FnPost, xresL, xres1, tup, argEnv, ptr, Nat.reduceEqDiff, reduceIte, beq_self_eq_true, ne_eq, Nat.reduceAdd, Nat.reduceMul, Nat.reduceSub, abin_shl, abin_shr, load1V, loadV, storeV, cellsAt, getN, setN, allocV, lenL, lenS, bnd, oneC, Value.oneCell', Nat.reduceLeDiff, Nat.reduceLT, exists_eq_left', forall_const, reduceCtorEq, app_new, app_new0, List.append_assoc, Int.reduceToNat, Int.reduceLT, Int.reduceLE, Int.reduceEq, Int.reduceNe, Int.reduceBEq, IntKind.bits, bne_self_eq_false, Int.reducePow, g4, wi]
      exact ⟨m - 1, by omega, i + 1, by omega, rfl, g0, g2, rfl⟩
    · have hi' : ¬ (i : Int) < 128 := by omega
      simp only [sx, x_box, x_alloc, x_bslice, x_slice, x_append, x_appz, x_b2s, x_s2b, x_mark, xop, ev, evs, evParts, fillL, cellsL, Ai.get, Ai.put, stab, isNil?, if_false, if_true, addr?, int?, str?, agg?, bool?, shiftA, FnPost, xresL, xres1, tup, argEnv, ptr, Nat.reduceEqDiff, reduceIte, beq_self_eq_true, ne_eq, Nat.reduceAdd, Nat.reduceMul, Nat.reduceSub, abin_shl, abin_shr, load1V, loadV, storeV, cellsAt, getN, setN, allocV, lenL, lenS, bnd, oneC, Value.oneCell', Nat.reduceLeDiff, Nat.reduceLT, exists_eq_left', forall_const, reduceCtorEq, app_new, app_new0, List.append_assoc, Int.reduceToNat, Int.reduceLT, Int.reduceLE, Int.reduceEq, Int.reduceNe, Int.reduceBEq, IntKind.bits, bne_self_eq_false, Int.reducePow, g4, hi']
      first | exact ⟨g2, rfl⟩ | exact g2
  · rintro ρ h' ⟨g2, e0⟩
    subst e0
    simp only [sx, x_box, x_alloc, x_bslice, x_slice, x_append, x_appz, x_b2s, x_s2b, x_mark, xop, ev, evs, evParts, fillL, cellsL, Ai.get, Ai.put, stab, isNil?, if_false, if_true, addr?, int?, str?, agg?, bool?, shiftA, FnPost, xresL, xres1, tup, argEnv, ptr, Nat.reduceEqDiff, reduceIte, beq_self_eq_true, ne_eq, Nat.reduceAdd, Nat.reduceMul, Nat.reduceSub, abin_shl, abin_shr, load1V, loadV, storeV, cellsAt, getN, setN, allocV, lenL, lenS, bnd, oneC, Value.oneCell', Nat.reduceLeDiff, Nat.reduceLT, exists_eq_left', forall_const, reduceCtorEq, app_new, app_new0, List.append_assoc, Int.reduceToNat, Int.reduceLT, Int.reduceLE, Int.reduceEq, Int.reduceNe, Int.reduceBEq, IntKind.bits, bne_self_eq_false, Int.reducePow, g2]
def Bk.nil : Bk := ⟨List.replicate 128 iv0, 0, []⟩
theorem zero_cells : rowsB (List.replicate 128 (iv0, Value.slice none 0 0)) ++ [.int .i64 ((0 : Nat) : Int), .slice none 0 0] = (List.replicate 128 [Value.int .i64 0, .int .u8 0, .int .i64 0, .slice none 0 0]).flatten ++ [.int .i64 0, .slice none 0 0] := by
  unfold rowsB
  rw [List.flatMap_replicate]; rfl
theorem BkAt.zero {h : AHeap} {B : Nat} (hB : h[B]? = some (some ⟨true, (List.replicate 128 [Value.int .i64 0, .int .u8 0, .int .i64 0, .slice none 0 0]).flatten ++ [.int .i64 0, .slice none 0 0]⟩)) : BkAt h B Bk.nil (List.replicate 128 (iv0, .slice none 0 0)) (.slice none 0 0) := by
  refine ⟨by rw [hB, ← zero_cells]; rfl, by simp [Bk.nil], by simp, by decide, fun x hx => ?_, EQ.nil _, fun X hX => by cases hX⟩
  have : x = (iv0, .slice none 0 0) := List.eq_of_mem_replicate hx
  subst this
  exact BytesV.nil _
set_option maxRecDepth 100000 in
set_option maxHeartbeats 4000000 in
theorem new_ok {h : AHeap} : Valid Try.prog 8 [] h fun r h' => ∃ B, r = .pointer (some ⟨B, 0, none⟩) ∧ BkAt h' B Bk.nil (List.replicate 128 (iv0, .slice none 0 0)) (.slice none 0 0) ∧ Kp h h' ∧ h.length ≤ B := by
  refine v8 (by simp) ?_
  simp only [X8, sx, x_alloc, x_bslice, x_slice, x_append, x_appz, x_b2s, x_s2b, x_mark, xop, ev, evs, evParts, fillL, cellsL, Ai.get, Ai.put, stab, isNil?, if_false, if_true, addr?, int?, str?, agg?, bool?, shiftA, FnPost, xresL, xres1, tup, argEnv, ptr, Nat.reduceEqDiff, reduceIte, beq_self_eq_true, ne_eq, Nat.reduceAdd, Nat.reduceMul, Nat.reduceSub, abin_shl, abin_shr, load1V, loadV, storeV, cellsAt, getN, setN, allocV, lenL, lenS, bnd, oneC, Value.oneCell', Nat.reduceLeDiff, Nat.reduceLT, exists_eq_left', forall_const, reduceCtorEq, app_new, app_new0, List.append_assoc, Int.reduceToNat, Int.reduceLT, Int.reduceLE, Int.reduceEq, Int.reduceNe, Int.reduceBEq, IntKind.bits, bne_self_eq_false, Int.reducePow]
  refine box_run rfl fun g R K hR hRl _ => ⟨trivial, ?_⟩
  simp only [sx, x_box, x_alloc, x_bslice, x_slice, x_append, x_appz, x_b2s, x_s2b, x_mark, xop, ev, evs, evParts, fillL, cellsL, Ai.get, Ai.put, stab, isNil?, if_false, if_true, addr?, int?, str?, agg?, bool?, shiftA, FnPost, xresL, xres1, tup, argEnv, ptr, Nat.reduceEqDiff, reduceIte, beq_self_eq_true, ne_eq, Nat.reduceAdd, Nat.reduceMul, Nat.reduceSub, abin_shl, abin_shr, load1V, loadV, storeV, cellsAt, getN, setN, allocV, lenL, lenS, bnd, oneC, Value.oneCell', Nat.reduceLeDiff, Nat.reduceLT, exists_eq_left', forall_const, reduceCtorEq, app_new, app_new0, List.append_assoc, Int.reduceToNat, Int.reduceLT, Int.reduceLE, Int.reduceEq, Int.reduceNe, Int.reduceBEq, IntKind.bits, bne_self_eq_false, Int.reducePow]
  exact ⟨R, rfl, BkAt.zero (by rw [hR]; rfl), K, hRl⟩
end Go.Proofs.Ytpbbmnfffolcoaa
