import Derived.Test.YtimfgagdfmmeeaaDoorG3
set_option linter.unusedVariables false
set_option linter.unusedSimpArgs false
namespace Go.Proofs.YtimfgagdfmmeeaaDoor
open Go Go.Ai Go.Proofs

theorem checkV_zero {zs : List Int} (hl : zs.length ≤ 1048576) (hb : Bits zs) : checkV zs = 0 := by
  unfold checkV
  rw [if_neg (by omega), if_neg]
  rintro ⟨z, hz, h1⟩
  rcases hb z hz with rfl | rfl <;> omega
theorem RN.cr {h : AHeap} {sl : Value} {zs : List Int} (r : RN h sl zs) : CR h sl zs := by
  rcases r with ⟨rfl, rfl⟩ | ⟨A, rfl, hA⟩
  · exact .inl ⟨rfl, .inl rfl⟩
  · exact .inr ⟨A, rfl, hA⟩
def StuffP (h : AHeap) (zs : List Int) (r : Value) (h' : AHeap) : Prop := (checkV zs ≠ 0 ∧ r = .tuple #[.slice none 0 0, .int .i64 (checkV zs)] ∧ h' = h) ∨ (checkV zs = 0 ∧ 1048576 < (stf zs 0).length ∧ r = .tuple #[.slice none 0 0, .int .i64 3] ∧ Ext h h') ∨
  (checkV zs = 0 ∧ (stf zs 0).length ≤ 1048576 ∧ ∃ R, r = .tuple #[.slice (some ⟨R, 0, none⟩) (stf zs 0).length (stf zs 0).length, .int .i64 0] ∧ firstV 1 h' (stf zs 0).length (.slice (some ⟨R, 0, none⟩) (stf zs 0).length (stf zs 0).length) = some (bR (stf zs 0)) ∧ Ext h h' ∧ h.length ≤ R ∧ R < h'.length)
theorem stuff_ok {h : AHeap} {q : Option Addr} {n c : Nat} {zs : List Int} (hf : firstV 1 h n (.slice q n c) = some (bR zs)) (hn : n ≤ 1152921504606846976) (hp : ∀ z ∈ zs, 0 ≤ z) :
    Valid Tryd.prog 27 [.slice q n c] h fun r h' => StuffP h zs r h' := by
  refine v27 (by simp) ?_
  have hzl := firstV_len hf
  rw [bR_len, Nat.mul_one] at hzl
  simp only [X27, sx, x_box, x_alloc, x_bslice, x_slice, x_append, x_appz, x_b2s, x_s2b, x_mark, xop, ev, evs, evParts, fillL, cellsL, Ai.get, Ai.put, stab, isNil?, if_false, if_true, addr?, int?, str?, agg?, bool?, shiftA, FnPost, xresL, xres1, tup, argEnv, ptr, Nat.reduceEqDiff, reduceIte, beq_self_eq_true, ne_eq, Nat.reduceAdd, Nat.reduceMul, Nat.reduceSub, abin_shl, abin_shr, load1V, loadV, storeV, cellsAt, getN, setN, allocV, lenL, lenS, bnd, oneC, Value.oneCell', Nat.reduceLeDiff, Nat.reduceLT, exists_eq_left', forall_const, reduceCtorEq, app_new, app_new0, List.append_assoc, Int.reduceToNat, Int.reduceLT, Int.reduceLE, Int.reduceEq, Int.reduceNe, Int.reduceBEq, IntKind.bits, bne_self_eq_false, Int.reducePow]
  refine xcall (check_still hf hn) (by rfl) (by rfl) (by rfl) (by rfl) ?_
  rintro r g ⟨rfl, e0⟩
  subst e0
  by_cases hc : checkV zs = 0
  · obtain ⟨hl, hb⟩ := checkV_bits hc hp
    simp only [sx, x_box, x_alloc, x_bslice, x_slice, x_append, x_appz, x_b2s, x_s2b, x_mark, xop, ev, evs, evParts, fillL, cellsL, Ai.get, Ai.put, stab, isNil?, if_false, if_true, addr?, int?, str?, agg?, bool?, shiftA, FnPost, xresL, xres1, tup, argEnv, ptr, Nat.reduceEqDiff, reduceIte, beq_self_eq_true, ne_eq, Nat.reduceAdd, Nat.reduceMul, Nat.reduceSub, abin_shl, abin_shr, load1V, loadV, storeV, cellsAt, getN, setN, allocV, lenL, lenS, bnd, oneC, Value.oneCell', Nat.reduceLeDiff, Nat.reduceLT, exists_eq_left', forall_const, reduceCtorEq, app_new, app_new0, List.append_assoc, Int.reduceToNat, Int.reduceLT, Int.reduceLE, Int.reduceEq, Int.reduceNe, Int.reduceBEq, IntKind.bits, bne_self_eq_false, Int.reducePow, hc]
    refine xcall (stuffed_ok hf (by omega) hb) (by rfl) (by rfl) (by rfl) (by rfl) ?_
    rintro r g2 ⟨R, rfl, hf2, E, hR1, hR2⟩
    by_cases hL : 1048576 < (stf zs 0).length
    · have hL' : (1048576 : Int) < ((stf zs 0).length : Nat) := by omega
      simp only [sx, x_box, x_alloc, x_bslice, x_slice, x_append, x_appz, x_b2s, x_s2b, x_mark, xop, ev, evs, evParts, fillL, cellsL, Ai.get, Ai.put, stab, isNil?, if_false, if_true, addr?, int?, str?, agg?, bool?, shiftA, FnPost, xresL, xres1, tup, argEnv, ptr, Nat.reduceEqDiff, reduceIte, beq_self_eq_true, ne_eq, Nat.reduceAdd, Nat.reduceMul, Nat.reduceSub, abin_shl, abin_shr, load1V, loadV, storeV, cellsAt, getN, setN, allocV, lenL, lenS, bnd, oneC, Value.oneCell', Nat.reduceLeDiff, Nat.reduceLT, exists_eq_left', forall_const, reduceCtorEq, app_new, app_new0, List.append_assoc, Int.reduceToNat, Int.reduceLT, Int.reduceLE, Int.reduceEq, Int.reduceNe, Int.reduceBEq, IntKind.bits, bne_self_eq_false, Int.reducePow, hL']
      exact .inr (.inl ⟨hc, hL, rfl, E⟩)
    · have hL' : ¬ (1048576 : Int) < ((stf zs 0).length : Nat) := by omega
      simp only [sx, x_box, x_alloc, x_bslice, x_slice, x_append, x_appz, x_b2s, x_s2b, x_mark, xop, ev, evs, evParts, fillL, cellsL, Ai.get, Ai.put, stab, isNil?, if_false, if_true, addr?, int?, str?, agg?, bool?, shiftA, FnPost, xresL, xres1, tup, argEnv, ptr, Nat.reduceEqDiff, reduceIte, beq_self_eq_true, ne_eq, Nat.reduceAdd, Nat.reduceMul, Nat.reduceSub, abin_shl, abin_shr, load1V, loadV, storeV, cellsAt, getN, setN, allocV, lenL, lenS, bnd, oneC, Value.oneCell', Nat.reduceLeDiff, Nat.reduceLT, exists_eq_left', forall_const, reduceCtorEq, app_new, app_new0, List.append_assoc, Int.reduceToNat, Int.reduceLT, Int.reduceLE, Int.reduceEq, Int.reduceNe, Int.reduceBEq, IntKind.bits, bne_self_eq_false, Int.reducePow, hL']
      exact .inr (.inr ⟨hc, by omega, R, rfl, hf2, E, hR1, hR2⟩)
  · simp only [sx, x_box, x_alloc, x_bslice, x_slice, x_append, x_appz, x_b2s, x_s2b, x_mark, xop, ev, evs, evParts, fillL, cellsL, Ai.get, Ai.put, stab, isNil?, if_false, if_true, addr?, int?, str?, agg?, bool?, shiftA, FnPost, xresL, xres1, tup, argEnv, ptr, Nat.reduceEqDiff, reduceIte, beq_self_eq_true, ne_eq, Nat.reduceAdd, Nat.reduceMul, Nat.reduceSub, abin_shl, abin_shr, load1V, loadV, storeV, cellsAt, getN, setN, allocV, lenL, lenS, bnd, oneC, Value.oneCell', Nat.reduceLeDiff, Nat.reduceLT, exists_eq_left', forall_const, reduceCtorEq, app_new, app_new0, List.append_assoc, Int.reduceToNat, Int.reduceLT, Int.reduceLE, Int.reduceEq, Int.reduceNe, Int.reduceBEq, IntKind.bits, bne_self_eq_false, Int.reducePow, hc]
    exact .inl ⟨hc, rfl, rfl⟩
def UnP (h : AHeap) (zs : List Int) (r : Value) (h' : AHeap) : Prop := (checkV zs ≠ 0 ∧ r = .tuple #[.slice none 0 0, .int .i64 (checkV zs)] ∧ h' = h) ∨ (checkV zs = 0 ∧ unst zs 0 = none ∧ r = .tuple #[.slice none 0 0, .int .i64 4] ∧ Ext h h') ∨
  (checkV zs = 0 ∧ ∃ b q, unst zs 0 = some b ∧ r = .tuple #[.slice q b.length b.length, .int .i64 0] ∧ firstV 1 h' b.length (.slice q b.length b.length) = some (bR b) ∧ Ext h h')
def UnI (g : AHeap) (q : Option Addr) (n c : Nat) (zs : List Int) (m : Nat) (ρ : Env) (h : AHeap) : Prop := ∃ (i k : Nat) (sl : Value) (out : List Int), i + m = n ∧ get ρ 16 = some (.int .i64 (i : Nat)) ∧ get ρ 15 = some (.int .i64 (n : Nat)) ∧ get ρ 14 = some (.slice q n c) ∧ get ρ 5 = some sl ∧ get ρ 6 = some (.int .i64 (k : Nat)) ∧ RN h sl out ∧ Ext g h ∧ (∀ A, slB sl = some A → g.length ≤ A) ∧ unst zs 0 = (unst (zs.drop i) k).map (out ++ ·) ∧ k ≤ 5 ∧ out.length ≤ i
def UnE (g : AHeap) (zs : List Int) (ρ : Env) (h : AHeap) : Prop := ∃ (k : Nat) (sl : Value) (out : List Int), get ρ 5 = some sl ∧ get ρ 6 = some (.int .i64 (k : Nat)) ∧ RN h sl out ∧ Ext g h ∧ unst zs 0 = (if k = 5 then none else some out) ∧ k ≤ 5 ∧ out.length ≤ 1048576
def UnR (g : AHeap) (zs : List Int) (ρ : Env) (h : AHeap) : Prop := get ρ 2 = some (.slice none 0 0) ∧ get ρ 3 = some (.int .i64 4) ∧ unst zs 0 = none ∧ Ext g h
set_option maxHeartbeats 1000000 in
theorem unstuff_ok {h : AHeap} {q : Option Addr} {n c : Nat} {zs : List Int} (hf : firstV 1 h n (.slice q n c) = some (bR zs)) (hn : n ≤ 1152921504606846976) (hp : ∀ z ∈ zs, 0 ≤ z) :
    Valid Tryd.prog 28 [.slice q n c] h fun r h' => UnP h zs r h' := by
  refine v28 (by simp) ?_
  have hzl := firstV_len hf
  rw [bR_len, Nat.mul_one] at hzl
  simp only [X28, sx, x_box, x_alloc, x_bslice, x_slice, x_append, x_appz, x_b2s, x_s2b, x_mark, xop, ev, evs, evParts, fillL, cellsL, Ai.get, Ai.put, stab, isNil?, if_false, if_true, addr?, int?, str?, agg?, bool?, shiftA, FnPost, xresL, xres1, tup, argEnv, ptr, Nat.reduceEqDiff, reduceIte, beq_self_eq_true, ne_eq, Nat.reduceAdd, Nat.reduceMul, Nat.reduceSub, abin_shl, abin_shr, load1V, loadV, storeV, cellsAt, getN, setN, allocV, lenL, lenS, bnd, oneC, Value.oneCell', Nat.reduceLeDiff, Nat.reduceLT, exists_eq_left', forall_const, reduceCtorEq, app_new, app_new0, List.append_assoc, Int.reduceToNat, Int.reduceLT, Int.reduceLE, Int.reduceEq, Int.reduceNe, Int.reduceBEq, IntKind.bits, bne_self_eq_false, Int.reducePow]
  refine xcall (check_still hf hn) (by rfl) (by rfl) (by rfl) (by rfl) ?_
  rintro r g ⟨rfl, e0⟩
  subst e0
  by_cases hc : checkV zs = 0
  rotate_left
  · simp only [sx, x_box, x_alloc, x_bslice, x_slice, x_append, x_appz, x_b2s, x_s2b, x_mark, xop, ev, evs, evParts, fillL, cellsL, Ai.get, Ai.put, stab, isNil?, if_false, if_true, addr?, int?, str?, agg?, bool?, shiftA, FnPost, xresL, xres1, tup, argEnv, ptr, Nat.reduceEqDiff, reduceIte, beq_self_eq_true, ne_eq, Nat.reduceAdd, Nat.reduceMul, Nat.reduceSub, abin_shl, abin_shr, load1V, loadV, storeV, cellsAt, getN, setN, allocV, lenL, lenS, bnd, oneC, Value.oneCell', Nat.reduceLeDiff, Nat.reduceLT, exists_eq_left', forall_const, reduceCtorEq, app_new, app_new0, List.append_assoc, Int.reduceToNat, Int.reduceLT, Int.reduceLE, Int.reduceEq, Int.reduceNe, Int.reduceBEq, IntKind.bits, bne_self_eq_false, Int.reducePow, hc]
    exact .inl ⟨hc, rfl, rfl⟩
  obtain ⟨hl, hb⟩ := checkV_bits hc hp
  simp only [sx, x_box, x_alloc, x_bslice, x_slice, x_append, x_appz, x_b2s, x_s2b, x_mark, xop, ev, evs, evParts, fillL, cellsL, Ai.get, Ai.put, stab, isNil?, if_false, if_true, addr?, int?, str?, agg?, bool?, shiftA, FnPost, xresL, xres1, tup, argEnv, ptr, Nat.reduceEqDiff, reduceIte, beq_self_eq_true, ne_eq, Nat.reduceAdd, Nat.reduceMul, Nat.reduceSub, abin_shl, abin_shr, load1V, loadV, storeV, cellsAt, getN, setN, allocV, lenL, lenS, bnd, oneC, Value.oneCell', Nat.reduceLeDiff, Nat.reduceLT, exists_eq_left', forall_const, reduceCtorEq, app_new, app_new0, List.append_assoc, Int.reduceToNat, Int.reduceLT, Int.reduceLE, Int.reduceEq, Int.reduceNe, Int.reduceBEq, IntKind.bits, bne_self_eq_false, Int.reducePow, hc]
  refine xloop_cut2 (UnE g zs) (UnR g zs) ?_ ?_ ?_
  · refine xcode_loop (UnI g q n c zs) n ⟨0, 0, .slice none 0 0, [], by omega, rfl, rfl, rfl, rfl, rfl, .inl ⟨rfl, rfl⟩, Ext.refl _, (fun A hA => by cases hA), by simp, by decide, by simp⟩ ?_
    rintro m ρ g2 ⟨i, k, sl, out, him, r16, r15, r14, r5, r6, R, E, hgl, hst, hk, hol⟩
    by_cases hi : i < n
    · have hi' : (i : Int) < (n : Nat) := by omega
      have hi0 : (0 : Int) ≤ (i : Int) := by omega
      have wi : IntKind.i64.wrap ((i : Int) + 1) = ((i + 1 : Nat) : Int) := by rw [i64_wrap] <;> omega
      have wk : IntKind.i64.wrap ((k : Int) + 1) = ((k + 1 : Nat) : Int) := by rw [i64_wrap] <;> omega
      obtain ⟨a, o, z, rfl, a1, a2, a3, a4⟩ := elemB (E.first hf) hi
      have hz := hb z (List.mem_of_getElem? a4)
      have hdr := drop_at a4
      rw [hdr, unst] at hst
      by_cases hk5 : k = 5
      · have hk5' : ((k : Nat) : Int) = 5 := by omega
        rw [if_pos hk5] at hst
        rcases hz with rfl | rfl
        · rw [if_neg (by decide)] at hst
          simp only [sx, x_box, x_alloc, x_bslice, x_slice, x_append, x_appz, x_b2s, x_s2b, x_mark, xop, ev, evs, evParts, fillL, cellsL, Ai.get, Ai.put, stab, isNil?, if_false, if_true, addr?, int?, str?, agg?, bool?, shiftA, FnPost, xresL, xres1, tup, argEnv, ptr, Nat.reduceEqDiff, reduceIte, beq_self_eq_true, ne_eq, Nat.reduceAdd, Nat.reduceMul, Nat.reduceSub, abin_shl, abin_shr, load1V, loadV, storeV, cellsAt, getN, setN, allocV, lenL, lenS, bnd, oneC, Value.oneCell', Nat.reduceLeDiff, Nat.reduceLT, exists_eq_left', forall_const, reduceCtorEq, app_new, app_new0, List.append_assoc, Int.reduceToNat, Int.reduceLT, Int.reduceLE, Int.reduceEq, Int.reduceNe, Int.reduceBEq, IntKind.bits, bne_self_eq_false, Int.reducePow, r16, r15, r14, r5, r6, hi', hi0, a1, a2, a3, Nat.mul_one, hk5', wi]
          exact ⟨m - 1, by omega, i + 1, 0, sl, out, by omega, rfl, r15, r14, r5, rfl, R, E, hgl, hst, by decide, by omega⟩
        · rw [if_pos rfl] at hst
          simp only [sx, x_box, x_alloc, x_bslice, x_slice, x_append, x_appz, x_b2s, x_s2b, x_mark, xop, ev, evs, evParts, fillL, cellsL, Ai.get, Ai.put, stab, isNil?, if_false, if_true, addr?, int?, str?, agg?, bool?, shiftA, FnPost, xresL, xres1, tup, argEnv, ptr, Nat.reduceEqDiff, reduceIte, beq_self_eq_true, ne_eq, Nat.reduceAdd, Nat.reduceMul, Nat.reduceSub, abin_shl, abin_shr, load1V, loadV, storeV, cellsAt, getN, setN, allocV, lenL, lenS, bnd, oneC, Value.oneCell', Nat.reduceLeDiff, Nat.reduceLT, exists_eq_left', forall_const, reduceCtorEq, app_new, app_new0, List.append_assoc, Int.reduceToNat, Int.reduceLT, Int.reduceLE, Int.reduceEq, Int.reduceNe, Int.reduceBEq, IntKind.bits, bne_self_eq_false, Int.reducePow, r16, r15, r14, r5, r6, hi', hi0, a1, a2, a3, Nat.mul_one, hk5', wi]
          exact .inr ⟨rfl, rfl, hst, E⟩
      · have hk5' : ¬ ((k : Nat) : Int) = 5 := by omega
        rw [if_neg hk5] at hst
        rcases hz with rfl | rfl
        · rw [if_neg (by decide)] at hst
          simp only [sx, x_box, x_alloc, x_bslice, x_slice, x_appz, x_b2s, x_s2b, x_mark, xop, ev, evs, evParts, fillL, cellsL, Ai.get, Ai.put, stab, isNil?, if_false, if_true, addr?, int?, str?, agg?, bool?, shiftA, FnPost, xresL, xres1, tup, argEnv, ptr, Nat.reduceEqDiff, reduceIte, beq_self_eq_true, ne_eq, Nat.reduceAdd, Nat.reduceMul, Nat.reduceSub, abin_shl, abin_shr, load1V, loadV, storeV, cellsAt, getN, setN, allocV, lenL, lenS, bnd, oneC, Value.oneCell', Nat.reduceLeDiff, Nat.reduceLT, exists_eq_left', forall_const, reduceCtorEq, app_new, app_new0, List.append_assoc, Int.reduceToNat, Int.reduceLT, Int.reduceLE, Int.reduceEq, Int.reduceNe, Int.reduceBEq, IntKind.bits, bne_self_eq_false, Int.reducePow, r16, r15, r14, r5, r6, hi', hi0, a1, a2, a3, Nat.mul_one, hk5', wi]
          refine RN.push R E hgl rfl rfl (by omega) fun sl' g3 R2 E2 hgl2 => ?_
          simp only [sx, x_box, x_alloc, x_bslice, x_slice, x_append, x_appz, x_b2s, x_s2b, x_mark, xop, ev, evs, evParts, fillL, cellsL, Ai.get, Ai.put, stab, isNil?, if_false, if_true, addr?, int?, str?, agg?, bool?, shiftA, FnPost, xresL, xres1, tup, argEnv, ptr, Nat.reduceEqDiff, reduceIte, beq_self_eq_true, ne_eq, Nat.reduceAdd, Nat.reduceMul, Nat.reduceSub, abin_shl, abin_shr, load1V, loadV, storeV, cellsAt, getN, setN, allocV, lenL, lenS, bnd, oneC, Value.oneCell', Nat.reduceLeDiff, Nat.reduceLT, exists_eq_left', forall_const, reduceCtorEq, app_new, app_new0, List.append_assoc, Int.reduceToNat, Int.reduceLT, Int.reduceLE, Int.reduceEq, Int.reduceNe, Int.reduceBEq, IntKind.bits, bne_self_eq_false, Int.reducePow, r16, r15, wi]
          exact ⟨m - 1, by omega, i + 1, 0, sl', out ++ [0], by omega, rfl, r15, r14, rfl, rfl, R2, E2, hgl2, by rw [hst, Option.map_map]; congr 1; funext x; simp, by decide, by simp; omega⟩
        · rw [if_pos rfl] at hst
          simp only [sx, x_box, x_alloc, x_bslice, x_slice, x_appz, x_b2s, x_s2b, x_mark, xop, ev, evs, evParts, fillL, cellsL, Ai.get, Ai.put, stab, isNil?, if_false, if_true, addr?, int?, str?, agg?, bool?, shiftA, FnPost, xresL, xres1, tup, argEnv, ptr, Nat.reduceEqDiff, reduceIte, beq_self_eq_true, ne_eq, Nat.reduceAdd, Nat.reduceMul, Nat.reduceSub, abin_shl, abin_shr, load1V, loadV, storeV, cellsAt, getN, setN, allocV, lenL, lenS, bnd, oneC, Value.oneCell', Nat.reduceLeDiff, Nat.reduceLT, exists_eq_left', forall_const, reduceCtorEq, app_new, app_new0, List.append_assoc, Int.reduceToNat, Int.reduceLT, Int.reduceLE, Int.reduceEq, Int.reduceNe, Int.reduceBEq, IntKind.bits, bne_self_eq_false, Int.reducePow, r16, r15, r14, r5, r6, hi', hi0, a1, a2, a3, Nat.mul_one, hk5', wi, wk]
          refine RN.push R E hgl rfl rfl (by omega) fun sl' g3 R2 E2 hgl2 => ?_
          simp only [sx, x_box, x_alloc, x_bslice, x_slice, x_append, x_appz, x_b2s, x_s2b, x_mark, xop, ev, evs, evParts, fillL, cellsL, Ai.get, Ai.put, stab, isNil?, if_false, if_true, addr?, int?, str?, agg?, bool?, shiftA, FnPost, xresL, xres1, tup, argEnv, ptr, Nat.reduceEqDiff, reduceIte, beq_self_eq_true, ne_eq, Nat.reduceAdd, Nat.reduceMul, Nat.reduceSub, abin_shl, abin_shr, load1V, loadV, storeV, cellsAt, getN, setN, allocV, lenL, lenS, bnd, oneC, Value.oneCell', Nat.reduceLeDiff, Nat.reduceLT, exists_eq_left', forall_const, reduceCtorEq, app_new, app_new0, List.append_assoc, Int.reduceToNat, Int.reduceLT, Int.reduceLE, Int.reduceEq, Int.reduceNe, Int.reduceBEq, IntKind.bits, bne_self_eq_false, Int.reducePow, r16, r15, wi]
          exact ⟨m - 1, by omega, i + 1, k + 1, sl', out ++ [1], by omega, rfl, r15, r14, rfl, rfl, R2, E2, hgl2, by rw [hst, Option.map_map]; congr 1; funext x; simp, by omega, by simp; omega⟩
    · have hi' : ¬ (i : Int) < (n : Nat) := by omega
      have hin : i = n := by omega
      subst hin
      rw [List.drop_eq_nil_of_le (by omega), unst] at hst
      simp only [sx, x_box, x_alloc, x_bslice, x_slice, x_append, x_appz, x_b2s, x_s2b, x_mark, xop, ev, evs, evParts, fillL, cellsL, Ai.get, Ai.put, stab, isNil?, if_false, if_true, addr?, int?, str?, agg?, bool?, shiftA, FnPost, xresL, xres1, tup, argEnv, ptr, Nat.reduceEqDiff, reduceIte, beq_self_eq_true, ne_eq, Nat.reduceAdd, Nat.reduceMul, Nat.reduceSub, abin_shl, abin_shr, load1V, loadV, storeV, cellsAt, getN, setN, allocV, lenL, lenS, bnd, oneC, Value.oneCell', Nat.reduceLeDiff, Nat.reduceLT, exists_eq_left', forall_const, reduceCtorEq, app_new, app_new0, List.append_assoc, Int.reduceToNat, Int.reduceLT, Int.reduceLE, Int.reduceEq, Int.reduceNe, Int.reduceBEq, IntKind.bits, bne_self_eq_false, Int.reducePow, r16, r15, hi']
      refine .inl ⟨k, sl, out, r5, r6, R, E, ?_, hk, by omega⟩
      rw [hst]; split <;> simp
  · rintro ρ g2 ⟨k, sl, out, r5, r6, R, E, hst, hk, hol⟩
    by_cases hk5 : k = 5
    · have hk5' : ((k : Nat) : Int) = 5 := by omega
      rw [if_pos hk5] at hst
      simp only [sx, x_box, x_alloc, x_bslice, x_slice, x_append, x_appz, x_b2s, x_s2b, x_mark, xop, ev, evs, evParts, fillL, cellsL, Ai.get, Ai.put, stab, isNil?, if_false, if_true, addr?, int?, str?, agg?, bool?, shiftA, FnPost, xresL, xres1, tup, argEnv, ptr, Nat.reduceEqDiff, reduceIte, beq_self_eq_true, ne_eq, Nat.reduceAdd, Nat.reduceMul, Nat.reduceSub, abin_shl, abin_shr, load1V, loadV, storeV, cellsAt, getN, setN, allocV, lenL, lenS, bnd, oneC, Value.oneCell', Nat.reduceLeDiff, Nat.reduceLT, exists_eq_left', forall_const, reduceCtorEq, app_new, app_new0, List.append_assoc, Int.reduceToNat, Int.reduceLT, Int.reduceLE, Int.reduceEq, Int.reduceNe, Int.reduceBEq, IntKind.bits, bne_self_eq_false, Int.reducePow, r5, r6, hk5']
      exact .inr (.inl ⟨hc, hst, rfl, E⟩)
    · have hk5' : ¬ ((k : Nat) : Int) = 5 := by omega
      rw [if_neg hk5] at hst
      simp only [sx, x_box, x_alloc, x_bslice, x_slice, x_append, x_appz, x_b2s, x_s2b, x_mark, xop, ev, evs, evParts, fillL, cellsL, Ai.get, Ai.put, stab, isNil?, if_false, if_true, addr?, int?, str?, agg?, bool?, shiftA, FnPost, xresL, xres1, tup, argEnv, ptr, Nat.reduceEqDiff, reduceIte, beq_self_eq_true, ne_eq, Nat.reduceAdd, Nat.reduceMul, Nat.reduceSub, abin_shl, abin_shr, load1V, loadV, storeV, cellsAt, getN, setN, allocV, lenL, lenS, bnd, oneC, Value.oneCell', Nat.reduceLeDiff, Nat.reduceLT, exists_eq_left', forall_const, reduceCtorEq, app_new, app_new0, List.append_assoc, Int.reduceToNat, Int.reduceLT, Int.reduceLE, Int.reduceEq, Int.reduceNe, Int.reduceBEq, IntKind.bits, bne_self_eq_false, Int.reducePow, r5, r6, hk5']
      refine xcall (clipR_ok R.cr (by omega)) (by rfl) (by rfl) (by rfl) (by rfl) ?_
      rintro r g3 ⟨⟨qr, rfl, -⟩, hf2, -, e0⟩
      subst e0
      simp only [sx, x_box, x_alloc, x_bslice, x_slice, x_append, x_appz, x_b2s, x_s2b, x_mark, xop, ev, evs, evParts, fillL, cellsL, Ai.get, Ai.put, stab, isNil?, if_false, if_true, addr?, int?, str?, agg?, bool?, shiftA, FnPost, xresL, xres1, tup, argEnv, ptr, Nat.reduceEqDiff, reduceIte, beq_self_eq_true, ne_eq, Nat.reduceAdd, Nat.reduceMul, Nat.reduceSub, abin_shl, abin_shr, load1V, loadV, storeV, cellsAt, getN, setN, allocV, lenL, lenS, bnd, oneC, Value.oneCell', Nat.reduceLeDiff, Nat.reduceLT, exists_eq_left', forall_const, reduceCtorEq, app_new, app_new0, List.append_assoc, Int.reduceToNat, Int.reduceLT, Int.reduceLE, Int.reduceEq, Int.reduceNe, Int.reduceBEq, IntKind.bits, bne_self_eq_false, Int.reducePow]
      exact .inr (.inr ⟨hc, out, qr, hst, rfl, hf2, E⟩)
  · rintro ρ g2 ⟨r2, r3, hst, E⟩
    simp only [sx, x_box, x_alloc, x_bslice, x_slice, x_append, x_appz, x_b2s, x_s2b, x_mark, xop, ev, evs, evParts, fillL, cellsL, Ai.get, Ai.put, stab, isNil?, if_false, if_true, addr?, int?, str?, agg?, bool?, shiftA, FnPost, xresL, xres1, tup, argEnv, ptr, Nat.reduceEqDiff, reduceIte, beq_self_eq_true, ne_eq, Nat.reduceAdd, Nat.reduceMul, Nat.reduceSub, abin_shl, abin_shr, load1V, loadV, storeV, cellsAt, getN, setN, allocV, lenL, lenS, bnd, oneC, Value.oneCell', Nat.reduceLeDiff, Nat.reduceLT, exists_eq_left', forall_const, reduceCtorEq, app_new, app_new0, List.append_assoc, Int.reduceToNat, Int.reduceLT, Int.reduceLE, Int.reduceEq, Int.reduceNe, Int.reduceBEq, IntKind.bits, bne_self_eq_false, Int.reducePow, r2, r3]
    exact .inr (.inl ⟨hc, hst, rfl, E⟩)
end Go.Proofs.YtimfgagdfmmeeaaDoor
