import Derived.Test.YtimfgagdfmmeeaaDoorH1
set_option linter.unusedVariables false
set_option linter.unusedSimpArgs false
namespace Go.Proofs.YtimfgagdfmmeeaaDoor
open Go Go.Ai Go.Proofs

theorem wide_ok {h : AHeap} {q : Option Addr} {n c : Nat} : Valid Tryd.prog 32 [.slice q n c] h fun r h' => r = .bool (decide (n < 5 ∨ 280 < n)) ∧ h' = h := by
  refine v32 (by simp) ?_
  by_cases h1 : n < 5
  · have h1' : (n : Int) < 5 := by omega
    simp only [X32, sx, x_box, x_alloc, x_bslice, x_slice, x_append, x_appz, x_b2s, x_s2b, x_mark, xop, ev, evs, evParts, fillL, cellsL, Ai.get, Ai.put, stab, isNil?, if_false, if_true, addr?, int?, str?, agg?, bool?, shiftA, FnPost, xresL, xres1, tup, argEnv, ptr, Nat.reduceEqDiff, reduceIte, beq_self_eq_true, ne_eq, Nat.reduceAdd, Nat.reduceMul, Nat.reduceSub, abin_shl, abin_shr, load1V, loadV, storeV, cellsAt, getN, setN, allocV, lenL, lenS, bnd, oneC, Value.oneCell', Nat.reduceLeDiff, Nat.reduceLT, exists_eq_left', forall_const, reduceCtorEq, app_new, app_new0, List.append_assoc, Int.reduceToNat, Int.reduceLT, Int.reduceLE, Int.reduceEq, Int.reduceNe, Int.reduceBEq, IntKind.bits, bne_self_eq_false, Int.reducePow, h1', h1]
    simp
  · have h1' : ¬ (n : Int) < 5 := by omega
    by_cases h2 : 280 < n
    · have h2' : (280 : Int) < (n : Nat) := by omega
      simp only [X32, sx, x_box, x_alloc, x_bslice, x_slice, x_append, x_appz, x_b2s, x_s2b, x_mark, xop, ev, evs, evParts, fillL, cellsL, Ai.get, Ai.put, stab, isNil?, if_false, if_true, addr?, int?, str?, agg?, bool?, shiftA, FnPost, xresL, xres1, tup, argEnv, ptr, Nat.reduceEqDiff, reduceIte, beq_self_eq_true, ne_eq, Nat.reduceAdd, Nat.reduceMul, Nat.reduceSub, abin_shl, abin_shr, load1V, loadV, storeV, cellsAt, getN, setN, allocV, lenL, lenS, bnd, oneC, Value.oneCell', Nat.reduceLeDiff, Nat.reduceLT, exists_eq_left', forall_const, reduceCtorEq, app_new, app_new0, List.append_assoc, Int.reduceToNat, Int.reduceLT, Int.reduceLE, Int.reduceEq, Int.reduceNe, Int.reduceBEq, IntKind.bits, bne_self_eq_false, Int.reducePow, h1', h1, h2', h2]
      simp
    · have h2' : ¬ (280 : Int) < (n : Nat) := by omega
      simp only [X32, sx, x_box, x_alloc, x_bslice, x_slice, x_append, x_appz, x_b2s, x_s2b, x_mark, xop, ev, evs, evParts, fillL, cellsL, Ai.get, Ai.put, stab, isNil?, if_false, if_true, addr?, int?, str?, agg?, bool?, shiftA, FnPost, xresL, xres1, tup, argEnv, ptr, Nat.reduceEqDiff, reduceIte, beq_self_eq_true, ne_eq, Nat.reduceAdd, Nat.reduceMul, Nat.reduceSub, abin_shl, abin_shr, load1V, loadV, storeV, cellsAt, getN, setN, allocV, lenL, lenS, bnd, oneC, Value.oneCell', Nat.reduceLeDiff, Nat.reduceLT, exists_eq_left', forall_const, reduceCtorEq, app_new, app_new0, List.append_assoc, Int.reduceToNat, Int.reduceLT, Int.reduceLE, Int.reduceEq, Int.reduceNe, Int.reduceBEq, IntKind.bits, bne_self_eq_false, Int.reducePow, h1', h1, h2', h2]
      simp
theorem anyWide_ok {h : AHeap} {q : Option Addr} {c : Nat} {ls : List (List Int)} (hL : LV h q c ls) (hn : ls.length ≤ 1000000) :
    Valid Tryd.prog 31 [.slice q ls.length c, .func (.func 32) #[] #[]] h fun r h' => r = .bool (decide (∃ b ∈ ls, Wide b)) ∧ h' = h := by
  obtain ⟨rows, hf, hR⟩ := hL
  refine (contains_still v31 (index1_still v47 (by omega) hf (fun i => decide (Wide (ls.getD i []))) fun i v hi hv => ?_)).mono ?_
  · have hz := List.getElem?_eq_getElem hi
    obtain ⟨qz, cz, k1, -⟩ := hR.get hz
    rw [k1] at hv; cases hv
    refine wide_ok.mono ?_
    rintro r h' ⟨rfl, e⟩
    refine ⟨?_, e⟩
    have : ls.getD i [] = ls[i] := by rw [List.getD_eq_getElem?_getD, hz]; rfl
    unfold Wide
    rw [this]
  · rintro r h' ⟨rfl, e⟩
    refine ⟨?_, e⟩
    congr 1
    rw [decide_eq_decide]
    constructor
    · rintro ⟨i, hi, h1⟩
      have : ls.getD i [] = ls[i] := by rw [List.getD_eq_getElem?_getD, List.getElem?_eq_getElem hi]; rfl
      rw [this, decide_eq_true_iff] at h1
      exact ⟨_, List.getElem_mem hi, h1⟩
    · rintro ⟨b, hb, h1⟩
      obtain ⟨i, hi, rfl⟩ := List.getElem_of_mem hb
      refine ⟨i, hi, ?_⟩
      have : ls.getD i [] = ls[i] := by rw [List.getD_eq_getElem?_getD, List.getElem?_eq_getElem hi]; rfl
      rw [this, decide_eq_true_iff]; exact h1
/-- a slice of an array of bytes -/
theorem sliceA_fl {ρ : Env} {h : AHeap} : xop (.sliceA 8 1 (.c (.pointer (some ⟨0, 0, none⟩))) none none none) ρ h = some (.slice (some ⟨0, 0, none⟩) 8 8, h) := by
  rfl
def JnI (g : AHeap) (q : Option Addr) (c : Nat) (ls : List (List Int)) (m : Nat) (ρ : Env) (h : AHeap) : Prop := ∃ (i : Nat) (sl : Value), i + m = ls.length ∧ get ρ 13 = some (.int .i64 (i : Nat)) ∧ get ρ 12 = some (.int .i64 (ls.length : Nat)) ∧ get ρ 11 = some (.slice q ls.length c) ∧ get ρ 4 = some sl ∧ RN h sl (jn (ls.take i)) ∧ Ext g h ∧ (∀ A, slB sl = some A → g.length ≤ A)
def JnE (g : AHeap) (ls : List (List Int)) (ρ : Env) (h : AHeap) : Prop := ∃ sl : Value, get ρ 4 = some sl ∧ RN h sl (jn ls) ∧ Ext g h
def JoinP (h : AHeap) (ls : List (List Int)) (r : Value) (h' : AHeap) : Prop := Ext h h' ∧ (((∃ b ∈ ls, Wide b) ∧ r = .tuple #[.slice none 0 0, .int .i64 5]) ∨ ((¬ ∃ b ∈ ls, Wide b) ∧ ∃ q, r = .tuple #[.slice q (jn ls).length (jn ls).length, .int .i64 0] ∧ firstV 1 h' (jn ls).length (.slice q (jn ls).length (jn ls).length) = some (bR (jn ls))))
set_option maxHeartbeats 2000000 in
theorem join_ok {h : AHeap} {q : Option Addr} {c : Nat} {ls : List (List Int)} (hF : Fl h) (hL : LV h q c ls) (hn : ls.length ≤ 100) (hb : ∀ b ∈ ls, ∀ z ∈ b, 0 ≤ z ∧ z ≤ 255) :
    Valid Tryd.prog 12 [.slice q ls.length c] h fun r h' => JoinP h ls r h' := by
  refine v12 (by simp) ?_
  simp only [X12, sx, x_box, x_alloc, x_bslice, x_slice, x_append, x_appz, x_b2s, x_s2b, x_mark, xop, ev, evs, evParts, fillL, cellsL, Ai.get, Ai.put, stab, isNil?, if_false, if_true, addr?, int?, str?, agg?, bool?, shiftA, FnPost, xresL, xres1, tup, argEnv, ptr, Nat.reduceEqDiff, reduceIte, beq_self_eq_true, ne_eq, Nat.reduceAdd, Nat.reduceMul, Nat.reduceSub, abin_shl, abin_shr, load1V, loadV, storeV, cellsAt, getN, setN, allocV, lenL, lenS, bnd, oneC, Value.oneCell', Nat.reduceLeDiff, Nat.reduceLT, exists_eq_left', forall_const, reduceCtorEq, app_new, app_new0, List.append_assoc, Int.reduceToNat, Int.reduceLT, Int.reduceLE, Int.reduceEq, Int.reduceNe, Int.reduceBEq, IntKind.bits, bne_self_eq_false, Int.reducePow]
  refine xcall (anyWide_ok hL (by omega)) (by rfl) (by rfl) (by rfl) (by rfl) ?_
  rintro r g ⟨rfl, e0⟩
  subst e0
  by_cases hw : ∃ b ∈ ls, Wide b
  · simp only [sx, x_box, x_alloc, x_bslice, x_slice, x_append, x_appz, x_b2s, x_s2b, x_mark, xop, ev, evs, evParts, fillL, cellsL, Ai.get, Ai.put, stab, isNil?, if_false, if_true, addr?, int?, str?, agg?, bool?, shiftA, FnPost, xresL, xres1, tup, argEnv, ptr, Nat.reduceEqDiff, reduceIte, beq_self_eq_true, ne_eq, Nat.reduceAdd, Nat.reduceMul, Nat.reduceSub, abin_shl, abin_shr, load1V, loadV, storeV, cellsAt, getN, setN, allocV, lenL, lenS, bnd, oneC, Value.oneCell', Nat.reduceLeDiff, Nat.reduceLT, exists_eq_left', forall_const, reduceCtorEq, app_new, app_new0, List.append_assoc, Int.reduceToNat, Int.reduceLT, Int.reduceLE, Int.reduceEq, Int.reduceNe, Int.reduceBEq, IntKind.bits, bne_self_eq_false, Int.reducePow, hw]
    exact ⟨Ext.refl _, .inl ⟨hw, rfl⟩⟩
  have hnw : ∀ b ∈ ls, ¬ Wide b := fun b hb h => hw ⟨b, hb, h⟩
  have hu8 : ¬ unk ≤ 8 := by decide
  simp only [sx, x_box, x_alloc, x_bslice, x_slice, x_append, x_appz, x_b2s, x_s2b, x_mark, xop, ev, evs, evParts, fillL, cellsL, Ai.get, Ai.put, stab, isNil?, if_false, if_true, addr?, int?, str?, agg?, bool?, shiftA, FnPost, xresL, xres1, tup, argEnv, ptr, Nat.reduceEqDiff, reduceIte, beq_self_eq_true, ne_eq, Nat.reduceAdd, Nat.reduceMul, Nat.reduceSub, abin_shl, abin_shr, load1V, loadV, storeV, cellsAt, getN, setN, allocV, lenL, lenS, bnd, oneC, Value.oneCell', Nat.reduceLeDiff, Nat.reduceLT, exists_eq_left', forall_const, reduceCtorEq, app_new, app_new0, List.append_assoc, Int.reduceToNat, Int.reduceLT, Int.reduceLE, Int.reduceEq, Int.reduceNe, Int.reduceBEq, IntKind.bits, bne_self_eq_false, Int.reducePow, hw, hu8, false_or]
  refine xcall (clone_ok (k := 1) (by_ := 1) (z := [.int .u8 0]) rfl (by decide) v33 (hF.first 8) (by decide) (by decide)) (by rfl) (by rfl) (by rfl) (by rfl) ?_
  rintro r g2 (⟨h0, -⟩ | ⟨h0, -⟩ | ⟨-, rfl, rfl⟩)
  · cases h0
  · cases h0
  have R0 : RN (g ++ [some (AObj.mk true []), some (AObj.mk true (bR fl))]) (.slice (some ⟨g.length + 1, 0, none⟩) 8 (unk + 1)) (jn []) := .inr ⟨g.length + 1, rfl, by rw [List.getElem?_append_right (by omega)]; simp [jn]⟩
  have E0 := Ext.app g [some (AObj.mk true []), some (AObj.mk true (bR fl))]
  generalize g ++ [some (AObj.mk true []), some (AObj.mk true (bR fl))] = g3 at *
  simp only [sx, x_box, x_alloc, x_bslice, x_slice, x_append, x_appz, x_b2s, x_s2b, x_mark, xop, ev, evs, evParts, fillL, cellsL, Ai.get, Ai.put, stab, isNil?, if_false, if_true, addr?, int?, str?, agg?, bool?, shiftA, FnPost, xresL, xres1, tup, argEnv, ptr, Nat.reduceEqDiff, reduceIte, beq_self_eq_true, ne_eq, Nat.reduceAdd, Nat.reduceMul, Nat.reduceSub, abin_shl, abin_shr, load1V, loadV, storeV, cellsAt, getN, setN, allocV, lenL, lenS, bnd, oneC, Value.oneCell', Nat.reduceLeDiff, Nat.reduceLT, exists_eq_left', forall_const, reduceCtorEq, app_new, app_new0, List.append_assoc, Int.reduceToNat, Int.reduceLT, Int.reduceLE, Int.reduceEq, Int.reduceNe, Int.reduceBEq, IntKind.bits, bne_self_eq_false, Int.reducePow]
  refine xloop_cut2 (JnE g ls) (fun _ _ => False) ?_ ?_ ?_
  rotate_left
  · rintro ρ g4 ⟨sl, r4, R, E⟩
    have hjl := jn_len hnw
    simp only [sx, x_box, x_alloc, x_bslice, x_slice, x_append, x_appz, x_b2s, x_s2b, x_mark, xop, ev, evs, evParts, fillL, cellsL, Ai.get, Ai.put, stab, isNil?, if_false, if_true, addr?, int?, str?, agg?, bool?, shiftA, FnPost, xresL, xres1, tup, argEnv, ptr, Nat.reduceEqDiff, reduceIte, beq_self_eq_true, ne_eq, Nat.reduceAdd, Nat.reduceMul, Nat.reduceSub, abin_shl, abin_shr, load1V, loadV, storeV, cellsAt, getN, setN, allocV, lenL, lenS, bnd, oneC, Value.oneCell', Nat.reduceLeDiff, Nat.reduceLT, exists_eq_left', forall_const, reduceCtorEq, app_new, app_new0, List.append_assoc, Int.reduceToNat, Int.reduceLT, Int.reduceLE, Int.reduceEq, Int.reduceNe, Int.reduceBEq, IntKind.bits, bne_self_eq_false, Int.reducePow, r4]
    refine xcall (clipR_ok R.cr (by omega)) (by rfl) (by rfl) (by rfl) (by rfl) ?_
    rintro r g5 ⟨⟨qr, rfl, -⟩, hf2, -, e0⟩
    subst e0
    simp only [sx, x_box, x_alloc, x_bslice, x_slice, x_append, x_appz, x_b2s, x_s2b, x_mark, xop, ev, evs, evParts, fillL, cellsL, Ai.get, Ai.put, stab, isNil?, if_false, if_true, addr?, int?, str?, agg?, bool?, shiftA, FnPost, xresL, xres1, tup, argEnv, ptr, Nat.reduceEqDiff, reduceIte, beq_self_eq_true, ne_eq, Nat.reduceAdd, Nat.reduceMul, Nat.reduceSub, abin_shl, abin_shr, load1V, loadV, storeV, cellsAt, getN, setN, allocV, lenL, lenS, bnd, oneC, Value.oneCell', Nat.reduceLeDiff, Nat.reduceLT, exists_eq_left', forall_const, reduceCtorEq, app_new, app_new0, List.append_assoc, Int.reduceToNat, Int.reduceLT, Int.reduceLE, Int.reduceEq, Int.reduceNe, Int.reduceBEq, IntKind.bits, bne_self_eq_false, Int.reducePow]
    exact ⟨E, .inr ⟨hw, qr, rfl, hf2⟩⟩
  · intro ρ g4 hf; exact hf.elim
  refine xcode_loop (JnI g q c ls) ls.length ⟨0, _, by omega, rfl, rfl, rfl, rfl, R0, E0, fun A hA => by cases hA; exact Nat.le_succ _⟩ ?_
  clear R0 E0 g3
  rintro m ρ g3 ⟨i, sl, him, r13, r12, r11, r4, R, E, hgl⟩
  by_cases hi : i < ls.length
  · have hi' : (i : Int) < (ls.length : Nat) := by omega
    have hi0 : (0 : Int) ≤ (i : Int) := by omega
    have wi : IntKind.i64.wrap ((i : Int) + 1) = ((i + 1 : Nat) : Int) := by rw [i64_wrap] <;> omega
    have hz := List.getElem?_eq_getElem hi
    obtain ⟨a, o, qz, cz, rfl, a1, a2, a3, hfz⟩ := (hL.ext E).get hz
    have hbz := hb _ (List.getElem_mem hi)
    have hnz := hnw _ (List.getElem_mem hi)
    have hsn : ls.take (i + 1) = ls.take i ++ [ls[i]] := by rw [List.take_add_one, hz]; rfl
    generalize ls[i] = z at *
    unfold Wide at hnz
    simp only [sx, x_box, x_alloc, x_bslice, x_slice, x_append, x_appz, x_b2s, x_s2b, x_mark, xop, ev, evs, evParts, fillL, cellsL, Ai.get, Ai.put, stab, isNil?, if_false, if_true, addr?, int?, str?, agg?, bool?, shiftA, FnPost, xresL, xres1, tup, argEnv, ptr, Nat.reduceEqDiff, reduceIte, beq_self_eq_true, ne_eq, Nat.reduceAdd, Nat.reduceMul, Nat.reduceSub, abin_shl, abin_shr, load1V, loadV, storeV, cellsAt, getN, setN, allocV, lenL, lenS, bnd, oneC, Value.oneCell', Nat.reduceLeDiff, Nat.reduceLT, exists_eq_left', forall_const, reduceCtorEq, app_new, app_new0, List.append_assoc, Int.reduceToNat, Int.reduceLT, Int.reduceLE, Int.reduceEq, Int.reduceNe, Int.reduceBEq, IntKind.bits, bne_self_eq_false, Int.reducePow, r13, r12, r11, r4, hi', hi0, a1, a2, a3, Nat.mul_one, hu8, false_or]
    refine xcall (of_ok hfz (by omega) hbz) (by rfl) (by rfl) (by rfl) (by rfl) ?_
    rintro r g4 ⟨R1, rfl, hR1, hR1l, E1, hO⟩
    have hfo : firstV 1 g4 (8 * z.length) (.slice (some ⟨R1, 0, none⟩) (8 * z.length) (8 * z.length)) = some (bR (ofL z)) := first_pre (t := []) (by rw [List.append_nil]; exact hO) (ofL_len z)
    simp only [sx, x_box, x_alloc, x_bslice, x_slice, x_append, x_appz, x_b2s, x_s2b, x_mark, xop, ev, evs, evParts, fillL, cellsL, Ai.get, Ai.put, stab, isNil?, if_false, if_true, addr?, int?, str?, agg?, bool?, shiftA, FnPost, xresL, xres1, tup, argEnv, ptr, Nat.reduceEqDiff, reduceIte, beq_self_eq_true, ne_eq, Nat.reduceAdd, Nat.reduceMul, Nat.reduceSub, abin_shl, abin_shr, load1V, loadV, storeV, cellsAt, getN, setN, allocV, lenL, lenS, bnd, oneC, Value.oneCell', Nat.reduceLeDiff, Nat.reduceLT, exists_eq_left', forall_const, reduceCtorEq, app_new, app_new0, List.append_assoc, Int.reduceToNat, Int.reduceLT, Int.reduceLE, Int.reduceEq, Int.reduceNe, Int.reduceBEq, IntKind.bits, bne_self_eq_false, Int.reducePow]
    refine xcall (stuffed_ok hfo (by omega) (ofL_bit z)) (by rfl) (by rfl) (by rfl) (by rfl) ?_
    rintro r g5 ⟨R2, rfl, hfs, E2, hR2, hR2l⟩
    have hsl := stf_len (ofL z) 0 (ofL_bit z) (by decide)
    rw [ofL_len] at hsl
    have hjl := jn_len (ls := ls.take i) fun b hb => hnw b (List.mem_of_mem_take hb)
    rw [List.length_take] at hjl
    have R5 := (R.ext E1).ext E2
    simp only [sx, x_box, x_alloc, x_bslice, x_slice, x_appz, x_b2s, x_s2b, x_mark, xop, ev, evs, evParts, fillL, cellsL, Ai.get, Ai.put, stab, isNil?, if_false, if_true, addr?, int?, str?, agg?, bool?, shiftA, FnPost, xresL, xres1, tup, argEnv, ptr, Nat.reduceEqDiff, reduceIte, beq_self_eq_true, ne_eq, Nat.reduceAdd, Nat.reduceMul, Nat.reduceSub, abin_shl, abin_shr, load1V, loadV, storeV, cellsAt, getN, setN, allocV, lenL, lenS, bnd, oneC, Value.oneCell', Nat.reduceLeDiff, Nat.reduceLT, exists_eq_left', forall_const, reduceCtorEq, app_new, app_new0, List.append_assoc, Int.reduceToNat, Int.reduceLT, Int.reduceLE, Int.reduceEq, Int.reduceNe, Int.reduceBEq, IntKind.bits, bne_self_eq_false, Int.reducePow]
    refine R5.append rfl rfl rfl hfs (by omega) fun sl6 g6 R6 hl6 hk6 hs6 _ => ?_
    have E36 : Ext g g6 := ⟨Nat.le_trans (E.trans (E1.trans E2)).1 hl6, fun B hB => by
      have hB5 : B < g5.length := Nat.lt_of_lt_of_le hB (E.trans (E1.trans E2)).1
      rw [hk6 B hB5 (fun e => by have := hgl B e; omega), (E.trans (E1.trans E2)).2 B hB]⟩
    have hgl6 : ∀ A, slB sl6 = some A → g.length ≤ A := fun A hA => by
      have := (E.trans (E1.trans E2)).1
      rcases hs6 A hA with h | h
      · exact hgl A h
      · omega
    simp only [sx, x_box, x_alloc, x_bslice, x_slice, x_appz, x_b2s, x_s2b, x_mark, xop, ev, evs, evParts, fillL, cellsL, Ai.get, Ai.put, stab, isNil?, if_false, if_true, addr?, int?, str?, agg?, bool?, shiftA, FnPost, xresL, xres1, tup, argEnv, ptr, Nat.reduceEqDiff, reduceIte, beq_self_eq_true, ne_eq, Nat.reduceAdd, Nat.reduceMul, Nat.reduceSub, abin_shl, abin_shr, load1V, loadV, storeV, cellsAt, getN, setN, allocV, lenL, lenS, bnd, oneC, Value.oneCell', Nat.reduceLeDiff, Nat.reduceLT, exists_eq_left', forall_const, reduceCtorEq, app_new, app_new0, List.append_assoc, Int.reduceToNat, Int.reduceLT, Int.reduceLE, Int.reduceEq, Int.reduceNe, Int.reduceBEq, IntKind.bits, bne_self_eq_false, Int.reducePow]
    refine R6.append (news := fl) (xv := .slice (some ⟨0, 0, none⟩) 8 8) rfl rfl rfl ((hF.ext E36).first 8) (by simp [fl]; omega) fun sl7 g7 R7 hl7 hk7 hs7 _ => ?_
    have E37 : Ext g g7 := ⟨Nat.le_trans E36.1 hl7, fun B hB => by
      have hB6 : B < g6.length := Nat.lt_of_lt_of_le hB E36.1
      rw [hk7 B hB6 (fun e => by have := hgl6 B e; omega), E36.2 B hB]⟩
    have hgl7 : ∀ A, slB sl7 = some A → g.length ≤ A := fun A hA => by
      have := E36.1
      rcases hs7 A hA with h | h
      · exact hgl6 A h
      · omega
    rw [← jn_snoc, ← hsn] at R7
    have hjl2 := jn_len (ls := ls.take (i + 1)) fun b hb => hnw b (List.mem_of_mem_take hb)
    rw [List.length_take] at hjl2
    obtain ⟨q7, c7, rfl, -⟩ := R7.shp
    have hlim : ¬ (1048576 : Int) < ((jn (ls.take (i + 1))).length : Nat) := by omega
    simp only [sx, x_box, x_alloc, x_bslice, x_slice, x_append, x_appz, x_b2s, x_s2b, x_mark, xop, ev, evs, evParts, fillL, cellsL, Ai.get, Ai.put, stab, isNil?, if_false, if_true, addr?, int?, str?, agg?, bool?, shiftA, FnPost, xresL, xres1, tup, argEnv, ptr, Nat.reduceEqDiff, reduceIte, beq_self_eq_true, ne_eq, Nat.reduceAdd, Nat.reduceMul, Nat.reduceSub, abin_shl, abin_shr, load1V, loadV, storeV, cellsAt, getN, setN, allocV, lenL, lenS, bnd, oneC, Value.oneCell', Nat.reduceLeDiff, Nat.reduceLT, exists_eq_left', forall_const, reduceCtorEq, app_new, app_new0, List.append_assoc, Int.reduceToNat, Int.reduceLT, Int.reduceLE, Int.reduceEq, Int.reduceNe, Int.reduceBEq, IntKind.bits, bne_self_eq_false, Int.reducePow, r13, hlim, wi]
    exact ⟨m - 1, by omega, i + 1, _, by omega, rfl, r12, r11, rfl, R7, E37, hgl7⟩
  · have hi' : ¬ (i : Int) < (ls.length : Nat) := by omega
    simp only [sx, x_box, x_alloc, x_bslice, x_slice, x_append, x_appz, x_b2s, x_s2b, x_mark, xop, ev, evs, evParts, fillL, cellsL, Ai.get, Ai.put, stab, isNil?, if_false, if_true, addr?, int?, str?, agg?, bool?, shiftA, FnPost, xresL, xres1, tup, argEnv, ptr, Nat.reduceEqDiff, reduceIte, beq_self_eq_true, ne_eq, Nat.reduceAdd, Nat.reduceMul, Nat.reduceSub, abin_shl, abin_shr, load1V, loadV, storeV, cellsAt, getN, setN, allocV, lenL, lenS, bnd, oneC, Value.oneCell', Nat.reduceLeDiff, Nat.reduceLT, exists_eq_left', forall_const, reduceCtorEq, app_new, app_new0, List.append_assoc, Int.reduceToNat, Int.reduceLT, Int.reduceLE, Int.reduceEq, Int.reduceNe, Int.reduceBEq, IntKind.bits, bne_self_eq_false, Int.reducePow, r13, r12, hi']
    rw [List.take_of_length_le (by omega)] at R
    exact .inl ⟨sl, r4, R, E⟩
/-- Frame is Join of one -/
theorem frame_ok {h : AHeap} {q : Option Addr} {n c : Nat} {b : List Int} (hF : Fl h) (hf : firstV 1 h n (.slice q n c) = some (bR b)) (hbn : b.length = n) (hb : ∀ z ∈ b, 0 ≤ z ∧ z ≤ 255) :
    Valid Tryd.prog 15 [.slice q n c] h fun r h' => JoinP h [b] r h' := by
  subst hbn
  refine v15 (by simp) ?_
  simp only [X15, sx, x_box, x_alloc, x_bslice, x_slice, x_append, x_appz, x_b2s, x_s2b, x_mark, xop, ev, evs, evParts, fillL, cellsL, Ai.get, Ai.put, stab, isNil?, if_false, if_true, addr?, int?, str?, agg?, bool?, shiftA, FnPost, xresL, xres1, tup, argEnv, ptr, Nat.reduceEqDiff, reduceIte, beq_self_eq_true, ne_eq, Nat.reduceAdd, Nat.reduceMul, Nat.reduceSub, abin_shl, abin_shr, load1V, loadV, storeV, cellsAt, getN, setN, allocV, lenL, lenS, bnd, oneC, Value.oneCell', Nat.reduceLeDiff, Nat.reduceLT, exists_eq_left', forall_const, reduceCtorEq, app_new, app_new0, List.append_assoc, Int.reduceToNat, Int.reduceLT, Int.reduceLE, Int.reduceEq, Int.reduceNe, Int.reduceBEq, IntKind.bits, bne_self_eq_false, Int.reducePow]
  have E := Ext.app h [some (AObj.mk true [.slice q b.length c])]
  have hL : LV (h ++ [some (AObj.mk true [.slice q b.length c])]) (some ⟨h.length, 0, none⟩) 1 [b] := ⟨[.slice q b.length c], by
    simp only [firstV, cellsAt, app_new0]
    simp
    rfl, LsR.one (E.first hf)⟩
  refine xcall (join_ok (hF.ext E) hL (by simp) fun x hx => by rw [List.mem_singleton.1 hx]; exact hb) (by rfl) (by rfl) (by rfl) (by rfl) ?_
  rintro r g ⟨E2, P⟩
  rcases P with ⟨hw, rfl⟩ | ⟨hw, q2, rfl, hf2⟩
  · simp only [sx, x_box, x_alloc, x_bslice, x_slice, x_append, x_appz, x_b2s, x_s2b, x_mark, xop, ev, evs, evParts, fillL, cellsL, Ai.get, Ai.put, stab, isNil?, if_false, if_true, addr?, int?, str?, agg?, bool?, shiftA, FnPost, xresL, xres1, tup, argEnv, ptr, Nat.reduceEqDiff, reduceIte, beq_self_eq_true, ne_eq, Nat.reduceAdd, Nat.reduceMul, Nat.reduceSub, abin_shl, abin_shr, load1V, loadV, storeV, cellsAt, getN, setN, allocV, lenL, lenS, bnd, oneC, Value.oneCell', Nat.reduceLeDiff, Nat.reduceLT, exists_eq_left', forall_const, reduceCtorEq, app_new, app_new0, List.append_assoc, Int.reduceToNat, Int.reduceLT, Int.reduceLE, Int.reduceEq, Int.reduceNe, Int.reduceBEq, IntKind.bits, bne_self_eq_false, Int.reducePow]
    exact ⟨E.trans E2, .inl ⟨hw, rfl⟩⟩
  · simp only [sx, x_box, x_alloc, x_bslice, x_slice, x_append, x_appz, x_b2s, x_s2b, x_mark, xop, ev, evs, evParts, fillL, cellsL, Ai.get, Ai.put, stab, isNil?, if_false, if_true, addr?, int?, str?, agg?, bool?, shiftA, FnPost, xresL, xres1, tup, argEnv, ptr, Nat.reduceEqDiff, reduceIte, beq_self_eq_true, ne_eq, Nat.reduceAdd, Nat.reduceMul, Nat.reduceSub, abin_shl, abin_shr, load1V, loadV, storeV, cellsAt, getN, setN, allocV, lenL, lenS, bnd, oneC, Value.oneCell', Nat.reduceLeDiff, Nat.reduceLT, exists_eq_left', forall_const, reduceCtorEq, app_new, app_new0, List.append_assoc, Int.reduceToNat, Int.reduceLT, Int.reduceLE, Int.reduceEq, Int.reduceNe, Int.reduceBEq, IntKind.bits, bne_self_eq_false, Int.reducePow]
    exact ⟨E.trans E2, .inr ⟨hw, q2, rfl, hf2⟩⟩
end Go.Proofs.YtimfgagdfmmeeaaDoor
