import Derived.Test.YtimfgagdfmmeeaaDoorP2
import Derived.Test.YtimfgagdfmmeeaaDoorT1
set_option linter.unusedVariables false
set_option linter.unusedSimpArgs false
namespace Go.Proofs.YtimfgagdfmmeeaaDoor
open Go Go.Ai Go.Proofs

theorem acc_take_succ {α : Type} (g : List Int → Int → List α) {s : List Int} {i : Nat} {z : Int} (h : s[i]? = some z) : acc g (s.take (i + 1)) = acc g (s.take i) ++ g (s.take i) z := by
  rw [take_snoc h, acc_snoc]
/-- seven ones somewhere -/
def AbI (g : AHeap) (q : Option Addr) (n c : Nat) (zs : List Int) (m : Nat) (ρ : Env) (h : AHeap) : Prop := ∃ i : Nat, i + m = n ∧ get ρ 3 = some (.int .i64 (i : Nat)) ∧ get ρ 0 = some (.slice q n c) ∧ h = g ∧ ¬ Ab (zs.take i)
def AbE (g : AHeap) (zs : List Int) (ρ : Env) (h : AHeap) : Prop := h = g ∧ ¬ Ab zs
def AbR (g : AHeap) (zs : List Int) (ρ : Env) (h : AHeap) : Prop := get ρ 2 = some (.bool true) ∧ h = g ∧ Ab zs
open Classical in
theorem aborted_ok {h : AHeap} {q : Option Addr} {n c : Nat} {zs : List Int} (hf : firstV 1 h n (.slice q n c) = some (bR zs)) (hn : n ≤ 1048576) :
    Valid Tryd.prog 40 [.slice q n c] h fun r h' => r = .bool (decide (Ab zs)) ∧ h' = h := by
  refine v40 (by simp) ?_
  have hzl := firstV_len hf
  rw [bR_len, Nat.mul_one] at hzl
  simp only [X40, sx, x_box, x_alloc, x_bslice, x_slice, x_append, x_appz, x_b2s, x_s2b, x_mark, xop, ev, evs, evParts, fillL, cellsL, Ai.get, Ai.put, stab, isNil?, if_false, if_true, addr?, int?, str?, agg?, bool?, shiftA, FnPost, xresL, xres1, tup, argEnv, ptr, Nat.reduceEqDiff, reduceIte, beq_self_eq_true, ne_eq, Nat.reduceAdd, Nat.reduceMul, Nat.reduceSub, abin_shl, abin_shr, load1V, loadV, storeV, cellsAt, getN, setN, allocV, lenL, lenS, bnd, oneC, Value.oneCell', Nat.reduceLeDiff, Nat.reduceLT, exists_eq_left', forall_const, reduceCtorEq, app_new, app_new0, List.append_assoc, Int.reduceToNat, Int.reduceLT, Int.reduceLE, Int.reduceEq, Int.reduceNe, Int.reduceBEq, IntKind.bits, bne_self_eq_false, Int.reducePow]
  refine xloop_cut2 (AbE h zs) (AbR h zs) ?_ ?_ ?_
  rotate_left
  · rintro ρ g ⟨e0, hA⟩
    subst e0
    simp only [sx, x_box, x_alloc, x_bslice, x_slice, x_append, x_appz, x_b2s, x_s2b, x_mark, xop, ev, evs, evParts, fillL, cellsL, Ai.get, Ai.put, stab, isNil?, if_false, if_true, addr?, int?, str?, agg?, bool?, shiftA, FnPost, xresL, xres1, tup, argEnv, ptr, Nat.reduceEqDiff, reduceIte, beq_self_eq_true, ne_eq, Nat.reduceAdd, Nat.reduceMul, Nat.reduceSub, abin_shl, abin_shr, load1V, loadV, storeV, cellsAt, getN, setN, allocV, lenL, lenS, bnd, oneC, Value.oneCell', Nat.reduceLeDiff, Nat.reduceLT, exists_eq_left', forall_const, reduceCtorEq, app_new, app_new0, List.append_assoc, Int.reduceToNat, Int.reduceLT, Int.reduceLE, Int.reduceEq, Int.reduceNe, Int.reduceBEq, IntKind.bits, bne_self_eq_false, Int.reducePow]
    rw [decide_eq_false hA]
  · rintro ρ g ⟨r2, e0, hA⟩
    subst e0
    simp only [sx, x_box, x_alloc, x_bslice, x_slice, x_append, x_appz, x_b2s, x_s2b, x_mark, xop, ev, evs, evParts, fillL, cellsL, Ai.get, Ai.put, stab, isNil?, if_false, if_true, addr?, int?, str?, agg?, bool?, shiftA, FnPost, xresL, xres1, tup, argEnv, ptr, Nat.reduceEqDiff, reduceIte, beq_self_eq_true, ne_eq, Nat.reduceAdd, Nat.reduceMul, Nat.reduceSub, abin_shl, abin_shr, load1V, loadV, storeV, cellsAt, getN, setN, allocV, lenL, lenS, bnd, oneC, Value.oneCell', Nat.reduceLeDiff, Nat.reduceLT, exists_eq_left', forall_const, reduceCtorEq, app_new, app_new0, List.append_assoc, Int.reduceToNat, Int.reduceLT, Int.reduceLE, Int.reduceEq, Int.reduceNe, Int.reduceBEq, IntKind.bits, bne_self_eq_false, Int.reducePow, r2]
    rw [decide_eq_true hA]
  refine xcode_loop (AbI h q n c zs) n ⟨0, by omega, rfl, rfl, rfl, fun ⟨i, k, _⟩ => by simp at k⟩ ?_
  rintro m ρ g ⟨i, him, r3, r0, e0, hA⟩
  subst e0
  by_cases hi : i < n
  · have hi' : (i : Int) < (n : Nat) := by omega
    have wi : IntKind.i64.wrap ((i : Int) + 1) = ((i + 1 : Nat) : Int) := by rw [i64_wrap] <;> omega
    obtain ⟨z, hz⟩ : ∃ z, zs[i]? = some z := ⟨_, List.getElem?_eq_getElem (by omega)⟩
    have hs := take_snoc hz
    simp only [sx, x_box, x_alloc, x_bslice, x_slice, x_append, x_appz, x_b2s, x_s2b, x_mark, xop, ev, evs, evParts, fillL, cellsL, Ai.get, Ai.put, stab, isNil?, if_false, if_true, addr?, int?, str?, agg?, bool?, shiftA, FnPost, xresL, xres1, tup, argEnv, ptr, Nat.reduceEqDiff, reduceIte, beq_self_eq_true, ne_eq, Nat.reduceAdd, Nat.reduceMul, Nat.reduceSub, abin_shl, abin_shr, load1V, loadV, storeV, cellsAt, getN, setN, allocV, lenL, lenS, bnd, oneC, Value.oneCell', Nat.reduceLeDiff, Nat.reduceLT, exists_eq_left', forall_const, reduceCtorEq, app_new, app_new0, List.append_assoc, Int.reduceToNat, Int.reduceLT, Int.reduceLE, Int.reduceEq, Int.reduceNe, Int.reduceBEq, IntKind.bits, bne_self_eq_false, Int.reducePow, r3, r0, hi', wi]
    refine xcall (ones_ok (at' := i + 1) hf (by omega) (by omega)) (by rfl) (by rfl) (by rfl) (by rfl) ?_
    rintro r g ⟨rfl, e0⟩
    subst e0
    have hk := Ab_snoc (zs.take i) z
    rw [← hs] at hk
    by_cases h7 : tr (zs.take (i + 1)) = 7
    · have h7' : ((tr (zs.take (i + 1)) : Nat) : Int) = 7 := by omega
      simp only [sx, x_box, x_alloc, x_bslice, x_slice, x_append, x_appz, x_b2s, x_s2b, x_mark, xop, ev, evs, evParts, fillL, cellsL, Ai.get, Ai.put, stab, isNil?, if_false, if_true, addr?, int?, str?, agg?, bool?, shiftA, FnPost, xresL, xres1, tup, argEnv, ptr, Nat.reduceEqDiff, reduceIte, beq_self_eq_true, ne_eq, Nat.reduceAdd, Nat.reduceMul, Nat.reduceSub, abin_shl, abin_shr, load1V, loadV, storeV, cellsAt, getN, setN, allocV, lenL, lenS, bnd, oneC, Value.oneCell', Nat.reduceLeDiff, Nat.reduceLT, exists_eq_left', forall_const, reduceCtorEq, app_new, app_new0, List.append_assoc, Int.reduceToNat, Int.reduceLT, Int.reduceLE, Int.reduceEq, Int.reduceNe, Int.reduceBEq, IntKind.bits, bne_self_eq_false, Int.reducePow, r3, wi, h7']
      exact .inr ⟨rfl, rfl, i, by omega, h7⟩
    · have h7' : ¬ ((tr (zs.take (i + 1)) : Nat) : Int) = 7 := by omega
      simp only [sx, x_box, x_alloc, x_bslice, x_slice, x_append, x_appz, x_b2s, x_s2b, x_mark, xop, ev, evs, evParts, fillL, cellsL, Ai.get, Ai.put, stab, isNil?, if_false, if_true, addr?, int?, str?, agg?, bool?, shiftA, FnPost, xresL, xres1, tup, argEnv, ptr, Nat.reduceEqDiff, reduceIte, beq_self_eq_true, ne_eq, Nat.reduceAdd, Nat.reduceMul, Nat.reduceSub, abin_shl, abin_shr, load1V, loadV, storeV, cellsAt, getN, setN, allocV, lenL, lenS, bnd, oneC, Value.oneCell', Nat.reduceLeDiff, Nat.reduceLT, exists_eq_left', forall_const, reduceCtorEq, app_new, app_new0, List.append_assoc, Int.reduceToNat, Int.reduceLT, Int.reduceLE, Int.reduceEq, Int.reduceNe, Int.reduceBEq, IntKind.bits, bne_self_eq_false, Int.reducePow, r3, wi, h7']
      exact ⟨m - 1, by omega, i + 1, by omega, rfl, r0, rfl, fun h => (hk.1 h).elim hA h7⟩
  · have hi' : ¬ (i : Int) < (n : Nat) := by omega
    simp only [sx, x_box, x_alloc, x_bslice, x_slice, x_append, x_appz, x_b2s, x_s2b, x_mark, xop, ev, evs, evParts, fillL, cellsL, Ai.get, Ai.put, stab, isNil?, if_false, if_true, addr?, int?, str?, agg?, bool?, shiftA, FnPost, xresL, xres1, tup, argEnv, ptr, Nat.reduceEqDiff, reduceIte, beq_self_eq_true, ne_eq, Nat.reduceAdd, Nat.reduceMul, Nat.reduceSub, abin_shl, abin_shr, load1V, loadV, storeV, cellsAt, getN, setN, allocV, lenL, lenS, bnd, oneC, Value.oneCell', Nat.reduceLeDiff, Nat.reduceLT, exists_eq_left', forall_const, reduceCtorEq, app_new, app_new0, List.append_assoc, Int.reduceToNat, Int.reduceLT, Int.reduceLE, Int.reduceEq, Int.reduceNe, Int.reduceBEq, IntKind.bits, bne_self_eq_false, Int.reducePow, r3, r0, hi']
    rw [List.take_of_length_le (by omega)] at hA
    exact .inl ⟨rfl, hA⟩
/-- without stuffed zeros -/
def PlI (g : AHeap) (q : Option Addr) (n c : Nat) (zs : List Int) (m : Nat) (ρ : Env) (h : AHeap) : Prop := ∃ (i : Nat) (sl : Value), i + m = n ∧ get ρ 4 = some (.int .i64 (i : Nat)) ∧ get ρ 0 = some (.slice q n c) ∧ get ρ 3 = some sl ∧ RN h sl (plainL (zs.take i)) ∧ Ext g h ∧ ∀ A, slB sl = some A → g.length ≤ A
def PlE (g : AHeap) (zs : List Int) (ρ : Env) (h : AHeap) : Prop := ∃ sl : Value, get ρ 3 = some sl ∧ RN h sl (plainL zs) ∧ Ext g h ∧ ∀ A, slB sl = some A → g.length ≤ A
theorem plain_ok {h : AHeap} {q : Option Addr} {n c : Nat} {zs : List Int} (hf : firstV 1 h n (.slice q n c) = some (bR zs)) (hn : n ≤ 1048576) (hb : Bits zs) :
    Valid Tryd.prog 39 [.slice q n c] h fun r h' => RN h' r (plainL zs) ∧ Ext h h' ∧ ∀ A, slB r = some A → h.length ≤ A := by
  refine v39 (by simp) ?_
  have hzl := firstV_len hf
  rw [bR_len, Nat.mul_one] at hzl
  simp only [X39, sx, x_box, x_alloc, x_bslice, x_slice, x_append, x_appz, x_b2s, x_s2b, x_mark, xop, ev, evs, evParts, fillL, cellsL, Ai.get, Ai.put, stab, isNil?, if_false, if_true, addr?, int?, str?, agg?, bool?, shiftA, FnPost, xresL, xres1, tup, argEnv, ptr, Nat.reduceEqDiff, reduceIte, beq_self_eq_true, ne_eq, Nat.reduceAdd, Nat.reduceMul, Nat.reduceSub, abin_shl, abin_shr, load1V, loadV, storeV, cellsAt, getN, setN, allocV, lenL, lenS, bnd, oneC, Value.oneCell', Nat.reduceLeDiff, Nat.reduceLT, exists_eq_left', forall_const, reduceCtorEq, app_new, app_new0, List.append_assoc, Int.reduceToNat, Int.reduceLT, Int.reduceLE, Int.reduceEq, Int.reduceNe, Int.reduceBEq, IntKind.bits, bne_self_eq_false, Int.reducePow]
  refine xloop_cut (PlE h zs) ?_ ?_
  · refine xcode_loop (PlI h q n c zs) n ⟨0, .slice none 0 0, by omega, rfl, rfl, rfl, .inl ⟨rfl, rfl⟩, Ext.refl _, fun A hA => by cases hA⟩ ?_
    rintro m ρ g ⟨i, sl, him, r4, r0, r3, R, E, hgl⟩
    by_cases hi : i < n
    · have hi' : (i : Int) < (n : Nat) := by omega
      have hi0 : (0 : Int) ≤ (i : Int) := by omega
      have wi : IntKind.i64.wrap ((i : Int) + 1) = ((i + 1 : Nat) : Int) := by rw [i64_wrap] <;> omega
      obtain ⟨a, o, z, rfl, a1, a2, a3, a4⟩ := elemB (E.first hf) hi
      have hz := hb z (List.mem_of_getElem? a4)
      have hsn : plainL (zs.take (i + 1)) = plainL (zs.take i) ++ gP (zs.take i) z := acc_take_succ gP a4
      have hpl := plainL_len (zs.take i)
      rw [List.length_take] at hpl
      by_cases h1 : z = 1
      · subst h1
        have hg : gP (zs.take i) 1 = [1] := if_pos (.inl rfl)
        rw [hg] at hsn
        simp only [sx, x_box, x_alloc, x_bslice, x_slice, x_appz, x_b2s, x_s2b, x_mark, xop, ev, evs, evParts, fillL, cellsL, Ai.get, Ai.put, stab, isNil?, if_false, if_true, addr?, int?, str?, agg?, bool?, shiftA, FnPost, xresL, xres1, tup, argEnv, ptr, Nat.reduceEqDiff, reduceIte, beq_self_eq_true, ne_eq, Nat.reduceAdd, Nat.reduceMul, Nat.reduceSub, abin_shl, abin_shr, load1V, loadV, storeV, cellsAt, getN, setN, allocV, lenL, lenS, bnd, oneC, Value.oneCell', Nat.reduceLeDiff, Nat.reduceLT, exists_eq_left', forall_const, reduceCtorEq, app_new, app_new0, List.append_assoc, Int.reduceToNat, Int.reduceLT, Int.reduceLE, Int.reduceEq, Int.reduceNe, Int.reduceBEq, IntKind.bits, bne_self_eq_false, Int.reducePow, r4, r0, r3, hi', hi0, a1, a2, a3, Nat.mul_one]
        refine RN.push R E hgl rfl rfl (by omega) fun sl' g2 R2 E2 hgl2 => ?_
        simp only [sx, x_box, x_alloc, x_bslice, x_slice, x_append, x_appz, x_b2s, x_s2b, x_mark, xop, ev, evs, evParts, fillL, cellsL, Ai.get, Ai.put, stab, isNil?, if_false, if_true, addr?, int?, str?, agg?, bool?, shiftA, FnPost, xresL, xres1, tup, argEnv, ptr, Nat.reduceEqDiff, reduceIte, beq_self_eq_true, ne_eq, Nat.reduceAdd, Nat.reduceMul, Nat.reduceSub, abin_shl, abin_shr, load1V, loadV, storeV, cellsAt, getN, setN, allocV, lenL, lenS, bnd, oneC, Value.oneCell', Nat.reduceLeDiff, Nat.reduceLT, exists_eq_left', forall_const, reduceCtorEq, app_new, app_new0, List.append_assoc, Int.reduceToNat, Int.reduceLT, Int.reduceLE, Int.reduceEq, Int.reduceNe, Int.reduceBEq, IntKind.bits, bne_self_eq_false, Int.reducePow, r4, wi]
        exact ⟨m - 1, by omega, i + 1, sl', by omega, rfl, r0, rfl, by rw [hsn]; exact R2, E2, hgl2⟩
      · simp only [sx, x_box, x_alloc, x_bslice, x_slice, x_appz, x_b2s, x_s2b, x_mark, xop, ev, evs, evParts, fillL, cellsL, Ai.get, Ai.put, stab, isNil?, if_false, if_true, addr?, int?, str?, agg?, bool?, shiftA, FnPost, xresL, xres1, tup, argEnv, ptr, Nat.reduceEqDiff, reduceIte, beq_self_eq_true, ne_eq, Nat.reduceAdd, Nat.reduceMul, Nat.reduceSub, abin_shl, abin_shr, load1V, loadV, storeV, cellsAt, getN, setN, allocV, lenL, lenS, bnd, oneC, Value.oneCell', Nat.reduceLeDiff, Nat.reduceLT, exists_eq_left', forall_const, reduceCtorEq, app_new, app_new0, List.append_assoc, Int.reduceToNat, Int.reduceLT, Int.reduceLE, Int.reduceEq, Int.reduceNe, Int.reduceBEq, IntKind.bits, bne_self_eq_false, Int.reducePow, r4, r0, r3, hi', hi0, a1, a2, a3, Nat.mul_one, h1]
        refine xcall (ones_ok (at' := i) (E.first hf) (by omega) (by omega)) (by rfl) (by rfl) (by rfl) (by rfl) ?_
        rintro r g2 ⟨rfl, e0⟩
        subst e0
        by_cases h5 : tr (zs.take i) = 5
        · have h5' : ((tr (zs.take i) : Nat) : Int) = 5 := by omega
          have hg : gP (zs.take i) z = [] := if_neg fun h => h.elim h1 fun h => h h5
          rw [hg, List.append_nil] at hsn
          simp only [sx, x_box, x_alloc, x_bslice, x_slice, x_append, x_appz, x_b2s, x_s2b, x_mark, xop, ev, evs, evParts, fillL, cellsL, Ai.get, Ai.put, stab, isNil?, if_false, if_true, addr?, int?, str?, agg?, bool?, shiftA, FnPost, xresL, xres1, tup, argEnv, ptr, Nat.reduceEqDiff, reduceIte, beq_self_eq_true, ne_eq, Nat.reduceAdd, Nat.reduceMul, Nat.reduceSub, abin_shl, abin_shr, load1V, loadV, storeV, cellsAt, getN, setN, allocV, lenL, lenS, bnd, oneC, Value.oneCell', Nat.reduceLeDiff, Nat.reduceLT, exists_eq_left', forall_const, reduceCtorEq, app_new, app_new0, List.append_assoc, Int.reduceToNat, Int.reduceLT, Int.reduceLE, Int.reduceEq, Int.reduceNe, Int.reduceBEq, IntKind.bits, bne_self_eq_false, Int.reducePow, r4, wi, h5']
          exact ⟨m - 1, by omega, i + 1, sl, by omega, rfl, r0, r3, by rw [hsn]; exact R, E, hgl⟩
        · have h5' : ¬ ((tr (zs.take i) : Nat) : Int) = 5 := by omega
          have hg : gP (zs.take i) z = [z] := if_pos (.inr h5)
          rw [hg] at hsn
          simp only [sx, x_box, x_alloc, x_bslice, x_slice, x_appz, x_b2s, x_s2b, x_mark, xop, ev, evs, evParts, fillL, cellsL, Ai.get, Ai.put, stab, isNil?, if_false, if_true, addr?, int?, str?, agg?, bool?, shiftA, FnPost, xresL, xres1, tup, argEnv, ptr, Nat.reduceEqDiff, reduceIte, beq_self_eq_true, ne_eq, Nat.reduceAdd, Nat.reduceMul, Nat.reduceSub, abin_shl, abin_shr, load1V, loadV, storeV, cellsAt, getN, setN, allocV, lenL, lenS, bnd, oneC, Value.oneCell', Nat.reduceLeDiff, Nat.reduceLT, exists_eq_left', forall_const, reduceCtorEq, app_new, app_new0, List.append_assoc, Int.reduceToNat, Int.reduceLT, Int.reduceLE, Int.reduceEq, Int.reduceNe, Int.reduceBEq, IntKind.bits, bne_self_eq_false, Int.reducePow, r4, r0, r3, hi', hi0, a1, a2, a3, Nat.mul_one, h5']
          refine RN.push R E hgl rfl rfl (by omega) fun sl' g2 R2 E2 hgl2 => ?_
          simp only [sx, x_box, x_alloc, x_bslice, x_slice, x_append, x_appz, x_b2s, x_s2b, x_mark, xop, ev, evs, evParts, fillL, cellsL, Ai.get, Ai.put, stab, isNil?, if_false, if_true, addr?, int?, str?, agg?, bool?, shiftA, FnPost, xresL, xres1, tup, argEnv, ptr, Nat.reduceEqDiff, reduceIte, beq_self_eq_true, ne_eq, Nat.reduceAdd, Nat.reduceMul, Nat.reduceSub, abin_shl, abin_shr, load1V, loadV, storeV, cellsAt, getN, setN, allocV, lenL, lenS, bnd, oneC, Value.oneCell', Nat.reduceLeDiff, Nat.reduceLT, exists_eq_left', forall_const, reduceCtorEq, app_new, app_new0, List.append_assoc, Int.reduceToNat, Int.reduceLT, Int.reduceLE, Int.reduceEq, Int.reduceNe, Int.reduceBEq, IntKind.bits, bne_self_eq_false, Int.reducePow, r4, wi]
          exact ⟨m - 1, by omega, i + 1, sl', by omega, rfl, r0, rfl, by rw [hsn]; exact R2, E2, hgl2⟩
    · have hi' : ¬ (i : Int) < (n : Nat) := by omega
      simp only [sx, x_box, x_alloc, x_bslice, x_slice, x_append, x_appz, x_b2s, x_s2b, x_mark, xop, ev, evs, evParts, fillL, cellsL, Ai.get, Ai.put, stab, isNil?, if_false, if_true, addr?, int?, str?, agg?, bool?, shiftA, FnPost, xresL, xres1, tup, argEnv, ptr, Nat.reduceEqDiff, reduceIte, beq_self_eq_true, ne_eq, Nat.reduceAdd, Nat.reduceMul, Nat.reduceSub, abin_shl, abin_shr, load1V, loadV, storeV, cellsAt, getN, setN, allocV, lenL, lenS, bnd, oneC, Value.oneCell', Nat.reduceLeDiff, Nat.reduceLT, exists_eq_left', forall_const, reduceCtorEq, app_new, app_new0, List.append_assoc, Int.reduceToNat, Int.reduceLT, Int.reduceLE, Int.reduceEq, Int.reduceNe, Int.reduceBEq, IntKind.bits, bne_self_eq_false, Int.reducePow, r4, r0, hi']
      rw [List.take_of_length_le (by omega)] at R
      exact ⟨sl, r3, R, E, hgl⟩
  · rintro ρ g ⟨sl, r3, R, E, hgl⟩
    simp only [sx, x_box, x_alloc, x_bslice, x_slice, x_append, x_appz, x_b2s, x_s2b, x_mark, xop, ev, evs, evParts, fillL, cellsL, Ai.get, Ai.put, stab, isNil?, if_false, if_true, addr?, int?, str?, agg?, bool?, shiftA, FnPost, xresL, xres1, tup, argEnv, ptr, Nat.reduceEqDiff, reduceIte, beq_self_eq_true, ne_eq, Nat.reduceAdd, Nat.reduceMul, Nat.reduceSub, abin_shl, abin_shr, load1V, loadV, storeV, cellsAt, getN, setN, allocV, lenL, lenS, bnd, oneC, Value.oneCell', Nat.reduceLeDiff, Nat.reduceLT, exists_eq_left', forall_const, reduceCtorEq, app_new, app_new0, List.append_assoc, Int.reduceToNat, Int.reduceLT, Int.reduceLE, Int.reduceEq, Int.reduceNe, Int.reduceBEq, IntKind.bits, bne_self_eq_false, Int.reducePow, r3]
    exact ⟨R, E, hgl⟩
/-- numbers, appended to -/
def iR (l : List Nat) : List Value := l.map fun x : Nat => Value.int .i64 (x : Int)
def RI (h : AHeap) (sl : Value) (L : List Nat) : Prop := (sl = .slice none 0 0 ∧ L = []) ∨ ∃ A, sl = .slice (some ⟨A, 0, none⟩) L.length (unk + 1) ∧ h[A]? = some (some ⟨true, iR L⟩)
theorem RI.ext {h h' : AHeap} {sl : Value} {L : List Nat} (r : RI h sl L) (e : Ext h h') : RI h' sl L := by
  rcases r with r | ⟨A, h1, h2⟩
  · exact .inl r
  · exact .inr ⟨A, h1, e.get h2⟩
theorem iR_one (l : List Nat) : (iR l).all oneC = true := by
  induction l with
  | nil => rfl
  | cons x l ih => show (oneC (.int .i64 (x : Int)) && (iR l).all oneC) = true; rw [ih]; rfl
theorem RI.push {K : Env → AHeap → Prop} {r : List XOper} {ρ : Env} {g0 h : AHeap} {L : List Nat} {z : Nat} {d : Option Nat} {s x : XA} {sl : Value} (R : RI h sl L) (E : Ext g0 h) (hgl : ∀ A, slB sl = some A → g0.length ≤ A)
    (hs : ev ρ s = some sl) (hx : ev ρ x = some (.slice (some ⟨h.length, 0, none⟩) 1 1)) (hb : L.length < 1048576 * 64)
    (hK : ∀ sl' h', RI h' sl' (L ++ [z]) → Ext g0 h' → (∀ A, slB sl' = some A → g0.length ≤ A) → xops Tryd.prog K r (put d sl' ρ) h') :
    xops Tryd.prog K (⟨d, none, .append 1 8 [.int .i64 0] s x, []⟩ :: r) ρ (h ++ [some ⟨true, [.int .i64 (z : Int)]⟩]) := by
  have R2 := R.ext (Ext.app h [some ⟨true, [.int .i64 (z : Int)]⟩])
  have E2 := E.trans (Ext.app h [some ⟨true, [.int .i64 (z : Int)]⟩])
  have hf : firstV 1 (h ++ [some ⟨true, [.int .i64 (z : Int)]⟩]) 1 (.slice (some ⟨h.length, 0, none⟩) 1 1) = some (iR [z]) := by
    simp only [firstV, cellsAt, app_new0]; simp [getN, iR]
  have hO : RetO 1 (h ++ [some ⟨true, [.int .i64 (z : Int)]⟩]) sl L.length (iR L) := by
    rcases R2 with ⟨rfl, rfl⟩ | ⟨A, rfl, hA⟩
    · exact ⟨rfl, .inl ⟨rfl, rfl⟩⟩
    · exact ⟨by simp [iR], .inr (.inr ⟨A, 0, _, rfl, hA, getN_all _ _ (by simp [iR])⟩)⟩
  refine append_run (k := 1) (by_ := 8) (n := L.length) (m := 1) (rows := iR L) (news := iR [z]) (sl := sl) (xv := .slice (some ⟨h.length, 0, none⟩) 1 1) rfl (by decide) hs hx rfl hf rfl (iR_one _) hO (by omega) (by omega) (fun h0 => by omega) (fun _ h' A' hA' hg hl' hfr => ?_)
  have hlen := E2.1
  refine hK _ h' (.inr ⟨A', by simp, by rw [hg]; simp [iR]⟩) ⟨by omega, fun B hB => ?_⟩ (fun A hA => by simp [slB] at hA; omega)
  rw [hfr B (by omega) (fun e => by have := hgl B e; omega)]
  exact E2.2 B hB
def EnI (g : AHeap) (q : Option Addr) (n c : Nat) (zs : List Int) (m : Nat) (ρ : Env) (h : AHeap) : Prop := ∃ (i : Nat) (sl : Value), i + m = n ∧ get ρ 4 = some (.int .i64 (i : Nat)) ∧ get ρ 0 = some (.slice q n c) ∧ get ρ 3 = some sl ∧ RI h sl (endsL (zs.take i)) ∧ Ext g h ∧ (∀ A, slB sl = some A → g.length ≤ A) ∧ (endsL (zs.take i)).length ≤ i
def EnE (g : AHeap) (zs : List Int) (ρ : Env) (h : AHeap) : Prop := ∃ sl : Value, get ρ 3 = some sl ∧ RI h sl (endsL zs) ∧ Ext g h ∧ ∀ A, slB sl = some A → g.length ≤ A
theorem ends_ok {h : AHeap} {q : Option Addr} {n c : Nat} {zs : List Int} (hf : firstV 1 h n (.slice q n c) = some (bR zs)) (hn : n ≤ 1048576) :
    Valid Tryd.prog 38 [.slice q n c] h fun r h' => RI h' r (endsL zs) ∧ Ext h h' ∧ ∀ A, slB r = some A → h.length ≤ A := by
  refine v38 (by simp) ?_
  have hzl := firstV_len hf
  rw [bR_len, Nat.mul_one] at hzl
  simp only [X38, sx, x_box, x_alloc, x_bslice, x_slice, x_append, x_appz, x_b2s, x_s2b, x_mark, xop, ev, evs, evParts, fillL, cellsL, Ai.get, Ai.put, stab, isNil?, if_false, if_true, addr?, int?, str?, agg?, bool?, shiftA, FnPost, xresL, xres1, tup, argEnv, ptr, Nat.reduceEqDiff, reduceIte, beq_self_eq_true, ne_eq, Nat.reduceAdd, Nat.reduceMul, Nat.reduceSub, abin_shl, abin_shr, load1V, loadV, storeV, cellsAt, getN, setN, allocV, lenL, lenS, bnd, oneC, Value.oneCell', Nat.reduceLeDiff, Nat.reduceLT, exists_eq_left', forall_const, reduceCtorEq, app_new, app_new0, List.append_assoc, Int.reduceToNat, Int.reduceLT, Int.reduceLE, Int.reduceEq, Int.reduceNe, Int.reduceBEq, IntKind.bits, bne_self_eq_false, Int.reducePow]
  refine xloop_cut (EnE h zs) ?_ ?_
  · refine xcode_loop (EnI h q n c zs) n ⟨0, .slice none 0 0, by omega, rfl, rfl, rfl, .inl ⟨rfl, rfl⟩, Ext.refl _, (fun A hA => by cases hA), Nat.le_refl _⟩ ?_
    rintro m ρ g ⟨i, sl, him, r4, r0, r3, R, E, hgl, hle⟩
    by_cases hi : i < n
    · have hi' : (i : Int) < (n : Nat) := by omega
      have hi0 : (0 : Int) ≤ (i : Int) := by omega
      have wi : IntKind.i64.wrap ((i : Int) + 1) = ((i + 1 : Nat) : Int) := by rw [i64_wrap] <;> omega
      obtain ⟨a, o, z, rfl, a1, a2, a3, a4⟩ := elemB (E.first hf) hi
      have hsn : endsL (zs.take (i + 1)) = endsL (zs.take i) ++ gE (zs.take i) z := acc_take_succ gE a4
      have htl : (zs.take i).length = i := by rw [List.length_take]; omega
      by_cases h1 : z = 0
      · subst h1
        simp only [sx, x_box, x_alloc, x_bslice, x_slice, x_append, x_appz, x_b2s, x_s2b, x_mark, xop, ev, evs, evParts, fillL, cellsL, Ai.get, Ai.put, stab, isNil?, if_false, if_true, addr?, int?, str?, agg?, bool?, shiftA, FnPost, xresL, xres1, tup, argEnv, ptr, Nat.reduceEqDiff, reduceIte, beq_self_eq_true, ne_eq, Nat.reduceAdd, Nat.reduceMul, Nat.reduceSub, abin_shl, abin_shr, load1V, loadV, storeV, cellsAt, getN, setN, allocV, lenL, lenS, bnd, oneC, Value.oneCell', Nat.reduceLeDiff, Nat.reduceLT, exists_eq_left', forall_const, reduceCtorEq, app_new, app_new0, List.append_assoc, Int.reduceToNat, Int.reduceLT, Int.reduceLE, Int.reduceEq, Int.reduceNe, Int.reduceBEq, IntKind.bits, bne_self_eq_false, Int.reducePow, r4, r0, r3, hi', hi0, a1, a2, a3, Nat.mul_one]
        refine xcall (ones_ok (at' := i) (E.first hf) (by omega) (by omega)) (by rfl) (by rfl) (by rfl) (by rfl) ?_
        rintro r g2 ⟨rfl, e0⟩
        subst e0
        by_cases h6 : tr (zs.take i) = 6
        · have h6' : ((tr (zs.take i) : Nat) : Int) = 6 := by omega
          have hg : gE (zs.take i) 0 = [i + 1] := by unfold gE; rw [if_pos ⟨rfl, h6⟩, htl]
          rw [hg] at hsn
          simp only [sx, x_box, x_alloc, x_bslice, x_slice, x_appz, x_b2s, x_s2b, x_mark, xop, ev, evs, evParts, fillL, cellsL, Ai.get, Ai.put, stab, isNil?, if_false, if_true, addr?, int?, str?, agg?, bool?, shiftA, FnPost, xresL, xres1, tup, argEnv, ptr, Nat.reduceEqDiff, reduceIte, beq_self_eq_true, ne_eq, Nat.reduceAdd, Nat.reduceMul, Nat.reduceSub, abin_shl, abin_shr, load1V, loadV, storeV, cellsAt, getN, setN, allocV, lenL, lenS, bnd, oneC, Value.oneCell', Nat.reduceLeDiff, Nat.reduceLT, exists_eq_left', forall_const, reduceCtorEq, app_new, app_new0, List.append_assoc, Int.reduceToNat, Int.reduceLT, Int.reduceLE, Int.reduceEq, Int.reduceNe, Int.reduceBEq, IntKind.bits, bne_self_eq_false, Int.reducePow, r4, r0, r3, h6', wi]
          refine RI.push R E hgl rfl rfl (by omega) fun sl' g2 R2 E2 hgl2 => ?_
          simp only [sx, x_box, x_alloc, x_bslice, x_slice, x_append, x_appz, x_b2s, x_s2b, x_mark, xop, ev, evs, evParts, fillL, cellsL, Ai.get, Ai.put, stab, isNil?, if_false, if_true, addr?, int?, str?, agg?, bool?, shiftA, FnPost, xresL, xres1, tup, argEnv, ptr, Nat.reduceEqDiff, reduceIte, beq_self_eq_true, ne_eq, Nat.reduceAdd, Nat.reduceMul, Nat.reduceSub, abin_shl, abin_shr, load1V, loadV, storeV, cellsAt, getN, setN, allocV, lenL, lenS, bnd, oneC, Value.oneCell', Nat.reduceLeDiff, Nat.reduceLT, exists_eq_left', forall_const, reduceCtorEq, app_new, app_new0, List.append_assoc, Int.reduceToNat, Int.reduceLT, Int.reduceLE, Int.reduceEq, Int.reduceNe, Int.reduceBEq, IntKind.bits, bne_self_eq_false, Int.reducePow, r4, wi]
          exact ⟨m - 1, by omega, i + 1, sl', by omega, rfl, r0, rfl, by rw [hsn]; exact R2, E2, hgl2, by rw [hsn, List.length_append]; simp; omega⟩
        · have h6' : ¬ ((tr (zs.take i) : Nat) : Int) = 6 := by omega
          have hg : gE (zs.take i) 0 = [] := if_neg fun h => h6 h.2
          rw [hg, List.append_nil] at hsn
          simp only [sx, x_box, x_alloc, x_bslice, x_slice, x_append, x_appz, x_b2s, x_s2b, x_mark, xop, ev, evs, evParts, fillL, cellsL, Ai.get, Ai.put, stab, isNil?, if_false, if_true, addr?, int?, str?, agg?, bool?, shiftA, FnPost, xresL, xres1, tup, argEnv, ptr, Nat.reduceEqDiff, reduceIte, beq_self_eq_true, ne_eq, Nat.reduceAdd, Nat.reduceMul, Nat.reduceSub, abin_shl, abin_shr, load1V, loadV, storeV, cellsAt, getN, setN, allocV, lenL, lenS, bnd, oneC, Value.oneCell', Nat.reduceLeDiff, Nat.reduceLT, exists_eq_left', forall_const, reduceCtorEq, app_new, app_new0, List.append_assoc, Int.reduceToNat, Int.reduceLT, Int.reduceLE, Int.reduceEq, Int.reduceNe, Int.reduceBEq, IntKind.bits, bne_self_eq_false, Int.reducePow, r4, wi, h6']
          exact ⟨m - 1, by omega, i + 1, sl, by omega, rfl, r0, r3, by rw [hsn]; exact R, E, hgl, by rw [hsn]; omega⟩
      · have hg : gE (zs.take i) z = [] := if_neg fun h => h1 h.1
        rw [hg, List.append_nil] at hsn
        simp only [sx, x_box, x_alloc, x_bslice, x_slice, x_append, x_appz, x_b2s, x_s2b, x_mark, xop, ev, evs, evParts, fillL, cellsL, Ai.get, Ai.put, stab, isNil?, if_false, if_true, addr?, int?, str?, agg?, bool?, shiftA, FnPost, xresL, xres1, tup, argEnv, ptr, Nat.reduceEqDiff, reduceIte, beq_self_eq_true, ne_eq, Nat.reduceAdd, Nat.reduceMul, Nat.reduceSub, abin_shl, abin_shr, load1V, loadV, storeV, cellsAt, getN, setN, allocV, lenL, lenS, bnd, oneC, Value.oneCell', Nat.reduceLeDiff, Nat.reduceLT, exists_eq_left', forall_const, reduceCtorEq, app_new, app_new0, List.append_assoc, Int.reduceToNat, Int.reduceLT, Int.reduceLE, Int.reduceEq, Int.reduceNe, Int.reduceBEq, IntKind.bits, bne_self_eq_false, Int.reducePow, r4, r0, r3, hi', hi0, a1, a2, a3, Nat.mul_one, h1, wi]
        exact ⟨m - 1, by omega, i + 1, sl, by omega, rfl, r0, r3, by rw [hsn]; exact R, E, hgl, by rw [hsn]; omega⟩
    · have hi' : ¬ (i : Int) < (n : Nat) := by omega
      simp only [sx, x_box, x_alloc, x_bslice, x_slice, x_append, x_appz, x_b2s, x_s2b, x_mark, xop, ev, evs, evParts, fillL, cellsL, Ai.get, Ai.put, stab, isNil?, if_false, if_true, addr?, int?, str?, agg?, bool?, shiftA, FnPost, xresL, xres1, tup, argEnv, ptr, Nat.reduceEqDiff, reduceIte, beq_self_eq_true, ne_eq, Nat.reduceAdd, Nat.reduceMul, Nat.reduceSub, abin_shl, abin_shr, load1V, loadV, storeV, cellsAt, getN, setN, allocV, lenL, lenS, bnd, oneC, Value.oneCell', Nat.reduceLeDiff, Nat.reduceLT, exists_eq_left', forall_const, reduceCtorEq, app_new, app_new0, List.append_assoc, Int.reduceToNat, Int.reduceLT, Int.reduceLE, Int.reduceEq, Int.reduceNe, Int.reduceBEq, IntKind.bits, bne_self_eq_false, Int.reducePow, r4, r0, hi']
      rw [List.take_of_length_le (by omega)] at R
      exact ⟨sl, r3, R, E, hgl⟩
  · rintro ρ g ⟨sl, r3, R, E, hgl⟩
    simp only [sx, x_box, x_alloc, x_bslice, x_slice, x_append, x_appz, x_b2s, x_s2b, x_mark, xop, ev, evs, evParts, fillL, cellsL, Ai.get, Ai.put, stab, isNil?, if_false, if_true, addr?, int?, str?, agg?, bool?, shiftA, FnPost, xresL, xres1, tup, argEnv, ptr, Nat.reduceEqDiff, reduceIte, beq_self_eq_true, ne_eq, Nat.reduceAdd, Nat.reduceMul, Nat.reduceSub, abin_shl, abin_shr, load1V, loadV, storeV, cellsAt, getN, setN, allocV, lenL, lenS, bnd, oneC, Value.oneCell', Nat.reduceLeDiff, Nat.reduceLT, exists_eq_left', forall_const, reduceCtorEq, app_new, app_new0, List.append_assoc, Int.reduceToNat, Int.reduceLT, Int.reduceLE, Int.reduceEq, Int.reduceNe, Int.reduceBEq, IntKind.bits, bne_self_eq_false, Int.reducePow, r3]
    exact ⟨R, E, hgl⟩
end Go.Proofs.YtimfgagdfmmeeaaDoor
