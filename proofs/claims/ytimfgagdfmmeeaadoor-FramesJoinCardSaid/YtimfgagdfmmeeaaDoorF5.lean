import Derived.Test.YtimfgagdfmmeeaaDoorF4
import Derived.Test.YtimfgagdfmmeeaaDoorAiXa
import Derived.Test.YtimfgagdfmmeeaaDoorAiXc
import Derived.Test.YtimfgagdfmmeeaaDoorAiXd
set_option linter.unusedVariables false
set_option linter.unusedSimpArgs false
namespace Go.Proofs.YtimfgagdfmmeeaaDoor
open Go Go.Ai Go.Proofs

/-- a slice of bytes with room -/
def CR (h : AHeap) (sl : Value) (zs : List Int) : Prop := (zs = [] ∧ (sl = .slice none 0 0 ∨ ∃ A cs, sl = .slice (some ⟨A, 0, none⟩) 0 (unk + 1) ∧ h[A]? = some (some ⟨true, cs⟩))) ∨ ∃ A, sl = .slice (some ⟨A, 0, none⟩) zs.length (unk + 1) ∧ h[A]? = some (some ⟨true, bR zs⟩)
theorem CR.toO {h : AHeap} {sl : Value} {zs : List Int} (r : CR h sl zs) : RetO 1 h sl zs.length (bR zs) := by
  rcases r with ⟨rfl, rfl | ⟨A, cs, rfl, hA⟩⟩ | ⟨A, rfl, hA⟩
  · exact ⟨rfl, .inl ⟨rfl, rfl⟩⟩
  · exact ⟨rfl, .inr (.inr ⟨A, 0, cs, rfl, hA, rfl⟩)⟩
  · exact ⟨by rw [bR_len, Nat.mul_one], .inr (.inr ⟨A, 0, _, rfl, hA, getN_all _ _ (by rw [bR_len, Nat.mul_one])⟩)⟩
theorem clipR_ok {h : AHeap} {sl : Value} {zs : List Int} (r : CR h sl zs) (hz : zs.length ≤ 1048576 * 2) : Valid Tryd.prog 36 [sl] h fun r h' => (∃ q, r = .slice q zs.length zs.length ∧ ∀ a, q = some a → a.spot = none) ∧ firstV 1 h' zs.length r = some (bR zs) ∧ slB r = slB sl ∧ h' = h := by
  have hf := r.toO.first
  rcases r with ⟨rfl, rfl | ⟨A, cs, rfl, hA⟩⟩ | ⟨A, rfl, hA⟩
  · refine (clip_nil v36 h).mono ?_
    rintro r h' ⟨rfl, rfl⟩
    exact ⟨⟨none, rfl, by simp⟩, rfl, rfl, rfl⟩
  · refine (clip_ok v36 h A 0 (unk + 1) (by decide) (.inr rfl)).mono ?_
    rintro r h' ⟨rfl, rfl⟩
    exact ⟨⟨_, rfl, fun a ha => by cases ha; rfl⟩, rfl, rfl, rfl⟩
  · refine (clip_ok v36 h A zs.length (unk + 1) (by unfold unk; omega) (.inr rfl)).mono ?_
    rintro r h' ⟨rfl, rfl⟩
    exact ⟨⟨_, rfl, fun a ha => by cases ha; rfl⟩, by simpa only [firstV] using hf, rfl, rfl⟩
/-- the longest run, as it is counted -/
def runStep (v : Int) (s : Nat × Nat) (z : Int) : Nat × Nat := let r := if z = v then s.2 + 1 else 0; (max s.1 r, r)
def runSt (v : Int) (zs : List Int) : Nat × Nat := zs.foldl (runStep v) (0, 0)
theorem runSt_snoc {zs : List Int} {i : Nat} {z : Int} (v : Int) (h : zs[i]? = some z) : runSt v (zs.take (i + 1)) = runStep v (runSt v (zs.take i)) z := by
  rw [take_snoc h]; simp [runSt, List.foldl_append]
theorem runSt_le (v : Int) (zs : List Int) : (runSt v zs).1 ≤ zs.length ∧ (runSt v zs).2 ≤ zs.length := by
  have key : ∀ (zs : List Int) (s : Nat × Nat) (k : Nat), s.1 ≤ k → s.2 ≤ k → (zs.foldl (runStep v) s).1 ≤ k + zs.length ∧ (zs.foldl (runStep v) s).2 ≤ k + zs.length := by
    intro zs
    induction zs with
    | nil => intro s k h1 h2; exact ⟨h1, h2⟩
    | cons z zs ih =>
      intro s k h1 h2
      have h3 : (runStep v s z).1 ≤ k + 1 ∧ (runStep v s z).2 ≤ k + 1 := by
        unfold runStep; dsimp only
        by_cases h : z = v
        · rw [if_pos h]; omega
        · rw [if_neg h]; omega
      have := ih (runStep v s z) (k + 1) h3.1 h3.2
      simp only [List.foldl_cons, List.length_cons]; omega
  have := key zs (0, 0) 0 (Nat.le_refl _) (Nat.le_refl _)
  simpa [runSt] using this
theorem run_ok {h : AHeap} {q : Option Addr} {n c : Nat} {v : Int} {zs : List Int} (hf : firstV 1 h n (.slice q n c) = some (bR zs)) (hn : n ≤ 1152921504606846976) :
    Valid Tryd.prog 29 [.slice q n c, .int .u8 v] h fun r h' => r = .int .i64 ((runSt v zs).1 : Nat) ∧ h' = h := by
  refine v29 (by simp) ?_
  have hzl := firstV_len hf
  rw [bR_len, Nat.mul_one] at hzl
  simp only [X29, sx, x_box, x_alloc, x_bslice, x_slice, x_append, x_appz, x_b2s, x_s2b, x_mark, xop, ev, evs, evParts, fillL, cellsL, Ai.get, Ai.put, stab, isNil?, if_false, if_true, addr?, int?, str?, agg?, bool?, shiftA, FnPost, xresL, xres1, tup, argEnv, ptr, Nat.reduceEqDiff, reduceIte, beq_self_eq_true, ne_eq, Nat.reduceAdd, Nat.reduceMul, Nat.reduceSub, abin_shl, abin_shr, load1V, loadV, storeV, cellsAt, getN, setN, allocV, lenL, lenS, bnd, oneC, Value.oneCell', Nat.reduceLeDiff, Nat.reduceLT, exists_eq_left', forall_const, reduceCtorEq, app_new, app_new0, List.append_assoc, Int.reduceToNat, Int.reduceLT, Int.reduceLE, Int.reduceEq, Int.reduceNe, Int.reduceBEq, IntKind.bits, bne_self_eq_false, Int.reducePow]
  refine xcode_loop (fun m ρ h' => ∃ i, i + m = n ∧ get ρ 11 = some (.int .i64 (i : Nat)) ∧ get ρ 10 = some (.int .i64 (n : Nat)) ∧ get ρ 9 = some (.slice q n c) ∧ get ρ 1 = some (.int .u8 v) ∧ get ρ 5 = some (.int .i64 ((runSt v (zs.take i)).1 : Nat)) ∧ get ρ 6 = some (.int .i64 ((runSt v (zs.take i)).2 : Nat)) ∧ h' = h) n
    ⟨0, by simp, rfl, rfl, rfl, rfl, rfl, rfl, rfl⟩ ?_
  rintro m ρ h' ⟨i, him, g11, g10, g9, g1, g5, g6, rfl⟩
  by_cases hlt : i < n
  · have hlt' : (i : Int) < n := by omega
    have hge : (0 : Int) ≤ i := by omega
    have hwi : IntKind.i64.wrap ((i : Int) + 1) = ((i + 1 : Nat) : Int) := by rw [i64_wrap] <;> omega
    obtain ⟨a, o, z, rfl, a1, a2, a3, a4⟩ := elemB hf hlt
    have hsn := runSt_snoc v a4
    have hle := runSt_le v (zs.take i)
    have htl : (zs.take i).length ≤ n := by simp; omega
    generalize runSt v (zs.take i) = s at *
    obtain ⟨s1, s2⟩ := s
    simp only at g5 g6 hle
    have hw2 : IntKind.i64.wrap ((s2 : Int) + 1) = ((s2 + 1 : Nat) : Int) := by rw [i64_wrap] <;> omega
    by_cases hzv : z = v
    · have e : runStep v (s1, s2) z = (max s1 (s2 + 1), s2 + 1) := by simp [runStep, hzv]
      rw [e] at hsn
      by_cases hg : ((s2 + 1 : Nat) : Int) > (s1 : Int)
      · have hmax : max s1 (s2 + 1) = s2 + 1 := by omega
        rw [hmax] at hsn
        simp only [sx, x_box, x_alloc, x_bslice, x_slice, x_append, x_appz, x_b2s, x_s2b, x_mark, xop, ev, evs, evParts, fillL, cellsL, Ai.get, Ai.put, stab, isNil?, if_false, if_true, addr?, int?, str?, agg?, bool?, shiftA, FnPost, xresL, xres1, tup, argEnv, ptr, Nat.reduceEqDiff, reduceIte, beq_self_eq_true, ne_eq, Nat.reduceAdd, Nat.reduceMul, Nat.reduceSub, abin_shl, abin_shr, load1V, loadV, storeV, cellsAt, getN, setN, allocV, lenL, lenS, bnd, oneC, Value.oneCell', Nat.reduceLeDiff, Nat.reduceLT, exists_eq_left', forall_const, reduceCtorEq, app_new, app_new0, List.append_assoc, Int.reduceToNat, Int.reduceLT, Int.reduceLE, Int.reduceEq, Int.reduceNe, Int.reduceBEq, IntKind.bits, bne_self_eq_false, Int.reducePow, g11, g10, g9, g1, g5, g6, hlt', hge, a1, a2, a3, Nat.mul_one, hw2, hzv, List.foldlM_cons, List.foldlM_nil, hg, hwi]
        refine ⟨m - 1, by omega, i + 1, by omega, rfl, ?_⟩
        rw [hsn]; simp
      · have hmax : max s1 (s2 + 1) = s1 := by omega
        rw [hmax] at hsn
        simp only [sx, x_box, x_alloc, x_bslice, x_slice, x_append, x_appz, x_b2s, x_s2b, x_mark, xop, ev, evs, evParts, fillL, cellsL, Ai.get, Ai.put, stab, isNil?, if_false, if_true, addr?, int?, str?, agg?, bool?, shiftA, FnPost, xresL, xres1, tup, argEnv, ptr, Nat.reduceEqDiff, reduceIte, beq_self_eq_true, ne_eq, Nat.reduceAdd, Nat.reduceMul, Nat.reduceSub, abin_shl, abin_shr, load1V, loadV, storeV, cellsAt, getN, setN, allocV, lenL, lenS, bnd, oneC, Value.oneCell', Nat.reduceLeDiff, Nat.reduceLT, exists_eq_left', forall_const, reduceCtorEq, app_new, app_new0, List.append_assoc, Int.reduceToNat, Int.reduceLT, Int.reduceLE, Int.reduceEq, Int.reduceNe, Int.reduceBEq, IntKind.bits, bne_self_eq_false, Int.reducePow, g11, g10, g9, g1, g5, g6, hlt', hge, a1, a2, a3, Nat.mul_one, hw2, hzv, List.foldlM_cons, List.foldlM_nil, hg, hwi]
        refine ⟨m - 1, by omega, i + 1, by omega, rfl, ?_⟩
        rw [hsn]; simp
    · have e : runStep v (s1, s2) z = (s1, 0) := by simp [runStep, hzv]
      rw [e] at hsn
      have hg : ¬ (0 : Int) > (s1 : Int) := by omega
      simp only [sx, x_box, x_alloc, x_bslice, x_slice, x_append, x_appz, x_b2s, x_s2b, x_mark, xop, ev, evs, evParts, fillL, cellsL, Ai.get, Ai.put, stab, isNil?, if_false, if_true, addr?, int?, str?, agg?, bool?, shiftA, FnPost, xresL, xres1, tup, argEnv, ptr, Nat.reduceEqDiff, reduceIte, beq_self_eq_true, ne_eq, Nat.reduceAdd, Nat.reduceMul, Nat.reduceSub, abin_shl, abin_shr, load1V, loadV, storeV, cellsAt, getN, setN, allocV, lenL, lenS, bnd, oneC, Value.oneCell', Nat.reduceLeDiff, Nat.reduceLT, exists_eq_left', forall_const, reduceCtorEq, app_new, app_new0, List.append_assoc, Int.reduceToNat, Int.reduceLT, Int.reduceLE, Int.reduceEq, Int.reduceNe, Int.reduceBEq, IntKind.bits, bne_self_eq_false, Int.reducePow, g11, g10, g9, g1, g5, g6, hlt', hge, a1, a2, a3, Nat.mul_one, hw2, hzv, List.foldlM_cons, List.foldlM_nil, hg, hwi]
      refine ⟨m - 1, by omega, i + 1, by omega, rfl, ?_⟩
      rw [hsn]; simp
  · have hlt' : ¬ (i : Int) < n := by omega
    have ht : zs.take i = zs := by rw [show i = zs.length by omega, List.take_length]
    rw [ht] at g5
    simp only [sx, x_box, x_alloc, x_bslice, x_slice, x_append, x_appz, x_b2s, x_s2b, x_mark, xop, ev, evs, evParts, fillL, cellsL, Ai.get, Ai.put, stab, isNil?, if_false, if_true, addr?, int?, str?, agg?, bool?, shiftA, FnPost, xresL, xres1, tup, argEnv, ptr, Nat.reduceEqDiff, reduceIte, beq_self_eq_true, ne_eq, Nat.reduceAdd, Nat.reduceMul, Nat.reduceSub, abin_shl, abin_shr, load1V, loadV, storeV, cellsAt, getN, setN, allocV, lenL, lenS, bnd, oneC, Value.oneCell', Nat.reduceLeDiff, Nat.reduceLT, exists_eq_left', forall_const, reduceCtorEq, app_new, app_new0, List.append_assoc, Int.reduceToNat, Int.reduceLT, Int.reduceLE, Int.reduceEq, Int.reduceNe, Int.reduceBEq, IntKind.bits, bne_self_eq_false, Int.reducePow, g11, g10, g9, g1, g5, g6, hlt']
theorem rcheck_ok {h : AHeap} {q : Option Addr} {n c : Nat} {zs : List Int} (hf : firstV 1 h n (.slice q n c) = some (bR zs)) (hn : n ≤ 1152921504606846976) :
    Valid Tryd.prog 24 [.slice q n c] h fun r h' => r = .int .i64 (checkV zs) ∧ h' = h := by
  refine v24 (by simp) ?_
  have hl := firstV_len hf
  rw [bR_len, Nat.mul_one] at hl
  unfold checkV
  rw [hl]
  by_cases hb : 1048576 < n
  · have hb' : (1048576 : Int) < n := by omega
    simp [X24, sx, x_box, x_alloc, x_bslice, x_slice, x_append, x_appz, x_b2s, x_s2b, x_mark, xop, ev, evs, evParts, fillL, cellsL, Ai.get, Ai.put, stab, isNil?, if_false, if_true, addr?, int?, str?, agg?, bool?, shiftA, FnPost, xresL, xres1, tup, argEnv, ptr, Nat.reduceEqDiff, reduceIte, beq_self_eq_true, ne_eq, Nat.reduceAdd, Nat.reduceMul, Nat.reduceSub, abin_shl, abin_shr, load1V, loadV, storeV, cellsAt, getN, setN, allocV, lenL, lenS, bnd, oneC, Value.oneCell', Nat.reduceLeDiff, Nat.reduceLT, exists_eq_left', forall_const, reduceCtorEq, app_new, app_new0, List.append_assoc, Int.reduceToNat, Int.reduceLT, Int.reduceLE, Int.reduceEq, Int.reduceNe, Int.reduceBEq, IntKind.bits, bne_self_eq_false, Int.reducePow, hb, hb']
  · have hb' : ¬ (1048576 : Int) < n := by omega
    simp only [X24, sx, x_box, x_alloc, x_bslice, x_slice, x_append, x_appz, x_b2s, x_s2b, x_mark, xop, ev, evs, evParts, fillL, cellsL, Ai.get, Ai.put, stab, isNil?, if_false, if_true, addr?, int?, str?, agg?, bool?, shiftA, FnPost, xresL, xres1, tup, argEnv, ptr, Nat.reduceEqDiff, reduceIte, beq_self_eq_true, ne_eq, Nat.reduceAdd, Nat.reduceMul, Nat.reduceSub, abin_shl, abin_shr, load1V, loadV, storeV, cellsAt, getN, setN, allocV, lenL, lenS, bnd, oneC, Value.oneCell', Nat.reduceLeDiff, Nat.reduceLT, exists_eq_left', forall_const, reduceCtorEq, app_new, app_new0, List.append_assoc, Int.reduceToNat, Int.reduceLT, Int.reduceLE, Int.reduceEq, Int.reduceNe, Int.reduceBEq, IntKind.bits, bne_self_eq_false, Int.reducePow, hb', hb]
    refine xcode_loop (fun m ρ h' => ∃ i, i + m = n ∧ get ρ 3 = some (.int .i64 (i : Nat)) ∧ get ρ 0 = some (.slice q n c) ∧ h' = h ∧ ∀ j (z : Int), j < i → zs[j]? = some z → ¬ 1 < z) n ⟨0, by simp, rfl, rfl, rfl, fun j z h => by omega⟩ ?_
    rintro m ρ h' ⟨i, him, g3, g0, rfl, hp⟩
    by_cases hlt : i < n
    · have hlt' : (i : Int) < n := by omega
      have hge : (0 : Int) ≤ i := by omega
      have hw : IntKind.i64.wrap ((i : Int) + 1) = ((i + 1 : Nat) : Int) := by rw [i64_wrap] <;> omega
      obtain ⟨a, o, z, rfl, a1, a2, a3, a4⟩ := elemB hf hlt
      by_cases hz : 1 < z
      · have e : ∃ z ∈ zs, 1 < z := ⟨z, List.mem_of_getElem? a4, hz⟩
        simp only [sx, x_box, x_alloc, x_bslice, x_slice, x_append, x_appz, x_b2s, x_s2b, x_mark, xop, ev, evs, evParts, fillL, cellsL, Ai.get, Ai.put, stab, isNil?, if_false, if_true, addr?, int?, str?, agg?, bool?, shiftA, FnPost, xresL, xres1, tup, argEnv, ptr, Nat.reduceEqDiff, reduceIte, beq_self_eq_true, ne_eq, Nat.reduceAdd, Nat.reduceMul, Nat.reduceSub, abin_shl, abin_shr, load1V, loadV, storeV, cellsAt, getN, setN, allocV, lenL, lenS, bnd, oneC, Value.oneCell', Nat.reduceLeDiff, Nat.reduceLT, exists_eq_left', forall_const, reduceCtorEq, app_new, app_new0, List.append_assoc, Int.reduceToNat, Int.reduceLT, Int.reduceLE, Int.reduceEq, Int.reduceNe, Int.reduceBEq, IntKind.bits, bne_self_eq_false, Int.reducePow, g3, g0, hlt', hge, a1, a2, a3, Nat.mul_one, hz, e]
      · simp only [sx, x_box, x_alloc, x_bslice, x_slice, x_append, x_appz, x_b2s, x_s2b, x_mark, xop, ev, evs, evParts, fillL, cellsL, Ai.get, Ai.put, stab, isNil?, if_false, if_true, addr?, int?, str?, agg?, bool?, shiftA, FnPost, xresL, xres1, tup, argEnv, ptr, Nat.reduceEqDiff, reduceIte, beq_self_eq_true, ne_eq, Nat.reduceAdd, Nat.reduceMul, Nat.reduceSub, abin_shl, abin_shr, load1V, loadV, storeV, cellsAt, getN, setN, allocV, lenL, lenS, bnd, oneC, Value.oneCell', Nat.reduceLeDiff, Nat.reduceLT, exists_eq_left', forall_const, reduceCtorEq, app_new, app_new0, List.append_assoc, Int.reduceToNat, Int.reduceLT, Int.reduceLE, Int.reduceEq, Int.reduceNe, Int.reduceBEq, IntKind.bits, bne_self_eq_false, Int.reducePow, g3, g0, hlt', hge, a1, a2, a3, Nat.mul_one, hz, hw]
        refine ⟨m - 1, by omega, i + 1, by omega, rfl, fun j y hj hy => ?_⟩
        rcases Nat.lt_or_ge j i with h | h
        · exact hp j y h hy
        · rw [show j = i by omega, a4] at hy; cases hy; exact hz
    · have hlt' : ¬ (i : Int) < n := by omega
      have e : ¬ ∃ z ∈ zs, 1 < z := by
        rintro ⟨z, hz, h1⟩
        obtain ⟨j, hj, rfl⟩ := List.mem_iff_getElem.1 hz
        exact hp j _ (by omega) (List.getElem?_eq_getElem hj) h1
      simp only [sx, x_box, x_alloc, x_bslice, x_slice, x_append, x_appz, x_b2s, x_s2b, x_mark, xop, ev, evs, evParts, fillL, cellsL, Ai.get, Ai.put, stab, isNil?, if_false, if_true, addr?, int?, str?, agg?, bool?, shiftA, FnPost, xresL, xres1, tup, argEnv, ptr, Nat.reduceEqDiff, reduceIte, beq_self_eq_true, ne_eq, Nat.reduceAdd, Nat.reduceMul, Nat.reduceSub, abin_shl, abin_shr, load1V, loadV, storeV, cellsAt, getN, setN, allocV, lenL, lenS, bnd, oneC, Value.oneCell', Nat.reduceLeDiff, Nat.reduceLT, exists_eq_left', forall_const, reduceCtorEq, app_new, app_new0, List.append_assoc, Int.reduceToNat, Int.reduceLT, Int.reduceLE, Int.reduceEq, Int.reduceNe, Int.reduceBEq, IntKind.bits, bne_self_eq_false, Int.reducePow, g3, g0, hlt', e]

end Go.Proofs.YtimfgagdfmmeeaaDoor
