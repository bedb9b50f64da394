import Derived.Test.YtimfgagdfmmeeaaDoorG1
set_option linter.unusedVariables false
set_option linter.unusedSimpArgs false
namespace Go.Proofs.YtimfgagdfmmeeaaDoor
open Go Go.Ai Go.Proofs

theorem RN.shp {h : AHeap} {sl : Value} {zs : List Int} (r : RN h sl zs) : ∃ q c, sl = .slice q zs.length c ∧ firstV 1 h zs.length (.slice q zs.length c) = some (bR zs) := by
  rcases r with ⟨rfl, rfl⟩ | ⟨A, rfl, h1⟩
  · exact ⟨none, 0, rfl, rfl⟩
  · refine ⟨_, _, rfl, ?_⟩
    simp only [firstV]
    split
    · rename_i h0; rw [List.eq_nil_of_length_eq_zero h0]; rfl
    · simp only [ne_eq, not_true_eq_false, if_false, cellsAt, h1, Option.bind_some, Nat.mul_one]
      exact getN_all _ _ (bR_len _).symm
theorem drop_at {zs : List Int} {i : Nat} {z : Int} (h : zs[i]? = some z) : zs.drop i = z :: zs.drop (i + 1) := by
  obtain ⟨hi, rfl⟩ := List.getElem?_eq_some_iff.1 h
  exact List.drop_eq_getElem_cons hi
def RsI (g : AHeap) (q : Option Addr) (n c : Nat) (zs : List Int) (m : Nat) (ρ : Env) (h : AHeap) : Prop := ∃ (i k : Nat) (sl : Value) (out : List Int), i + m = n ∧ get ρ 4 = some (.int .i64 (i : Nat)) ∧ get ρ 0 = some (.slice q n c) ∧ get ρ 3 = some sl ∧ RN h sl out ∧ Ext g h ∧ (∀ A, slB sl = some A → g.length ≤ A) ∧ stf zs 0 = out ++ stf (zs.drop i) k ∧ tr out = k ∧ k < 5 ∧ out.length ≤ 2 * i
def RsE (g : AHeap) (zs : List Int) (ρ : Env) (h : AHeap) : Prop := ∃ sl : Value, get ρ 3 = some sl ∧ RN h sl (stf zs 0) ∧ Ext g h ∧ ∀ A, slB sl = some A → g.length ≤ A
/-- the reference's Stuff -/
theorem rstuff_ok {h : AHeap} {q : Option Addr} {n c : Nat} {zs : List Int} (hf : firstV 1 h n (.slice q n c) = some (bR zs)) (hn : n ≤ 1048576) (hb : Bits zs) :
    Valid Tryd.prog 25 [.slice q n c] h fun r h' => RN h' r (stf zs 0) ∧ Ext h h' ∧ ∀ A, slB r = some A → h.length ≤ A := by
  refine v25 (by simp) ?_
  have hzl := firstV_len hf
  rw [bR_len, Nat.mul_one] at hzl
  simp only [X25, sx, x_box, x_alloc, x_bslice, x_slice, x_append, x_appz, x_b2s, x_s2b, x_mark, xop, ev, evs, evParts, fillL, cellsL, Ai.get, Ai.put, stab, isNil?, if_false, if_true, addr?, int?, str?, agg?, bool?, shiftA, FnPost, xresL, xres1, tup, argEnv, ptr, Nat.reduceEqDiff, reduceIte, beq_self_eq_true, ne_eq, Nat.reduceAdd, Nat.reduceMul, Nat.reduceSub, abin_shl, abin_shr, load1V, loadV, storeV, cellsAt, getN, setN, allocV, lenL, lenS, bnd, oneC, Value.oneCell', Nat.reduceLeDiff, Nat.reduceLT, exists_eq_left', forall_const, reduceCtorEq, app_new, app_new0, List.append_assoc, Int.reduceToNat, Int.reduceLT, Int.reduceLE, Int.reduceEq, Int.reduceNe, Int.reduceBEq, IntKind.bits, bne_self_eq_false, Int.reducePow]
  refine xloop_cut (RsE h zs) ?_ ?_
  · refine xcode_loop (RsI h q n c zs) n ⟨0, 0, .slice none 0 0, [], by omega, rfl, rfl, rfl, .inl ⟨rfl, rfl⟩, Ext.refl _, (fun A hA => by cases hA), by simp, rfl, by decide, by simp⟩ ?_
    rintro m ρ g ⟨i, k, sl, out, him, r4, r0, r3, R, E, hgl, hst, htr, hk, hol⟩
    by_cases hi : i < n
    · have hi' : (i : Int) < (n : Nat) := by omega
      have hi0 : (0 : Int) ≤ (i : Int) := by omega
      have wi : IntKind.i64.wrap ((i : Int) + 1) = ((i + 1 : Nat) : Int) := by rw [i64_wrap] <;> omega
      obtain ⟨a, o, z, rfl, a1, a2, a3, a4⟩ := elemB (E.first hf) hi
      have hz := hb z (List.mem_of_getElem? a4)
      have hdr := drop_at a4
      simp only [sx, x_box, x_alloc, x_bslice, x_slice, x_appz, x_b2s, x_s2b, x_mark, xop, ev, evs, evParts, fillL, cellsL, Ai.get, Ai.put, stab, isNil?, if_false, if_true, addr?, int?, str?, agg?, bool?, shiftA, FnPost, xresL, xres1, tup, argEnv, ptr, Nat.reduceEqDiff, reduceIte, beq_self_eq_true, ne_eq, Nat.reduceAdd, Nat.reduceMul, Nat.reduceSub, abin_shl, abin_shr, load1V, loadV, storeV, cellsAt, getN, setN, allocV, lenL, lenS, bnd, oneC, Value.oneCell', Nat.reduceLeDiff, Nat.reduceLT, exists_eq_left', forall_const, reduceCtorEq, app_new, app_new0, List.append_assoc, Int.reduceToNat, Int.reduceLT, Int.reduceLE, Int.reduceEq, Int.reduceNe, Int.reduceBEq, IntKind.bits, bne_self_eq_false, Int.reducePow, r4, r0, r3, hi', hi0, a1, a2, a3, Nat.mul_one]
      refine RN.push R E hgl rfl rfl (by omega) fun sl' g2 R2 E2 hgl2 => ?_
      obtain ⟨q2, c2, rfl, hf2⟩ := R2.shp
      have hl2 : (out ++ [z]).length = out.length + 1 := by simp
      simp only [sx, x_box, x_alloc, x_bslice, x_slice, x_appz, x_b2s, x_s2b, x_mark, xop, ev, evs, evParts, fillL, cellsL, Ai.get, Ai.put, stab, isNil?, if_false, if_true, addr?, int?, str?, agg?, bool?, shiftA, FnPost, xresL, xres1, tup, argEnv, ptr, Nat.reduceEqDiff, reduceIte, beq_self_eq_true, ne_eq, Nat.reduceAdd, Nat.reduceMul, Nat.reduceSub, abin_shl, abin_shr, load1V, loadV, storeV, cellsAt, getN, setN, allocV, lenL, lenS, bnd, oneC, Value.oneCell', Nat.reduceLeDiff, Nat.reduceLT, exists_eq_left', forall_const, reduceCtorEq, app_new, app_new0, List.append_assoc, Int.reduceToNat, Int.reduceLT, Int.reduceLE, Int.reduceEq, Int.reduceNe, Int.reduceBEq, IntKind.bits, bne_self_eq_false, Int.reducePow]
      rw [hl2] at hf2 R2 hgl2
      refine xcall (ones_ok (at' := out.length + 1) hf2 (by omega) (Nat.le_refl _)) (by rfl) (by rfl) (by rfl) (by rfl) ?_
      rintro r g3 ⟨rfl, e0⟩
      subst e0
      rw [List.take_of_length_le (by omega), tr_snoc, htr]
      by_cases h5 : z = 1 ∧ k + 1 = 5
      · obtain ⟨rfl, hk5⟩ := h5
        rw [if_pos rfl, hk5]
        simp only [sx, x_box, x_alloc, x_bslice, x_slice, x_appz, x_b2s, x_s2b, x_mark, xop, ev, evs, evParts, fillL, cellsL, Ai.get, Ai.put, stab, isNil?, if_false, if_true, addr?, int?, str?, agg?, bool?, shiftA, FnPost, xresL, xres1, tup, argEnv, ptr, Nat.reduceEqDiff, reduceIte, beq_self_eq_true, ne_eq, Nat.reduceAdd, Nat.reduceMul, Nat.reduceSub, abin_shl, abin_shr, load1V, loadV, storeV, cellsAt, getN, setN, allocV, lenL, lenS, bnd, oneC, Value.oneCell', Nat.reduceLeDiff, Nat.reduceLT, exists_eq_left', forall_const, reduceCtorEq, app_new, app_new0, List.append_assoc, Int.reduceToNat, Int.reduceLT, Int.reduceLE, Int.reduceEq, Int.reduceNe, Int.reduceBEq, IntKind.bits, bne_self_eq_false, Int.reducePow]
        refine RN.push R2 E2 hgl2 rfl rfl (by simp; omega) fun sl3 g4 R3 E3 hgl3 => ?_
        simp only [sx, x_box, x_alloc, x_bslice, x_slice, x_append, x_appz, x_b2s, x_s2b, x_mark, xop, ev, evs, evParts, fillL, cellsL, Ai.get, Ai.put, stab, isNil?, if_false, if_true, addr?, int?, str?, agg?, bool?, shiftA, FnPost, xresL, xres1, tup, argEnv, ptr, Nat.reduceEqDiff, reduceIte, beq_self_eq_true, ne_eq, Nat.reduceAdd, Nat.reduceMul, Nat.reduceSub, abin_shl, abin_shr, load1V, loadV, storeV, cellsAt, getN, setN, allocV, lenL, lenS, bnd, oneC, Value.oneCell', Nat.reduceLeDiff, Nat.reduceLT, exists_eq_left', forall_const, reduceCtorEq, app_new, app_new0, List.append_assoc, Int.reduceToNat, Int.reduceLT, Int.reduceLE, Int.reduceEq, Int.reduceNe, Int.reduceBEq, IntKind.bits, bne_self_eq_false, Int.reducePow, r4, wi]
        refine ⟨m - 1, by omega, i + 1, 0, sl3, out ++ [1] ++ [0], by omega, rfl, r0, rfl, R3, E3, hgl3, ?_, ?_, by decide, by simp; omega⟩
        · rw [hst, hdr, stf_five _ hk5]; simp
        · rw [tr_snoc, if_neg (by decide)]
      · have h5' : ¬ ((if z = 1 then k + 1 else 0 : Nat) : Int) = 5 := by
          split <;> omega
        simp only [sx, x_box, x_alloc, x_bslice, x_slice, x_append, x_appz, x_b2s, x_s2b, x_mark, xop, ev, evs, evParts, fillL, cellsL, Ai.get, Ai.put, stab, isNil?, if_false, if_true, addr?, int?, str?, agg?, bool?, shiftA, FnPost, xresL, xres1, tup, argEnv, ptr, Nat.reduceEqDiff, reduceIte, beq_self_eq_true, ne_eq, Nat.reduceAdd, Nat.reduceMul, Nat.reduceSub, abin_shl, abin_shr, load1V, loadV, storeV, cellsAt, getN, setN, allocV, lenL, lenS, bnd, oneC, Value.oneCell', Nat.reduceLeDiff, Nat.reduceLT, exists_eq_left', forall_const, reduceCtorEq, app_new, app_new0, List.append_assoc, Int.reduceToNat, Int.reduceLT, Int.reduceLE, Int.reduceEq, Int.reduceNe, Int.reduceBEq, IntKind.bits, bne_self_eq_false, Int.reducePow, r4, wi, h5']
        refine ⟨m - 1, by omega, i + 1, if z = 1 then k + 1 else 0, _, out ++ [z], by omega, rfl, r0, rfl, R2, E2, hgl2, ?_, by rw [tr_snoc, htr], by split <;> omega, by simp; omega⟩
        rcases hz with rfl | rfl
        · rw [hst, hdr, stf_zero, if_neg (by decide)]; simp
        · rw [hst, hdr, stf_one _ (fun e => h5 ⟨rfl, e⟩), if_pos rfl]; simp
    · have hi' : ¬ (i : Int) < (n : Nat) := by omega
      have hin : i = n := by omega
      subst hin
      simp only [sx, x_box, x_alloc, x_bslice, x_slice, x_append, x_appz, x_b2s, x_s2b, x_mark, xop, ev, evs, evParts, fillL, cellsL, Ai.get, Ai.put, stab, isNil?, if_false, if_true, addr?, int?, str?, agg?, bool?, shiftA, FnPost, xresL, xres1, tup, argEnv, ptr, Nat.reduceEqDiff, reduceIte, beq_self_eq_true, ne_eq, Nat.reduceAdd, Nat.reduceMul, Nat.reduceSub, abin_shl, abin_shr, load1V, loadV, storeV, cellsAt, getN, setN, allocV, lenL, lenS, bnd, oneC, Value.oneCell', Nat.reduceLeDiff, Nat.reduceLT, exists_eq_left', forall_const, reduceCtorEq, app_new, app_new0, List.append_assoc, Int.reduceToNat, Int.reduceLT, Int.reduceLE, Int.reduceEq, Int.reduceNe, Int.reduceBEq, IntKind.bits, bne_self_eq_false, Int.reducePow, r4, r0, hi']
      refine ⟨sl, r3, ?_, E, hgl⟩
      rw [hst, List.drop_eq_nil_of_le (by omega), stf, List.append_nil]; exact R
  · rintro ρ g ⟨sl, r3, R, E, hgl⟩
    simp only [sx, x_box, x_alloc, x_bslice, x_slice, x_append, x_appz, x_b2s, x_s2b, x_mark, xop, ev, evs, evParts, fillL, cellsL, Ai.get, Ai.put, stab, isNil?, if_false, if_true, addr?, int?, str?, agg?, bool?, shiftA, FnPost, xresL, xres1, tup, argEnv, ptr, Nat.reduceEqDiff, reduceIte, beq_self_eq_true, ne_eq, Nat.reduceAdd, Nat.reduceMul, Nat.reduceSub, abin_shl, abin_shr, load1V, loadV, storeV, cellsAt, getN, setN, allocV, lenL, lenS, bnd, oneC, Value.oneCell', Nat.reduceLeDiff, Nat.reduceLT, exists_eq_left', forall_const, reduceCtorEq, app_new, app_new0, List.append_assoc, Int.reduceToNat, Int.reduceLT, Int.reduceLE, Int.reduceEq, Int.reduceNe, Int.reduceBEq, IntKind.bits, bne_self_eq_false, Int.reducePow, r3]
    exact ⟨R, E, hgl⟩
end Go.Proofs.YtimfgagdfmmeeaaDoor
