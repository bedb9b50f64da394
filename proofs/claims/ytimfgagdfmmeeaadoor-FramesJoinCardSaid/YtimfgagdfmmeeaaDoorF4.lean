import Derived.Test.YtimfgagdfmmeeaaDoorF3
set_option linter.unusedVariables false
set_option linter.unusedSimpArgs false
namespace Go.Proofs.YtimfgagdfmmeeaaDoor
open Go Go.Ai Go.Proofs

theorem RN.ext {h h' : AHeap} {sl : Value} {zs : List Int} (r : RN h sl zs) (e : Ext h h') : RN h' sl zs := r.keep fun A x _ hx => e.get hx
/-- one more byte -/
theorem RN.push {K : Env → AHeap → Prop} {r : List XOper} {ρ : Env} {g0 h : AHeap} {zs : List Int} {z : Int} {d : Option Nat} {s x : XA} {sl : Value} (R : RN h sl zs) (E : Ext g0 h) (hgl : ∀ A, slB sl = some A → g0.length ≤ A)
    (hs : ev ρ s = some sl) (hx : ev ρ x = some (.slice (some ⟨h.length, 0, none⟩) 1 1)) (hb : zs.length < 1048576 * 64)
    (hK : ∀ sl' h', RN h' sl' (zs ++ [z]) → Ext g0 h' → (∀ A, slB sl' = some A → g0.length ≤ A) → xops Tryd.prog K r (put d sl' ρ) h') :
    xops Tryd.prog K (⟨d, none, .append 1 1 [.int .u8 0] s x, []⟩ :: r) ρ (h ++ [some ⟨true, [.int .u8 z]⟩]) := by
  have R2 := R.ext (Ext.app h [some ⟨true, [.int .u8 z]⟩])
  have E2 := E.trans (Ext.app h [some ⟨true, [.int .u8 z]⟩])
  have hf : firstV 1 (h ++ [some ⟨true, [.int .u8 z]⟩]) 1 (.slice (some ⟨h.length, 0, none⟩) 1 1) = some (bR [z]) := by
    simp only [firstV, cellsAt, app_new0]; simp [getN, bR]
  refine append_run (k := 1) (by_ := 1) (n := zs.length) (m := 1) (rows := bR zs) (news := bR [z]) (sl := sl) (xv := .slice (some ⟨h.length, 0, none⟩) 1 1) rfl (by decide) hs hx rfl hf rfl (bR_one _) R2.ret.toO (by omega) (by omega) (fun h0 => by omega) (fun _ h' A' hA' hg hl' hfr => ?_)
  have hlen := E2.1
  refine hK _ h' (.inr ⟨A', by simp, by rw [hg, bR_append]⟩) ⟨by omega, fun B hB => ?_⟩ (fun A hA => by simp [slB] at hA; omega)
  rw [hfr B (by omega) (fun e => by have := hgl B e; omega)]
  exact E2.2 B hB

set_option maxHeartbeats 1000000 in
theorem rof_ok {h : AHeap} {q : Option Addr} {n c : Nat} {zs : List Int} (hf : firstV 1 h n (.slice q n c) = some (bR zs)) (hn : n ≤ 1048576) (hb : ∀ z ∈ zs, 0 ≤ z ∧ z ≤ 255) :
    Valid Tryd.prog 26 [.slice q n c] h fun r h' => RN h' r (ofL zs) ∧ Ext h h' ∧ ∀ A, slB r = some A → h.length ≤ A := by
  refine v26 (by simp) ?_
  have hzl := firstV_len hf
  rw [bR_len, Nat.mul_one] at hzl
  simp only [X26, sx, x_box, x_alloc, x_bslice, x_slice, x_append, x_appz, x_b2s, x_s2b, x_mark, xop, ev, evs, evParts, fillL, cellsL, Ai.get, Ai.put, stab, isNil?, if_false, if_true, addr?, int?, str?, agg?, bool?, shiftA, FnPost, xresL, xres1, tup, argEnv, ptr, Nat.reduceEqDiff, reduceIte, beq_self_eq_true, ne_eq, Nat.reduceAdd, Nat.reduceMul, Nat.reduceSub, abin_shl, abin_shr, load1V, loadV, storeV, cellsAt, getN, setN, allocV, lenL, lenS, bnd, oneC, Value.oneCell', Nat.reduceLeDiff, Nat.reduceLT, exists_eq_left', forall_const, reduceCtorEq, app_new, app_new0, List.append_assoc, Int.reduceToNat, Int.reduceLT, Int.reduceLE, Int.reduceEq, Int.reduceNe, Int.reduceBEq, IntKind.bits, bne_self_eq_false, Int.reducePow]
  refine xcode_loop (fun m ρ h' => ∃ i sl, i + m = n ∧ get ρ 4 = some (.int .i64 (i : Nat)) ∧ get ρ 3 = some sl ∧ get ρ 0 = some (.slice q n c) ∧ RN h' sl (ofL (zs.take i)) ∧ Ext h h' ∧ ∀ A, slB sl = some A → h.length ≤ A) n
    ⟨0, _, by simp, rfl, rfl, rfl, .inl ⟨rfl, by simp [ofL]⟩, Ext.refl _, by simp [slB]⟩ ?_
  rintro m ρ h1 ⟨i, sl, him, g4, g3, g0, R, E, hA⟩
  by_cases hlt : i < n
  · have hlt' : (i : Int) < n := by omega
    have hge : (0 : Int) ≤ i := by omega
    have hwi : IntKind.i64.wrap ((i : Int) + 1) = ((i + 1 : Nat) : Int) := by rw [i64_wrap] <;> omega
    obtain ⟨a, o0, z, rfl, -, -, -, a4⟩ := elemB (E.first hf) hlt
    have hz := hb z (List.mem_of_getElem? a4)
    have hsn := ofL_snoc a4
    obtain ⟨z, rfl⟩ : ∃ m : Nat, z = m := ⟨z.toNat, by omega⟩
    rw [Int.toNat_natCast] at hsn
    have hzw : IntKind.u64.wrap (z : Int) = (z : Int) := u64_wrap (by omega) (by omega)
    have hlen : (ofL (zs.take i)).length = 8 * i := by rw [ofL_len]; simp; omega
    simp only [sx, x_box, x_alloc, x_bslice, x_slice, x_append, x_appz, x_b2s, x_s2b, x_mark, xop, ev, evs, evParts, fillL, cellsL, Ai.get, Ai.put, stab, isNil?, if_false, if_true, addr?, int?, str?, agg?, bool?, shiftA, FnPost, xresL, xres1, tup, argEnv, ptr, Nat.reduceEqDiff, reduceIte, beq_self_eq_true, ne_eq, Nat.reduceAdd, Nat.reduceMul, Nat.reduceSub, abin_shl, abin_shr, load1V, loadV, storeV, cellsAt, getN, setN, allocV, lenL, lenS, bnd, oneC, Value.oneCell', Nat.reduceLeDiff, Nat.reduceLT, exists_eq_left', forall_const, reduceCtorEq, app_new, app_new0, List.append_assoc, Int.reduceToNat, Int.reduceLT, Int.reduceLE, Int.reduceEq, Int.reduceNe, Int.reduceBEq, IntKind.bits, bne_self_eq_false, Int.reducePow, g4, g3, g0, hlt']
    refine xcode_loop (fun m ρ h' => ∃ k sl, k + m = 8 ∧ get ρ 5 = some (.int .i64 (k : Nat)) ∧ get ρ 4 = some (.int .i64 (i : Nat)) ∧ get ρ 3 = some sl ∧ get ρ 0 = some (.slice (some a) n c) ∧ RN h' sl (ofL (zs.take i) ++ digs z k) ∧ Ext h h' ∧ ∀ A, slB sl = some A → h.length ≤ A) 8
      ⟨0, sl, by simp, rfl, g4, g3, g0, by simpa [digs] using R, E, hA⟩ ?_
    clear g4 g3 g0 R E hA ρ sl
    rintro j ρ h2 ⟨k, sl, hkj, g5, g4, g3, g0, R, E, hA⟩
    by_cases hk : k < 8
    · have hk' : (k : Int) < 8 := by omega
      have hwk : IntKind.i64.wrap ((k : Int) + 1) = ((k + 1 : Nat) : Int) := by rw [i64_wrap] <;> omega
      obtain ⟨_, o, z2, e1, a1, a2, a3, a4'⟩ := elemB (E.first hf) hlt
      cases e1
      rw [a4] at a4'; cases a4'
      simp only [sx, x_box, x_alloc, x_bslice, x_slice, x_append, x_appz, x_b2s, x_s2b, x_mark, xop, ev, evs, evParts, fillL, cellsL, Ai.get, Ai.put, stab, isNil?, if_false, if_true, addr?, int?, str?, agg?, bool?, shiftA, FnPost, xresL, xres1, tup, argEnv, ptr, Nat.reduceEqDiff, reduceIte, beq_self_eq_true, ne_eq, Nat.reduceAdd, Nat.reduceMul, Nat.reduceSub, abin_shl, abin_shr, load1V, loadV, storeV, cellsAt, getN, setN, allocV, lenL, lenS, bnd, oneC, Value.oneCell', Nat.reduceLeDiff, Nat.reduceLT, exists_eq_left', forall_const, reduceCtorEq, app_new, app_new0, List.append_assoc, Int.reduceToNat, Int.reduceLT, Int.reduceLE, Int.reduceEq, Int.reduceNe, Int.reduceBEq, IntKind.bits, bne_self_eq_false, Int.reducePow, g5, g4, g3, g0, hk', hge, hlt', a1, a2, a3, Nat.mul_one, hzw]
      refine xcall (bit_ok (v := z) (k := k) (by have : (2 : Nat) ^ 64 = 18446744073709551616 := rfl; omega) (by omega)) (by rfl) (by rfl) (by rfl) (by rfl) ?_
      rintro r h3 ⟨rfl, rfl⟩
      simp only [sx, x_box, x_alloc, x_bslice, x_slice, x_appz, x_b2s, x_s2b, x_mark, xop, ev, evs, evParts, fillL, cellsL, Ai.get, Ai.put, stab, isNil?, if_false, if_true, addr?, int?, str?, agg?, bool?, shiftA, FnPost, xresL, xres1, tup, argEnv, ptr, Nat.reduceEqDiff, reduceIte, beq_self_eq_true, ne_eq, Nat.reduceAdd, Nat.reduceMul, Nat.reduceSub, abin_shl, abin_shr, load1V, loadV, storeV, cellsAt, getN, setN, allocV, lenL, lenS, bnd, oneC, Value.oneCell', Nat.reduceLeDiff, Nat.reduceLT, exists_eq_left', forall_const, reduceCtorEq, app_new, app_new0, List.append_assoc, Int.reduceToNat, Int.reduceLT, Int.reduceLE, Int.reduceEq, Int.reduceNe, Int.reduceBEq, IntKind.bits, bne_self_eq_false, Int.reducePow, g5, g4, g3, g0]
      refine R.push (z := bitN z k) E hA rfl rfl (by simp [hlen, digs_len]; omega) fun sl' h4 R4 E4 hA4 => ?_
      have e : ofL (zs.take i) ++ digs z k ++ [bitN z k] = ofL (zs.take i) ++ digs z (k + 1) := by
        rw [List.append_assoc]; congr 1
        simp [digs, List.range_succ]
      rw [e] at R4
      simp only [sx, x_box, x_alloc, x_bslice, x_slice, x_append, x_appz, x_b2s, x_s2b, x_mark, xop, ev, evs, evParts, fillL, cellsL, Ai.get, Ai.put, stab, isNil?, if_false, if_true, addr?, int?, str?, agg?, bool?, shiftA, FnPost, xresL, xres1, tup, argEnv, ptr, Nat.reduceEqDiff, reduceIte, beq_self_eq_true, ne_eq, Nat.reduceAdd, Nat.reduceMul, Nat.reduceSub, abin_shl, abin_shr, load1V, loadV, storeV, cellsAt, getN, setN, allocV, lenL, lenS, bnd, oneC, Value.oneCell', Nat.reduceLeDiff, Nat.reduceLT, exists_eq_left', forall_const, reduceCtorEq, app_new, app_new0, List.append_assoc, Int.reduceToNat, Int.reduceLT, Int.reduceLE, Int.reduceEq, Int.reduceNe, Int.reduceBEq, IntKind.bits, bne_self_eq_false, Int.reducePow, g5, g4, g3, g0, hwk]
      exact ⟨j - 1, by omega, k + 1, sl', by omega, rfl, rfl, R4, E4, hA4⟩
    · have hk' : ¬ (k : Int) < 8 := by omega
      have hk8 : k = 8 := by omega
      subst hk8
      rw [← hsn] at R
      simp only [sx, x_box, x_alloc, x_bslice, x_slice, x_append, x_appz, x_b2s, x_s2b, x_mark, xop, ev, evs, evParts, fillL, cellsL, Ai.get, Ai.put, stab, isNil?, if_false, if_true, addr?, int?, str?, agg?, bool?, shiftA, FnPost, xresL, xres1, tup, argEnv, ptr, Nat.reduceEqDiff, reduceIte, beq_self_eq_true, ne_eq, Nat.reduceAdd, Nat.reduceMul, Nat.reduceSub, abin_shl, abin_shr, load1V, loadV, storeV, cellsAt, getN, setN, allocV, lenL, lenS, bnd, oneC, Value.oneCell', Nat.reduceLeDiff, Nat.reduceLT, exists_eq_left', forall_const, reduceCtorEq, app_new, app_new0, List.append_assoc, Int.reduceToNat, Int.reduceLT, Int.reduceLE, Int.reduceEq, Int.reduceNe, Int.reduceBEq, IntKind.bits, bne_self_eq_false, Int.reducePow, g5, g4, g3, g0, hk', hwi]
      exact ⟨m - 1, by omega, i + 1, sl, by omega, rfl, rfl, R, E, hA⟩
  · have hlt' : ¬ (i : Int) < n := by omega
    have ht : zs.take i = zs := by rw [show i = zs.length by omega, List.take_length]
    rw [ht] at R
    simp only [sx, x_box, x_alloc, x_bslice, x_slice, x_append, x_appz, x_b2s, x_s2b, x_mark, xop, ev, evs, evParts, fillL, cellsL, Ai.get, Ai.put, stab, isNil?, if_false, if_true, addr?, int?, str?, agg?, bool?, shiftA, FnPost, xresL, xres1, tup, argEnv, ptr, Nat.reduceEqDiff, reduceIte, beq_self_eq_true, ne_eq, Nat.reduceAdd, Nat.reduceMul, Nat.reduceSub, abin_shl, abin_shr, load1V, loadV, storeV, cellsAt, getN, setN, allocV, lenL, lenS, bnd, oneC, Value.oneCell', Nat.reduceLeDiff, Nat.reduceLT, exists_eq_left', forall_const, reduceCtorEq, app_new, app_new0, List.append_assoc, Int.reduceToNat, Int.reduceLT, Int.reduceLE, Int.reduceEq, Int.reduceNe, Int.reduceBEq, IntKind.bits, bne_self_eq_false, Int.reducePow, g4, g3, g0, hlt']
    exact ⟨R, E, hA⟩

theorem octets_bad {h : AHeap} {q : Option Addr} {n c : Nat} {zs : List Int} (hf : firstV 1 h n (.slice q n c) = some (bR zs)) (hn : n ≤ 1152921504606846976) (hc : checkV zs ≠ 0) :
    Valid Tryd.prog 55 [.slice q n c] h fun r h' => r = .tuple #[.slice none 0 0, .int .i64 (checkV zs)] ∧ Ext h h' := by
  refine v55 (by simp) ?_
  simp only [X55, sx, x_box, x_alloc, x_bslice, x_slice, x_append, x_appz, x_b2s, x_s2b, x_mark, xop, ev, evs, evParts, fillL, cellsL, Ai.get, Ai.put, stab, isNil?, if_false, if_true, addr?, int?, str?, agg?, bool?, shiftA, FnPost, xresL, xres1, tup, argEnv, ptr, Nat.reduceEqDiff, reduceIte, beq_self_eq_true, ne_eq, Nat.reduceAdd, Nat.reduceMul, Nat.reduceSub, abin_shl, abin_shr, load1V, loadV, storeV, cellsAt, getN, setN, allocV, lenL, lenS, bnd, oneC, Value.oneCell', Nat.reduceLeDiff, Nat.reduceLT, exists_eq_left', forall_const, reduceCtorEq, app_new, app_new0, List.append_assoc, Int.reduceToNat, Int.reduceLT, Int.reduceLE, Int.reduceEq, Int.reduceNe, Int.reduceBEq, IntKind.bits, bne_self_eq_false, Int.reducePow]
  refine xcall (check_ok hf hn) (by rfl) (by rfl) (by rfl) (by rfl) ?_
  rintro r h1 ⟨rfl, J, rfl⟩
  simp only [sx, x_box, x_alloc, x_bslice, x_slice, x_append, x_appz, x_b2s, x_s2b, x_mark, xop, ev, evs, evParts, fillL, cellsL, Ai.get, Ai.put, stab, isNil?, if_false, if_true, addr?, int?, str?, agg?, bool?, shiftA, FnPost, xresL, xres1, tup, argEnv, ptr, Nat.reduceEqDiff, reduceIte, beq_self_eq_true, ne_eq, Nat.reduceAdd, Nat.reduceMul, Nat.reduceSub, abin_shl, abin_shr, load1V, loadV, storeV, cellsAt, getN, setN, allocV, lenL, lenS, bnd, oneC, Value.oneCell', Nat.reduceLeDiff, Nat.reduceLT, exists_eq_left', forall_const, reduceCtorEq, app_new, app_new0, List.append_assoc, Int.reduceToNat, Int.reduceLT, Int.reduceLE, Int.reduceEq, Int.reduceNe, Int.reduceBEq, IntKind.bits, bne_self_eq_false, Int.reducePow, hc]
  exact Ext.app _ _
theorem octets_width {h : AHeap} {q : Option Addr} {n c : Nat} {zs : List Int} (hf : firstV 1 h n (.slice q n c) = some (bR zs)) (hn : n ≤ 1152921504606846976) (hc : checkV zs = 0) (hw : n % 8 ≠ 0) :
    Valid Tryd.prog 55 [.slice q n c] h fun r h' => r = .tuple #[.slice none 0 0, .int .i64 5] ∧ Ext h h' := by
  refine v55 (by simp) ?_
  have h8 : ¬ (8 : Int) = 0 := by decide
  have hm : ¬ (n : Int).tmod 8 = 0 := by rw [Int.tmod_eq_emod_of_nonneg (Int.natCast_nonneg _)]; omega
  simp only [X55, sx, x_box, x_alloc, x_bslice, x_slice, x_append, x_appz, x_b2s, x_s2b, x_mark, xop, ev, evs, evParts, fillL, cellsL, Ai.get, Ai.put, stab, isNil?, if_false, if_true, addr?, int?, str?, agg?, bool?, shiftA, FnPost, xresL, xres1, tup, argEnv, ptr, Nat.reduceEqDiff, reduceIte, beq_self_eq_true, ne_eq, Nat.reduceAdd, Nat.reduceMul, Nat.reduceSub, abin_shl, abin_shr, load1V, loadV, storeV, cellsAt, getN, setN, allocV, lenL, lenS, bnd, oneC, Value.oneCell', Nat.reduceLeDiff, Nat.reduceLT, exists_eq_left', forall_const, reduceCtorEq, app_new, app_new0, List.append_assoc, Int.reduceToNat, Int.reduceLT, Int.reduceLE, Int.reduceEq, Int.reduceNe, Int.reduceBEq, IntKind.bits, bne_self_eq_false, Int.reducePow]
  refine xcall (check_ok hf hn) (by rfl) (by rfl) (by rfl) (by rfl) ?_
  rintro r h1 ⟨rfl, J, rfl⟩
  simp only [sx, x_box, x_alloc, x_bslice, x_slice, x_append, x_appz, x_b2s, x_s2b, x_mark, xop, ev, evs, evParts, fillL, cellsL, Ai.get, Ai.put, stab, isNil?, if_false, if_true, addr?, int?, str?, agg?, bool?, shiftA, FnPost, xresL, xres1, tup, argEnv, ptr, Nat.reduceEqDiff, reduceIte, beq_self_eq_true, ne_eq, Nat.reduceAdd, Nat.reduceMul, Nat.reduceSub, abin_shl, abin_shr, load1V, loadV, storeV, cellsAt, getN, setN, allocV, lenL, lenS, bnd, oneC, Value.oneCell', Nat.reduceLeDiff, Nat.reduceLT, exists_eq_left', forall_const, reduceCtorEq, app_new, app_new0, List.append_assoc, Int.reduceToNat, Int.reduceLT, Int.reduceLE, Int.reduceEq, Int.reduceNe, Int.reduceBEq, IntKind.bits, bne_self_eq_false, Int.reducePow, hc, h8, hm]
  exact Ext.app _ _
set_option maxHeartbeats 1000000 in
theorem octets_ok {h : AHeap} {q : Option Addr} {n c : Nat} {zs : List Int} (hf : firstV 1 h n (.slice q n c) = some (bR zs)) (hn : n ≤ 1048576) (hc : checkV zs = 0) (hp : ∀ z ∈ zs, 0 ≤ z) (hw : n % 8 = 0) (hcap : (n ≤ c ∧ c < unk) ∨ (c = unk + 1 ∧ q ≠ none)) (hsp : ∀ a, q = some a → a.spot = none) :
    Valid Tryd.prog 55 [.slice q n c] h fun r h' => ∃ R, r = .tuple #[.slice (some ⟨R, 0, none⟩) (n / 8) (n / 8), .int .i64 0] ∧ h.length ≤ R ∧ R < h'.length ∧ Ext h h' ∧ h'[R]? = some (some ⟨true, bR (octs zs)⟩) := by
  refine v55 (by simp) ?_
  have hb := (checkV_bits hc hp).2
  have hzl := firstV_len hf
  rw [bR_len, Nat.mul_one] at hzl
  have h8 : ¬ (8 : Int) = 0 := by decide
  have hm : (n : Int).tmod 8 = 0 := by rw [Int.tmod_eq_emod_of_nonneg (Int.natCast_nonneg _)]; omega
  have hq : IntKind.i64.wrap ((n : Int).tdiv 8) = ((n / 8 : Nat) : Int) := by
    rw [Int.tdiv_eq_ediv_of_nonneg (Int.natCast_nonneg _), i64_wrap (by omega) (by omega)]; omega
  have h1 : ((n / 8 : Nat) : Int) * 1 ≤ 140737488355328 := by omega
  have h2 : ((n / 8 : Nat) : Int) ≤ 9223372036854775807 := by omega
  have h3 : (0 : Int) ≤ ((n / 8 : Nat) : Int) := by omega
  simp only [X55, sx, x_box, x_alloc, x_bslice, x_slice, x_append, x_appz, x_b2s, x_s2b, x_mark, xop, ev, evs, evParts, fillL, cellsL, Ai.get, Ai.put, stab, isNil?, if_false, if_true, addr?, int?, str?, agg?, bool?, shiftA, FnPost, xresL, xres1, tup, argEnv, ptr, Nat.reduceEqDiff, reduceIte, beq_self_eq_true, ne_eq, Nat.reduceAdd, Nat.reduceMul, Nat.reduceSub, abin_shl, abin_shr, load1V, loadV, storeV, cellsAt, getN, setN, allocV, lenL, lenS, bnd, oneC, Value.oneCell', Nat.reduceLeDiff, Nat.reduceLT, exists_eq_left', forall_const, reduceCtorEq, app_new, app_new0, List.append_assoc, Int.reduceToNat, Int.reduceLT, Int.reduceLE, Int.reduceEq, Int.reduceNe, Int.reduceBEq, IntKind.bits, bne_self_eq_false, Int.reducePow]
  refine xcall (check_ok hf (by omega)) (by rfl) (by rfl) (by rfl) (by rfl) ?_
  rintro r h1 ⟨rfl, J, rfl⟩
  have E1 : Ext h (h ++ J) := Ext.app _ _
  simp only [sx, x_box, x_alloc, x_bslice, x_slice, x_append, x_appz, x_b2s, x_s2b, x_mark, xop, ev, evs, evParts, fillL, cellsL, Ai.get, Ai.put, stab, isNil?, if_false, if_true, addr?, int?, str?, agg?, bool?, shiftA, FnPost, xresL, xres1, tup, argEnv, ptr, Nat.reduceEqDiff, reduceIte, beq_self_eq_true, ne_eq, Nat.reduceAdd, Nat.reduceMul, Nat.reduceSub, abin_shl, abin_shr, load1V, loadV, storeV, cellsAt, getN, setN, allocV, lenL, lenS, bnd, oneC, Value.oneCell', Nat.reduceLeDiff, Nat.reduceLT, exists_eq_left', forall_const, reduceCtorEq, Int.reduceToNat, Int.reduceLT, Int.reduceLE, Int.reduceEq, Int.reduceNe, Int.reduceBEq, IntKind.bits, bne_self_eq_false, Int.reducePow, hc, h8, hm, hq, h1, h2, h3, Int.le_refl, zeros_bR]
  have hL := octs_len zs
  rw [hzl] at hL
  refine xcode_loop (fun m ρ h' => ∃ i, i + m = n / 8 ∧ get ρ 22 = some (.int .i64 (i : Nat)) ∧ get ρ 21 = some (.int .i64 ((n / 8 : Nat) : Int)) ∧ get ρ 0 = some (.slice q n c) ∧ get ρ 5 = some (.slice (some ⟨(h ++ J).length, 0, none⟩) (n / 8) (n / 8)) ∧ h' = (h ++ J) ++ [some ⟨true, bR (filled (octs zs) i (n / 8))⟩]) (n / 8)
    ⟨0, by simp, rfl, rfl, rfl, by simp [Ai.get], by rw [filled_zero]⟩ ?_
  have hf0 := E1.first hf
  generalize h ++ J = g at *
  rintro m ρ h' ⟨i, him, g22, g21, g0, g5, rfl⟩
  have E2 : Ext g (g ++ [some ⟨true, bR (filled (octs zs) i (n / 8))⟩]) := Ext.app _ _
  by_cases hlt : i < n / 8
  · have hlt' : (i : Int) < ((n / 8 : Nat) : Int) := by omega
    have hge : (0 : Int) ≤ i := by omega
    have hwi : IntKind.i64.wrap ((i : Int) + 1) = ((i + 1 : Nat) : Int) := by rw [i64_wrap] <;> omega
    have hw8 : IntKind.i64.wrap (8 * (i : Int)) = ((8 * i : Nat) : Int) := by rw [i64_wrap] <;> omega
    have hw9 : IntKind.i64.wrap (8 * ((i + 1 : Nat) : Int)) = ((8 * i + 8 : Nat) : Int) := by rw [i64_wrap (by omega) (by omega)]; omega
    simp only [sx, x_box, x_alloc, x_bslice, x_append, x_appz, x_b2s, x_s2b, x_mark, xop, ev, evs, evParts, fillL, cellsL, Ai.get, Ai.put, stab, isNil?, if_false, if_true, addr?, int?, str?, agg?, bool?, shiftA, FnPost, xresL, xres1, tup, argEnv, ptr, Nat.reduceEqDiff, reduceIte, beq_self_eq_true, ne_eq, Nat.reduceAdd, Nat.reduceMul, Nat.reduceSub, abin_shl, abin_shr, load1V, loadV, storeV, cellsAt, getN, setN, allocV, lenL, lenS, bnd, oneC, Value.oneCell', Nat.reduceLeDiff, Nat.reduceLT, exists_eq_left', forall_const, reduceCtorEq, app_new, app_new0, List.append_assoc, Int.reduceToNat, Int.reduceLT, Int.reduceLE, Int.reduceEq, Int.reduceNe, Int.reduceBEq, IntKind.bits, bne_self_eq_false, Int.reducePow, g22, g21, g0, g5, hlt', hwi, hw8, hw9]
    refine part_run (n := n) (c := c) (l := 8 * i) (u := 8 * i + 8) (zs := zs) rfl rfl rfl (by omega) (by omega) (E2.first hf0) hcap hsp fun q' c' hf' => ?_
    rw [show 8 * i + 8 - 8 * i = 8 by omega] at hf' ⊢
    have hgb := grp_bit hb i
    simp only [sx, x_box, x_alloc, x_bslice, x_slice, x_append, x_appz, x_b2s, x_s2b, x_mark, xop, ev, evs, evParts, fillL, cellsL, Ai.get, Ai.put, stab, isNil?, if_false, if_true, addr?, int?, str?, agg?, bool?, shiftA, FnPost, xresL, xres1, tup, argEnv, ptr, Nat.reduceEqDiff, reduceIte, beq_self_eq_true, ne_eq, Nat.reduceAdd, Nat.reduceMul, Nat.reduceSub, abin_shl, abin_shr, load1V, loadV, storeV, cellsAt, getN, setN, allocV, lenL, lenS, bnd, oneC, Value.oneCell', Nat.reduceLeDiff, Nat.reduceLT, exists_eq_left', forall_const, reduceCtorEq, app_new, app_new0, List.append_assoc, Int.reduceToNat, Int.reduceLT, Int.reduceLE, Int.reduceEq, Int.reduceNe, Int.reduceBEq, IntKind.bits, bne_self_eq_false, Int.reducePow]
    refine xcall (value_ok (zs := grp zs i) hf' (by omega) hgb) (by rfl) (by rfl) (by rfl) (by rfl) ?_
    rintro r h2 ⟨rfl, rfl⟩
    have hv := valN_lt hgb
    rw [grp_len (by omega)] at hv
    have hvw : IntKind.u8.wrap ((valN (grp zs i) : Nat) : Int) = ((valN (grp zs i) : Nat) : Int) := u8_wrap (by omega) (by omega)
    have hle : i + 1 ≤ (bR (filled (octs zs) i (n / 8))).length := by rw [bR_len, filled_len (by omega) hL]; omega
    simp only [sx, x_box, x_alloc, x_bslice, x_slice, x_append, x_appz, x_b2s, x_s2b, x_mark, xop, ev, evs, evParts, fillL, cellsL, Ai.get, Ai.put, stab, isNil?, if_false, if_true, addr?, int?, str?, agg?, bool?, shiftA, FnPost, xresL, xres1, tup, argEnv, ptr, Nat.reduceEqDiff, reduceIte, beq_self_eq_true, ne_eq, Nat.reduceAdd, Nat.reduceMul, Nat.reduceSub, abin_shl, abin_shr, load1V, loadV, storeV, cellsAt, getN, setN, allocV, lenL, lenS, bnd, oneC, Value.oneCell', Nat.reduceLeDiff, Nat.reduceLT, exists_eq_left', forall_const, reduceCtorEq, app_new, app_new0, List.append_assoc, Int.reduceToNat, Int.reduceLT, Int.reduceLE, Int.reduceEq, Int.reduceNe, Int.reduceBEq, IntKind.bits, bne_self_eq_false, Int.reducePow, g22, g21, g0, g5, hlt', hge, hvw, Nat.mul_one, hle, bR_set, hwi]
    refine ⟨m - 1, by omega, i + 1, by omega, rfl, ?_⟩
    rw [← filled_set hlt hL, octs_get (by omega)]
  · have hlt' : ¬ (i : Int) < ((n / 8 : Nat) : Int) := by omega
    have hin : i = n / 8 := by omega
    subst hin
    rw [filled_all hL] at E2
    simp only [sx, x_box, x_alloc, x_bslice, x_slice, x_append, x_appz, x_b2s, x_s2b, x_mark, xop, ev, evs, evParts, fillL, cellsL, Ai.get, Ai.put, stab, isNil?, if_false, if_true, addr?, int?, str?, agg?, bool?, shiftA, FnPost, xresL, xres1, tup, argEnv, ptr, Nat.reduceEqDiff, reduceIte, beq_self_eq_true, ne_eq, Nat.reduceAdd, Nat.reduceMul, Nat.reduceSub, abin_shl, abin_shr, load1V, loadV, storeV, cellsAt, getN, setN, allocV, lenL, lenS, bnd, oneC, Value.oneCell', Nat.reduceLeDiff, Nat.reduceLT, exists_eq_left', forall_const, reduceCtorEq, app_new, app_new0, List.append_assoc, Int.reduceToNat, Int.reduceLT, Int.reduceLE, Int.reduceEq, Int.reduceNe, Int.reduceBEq, IntKind.bits, bne_self_eq_false, Int.reducePow, g22, g21, g0, g5, hlt', filled_all hL]
    exact ⟨g.length, rfl, by have := E1.1; omega, by simp, E1.trans E2, by rw [app_new0]; rfl⟩

set_option maxHeartbeats 1000000 in
theorem roct_ok {h : AHeap} {q : Option Addr} {n c : Nat} {zs : List Int} (hf : firstV 1 h n (.slice q n c) = some (bR zs)) (hn : n ≤ 1048576) (hb : ∀ z ∈ zs, z = 0 ∨ z = 1) (hcap : (n ≤ c ∧ c < unk) ∨ (c = unk + 1 ∧ q ≠ none)) (hsp : ∀ a, q = some a → a.spot = none) :
    Valid Tryd.prog 41 [.slice q n c] h fun r h' => RN h' r (octs zs) ∧ Ext h h' ∧ ∀ A, slB r = some A → h.length ≤ A := by
  refine v41 (by simp) ?_
  have hzl := firstV_len hf
  rw [bR_len, Nat.mul_one] at hzl
  have hL := octs_len zs
  rw [hzl] at hL
  simp only [X41, sx, x_box, x_alloc, x_bslice, x_slice, x_append, x_appz, x_b2s, x_s2b, x_mark, xop, ev, evs, evParts, fillL, cellsL, Ai.get, Ai.put, stab, isNil?, if_false, if_true, addr?, int?, str?, agg?, bool?, shiftA, FnPost, xresL, xres1, tup, argEnv, ptr, Nat.reduceEqDiff, reduceIte, beq_self_eq_true, ne_eq, Nat.reduceAdd, Nat.reduceMul, Nat.reduceSub, abin_shl, abin_shr, load1V, loadV, storeV, cellsAt, getN, setN, allocV, lenL, lenS, bnd, oneC, Value.oneCell', Nat.reduceLeDiff, Nat.reduceLT, exists_eq_left', forall_const, reduceCtorEq, app_new, app_new0, List.append_assoc, Int.reduceToNat, Int.reduceLT, Int.reduceLE, Int.reduceEq, Int.reduceNe, Int.reduceBEq, IntKind.bits, bne_self_eq_false, Int.reducePow]
  refine xcode_loop (fun m ρ h' => ∃ i sl, i + m = n / 8 ∧ get ρ 4 = some (.int .i64 ((8 * i : Nat) : Int)) ∧ get ρ 3 = some sl ∧ get ρ 0 = some (.slice q n c) ∧ RN h' sl ((octs zs).take i) ∧ Ext h h' ∧ ∀ A, slB sl = some A → h.length ≤ A) (n / 8)
    ⟨0, _, by simp, rfl, rfl, rfl, .inl ⟨rfl, by simp⟩, Ext.refl _, by simp [slB]⟩ ?_
  rintro m ρ h1 ⟨i, sl, him, g4, g3, g0, R, E, hA⟩
  have hw8 : IntKind.i64.wrap (((8 * i : Nat) : Int) + 8) = ((8 * i + 8 : Nat) : Int) := by rw [i64_wrap (by omega) (by omega)]; omega
  by_cases hlt : i < n / 8
  · have hlt' : ((8 * i + 8 : Nat) : Int) ≤ (n : Nat) := by omega
    simp only [sx, x_box, x_alloc, x_bslice, x_append, x_appz, x_b2s, x_s2b, x_mark, xop, ev, evs, evParts, fillL, cellsL, Ai.get, Ai.put, stab, isNil?, if_false, if_true, addr?, int?, str?, agg?, bool?, shiftA, FnPost, xresL, xres1, tup, argEnv, ptr, Nat.reduceEqDiff, reduceIte, beq_self_eq_true, ne_eq, Nat.reduceAdd, Nat.reduceMul, Nat.reduceSub, abin_shl, abin_shr, load1V, loadV, storeV, cellsAt, getN, setN, allocV, lenL, lenS, bnd, oneC, Value.oneCell', Nat.reduceLeDiff, Nat.reduceLT, exists_eq_left', forall_const, reduceCtorEq, app_new, app_new0, List.append_assoc, Int.reduceToNat, Int.reduceLT, Int.reduceLE, Int.reduceEq, Int.reduceNe, Int.reduceBEq, IntKind.bits, bne_self_eq_false, Int.reducePow, g4, g3, g0, hw8, hlt']
    refine part_run (n := n) (c := c) (l := 8 * i) (u := 8 * i + 8) (zs := zs) rfl rfl rfl (by omega) (by omega) (E.first hf) hcap hsp fun q' c' hf' => ?_
    rw [show 8 * i + 8 - 8 * i = 8 by omega] at hf' ⊢
    have hgb := grp_bit hb i
    simp only [sx, x_box, x_alloc, x_bslice, x_slice, x_append, x_appz, x_b2s, x_s2b, x_mark, xop, ev, evs, evParts, fillL, cellsL, Ai.get, Ai.put, stab, isNil?, if_false, if_true, addr?, int?, str?, agg?, bool?, shiftA, FnPost, xresL, xres1, tup, argEnv, ptr, Nat.reduceEqDiff, reduceIte, beq_self_eq_true, ne_eq, Nat.reduceAdd, Nat.reduceMul, Nat.reduceSub, abin_shl, abin_shr, load1V, loadV, storeV, cellsAt, getN, setN, allocV, lenL, lenS, bnd, oneC, Value.oneCell', Nat.reduceLeDiff, Nat.reduceLT, exists_eq_left', forall_const, reduceCtorEq, app_new, app_new0, List.append_assoc, Int.reduceToNat, Int.reduceLT, Int.reduceLE, Int.reduceEq, Int.reduceNe, Int.reduceBEq, IntKind.bits, bne_self_eq_false, Int.reducePow]
    refine xcall (rvalue_ok (zs := grp zs i) hf' (by omega) hgb) (by rfl) (by rfl) (by rfl) (by rfl) ?_
    rintro r h2 ⟨rfl, rfl⟩
    have hv := valN_lt hgb
    rw [grp_len (by omega)] at hv
    have hvw : IntKind.u8.wrap ((valN (grp zs i) : Nat) : Int) = ((valN (grp zs i) : Nat) : Int) := u8_wrap (by omega) (by omega)
    simp only [sx, x_box, x_alloc, x_bslice, x_slice, x_appz, x_b2s, x_s2b, x_mark, xop, ev, evs, evParts, fillL, cellsL, Ai.get, Ai.put, stab, isNil?, if_false, if_true, addr?, int?, str?, agg?, bool?, shiftA, FnPost, xresL, xres1, tup, argEnv, ptr, Nat.reduceEqDiff, reduceIte, beq_self_eq_true, ne_eq, Nat.reduceAdd, Nat.reduceMul, Nat.reduceSub, abin_shl, abin_shr, load1V, loadV, storeV, cellsAt, getN, setN, allocV, lenL, lenS, bnd, oneC, Value.oneCell', Nat.reduceLeDiff, Nat.reduceLT, exists_eq_left', forall_const, reduceCtorEq, app_new, app_new0, List.append_assoc, Int.reduceToNat, Int.reduceLT, Int.reduceLE, Int.reduceEq, Int.reduceNe, Int.reduceBEq, IntKind.bits, bne_self_eq_false, Int.reducePow, g4, g3, g0, hvw]
    refine R.push (z := ((valN (grp zs i) : Nat) : Int)) E hA rfl rfl (by simp; omega) fun sl' h4 R4 E4 hA4 => ?_
    have e : (octs zs).take i ++ [((valN (grp zs i) : Nat) : Int)] = (octs zs).take (i + 1) := by
      rw [take_snoc (i := i) (z := ((valN (grp zs i) : Nat) : Int))]
      rw [List.getElem?_eq_getElem (by omega), octs_get (by omega)]
    rw [e] at R4
    simp only [sx, x_box, x_alloc, x_bslice, x_slice, x_append, x_appz, x_b2s, x_s2b, x_mark, xop, ev, evs, evParts, fillL, cellsL, Ai.get, Ai.put, stab, isNil?, if_false, if_true, addr?, int?, str?, agg?, bool?, shiftA, FnPost, xresL, xres1, tup, argEnv, ptr, Nat.reduceEqDiff, reduceIte, beq_self_eq_true, ne_eq, Nat.reduceAdd, Nat.reduceMul, Nat.reduceSub, abin_shl, abin_shr, load1V, loadV, storeV, cellsAt, getN, setN, allocV, lenL, lenS, bnd, oneC, Value.oneCell', Nat.reduceLeDiff, Nat.reduceLT, exists_eq_left', forall_const, reduceCtorEq, app_new, app_new0, List.append_assoc, Int.reduceToNat, Int.reduceLT, Int.reduceLE, Int.reduceEq, Int.reduceNe, Int.reduceBEq, IntKind.bits, bne_self_eq_false, Int.reducePow, g4, g3, g0, hw8]
    exact ⟨m - 1, by omega, i + 1, sl', by omega, by rw [show 8 * (i + 1) = 8 * i + 8 by omega], rfl, R4, E4, hA4⟩
  · have hlt' : ¬ ((8 * i + 8 : Nat) : Int) ≤ (n : Nat) := by omega
    have hin : i = n / 8 := by omega
    have ht : (octs zs).take i = octs zs := by rw [hin, ← hL, List.take_length]
    rw [ht] at R
    simp only [sx, x_box, x_alloc, x_bslice, x_slice, x_append, x_appz, x_b2s, x_s2b, x_mark, xop, ev, evs, evParts, fillL, cellsL, Ai.get, Ai.put, stab, isNil?, if_false, if_true, addr?, int?, str?, agg?, bool?, shiftA, FnPost, xresL, xres1, tup, argEnv, ptr, Nat.reduceEqDiff, reduceIte, beq_self_eq_true, ne_eq, Nat.reduceAdd, Nat.reduceMul, Nat.reduceSub, abin_shl, abin_shr, load1V, loadV, storeV, cellsAt, getN, setN, allocV, lenL, lenS, bnd, oneC, Value.oneCell', Nat.reduceLeDiff, Nat.reduceLT, exists_eq_left', forall_const, reduceCtorEq, app_new, app_new0, List.append_assoc, Int.reduceToNat, Int.reduceLT, Int.reduceLE, Int.reduceEq, Int.reduceNe, Int.reduceBEq, IntKind.bits, bne_self_eq_false, Int.reducePow, g4, g3, g0, hw8, hlt']
    exact ⟨R, E, hA⟩
end Go.Proofs.YtimfgagdfmmeeaaDoor
