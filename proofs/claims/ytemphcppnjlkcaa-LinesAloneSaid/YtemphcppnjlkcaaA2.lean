import Derived.Test.YtemphcppnjlkcaaA1
import Derived.Test.YtemphcppnjlkcaaL8
import Derived.Test.YtemphcppnjlkcaaAiXd
import Derived.Test.YtemphcppnjlkcaaAiY
set_option linter.unusedVariables false
set_option linter.unusedSimpArgs false
namespace Go.Proofs.Ytemphcppnjlkcaa
open Go Go.Ai Go.Proofs

theorem rowsN_one : ∀ l : List Nz, (rowsN l).all oneC = true
  | [] => rfl
  | x :: l => by
    have : rowsN (x :: l) = x.cells ++ rowsN l := rfl
    rw [this, List.all_append, rowsN_one l]; rfl
theorem set_id {α : Type} {l : List α} {i : Nat} {x : α} (h : l[i]? = some x) : l.set i x = l := by
  apply List.ext_getElem?
  intro k
  by_cases hk : i = k
  · subst hk
    rw [List.getElem?_set_self (List.getElem?_eq_some_iff.1 h).1, h]
  · rw [List.getElem?_set_ne hk]
theorem and_cut {P : Program} {K : Env → AHeap → Prop} {la lb : List XOper} {ρa ρb : Env} {ha hb : AHeap} (M : Env → AHeap → Prop) (h1 : xops P M la ρa ha) (h2 : xops P M lb ρb hb) (h3 : ∀ ρ h, M ρ h → K ρ h) : xops P K la ρa ha ∧ xops P K lb ρb hb := ⟨xops_cut M h1 h3, xops_cut M h2 h3⟩
/-- behind the place of the disturbance -/
def AtM (h0 : AHeap) (R : Nat) (kd bit : Int) (dl : Int) (noise list : Value) (ρ : Env) (h : AHeap) : Prop := get ρ 2 = some list ∧ get ρ 4 = some (.pointer (some ⟨R, 0, none⟩)) ∧ get ρ 7 = some (.int .i64 dl) ∧ get ρ 8 = some noise ∧ ∃ a : Int, 0 ≤ a ∧ a ≤ 255 ∧ h = h0.set R (some ⟨true, [.int .u8 a, .int .u8 kd, .int .u16 bit]⟩)
/-- behind the longer list of disturbances -/
def ExM (h0 : AHeap) (R : Nat) (dl : Int) (noise list : Value) (l : List Nz) (ρ : Env) (h : AHeap) : Prop := get ρ 2 = some list ∧ get ρ 4 = some (.pointer (some ⟨R, 0, none⟩)) ∧ get ρ 7 = some (.int .i64 dl) ∧ get ρ 8 = some noise ∧ Ext h0 h ∧ ∃ A c, h0.length ≤ A ∧ A < h.length ∧ get ρ 9 = some (.slice (some ⟨A, 0, none⟩) l.length c) ∧ firstV 3 h l.length (.slice (some ⟨A, 0, none⟩) l.length c) = some (rowsN l)
def LpA (H1 : AHeap) (X Y R E nl : Nat) (dl : Int) (list : Value) (l l' : List Nz) (nq nq' : Option Addr) (nc nc' ec : Nat) (m : Nat) (ρ : Env) (h : AHeap) : Prop := ∃ i sl sl', i + m = nl ∧ get ρ 14 = some (.int .i64 (i : Nat)) ∧ get ρ 2 = some list ∧ get ρ 4 = some (.pointer (some ⟨R, 0, none⟩)) ∧ get ρ 7 = some (.int .i64 dl) ∧ get ρ 9 = some (.slice (some ⟨E, 0, none⟩) l'.length ec) ∧ get ρ 10 = some (ptr X 0) ∧ get ρ 12 = some (ptr Y 0) ∧
  TW H1 h [] X dl (i * dl) (i : Nat) 0 l nq nc sl [] Y (i * dl) (i : Nat) 0 l' nq' nc' sl' []
set_option maxHeartbeats 16000000 in
set_option maxRecDepth 20000 in
theorem alone_ok {h : AHeap} {d at_ kd bit : Int} {q ql : Option Addr} {n c nl cl : Nat} {rows rowsL : List Value} (hd0 : 0 ≤ d) (ha : 0 ≤ at_ ∧ at_ ≤ 255) (hkd : 0 ≤ kd ∧ kd ≤ 255) (hbit : 0 ≤ bit ∧ bit ≤ 65535) (hf : firstV 3 h n (.slice q n c) = some rows) (hn : n ≤ 9223372036854775807)
    (hrow : ∀ i, i < n → ∀ (j : Nat) (l : Leaf), [Leaf.int .u8, .int .u8, .int .u16][j]? = some l → ∃ u, rows[i * 3 + j]? = some u ∧ LeafOk l u)
    (hfl : firstV 1 h nl (.slice ql nl cl) = some rowsL) (hbl : ∀ a, ql = some a → a.block < h.length) (hnl : nl ≤ 9223372036854775807) (hrl : ∀ i, i < nl → ∃ s : ByteArray, rowsL[i]? = some (.string s) ∧ s.size ≤ maxLen) :
    Valid Try.prog 6 [.agg #[.int .u8 d, .slice q n c], .agg #[.int .u8 at_, .int .u8 kd, .int .u16 bit], .slice ql nl cl] h fun r h' => r = .bool true := by
  refine v6 (by simp) ?_
  simp only [X6, sx, x_alloc, x_bslice, x_slice, x_append, x_b2s, xop, ev, evs, evParts, fillL, cellsL, Ai.get, Ai.put, stab, isNil?, if_false, if_true, addr?, int?, str?, agg?, bool?, shiftA, FnPost, xresL, xres1, tup, argEnv, ptr, Nat.reduceEqDiff, reduceIte, beq_self_eq_true, ne_eq, Nat.reduceAdd, Nat.reduceMul, Nat.reduceSub, abin_shl, abin_shr, load1V, loadV, storeV, cellsAt, getN, setN, allocV, lenL, lenS, bnd, oneC, Value.oneCell', Nat.reduceLeDiff, Nat.reduceLT, exists_eq_left', forall_const, reduceCtorEq, app_new, app_new0, List.append_assoc, Int.reduceToNat, Int.reduceLT, Int.reduceLE, Int.reduceEq, Int.reduceNe, Int.reduceBEq, IntKind.bits, bne_self_eq_false, Int.reducePow]
  refine box_run rfl fun g1 R0 K1 hR0 hRl0 _ => ?_
  simp only [sx, x_alloc, x_bslice, x_slice, x_append, x_b2s, xop, ev, evs, evParts, fillL, cellsL, Ai.get, Ai.put, stab, isNil?, if_false, if_true, addr?, int?, str?, agg?, bool?, shiftA, FnPost, xresL, xres1, tup, argEnv, ptr, Nat.reduceEqDiff, reduceIte, beq_self_eq_true, ne_eq, Nat.reduceAdd, Nat.reduceMul, Nat.reduceSub, abin_shl, abin_shr, load1V, loadV, storeV, cellsAt, getN, setN, allocV, lenL, lenS, bnd, oneC, Value.oneCell', Nat.reduceLeDiff, Nat.reduceLT, exists_eq_left', forall_const, reduceCtorEq, app_new, app_new0, List.append_assoc, Int.reduceToNat, Int.reduceLT, Int.reduceLE, Int.reduceEq, Int.reduceNe, Int.reduceBEq, IntKind.bits, bne_self_eq_false, Int.reducePow]
  refine box_run rfl fun g2 R K2 hR hRl _ => ?_
  simp only [cellsL] at hR0 hR
  have hR02 := K2.get hR0
  have E12 : Ext h g2 := K1.trans K2
  by_cases hbig : 20 < nl
  · have hbig' : (20 : Int) < nl := by omega
    simp only [sx, x_box, x_alloc, x_bslice, x_slice, x_append, x_b2s, xop, ev, evs, evParts, fillL, cellsL, Ai.get, Ai.put, stab, isNil?, if_false, if_true, addr?, int?, str?, agg?, bool?, shiftA, FnPost, xresL, xres1, tup, argEnv, ptr, Nat.reduceEqDiff, reduceIte, beq_self_eq_true, ne_eq, Nat.reduceAdd, Nat.reduceMul, Nat.reduceSub, abin_shl, abin_shr, load1V, loadV, storeV, cellsAt, getN, setN, allocV, lenL, lenS, bnd, oneC, Value.oneCell', Nat.reduceLeDiff, Nat.reduceLT, exists_eq_left', forall_const, reduceCtorEq, app_new, app_new0, List.append_assoc, Int.reduceToNat, Int.reduceLT, Int.reduceLE, Int.reduceEq, Int.reduceNe, Int.reduceBEq, IntKind.bits, bne_self_eq_false, Int.reducePow, hbig']
    refine xcall (lives_ok _) (by rfl) (by rfl) (by rfl) (by rfl) ?_
    rintro r h' ⟨rfl, rfl⟩
    simp only [sx, x_box, x_alloc, x_bslice, x_slice, x_append, x_b2s, xop, ev, evs, evParts, fillL, cellsL, Ai.get, Ai.put, stab, isNil?, if_false, if_true, addr?, int?, str?, agg?, bool?, shiftA, FnPost, xresL, xres1, tup, argEnv, ptr, Nat.reduceEqDiff, reduceIte, beq_self_eq_true, ne_eq, Nat.reduceAdd, Nat.reduceMul, Nat.reduceSub, abin_shl, abin_shr, load1V, loadV, storeV, cellsAt, getN, setN, allocV, lenL, lenS, bnd, oneC, Value.oneCell', Nat.reduceLeDiff, Nat.reduceLT, exists_eq_left', forall_const, reduceCtorEq, app_new, app_new0, List.append_assoc, Int.reduceToNat, Int.reduceLT, Int.reduceLE, Int.reduceEq, Int.reduceNe, Int.reduceBEq, IntKind.bits, bne_self_eq_false, Int.reducePow]
  have hbig' : ¬ (20 : Int) < nl := by omega
  simp only [sx, x_box, x_alloc, x_bslice, x_slice, x_append, x_b2s, xop, ev, evs, evParts, fillL, cellsL, Ai.get, Ai.put, stab, isNil?, if_false, if_true, addr?, int?, str?, agg?, bool?, shiftA, FnPost, xresL, xres1, tup, argEnv, ptr, Nat.reduceEqDiff, reduceIte, beq_self_eq_true, ne_eq, Nat.reduceAdd, Nat.reduceMul, Nat.reduceSub, abin_shl, abin_shr, load1V, loadV, storeV, cellsAt, getN, setN, allocV, lenL, lenS, bnd, oneC, Value.oneCell', Nat.reduceLeDiff, Nat.reduceLT, exists_eq_left', forall_const, reduceCtorEq, app_new, app_new0, List.append_assoc, Int.reduceToNat, Int.reduceLT, Int.reduceLE, Int.reduceEq, Int.reduceNe, Int.reduceBEq, IntKind.bits, bne_self_eq_false, Int.reducePow, hbig', hR02]
  refine xcall (ofN_ok hd0 (E12.first hf) hn hrow) (by rfl) (by rfl) (by rfl) (by rfl) ?_
  rintro r h0 ⟨dl, l, nS, rfl, dl1, dl8, hll, hgood, RN0, E0, B0⟩
  obtain ⟨nSq, nSc, rfl, _⟩ := RN0.shape
  have hR3 := E0.get hR
  have hRlt := lt_of_get hR3
  simp only [sx, x_box, x_alloc, x_bslice, x_slice, x_append, x_b2s, xop, ev, evs, evParts, fillL, cellsL, Ai.get, Ai.put, stab, isNil?, if_false, if_true, addr?, int?, str?, agg?, bool?, shiftA, FnPost, xresL, xres1, tup, argEnv, ptr, Nat.reduceEqDiff, reduceIte, beq_self_eq_true, ne_eq, Nat.reduceAdd, Nat.reduceMul, Nat.reduceSub, abin_shl, abin_shr, load1V, loadV, storeV, cellsAt, getN, setN, allocV, lenL, lenS, bnd, oneC, Value.oneCell', Nat.reduceLeDiff, Nat.reduceLT, exists_eq_left', forall_const, reduceCtorEq, app_new, app_new0, List.append_assoc, Int.reduceToNat, Int.reduceLT, Int.reduceLE, Int.reduceEq, Int.reduceNe, Int.reduceBEq, IntKind.bits, bne_self_eq_false, Int.reducePow]
  refine xcond_cut (AtM h0 R kd bit dl (.slice nSq l.length nSc) (.slice ql nl cl)) ?_ ?_
  · by_cases hnl0 : 0 < nl
    · have hnl0' : (0 : Int) < nl := by omega
      have hw : IntKind.u8.wrap (nl : Int) = nl := by unfold IntKind.wrap; simp [IntKind.bits, IntKind.signed]; omega
      have hnz : ¬ (nl : Int) = 0 := by omega
      have hm := Int.tmod_eq_emod_of_nonneg (b := (nl : Int)) ha.1
      have hm1 := Int.emod_nonneg at_ (show (nl : Int) ≠ 0 by omega)
      have hm2 := Int.emod_lt_of_pos at_ (show (0 : Int) < nl by omega)
      simp only [sx, x_box, x_alloc, x_bslice, x_slice, x_append, x_b2s, xop, ev, evs, evParts, fillL, cellsL, Ai.get, Ai.put, stab, isNil?, if_false, if_true, addr?, int?, str?, agg?, bool?, shiftA, FnPost, xresL, xres1, tup, argEnv, ptr, Nat.reduceEqDiff, reduceIte, beq_self_eq_true, ne_eq, Nat.reduceAdd, Nat.reduceMul, Nat.reduceSub, abin_shl, abin_shr, load1V, loadV, storeV, cellsAt, getN, setN, allocV, lenL, lenS, bnd, oneC, Value.oneCell', Nat.reduceLeDiff, Nat.reduceLT, exists_eq_left', forall_const, reduceCtorEq, app_new, app_new0, List.append_assoc, Int.reduceToNat, Int.reduceLT, Int.reduceLE, Int.reduceEq, Int.reduceNe, Int.reduceBEq, IntKind.bits, bne_self_eq_false, Int.reducePow, hnl0', hR3, hw, hnz]
      exact ⟨rfl, rfl, rfl, rfl, at_.tmod nl, by omega, by omega, rfl⟩
    · have hnl0' : ¬ (0 : Int) < nl := by omega
      simp only [sx, x_box, x_alloc, x_bslice, x_slice, x_append, x_b2s, xop, ev, evs, evParts, fillL, cellsL, Ai.get, Ai.put, stab, isNil?, if_false, if_true, addr?, int?, str?, agg?, bool?, shiftA, FnPost, xresL, xres1, tup, argEnv, ptr, Nat.reduceEqDiff, reduceIte, beq_self_eq_true, ne_eq, Nat.reduceAdd, Nat.reduceMul, Nat.reduceSub, abin_shl, abin_shr, load1V, loadV, storeV, cellsAt, getN, setN, allocV, lenL, lenS, bnd, oneC, Value.oneCell', Nat.reduceLeDiff, Nat.reduceLT, exists_eq_left', forall_const, reduceCtorEq, app_new, app_new0, List.append_assoc, Int.reduceToNat, Int.reduceLT, Int.reduceLE, Int.reduceEq, Int.reduceNe, Int.reduceBEq, IntKind.bits, bne_self_eq_false, Int.reducePow, hnl0']
      refine ⟨rfl, rfl, rfl, rfl, at_, ha.1, ha.2, ?_⟩
      exact (set_id hR3).symm
  rintro ρ1 h1 ⟨g2', g4, g7, g8, at1, a0, a1, rfl⟩
  have hR4 := set_same hR3 (some ⟨true, [.int .u8 at1, .int .u8 kd, .int .u16 bit]⟩)
  have K4 : Ext h (h0.set R (some ⟨true, [.int .u8 at1, .int .u8 kd, .int .u16 bit]⟩)) := (E12.trans E0).set (by have := K1.1; omega) _
  have F4 : firstV 3 (h0.set R (some ⟨true, [.int .u8 at1, .int .u8 kd, .int .u16 bit]⟩)) l.length (.slice nSq l.length nSc) = some (rowsN l) := first_fr RN0.first fun a ha => set_ne (fun e => by
    have hRg := lt_of_get hR
    have := (B0 a.block (by rw [ha]; rfl)).1; omega) _
  have hbn : ∀ a, nSq = some a → a.block < (h0.set R (some (AObj.mk true [.int .u8 at1, .int .u8 kd, .int .u16 bit]))).length ∧ a.block ≠ R := fun a ha => by
    have hRg := lt_of_get hR
    have := B0 a.block (by rw [ha]; rfl)
    rw [List.length_set]
    omega
  clear E0 hR3 RN0 B0 E12 hR hR02 hR0 K2 K1 hRl hRl0
  generalize h0.set R (some ⟨true, [Value.int .u8 at1, .int .u8 kd, .int .u16 bit]⟩) = h1 at *
  have hw1 : IntKind.i64.wrap at1 = at1 := i64_wrap (by omega) (by omega)
  have hw2 : IntKind.i64.wrap bit = bit := i64_wrap (by omega) (by omega)
  have n3 : ¬ (3 : Int) = 0 := by decide
  have hk3 := Int.tmod_eq_emod_of_nonneg (b := 3) hkd.1
  simp only [sx, x_box, x_alloc, x_bslice, x_slice, x_b2s, xop, ev, evs, evParts, fillL, cellsL, Ai.get, Ai.put, stab, isNil?, if_false, if_true, addr?, int?, str?, agg?, bool?, shiftA, FnPost, xresL, xres1, tup, argEnv, ptr, Nat.reduceEqDiff, reduceIte, beq_self_eq_true, ne_eq, Nat.reduceAdd, Nat.reduceMul, Nat.reduceSub, abin_shl, abin_shr, load1V, loadV, storeV, cellsAt, getN, setN, allocV, lenL, lenS, bnd, oneC, Value.oneCell', Nat.reduceLeDiff, Nat.reduceLT, exists_eq_left', forall_const, reduceCtorEq, app_new, app_new0, Int.reduceToNat, Int.reduceLT, Int.reduceLE, Int.reduceEq, Int.reduceNe, Int.reduceBEq, IntKind.bits, bne_self_eq_false, Int.reducePow, g2', g4, g7, g8, hR4, hw1, hw2, n3]
  have xe : rowsN (l ++ [⟨at1, kd.tmod 3, bit⟩]) = rowsN l ++ [Value.int .i64 at1, .int .u8 (kd.tmod 3), .int .i64 bit] := by simp [rowsN, Nz.cells]
  have xl : (l ++ [(⟨at1, kd.tmod 3, bit⟩ : Nz)]).length = l.length + 1 := by simp
  have nilO : ∀ g : AHeap, RetO 3 g (.slice none 0 0) 0 [] := fun g => ⟨rfl, .inl ⟨rfl, rfl⟩⟩
  have fbox : ∀ (g : AHeap) (c : Nat), firstV 3 (g ++ [some ⟨true, [Value.int .i64 at1, .int .u8 (kd.tmod 3), .int .i64 bit]⟩]) 1 (.slice (some ⟨g.length, 0, none⟩) 1 c) = some [Value.int .i64 at1, .int .u8 (kd.tmod 3), .int .i64 bit] := fun g c => by
    simp only [firstV, cellsAt, app_new0]; simp [getN]
  refine and_cut (ExM h1 R dl (.slice nSq l.length nSc) (.slice ql nl cl) (l ++ [⟨at1, kd.tmod 3, bit⟩])) ?_ ?_ ?_
  · refine xops_st (append_run (k := 3) (by_ := 24) (n := 0) (m := l.length) (rows := []) (news := rowsN l) (sl := .slice none 0 0) (xv := .slice nSq l.length nSc) rfl (by decide) rfl rfl rfl F4 (rowsN_len l) (rowsN_one l) (nilO _) (by omega) (by omega) (fun h0 => ?_) (fun h0 h2 A' hA' hg hl2 hfr => ?_))
    · have hl0 : l = [] := List.eq_nil_of_length_eq_zero h0
      subst hl0
      simp only [sx, x_box, x_alloc, x_bslice, x_slice, x_b2s, xop, ev, evs, evParts, fillL, cellsL, Ai.get, Ai.put, stab, isNil?, if_false, if_true, addr?, int?, str?, agg?, bool?, shiftA, FnPost, xresL, xres1, tup, argEnv, ptr, Nat.reduceEqDiff, reduceIte, beq_self_eq_true, ne_eq, Nat.reduceAdd, Nat.reduceMul, Nat.reduceSub, abin_shl, abin_shr, load1V, loadV, storeV, cellsAt, getN, setN, allocV, lenL, lenS, bnd, oneC, Value.oneCell', Nat.reduceLeDiff, Nat.reduceLT, exists_eq_left', forall_const, reduceCtorEq, app_new, app_new0, Int.reduceToNat, Int.reduceLT, Int.reduceLE, Int.reduceEq, Int.reduceNe, Int.reduceBEq, IntKind.bits, bne_self_eq_false, Int.reducePow, g2', g4, g7, g8, hR4, hw1, hw2, n3]
      refine append_run (k := 3) (by_ := 24) (n := 0) (m := 1) (rows := []) (news := [Value.int .i64 at1, .int .u8 (kd.tmod 3), .int .i64 bit]) (sl := .slice none 0 0) (xv := .slice (some ⟨h1.length, 0, none⟩) 1 1) rfl (by decide) rfl rfl rfl (fbox _ _) rfl rfl (nilO _) (by omega) (by omega) (fun h0 => by omega) (fun _ h3 A3 hA3 hg3 hl3 hfr3 => ?_)
      simp only [sx, x_box, x_alloc, x_bslice, x_slice, x_append, x_b2s, xop, ev, evs, evParts, fillL, cellsL, Ai.get, Ai.put, stab, isNil?, if_false, if_true, addr?, int?, str?, agg?, bool?, shiftA, FnPost, xresL, xres1, tup, argEnv, ptr, Nat.reduceEqDiff, reduceIte, beq_self_eq_true, ne_eq, Nat.reduceAdd, Nat.reduceMul, Nat.reduceSub, abin_shl, abin_shr, load1V, loadV, storeV, cellsAt, getN, setN, allocV, lenL, lenS, bnd, oneC, Value.oneCell', Nat.reduceLeDiff, Nat.reduceLT, exists_eq_left', forall_const, reduceCtorEq, app_new, app_new0, List.append_assoc, Int.reduceToNat, Int.reduceLT, Int.reduceLE, Int.reduceEq, Int.reduceNe, Int.reduceBEq, IntKind.bits, bne_self_eq_false, Int.reducePow]
      simp only [List.length_append, List.length_cons, List.length_nil, Nat.zero_add] at hA3 hl3 hfr3
      refine ⟨g2', g4, g7, g8, ⟨by omega, fun B hB => by rw [hfr3 B (by omega) (by simp [slB]), List.getElem?_append_left hB]⟩, A3, _, by omega, lt_of_get hg3, rfl, ?_⟩
      simp only [firstV, cellsAt, hg3]
      simp [getN, rowsN, Nz.cells]
    · have hR5 : h2[R]? = some (some ⟨true, [.int .u8 at1, .int .u8 kd, .int .u16 bit]⟩) := by rw [hfr R (lt_of_get hR4) (by simp [slB])]; exact hR4
      rw [List.nil_append] at hg
      rw [Nat.zero_add]
      simp only [sx, x_box, x_alloc, x_bslice, x_slice, x_b2s, xop, ev, evs, evParts, fillL, cellsL, Ai.get, Ai.put, stab, isNil?, if_false, if_true, addr?, int?, str?, agg?, bool?, shiftA, FnPost, xresL, xres1, tup, argEnv, ptr, Nat.reduceEqDiff, reduceIte, beq_self_eq_true, ne_eq, Nat.reduceAdd, Nat.reduceMul, Nat.reduceSub, abin_shl, abin_shr, load1V, loadV, storeV, cellsAt, getN, setN, allocV, lenL, lenS, bnd, oneC, Value.oneCell', Nat.reduceLeDiff, Nat.reduceLT, exists_eq_left', forall_const, reduceCtorEq, app_new, app_new0, Int.reduceToNat, Int.reduceLT, Int.reduceLE, Int.reduceEq, Int.reduceNe, Int.reduceBEq, IntKind.bits, bne_self_eq_false, Int.reducePow, g2', g4, g7, g8, hR5, hw1, hw2, n3]
      have hAl := lt_of_get hg
      have RO : RetO 3 (h2 ++ [some ⟨true, [Value.int .i64 at1, .int .u8 (kd.tmod 3), .int .i64 bit]⟩]) (.slice (some ⟨A', 0, none⟩) l.length (unk + 3)) l.length (rowsN l) := ⟨rowsN_len l, .inr (.inr ⟨A', 0, _, rfl, app_old hg, getN_all _ _ (rowsN_len l).symm⟩)⟩
      refine append_run (k := 3) (by_ := 24) (n := l.length) (m := 1) (rows := rowsN l) (news := [Value.int .i64 at1, .int .u8 (kd.tmod 3), .int .i64 bit]) (sl := .slice (some ⟨A', 0, none⟩) l.length (unk + 3)) (xv := .slice (some ⟨h2.length, 0, none⟩) 1 1) rfl (by decide) rfl rfl rfl (fbox _ _) rfl rfl RO (by omega) (by omega) (fun h0 => by omega) (fun _ h3 A3 hA3 hg3 hl3 hfr3 => ?_)
      simp only [sx, x_box, x_alloc, x_bslice, x_slice, x_append, x_b2s, xop, ev, evs, evParts, fillL, cellsL, Ai.get, Ai.put, stab, isNil?, if_false, if_true, addr?, int?, str?, agg?, bool?, shiftA, FnPost, xresL, xres1, tup, argEnv, ptr, Nat.reduceEqDiff, reduceIte, beq_self_eq_true, ne_eq, Nat.reduceAdd, Nat.reduceMul, Nat.reduceSub, abin_shl, abin_shr, load1V, loadV, storeV, cellsAt, getN, setN, allocV, lenL, lenS, bnd, oneC, Value.oneCell', Nat.reduceLeDiff, Nat.reduceLT, exists_eq_left', forall_const, reduceCtorEq, app_new, app_new0, List.append_assoc, Int.reduceToNat, Int.reduceLT, Int.reduceLE, Int.reduceEq, Int.reduceNe, Int.reduceBEq, IntKind.bits, bne_self_eq_false, Int.reducePow]
      simp only [List.length_append, List.length_cons, List.length_nil, Nat.zero_add] at hA3 hl3 hfr3
      refine ⟨g2', g4, g7, g8, ⟨by omega, fun B hB => by rw [hfr3 B (by omega) (by simp [slB]; omega), List.getElem?_append_left (by omega), hfr B hB (by simp [slB])]⟩, A3, unk + 3, by omega, lt_of_get hg3, by rw [xl]; rfl, ?_⟩
      rw [xl, xe]
      simp only [firstV, cellsAt, hg3, Option.bind_some]
      rw [if_neg (by omega), if_neg (by simp)]
      exact getN_all _ _ (by simp [rowsN_len]; omega)
  · have F5 := first_fr (h' := h1 ++ [some ⟨true, [Value.int .i64 at1, .int .u8 (kd.tmod 3), .int .i64 bit]⟩]) F4 fun a ha => List.getElem?_append_left (hbn a ha).1
    have fb5 := fbox h1 1
    have hR5 := app_old (t := [some ⟨true, [Value.int .i64 at1, .int .u8 (kd.tmod 3), .int .i64 bit]⟩]) hR4
    have hl5 : (h1 ++ [some (AObj.mk true [Value.int .i64 at1, .int .u8 (kd.tmod 3), .int .i64 bit])]).length = h1.length + 1 := by simp
    have K5 : Ext h1 (h1 ++ [some ⟨true, [Value.int .i64 at1, .int .u8 (kd.tmod 3), .int .i64 bit]⟩]) := Ext.app _ _
    generalize h1 ++ [some ⟨true, [Value.int .i64 at1, .int .u8 (kd.tmod 3), .int .i64 bit]⟩] = h5 at *
    refine xops_st (append_run (k := 3) (by_ := 24) (n := 0) (m := l.length) (rows := []) (news := rowsN l) (sl := .slice none 0 0) (xv := .slice nSq l.length nSc) rfl (by decide) rfl rfl rfl F5 (rowsN_len l) (rowsN_one l) (nilO _) (by omega) (by omega) (fun h0 => ?_) (fun h0 h2 A' hA' hg hl2 hfr => ?_))
    · have hl0 : l = [] := List.eq_nil_of_length_eq_zero h0
      subst hl0
      simp only [sx, x_box, x_alloc, x_bslice, x_slice, x_b2s, xop, ev, evs, evParts, fillL, cellsL, Ai.get, Ai.put, stab, isNil?, if_false, if_true, addr?, int?, str?, agg?, bool?, shiftA, FnPost, xresL, xres1, tup, argEnv, ptr, Nat.reduceEqDiff, reduceIte, beq_self_eq_true, ne_eq, Nat.reduceAdd, Nat.reduceMul, Nat.reduceSub, abin_shl, abin_shr, load1V, loadV, storeV, cellsAt, getN, setN, allocV, lenL, lenS, bnd, oneC, Value.oneCell', Nat.reduceLeDiff, Nat.reduceLT, exists_eq_left', forall_const, reduceCtorEq, app_new, app_new0, Int.reduceToNat, Int.reduceLT, Int.reduceLE, Int.reduceEq, Int.reduceNe, Int.reduceBEq, IntKind.bits, bne_self_eq_false, Int.reducePow, g2', g4, g7, g8, hR5, hw1, hw2, n3]
      refine append_run (k := 3) (by_ := 24) (n := 0) (m := 1) (rows := []) (news := [Value.int .i64 at1, .int .u8 (kd.tmod 3), .int .i64 bit]) (sl := .slice none 0 0) (xv := .slice (some ⟨h1.length, 0, none⟩) 1 1) rfl (by decide) rfl rfl rfl fb5 rfl rfl (nilO _) (by omega) (by omega) (fun h0 => by omega) (fun _ h3 A3 hA3 hg3 hl3 hfr3 => ?_)
      simp only [sx, x_box, x_alloc, x_bslice, x_slice, x_append, x_b2s, xop, ev, evs, evParts, fillL, cellsL, Ai.get, Ai.put, stab, isNil?, if_false, if_true, addr?, int?, str?, agg?, bool?, shiftA, FnPost, xresL, xres1, tup, argEnv, ptr, Nat.reduceEqDiff, reduceIte, beq_self_eq_true, ne_eq, Nat.reduceAdd, Nat.reduceMul, Nat.reduceSub, abin_shl, abin_shr, load1V, loadV, storeV, cellsAt, getN, setN, allocV, lenL, lenS, bnd, oneC, Value.oneCell', Nat.reduceLeDiff, Nat.reduceLT, exists_eq_left', forall_const, reduceCtorEq, app_new, app_new0, List.append_assoc, Int.reduceToNat, Int.reduceLT, Int.reduceLE, Int.reduceEq, Int.reduceNe, Int.reduceBEq, IntKind.bits, bne_self_eq_false, Int.reducePow]
      refine ⟨g2', g4, g7, g8, K5.trans ⟨by omega, fun B hB => hfr3 B hB (by simp [slB])⟩, A3, _, by omega, lt_of_get hg3, rfl, ?_⟩
      simp only [firstV, cellsAt, hg3]
      simp [getN, rowsN, Nz.cells]
    · have hR6 : h2[R]? = some (some ⟨true, [.int .u8 at1, .int .u8 kd, .int .u16 bit]⟩) := by rw [hfr R (lt_of_get hR5) (by simp [slB])]; exact hR5
      have fb6 := first_fr (h' := h2) fb5 fun a ha => hfr a.block (by cases ha; show h1.length < _; omega) (by simp [slB])
      rw [List.nil_append] at hg
      rw [Nat.zero_add]
      simp only [sx, x_box, x_alloc, x_bslice, x_slice, x_b2s, xop, ev, evs, evParts, fillL, cellsL, Ai.get, Ai.put, stab, isNil?, if_false, if_true, addr?, int?, str?, agg?, bool?, shiftA, FnPost, xresL, xres1, tup, argEnv, ptr, Nat.reduceEqDiff, reduceIte, beq_self_eq_true, ne_eq, Nat.reduceAdd, Nat.reduceMul, Nat.reduceSub, abin_shl, abin_shr, load1V, loadV, storeV, cellsAt, getN, setN, allocV, lenL, lenS, bnd, oneC, Value.oneCell', Nat.reduceLeDiff, Nat.reduceLT, exists_eq_left', forall_const, reduceCtorEq, app_new, app_new0, Int.reduceToNat, Int.reduceLT, Int.reduceLE, Int.reduceEq, Int.reduceNe, Int.reduceBEq, IntKind.bits, bne_self_eq_false, Int.reducePow, g2', g4, g7, g8, hR6, hw1, hw2, n3]
      have RO : RetO 3 h2 (.slice (some ⟨A', 0, none⟩) l.length (unk + 3)) l.length (rowsN l) := ⟨rowsN_len l, .inr (.inr ⟨A', 0, _, rfl, hg, getN_all _ _ (rowsN_len l).symm⟩)⟩
      refine append_run (k := 3) (by_ := 24) (n := l.length) (m := 1) (rows := rowsN l) (news := [Value.int .i64 at1, .int .u8 (kd.tmod 3), .int .i64 bit]) (sl := .slice (some ⟨A', 0, none⟩) l.length (unk + 3)) (xv := .slice (some ⟨h1.length, 0, none⟩) 1 1) rfl (by decide) rfl rfl rfl fb6 rfl rfl RO (by omega) (by omega) (fun h0 => by omega) (fun _ h3 A3 hA3 hg3 hl3 hfr3 => ?_)
      simp only [sx, x_box, x_alloc, x_bslice, x_slice, x_append, x_b2s, xop, ev, evs, evParts, fillL, cellsL, Ai.get, Ai.put, stab, isNil?, if_false, if_true, addr?, int?, str?, agg?, bool?, shiftA, FnPost, xresL, xres1, tup, argEnv, ptr, Nat.reduceEqDiff, reduceIte, beq_self_eq_true, ne_eq, Nat.reduceAdd, Nat.reduceMul, Nat.reduceSub, abin_shl, abin_shr, load1V, loadV, storeV, cellsAt, getN, setN, allocV, lenL, lenS, bnd, oneC, Value.oneCell', Nat.reduceLeDiff, Nat.reduceLT, exists_eq_left', forall_const, reduceCtorEq, app_new, app_new0, List.append_assoc, Int.reduceToNat, Int.reduceLT, Int.reduceLE, Int.reduceEq, Int.reduceNe, Int.reduceBEq, IntKind.bits, bne_self_eq_false, Int.reducePow]
      refine ⟨g2', g4, g7, g8, K5.trans ⟨by omega, fun B hB => by rw [hfr3 B (by omega) (by simp [slB]; omega), hfr B hB (by simp [slB])]⟩, A3, unk + 3, by omega, lt_of_get hg3, by rw [xl]; rfl, ?_⟩
      rw [xl, xe]
      simp only [firstV, cellsAt, hg3, Option.bind_some]
      rw [if_neg (by omega), if_neg (by simp)]
      exact getN_all _ _ (by simp [rowsN_len]; omega)
  clear nilO fbox xl xe hk3 n3 hw1 hw2 g2' g4 g7 g8
  rintro ρ2 h2 ⟨g2', g4, g7, g8, E2, E, ec, hE, hEt, g9, FE⟩
  have hgx : ∀ x ∈ l ++ [(⟨at1, kd.tmod 3, bit⟩ : Nz)], goodN x := fun x hx => by
    rcases List.mem_append.1 hx with hx | hx
    · exact hgood x hx
    · simp at hx; subst hx
      have := Int.tmod_eq_emod_of_nonneg (b := 3) hkd.1
      exact ⟨a0, a1, by show 0 ≤ kd.tmod 3; omega, by show kd.tmod 3 ≤ 2; omega, hbit.1, hbit.2⟩
  have hxl : (l ++ [(⟨at1, kd.tmod 3, bit⟩ : Nz)]).length ≤ 41 := by simp; omega
  have hmore : ∀ (i : Int) (zs : List Int), at1 ≠ i → remZ (l ++ [(⟨at1, kd.tmod 3, bit⟩ : Nz)]) i zs = remZ l i zs := fun i zs h => remZ_more (x := ⟨at1, kd.tmod 3, bit⟩) h
  have F6 := E2.first F4
  have hR6 := E2.get hR4
  generalize l ++ [(⟨at1, kd.tmod 3, bit⟩ : Nz)] = l' at *
  simp only [sx, x_box, x_alloc, x_bslice, x_slice, x_append, x_b2s, xop, ev, evs, evParts, fillL, cellsL, Ai.get, Ai.put, stab, isNil?, if_false, if_true, addr?, int?, str?, agg?, bool?, shiftA, FnPost, xresL, xres1, tup, argEnv, ptr, Nat.reduceEqDiff, reduceIte, beq_self_eq_true, ne_eq, Nat.reduceAdd, Nat.reduceMul, Nat.reduceSub, abin_shl, abin_shr, load1V, loadV, storeV, cellsAt, getN, setN, allocV, lenL, lenS, bnd, oneC, Value.oneCell', Nat.reduceLeDiff, Nat.reduceLT, exists_eq_left', forall_const, reduceCtorEq, app_new, app_new0, List.append_assoc, Int.reduceToNat, Int.reduceLT, Int.reduceLE, Int.reduceEq, Int.reduceNe, Int.reduceBEq, IntKind.bits, bne_self_eq_false, Int.reducePow, g2', g4, g7, g8, g9]
  refine xcall (new_ok (delay := dl) (l := l) rfl F6 (by omega) (by omega) (by omega) (good_wrong hgood)) (by rfl) (by rfl) (by rfl) (by rfl) ?_
  rintro r h3 ⟨X, nq, nc, rfl, E3, hX, L3, hnq⟩
  simp only [sx, x_box, x_alloc, x_bslice, x_slice, x_append, x_b2s, xop, ev, evs, evParts, fillL, cellsL, Ai.get, Ai.put, stab, isNil?, if_false, if_true, addr?, int?, str?, agg?, bool?, shiftA, FnPost, xresL, xres1, tup, argEnv, ptr, Nat.reduceEqDiff, reduceIte, beq_self_eq_true, ne_eq, Nat.reduceAdd, Nat.reduceMul, Nat.reduceSub, abin_shl, abin_shr, load1V, loadV, storeV, cellsAt, getN, setN, allocV, lenL, lenS, bnd, oneC, Value.oneCell', Nat.reduceLeDiff, Nat.reduceLT, exists_eq_left', forall_const, reduceCtorEq, app_new, app_new0, List.append_assoc, Int.reduceToNat, Int.reduceLT, Int.reduceLE, Int.reduceEq, Int.reduceNe, Int.reduceBEq, IntKind.bits, bne_self_eq_false, Int.reducePow, g2', g4, g7, g8, g9]
  refine xcall (new_ok (delay := dl) (l := l') rfl (E3.first FE) (by omega) (by omega) (by omega) (good_wrong hgx)) (by rfl) (by rfl) (by rfl) (by rfl) ?_
  rintro r H1 ⟨Y, nq', nc', rfl, E4, hY, L4, hnq'⟩
  have L3' := L3.ext E4
  have hXl := lt_of_get L3.obj
  have hYl := lt_of_get L4.obj
  have hlen3 := E3.1
  have hlen4 := E4.1
  have hR7 := E4.get (E3.get hR6)
  have FE7 := E4.first (E3.first FE)
  have FL7 := E4.first (E3.first (E2.first (K4.first hfl)))
  have hRl6 := lt_of_get hR6
  have hEl := E2.1
  simp only [sx, x_box, x_alloc, x_bslice, x_slice, x_append, x_b2s, xop, ev, evs, evParts, fillL, cellsL, Ai.get, Ai.put, stab, isNil?, if_false, if_true, addr?, int?, str?, agg?, bool?, shiftA, FnPost, xresL, xres1, tup, argEnv, ptr, Nat.reduceEqDiff, reduceIte, beq_self_eq_true, ne_eq, Nat.reduceAdd, Nat.reduceMul, Nat.reduceSub, abin_shl, abin_shr, load1V, loadV, storeV, cellsAt, getN, setN, allocV, lenL, lenS, bnd, oneC, Value.oneCell', Nat.reduceLeDiff, Nat.reduceLT, exists_eq_left', forall_const, reduceCtorEq, app_new, app_new0, List.append_assoc, Int.reduceToNat, Int.reduceLT, Int.reduceLE, Int.reduceEq, Int.reduceNe, Int.reduceBEq, IntKind.bits, bne_self_eq_false, Int.reducePow, g2', g4, g7, g8, g9, ptr]
  have T0 : TW H1 H1 [] X dl 0 0 0 l nq nc (.slice none 0 0) [] Y 0 0 0 l' nq' nc' (.slice none 0 0) [] := by
    have nod : ∀ A, ¬ Dyn (.slice none 0 0) [] A := fun A hA => by
      rcases hA with hA | ⟨u, hu, -⟩
      · simp [slB] at hA
      · simp at hu
    refine ⟨L3', L4, Nat.le_refl _, fun _ _ _ _ => rfl, by omega, hYl, by omega, fun c hc => ?_, fun c hc => ?_, fun A hA => absurd hA (nod A), fun A hA => absurd hA (nod A), fun A hA => absurd hA (nod A), by simp⟩
    · have := (L3.nlt c hc).2.2; omega
    · have := (L4.nlt c hc).2.2; have := hnq' c hc; omega
  have FX : ∀ {h' : AHeap}, (∀ B, B < H1.length → B ≠ X → B ≠ Y → h'[B]? = H1[B]?) → firstV 3 h' l'.length (.slice (some ⟨E, 0, none⟩) l'.length ec) = some (rowsN l') := fun hk =>
    first_fr FE7 fun a ha => by cases ha; exact hk E (by omega) (by omega) (by omega)
  have FL : ∀ {h' : AHeap}, (∀ B, B < H1.length → B ≠ X → B ≠ Y → h'[B]? = H1[B]?) → firstV 1 h' nl (.slice ql nl cl) = some rowsL := fun hk =>
    first_fr FL7 fun a ha => by have := hbl a ha; have := K4.1; exact hk a.block (by omega) (by omega) (by omega)
  have FR : ∀ {h' : AHeap}, (∀ B, B < H1.length → B ≠ X → B ≠ Y → h'[B]? = H1[B]?) → h'[R]? = some (some ⟨true, [.int .u8 at1, .int .u8 kd, .int .u16 bit]⟩) := fun hk => by rw [hk R (by omega) (by omega) (by omega)]; exact hR7
  have hnz := good_bit hgood
  have hnz' := good_bit hgx
  refine xcode_loop (LpA H1 X Y R E nl dl (.slice ql nl cl) l l' nq nq' nc nc' ec) nl ⟨0, _, _, by omega, rfl, g2', g4, g7, g9, rfl, rfl, by simpa using T0⟩ ?_
  clear T0 FE7 FL7 hR7 L3' L3 L4 E4 E3 hR6 F6 FE E2 hR4 F4 K4 hfl hf hrow hbl hgood hgx hnq hnq' hbn g2' g4 g7 g8 g9
  rintro m ρ h5 ⟨i, sl, sl', him, g14, g2', g4, g7, g9, g10, g12, T⟩
  by_cases hlt : i < nl
  rotate_left
  · have hlt' : ¬ (i : Int) < nl := by omega
    simp only [sx, x_box, x_alloc, x_bslice, x_slice, x_append, x_b2s, xop, ev, evs, evParts, fillL, cellsL, Ai.get, Ai.put, stab, isNil?, if_false, if_true, addr?, int?, str?, agg?, bool?, shiftA, FnPost, xresL, xres1, tup, argEnv, ptr, Nat.reduceEqDiff, reduceIte, beq_self_eq_true, ne_eq, Nat.reduceAdd, Nat.reduceMul, Nat.reduceSub, abin_shl, abin_shr, load1V, loadV, storeV, cellsAt, getN, setN, allocV, lenL, lenS, bnd, oneC, Value.oneCell', Nat.reduceLeDiff, Nat.reduceLT, exists_eq_left', forall_const, reduceCtorEq, app_new, app_new0, List.append_assoc, Int.reduceToNat, Int.reduceLT, Int.reduceLE, Int.reduceEq, Int.reduceNe, Int.reduceBEq, IntKind.bits, bne_self_eq_false, Int.reducePow, g14, g2', hlt']
    refine xcall (lives_ok _) (by rfl) (by rfl) (by rfl) (by rfl) ?_
    rintro r h' ⟨rfl, rfl⟩
    simp only [sx, x_box, x_alloc, x_bslice, x_slice, x_append, x_b2s, xop, ev, evs, evParts, fillL, cellsL, Ai.get, Ai.put, stab, isNil?, if_false, if_true, addr?, int?, str?, agg?, bool?, shiftA, FnPost, xresL, xres1, tup, argEnv, ptr, Nat.reduceEqDiff, reduceIte, beq_self_eq_true, ne_eq, Nat.reduceAdd, Nat.reduceMul, Nat.reduceSub, abin_shl, abin_shr, load1V, loadV, storeV, cellsAt, getN, setN, allocV, lenL, lenS, bnd, oneC, Value.oneCell', Nat.reduceLeDiff, Nat.reduceLT, exists_eq_left', forall_const, reduceCtorEq, app_new, app_new0, List.append_assoc, Int.reduceToNat, Int.reduceLT, Int.reduceLE, Int.reduceEq, Int.reduceNe, Int.reduceBEq, IntKind.bits, bne_self_eq_false, Int.reducePow]
  have hlt' : (i : Int) < nl := by omega
  have hge : (0 : Int) ≤ i := by omega
  have hwi : IntKind.i64.wrap ((i : Int) + 1) = ((i + 1 : Nat) : Int) := by rw [i64_wrap] <;> omega
  obtain ⟨s, hs1, hs2⟩ := hrl i hlt
  cases ql with
  | none => have := FL T.keep; simp only [firstV] at this; rw [if_neg (by omega)] at this; cases this
  | some aL =>
  obtain ⟨l1, ol, vl, l2, l3, l4⟩ := firstV_elem1 (FL T.keep) hlt
  rw [hs1] at l4
  cases l4
  by_cases h60 : 60 < s.size
  · have h60' : (60 : Int) < s.size := by omega
    simp only [sx, x_box, x_alloc, x_bslice, x_slice, x_append, x_b2s, xop, ev, evs, evParts, fillL, cellsL, Ai.get, Ai.put, stab, isNil?, if_false, if_true, addr?, int?, str?, agg?, bool?, shiftA, FnPost, xresL, xres1, tup, argEnv, ptr, Nat.reduceEqDiff, reduceIte, beq_self_eq_true, ne_eq, Nat.reduceAdd, Nat.reduceMul, Nat.reduceSub, abin_shl, abin_shr, load1V, loadV, storeV, cellsAt, getN, setN, allocV, lenL, lenS, bnd, oneC, Value.oneCell', Nat.reduceLeDiff, Nat.reduceLT, exists_eq_left', forall_const, reduceCtorEq, app_new, app_new0, List.append_assoc, Int.reduceToNat, Int.reduceLT, Int.reduceLE, Int.reduceEq, Int.reduceNe, Int.reduceBEq, IntKind.bits, bne_self_eq_false, Int.reducePow, g14, g2', g4, g7, g9, g10, g12, hlt', hge, l1, l2, l3, Nat.mul_one, h60']
    refine xcall (lives_ok _) (by rfl) (by rfl) (by rfl) (by rfl) ?_
    rintro r h' ⟨rfl, rfl⟩
    simp only [sx, x_box, x_alloc, x_bslice, x_slice, x_append, x_b2s, xop, ev, evs, evParts, fillL, cellsL, Ai.get, Ai.put, stab, isNil?, if_false, if_true, addr?, int?, str?, agg?, bool?, shiftA, FnPost, xresL, xres1, tup, argEnv, ptr, Nat.reduceEqDiff, reduceIte, beq_self_eq_true, ne_eq, Nat.reduceAdd, Nat.reduceMul, Nat.reduceSub, abin_shl, abin_shr, load1V, loadV, storeV, cellsAt, getN, setN, allocV, lenL, lenS, bnd, oneC, Value.oneCell', Nat.reduceLeDiff, Nat.reduceLT, exists_eq_left', forall_const, reduceCtorEq, app_new, app_new0, List.append_assoc, Int.reduceToNat, Int.reduceLT, Int.reduceLE, Int.reduceEq, Int.reduceNe, Int.reduceBEq, IntKind.bits, bne_self_eq_false, Int.reducePow]
  have h60' : ¬ (60 : Int) < s.size := by omega
  have hstl := streamOf_len s
  have hz1 := remZ_len2 l (i : Nat) (streamOf s)
  have hz2 := remZ_len2 l' (i : Nat) (streamOf s)
  simp only [sx, x_box, x_alloc, x_bslice, x_slice, x_append, x_b2s, xop, ev, evs, evParts, fillL, cellsL, Ai.get, Ai.put, stab, isNil?, if_false, if_true, addr?, int?, str?, agg?, bool?, shiftA, FnPost, xresL, xres1, tup, argEnv, ptr, Nat.reduceEqDiff, reduceIte, beq_self_eq_true, ne_eq, Nat.reduceAdd, Nat.reduceMul, Nat.reduceSub, abin_shl, abin_shr, load1V, loadV, storeV, cellsAt, getN, setN, allocV, lenL, lenS, bnd, oneC, Value.oneCell', Nat.reduceLeDiff, Nat.reduceLT, exists_eq_left', forall_const, reduceCtorEq, app_new, app_new0, List.append_assoc, Int.reduceToNat, Int.reduceLT, Int.reduceLE, Int.reduceEq, Int.reduceNe, Int.reduceBEq, IntKind.bits, bne_self_eq_false, Int.reducePow, g14, g2', g4, g7, g9, g10, g12, hlt', hge, l1, l2, l3, Nat.mul_one, h60', ptr]
  refine xcall (stream_ok (s := s) (by omega)) (by rfl) (by rfl) (by rfl) (by rfl) ?_
  rintro r h6 ⟨rfl, e6⟩
  have E6 : Ext h5 h6 := by rw [e6]; exact Ext.app _ _
  have hS : h6[h5.length]? = some (some ⟨true, bR (streamOf s)⟩) := by rw [e6]; exact app_new0
  have fS : ∀ {h' : AHeap}, h'[h5.length]? = some (some ⟨true, bR (streamOf s)⟩) → firstV 1 h' s.size (.slice (some ⟨h5.length, 0, none⟩) s.size s.size) = some (bR (streamOf s)) := fun hx => by
    simp only [firstV, cellsAt, hx, Option.bind_some]
    split
    · rename_i h0
      rw [List.eq_nil_of_length_eq_zero (show (streamOf s).length = 0 by omega)]; rfl
    · rw [if_neg (by simp)]
      exact getN_all _ _ (by rw [bR_len]; omega)
  have hXT := T.x
  have hYT := T.x'
  have hTl := T.len
  have T6 := (T.ext E6).hold (Pr' := [(h5.length, some ⟨true, bR (streamOf s)⟩)]) (by
    intro y hy
    simp at hy; subst hy
    exact ⟨hS, fun hd => by have := T.ltd hd; omega, fun hd => by have := T.swap.ltd hd; omega, by show h5.length ≠ X; omega, by show h5.length ≠ Y; omega⟩)
  clear e6 T
  generalize h5.length = RS at *
  have now0 : 0 ≤ (i : Int) * dl := Int.mul_nonneg (by omega) (by omega)
  have now1 : (i : Int) * dl ≤ 160 := Int.le_trans (Int.mul_le_mul (show (i : Int) ≤ 20 by omega) dl8 (by omega) (by omega)) (by decide)
  have hmul : ((i + 1 : Nat) : Int) * dl = (i : Int) * dl + dl := by push_cast; rw [Int.add_mul, Int.one_mul]
  generalize (i : Int) * dl = now at *
  simp only [sx, x_box, x_alloc, x_bslice, x_slice, x_append, x_b2s, xop, ev, evs, evParts, fillL, cellsL, Ai.get, Ai.put, stab, isNil?, if_false, if_true, addr?, int?, str?, agg?, bool?, shiftA, FnPost, xresL, xres1, tup, argEnv, ptr, Nat.reduceEqDiff, reduceIte, beq_self_eq_true, ne_eq, Nat.reduceAdd, Nat.reduceMul, Nat.reduceSub, abin_shl, abin_shr, load1V, loadV, storeV, cellsAt, getN, setN, allocV, lenL, lenS, bnd, oneC, Value.oneCell', Nat.reduceLeDiff, Nat.reduceLT, exists_eq_left', forall_const, reduceCtorEq, app_new, app_new0, List.append_assoc, Int.reduceToNat, Int.reduceLT, Int.reduceLE, Int.reduceEq, Int.reduceNe, Int.reduceBEq, IntKind.bits, bne_self_eq_false, Int.reducePow, g14, g2', g4, g7, g9, g10, g12, ptr]
  refine xcall (T6.send (by omega) (by omega) (fS hS) (stream_nonneg s) (checkV_stream (by omega)) hnz (by omega) (by omega) (by omega) (by omega) (by omega) now0 (by omega) (by omega) (by omega) (by simp)) (by rfl) (by rfl) (by rfl) (by rfl) ?_
  rintro r h7 ⟨rfl, sl1, v1, T7⟩
  simp only [sx, x_box, x_alloc, x_bslice, x_slice, x_append, x_b2s, xop, ev, evs, evParts, fillL, cellsL, Ai.get, Ai.put, stab, isNil?, if_false, if_true, addr?, int?, str?, agg?, bool?, shiftA, FnPost, xresL, xres1, tup, argEnv, ptr, Nat.reduceEqDiff, reduceIte, beq_self_eq_true, ne_eq, Nat.reduceAdd, Nat.reduceMul, Nat.reduceSub, abin_shl, abin_shr, load1V, loadV, storeV, cellsAt, getN, setN, allocV, lenL, lenS, bnd, oneC, Value.oneCell', Nat.reduceLeDiff, Nat.reduceLT, exists_eq_left', forall_const, reduceCtorEq, app_new, app_new0, List.append_assoc, Int.reduceToNat, Int.reduceLT, Int.reduceLE, Int.reduceEq, Int.reduceNe, Int.reduceBEq, IntKind.bits, bne_self_eq_false, Int.reducePow, g14, g2', g4, g7, g9, g10, g12, ptr]
  have hS7 := (T7.p (RS, some ⟨true, bR (streamOf s)⟩) (by simp)).1
  refine xcall (T7.swap.send (by omega) (by omega) (fS hS7) (stream_nonneg s) (checkV_stream (by omega)) hnz' (by omega) (by omega) (by omega) (by omega) (by omega) now0 (by omega) (by omega) (by omega) (by simp)) (by rfl) (by rfl) (by rfl) (by rfl) ?_
  rintro r h8 ⟨rfl, sl2, v2, T8⟩
  have T8 := T8.swap
  simp only [sx, x_box, x_alloc, x_bslice, x_slice, x_append, x_b2s, xop, ev, evs, evParts, fillL, cellsL, Ai.get, Ai.put, stab, isNil?, if_false, if_true, addr?, int?, str?, agg?, bool?, shiftA, FnPost, xresL, xres1, tup, argEnv, ptr, Nat.reduceEqDiff, reduceIte, beq_self_eq_true, ne_eq, Nat.reduceAdd, Nat.reduceMul, Nat.reduceSub, abin_shl, abin_shr, load1V, loadV, storeV, cellsAt, getN, setN, allocV, lenL, lenS, bnd, oneC, Value.oneCell', Nat.reduceLeDiff, Nat.reduceLT, exists_eq_left', forall_const, reduceCtorEq, app_new, app_new0, List.append_assoc, Int.reduceToNat, Int.reduceLT, Int.reduceLE, Int.reduceEq, Int.reduceNe, Int.reduceBEq, IntKind.bits, bne_self_eq_false, Int.reducePow, g14, g2', g4, g7, g9, g10, g12, ptr]
  have hZ : at1 ≠ (i : Int) → remZ l' (i : Nat) (streamOf s) = remZ l (i : Nat) (streamOf s) := hmore _ _
  simp only [List.nil_append] at T8
  have hi1 : ((i : Nat) : Int) + 1 = ((i + 1 : Nat) : Int) := by omega
  rw [hi1] at T8
  obtain ⟨dn, hdn⟩ : ∃ dn : Nat, dl = dn := ⟨dl.toNat, by omega⟩
  have hbit1 := streamOf_bit s
  generalize streamOf s = zs at *
  generalize hz1e : remZ l (i : Nat) zs = Z1 at *
  generalize hz2e : remZ l' (i : Nat) zs = Z2 at *
  clear T7 T6 hS hS7 l2 l3 l1
  refine xcode_loop (fun f ρ h' => ∃ j : Nat, j + f = dn ∧ get ρ 16 = some (.int .i64 (j : Nat)) ∧ get ρ 14 = some (.int .i64 (i : Nat)) ∧ get ρ 2 = some (.slice (some aL) nl cl) ∧ get ρ 4 = some (.pointer (some ⟨R, 0, none⟩)) ∧ get ρ 7 = some (.int .i64 dl) ∧ get ρ 9 = some (.slice (some ⟨E, 0, none⟩) l'.length ec) ∧ get ρ 10 = some (.pointer (some ⟨X, 0, none⟩)) ∧ get ρ 12 = some (.pointer (some ⟨Y, 0, none⟩)) ∧ get ρ 15 = some (.slice (some ⟨RS, 0, none⟩) s.size s.size) ∧
    TW H1 h' [(RS, some ⟨true, bR zs⟩)] X dl (now + j) ((i + 1 : Nat) : Int) (0 + (Z1.length : Nat)) l nq nc sl1 [⟨now + dl, v1, Z1⟩] Y (now + j) ((i + 1 : Nat) : Int) (0 + (Z2.length : Nat)) l' nq' nc' sl2 [⟨now + dl, v2, Z2⟩]) dn ⟨0, by omega, rfl, g14, g2', g4, g7, g9, g10, g12, rfl, by simpa using T8⟩ ?_
  clear T8 g14 g2' g4 g7 g9 g10 g12 ρ
  rintro f ρ h9 ⟨j, hjf, g16, g14, g2', g4, g7, g9, g10, g12, g15, T⟩
  by_cases hj : j < dn
  · have hj' : (j : Int) < dl := by omega
    have hwj : IntKind.i64.wrap ((j : Int) + 1) = ((j + 1 : Nat) : Int) := by rw [i64_wrap] <;> omega
    simp only [sx, x_box, x_alloc, x_bslice, x_slice, x_append, x_b2s, xop, ev, evs, evParts, fillL, cellsL, Ai.get, Ai.put, stab, isNil?, if_false, if_true, addr?, int?, str?, agg?, bool?, shiftA, FnPost, xresL, xres1, tup, argEnv, ptr, Nat.reduceEqDiff, reduceIte, beq_self_eq_true, ne_eq, Nat.reduceAdd, Nat.reduceMul, Nat.reduceSub, abin_shl, abin_shr, load1V, loadV, storeV, cellsAt, getN, setN, allocV, lenL, lenS, bnd, oneC, Value.oneCell', Nat.reduceLeDiff, Nat.reduceLT, exists_eq_left', forall_const, reduceCtorEq, app_new, app_new0, List.append_assoc, Int.reduceToNat, Int.reduceLT, Int.reduceLE, Int.reduceEq, Int.reduceNe, Int.reduceBEq, IntKind.bits, bne_self_eq_false, Int.reducePow, g16, g14, g2', g4, g7, g9, g10, g12, g15, hj']
    refine xcall (T.tick (by omega) (by omega) (by omega)) (by rfl) (by rfl) (by rfl) (by rfl) ?_
    rintro r h10 ⟨rfl, T10⟩
    simp only [sx, x_box, x_alloc, x_bslice, x_slice, x_append, x_b2s, xop, ev, evs, evParts, fillL, cellsL, Ai.get, Ai.put, stab, isNil?, if_false, if_true, addr?, int?, str?, agg?, bool?, shiftA, FnPost, xresL, xres1, tup, argEnv, ptr, Nat.reduceEqDiff, reduceIte, beq_self_eq_true, ne_eq, Nat.reduceAdd, Nat.reduceMul, Nat.reduceSub, abin_shl, abin_shr, load1V, loadV, storeV, cellsAt, getN, setN, allocV, lenL, lenS, bnd, oneC, Value.oneCell', Nat.reduceLeDiff, Nat.reduceLT, exists_eq_left', forall_const, reduceCtorEq, app_new, app_new0, List.append_assoc, Int.reduceToNat, Int.reduceLT, Int.reduceLE, Int.reduceEq, Int.reduceNe, Int.reduceBEq, IntKind.bits, bne_self_eq_false, Int.reducePow, g16, g14, g2', g4, g7, g9, g10, g12, g15]
    refine xcall (T10.swap.tick (by omega) (by omega) (by omega)) (by rfl) (by rfl) (by rfl) (by rfl) ?_
    rintro r h11 ⟨rfl, T11⟩
    simp only [sx, x_box, x_alloc, x_bslice, x_slice, x_append, x_b2s, xop, ev, evs, evParts, fillL, cellsL, Ai.get, Ai.put, stab, isNil?, if_false, if_true, addr?, int?, str?, agg?, bool?, shiftA, FnPost, xresL, xres1, tup, argEnv, ptr, Nat.reduceEqDiff, reduceIte, beq_self_eq_true, ne_eq, Nat.reduceAdd, Nat.reduceMul, Nat.reduceSub, abin_shl, abin_shr, load1V, loadV, storeV, cellsAt, getN, setN, allocV, lenL, lenS, bnd, oneC, Value.oneCell', Nat.reduceLeDiff, Nat.reduceLT, exists_eq_left', forall_const, reduceCtorEq, app_new, app_new0, List.append_assoc, Int.reduceToNat, Int.reduceLT, Int.reduceLE, Int.reduceEq, Int.reduceNe, Int.reduceBEq, IntKind.bits, bne_self_eq_false, Int.reducePow, g16, g14, g2', g4, g7, g9, g10, g12, g15, hwj]
    have e1 : now + ((j + 1 : Nat) : Int) = now + (j : Int) + 1 := by omega
    exact ⟨f - 1, by omega, j + 1, by omega, rfl, by rw [e1]; exact T11.swap⟩
  have hj' : ¬ (j : Int) < dl := by omega
  have hjd : now + (j : Int) = now + dl := by omega
  rw [hjd] at T
  have rip : ∀ (v : Value) (Z : List Int), ripe [(⟨now + dl, v, Z⟩ : Bu)] (now + dl) = [⟨now + dl, v, Z⟩] := fun v Z => ripe_all (by simp)
  have bt : ∀ (v : Value) (Z : List Int), bitsU [(⟨now + dl, v, Z⟩ : Bu)] = Z := fun v Z => by simp [bitsU]
  simp only [sx, x_box, x_alloc, x_bslice, x_slice, x_append, x_b2s, xop, ev, evs, evParts, fillL, cellsL, Ai.get, Ai.put, stab, isNil?, if_false, if_true, addr?, int?, str?, agg?, bool?, shiftA, FnPost, xresL, xres1, tup, argEnv, ptr, Nat.reduceEqDiff, reduceIte, beq_self_eq_true, ne_eq, Nat.reduceAdd, Nat.reduceMul, Nat.reduceSub, abin_shl, abin_shr, load1V, loadV, storeV, cellsAt, getN, setN, allocV, lenL, lenS, bnd, oneC, Value.oneCell', Nat.reduceLeDiff, Nat.reduceLT, exists_eq_left', forall_const, reduceCtorEq, app_new, app_new0, List.append_assoc, Int.reduceToNat, Int.reduceLT, Int.reduceLE, Int.reduceEq, Int.reduceNe, Int.reduceBEq, IntKind.bits, bne_self_eq_false, Int.reducePow, g16, g14, g2', g4, g7, g9, g10, g12, g15, hj']
  have c1 := T.take (by rw [bt]; omega) (by simp) (by omega) (by omega)
  rw [rip, bt] at c1
  refine xcall c1 (by rfl) (by rfl) (by rfl) (by rfl) ?_
  rintro r h10 ⟨sl3, q1, T10, rfl, f1, b1, d1⟩
  simp only [List.length_cons, List.length_nil, Nat.zero_add, List.drop_succ_cons, List.drop_zero] at T10 d1
  simp only [sx, x_box, x_alloc, x_bslice, x_slice, x_append, x_b2s, xop, ev, evs, evParts, fillL, cellsL, Ai.get, Ai.put, stab, isNil?, if_false, if_true, addr?, int?, str?, agg?, bool?, shiftA, FnPost, xresL, xres1, tup, argEnv, ptr, Nat.reduceEqDiff, reduceIte, beq_self_eq_true, ne_eq, Nat.reduceAdd, Nat.reduceMul, Nat.reduceSub, abin_shl, abin_shr, load1V, loadV, storeV, cellsAt, getN, setN, allocV, lenL, lenS, bnd, oneC, Value.oneCell', Nat.reduceLeDiff, Nat.reduceLT, exists_eq_left', forall_const, reduceCtorEq, app_new, app_new0, List.append_assoc, Int.reduceToNat, Int.reduceLT, Int.reduceLE, Int.reduceEq, Int.reduceNe, Int.reduceBEq, IntKind.bits, bne_self_eq_false, Int.reducePow, g16, g14, g2', g4, g7, g9, g10, g12, g15]
  have hl10 := T10.len
  have hl9 := T.len
  obtain ⟨P1, hP1, hf1⟩ : ∃ P1 : List (Nat × Option AObj), (∀ y, y ∈ P1 → h10[y.1]? = some y.2 ∧ ¬ Dyn sl3 [] y.1 ∧ ¬ Dyn sl2 [⟨now + dl, v2, Z2⟩] y.1 ∧ y.1 ≠ X ∧ y.1 ≠ Y) ∧ ∀ h' : AHeap, (∀ y, y ∈ P1 → h'[y.1]? = some y.2) → firstV 1 h' Z1.length (.slice q1 Z1.length Z1.length) = some (bR Z1) := by
    by_cases hz0 : Z1.length = 0
    · refine ⟨[], by simp, fun h' _ => ?_⟩
      rw [List.eq_nil_of_length_eq_zero hz0]
      cases q1 <;> simp [firstV, bR]
    · cases q1 with
      | none => simp only [firstV] at f1; rw [if_neg hz0] at f1; cases f1
      | some a =>
        have hb := b1 a rfl
        obtain ⟨_, o, ho, -⟩ := firstV_cell f1 hz0
        refine ⟨[(a.block, some o)], fun y hy => ?_, fun h' hk => first_fr f1 fun a' ha' => by cases ha'; rw [hk (a.block, some o) (by simp), ho]⟩
        simp at hy; subst hy
        exact ⟨ho, fun hd => by have := d1 _ hd; show False; simp only at this; omega, fun hd => by have := T.swap.ltd hd; show False; simp only at this; omega, by show a.block ≠ X; omega, by show a.block ≠ Y; omega⟩
  have T10' := T10.hold (Pr' := (RS, some ⟨true, bR zs⟩) :: P1) (fun y hy => by
    rcases List.mem_cons.1 hy with rfl | hy
    · exact T10.p _ (by simp)
    · exact hP1 y hy)
  have c2 := T10'.swap.take (by rw [bt]; omega) (by simp) (by omega) (by omega)
  rw [rip, bt] at c2
  refine xcall c2 (by rfl) (by rfl) (by rfl) (by rfl) ?_
  rintro r h11 ⟨sl4, q2, T11, rfl, f2, b2, d2⟩
  simp only [List.length_cons, List.length_nil, Nat.zero_add, List.drop_succ_cons, List.drop_zero] at T11 d2
  have T12 := T11.swap
  have w1 : (0 : Int) + (Z1.length : Nat) - (Z1.length : Nat) = 0 := by omega
  have w2 : (0 : Int) + (Z2.length : Nat) - (Z2.length : Nat) = 0 := by omega
  rw [w1, w2] at T12
  have fZ1 := hf1 h11 fun y hy => (T12.p y (by simp [hy])).1
  have hS11 := (T12.p (RS, some ⟨true, bR zs⟩) (by simp)).1
  have hwa : IntKind.i64.wrap at1 = at1 := i64_wrap (by omega) (by omega)
  have hR11 := FR T12.keep
  have hZl := firstV_len fZ1
  simp only [sx, x_box, x_alloc, x_bslice, x_slice, x_append, x_b2s, xop, ev, evs, evParts, fillL, cellsL, Ai.get, Ai.put, stab, isNil?, if_false, if_true, addr?, int?, str?, agg?, bool?, shiftA, FnPost, xresL, xres1, tup, argEnv, ptr, Nat.reduceEqDiff, reduceIte, beq_self_eq_true, ne_eq, Nat.reduceAdd, Nat.reduceMul, Nat.reduceSub, abin_shl, abin_shr, load1V, loadV, storeV, cellsAt, getN, setN, allocV, lenL, lenS, bnd, oneC, Value.oneCell', Nat.reduceLeDiff, Nat.reduceLT, exists_eq_left', forall_const, reduceCtorEq, app_new, app_new0, List.append_assoc, Int.reduceToNat, Int.reduceLT, Int.reduceLE, Int.reduceEq, Int.reduceNe, Int.reduceBEq, IntKind.bits, bne_self_eq_false, Int.reducePow, g16, g14, g2', g4, g7, g9, g10, g12, g15, hR11, hwa]
  have fE := FX T12.keep
  have hrem : ∀ {h' : AHeap}, h' = h11 → Valid Try.prog 13 [.slice (some ⟨E, 0, none⟩) l'.length ec, .int .i64 (i : Int), .slice (some ⟨RS, 0, none⟩) s.size s.size] h' fun r h2 => Ret 1 h2 r Z2.length (bR Z2) ∧ Ext h' h2 := fun e => by
    subst e
    have := remL_ok (at_ := (i : Nat)) fE (by omega) (fS hS11) (by omega) hbit1 hnz'
    rw [hz2e] at this
    exact this.mono fun r h2 hh => ⟨hh.1, hh.2.1⟩
  have hnow : now + dl = ((i + 1 : Nat) : Int) * dl := by rw [hmul]
  rw [hnow] at T12
  by_cases hia : (i : Int) = at1
  · simp only [sx, x_box, x_alloc, x_bslice, x_slice, x_append, x_b2s, xop, ev, evs, evParts, fillL, cellsL, Ai.get, Ai.put, stab, isNil?, if_false, if_true, addr?, int?, str?, agg?, bool?, shiftA, FnPost, xresL, xres1, tup, argEnv, ptr, Nat.reduceEqDiff, reduceIte, beq_self_eq_true, ne_eq, Nat.reduceAdd, Nat.reduceMul, Nat.reduceSub, abin_shl, abin_shr, load1V, loadV, storeV, cellsAt, getN, setN, allocV, lenL, lenS, bnd, oneC, Value.oneCell', Nat.reduceLeDiff, Nat.reduceLT, exists_eq_left', forall_const, reduceCtorEq, app_new, app_new0, List.append_assoc, Int.reduceToNat, Int.reduceLT, Int.reduceLE, Int.reduceEq, Int.reduceNe, Int.reduceBEq, IntKind.bits, bne_self_eq_false, Int.reducePow, g16, g14, g2', g4, g7, g9, g10, g12, g15, hia]
    rw [← hia]
    refine xcall (hrem rfl) (by rfl) (by rfl) (by rfl) (by rfl) ?_
    rintro r h12 ⟨R12, E12⟩
    obtain ⟨rq, rc, rfl, _⟩ := R12.shape
    simp only [sx, x_box, x_alloc, x_bslice, x_slice, x_append, x_b2s, xop, ev, evs, evParts, fillL, cellsL, Ai.get, Ai.put, stab, isNil?, if_false, if_true, addr?, int?, str?, agg?, bool?, shiftA, FnPost, xresL, xres1, tup, argEnv, ptr, Nat.reduceEqDiff, reduceIte, beq_self_eq_true, ne_eq, Nat.reduceAdd, Nat.reduceMul, Nat.reduceSub, abin_shl, abin_shr, load1V, loadV, storeV, cellsAt, getN, setN, allocV, lenL, lenS, bnd, oneC, Value.oneCell', Nat.reduceLeDiff, Nat.reduceLT, exists_eq_left', forall_const, reduceCtorEq, app_new, app_new0, List.append_assoc, Int.reduceToNat, Int.reduceLT, Int.reduceLE, Int.reduceEq, Int.reduceNe, Int.reduceBEq, IntKind.bits, bne_self_eq_false, Int.reducePow, g16, g14, g2', g4, g7, g9, g10, g12, g15]
    refine xcall (same_ok (E12.first f2) R12.first (by omega)) (by rfl) (by rfl) (by rfl) (by rfl) ?_
    rintro r h13 ⟨rfl, rfl⟩
    simp only [sx, x_box, x_alloc, x_bslice, x_slice, x_append, x_b2s, xop, ev, evs, evParts, fillL, cellsL, Ai.get, Ai.put, stab, isNil?, if_false, if_true, addr?, int?, str?, agg?, bool?, shiftA, FnPost, xresL, xres1, tup, argEnv, ptr, Nat.reduceEqDiff, reduceIte, beq_self_eq_true, ne_eq, Nat.reduceAdd, Nat.reduceMul, Nat.reduceSub, abin_shl, abin_shr, load1V, loadV, storeV, cellsAt, getN, setN, allocV, lenL, lenS, bnd, oneC, Value.oneCell', Nat.reduceLeDiff, Nat.reduceLT, exists_eq_left', forall_const, reduceCtorEq, app_new, app_new0, List.append_assoc, Int.reduceToNat, Int.reduceLT, Int.reduceLE, Int.reduceEq, Int.reduceNe, Int.reduceBEq, IntKind.bits, bne_self_eq_false, Int.reducePow, g16, g14, g2', g4, g7, g9, g10, g12, g15, eq_self, hwi]
    exact ⟨m - 1, by omega, i + 1, _, _, by omega, rfl, g2', g4, g7, g9, g10, g12, (T12.ext E12).hold (by simp)⟩
  · have hZZ : decide (Z1 = Z2) = true := by rw [hZ fun e => hia e.symm]; simp
    simp only [sx, x_box, x_alloc, x_bslice, x_slice, x_append, x_b2s, xop, ev, evs, evParts, fillL, cellsL, Ai.get, Ai.put, stab, isNil?, if_false, if_true, addr?, int?, str?, agg?, bool?, shiftA, FnPost, xresL, xres1, tup, argEnv, ptr, Nat.reduceEqDiff, reduceIte, beq_self_eq_true, ne_eq, Nat.reduceAdd, Nat.reduceMul, Nat.reduceSub, abin_shl, abin_shr, load1V, loadV, storeV, cellsAt, getN, setN, allocV, lenL, lenS, bnd, oneC, Value.oneCell', Nat.reduceLeDiff, Nat.reduceLT, exists_eq_left', forall_const, reduceCtorEq, app_new, app_new0, List.append_assoc, Int.reduceToNat, Int.reduceLT, Int.reduceLE, Int.reduceEq, Int.reduceNe, Int.reduceBEq, IntKind.bits, bne_self_eq_false, Int.reducePow, g16, g14, g2', g4, g7, g9, g10, g12, g15, hia]
    refine xcall (same_ok fZ1 f2 (by omega)) (by rfl) (by rfl) (by rfl) (by rfl) ?_
    rintro r h12 ⟨rfl, rfl⟩
    simp only [sx, x_box, x_alloc, x_bslice, x_slice, x_append, x_b2s, xop, ev, evs, evParts, fillL, cellsL, Ai.get, Ai.put, stab, isNil?, if_false, if_true, addr?, int?, str?, agg?, bool?, shiftA, FnPost, xresL, xres1, tup, argEnv, ptr, Nat.reduceEqDiff, reduceIte, beq_self_eq_true, ne_eq, Nat.reduceAdd, Nat.reduceMul, Nat.reduceSub, abin_shl, abin_shr, load1V, loadV, storeV, cellsAt, getN, setN, allocV, lenL, lenS, bnd, oneC, Value.oneCell', Nat.reduceLeDiff, Nat.reduceLT, exists_eq_left', forall_const, reduceCtorEq, app_new, app_new0, List.append_assoc, Int.reduceToNat, Int.reduceLT, Int.reduceLE, Int.reduceEq, Int.reduceNe, Int.reduceBEq, IntKind.bits, bne_self_eq_false, Int.reducePow, g16, g14, g2', g4, g7, g9, g10, g12, g15, hZZ, eq_self]
    refine xcall (hrem rfl) (by rfl) (by rfl) (by rfl) (by rfl) ?_
    rintro r h13 ⟨R12, E12⟩
    obtain ⟨rq, rc, rfl, _⟩ := R12.shape
    simp only [sx, x_box, x_alloc, x_bslice, x_slice, x_append, x_b2s, xop, ev, evs, evParts, fillL, cellsL, Ai.get, Ai.put, stab, isNil?, if_false, if_true, addr?, int?, str?, agg?, bool?, shiftA, FnPost, xresL, xres1, tup, argEnv, ptr, Nat.reduceEqDiff, reduceIte, beq_self_eq_true, ne_eq, Nat.reduceAdd, Nat.reduceMul, Nat.reduceSub, abin_shl, abin_shr, load1V, loadV, storeV, cellsAt, getN, setN, allocV, lenL, lenS, bnd, oneC, Value.oneCell', Nat.reduceLeDiff, Nat.reduceLT, exists_eq_left', forall_const, reduceCtorEq, app_new, app_new0, List.append_assoc, Int.reduceToNat, Int.reduceLT, Int.reduceLE, Int.reduceEq, Int.reduceNe, Int.reduceBEq, IntKind.bits, bne_self_eq_false, Int.reducePow, g16, g14, g2', g4, g7, g9, g10, g12, g15]
    refine xcall (same_ok (E12.first f2) R12.first (by omega)) (by rfl) (by rfl) (by rfl) (by rfl) ?_
    rintro r h14 ⟨rfl, rfl⟩
    simp only [sx, x_box, x_alloc, x_bslice, x_slice, x_append, x_b2s, xop, ev, evs, evParts, fillL, cellsL, Ai.get, Ai.put, stab, isNil?, if_false, if_true, addr?, int?, str?, agg?, bool?, shiftA, FnPost, xresL, xres1, tup, argEnv, ptr, Nat.reduceEqDiff, reduceIte, beq_self_eq_true, ne_eq, Nat.reduceAdd, Nat.reduceMul, Nat.reduceSub, abin_shl, abin_shr, load1V, loadV, storeV, cellsAt, getN, setN, allocV, lenL, lenS, bnd, oneC, Value.oneCell', Nat.reduceLeDiff, Nat.reduceLT, exists_eq_left', forall_const, reduceCtorEq, app_new, app_new0, List.append_assoc, Int.reduceToNat, Int.reduceLT, Int.reduceLE, Int.reduceEq, Int.reduceNe, Int.reduceBEq, IntKind.bits, bne_self_eq_false, Int.reducePow, g16, g14, g2', g4, g7, g9, g10, g12, g15, eq_self, hwi]
    exact ⟨m - 1, by omega, i + 1, _, _, by omega, rfl, g2', g4, g7, g9, g10, g12, (T12.ext E12).hold (by simp)⟩
def aloneSh : List (Bool × List Cl) := [(true, [.leaf (.int .u8), .sl [.int .u8, .int .u8, .int .u16]]), (true, [.leaf (.int .u8), .leaf (.int .u8), .leaf (.int .u16)]), (false, [.sl [.str]])]
theorem alone_law {h : AHeap} {vs : List Value} (hs : SmallArgs h aloneSh vs) : Valid Try.prog 6 vs h fun r _ => r = .bool true := by
  obtain ⟨v0, r, rfl, h0, hs1⟩ := hs.cons_inv
  obtain ⟨v1, r, rfl, h1, hs2⟩ := hs1.cons_inv
  obtain ⟨v2, r, rfl, h2, hs3⟩ := hs2.cons_inv
  obtain rfl := hs3.nil_inv
  obtain ⟨cs, rfl, g0⟩ := h0.agg
  obtain ⟨_, cs, rfl, ⟨b0, rfl, x0⟩, g1⟩ := g0.cons_inv
  obtain ⟨_, cs, rfl, y1, g2⟩ := g1.cons_inv
  obtain rfl := g2.nil_inv
  obtain ⟨q, n, c, rows, rfl, k1, k2, k3, k4, k5, k6, k7⟩ := y1.slice
  obtain ⟨cs, rfl, g0⟩ := h1.agg
  obtain ⟨_, cs, rfl, ⟨a0, rfl, z0⟩, g1⟩ := g0.cons_inv
  obtain ⟨_, cs, rfl, ⟨a1, rfl, z1⟩, g2⟩ := g1.cons_inv
  obtain ⟨_, cs, rfl, ⟨a2, rfl, z2⟩, g3⟩ := g2.cons_inv
  obtain rfl := g3.nil_inv
  obtain ⟨ql, nl, cl, rowsL, rfl, l1, l2, l3, l4, l5, l6, l7⟩ := h2.one.slice
  have y0 := bounds_u8 x0
  refine alone_ok y0.1 (bounds_u8 z0) (bounds_u8 z1) (bounds_u16 z2) k5 (Nat.le_trans k1 k2) k7 l5 (fun a ha => (l3 a ha).2.2) (Nat.le_trans l1 l2) (fun i hi => ?_)
  obtain ⟨u, e1, s, rfl, e2⟩ := l7 i hi 0 .str rfl
  exact ⟨s, by simpa using e1, e2⟩
end Go.Proofs.Ytemphcppnjlkcaa
