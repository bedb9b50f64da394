import Derived.Test.YtimfgagdfmmeeaaDoorT5
import Derived.Test.YtimfgagdfmmeeaaDoorH4
set_option linter.unusedVariables false
set_option linter.unusedSimpArgs false
namespace Go.Proofs.YtimfgagdfmmeeaaDoor
open Go Go.Ai Go.Proofs

theorem RI.elem {h : AHeap} {sl : Value} {L : List Nat} (r : RI h sl L) (h0 : L ≠ []) : ∃ a o, sl = .slice (some a) L.length (unk + 1) ∧ a.spot = none ∧ h[a.block]? = some (some o) ∧ ∀ i, i < L.length → o.cells[a.off + i]? = some (.int .i64 ((L.getD i 0 : Nat) : Int)) := by
  rcases r with ⟨-, rfl⟩ | ⟨A, rfl, hA⟩
  · exact absurd rfl h0
  · refine ⟨_, _, rfl, rfl, hA, fun i hi => ?_⟩
    simp only [Nat.zero_add, iR, List.getElem?_map]
    rw [List.getElem?_eq_getElem hi, List.getD_eq_getElem?_getD, List.getElem?_eq_getElem hi]; rfl
theorem endsL_len (s : List Int) : (endsL s).length ≤ s.length := by
  refine snoc_ind (C := fun s => (endsL s).length ≤ s.length) (Nat.le_refl _) (fun s b ih => ?_) s
  rw [endsL_snoc, List.length_append, List.length_append]
  unfold gE
  split <;> simp <;> omega
theorem RI.shp {h : AHeap} {sl : Value} {L : List Nat} (r : RI h sl L) : ∃ q c, sl = .slice q L.length c := by
  rcases r with ⟨rfl, rfl⟩ | ⟨A, rfl, -⟩
  · exact ⟨none, 0, rfl⟩
  · exact ⟨_, _, rfl⟩
theorem LN.lt {h : AHeap} {sl : Value} {ls : List (List Int)} (l : LN h sl ls) {A : Nat} (hA : slB sl = some A) : A < h.length := by
  rcases l with ⟨rfl, rfl⟩ | ⟨B, rows, rfl, hB, -⟩
  · cases hA
  · cases hA; exact lt_of_get hB
theorem plainL_bits' {s : List Int} (h : Bits s) : Bits (plainL s) := plainL_bits h
def ScI (g : AHeap) (q : Option Addr) (n c : Nat) (sL : Value) (zs : List Int) (m : Nat) (ρ : Env) (h : AHeap) : Prop := ∃ (i : Nat) (sl : Value), i + 1 + m = (endsL zs).length ∧ get ρ 8 = some (.int .i64 ((i + 1 : Nat) : Int)) ∧ get ρ 0 = some (.slice q n c) ∧ get ρ 5 = some sL ∧ get ρ 6 = some sl ∧ get ρ 7 = some (.int .i64 ((jN zs i).1 : Nat)) ∧ LN h sl (jN zs i).2 ∧ Ext g h ∧ (∀ A, slB sl = some A → g.length ≤ A)
def ScE (g : AHeap) (q : Option Addr) (n c : Nat) (sL : Value) (zs : List Int) (ρ : Env) (h : AHeap) : Prop := ∃ sl : Value, get ρ 0 = some (.slice q n c) ∧ get ρ 5 = some sL ∧ get ρ 6 = some sl ∧ get ρ 7 = some (.int .i64 ((jf zs).1 : Nat)) ∧ LN h sl (jf zs).2 ∧ Ext g h ∧ (∀ A, slB sl = some A → g.length ≤ A)
set_option maxHeartbeats 4000000 in
set_option maxRecDepth 20000 in
theorem scan_ok {h : AHeap} {q : Option Addr} {n c : Nat} {zs : List Int} (hf : firstV 1 h n (.slice q n c) = some (bR zs)) (hn : n ≤ 100000) (hb : Bits zs) (hc : n ≤ c ∧ c < unk) (hsp : ∀ a, q = some a → a.spot = none) :
    Valid Tryd.prog 18 [.slice q n c] h fun r h' => ∃ sl, r = .tuple #[sl, .int .i64 ((scanE zs : Nat) : Int), .bool (scanH zs)] ∧ LN h' sl (scanO zs) ∧ Ext h h' := by
  classical
  refine v18 (by simp) ?_
  have hzl := firstV_len hf
  rw [bR_len, Nat.mul_one] at hzl
  have hlen := endsL_le zs
  have hLn : (endsL zs).length ≤ n := by have := endsL_len zs; omega
  simp only [X18, sx, x_box, x_alloc, x_bslice, x_slice, x_append, x_appz, x_b2s, x_s2b, x_mark, xop, ev, evs, evParts, fillL, cellsL, Ai.get, Ai.put, stab, isNil?, if_false, if_true, addr?, int?, str?, agg?, bool?, shiftA, FnPost, xresL, xres1, tup, argEnv, ptr, Nat.reduceEqDiff, reduceIte, beq_self_eq_true, ne_eq, Nat.reduceAdd, Nat.reduceMul, Nat.reduceSub, abin_shl, abin_shr, load1V, loadV, storeV, cellsAt, getN, setN, allocV, lenL, lenS, bnd, oneC, Value.oneCell', Nat.reduceLeDiff, Nat.reduceLT, exists_eq_left', forall_const, reduceCtorEq, app_new, app_new0, List.append_assoc, Int.reduceToNat, Int.reduceLT, Int.reduceLE, Int.reduceEq, Int.reduceNe, Int.reduceBEq, IntKind.bits, bne_self_eq_false, Int.reducePow]
  refine xcall (ends_ok hf (by omega)) (by rfl) (by rfl) (by rfl) (by rfl) ?_
  rintro r g0 ⟨R, E0, -⟩
  by_cases h0 : endsL zs = []
  · have e1 : (endsL zs).getLast? = none := by rw [h0]; rfl
    have : scanE zs = 0 ∧ scanH zs = true ∧ scanO zs = [] := by
      unfold scanE scanH scanO; rw [e1]; exact ⟨rfl, rfl, rfl⟩
    obtain ⟨s1, s2, s3⟩ := this
    obtain ⟨qr, cr, rfl⟩ := R.shp
    have hz0 : (((endsL zs).length : Nat) : Int) = 0 := by rw [h0]; rfl
    simp only [sx, x_box, x_alloc, x_bslice, x_slice, x_append, x_appz, x_b2s, x_s2b, x_mark, xop, ev, evs, evParts, fillL, cellsL, Ai.get, Ai.put, stab, isNil?, if_false, if_true, addr?, int?, str?, agg?, bool?, shiftA, FnPost, xresL, xres1, tup, argEnv, ptr, Nat.reduceEqDiff, reduceIte, beq_self_eq_true, ne_eq, Nat.reduceAdd, Nat.reduceMul, Nat.reduceSub, abin_shl, abin_shr, load1V, loadV, storeV, cellsAt, getN, setN, allocV, lenL, lenS, bnd, oneC, Value.oneCell', Nat.reduceLeDiff, Nat.reduceLT, exists_eq_left', forall_const, reduceCtorEq, app_new, app_new0, List.append_assoc, Int.reduceToNat, Int.reduceLT, Int.reduceLE, Int.reduceEq, Int.reduceNe, Int.reduceBEq, IntKind.bits, bne_self_eq_false, Int.reducePow, hz0]
    exact ⟨_, by rw [s1, s2]; rfl, .inl ⟨rfl, s3⟩, E0⟩
  obtain ⟨L1, hL1⟩ : ∃ k, (endsL zs).length = k + 1 := ⟨(endsL zs).length - 1, by
    have : (endsL zs).length ≠ 0 := fun h => h0 (List.eq_nil_of_length_eq_zero h)
    omega⟩
  obtain ⟨aL, oL, rfl, l1, l2, l3⟩ := R.elem h0
  have hne : ¬ (((endsL zs).length : Nat) : Int) = 0 := by omega
  simp only [sx, x_box, x_alloc, x_bslice, x_slice, x_append, x_appz, x_b2s, x_s2b, x_mark, xop, ev, evs, evParts, fillL, cellsL, Ai.get, Ai.put, stab, isNil?, if_false, if_true, addr?, int?, str?, agg?, bool?, shiftA, FnPost, xresL, xres1, tup, argEnv, ptr, Nat.reduceEqDiff, reduceIte, beq_self_eq_true, ne_eq, Nat.reduceAdd, Nat.reduceMul, Nat.reduceSub, abin_shl, abin_shr, load1V, loadV, storeV, cellsAt, getN, setN, allocV, lenL, lenS, bnd, oneC, Value.oneCell', Nat.reduceLeDiff, Nat.reduceLT, exists_eq_left', forall_const, reduceCtorEq, app_new, app_new0, List.append_assoc, Int.reduceToNat, Int.reduceLT, Int.reduceLE, Int.reduceEq, Int.reduceNe, Int.reduceBEq, IntKind.bits, bne_self_eq_false, Int.reducePow, hne]
  refine xloop_cut (ScE g0 q n c (.slice (some aL) (endsL zs).length (unk + 1)) zs) ?_ ?_
  · refine xcode_loop (ScI g0 q n c (.slice (some aL) (endsL zs).length (unk + 1)) zs) L1 ⟨0, .slice none 0 0, by omega, rfl, rfl, rfl, rfl, by rw [jN_zero]; rfl, .inl ⟨rfl, by rw [jN_zero]⟩, Ext.refl _, fun A hA => by cases hA⟩ ?_
    rintro m ρ g ⟨i, sl, him, r8, r0, r5, r6, r7, L, E, hgl⟩
    by_cases hi : i + 1 < (endsL zs).length
    · have hi' : ((i + 1 : Nat) : Int) < (((endsL zs).length : Nat) : Int) := by omega
      have hi0 : (0 : Int) ≤ ((i + 1 : Nat) : Int) := by omega
      have wi : IntKind.i64.wrap (((i + 1 : Nat) : Int) + 1) = ((i + 1 + 1 : Nat) : Int) := by rw [i64_wrap] <;> omega
      have wm : IntKind.i64.wrap (((i + 1 : Nat) : Int) - 1) = ((i : Nat) : Int) := by rw [i64_wrap] <;> omega
      have hi2 : (0 : Int) ≤ ((i : Nat) : Int) := by omega
      have hi3 : ((i : Nat) : Int) < (((endsL zs).length : Nat) : Int) := by omega
      have l2g := E.get l2
      have c1 := l3 i (by omega)
      have c2 := l3 (i + 1) (by omega)
      have hinc := endsL_inc zs i hi
      have hu2 := getD_le hlen (i + 1)
      have hj := jN_succ hi
      have hpd : partAt zs i = (zs.drop ((endsL zs).getD i 0)).take ((endsL zs).getD (i + 1) 0 - (endsL zs).getD i 0) := rfl
      obtain ⟨j1, j2⟩ := jN_le zs i
      generalize (endsL zs).getD i 0 = x at *
      generalize (endsL zs).getD (i + 1) 0 = y at *
      have hfg := (E0.trans E).first hf
      simp only [sx, x_box, x_alloc, x_bslice, x_append, x_appz, x_b2s, x_s2b, x_mark, xop, ev, evs, evParts, fillL, cellsL, Ai.get, Ai.put, stab, isNil?, if_false, if_true, addr?, int?, str?, agg?, bool?, shiftA, FnPost, xresL, xres1, tup, argEnv, ptr, Nat.reduceEqDiff, reduceIte, beq_self_eq_true, ne_eq, Nat.reduceAdd, Nat.reduceMul, Nat.reduceSub, abin_shl, abin_shr, load1V, loadV, storeV, cellsAt, getN, setN, allocV, lenL, lenS, bnd, oneC, Value.oneCell', Nat.reduceLeDiff, Nat.reduceLT, exists_eq_left', forall_const, reduceCtorEq, app_new, app_new0, List.append_assoc, Int.reduceToNat, Int.reduceLT, Int.reduceLE, Int.reduceEq, Int.reduceNe, Int.reduceBEq, IntKind.bits, bne_self_eq_false, Int.reducePow, r8, r0, r5, r6, r7, hi', hi0, hi2, hi3, wm, l1, l2g, c1, c2, Nat.mul_one]
      refine slc_run (lo := some (.t 28)) (hi := some (.t 32)) (mx := none) (n := n) (c := c) (l := x) (u := y) (m := c) rfl hc.2 rfl (bnd_some rfl (by omega)) (bnd_some rfl (by omega)) (by simp) (by omega) (by omega) (by omega) hfg hsp fun q1 hf1 hq1 => ?_
      have hf1' : firstV 1 g (y - x) (.slice q1 (y - x) (c - x)) = some (bR (partAt zs i)) := by rw [hf1, hpd]; simp [bR, List.map_drop, List.map_take]
      have hpl : (partAt zs i).length = y - x := by have := firstV_len hf1'; rw [bR_len, Nat.mul_one] at this; exact this
      have hpb : Bits (partAt zs i) := fun z hz => hb z (List.mem_of_mem_drop (List.mem_of_mem_take (by rw [hpd] at hz; exact hz)))
      clear hpd
      generalize partAt zs i = p at *
      have hpp := plainL_len p.dropLast
      rw [List.length_dropLast, hpl] at hpp
      have ws : IntKind.i64.wrap (((y - x : Nat) : Int) - 1) = ((y - x - 1 : Nat) : Int) := by rw [i64_wrap] <;> omega
      simp only [sx, x_box, x_alloc, x_bslice, x_append, x_appz, x_b2s, x_s2b, x_mark, xop, ev, evs, evParts, fillL, cellsL, Ai.get, Ai.put, stab, isNil?, if_false, if_true, addr?, int?, str?, agg?, bool?, shiftA, FnPost, xresL, xres1, tup, argEnv, ptr, Nat.reduceEqDiff, reduceIte, beq_self_eq_true, ne_eq, Nat.reduceAdd, Nat.reduceMul, Nat.reduceSub, abin_shl, abin_shr, load1V, loadV, storeV, cellsAt, getN, setN, allocV, lenL, lenS, bnd, oneC, Value.oneCell', Nat.reduceLeDiff, Nat.reduceLT, exists_eq_left', forall_const, reduceCtorEq, app_new, app_new0, List.append_assoc, Int.reduceToNat, Int.reduceLT, Int.reduceLE, Int.reduceEq, Int.reduceNe, Int.reduceBEq, IntKind.bits, bne_self_eq_false, Int.reducePow, r8, r0, r5, r6, r7, ws]
      refine slc_run (lo := none) (hi := some (.t 37)) (mx := none) (n := y - x) (c := c - x) (l := 0) (u := y - x - 1) (m := c - x) rfl (by omega) rfl (bnd_some rfl (by omega)) rfl (by simp) (by omega) (by omega) (by omega) hf1' (fun a ha => (hq1 a ha).1) fun q2 hf2 hq2 => ?_
      rw [Nat.sub_zero, Nat.sub_zero] at *
      have hf2' : firstV 1 g (y - x - 1) (.slice q2 (y - x - 1) (c - x)) = some (bR p.dropLast) := by
        rw [hf2, List.drop_zero, List.dropLast_eq_take, hpl]; simp [bR, List.map_take]
      have hdb : Bits p.dropLast := fun z hz => hpb z ((List.dropLast_sublist p).subset hz)
      simp only [sx, x_box, x_alloc, x_bslice, x_slice, x_append, x_appz, x_b2s, x_s2b, x_mark, xop, ev, evs, evParts, fillL, cellsL, Ai.get, Ai.put, stab, isNil?, if_false, if_true, addr?, int?, str?, agg?, bool?, shiftA, FnPost, xresL, xres1, tup, argEnv, ptr, Nat.reduceEqDiff, reduceIte, beq_self_eq_true, ne_eq, Nat.reduceAdd, Nat.reduceMul, Nat.reduceSub, abin_shl, abin_shr, load1V, loadV, storeV, cellsAt, getN, setN, allocV, lenL, lenS, bnd, oneC, Value.oneCell', Nat.reduceLeDiff, Nat.reduceLT, exists_eq_left', forall_const, reduceCtorEq, app_new, app_new0, List.append_assoc, Int.reduceToNat, Int.reduceLT, Int.reduceLE, Int.reduceEq, Int.reduceNe, Int.reduceBEq, IntKind.bits, bne_self_eq_false, Int.reducePow, r8, r0, r5, r6, r7]
      refine xcall (plain_ok hf2' (by omega) hdb) (by rfl) (by rfl) (by rfl) (by rfl) ?_
      rintro r g2 ⟨R2, E2, hgl2⟩
      have hju : jud (jN zs i) p = if Ab p then ((jN zs i).1 + 1, (jN zs i).2) else if (plainL p.dropLast).length ≤ 7 then jN zs i else if ((plainL p.dropLast).length - 7) % 8 ≠ 0 ∨ (plainL p.dropLast).length - 7 < 40 ∨ 2240 < (plainL p.dropLast).length - 7 then ((jN zs i).1 + 1, (jN zs i).2) else ((jN zs i).1, (jN zs i).2 ++ [octs ((plainL p.dropLast).take ((plainL p.dropLast).length - 7))]) := rfl
      have hplb := plainL_bits hdb
      generalize plainL p.dropLast = w at *
      have hmx : (if IntKind.i64.wrap (((w.length : Nat) : Int) - 7) > 0 then IntKind.i64.wrap (((w.length : Nat) : Int) - 7) else 0) = ((w.length - 7 : Nat) : Int) := by
        rw [i64_wrap (by omega) (by omega)]; split <;> omega
      obtain ⟨qw, cw, rfl, -⟩ := R2.shp
      simp only [sx, x_box, x_alloc, x_bslice, x_append, x_appz, x_b2s, x_s2b, x_mark, xop, ev, evs, evParts, fillL, cellsL, Ai.get, Ai.put, stab, isNil?, if_false, if_true, addr?, int?, str?, agg?, bool?, shiftA, FnPost, xresL, xres1, tup, argEnv, ptr, Nat.reduceEqDiff, reduceIte, beq_self_eq_true, ne_eq, Nat.reduceAdd, Nat.reduceMul, Nat.reduceSub, abin_shl, abin_shr, load1V, loadV, storeV, cellsAt, getN, setN, allocV, lenL, lenS, bnd, oneC, Value.oneCell', Nat.reduceLeDiff, Nat.reduceLT, exists_eq_left', forall_const, reduceCtorEq, app_new, app_new0, List.append_assoc, Int.reduceToNat, Int.reduceLT, Int.reduceLE, Int.reduceEq, Int.reduceNe, Int.reduceBEq, IntKind.bits, bne_self_eq_false, Int.reducePow, r8, r0, r5, r6, r7, List.foldlM_cons, List.foldlM_nil, int?, if_true, hmx]
      refine cut_run (u := w.length - 7) rfl R2 rfl (by omega) fun q3 c3 hf3 hc3 hq3 => ?_
      simp only [sx, x_box, x_alloc, x_bslice, x_slice, x_append, x_appz, x_b2s, x_s2b, x_mark, xop, ev, evs, evParts, fillL, cellsL, Ai.get, Ai.put, stab, isNil?, if_false, if_true, addr?, int?, str?, agg?, bool?, shiftA, FnPost, xresL, xres1, tup, argEnv, ptr, Nat.reduceEqDiff, reduceIte, beq_self_eq_true, ne_eq, Nat.reduceAdd, Nat.reduceMul, Nat.reduceSub, abin_shl, abin_shr, load1V, loadV, storeV, cellsAt, getN, setN, allocV, lenL, lenS, bnd, oneC, Value.oneCell', Nat.reduceLeDiff, Nat.reduceLT, exists_eq_left', forall_const, reduceCtorEq, app_new, app_new0, List.append_assoc, Int.reduceToNat, Int.reduceLT, Int.reduceLE, Int.reduceEq, Int.reduceNe, Int.reduceBEq, IntKind.bits, bne_self_eq_false, Int.reducePow, r8, r0, r5, r6, r7]
      refine xcall (aborted_ok (E2.first hf1') (by omega)) (by rfl) (by rfl) (by rfl) (by rfl) ?_
      rintro r g3 ⟨rfl, e0⟩
      subst e0
      have L2 := L.ext E2
      have E02 := E.trans E2
      have wi7 : IntKind.i64.wrap (((jN zs i).1 : Int) + 1) = (((jN zs i).1 + 1 : Nat) : Int) := by rw [i64_wrap] <;> omega
      by_cases hA : Ab p
      · rw [if_pos hA] at hju
        rw [hju] at hj
        have hA' : decide (Ab p) = true := decide_eq_true hA
        rw [hA']
        simp only [sx, x_box, x_alloc, x_bslice, x_slice, x_append, x_appz, x_b2s, x_s2b, x_mark, xop, ev, evs, evParts, fillL, cellsL, Ai.get, Ai.put, stab, isNil?, if_false, if_true, addr?, int?, str?, agg?, bool?, shiftA, FnPost, xresL, xres1, tup, argEnv, ptr, Nat.reduceEqDiff, reduceIte, beq_self_eq_true, ne_eq, Nat.reduceAdd, Nat.reduceMul, Nat.reduceSub, abin_shl, abin_shr, load1V, loadV, storeV, cellsAt, getN, setN, allocV, lenL, lenS, bnd, oneC, Value.oneCell', Nat.reduceLeDiff, Nat.reduceLT, exists_eq_left', forall_const, reduceCtorEq, app_new, app_new0, List.append_assoc, Int.reduceToNat, Int.reduceLT, Int.reduceLE, Int.reduceEq, Int.reduceNe, Int.reduceBEq, IntKind.bits, bne_self_eq_false, Int.reducePow, r8, r0, r5, r6, r7, wi7, wi]
        exact ⟨m - 1, by omega, i + 1, sl, by omega, rfl, r0, r5, r6, (by rw [hj]; first | exact r7 | rfl), by rw [hj]; exact L2, E02, hgl⟩
      rw [if_neg hA] at hju
      have hA' : decide (Ab p) = false := decide_eq_false hA
      rw [hA']
      by_cases h7 : w.length ≤ 7
      · rw [if_pos h7] at hju
        rw [hju] at hj
        have h70 : ((w.length - 7 : Nat) : Int) = 0 := by omega
        simp only [sx, x_box, x_alloc, x_bslice, x_slice, x_append, x_appz, x_b2s, x_s2b, x_mark, xop, ev, evs, evParts, fillL, cellsL, Ai.get, Ai.put, stab, isNil?, if_false, if_true, addr?, int?, str?, agg?, bool?, shiftA, FnPost, xresL, xres1, tup, argEnv, ptr, Nat.reduceEqDiff, reduceIte, beq_self_eq_true, ne_eq, Nat.reduceAdd, Nat.reduceMul, Nat.reduceSub, abin_shl, abin_shr, load1V, loadV, storeV, cellsAt, getN, setN, allocV, lenL, lenS, bnd, oneC, Value.oneCell', Nat.reduceLeDiff, Nat.reduceLT, exists_eq_left', forall_const, reduceCtorEq, app_new, app_new0, List.append_assoc, Int.reduceToNat, Int.reduceLT, Int.reduceLE, Int.reduceEq, Int.reduceNe, Int.reduceBEq, IntKind.bits, bne_self_eq_false, Int.reducePow, r8, r0, r5, r6, r7, wi, h70]
        exact ⟨m - 1, by omega, i + 1, sl, by omega, rfl, r0, r5, r6, (by rw [hj]; first | exact r7 | rfl), by rw [hj]; exact L2, E02, hgl⟩
      rw [if_neg h7] at hju
      have h70 : ¬ ((w.length - 7 : Nat) : Int) = 0 := by omega
      have hrem : ((w.length - 7 : Nat) : Int).tmod 8 = (((w.length - 7) % 8 : Nat) : Int) := by rw [Int.tmod_eq_emod_of_nonneg (by omega)]; omega
      have h8 : ¬ (8 : Int) = 0 := by decide
      by_cases hbd : (w.length - 7) % 8 ≠ 0 ∨ w.length - 7 < 40 ∨ 2240 < w.length - 7
      · rw [if_pos hbd] at hju
        rw [hju] at hj
        by_cases b1 : (((w.length - 7) % 8 : Nat) : Int) = 0
        · by_cases b2 : ((w.length - 7 : Nat) : Int) < 40
          · simp only [sx, x_box, x_alloc, x_bslice, x_slice, x_append, x_appz, x_b2s, x_s2b, x_mark, xop, ev, evs, evParts, fillL, cellsL, Ai.get, Ai.put, stab, isNil?, if_false, if_true, addr?, int?, str?, agg?, bool?, shiftA, FnPost, xresL, xres1, tup, argEnv, ptr, Nat.reduceEqDiff, reduceIte, beq_self_eq_true, ne_eq, Nat.reduceAdd, Nat.reduceMul, Nat.reduceSub, abin_shl, abin_shr, load1V, loadV, storeV, cellsAt, getN, setN, allocV, lenL, lenS, bnd, oneC, Value.oneCell', Nat.reduceLeDiff, Nat.reduceLT, exists_eq_left', forall_const, reduceCtorEq, app_new, app_new0, List.append_assoc, Int.reduceToNat, Int.reduceLT, Int.reduceLE, Int.reduceEq, Int.reduceNe, Int.reduceBEq, IntKind.bits, bne_self_eq_false, Int.reducePow, r8, r0, r5, r6, r7, wi, wi7, h70, hrem, h8, b1, b2]
            exact ⟨m - 1, by omega, i + 1, sl, by omega, rfl, r0, r5, r6, (by rw [hj]; first | exact r7 | rfl), by rw [hj]; exact L2, E02, hgl⟩
          · have b3 : (2240 : Int) < ((w.length - 7 : Nat) : Int) := by omega
            simp only [sx, x_box, x_alloc, x_bslice, x_slice, x_append, x_appz, x_b2s, x_s2b, x_mark, xop, ev, evs, evParts, fillL, cellsL, Ai.get, Ai.put, stab, isNil?, if_false, if_true, addr?, int?, str?, agg?, bool?, shiftA, FnPost, xresL, xres1, tup, argEnv, ptr, Nat.reduceEqDiff, reduceIte, beq_self_eq_true, ne_eq, Nat.reduceAdd, Nat.reduceMul, Nat.reduceSub, abin_shl, abin_shr, load1V, loadV, storeV, cellsAt, getN, setN, allocV, lenL, lenS, bnd, oneC, Value.oneCell', Nat.reduceLeDiff, Nat.reduceLT, exists_eq_left', forall_const, reduceCtorEq, app_new, app_new0, List.append_assoc, Int.reduceToNat, Int.reduceLT, Int.reduceLE, Int.reduceEq, Int.reduceNe, Int.reduceBEq, IntKind.bits, bne_self_eq_false, Int.reducePow, r8, r0, r5, r6, r7, wi, wi7, h70, hrem, h8, b1, b2, b3]
            exact ⟨m - 1, by omega, i + 1, sl, by omega, rfl, r0, r5, r6, (by rw [hj]; first | exact r7 | rfl), by rw [hj]; exact L2, E02, hgl⟩
        · simp only [sx, x_box, x_alloc, x_bslice, x_slice, x_append, x_appz, x_b2s, x_s2b, x_mark, xop, ev, evs, evParts, fillL, cellsL, Ai.get, Ai.put, stab, isNil?, if_false, if_true, addr?, int?, str?, agg?, bool?, shiftA, FnPost, xresL, xres1, tup, argEnv, ptr, Nat.reduceEqDiff, reduceIte, beq_self_eq_true, ne_eq, Nat.reduceAdd, Nat.reduceMul, Nat.reduceSub, abin_shl, abin_shr, load1V, loadV, storeV, cellsAt, getN, setN, allocV, lenL, lenS, bnd, oneC, Value.oneCell', Nat.reduceLeDiff, Nat.reduceLT, exists_eq_left', forall_const, reduceCtorEq, app_new, app_new0, List.append_assoc, Int.reduceToNat, Int.reduceLT, Int.reduceLE, Int.reduceEq, Int.reduceNe, Int.reduceBEq, IntKind.bits, bne_self_eq_false, Int.reducePow, r8, r0, r5, r6, r7, wi, wi7, h70, hrem, h8, b1]
          exact ⟨m - 1, by omega, i + 1, sl, by omega, rfl, r0, r5, r6, (by rw [hj]; first | exact r7 | rfl), by rw [hj]; exact L2, E02, hgl⟩
      · rw [if_neg hbd] at hju
        rw [hju] at hj
        have b1 : (((w.length - 7) % 8 : Nat) : Int) = 0 := by omega
        have b2 : ¬ ((w.length - 7 : Nat) : Int) < 40 := by omega
        have b3 : ¬ (2240 : Int) < ((w.length - 7 : Nat) : Int) := by omega
        simp only [sx, x_box, x_alloc, x_bslice, x_slice, x_append, x_appz, x_b2s, x_s2b, x_mark, xop, ev, evs, evParts, fillL, cellsL, Ai.get, Ai.put, stab, isNil?, if_false, if_true, addr?, int?, str?, agg?, bool?, shiftA, FnPost, xresL, xres1, tup, argEnv, ptr, Nat.reduceEqDiff, reduceIte, beq_self_eq_true, ne_eq, Nat.reduceAdd, Nat.reduceMul, Nat.reduceSub, abin_shl, abin_shr, load1V, loadV, storeV, cellsAt, getN, setN, allocV, lenL, lenS, bnd, oneC, Value.oneCell', Nat.reduceLeDiff, Nat.reduceLT, exists_eq_left', forall_const, reduceCtorEq, app_new, app_new0, List.append_assoc, Int.reduceToNat, Int.reduceLT, Int.reduceLE, Int.reduceEq, Int.reduceNe, Int.reduceBEq, IntKind.bits, bne_self_eq_false, Int.reducePow, r8, r0, r5, r6, r7, wi, wi7, h70, hrem, h8, b1, b2, b3]
        refine xcall (roct_ok hf3 (by omega) (fun z hz => hplb z (List.mem_of_mem_take hz)) hc3 hq3) (by rfl) (by rfl) (by rfl) (by rfl) ?_
        rintro r g4 ⟨R4, E4, hgl4⟩
        have hol : (octs (w.take (w.length - 7))).length = (w.length - 7) / 8 := by rw [octs_len, List.length_take]; congr 1; omega
        generalize octs (w.take (w.length - 7)) = z at *
        rcases R4 with ⟨-, rfl⟩ | ⟨X, rfl, hX⟩
        · simp at hol; omega
        have hXs : slB sl ≠ some X := fun e => by
          have := L2.lt e
          have := hgl4 X rfl
          omega
        have L4 := L2.ext E4
        have E04 := E02.trans E4
        simp only [sx, x_box, x_alloc, x_bslice, x_slice, x_appz, x_b2s, x_s2b, x_mark, xop, ev, evs, evParts, fillL, cellsL, Ai.get, Ai.put, stab, isNil?, if_false, if_true, addr?, int?, str?, agg?, bool?, shiftA, FnPost, xresL, xres1, tup, argEnv, ptr, Nat.reduceEqDiff, reduceIte, beq_self_eq_true, ne_eq, Nat.reduceAdd, Nat.reduceMul, Nat.reduceSub, abin_shl, abin_shr, load1V, loadV, storeV, cellsAt, getN, setN, allocV, lenL, lenS, bnd, oneC, Value.oneCell', Nat.reduceLeDiff, Nat.reduceLT, exists_eq_left', forall_const, reduceCtorEq, app_new, app_new0, List.append_assoc, Int.reduceToNat, Int.reduceLT, Int.reduceLE, Int.reduceEq, Int.reduceNe, Int.reduceBEq, IntKind.bits, bne_self_eq_false, Int.reducePow, r8, r0, r5, r6, r7]
        refine LN.push (z := z) L4 E04 hgl hX hXs rfl rfl (by omega) fun sl5 g5 L5 E5 hgl5 => ?_
        simp only [sx, x_box, x_alloc, x_bslice, x_slice, x_append, x_appz, x_b2s, x_s2b, x_mark, xop, ev, evs, evParts, fillL, cellsL, Ai.get, Ai.put, stab, isNil?, if_false, if_true, addr?, int?, str?, agg?, bool?, shiftA, FnPost, xresL, xres1, tup, argEnv, ptr, Nat.reduceEqDiff, reduceIte, beq_self_eq_true, ne_eq, Nat.reduceAdd, Nat.reduceMul, Nat.reduceSub, abin_shl, abin_shr, load1V, loadV, storeV, cellsAt, getN, setN, allocV, lenL, lenS, bnd, oneC, Value.oneCell', Nat.reduceLeDiff, Nat.reduceLT, exists_eq_left', forall_const, reduceCtorEq, app_new, app_new0, List.append_assoc, Int.reduceToNat, Int.reduceLT, Int.reduceLE, Int.reduceEq, Int.reduceNe, Int.reduceBEq, IntKind.bits, bne_self_eq_false, Int.reducePow, r8, r0, r5, r6, r7, wi]
        exact ⟨m - 1, by omega, i + 1, sl5, by omega, rfl, r0, r5, rfl, by rw [hj]; exact r7, by rw [hj]; exact L5, E5, hgl5⟩
    · have hi' : ¬ ((i + 1 : Nat) : Int) < (((endsL zs).length : Nat) : Int) := by omega
      have hall := jN_all (s := zs) (k := i) (by omega)
      simp only [sx, x_box, x_alloc, x_bslice, x_slice, x_append, x_appz, x_b2s, x_s2b, x_mark, xop, ev, evs, evParts, fillL, cellsL, Ai.get, Ai.put, stab, isNil?, if_false, if_true, addr?, int?, str?, agg?, bool?, shiftA, FnPost, xresL, xres1, tup, argEnv, ptr, Nat.reduceEqDiff, reduceIte, beq_self_eq_true, ne_eq, Nat.reduceAdd, Nat.reduceMul, Nat.reduceSub, abin_shl, abin_shr, load1V, loadV, storeV, cellsAt, getN, setN, allocV, lenL, lenS, bnd, oneC, Value.oneCell', Nat.reduceLeDiff, Nat.reduceLT, exists_eq_left', forall_const, reduceCtorEq, app_new, app_new0, List.append_assoc, Int.reduceToNat, Int.reduceLT, Int.reduceLE, Int.reduceEq, Int.reduceNe, Int.reduceBEq, IntKind.bits, bne_self_eq_false, Int.reducePow, r8, r5, hi']
      exact ⟨sl, r0, r5, r6, by rw [← hall]; exact r7, by rw [← hall]; exact L, E, hgl⟩
  · rintro ρ g ⟨sl, r0, r5, r6, r7, L, E, hgl⟩
    have hlast : (endsL zs).getLast? = some ((endsL zs).getD L1 0) := by
      rw [List.getLast?_eq_getElem?, hL1, List.getD_eq_getElem?_getD, Nat.add_sub_cancel, List.getElem?_eq_getElem (by omega)]; rfl
    have c1 := l3 L1 (by omega)
    have hu2 := getD_le hlen L1
    have l2g := E.get l2
    have hj1 : (jf zs).1 ≤ n := by rw [← jN_all (s := zs) (k := L1) (by omega)]; have := (jN_le zs L1).1; omega
    have s1 : scanE zs = (jf zs).1 + if Ab (zs.drop ((endsL zs).getD L1 0)) then 1 else 0 := by unfold scanE; rw [hlast]
    have s2 : scanH zs = decide (Ab (zs.drop ((endsL zs).getD L1 0))) := by unfold scanH; rw [hlast]
    have s3 : scanO zs = (jf zs).2 := by unfold scanO; rw [hlast]
    rw [s1, s2, s3]
    have wm : IntKind.i64.wrap ((((endsL zs).length : Nat) : Int) - 1) = ((L1 : Nat) : Int) := by rw [i64_wrap] <;> omega
    have hi2 : (0 : Int) ≤ ((L1 : Nat) : Int) := by omega
    have hi3 : ((L1 : Nat) : Int) < (((endsL zs).length : Nat) : Int) := by omega
    have hfg := (E0.trans E).first hf
    generalize (endsL zs).getD L1 0 = x at *
    simp only [sx, x_box, x_alloc, x_bslice, x_append, x_appz, x_b2s, x_s2b, x_mark, xop, ev, evs, evParts, fillL, cellsL, Ai.get, Ai.put, stab, isNil?, if_false, if_true, addr?, int?, str?, agg?, bool?, shiftA, FnPost, xresL, xres1, tup, argEnv, ptr, Nat.reduceEqDiff, reduceIte, beq_self_eq_true, ne_eq, Nat.reduceAdd, Nat.reduceMul, Nat.reduceSub, abin_shl, abin_shr, load1V, loadV, storeV, cellsAt, getN, setN, allocV, lenL, lenS, bnd, oneC, Value.oneCell', Nat.reduceLeDiff, Nat.reduceLT, exists_eq_left', forall_const, reduceCtorEq, app_new, app_new0, List.append_assoc, Int.reduceToNat, Int.reduceLT, Int.reduceLE, Int.reduceEq, Int.reduceNe, Int.reduceBEq, IntKind.bits, bne_self_eq_false, Int.reducePow, r0, r5, r6, r7, hi2, hi3, wm, l1, l2g, c1, Nat.mul_one]
    refine slc_run (lo := some (.t 83)) (hi := none) (mx := none) (n := n) (c := c) (l := x) (u := n) (m := c) rfl hc.2 rfl rfl (bnd_some rfl (by omega)) (by simp) (by omega) (by omega) (by omega) hfg hsp fun q1 hf1 hq1 => ?_
    have hf1' : firstV 1 g (n - x) (.slice q1 (n - x) (c - x)) = some (bR (zs.drop x)) := by rw [hf1, List.take_of_length_le (by rw [List.length_drop, bR_len]; omega)]; simp [bR, List.map_drop]
    simp only [sx, x_box, x_alloc, x_bslice, x_slice, x_append, x_appz, x_b2s, x_s2b, x_mark, xop, ev, evs, evParts, fillL, cellsL, Ai.get, Ai.put, stab, isNil?, if_false, if_true, addr?, int?, str?, agg?, bool?, shiftA, FnPost, xresL, xres1, tup, argEnv, ptr, Nat.reduceEqDiff, reduceIte, beq_self_eq_true, ne_eq, Nat.reduceAdd, Nat.reduceMul, Nat.reduceSub, abin_shl, abin_shr, load1V, loadV, storeV, cellsAt, getN, setN, allocV, lenL, lenS, bnd, oneC, Value.oneCell', Nat.reduceLeDiff, Nat.reduceLT, exists_eq_left', forall_const, reduceCtorEq, app_new, app_new0, List.append_assoc, Int.reduceToNat, Int.reduceLT, Int.reduceLE, Int.reduceEq, Int.reduceNe, Int.reduceBEq, IntKind.bits, bne_self_eq_false, Int.reducePow, r0, r5, r6, r7]
    refine xcall (aborted_ok hf1' (by omega)) (by rfl) (by rfl) (by rfl) (by rfl) ?_
    rintro r g3 ⟨rfl, e0⟩
    subst e0
    have wi7 : IntKind.i64.wrap (((jf zs).1 : Int) + 1) = (((jf zs).1 + 1 : Nat) : Int) := by rw [i64_wrap] <;> omega
    by_cases hA : Ab (zs.drop x)
    · rw [if_pos hA, decide_eq_true hA]
      simp only [sx, x_box, x_alloc, x_bslice, x_slice, x_append, x_appz, x_b2s, x_s2b, x_mark, xop, ev, evs, evParts, fillL, cellsL, Ai.get, Ai.put, stab, isNil?, if_false, if_true, addr?, int?, str?, agg?, bool?, shiftA, FnPost, xresL, xres1, tup, argEnv, ptr, Nat.reduceEqDiff, reduceIte, beq_self_eq_true, ne_eq, Nat.reduceAdd, Nat.reduceMul, Nat.reduceSub, abin_shl, abin_shr, load1V, loadV, storeV, cellsAt, getN, setN, allocV, lenL, lenS, bnd, oneC, Value.oneCell', Nat.reduceLeDiff, Nat.reduceLT, exists_eq_left', forall_const, reduceCtorEq, app_new, app_new0, List.append_assoc, Int.reduceToNat, Int.reduceLT, Int.reduceLE, Int.reduceEq, Int.reduceNe, Int.reduceBEq, IntKind.bits, bne_self_eq_false, Int.reducePow, r0, r5, r6, r7, wi7]
      exact ⟨_, rfl, L, E0.trans E⟩
    · rw [if_neg hA, decide_eq_false hA]
      simp only [sx, x_box, x_alloc, x_bslice, x_slice, x_append, x_appz, x_b2s, x_s2b, x_mark, xop, ev, evs, evParts, fillL, cellsL, Ai.get, Ai.put, stab, isNil?, if_false, if_true, addr?, int?, str?, agg?, bool?, shiftA, FnPost, xresL, xres1, tup, argEnv, ptr, Nat.reduceEqDiff, reduceIte, beq_self_eq_true, ne_eq, Nat.reduceAdd, Nat.reduceMul, Nat.reduceSub, abin_shl, abin_shr, load1V, loadV, storeV, cellsAt, getN, setN, allocV, lenL, lenS, bnd, oneC, Value.oneCell', Nat.reduceLeDiff, Nat.reduceLT, exists_eq_left', forall_const, reduceCtorEq, app_new, app_new0, List.append_assoc, Int.reduceToNat, Int.reduceLT, Int.reduceLE, Int.reduceEq, Int.reduceNe, Int.reduceBEq, IntKind.bits, bne_self_eq_false, Int.reducePow, r0, r5, r6, r7, wi7]
      exact ⟨_, rfl, L, E0.trans E⟩
end Go.Proofs.YtimfgagdfmmeeaaDoor
