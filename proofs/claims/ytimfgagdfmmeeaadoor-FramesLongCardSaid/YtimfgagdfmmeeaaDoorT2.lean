import Derived.Test.YtimfgagdfmmeeaaDoorT1
set_option linter.unusedVariables false
set_option linter.unusedSimpArgs false
namespace Go.Proofs.YtimfgagdfmmeeaaDoor
open Go Go.Ai Go.Proofs

/-- what a scanner answers to bits -/
def FedP (h : AHeap) (X : Nat) (s : Sc) (kv fv : Value) (zs : List Int) (r : Value) (h' : AHeap) : Prop :=
  ∃ q kv', r = .tuple #[.slice q (s.feed zs).fo.length (s.feed zs).fo.length, .int .i64 0] ∧ FsV h' q (s.feed zs).fo ∧ SAt h' X { s.feed zs with fo := [] } kv' (.slice none 0 0) ∧ Fr (ftS X kv fv) h h' ∧ (∀ Y, ftS X kv' (.slice none 0 0) Y → ftS X kv fv Y ∨ h.length ≤ Y) ∧ (∀ a, q = some a → (ftS X kv fv a.block ∨ h.length ≤ a.block) ∧ ¬ ftS X kv' (.slice none 0 0) a.block ∧ a.spot = none)
theorem fed_ok {h : AHeap} {X : Nat} {s : Sc} {kv fv : Value} {N : Nat} {q : Option Addr} {n c : Nat} {zs : List Int} (A : SAt h X s kv fv) (o : s.Ok N) (hN : N ≤ 800000000) (hf : firstV 1 h n (.slice q n c) = some (bR zs)) (hl : zs.length ≤ 1048576) (hb : Bits zs) (hd : ∀ a, q = some a → a.block < h.length ∧ ¬ ftS X kv fv a.block) :
    Valid Tryd.prog 20 [.pointer (some ⟨X, 0, none⟩), .slice q n c] h fun r h' => FedP h X s kv fv zs r h' := by
  have hzl := firstV_len hf
  rw [bR_len, Nat.mul_one] at hzl
  refine (feed_ok A o hN hf (by omega) (fun z hz => by rcases hb z hz with rfl | rfl <;> decide) hd).mono ?_
  rintro r h' (⟨hc, -⟩ | ⟨-, P⟩)
  · exact absurd (checkV_zero hl hb) hc
  · exact P
theorem ftS_nil {X : Nat} {Y : Nat} (h : ftS X (.slice none 0 0) (.slice none 0 0) Y) : Y = X := by
  rcases h with rfl | h | h
  · rfl
  · cases h
  · cases h
theorem kp_past {g h h' : AHeap} {S : Nat → Prop} (K : Kp g h) (F : Fr S h h') (hS : ∀ B, S B → g.length ≤ B) : Kp g h' :=
  ⟨Nat.le_trans K.1 F.1, fun B hB => (F.2 B (Nat.lt_of_lt_of_le hB K.1) fun h => by have := hS B h; omega).trans (K.2 B hB)⟩
theorem FsV.past {h h' : AHeap} {q : Option Addr} {ls : List (List Int)} {S : Nat → Prop} (l : FsV h q ls) (z : Frz h h') (F : Fr S h h') (hS : ∀ a, q = some a → a.block < h.length → ¬ S a.block) : FsV h' q ls := by
  by_cases h0 : ls = []
  · subst h0
    exact ⟨[], by cases q <;> simp [firstV], trivial⟩
  · obtain ⟨a, rfl, hl, -⟩ := l.len h0
    exact l.keep z fun b hb => by cases hb; exact F.2 _ hl (hS _ rfl hl)
def BkI (g : AHeap) (qb q : Option Addr) (nb cb n c : Nat) (s : ByteArray) (b zs : List Int) (m : Nat) (ρ : Env) (h : AHeap) : Prop := ∃ (i : Nat) (sl : Value), i + m = n ∧ get ρ 8 = some (.int .i64 (i : Nat)) ∧ get ρ 0 = some (.slice qb nb cb) ∧ get ρ 1 = some (.slice q n c) ∧ get ρ 2 = some (.string s) ∧ get ρ 7 = some sl ∧ LN h sl (lsB 56 b zs i) ∧ Ext g h ∧ (∀ A, slB sl = some A → g.length ≤ A)
def BkE (g : AHeap) (n : Nat) (s : ByteArray) (b zs : List Int) (ρ : Env) (h : AHeap) : Prop := ∃ sl : Value, get ρ 2 = some (.string s) ∧ get ρ 7 = some sl ∧ LN h sl (lsB 56 b zs n) ∧ Ext g h
set_option maxHeartbeats 8000000 in
set_option maxRecDepth 20000 in
theorem back_law {h : AHeap} {qb q : Option Addr} {nb cb n c : Nat} {b zs : List Int} {s : ByteArray} (hF : Fl h) (hfb : firstV 1 h nb (.slice qb nb cb) = some (bR b)) (hnb : nb ≤ 9223372036854775807) (hbb : ∀ z ∈ b, 0 ≤ z ∧ z ≤ 255) (hcb : nb ≤ cb ∧ cb ≤ 9223372036854775807) (hspb : ∀ a, qb = some a → a.spot = none)
    (hf : firstV 1 h n (.slice q n c) = some (bR zs)) (hn : n ≤ 9223372036854775807) (hz : ∀ z ∈ zs, 0 ≤ z ∧ z ≤ 255) :
    Valid Tryd.prog 5 [.slice qb nb cb, .slice q n c, .string s] h fun r h' => r = .bool true := by
  refine v5 (by simp) ?_
  have hzl := firstV_len hf
  rw [bR_len, Nat.mul_one] at hzl
  have hbl := firstV_len hfb
  rw [bR_len, Nat.mul_one] at hbl
  by_cases hbig : 5 < n
  · have hbig' : (5 : Int) < (n : Nat) := by omega
    simp only [X5, sx, x_box, x_alloc, x_bslice, x_slice, x_append, x_appz, x_b2s, x_s2b, x_mark, xop, ev, evs, evParts, fillL, cellsL, Ai.get, Ai.put, stab, isNil?, if_false, if_true, addr?, int?, str?, agg?, bool?, shiftA, FnPost, xresL, xres1, tup, argEnv, ptr, Nat.reduceEqDiff, reduceIte, beq_self_eq_true, ne_eq, Nat.reduceAdd, Nat.reduceMul, Nat.reduceSub, abin_shl, abin_shr, load1V, loadV, storeV, cellsAt, getN, setN, allocV, lenL, lenS, bnd, oneC, Value.oneCell', Nat.reduceLeDiff, Nat.reduceLT, exists_eq_left', forall_const, reduceCtorEq, app_new, app_new0, List.append_assoc, Int.reduceToNat, Int.reduceLT, Int.reduceLE, Int.reduceEq, Int.reduceNe, Int.reduceBEq, IntKind.bits, bne_self_eq_false, Int.reducePow, hbig']
    refine xcall (lives_ok hF) (by rfl) (by rfl) (by rfl) (by rfl) ?_
    rintro r h' ⟨rfl, -⟩
    simp only [sx, x_box, x_alloc, x_bslice, x_slice, x_append, x_appz, x_b2s, x_s2b, x_mark, xop, ev, evs, evParts, fillL, cellsL, Ai.get, Ai.put, stab, isNil?, if_false, if_true, addr?, int?, str?, agg?, bool?, shiftA, FnPost, xresL, xres1, tup, argEnv, ptr, Nat.reduceEqDiff, reduceIte, beq_self_eq_true, ne_eq, Nat.reduceAdd, Nat.reduceMul, Nat.reduceSub, abin_shl, abin_shr, load1V, loadV, storeV, cellsAt, getN, setN, allocV, lenL, lenS, bnd, oneC, Value.oneCell', Nat.reduceLeDiff, Nat.reduceLT, exists_eq_left', forall_const, reduceCtorEq, app_new, app_new0, List.append_assoc, Int.reduceToNat, Int.reduceLT, Int.reduceLE, Int.reduceEq, Int.reduceNe, Int.reduceBEq, IntKind.bits, bne_self_eq_false, Int.reducePow]
  have hbig' : ¬ (5 : Int) < (n : Nat) := by omega
  by_cases hbs : 400 < s.size
  · have hbs' : (400 : Int) < (s.size : Nat) := by omega
    simp only [X5, sx, x_box, x_alloc, x_bslice, x_slice, x_append, x_appz, x_b2s, x_s2b, x_mark, xop, ev, evs, evParts, fillL, cellsL, Ai.get, Ai.put, stab, isNil?, if_false, if_true, addr?, int?, str?, agg?, bool?, shiftA, FnPost, xresL, xres1, tup, argEnv, ptr, Nat.reduceEqDiff, reduceIte, beq_self_eq_true, ne_eq, Nat.reduceAdd, Nat.reduceMul, Nat.reduceSub, abin_shl, abin_shr, load1V, loadV, storeV, cellsAt, getN, setN, allocV, lenL, lenS, bnd, oneC, Value.oneCell', Nat.reduceLeDiff, Nat.reduceLT, exists_eq_left', forall_const, reduceCtorEq, app_new, app_new0, List.append_assoc, Int.reduceToNat, Int.reduceLT, Int.reduceLE, Int.reduceEq, Int.reduceNe, Int.reduceBEq, IntKind.bits, bne_self_eq_false, Int.reducePow, hbig', hbs']
    refine xcall (lives_ok hF) (by rfl) (by rfl) (by rfl) (by rfl) ?_
    rintro r h' ⟨rfl, -⟩
    simp only [sx, x_box, x_alloc, x_bslice, x_slice, x_append, x_appz, x_b2s, x_s2b, x_mark, xop, ev, evs, evParts, fillL, cellsL, Ai.get, Ai.put, stab, isNil?, if_false, if_true, addr?, int?, str?, agg?, bool?, shiftA, FnPost, xresL, xres1, tup, argEnv, ptr, Nat.reduceEqDiff, reduceIte, beq_self_eq_true, ne_eq, Nat.reduceAdd, Nat.reduceMul, Nat.reduceSub, abin_shl, abin_shr, load1V, loadV, storeV, cellsAt, getN, setN, allocV, lenL, lenS, bnd, oneC, Value.oneCell', Nat.reduceLeDiff, Nat.reduceLT, exists_eq_left', forall_const, reduceCtorEq, app_new, app_new0, List.append_assoc, Int.reduceToNat, Int.reduceLT, Int.reduceLE, Int.reduceEq, Int.reduceNe, Int.reduceBEq, IntKind.bits, bne_self_eq_false, Int.reducePow]
  have hbs' : ¬ (400 : Int) < (s.size : Nat) := by omega
  simp only [X5, sx, x_box, x_alloc, x_bslice, x_slice, x_append, x_appz, x_b2s, x_s2b, x_mark, xop, ev, evs, evParts, fillL, cellsL, Ai.get, Ai.put, stab, isNil?, if_false, if_true, addr?, int?, str?, agg?, bool?, shiftA, FnPost, xresL, xres1, tup, argEnv, ptr, Nat.reduceEqDiff, reduceIte, beq_self_eq_true, ne_eq, Nat.reduceAdd, Nat.reduceMul, Nat.reduceSub, abin_shl, abin_shr, load1V, loadV, storeV, cellsAt, getN, setN, allocV, lenL, lenS, bnd, oneC, Value.oneCell', Nat.reduceLeDiff, Nat.reduceLT, exists_eq_left', forall_const, reduceCtorEq, app_new, app_new0, List.append_assoc, Int.reduceToNat, Int.reduceLT, Int.reduceLE, Int.reduceEq, Int.reduceNe, Int.reduceBEq, IntKind.bits, bne_self_eq_false, Int.reducePow, hbig', hbs']
  refine xloop_cut (BkE h n s b zs) ?_ ?_
  · refine xcode_loop (BkI h qb q nb cb n c s b zs) n ⟨0, .slice none 0 0, by omega, rfl, rfl, rfl, rfl, rfl, .inl ⟨rfl, by simp [lsB]⟩, Ext.refl _, fun A hA => by cases hA⟩ ?_
    rintro m ρ g ⟨i, sl, him, r8, r0, r1, r2, r7, L, E, hgl⟩
    by_cases hi : i < n
    · have hi' : (i : Int) < (n : Nat) := by omega
      have hi0 : (0 : Int) ≤ (i : Int) := by omega
      have wi : IntKind.i64.wrap ((i : Int) + 1) = ((i + 1 : Nat) : Int) := by rw [i64_wrap] <;> omega
      have hfg := E.first hf
      have hfbg := E.first hfb
      obtain ⟨z, hs⟩ : ∃ z, zs[i]? = some z := ⟨_, List.getElem?_eq_getElem (by omega)⟩
      have hsb := hz z (List.mem_of_getElem? hs)
      obtain ⟨a, o, z', rfl, a1, a2, a3, a4⟩ := elemB hfg hi
      rw [hs] at a4; cases a4
      obtain ⟨z, rfl⟩ : ∃ k : Nat, z = k := ⟨z.toNat, by omega⟩
      have hrem : (z : Int).tmod 56 = ((z % 56 : Nat) : Int) := by rw [Int.tmod_eq_emod_of_nonneg (by omega)]; omega
      have wc : IntKind.i64.wrap ((z % 56 : Nat) : Int) = ((z % 56 : Nat) : Int) := by rw [i64_wrap] <;> omega
      have w5 : IntKind.i64.wrap ((5 : Int) + ((z % 56 : Nat) : Int)) = ((5 + z % 56 : Nat) : Int) := by rw [i64_wrap] <;> omega
      have hmin : (if ((nb : Nat) : Int) < (i : Int) then ((nb : Nat) : Int) else (i : Int)) = ((min i nb : Nat) : Int) := by split <;> omega
      have hgd : (zs.getD i 0).toNat = z := by rw [List.getD_eq_getElem?_getD, hs]; rfl
      have hsn : lsB 56 b zs (i + 1) = lsB 56 b zs i ++ [octL (b.drop (min i nb)) (5 + z % 56)] := by
        rw [lsB_succ, hgd, hbl]
      simp only [sx, x_box, x_alloc, x_bslice, x_append, x_appz, x_b2s, x_s2b, x_mark, xop, ev, evs, evParts, fillL, cellsL, Ai.get, Ai.put, stab, isNil?, if_false, if_true, addr?, int?, str?, agg?, bool?, shiftA, FnPost, xresL, xres1, tup, argEnv, ptr, Nat.reduceEqDiff, reduceIte, beq_self_eq_true, ne_eq, Nat.reduceAdd, Nat.reduceMul, Nat.reduceSub, abin_shl, abin_shr, load1V, loadV, storeV, cellsAt, getN, setN, allocV, lenL, lenS, bnd, oneC, Value.oneCell', Nat.reduceLeDiff, Nat.reduceLT, exists_eq_left', forall_const, reduceCtorEq, app_new, app_new0, List.append_assoc, Int.reduceToNat, Int.reduceLT, Int.reduceLE, Int.reduceEq, Int.reduceNe, Int.reduceBEq, IntKind.bits, bne_self_eq_false, Int.reducePow, r8, r0, r1, r7, hi', hi0, a1, a2, a3, Nat.mul_one, hrem, wc, w5, List.foldlM_cons, List.foldlM_nil, int?, hmin]
      refine slc_run (lo := some (.t 40)) (hi := none) (mx := none) (n := nb) (c := cb) (l := min i nb) (u := nb) (m := cb) rfl (by unfold unk; omega) rfl rfl (bnd_some rfl (by omega)) (by simp) (by omega) (Nat.le_refl _) hcb.1 hfbg hspb fun q' hf' hq' => ?_
      have hfp : firstV 1 g (nb - min i nb) (.slice q' (nb - min i nb) (cb - min i nb)) = some (bR (b.drop (min i nb))) := by
        rw [hf', List.take_of_length_le (by rw [List.length_drop, bR_len]; omega)]
        simp [bR, List.map_drop]
      simp only [sx, x_box, x_alloc, x_bslice, x_slice, x_append, x_appz, x_b2s, x_s2b, x_mark, xop, ev, evs, evParts, fillL, cellsL, Ai.get, Ai.put, stab, isNil?, if_false, if_true, addr?, int?, str?, agg?, bool?, shiftA, FnPost, xresL, xres1, tup, argEnv, ptr, Nat.reduceEqDiff, reduceIte, beq_self_eq_true, ne_eq, Nat.reduceAdd, Nat.reduceMul, Nat.reduceSub, abin_shl, abin_shr, load1V, loadV, storeV, cellsAt, getN, setN, allocV, lenL, lenS, bnd, oneC, Value.oneCell', Nat.reduceLeDiff, Nat.reduceLT, exists_eq_left', forall_const, reduceCtorEq, app_new, app_new0, List.append_assoc, Int.reduceToNat, Int.reduceLT, Int.reduceLE, Int.reduceEq, Int.reduceNe, Int.reduceBEq, IntKind.bits, bne_self_eq_false, Int.reducePow, r8, r0, r1, r7, hi', hi0, a1, a2, a3, Nat.mul_one, hrem, wc, w5]
      refine xcall (octets11_ok (n := 5 + z % 56) hfp (by omega) (by omega)) (by rfl) (by rfl) (by rfl) (by rfl) ?_
      rintro r g2 ⟨rfl, rfl⟩
      have E2 := Ext.app g [some (AObj.mk true (bR (octL (b.drop (min i nb)) (5 + z % 56))))]
      have hX : (g ++ [some (AObj.mk true (bR (octL (b.drop (min i nb)) (5 + z % 56))))])[g.length]? = some (some (AObj.mk true (bR (octL (b.drop (min i nb)) (5 + z % 56))))) := by rw [app_new0]; rfl
      have hXs : slB sl ≠ some g.length := fun e => by
        rcases L with ⟨rfl, -⟩ | ⟨A, rows, rfl, hA, -⟩
        · cases e
        · cases e; have := lt_of_get hA; omega
      have hol := octL_len (b.drop (min i nb)) (5 + z % 56)
      have hll : (lsB 56 b zs i).length ≤ 1000000 := by rw [lsB_len]; omega
      have L2 := L.ext E2
      have E02 := E.trans E2
      generalize hgg : g ++ [some (AObj.mk true (bR (octL (b.drop (min i nb)) (5 + z % 56))))] = g3 at *
      simp only [sx, x_box, x_alloc, x_bslice, x_slice, x_appz, x_b2s, x_s2b, x_mark, xop, ev, evs, evParts, fillL, cellsL, Ai.get, Ai.put, stab, isNil?, if_false, if_true, addr?, int?, str?, agg?, bool?, shiftA, FnPost, xresL, xres1, tup, argEnv, ptr, Nat.reduceEqDiff, reduceIte, beq_self_eq_true, ne_eq, Nat.reduceAdd, Nat.reduceMul, Nat.reduceSub, abin_shl, abin_shr, load1V, loadV, storeV, cellsAt, getN, setN, allocV, lenL, lenS, bnd, oneC, Value.oneCell', Nat.reduceLeDiff, Nat.reduceLT, exists_eq_left', forall_const, reduceCtorEq, app_new, app_new0, List.append_assoc, Int.reduceToNat, Int.reduceLT, Int.reduceLE, Int.reduceEq, Int.reduceNe, Int.reduceBEq, IntKind.bits, bne_self_eq_false, Int.reducePow]
      rw [← hol]
      refine LN.push (z := octL (b.drop (min i nb)) (5 + z % 56)) L2 E02 hgl hX hXs rfl rfl hll fun sl4 g4 L4 E4 hgl4 => ?_
      rw [← hsn] at L4
      simp only [sx, x_box, x_alloc, x_bslice, x_slice, x_append, x_appz, x_b2s, x_s2b, x_mark, xop, ev, evs, evParts, fillL, cellsL, Ai.get, Ai.put, stab, isNil?, if_false, if_true, addr?, int?, str?, agg?, bool?, shiftA, FnPost, xresL, xres1, tup, argEnv, ptr, Nat.reduceEqDiff, reduceIte, beq_self_eq_true, ne_eq, Nat.reduceAdd, Nat.reduceMul, Nat.reduceSub, abin_shl, abin_shr, load1V, loadV, storeV, cellsAt, getN, setN, allocV, lenL, lenS, bnd, oneC, Value.oneCell', Nat.reduceLeDiff, Nat.reduceLT, exists_eq_left', forall_const, reduceCtorEq, app_new, app_new0, List.append_assoc, Int.reduceToNat, Int.reduceLT, Int.reduceLE, Int.reduceEq, Int.reduceNe, Int.reduceBEq, IntKind.bits, bne_self_eq_false, Int.reducePow, r8, wi]
      exact ⟨m - 1, by omega, i + 1, sl4, by omega, rfl, r0, r1, r2, rfl, L4, E4, hgl4⟩
    · have hi' : ¬ (i : Int) < (n : Nat) := by omega
      obtain rfl : i = n := by omega
      simp only [sx, x_box, x_alloc, x_bslice, x_slice, x_append, x_appz, x_b2s, x_s2b, x_mark, xop, ev, evs, evParts, fillL, cellsL, Ai.get, Ai.put, stab, isNil?, if_false, if_true, addr?, int?, str?, agg?, bool?, shiftA, FnPost, xresL, xres1, tup, argEnv, ptr, Nat.reduceEqDiff, reduceIte, beq_self_eq_true, ne_eq, Nat.reduceAdd, Nat.reduceMul, Nat.reduceSub, abin_shl, abin_shr, load1V, loadV, storeV, cellsAt, getN, setN, allocV, lenL, lenS, bnd, oneC, Value.oneCell', Nat.reduceLeDiff, Nat.reduceLT, exists_eq_left', forall_const, reduceCtorEq, app_new, app_new0, List.append_assoc, Int.reduceToNat, Int.reduceLT, Int.reduceLE, Int.reduceEq, Int.reduceNe, Int.reduceBEq, IntKind.bits, bne_self_eq_false, Int.reducePow, r8, r1, hi']
      exact ⟨sl, r2, r7, L, E⟩
  · rintro ρ g ⟨sl, r2, r7, L, E⟩
    have hln : (lsB 56 b zs n).length ≤ 5 := by rw [lsB_len]; omega
    have hlb := lsB_byte (m := 56) (zs := zs) (n := n) hbb
    have hnw := lsB_wide (m := 56) (b := b) (zs := zs) (n := n) (by omega) (by omega)
    have hls := lsB_size (m := 56) (b := b) (zs := zs) (n := n) (by omega) (by omega)
    generalize lsB 56 b zs n = ls at *
    obtain ⟨ql, cl, rfl, hL⟩ := L.view
    have hFg := hF.ext E
    have hJ := jn_len hnw
    have hjb := jn_bits ls
    simp only [sx, x_box, x_alloc, x_bslice, x_slice, x_append, x_appz, x_b2s, x_s2b, x_mark, xop, ev, evs, evParts, fillL, cellsL, Ai.get, Ai.put, stab, isNil?, if_false, if_true, addr?, int?, str?, agg?, bool?, shiftA, FnPost, xresL, xres1, tup, argEnv, ptr, Nat.reduceEqDiff, reduceIte, beq_self_eq_true, ne_eq, Nat.reduceAdd, Nat.reduceMul, Nat.reduceSub, abin_shl, abin_shr, load1V, loadV, storeV, cellsAt, getN, setN, allocV, lenL, lenS, bnd, oneC, Value.oneCell', Nat.reduceLeDiff, Nat.reduceLT, exists_eq_left', forall_const, reduceCtorEq, app_new, app_new0, List.append_assoc, Int.reduceToNat, Int.reduceLT, Int.reduceLE, Int.reduceEq, Int.reduceNe, Int.reduceBEq, IntKind.bits, bne_self_eq_false, Int.reducePow, r7]
    refine xcall (join_ok hFg hL (by omega) hlb) (by rfl) (by rfl) (by rfl) (by rfl) ?_
    rintro r g2 ⟨E2, ⟨⟨x, hx, hw⟩, -⟩ | ⟨-, qj, rfl, hfj⟩⟩
    · exact absurd hw (hnw x hx)
    have hL2 := hL.ext E2
    have hF2 := hFg.ext E2
    obtain ⟨aj, rfl, hajl, -⟩ := first_lt hfj (jn_pos ls)
    simp only [sx, x_box, x_alloc, x_bslice, x_slice, x_append, x_appz, x_b2s, x_s2b, x_mark, xop, ev, evs, evParts, fillL, cellsL, Ai.get, Ai.put, stab, isNil?, if_false, if_true, addr?, int?, str?, agg?, bool?, shiftA, FnPost, xresL, xres1, tup, argEnv, ptr, Nat.reduceEqDiff, reduceIte, beq_self_eq_true, ne_eq, Nat.reduceAdd, Nat.reduceMul, Nat.reduceSub, abin_shl, abin_shr, load1V, loadV, storeV, cellsAt, getN, setN, allocV, lenL, lenS, bnd, oneC, Value.oneCell', Nat.reduceLeDiff, Nat.reduceLT, exists_eq_left', forall_const, reduceCtorEq, app_new, app_new0, List.append_assoc, Int.reduceToNat, Int.reduceLT, Int.reduceLE, Int.reduceEq, Int.reduceNe, Int.reduceBEq, IntKind.bits, bne_self_eq_false, Int.reducePow]
    refine xcall newS_ok (by rfl) (by rfl) (by rfl) (by rfl) ?_
    rintro r g3 ⟨X, rfl, AX, K3, hX⟩
    simp only [sx, x_box, x_alloc, x_bslice, x_slice, x_append, x_appz, x_b2s, x_s2b, x_mark, xop, ev, evs, evParts, fillL, cellsL, Ai.get, Ai.put, stab, isNil?, if_false, if_true, addr?, int?, str?, agg?, bool?, shiftA, FnPost, xresL, xres1, tup, argEnv, ptr, Nat.reduceEqDiff, reduceIte, beq_self_eq_true, ne_eq, Nat.reduceAdd, Nat.reduceMul, Nat.reduceSub, abin_shl, abin_shr, load1V, loadV, storeV, cellsAt, getN, setN, allocV, lenL, lenS, bnd, oneC, Value.oneCell', Nat.reduceLeDiff, Nat.reduceLT, exists_eq_left', forall_const, reduceCtorEq, app_new, app_new0, List.append_assoc, Int.reduceToNat, Int.reduceLT, Int.reduceLE, Int.reduceEq, Int.reduceNe, Int.reduceBEq, IntKind.bits, bne_self_eq_false, Int.reducePow]
    refine xcall newS_ok (by rfl) (by rfl) (by rfl) (by rfl) ?_
    rintro r g4 ⟨Y, rfl, AY, K4, hY⟩
    have K24 : Kp g2 g4 := K3.trans K4
    have hYl4 := lt_of_get AY.obj
    have hXY : X < Y := Nat.lt_of_lt_of_le (lt_of_get AX.obj) hY
    have h23 := K3.1
    have h34 := K4.1
    simp only [sx, x_box, x_alloc, x_bslice, x_slice, x_append, x_appz, x_b2s, x_s2b, x_mark, xop, ev, evs, evParts, fillL, cellsL, Ai.get, Ai.put, stab, isNil?, if_false, if_true, addr?, int?, str?, agg?, bool?, shiftA, FnPost, xresL, xres1, tup, argEnv, ptr, Nat.reduceEqDiff, reduceIte, beq_self_eq_true, ne_eq, Nat.reduceAdd, Nat.reduceMul, Nat.reduceSub, abin_shl, abin_shr, load1V, loadV, storeV, cellsAt, getN, setN, allocV, lenL, lenS, bnd, oneC, Value.oneCell', Nat.reduceLeDiff, Nat.reduceLT, exists_eq_left', forall_const, reduceCtorEq, app_new, app_new0, List.append_assoc, Int.reduceToNat, Int.reduceLT, Int.reduceLE, Int.reduceEq, Int.reduceNe, Int.reduceBEq, IntKind.bits, bne_self_eq_false, Int.reducePow]
    refine xcall (fed_ok (AX.kp K4) Sc.Ok.nw (by omega) (K24.first hfj) (by omega) hjb fun a ha => ⟨by cases ha; omega, fun h => by cases ha; have := ftS_nil h; omega⟩) (by rfl) (by rfl) (by rfl) (by rfl) ?_
    rintro r g5 ⟨q1, kv1, rfl, V1, A1, F1, n1, b1⟩
    rw [feed_new hnw hlb] at V1 A1 ⊢
    have K5 : Kp g2 g5 := kp_past K24 F1 fun B h => by have := ftS_nil h; omega
    have h45 := F1.1
    have AY5 : SAt g5 Y Sc.new (.slice none 0 0) (.slice none 0 0) := AY.keep (F1.frz (AX.kp K4).own) fun B hB => F1.2 B (AY.lt hB) fun h => by have := ftS_nil h; have := ftS_nil hB; omega
    simp only [sx, x_box, x_alloc, x_bslice, x_slice, x_append, x_appz, x_b2s, x_s2b, x_mark, xop, ev, evs, evParts, fillL, cellsL, Ai.get, Ai.put, stab, isNil?, if_false, if_true, addr?, int?, str?, agg?, bool?, shiftA, FnPost, xresL, xres1, tup, argEnv, ptr, Nat.reduceEqDiff, reduceIte, beq_self_eq_true, ne_eq, Nat.reduceAdd, Nat.reduceMul, Nat.reduceSub, abin_shl, abin_shr, load1V, loadV, storeV, cellsAt, getN, setN, allocV, lenL, lenS, bnd, oneC, Value.oneCell', Nat.reduceLeDiff, Nat.reduceLT, exists_eq_left', forall_const, reduceCtorEq, app_new, app_new0, List.append_assoc, Int.reduceToNat, Int.reduceLT, Int.reduceLE, Int.reduceEq, Int.reduceNe, Int.reduceBEq, IntKind.bits, bne_self_eq_false, Int.reducePow, r2]
    refine xcall (stream_ok (s := s) (by omega)) (by rfl) (by rfl) (by rfl) (by rfl) ?_
    rintro r g6 ⟨rfl, e6⟩
    have K6 : Kp g5 g6 := by rw [e6]; exact Kp.app _ _
    have hS : firstV 1 g6 s.size (.slice (some ⟨g5.length, 0, none⟩) s.size s.size) = some (bR (streamOf s)) := by
      rw [e6]
      simp only [firstV, cellsAt, app_new0]
      split
      · rename_i h0
        have : streamOf s = [] := List.eq_nil_of_length_eq_zero (by rw [streamOf_len]; exact h0)
        rw [this]; rfl
      · simp only [ne_eq, not_true_eq_false, if_false, Option.map_some, Option.bind_some]
        rw [Nat.mul_one]
        exact getN_all _ _ (by rw [bR_len, streamOf_len])
    have hsl := streamOf_len s
    have h56 := K6.1
    have h6l : g5.length < g6.length := by rw [e6]; simp
    have hYl := AY5.lt (.inl rfl)
    simp only [sx, x_box, x_alloc, x_bslice, x_slice, x_append, x_appz, x_b2s, x_s2b, x_mark, xop, ev, evs, evParts, fillL, cellsL, Ai.get, Ai.put, stab, isNil?, if_false, if_true, addr?, int?, str?, agg?, bool?, shiftA, FnPost, xresL, xres1, tup, argEnv, ptr, Nat.reduceEqDiff, reduceIte, beq_self_eq_true, ne_eq, Nat.reduceAdd, Nat.reduceMul, Nat.reduceSub, abin_shl, abin_shr, load1V, loadV, storeV, cellsAt, getN, setN, allocV, lenL, lenS, bnd, oneC, Value.oneCell', Nat.reduceLeDiff, Nat.reduceLT, exists_eq_left', forall_const, reduceCtorEq, app_new, app_new0, List.append_assoc, Int.reduceToNat, Int.reduceLT, Int.reduceLE, Int.reduceEq, Int.reduceNe, Int.reduceBEq, IntKind.bits, bne_self_eq_false, Int.reducePow]
    refine xcall (fed_ok (AY5.kp K6) Sc.Ok.nw (by omega) hS (by omega) (streamOf_bit s) fun a ha => ⟨by cases ha; exact h6l, fun h => by cases ha; have := ftS_nil h; simp only at this; omega⟩) (by rfl) (by rfl) (by rfl) (by rfl) ?_
    rintro r g7 ⟨q2, kv2, rfl, V2, A2, F2, n2, b2⟩
    have o2 := Sc.Ok.nw.feed (s := Sc.new) (streamOf_bit s)
    generalize Sc.new.feed (streamOf s) = s2 at *
    have o3 : ({ s2 with fo := [] } : Sc).Ok (0 + (streamOf s).length) := ⟨o2.er, o2.on, o2.ma, o2.ke, o2.bi, by simp⟩
    have hke : ({ s2 with fo := [] } : Sc).ke.length ≤ 2247 := by have := o2.ke; simp only; omega
    have K7 : Kp g2 g7 := kp_past (K5.trans K6) F2 fun B h => by have := ftS_nil h; omega
    have hYk : ∀ B, ftS Y kv2 (.slice none 0 0) B → B = Y ∨ g6.length ≤ B := fun B hB => by
      rcases n2 B hB with h | h
      · exact .inl (ftS_nil h)
      · exact .inr h
    have h67 := F2.1
    simp only [sx, x_box, x_alloc, x_bslice, x_slice, x_append, x_appz, x_b2s, x_s2b, x_mark, xop, ev, evs, evParts, fillL, cellsL, Ai.get, Ai.put, stab, isNil?, if_false, if_true, addr?, int?, str?, agg?, bool?, shiftA, FnPost, xresL, xres1, tup, argEnv, ptr, Nat.reduceEqDiff, reduceIte, beq_self_eq_true, ne_eq, Nat.reduceAdd, Nat.reduceMul, Nat.reduceSub, abin_shl, abin_shr, load1V, loadV, storeV, cellsAt, getN, setN, allocV, lenL, lenS, bnd, oneC, Value.oneCell', Nat.reduceLeDiff, Nat.reduceLT, exists_eq_left', forall_const, reduceCtorEq, app_new, app_new0, List.append_assoc, Int.reduceToNat, Int.reduceLT, Int.reduceLE, Int.reduceEq, Int.reduceNe, Int.reduceBEq, IntKind.bits, bne_self_eq_false, Int.reducePow]
    refine xcall (fed_ok A2 o3 (by omega) (K7.first hfj) (by omega) hjb fun a ha => ⟨by cases ha; have := K7.1; omega, fun h => by cases ha; have := hYk _ h; omega⟩) (by rfl) (by rfl) (by rfl) (by rfl) ?_
    rintro r g8 ⟨q3, kv3, rfl, V3, A3, F3, n3, b3⟩
    obtain ⟨er, t, ht, e3⟩ := feed_jn (s := { s2 with fo := [] }) hke hnw hlb
    replace e3 := e3.trans (show bare er ([] ++ t ++ ls) = bare er (t ++ ls) from rfl)
    rw [e3] at V3 A3 ⊢
    have K8 : Kp g2 g8 := kp_past K7 F3 fun B h => by have := hYk _ h; omega
    have F58 : Fr (ftS Y (.slice none 0 0) (.slice none 0 0)) g5 g8 := ((K6.fr _).trans F2 fun B h => .inl h).trans F3 fun B h => by
      rcases hYk B h with h | h
      · exact .inl (.inl h)
      · exact .inr (by omega)
    have z58 : Frz g5 g8 := F58.frz AY5.own
    have V1a : FsV g8 q1 ls := V1.past z58 F58 fun a ha hl h => by
      obtain ⟨c1, c2, -⟩ := b1 a ha
      have hy := ftS_nil h
      rcases c1 with c1 | c1
      · exact c2 (.inl (ftS_nil c1))
      · omega
    have A1a : SAt g8 X { bare 0 ls with fo := [] } kv1 (.slice none 0 0) := A1.keep z58 fun B hB => F58.2 B (A1.lt hB) fun h => by
      have hy := ftS_nil h
      rcases n1 B hB with h | h
      · have := ftS_nil h; omega
      · omega
    have hL8 := hL2.ext K8
    have hF8 := hF2.ext K8
    simp only [sx, x_box, x_alloc, x_bslice, x_slice, x_append, x_appz, x_b2s, x_s2b, x_mark, xop, ev, evs, evParts, fillL, cellsL, Ai.get, Ai.put, stab, isNil?, if_false, if_true, addr?, int?, str?, agg?, bool?, shiftA, FnPost, xresL, xres1, tup, argEnv, ptr, Nat.reduceEqDiff, reduceIte, beq_self_eq_true, ne_eq, Nat.reduceAdd, Nat.reduceMul, Nat.reduceSub, abin_shl, abin_shr, load1V, loadV, storeV, cellsAt, getN, setN, allocV, lenL, lenS, bnd, oneC, Value.oneCell', Nat.reduceLeDiff, Nat.reduceLT, exists_eq_left', forall_const, reduceCtorEq, app_new, app_new0, List.append_assoc, Int.reduceToNat, Int.reduceLT, Int.reduceLE, Int.reduceEq, Int.reduceNe, Int.reduceBEq, IntKind.bits, bne_self_eq_false, Int.reducePow, r7]
    refine xcall (lists_ok V1a hL8 (by omega) hls) (by rfl) (by rfl) (by rfl) (by rfl) ?_
    rintro r g9 ⟨rfl, e0⟩
    subst e0
    simp only [sx, x_box, x_alloc, x_bslice, x_slice, x_append, x_appz, x_b2s, x_s2b, x_mark, xop, ev, evs, evParts, fillL, cellsL, Ai.get, Ai.put, stab, isNil?, if_false, if_true, addr?, int?, str?, agg?, bool?, shiftA, FnPost, xresL, xres1, tup, argEnv, ptr, Nat.reduceEqDiff, reduceIte, beq_self_eq_true, ne_eq, Nat.reduceAdd, Nat.reduceMul, Nat.reduceSub, abin_shl, abin_shr, load1V, loadV, storeV, cellsAt, getN, setN, allocV, lenL, lenS, bnd, oneC, Value.oneCell', Nat.reduceLeDiff, Nat.reduceLT, exists_eq_left', forall_const, reduceCtorEq, app_new, app_new0, List.append_assoc, Int.reduceToNat, Int.reduceLT, Int.reduceLE, Int.reduceEq, Int.reduceNe, Int.reduceBEq, IntKind.bits, bne_self_eq_false, Int.reducePow, r7]
    refine xcall (errors_ok A1a) (by rfl) (by rfl) (by rfl) (by rfl) ?_
    rintro r g9 ⟨rfl, e0⟩
    subst e0
    have her : (({ bare 0 ls with fo := [] } : Sc).er : Int) = 0 := rfl
    rw [her]
    simp only [sx, x_box, x_alloc, x_bslice, x_slice, x_append, x_appz, x_b2s, x_s2b, x_mark, xop, ev, evs, evParts, fillL, cellsL, Ai.get, Ai.put, stab, isNil?, if_false, if_true, addr?, int?, str?, agg?, bool?, shiftA, FnPost, xresL, xres1, tup, argEnv, ptr, Nat.reduceEqDiff, reduceIte, beq_self_eq_true, ne_eq, Nat.reduceAdd, Nat.reduceMul, Nat.reduceSub, abin_shl, abin_shr, load1V, loadV, storeV, cellsAt, getN, setN, allocV, lenL, lenS, bnd, oneC, Value.oneCell', Nat.reduceLeDiff, Nat.reduceLT, exists_eq_left', forall_const, reduceCtorEq, app_new, app_new0, List.append_assoc, Int.reduceToNat, Int.reduceLT, Int.reduceLE, Int.reduceEq, Int.reduceNe, Int.reduceBEq, IntKind.bits, bne_self_eq_false, Int.reducePow, r7]
    refine xcall (hunting_ok A1a) (by rfl) (by rfl) (by rfl) (by rfl) ?_
    rintro r g9 ⟨rfl, e0⟩
    subst e0
    have hhu : ({ bare 0 ls with fo := [] } : Sc).hu = false := rfl
    rw [hhu]
    simp only [sx, x_box, x_alloc, x_bslice, x_slice, x_append, x_appz, x_b2s, x_s2b, x_mark, xop, ev, evs, evParts, fillL, cellsL, Ai.get, Ai.put, stab, isNil?, if_false, if_true, addr?, int?, str?, agg?, bool?, shiftA, FnPost, xresL, xres1, tup, argEnv, ptr, Nat.reduceEqDiff, reduceIte, beq_self_eq_true, ne_eq, Nat.reduceAdd, Nat.reduceMul, Nat.reduceSub, abin_shl, abin_shr, load1V, loadV, storeV, cellsAt, getN, setN, allocV, lenL, lenS, bnd, oneC, Value.oneCell', Nat.reduceLeDiff, Nat.reduceLT, exists_eq_left', forall_const, reduceCtorEq, app_new, app_new0, List.append_assoc, Int.reduceToNat, Int.reduceLT, Int.reduceLE, Int.reduceEq, Int.reduceNe, Int.reduceBEq, IntKind.bits, bne_self_eq_false, Int.reducePow, r7]
    refine xcall (hunting_ok A3) (by rfl) (by rfl) (by rfl) (by rfl) ?_
    rintro r g9 ⟨rfl, e0⟩
    subst e0
    have hhu3 : ({ bare er (t ++ ls) with fo := [] } : Sc).hu = false := rfl
    rw [hhu3]
    have hfo : (bare er (t ++ ls)).fo = t ++ ls := rfl
    rw [hfo] at V3
    simp only [hfo]
    have hM : (t ++ ls).length = t.length + ls.length := List.length_append
    have hlt : ¬ (((t.length + ls.length : Nat) : Nat) : Int) < ((ls.length : Nat) : Int) := by omega
    have wsub : IntKind.i64.wrap (((t.length + ls.length : Nat) : Int) - ((ls.length : Nat) : Int)) = ((t.length : Nat) : Int) := by rw [i64_wrap] <;> omega
    obtain ⟨rows, V3a, V3b⟩ := V3
    rw [hM] at V3a ⊢
    have hu1 : t.length + ls.length < unk := by unfold unk; omega
    have hsp3 : ∀ a, q3 = some a → a.spot = none := fun a ha => (b3 a ha).2.2
    simp only [sx, x_box, x_alloc, x_bslice, x_append, x_appz, x_b2s, x_s2b, x_mark, xop, ev, evs, evParts, fillL, cellsL, Ai.get, Ai.put, stab, isNil?, if_false, if_true, addr?, int?, str?, agg?, bool?, shiftA, FnPost, xresL, xres1, tup, argEnv, ptr, Nat.reduceEqDiff, reduceIte, beq_self_eq_true, ne_eq, Nat.reduceAdd, Nat.reduceMul, Nat.reduceSub, abin_shl, abin_shr, load1V, loadV, storeV, cellsAt, getN, setN, allocV, lenL, lenS, bnd, oneC, Value.oneCell', Nat.reduceLeDiff, Nat.reduceLT, exists_eq_left', forall_const, reduceCtorEq, app_new, app_new0, List.append_assoc, Int.reduceToNat, Int.reduceLT, Int.reduceLE, Int.reduceEq, Int.reduceNe, Int.reduceBEq, IntKind.bits, bne_self_eq_false, Int.reducePow, r7, hlt, wsub]
    refine slc_run (lo := some (.t 123)) (hi := none) (mx := none) (n := t.length + ls.length) (c := t.length + ls.length) (l := t.length) (u := t.length + ls.length) (m := t.length + ls.length) rfl hu1 rfl rfl (bnd_some rfl (by omega)) (by simp) (by omega) (Nat.le_refl _) (Nat.le_refl _) V3a hsp3 fun q4 hf4 hq4 => ?_
    rw [Nat.add_sub_cancel_left] at hf4 ⊢
    simp only [sx, x_box, x_alloc, x_bslice, x_append, x_appz, x_b2s, x_s2b, x_mark, xop, ev, evs, evParts, fillL, cellsL, Ai.get, Ai.put, stab, isNil?, if_false, if_true, addr?, int?, str?, agg?, bool?, shiftA, FnPost, xresL, xres1, tup, argEnv, ptr, Nat.reduceEqDiff, reduceIte, beq_self_eq_true, ne_eq, Nat.reduceAdd, Nat.reduceMul, Nat.reduceSub, abin_shl, abin_shr, load1V, loadV, storeV, cellsAt, getN, setN, allocV, lenL, lenS, bnd, oneC, Value.oneCell', Nat.reduceLeDiff, Nat.reduceLT, exists_eq_left', forall_const, reduceCtorEq, app_new, app_new0, List.append_assoc, Int.reduceToNat, Int.reduceLT, Int.reduceLE, Int.reduceEq, Int.reduceNe, Int.reduceBEq, IntKind.bits, bne_self_eq_false, Int.reducePow, r7]
    refine slc_run (lo := none) (hi := some (.t 127)) (mx := some (.t 129)) (n := ls.length) (c := ls.length) (l := 0) (u := ls.length) (m := ls.length) rfl (by omega) (bnd_some rfl (by omega)) (bnd_some rfl (by omega)) rfl (by simp) (by omega) (Nat.le_refl _) (Nat.le_refl _) hf4 (fun a ha => (hq4 a ha).1) fun q5 hf5 hq5 => ?_
    rw [Nat.sub_zero] at hf5 ⊢
    have V5 : FsV _ q5 ls := ⟨_, hf5, by
      have := ((V3b.drop t.length).take ls.length).take ls.length
      rw [List.drop_left' rfl, List.take_of_length_le (Nat.le_refl _), List.take_of_length_le (Nat.le_refl _)] at this
      exact this⟩
    simp only [sx, x_box, x_alloc, x_bslice, x_slice, x_append, x_appz, x_b2s, x_s2b, x_mark, xop, ev, evs, evParts, fillL, cellsL, Ai.get, Ai.put, stab, isNil?, if_false, if_true, addr?, int?, str?, agg?, bool?, shiftA, FnPost, xresL, xres1, tup, argEnv, ptr, Nat.reduceEqDiff, reduceIte, beq_self_eq_true, ne_eq, Nat.reduceAdd, Nat.reduceMul, Nat.reduceSub, abin_shl, abin_shr, load1V, loadV, storeV, cellsAt, getN, setN, allocV, lenL, lenS, bnd, oneC, Value.oneCell', Nat.reduceLeDiff, Nat.reduceLT, exists_eq_left', forall_const, reduceCtorEq, app_new, app_new0, List.append_assoc, Int.reduceToNat, Int.reduceLT, Int.reduceLE, Int.reduceEq, Int.reduceNe, Int.reduceBEq, IntKind.bits, bne_self_eq_false, Int.reducePow, r7]
    refine xcall (lists_ok V5 hL8 (by omega) hls) (by rfl) (by rfl) (by rfl) (by rfl) ?_
    rintro r g9 ⟨rfl, e0⟩
    subst e0
    have wadd : IntKind.i64.wrap (((ls.length : Nat) : Int) + 1) = ((ls.length + 1 : Nat) : Int) := by rw [i64_wrap] <;> omega
    have hle : (((t.length + ls.length : Nat) : Nat) : Int) ≤ ((ls.length + 1 : Nat) : Int) := by omega
    simp only [sx, x_box, x_alloc, x_bslice, x_slice, x_append, x_appz, x_b2s, x_s2b, x_mark, xop, ev, evs, evParts, fillL, cellsL, Ai.get, Ai.put, stab, isNil?, if_false, if_true, addr?, int?, str?, agg?, bool?, shiftA, FnPost, xresL, xres1, tup, argEnv, ptr, Nat.reduceEqDiff, reduceIte, beq_self_eq_true, ne_eq, Nat.reduceAdd, Nat.reduceMul, Nat.reduceSub, abin_shl, abin_shr, load1V, loadV, storeV, cellsAt, getN, setN, allocV, lenL, lenS, bnd, oneC, Value.oneCell', Nat.reduceLeDiff, Nat.reduceLT, exists_eq_left', forall_const, reduceCtorEq, app_new, app_new0, List.append_assoc, Int.reduceToNat, Int.reduceLT, Int.reduceLE, Int.reduceEq, Int.reduceNe, Int.reduceBEq, IntKind.bits, bne_self_eq_false, Int.reducePow, r7, wadd, hle]
    refine xcall (lives_ok hF8) (by rfl) (by rfl) (by rfl) (by rfl) ?_
    rintro r g9 ⟨rfl, e0⟩
    subst e0
    simp only [sx, x_box, x_alloc, x_bslice, x_slice, x_append, x_appz, x_b2s, x_s2b, x_mark, xop, ev, evs, evParts, fillL, cellsL, Ai.get, Ai.put, stab, isNil?, if_false, if_true, addr?, int?, str?, agg?, bool?, shiftA, FnPost, xresL, xres1, tup, argEnv, ptr, Nat.reduceEqDiff, reduceIte, beq_self_eq_true, ne_eq, Nat.reduceAdd, Nat.reduceMul, Nat.reduceSub, abin_shl, abin_shr, load1V, loadV, storeV, cellsAt, getN, setN, allocV, lenL, lenS, bnd, oneC, Value.oneCell', Nat.reduceLeDiff, Nat.reduceLT, exists_eq_left', forall_const, reduceCtorEq, app_new, app_new0, List.append_assoc, Int.reduceToNat, Int.reduceLT, Int.reduceLE, Int.reduceEq, Int.reduceNe, Int.reduceBEq, IntKind.bits, bne_self_eq_false, Int.reducePow, r7]
end Go.Proofs.YtimfgagdfmmeeaaDoor
