import Derived.Test.YtemphcppnjlkcaaL8
set_option linter.unusedVariables false
set_option linter.unusedSimpArgs false
namespace Go.Proofs.Ytemphcppnjlkcaa
open Go Go.Ai Go.Proofs

/-- a slice's cells, where they lie -/
theorem firstV_cell {k n c : Nat} {h : AHeap} {a : Addr} {rows : List Value} (hf : firstV k h n (.slice (some a) n c) = some rows) (hn : n ≠ 0) : a.spot = none ∧ ∃ o, h[a.block]? = some (some o) ∧ ∀ j, j < n * k → o.cells[a.off + j]? = rows[j]? := by
  simp only [firstV] at hf
  rw [if_neg hn] at hf
  split at hf
  · cases hf
  · rename_i h1
    refine ⟨by simpa using h1, ?_⟩
    obtain ⟨cs, e1, e2⟩ := Option.bind_eq_some_iff.1 hf
    unfold cellsAt at e1
    split at e1
    · rename_i o ho
      cases e1
      refine ⟨o, ho, fun j hj => ?_⟩
      obtain ⟨e3, e4⟩ := (getN_eq _ _ _ _).1 e2
      rw [e4, List.getElem?_take, if_pos hj, List.getElem?_drop]
    · cases e1
theorem rowsN_cell : ∀ {l : List Nz} {i : Nat} {x : Nz}, l[i]? = some x → (rowsN l)[i * 3]? = some (.int .i64 x.at_) ∧ (rowsN l)[i * 3 + 1]? = some (.int .u8 x.kind) ∧ (rowsN l)[i * 3 + 2]? = some (.int .i64 x.bit)
  | [], i, x, h => by simp at h
  | y :: l, 0, x, h => by simp at h; subst h; exact ⟨rfl, rfl, rfl⟩
  | y :: l, i + 1, x, h => by
    have e : ∀ j, (rowsN (y :: l))[(i + 1) * 3 + j]? = (rowsN l)[i * 3 + j]? := fun j => by rw [show (i + 1) * 3 + j = i * 3 + j + 1 + 1 + 1 by omega]; rfl
    have e0 := e 0
    rw [Nat.add_zero, Nat.add_zero] at e0
    rw [e0, e 1, e 2]; exact rowsN_cell (by simpa using h)
theorem hasN_snoc {l : List Nz} {i : Nat} {x : Nz} (h : l[i]? = some x) (sent k : Int) : hasN (l.take (i + 1)) sent k ↔ hasN (l.take i) sent k ∨ (x.at_ = sent ∧ x.kind = k) := by
  have : l.take (i + 1) = l.take i ++ [x] := by rw [List.take_add_one, h]; rfl
  rw [this]
  unfold hasN
  constructor
  · rintro ⟨y, hy, h1⟩
    rcases List.mem_append.1 hy with hy | hy
    · exact .inl ⟨y, hy, h1⟩
    · simp at hy; subst hy; exact .inr h1
  · rintro (⟨y, hy, h1⟩ | h1)
    · exact ⟨y, by simp [hy], h1⟩
    · exact ⟨x, by simp, h1⟩

/-- the law's own account of what remains -/
def OutAt (h0 h : AHeap) (o : Value) (zs : List Int) : Prop := (o = .slice none 0 0 ∧ zs = []) ∨ (zs ≠ [] ∧ o = .slice (some ⟨h0.length, 0, none⟩) zs.length (unk + 1) ∧ h[h0.length]? = some (some ⟨true, bR zs⟩))

theorem OutAt.ret {h0 h : AHeap} {o : Value} {zs : List Int} (t : OutAt h0 h o zs) : Ret 1 h o zs.length (bR zs) := by
  rcases t with ⟨rfl, rfl⟩ | ⟨_, rfl, h1⟩
  · exact ⟨rfl, .inl ⟨rfl, rfl⟩⟩
  · exact ⟨by rw [bR_len, Nat.mul_one], .inr (.inr ⟨_, rfl, h1⟩)⟩

set_option maxHeartbeats 2000000 in
theorem remL_ok {h : AHeap} {l : List Nz} {q : Option Addr} {c : Nat} {at_ : Int} {qs : Option Addr} {m cs : Nat} {zs : List Int} (hl : firstV 3 h l.length (.slice q l.length c) = some (rowsN l)) (hll : l.length ≤ 1024)
    (hs : firstV 1 h m (.slice qs m cs) = some (bR zs)) (hm : m ≤ 1048576) (hbit : ∀ z ∈ zs, z = 0 ∨ z = 1) (hnz : ∀ x ∈ l, 0 ≤ x.bit) :
    Valid Try.prog 13 [.slice q l.length c, .int .i64 at_, .slice qs m cs] h fun r h' => Ret 1 h' r (remZ l at_ zs).length (bR (remZ l at_ zs)) ∧ Ext h h' ∧ ∀ A, slB r = some A → h.length ≤ A ∧ A < h'.length := by
  refine v13 (by simp) ?_
  have hzl := firstV_len hs
  rw [bR_len, Nat.mul_one] at hzl
  simp only [X13, sx, x_box, x_alloc, x_bslice, x_slice, x_b2s, xop, ev, evs, evParts, fillL, cellsL, Ai.get, Ai.put, stab, isNil?, if_false, if_true, addr?, int?, str?, agg?, bool?, shiftA, FnPost, xresL, xres1, tup, argEnv, ptr, Nat.reduceEqDiff, reduceIte, beq_self_eq_true, ne_eq, Nat.reduceAdd, Nat.reduceMul, Nat.reduceSub, abin_shl, abin_shr, load1V, loadV, storeV, cellsAt, getN, setN, allocV, lenL, lenS, bnd, oneC, Value.oneCell', Nat.reduceLeDiff, Nat.reduceLT, exists_eq_left', forall_const, reduceCtorEq, app_new, app_new0, List.append_assoc, Int.reduceToNat, Int.reduceLT, Int.reduceLE, Int.reduceEq, Int.reduceNe, Int.reduceBEq, IntKind.bits, bne_self_eq_false, Int.reducePow]
  refine xops_cut (fun ρ h' => ∃ o, get ρ 7 = some o ∧ get ρ 0 = some (.slice q l.length c) ∧ get ρ 1 = some (.int .i64 at_) ∧ OutAt h h' o zs ∧ Ext h h') ?_ ?_
  · refine append_run (k := 1) (by_ := 1) (n := 0) (m := m) (rows := []) (news := bR zs) (sl := .slice none 0 0) (xv := .slice qs m cs) ?_ ?_ ?_ ?_ ?_ hs (by rw [bR_len]; omega) (bR_one _) ⟨rfl, .inl ⟨rfl, rfl⟩⟩ (by omega) (by omega) ?_ ?_
    · rfl
    · decide
    · rfl
    · rfl
    · rfl
    · intro h0
      have : zs = [] := List.eq_nil_of_length_eq_zero (by omega)
      simp only [sx, x_box, x_alloc, x_bslice, x_slice, x_append, x_b2s, xop, ev, evs, evParts, fillL, cellsL, Ai.get, Ai.put, stab, isNil?, if_false, if_true, addr?, int?, str?, agg?, bool?, shiftA, FnPost, xresL, xres1, tup, argEnv, ptr, Nat.reduceEqDiff, reduceIte, beq_self_eq_true, ne_eq, Nat.reduceAdd, Nat.reduceMul, Nat.reduceSub, abin_shl, abin_shr, load1V, loadV, storeV, cellsAt, getN, setN, allocV, lenL, lenS, bnd, oneC, Value.oneCell', Nat.reduceLeDiff, Nat.reduceLT, exists_eq_left', forall_const, reduceCtorEq, app_new, app_new0, List.append_assoc, Int.reduceToNat, Int.reduceLT, Int.reduceLE, Int.reduceEq, Int.reduceNe, Int.reduceBEq, IntKind.bits, bne_self_eq_false, Int.reducePow]
      exact ⟨.inl ⟨rfl, this⟩, Ext.refl h⟩
    · intro h0 h' A' hA' hg hl' hfr
      have hA : A' = h.length := by have := lt_of_get hg; omega
      subst hA
      simp only [sx, x_box, x_alloc, x_bslice, x_slice, x_append, x_b2s, xop, ev, evs, evParts, fillL, cellsL, Ai.get, Ai.put, stab, isNil?, if_false, if_true, addr?, int?, str?, agg?, bool?, shiftA, FnPost, xresL, xres1, tup, argEnv, ptr, Nat.reduceEqDiff, reduceIte, beq_self_eq_true, ne_eq, Nat.reduceAdd, Nat.reduceMul, Nat.reduceSub, abin_shl, abin_shr, load1V, loadV, storeV, cellsAt, getN, setN, allocV, lenL, lenS, bnd, oneC, Value.oneCell', Nat.reduceLeDiff, Nat.reduceLT, exists_eq_left', forall_const, reduceCtorEq, app_new, app_new0, List.append_assoc, Int.reduceToNat, Int.reduceLT, Int.reduceLE, Int.reduceEq, Int.reduceNe, Int.reduceBEq, IntKind.bits, bne_self_eq_false, Int.reducePow]
      refine ⟨.inr ⟨fun e => h0 (by rw [← hzl, e]; rfl), by rw [hzl], by simpa using hg⟩, by omega, fun B hB => hfr B hB (by simp [slB])⟩
  rintro ρ h1 ⟨o, g7, g0, g1, O1, E1⟩
  simp only [sx, x_box, x_alloc, x_bslice, x_slice, x_append, x_b2s, xop, ev, evs, evParts, fillL, cellsL, Ai.get, Ai.put, stab, isNil?, if_false, if_true, addr?, int?, str?, agg?, bool?, shiftA, FnPost, xresL, xres1, tup, argEnv, ptr, Nat.reduceEqDiff, reduceIte, beq_self_eq_true, ne_eq, Nat.reduceAdd, Nat.reduceMul, Nat.reduceSub, abin_shl, abin_shr, load1V, loadV, storeV, cellsAt, getN, setN, allocV, lenL, lenS, bnd, oneC, Value.oneCell', Nat.reduceLeDiff, Nat.reduceLT, exists_eq_left', forall_const, reduceCtorEq, app_new, app_new0, List.append_assoc, Int.reduceToNat, Int.reduceLT, Int.reduceLE, Int.reduceEq, Int.reduceNe, Int.reduceBEq, IntKind.bits, bne_self_eq_false, Int.reducePow, g7, g0, g1]
  have d0 : ∀ k, decide (hasN (l.take 0) at_ k) = false := fun k => decide_eq_false fun ⟨x, hx, _⟩ => by simp at hx
  refine xcode_loop (fun k ρ h' => ∃ i, i + k = l.length ∧ get ρ 10 = some (.int .i64 (i : Nat)) ∧ get ρ 0 = some (.slice q l.length c) ∧ get ρ 1 = some (.int .i64 at_) ∧ get ρ 7 = some o ∧ get ρ 8 = some (.bool (decide (hasN (l.take i) at_ 0))) ∧ get ρ 9 = some (.bool (decide (hasN (l.take i) at_ 2))) ∧
    OutAt h h' o (flipZ (l.take i) at_ zs) ∧ Ext h h') l.length ⟨0, by simp, rfl, g0, g1, g7, by rw [d0]; rfl, by rw [d0]; rfl, by simpa [flipZ] using O1, E1⟩ ?_
  clear g7 g0 g1 O1 E1 d0 ρ h1
  rintro k ρ h1 ⟨i, hik, g10, g0, g1, g7, g8, g9, O1, E1⟩
  by_cases hlt : i < l.length
  · have hlt' : (i : Int) < l.length := by omega
    have hge : (0 : Int) ≤ i := by omega
    have hw : IntKind.i64.wrap ((i : Int) + 1) = ((i + 1 : Nat) : Int) := by rw [i64_wrap] <;> omega
    obtain ⟨x, hx⟩ : ∃ x, l[i]? = some x := ⟨_, List.getElem?_eq_getElem hlt⟩
    have hxb := hnz x (List.mem_of_getElem? hx)
    obtain ⟨r0, r1, r2⟩ := rowsN_cell hx
    have hsn := flipZ_snoc l at_ zs i _ hx
    have hfl : (flipZ (l.take i) at_ zs).length = m := by rw [flipZ_len, hzl]
    have hfb := flipZ_bit (l.take i) (sent := at_) hbit
    have sn0 := hasN_snoc hx at_ 0
    have sn2 := hasN_snoc hx at_ 2
    cases q with
    | none => simp only [firstV] at hl; rw [if_neg (by omega)] at hl; cases hl
    | some a =>
      obtain ⟨a1, oo, a2, a3⟩ := firstV_cell (E1.first hl) (by omega)
      have c0 := a3 (i * 3) (by omega)
      have c1 := a3 (i * 3 + 1) (by omega)
      have c2 := a3 (i * 3 + 2) (by omega)
      rw [r0] at c0
      rw [r1, ← Nat.add_assoc] at c1
      rw [r2, ← Nat.add_assoc] at c2
      by_cases hat : x.at_ = at_
      · simp only [sx, x_box, x_alloc, x_bslice, x_slice, x_append, x_b2s, xop, ev, evs, evParts, fillL, cellsL, Ai.get, Ai.put, stab, isNil?, if_false, if_true, addr?, int?, str?, agg?, bool?, shiftA, FnPost, xresL, xres1, tup, argEnv, ptr, Nat.reduceEqDiff, reduceIte, beq_self_eq_true, ne_eq, Nat.reduceAdd, Nat.reduceMul, Nat.reduceSub, abin_shl, abin_shr, load1V, loadV, storeV, cellsAt, getN, setN, allocV, lenL, lenS, bnd, oneC, Value.oneCell', Nat.reduceLeDiff, Nat.reduceLT, exists_eq_left', forall_const, reduceCtorEq, app_new, app_new0, List.append_assoc, Int.reduceToNat, Int.reduceLT, Int.reduceLE, Int.reduceEq, Int.reduceNe, Int.reduceBEq, IntKind.bits, bne_self_eq_false, Int.reducePow, g10, g0, g1, g7, g8, g9, hlt', hge, a1, a2, c0, hat]
        refine xgrd_cut (fun ρ h' => get ρ 8 = some (.bool (decide (hasN (l.take (i + 1)) at_ 0))) ∧ get ρ 10 = some (.int .i64 (i : Nat)) ∧ get ρ 0 = some (.slice (some a) l.length c) ∧ get ρ 1 = some (.int .i64 at_) ∧ get ρ 7 = some o ∧ get ρ 9 = some (.bool (decide (hasN (l.take i) at_ 2))) ∧ h' = h1) ?_ ?_
        · by_cases hd : hasN (l.take i) at_ 0
          · have e : hasN (l.take (i + 1)) at_ 0 := sn0.2 (.inl hd)
            simp only [sx, x_box, x_alloc, x_bslice, x_slice, x_append, x_b2s, xop, ev, evs, evParts, fillL, cellsL, Ai.get, Ai.put, stab, isNil?, if_false, if_true, addr?, int?, str?, agg?, bool?, shiftA, FnPost, xresL, xres1, tup, argEnv, ptr, Nat.reduceEqDiff, reduceIte, beq_self_eq_true, ne_eq, Nat.reduceAdd, Nat.reduceMul, Nat.reduceSub, abin_shl, abin_shr, load1V, loadV, storeV, cellsAt, getN, setN, allocV, lenL, lenS, bnd, oneC, Value.oneCell', Nat.reduceLeDiff, Nat.reduceLT, exists_eq_left', forall_const, reduceCtorEq, app_new, app_new0, List.append_assoc, Int.reduceToNat, Int.reduceLT, Int.reduceLE, Int.reduceEq, Int.reduceNe, Int.reduceBEq, IntKind.bits, bne_self_eq_false, Int.reducePow, g10, g0, g1, g7, g8, g9, hlt', hge, a1, a2, c1, hd, e]
          · by_cases hk : x.kind = 0
            · have e : hasN (l.take (i + 1)) at_ 0 := sn0.2 (.inr ⟨hat, hk⟩)
              simp only [sx, x_box, x_alloc, x_bslice, x_slice, x_append, x_b2s, xop, ev, evs, evParts, fillL, cellsL, Ai.get, Ai.put, stab, isNil?, if_false, if_true, addr?, int?, str?, agg?, bool?, shiftA, FnPost, xresL, xres1, tup, argEnv, ptr, Nat.reduceEqDiff, reduceIte, beq_self_eq_true, ne_eq, Nat.reduceAdd, Nat.reduceMul, Nat.reduceSub, abin_shl, abin_shr, load1V, loadV, storeV, cellsAt, getN, setN, allocV, lenL, lenS, bnd, oneC, Value.oneCell', Nat.reduceLeDiff, Nat.reduceLT, exists_eq_left', forall_const, reduceCtorEq, app_new, app_new0, List.append_assoc, Int.reduceToNat, Int.reduceLT, Int.reduceLE, Int.reduceEq, Int.reduceNe, Int.reduceBEq, IntKind.bits, bne_self_eq_false, Int.reducePow, g10, g0, g1, g7, g8, g9, hlt', hge, a1, a2, c1, hd, e, hk]
            · have e : ¬ hasN (l.take (i + 1)) at_ 0 := fun h => by rcases sn0.1 h with h | h; exact hd h; exact hk h.2
              simp only [sx, x_box, x_alloc, x_bslice, x_slice, x_append, x_b2s, xop, ev, evs, evParts, fillL, cellsL, Ai.get, Ai.put, stab, isNil?, if_false, if_true, addr?, int?, str?, agg?, bool?, shiftA, FnPost, xresL, xres1, tup, argEnv, ptr, Nat.reduceEqDiff, reduceIte, beq_self_eq_true, ne_eq, Nat.reduceAdd, Nat.reduceMul, Nat.reduceSub, abin_shl, abin_shr, load1V, loadV, storeV, cellsAt, getN, setN, allocV, lenL, lenS, bnd, oneC, Value.oneCell', Nat.reduceLeDiff, Nat.reduceLT, exists_eq_left', forall_const, reduceCtorEq, app_new, app_new0, List.append_assoc, Int.reduceToNat, Int.reduceLT, Int.reduceLE, Int.reduceEq, Int.reduceNe, Int.reduceBEq, IntKind.bits, bne_self_eq_false, Int.reducePow, g10, g0, g1, g7, g8, g9, hlt', hge, a1, a2, c1, hd, e, hk]
        clear g10 g0 g1 g7 g8 g9 ρ
        rintro ρ h2 ⟨g8, g10, g0, g1, g7, g9, rfl⟩
        simp only [sx, x_box, x_alloc, x_bslice, x_slice, x_append, x_b2s, xop, ev, evs, evParts, fillL, cellsL, Ai.get, Ai.put, stab, isNil?, if_false, if_true, addr?, int?, str?, agg?, bool?, shiftA, FnPost, xresL, xres1, tup, argEnv, ptr, Nat.reduceEqDiff, reduceIte, beq_self_eq_true, ne_eq, Nat.reduceAdd, Nat.reduceMul, Nat.reduceSub, abin_shl, abin_shr, load1V, loadV, storeV, cellsAt, getN, setN, allocV, lenL, lenS, bnd, oneC, Value.oneCell', Nat.reduceLeDiff, Nat.reduceLT, exists_eq_left', forall_const, reduceCtorEq, app_new, app_new0, List.append_assoc, Int.reduceToNat, Int.reduceLT, Int.reduceLE, Int.reduceEq, Int.reduceNe, Int.reduceBEq, IntKind.bits, bne_self_eq_false, Int.reducePow, g10, g0, g1, g7, g8, g9]
        refine xgrd_cut (fun ρ h' => get ρ 8 = some (.bool (decide (hasN (l.take (i + 1)) at_ 0))) ∧ get ρ 10 = some (.int .i64 (i : Nat)) ∧ get ρ 0 = some (.slice (some a) l.length c) ∧ get ρ 1 = some (.int .i64 at_) ∧ get ρ 7 = some o ∧ get ρ 9 = some (.bool (decide (hasN (l.take (i + 1)) at_ 2))) ∧ h' = h2) ?_ ?_
        · by_cases hd : hasN (l.take i) at_ 2
          · have e : hasN (l.take (i + 1)) at_ 2 := sn2.2 (.inl hd)
            simp only [sx, x_box, x_alloc, x_bslice, x_slice, x_append, x_b2s, xop, ev, evs, evParts, fillL, cellsL, Ai.get, Ai.put, stab, isNil?, if_false, if_true, addr?, int?, str?, agg?, bool?, shiftA, FnPost, xresL, xres1, tup, argEnv, ptr, Nat.reduceEqDiff, reduceIte, beq_self_eq_true, ne_eq, Nat.reduceAdd, Nat.reduceMul, Nat.reduceSub, abin_shl, abin_shr, load1V, loadV, storeV, cellsAt, getN, setN, allocV, lenL, lenS, bnd, oneC, Value.oneCell', Nat.reduceLeDiff, Nat.reduceLT, exists_eq_left', forall_const, reduceCtorEq, app_new, app_new0, List.append_assoc, Int.reduceToNat, Int.reduceLT, Int.reduceLE, Int.reduceEq, Int.reduceNe, Int.reduceBEq, IntKind.bits, bne_self_eq_false, Int.reducePow, g10, g0, g1, g7, g8, g9, hlt', hge, a1, a2, c1, hd, e]
          · by_cases hk : x.kind = 2
            · have e : hasN (l.take (i + 1)) at_ 2 := sn2.2 (.inr ⟨hat, hk⟩)
              simp only [sx, x_box, x_alloc, x_bslice, x_slice, x_append, x_b2s, xop, ev, evs, evParts, fillL, cellsL, Ai.get, Ai.put, stab, isNil?, if_false, if_true, addr?, int?, str?, agg?, bool?, shiftA, FnPost, xresL, xres1, tup, argEnv, ptr, Nat.reduceEqDiff, reduceIte, beq_self_eq_true, ne_eq, Nat.reduceAdd, Nat.reduceMul, Nat.reduceSub, abin_shl, abin_shr, load1V, loadV, storeV, cellsAt, getN, setN, allocV, lenL, lenS, bnd, oneC, Value.oneCell', Nat.reduceLeDiff, Nat.reduceLT, exists_eq_left', forall_const, reduceCtorEq, app_new, app_new0, List.append_assoc, Int.reduceToNat, Int.reduceLT, Int.reduceLE, Int.reduceEq, Int.reduceNe, Int.reduceBEq, IntKind.bits, bne_self_eq_false, Int.reducePow, g10, g0, g1, g7, g8, g9, hlt', hge, a1, a2, c1, hd, e, hk]
            · have e : ¬ hasN (l.take (i + 1)) at_ 2 := fun h => by rcases sn2.1 h with h | h; exact hd h; exact hk h.2
              simp only [sx, x_box, x_alloc, x_bslice, x_slice, x_append, x_b2s, xop, ev, evs, evParts, fillL, cellsL, Ai.get, Ai.put, stab, isNil?, if_false, if_true, addr?, int?, str?, agg?, bool?, shiftA, FnPost, xresL, xres1, tup, argEnv, ptr, Nat.reduceEqDiff, reduceIte, beq_self_eq_true, ne_eq, Nat.reduceAdd, Nat.reduceMul, Nat.reduceSub, abin_shl, abin_shr, load1V, loadV, storeV, cellsAt, getN, setN, allocV, lenL, lenS, bnd, oneC, Value.oneCell', Nat.reduceLeDiff, Nat.reduceLT, exists_eq_left', forall_const, reduceCtorEq, app_new, app_new0, List.append_assoc, Int.reduceToNat, Int.reduceLT, Int.reduceLE, Int.reduceEq, Int.reduceNe, Int.reduceBEq, IntKind.bits, bne_self_eq_false, Int.reducePow, g10, g0, g1, g7, g8, g9, hlt', hge, a1, a2, c1, hd, e, hk]
        clear g10 g0 g1 g7 g8 g9 ρ
        rintro ρ h3 ⟨g8, g10, g0, g1, g7, g9, rfl⟩
        generalize flipZ (l.take i) at_ zs = fz at *
        rcases O1 with ⟨rfl, rfl⟩ | ⟨hz, rfl, hO⟩
        · have hfl2 : flip1 at_ [] x = [] := List.eq_nil_of_length_eq_zero (by rw [flip1_len]; rfl)
          by_cases hk : x.kind = 1
          · simp only [sx, x_box, x_alloc, x_bslice, x_slice, x_append, x_b2s, xop, ev, evs, evParts, fillL, cellsL, Ai.get, Ai.put, stab, isNil?, if_false, if_true, addr?, int?, str?, agg?, bool?, shiftA, FnPost, xresL, xres1, tup, argEnv, ptr, Nat.reduceEqDiff, reduceIte, beq_self_eq_true, ne_eq, Nat.reduceAdd, Nat.reduceMul, Nat.reduceSub, abin_shl, abin_shr, load1V, loadV, storeV, cellsAt, getN, setN, allocV, lenL, lenS, bnd, oneC, Value.oneCell', Nat.reduceLeDiff, Nat.reduceLT, exists_eq_left', forall_const, reduceCtorEq, app_new, app_new0, List.append_assoc, Int.reduceToNat, Int.reduceLT, Int.reduceLE, Int.reduceEq, Int.reduceNe, Int.reduceBEq, IntKind.bits, bne_self_eq_false, Int.reducePow, g10, g0, g1, g7, g8, g9, hlt', hge, a1, a2, c1, hk, Int.natCast_zero, Int.lt_irrefl, hw]
            exact ⟨k - 1, by omega, i + 1, by omega, rfl, rfl, rfl, .inl ⟨rfl, by rw [hsn, hfl2]⟩, E1⟩
          · simp only [sx, x_box, x_alloc, x_bslice, x_slice, x_append, x_b2s, xop, ev, evs, evParts, fillL, cellsL, Ai.get, Ai.put, stab, isNil?, if_false, if_true, addr?, int?, str?, agg?, bool?, shiftA, FnPost, xresL, xres1, tup, argEnv, ptr, Nat.reduceEqDiff, reduceIte, beq_self_eq_true, ne_eq, Nat.reduceAdd, Nat.reduceMul, Nat.reduceSub, abin_shl, abin_shr, load1V, loadV, storeV, cellsAt, getN, setN, allocV, lenL, lenS, bnd, oneC, Value.oneCell', Nat.reduceLeDiff, Nat.reduceLT, exists_eq_left', forall_const, reduceCtorEq, app_new, app_new0, List.append_assoc, Int.reduceToNat, Int.reduceLT, Int.reduceLE, Int.reduceEq, Int.reduceNe, Int.reduceBEq, IntKind.bits, bne_self_eq_false, Int.reducePow, g10, g0, g1, g7, g8, g9, hlt', hge, a1, a2, c1, hk, hw]
            exact ⟨k - 1, by omega, i + 1, by omega, rfl, rfl, rfl, .inl ⟨rfl, by rw [hsn, hfl2]⟩, E1⟩
        · by_cases hk : x.kind = 1
          · have hpos : (0 : Int) < fz.length := by have := List.length_pos_iff.2 hz; omega
            have hn0 : ¬ (fz.length : Int) = 0 := by omega
            have hm1 : 0 ≤ x.bit.tmod fz.length := Int.tmod_nonneg _ hxb
            have hm2 : x.bit.tmod fz.length < fz.length := Int.tmod_lt_of_pos _ hpos
            have hk2 : (x.bit.tmod fz.length).toNat < fz.length := by omega
            obtain ⟨z, hz1, hz2⟩ : ∃ z, fz[(x.bit.tmod fz.length).toNat]? = some z ∧ (z = 0 ∨ z = 1) := ⟨_, List.getElem?_eq_getElem hk2, hfb _ (List.getElem_mem hk2)⟩
            have hz3 : (bR fz)[(x.bit.tmod fz.length).toNat]? = some (.int .u8 z) := by rw [bR_get, hz1]; rfl
            have hle : (x.bit.tmod fz.length).toNat + 1 ≤ (bR fz).length := by rw [bR_len]; omega
            have hwz : IntKind.u8.wrap (1 - z) = 1 - z := by rcases hz2 with rfl | rfl <;> rfl
            have hfl3 : flip1 at_ fz x = fz.set (x.bit.tmod fz.length).toNat (1 - z) := by
              unfold flip1; rw [if_pos ⟨hat, hk⟩]; congr 2; simp [List.getD_eq_getElem?_getD, hz1]
            simp only [sx, x_box, x_alloc, x_bslice, x_slice, x_append, x_b2s, xop, ev, evs, evParts, fillL, cellsL, Ai.get, Ai.put, stab, isNil?, if_false, if_true, addr?, int?, str?, agg?, bool?, shiftA, FnPost, xresL, xres1, tup, argEnv, ptr, Nat.reduceEqDiff, reduceIte, beq_self_eq_true, ne_eq, Nat.reduceAdd, Nat.reduceMul, Nat.reduceSub, abin_shl, abin_shr, load1V, loadV, storeV, cellsAt, getN, setN, allocV, lenL, lenS, bnd, oneC, Value.oneCell', Nat.reduceLeDiff, Nat.reduceLT, exists_eq_left', forall_const, reduceCtorEq, app_new, app_new0, List.append_assoc, Int.reduceToNat, Int.reduceLT, Int.reduceLE, Int.reduceEq, Int.reduceNe, Int.reduceBEq, IntKind.bits, bne_self_eq_false, Int.reducePow, g10, g0, g1, g7, g8, g9, hlt', hge, a1, a2, c1, c2, hk, hpos, hn0, hm1, hm2, hO, hz3, hle, hwz, bR_set, Nat.mul_one, hw]
            refine ⟨k - 1, by omega, i + 1, by omega, rfl, rfl, rfl, .inr ⟨?_, ?_, ?_⟩, E1.set (Nat.le_refl _) _⟩
            · rw [hsn, hfl3]; intro e; have := congrArg List.length e; simp at this; exact hz this
            · rw [hsn, hfl3]; simp
            · rw [set_same hO, hsn, hfl3]
          · have hfl3 : flip1 at_ fz x = fz := by unfold flip1; rw [if_neg fun h => hk h.2]
            simp only [sx, x_box, x_alloc, x_bslice, x_slice, x_append, x_b2s, xop, ev, evs, evParts, fillL, cellsL, Ai.get, Ai.put, stab, isNil?, if_false, if_true, addr?, int?, str?, agg?, bool?, shiftA, FnPost, xresL, xres1, tup, argEnv, ptr, Nat.reduceEqDiff, reduceIte, beq_self_eq_true, ne_eq, Nat.reduceAdd, Nat.reduceMul, Nat.reduceSub, abin_shl, abin_shr, load1V, loadV, storeV, cellsAt, getN, setN, allocV, lenL, lenS, bnd, oneC, Value.oneCell', Nat.reduceLeDiff, Nat.reduceLT, exists_eq_left', forall_const, reduceCtorEq, app_new, app_new0, List.append_assoc, Int.reduceToNat, Int.reduceLT, Int.reduceLE, Int.reduceEq, Int.reduceNe, Int.reduceBEq, IntKind.bits, bne_self_eq_false, Int.reducePow, g10, g0, g1, g7, g8, g9, hlt', hge, a1, a2, c1, hk, hw]
            exact ⟨k - 1, by omega, i + 1, by omega, rfl, rfl, rfl, .inr ⟨by rw [hsn, hfl3]; exact hz, by rw [hsn, hfl3], by rw [hsn, hfl3]; exact hO⟩, E1⟩
      · have hfl3 : flip1 at_ (flipZ (l.take i) at_ zs) x = flipZ (l.take i) at_ zs := by unfold flip1; rw [if_neg fun h => hat h.1]
        have s0 : decide (hasN (l.take (i + 1)) at_ 0) = decide (hasN (l.take i) at_ 0) := decide_eq_decide.2 ⟨fun h => (sn0.1 h).resolve_right fun h => hat h.1, fun h => sn0.2 (.inl h)⟩
        have s2 : decide (hasN (l.take (i + 1)) at_ 2) = decide (hasN (l.take i) at_ 2) := decide_eq_decide.2 ⟨fun h => (sn2.1 h).resolve_right fun h => hat h.1, fun h => sn2.2 (.inl h)⟩
        simp only [sx, x_box, x_alloc, x_bslice, x_slice, x_append, x_b2s, xop, ev, evs, evParts, fillL, cellsL, Ai.get, Ai.put, stab, isNil?, if_false, if_true, addr?, int?, str?, agg?, bool?, shiftA, FnPost, xresL, xres1, tup, argEnv, ptr, Nat.reduceEqDiff, reduceIte, beq_self_eq_true, ne_eq, Nat.reduceAdd, Nat.reduceMul, Nat.reduceSub, abin_shl, abin_shr, load1V, loadV, storeV, cellsAt, getN, setN, allocV, lenL, lenS, bnd, oneC, Value.oneCell', Nat.reduceLeDiff, Nat.reduceLT, exists_eq_left', forall_const, reduceCtorEq, app_new, app_new0, List.append_assoc, Int.reduceToNat, Int.reduceLT, Int.reduceLE, Int.reduceEq, Int.reduceNe, Int.reduceBEq, IntKind.bits, bne_self_eq_false, Int.reducePow, g10, g0, g1, g7, g8, g9, hlt', hge, a1, a2, c0, hat, hw]
        exact ⟨k - 1, by omega, i + 1, by omega, rfl, by rw [s0], by rw [s2], by rw [hsn, hfl3]; exact O1, E1⟩
  · have hlt' : ¬ (i : Int) < l.length := by omega
    have : i = l.length := by omega
    subst this
    rw [List.take_length] at g8 g9 O1
    simp only [sx, x_box, x_alloc, x_bslice, x_slice, x_append, x_b2s, xop, ev, evs, evParts, fillL, cellsL, Ai.get, Ai.put, stab, isNil?, if_false, if_true, addr?, int?, str?, agg?, bool?, shiftA, FnPost, xresL, xres1, tup, argEnv, ptr, Nat.reduceEqDiff, reduceIte, beq_self_eq_true, ne_eq, Nat.reduceAdd, Nat.reduceMul, Nat.reduceSub, abin_shl, abin_shr, load1V, loadV, storeV, cellsAt, getN, setN, allocV, lenL, lenS, bnd, oneC, Value.oneCell', Nat.reduceLeDiff, Nat.reduceLT, exists_eq_left', forall_const, reduceCtorEq, app_new, app_new0, List.append_assoc, Int.reduceToNat, Int.reduceLT, Int.reduceLE, Int.reduceEq, Int.reduceNe, Int.reduceBEq, IntKind.bits, bne_self_eq_false, Int.reducePow, g10, g0, g1, g7, g8, g9, hlt']
    have hfl : (flipZ l at_ zs).length = m := by rw [flipZ_len, hzl]
    by_cases hd : hasN l at_ 0
    · have hrem : remZ l at_ zs = [] := by unfold remZ; rw [if_pos hd]
      rw [hrem]
      simp only [sx, x_box, x_alloc, x_bslice, x_slice, x_append, x_b2s, xop, ev, evs, evParts, fillL, cellsL, Ai.get, Ai.put, stab, isNil?, if_false, if_true, addr?, int?, str?, agg?, bool?, shiftA, FnPost, xresL, xres1, tup, argEnv, ptr, Nat.reduceEqDiff, reduceIte, beq_self_eq_true, ne_eq, Nat.reduceAdd, Nat.reduceMul, Nat.reduceSub, abin_shl, abin_shr, load1V, loadV, storeV, cellsAt, getN, setN, allocV, lenL, lenS, bnd, oneC, Value.oneCell', Nat.reduceLeDiff, Nat.reduceLT, exists_eq_left', forall_const, reduceCtorEq, app_new, app_new0, List.append_assoc, Int.reduceToNat, Int.reduceLT, Int.reduceLE, Int.reduceEq, Int.reduceNe, Int.reduceBEq, IntKind.bits, bne_self_eq_false, Int.reducePow, g10, g0, g1, g7, g8, g9, hd]
      exact ⟨⟨rfl, .inl ⟨rfl, rfl⟩⟩, E1, fun A hA => by cases hA⟩
    · by_cases ht : hasN l at_ 2
      · have hrem : remZ l at_ zs = flipZ l at_ zs ++ flipZ l at_ zs := by unfold remZ; rw [if_neg hd, if_pos ht]
        rw [hrem]
        generalize flipZ l at_ zs = fz at *
        have hO := O1.ret
        rcases O1 with ⟨rfl, rfl⟩ | ⟨hz, rfl, hO2⟩
        · simp only [sx, x_box, x_alloc, x_bslice, x_slice, x_append, x_b2s, xop, ev, evs, evParts, fillL, cellsL, Ai.get, Ai.put, stab, isNil?, if_false, if_true, addr?, int?, str?, agg?, bool?, shiftA, FnPost, xresL, xres1, tup, argEnv, ptr, Nat.reduceEqDiff, reduceIte, beq_self_eq_true, ne_eq, Nat.reduceAdd, Nat.reduceMul, Nat.reduceSub, abin_shl, abin_shr, load1V, loadV, storeV, cellsAt, getN, setN, allocV, lenL, lenS, bnd, oneC, Value.oneCell', Nat.reduceLeDiff, Nat.reduceLT, exists_eq_left', forall_const, reduceCtorEq, app_new, app_new0, List.append_assoc, Int.reduceToNat, Int.reduceLT, Int.reduceLE, Int.reduceEq, Int.reduceNe, Int.reduceBEq, IntKind.bits, bne_self_eq_false, Int.reducePow, g10, g0, g1, g7, g8, g9, hd, ht, lenV, firstV, appendV]
          exact ⟨⟨rfl, .inl ⟨rfl, rfl⟩⟩, E1, fun A hA => by cases hA⟩
        · have hlen0 : fz.length ≠ 0 := fun e => hz (List.eq_nil_of_length_eq_zero e)
          simp only [sx, x_box, x_alloc, x_bslice, x_slice, x_b2s, xop, ev, evs, evParts, fillL, cellsL, Ai.get, Ai.put, stab, isNil?, if_false, if_true, addr?, int?, str?, agg?, bool?, shiftA, FnPost, xresL, xres1, tup, argEnv, ptr, Nat.reduceEqDiff, reduceIte, beq_self_eq_true, ne_eq, Nat.reduceAdd, Nat.reduceMul, Nat.reduceSub, abin_shl, abin_shr, load1V, loadV, storeV, cellsAt, getN, setN, allocV, lenL, lenS, bnd, oneC, Value.oneCell', Nat.reduceLeDiff, Nat.reduceLT, exists_eq_left', forall_const, reduceCtorEq, app_new, app_new0, List.append_assoc, Int.reduceToNat, Int.reduceLT, Int.reduceLE, Int.reduceEq, Int.reduceNe, Int.reduceBEq, IntKind.bits, bne_self_eq_false, Int.reducePow, g10, g0, g1, g7, g8, g9, hd, ht]
          refine append_run (k := 1) (by_ := 1) (n := 0) (m := fz.length) (rows := []) (news := bR fz) (sl := .slice none 0 0) (xv := .slice (some ⟨h.length, 0, none⟩) fz.length (unk + 1)) ?_ ?_ ?_ ?_ ?_ hO.first (by rw [bR_len]; omega) (bR_one _) ⟨rfl, .inl ⟨rfl, rfl⟩⟩ (by omega) (by omega) (fun h0 => absurd h0 hlen0) ?_
          · rfl
          · decide
          · rfl
          · rfl
          · rfl
          intro _ h2 A2 hA2 hg2 hl2 hfr2
          have hO3 : Ret 1 h2 (.slice (some ⟨h.length, 0, none⟩) fz.length (unk + 1)) fz.length (bR fz) := hO.keep fun A x hA hx => by rw [hfr2 A (lt_of_get hx) (by simp [slB])]; exact hx
          have hR2 : RetO 1 h2 (.slice (some ⟨A2, 0, none⟩) fz.length (unk + 1)) fz.length (bR fz) :=
            ⟨by simp [bR_len], .inr (.inr ⟨A2, 0, _, rfl, hg2, getN_all _ _ (by simp [bR_len])⟩)⟩
          have hE2 : Ext h1 h2 := ⟨by omega, fun B hB => hfr2 B hB (by simp [slB])⟩
          simp only [sx, x_box, x_alloc, x_bslice, x_slice, x_b2s, xop, ev, evs, evParts, fillL, cellsL, Ai.get, Ai.put, stab, isNil?, if_false, if_true, addr?, int?, str?, agg?, bool?, shiftA, FnPost, xresL, xres1, tup, argEnv, ptr, Nat.reduceEqDiff, reduceIte, beq_self_eq_true, ne_eq, Nat.reduceAdd, Nat.reduceMul, Nat.reduceSub, abin_shl, abin_shr, load1V, loadV, storeV, cellsAt, getN, setN, allocV, lenL, lenS, bnd, oneC, Value.oneCell', Nat.reduceLeDiff, Nat.reduceLT, exists_eq_left', forall_const, reduceCtorEq, app_new, app_new0, List.append_assoc, Int.reduceToNat, Int.reduceLT, Int.reduceLE, Int.reduceEq, Int.reduceNe, Int.reduceBEq, IntKind.bits, bne_self_eq_false, Int.reducePow, g10, g0, g1, g7]
          refine append_run (k := 1) (by_ := 1) (n := fz.length) (m := fz.length) (rows := bR fz) (news := bR fz) (sl := .slice (some ⟨A2, 0, none⟩) fz.length (unk + 1)) (xv := .slice (some ⟨h.length, 0, none⟩) fz.length (unk + 1)) ?_ ?_ ?_ ?_ ?_ hO3.first (by rw [bR_len]; omega) (bR_one _) hR2 (by omega) (by omega) (fun h0 => absurd h0 hlen0) ?_
          · rfl
          · decide
          · rfl
          · rfl
          · rfl
          intro _ h3 A3 hA3 hg3 hl3 hfr3
          simp only [sx, x_box, x_alloc, x_bslice, x_slice, x_append, x_b2s, xop, ev, evs, evParts, fillL, cellsL, Ai.get, Ai.put, stab, isNil?, if_false, if_true, addr?, int?, str?, agg?, bool?, shiftA, FnPost, xresL, xres1, tup, argEnv, ptr, Nat.reduceEqDiff, reduceIte, beq_self_eq_true, ne_eq, Nat.reduceAdd, Nat.reduceMul, Nat.reduceSub, abin_shl, abin_shr, load1V, loadV, storeV, cellsAt, getN, setN, allocV, lenL, lenS, bnd, oneC, Value.oneCell', Nat.reduceLeDiff, Nat.reduceLT, exists_eq_left', forall_const, reduceCtorEq, app_new, app_new0, List.append_assoc, Int.reduceToNat, Int.reduceLT, Int.reduceLE, Int.reduceEq, Int.reduceNe, Int.reduceBEq, IntKind.bits, bne_self_eq_false, Int.reducePow]
          have hE3 : Ext h h3 := ⟨by have := E1.1; omega, fun B hB => by
            have := E1.1
            rw [hfr3 B (by omega) (by simp [slB]; omega)]; exact (E1.trans hE2).2 B hB⟩
          refine ⟨⟨by rw [bR_len, Nat.mul_one, List.length_append], .inr (.inr ⟨A3, rfl, ?_⟩)⟩, hE3, fun A hA => ?_⟩
          · rw [hg3, bR_append]
          · simp [slB] at hA; subst hA
            have := lt_of_get hg3; have := E1.1
            exact ⟨by omega, by omega⟩
      · have hrem : remZ l at_ zs = flipZ l at_ zs := by unfold remZ; rw [if_neg hd, if_neg ht]
        rw [hrem]
        have hO := O1.ret
        obtain ⟨oq, oc, rfl, _⟩ := hO.shape
        simp only [sx, x_box, x_alloc, x_bslice, x_slice, x_append, x_b2s, xop, ev, evs, evParts, fillL, cellsL, Ai.get, Ai.put, stab, isNil?, if_false, if_true, addr?, int?, str?, agg?, bool?, shiftA, FnPost, xresL, xres1, tup, argEnv, ptr, Nat.reduceEqDiff, reduceIte, beq_self_eq_true, ne_eq, Nat.reduceAdd, Nat.reduceMul, Nat.reduceSub, abin_shl, abin_shr, load1V, loadV, storeV, cellsAt, getN, setN, allocV, lenL, lenS, bnd, oneC, Value.oneCell', Nat.reduceLeDiff, Nat.reduceLT, exists_eq_left', forall_const, reduceCtorEq, app_new, app_new0, List.append_assoc, Int.reduceToNat, Int.reduceLT, Int.reduceLE, Int.reduceEq, Int.reduceNe, Int.reduceBEq, IntKind.bits, bne_self_eq_false, Int.reducePow, g10, g0, g1, g7, g8, g9, hd, ht]
        refine ⟨hO, E1, fun A hA => ?_⟩
        rcases O1 with ⟨e, _⟩ | ⟨_, e, hO2⟩
        · rw [e] at hA; cases hA
        · rw [e] at hA; simp [slB] at hA; subst hA
          exact ⟨Nat.le_refl _, lt_of_get hO2⟩
end Go.Proofs.Ytemphcppnjlkcaa
