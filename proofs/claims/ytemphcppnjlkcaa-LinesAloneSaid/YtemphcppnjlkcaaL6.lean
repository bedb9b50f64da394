import Derived.Test.YtemphcppnjlkcaaL5
set_option linter.unusedVariables false
set_option linter.unusedSimpArgs false
namespace Go.Proofs.Ytemphcppnjlkcaa
open Go Go.Ai Go.Proofs

theorem checkV_bit {zs : List Int} (h : checkV zs = 0) (hp : ∀ z ∈ zs, 0 ≤ z) : zs.length ≤ 1048576 ∧ ∀ z ∈ zs, z = 0 ∨ z = 1 := by
  unfold checkV at h
  split at h
  · cases h
  · split at h
    · cases h
    · rename_i h1 h2
      refine ⟨by omega, fun z hz => ?_⟩
      have := hp z hz
      have : ¬ 1 < z := fun h => h2 ⟨z, hz, h⟩
      omega

section
variable {h : AHeap} {X : Nat} {delay now sent waiting : Int} {l : List Nz} {nq : Option Addr} {nc : Nat} {usl : Value} {us : List Bu} {qs : Option Addr} {n cs : Nat} {zs : List Int}

theorem send_bad (L : LineAt h X delay now sent waiting l nq nc usl us) (hd : delay ≠ 0) (hs : firstV 1 h n (.slice qs n cs) = some (bR zs)) (hn : n ≤ 1152921504606846976) (hc : checkV zs ≠ 0) :
    Valid Try.prog 14 [ptr X 0, .slice qs n cs] h fun r h' => r = .int .i64 (checkV zs) ∧ Ext h h' := by
  refine v14 (by simp) ?_
  have hX := L.obj
  unfold lineC at hX
  simp only [X14, sx, x_box, x_alloc, x_bslice, x_slice, x_append, x_b2s, xop, ev, evs, evParts, fillL, cellsL, Ai.get, Ai.put, stab, isNil?, if_false, if_true, addr?, int?, str?, agg?, bool?, shiftA, FnPost, xresL, xres1, tup, argEnv, ptr, Nat.reduceEqDiff, reduceIte, beq_self_eq_true, ne_eq, Nat.reduceAdd, Nat.reduceMul, Nat.reduceSub, abin_shl, abin_shr, load1V, loadV, storeV, cellsAt, getN, setN, allocV, lenL, lenS, bnd, oneC, Value.oneCell', Nat.reduceLeDiff, Nat.reduceLT, exists_eq_left', forall_const, reduceCtorEq, app_new, app_new0, List.append_assoc, Int.reduceToNat, Int.reduceLT, Int.reduceLE, Int.reduceEq, Int.reduceNe, Int.reduceBEq, IntKind.bits, bne_self_eq_false, Int.reducePow, hX, hd]
  refine xcall (check_ok hs hn) (by rfl) (by rfl) (by rfl) (by rfl) ?_
  rintro r h1 ⟨rfl, J, rfl⟩
  simp only [sx, x_box, x_alloc, x_bslice, x_slice, x_append, x_b2s, xop, ev, evs, evParts, fillL, cellsL, Ai.get, Ai.put, stab, isNil?, if_false, if_true, addr?, int?, str?, agg?, bool?, shiftA, FnPost, xresL, xres1, tup, argEnv, ptr, Nat.reduceEqDiff, reduceIte, beq_self_eq_true, ne_eq, Nat.reduceAdd, Nat.reduceMul, Nat.reduceSub, abin_shl, abin_shr, load1V, loadV, storeV, cellsAt, getN, setN, allocV, lenL, lenS, bnd, oneC, Value.oneCell', Nat.reduceLeDiff, Nat.reduceLT, exists_eq_left', forall_const, reduceCtorEq, app_new, app_new0, List.append_assoc, Int.reduceToNat, Int.reduceLT, Int.reduceLE, Int.reduceEq, Int.reduceNe, Int.reduceBEq, IntKind.bits, bne_self_eq_false, Int.reducePow, hc]
  exact Ext.app _ _

theorem send_full (L : LineAt h X delay now sent waiting l nq nc usl us) (hd : delay ≠ 0) (hll : l.length ≤ 1024) (hs : firstV 1 h n (.slice qs n cs) = some (bR zs)) (hp : ∀ z ∈ zs, 0 ≤ z) (hc : checkV zs = 0) (hnz : ∀ x ∈ l, 0 ≤ x.bit)
    (hw0 : 0 ≤ waiting) (hw1 : waiting ≤ 1048576) (hf : 1048576 < waiting + (remZ l sent zs).length) :
    Valid Try.prog 14 [ptr X 0, .slice qs n cs] h fun r h' => r = .int .i64 9 ∧ Ext h h' := by
  obtain ⟨hl1, hb1⟩ := checkV_bit hc hp
  have hzl := firstV_len hs
  rw [bR_len, Nat.mul_one] at hzl
  have hrl : (remZ l sent zs).length ≤ 2097152 := by
    have := flipZ_len l sent zs
    unfold remZ; split
    · simp
    · split
      · simp; omega
      · omega
  refine v14 (by simp) ?_
  have hX := L.obj
  unfold lineC at hX
  simp only [X14, sx, x_box, x_alloc, x_bslice, x_slice, x_append, x_b2s, xop, ev, evs, evParts, fillL, cellsL, Ai.get, Ai.put, stab, isNil?, if_false, if_true, addr?, int?, str?, agg?, bool?, shiftA, FnPost, xresL, xres1, tup, argEnv, ptr, Nat.reduceEqDiff, reduceIte, beq_self_eq_true, ne_eq, Nat.reduceAdd, Nat.reduceMul, Nat.reduceSub, abin_shl, abin_shr, load1V, loadV, storeV, cellsAt, getN, setN, allocV, lenL, lenS, bnd, oneC, Value.oneCell', Nat.reduceLeDiff, Nat.reduceLT, exists_eq_left', forall_const, reduceCtorEq, app_new, app_new0, List.append_assoc, Int.reduceToNat, Int.reduceLT, Int.reduceLE, Int.reduceEq, Int.reduceNe, Int.reduceBEq, IntKind.bits, bne_self_eq_false, Int.reducePow, hX, hd]
  refine xcall (check_ok hs (by omega)) (by rfl) (by rfl) (by rfl) (by rfl) ?_
  rintro r h1 ⟨rfl, J, rfl⟩
  simp only [sx, x_box, x_alloc, x_bslice, x_slice, x_append, x_b2s, xop, ev, evs, evParts, fillL, cellsL, Ai.get, Ai.put, stab, isNil?, if_false, if_true, addr?, int?, str?, agg?, bool?, shiftA, FnPost, xresL, xres1, tup, argEnv, ptr, Nat.reduceEqDiff, reduceIte, beq_self_eq_true, ne_eq, Nat.reduceAdd, Nat.reduceMul, Nat.reduceSub, abin_shl, abin_shr, load1V, loadV, storeV, cellsAt, getN, setN, allocV, lenL, lenS, bnd, oneC, Value.oneCell', Nat.reduceLeDiff, Nat.reduceLT, exists_eq_left', forall_const, reduceCtorEq, app_new, app_new0, List.append_assoc, Int.reduceToNat, Int.reduceLT, Int.reduceLE, Int.reduceEq, Int.reduceNe, Int.reduceBEq, IntKind.bits, bne_self_eq_false, Int.reducePow, hc]
  refine xcall (remains_ok (L.ext (Ext.app _ _)) hll (firstV_app hs) (by omega) hb1 hnz) (by rfl) (by rfl) (by rfl) (by rfl) ?_
  rintro r h2 ⟨E2, B2, _⟩
  obtain ⟨q, c, rfl⟩ := B2.len
  have hX2 := (L.ext ((Ext.app h J).trans E2)).obj
  unfold lineC at hX2
  have hw : IntKind.i64.wrap (waiting + ((remZ l sent zs).length : Nat)) = waiting + ((remZ l sent zs).length : Nat) := i64_wrap (by omega) (by omega)
  simp only [sx, x_box, x_alloc, x_bslice, x_slice, x_append, x_b2s, xop, ev, evs, evParts, fillL, cellsL, Ai.get, Ai.put, stab, isNil?, if_false, if_true, addr?, int?, str?, agg?, bool?, shiftA, FnPost, xresL, xres1, tup, argEnv, ptr, Nat.reduceEqDiff, reduceIte, beq_self_eq_true, ne_eq, Nat.reduceAdd, Nat.reduceMul, Nat.reduceSub, abin_shl, abin_shr, load1V, loadV, storeV, cellsAt, getN, setN, allocV, lenL, lenS, bnd, oneC, Value.oneCell', Nat.reduceLeDiff, Nat.reduceLT, exists_eq_left', forall_const, reduceCtorEq, app_new, app_new0, List.append_assoc, Int.reduceToNat, Int.reduceLT, Int.reduceLE, Int.reduceEq, Int.reduceNe, Int.reduceBEq, IntKind.bits, bne_self_eq_false, Int.reducePow, hX2, hw, hf]
  exact (Ext.app h J).trans E2

set_option maxHeartbeats 1000000 in
theorem send_ok (L : LineAt h X delay now sent waiting l nq nc usl us) (hd : delay ≠ 0) (hll : l.length ≤ 1024) (hs : firstV 1 h n (.slice qs n cs) = some (bR zs)) (hp : ∀ z ∈ zs, 0 ≤ z) (hc : checkV zs = 0) (hnz : ∀ x ∈ l, 0 ≤ x.bit)
    (hw0 : 0 ≤ waiting) (hw1 : waiting ≤ 1048576) (hf : ¬ 1048576 < waiting + (remZ l sent zs).length) (hd0 : 0 ≤ delay) (hd1 : delay ≤ 64) (hn0 : 0 ≤ now) (hn1 : now ≤ 1048576) (hs0 : 0 ≤ sent) (hs1 : sent ≤ 1048576) (hus : us.length ≤ 1048576) :
    Valid Try.prog 14 [ptr X 0, .slice qs n cs] h fun r h' => r = .int .i64 0 ∧ ∃ usl' v, LineAt h' X delay now (sent + 1) (waiting + (remZ l sent zs).length) l nq nc usl' (us ++ [⟨now + delay, v, remZ l sent zs⟩]) ∧
      FrL h h' X usl ∧ (∃ A, slB usl' = some A ∧ h.length ≤ A) ∧ ∀ A, slB v = some A → h.length ≤ A := by
  obtain ⟨hl1, hb1⟩ := checkV_bit hc hp
  have hzl := firstV_len hs
  rw [bR_len, Nat.mul_one] at hzl
  refine v14 (by simp) ?_
  have hX := L.obj
  unfold lineC at hX
  simp only [X14, sx, x_box, x_alloc, x_bslice, x_slice, x_append, x_b2s, xop, ev, evs, evParts, fillL, cellsL, Ai.get, Ai.put, stab, isNil?, if_false, if_true, addr?, int?, str?, agg?, bool?, shiftA, FnPost, xresL, xres1, tup, argEnv, ptr, Nat.reduceEqDiff, reduceIte, beq_self_eq_true, ne_eq, Nat.reduceAdd, Nat.reduceMul, Nat.reduceSub, abin_shl, abin_shr, load1V, loadV, storeV, cellsAt, getN, setN, allocV, lenL, lenS, bnd, oneC, Value.oneCell', Nat.reduceLeDiff, Nat.reduceLT, exists_eq_left', forall_const, reduceCtorEq, app_new, app_new0, List.append_assoc, Int.reduceToNat, Int.reduceLT, Int.reduceLE, Int.reduceEq, Int.reduceNe, Int.reduceBEq, IntKind.bits, bne_self_eq_false, Int.reducePow, hX, hd]
  refine xcall (check_ok hs (by omega)) (by rfl) (by rfl) (by rfl) (by rfl) ?_
  rintro r h1 ⟨rfl, J, rfl⟩
  simp only [sx, x_box, x_alloc, x_bslice, x_slice, x_append, x_b2s, xop, ev, evs, evParts, fillL, cellsL, Ai.get, Ai.put, stab, isNil?, if_false, if_true, addr?, int?, str?, agg?, bool?, shiftA, FnPost, xresL, xres1, tup, argEnv, ptr, Nat.reduceEqDiff, reduceIte, beq_self_eq_true, ne_eq, Nat.reduceAdd, Nat.reduceMul, Nat.reduceSub, abin_shl, abin_shr, load1V, loadV, storeV, cellsAt, getN, setN, allocV, lenL, lenS, bnd, oneC, Value.oneCell', Nat.reduceLeDiff, Nat.reduceLT, exists_eq_left', forall_const, reduceCtorEq, app_new, app_new0, List.append_assoc, Int.reduceToNat, Int.reduceLT, Int.reduceLE, Int.reduceEq, Int.reduceNe, Int.reduceBEq, IntKind.bits, bne_self_eq_false, Int.reducePow, hc]
  refine xcall (remains_ok (L.ext (Ext.app _ _)) hll (firstV_app hs) (by omega) hb1 hnz) (by rfl) (by rfl) (by rfl) (by rfl) ?_
  rintro r h2 ⟨E2, B2, A2⟩
  have E := (Ext.app h J).trans E2
  have hJ : h.length ≤ (h ++ J).length := by simp
  generalize remZ l sent zs = out at *
  obtain ⟨q, c, rfl⟩ := B2.len
  have L2 := L.ext E
  have hX2 := L2.obj
  have hXl := lt_of_get hX2
  unfold lineC at hX2
  have hw : IntKind.i64.wrap (waiting + (out.length : Nat)) = waiting + (out.length : Nat) := i64_wrap (by omega) (by omega)
  have hw2 : IntKind.i64.wrap (now + delay) = now + delay := i64_wrap (by omega) (by omega)
  have hw3 : IntKind.i64.wrap (sent + 1) = sent + 1 := i64_wrap (by omega) (by omega)
  obtain ⟨uq, uc, rfl, _⟩ := L2.und.shape
  simp only [sx, x_box, x_alloc, x_bslice, x_slice, x_b2s, xop, ev, evs, evParts, fillL, cellsL, Ai.get, Ai.put, stab, isNil?, if_false, if_true, addr?, int?, str?, agg?, bool?, shiftA, FnPost, xresL, xres1, tup, argEnv, ptr, Nat.reduceEqDiff, reduceIte, beq_self_eq_true, ne_eq, Nat.reduceAdd, Nat.reduceMul, Nat.reduceSub, abin_shl, abin_shr, load1V, loadV, storeV, cellsAt, getN, setN, allocV, lenL, lenS, bnd, oneC, Value.oneCell', Nat.reduceLeDiff, Nat.reduceLT, exists_eq_left', forall_const, reduceCtorEq, app_new, app_new0, List.append_assoc, Int.reduceToNat, Int.reduceLT, Int.reduceLE, Int.reduceEq, Int.reduceNe, Int.reduceBEq, IntKind.bits, bne_self_eq_false, Int.reducePow, hX2, hw, hf, hw2, app_old hX2]
  have hnew : (h2 ++ [some ⟨true, [.int .i64 (now + delay), .slice q out.length c]⟩])[h2.length]? = some (some ⟨true, [.int .i64 (now + delay), .slice q out.length c]⟩) := by rw [app_new0]; rfl
  refine append_run (k := 2) (by_ := 32) (n := us.length) (m := 1) (rows := rowsU us) (news := [.int .i64 (now + delay), .slice q out.length c]) (sl := .slice uq us.length uc) (xv := .slice (some ⟨h2.length, 0, none⟩) 1 1) ?_ ?_ ?_ ?_ ?_ ?_ ?_ ?_ (L2.und.keep fun A x _ hx => app_old hx) (by omega) (by omega) (fun h0 => by omega) ?_
  · rfl
  · decide
  · rfl
  · rfl
  · rfl
  · simp [firstV, cellsAt, getN]
  · rfl
  · rfl
  intro _ h3 A' hA' hg hl3 hfr
  simp only [List.length_append, List.length_cons, List.length_nil, Nat.zero_add] at hA' hl3 hfr
  have hgo : ∀ (B : Nat) x, h2[B]? = some x → slB (.slice uq us.length uc) ≠ some B → h3[B]? = some x := fun B x hB hne => by rw [hfr B (by have := lt_of_get hB; omega) hne]; exact app_old hB
  have hXu : slB (.slice uq us.length uc) ≠ some X := fun e => (L2.ult X e).1 rfl
  have hX3 := hgo _ _ hX2 hXu
  have hset := set_same hX3
  have hX3l := lt_of_get hX3
  simp only [sx, x_box, x_alloc, x_bslice, x_slice, x_append, x_b2s, xop, ev, evs, evParts, fillL, cellsL, Ai.get, Ai.put, stab, isNil?, if_false, if_true, addr?, int?, str?, agg?, bool?, shiftA, FnPost, xresL, xres1, tup, argEnv, ptr, Nat.reduceEqDiff, reduceIte, beq_self_eq_true, ne_eq, Nat.reduceAdd, Nat.reduceMul, Nat.reduceSub, abin_shl, abin_shr, load1V, loadV, storeV, cellsAt, getN, setN, allocV, lenL, lenS, bnd, oneC, Value.oneCell', Nat.reduceLeDiff, Nat.reduceLT, exists_eq_left', forall_const, reduceCtorEq, app_new, app_new0, List.append_assoc, Int.reduceToNat, Int.reduceLT, Int.reduceLE, Int.reduceEq, Int.reduceNe, Int.reduceBEq, IntKind.bits, bne_self_eq_false, Int.reducePow, hX3, hset, hw, hw3, List.set_set]
  have hXA : A' ≠ X := by omega
  have hfin : ∀ (B : Nat) x, h2[B]? = some x → slB (.slice uq us.length uc) ≠ some B → B ≠ X → (h3.set X (some ⟨true, [.int .i64 delay, .slice nq l.length nc, .int .i64 now, .int .i64 (sent + 1), .int .i64 (waiting + (out.length : Nat)), .slice (some ⟨A', 0, none⟩) (us.length + 1) (unk + 2)]⟩))[B]? = some x := fun B x hB h1 h2 => by
    rw [set_ne (Ne.symm h2)]; exact hgo B x hB h1
  refine ⟨.slice (some ⟨A', 0, none⟩) (us.length + 1) (unk + 2), .slice q out.length c, ⟨?_, ?_, ?_, ?_, ?_, ?_⟩, ⟨by have := E.1; simp; omega, fun B hB h1 h2' => ?_⟩, ⟨A', rfl, by have := E.1; omega⟩, fun A hA => Nat.le_trans hJ (A2 A hA).1⟩
  · simp [lineC, hX3l]
  · refine first_fr L2.noise fun a ha => ?_
    have := L2.nlt a ha
    rw [set_ne (Ne.symm this.1), hfr _ (by omega) this.2.1, List.getElem?_append_left this.2.2]
  · intro a ha
    have := L2.nlt a ha
    refine ⟨this.1, ?_, by simp; omega⟩
    simp [slB]; omega
  · have hru : rowsU (us ++ [⟨now + delay, .slice q out.length c, out⟩]) = rowsU us ++ [.int .i64 (now + delay), .slice q out.length c] := by simp [rowsU, Bu.cells]
    refine ⟨by rw [rowsU_len], .inr (.inr ⟨A', 0, rowsU us ++ [.int .i64 (now + delay), .slice q out.length c], by simp, ?_, ?_⟩)⟩
    · rw [set_ne (Ne.symm hXA)]; exact hg
    · rw [← hru]; exact getN_all _ _ (by rw [rowsU_len])
  · intro A hA; cases hA; exact ⟨hXA, by simpa using lt_of_get hg⟩
  · intro u hu
    have hAB : ∀ A, A < h2.length → slB (Value.slice (some ⟨A', 0, none⟩) (us.length + 1) (unk + 2)) ≠ some A := fun A hA e => by simp [slB] at e; omega
    rcases List.mem_append.1 hu with hu | hu
    · obtain ⟨b1, b2⟩ := L2.bits u hu
      exact ⟨b1.keep fun A x hA hx => hfin A x hx (b2 A hA).2.1 (b2 A hA).1, fun A hA => ⟨(b2 A hA).1, hAB A (b2 A hA).2.2, by have := (b2 A hA).2.2; simp; omega⟩⟩
    · simp at hu; subst hu
      have hold : ∀ A, slB (Value.slice q out.length c) = some A → A ≠ X ∧ slB (Value.slice uq us.length uc) ≠ some A ∧ A < h2.length := fun A hA => by
        have h9 := A2 A hA
        refine ⟨?_, fun e => ?_, h9.2⟩
        · have := lt_of_get L.obj; omega
        · have := (L.ult A e).2; omega
      exact ⟨B2.keep fun A x hA hx => hfin A x hx (hold A hA).2.1 (hold A hA).1, fun A hA => ⟨(hold A hA).1, hAB A (hold A hA).2.2, by have := (hold A hA).2.2; simp; omega⟩⟩
  · rw [set_ne (Ne.symm h1), hfr B (by have := E.1; omega) h2', List.getElem?_append_left (by have := E.1; omega), E.2 B hB]
end
end Go.Proofs.Ytemphcppnjlkcaa
