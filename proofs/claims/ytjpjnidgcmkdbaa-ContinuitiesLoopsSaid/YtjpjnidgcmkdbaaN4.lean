import Derived.Test.YtjpjnidgcmkdbaaN3
import Derived.Test.YtjpjnidgcmkdbaaAiY
set_option linter.unusedVariables false
set_option linter.unusedSimpArgs false
namespace Go.Proofs.Ytjpjnidgcmkdbaa
open Go Go.Ai Go.Proofs

set_option maxRecDepth 10000 in
theorem and_3_i64 {a : Int} (h0 : -128 ≤ a) (h1 : a ≤ 127) : ∃ r : Nat, r ≤ 3 ∧ abin .and (.int .i64 a) (.int .i64 3) = some (.int .i64 (r : Int)) := by
  rw [abin_and]
  have : ∀ b : Fin 256, ∃ r : Fin 4, IntKind.i64.wrap ((BitVec.ofInt 64 ((b.val : Int) - 128) &&& BitVec.ofInt 64 3).toNat : Int) = (r.val : Nat) := by decide +kernel
  obtain ⟨r, hr⟩ := this ⟨(a + 128).toNat, by omega⟩
  have e : (((a + 128).toNat : Nat) : Int) - 128 = a := by omega
  simp only [e] at hr
  exact ⟨r.val, by omega, congrArg (fun n => some (Value.int .i64 n)) hr⟩
theorem opts_ok {h : AHeap} {a b c : Int} (ha : 0 ≤ a ∧ a ≤ 255) (hb : 0 ≤ b ∧ b ≤ 255) (hc : 0 ≤ c ∧ c ≤ 255) : Valid Try.prog 7 [.agg #[.int .u8 a, .int .u8 b, .int .u8 c]] h fun r h' => (∃ w p m : Int, 1 ≤ w ∧ 1 ≤ p ∧ 1 ≤ m ∧ m ≤ 4 ∧ r = .agg #[.int .i64 w, .int .i64 p, .int .i64 m]) ∧ Kp h h' := by
  refine v7 (by simp) ?_
  have a1 := Int.tmod_eq_emod_of_nonneg (b := 6) ha.1
  have b1 := Int.tmod_eq_emod_of_nonneg (b := 6) hb.1
  have c1 := Int.tmod_eq_emod_of_nonneg (b := 4) hc.1
  have wa : IntKind.i64.wrap (a.tmod 6) = a.tmod 6 := i64_wrap (by omega) (by omega)
  have wb : IntKind.i64.wrap (b.tmod 6) = b.tmod 6 := i64_wrap (by omega) (by omega)
  have wc : IntKind.i64.wrap (c.tmod 4) = c.tmod 4 := i64_wrap (by omega) (by omega)
  have xa : IntKind.i64.wrap (1 + a.tmod 6) = 1 + a.tmod 6 := i64_wrap (by omega) (by omega)
  have xb : IntKind.i64.wrap (1 + b.tmod 6) = 1 + b.tmod 6 := i64_wrap (by omega) (by omega)
  have xc : IntKind.i64.wrap (1 + c.tmod 4) = 1 + c.tmod 4 := i64_wrap (by omega) (by omega)
  have n6 : ¬ (6 : Int) = 0 := by decide
  have n4 : ¬ (4 : Int) = 0 := by decide
  simp only [X7, sx, x_bslice, x_slice, x_append, x_b2s, xop, ev, evs, evParts, fillL, cellsL, Ai.get, Ai.put, stab, isNil?, if_false, if_true, addr?, int?, str?, agg?, bool?, shiftA, FnPost, xresL, xres1, tup, argEnv, ptr, Nat.reduceEqDiff, reduceIte, beq_self_eq_true, ne_eq, Nat.reduceAdd, Nat.reduceMul, Nat.reduceSub, abin_shl, abin_shr, load1V, loadV, storeV, cellsAt, getN, setN, allocV, lenL, lenS, bnd, oneC, Value.oneCell', Nat.reduceLeDiff, Nat.reduceLT, exists_eq_left', forall_const, reduceCtorEq, app_new, app_new0, List.append_assoc, Int.reduceToNat, Int.reduceLT, Int.reduceLE, Int.reduceEq, Int.reduceNe, Int.reduceBEq, IntKind.bits, bne_self_eq_false, Int.reducePow]
  refine box_run rfl fun g1 R K1 hR hRl _ => ?_
  simp only [sx, x_bslice, x_slice, x_append, x_b2s, xop, ev, evs, evParts, fillL, cellsL, Ai.get, Ai.put, stab, isNil?, if_false, if_true, addr?, int?, str?, agg?, bool?, shiftA, FnPost, xresL, xres1, tup, argEnv, ptr, Nat.reduceEqDiff, reduceIte, beq_self_eq_true, ne_eq, Nat.reduceAdd, Nat.reduceMul, Nat.reduceSub, abin_shl, abin_shr, load1V, loadV, storeV, cellsAt, getN, setN, allocV, lenL, lenS, bnd, oneC, Value.oneCell', Nat.reduceLeDiff, Nat.reduceLT, exists_eq_left', forall_const, reduceCtorEq, app_new, app_new0, List.append_assoc, Int.reduceToNat, Int.reduceLT, Int.reduceLE, Int.reduceEq, Int.reduceNe, Int.reduceBEq, IntKind.bits, bne_self_eq_false, Int.reducePow]
  refine alloc_run fun g2 T K2 hT hTl _ => ?_
  have hR2 := K2.get hR
  simp only [cellsL] at hR2
  simp only [sx, x_box, x_alloc, x_bslice, x_slice, x_append, x_b2s, xop, ev, evs, evParts, fillL, cellsL, Ai.get, Ai.put, stab, isNil?, if_false, if_true, addr?, int?, str?, agg?, bool?, shiftA, FnPost, xresL, xres1, tup, argEnv, ptr, Nat.reduceEqDiff, reduceIte, beq_self_eq_true, ne_eq, Nat.reduceAdd, Nat.reduceMul, Nat.reduceSub, abin_shl, abin_shr, load1V, loadV, storeV, cellsAt, getN, setN, allocV, lenL, lenS, bnd, oneC, Value.oneCell', Nat.reduceLeDiff, Nat.reduceLT, exists_eq_left', forall_const, reduceCtorEq, app_new, app_new0, List.append_assoc, Int.reduceToNat, Int.reduceLT, Int.reduceLE, Int.reduceEq, Int.reduceNe, Int.reduceBEq, IntKind.bits, bne_self_eq_false, Int.reducePow, hR2, hT, set_here, wa, wb, wc, xa, xb, xc, n6, n4]
  exact ⟨⟨_, _, _, by omega, by omega, by omega, by omega, rfl⟩, (K1.trans K2).set (by have := K1.1; omega) _⟩
/-- a row of plain acts -/
theorem row3 {rows : List Value} {n : Nat} (hl : rows.length = n * 3) (h : ∀ i, i < n → ∀ (j : Nat) (l : Leaf), [Leaf.int .u8, .int .i8, .bool][j]? = some l → ∃ u, rows[i * 3 + j]? = some u ∧ LeafOk l u) {i : Nat} (hi : i < n) :
    ∃ (a b : Int) (g : Bool), rows[i * 3]? = some (.int .u8 a) ∧ rows[i * 3 + 1]? = some (.int .i8 b) ∧ rows[i * 3 + 2]? = some (.bool g) ∧ 0 ≤ a ∧ a ≤ 255 ∧ -128 ≤ b ∧ b ≤ 127 := by
  obtain ⟨u0, h0, a, rfl, w0⟩ := h i hi 0 _ rfl
  obtain ⟨u1, h1, b, rfl, w1⟩ := h i hi 1 _ rfl
  obtain ⟨u2, h2, g, rfl⟩ := h i hi 2 _ rfl
  have b0 := bounds_u8 w0
  have b1 := bounds_i8 w1
  exact ⟨a, b, g, by simpa using h0, h1, h2, b0.1, b0.2, b1.1, b1.2⟩
/-- a slice's cells, where they lie -/
theorem firstV_cell {k n c : Nat} {h : AHeap} {a : Addr} {rows : List Value} (hf : firstV k h n (.slice (some a) n c) = some rows) (hn : n ≠ 0) (hk : 0 < k) : a.spot = none ∧ ∃ o, h[a.block]? = some (some o) ∧ ∀ j, j < n * k → o.cells[a.off + j]? = rows[j]? := by
  simp only [firstV] at hf
  rw [if_neg hn] at hf
  split at hf
  · cases hf
  · rename_i h1
    refine ⟨by simpa using h1, ?_⟩
    obtain ⟨cs, e1, e2⟩ := Option.bind_eq_some_iff.1 hf
    unfold cellsAt at e1
    split at e1
    · rename_i o ho
      cases e1
      refine ⟨o, ho, fun j hj => ?_⟩
      obtain ⟨e3, e4⟩ := (getN_eq _ _ _ _).1 e2
      rw [e4, List.getElem?_take, if_pos hj, List.getElem?_drop]
    · cases e1
def RegN (Xa Xb nn i n c : Nat) (q : Option Addr) (st sk : Value) (ρ : Env) : Prop := get ρ 15 = some (.int .i64 (i : Nat)) ∧ get ρ 7 = some (.int .i64 (nn : Nat)) ∧ get ρ 9 = some (ptr Xa 0) ∧ get ρ 11 = some (ptr Xb 0) ∧ get ρ 13 = some st ∧ get ρ 14 = some sk ∧ get ρ 2 = some (.slice q n c)
/-- at the head of a round -/
def LpI (Xa La Xb Lb nn : Nat) (w p m : Int) (q : Option Addr) (n c : Nat) (rows : List Value) (f : Nat) (ρ : Env) (h : AHeap) : Prop := ∃ i cs ds th bk bo sa sb st sk, i + f = n + 200 ∧ RegN Xa Xb nn i n c q st sk ρ ∧ NW h Xa La Xb Lb w p m q n c rows cs sa [] ds sb bo st th sk bk ∧ Net m i nn i n cs ds th bk bo
/-- behind the act -/
def LpA (Xa La Xb Lb nn : Nat) (w p m : Int) (q : Option Addr) (n c : Nat) (rows : List Value) (i : Nat) (cs ds : List Cir) (th bk bo : List Msg) (sb st sk : Value) (ρ : Env) (h : AHeap) : Prop := ∃ cs' new sa, RegN Xa Xb nn i n c q st sk ρ ∧ NW h Xa La Xb Lb w p m q n c rows cs' sa new ds sb bo st th sk bk ∧ Act m i nn cs cs' new ∧ (n ≤ i → new = [])
/-- both ways filled, and whether they are late -/
def LpB (h1 : AHeap) (Xa Xb nn n c i : Nat) (q : Option Addr) (st sk : Value) (ρ : Env) (h : AHeap) : Prop := RegN Xa Xb nn i n c q st sk ρ ∧ (∃ late : Bool, get ρ 17 = some (.bool late) ∧ (late = true → i < n)) ∧ h = h1
/-- behind the far end's hearing; behind both -/
def LpC (Xa La Xb Lb nn : Nat) (w p m : Int) (q : Option Addr) (n c : Nat) (rows : List Value) (i : Nat) (cs ds : List Cir) (th bk bo : List Msg) (ρ : Env) (h : AHeap) : Prop := ∃ sa sb st sk, RegN Xa Xb nn i n c q st sk ρ ∧ get ρ 17 = some (.bool false) ∧ NW h Xa La Xb Lb w p m q n c rows cs sa [] ds sb bo st th sk bk
def LpE (Xa Xb nn : Nat) (h1 : AHeap) (f : Nat) (ρ : Env) (h : AHeap) : Prop := ∃ k, k + f = nn ∧ get ρ 18 = some (.int .i64 (k : Nat)) ∧ get ρ 7 = some (.int .i64 (nn : Nat)) ∧ get ρ 9 = some (ptr Xa 0) ∧ get ρ 11 = some (ptr Xb 0) ∧ h = h1
theorem RetN.shape {k n : Nat} {h : AHeap} {sl : Value} {rows : List Value} (r : RetN k h sl n rows) : ∃ a c, sl = .slice a n c := by
  obtain ⟨_, ⟨rfl, h2⟩ | ⟨A, off, cs, rfl, -⟩⟩ := r
  · exact ⟨_, _, by rw [h2]⟩
  · exact ⟨_, _, rfl⟩
set_option maxHeartbeats 16000000 in
set_option maxRecDepth 20000 in
theorem loops_ok {h : AHeap} {many z0 z1 z2 : Int} {q : Option Addr} {n c : Nat} {rows : List Value} (hm : 0 ≤ many ∧ many ≤ 255) (h0 : 0 ≤ z0 ∧ z0 ≤ 255) (h1 : 0 ≤ z1 ∧ z1 ≤ 255) (h2 : 0 ≤ z2 ∧ z2 ≤ 255)
    (hq : ∀ a, q = some a → a.block < h.length) (hf : firstV 3 h n (.slice q n c) = some rows) (hn : n ≤ 9223372036854775807) (hrow : ∀ i, i < n → ∀ (j : Nat) (l : Leaf), [Leaf.int .u8, .int .i8, .bool][j]? = some l → ∃ u, rows[i * 3 + j]? = some u ∧ LeafOk l u) :
    Valid Try.prog 3 [.int .u8 many, .agg #[.int .u8 z0, .int .u8 z1, .int .u8 z2], .slice q n c] h fun r h' => r = .bool true := by
  refine v3 (by simp) ?_
  simp only [X3, sx, x_bslice, x_slice, x_append, x_b2s, xop, ev, evs, evParts, fillL, cellsL, Ai.get, Ai.put, stab, isNil?, if_false, if_true, addr?, int?, str?, agg?, bool?, shiftA, FnPost, xresL, xres1, tup, argEnv, ptr, Nat.reduceEqDiff, reduceIte, beq_self_eq_true, ne_eq, Nat.reduceAdd, Nat.reduceMul, Nat.reduceSub, abin_shl, abin_shr, load1V, loadV, storeV, cellsAt, getN, setN, allocV, lenL, lenS, bnd, oneC, Value.oneCell', Nat.reduceLeDiff, Nat.reduceLT, exists_eq_left', forall_const, reduceCtorEq, app_new, app_new0, List.append_assoc, Int.reduceToNat, Int.reduceLT, Int.reduceLE, Int.reduceEq, Int.reduceNe, Int.reduceBEq, IntKind.bits, bne_self_eq_false, Int.reducePow]
  refine box_run rfl fun g1 R K1 hR hRl _ => ?_
  simp only [cellsL] at hR
  by_cases hbig : 60 < n
  · have hbig' : (60 : Int) < n := by omega
    simp only [sx, x_box, x_alloc, x_bslice, x_slice, x_append, x_b2s, xop, ev, evs, evParts, fillL, cellsL, Ai.get, Ai.put, stab, isNil?, if_false, if_true, addr?, int?, str?, agg?, bool?, shiftA, FnPost, xresL, xres1, tup, argEnv, ptr, Nat.reduceEqDiff, reduceIte, beq_self_eq_true, ne_eq, Nat.reduceAdd, Nat.reduceMul, Nat.reduceSub, abin_shl, abin_shr, load1V, loadV, storeV, cellsAt, getN, setN, allocV, lenL, lenS, bnd, oneC, Value.oneCell', Nat.reduceLeDiff, Nat.reduceLT, exists_eq_left', forall_const, reduceCtorEq, app_new, app_new0, List.append_assoc, Int.reduceToNat, Int.reduceLT, Int.reduceLE, Int.reduceEq, Int.reduceNe, Int.reduceBEq, IntKind.bits, bne_self_eq_false, Int.reducePow, hbig']
    refine xcall (lives_ok _) (by rfl) (by rfl) (by rfl) (by rfl) ?_
    rintro r h' ⟨rfl, rfl⟩
    simp only [sx, x_box, x_alloc, x_bslice, x_slice, x_append, x_b2s, xop, ev, evs, evParts, fillL, cellsL, Ai.get, Ai.put, stab, isNil?, if_false, if_true, addr?, int?, str?, agg?, bool?, shiftA, FnPost, xresL, xres1, tup, argEnv, ptr, Nat.reduceEqDiff, reduceIte, beq_self_eq_true, ne_eq, Nat.reduceAdd, Nat.reduceMul, Nat.reduceSub, abin_shl, abin_shr, load1V, loadV, storeV, cellsAt, getN, setN, allocV, lenL, lenS, bnd, oneC, Value.oneCell', Nat.reduceLeDiff, Nat.reduceLT, exists_eq_left', forall_const, reduceCtorEq, app_new, app_new0, List.append_assoc, Int.reduceToNat, Int.reduceLT, Int.reduceLE, Int.reduceEq, Int.reduceNe, Int.reduceBEq, IntKind.bits, bne_self_eq_false, Int.reducePow]
  have hbig' : ¬ (60 : Int) < n := by omega
  obtain ⟨nn, hw1, hw2, n2, n5⟩ : ∃ nn : Nat, IntKind.i64.wrap (many.tmod 4) = many.tmod 4 ∧ IntKind.i64.wrap (1 + many.tmod 4) = (nn : Nat) ∧ 1 ≤ nn ∧ nn ≤ 4 := by
    have e := Int.tmod_eq_emod_of_nonneg (b := 4) hm.1
    refine ⟨(1 + many.tmod 4).toNat, i64_wrap (by omega) (by omega), ?_, by omega, by omega⟩
    rw [i64_wrap (by omega) (by omega)]; omega
  have n4 : ¬ (4 : Int) = 0 := by decide
  simp only [sx, x_box, x_bslice, x_slice, x_append, x_b2s, xop, ev, evs, evParts, fillL, cellsL, Ai.get, Ai.put, stab, isNil?, if_false, if_true, addr?, int?, str?, agg?, bool?, shiftA, FnPost, xresL, xres1, tup, argEnv, ptr, Nat.reduceEqDiff, reduceIte, beq_self_eq_true, ne_eq, Nat.reduceAdd, Nat.reduceMul, Nat.reduceSub, abin_shl, abin_shr, load1V, loadV, storeV, cellsAt, getN, setN, allocV, lenL, lenS, bnd, oneC, Value.oneCell', Nat.reduceLeDiff, Nat.reduceLT, exists_eq_left', forall_const, reduceCtorEq, app_new, app_new0, List.append_assoc, Int.reduceToNat, Int.reduceLT, Int.reduceLE, Int.reduceEq, Int.reduceNe, Int.reduceBEq, IntKind.bits, bne_self_eq_false, Int.reducePow, hbig', hw1, hw2, n4, hR]
  refine xcall (opts_ok h0 h1 h2) (by rfl) (by rfl) (by rfl) (by rfl) ?_
  rintro r g2 ⟨⟨w, p, m, o1, o2, o3, o4, rfl⟩, K2⟩
  simp only [sx, x_box, x_bslice, x_slice, x_append, x_b2s, xop, ev, evs, evParts, fillL, cellsL, Ai.get, Ai.put, stab, isNil?, if_false, if_true, addr?, int?, str?, agg?, bool?, shiftA, FnPost, xresL, xres1, tup, argEnv, ptr, Nat.reduceEqDiff, reduceIte, beq_self_eq_true, ne_eq, Nat.reduceAdd, Nat.reduceMul, Nat.reduceSub, abin_shl, abin_shr, load1V, loadV, storeV, cellsAt, getN, setN, allocV, lenL, lenS, bnd, oneC, Value.oneCell', Nat.reduceLeDiff, Nat.reduceLT, exists_eq_left', forall_const, reduceCtorEq, app_new, app_new0, List.append_assoc, Int.reduceToNat, Int.reduceLT, Int.reduceLE, Int.reduceEq, Int.reduceNe, Int.reduceBEq, IntKind.bits, bne_self_eq_false, Int.reducePow]
  refine alloc_run fun g3 T K3 hT hTl _ => ?_
  simp only [sx, x_box, x_alloc, x_bslice, x_slice, x_append, x_b2s, xop, ev, evs, evParts, fillL, cellsL, Ai.get, Ai.put, stab, isNil?, if_false, if_true, addr?, int?, str?, agg?, bool?, shiftA, FnPost, xresL, xres1, tup, argEnv, ptr, Nat.reduceEqDiff, reduceIte, beq_self_eq_true, ne_eq, Nat.reduceAdd, Nat.reduceMul, Nat.reduceSub, abin_shl, abin_shr, load1V, loadV, storeV, cellsAt, getN, setN, allocV, lenL, lenS, bnd, oneC, Value.oneCell', Nat.reduceLeDiff, Nat.reduceLT, exists_eq_left', forall_const, reduceCtorEq, app_new, app_new0, List.append_assoc, Int.reduceToNat, Int.reduceLT, Int.reduceLE, Int.reduceEq, Int.reduceNe, Int.reduceBEq, IntKind.bits, bne_self_eq_false, Int.reducePow, hT, set_here]
  have K4 : Kp h (g3.set T (some ⟨true, [.int .i64 w, .int .i64 p, .int .i64 m]⟩)) := (K1.trans K2).trans (K3.set hTl _)
  have hT4 := set_same hT (some ⟨true, [.int .i64 w, .int .i64 p, .int .i64 m]⟩)
  generalize g3.set T (some ⟨true, [Value.int .i64 w, .int .i64 p, .int .i64 m]⟩) = g4 at *
  have hbad : ¬ bad (nn : Nat) w p m := by unfold bad; omega
  refine xcall (new_ok hbad (by omega)) (by rfl) (by rfl) (by rfl) (by rfl) ?_
  rintro r g5 ⟨rfl, ⟨J, e5⟩, A5⟩
  have K5 : Kp g4 g5 := by rw [e5]; exact Kp.app _ _
  clear e5
  simp only [sx, x_box, x_alloc, x_bslice, x_slice, x_append, x_b2s, xop, ev, evs, evParts, fillL, cellsL, Ai.get, Ai.put, stab, isNil?, if_false, if_true, addr?, int?, str?, agg?, bool?, shiftA, FnPost, xresL, xres1, tup, argEnv, ptr, Nat.reduceEqDiff, reduceIte, beq_self_eq_true, ne_eq, Nat.reduceAdd, Nat.reduceMul, Nat.reduceSub, abin_shl, abin_shr, load1V, loadV, storeV, cellsAt, getN, setN, allocV, lenL, lenS, bnd, oneC, Value.oneCell', Nat.reduceLeDiff, Nat.reduceLT, exists_eq_left', forall_const, reduceCtorEq, app_new, app_new0, List.append_assoc, Int.reduceToNat, Int.reduceLT, Int.reduceLE, Int.reduceEq, Int.reduceNe, Int.reduceBEq, IntKind.bits, bne_self_eq_false, Int.reducePow, K5.get hT4]
  refine xcall (new_ok hbad (by omega)) (by rfl) (by rfl) (by rfl) (by rfl) ?_
  rintro r g6 ⟨rfl, ⟨J', e6⟩, B6⟩
  have K6 : Kp g5 g6 := by rw [e6]; exact Kp.app _ _
  clear e6
  simp only [sx, x_box, x_alloc, x_bslice, x_slice, x_append, x_b2s, xop, ev, evs, evParts, fillL, cellsL, Ai.get, Ai.put, stab, isNil?, if_false, if_true, addr?, int?, str?, agg?, bool?, shiftA, FnPost, xresL, xres1, tup, argEnv, ptr, Nat.reduceEqDiff, reduceIte, beq_self_eq_true, ne_eq, Nat.reduceAdd, Nat.reduceMul, Nat.reduceSub, abin_shl, abin_shr, load1V, loadV, storeV, cellsAt, getN, setN, allocV, lenL, lenS, bnd, oneC, Value.oneCell', Nat.reduceLeDiff, Nat.reduceLT, exists_eq_left', forall_const, reduceCtorEq, app_new, app_new0, List.append_assoc, Int.reduceToNat, Int.reduceLT, Int.reduceLE, Int.reduceEq, Int.reduceNe, Int.reduceBEq, IntKind.bits, bne_self_eq_false, Int.reducePow]
  have A6 := A5.keep K6.1 fun B hB => K6.2 B (by
    rcases hB with rfl | rfl | hB
    · exact lt_of_get A5.obj
    · exact lt_of_get A5.row
    · exact A5.n3 B hB)
  have hXl := lt_of_get A5.obj
  have K46 := (K4.trans K5).trans K6
  have hf6 := first_same hf fun a ha => K46.2 a.block (hq a ha)
  have h4l := K4.1
  have S6 : NW g6 (g4.length + 2) (g4.length + 1) (g5.length + 2) (g5.length + 1) w p m q n c rows (List.replicate nn ⟨0, 0, 0, false⟩) (.slice none 0 0) [] (List.replicate nn ⟨0, 0, 0, false⟩) (.slice none 0 0) [] (.slice none 0 0) [] (.slice none 0 0) [] := by
    refine ⟨by simpa using A6, by simpa using B6, RetN.nil 3 g6, RetN.nil 3 g6, hf6, fun i B hB => ?_, fun i j B hB hB2 => ?_⟩
    · have hXb := lt_of_get B6.obj
      rcases hB with ⟨-, h2 | h2 | h2⟩ | ⟨-, h2 | h2 | h2⟩ | ⟨-, h2⟩ | ⟨-, h2⟩ | ⟨-, a, h2, h3⟩
      · omega
      · omega
      · simp [slB] at h2
      · omega
      · omega
      · simp [slB] at h2
      · simp [slB] at h2
      · simp [slB] at h2
      · have := hq a h2; have := K46.1; omega
    · have hi : (i = 0 ∧ g4.length < B ∧ B < g5.length) ∨ (i = 1 ∧ g5.length < B) ∨ (i = 4 ∧ B < h.length) := by
        rcases hB with ⟨hi, h2 | h2 | h2⟩ | ⟨hi, h2 | h2 | h2⟩ | ⟨hi, h2⟩ | ⟨hi, h2⟩ | ⟨hi, a, h2, h3⟩
        · omega
        · omega
        · simp [slB] at h2
        · omega
        · omega
        · simp [slB] at h2
        · simp [slB] at h2
        · simp [slB] at h2
        · have := hq a h2; omega
      have hj : (j = 0 ∧ g4.length < B ∧ B < g5.length) ∨ (j = 1 ∧ g5.length < B) ∨ (j = 4 ∧ B < h.length) := by
        rcases hB2 with ⟨hi, h2 | h2 | h2⟩ | ⟨hi, h2 | h2 | h2⟩ | ⟨hi, h2⟩ | ⟨hi, h2⟩ | ⟨hi, a, h2, h3⟩
        · omega
        · omega
        · simp [slB] at h2
        · omega
        · omega
        · simp [slB] at h2
        · simp [slB] at h2
        · simp [slB] at h2
        · have := hq a h2; omega
      omega
  have N6 : Net m 0 nn 0 n (List.replicate nn ⟨0, 0, 0, false⟩) (List.replicate nn ⟨0, 0, 0, false⟩) [] [] [] := by
    refine ⟨by simp, by simp, fun c hc => ?_, fun c hc => ?_, by simp, by simp, fun k c d hc hd => ?_, by simp, fun _ => rfl, fun _ => ?_, fun _ => by simp⟩
    · rw [List.eq_of_mem_replicate hc]; exact ⟨rfl, Int.le_refl _, Int.le_refl _⟩
    · rw [List.eq_of_mem_replicate hc]
    · rw [List.eq_of_mem_replicate (List.mem_of_getElem? hc), List.eq_of_mem_replicate (List.mem_of_getElem? hd)]; rfl
    · simp [PHI, phi]
  refine xloop_cut (LpI (g4.length + 2) (g4.length + 1) (g5.length + 2) (g5.length + 1) nn w p m q n c rows 0) ?_ ?_
  · refine xcode_loop (LpI (g4.length + 2) (g4.length + 1) (g5.length + 2) (g5.length + 1) nn w p m q n c rows) (n + 200) ⟨0, _, _, [], [], [], _, _, _, _, by omega, ⟨rfl, rfl, rfl, rfl, rfl, rfl, rfl⟩, S6, N6⟩ ?_
    clear S6 N6 hf6 K46 h4l A6 B6 A5 K6 K5 K4 hT4 hXl hTl hT K3 K2 K1 hR
    generalize g4.length + 2 = Xa
    generalize g4.length + 1 = La
    generalize g5.length + 2 = Xb
    generalize g5.length + 1 = Lb
    rintro f ρ h1 ⟨i, cs, ds, th, bk, bo, sa, sb, st, sk, hif, ⟨g15, g7, g9, g11, g13, g14, g2'⟩, S, N⟩
    have hwn : IntKind.i64.wrap ((n : Int) + 200) = ((n + 200 : Nat) : Int) := by rw [i64_wrap (by omega) (by omega)]; omega
    by_cases hlt : i < n + 200
    rotate_left
    · have hlt' : ¬ (i : Int) < ((n + 200 : Nat) : Int) := by omega
      simp only [sx, x_box, x_alloc, x_bslice, x_slice, x_append, x_b2s, xop, ev, evs, evParts, fillL, cellsL, Ai.get, Ai.put, stab, isNil?, if_false, if_true, addr?, int?, str?, agg?, bool?, shiftA, FnPost, xresL, xres1, tup, argEnv, ptr, Nat.reduceEqDiff, reduceIte, beq_self_eq_true, ne_eq, Nat.reduceAdd, Nat.reduceMul, Nat.reduceSub, abin_shl, abin_shr, load1V, loadV, storeV, cellsAt, getN, setN, allocV, lenL, lenS, bnd, oneC, Value.oneCell', Nat.reduceLeDiff, Nat.reduceLT, exists_eq_left', forall_const, reduceCtorEq, app_new, app_new0, List.append_assoc, Int.reduceToNat, Int.reduceLT, Int.reduceLE, Int.reduceEq, Int.reduceNe, Int.reduceBEq, IntKind.bits, bne_self_eq_false, Int.reducePow, g15, g7, g9, g11, g13, g14, g2', hwn, hlt']
      exact ⟨i, cs, ds, th, bk, bo, sa, sb, st, sk, by omega, ⟨g15, g7, g9, g11, g13, g14, g2'⟩, S, N⟩
    have hlt' : (i : Int) < ((n + 200 : Nat) : Int) := by omega
    have hwi : IntKind.i64.wrap ((i : Int) + 1) = ((i + 1 : Nat) : Int) := by rw [i64_wrap] <;> omega
    simp only [sx, x_box, x_alloc, x_bslice, x_slice, x_append, x_b2s, xop, ev, evs, evParts, fillL, cellsL, Ai.get, Ai.put, stab, isNil?, if_false, if_true, addr?, int?, str?, agg?, bool?, shiftA, FnPost, xresL, xres1, tup, argEnv, ptr, Nat.reduceEqDiff, reduceIte, beq_self_eq_true, ne_eq, Nat.reduceAdd, Nat.reduceMul, Nat.reduceSub, abin_shl, abin_shr, load1V, loadV, storeV, cellsAt, getN, setN, allocV, lenL, lenS, bnd, oneC, Value.oneCell', Nat.reduceLeDiff, Nat.reduceLT, exists_eq_left', forall_const, reduceCtorEq, app_new, app_new0, List.append_assoc, Int.reduceToNat, Int.reduceLT, Int.reduceLE, Int.reduceEq, Int.reduceNe, Int.reduceBEq, IntKind.bits, bne_self_eq_false, Int.reducePow, g15, g7, g9, g11, g13, g14, g2', hwn, hlt']
    refine xcond_cut (LpA Xa La Xb Lb nn w p m q n c rows i cs ds th bk bo sb st sk) ?_ ?_
    · have hnone : LpA Xa La Xb Lb nn w p m q n c rows i cs ds th bk bo sb st sk ρ h1 := ⟨cs, [], sa, ⟨g15, g7, g9, g11, g13, g14, g2'⟩, S, act_none N.c2, fun _ => rfl⟩
      by_cases hin : i < n
      rotate_left
      · have hin' : ¬ (i : Int) < n := by omega
        simp only [sx, x_box, x_alloc, x_bslice, x_slice, x_append, x_b2s, xop, ev, evs, evParts, fillL, cellsL, Ai.get, Ai.put, stab, isNil?, if_false, if_true, addr?, int?, str?, agg?, bool?, shiftA, FnPost, xresL, xres1, tup, argEnv, ptr, Nat.reduceEqDiff, reduceIte, beq_self_eq_true, ne_eq, Nat.reduceAdd, Nat.reduceMul, Nat.reduceSub, abin_shl, abin_shr, load1V, loadV, storeV, cellsAt, getN, setN, allocV, lenL, lenS, bnd, oneC, Value.oneCell', Nat.reduceLeDiff, Nat.reduceLT, exists_eq_left', forall_const, reduceCtorEq, app_new, app_new0, List.append_assoc, Int.reduceToNat, Int.reduceLT, Int.reduceLE, Int.reduceEq, Int.reduceNe, Int.reduceBEq, IntKind.bits, bne_self_eq_false, Int.reducePow, hin']
        exact ⟨cs, [], sa, ⟨g15, g7, g9, g11, g13, g14, g2'⟩, S, act_none N.c2, fun _ => rfl⟩
      have hin' : (i : Int) < n := by omega
      have hge : (0 : Int) ≤ i := by omega
      obtain ⟨ka, kc, kg, r0, r1, r2, a0, a1, b0, b1⟩ := row3 (firstV_len hf) hrow hin
      cases q with
      | none =>
        have := S.g
        simp only [firstV] at this; rw [if_neg (by omega)] at this; cases this
      | some a =>
      obtain ⟨sp, o, ho, hc⟩ := firstV_cell S.g (by omega) (by decide)
      have c0 := hc (i * 3) (by omega)
      have c1 := hc (i * 3 + 1) (by omega)
      rw [r0] at c0
      rw [r1, ← Nat.add_assoc] at c1
      obtain ⟨r, hr3, hand⟩ := and_3_i64 b0 b1
      have wc : IntKind.i64.wrap kc = kc := i64_wrap (by omega) (by omega)
      have hml : r % nn < nn := Nat.mod_lt _ (by omega)
      have hrm : (r : Int).tmod nn = ((r % nn : Nat) : Int) := by rw [Int.tmod_eq_emod_of_nonneg (by omega)]; omega
      have nnz : ¬ (nn : Int) = 0 := by omega
      have w8 : IntKind.i8.wrap ((r % nn : Nat) : Int) = ((r % nn : Nat) : Int) := by
        unfold IntKind.wrap; simp [IntKind.bits, IntKind.signed]; omega
      have n7 : ¬ (7 : Int) = 0 := by decide
      have hk := Int.tmod_eq_emod_of_nonneg (b := 7) a0
      have hle := Nat.le_of_lt hin
      by_cases k012 : ka.tmod 7 = 0 ∨ ka.tmod 7 = 1 ∨ ka.tmod 7 = 2
      · have hact : ∀ kv : Int, kv = 0 ∨ kv = 1 ∨ kv = 2 → Valid Try.prog 9 [ptr Xa 0, .agg #[.int .u8 kv, .int .i8 ((r % nn : Nat) : Int), .bool false]] h1 fun r' h' => (∃ e, r' = .int .i64 e) ∧ StepP h1 Xa La w p m cs sa [] h' (actOn cs kv ((r % nn : Nat) : Int) false).1 (actOn cs kv ((r % nn : Nat) : Int) false).2 := fun kv hkv => by
          have := act_ok (kind := kv) (code := ((r % nn : Nat) : Int)) (good := false) S.a (by simp) (by omega) (by omega) (by omega)
          have e1 : kv.tmod 7 = kv := by rcases hkv with rfl | rfl | rfl <;> rfl
          rw [e1] at this
          unfold actS at this
          rw [if_neg (by omega)] at this
          exact this
        rcases k012 with hk0 | hk0 | hk0
        · simp only [sx, x_box, x_alloc, x_bslice, x_slice, x_append, x_b2s, xop, ev, evs, evParts, fillL, cellsL, Ai.get, Ai.put, stab, isNil?, if_false, if_true, addr?, int?, str?, agg?, bool?, shiftA, FnPost, xresL, xres1, tup, argEnv, ptr, Nat.reduceEqDiff, reduceIte, beq_self_eq_true, ne_eq, Nat.reduceAdd, Nat.reduceMul, Nat.reduceSub, abin_shl, abin_shr, load1V, loadV, storeV, cellsAt, getN, setN, allocV, lenL, lenS, bnd, oneC, Value.oneCell', Nat.reduceLeDiff, Nat.reduceLT, exists_eq_left', forall_const, reduceCtorEq, app_new, app_new0, List.append_assoc, Int.reduceToNat, Int.reduceLT, Int.reduceLE, Int.reduceEq, Int.reduceNe, Int.reduceBEq, IntKind.bits, bne_self_eq_false, Int.reducePow, hin', hge, g15, g7, g9, g11, g13, g14, g2', sp, ho, c0, c1, hand, wc, hrm, nnz, w8, n7, hk0]
          refine xcall (hact 0 (by simp)) (by rfl) (by rfl) (by rfl) (by rfl) ?_
          rintro r' h2 ⟨⟨e, rfl⟩, P⟩
          obtain ⟨sa', S2, -⟩ := S.stepA P
          rw [List.nil_append] at S2
          simp only [sx, x_box, x_alloc, x_bslice, x_slice, x_append, x_b2s, xop, ev, evs, evParts, fillL, cellsL, Ai.get, Ai.put, stab, isNil?, if_false, if_true, addr?, int?, str?, agg?, bool?, shiftA, FnPost, xresL, xres1, tup, argEnv, ptr, Nat.reduceEqDiff, reduceIte, beq_self_eq_true, ne_eq, Nat.reduceAdd, Nat.reduceMul, Nat.reduceSub, abin_shl, abin_shr, load1V, loadV, storeV, cellsAt, getN, setN, allocV, lenL, lenS, bnd, oneC, Value.oneCell', Nat.reduceLeDiff, Nat.reduceLT, exists_eq_left', forall_const, reduceCtorEq, app_new, app_new0, List.append_assoc, Int.reduceToNat, Int.reduceLT, Int.reduceLE, Int.reduceEq, Int.reduceNe, Int.reduceBEq, IntKind.bits, bne_self_eq_false, Int.reducePow]
          exact ⟨_, _, sa', ⟨g15, g7, g9, g11, g13, g14, g2'⟩, S2, act_one o4 (by omega) N.c1 hml (by simp) N.c2, fun h => by omega⟩
        · simp only [sx, x_box, x_alloc, x_bslice, x_slice, x_append, x_b2s, xop, ev, evs, evParts, fillL, cellsL, Ai.get, Ai.put, stab, isNil?, if_false, if_true, addr?, int?, str?, agg?, bool?, shiftA, FnPost, xresL, xres1, tup, argEnv, ptr, Nat.reduceEqDiff, reduceIte, beq_self_eq_true, ne_eq, Nat.reduceAdd, Nat.reduceMul, Nat.reduceSub, abin_shl, abin_shr, load1V, loadV, storeV, cellsAt, getN, setN, allocV, lenL, lenS, bnd, oneC, Value.oneCell', Nat.reduceLeDiff, Nat.reduceLT, exists_eq_left', forall_const, reduceCtorEq, app_new, app_new0, List.append_assoc, Int.reduceToNat, Int.reduceLT, Int.reduceLE, Int.reduceEq, Int.reduceNe, Int.reduceBEq, IntKind.bits, bne_self_eq_false, Int.reducePow, hin', hge, g15, g7, g9, g11, g13, g14, g2', sp, ho, c0, c1, hand, wc, hrm, nnz, w8, n7, hk0]
          refine xcall (hact 1 (by simp)) (by rfl) (by rfl) (by rfl) (by rfl) ?_
          rintro r' h2 ⟨⟨e, rfl⟩, P⟩
          obtain ⟨sa', S2, -⟩ := S.stepA P
          rw [List.nil_append] at S2
          simp only [sx, x_box, x_alloc, x_bslice, x_slice, x_append, x_b2s, xop, ev, evs, evParts, fillL, cellsL, Ai.get, Ai.put, stab, isNil?, if_false, if_true, addr?, int?, str?, agg?, bool?, shiftA, FnPost, xresL, xres1, tup, argEnv, ptr, Nat.reduceEqDiff, reduceIte, beq_self_eq_true, ne_eq, Nat.reduceAdd, Nat.reduceMul, Nat.reduceSub, abin_shl, abin_shr, load1V, loadV, storeV, cellsAt, getN, setN, allocV, lenL, lenS, bnd, oneC, Value.oneCell', Nat.reduceLeDiff, Nat.reduceLT, exists_eq_left', forall_const, reduceCtorEq, app_new, app_new0, List.append_assoc, Int.reduceToNat, Int.reduceLT, Int.reduceLE, Int.reduceEq, Int.reduceNe, Int.reduceBEq, IntKind.bits, bne_self_eq_false, Int.reducePow]
          exact ⟨_, _, sa', ⟨g15, g7, g9, g11, g13, g14, g2'⟩, S2, act_one o4 (by omega) N.c1 hml (by simp) N.c2, fun h => by omega⟩
        · simp only [sx, x_box, x_alloc, x_bslice, x_slice, x_append, x_b2s, xop, ev, evs, evParts, fillL, cellsL, Ai.get, Ai.put, stab, isNil?, if_false, if_true, addr?, int?, str?, agg?, bool?, shiftA, FnPost, xresL, xres1, tup, argEnv, ptr, Nat.reduceEqDiff, reduceIte, beq_self_eq_true, ne_eq, Nat.reduceAdd, Nat.reduceMul, Nat.reduceSub, abin_shl, abin_shr, load1V, loadV, storeV, cellsAt, getN, setN, allocV, lenL, lenS, bnd, oneC, Value.oneCell', Nat.reduceLeDiff, Nat.reduceLT, exists_eq_left', forall_const, reduceCtorEq, app_new, app_new0, List.append_assoc, Int.reduceToNat, Int.reduceLT, Int.reduceLE, Int.reduceEq, Int.reduceNe, Int.reduceBEq, IntKind.bits, bne_self_eq_false, Int.reducePow, hin', hge, g15, g7, g9, g11, g13, g14, g2', sp, ho, c0, c1, hand, wc, hrm, nnz, w8, n7, hk0]
          refine xcall (hact 2 (by simp)) (by rfl) (by rfl) (by rfl) (by rfl) ?_
          rintro r' h2 ⟨⟨e, rfl⟩, P⟩
          obtain ⟨sa', S2, -⟩ := S.stepA P
          rw [List.nil_append] at S2
          simp only [sx, x_box, x_alloc, x_bslice, x_slice, x_append, x_b2s, xop, ev, evs, evParts, fillL, cellsL, Ai.get, Ai.put, stab, isNil?, if_false, if_true, addr?, int?, str?, agg?, bool?, shiftA, FnPost, xresL, xres1, tup, argEnv, ptr, Nat.reduceEqDiff, reduceIte, beq_self_eq_true, ne_eq, Nat.reduceAdd, Nat.reduceMul, Nat.reduceSub, abin_shl, abin_shr, load1V, loadV, storeV, cellsAt, getN, setN, allocV, lenL, lenS, bnd, oneC, Value.oneCell', Nat.reduceLeDiff, Nat.reduceLT, exists_eq_left', forall_const, reduceCtorEq, app_new, app_new0, List.append_assoc, Int.reduceToNat, Int.reduceLT, Int.reduceLE, Int.reduceEq, Int.reduceNe, Int.reduceBEq, IntKind.bits, bne_self_eq_false, Int.reducePow]
          exact ⟨_, _, sa', ⟨g15, g7, g9, g11, g13, g14, g2'⟩, S2, act_one o4 (by omega) N.c1 hml (by simp) N.c2, fun h => by omega⟩
      · have k0 : ¬ ka.tmod 7 = 0 := fun h => k012 (.inl h)
        have k1 : ¬ ka.tmod 7 = 1 := fun h => k012 (.inr (.inl h))
        have k2 : ¬ ka.tmod 7 = 2 := fun h => k012 (.inr (.inr h))
        by_cases k6 : ka.tmod 7 = 6
        · have n60 : ¬ (6 : Int) = 0 := by decide
          have n61 : ¬ (6 : Int) = 1 := by decide
          have n62 : ¬ (6 : Int) = 2 := by decide
          simp only [sx, x_box, x_alloc, x_bslice, x_slice, x_append, x_b2s, xop, ev, evs, evParts, fillL, cellsL, Ai.get, Ai.put, stab, isNil?, if_false, if_true, addr?, int?, str?, agg?, bool?, shiftA, FnPost, xresL, xres1, tup, argEnv, ptr, Nat.reduceEqDiff, reduceIte, beq_self_eq_true, ne_eq, Nat.reduceAdd, Nat.reduceMul, Nat.reduceSub, abin_shl, abin_shr, load1V, loadV, storeV, cellsAt, getN, setN, allocV, lenL, lenS, bnd, oneC, Value.oneCell', Nat.reduceLeDiff, Nat.reduceLT, exists_eq_left', forall_const, reduceCtorEq, app_new, app_new0, List.append_assoc, Int.reduceToNat, Int.reduceLT, Int.reduceLE, Int.reduceEq, Int.reduceNe, Int.reduceBEq, IntKind.bits, bne_self_eq_false, Int.reducePow, hin', hge, g15, g7, g9, g11, g13, g14, g2', sp, ho, c0, c1, hand, wc, hrm, nnz, w8, n7, k6, n60, n61, n62]
          refine xcall (tick_ok S.a (by simp)) (by rfl) (by rfl) (by rfl) (by rfl) ?_
          rintro r' h2 P
          obtain ⟨sa', S2, -⟩ := S.stepA P
          rw [List.nil_append] at S2
          simp only [sx, x_box, x_alloc, x_bslice, x_slice, x_append, x_b2s, xop, ev, evs, evParts, fillL, cellsL, Ai.get, Ai.put, stab, isNil?, if_false, if_true, addr?, int?, str?, agg?, bool?, shiftA, FnPost, xresL, xres1, tup, argEnv, ptr, Nat.reduceEqDiff, reduceIte, beq_self_eq_true, ne_eq, Nat.reduceAdd, Nat.reduceMul, Nat.reduceSub, abin_shl, abin_shr, load1V, loadV, storeV, cellsAt, getN, setN, allocV, lenL, lenS, bnd, oneC, Value.oneCell', Nat.reduceLeDiff, Nat.reduceLT, exists_eq_left', forall_const, reduceCtorEq, app_new, app_new0, List.append_assoc, Int.reduceToNat, Int.reduceLT, Int.reduceLE, Int.reduceEq, Int.reduceNe, Int.reduceBEq, IntKind.bits, bne_self_eq_false, Int.reducePow]
          exact ⟨_, _, sa', ⟨g15, g7, g9, g11, g13, g14, g2'⟩, S2, act_tick (by omega) N.c1 n5 N.c2, fun h => by omega⟩
        · simp only [sx, x_box, x_alloc, x_bslice, x_slice, x_append, x_b2s, xop, ev, evs, evParts, fillL, cellsL, Ai.get, Ai.put, stab, isNil?, if_false, if_true, addr?, int?, str?, agg?, bool?, shiftA, FnPost, xresL, xres1, tup, argEnv, ptr, Nat.reduceEqDiff, reduceIte, beq_self_eq_true, ne_eq, Nat.reduceAdd, Nat.reduceMul, Nat.reduceSub, abin_shl, abin_shr, load1V, loadV, storeV, cellsAt, getN, setN, allocV, lenL, lenS, bnd, oneC, Value.oneCell', Nat.reduceLeDiff, Nat.reduceLT, exists_eq_left', forall_const, reduceCtorEq, app_new, app_new0, List.append_assoc, Int.reduceToNat, Int.reduceLT, Int.reduceLE, Int.reduceEq, Int.reduceNe, Int.reduceBEq, IntKind.bits, bne_self_eq_false, Int.reducePow, hin', hge, g15, g7, g9, g11, g13, g14, g2', sp, ho, c0, c1, hand, wc, hrm, nnz, w8, n7, k0, k1, k2, k6]
          exact ⟨_, _, sa, ⟨g15, g7, g9, g11, g13, g14, g2'⟩, S, act_none N.c2, fun _ => rfl⟩
    · clear g15 g7 g9 g11 g13 g14 g2' S
      rintro ρ2 h2 ⟨cs', new, sa', ⟨g15, g7, g9, g11, g13, g14, g2'⟩, S2, A, hnew⟩
      have M := N.mid A hnew
      have hlen : (th ++ new).length ≤ 200 := by
        rcases Nat.lt_or_ge i n with h | h
        · have := M.w1 h; omega
        · have := M.w2 h; omega
      have hlen2 := M.b2
      rw [List.length_append] at hlen hlen2
      simp only [sx, x_box, x_alloc, x_bslice, x_slice, x_b2s, xop, ev, evs, evParts, fillL, cellsL, Ai.get, Ai.put, stab, isNil?, if_false, if_true, addr?, int?, str?, agg?, bool?, shiftA, FnPost, xresL, xres1, tup, argEnv, ptr, Nat.reduceEqDiff, reduceIte, beq_self_eq_true, ne_eq, Nat.reduceAdd, Nat.reduceMul, Nat.reduceSub, abin_shl, abin_shr, load1V, loadV, storeV, cellsAt, getN, setN, allocV, lenL, lenS, bnd, oneC, Value.oneCell', Nat.reduceLeDiff, Nat.reduceLT, exists_eq_left', forall_const, reduceCtorEq, app_new, app_new0, List.append_assoc, Int.reduceToNat, Int.reduceLT, Int.reduceLE, Int.reduceEq, Int.reduceNe, Int.reduceBEq, IntKind.bits, bne_self_eq_false, Int.reducePow, g15, g7, g9, g11, g13, g14, g2']
      refine xcall (take_ok S2.a (by omega)) (by rfl) (by rfl) (by rfl) (by rfl) ?_
      rintro r h3 hT
      simp only [sx, x_box, x_alloc, x_bslice, x_slice, x_b2s, xop, ev, evs, evParts, fillL, cellsL, Ai.get, Ai.put, stab, isNil?, if_false, if_true, addr?, int?, str?, agg?, bool?, shiftA, FnPost, xresL, xres1, tup, argEnv, ptr, Nat.reduceEqDiff, reduceIte, beq_self_eq_true, ne_eq, Nat.reduceAdd, Nat.reduceMul, Nat.reduceSub, abin_shl, abin_shr, load1V, loadV, storeV, cellsAt, getN, setN, allocV, lenL, lenS, bnd, oneC, Value.oneCell', Nat.reduceLeDiff, Nat.reduceLT, exists_eq_left', forall_const, reduceCtorEq, app_new, app_new0, List.append_assoc, Int.reduceToNat, Int.reduceLT, Int.reduceLE, Int.reduceEq, Int.reduceNe, Int.reduceBEq, IntKind.bits, bne_self_eq_false, Int.reducePow, g15, g7, g9, g11, g13, g14, g2']
      refine S2.takeA hT rfl rfl (by omega) fun h4 st' S4 => ?_
      simp only [sx, x_box, x_alloc, x_bslice, x_slice, x_b2s, xop, ev, evs, evParts, fillL, cellsL, Ai.get, Ai.put, stab, isNil?, if_false, if_true, addr?, int?, str?, agg?, bool?, shiftA, FnPost, xresL, xres1, tup, argEnv, ptr, Nat.reduceEqDiff, reduceIte, beq_self_eq_true, ne_eq, Nat.reduceAdd, Nat.reduceMul, Nat.reduceSub, abin_shl, abin_shr, load1V, loadV, storeV, cellsAt, getN, setN, allocV, lenL, lenS, bnd, oneC, Value.oneCell', Nat.reduceLeDiff, Nat.reduceLT, exists_eq_left', forall_const, reduceCtorEq, app_new, app_new0, List.append_assoc, Int.reduceToNat, Int.reduceLT, Int.reduceLE, Int.reduceEq, Int.reduceNe, Int.reduceBEq, IntKind.bits, bne_self_eq_false, Int.reducePow, g15, g7, g9, g11, g13, g14, g2']
      refine xcall (take_ok S4.b (by omega)) (by rfl) (by rfl) (by rfl) (by rfl) ?_
      rintro r h5 hT2
      simp only [sx, x_box, x_alloc, x_bslice, x_slice, x_b2s, xop, ev, evs, evParts, fillL, cellsL, Ai.get, Ai.put, stab, isNil?, if_false, if_true, addr?, int?, str?, agg?, bool?, shiftA, FnPost, xresL, xres1, tup, argEnv, ptr, Nat.reduceEqDiff, reduceIte, beq_self_eq_true, ne_eq, Nat.reduceAdd, Nat.reduceMul, Nat.reduceSub, abin_shl, abin_shr, load1V, loadV, storeV, cellsAt, getN, setN, allocV, lenL, lenS, bnd, oneC, Value.oneCell', Nat.reduceLeDiff, Nat.reduceLT, exists_eq_left', forall_const, reduceCtorEq, app_new, app_new0, List.append_assoc, Int.reduceToNat, Int.reduceLT, Int.reduceLE, Int.reduceEq, Int.reduceNe, Int.reduceBEq, IntKind.bits, bne_self_eq_false, Int.reducePow, g15, g7, g9, g11, g13, g14, g2']
      refine S4.takeB hT2 rfl rfl (by omega) fun h6 sk' S6 => ?_
      clear hT hT2 S2 S4 A hnew N hlen hlen2 g13 g14
      generalize th ++ new = th1 at *
      generalize bk ++ bo = bk1 at *
      obtain ⟨at_, ct, rfl⟩ := S6.t.shape
      obtain ⟨ak, ck, rfl⟩ := S6.k.shape
      simp only [sx, x_box, x_alloc, x_bslice, x_slice, x_append, x_b2s, xop, ev, evs, evParts, fillL, cellsL, Ai.get, Ai.put, stab, isNil?, if_false, if_true, addr?, int?, str?, agg?, bool?, shiftA, FnPost, xresL, xres1, tup, argEnv, ptr, Nat.reduceEqDiff, reduceIte, beq_self_eq_true, ne_eq, Nat.reduceAdd, Nat.reduceMul, Nat.reduceSub, abin_shl, abin_shr, load1V, loadV, storeV, cellsAt, getN, setN, allocV, lenL, lenS, bnd, oneC, Value.oneCell', Nat.reduceLeDiff, Nat.reduceLT, exists_eq_left', forall_const, reduceCtorEq, app_new, app_new0, List.append_assoc, Int.reduceToNat, Int.reduceLT, Int.reduceLE, Int.reduceEq, Int.reduceNe, Int.reduceBEq, IntKind.bits, bne_self_eq_false, Int.reducePow, g15, g7, g9, g11, g2']
      refine xgrd_cut (LpB h6 Xa Xb nn n c i q (.slice at_ th1.length ct) (.slice ak bk1.length ck)) ?_ ?_
      · by_cases hin : i < n
        · have hin' : (i : Int) < n := by omega
          have hge : (0 : Int) ≤ i := by omega
          obtain ⟨ka, kc, kg, r0, r1, r2, a0, a1, b0, b1⟩ := row3 (firstV_len hf) hrow hin
          cases q with
          | none =>
            have := S6.g
            simp only [firstV] at this; rw [if_neg (by omega)] at this; cases this
          | some a =>
          obtain ⟨sp, o, ho, hc⟩ := firstV_cell S6.g (by omega) (by decide)
          have c2 := hc (i * 3 + 2) (by omega)
          rw [r2, ← Nat.add_assoc] at c2
          simp only [sx, x_box, x_alloc, x_bslice, x_slice, x_append, x_b2s, xop, ev, evs, evParts, fillL, cellsL, Ai.get, Ai.put, stab, isNil?, if_false, if_true, addr?, int?, str?, agg?, bool?, shiftA, FnPost, xresL, xres1, tup, argEnv, ptr, Nat.reduceEqDiff, reduceIte, beq_self_eq_true, ne_eq, Nat.reduceAdd, Nat.reduceMul, Nat.reduceSub, abin_shl, abin_shr, load1V, loadV, storeV, cellsAt, getN, setN, allocV, lenL, lenS, bnd, oneC, Value.oneCell', Nat.reduceLeDiff, Nat.reduceLT, exists_eq_left', forall_const, reduceCtorEq, app_new, app_new0, List.append_assoc, Int.reduceToNat, Int.reduceLT, Int.reduceLE, Int.reduceEq, Int.reduceNe, Int.reduceBEq, IntKind.bits, bne_self_eq_false, Int.reducePow, hin', hge, g15, g7, g9, g11, g2', sp, ho, c2]
          exact ⟨⟨by simp [Ai.get, g15], by simp [Ai.get, g7], by simp [Ai.get, g9], by simp [Ai.get, g11], by simp [Ai.get], by simp [Ai.get], by simp [Ai.get, g2']⟩, ⟨kg, by simp [Ai.get], fun _ => hin⟩, rfl⟩
        · have hin' : ¬ (i : Int) < n := by omega
          simp only [sx, x_box, x_alloc, x_bslice, x_slice, x_append, x_b2s, xop, ev, evs, evParts, fillL, cellsL, Ai.get, Ai.put, stab, isNil?, if_false, if_true, addr?, int?, str?, agg?, bool?, shiftA, FnPost, xresL, xres1, tup, argEnv, ptr, Nat.reduceEqDiff, reduceIte, beq_self_eq_true, ne_eq, Nat.reduceAdd, Nat.reduceMul, Nat.reduceSub, abin_shl, abin_shr, load1V, loadV, storeV, cellsAt, getN, setN, allocV, lenL, lenS, bnd, oneC, Value.oneCell', Nat.reduceLeDiff, Nat.reduceLT, exists_eq_left', forall_const, reduceCtorEq, app_new, app_new0, List.append_assoc, Int.reduceToNat, Int.reduceLT, Int.reduceLE, Int.reduceEq, Int.reduceNe, Int.reduceBEq, IntKind.bits, bne_self_eq_false, Int.reducePow, hin', g15, g7, g9, g11, g2']
          exact ⟨⟨by simp [Ai.get, g15], by simp [Ai.get, g7], by simp [Ai.get, g9], by simp [Ai.get, g11], by simp [Ai.get], by simp [Ai.get], by simp [Ai.get, g2']⟩, ⟨false, by simp [Ai.get], fun h => by cases h⟩, rfl⟩
      clear g15 g7 g9 g11 g2'
      rintro ρ3 h7 ⟨⟨g15, g7, g9, g11, g13, g14, g2'⟩, ⟨late, g17, hlate⟩, rfl⟩
      cases late with
      | true =>
        have NN := M.late (hlate rfl) (by omega)
        simp only [sx, x_box, x_alloc, x_bslice, x_slice, x_append, x_b2s, xop, ev, evs, evParts, fillL, cellsL, Ai.get, Ai.put, stab, isNil?, if_false, if_true, addr?, int?, str?, agg?, bool?, shiftA, FnPost, xresL, xres1, tup, argEnv, ptr, Nat.reduceEqDiff, reduceIte, beq_self_eq_true, ne_eq, Nat.reduceAdd, Nat.reduceMul, Nat.reduceSub, abin_shl, abin_shr, load1V, loadV, storeV, cellsAt, getN, setN, allocV, lenL, lenS, bnd, oneC, Value.oneCell', Nat.reduceLeDiff, Nat.reduceLT, exists_eq_left', forall_const, reduceCtorEq, app_new, app_new0, List.append_assoc, Int.reduceToNat, Int.reduceLT, Int.reduceLE, Int.reduceEq, Int.reduceNe, Int.reduceBEq, IntKind.bits, bne_self_eq_false, Int.reducePow, g15, g7, g9, g11, g13, g14, g2', g17, hwi]
        exact ⟨f - 1, by omega, i + 1, cs', ds, th1, bk1, [], _, _, _, _, by omega, ⟨rfl, g7, g9, g11, g13, g14, g2'⟩, S6, NN⟩
      | false =>
        have NN := M.next (by omega)
        simp only [sx, x_box, x_alloc, x_bslice, x_slice, x_append, x_b2s, xop, ev, evs, evParts, fillL, cellsL, Ai.get, Ai.put, stab, isNil?, if_false, if_true, addr?, int?, str?, agg?, bool?, shiftA, FnPost, xresL, xres1, tup, argEnv, ptr, Nat.reduceEqDiff, reduceIte, beq_self_eq_true, ne_eq, Nat.reduceAdd, Nat.reduceMul, Nat.reduceSub, abin_shl, abin_shr, load1V, loadV, storeV, cellsAt, getN, setN, allocV, lenL, lenS, bnd, oneC, Value.oneCell', Nat.reduceLeDiff, Nat.reduceLT, exists_eq_left', forall_const, reduceCtorEq, app_new, app_new0, List.append_assoc, Int.reduceToNat, Int.reduceLT, Int.reduceLE, Int.reduceEq, Int.reduceNe, Int.reduceBEq, IntKind.bits, bne_self_eq_false, Int.reducePow, g15, g7, g9, g11, g13, g14, g2', g17]
        refine xcond_cut (LpC Xa La Xb Lb nn w p m q n c rows i cs' (hB ds th1).1 (hB ds th1).2.1 bk1 (hB ds th1).2.2) ?_ ?_
        · cases th1 with
          | nil =>
            have z0 : ¬ (0 : Int) < ((([] : List Msg).length : Nat) : Int) := by simp
            simp only [sx, x_box, x_alloc, x_bslice, x_slice, x_append, x_b2s, xop, ev, evs, evParts, fillL, cellsL, Ai.get, Ai.put, stab, isNil?, if_false, if_true, addr?, int?, str?, agg?, bool?, shiftA, FnPost, xresL, xres1, tup, argEnv, ptr, Nat.reduceEqDiff, reduceIte, beq_self_eq_true, ne_eq, Nat.reduceAdd, Nat.reduceMul, Nat.reduceSub, abin_shl, abin_shr, load1V, loadV, storeV, cellsAt, getN, setN, allocV, lenL, lenS, bnd, oneC, Value.oneCell', Nat.reduceLeDiff, Nat.reduceLT, exists_eq_left', forall_const, reduceCtorEq, app_new, app_new0, List.append_assoc, Int.reduceToNat, Int.reduceLT, Int.reduceLE, Int.reduceEq, Int.reduceNe, Int.reduceBEq, IntKind.bits, bne_self_eq_false, Int.reducePow, z0]
            exact ⟨_, _, _, _, ⟨g15, g7, g9, g11, g13, g14, g2'⟩, g17, S6⟩
          | cons x xs =>
            have z0 : (0 : Int) < (((x :: xs).length : Nat) : Int) := by simp
            have z1 : (0 : Int) < ((xs.length + 1 : Nat) : Int) := by omega
            have hx := M.t1 x (by simp)
            obtain ⟨A, off, ct', cells, e, hA, hg⟩ := S6.t.head3
            have hkd : x.kind + 2 ≠ 0 ∧ x.kind + 2 ≠ 1 ∧ x.kind + 2 ≠ 2 := by have := hx.2.2; omega
            rw [e] at S6 g13
            simp only [Msg.cells] at hg
            simp only [e, z0, decide_true]
            simp only [sx, x_box, x_alloc, x_bslice, x_slice, x_append, x_b2s, xop, ev, evs, evParts, fillL, cellsL, Ai.get, Ai.put, stab, isNil?, if_false, if_true, addr?, int?, str?, agg?, bool?, shiftA, FnPost, xresL, xres1, tup, argEnv, ptr, Nat.reduceEqDiff, reduceIte, beq_self_eq_true, ne_eq, Nat.reduceAdd, Nat.reduceMul, Nat.reduceSub, abin_shl, abin_shr, load1V, loadV, storeV, cellsAt, setN, allocV, lenL, lenS, bnd, oneC, Value.oneCell', Nat.reduceLeDiff, Nat.reduceLT, exists_eq_left', forall_const, reduceCtorEq, app_new, app_new0, List.append_assoc, Int.reduceToNat, Int.reduceLT, Int.reduceLE, Int.reduceEq, Int.reduceNe, Int.reduceBEq, IntKind.bits, bne_self_eq_false, Int.reducePow, g15, g7, g9, g11, g13, g14, g2', g17, hA, hg, Int.zero_mul, Nat.add_zero, z1, Int.le_refl, Nat.zero_mul]
            refine xcall (hear_step S6.b (by simp) hkd) (by rfl) (by rfl) (by rfl) (by rfl) ?_
            rintro r h8 ⟨⟨e, rfl⟩, P⟩
            obtain ⟨sb', S8, -⟩ := S6.stepB P
            obtain ⟨st2, hsl, S9⟩ := S8.popT
            rw [List.nil_append] at S9
            simp only [sx, x_box, x_alloc, x_bslice, x_append, x_b2s, xop, ev, evs, evParts, fillL, cellsL, Ai.get, Ai.put, stab, isNil?, if_false, if_true, addr?, int?, str?, agg?, bool?, shiftA, FnPost, xresL, xres1, tup, argEnv, ptr, Nat.reduceEqDiff, reduceIte, beq_self_eq_true, ne_eq, Nat.reduceAdd, Nat.reduceMul, Nat.reduceSub, abin_shl, abin_shr, load1V, loadV, storeV, cellsAt, getN, setN, allocV, lenL, lenS, bnd, oneC, Value.oneCell', Nat.reduceLeDiff, Nat.reduceLT, exists_eq_left', forall_const, reduceCtorEq, app_new, app_new0, List.append_assoc, Int.reduceToNat, Int.reduceLT, Int.reduceLE, Int.reduceEq, Int.reduceNe, Int.reduceBEq, IntKind.bits, bne_self_eq_false, Int.reducePow, g15, g7, g9, g11, g13, g14, g2', g17]
            rw [x_slice, hsl _ _ _ rfl rfl]
            simp only [sx, x_box, x_alloc, x_bslice, x_slice, x_append, x_b2s, xop, ev, evs, evParts, fillL, cellsL, Ai.get, Ai.put, stab, isNil?, if_false, if_true, addr?, int?, str?, agg?, bool?, shiftA, FnPost, xresL, xres1, tup, argEnv, ptr, Nat.reduceEqDiff, reduceIte, beq_self_eq_true, ne_eq, Nat.reduceAdd, Nat.reduceMul, Nat.reduceSub, abin_shl, abin_shr, load1V, loadV, storeV, cellsAt, getN, setN, allocV, lenL, lenS, bnd, oneC, Value.oneCell', Nat.reduceLeDiff, Nat.reduceLT, exists_eq_left', forall_const, reduceCtorEq, app_new, app_new0, List.append_assoc, Int.reduceToNat, Int.reduceLT, Int.reduceLE, Int.reduceEq, Int.reduceNe, Int.reduceBEq, IntKind.bits, bne_self_eq_false, Int.reducePow]
            exact ⟨_, _, _, _, ⟨g15, g7, g9, g11, rfl, g14, g2'⟩, g17, S9⟩
        clear g15 g7 g9 g11 g13 g14 g2' g17 S6
        have hb1 := M.b1
        have hc1 := M.c1
        clear M
        generalize (hB ds th1).1 = ds2 at *
        generalize (hB ds th1).2.1 = th2 at *
        generalize (hB ds th1).2.2 = bo2 at *
        rintro ρ4 h8 ⟨sa2, sb2, st2, sk2, ⟨g15, g7, g9, g11, g13, g14, g2'⟩, g17, S8⟩
        obtain ⟨ak2, ck2, rfl⟩ := S8.k.shape
        simp only [sx, x_box, x_alloc, x_bslice, x_slice, x_append, x_b2s, xop, ev, evs, evParts, fillL, cellsL, Ai.get, Ai.put, stab, isNil?, if_false, if_true, addr?, int?, str?, agg?, bool?, shiftA, FnPost, xresL, xres1, tup, argEnv, ptr, Nat.reduceEqDiff, reduceIte, beq_self_eq_true, ne_eq, Nat.reduceAdd, Nat.reduceMul, Nat.reduceSub, abin_shl, abin_shr, load1V, loadV, storeV, cellsAt, getN, setN, allocV, lenL, lenS, bnd, oneC, Value.oneCell', Nat.reduceLeDiff, Nat.reduceLT, exists_eq_left', forall_const, reduceCtorEq, app_new, app_new0, List.append_assoc, Int.reduceToNat, Int.reduceLT, Int.reduceLE, Int.reduceEq, Int.reduceNe, Int.reduceBEq, IntKind.bits, bne_self_eq_false, Int.reducePow, g15, g7, g9, g11, g13, g14, g2', g17]
        refine xcond_cut (LpC Xa La Xb Lb nn w p m q n c rows i (hA cs' bk1).1 ds2 th2 (hA cs' bk1).2 bo2) ?_ ?_
        · cases bk1 with
          | nil =>
            have z0 : ¬ (0 : Int) < ((([] : List Msg).length : Nat) : Int) := by simp
            simp only [sx, x_box, x_alloc, x_bslice, x_slice, x_append, x_b2s, xop, ev, evs, evParts, fillL, cellsL, Ai.get, Ai.put, stab, isNil?, if_false, if_true, addr?, int?, str?, agg?, bool?, shiftA, FnPost, xresL, xres1, tup, argEnv, ptr, Nat.reduceEqDiff, reduceIte, beq_self_eq_true, ne_eq, Nat.reduceAdd, Nat.reduceMul, Nat.reduceSub, abin_shl, abin_shr, load1V, loadV, storeV, cellsAt, getN, setN, allocV, lenL, lenS, bnd, oneC, Value.oneCell', Nat.reduceLeDiff, Nat.reduceLT, exists_eq_left', forall_const, reduceCtorEq, app_new, app_new0, List.append_assoc, Int.reduceToNat, Int.reduceLT, Int.reduceLE, Int.reduceEq, Int.reduceNe, Int.reduceBEq, IntKind.bits, bne_self_eq_false, Int.reducePow, z0]
            exact ⟨_, _, _, _, ⟨g15, g7, g9, g11, g13, g14, g2'⟩, g17, S8⟩
          | cons y ys =>
            have z0 : (0 : Int) < (((y :: ys).length : Nat) : Int) := by simp
            have z1 : (0 : Int) < ((ys.length + 1 : Nat) : Int) := by omega
            have hy := hb1 y (by simp)
            obtain ⟨A, off, ct', cells, e, hA', hg⟩ := S8.k.head3
            have hkd : y.kind + 2 ≠ 0 ∧ y.kind + 2 ≠ 1 ∧ y.kind + 2 ≠ 2 := by have := hy.1; omega
            obtain ⟨k, c0, c', k1, k2, k3, -⟩ := hear_near hy hc1
            rw [e] at S8 g14
            simp only [Msg.cells] at hg
            simp only [e, z0, decide_true]
            simp only [sx, x_box, x_alloc, x_bslice, x_slice, x_append, x_b2s, xop, ev, evs, evParts, fillL, cellsL, Ai.get, Ai.put, stab, isNil?, if_false, if_true, addr?, int?, str?, agg?, bool?, shiftA, FnPost, xresL, xres1, tup, argEnv, ptr, Nat.reduceEqDiff, reduceIte, beq_self_eq_true, ne_eq, Nat.reduceAdd, Nat.reduceMul, Nat.reduceSub, abin_shl, abin_shr, load1V, loadV, storeV, cellsAt, setN, allocV, lenL, lenS, bnd, oneC, Value.oneCell', Nat.reduceLeDiff, Nat.reduceLT, exists_eq_left', forall_const, reduceCtorEq, app_new, app_new0, List.append_assoc, Int.reduceToNat, Int.reduceLT, Int.reduceLE, Int.reduceEq, Int.reduceNe, Int.reduceBEq, IntKind.bits, bne_self_eq_false, Int.reducePow, g15, g7, g9, g11, g13, g14, g2', g17, hA', hg, Int.zero_mul, Nat.add_zero, z1, Int.le_refl, Nat.zero_mul]
            refine xcall (hear_step S8.a (by simp) hkd) (by rfl) (by rfl) (by rfl) (by rfl) ?_
            rintro r h9 ⟨⟨e, rfl⟩, P⟩
            obtain ⟨sa3, S9, -⟩ := S8.stepA P
            obtain ⟨sk3, hsl, S10⟩ := S9.popK
            rw [k3] at S10
            simp only [sx, x_box, x_alloc, x_bslice, x_append, x_b2s, xop, ev, evs, evParts, fillL, cellsL, Ai.get, Ai.put, stab, isNil?, if_false, if_true, addr?, int?, str?, agg?, bool?, shiftA, FnPost, xresL, xres1, tup, argEnv, ptr, Nat.reduceEqDiff, reduceIte, beq_self_eq_true, ne_eq, Nat.reduceAdd, Nat.reduceMul, Nat.reduceSub, abin_shl, abin_shr, load1V, loadV, storeV, cellsAt, getN, setN, allocV, lenL, lenS, bnd, oneC, Value.oneCell', Nat.reduceLeDiff, Nat.reduceLT, exists_eq_left', forall_const, reduceCtorEq, app_new, app_new0, List.append_assoc, Int.reduceToNat, Int.reduceLT, Int.reduceLE, Int.reduceEq, Int.reduceNe, Int.reduceBEq, IntKind.bits, bne_self_eq_false, Int.reducePow, g15, g7, g9, g11, g13, g14, g2', g17]
            rw [x_slice, hsl _ _ _ rfl rfl]
            simp only [sx, x_box, x_alloc, x_bslice, x_slice, x_append, x_b2s, xop, ev, evs, evParts, fillL, cellsL, Ai.get, Ai.put, stab, isNil?, if_false, if_true, addr?, int?, str?, agg?, bool?, shiftA, FnPost, xresL, xres1, tup, argEnv, ptr, Nat.reduceEqDiff, reduceIte, beq_self_eq_true, ne_eq, Nat.reduceAdd, Nat.reduceMul, Nat.reduceSub, abin_shl, abin_shr, load1V, loadV, storeV, cellsAt, getN, setN, allocV, lenL, lenS, bnd, oneC, Value.oneCell', Nat.reduceLeDiff, Nat.reduceLT, exists_eq_left', forall_const, reduceCtorEq, app_new, app_new0, List.append_assoc, Int.reduceToNat, Int.reduceLT, Int.reduceLE, Int.reduceEq, Int.reduceNe, Int.reduceBEq, IntKind.bits, bne_self_eq_false, Int.reducePow]
            refine ⟨sa3, sb2, st2, sk3, ⟨g15, g7, g9, g11, g13, rfl, g2'⟩, g17, ?_⟩
            simp only [hA, k3]
            exact S10
        clear g15 g7 g9 g11 g13 g14 g2' g17 S8 hb1 hc1
        generalize (hA cs' bk1).1 = cs2 at *
        generalize (hA cs' bk1).2 = bk2 at *
        rintro ρ5 h9 ⟨sa3, sb3, st3, sk3, ⟨g15, g7, g9, g11, g13, g14, g2'⟩, g17, S9⟩
        simp only [sx, x_box, x_alloc, x_bslice, x_slice, x_append, x_b2s, xop, ev, evs, evParts, fillL, cellsL, Ai.get, Ai.put, stab, isNil?, if_false, if_true, addr?, int?, str?, agg?, bool?, shiftA, FnPost, xresL, xres1, tup, argEnv, ptr, Nat.reduceEqDiff, reduceIte, beq_self_eq_true, ne_eq, Nat.reduceAdd, Nat.reduceMul, Nat.reduceSub, abin_shl, abin_shr, load1V, loadV, storeV, cellsAt, getN, setN, allocV, lenL, lenS, bnd, oneC, Value.oneCell', Nat.reduceLeDiff, Nat.reduceLT, exists_eq_left', forall_const, reduceCtorEq, app_new, app_new0, List.append_assoc, Int.reduceToNat, Int.reduceLT, Int.reduceLE, Int.reduceEq, Int.reduceNe, Int.reduceBEq, IntKind.bits, bne_self_eq_false, Int.reducePow, g15, g7, g9, g11, g13, g14, g2', g17, hwi]
        exact ⟨f - 1, by omega, i + 1, cs2, ds2, th2, bk2, bo2, _, _, _, _, by omega, ⟨rfl, g7, g9, g11, g13, g14, g2'⟩, S9, NN⟩
  · generalize g4.length + 2 = Xa
    generalize g4.length + 1 = La
    generalize g5.length + 2 = Xb
    generalize g5.length + 1 = Lb
    rintro ρ h9 ⟨i, cs, ds, th, bk, bo, sa, sb, st, sk, hi, ⟨g15, g7, g9, g11, g13, g14, g2'⟩, S, N⟩
    have hi2 : i = n + 200 := by omega
    subst hi2
    obtain ⟨rfl, rfl, hend⟩ := N.end_
    obtain ⟨at_, ct, rfl⟩ := S.t.shape
    obtain ⟨ak, ck, rfl⟩ := S.k.shape
    have w0 : IntKind.i64.wrap (0 + 0) = 0 := by decide
    simp only [sx, x_box, x_alloc, x_bslice, x_slice, x_append, x_b2s, xop, ev, evs, evParts, fillL, cellsL, Ai.get, Ai.put, stab, isNil?, if_false, if_true, addr?, int?, str?, agg?, bool?, shiftA, FnPost, xresL, xres1, tup, argEnv, ptr, Nat.reduceEqDiff, reduceIte, beq_self_eq_true, ne_eq, Nat.reduceAdd, Nat.reduceMul, Nat.reduceSub, abin_shl, abin_shr, load1V, loadV, storeV, cellsAt, getN, setN, allocV, lenL, lenS, bnd, oneC, Value.oneCell', Nat.reduceLeDiff, Nat.reduceLT, exists_eq_left', forall_const, reduceCtorEq, app_new, app_new0, List.append_assoc, Int.reduceToNat, Int.reduceLT, Int.reduceLE, Int.reduceEq, Int.reduceNe, Int.reduceBEq, IntKind.bits, bne_self_eq_false, Int.reducePow, g15, g7, g9, g11, g13, g14, g2', List.length_nil, Int.natCast_zero, w0]
    refine xcode_loop (LpE Xa Xb nn h9) nn ⟨0, by omega, rfl, g7, g9, g11, rfl⟩ ?_
    clear g15 g7 g9 g11 g13 g14 g2' hi
    rintro f ρ h10 ⟨k, hkf, g18, g7, g9, g11, rfl⟩
    by_cases hlt : k < nn
    rotate_left
    · have hlt' : ¬ (k : Int) < nn := by omega
      simp only [sx, x_box, x_alloc, x_bslice, x_slice, x_append, x_b2s, xop, ev, evs, evParts, fillL, cellsL, Ai.get, Ai.put, stab, isNil?, if_false, if_true, addr?, int?, str?, agg?, bool?, shiftA, FnPost, xresL, xres1, tup, argEnv, ptr, Nat.reduceEqDiff, reduceIte, beq_self_eq_true, ne_eq, Nat.reduceAdd, Nat.reduceMul, Nat.reduceSub, abin_shl, abin_shr, load1V, loadV, storeV, cellsAt, getN, setN, allocV, lenL, lenS, bnd, oneC, Value.oneCell', Nat.reduceLeDiff, Nat.reduceLT, exists_eq_left', forall_const, reduceCtorEq, app_new, app_new0, List.append_assoc, Int.reduceToNat, Int.reduceLT, Int.reduceLE, Int.reduceEq, Int.reduceNe, Int.reduceBEq, IntKind.bits, bne_self_eq_false, Int.reducePow, g18, g7, hlt']
      refine xcall (lives_ok _) (by rfl) (by rfl) (by rfl) (by rfl) ?_
      rintro r h' ⟨rfl, rfl⟩
      simp only [sx, x_box, x_alloc, x_bslice, x_slice, x_append, x_b2s, xop, ev, evs, evParts, fillL, cellsL, Ai.get, Ai.put, stab, isNil?, if_false, if_true, addr?, int?, str?, agg?, bool?, shiftA, FnPost, xresL, xres1, tup, argEnv, ptr, Nat.reduceEqDiff, reduceIte, beq_self_eq_true, ne_eq, Nat.reduceAdd, Nat.reduceMul, Nat.reduceSub, abin_shl, abin_shr, load1V, loadV, storeV, cellsAt, getN, setN, allocV, lenL, lenS, bnd, oneC, Value.oneCell', Nat.reduceLeDiff, Nat.reduceLT, exists_eq_left', forall_const, reduceCtorEq, app_new, app_new0, List.append_assoc, Int.reduceToNat, Int.reduceLT, Int.reduceLE, Int.reduceEq, Int.reduceNe, Int.reduceBEq, IntKind.bits, bne_self_eq_false, Int.reducePow]
    have hlt' : (k : Int) < nn := by omega
    have hwk : IntKind.i64.wrap ((k : Int) + 1) = ((k + 1 : Nat) : Int) := by rw [i64_wrap] <;> omega
    have hcl := N.c1
    have hdl := N.d1
    obtain ⟨c0, hc0⟩ : ∃ c0, cs[k]? = some c0 := ⟨_, List.getElem?_eq_getElem (by omega)⟩
    obtain ⟨d0, hd0⟩ : ∃ d0, ds[k]? = some d0 := ⟨_, List.getElem?_eq_getElem (by omega)⟩
    obtain ⟨e1, e2, e3⟩ := hend k c0 d0 hc0 hd0
    have h00 : (0 : Int) ≤ (k : Int) := by omega
    simp only [sx, x_box, x_alloc, x_bslice, x_slice, x_append, x_b2s, xop, ev, evs, evParts, fillL, cellsL, Ai.get, Ai.put, stab, isNil?, if_false, if_true, addr?, int?, str?, agg?, bool?, shiftA, FnPost, xresL, xres1, tup, argEnv, ptr, Nat.reduceEqDiff, reduceIte, beq_self_eq_true, ne_eq, Nat.reduceAdd, Nat.reduceMul, Nat.reduceSub, abin_shl, abin_shr, load1V, loadV, storeV, cellsAt, getN, setN, allocV, lenL, lenS, bnd, oneC, Value.oneCell', Nat.reduceLeDiff, Nat.reduceLT, exists_eq_left', forall_const, reduceCtorEq, app_new, app_new0, List.append_assoc, Int.reduceToNat, Int.reduceLT, Int.reduceLE, Int.reduceEq, Int.reduceNe, Int.reduceBEq, IntKind.bits, bne_self_eq_false, Int.reducePow, g18, g7, g9, g11, hlt']
    refine xcall (state_ok S.a h00 (by omega) (c := c0) hc0) (by rfl) (by rfl) (by rfl) (by rfl) ?_
    rintro r h' ⟨rfl, rfl⟩
    simp only [sx, x_box, x_alloc, x_bslice, x_slice, x_append, x_b2s, xop, ev, evs, evParts, fillL, cellsL, Ai.get, Ai.put, stab, isNil?, if_false, if_true, addr?, int?, str?, agg?, bool?, shiftA, FnPost, xresL, xres1, tup, argEnv, ptr, Nat.reduceEqDiff, reduceIte, beq_self_eq_true, ne_eq, Nat.reduceAdd, Nat.reduceMul, Nat.reduceSub, abin_shl, abin_shr, load1V, loadV, storeV, cellsAt, getN, setN, allocV, lenL, lenS, bnd, oneC, Value.oneCell', Nat.reduceLeDiff, Nat.reduceLT, exists_eq_left', forall_const, reduceCtorEq, app_new, app_new0, List.append_assoc, Int.reduceToNat, Int.reduceLT, Int.reduceLE, Int.reduceEq, Int.reduceNe, Int.reduceBEq, IntKind.bits, bne_self_eq_false, Int.reducePow, g18, g7, g9, g11]
    refine xcall (looped_ok S.b h00 (by omega) (c := d0) hd0) (by rfl) (by rfl) (by rfl) (by rfl) ?_
    rintro r h' ⟨rfl, rfl⟩
    rw [e1]
    have bs : ∀ b : Bool, (b != b) = false := fun b => by cases b <;> rfl
    by_cases s1 : c0.st = 1
    · have hr : run c0 = true := by simp [run, s1]
      simp only [sx, x_box, x_alloc, x_bslice, x_slice, x_append, x_b2s, xop, ev, evs, evParts, fillL, cellsL, Ai.get, Ai.put, stab, isNil?, if_false, if_true, addr?, int?, str?, agg?, bool?, shiftA, FnPost, xresL, xres1, tup, argEnv, ptr, Nat.reduceEqDiff, reduceIte, beq_self_eq_true, ne_eq, Nat.reduceAdd, Nat.reduceMul, Nat.reduceSub, abin_shl, abin_shr, load1V, loadV, storeV, cellsAt, getN, setN, allocV, lenL, lenS, bnd, oneC, Value.oneCell', Nat.reduceLeDiff, Nat.reduceLT, exists_eq_left', forall_const, reduceCtorEq, app_new, app_new0, List.append_assoc, Int.reduceToNat, Int.reduceLT, Int.reduceLE, Int.reduceEq, Int.reduceNe, Int.reduceBEq, IntKind.bits, bne_self_eq_false, Int.reducePow, g18, g7, g9, g11, s1, hr, bs]
      refine xcall (looped_ok S.a h00 (by omega) (c := c0) hc0) (by rfl) (by rfl) (by rfl) (by rfl) ?_
      rintro r h' ⟨rfl, rfl⟩
      simp only [sx, x_box, x_alloc, x_bslice, x_slice, x_append, x_b2s, xop, ev, evs, evParts, fillL, cellsL, Ai.get, Ai.put, stab, isNil?, if_false, if_true, addr?, int?, str?, agg?, bool?, shiftA, FnPost, xresL, xres1, tup, argEnv, ptr, Nat.reduceEqDiff, reduceIte, beq_self_eq_true, ne_eq, Nat.reduceAdd, Nat.reduceMul, Nat.reduceSub, abin_shl, abin_shr, load1V, loadV, storeV, cellsAt, getN, setN, allocV, lenL, lenS, bnd, oneC, Value.oneCell', Nat.reduceLeDiff, Nat.reduceLT, exists_eq_left', forall_const, reduceCtorEq, app_new, app_new0, List.append_assoc, Int.reduceToNat, Int.reduceLT, Int.reduceLE, Int.reduceEq, Int.reduceNe, Int.reduceBEq, IntKind.bits, bne_self_eq_false, Int.reducePow, g18, g7, g9, g11, e2]
      refine xcall (state_ok S.b h00 (by omega) (c := d0) hd0) (by rfl) (by rfl) (by rfl) (by rfl) ?_
      rintro r h' ⟨rfl, rfl⟩
      simp only [sx, x_box, x_alloc, x_bslice, x_slice, x_append, x_b2s, xop, ev, evs, evParts, fillL, cellsL, Ai.get, Ai.put, stab, isNil?, if_false, if_true, addr?, int?, str?, agg?, bool?, shiftA, FnPost, xresL, xres1, tup, argEnv, ptr, Nat.reduceEqDiff, reduceIte, beq_self_eq_true, ne_eq, Nat.reduceAdd, Nat.reduceMul, Nat.reduceSub, abin_shl, abin_shr, load1V, loadV, storeV, cellsAt, getN, setN, allocV, lenL, lenS, bnd, oneC, Value.oneCell', Nat.reduceLeDiff, Nat.reduceLT, exists_eq_left', forall_const, reduceCtorEq, app_new, app_new0, List.append_assoc, Int.reduceToNat, Int.reduceLT, Int.reduceLE, Int.reduceEq, Int.reduceNe, Int.reduceBEq, IntKind.bits, bne_self_eq_false, Int.reducePow, g18, g7, g9, g11, e3, hwk]
      exact ⟨f - 1, by omega, k + 1, by omega, rfl, g7, g9, g11, rfl⟩
    by_cases s2 : c0.st = 2
    · have hr : run c0 = true := by simp [run, s2]
      have n21 : ¬ (2 : Int) = 1 := by decide
      simp only [sx, x_box, x_alloc, x_bslice, x_slice, x_append, x_b2s, xop, ev, evs, evParts, fillL, cellsL, Ai.get, Ai.put, stab, isNil?, if_false, if_true, addr?, int?, str?, agg?, bool?, shiftA, FnPost, xresL, xres1, tup, argEnv, ptr, Nat.reduceEqDiff, reduceIte, beq_self_eq_true, ne_eq, Nat.reduceAdd, Nat.reduceMul, Nat.reduceSub, abin_shl, abin_shr, load1V, loadV, storeV, cellsAt, getN, setN, allocV, lenL, lenS, bnd, oneC, Value.oneCell', Nat.reduceLeDiff, Nat.reduceLT, exists_eq_left', forall_const, reduceCtorEq, app_new, app_new0, List.append_assoc, Int.reduceToNat, Int.reduceLT, Int.reduceLE, Int.reduceEq, Int.reduceNe, Int.reduceBEq, IntKind.bits, bne_self_eq_false, Int.reducePow, g18, g7, g9, g11, s2, n21, hr, bs]
      refine xcall (looped_ok S.a h00 (by omega) (c := c0) hc0) (by rfl) (by rfl) (by rfl) (by rfl) ?_
      rintro r h' ⟨rfl, rfl⟩
      simp only [sx, x_box, x_alloc, x_bslice, x_slice, x_append, x_b2s, xop, ev, evs, evParts, fillL, cellsL, Ai.get, Ai.put, stab, isNil?, if_false, if_true, addr?, int?, str?, agg?, bool?, shiftA, FnPost, xresL, xres1, tup, argEnv, ptr, Nat.reduceEqDiff, reduceIte, beq_self_eq_true, ne_eq, Nat.reduceAdd, Nat.reduceMul, Nat.reduceSub, abin_shl, abin_shr, load1V, loadV, storeV, cellsAt, getN, setN, allocV, lenL, lenS, bnd, oneC, Value.oneCell', Nat.reduceLeDiff, Nat.reduceLT, exists_eq_left', forall_const, reduceCtorEq, app_new, app_new0, List.append_assoc, Int.reduceToNat, Int.reduceLT, Int.reduceLE, Int.reduceEq, Int.reduceNe, Int.reduceBEq, IntKind.bits, bne_self_eq_false, Int.reducePow, g18, g7, g9, g11, e2]
      refine xcall (state_ok S.b h00 (by omega) (c := d0) hd0) (by rfl) (by rfl) (by rfl) (by rfl) ?_
      rintro r h' ⟨rfl, rfl⟩
      simp only [sx, x_box, x_alloc, x_bslice, x_slice, x_append, x_b2s, xop, ev, evs, evParts, fillL, cellsL, Ai.get, Ai.put, stab, isNil?, if_false, if_true, addr?, int?, str?, agg?, bool?, shiftA, FnPost, xresL, xres1, tup, argEnv, ptr, Nat.reduceEqDiff, reduceIte, beq_self_eq_true, ne_eq, Nat.reduceAdd, Nat.reduceMul, Nat.reduceSub, abin_shl, abin_shr, load1V, loadV, storeV, cellsAt, getN, setN, allocV, lenL, lenS, bnd, oneC, Value.oneCell', Nat.reduceLeDiff, Nat.reduceLT, exists_eq_left', forall_const, reduceCtorEq, app_new, app_new0, List.append_assoc, Int.reduceToNat, Int.reduceLT, Int.reduceLE, Int.reduceEq, Int.reduceNe, Int.reduceBEq, IntKind.bits, bne_self_eq_false, Int.reducePow, g18, g7, g9, g11, e3, hwk]
      exact ⟨f - 1, by omega, k + 1, by omega, rfl, g7, g9, g11, rfl⟩
    · have hr : run c0 = false := by simp [run, s1, s2]
      simp only [sx, x_box, x_alloc, x_bslice, x_slice, x_append, x_b2s, xop, ev, evs, evParts, fillL, cellsL, Ai.get, Ai.put, stab, isNil?, if_false, if_true, addr?, int?, str?, agg?, bool?, shiftA, FnPost, xresL, xres1, tup, argEnv, ptr, Nat.reduceEqDiff, reduceIte, beq_self_eq_true, ne_eq, Nat.reduceAdd, Nat.reduceMul, Nat.reduceSub, abin_shl, abin_shr, load1V, loadV, storeV, cellsAt, getN, setN, allocV, lenL, lenS, bnd, oneC, Value.oneCell', Nat.reduceLeDiff, Nat.reduceLT, exists_eq_left', forall_const, reduceCtorEq, app_new, app_new0, List.append_assoc, Int.reduceToNat, Int.reduceLT, Int.reduceLE, Int.reduceEq, Int.reduceNe, Int.reduceBEq, IntKind.bits, bne_self_eq_false, Int.reducePow, g18, g7, g9, g11, s1, s2, hr, bs]
      refine xcall (looped_ok S.a h00 (by omega) (c := c0) hc0) (by rfl) (by rfl) (by rfl) (by rfl) ?_
      rintro r h' ⟨rfl, rfl⟩
      simp only [sx, x_box, x_alloc, x_bslice, x_slice, x_append, x_b2s, xop, ev, evs, evParts, fillL, cellsL, Ai.get, Ai.put, stab, isNil?, if_false, if_true, addr?, int?, str?, agg?, bool?, shiftA, FnPost, xresL, xres1, tup, argEnv, ptr, Nat.reduceEqDiff, reduceIte, beq_self_eq_true, ne_eq, Nat.reduceAdd, Nat.reduceMul, Nat.reduceSub, abin_shl, abin_shr, load1V, loadV, storeV, cellsAt, getN, setN, allocV, lenL, lenS, bnd, oneC, Value.oneCell', Nat.reduceLeDiff, Nat.reduceLT, exists_eq_left', forall_const, reduceCtorEq, app_new, app_new0, List.append_assoc, Int.reduceToNat, Int.reduceLT, Int.reduceLE, Int.reduceEq, Int.reduceNe, Int.reduceBEq, IntKind.bits, bne_self_eq_false, Int.reducePow, g18, g7, g9, g11, e2]
      refine xcall (state_ok S.b h00 (by omega) (c := d0) hd0) (by rfl) (by rfl) (by rfl) (by rfl) ?_
      rintro r h' ⟨rfl, rfl⟩
      simp only [sx, x_box, x_alloc, x_bslice, x_slice, x_append, x_b2s, xop, ev, evs, evParts, fillL, cellsL, Ai.get, Ai.put, stab, isNil?, if_false, if_true, addr?, int?, str?, agg?, bool?, shiftA, FnPost, xresL, xres1, tup, argEnv, ptr, Nat.reduceEqDiff, reduceIte, beq_self_eq_true, ne_eq, Nat.reduceAdd, Nat.reduceMul, Nat.reduceSub, abin_shl, abin_shr, load1V, loadV, storeV, cellsAt, getN, setN, allocV, lenL, lenS, bnd, oneC, Value.oneCell', Nat.reduceLeDiff, Nat.reduceLT, exists_eq_left', forall_const, reduceCtorEq, app_new, app_new0, List.append_assoc, Int.reduceToNat, Int.reduceLT, Int.reduceLE, Int.reduceEq, Int.reduceNe, Int.reduceBEq, IntKind.bits, bne_self_eq_false, Int.reducePow, g18, g7, g9, g11, e3, hwk]
      exact ⟨f - 1, by omega, k + 1, by omega, rfl, g7, g9, g11, rfl⟩
def loopsSh : List (Bool × List Cl) := [(false, [.leaf (.int .u8)]), (true, [.leaf (.int .u8), .leaf (.int .u8), .leaf (.int .u8)]), (false, [.sl [.int .u8, .int .i8, .bool]])]
theorem loops_law {h : AHeap} {vs : List Value} (hs : SmallArgs h loopsSh vs) : Valid Try.prog 3 vs h fun r _ => r = .bool true := by
  obtain ⟨v0, r, rfl, h0, hs1⟩ := hs.cons_inv
  obtain ⟨v1, r, rfl, h1, hs2⟩ := hs1.cons_inv
  obtain ⟨v2, r, rfl, h2, hs3⟩ := hs2.cons_inv
  obtain rfl := hs3.nil_inv
  obtain ⟨a0, rfl, w0⟩ := h0.one
  obtain ⟨cs, rfl, g0⟩ := h1.agg
  obtain ⟨_, cs, rfl, ⟨b0, rfl, x0⟩, g1⟩ := g0.cons_inv
  obtain ⟨_, cs, rfl, ⟨b1, rfl, x1⟩, g2⟩ := g1.cons_inv
  obtain ⟨_, cs, rfl, ⟨b2, rfl, x2⟩, g3⟩ := g2.cons_inv
  obtain rfl := g3.nil_inv
  obtain ⟨q, n, c, rows, rfl, k1, k2, k3, k4, k5, k6, k7⟩ := h2.one.slice
  exact loops_ok (bounds_u8 w0) (bounds_u8 x0) (bounds_u8 x1) (bounds_u8 x2) (fun a ha => (k3 a ha).2.2) k5 (Nat.le_trans k1 k2) k7
end Go.Proofs.Ytjpjnidgcmkdbaa
