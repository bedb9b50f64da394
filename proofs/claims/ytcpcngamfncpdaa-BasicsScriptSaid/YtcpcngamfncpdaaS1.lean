import Derived.Test.YtcpcngamfncpdaaD7
import Derived.Test.YtcpcngamfncpdaaRun
set_option linter.unusedVariables false
set_option linter.unusedSimpArgs false
namespace Go.Proofs.Ytcpcngamfncpdaa
open Go Go.Ai Go.Proofs

def EqI (q q2 : Option Addr) (n c c2 : Nat) (h0 : AHeap) (m : Nat) (ρ : Env) (h : AHeap) : Prop := ∃ i, i + m = n ∧ get ρ 13 = some (.int .i64 (i : Nat)) ∧ get ρ 12 = some (.int .i64 (n : Nat)) ∧ get ρ 0 = some (.slice q n c) ∧ get ρ 1 = some (.slice q2 n c2) ∧ h = h0
theorem equal_ok {h : AHeap} {v w : Value} {zs : List Int} (L : LoadW h v zs) (M : LoadW h w zs) : Valid Try.prog 43 [v, w] h fun r h' => r = .bool true ∧ h' = h := by
  obtain ⟨q, c, rfl, f1, hl⟩ := L.first
  obtain ⟨q2, c2, rfl, f2, -⟩ := M.first
  refine v43 (by simp) ?_
  have hnn : ¬ (zs.length : Int) ≠ zs.length := by simp
  simp only [X43, sx, x_box, x_alloc, x_bslice, x_slice, x_append, x_b2s, xop, ev, evs, evParts, fillL, cellsL, Ai.get, Ai.put, stab, isNil?, if_false, if_true, addr?, int?, str?, agg?, bool?, shiftA, FnPost, xresL, xres1, tup, argEnv, ptr, Nat.reduceEqDiff, reduceIte, beq_self_eq_true, ne_eq, Nat.reduceAdd, Nat.reduceMul, Nat.reduceSub, abin_shl, abin_shr, load1V, loadV, storeV, cellsAt, getN, setN, allocV, lenL, lenS, bnd, oneC, Value.oneCell', Nat.reduceLeDiff, Nat.reduceLT, exists_eq_left', forall_const, reduceCtorEq, app_new, app_new0, List.append_assoc, Int.reduceToNat, Int.reduceLT, Int.reduceLE, Int.reduceEq, Int.reduceNe, Int.reduceBEq, IntKind.bits, bne_self_eq_false, Int.reducePow]
  refine xloop_cut (fun ρ h' => h' = h) ?_ ?_
  · refine xcode_loop (EqI q q2 zs.length c c2 h) zs.length ⟨0, by omega, rfl, rfl, rfl, rfl, rfl⟩ ?_
    rintro m ρ h' ⟨i, him, g13, g12, g0, g1, rfl⟩
    by_cases hlt : i < zs.length
    · have hlt' : (i : Int) < zs.length := by omega
      have hge : (0 : Int) ≤ i := by omega
      have hwi : IntKind.i64.wrap ((i : Int) + 1) = ((i + 1 : Nat) : Int) := by rw [i64_wrap] <;> omega
      obtain ⟨a, o, z, rfl, a1, a2, a3, a4⟩ := elemB f1 hlt
      obtain ⟨b, o2, z2, rfl, b1, b2, b3, b4⟩ := elemB f2 hlt
      rw [a4] at b4; cases b4
      simp only [sx, x_box, x_alloc, x_bslice, x_slice, x_append, x_b2s, xop, ev, evs, evParts, fillL, cellsL, Ai.get, Ai.put, stab, isNil?, if_false, if_true, addr?, int?, str?, agg?, bool?, shiftA, FnPost, xresL, xres1, tup, argEnv, ptr, Nat.reduceEqDiff, reduceIte, beq_self_eq_true, ne_eq, Nat.reduceAdd, Nat.reduceMul, Nat.reduceSub, abin_shl, abin_shr, load1V, loadV, storeV, cellsAt, getN, setN, allocV, lenL, lenS, bnd, oneC, Value.oneCell', Nat.reduceLeDiff, Nat.reduceLT, exists_eq_left', forall_const, reduceCtorEq, app_new, app_new0, List.append_assoc, Int.reduceToNat, Int.reduceLT, Int.reduceLE, Int.reduceEq, Int.reduceNe, Int.reduceBEq, IntKind.bits, bne_self_eq_false, Int.reducePow, g13, g12, g0, g1, hlt', hge, a1, a2, a3, b1, b2, b3, Nat.mul_one, hwi, eq_self]
      exact ⟨m - 1, by omega, i + 1, by omega, rfl, g12, g0, g1, rfl⟩
    · have hlt' : ¬ (i : Int) < zs.length := by omega
      simp only [sx, x_box, x_alloc, x_bslice, x_slice, x_append, x_b2s, xop, ev, evs, evParts, fillL, cellsL, Ai.get, Ai.put, stab, isNil?, if_false, if_true, addr?, int?, str?, agg?, bool?, shiftA, FnPost, xresL, xres1, tup, argEnv, ptr, Nat.reduceEqDiff, reduceIte, beq_self_eq_true, ne_eq, Nat.reduceAdd, Nat.reduceMul, Nat.reduceSub, abin_shl, abin_shr, load1V, loadV, storeV, cellsAt, getN, setN, allocV, lenL, lenS, bnd, oneC, Value.oneCell', Nat.reduceLeDiff, Nat.reduceLT, exists_eq_left', forall_const, reduceCtorEq, app_new, app_new0, List.append_assoc, Int.reduceToNat, Int.reduceLT, Int.reduceLE, Int.reduceEq, Int.reduceNe, Int.reduceBEq, IntKind.bits, bne_self_eq_false, Int.reducePow, g13, g12, g0, g1, hlt']
  · rintro ρ h' rfl
    simp only [sx, x_box, x_alloc, x_bslice, x_slice, x_append, x_b2s, xop, ev, evs, evParts, fillL, cellsL, Ai.get, Ai.put, stab, isNil?, if_false, if_true, addr?, int?, str?, agg?, bool?, shiftA, FnPost, xresL, xres1, tup, argEnv, ptr, Nat.reduceEqDiff, reduceIte, beq_self_eq_true, ne_eq, Nat.reduceAdd, Nat.reduceMul, Nat.reduceSub, abin_shl, abin_shr, load1V, loadV, storeV, cellsAt, getN, setN, allocV, lenL, lenS, bnd, oneC, Value.oneCell', Nat.reduceLeDiff, Nat.reduceLT, exists_eq_left', forall_const, reduceCtorEq, app_new, app_new0, List.append_assoc, Int.reduceToNat, Int.reduceLT, Int.reduceLE, Int.reduceEq, Int.reduceNe, Int.reduceBEq, IntKind.bits, bne_self_eq_false, Int.reducePow]
/-- the same unit twice -/
theorem same_ok2 {h : AHeap} {v w : Value} {u : UP} (U : UV h v u) (V : UV h w u) : Valid Try.prog 30 [v, w] h fun r h' => r = .bool true ∧ Kp h h' := by
  obtain ⟨lv, rfl, L⟩ := U
  obtain ⟨lw, rfl, M⟩ := V
  refine v30 (by simp) ?_
  simp only [X30, sx, x_alloc, x_bslice, x_slice, x_append, x_b2s, xop, ev, evs, evParts, fillL, cellsL, Ai.get, Ai.put, stab, isNil?, if_false, if_true, addr?, int?, str?, agg?, bool?, shiftA, FnPost, xresL, xres1, tup, argEnv, ptr, Nat.reduceEqDiff, reduceIte, beq_self_eq_true, ne_eq, Nat.reduceAdd, Nat.reduceMul, Nat.reduceSub, abin_shl, abin_shr, load1V, loadV, storeV, cellsAt, getN, setN, allocV, lenL, lenS, bnd, oneC, Value.oneCell', Nat.reduceLeDiff, Nat.reduceLT, exists_eq_left', forall_const, reduceCtorEq, app_new, app_new0, List.append_assoc, Int.reduceToNat, Int.reduceLT, Int.reduceLE, Int.reduceEq, Int.reduceNe, Int.reduceBEq, IntKind.bits, bne_self_eq_false, Int.reducePow]
  refine box_run rfl fun g1 R K1 hR hRl _ => ?_
  simp only [sx, x_alloc, x_bslice, x_slice, x_append, x_b2s, xop, ev, evs, evParts, fillL, cellsL, Ai.get, Ai.put, stab, isNil?, if_false, if_true, addr?, int?, str?, agg?, bool?, shiftA, FnPost, xresL, xres1, tup, argEnv, ptr, Nat.reduceEqDiff, reduceIte, beq_self_eq_true, ne_eq, Nat.reduceAdd, Nat.reduceMul, Nat.reduceSub, abin_shl, abin_shr, load1V, loadV, storeV, cellsAt, getN, setN, allocV, lenL, lenS, bnd, oneC, Value.oneCell', Nat.reduceLeDiff, Nat.reduceLT, exists_eq_left', forall_const, reduceCtorEq, app_new, app_new0, List.append_assoc, Int.reduceToNat, Int.reduceLT, Int.reduceLE, Int.reduceEq, Int.reduceNe, Int.reduceBEq, IntKind.bits, bne_self_eq_false, Int.reducePow]
  refine box_run rfl fun g2 S K2 hS hSl _ => ?_
  have hR2 := K2.get hR
  have K := K1.trans K2
  have L2 := L.frz K.frz
  have M2 := M.frz K.frz
  obtain ⟨ql, cl, rfl, -⟩ := id L
  obtain ⟨qm, cm, rfl, -⟩ := id M
  simp only [UP.cells, cellsL] at hR2 hS
  simp only [sx, x_box, x_alloc, x_bslice, x_slice, x_append, x_b2s, xop, ev, evs, evParts, fillL, cellsL, Ai.get, Ai.put, stab, isNil?, if_false, if_true, addr?, int?, str?, agg?, bool?, shiftA, FnPost, xresL, xres1, tup, argEnv, ptr, Nat.reduceEqDiff, reduceIte, beq_self_eq_true, ne_eq, Nat.reduceAdd, Nat.reduceMul, Nat.reduceSub, abin_shl, abin_shr, load1V, loadV, storeV, cellsAt, getN, setN, allocV, lenL, lenS, bnd, oneC, Value.oneCell', Nat.reduceLeDiff, Nat.reduceLT, exists_eq_left', forall_const, reduceCtorEq, app_new, app_new0, List.append_assoc, Int.reduceToNat, Int.reduceLT, Int.reduceLE, Int.reduceEq, Int.reduceNe, Int.reduceBEq, IntKind.bits, bne_self_eq_false, Int.reducePow, hR2, hS]
  refine xcall (equal_ok L2 M2) (by rfl) (by rfl) (by rfl) (by rfl) ?_
  rintro r h' ⟨rfl, rfl⟩
  have bs : ∀ b : Bool, (b == b) = true := fun b => by cases b <;> rfl
  simp only [sx, x_box, x_alloc, x_bslice, x_slice, x_append, x_b2s, xop, ev, evs, evParts, fillL, cellsL, Ai.get, Ai.put, stab, isNil?, if_false, if_true, addr?, int?, str?, agg?, bool?, shiftA, FnPost, xresL, xres1, tup, argEnv, ptr, Nat.reduceEqDiff, reduceIte, beq_self_eq_true, ne_eq, Nat.reduceAdd, Nat.reduceMul, Nat.reduceSub, abin_shl, abin_shr, load1V, loadV, storeV, cellsAt, getN, setN, allocV, lenL, lenS, bnd, oneC, Value.oneCell', Nat.reduceLeDiff, Nat.reduceLT, exists_eq_left', forall_const, reduceCtorEq, app_new, app_new0, List.append_assoc, Int.reduceToNat, Int.reduceLT, Int.reduceLE, Int.reduceEq, Int.reduceNe, Int.reduceBEq, IntKind.bits, bne_self_eq_false, Int.reducePow, hR2, hS, eq_self, bs]
  exact K
/-- a view of bytes that are written no more, of any length -/
def LoadU (h : AHeap) (v : Value) (zs : List Int) : Prop := ∃ q c, v = .slice q zs.length c ∧ (zs = [] ∨ ∃ a cs, q = some a ∧ a.spot = none ∧ h[a.block]? = some (some ⟨false, cs⟩) ∧ getN cs a.off zs.length = some (bR zs))
theorem LoadU.frz {h h' : AHeap} {v : Value} {zs : List Int} (l : LoadU h v zs) (z : Frz h h') : LoadU h' v zs := by
  obtain ⟨q, c, h1, h3 | ⟨a, cs, h3, h4, h5, h6⟩⟩ := l
  · exact ⟨q, c, h1, .inl h3⟩
  · exact ⟨q, c, h1, .inr ⟨a, cs, h3, h4, z _ _ h5, h6⟩⟩
theorem LoadU.first {h : AHeap} {v : Value} {zs : List Int} (l : LoadU h v zs) : ∃ q c, v = .slice q zs.length c ∧ firstV 1 h zs.length (.slice q zs.length c) = some (bR zs) := by
  obtain ⟨q, c, rfl, rfl | ⟨a, cs, rfl, h4, h5, h6⟩⟩ := l
  · exact ⟨q, c, rfl, by cases q <;> simp [firstV, bR]⟩
  · refine ⟨_, c, rfl, ?_⟩
    simp only [firstV]
    split
    · rename_i h0; rw [List.eq_nil_of_length_eq_zero h0]; rfl
    · simp only [h4, ne_eq, not_true_eq_false, if_false, cellsAt, h5, Option.bind_some, Nat.mul_one]
      exact h6
def M4I (S len : Nat) (q : Option Addr) (n c : Nat) (bs : List Int) (h0 : AHeap) (m : Nat) (ρ : Env) (h : AHeap) : Prop := ∃ i zs, i + m = len ∧ zs.length = len ∧ get ρ 6 = some (.int .i64 (i : Nat)) ∧ get ρ 5 = some (.slice (some ⟨S, 0, none⟩) len len) ∧ get ρ 1 = some (.slice q n c) ∧ h[S]? = some (some ⟨true, bR zs⟩) ∧ Kp h0 h ∧ LoadU h (.slice q n c) bs
def M4M (S len : Nat) (h0 : AHeap) (ρ : Env) (h : AHeap) : Prop := ∃ zs, zs.length = len ∧ get ρ 5 = some (.slice (some ⟨S, 0, none⟩) len len) ∧ h[S]? = some (some ⟨true, bR zs⟩) ∧ Kp h0 h
theorem bR_set (zs : List Int) (i : Nat) (z : Int) : (bR zs).set i (Value.int .u8 z) = bR (zs.set i z) := by unfold bR; rw [List.map_set]
set_option maxHeartbeats 2000000 in
/-- a load of any bytes -/
theorem message4_ok {h : AHeap} {k : Int} {q : Option Addr} {n c : Nat} {bs : List Int} (hk : 0 ≤ k ∧ k ≤ 65535) (hn : bs.length = n) (L : LoadU h (.slice q n c) bs) : Valid Try.prog 48 [.int .u16 k, .slice q n c] h fun r h' => ∃ zs, LoadV h' r zs ∧ 2 ≤ zs.length ∧ zs.length ≤ 273 ∧ Kp h h' := by
  refine Valid.freeze ?_
  refine v48 (by simp) ?_
  have h1 : ¬ (272 : Int) = 0 := by decide
  obtain ⟨len, hlen, h2, h3⟩ : ∃ len : Nat, IntKind.i64.wrap (2 + IntKind.i64.wrap (k.tmod 272)) = len ∧ 2 ≤ len ∧ len ≤ 273 := ⟨2 + (k % 272).toNat, by
    rw [Int.tmod_eq_emod_of_nonneg hk.1, i64_wrap (n := k % 272) (by omega) (by omega), i64_wrap (by omega) (by omega)]; omega, by omega, by omega⟩
  have g0 : (0 : Int) ≤ (len : Int) := by omega
  have g1 : (len : Int) * 1 ≤ 140737488355328 := by omega
  have g2 : (len : Int) ≤ 9223372036854775807 := by omega
  have hz : (List.replicate len [Value.int .u8 0]).flatten = bR (List.replicate len 0) := by
    unfold bR; simp
  have K1 : Kp h (h ++ [some ⟨true, bR (List.replicate len 0)⟩]) := Kp.app _ _
  have S1 : (h ++ [some ⟨true, bR (List.replicate len 0)⟩])[h.length]? = some (some ⟨true, bR (List.replicate len 0)⟩) := app_new0
  simp only [X48, sx, x_box, x_alloc, x_bslice, x_slice, x_append, x_b2s, xop, ev, evs, evParts, fillL, cellsL, Ai.get, Ai.put, stab, isNil?, if_false, if_true, addr?, int?, str?, agg?, bool?, shiftA, FnPost, xresL, xres1, tup, argEnv, ptr, Nat.reduceEqDiff, reduceIte, beq_self_eq_true, ne_eq, Nat.reduceAdd, Nat.reduceMul, Nat.reduceSub, abin_shl, abin_shr, load1V, loadV, storeV, cellsAt, getN, setN, allocV, lenL, lenS, bnd, oneC, Value.oneCell', Nat.reduceLeDiff, Nat.reduceLT, exists_eq_left', forall_const, reduceCtorEq, app_new, app_new0, List.append_assoc, Int.reduceToNat, Int.reduceLT, Int.reduceLE, Int.reduceEq, Int.reduceNe, Int.reduceBEq, IntKind.bits, bne_self_eq_false, Int.reducePow, h1, hlen, g0, g1, g2, Int.toNat_natCast, hz, Int.le_refl]
  have L1 := L.frz K1.frz
  have hSl : h.length ≤ h.length := Nat.le_refl _
  generalize h ++ [some ⟨true, bR (List.replicate len 0)⟩] = h1 at *
  generalize hSS : h.length = S at *
  refine xloop_cut (M4M S len h) ?_ ?_
  · refine xcode_loop (M4I S len q n c bs h) len ⟨0, _, by omega, by simp, rfl, rfl, rfl, S1, K1, L1⟩ ?_
    clear S1 K1 L1 L h1
    rintro m ρ h1 ⟨i, zs, him, hzl, g6, g5, gb, S1, K1, L1⟩
    by_cases hlt : i < len
    rotate_left
    · have hlt' : ¬ (i : Int) < len := by omega
      simp only [sx, x_box, x_alloc, x_bslice, x_slice, x_append, x_b2s, xop, ev, evs, evParts, fillL, cellsL, Ai.get, Ai.put, stab, isNil?, if_false, if_true, addr?, int?, str?, agg?, bool?, shiftA, FnPost, xresL, xres1, tup, argEnv, ptr, Nat.reduceEqDiff, reduceIte, beq_self_eq_true, ne_eq, Nat.reduceAdd, Nat.reduceMul, Nat.reduceSub, abin_shl, abin_shr, load1V, loadV, storeV, cellsAt, getN, setN, allocV, lenL, lenS, bnd, oneC, Value.oneCell', Nat.reduceLeDiff, Nat.reduceLT, exists_eq_left', forall_const, reduceCtorEq, app_new, app_new0, List.append_assoc, Int.reduceToNat, Int.reduceLT, Int.reduceLE, Int.reduceEq, Int.reduceNe, Int.reduceBEq, IntKind.bits, bne_self_eq_false, Int.reducePow, g6, g5, gb, hlt']
      exact ⟨zs, hzl, g5, S1, K1⟩
    have hlt' : (i : Int) < len := by omega
    by_cases hn0 : n = 0
    · have hn0' : ¬ (0 : Int) < n := by omega
      simp only [sx, x_box, x_alloc, x_bslice, x_slice, x_append, x_b2s, xop, ev, evs, evParts, fillL, cellsL, Ai.get, Ai.put, stab, isNil?, if_false, if_true, addr?, int?, str?, agg?, bool?, shiftA, FnPost, xresL, xres1, tup, argEnv, ptr, Nat.reduceEqDiff, reduceIte, beq_self_eq_true, ne_eq, Nat.reduceAdd, Nat.reduceMul, Nat.reduceSub, abin_shl, abin_shr, load1V, loadV, storeV, cellsAt, getN, setN, allocV, lenL, lenS, bnd, oneC, Value.oneCell', Nat.reduceLeDiff, Nat.reduceLT, exists_eq_left', forall_const, reduceCtorEq, app_new, app_new0, List.append_assoc, Int.reduceToNat, Int.reduceLT, Int.reduceLE, Int.reduceEq, Int.reduceNe, Int.reduceBEq, IntKind.bits, bne_self_eq_false, Int.reducePow, g6, g5, gb, hlt', hn0']
      exact ⟨zs, hzl, g5, S1, K1⟩
    · have hn0' : (0 : Int) < n := by omega
      have hn1 : ¬ (n : Int) = 0 := by omega
      have hge : (0 : Int) ≤ i := by omega
      have hwi : IntKind.i64.wrap ((i : Int) + 1) = ((i + 1 : Nat) : Int) := by rw [i64_wrap] <;> omega
      have hrem : (i : Int).tmod n = ((i % n : Nat) : Int) := by rw [Int.tmod_eq_emod_of_nonneg (by omega)]; omega
      have hml : i % n < n := Nat.mod_lt _ (by omega)
      have hml' : ((i % n : Nat) : Int) < n := by omega
      have hmge : (0 : Int) ≤ ((i % n : Nat) : Int) := by omega
      obtain ⟨q', c', e1, f1⟩ := L1.first
      rw [hn] at e1 f1
      cases e1
      obtain ⟨a, o, z, rfl, a1, a2, a3, a4⟩ := elemB f1 hml
      have hle : i + 1 ≤ (bR zs).length := by rw [bR_len]; omega
      simp only [sx, x_box, x_alloc, x_bslice, x_slice, x_append, x_b2s, xop, ev, evs, evParts, fillL, cellsL, Ai.get, Ai.put, stab, isNil?, if_false, if_true, addr?, int?, str?, agg?, bool?, shiftA, FnPost, xresL, xres1, tup, argEnv, ptr, Nat.reduceEqDiff, reduceIte, beq_self_eq_true, ne_eq, Nat.reduceAdd, Nat.reduceMul, Nat.reduceSub, abin_shl, abin_shr, load1V, loadV, storeV, cellsAt, getN, setN, allocV, lenL, lenS, bnd, oneC, Value.oneCell', Nat.reduceLeDiff, Nat.reduceLT, exists_eq_left', forall_const, reduceCtorEq, app_new, app_new0, List.append_assoc, Int.reduceToNat, Int.reduceLT, Int.reduceLE, Int.reduceEq, Int.reduceNe, Int.reduceBEq, IntKind.bits, bne_self_eq_false, Int.reducePow, g6, g5, gb, hlt', hn0', hn1, hge, hrem, hml', hmge, a1, a2, a3, Nat.mul_one, Nat.zero_add, S1, hle, hwi, bR_set]
      have K2 : Kp h (h1.set S (some ⟨true, bR (zs.set i z)⟩)) := K1.set (by omega) _
      refine ⟨m - 1, by omega, i + 1, zs.set i z, by omega, by simp [hzl], rfl, g5, gb, set_same S1 _, K2, L1.frz ?_⟩
      intro B cs hB
      rw [set_ne (fun e1 => by rw [← e1, S1] at hB; cases hB)]; exact hB
  · rintro ρ h2 ⟨zs, hzl, g5, S2, K2⟩
    simp only [sx, x_box, x_alloc, x_bslice, x_slice, x_append, x_b2s, xop, ev, evs, evParts, fillL, cellsL, Ai.get, Ai.put, stab, isNil?, if_false, if_true, addr?, int?, str?, agg?, bool?, shiftA, FnPost, xresL, xres1, tup, argEnv, ptr, Nat.reduceEqDiff, reduceIte, beq_self_eq_true, ne_eq, Nat.reduceAdd, Nat.reduceMul, Nat.reduceSub, abin_shl, abin_shr, load1V, loadV, storeV, cellsAt, getN, setN, allocV, lenL, lenS, bnd, oneC, Value.oneCell', Nat.reduceLeDiff, Nat.reduceLT, exists_eq_left', forall_const, reduceCtorEq, app_new, app_new0, List.append_assoc, Int.reduceToNat, Int.reduceLT, Int.reduceLE, Int.reduceEq, Int.reduceNe, Int.reduceBEq, IntKind.bits, bne_self_eq_false, Int.reducePow, g5]
    refine .inr ⟨S, _, S2, zs, ⟨S, by rw [hzl], set_same S2 _, by omega, by omega⟩, by omega, by omega, K2.set (by omega) _⟩
/-- a unit of the law's making -/
structure U4 (u : UP) : Prop where
  b : 0 ≤ u.back ∧ u.back < 128
  f : 0 ≤ u.fore ∧ u.fore < 128
  k : 0 ≤ u.kind ∧ u.kind ≤ 2
  s : 0 ≤ u.st ∧ u.st ≤ 5
  s1 : u.kind ≠ 1 → u.st = 0
  l1 : u.kind ≠ 2 → u.load = []
  l2 : u.kind = 2 → 2 ≤ u.load.length ∧ u.load.length ≤ 273
set_option maxHeartbeats 4000000 in
set_option maxRecDepth 20000 in
theorem of4_ok {h : AHeap} {a b c d e : Int} {q : Option Addr} {n cp : Nat} {bs : List Int} (ha : 0 ≤ a ∧ a ≤ 255) (hb : 0 ≤ b ∧ b ≤ 255) (hc : 0 ≤ c ∧ c ≤ 255) (hd : 0 ≤ d ∧ d ≤ 255) (he : 0 ≤ e ∧ e ≤ 65535) (hn : bs.length = n) (L : LoadU h (.slice q n cp) bs) :
    Valid Try.prog 44 [.agg #[.int .u8 a, .int .u8 b, .int .u8 c, .int .u8 d, .int .u16 e, .slice q n cp]] h fun r h' => ∃ u lv, r = .agg (u.cells lv).toArray ∧ U4 u ∧ (u.kind = 2 → LoadV h' lv u.load) ∧ (u.kind ≠ 2 → lv = .slice none 0 0) ∧ Kp h h' := by
  refine v44 (by simp) ?_
  have h128 : ¬ (128 : Int) = 0 := by decide
  have h3 : ¬ (3 : Int) = 0 := by decide
  have h6 : ¬ (6 : Int) = 0 := by decide
  have ra : a.tmod 128 = a % 128 := Int.tmod_eq_emod_of_nonneg ha.1
  have rb : b.tmod 128 = b % 128 := Int.tmod_eq_emod_of_nonneg hb.1
  have rc : c.tmod 3 = c % 3 := Int.tmod_eq_emod_of_nonneg hc.1
  have rd : d.tmod 6 = d % 6 := Int.tmod_eq_emod_of_nonneg hd.1
  simp only [X44, sx, x_bslice, x_slice, x_append, x_b2s, xop, ev, evs, evParts, fillL, cellsL, Ai.get, Ai.put, stab, isNil?, if_false, if_true, addr?, int?, str?, agg?, bool?, shiftA, FnPost, xresL, xres1, tup, argEnv, ptr, Nat.reduceEqDiff, reduceIte, beq_self_eq_true, ne_eq, Nat.reduceAdd, Nat.reduceMul, Nat.reduceSub, abin_shl, abin_shr, load1V, loadV, storeV, cellsAt, getN, setN, allocV, lenL, lenS, bnd, oneC, Value.oneCell', Nat.reduceLeDiff, Nat.reduceLT, exists_eq_left', forall_const, reduceCtorEq, app_new, app_new0, List.append_assoc, Int.reduceToNat, Int.reduceLT, Int.reduceLE, Int.reduceEq, Int.reduceNe, Int.reduceBEq, IntKind.bits, bne_self_eq_false, Int.reducePow]
  refine box_run rfl fun g1 R K1 hR hRl _ => ?_
  simp only [sx, x_box, x_bslice, x_slice, x_append, x_b2s, xop, ev, evs, evParts, fillL, cellsL, Ai.get, Ai.put, stab, isNil?, if_false, if_true, addr?, int?, str?, agg?, bool?, shiftA, FnPost, xresL, xres1, tup, argEnv, ptr, Nat.reduceEqDiff, reduceIte, beq_self_eq_true, ne_eq, Nat.reduceAdd, Nat.reduceMul, Nat.reduceSub, abin_shl, abin_shr, load1V, loadV, storeV, cellsAt, getN, setN, allocV, lenL, lenS, bnd, oneC, Value.oneCell', Nat.reduceLeDiff, Nat.reduceLT, exists_eq_left', forall_const, reduceCtorEq, app_new, app_new0, List.append_assoc, Int.reduceToNat, Int.reduceLT, Int.reduceLE, Int.reduceEq, Int.reduceNe, Int.reduceBEq, IntKind.bits, bne_self_eq_false, Int.reducePow]
  refine alloc_run fun g2 T K2 hT hTl _ => ?_
  have hR2 := K2.get hR
  simp only [cellsL] at hR2
  simp only [sx, x_box, x_bslice, x_slice, x_append, x_b2s, xop, ev, evs, evParts, fillL, cellsL, Ai.get, Ai.put, stab, isNil?, if_false, if_true, addr?, int?, str?, agg?, bool?, shiftA, FnPost, xresL, xres1, tup, argEnv, ptr, Nat.reduceEqDiff, reduceIte, beq_self_eq_true, ne_eq, Nat.reduceAdd, Nat.reduceMul, Nat.reduceSub, abin_shl, abin_shr, load1V, loadV, storeV, cellsAt, getN, setN, allocV, lenL, lenS, bnd, oneC, Value.oneCell', Nat.reduceLeDiff, Nat.reduceLT, exists_eq_left', forall_const, reduceCtorEq, app_new, app_new0, List.append_assoc, Int.reduceToNat, Int.reduceLT, Int.reduceLE, Int.reduceEq, Int.reduceNe, Int.reduceBEq, IntKind.bits, bne_self_eq_false, Int.reducePow, hR2, h128, h3]
  refine alloc_run fun g3 U K3 hU hUl _ => ?_
  have hR3 := K3.get hR2
  have hT3 := K3.get hT
  have hRl2 := lt_of_get hR
  have hTl2 := lt_of_get hT
  have hTU : T ≠ U := by omega
  have hRU : R ≠ U := by omega
  have hRT : R ≠ T := by omega
  have hK1 := K1.1
  have hK2 := K2.1
  have K123 := (K1.trans K2).trans K3
  have sU := set_far hRU.symm
  have sT := set_far hTU.symm
  have sV := set_far hTU
  have u1 := Int.emod_nonneg a (show (128 : Int) ≠ 0 by decide)
  have hTl' : h.length ≤ T := by omega
  have k012 : c.tmod 3 = 0 ∨ c.tmod 3 = 1 ∨ c.tmod 3 = 2 := by rw [rc]; omega
  have mk : ∀ (st : Int) (lv : Value) (zs : List Int), 0 ≤ st ∧ st ≤ 5 → (c.tmod 3 ≠ 1 → st = 0) → (c.tmod 3 ≠ 2 → zs = []) → (c.tmod 3 = 2 → 2 ≤ zs.length ∧ zs.length ≤ 273) → U4 ⟨a.tmod 128, decide (128 ≤ a), b.tmod 128, decide (128 ≤ b), c.tmod 3, st, zs⟩ := fun st lv zs h1 h2 h3 h4 =>
    ⟨by show 0 ≤ a.tmod 128 ∧ a.tmod 128 < 128; rw [ra]; omega, by show 0 ≤ b.tmod 128 ∧ b.tmod 128 < 128; rw [rb]; omega, by show 0 ≤ c.tmod 3 ∧ c.tmod 3 ≤ 2; rw [rc]; omega, h1, h2, h3, h4⟩
  rcases k012 with k1 | k1 | k1
  · have h01 : ¬ (0 : Int) = 1 := by decide
    have h02 : ¬ (0 : Int) = 2 := by decide
    simp only [sx, x_box, x_alloc, x_bslice, x_slice, x_append, x_b2s, xop, ev, evs, evParts, fillL, cellsL, Ai.get, Ai.put, stab, isNil?, if_false, if_true, addr?, int?, str?, agg?, bool?, shiftA, FnPost, xresL, xres1, tup, argEnv, ptr, Nat.reduceEqDiff, reduceIte, beq_self_eq_true, ne_eq, Nat.reduceAdd, Nat.reduceMul, Nat.reduceSub, abin_shl, abin_shr, load1V, loadV, storeV, cellsAt, getN, setN, allocV, lenL, lenS, bnd, oneC, Value.oneCell', Nat.reduceLeDiff, Nat.reduceLT, exists_eq_left', forall_const, reduceCtorEq, app_new, app_new0, List.append_assoc, Int.reduceToNat, Int.reduceLT, Int.reduceLE, Int.reduceEq, Int.reduceNe, Int.reduceBEq, IntKind.bits, bne_self_eq_false, Int.reducePow, hU, set_here, k1, h01, h02, sU, sT, sV, hR3, hT3, List.set_set]
    have hu := mk 0 (.slice none 0 0) [] (by omega) (fun _ => rfl) (fun _ => rfl) (fun h => by omega)
    rw [k1] at hu
    exact ⟨_, _, rfl, hu, fun h => absurd h h02, fun _ => rfl, (K123.set (by omega) _).set hTl' _⟩
  · simp only [sx, x_box, x_alloc, x_bslice, x_slice, x_append, x_b2s, xop, ev, evs, evParts, fillL, cellsL, Ai.get, Ai.put, stab, isNil?, if_false, if_true, addr?, int?, str?, agg?, bool?, shiftA, FnPost, xresL, xres1, tup, argEnv, ptr, Nat.reduceEqDiff, reduceIte, beq_self_eq_true, ne_eq, Nat.reduceAdd, Nat.reduceMul, Nat.reduceSub, abin_shl, abin_shr, load1V, loadV, storeV, cellsAt, getN, setN, allocV, lenL, lenS, bnd, oneC, Value.oneCell', Nat.reduceLeDiff, Nat.reduceLT, exists_eq_left', forall_const, reduceCtorEq, app_new, app_new0, List.append_assoc, Int.reduceToNat, Int.reduceLT, Int.reduceLE, Int.reduceEq, Int.reduceNe, Int.reduceBEq, IntKind.bits, bne_self_eq_false, Int.reducePow, hU, set_here, k1, h6, sU, sT, sV, hR3, hT3, List.set_set]
    have hu := mk (d.tmod 6) (.slice none 0 0) [] (by rw [rd]; omega) (fun h => absurd k1 h) (fun _ => rfl) (fun h => by omega)
    rw [k1] at hu
    exact ⟨_, _, rfl, hu, fun h => absurd h (show ¬ (1 : Int) = 2 by decide), fun _ => rfl, (K123.set (by omega) _).set hTl' _⟩
  · have h21 : ¬ (2 : Int) = 1 := by decide
    simp only [sx, x_box, x_alloc, x_bslice, x_slice, x_append, x_b2s, xop, ev, evs, evParts, fillL, cellsL, Ai.get, Ai.put, stab, isNil?, if_false, if_true, addr?, int?, str?, agg?, bool?, shiftA, FnPost, xresL, xres1, tup, argEnv, ptr, Nat.reduceEqDiff, reduceIte, beq_self_eq_true, ne_eq, Nat.reduceAdd, Nat.reduceMul, Nat.reduceSub, abin_shl, abin_shr, load1V, loadV, storeV, cellsAt, getN, setN, allocV, lenL, lenS, bnd, oneC, Value.oneCell', Nat.reduceLeDiff, Nat.reduceLT, exists_eq_left', forall_const, reduceCtorEq, app_new, app_new0, List.append_assoc, Int.reduceToNat, Int.reduceLT, Int.reduceLE, Int.reduceEq, Int.reduceNe, Int.reduceBEq, IntKind.bits, bne_self_eq_false, Int.reducePow, hU, set_here, k1, h21, sU, sT, sV, hR3, hT3]
    have U4' := set_same hU (some ⟨true, [.int .u8 (a.tmod 128), .bool (decide (128 ≤ a)), .int .u8 (b.tmod 128), .bool (decide (128 ≤ b)), .int .u8 2, .int .u8 0, .slice none 0 0]⟩)
    have T4 := (sT g3 (some ⟨true, [.int .u8 (a.tmod 128), .bool (decide (128 ≤ a)), .int .u8 (b.tmod 128), .bool (decide (128 ≤ b)), .int .u8 2, .int .u8 0, .slice none 0 0]⟩)).trans hT3
    have K4 : Kp h (g3.set U (some ⟨true, [.int .u8 (a.tmod 128), .bool (decide (128 ≤ a)), .int .u8 (b.tmod 128), .bool (decide (128 ≤ b)), .int .u8 2, .int .u8 0, .slice none 0 0]⟩)) := K123.set (by omega) _
    generalize (g3.set U (some ⟨true, [Value.int .u8 (a.tmod 128), .bool (decide (128 ≤ a)), .int .u8 (b.tmod 128), .bool (decide (128 ≤ b)), .int .u8 2, .int .u8 0, .slice none 0 0]⟩)) = g4 at *
    refine xcall (message4_ok he hn (L.frz K4.frz)) (by rfl) (by rfl) (by rfl) (by rfl) ?_
    rintro r g5 ⟨zs, L5, l2, l3, K5⟩
    have U5 := K5.get U4'
    have T5 := K5.get T4
    have L5' := L5
    obtain ⟨B5, rfl, -⟩ := L5'
    simp only [sx, x_box, x_alloc, x_bslice, x_slice, x_append, x_b2s, xop, ev, evs, evParts, fillL, cellsL, Ai.get, Ai.put, stab, isNil?, if_false, if_true, addr?, int?, str?, agg?, bool?, shiftA, FnPost, xresL, xres1, tup, argEnv, ptr, Nat.reduceEqDiff, reduceIte, beq_self_eq_true, ne_eq, Nat.reduceAdd, Nat.reduceMul, Nat.reduceSub, abin_shl, abin_shr, load1V, loadV, storeV, cellsAt, getN, setN, allocV, lenL, lenS, bnd, oneC, Value.oneCell', Nat.reduceLeDiff, Nat.reduceLT, exists_eq_left', forall_const, reduceCtorEq, app_new, app_new0, List.append_assoc, Int.reduceToNat, Int.reduceLT, Int.reduceLE, Int.reduceEq, Int.reduceNe, Int.reduceBEq, IntKind.bits, bne_self_eq_false, Int.reducePow, U5, T5, set_here, sU, sT, sV, List.set_set]
    have hu := mk 0 (.slice (some ⟨B5, 0, none⟩) zs.length zs.length) zs (by omega) (fun _ => rfl) (fun h => absurd k1 h) (fun _ => ⟨l2, l3⟩)
    rw [k1] at hu
    have z6 : ∀ cs cs', Frz g5 ((g5.set U (some ⟨true, cs⟩)).set T (some ⟨true, cs'⟩)) := fun cs cs' B ds hB => by
      rw [set_ne (fun e1 => by rw [← e1, T5] at hB; cases hB), set_ne (fun e1 => by rw [← e1, U5] at hB; cases hB)]; exact hB
    exact ⟨_, _, rfl, hu, fun _ => L5.frz (z6 _ _), fun h => absurd rfl h, ((K4.trans K5).set (by omega) _).set hTl' _⟩
end Go.Proofs.Ytcpcngamfncpdaa
