import Derived.Test.YtkbpfebohpdgbaaS4
import Derived.Test.YtkbpfebohpdgbaaAiYn
set_option linter.unusedVariables false
set_option linter.unusedSimpArgs false
namespace Go.Proofs.Ytkbpfebohpdgbaa
open Go Go.Ai Go.Proofs

/-- the end, and the model that mirrors it -/
structure SC (h : AHeap) (M X : Nat) (e : BE) (qv ov : Value) (g s a : Nat) : Prop where
  E : BAt h X e qv ov
  m : h[M]? = some (some ⟨true, MC e g s a⟩)
  x : EX e g s a
  n : ¬ foot X qv ov M
theorem SC.kp {h h' : AHeap} {M X : Nat} {e : BE} {qv ov : Value} {g s a : Nat} (S : SC h M X e qv ov g s a) (K : Kp h h') : SC h' M X e qv ov g s a := ⟨S.E.kp K, K.get S.m, S.x, S.n⟩
/-- a method of the end leaves the model -/
theorem SC.ended {h h' : AHeap} {M X : Nat} {e e' : BE} {qv ov : Value} {g s a : Nat} (S : SC h M X e qv ov g s a) (w : Went h h' X e' qv ov) : ∃ qv' ov', BAt h' X e' qv' ov' ∧ h'[M]? = some (some ⟨true, MC e g s a⟩) ∧ ¬ foot X qv' ov' M ∧ Frz h h' := by
  obtain ⟨qv', ov', E', F, hf⟩ := w
  have hl := lt_of_get S.m
  refine ⟨qv', ov', E', (F.2 M hl S.n).trans S.m, fun hB => ?_, S.E.frz F⟩
  rcases hf M hB with h1 | h1
  · exact S.n h1
  · omega
/-- a step of the model leaves the end -/
theorem BAt.model {h h' : AHeap} {M X : Nat} {e : BE} {qv ov : Value} {cs : List Value} (E : BAt h X e qv ov) (hM : h[M]? = some (some ⟨true, cs⟩)) (n : ¬ foot X qv ov M) (F : Fr (· = M) h h') : BAt h' X e qv ov ∧ Frz h h' := by
  have z : Frz h h' := F.frz fun B cs hB h1 => by rw [hB, hM] at h1; cases h1
  exact ⟨E.keep z fun B hB => F.2 B (E.lt hB) fun e1 => n (e1 ▸ hB), z⟩
def SCx (h : AHeap) (M X b : Nat) : Prop := ∃ e qv ov g s a, SC h M X e qv ov g s a ∧ g ≤ b
theorem EX.accept {e : BE} {g s a : Nat} (X : EX e g s a) (hg : g + 1 ≤ 1000) :
    (e.fl = true ∧ e.accept (msg g) = (e, 6)) ∨ (e.fl = false ∧ g - s = 64 ∧ e.accept (msg g) = (e, 9)) ∨ (e.fl = false ∧ g - s ≠ 64 ∧ e.accept (msg g) = ({ e with q := e.q ++ [msg g] }, 0) ∧ EX { e with q := e.q ++ [msg g] } (g + 1) s a) := by
  have hl := msg_len g
  have hq : e.q.length = g - s := by rw [X.q, lst_len]
  have h4 := X.h4
  have h2 := X.h2
  unfold BE.accept BE.st
  cases hf : e.fl
  · right
    rw [if_neg (by simp), if_neg (by omega), hq]
    by_cases h64 : g - s = 64
    · left; rw [if_pos (by omega)]; exact ⟨rfl, h64, rfl⟩
    · right
      rw [if_neg (by omega)]
      exact ⟨rfl, h64, rfl, ⟨by rw [lst_succ h2, ← X.q], X.o, X.sent, X.ack, X.h1, by omega, X.h3, by omega, X.h5, X.h6, X.h7, hg, X.l1, X.l2⟩⟩
  · left; exact ⟨rfl, by simp⟩
theorem ListV.kp {h h' : AHeap} {v : Value} {ls : List (List Int)} (V : ListV h v ls) (K : Kp h h') : ListV h' v ls := by
  obtain ⟨q', cells, h1, h2, h3, h4⟩ := V
  exact ⟨q', cells, h1, K.first h2, h3.kp K, h4⟩
theorem EX.ret {e : BE} {g s a : Nat} (X : EX e g s a) : e.ret (num a) = (lst a g, 0) := by
  have hl := num_lt a
  have h0 : ahd (num a) (num a) = 0 := by unfold ahd; omega
  unfold BE.ret
  rw [X.ack, h0, if_neg (by omega), X.o, X.q, List.drop_zero, lst_app X.h1 X.h2]
theorem EX.heard {e : BE} {g s a : Nat} (X : EX e g s a) (hfl : e.fl = false) {u : UP} (k : U4 u) : (e.hear u).2.2 = (if (e.hear u).1.fl = true then 6 else 0) ∧ ((e.hear u).2.1 = [] ∨ ((e.hear u).2.1 = [u.load] ∧ u.kind = 2)) := by
  obtain ⟨b, hb⟩ : ∃ b : Nat, u.back = b := ⟨u.back.toNat, by have := k.b; omega⟩
  rcases X.hear hfl k hb rfl with ⟨-, h⟩ | ⟨-, -, h⟩ | ⟨-, -, h, -⟩
  · rw [h]; exact ⟨by simp [hfl], .inl rfl⟩
  · rw [h]
    refine ⟨?_, .inl rfl⟩
    cases e.a0 <;> cases e.a1 <;> simp [BE.abn]
  · rw [h]
    split
    · rename_i h1; exact ⟨by simp [BE.ackd, BE.abn, hfl], .inr ⟨rfl, h1.1⟩⟩
    · exact ⟨by simp [BE.ackd, BE.abn, hfl], .inl rfl⟩
/-- the script: acts as plain data -/
def ActsV (h : AHeap) (q : Option Addr) (n : Nat) : Prop := n = 0 ∨ ∃ B rows, q = some ⟨B, 0, none⟩ ∧ h[B]? = some (some ⟨false, rows⟩) ∧ ∀ i, i < n → ∃ (k a b c d e : Int) (lq : Option Addr) (ln lc : Nat) (bs : List Int),
  rows[i * 7]? = some (.int .u8 k) ∧ getN rows (i * 7 + 1) 6 = some [.int .u8 a, .int .u8 b, .int .u8 c, .int .u8 d, .int .u16 e, .slice lq ln lc] ∧ (0 ≤ k ∧ k ≤ 255) ∧ (0 ≤ a ∧ a ≤ 255) ∧ (0 ≤ b ∧ b ≤ 255) ∧ (0 ≤ c ∧ c ≤ 255) ∧ (0 ≤ d ∧ d ≤ 255) ∧ (0 ≤ e ∧ e ≤ 65535) ∧ bs.length = ln ∧ LoadU h (.slice lq ln lc) bs
theorem ActsV.frz {h h' : AHeap} {q : Option Addr} {n : Nat} (k : ActsV h q n) (z : Frz h h') : ActsV h' q n := by
  rcases k with h0 | ⟨B, rows, h1, h2, h3⟩
  · exact .inl h0
  · refine .inr ⟨B, rows, h1, z _ _ h2, fun i hi => ?_⟩
    obtain ⟨k, a, b, c, d, e, lq, ln, lc, bs, k1, k2, k3, k4, k5, k6, k7, k8, k9, L⟩ := h3 i hi
    exact ⟨k, a, b, c, d, e, lq, ln, lc, bs, k1, k2, k3, k4, k5, k6, k7, k8, k9, L.frz z⟩
def Regs (M X i n c : Nat) (q : Option Addr) (ρ : Env) : Prop := get ρ 8 = some (.int .i64 (i : Nat)) ∧ get ρ 6 = some (.pointer (some ⟨X, 0, none⟩)) ∧ get ρ 5 = some (.pointer (some ⟨M, 0, none⟩)) ∧ get ρ 1 = some (.slice q n c)
def ScI (M X n c : Nat) (q : Option Addr) (m : Nat) (ρ : Env) (h : AHeap) : Prop := ∃ i, i + m = n ∧ Regs M X i n c q ρ ∧ SCx h M X i ∧ ActsV h q n
/-- behind the act -/
def SwM (M X i n c : Nat) (q : Option Addr) (ρ : Env) (h : AHeap) : Prop := Regs M X i n c q ρ ∧ SCx h M X (i + 1) ∧ ActsV h q n
def WtM (h : AHeap) (M X i n c : Nat) (q : Option Addr) (b : Bool) (ρ : Env) (h' : AHeap) : Prop := Regs M X i n c q ρ ∧ get ρ 9 = some (.int .i64 (if b = true then 6 else 0)) ∧ h' = h

/-- a unit of the script, cut -/
def HrM (hA : AHeap) (U M X i n c : Nat) (q : Option Addr) (wt : Bool) (ρ : Env) (h : AHeap) : Prop := Regs M X i n c q ρ ∧ get ρ 9 = some (.int .i64 (if wt = true then 6 else 0)) ∧ get ρ 12 = some (.pointer (some ⟨U, 0, none⟩)) ∧ Kp hA h ∧ ∃ u lv, U4 u ∧ h[U]? = some (some ⟨true, u.cells lv⟩) ∧ LoadW h lv u.load
def HsM (h : AHeap) (U M X i n c : Nat) (q : Option Addr) (wt : Int) (b : Bool) (ρ : Env) (h' : AHeap) : Prop := Regs M X i n c q ρ ∧ get ρ 9 = some (.int .i64 wt) ∧ get ρ 12 = some (.pointer (some ⟨U, 0, none⟩)) ∧ get ρ 13 = some (.bool b) ∧ h' = h
set_option maxHeartbeats 16000000 in
set_option maxRecDepth 20000 in
theorem script_law {h : AHeap} {a b : Int} {q : Option Addr} {n c : Nat} (ha : 0 ≤ a ∧ a ≤ 255) (hb : 0 ≤ b ∧ b ≤ 65535) (hw : ActsV h q n) :
    Valid Try.prog 8 [.agg #[.int .u8 a, .int .u16 b], .slice q n c] h fun r h' => r = .bool true := by
  refine v8 (by simp) ?_
  simp only [X8, sx, x_bslice, x_slice, x_append, x_b2s, xop, ev, evs, evParts, fillL, cellsL, Ai.get, Ai.put, stab, isNil?, if_false, if_true, addr?, int?, str?, agg?, bool?, shiftA, FnPost, xresL, xres1, tup, argEnv, ptr, Nat.reduceEqDiff, reduceIte, beq_self_eq_true, ne_eq, Nat.reduceAdd, Nat.reduceMul, Nat.reduceSub, abin_shl, abin_shr, load1V, loadV, storeV, cellsAt, getN, setN, allocV, lenL, lenS, bnd, oneC, Value.oneCell', Nat.reduceLeDiff, Nat.reduceLT, exists_eq_left', forall_const, reduceCtorEq, app_new, app_new0, List.append_assoc, Int.reduceToNat, Int.reduceLT, Int.reduceLE, Int.reduceEq, Int.reduceNe, Int.reduceBEq, IntKind.bits, bne_self_eq_false, Int.reducePow]
  refine box_run rfl fun g R K0 hR hRl _ => ?_
  simp only [cellsL] at hR
  by_cases hbig : 120 < n
  · have hbig' : (120 : Int) < n := by omega
    simp only [sx, x_box, x_alloc, x_bslice, x_slice, x_append, x_b2s, xop, ev, evs, evParts, fillL, cellsL, Ai.get, Ai.put, stab, isNil?, if_false, if_true, addr?, int?, str?, agg?, bool?, shiftA, FnPost, xresL, xres1, tup, argEnv, ptr, Nat.reduceEqDiff, reduceIte, beq_self_eq_true, ne_eq, Nat.reduceAdd, Nat.reduceMul, Nat.reduceSub, abin_shl, abin_shr, load1V, loadV, storeV, cellsAt, getN, setN, allocV, lenL, lenS, bnd, oneC, Value.oneCell', Nat.reduceLeDiff, Nat.reduceLT, exists_eq_left', forall_const, reduceCtorEq, app_new, app_new0, List.append_assoc, Int.reduceToNat, Int.reduceLT, Int.reduceLE, Int.reduceEq, Int.reduceNe, Int.reduceBEq, IntKind.bits, bne_self_eq_false, Int.reducePow, hbig']
    refine xcall (lives_ok _) (by rfl) (by rfl) (by rfl) (by rfl) ?_
    rintro r h' ⟨rfl, rfl⟩
    simp only [sx, x_box, x_alloc, x_bslice, x_slice, x_append, x_b2s, xop, ev, evs, evParts, fillL, cellsL, Ai.get, Ai.put, stab, isNil?, if_false, if_true, addr?, int?, str?, agg?, bool?, shiftA, FnPost, xresL, xres1, tup, argEnv, ptr, Nat.reduceEqDiff, reduceIte, beq_self_eq_true, ne_eq, Nat.reduceAdd, Nat.reduceMul, Nat.reduceSub, abin_shl, abin_shr, load1V, loadV, storeV, cellsAt, getN, setN, allocV, lenL, lenS, bnd, oneC, Value.oneCell', Nat.reduceLeDiff, Nat.reduceLT, exists_eq_left', forall_const, reduceCtorEq, app_new, app_new0, List.append_assoc, Int.reduceToNat, Int.reduceLT, Int.reduceLE, Int.reduceEq, Int.reduceNe, Int.reduceBEq, IntKind.bits, bne_self_eq_false, Int.reducePow]
  have hbig' : ¬ (120 : Int) < n := by omega
  have W0 := hw.frz K0.frz
  clear hw
  simp only [sx, x_box, x_bslice, x_slice, x_append, x_b2s, xop, ev, evs, evParts, fillL, cellsL, Ai.get, Ai.put, stab, isNil?, if_false, if_true, addr?, int?, str?, agg?, bool?, shiftA, FnPost, xresL, xres1, tup, argEnv, ptr, Nat.reduceEqDiff, reduceIte, beq_self_eq_true, ne_eq, Nat.reduceAdd, Nat.reduceMul, Nat.reduceSub, abin_shl, abin_shr, load1V, loadV, storeV, cellsAt, getN, setN, allocV, lenL, lenS, bnd, oneC, Value.oneCell', Nat.reduceLeDiff, Nat.reduceLT, exists_eq_left', forall_const, reduceCtorEq, app_new, app_new0, List.append_assoc, Int.reduceToNat, Int.reduceLT, Int.reduceLE, Int.reduceEq, Int.reduceNe, Int.reduceBEq, IntKind.bits, bne_self_eq_false, Int.reducePow, hbig']
  refine alloc_run fun g2 M K2 hM hMl _ => ?_
  have hR2 := K2.get hR
  have hRM : M ≠ R := by have := lt_of_get hR; omega
  have sRM := set_far hRM
  have sR := (sRM g2 (some ⟨true, [.int .i64 0, .int .i64 0, .int .i64 0, .int .i64 0, .int .i64 0, .int .i64 0, .bool false, .int .u8 127, .bool false, .bool false, .bool false]⟩)).trans hR2
  have sM := set_same hM (some ⟨true, [.int .i64 0, .int .i64 0, .int .i64 0, .int .i64 0, .int .i64 0, .int .i64 0, .bool false, .int .u8 127, .bool false, .bool false, .bool false]⟩)
  have K3 : Kp h (g2.set M (some ⟨true, [.int .i64 0, .int .i64 0, .int .i64 0, .int .i64 0, .int .i64 0, .int .i64 0, .bool false, .int .u8 127, .bool false, .bool false, .bool false]⟩)) := (K0.trans K2).set (by have := K0.1; omega) _
  simp only [sx, x_box, x_alloc, x_bslice, x_slice, x_append, x_b2s, xop, ev, evs, evParts, fillL, cellsL, Ai.get, Ai.put, stab, isNil?, if_false, if_true, addr?, int?, str?, agg?, bool?, shiftA, FnPost, xresL, xres1, tup, argEnv, ptr, Nat.reduceEqDiff, reduceIte, beq_self_eq_true, ne_eq, Nat.reduceAdd, Nat.reduceMul, Nat.reduceSub, abin_shl, abin_shr, load1V, loadV, storeV, cellsAt, getN, setN, allocV, lenL, lenS, bnd, oneC, Value.oneCell', Nat.reduceLeDiff, Nat.reduceLT, exists_eq_left', forall_const, reduceCtorEq, app_new, app_new0, List.append_assoc, Int.reduceToNat, Int.reduceLT, Int.reduceLE, Int.reduceEq, Int.reduceNe, Int.reduceBEq, IntKind.bits, bne_self_eq_false, Int.reducePow, hM, hR2, sRM]
  have z2 : Frz g (g2.set M (some ⟨true, [.int .i64 0, .int .i64 0, .int .i64 0, .int .i64 0, .int .i64 0, .int .i64 0, .bool false, .int .u8 127, .bool false, .bool false, .bool false]⟩)) := K2.frz.trans (frz_set hM _)
  generalize (g2.set M (some ⟨true, [Value.int .i64 0, .int .i64 0, .int .i64 0, .int .i64 0, .int .i64 0, .int .i64 0, .bool false, .int .u8 127, .bool false, .bool false, .bool false]⟩)) = g3 at *
  have W3 := W0.frz z2
  refine xcall (of_ok ha hb) (by rfl) (by rfl) (by rfl) (by rfl) ?_
  rintro r g4 ⟨rfl, K4⟩
  have W4 := W3.frz K4.frz
  have M4 := K4.get sM
  have hsz := sz_le a b
  simp only [sx, x_box, x_alloc, x_bslice, x_slice, x_append, x_b2s, xop, ev, evs, evParts, fillL, cellsL, Ai.get, Ai.put, stab, isNil?, if_false, if_true, addr?, int?, str?, agg?, bool?, shiftA, FnPost, xresL, xres1, tup, argEnv, ptr, Nat.reduceEqDiff, reduceIte, beq_self_eq_true, ne_eq, Nat.reduceAdd, Nat.reduceMul, Nat.reduceSub, abin_shl, abin_shr, load1V, loadV, storeV, cellsAt, getN, setN, allocV, lenL, lenS, bnd, oneC, Value.oneCell', Nat.reduceLeDiff, Nat.reduceLT, exists_eq_left', forall_const, reduceCtorEq, app_new, app_new0, List.append_assoc, Int.reduceToNat, Int.reduceLT, Int.reduceLE, Int.reduceEq, Int.reduceNe, Int.reduceBEq, IntKind.bits, bne_self_eq_false, Int.reducePow, M4, set_here, List.set_set]
  have z5 := frz_set M4 (some ⟨true, [.int .i64 (szL a : Nat), .int .i64 (szO b : Nat), .int .i64 0, .int .i64 0, .int .i64 0, .int .i64 0, .bool false, .int .u8 127, .bool false, .bool false, .bool false]⟩)
  have M5 := set_same M4 (some ⟨true, [.int .i64 (szL a : Nat), .int .i64 (szO b : Nat), .int .i64 0, .int .i64 0, .int .i64 0, .int .i64 0, .bool false, .int .u8 127, .bool false, .bool false, .bool false]⟩)
  generalize (g4.set M (some ⟨true, [Value.int .i64 (szL a : Nat), .int .i64 (szO b : Nat), .int .i64 0, .int .i64 0, .int .i64 0, .int .i64 0, .bool false, .int .u8 127, .bool false, .bool false, .bool false]⟩)) = g5 at *
  have W5 := W4.frz z5
  refine xcall (new_ok (ml := szL a) (mo := szO b) hsz.1 hsz.2) (by rfl) (by rfl) (by rfl) (by rfl) ?_
  rintro r g6 ⟨rfl, K6, E6⟩
  have W6 := W5.frz K6.frz
  have M6 := K6.get M5
  have hMl5 := lt_of_get M5
  simp only [sx, x_box, x_alloc, x_bslice, x_slice, x_append, x_b2s, xop, ev, evs, evParts, fillL, cellsL, Ai.get, Ai.put, stab, isNil?, if_false, if_true, addr?, int?, str?, agg?, bool?, shiftA, FnPost, xresL, xres1, tup, argEnv, ptr, Nat.reduceEqDiff, reduceIte, beq_self_eq_true, ne_eq, Nat.reduceAdd, Nat.reduceMul, Nat.reduceSub, abin_shl, abin_shr, load1V, loadV, storeV, cellsAt, getN, setN, allocV, lenL, lenS, bnd, oneC, Value.oneCell', Nat.reduceLeDiff, Nat.reduceLT, exists_eq_left', forall_const, reduceCtorEq, app_new, app_new0, List.append_assoc, Int.reduceToNat, Int.reduceLT, Int.reduceLE, Int.reduceEq, Int.reduceNe, Int.reduceBEq, IntKind.bits, bne_self_eq_false, Int.reducePow]
  refine xcode_loop (ScI M g5.length n c q) n ⟨0, by omega, ⟨rfl, rfl, rfl, rfl⟩, ⟨_, _, _, 0, 0, 0, ⟨E6, M6, ⟨rfl, rfl, rfl, rfl, Nat.le_refl _, Nat.le_refl _, by omega, by omega, hsz.1.2, by simp [BE.new], by simp [BE.new], by omega, hsz.1.1, hsz.2⟩, ?_⟩, Nat.le_refl _⟩, W6⟩ ?_
  · rintro (h1 | h1 | h1)
    · omega
    · simp [slB] at h1
    · simp [slB] at h1
  clear hMl5 M6 W6 E6 K6 M5 z5 W5 M4 W4 K4 W3 z2 sM sR K3
  generalize g5.length = X
  rintro m ρ h' ⟨i, him, ⟨g8, g6, g5, g1⟩, S, W⟩
  by_cases hlt : i < n
  rotate_left
  · have hlt' : ¬ (i : Int) < n := by omega
    simp only [sx, x_box, x_alloc, x_bslice, x_slice, x_append, x_b2s, xop, ev, evs, evParts, fillL, cellsL, Ai.get, Ai.put, stab, isNil?, if_false, if_true, addr?, int?, str?, agg?, bool?, shiftA, FnPost, xresL, xres1, tup, argEnv, ptr, Nat.reduceEqDiff, reduceIte, beq_self_eq_true, ne_eq, Nat.reduceAdd, Nat.reduceMul, Nat.reduceSub, abin_shl, abin_shr, load1V, loadV, storeV, cellsAt, getN, setN, allocV, lenL, lenS, bnd, oneC, Value.oneCell', Nat.reduceLeDiff, Nat.reduceLT, exists_eq_left', forall_const, reduceCtorEq, app_new, app_new0, List.append_assoc, Int.reduceToNat, Int.reduceLT, Int.reduceLE, Int.reduceEq, Int.reduceNe, Int.reduceBEq, IntKind.bits, bne_self_eq_false, Int.reducePow, g8, g1, hlt']
    refine xcall (lives_ok _) (by rfl) (by rfl) (by rfl) (by rfl) ?_
    rintro r h' ⟨rfl, rfl⟩
    simp only [sx, x_box, x_alloc, x_bslice, x_slice, x_append, x_b2s, xop, ev, evs, evParts, fillL, cellsL, Ai.get, Ai.put, stab, isNil?, if_false, if_true, addr?, int?, str?, agg?, bool?, shiftA, FnPost, xresL, xres1, tup, argEnv, ptr, Nat.reduceEqDiff, reduceIte, beq_self_eq_true, ne_eq, Nat.reduceAdd, Nat.reduceMul, Nat.reduceSub, abin_shl, abin_shr, load1V, loadV, storeV, cellsAt, getN, setN, allocV, lenL, lenS, bnd, oneC, Value.oneCell', Nat.reduceLeDiff, Nat.reduceLT, exists_eq_left', forall_const, reduceCtorEq, app_new, app_new0, List.append_assoc, Int.reduceToNat, Int.reduceLT, Int.reduceLE, Int.reduceEq, Int.reduceNe, Int.reduceBEq, IntKind.bits, bne_self_eq_false, Int.reducePow]
  have hlt' : (i : Int) < n := by omega
  have hge : (0 : Int) ≤ i := by omega
  have hwi : IntKind.i64.wrap ((i : Int) + 1) = ((i + 1 : Nat) : Int) := by rw [i64_wrap] <;> omega
  obtain ⟨e, qv, ov, g, s, a, S, hgi⟩ := S
  have hM := S.m
  simp only [MC] at hM
  simp only [sx, x_box, x_alloc, x_bslice, x_slice, x_append, x_b2s, xop, ev, evs, evParts, fillL, cellsL, Ai.get, Ai.put, stab, isNil?, if_false, if_true, addr?, int?, str?, agg?, bool?, shiftA, FnPost, xresL, xres1, tup, argEnv, ptr, Nat.reduceEqDiff, reduceIte, beq_self_eq_true, ne_eq, Nat.reduceAdd, Nat.reduceMul, Nat.reduceSub, abin_shl, abin_shr, load1V, loadV, storeV, cellsAt, getN, setN, allocV, lenL, lenS, bnd, oneC, Value.oneCell', Nat.reduceLeDiff, Nat.reduceLT, exists_eq_left', forall_const, reduceCtorEq, app_new, app_new0, List.append_assoc, Int.reduceToNat, Int.reduceLT, Int.reduceLE, Int.reduceEq, Int.reduceNe, Int.reduceBEq, IntKind.bits, bne_self_eq_false, Int.reducePow, g8, g6, g5, g1, hlt', hM]
  refine xcond_cut (WtM h' M X i n c q e.fl) ?_ ?_
  · cases hfl : e.fl
    · simp only [sx, x_box, x_alloc, x_bslice, x_slice, x_append, x_b2s, xop, ev, evs, evParts, fillL, cellsL, Ai.get, Ai.put, stab, isNil?, if_false, if_true, addr?, int?, str?, agg?, bool?, shiftA, FnPost, xresL, xres1, tup, argEnv, ptr, Nat.reduceEqDiff, reduceIte, beq_self_eq_true, ne_eq, Nat.reduceAdd, Nat.reduceMul, Nat.reduceSub, abin_shl, abin_shr, load1V, loadV, storeV, cellsAt, getN, setN, allocV, lenL, lenS, bnd, oneC, Value.oneCell', Nat.reduceLeDiff, Nat.reduceLT, exists_eq_left', forall_const, reduceCtorEq, app_new, app_new0, List.append_assoc, Int.reduceToNat, Int.reduceLT, Int.reduceLE, Int.reduceEq, Int.reduceNe, Int.reduceBEq, IntKind.bits, bne_self_eq_false, Int.reducePow]
      exact ⟨⟨g8, g6, g5, g1⟩, rfl, rfl⟩
    · simp only [sx, x_box, x_alloc, x_bslice, x_slice, x_append, x_b2s, xop, ev, evs, evParts, fillL, cellsL, Ai.get, Ai.put, stab, isNil?, if_false, if_true, addr?, int?, str?, agg?, bool?, shiftA, FnPost, xresL, xres1, tup, argEnv, ptr, Nat.reduceEqDiff, reduceIte, beq_self_eq_true, ne_eq, Nat.reduceAdd, Nat.reduceMul, Nat.reduceSub, abin_shl, abin_shr, load1V, loadV, storeV, cellsAt, getN, setN, allocV, lenL, lenS, bnd, oneC, Value.oneCell', Nat.reduceLeDiff, Nat.reduceLT, exists_eq_left', forall_const, reduceCtorEq, app_new, app_new0, List.append_assoc, Int.reduceToNat, Int.reduceLT, Int.reduceLE, Int.reduceEq, Int.reduceNe, Int.reduceBEq, IntKind.bits, bne_self_eq_false, Int.reducePow]
      exact ⟨⟨g8, g6, g5, g1⟩, rfl, rfl⟩
  clear g8 g6 g5 g1 hM
  rintro ρ1 h1 ⟨⟨g8, g6, g5, g1⟩, g9, rfl⟩
  have hW := W
  rcases hW with h0 | ⟨B, rows, rfl, hB, hr⟩
  · omega
  obtain ⟨k, u1, u2, u3, u4, u5, lq, ln, lc, bs, k1, k2, k3, k4, k5, k6, k7, k8, k9, L⟩ := hr i hlt
  have e7 : (i : Int) * 7 = ((i * 7 : Nat) : Int) := by omega
  simp only [sx, x_box, x_alloc, x_bslice, x_slice, x_append, x_b2s, xop, ev, evs, evParts, fillL, cellsL, Ai.get, Ai.put, stab, isNil?, if_false, if_true, addr?, int?, str?, agg?, bool?, shiftA, FnPost, xresL, xres1, tup, argEnv, ptr, Nat.reduceEqDiff, reduceIte, beq_self_eq_true, ne_eq, Nat.reduceAdd, Nat.reduceMul, Nat.reduceSub, abin_shl, abin_shr, load1V, loadV, storeV, cellsAt, setN, allocV, lenL, lenS, bnd, oneC, Value.oneCell', Nat.reduceLeDiff, Nat.reduceLT, exists_eq_left', forall_const, reduceCtorEq, app_new, app_new0, List.append_assoc, Int.reduceToNat, Int.reduceLT, Int.reduceLE, Int.reduceEq, Int.reduceNe, Int.reduceBEq, IntKind.bits, bne_self_eq_false, Int.reducePow, g8, g6, g5, g1, g9, hlt', hge, hB, k1, k2]
  have hXg := S.x.hg
  have hXh := S.x.h2
  have hXa := S.x.h1
  have hXm := S.x.h4
  have hM0 := S.m
  have hM := hM0
  simp only [MC] at hM
  have hMl := lt_of_get hM
  refine xcond_cut (SwM M X i n c (some ⟨B, 0, none⟩)) ?_ ?_
  · by_cases hk0 : k.tmod 3 = 0
    · have A := S.x.accept (by omega)
      have hw1 : IntKind.i64.wrap ((g : Int) - s) = ((g - s : Nat) : Int) := by rw [i64_wrap (by omega) (by omega)]; omega
      have hw2 : IntKind.i64.wrap ((g : Int) + 1) = ((g + 1 : Nat) : Int) := by rw [i64_wrap] <;> omega
      rcases A with ⟨hfl, A⟩ | ⟨hfl, h64, A⟩ | ⟨hfl, h64, A, XA⟩
      · simp only [hfl, if_true] at g9
        simp only [sx, x_box, x_alloc, x_bslice, x_slice, x_append, x_b2s, xop, ev, evs, evParts, fillL, cellsL, Ai.get, Ai.put, stab, isNil?, if_false, if_true, addr?, int?, str?, agg?, bool?, shiftA, FnPost, xresL, xres1, tup, argEnv, ptr, Nat.reduceEqDiff, reduceIte, beq_self_eq_true, ne_eq, Nat.reduceAdd, Nat.reduceMul, Nat.reduceSub, abin_shl, abin_shr, load1V, loadV, storeV, cellsAt, getN, setN, allocV, lenL, lenS, bnd, oneC, Value.oneCell', Nat.reduceLeDiff, Nat.reduceLT, exists_eq_left', forall_const, reduceCtorEq, app_new, app_new0, List.append_assoc, Int.reduceToNat, Int.reduceLT, Int.reduceLE, Int.reduceEq, Int.reduceNe, Int.reduceBEq, IntKind.bits, bne_self_eq_false, Int.reducePow, hk0, g8, g6, g5, g1, g9, hM]
        refine xcall (message_ok (k := g) (by omega)) (by rfl) (by rfl) (by rfl) (by rfl) ?_
        rintro r h2 ⟨L2, K2⟩
        have S2 := S.kp K2
        simp only [sx, x_box, x_alloc, x_bslice, x_slice, x_append, x_b2s, xop, ev, evs, evParts, fillL, cellsL, Ai.get, Ai.put, stab, isNil?, if_false, if_true, addr?, int?, str?, agg?, bool?, shiftA, FnPost, xresL, xres1, tup, argEnv, ptr, Nat.reduceEqDiff, reduceIte, beq_self_eq_true, ne_eq, Nat.reduceAdd, Nat.reduceMul, Nat.reduceSub, abin_shl, abin_shr, load1V, loadV, storeV, cellsAt, getN, setN, allocV, lenL, lenS, bnd, oneC, Value.oneCell', Nat.reduceLeDiff, Nat.reduceLT, exists_eq_left', forall_const, reduceCtorEq, app_new, app_new0, List.append_assoc, Int.reduceToNat, Int.reduceLT, Int.reduceLE, Int.reduceEq, Int.reduceNe, Int.reduceBEq, IntKind.bits, bne_self_eq_false, Int.reducePow, g8, g6, g5, g1, g9]
        refine xcall (accept_ok S2.E L2.1) (by rfl) (by rfl) (by rfl) (by rfl) ?_
        rintro r h3 ⟨rfl, w3⟩
        rw [A] at w3
        obtain ⟨qv', ov', E3, M3, n3, z3⟩ := S2.ended w3
        simp only [sx, x_box, x_alloc, x_bslice, x_slice, x_append, x_b2s, xop, ev, evs, evParts, fillL, cellsL, Ai.get, Ai.put, stab, isNil?, if_false, if_true, addr?, int?, str?, agg?, bool?, shiftA, FnPost, xresL, xres1, tup, argEnv, ptr, Nat.reduceEqDiff, reduceIte, beq_self_eq_true, ne_eq, Nat.reduceAdd, Nat.reduceMul, Nat.reduceSub, abin_shl, abin_shr, load1V, loadV, storeV, cellsAt, getN, setN, allocV, lenL, lenS, bnd, oneC, Value.oneCell', Nat.reduceLeDiff, Nat.reduceLT, exists_eq_left', forall_const, reduceCtorEq, app_new, app_new0, List.append_assoc, Int.reduceToNat, Int.reduceLT, Int.reduceLE, Int.reduceEq, Int.reduceNe, Int.reduceBEq, IntKind.bits, bne_self_eq_false, Int.reducePow, A, g8, g6, g5, g1, g9]
        exact ⟨⟨g8, g6, g5, g1⟩, ⟨_, _, _, _, _, _, ⟨E3, M3, S.x, n3⟩, by omega⟩, W.frz (K2.frz.trans z3)⟩
      · have h64' : ((g - s : Nat) : Int) = 64 := by omega
        simp only [hfl, Bool.false_eq_true, if_false] at g9
        simp only [sx, x_box, x_alloc, x_bslice, x_slice, x_append, x_b2s, xop, ev, evs, evParts, fillL, cellsL, Ai.get, Ai.put, stab, isNil?, if_false, if_true, addr?, int?, str?, agg?, bool?, shiftA, FnPost, xresL, xres1, tup, argEnv, ptr, Nat.reduceEqDiff, reduceIte, beq_self_eq_true, ne_eq, Nat.reduceAdd, Nat.reduceMul, Nat.reduceSub, abin_shl, abin_shr, load1V, loadV, storeV, cellsAt, getN, setN, allocV, lenL, lenS, bnd, oneC, Value.oneCell', Nat.reduceLeDiff, Nat.reduceLT, exists_eq_left', forall_const, reduceCtorEq, app_new, app_new0, List.append_assoc, Int.reduceToNat, Int.reduceLT, Int.reduceLE, Int.reduceEq, Int.reduceNe, Int.reduceBEq, IntKind.bits, bne_self_eq_false, Int.reducePow, hk0, g8, g6, g5, g1, g9, hM, hw1, h64']
        refine xcall (message_ok (k := g) (by omega)) (by rfl) (by rfl) (by rfl) (by rfl) ?_
        rintro r h2 ⟨L2, K2⟩
        have S2 := S.kp K2
        simp only [sx, x_box, x_alloc, x_bslice, x_slice, x_append, x_b2s, xop, ev, evs, evParts, fillL, cellsL, Ai.get, Ai.put, stab, isNil?, if_false, if_true, addr?, int?, str?, agg?, bool?, shiftA, FnPost, xresL, xres1, tup, argEnv, ptr, Nat.reduceEqDiff, reduceIte, beq_self_eq_true, ne_eq, Nat.reduceAdd, Nat.reduceMul, Nat.reduceSub, abin_shl, abin_shr, load1V, loadV, storeV, cellsAt, getN, setN, allocV, lenL, lenS, bnd, oneC, Value.oneCell', Nat.reduceLeDiff, Nat.reduceLT, exists_eq_left', forall_const, reduceCtorEq, app_new, app_new0, List.append_assoc, Int.reduceToNat, Int.reduceLT, Int.reduceLE, Int.reduceEq, Int.reduceNe, Int.reduceBEq, IntKind.bits, bne_self_eq_false, Int.reducePow, g8, g6, g5, g1, g9]
        refine xcall (accept_ok S2.E L2.1) (by rfl) (by rfl) (by rfl) (by rfl) ?_
        rintro r h3 ⟨rfl, w3⟩
        rw [A] at w3
        obtain ⟨qv', ov', E3, M3, n3, z3⟩ := S2.ended w3
        simp only [sx, x_box, x_alloc, x_bslice, x_slice, x_append, x_b2s, xop, ev, evs, evParts, fillL, cellsL, Ai.get, Ai.put, stab, isNil?, if_false, if_true, addr?, int?, str?, agg?, bool?, shiftA, FnPost, xresL, xres1, tup, argEnv, ptr, Nat.reduceEqDiff, reduceIte, beq_self_eq_true, ne_eq, Nat.reduceAdd, Nat.reduceMul, Nat.reduceSub, abin_shl, abin_shr, load1V, loadV, storeV, cellsAt, getN, setN, allocV, lenL, lenS, bnd, oneC, Value.oneCell', Nat.reduceLeDiff, Nat.reduceLT, exists_eq_left', forall_const, reduceCtorEq, app_new, app_new0, List.append_assoc, Int.reduceToNat, Int.reduceLT, Int.reduceLE, Int.reduceEq, Int.reduceNe, Int.reduceBEq, IntKind.bits, bne_self_eq_false, Int.reducePow, A, g8, g6, g5, g1, g9]
        exact ⟨⟨g8, g6, g5, g1⟩, ⟨_, _, _, _, _, _, ⟨E3, M3, S.x, n3⟩, by omega⟩, W.frz (K2.frz.trans z3)⟩
      · have h64' : ¬ ((g - s : Nat) : Int) = 64 := by omega
        simp only [hfl, Bool.false_eq_true, if_false] at g9
        simp only [sx, x_box, x_alloc, x_bslice, x_slice, x_append, x_b2s, xop, ev, evs, evParts, fillL, cellsL, Ai.get, Ai.put, stab, isNil?, if_false, if_true, addr?, int?, str?, agg?, bool?, shiftA, FnPost, xresL, xres1, tup, argEnv, ptr, Nat.reduceEqDiff, reduceIte, beq_self_eq_true, ne_eq, Nat.reduceAdd, Nat.reduceMul, Nat.reduceSub, abin_shl, abin_shr, load1V, loadV, storeV, cellsAt, getN, setN, allocV, lenL, lenS, bnd, oneC, Value.oneCell', Nat.reduceLeDiff, Nat.reduceLT, exists_eq_left', forall_const, reduceCtorEq, app_new, app_new0, List.append_assoc, Int.reduceToNat, Int.reduceLT, Int.reduceLE, Int.reduceEq, Int.reduceNe, Int.reduceBEq, IntKind.bits, bne_self_eq_false, Int.reducePow, hk0, g8, g6, g5, g1, g9, hM, hw1, h64']
        refine xcall (message_ok (k := g) (by omega)) (by rfl) (by rfl) (by rfl) (by rfl) ?_
        rintro r h2 ⟨L2, K2⟩
        have S2 := S.kp K2
        simp only [sx, x_box, x_alloc, x_bslice, x_slice, x_append, x_b2s, xop, ev, evs, evParts, fillL, cellsL, Ai.get, Ai.put, stab, isNil?, if_false, if_true, addr?, int?, str?, agg?, bool?, shiftA, FnPost, xresL, xres1, tup, argEnv, ptr, Nat.reduceEqDiff, reduceIte, beq_self_eq_true, ne_eq, Nat.reduceAdd, Nat.reduceMul, Nat.reduceSub, abin_shl, abin_shr, load1V, loadV, storeV, cellsAt, getN, setN, allocV, lenL, lenS, bnd, oneC, Value.oneCell', Nat.reduceLeDiff, Nat.reduceLT, exists_eq_left', forall_const, reduceCtorEq, app_new, app_new0, List.append_assoc, Int.reduceToNat, Int.reduceLT, Int.reduceLE, Int.reduceEq, Int.reduceNe, Int.reduceBEq, IntKind.bits, bne_self_eq_false, Int.reducePow, g8, g6, g5, g1, g9]
        refine xcall (accept_ok S2.E L2.1) (by rfl) (by rfl) (by rfl) (by rfl) ?_
        rintro r h3 ⟨rfl, w3⟩
        rw [A] at w3
        obtain ⟨qv', ov', E3, M3, n3, z3⟩ := S2.ended w3
        have M3' := M3
        simp only [MC] at M3
        simp only [sx, x_box, x_alloc, x_bslice, x_slice, x_append, x_b2s, xop, ev, evs, evParts, fillL, cellsL, Ai.get, Ai.put, stab, isNil?, if_false, if_true, addr?, int?, str?, agg?, bool?, shiftA, FnPost, xresL, xres1, tup, argEnv, ptr, Nat.reduceEqDiff, reduceIte, beq_self_eq_true, ne_eq, Nat.reduceAdd, Nat.reduceMul, Nat.reduceSub, abin_shl, abin_shr, load1V, loadV, storeV, cellsAt, getN, setN, allocV, lenL, lenS, bnd, oneC, Value.oneCell', Nat.reduceLeDiff, Nat.reduceLT, exists_eq_left', forall_const, reduceCtorEq, app_new, app_new0, List.append_assoc, Int.reduceToNat, Int.reduceLT, Int.reduceLE, Int.reduceEq, Int.reduceNe, Int.reduceBEq, IntKind.bits, bne_self_eq_false, Int.reducePow, A, g8, g6, g5, g1, g9, M3, hw2]
        obtain ⟨E4, z4⟩ := E3.model M3 n3 (Fr.set (S := (· = M)) (some ⟨true, MC { e with q := e.q ++ [msg g] } (g + 1) s a⟩) rfl)
        exact ⟨⟨g8, g6, g5, g1⟩, ⟨_, _, _, _, _, _, ⟨E4, set_same M3 _, XA, n3⟩, by omega⟩, W.frz ((K2.frz.trans z3).trans z4)⟩
    by_cases hk1 : k.tmod 3 = 1
    · have h10 : ¬ (1 : Int) = 0 := by decide
      have hsne : e.next.2.2 = if e.fl = true then 6 else 0 := by
        unfold BE.next BE.st
        cases e.fl <;> simp
      have hnx : e.fl = true → e.next.1 = e ∧ e.next.2.1 = UP.zero := fun hf => by
        unfold BE.next BE.st
        rw [hf]; simp
      simp only [sx, x_box, x_alloc, x_bslice, x_slice, x_append, x_b2s, xop, ev, evs, evParts, fillL, cellsL, Ai.get, Ai.put, stab, isNil?, if_false, if_true, addr?, int?, str?, agg?, bool?, shiftA, FnPost, xresL, xres1, tup, argEnv, ptr, Nat.reduceEqDiff, reduceIte, beq_self_eq_true, ne_eq, Nat.reduceAdd, Nat.reduceMul, Nat.reduceSub, abin_shl, abin_shr, load1V, loadV, storeV, cellsAt, getN, setN, allocV, lenL, lenS, bnd, oneC, Value.oneCell', Nat.reduceLeDiff, Nat.reduceLT, exists_eq_left', forall_const, reduceCtorEq, app_new, app_new0, List.append_assoc, Int.reduceToNat, Int.reduceLT, Int.reduceLE, Int.reduceEq, Int.reduceNe, Int.reduceBEq, IntKind.bits, bne_self_eq_false, Int.reducePow, hk1, h10, g8, g6, g5, g1, g9]
      refine xcall (next_ok S.E) (by rfl) (by rfl) (by rfl) (by rfl) ?_
      rintro r h2 ⟨⟨v, rfl, V2⟩, w2⟩
      rw [hsne]
      obtain ⟨qv', ov', E2, M2, n2, z2⟩ := S.ended w2
      obtain ⟨lv, rfl, L2⟩ := V2
      obtain ⟨ql, cl, rfl, -⟩ := id L2
      simp only [sx, x_box, x_bslice, x_slice, x_append, x_b2s, xop, ev, evs, evParts, fillL, cellsL, Ai.get, Ai.put, stab, isNil?, if_false, if_true, addr?, int?, str?, agg?, bool?, shiftA, FnPost, xresL, xres1, tup, argEnv, ptr, Nat.reduceEqDiff, reduceIte, beq_self_eq_true, ne_eq, Nat.reduceAdd, Nat.reduceMul, Nat.reduceSub, abin_shl, abin_shr, load1V, loadV, storeV, cellsAt, getN, setN, allocV, lenL, lenS, bnd, oneC, Value.oneCell', Nat.reduceLeDiff, Nat.reduceLT, exists_eq_left', forall_const, reduceCtorEq, app_new, app_new0, List.append_assoc, Int.reduceToNat, Int.reduceLT, Int.reduceLE, Int.reduceEq, Int.reduceNe, Int.reduceBEq, IntKind.bits, bne_self_eq_false, Int.reducePow, g8, g6, g5, g1, g9]
      refine alloc_run fun g3 U K3 hU hUl _ => ?_
      have M3 := K3.get M2
      have E3 := E2.kp K3
      have hUM : M ≠ U := by have := lt_of_get M2; omega
      have sUM := set_far hUM
      simp only [UP.cells]
      simp only [sx, x_box, x_alloc, x_bslice, x_slice, x_append, x_b2s, xop, ev, evs, evParts, fillL, cellsL, Ai.get, Ai.put, stab, isNil?, if_false, if_true, addr?, int?, str?, agg?, bool?, shiftA, FnPost, xresL, xres1, tup, argEnv, ptr, Nat.reduceEqDiff, reduceIte, beq_self_eq_true, ne_eq, Nat.reduceAdd, Nat.reduceMul, Nat.reduceSub, abin_shl, abin_shr, load1V, loadV, storeV, cellsAt, getN, setN, allocV, lenL, lenS, bnd, oneC, Value.oneCell', Nat.reduceLeDiff, Nat.reduceLT, exists_eq_left', forall_const, reduceCtorEq, app_new, app_new0, List.append_assoc, Int.reduceToNat, Int.reduceLT, Int.reduceLE, Int.reduceEq, Int.reduceNe, Int.reduceBEq, IntKind.bits, bne_self_eq_false, Int.reducePow, hU]
      have U4 := set_same hU (some ⟨true, e.next.2.1.cells (.slice ql e.next.2.1.load.length cl)⟩)
      have M4 := (set_far hUM.symm g3 (some ⟨true, e.next.2.1.cells (.slice ql e.next.2.1.load.length cl)⟩)).trans M3
      have K4 : Kp h2 (g3.set U (some ⟨true, e.next.2.1.cells (.slice ql e.next.2.1.load.length cl)⟩)) := K3.set hUl _
      simp only [UP.cells] at U4 M4 K4
      generalize (g3.set U (some ⟨true, [Value.int .u8 e.next.2.1.back, .bool e.next.2.1.bb, .int .u8 e.next.2.1.fore, .bool e.next.2.1.fb, .int .u8 e.next.2.1.kind, .int .u8 e.next.2.1.st, .slice ql e.next.2.1.load.length cl]⟩)) = g4 at *
      have E4 := E2.kp K4
      have L4 := L2.frz K4.frz
      have hUg : M ≠ U := hUM
      cases hfl : e.fl
      · simp only [hfl, Bool.false_eq_true, if_false] at g9
        simp only [sx, x_box, x_alloc, x_bslice, x_slice, x_append, x_b2s, xop, ev, evs, evParts, fillL, cellsL, Ai.get, Ai.put, stab, isNil?, if_false, if_true, addr?, int?, str?, agg?, bool?, shiftA, FnPost, xresL, xres1, tup, argEnv, ptr, Nat.reduceEqDiff, reduceIte, beq_self_eq_true, ne_eq, Nat.reduceAdd, Nat.reduceMul, Nat.reduceSub, abin_shl, abin_shr, load1V, loadV, storeV, cellsAt, getN, setN, allocV, lenL, lenS, bnd, oneC, Value.oneCell', Nat.reduceLeDiff, Nat.reduceLT, exists_eq_left', forall_const, reduceCtorEq, app_new, app_new0, List.append_assoc, Int.reduceToNat, Int.reduceLT, Int.reduceLE, Int.reduceEq, Int.reduceNe, Int.reduceBEq, IntKind.bits, bne_self_eq_false, Int.reducePow, g8, g6, g5, g1, g9, eq_self, hfl, U4]
        refine xcall (mnext_ok S.x M4 hfl) (by rfl) (by rfl) (by simp only [sx, x_box, x_alloc, x_bslice, x_slice, x_append, x_b2s, xop, ev, evs, evParts, fillL, cellsL, Ai.get, Ai.put, stab, isNil?, if_false, if_true, addr?, int?, str?, agg?, bool?, shiftA, FnPost, xresL, xres1, tup, argEnv, ptr, Nat.reduceEqDiff, reduceIte, beq_self_eq_true, ne_eq, Nat.reduceAdd, Nat.reduceMul, Nat.reduceSub, abin_shl, abin_shr, load1V, loadV, storeV, cellsAt, getN, setN, allocV, lenL, lenS, bnd, oneC, Value.oneCell', Nat.reduceLeDiff, Nat.reduceLT, exists_eq_left', forall_const, reduceCtorEq, app_new, app_new0, List.append_assoc, Int.reduceToNat, Int.reduceLT, Int.reduceLE, Int.reduceEq, Int.reduceNe, Int.reduceBEq, IntKind.bits, bne_self_eq_false, Int.reducePow, g5]; rfl) (by rfl) ?_
        rintro r h3 ⟨⟨lw, rfl, L5⟩, F5, s', M5, X5⟩
        obtain ⟨E5, z5⟩ := E4.model M4 n2 F5
        have U5 := (F5.2 U (lt_of_get U4) hUg.symm).trans U4
        simp only [sx, x_box, x_alloc, x_bslice, x_slice, x_append, x_b2s, xop, ev, evs, evParts, fillL, cellsL, Ai.get, Ai.put, stab, isNil?, if_false, if_true, addr?, int?, str?, agg?, bool?, shiftA, FnPost, xresL, xres1, tup, argEnv, ptr, Nat.reduceEqDiff, reduceIte, beq_self_eq_true, ne_eq, Nat.reduceAdd, Nat.reduceMul, Nat.reduceSub, abin_shl, abin_shr, load1V, loadV, storeV, cellsAt, getN, setN, allocV, lenL, lenS, bnd, oneC, Value.oneCell', Nat.reduceLeDiff, Nat.reduceLT, exists_eq_left', forall_const, reduceCtorEq, app_new, app_new0, List.append_assoc, Int.reduceToNat, Int.reduceLT, Int.reduceLE, Int.reduceEq, Int.reduceNe, Int.reduceBEq, IntKind.bits, bne_self_eq_false, Int.reducePow, g8, g6, g5, g1, g9, U5]
        refine xcall (same_ok2 (u := e.next.2.1) ⟨_, rfl, L4.frz z5⟩ ⟨_, rfl, L5⟩) (by rfl) (by rfl) (by rfl) (by rfl) ?_
        rintro r h4 ⟨rfl, K6⟩
        simp only [sx, x_box, x_alloc, x_bslice, x_slice, x_append, x_b2s, xop, ev, evs, evParts, fillL, cellsL, Ai.get, Ai.put, stab, isNil?, if_false, if_true, addr?, int?, str?, agg?, bool?, shiftA, FnPost, xresL, xres1, tup, argEnv, ptr, Nat.reduceEqDiff, reduceIte, beq_self_eq_true, ne_eq, Nat.reduceAdd, Nat.reduceMul, Nat.reduceSub, abin_shl, abin_shr, load1V, loadV, storeV, cellsAt, getN, setN, allocV, lenL, lenS, bnd, oneC, Value.oneCell', Nat.reduceLeDiff, Nat.reduceLT, exists_eq_left', forall_const, reduceCtorEq, app_new, app_new0, List.append_assoc, Int.reduceToNat, Int.reduceLT, Int.reduceLE, Int.reduceEq, Int.reduceNe, Int.reduceBEq, IntKind.bits, bne_self_eq_false, Int.reducePow, g8, g6, g5, g1, g9, eq_self]
        exact ⟨⟨g8, g6, g5, g1⟩, ⟨_, _, _, _, _, _, (⟨E5, M5, X5, n2⟩ : SC _ _ _ _ _ _ _ _ _).kp K6, by omega⟩, W.frz (((z2.trans K4.frz).trans z5).trans K6.frz)⟩
      · obtain ⟨n1, n3⟩ := hnx hfl
        simp only [hfl, if_true] at g9
        have h60 : ¬ (6 : Int) = 0 := by decide
        simp only [sx, x_box, x_alloc, x_bslice, x_slice, x_append, x_b2s, xop, ev, evs, evParts, fillL, cellsL, Ai.get, Ai.put, stab, isNil?, if_false, if_true, addr?, int?, str?, agg?, bool?, shiftA, FnPost, xresL, xres1, tup, argEnv, ptr, Nat.reduceEqDiff, reduceIte, beq_self_eq_true, ne_eq, Nat.reduceAdd, Nat.reduceMul, Nat.reduceSub, abin_shl, abin_shr, load1V, loadV, storeV, cellsAt, getN, setN, allocV, lenL, lenS, bnd, oneC, Value.oneCell', Nat.reduceLeDiff, Nat.reduceLT, exists_eq_left', forall_const, reduceCtorEq, app_new, app_new0, List.append_assoc, Int.reduceToNat, Int.reduceLT, Int.reduceLE, Int.reduceEq, Int.reduceNe, Int.reduceBEq, IntKind.bits, bne_self_eq_false, Int.reducePow, g8, g6, g5, g1, g9, eq_self, hfl, U4, h60]
        refine xcall (same_ok2 (u := e.next.2.1) ⟨_, rfl, L4⟩ (by rw [n3]; exact unit_zero _)) (by rfl) (by rfl) (by rfl) (by rfl) ?_
        rintro r h4 ⟨rfl, K6⟩
        simp only [sx, x_box, x_alloc, x_bslice, x_slice, x_append, x_b2s, xop, ev, evs, evParts, fillL, cellsL, Ai.get, Ai.put, stab, isNil?, if_false, if_true, addr?, int?, str?, agg?, bool?, shiftA, FnPost, xresL, xres1, tup, argEnv, ptr, Nat.reduceEqDiff, reduceIte, beq_self_eq_true, ne_eq, Nat.reduceAdd, Nat.reduceMul, Nat.reduceSub, abin_shl, abin_shr, load1V, loadV, storeV, cellsAt, getN, setN, allocV, lenL, lenS, bnd, oneC, Value.oneCell', Nat.reduceLeDiff, Nat.reduceLT, exists_eq_left', forall_const, reduceCtorEq, app_new, app_new0, List.append_assoc, Int.reduceToNat, Int.reduceLT, Int.reduceLE, Int.reduceEq, Int.reduceNe, Int.reduceBEq, IntKind.bits, bne_self_eq_false, Int.reducePow, g8, g6, g5, g1, g9, eq_self]
        rw [n1] at E4
        exact ⟨⟨g8, g6, g5, g1⟩, ⟨_, _, _, _, _, _, (⟨E4, M4, S.x, n2⟩ : SC _ _ _ _ _ _ _ _ _).kp K6, by omega⟩, W.frz ((z2.trans K4.frz).trans K6.frz)⟩
    · have h20 : k.tmod 3 = 2 := by have := Int.tmod_eq_emod_of_nonneg (b := 3) k3.1; omega
      have h20' : ¬ (2 : Int) = 0 := by decide
      have h21' : ¬ (2 : Int) = 1 := by decide
      simp only [sx, x_box, x_alloc, x_bslice, x_slice, x_append, x_b2s, xop, ev, evs, evParts, fillL, cellsL, Ai.get, Ai.put, stab, isNil?, if_false, if_true, addr?, int?, str?, agg?, bool?, shiftA, FnPost, xresL, xres1, tup, argEnv, ptr, Nat.reduceEqDiff, reduceIte, beq_self_eq_true, ne_eq, Nat.reduceAdd, Nat.reduceMul, Nat.reduceSub, abin_shl, abin_shr, load1V, loadV, storeV, cellsAt, setN, allocV, lenL, lenS, bnd, oneC, Value.oneCell', Nat.reduceLeDiff, Nat.reduceLT, exists_eq_left', forall_const, reduceCtorEq, app_new, app_new0, List.append_assoc, Int.reduceToNat, Int.reduceLT, Int.reduceLE, Int.reduceEq, Int.reduceNe, Int.reduceBEq, IntKind.bits, bne_self_eq_false, Int.reducePow, h20, h20', h21', g8, g6, g5, g1, g9, hlt', hge, hB, k1, k2]
      refine xcall (of4_ok k4 k5 k6 k7 k8 k9 L) (by rfl) (by rfl) (by rfl) (by rfl) ?_
      rintro r h2 ⟨u, lv, rfl, hu, lw1, lw2, K2⟩
      have L2 : LoadW h2 lv u.load := by
        by_cases hk : u.kind = 2
        · exact (lw1 hk).w
        · rw [lw2 hk, hu.l1 hk]; exact ⟨none, 0, rfl, by simp, .inl rfl⟩
      obtain ⟨ql, cl, rfl, -⟩ := id L2
      simp only [UP.cells]
      simp only [sx, x_box, x_bslice, x_slice, x_append, x_b2s, xop, ev, evs, evParts, fillL, cellsL, Ai.get, Ai.put, stab, isNil?, if_false, if_true, addr?, int?, str?, agg?, bool?, shiftA, FnPost, xresL, xres1, tup, argEnv, ptr, Nat.reduceEqDiff, reduceIte, beq_self_eq_true, ne_eq, Nat.reduceAdd, Nat.reduceMul, Nat.reduceSub, abin_shl, abin_shr, load1V, loadV, storeV, cellsAt, getN, setN, allocV, lenL, lenS, bnd, oneC, Value.oneCell', Nat.reduceLeDiff, Nat.reduceLT, exists_eq_left', forall_const, reduceCtorEq, app_new, app_new0, List.append_assoc, Int.reduceToNat, Int.reduceLT, Int.reduceLE, Int.reduceEq, Int.reduceNe, Int.reduceBEq, IntKind.bits, bne_self_eq_false, Int.reducePow, g8, g6, g5, g1, g9]
      refine alloc_run fun g3 U K3 hU hUl _ => ?_
      simp only [sx, x_box, x_alloc, x_bslice, x_slice, x_append, x_b2s, xop, ev, evs, evParts, fillL, cellsL, Ai.get, Ai.put, stab, isNil?, if_false, if_true, addr?, int?, str?, agg?, bool?, shiftA, FnPost, xresL, xres1, tup, argEnv, ptr, Nat.reduceEqDiff, reduceIte, beq_self_eq_true, ne_eq, Nat.reduceAdd, Nat.reduceMul, Nat.reduceSub, abin_shl, abin_shr, load1V, loadV, storeV, cellsAt, getN, setN, allocV, lenL, lenS, bnd, oneC, Value.oneCell', Nat.reduceLeDiff, Nat.reduceLT, exists_eq_left', forall_const, reduceCtorEq, app_new, app_new0, List.append_assoc, Int.reduceToNat, Int.reduceLT, Int.reduceLE, Int.reduceEq, Int.reduceNe, Int.reduceBEq, IntKind.bits, bne_self_eq_false, Int.reducePow, hU]
      have U4' := set_same hU (some ⟨true, u.cells (.slice ql u.load.length cl)⟩)
      have K4 : Kp h1 (g3.set U (some ⟨true, u.cells (.slice ql u.load.length cl)⟩)) := (K2.trans K3).set (by have := K2.1; omega) _
      have z4 : Kp h2 (g3.set U (some ⟨true, u.cells (.slice ql u.load.length cl)⟩)) := K3.set (by omega) _
      have hUh : h1.length ≤ U := by have := K2.1; omega
      have L4 := L2.frz z4.frz
      simp only [UP.cells] at U4' K4 L4 z4
      generalize (g3.set U (some ⟨true, [Value.int .u8 u.back, .bool u.bb, .int .u8 u.fore, .bool u.fb, .int .u8 u.kind, .int .u8 u.st, .slice ql u.load.length cl]⟩)) = g4 at *
      simp only [sx, x_box, x_alloc, x_bslice, x_slice, x_append, x_b2s, xop, ev, evs, evParts, fillL, cellsL, Ai.get, Ai.put, stab, isNil?, if_false, if_true, addr?, int?, str?, agg?, bool?, shiftA, FnPost, xresL, xres1, tup, argEnv, ptr, Nat.reduceEqDiff, reduceIte, beq_self_eq_true, ne_eq, Nat.reduceAdd, Nat.reduceMul, Nat.reduceSub, abin_shl, abin_shr, load1V, loadV, storeV, cellsAt, getN, setN, allocV, lenL, lenS, bnd, oneC, Value.oneCell', Nat.reduceLeDiff, Nat.reduceLT, exists_eq_left', forall_const, reduceCtorEq, app_new, app_new0, List.append_assoc, Int.reduceToNat, Int.reduceLT, Int.reduceLE, Int.reduceEq, Int.reduceNe, Int.reduceBEq, IntKind.bits, bne_self_eq_false, Int.reducePow, U4']
      refine xcond_cut (HrM h1 U M X i n c (some ⟨B, 0, none⟩) e.fl) ?_ ?_
      · by_cases hk : u.kind = 2
        · obtain ⟨B2, e1, b2, b3, b4⟩ := lw1 hk
          cases e1
          have hl2 := hu.l2 hk
          have hu2 : ¬ unk ≤ u.load.length := by unfold unk; omega
          have c2 : (2 : Int) ≤ (u.load.length : Nat) := by omega
          have hl0 : ¬ u.load.length = 0 := by omega
          have ht2 : (u.load.take 2).length = 2 := by rw [List.length_take]; omega
          have W2 : LoadW g4 (.slice (some ⟨B2, 0, none⟩) 2 u.load.length) (u.load.take 2) := by
            refine ⟨_, _, by rw [ht2], by omega, .inr ⟨_, _, rfl, rfl, z4.get b2, ?_⟩⟩
            rw [ht2]
            refine (getN_eq _ _ _ _).2 ⟨?_, by simp [bR, List.map_take]⟩
            simp [bR]; omega
          simp only [sx, x_box, x_alloc, x_bslice, x_slice, x_append, x_b2s, xop, ev, evs, evParts, fillL, cellsL, Ai.get, Ai.put, stab, isNil?, if_false, if_true, addr?, int?, str?, agg?, bool?, shiftA, FnPost, xresL, xres1, tup, argEnv, ptr, Nat.reduceEqDiff, reduceIte, beq_self_eq_true, ne_eq, Nat.reduceAdd, Nat.reduceMul, Nat.reduceSub, abin_shl, abin_shr, load1V, loadV, storeV, cellsAt, getN, setN, allocV, lenL, lenS, bnd, oneC, Value.oneCell', Nat.reduceLeDiff, Nat.reduceLT, exists_eq_left', forall_const, reduceCtorEq, app_new, app_new0, List.append_assoc, Int.reduceToNat, Int.reduceLT, Int.reduceLE, Int.reduceEq, Int.reduceNe, Int.reduceBEq, IntKind.bits, bne_self_eq_false, Int.reducePow, hk, U4', hu2, c2, hl0, Nat.sub_zero]
          refine ⟨⟨g8, g6, g5, g1⟩, g9, rfl, K4.set hUh _, { u with load := u.load.take 2 }, .slice (some ⟨B2, 0, none⟩) 2 u.load.length, ⟨hu.b, hu.f, hu.k, hu.s, hu.s1, fun h => absurd hk h, fun _ => by show 2 ≤ (u.load.take 2).length ∧ (u.load.take 2).length ≤ 273; omega⟩, ?_, W2.frz (frz_set U4' _)⟩
          rw [set_same U4']
          simp only [UP.cells, hk]
        · simp only [sx, x_box, x_alloc, x_bslice, x_slice, x_append, x_b2s, xop, ev, evs, evParts, fillL, cellsL, Ai.get, Ai.put, stab, isNil?, if_false, if_true, addr?, int?, str?, agg?, bool?, shiftA, FnPost, xresL, xres1, tup, argEnv, ptr, Nat.reduceEqDiff, reduceIte, beq_self_eq_true, ne_eq, Nat.reduceAdd, Nat.reduceMul, Nat.reduceSub, abin_shl, abin_shr, load1V, loadV, storeV, cellsAt, getN, setN, allocV, lenL, lenS, bnd, oneC, Value.oneCell', Nat.reduceLeDiff, Nat.reduceLT, exists_eq_left', forall_const, reduceCtorEq, app_new, app_new0, List.append_assoc, Int.reduceToNat, Int.reduceLT, Int.reduceLE, Int.reduceEq, Int.reduceNe, Int.reduceBEq, IntKind.bits, bne_self_eq_false, Int.reducePow, hk]
          exact ⟨⟨g8, g6, g5, g1⟩, g9, rfl, K4, u, _, hu, U4', L4⟩
      · clear hB hr k1 k2 g8 g6 g5 g1 g9 L L2 L4 U4' K4 z4 lw1 lw2 hM0 hM
        rintro ρ2 h3 ⟨⟨g8, g6, g5, g1⟩, g9, g12, K3, u, lv, hu, hU, L3⟩
        have S3 := S.kp K3
        have W3 := W.frz K3.frz
        have hM := S3.m
        simp only [MC] at hM
        have hU0 := hU
        simp only [UP.cells] at hU
        have hub := hu.b
        have huf := hu.f
        have hna := num_lt a
        have hac := S.x.h7
        have hUM : M ≠ U := by omega
        have sUM := set_far hUM.symm
        have hXm3 := S.x.h3
        have hXm5 := S.x.h5
        have w1 : IntKind.i64.wrap u.back = u.back := i64_wrap (by omega) (by omega)
        have w2 : IntKind.i64.wrap ((s : Int) - a) = ((s - a : Nat) : Int) := by rw [i64_wrap (by omega) (by omega)]; omega
        have w3 : IntKind.i64.wrap (((s - a : Nat) : Int) + 2) = ((s - a + 2 : Nat) : Int) := by rw [i64_wrap (by omega) (by omega)]; omega
        have w4 : ¬ ((s - a + 2 : Nat) : Int) = 0 := by omega
        obtain ⟨r, hr, hrl⟩ : ∃ r : Nat, u.back.tmod ((s - a + 2 : Nat) : Int) = (r : Int) ∧ r < s - a + 2 := by
          obtain ⟨x, hx⟩ : ∃ x : Nat, u.back = x := ⟨u.back.toNat, by omega⟩
          exact ⟨x % (s - a + 2), by rw [hx, Int.tmod_eq_emod_of_nonneg (by omega)]; omega, Nat.mod_lt _ (by omega)⟩
        have w5 : IntKind.i64.wrap ((num a : Nat) : Int) = ((num a : Nat) : Int) := i64_wrap (by omega) (by omega)
        have w6 : IntKind.i64.wrap (((num a : Nat) : Int) + r) = ((num a + r : Nat) : Int) := by rw [i64_wrap (by omega) (by omega)]; omega
        have w7 : ((num a + r : Nat) : Int).tmod 128 = (((num a + r) % 128 : Nat) : Int) := by rw [Int.tmod_eq_emod_of_nonneg (by omega)]; omega
        have w8 : IntKind.u8.wrap (((num a + r) % 128 : Nat) : Int) = (((num a + r) % 128 : Nat) : Int) := u8_wrap (by omega) (by omega)
        have v1 : IntKind.i64.wrap u.fore = u.fore := i64_wrap (by omega) (by omega)
        have v2 : IntKind.i64.wrap (e.acc : Int) = (e.acc : Int) := i64_wrap (by omega) (by omega)
        obtain ⟨p, hp, hpl⟩ : ∃ p : Nat, u.fore.tmod 3 = (p : Int) ∧ p < 3 := by
          obtain ⟨x, hx⟩ : ∃ x : Nat, u.fore = x := ⟨u.fore.toNat, by omega⟩
          exact ⟨x % 3, by rw [hx, Int.tmod_eq_emod_of_nonneg (by omega)]; omega, Nat.mod_lt _ (by omega)⟩
        have v3 : IntKind.i64.wrap ((e.acc : Int) + p) = ((e.acc + p : Nat) : Int) := by rw [i64_wrap (by omega) (by omega)]; omega
        have v4 : ((e.acc + p : Nat) : Int).tmod 128 = (((e.acc + p) % 128 : Nat) : Int) := by rw [Int.tmod_eq_emod_of_nonneg (by omega)]; omega
        have v5 : IntKind.u8.wrap (((e.acc + p) % 128 : Nat) : Int) = (((e.acc + p) % 128 : Nat) : Int) := u8_wrap (by omega) (by omega)
        have n128 : ¬ (128 : Int) = 0 := by decide
        have n3 : ¬ (3 : Int) = 0 := by decide
        obtain ⟨ql, cl, rfl, -⟩ := id L3
        simp only [sx, x_box, x_alloc, x_bslice, x_slice, x_append, x_b2s, xop, ev, evs, evParts, fillL, cellsL, Ai.get, Ai.put, stab, isNil?, if_false, if_true, addr?, int?, str?, agg?, bool?, shiftA, FnPost, xresL, xres1, tup, argEnv, ptr, Nat.reduceEqDiff, reduceIte, beq_self_eq_true, ne_eq, Nat.reduceAdd, Nat.reduceMul, Nat.reduceSub, abin_shl, abin_shr, load1V, loadV, storeV, cellsAt, getN, setN, allocV, lenL, lenS, bnd, oneC, Value.oneCell', Nat.reduceLeDiff, Nat.reduceLT, exists_eq_left', forall_const, reduceCtorEq, app_new, app_new0, List.append_assoc, Int.reduceToNat, Int.reduceLT, Int.reduceLE, Int.reduceEq, Int.reduceNe, Int.reduceBEq, IntKind.bits, bne_self_eq_false, Int.reducePow, g8, g6, g5, g1, g9, g12, hM, hU, w1, w2, w3, w4, hr]
        refine xcall (number_ok (k := a) (by omega)) (by rfl) (by rfl) (by rfl) (by rfl) ?_
        rintro rr h4 ⟨rfl, rfl⟩
        have sMU := set_far hUM
        have sUM := set_far hUM.symm
        simp only [sx, x_box, x_alloc, x_bslice, x_slice, x_append, x_b2s, xop, ev, evs, evParts, fillL, cellsL, Ai.get, Ai.put, stab, isNil?, if_false, if_true, addr?, int?, str?, agg?, bool?, shiftA, FnPost, xresL, xres1, tup, argEnv, ptr, Nat.reduceEqDiff, reduceIte, beq_self_eq_true, ne_eq, Nat.reduceAdd, Nat.reduceMul, Nat.reduceSub, abin_shl, abin_shr, load1V, loadV, storeV, cellsAt, getN, setN, allocV, lenL, lenS, bnd, oneC, Value.oneCell', Nat.reduceLeDiff, Nat.reduceLT, exists_eq_left', forall_const, reduceCtorEq, app_new, app_new0, List.append_assoc, Int.reduceToNat, Int.reduceLT, Int.reduceLE, Int.reduceEq, Int.reduceNe, Int.reduceBEq, IntKind.bits, bne_self_eq_false, Int.reducePow, g8, g6, g5, g1, g9, g12, hM, hU, w1, w2, w3, w4, hr, w5, w6, w7, w8, n128, n3, v1, v2, hp, v3, v4, v5, set_here, sUM, List.set_set]
        obtain ⟨u2, hu2⟩ : ∃ u2 : UP, u2 = { u with back := (((num a + r) % 128 : Nat) : Int), fore := (((e.acc + p) % 128 : Nat) : Int) } := ⟨_, rfl⟩
        have H2 : U4 u2 := by
          rw [hu2]
          exact ⟨by show 0 ≤ (((num a + r) % 128 : Nat) : Int) ∧ (((num a + r) % 128 : Nat) : Int) < 128; omega, by show 0 ≤ (((e.acc + p) % 128 : Nat) : Int) ∧ (((e.acc + p) % 128 : Nat) : Int) < 128; omega, hu.k, hu.s, hu.s1, hu.l1, hu.l2⟩
        have U5 := set_same hU0 (some ⟨true, u2.cells (.slice ql u2.load.length cl)⟩)
        have K5 : Kp h1 (h4.set U (some ⟨true, u2.cells (.slice ql u2.load.length cl)⟩)) := K3.set hUh _
        have L5 : LoadW (h4.set U (some ⟨true, u2.cells (.slice ql u2.load.length cl)⟩)) (.slice ql u2.load.length cl) u2.load := by
          have := L3.frz (frz_set hU0 (some ⟨true, u2.cells (.slice ql u2.load.length cl)⟩))
          rw [hu2] at this ⊢
          exact this
        have e5 : (h4.set U (some ⟨true, [Value.int .u8 (((num a + r) % 128 : Nat) : Int), .bool u.bb, .int .u8 (((e.acc + p) % 128 : Nat) : Int), .bool u.fb, .int .u8 u.kind, .int .u8 u.st, .slice ql u.load.length cl]⟩)) = h4.set U (some ⟨true, u2.cells (.slice ql u2.load.length cl)⟩) := by rw [hu2]; rfl
        rw [e5]
        clear e5 hu2 w1 w2 w3 w4 w5 w6 w7 w8 v1 v2 v3 v4 v5 hr hp hpl hrl hub huf hU hU0 L3 hu hM S3 W3
        generalize h4.set U (some ⟨true, u2.cells (.slice ql u2.load.length cl)⟩) = h5 at *
        have S5 := S.kp K5
        have W5 := W.frz K5.frz
        have hM := S5.m
        simp only [MC] at hM
        have hU := U5
        simp only [UP.cells] at hU
        have UV5 : UV h5 (.agg (u2.cells (.slice ql u2.load.length cl)).toArray) u2 := ⟨_, rfl, L5⟩
        have hnf : ¬ foot X qv ov U := fun h => by have := S.E.lt h; omega
        cases hfl : e.fl
        · have hH := S.x.heard hfl H2
          simp only [hfl, Bool.false_eq_true, if_false] at g9
          simp only [sx, x_box, x_alloc, x_bslice, x_slice, x_append, x_b2s, xop, ev, evs, evParts, fillL, cellsL, Ai.get, Ai.put, stab, isNil?, if_false, if_true, addr?, int?, str?, agg?, bool?, shiftA, FnPost, xresL, xres1, tup, argEnv, ptr, Nat.reduceEqDiff, reduceIte, beq_self_eq_true, ne_eq, Nat.reduceAdd, Nat.reduceMul, Nat.reduceSub, abin_shl, abin_shr, load1V, loadV, storeV, cellsAt, getN, setN, allocV, lenL, lenS, bnd, oneC, Value.oneCell', Nat.reduceLeDiff, Nat.reduceLT, exists_eq_left', forall_const, reduceCtorEq, app_new, app_new0, List.append_assoc, Int.reduceToNat, Int.reduceLT, Int.reduceLE, Int.reduceEq, Int.reduceNe, Int.reduceBEq, IntKind.bits, bne_self_eq_false, Int.reducePow, g8, g6, g5, g1, g9, g12, hM, hU, hfl, eq_self]
          refine xcall (mhear_ok S5.x S5.m hfl UV5 H2) (by rfl) (by rfl) (by simp only [sx, x_box, x_alloc, x_bslice, x_slice, x_append, x_b2s, xop, ev, evs, evParts, fillL, cellsL, Ai.get, Ai.put, stab, isNil?, if_false, if_true, addr?, int?, str?, agg?, bool?, shiftA, FnPost, xresL, xres1, tup, argEnv, ptr, Nat.reduceEqDiff, reduceIte, beq_self_eq_true, ne_eq, Nat.reduceAdd, Nat.reduceMul, Nat.reduceSub, abin_shl, abin_shr, load1V, loadV, storeV, cellsAt, getN, setN, allocV, lenL, lenS, bnd, oneC, Value.oneCell', Nat.reduceLeDiff, Nat.reduceLT, exists_eq_left', forall_const, reduceCtorEq, app_new, app_new0, List.append_assoc, Int.reduceToNat, Int.reduceLT, Int.reduceLE, Int.reduceEq, Int.reduceNe, Int.reduceBEq, IntKind.bits, bne_self_eq_false, Int.reducePow, g5]; rfl) (by rfl) ?_
          rintro rr h6 ⟨rfl, F6, a', M6, X6⟩
          obtain ⟨E6, z6⟩ := S5.E.model S5.m S5.n F6
          have U6 := (F6.2 U (lt_of_get U5) hUM.symm).trans U5
          have U6' := U6
          simp only [UP.cells] at U6'
          have UV6 : UV h6 (.agg (u2.cells (.slice ql u2.load.length cl)).toArray) u2 := ⟨_, rfl, L5.frz z6⟩
          have M6' := M6
          simp only [MC] at M6'
          simp only [sx, x_box, x_alloc, x_bslice, x_slice, x_append, x_b2s, xop, ev, evs, evParts, fillL, cellsL, Ai.get, Ai.put, stab, isNil?, if_false, if_true, addr?, int?, str?, agg?, bool?, shiftA, FnPost, xresL, xres1, tup, argEnv, ptr, Nat.reduceEqDiff, reduceIte, beq_self_eq_true, ne_eq, Nat.reduceAdd, Nat.reduceMul, Nat.reduceSub, abin_shl, abin_shr, load1V, loadV, storeV, cellsAt, getN, setN, allocV, lenL, lenS, bnd, oneC, Value.oneCell', Nat.reduceLeDiff, Nat.reduceLT, exists_eq_left', forall_const, reduceCtorEq, app_new, app_new0, List.append_assoc, Int.reduceToNat, Int.reduceLT, Int.reduceLE, Int.reduceEq, Int.reduceNe, Int.reduceBEq, IntKind.bits, bne_self_eq_false, Int.reducePow, g8, g6, g5, g1, g9, g12, M6', U6']
          have hh := hear_ok E6 UV6 ⟨H2.b.1, H2.f.1⟩
          have hnf6 := hnf
          obtain ⟨d1, d2⟩ := hH
          refine xcond_cut (HsM h6 U M X i n c (some ⟨B, 0, none⟩) (e.hear u2).2.2 (!(e.hear u2).2.1.isEmpty)) ?_ ?_
          · cases hf2 : (e.hear u2).1.fl
            · have d3 : (e.hear u2).2.2 = 0 := by rw [d1, hf2]; rfl
              rw [d3]
              simp only [sx, x_box, x_alloc, x_bslice, x_slice, x_append, x_b2s, xop, ev, evs, evParts, fillL, cellsL, Ai.get, Ai.put, stab, isNil?, if_false, if_true, addr?, int?, str?, agg?, bool?, shiftA, FnPost, xresL, xres1, tup, argEnv, ptr, Nat.reduceEqDiff, reduceIte, beq_self_eq_true, ne_eq, Nat.reduceAdd, Nat.reduceMul, Nat.reduceSub, abin_shl, abin_shr, load1V, loadV, storeV, cellsAt, getN, setN, allocV, lenL, lenS, bnd, oneC, Value.oneCell', Nat.reduceLeDiff, Nat.reduceLT, exists_eq_left', forall_const, reduceCtorEq, app_new, app_new0, List.append_assoc, Int.reduceToNat, Int.reduceLT, Int.reduceLE, Int.reduceEq, Int.reduceNe, Int.reduceBEq, IntKind.bits, bne_self_eq_false, Int.reducePow]
              exact ⟨⟨g8, g6, g5, g1⟩, g9, g12, rfl, rfl⟩
            · have d3 : (e.hear u2).2.2 = 6 := by rw [d1, hf2]; rfl
              rw [d3]
              simp only [sx, x_box, x_alloc, x_bslice, x_slice, x_append, x_b2s, xop, ev, evs, evParts, fillL, cellsL, Ai.get, Ai.put, stab, isNil?, if_false, if_true, addr?, int?, str?, agg?, bool?, shiftA, FnPost, xresL, xres1, tup, argEnv, ptr, Nat.reduceEqDiff, reduceIte, beq_self_eq_true, ne_eq, Nat.reduceAdd, Nat.reduceMul, Nat.reduceSub, abin_shl, abin_shr, load1V, loadV, storeV, cellsAt, getN, setN, allocV, lenL, lenS, bnd, oneC, Value.oneCell', Nat.reduceLeDiff, Nat.reduceLT, exists_eq_left', forall_const, reduceCtorEq, app_new, app_new0, List.append_assoc, Int.reduceToNat, Int.reduceLT, Int.reduceLE, Int.reduceEq, Int.reduceNe, Int.reduceBEq, IntKind.bits, bne_self_eq_false, Int.reducePow]
              exact ⟨⟨g8, g6, g5, g1⟩, rfl, g12, rfl, rfl⟩
          clear g8 g6 g5 g1 g9 g12
          rintro ρ7 h7 ⟨⟨g8, g6, g5, g1⟩, g9, g12, g13, rfl⟩
          simp only [sx, x_box, x_alloc, x_bslice, x_slice, x_append, x_b2s, xop, ev, evs, evParts, fillL, cellsL, Ai.get, Ai.put, stab, isNil?, if_false, if_true, addr?, int?, str?, agg?, bool?, shiftA, FnPost, xresL, xres1, tup, argEnv, ptr, Nat.reduceEqDiff, reduceIte, beq_self_eq_true, ne_eq, Nat.reduceAdd, Nat.reduceMul, Nat.reduceSub, abin_shl, abin_shr, load1V, loadV, storeV, cellsAt, getN, setN, allocV, lenL, lenS, bnd, oneC, Value.oneCell', Nat.reduceLeDiff, Nat.reduceLT, exists_eq_left', forall_const, reduceCtorEq, app_new, app_new0, List.append_assoc, Int.reduceToNat, Int.reduceLT, Int.reduceLE, Int.reduceEq, Int.reduceNe, Int.reduceBEq, IntKind.bits, bne_self_eq_false, Int.reducePow, g8, g6, g5, g1, g9, g12, g13, U6']
          refine xcall hh (by rfl) (by rfl) (by rfl) (by rfl) ?_
          rintro rr h8 ⟨⟨lv, rfl, V8, -⟩, w8⟩
          have F8 := w8
          obtain ⟨qv', ov', E8, F8, n8⟩ := F8
          have hMl7 := lt_of_get M6
          have M8 := (F8.2 M hMl7 S5.n).trans M6
          have n8' : ¬ foot X qv' ov' M := fun hf => by
            rcases n8 M hf with h1 | h1
            · exact S5.n h1
            · omega
          have U8 := (F8.2 U (lt_of_get U6) hnf).trans U6
          have z8 := E6.frz F8
          simp only [UP.cells] at U8
          have L8 := UV6.frz z8
          rcases d2 with d2 | ⟨d2, dk⟩
          · rw [d2] at V8 g13
            obtain ⟨qg, cells, rfl, -⟩ := id V8
            simp only [List.isEmpty_nil, Bool.not_true] at g13
            simp only [sx, x_box, x_alloc, x_bslice, x_slice, x_append, x_b2s, xop, ev, evs, evParts, fillL, cellsL, Ai.get, Ai.put, stab, isNil?, if_false, if_true, addr?, int?, str?, agg?, bool?, shiftA, FnPost, xresL, xres1, tup, argEnv, ptr, Nat.reduceEqDiff, reduceIte, beq_self_eq_true, ne_eq, Nat.reduceAdd, Nat.reduceMul, Nat.reduceSub, abin_shl, abin_shr, load1V, loadV, storeV, cellsAt, getN, setN, allocV, lenL, lenS, bnd, oneC, Value.oneCell', Nat.reduceLeDiff, Nat.reduceLT, exists_eq_left', forall_const, reduceCtorEq, app_new, app_new0, List.append_assoc, Int.reduceToNat, Int.reduceLT, Int.reduceLE, Int.reduceEq, Int.reduceNe, Int.reduceBEq, IntKind.bits, bne_self_eq_false, Int.reducePow, g8, g6, g5, g1, g9, g12, g13, eq_self, List.length_nil, Int.natCast_zero]
            exact ⟨⟨g8, g6, g5, g1⟩, ⟨_, _, _, _, _, _, ⟨E8, M8, X6, n8'⟩, by omega⟩, W5.frz (z6.trans z8)⟩
          · rw [d2] at V8 g13
            obtain ⟨qg, cells, rfl, -⟩ := id V8
            simp only [List.isEmpty_cons, Bool.not_false] at g13
            simp only [sx, x_box, x_alloc, x_slice, x_append, x_b2s, xop, ev, evs, evParts, fillL, cellsL, Ai.get, Ai.put, stab, isNil?, if_false, if_true, addr?, int?, str?, agg?, bool?, shiftA, FnPost, xresL, xres1, tup, argEnv, ptr, Nat.reduceEqDiff, reduceIte, beq_self_eq_true, ne_eq, Nat.reduceAdd, Nat.reduceMul, Nat.reduceSub, abin_shl, abin_shr, load1V, loadV, storeV, cellsAt, getN, setN, allocV, lenL, lenS, bnd, oneC, Value.oneCell', Nat.reduceLeDiff, Nat.reduceLT, exists_eq_left', forall_const, reduceCtorEq, app_new, app_new0, List.append_assoc, Int.reduceToNat, Int.reduceLT, Int.reduceLE, Int.reduceEq, Int.reduceNe, Int.reduceBEq, IntKind.bits, bne_self_eq_false, Int.reducePow, g8, g6, g5, g1, g9, g12, g13, eq_self, U8]
            refine bslice_run rfl rfl fun g9' R9 K9 hR9 hRl9 _ => ?_
            have V9 : ListV g9' (.slice qg 1 1) [u2.load] := by
              have := V8.kp K9
              simpa using this
            have W9 : ListW g9' (.slice (some ⟨R9, 0, none⟩) 1 1) [u2.load] := by
              have hl2 := H2.l2 dk
              have L9 := (L5.frz z6).frz (z8.trans K9.frz)
              refine ⟨[.slice ql u2.load.length cl], _, _, rfl, ?_, ⟨⟨L9, by omega, by omega⟩, trivial⟩⟩
              simp [firstV, cellsAt, hR9, getN]
            simp only [sx, x_box, x_alloc, x_slice, x_append, x_b2s, xop, ev, evs, evParts, fillL, cellsL, Ai.get, Ai.put, stab, isNil?, if_false, if_true, addr?, int?, str?, agg?, bool?, shiftA, FnPost, xresL, xres1, tup, argEnv, ptr, Nat.reduceEqDiff, reduceIte, beq_self_eq_true, ne_eq, Nat.reduceAdd, Nat.reduceMul, Nat.reduceSub, abin_shl, abin_shr, load1V, loadV, storeV, cellsAt, getN, setN, allocV, lenL, lenS, bnd, oneC, Value.oneCell', Nat.reduceLeDiff, Nat.reduceLT, exists_eq_left', forall_const, reduceCtorEq, app_new, app_new0, List.append_assoc, Int.reduceToNat, Int.reduceLT, Int.reduceLE, Int.reduceEq, Int.reduceNe, Int.reduceBEq, IntKind.bits, bne_self_eq_false, Int.reducePow]
            refine xcall (lists_okW V9 W9 (by simp)) (by rfl) (by rfl) (by rfl) (by rfl) ?_
            rintro rr h10 ⟨rfl, rfl⟩
            simp only [sx, x_box, x_alloc, x_bslice, x_slice, x_append, x_b2s, xop, ev, evs, evParts, fillL, cellsL, Ai.get, Ai.put, stab, isNil?, if_false, if_true, addr?, int?, str?, agg?, bool?, shiftA, FnPost, xresL, xres1, tup, argEnv, ptr, Nat.reduceEqDiff, reduceIte, beq_self_eq_true, ne_eq, Nat.reduceAdd, Nat.reduceMul, Nat.reduceSub, abin_shl, abin_shr, load1V, loadV, storeV, cellsAt, getN, setN, allocV, lenL, lenS, bnd, oneC, Value.oneCell', Nat.reduceLeDiff, Nat.reduceLT, exists_eq_left', forall_const, reduceCtorEq, app_new, app_new0, List.append_assoc, Int.reduceToNat, Int.reduceLT, Int.reduceLE, Int.reduceEq, Int.reduceNe, Int.reduceBEq, IntKind.bits, bne_self_eq_false, Int.reducePow, g8, g6, g5, g1, g9, g12, g13, eq_self]
            exact ⟨⟨g8, g6, g5, g1⟩, ⟨_, _, _, _, _, _, (⟨E8, M8, X6, n8'⟩ : SC _ _ _ _ _ _ _ _ _).kp K9, by omega⟩, W5.frz ((z6.trans z8).trans K9.frz)⟩
        · have hH : e.hear u2 = (e, [], 6) := by unfold BE.hear BE.st; rw [hfl]; rfl
          simp only [hfl, if_true] at g9
          have h60 : ¬ (6 : Int) = 0 := by decide
          have hh := hear_ok S5.E UV5 ⟨H2.b.1, H2.f.1⟩
          rw [hH] at hh
          simp only [sx, x_box, x_alloc, x_bslice, x_slice, x_append, x_b2s, xop, ev, evs, evParts, fillL, cellsL, Ai.get, Ai.put, stab, isNil?, if_false, if_true, addr?, int?, str?, agg?, bool?, shiftA, FnPost, xresL, xres1, tup, argEnv, ptr, Nat.reduceEqDiff, reduceIte, beq_self_eq_true, ne_eq, Nat.reduceAdd, Nat.reduceMul, Nat.reduceSub, abin_shl, abin_shr, load1V, loadV, storeV, cellsAt, getN, setN, allocV, lenL, lenS, bnd, oneC, Value.oneCell', Nat.reduceLeDiff, Nat.reduceLT, exists_eq_left', forall_const, reduceCtorEq, app_new, app_new0, List.append_assoc, Int.reduceToNat, Int.reduceLT, Int.reduceLE, Int.reduceEq, Int.reduceNe, Int.reduceBEq, IntKind.bits, bne_self_eq_false, Int.reducePow, g8, g6, g5, g1, g9, g12, hM, hU, hfl, h60]
          refine xcall hh (by rfl) (by rfl) (by rfl) (by rfl) ?_
          rintro rr h6 ⟨⟨lv, rfl, V6, -⟩, w6⟩
          obtain ⟨qv', ov', E6, M6, n6, z6⟩ := S5.ended w6
          obtain ⟨qg, cells, rfl, -⟩ := id V6
          simp only [sx, x_box, x_alloc, x_bslice, x_slice, x_append, x_b2s, xop, ev, evs, evParts, fillL, cellsL, Ai.get, Ai.put, stab, isNil?, if_false, if_true, addr?, int?, str?, agg?, bool?, shiftA, FnPost, xresL, xres1, tup, argEnv, ptr, Nat.reduceEqDiff, reduceIte, beq_self_eq_true, ne_eq, Nat.reduceAdd, Nat.reduceMul, Nat.reduceSub, abin_shl, abin_shr, load1V, loadV, storeV, cellsAt, getN, setN, allocV, lenL, lenS, bnd, oneC, Value.oneCell', Nat.reduceLeDiff, Nat.reduceLT, exists_eq_left', forall_const, reduceCtorEq, app_new, app_new0, List.append_assoc, Int.reduceToNat, Int.reduceLT, Int.reduceLE, Int.reduceEq, Int.reduceNe, Int.reduceBEq, IntKind.bits, bne_self_eq_false, Int.reducePow, g8, g6, g5, g1, g9, g12, List.length_nil, Int.natCast_zero]
          exact ⟨⟨g8, g6, g5, g1⟩, ⟨_, _, _, _, _, _, ⟨E6, M6, S.x, n6⟩, by omega⟩, W5.frz z6⟩
  clear hM0 hM hMl W hB hr k1 k2 g8 g6 g5 g1 g9 L S hXg hXh hXa hXm
  rintro ρ2 h2 ⟨⟨g8, g6, g5, g1⟩, ⟨e, qv, ov, g, s, a, S, hgi⟩, W⟩
  have hXg := S.x.hg
  have hXh := S.x.h2
  have hXa := S.x.h1
  have hXm := S.x.h4
  have hw1 : IntKind.i64.wrap ((g : Int) - s) = ((g - s : Nat) : Int) := by rw [i64_wrap (by omega) (by omega)]; omega
  have hw2 : IntKind.i64.wrap ((s : Int) - a) = ((s - a : Nat) : Int) := by rw [i64_wrap (by omega) (by omega)]; omega
  have hql : e.q.length = g - s := by rw [S.x.q, lst_len]
  have hol : e.o.length = s - a := by rw [S.x.o, lst_len]
  have hM := S.m
  simp only [MC] at hM
  have hna := num_lt a
  have hrt := retrieve_ok (last := num a) S.E (by omega)
  rw [S.x.ret] at hrt
  simp only [sx, x_box, x_alloc, x_bslice, x_slice, x_append, x_b2s, xop, ev, evs, evParts, fillL, cellsL, Ai.get, Ai.put, stab, isNil?, if_false, if_true, addr?, int?, str?, agg?, bool?, shiftA, FnPost, xresL, xres1, tup, argEnv, ptr, Nat.reduceEqDiff, reduceIte, beq_self_eq_true, ne_eq, Nat.reduceAdd, Nat.reduceMul, Nat.reduceSub, abin_shl, abin_shr, load1V, loadV, storeV, cellsAt, getN, setN, allocV, lenL, lenS, bnd, oneC, Value.oneCell', Nat.reduceLeDiff, Nat.reduceLT, exists_eq_left', forall_const, reduceCtorEq, app_new, app_new0, List.append_assoc, Int.reduceToNat, Int.reduceLT, Int.reduceLE, Int.reduceEq, Int.reduceNe, Int.reduceBEq, IntKind.bits, bne_self_eq_false, Int.reducePow, g8, g6, g5, g1]
  refine xcall (waiting_ok S.E) (by rfl) (by rfl) (by rfl) (by rfl) ?_
  rintro r h3 ⟨rfl, rfl⟩
  simp only [sx, x_box, x_alloc, x_bslice, x_slice, x_append, x_b2s, xop, ev, evs, evParts, fillL, cellsL, Ai.get, Ai.put, stab, isNil?, if_false, if_true, addr?, int?, str?, agg?, bool?, shiftA, FnPost, xresL, xres1, tup, argEnv, ptr, Nat.reduceEqDiff, reduceIte, beq_self_eq_true, ne_eq, Nat.reduceAdd, Nat.reduceMul, Nat.reduceSub, abin_shl, abin_shr, load1V, loadV, storeV, cellsAt, getN, setN, allocV, lenL, lenS, bnd, oneC, Value.oneCell', Nat.reduceLeDiff, Nat.reduceLT, exists_eq_left', forall_const, reduceCtorEq, app_new, app_new0, List.append_assoc, Int.reduceToNat, Int.reduceLT, Int.reduceLE, Int.reduceEq, Int.reduceNe, Int.reduceBEq, IntKind.bits, bne_self_eq_false, Int.reducePow, g8, g6, g5, g1, hM]
  refine xcall (number_ok (k := a) (by omega)) (by rfl) (by rfl) (by rfl) (by rfl) ?_
  rintro r h4 ⟨rfl, rfl⟩
  simp only [sx, x_box, x_alloc, x_bslice, x_slice, x_append, x_b2s, xop, ev, evs, evParts, fillL, cellsL, Ai.get, Ai.put, stab, isNil?, if_false, if_true, addr?, int?, str?, agg?, bool?, shiftA, FnPost, xresL, xres1, tup, argEnv, ptr, Nat.reduceEqDiff, reduceIte, beq_self_eq_true, ne_eq, Nat.reduceAdd, Nat.reduceMul, Nat.reduceSub, abin_shl, abin_shr, load1V, loadV, storeV, cellsAt, getN, setN, allocV, lenL, lenS, bnd, oneC, Value.oneCell', Nat.reduceLeDiff, Nat.reduceLT, exists_eq_left', forall_const, reduceCtorEq, app_new, app_new0, List.append_assoc, Int.reduceToNat, Int.reduceLT, Int.reduceLE, Int.reduceEq, Int.reduceNe, Int.reduceBEq, IntKind.bits, bne_self_eq_false, Int.reducePow, g8, g6, g5, g1, hM]
  refine xcall hrt (by rfl) (by rfl) (by rfl) (by rfl) ?_
  rintro r h5 ⟨⟨lv, rfl, V5⟩, K5⟩
  have S5 := S.kp K5
  have hM5 := S5.m
  simp only [MC] at hM5
  simp only [sx, x_box, x_alloc, x_bslice, x_slice, x_append, x_b2s, xop, ev, evs, evParts, fillL, cellsL, Ai.get, Ai.put, stab, isNil?, if_false, if_true, addr?, int?, str?, agg?, bool?, shiftA, FnPost, xresL, xres1, tup, argEnv, ptr, Nat.reduceEqDiff, reduceIte, beq_self_eq_true, ne_eq, Nat.reduceAdd, Nat.reduceMul, Nat.reduceSub, abin_shl, abin_shr, load1V, loadV, storeV, cellsAt, getN, setN, allocV, lenL, lenS, bnd, oneC, Value.oneCell', Nat.reduceLeDiff, Nat.reduceLT, exists_eq_left', forall_const, reduceCtorEq, app_new, app_new0, List.append_assoc, Int.reduceToNat, Int.reduceLT, Int.reduceLE, Int.reduceEq, Int.reduceNe, Int.reduceBEq, IntKind.bits, bne_self_eq_false, Int.reducePow, g8, g6, g5, g1, hM5, hw1, hw2, hql, hol]
  refine xcall (failed_ok S5.E) (by rfl) (by rfl) (by rfl) (by rfl) ?_
  rintro r h6 ⟨rfl, rfl⟩
  have bs : ∀ b : Bool, (b == b) = true := fun b => by cases b <;> rfl
  simp only [sx, x_box, x_alloc, x_bslice, x_slice, x_append, x_b2s, xop, ev, evs, evParts, fillL, cellsL, Ai.get, Ai.put, stab, isNil?, if_false, if_true, addr?, int?, str?, agg?, bool?, shiftA, FnPost, xresL, xres1, tup, argEnv, ptr, Nat.reduceEqDiff, reduceIte, beq_self_eq_true, ne_eq, Nat.reduceAdd, Nat.reduceMul, Nat.reduceSub, abin_shl, abin_shr, load1V, loadV, storeV, cellsAt, getN, setN, allocV, lenL, lenS, bnd, oneC, Value.oneCell', Nat.reduceLeDiff, Nat.reduceLT, exists_eq_left', forall_const, reduceCtorEq, app_new, app_new0, List.append_assoc, Int.reduceToNat, Int.reduceLT, Int.reduceLE, Int.reduceEq, Int.reduceNe, Int.reduceBEq, IntKind.bits, bne_self_eq_false, Int.reducePow, g8, g6, g5, g1, hM5, bs]
  refine xcall (last_ok S5.E) (by rfl) (by rfl) (by rfl) (by rfl) ?_
  rintro r h7 ⟨rfl, rfl⟩
  simp only [sx, x_box, x_alloc, x_bslice, x_slice, x_append, x_b2s, xop, ev, evs, evParts, fillL, cellsL, Ai.get, Ai.put, stab, isNil?, if_false, if_true, addr?, int?, str?, agg?, bool?, shiftA, FnPost, xresL, xres1, tup, argEnv, ptr, Nat.reduceEqDiff, reduceIte, beq_self_eq_true, ne_eq, Nat.reduceAdd, Nat.reduceMul, Nat.reduceSub, abin_shl, abin_shr, load1V, loadV, storeV, cellsAt, getN, setN, allocV, lenL, lenS, bnd, oneC, Value.oneCell', Nat.reduceLeDiff, Nat.reduceLT, exists_eq_left', forall_const, reduceCtorEq, app_new, app_new0, List.append_assoc, Int.reduceToNat, Int.reduceLT, Int.reduceLE, Int.reduceEq, Int.reduceNe, Int.reduceBEq, IntKind.bits, bne_self_eq_false, Int.reducePow, g8, g6, g5, g1, hM5, eq_self]
  refine xcall (list_ok (a := a) (b := g) (by omega) (by omega)) (by rfl) (by rfl) (by rfl) (by rfl) ?_
  rintro r h8 ⟨Q8, K8⟩
  have S8 := S5.kp K8
  simp only [sx, x_box, x_alloc, x_bslice, x_slice, x_append, x_b2s, xop, ev, evs, evParts, fillL, cellsL, Ai.get, Ai.put, stab, isNil?, if_false, if_true, addr?, int?, str?, agg?, bool?, shiftA, FnPost, xresL, xres1, tup, argEnv, ptr, Nat.reduceEqDiff, reduceIte, beq_self_eq_true, ne_eq, Nat.reduceAdd, Nat.reduceMul, Nat.reduceSub, abin_shl, abin_shr, load1V, loadV, storeV, cellsAt, getN, setN, allocV, lenL, lenS, bnd, oneC, Value.oneCell', Nat.reduceLeDiff, Nat.reduceLT, exists_eq_left', forall_const, reduceCtorEq, app_new, app_new0, List.append_assoc, Int.reduceToNat, Int.reduceLT, Int.reduceLE, Int.reduceEq, Int.reduceNe, Int.reduceBEq, IntKind.bits, bne_self_eq_false, Int.reducePow, g8, g6, g5, g1]
  refine xcall (lists_ok (V5.kp K8) Q8 (by rw [lst_len]; omega)) (by rfl) (by rfl) (by rfl) (by rfl) ?_
  rintro r h9 ⟨rfl, rfl⟩
  simp only [sx, x_box, x_alloc, x_bslice, x_slice, x_append, x_b2s, xop, ev, evs, evParts, fillL, cellsL, Ai.get, Ai.put, stab, isNil?, if_false, if_true, addr?, int?, str?, agg?, bool?, shiftA, FnPost, xresL, xres1, tup, argEnv, ptr, Nat.reduceEqDiff, reduceIte, beq_self_eq_true, ne_eq, Nat.reduceAdd, Nat.reduceMul, Nat.reduceSub, abin_shl, abin_shr, load1V, loadV, storeV, cellsAt, getN, setN, allocV, lenL, lenS, bnd, oneC, Value.oneCell', Nat.reduceLeDiff, Nat.reduceLT, exists_eq_left', forall_const, reduceCtorEq, app_new, app_new0, List.append_assoc, Int.reduceToNat, Int.reduceLT, Int.reduceLE, Int.reduceEq, Int.reduceNe, Int.reduceBEq, IntKind.bits, bne_self_eq_false, Int.reducePow, g8, g6, g5, g1, eq_self, hwi]
  exact ⟨m - 1, by omega, i + 1, by omega, ⟨rfl, g6, g5, g1⟩, ⟨_, _, _, _, _, _, S8, hgi⟩, W.frz (K5.trans K8).frz⟩
end Go.Proofs.Ytkbpfebohpdgbaa
