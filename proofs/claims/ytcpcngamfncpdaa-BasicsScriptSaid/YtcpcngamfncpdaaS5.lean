import Derived.Test.YtcpcngamfncpdaaS4a
import Derived.Test.YtcpcngamfncpdaaAiYn
set_option linter.unusedVariables false
set_option linter.unusedSimpArgs false
namespace Go.Proofs.Ytcpcngamfncpdaa
open Go Go.Ai Go.Proofs

/-- the end, and the model that mirrors it -/
structure SC (h : AHeap) (M X : Nat) (e : BE) (qv ov : Value) (g s a : Nat) : Prop where
  E : BAt h X e qv ov
  m : h[M]? = some (some ⟨true, MC e g s a⟩)
  x : EX e g s a
  n : ¬ foot X qv ov M
theorem SC.kp {h h' : AHeap} {M X : Nat} {e : BE} {qv ov : Value} {g s a : Nat} (S : SC h M X e qv ov g s a) (K : Kp h h') : SC h' M X e qv ov g s a := ⟨S.E.kp K, K.get S.m, S.x, S.n⟩
/-- a method of the end leaves the model -/
theorem SC.ended {h h' : AHeap} {M X : Nat} {e e' : BE} {qv ov : Value} {g s a : Nat} (S : SC h M X e qv ov g s a) (w : Went h h' X e' qv ov) : ∃ qv' ov', BAt h' X e' qv' ov' ∧ h'[M]? = some (some ⟨true, MC e g s a⟩) ∧ ¬ foot X qv' ov' M ∧ Frz h h' := by
  obtain ⟨qv', ov', E', F, hf⟩ := w
  have hl := lt_of_get S.m
  refine ⟨qv', ov', E', (F.2 M hl S.n).trans S.m, fun hB => ?_, S.E.frz F⟩
  rcases hf M hB with h1 | h1
  · exact S.n h1
  · omega
/-- a step of the model leaves the end -/
theorem BAt.model {h h' : AHeap} {M X : Nat} {e : BE} {qv ov : Value} {cs : List Value} (E : BAt h X e qv ov) (hM : h[M]? = some (some ⟨true, cs⟩)) (n : ¬ foot X qv ov M) (F : Fr (· = M) h h') : BAt h' X e qv ov ∧ Frz h h' := by
  have z : Frz h h' := F.frz fun B cs hB h1 => by rw [hB, hM] at h1; cases h1
  exact ⟨E.keep z fun B hB => F.2 B (E.lt hB) fun e1 => n (e1 ▸ hB), z⟩
def SCx (h : AHeap) (M X b : Nat) : Prop := ∃ e qv ov g s a, SC h M X e qv ov g s a ∧ g ≤ b
theorem ListV.kp {h h' : AHeap} {v : Value} {ls : List (List Int)} (V : ListV h v ls) (K : Kp h h') : ListV h' v ls := by
  obtain ⟨q', cells, h1, h2, h3, h4⟩ := V
  exact ⟨q', cells, h1, K.first h2, h3.kp K, h4⟩
/-- the script: acts as plain data -/
def ActsV (h : AHeap) (q : Option Addr) (n : Nat) : Prop := n = 0 ∨ ∃ B rows, q = some ⟨B, 0, none⟩ ∧ h[B]? = some (some ⟨false, rows⟩) ∧ ∀ i, i < n → ∃ (k a b c d e : Int) (lq : Option Addr) (ln lc : Nat) (bs : List Int),
  rows[i * 7]? = some (.int .u8 k) ∧ getN rows (i * 7) 7 = some [.int .u8 k, .int .u8 a, .int .u8 b, .int .u8 c, .int .u8 d, .int .u16 e, .slice lq ln lc] ∧ (0 ≤ k ∧ k ≤ 255) ∧ (0 ≤ a ∧ a ≤ 255) ∧ (0 ≤ b ∧ b ≤ 255) ∧ (0 ≤ c ∧ c ≤ 255) ∧ (0 ≤ d ∧ d ≤ 255) ∧ (0 ≤ e ∧ e ≤ 65535) ∧ bs.length = ln ∧ LoadU h (.slice lq ln lc) bs
theorem ActsV.frz {h h' : AHeap} {q : Option Addr} {n : Nat} (k : ActsV h q n) (z : Frz h h') : ActsV h' q n := by
  rcases k with h0 | ⟨B, rows, h1, h2, h3⟩
  · exact .inl h0
  · refine .inr ⟨B, rows, h1, z _ _ h2, fun i hi => ?_⟩
    obtain ⟨k, a, b, c, d, e, lq, ln, lc, bs, k1, k2, k3, k4, k5, k6, k7, k8, k9, L⟩ := h3 i hi
    exact ⟨k, a, b, c, d, e, lq, ln, lc, bs, k1, k2, k3, k4, k5, k6, k7, k8, k9, L.frz z⟩
def Regs (M X i n c : Nat) (q : Option Addr) (ρ : Env) : Prop := get ρ 5 = some (.int .i64 (i : Nat)) ∧ get ρ 3 = some (.pointer (some ⟨X, 0, none⟩)) ∧ get ρ 4 = some (.pointer (some ⟨M, 0, none⟩)) ∧ get ρ 0 = some (.slice q n c)
def ScI (M X n c : Nat) (q : Option Addr) (m : Nat) (ρ : Env) (h : AHeap) : Prop := ∃ i, i + m = n ∧ Regs M X i n c q ρ ∧ SCx h M X i ∧ ActsV h q n
/-- behind the act -/
def SwM (M X i n c : Nat) (q : Option Addr) (ρ : Env) (h : AHeap) : Prop := Regs M X i n c q ρ ∧ SCx h M X (i + 1) ∧ ActsV h q n
def WtM (h : AHeap) (M X i n c : Nat) (q : Option Addr) (b : Bool) (ρ : Env) (h' : AHeap) : Prop := Regs M X i n c q ρ ∧ get ρ 6 = some (.int .i64 (if b = true then 6 else 0)) ∧ h' = h

def NrM (hA : AHeap) (M X i n c : Nat) (q : Option Addr) (wt : Bool) (ρ : Env) (h : AHeap) : Prop := Regs M X i n c q ρ ∧ get ρ 6 = some (.int .i64 (if wt = true then 6 else 0)) ∧ Kp hA h ∧ ∃ U, hA.length ≤ U ∧ get ρ 9 = some (.pointer (some ⟨U, 0, none⟩)) ∧ ∃ u lv, U4 u ∧ h[U]? = some (some ⟨true, u.cells lv⟩) ∧ LoadW h lv u.load
theorem and_cut {P : Program} {K : Env → AHeap → Prop} {la lb : List XOper} {ρa ρb : Env} {ha hb : AHeap} (M : Env → AHeap → Prop) (h1 : xops P M la ρa ha) (h2 : xops P M lb ρb hb) (h3 : ∀ ρ h, M ρ h → K ρ h) : xops P K la ρa ha ∧ xops P K lb ρb hb := ⟨xops_cut M h1 h3, xops_cut M h2 h3⟩
theorem fresh_ok {h : AHeap} : Valid Try.prog 29 [] h fun r h' => r = .agg (MC BE.new 0 0 0).toArray ∧ Kp h h' := by
  refine v29 (by simp) ?_
  simp only [X29, sx, x_box, x_bslice, x_slice, x_append, x_b2s, xop, ev, evs, evParts, fillL, cellsL, Ai.get, Ai.put, stab, isNil?, if_false, if_true, addr?, int?, str?, agg?, bool?, shiftA, FnPost, xresL, xres1, tup, argEnv, ptr, Nat.reduceEqDiff, reduceIte, beq_self_eq_true, ne_eq, Nat.reduceAdd, Nat.reduceMul, Nat.reduceSub, abin_shl, abin_shr, load1V, loadV, storeV, cellsAt, getN, setN, allocV, lenL, lenS, bnd, oneC, Value.oneCell', Nat.reduceLeDiff, Nat.reduceLT, exists_eq_left', forall_const, reduceCtorEq, app_new, app_new0, List.append_assoc, Int.reduceToNat, Int.reduceLT, Int.reduceLE, Int.reduceEq, Int.reduceNe, Int.reduceBEq, IntKind.bits, bne_self_eq_false, Int.reducePow]
  refine alloc_run fun g R K0 hR hRl _ => ?_
  simp only [sx, x_box, x_alloc, x_bslice, x_slice, x_append, x_b2s, xop, ev, evs, evParts, fillL, cellsL, Ai.get, Ai.put, stab, isNil?, if_false, if_true, addr?, int?, str?, agg?, bool?, shiftA, FnPost, xresL, xres1, tup, argEnv, ptr, Nat.reduceEqDiff, reduceIte, beq_self_eq_true, ne_eq, Nat.reduceAdd, Nat.reduceMul, Nat.reduceSub, abin_shl, abin_shr, load1V, loadV, storeV, cellsAt, getN, setN, allocV, lenL, lenS, bnd, oneC, Value.oneCell', Nat.reduceLeDiff, Nat.reduceLT, exists_eq_left', forall_const, reduceCtorEq, app_new, app_new0, List.append_assoc, Int.reduceToNat, Int.reduceLT, Int.reduceLE, Int.reduceEq, Int.reduceNe, Int.reduceBEq, IntKind.bits, bne_self_eq_false, Int.reducePow, hR, set_here]
  exact ⟨rfl, K0.set hRl _⟩
def HsM (h : AHeap) (U M X i n c : Nat) (q : Option Addr) (wt : Int) (b : Bool) (ρ : Env) (h' : AHeap) : Prop := Regs M X i n c q ρ ∧ get ρ 6 = some (.int .i64 wt) ∧ get ρ 9 = some (.pointer (some ⟨U, 0, none⟩)) ∧ get ρ 10 = some (.bool b) ∧ h' = h
set_option maxHeartbeats 16000000 in
set_option maxRecDepth 20000 in
theorem script_law {h : AHeap} {q : Option Addr} {n c : Nat} (hw : ActsV h q n) :
    Valid Try.prog 8 [.slice q n c] h fun r h' => r = .bool true := by
  refine v8 (by simp) ?_
  by_cases hbig : 120 < n
  · have hbig' : (120 : Int) < n := by omega
    simp only [X8, sx, x_box, x_alloc, x_bslice, x_slice, x_append, x_b2s, xop, ev, evs, evParts, fillL, cellsL, Ai.get, Ai.put, stab, isNil?, if_false, if_true, addr?, int?, str?, agg?, bool?, shiftA, FnPost, xresL, xres1, tup, argEnv, ptr, Nat.reduceEqDiff, reduceIte, beq_self_eq_true, ne_eq, Nat.reduceAdd, Nat.reduceMul, Nat.reduceSub, abin_shl, abin_shr, load1V, loadV, storeV, cellsAt, getN, setN, allocV, lenL, lenS, bnd, oneC, Value.oneCell', Nat.reduceLeDiff, Nat.reduceLT, exists_eq_left', forall_const, reduceCtorEq, app_new, app_new0, List.append_assoc, Int.reduceToNat, Int.reduceLT, Int.reduceLE, Int.reduceEq, Int.reduceNe, Int.reduceBEq, IntKind.bits, bne_self_eq_false, Int.reducePow, hbig']
    refine xcall (lives_ok _) (by rfl) (by rfl) (by rfl) (by rfl) ?_
    rintro r h' ⟨rfl, rfl⟩
    simp only [sx, x_box, x_alloc, x_bslice, x_slice, x_append, x_b2s, xop, ev, evs, evParts, fillL, cellsL, Ai.get, Ai.put, stab, isNil?, if_false, if_true, addr?, int?, str?, agg?, bool?, shiftA, FnPost, xresL, xres1, tup, argEnv, ptr, Nat.reduceEqDiff, reduceIte, beq_self_eq_true, ne_eq, Nat.reduceAdd, Nat.reduceMul, Nat.reduceSub, abin_shl, abin_shr, load1V, loadV, storeV, cellsAt, getN, setN, allocV, lenL, lenS, bnd, oneC, Value.oneCell', Nat.reduceLeDiff, Nat.reduceLT, exists_eq_left', forall_const, reduceCtorEq, app_new, app_new0, List.append_assoc, Int.reduceToNat, Int.reduceLT, Int.reduceLE, Int.reduceEq, Int.reduceNe, Int.reduceBEq, IntKind.bits, bne_self_eq_false, Int.reducePow]
  have hbig' : ¬ (120 : Int) < n := by omega
  simp only [X8, sx, x_box, x_bslice, x_slice, x_append, x_b2s, xop, ev, evs, evParts, fillL, cellsL, Ai.get, Ai.put, stab, isNil?, if_false, if_true, addr?, int?, str?, agg?, bool?, shiftA, FnPost, xresL, xres1, tup, argEnv, ptr, Nat.reduceEqDiff, reduceIte, beq_self_eq_true, ne_eq, Nat.reduceAdd, Nat.reduceMul, Nat.reduceSub, abin_shl, abin_shr, load1V, loadV, storeV, cellsAt, getN, setN, allocV, lenL, lenS, bnd, oneC, Value.oneCell', Nat.reduceLeDiff, Nat.reduceLT, exists_eq_left', forall_const, reduceCtorEq, app_new, app_new0, List.append_assoc, Int.reduceToNat, Int.reduceLT, Int.reduceLE, Int.reduceEq, Int.reduceNe, Int.reduceBEq, IntKind.bits, bne_self_eq_false, Int.reducePow, hbig']
  refine xcall new_ok (by rfl) (by rfl) (by rfl) (by rfl) ?_
  rintro r g1 ⟨rfl, K1, E1⟩
  have W1 := hw.frz K1.frz
  simp only [sx, x_box, x_bslice, x_slice, x_append, x_b2s, xop, ev, evs, evParts, fillL, cellsL, Ai.get, Ai.put, stab, isNil?, if_false, if_true, addr?, int?, str?, agg?, bool?, shiftA, FnPost, xresL, xres1, tup, argEnv, ptr, Nat.reduceEqDiff, reduceIte, beq_self_eq_true, ne_eq, Nat.reduceAdd, Nat.reduceMul, Nat.reduceSub, abin_shl, abin_shr, load1V, loadV, storeV, cellsAt, getN, setN, allocV, lenL, lenS, bnd, oneC, Value.oneCell', Nat.reduceLeDiff, Nat.reduceLT, exists_eq_left', forall_const, reduceCtorEq, app_new, app_new0, List.append_assoc, Int.reduceToNat, Int.reduceLT, Int.reduceLE, Int.reduceEq, Int.reduceNe, Int.reduceBEq, IntKind.bits, bne_self_eq_false, Int.reducePow]
  refine xcall fresh_ok (by rfl) (by rfl) (by rfl) (by rfl) ?_
  rintro r g2 ⟨rfl, K2⟩
  simp only [MC, BE.new]
  simp only [sx, x_box, x_bslice, x_slice, x_append, x_b2s, xop, ev, evs, evParts, fillL, cellsL, Ai.get, Ai.put, stab, isNil?, if_false, if_true, addr?, int?, str?, agg?, bool?, shiftA, FnPost, xresL, xres1, tup, argEnv, ptr, Nat.reduceEqDiff, reduceIte, beq_self_eq_true, ne_eq, Nat.reduceAdd, Nat.reduceMul, Nat.reduceSub, abin_shl, abin_shr, load1V, loadV, storeV, cellsAt, getN, setN, allocV, lenL, lenS, bnd, oneC, Value.oneCell', Nat.reduceLeDiff, Nat.reduceLT, exists_eq_left', forall_const, reduceCtorEq, app_new, app_new0, List.append_assoc, Int.reduceToNat, Int.reduceLT, Int.reduceLE, Int.reduceEq, Int.reduceNe, Int.reduceBEq, IntKind.bits, bne_self_eq_false, Int.reducePow]
  refine alloc_run fun g3 M K3 hM hMl _ => ?_
  have E3 := (E1.kp K2).kp (K3.set hMl (some ⟨true, MC BE.new 0 0 0⟩))
  have W3 := (W1.frz K2.frz).frz (K3.set hMl (some ⟨true, MC BE.new 0 0 0⟩)).frz
  have M3 := set_same hM (some ⟨true, MC BE.new 0 0 0⟩)
  simp only [sx, x_box, x_alloc, x_bslice, x_slice, x_append, x_b2s, xop, ev, evs, evParts, fillL, cellsL, Ai.get, Ai.put, stab, isNil?, if_false, if_true, addr?, int?, str?, agg?, bool?, shiftA, FnPost, xresL, xres1, tup, argEnv, ptr, Nat.reduceEqDiff, reduceIte, beq_self_eq_true, ne_eq, Nat.reduceAdd, Nat.reduceMul, Nat.reduceSub, abin_shl, abin_shr, load1V, loadV, storeV, cellsAt, getN, setN, allocV, lenL, lenS, bnd, oneC, Value.oneCell', Nat.reduceLeDiff, Nat.reduceLT, exists_eq_left', forall_const, reduceCtorEq, app_new, app_new0, List.append_assoc, Int.reduceToNat, Int.reduceLT, Int.reduceLE, Int.reduceEq, Int.reduceNe, Int.reduceBEq, IntKind.bits, bne_self_eq_false, Int.reducePow, hM]
  have hXl := lt_of_get E1.obj
  have hK2 := K2.1
  refine xcode_loop (ScI M h.length n c q) n ⟨0, by omega, ⟨rfl, rfl, rfl, rfl⟩, ⟨_, _, _, 0, 0, 0, ⟨E3, M3, EX.new, ?_⟩, Nat.le_refl _⟩, W3⟩ ?_
  · rintro (h1 | h1 | h1)
    · omega
    · simp [slB] at h1
    · simp [slB] at h1
  clear M3 W3 E3 hM K3 hK2 hXl W1 E1 K1 K2 hw
  generalize h.length = X
  rintro m ρ h' ⟨i, him, ⟨g8, g6, g5, g1⟩, S, W⟩
  by_cases hlt : i < n
  rotate_left
  · have hlt' : ¬ (i : Int) < n := by omega
    simp only [sx, x_box, x_alloc, x_bslice, x_slice, x_append, x_b2s, xop, ev, evs, evParts, fillL, cellsL, Ai.get, Ai.put, stab, isNil?, if_false, if_true, addr?, int?, str?, agg?, bool?, shiftA, FnPost, xresL, xres1, tup, argEnv, ptr, Nat.reduceEqDiff, reduceIte, beq_self_eq_true, ne_eq, Nat.reduceAdd, Nat.reduceMul, Nat.reduceSub, abin_shl, abin_shr, load1V, loadV, storeV, cellsAt, getN, setN, allocV, lenL, lenS, bnd, oneC, Value.oneCell', Nat.reduceLeDiff, Nat.reduceLT, exists_eq_left', forall_const, reduceCtorEq, app_new, app_new0, List.append_assoc, Int.reduceToNat, Int.reduceLT, Int.reduceLE, Int.reduceEq, Int.reduceNe, Int.reduceBEq, IntKind.bits, bne_self_eq_false, Int.reducePow, g8, g1, hlt']
    refine xcall (lives_ok _) (by rfl) (by rfl) (by rfl) (by rfl) ?_
    rintro r h' ⟨rfl, rfl⟩
    simp only [sx, x_box, x_alloc, x_bslice, x_slice, x_append, x_b2s, xop, ev, evs, evParts, fillL, cellsL, Ai.get, Ai.put, stab, isNil?, if_false, if_true, addr?, int?, str?, agg?, bool?, shiftA, FnPost, xresL, xres1, tup, argEnv, ptr, Nat.reduceEqDiff, reduceIte, beq_self_eq_true, ne_eq, Nat.reduceAdd, Nat.reduceMul, Nat.reduceSub, abin_shl, abin_shr, load1V, loadV, storeV, cellsAt, getN, setN, allocV, lenL, lenS, bnd, oneC, Value.oneCell', Nat.reduceLeDiff, Nat.reduceLT, exists_eq_left', forall_const, reduceCtorEq, app_new, app_new0, List.append_assoc, Int.reduceToNat, Int.reduceLT, Int.reduceLE, Int.reduceEq, Int.reduceNe, Int.reduceBEq, IntKind.bits, bne_self_eq_false, Int.reducePow]
  have hlt' : (i : Int) < n := by omega
  have hge : (0 : Int) ≤ i := by omega
  have hwi : IntKind.i64.wrap ((i : Int) + 1) = ((i + 1 : Nat) : Int) := by rw [i64_wrap] <;> omega
  obtain ⟨e, qv, ov, g, s, a, S, hgi⟩ := S
  have hM := S.m
  simp only [MC] at hM
  simp only [sx, x_box, x_alloc, x_bslice, x_slice, x_append, x_b2s, xop, ev, evs, evParts, fillL, cellsL, Ai.get, Ai.put, stab, isNil?, if_false, if_true, addr?, int?, str?, agg?, bool?, shiftA, FnPost, xresL, xres1, tup, argEnv, ptr, Nat.reduceEqDiff, reduceIte, beq_self_eq_true, ne_eq, Nat.reduceAdd, Nat.reduceMul, Nat.reduceSub, abin_shl, abin_shr, load1V, loadV, storeV, cellsAt, getN, setN, allocV, lenL, lenS, bnd, oneC, Value.oneCell', Nat.reduceLeDiff, Nat.reduceLT, exists_eq_left', forall_const, reduceCtorEq, app_new, app_new0, List.append_assoc, Int.reduceToNat, Int.reduceLT, Int.reduceLE, Int.reduceEq, Int.reduceNe, Int.reduceBEq, IntKind.bits, bne_self_eq_false, Int.reducePow, g8, g6, g5, g1, hlt', hM]
  refine xcond_cut (WtM h' M X i n c q e.fl) ?_ ?_
  · cases hfl : e.fl
    · simp only [sx, x_box, x_alloc, x_bslice, x_slice, x_append, x_b2s, xop, ev, evs, evParts, fillL, cellsL, Ai.get, Ai.put, stab, isNil?, if_false, if_true, addr?, int?, str?, agg?, bool?, shiftA, FnPost, xresL, xres1, tup, argEnv, ptr, Nat.reduceEqDiff, reduceIte, beq_self_eq_true, ne_eq, Nat.reduceAdd, Nat.reduceMul, Nat.reduceSub, abin_shl, abin_shr, load1V, loadV, storeV, cellsAt, getN, setN, allocV, lenL, lenS, bnd, oneC, Value.oneCell', Nat.reduceLeDiff, Nat.reduceLT, exists_eq_left', forall_const, reduceCtorEq, app_new, app_new0, List.append_assoc, Int.reduceToNat, Int.reduceLT, Int.reduceLE, Int.reduceEq, Int.reduceNe, Int.reduceBEq, IntKind.bits, bne_self_eq_false, Int.reducePow]
      exact ⟨⟨g8, g6, g5, g1⟩, rfl, rfl⟩
    · simp only [sx, x_box, x_alloc, x_bslice, x_slice, x_append, x_b2s, xop, ev, evs, evParts, fillL, cellsL, Ai.get, Ai.put, stab, isNil?, if_false, if_true, addr?, int?, str?, agg?, bool?, shiftA, FnPost, xresL, xres1, tup, argEnv, ptr, Nat.reduceEqDiff, reduceIte, beq_self_eq_true, ne_eq, Nat.reduceAdd, Nat.reduceMul, Nat.reduceSub, abin_shl, abin_shr, load1V, loadV, storeV, cellsAt, getN, setN, allocV, lenL, lenS, bnd, oneC, Value.oneCell', Nat.reduceLeDiff, Nat.reduceLT, exists_eq_left', forall_const, reduceCtorEq, app_new, app_new0, List.append_assoc, Int.reduceToNat, Int.reduceLT, Int.reduceLE, Int.reduceEq, Int.reduceNe, Int.reduceBEq, IntKind.bits, bne_self_eq_false, Int.reducePow]
      exact ⟨⟨g8, g6, g5, g1⟩, rfl, rfl⟩
  clear g8 g6 g5 g1 hM
  rintro ρ1 h1 ⟨⟨g8, g6, g5, g1⟩, g9, rfl⟩
  have hW := W
  rcases hW with h0 | ⟨B, rows, rfl, hB, hr⟩
  · omega
  obtain ⟨k, u1, u2, u3, u4, u5, lq, ln, lc, bs, k1, k2, k3, k4, k5, k6, k7, k8, k9, L⟩ := hr i hlt
  have e7 : (i : Int) * 7 = ((i * 7 : Nat) : Int) := by omega
  simp only [sx, x_box, x_alloc, x_bslice, x_slice, x_append, x_b2s, xop, ev, evs, evParts, fillL, cellsL, Ai.get, Ai.put, stab, isNil?, if_false, if_true, addr?, int?, str?, agg?, bool?, shiftA, FnPost, xresL, xres1, tup, argEnv, ptr, Nat.reduceEqDiff, reduceIte, beq_self_eq_true, ne_eq, Nat.reduceAdd, Nat.reduceMul, Nat.reduceSub, abin_shl, abin_shr, load1V, loadV, storeV, cellsAt, setN, allocV, lenL, lenS, bnd, oneC, Value.oneCell', Nat.reduceLeDiff, Nat.reduceLT, exists_eq_left', forall_const, reduceCtorEq, app_new, app_new0, List.append_assoc, Int.reduceToNat, Int.reduceLT, Int.reduceLE, Int.reduceEq, Int.reduceNe, Int.reduceBEq, IntKind.bits, bne_self_eq_false, Int.reducePow, g8, g6, g5, g1, g9, hlt', hge, hB, k1, k2]
  have hXg := S.x.hg
  have hXh := S.x.h2
  have hXa := S.x.h1
  have hXm := S.x.h4
  have hM0 := S.m
  have hM := hM0
  simp only [MC] at hM
  have hMl := lt_of_get hM
  refine xcond_cut (SwM M X i n c (some ⟨B, 0, none⟩)) ?_ ?_
  · by_cases hk0 : k.tmod 3 = 0
    · have A := S.x.accept (by omega)
      have hw1 : IntKind.i64.wrap ((g : Int) - s) = ((g - s : Nat) : Int) := by rw [i64_wrap (by omega) (by omega)]; omega
      have hw2 : IntKind.i64.wrap ((g : Int) + 1) = ((g + 1 : Nat) : Int) := by rw [i64_wrap] <;> omega
      rcases A with ⟨hfl, A⟩ | ⟨hfl, h64, A⟩ | ⟨hfl, h64, A, XA⟩
      · simp only [hfl, if_true] at g9
        simp only [sx, x_box, x_alloc, x_bslice, x_slice, x_append, x_b2s, xop, ev, evs, evParts, fillL, cellsL, Ai.get, Ai.put, stab, isNil?, if_false, if_true, addr?, int?, str?, agg?, bool?, shiftA, FnPost, xresL, xres1, tup, argEnv, ptr, Nat.reduceEqDiff, reduceIte, beq_self_eq_true, ne_eq, Nat.reduceAdd, Nat.reduceMul, Nat.reduceSub, abin_shl, abin_shr, load1V, loadV, storeV, cellsAt, getN, setN, allocV, lenL, lenS, bnd, oneC, Value.oneCell', Nat.reduceLeDiff, Nat.reduceLT, exists_eq_left', forall_const, reduceCtorEq, app_new, app_new0, List.append_assoc, Int.reduceToNat, Int.reduceLT, Int.reduceLE, Int.reduceEq, Int.reduceNe, Int.reduceBEq, IntKind.bits, bne_self_eq_false, Int.reducePow, hk0, g8, g6, g5, g1, g9, hM]
        refine xcall (message_ok (k := g) (by omega)) (by rfl) (by rfl) (by rfl) (by rfl) ?_
        rintro r h2 ⟨L2, K2⟩
        have S2 := S.kp K2
        simp only [sx, x_box, x_alloc, x_bslice, x_slice, x_append, x_b2s, xop, ev, evs, evParts, fillL, cellsL, Ai.get, Ai.put, stab, isNil?, if_false, if_true, addr?, int?, str?, agg?, bool?, shiftA, FnPost, xresL, xres1, tup, argEnv, ptr, Nat.reduceEqDiff, reduceIte, beq_self_eq_true, ne_eq, Nat.reduceAdd, Nat.reduceMul, Nat.reduceSub, abin_shl, abin_shr, load1V, loadV, storeV, cellsAt, getN, setN, allocV, lenL, lenS, bnd, oneC, Value.oneCell', Nat.reduceLeDiff, Nat.reduceLT, exists_eq_left', forall_const, reduceCtorEq, app_new, app_new0, List.append_assoc, Int.reduceToNat, Int.reduceLT, Int.reduceLE, Int.reduceEq, Int.reduceNe, Int.reduceBEq, IntKind.bits, bne_self_eq_false, Int.reducePow, g8, g6, g5, g1, g9]
        refine xcall (accept_ok S2.E L2.w) (by rfl) (by rfl) (by rfl) (by rfl) ?_
        rintro r h3 ⟨rfl, w3⟩
        rw [A] at w3
        obtain ⟨qv', ov', E3, M3, n3, z3⟩ := S2.ended w3
        simp only [sx, x_box, x_alloc, x_bslice, x_slice, x_append, x_b2s, xop, ev, evs, evParts, fillL, cellsL, Ai.get, Ai.put, stab, isNil?, if_false, if_true, addr?, int?, str?, agg?, bool?, shiftA, FnPost, xresL, xres1, tup, argEnv, ptr, Nat.reduceEqDiff, reduceIte, beq_self_eq_true, ne_eq, Nat.reduceAdd, Nat.reduceMul, Nat.reduceSub, abin_shl, abin_shr, load1V, loadV, storeV, cellsAt, getN, setN, allocV, lenL, lenS, bnd, oneC, Value.oneCell', Nat.reduceLeDiff, Nat.reduceLT, exists_eq_left', forall_const, reduceCtorEq, app_new, app_new0, List.append_assoc, Int.reduceToNat, Int.reduceLT, Int.reduceLE, Int.reduceEq, Int.reduceNe, Int.reduceBEq, IntKind.bits, bne_self_eq_false, Int.reducePow, A, g8, g6, g5, g1, g9]
        exact ⟨⟨g8, g6, g5, g1⟩, ⟨_, _, _, _, _, _, ⟨E3, M3, S.x, n3⟩, by omega⟩, W.frz (K2.frz.trans z3)⟩
      · have h64' : ((g - s : Nat) : Int) = 64 := by omega
        simp only [hfl, Bool.false_eq_true, if_false] at g9
        simp only [sx, x_box, x_alloc, x_bslice, x_slice, x_append, x_b2s, xop, ev, evs, evParts, fillL, cellsL, Ai.get, Ai.put, stab, isNil?, if_false, if_true, addr?, int?, str?, agg?, bool?, shiftA, FnPost, xresL, xres1, tup, argEnv, ptr, Nat.reduceEqDiff, reduceIte, beq_self_eq_true, ne_eq, Nat.reduceAdd, Nat.reduceMul, Nat.reduceSub, abin_shl, abin_shr, load1V, loadV, storeV, cellsAt, getN, setN, allocV, lenL, lenS, bnd, oneC, Value.oneCell', Nat.reduceLeDiff, Nat.reduceLT, exists_eq_left', forall_const, reduceCtorEq, app_new, app_new0, List.append_assoc, Int.reduceToNat, Int.reduceLT, Int.reduceLE, Int.reduceEq, Int.reduceNe, Int.reduceBEq, IntKind.bits, bne_self_eq_false, Int.reducePow, hk0, g8, g6, g5, g1, g9, hM, hw1, h64']
        refine xcall (message_ok (k := g) (by omega)) (by rfl) (by rfl) (by rfl) (by rfl) ?_
        rintro r h2 ⟨L2, K2⟩
        have S2 := S.kp K2
        simp only [sx, x_box, x_alloc, x_bslice, x_slice, x_append, x_b2s, xop, ev, evs, evParts, fillL, cellsL, Ai.get, Ai.put, stab, isNil?, if_false, if_true, addr?, int?, str?, agg?, bool?, shiftA, FnPost, xresL, xres1, tup, argEnv, ptr, Nat.reduceEqDiff, reduceIte, beq_self_eq_true, ne_eq, Nat.reduceAdd, Nat.reduceMul, Nat.reduceSub, abin_shl, abin_shr, load1V, loadV, storeV, cellsAt, getN, setN, allocV, lenL, lenS, bnd, oneC, Value.oneCell', Nat.reduceLeDiff, Nat.reduceLT, exists_eq_left', forall_const, reduceCtorEq, app_new, app_new0, List.append_assoc, Int.reduceToNat, Int.reduceLT, Int.reduceLE, Int.reduceEq, Int.reduceNe, Int.reduceBEq, IntKind.bits, bne_self_eq_false, Int.reducePow, g8, g6, g5, g1, g9]
        refine xcall (accept_ok S2.E L2.w) (by rfl) (by rfl) (by rfl) (by rfl) ?_
        rintro r h3 ⟨rfl, w3⟩
        rw [A] at w3
        obtain ⟨qv', ov', E3, M3, n3, z3⟩ := S2.ended w3
        simp only [sx, x_box, x_alloc, x_bslice, x_slice, x_append, x_b2s, xop, ev, evs, evParts, fillL, cellsL, Ai.get, Ai.put, stab, isNil?, if_false, if_true, addr?, int?, str?, agg?, bool?, shiftA, FnPost, xresL, xres1, tup, argEnv, ptr, Nat.reduceEqDiff, reduceIte, beq_self_eq_true, ne_eq, Nat.reduceAdd, Nat.reduceMul, Nat.reduceSub, abin_shl, abin_shr, load1V, loadV, storeV, cellsAt, getN, setN, allocV, lenL, lenS, bnd, oneC, Value.oneCell', Nat.reduceLeDiff, Nat.reduceLT, exists_eq_left', forall_const, reduceCtorEq, app_new, app_new0, List.append_assoc, Int.reduceToNat, Int.reduceLT, Int.reduceLE, Int.reduceEq, Int.reduceNe, Int.reduceBEq, IntKind.bits, bne_self_eq_false, Int.reducePow, A, g8, g6, g5, g1, g9]
        exact ⟨⟨g8, g6, g5, g1⟩, ⟨_, _, _, _, _, _, ⟨E3, M3, S.x, n3⟩, by omega⟩, W.frz (K2.frz.trans z3)⟩
      · have h64' : ¬ ((g - s : Nat) : Int) = 64 := by omega
        simp only [hfl, Bool.false_eq_true, if_false] at g9
        simp only [sx, x_box, x_alloc, x_bslice, x_slice, x_append, x_b2s, xop, ev, evs, evParts, fillL, cellsL, Ai.get, Ai.put, stab, isNil?, if_false, if_true, addr?, int?, str?, agg?, bool?, shiftA, FnPost, xresL, xres1, tup, argEnv, ptr, Nat.reduceEqDiff, reduceIte, beq_self_eq_true, ne_eq, Nat.reduceAdd, Nat.reduceMul, Nat.reduceSub, abin_shl, abin_shr, load1V, loadV, storeV, cellsAt, getN, setN, allocV, lenL, lenS, bnd, oneC, Value.oneCell', Nat.reduceLeDiff, Nat.reduceLT, exists_eq_left', forall_const, reduceCtorEq, app_new, app_new0, List.append_assoc, Int.reduceToNat, Int.reduceLT, Int.reduceLE, Int.reduceEq, Int.reduceNe, Int.reduceBEq, IntKind.bits, bne_self_eq_false, Int.reducePow, hk0, g8, g6, g5, g1, g9, hM, hw1, h64']
        refine xcall (message_ok (k := g) (by omega)) (by rfl) (by rfl) (by rfl) (by rfl) ?_
        rintro r h2 ⟨L2, K2⟩
        have S2 := S.kp K2
        simp only [sx, x_box, x_alloc, x_bslice, x_slice, x_append, x_b2s, xop, ev, evs, evParts, fillL, cellsL, Ai.get, Ai.put, stab, isNil?, if_false, if_true, addr?, int?, str?, agg?, bool?, shiftA, FnPost, xresL, xres1, tup, argEnv, ptr, Nat.reduceEqDiff, reduceIte, beq_self_eq_true, ne_eq, Nat.reduceAdd, Nat.reduceMul, Nat.reduceSub, abin_shl, abin_shr, load1V, loadV, storeV, cellsAt, getN, setN, allocV, lenL, lenS, bnd, oneC, Value.oneCell', Nat.reduceLeDiff, Nat.reduceLT, exists_eq_left', forall_const, reduceCtorEq, app_new, app_new0, List.append_assoc, Int.reduceToNat, Int.reduceLT, Int.reduceLE, Int.reduceEq, Int.reduceNe, Int.reduceBEq, IntKind.bits, bne_self_eq_false, Int.reducePow, g8, g6, g5, g1, g9]
        refine xcall (accept_ok S2.E L2.w) (by rfl) (by rfl) (by rfl) (by rfl) ?_
        rintro r h3 ⟨rfl, w3⟩
        rw [A] at w3
        obtain ⟨qv', ov', E3, M3, n3, z3⟩ := S2.ended w3
        have M3' := M3
        simp only [MC] at M3
        simp only [sx, x_box, x_alloc, x_bslice, x_slice, x_append, x_b2s, xop, ev, evs, evParts, fillL, cellsL, Ai.get, Ai.put, stab, isNil?, if_false, if_true, addr?, int?, str?, agg?, bool?, shiftA, FnPost, xresL, xres1, tup, argEnv, ptr, Nat.reduceEqDiff, reduceIte, beq_self_eq_true, ne_eq, Nat.reduceAdd, Nat.reduceMul, Nat.reduceSub, abin_shl, abin_shr, load1V, loadV, storeV, cellsAt, getN, setN, allocV, lenL, lenS, bnd, oneC, Value.oneCell', Nat.reduceLeDiff, Nat.reduceLT, exists_eq_left', forall_const, reduceCtorEq, app_new, app_new0, List.append_assoc, Int.reduceToNat, Int.reduceLT, Int.reduceLE, Int.reduceEq, Int.reduceNe, Int.reduceBEq, IntKind.bits, bne_self_eq_false, Int.reducePow, A, g8, g6, g5, g1, g9, M3, hw2]
        obtain ⟨E4, z4⟩ := E3.model M3 n3 (Fr.set (S := (· = M)) (some ⟨true, MC { e with q := e.q ++ [msg g] } (g + 1) s a⟩) rfl)
        exact ⟨⟨g8, g6, g5, g1⟩, ⟨_, _, _, _, _, _, ⟨E4, set_same M3 _, XA, n3⟩, by omega⟩, W.frz ((K2.frz.trans z3).trans z4)⟩
    by_cases hk1 : k.tmod 3 = 1
    · have h10 : ¬ (1 : Int) = 0 := by decide
      have hsne : e.next.2.2 = if e.fl = true then 6 else 0 := by
        unfold BE.next BE.st
        rw [S.x.rd]
        cases e.fl <;> simp
      have hnx : e.fl = true → e.next.1 = e ∧ e.next.2.1 = UP.zero := fun hf => by
        unfold BE.next BE.st
        rw [S.x.rd, hf]; simp
      simp only [sx, x_box, x_alloc, x_bslice, x_slice, x_append, x_b2s, xop, ev, evs, evParts, fillL, cellsL, Ai.get, Ai.put, stab, isNil?, if_false, if_true, addr?, int?, str?, agg?, bool?, shiftA, FnPost, xresL, xres1, tup, argEnv, ptr, Nat.reduceEqDiff, reduceIte, beq_self_eq_true, ne_eq, Nat.reduceAdd, Nat.reduceMul, Nat.reduceSub, abin_shl, abin_shr, load1V, loadV, storeV, cellsAt, getN, setN, allocV, lenL, lenS, bnd, oneC, Value.oneCell', Nat.reduceLeDiff, Nat.reduceLT, exists_eq_left', forall_const, reduceCtorEq, app_new, app_new0, List.append_assoc, Int.reduceToNat, Int.reduceLT, Int.reduceLE, Int.reduceEq, Int.reduceNe, Int.reduceBEq, IntKind.bits, bne_self_eq_false, Int.reducePow, hk1, h10, g8, g6, g5, g1, g9]
      refine xcall (next_ok S.E) (by rfl) (by rfl) (by rfl) (by rfl) ?_
      rintro r h2 ⟨⟨v, rfl, V2⟩, w2⟩
      rw [hsne]
      obtain ⟨qv', ov', E2, M2, n2, z2⟩ := S.ended w2
      obtain ⟨lv, rfl, L2⟩ := V2
      obtain ⟨ql, cl, rfl, -⟩ := id L2
      simp only [sx, x_box, x_bslice, x_slice, x_append, x_b2s, xop, ev, evs, evParts, fillL, cellsL, Ai.get, Ai.put, stab, isNil?, if_false, if_true, addr?, int?, str?, agg?, bool?, shiftA, FnPost, xresL, xres1, tup, argEnv, ptr, Nat.reduceEqDiff, reduceIte, beq_self_eq_true, ne_eq, Nat.reduceAdd, Nat.reduceMul, Nat.reduceSub, abin_shl, abin_shr, load1V, loadV, storeV, cellsAt, getN, setN, allocV, lenL, lenS, bnd, oneC, Value.oneCell', Nat.reduceLeDiff, Nat.reduceLT, exists_eq_left', forall_const, reduceCtorEq, app_new, app_new0, List.append_assoc, Int.reduceToNat, Int.reduceLT, Int.reduceLE, Int.reduceEq, Int.reduceNe, Int.reduceBEq, IntKind.bits, bne_self_eq_false, Int.reducePow, g8, g6, g5, g1, g9]
      refine alloc_run fun g3 U K3 hU hUl _ => ?_
      have M3 := K3.get M2
      have E3 := E2.kp K3
      have hUM : M ≠ U := by have := lt_of_get M2; omega
      have sUM := set_far hUM
      simp only [UP.cells]
      simp only [sx, x_box, x_alloc, x_bslice, x_slice, x_append, x_b2s, xop, ev, evs, evParts, fillL, cellsL, Ai.get, Ai.put, stab, isNil?, if_false, if_true, addr?, int?, str?, agg?, bool?, shiftA, FnPost, xresL, xres1, tup, argEnv, ptr, Nat.reduceEqDiff, reduceIte, beq_self_eq_true, ne_eq, Nat.reduceAdd, Nat.reduceMul, Nat.reduceSub, abin_shl, abin_shr, load1V, loadV, storeV, cellsAt, getN, setN, allocV, lenL, lenS, bnd, oneC, Value.oneCell', Nat.reduceLeDiff, Nat.reduceLT, exists_eq_left', forall_const, reduceCtorEq, app_new, app_new0, List.append_assoc, Int.reduceToNat, Int.reduceLT, Int.reduceLE, Int.reduceEq, Int.reduceNe, Int.reduceBEq, IntKind.bits, bne_self_eq_false, Int.reducePow, hU]
      have U4 := set_same hU (some ⟨true, e.next.2.1.cells (.slice ql e.next.2.1.load.length cl)⟩)
      have M4 := (set_far hUM.symm g3 (some ⟨true, e.next.2.1.cells (.slice ql e.next.2.1.load.length cl)⟩)).trans M3
      have K4 : Kp h2 (g3.set U (some ⟨true, e.next.2.1.cells (.slice ql e.next.2.1.load.length cl)⟩)) := K3.set hUl _
      simp only [UP.cells] at U4 M4 K4
      generalize (g3.set U (some ⟨true, [Value.int .u8 e.next.2.1.back, .bool e.next.2.1.bb, .int .u8 e.next.2.1.fore, .bool e.next.2.1.fb, .int .u8 e.next.2.1.kind, .int .u8 e.next.2.1.st, .slice ql e.next.2.1.load.length cl]⟩)) = g4 at *
      have E4 := E2.kp K4
      have L4 := L2.frz K4.frz
      have hUg : M ≠ U := hUM
      cases hfl : e.fl
      · simp only [hfl, Bool.false_eq_true, if_false] at g9
        simp only [sx, x_box, x_alloc, x_bslice, x_slice, x_append, x_b2s, xop, ev, evs, evParts, fillL, cellsL, Ai.get, Ai.put, stab, isNil?, if_false, if_true, addr?, int?, str?, agg?, bool?, shiftA, FnPost, xresL, xres1, tup, argEnv, ptr, Nat.reduceEqDiff, reduceIte, beq_self_eq_true, ne_eq, Nat.reduceAdd, Nat.reduceMul, Nat.reduceSub, abin_shl, abin_shr, load1V, loadV, storeV, cellsAt, getN, setN, allocV, lenL, lenS, bnd, oneC, Value.oneCell', Nat.reduceLeDiff, Nat.reduceLT, exists_eq_left', forall_const, reduceCtorEq, app_new, app_new0, List.append_assoc, Int.reduceToNat, Int.reduceLT, Int.reduceLE, Int.reduceEq, Int.reduceNe, Int.reduceBEq, IntKind.bits, bne_self_eq_false, Int.reducePow, g8, g6, g5, g1, g9, eq_self, hfl, U4]
        refine xcall (mnext_ok S.x M4 hfl) (by rfl) (by rfl) (by simp only [sx, x_box, x_alloc, x_bslice, x_slice, x_append, x_b2s, xop, ev, evs, evParts, fillL, cellsL, Ai.get, Ai.put, stab, isNil?, if_false, if_true, addr?, int?, str?, agg?, bool?, shiftA, FnPost, xresL, xres1, tup, argEnv, ptr, Nat.reduceEqDiff, reduceIte, beq_self_eq_true, ne_eq, Nat.reduceAdd, Nat.reduceMul, Nat.reduceSub, abin_shl, abin_shr, load1V, loadV, storeV, cellsAt, getN, setN, allocV, lenL, lenS, bnd, oneC, Value.oneCell', Nat.reduceLeDiff, Nat.reduceLT, exists_eq_left', forall_const, reduceCtorEq, app_new, app_new0, List.append_assoc, Int.reduceToNat, Int.reduceLT, Int.reduceLE, Int.reduceEq, Int.reduceNe, Int.reduceBEq, IntKind.bits, bne_self_eq_false, Int.reducePow, g5]; rfl) (by rfl) ?_
        rintro r h3 ⟨⟨lw, rfl, L5⟩, F5, s', M5, X5⟩
        obtain ⟨E5, z5⟩ := E4.model M4 n2 F5
        have U5 := (F5.2 U (lt_of_get U4) hUg.symm).trans U4
        simp only [sx, x_box, x_alloc, x_bslice, x_slice, x_append, x_b2s, xop, ev, evs, evParts, fillL, cellsL, Ai.get, Ai.put, stab, isNil?, if_false, if_true, addr?, int?, str?, agg?, bool?, shiftA, FnPost, xresL, xres1, tup, argEnv, ptr, Nat.reduceEqDiff, reduceIte, beq_self_eq_true, ne_eq, Nat.reduceAdd, Nat.reduceMul, Nat.reduceSub, abin_shl, abin_shr, load1V, loadV, storeV, cellsAt, getN, setN, allocV, lenL, lenS, bnd, oneC, Value.oneCell', Nat.reduceLeDiff, Nat.reduceLT, exists_eq_left', forall_const, reduceCtorEq, app_new, app_new0, List.append_assoc, Int.reduceToNat, Int.reduceLT, Int.reduceLE, Int.reduceEq, Int.reduceNe, Int.reduceBEq, IntKind.bits, bne_self_eq_false, Int.reducePow, g8, g6, g5, g1, g9, U5]
        refine xcall (same_ok2 (u := e.next.2.1) ⟨_, rfl, L4.frz z5⟩ ⟨_, rfl, L5⟩) (by rfl) (by rfl) (by rfl) (by rfl) ?_
        rintro r h4 ⟨rfl, K6⟩
        simp only [sx, x_box, x_alloc, x_bslice, x_slice, x_append, x_b2s, xop, ev, evs, evParts, fillL, cellsL, Ai.get, Ai.put, stab, isNil?, if_false, if_true, addr?, int?, str?, agg?, bool?, shiftA, FnPost, xresL, xres1, tup, argEnv, ptr, Nat.reduceEqDiff, reduceIte, beq_self_eq_true, ne_eq, Nat.reduceAdd, Nat.reduceMul, Nat.reduceSub, abin_shl, abin_shr, load1V, loadV, storeV, cellsAt, getN, setN, allocV, lenL, lenS, bnd, oneC, Value.oneCell', Nat.reduceLeDiff, Nat.reduceLT, exists_eq_left', forall_const, reduceCtorEq, app_new, app_new0, List.append_assoc, Int.reduceToNat, Int.reduceLT, Int.reduceLE, Int.reduceEq, Int.reduceNe, Int.reduceBEq, IntKind.bits, bne_self_eq_false, Int.reducePow, g8, g6, g5, g1, g9, eq_self]
        exact ⟨⟨g8, g6, g5, g1⟩, ⟨_, _, _, _, _, _, (⟨E5, M5, X5, n2⟩ : SC _ _ _ _ _ _ _ _ _).kp K6, by omega⟩, W.frz (((z2.trans K4.frz).trans z5).trans K6.frz)⟩
      · obtain ⟨n1, n3⟩ := hnx hfl
        simp only [hfl, if_true] at g9
        have h60 : ¬ (6 : Int) = 0 := by decide
        simp only [sx, x_box, x_alloc, x_bslice, x_slice, x_append, x_b2s, xop, ev, evs, evParts, fillL, cellsL, Ai.get, Ai.put, stab, isNil?, if_false, if_true, addr?, int?, str?, agg?, bool?, shiftA, FnPost, xresL, xres1, tup, argEnv, ptr, Nat.reduceEqDiff, reduceIte, beq_self_eq_true, ne_eq, Nat.reduceAdd, Nat.reduceMul, Nat.reduceSub, abin_shl, abin_shr, load1V, loadV, storeV, cellsAt, getN, setN, allocV, lenL, lenS, bnd, oneC, Value.oneCell', Nat.reduceLeDiff, Nat.reduceLT, exists_eq_left', forall_const, reduceCtorEq, app_new, app_new0, List.append_assoc, Int.reduceToNat, Int.reduceLT, Int.reduceLE, Int.reduceEq, Int.reduceNe, Int.reduceBEq, IntKind.bits, bne_self_eq_false, Int.reducePow, g8, g6, g5, g1, g9, eq_self, hfl, U4, h60]
        refine xcall (same_ok2 (u := e.next.2.1) ⟨_, rfl, L4⟩ (by rw [n3]; exact unit_zero _)) (by rfl) (by rfl) (by rfl) (by rfl) ?_
        rintro r h4 ⟨rfl, K6⟩
        simp only [sx, x_box, x_alloc, x_bslice, x_slice, x_append, x_b2s, xop, ev, evs, evParts, fillL, cellsL, Ai.get, Ai.put, stab, isNil?, if_false, if_true, addr?, int?, str?, agg?, bool?, shiftA, FnPost, xresL, xres1, tup, argEnv, ptr, Nat.reduceEqDiff, reduceIte, beq_self_eq_true, ne_eq, Nat.reduceAdd, Nat.reduceMul, Nat.reduceSub, abin_shl, abin_shr, load1V, loadV, storeV, cellsAt, getN, setN, allocV, lenL, lenS, bnd, oneC, Value.oneCell', Nat.reduceLeDiff, Nat.reduceLT, exists_eq_left', forall_const, reduceCtorEq, app_new, app_new0, List.append_assoc, Int.reduceToNat, Int.reduceLT, Int.reduceLE, Int.reduceEq, Int.reduceNe, Int.reduceBEq, IntKind.bits, bne_self_eq_false, Int.reducePow, g8, g6, g5, g1, g9, eq_self]
        rw [n1] at E4
        exact ⟨⟨g8, g6, g5, g1⟩, ⟨_, _, _, _, _, _, (⟨E4, M4, S.x, n2⟩ : SC _ _ _ _ _ _ _ _ _).kp K6, by omega⟩, W.frz ((z2.trans K4.frz).trans K6.frz)⟩
    · have h20 : k.tmod 3 = 2 := by have := Int.tmod_eq_emod_of_nonneg (b := 3) k3.1; omega
      have h20' : ¬ (2 : Int) = 0 := by decide
      have h21' : ¬ (2 : Int) = 1 := by decide
      simp only [sx, x_box, x_bslice, x_slice, x_append, x_b2s, xop, ev, evs, evParts, fillL, cellsL, Ai.get, Ai.put, stab, isNil?, if_false, if_true, addr?, int?, str?, agg?, bool?, shiftA, FnPost, xresL, xres1, tup, argEnv, ptr, Nat.reduceEqDiff, reduceIte, beq_self_eq_true, ne_eq, Nat.reduceAdd, Nat.reduceMul, Nat.reduceSub, abin_shl, abin_shr, load1V, loadV, storeV, cellsAt, setN, allocV, lenL, lenS, bnd, oneC, Value.oneCell', Nat.reduceLeDiff, Nat.reduceLT, exists_eq_left', forall_const, reduceCtorEq, app_new, app_new0, List.append_assoc, Int.reduceToNat, Int.reduceLT, Int.reduceLE, Int.reduceEq, Int.reduceNe, Int.reduceBEq, IntKind.bits, bne_self_eq_false, Int.reducePow, h20, h20', h21', g8, g6, g5, g1, g9, hlt', hge, hB, k1, k2]
      simp only [sx, x_box, x_bslice, x_slice, x_append, x_b2s, xop, ev, evs, evParts, fillL, cellsL, Ai.get, Ai.put, stab, isNil?, if_false, if_true, addr?, int?, str?, agg?, bool?, shiftA, FnPost, xresL, xres1, tup, argEnv, ptr, Nat.reduceEqDiff, reduceIte, beq_self_eq_true, ne_eq, Nat.reduceAdd, Nat.reduceMul, Nat.reduceSub, abin_shl, abin_shr, load1V, loadV, storeV, cellsAt, getN, setN, allocV, lenL, lenS, bnd, oneC, Value.oneCell', Nat.reduceLeDiff, Nat.reduceLT, exists_eq_left', forall_const, reduceCtorEq, app_new, app_new0, List.append_assoc, Int.reduceToNat, Int.reduceLT, Int.reduceLE, Int.reduceEq, Int.reduceNe, Int.reduceBEq, IntKind.bits, bne_self_eq_false, Int.reducePow, hM]
      refine and_cut (NrM h1 M X i n c (some ⟨B, 0, none⟩) e.fl) ?_ ?_ ?_
      · refine xcall (near_ok S.x k4 k5 k6 k7 k8 k9 L) (by rfl) (by rfl) (by rfl) (by rfl) ?_
        rintro r h2 ⟨u, lv, rfl, hu, L2, K2⟩
        obtain ⟨ql, cl, rfl, -⟩ := id L2
        simp only [UP.cells]
        simp only [sx, x_box, x_bslice, x_slice, x_append, x_b2s, xop, ev, evs, evParts, fillL, cellsL, Ai.get, Ai.put, stab, isNil?, if_false, if_true, addr?, int?, str?, agg?, bool?, shiftA, FnPost, xresL, xres1, tup, argEnv, ptr, Nat.reduceEqDiff, reduceIte, beq_self_eq_true, ne_eq, Nat.reduceAdd, Nat.reduceMul, Nat.reduceSub, abin_shl, abin_shr, load1V, loadV, storeV, cellsAt, getN, setN, allocV, lenL, lenS, bnd, oneC, Value.oneCell', Nat.reduceLeDiff, Nat.reduceLT, exists_eq_left', forall_const, reduceCtorEq, app_new, app_new0, List.append_assoc, Int.reduceToNat, Int.reduceLT, Int.reduceLE, Int.reduceEq, Int.reduceNe, Int.reduceBEq, IntKind.bits, bne_self_eq_false, Int.reducePow, g8, g6, g5, g1, g9]
        refine alloc_run fun g3 U K3 hU hUl _ => ?_
        have B3 := (K2.trans K3).get hB
        have M3 := (K2.trans K3).get hM
        simp only [sx, x_box, x_alloc, x_bslice, x_slice, x_append, x_b2s, xop, ev, evs, evParts, fillL, cellsL, Ai.get, Ai.put, stab, isNil?, if_false, if_true, addr?, int?, str?, agg?, bool?, shiftA, FnPost, xresL, xres1, tup, argEnv, ptr, Nat.reduceEqDiff, reduceIte, beq_self_eq_true, ne_eq, Nat.reduceAdd, Nat.reduceMul, Nat.reduceSub, abin_shl, abin_shr, load1V, loadV, storeV, cellsAt, setN, allocV, lenL, lenS, bnd, oneC, Value.oneCell', Nat.reduceLeDiff, Nat.reduceLT, exists_eq_left', forall_const, reduceCtorEq, app_new, app_new0, List.append_assoc, Int.reduceToNat, Int.reduceLT, Int.reduceLE, Int.reduceEq, Int.reduceNe, Int.reduceBEq, IntKind.bits, bne_self_eq_false, Int.reducePow, g8, g6, g5, g1, g9, B3, k2, M3]
        simp only [sx, x_box, x_alloc, x_bslice, x_slice, x_append, x_b2s, xop, ev, evs, evParts, fillL, cellsL, Ai.get, Ai.put, stab, isNil?, if_false, if_true, addr?, int?, str?, agg?, bool?, shiftA, FnPost, xresL, xres1, tup, argEnv, ptr, Nat.reduceEqDiff, reduceIte, beq_self_eq_true, ne_eq, Nat.reduceAdd, Nat.reduceMul, Nat.reduceSub, abin_shl, abin_shr, load1V, loadV, storeV, cellsAt, getN, setN, allocV, lenL, lenS, bnd, oneC, Value.oneCell', Nat.reduceLeDiff, Nat.reduceLT, exists_eq_left', forall_const, reduceCtorEq, app_new, app_new0, List.append_assoc, Int.reduceToNat, Int.reduceLT, Int.reduceLE, Int.reduceEq, Int.reduceNe, Int.reduceBEq, IntKind.bits, bne_self_eq_false, Int.reducePow, hU]
        have z4 : Kp h2 (g3.set U (some ⟨true, u.cells (.slice ql u.load.length cl)⟩)) := K3.set hUl _
        exact ⟨⟨g8, g6, g5, g1⟩, g9, K2.trans z4, U, by have := K2.1; omega, rfl, u, _, hu, set_same hU _, L2.frz z4.frz⟩
      · refine alloc_run fun g3 U K3 hU hUl _ => ?_
        have B3 := K3.get hB
        have M3 := K3.get hM
        simp only [sx, x_box, x_alloc, x_bslice, x_slice, x_append, x_b2s, xop, ev, evs, evParts, fillL, cellsL, Ai.get, Ai.put, stab, isNil?, if_false, if_true, addr?, int?, str?, agg?, bool?, shiftA, FnPost, xresL, xres1, tup, argEnv, ptr, Nat.reduceEqDiff, reduceIte, beq_self_eq_true, ne_eq, Nat.reduceAdd, Nat.reduceMul, Nat.reduceSub, abin_shl, abin_shr, load1V, loadV, storeV, cellsAt, setN, allocV, lenL, lenS, bnd, oneC, Value.oneCell', Nat.reduceLeDiff, Nat.reduceLT, exists_eq_left', forall_const, reduceCtorEq, app_new, app_new0, List.append_assoc, Int.reduceToNat, Int.reduceLT, Int.reduceLE, Int.reduceEq, Int.reduceNe, Int.reduceBEq, IntKind.bits, bne_self_eq_false, Int.reducePow, g8, g6, g5, g1, g9, B3, k2, M3]
        simp only [sx, x_box, x_alloc, x_bslice, x_slice, x_append, x_b2s, xop, ev, evs, evParts, fillL, cellsL, Ai.get, Ai.put, stab, isNil?, if_false, if_true, addr?, int?, str?, agg?, bool?, shiftA, FnPost, xresL, xres1, tup, argEnv, ptr, Nat.reduceEqDiff, reduceIte, beq_self_eq_true, ne_eq, Nat.reduceAdd, Nat.reduceMul, Nat.reduceSub, abin_shl, abin_shr, load1V, loadV, storeV, cellsAt, getN, setN, allocV, lenL, lenS, bnd, oneC, Value.oneCell', Nat.reduceLeDiff, Nat.reduceLT, exists_eq_left', forall_const, reduceCtorEq, app_new, app_new0, List.append_assoc, Int.reduceToNat, Int.reduceLT, Int.reduceLE, Int.reduceEq, Int.reduceNe, Int.reduceBEq, IntKind.bits, bne_self_eq_false, Int.reducePow]
        refine xcall (near_ok S.x k4 k5 k6 k7 k8 k9 (L.frz K3.frz)) (by rfl) (by rfl) (by rfl) (by rfl) ?_
        rintro r h2 ⟨u, lv, rfl, hu, L2, K2⟩
        obtain ⟨ql, cl, rfl, -⟩ := id L2
        have hU2 := K2.get hU
        simp only [UP.cells]
        simp only [sx, x_box, x_alloc, x_bslice, x_slice, x_append, x_b2s, xop, ev, evs, evParts, fillL, cellsL, Ai.get, Ai.put, stab, isNil?, if_false, if_true, addr?, int?, str?, agg?, bool?, shiftA, FnPost, xresL, xres1, tup, argEnv, ptr, Nat.reduceEqDiff, reduceIte, beq_self_eq_true, ne_eq, Nat.reduceAdd, Nat.reduceMul, Nat.reduceSub, abin_shl, abin_shr, load1V, loadV, storeV, cellsAt, getN, setN, allocV, lenL, lenS, bnd, oneC, Value.oneCell', Nat.reduceLeDiff, Nat.reduceLT, exists_eq_left', forall_const, reduceCtorEq, app_new, app_new0, List.append_assoc, Int.reduceToNat, Int.reduceLT, Int.reduceLE, Int.reduceEq, Int.reduceNe, Int.reduceBEq, IntKind.bits, bne_self_eq_false, Int.reducePow, g8, g6, g5, g1, g9, hU2]
        have z4 := frz_set hU2 (some ⟨true, u.cells (.slice ql u.load.length cl)⟩)
        exact ⟨⟨g8, g6, g5, g1⟩, g9, (K3.trans K2).set (by omega) _, U, by omega, rfl, u, _, hu, set_same hU2 _, L2.frz z4⟩
      · clear hB hr k1 k2 g8 g6 g5 g1 g9 L hM0 hM
        rintro ρ2 h5 ⟨⟨g8, g6, g5, g1⟩, g9, K5, U, hUh, g12, u2, lv, H2, U5, L5⟩
        obtain ⟨ql, cl, rfl, -⟩ := id L5
        have hUM : M ≠ U := by omega
        have S5 := S.kp K5
        have W5 := W.frz K5.frz
        have hM := S5.m
        simp only [MC] at hM
        have hU := U5
        simp only [UP.cells] at hU
        have UV5 : UV h5 (.agg (u2.cells (.slice ql u2.load.length cl)).toArray) u2 := ⟨_, rfl, L5⟩
        have hnf : ¬ foot X qv ov U := fun h => by have := S.E.lt h; omega
        simp only [sx, x_box, x_alloc, x_bslice, x_slice, x_append, x_b2s, xop, ev, evs, evParts, fillL, cellsL, Ai.get, Ai.put, stab, isNil?, if_false, if_true, addr?, int?, str?, agg?, bool?, shiftA, FnPost, xresL, xres1, tup, argEnv, ptr, Nat.reduceEqDiff, reduceIte, beq_self_eq_true, ne_eq, Nat.reduceAdd, Nat.reduceMul, Nat.reduceSub, abin_shl, abin_shr, load1V, loadV, storeV, cellsAt, getN, setN, allocV, lenL, lenS, bnd, oneC, Value.oneCell', Nat.reduceLeDiff, Nat.reduceLT, exists_eq_left', forall_const, reduceCtorEq, app_new, app_new0, List.append_assoc, Int.reduceToNat, Int.reduceLT, Int.reduceLE, Int.reduceEq, Int.reduceNe, Int.reduceBEq, IntKind.bits, bne_self_eq_false, Int.reducePow, g8, g6, g5, g1, g9, g12, hM, hU]
        cases hfl : e.fl
        · have hH := S.x.heardL hfl H2
          simp only [hfl, Bool.false_eq_true, if_false] at g9
          simp only [sx, x_box, x_alloc, x_bslice, x_slice, x_append, x_b2s, xop, ev, evs, evParts, fillL, cellsL, Ai.get, Ai.put, stab, isNil?, if_false, if_true, addr?, int?, str?, agg?, bool?, shiftA, FnPost, xresL, xres1, tup, argEnv, ptr, Nat.reduceEqDiff, reduceIte, beq_self_eq_true, ne_eq, Nat.reduceAdd, Nat.reduceMul, Nat.reduceSub, abin_shl, abin_shr, load1V, loadV, storeV, cellsAt, getN, setN, allocV, lenL, lenS, bnd, oneC, Value.oneCell', Nat.reduceLeDiff, Nat.reduceLT, exists_eq_left', forall_const, reduceCtorEq, app_new, app_new0, List.append_assoc, Int.reduceToNat, Int.reduceLT, Int.reduceLE, Int.reduceEq, Int.reduceNe, Int.reduceBEq, IntKind.bits, bne_self_eq_false, Int.reducePow, g8, g6, g5, g1, g9, g12, hM, hU, hfl, eq_self]
          refine xcall (mhear_ok S5.x S5.m hfl UV5 H2) (by rfl) (by rfl) (by simp only [sx, x_box, x_alloc, x_bslice, x_slice, x_append, x_b2s, xop, ev, evs, evParts, fillL, cellsL, Ai.get, Ai.put, stab, isNil?, if_false, if_true, addr?, int?, str?, agg?, bool?, shiftA, FnPost, xresL, xres1, tup, argEnv, ptr, Nat.reduceEqDiff, reduceIte, beq_self_eq_true, ne_eq, Nat.reduceAdd, Nat.reduceMul, Nat.reduceSub, abin_shl, abin_shr, load1V, loadV, storeV, cellsAt, getN, setN, allocV, lenL, lenS, bnd, oneC, Value.oneCell', Nat.reduceLeDiff, Nat.reduceLT, exists_eq_left', forall_const, reduceCtorEq, app_new, app_new0, List.append_assoc, Int.reduceToNat, Int.reduceLT, Int.reduceLE, Int.reduceEq, Int.reduceNe, Int.reduceBEq, IntKind.bits, bne_self_eq_false, Int.reducePow, g5]; rfl) (by rfl) ?_
          rintro rr h6 ⟨rfl, F6, a', M6, X6⟩
          obtain ⟨E6, z6⟩ := S5.E.model S5.m S5.n F6
          have U6 := (F6.2 U (lt_of_get U5) hUM.symm).trans U5
          have U6' := U6
          simp only [UP.cells] at U6'
          have UV6 : UV h6 (.agg (u2.cells (.slice ql u2.load.length cl)).toArray) u2 := ⟨_, rfl, L5.frz z6⟩
          have M6' := M6
          simp only [MC] at M6'
          simp only [sx, x_box, x_alloc, x_bslice, x_slice, x_append, x_b2s, xop, ev, evs, evParts, fillL, cellsL, Ai.get, Ai.put, stab, isNil?, if_false, if_true, addr?, int?, str?, agg?, bool?, shiftA, FnPost, xresL, xres1, tup, argEnv, ptr, Nat.reduceEqDiff, reduceIte, beq_self_eq_true, ne_eq, Nat.reduceAdd, Nat.reduceMul, Nat.reduceSub, abin_shl, abin_shr, load1V, loadV, storeV, cellsAt, getN, setN, allocV, lenL, lenS, bnd, oneC, Value.oneCell', Nat.reduceLeDiff, Nat.reduceLT, exists_eq_left', forall_const, reduceCtorEq, app_new, app_new0, List.append_assoc, Int.reduceToNat, Int.reduceLT, Int.reduceLE, Int.reduceEq, Int.reduceNe, Int.reduceBEq, IntKind.bits, bne_self_eq_false, Int.reducePow, g8, g6, g5, g1, g9, g12, M6', U6']
          have hh := hear_ok E6 UV6 ⟨H2.b.1, H2.f.1⟩ S.x.len
          have hnf6 := hnf
          obtain ⟨d1, d2⟩ := hH
          refine xcond_cut (HsM h6 U M X i n c (some ⟨B, 0, none⟩) (e.hear u2).2.2 (!(e.hear u2).2.1.isEmpty)) ?_ ?_
          · cases hf2 : (e.hear u2).1.fl
            · have d3 : (e.hear u2).2.2 = 0 := by rw [d1, hf2]; rfl
              rw [d3]
              simp only [sx, x_box, x_alloc, x_bslice, x_slice, x_append, x_b2s, xop, ev, evs, evParts, fillL, cellsL, Ai.get, Ai.put, stab, isNil?, if_false, if_true, addr?, int?, str?, agg?, bool?, shiftA, FnPost, xresL, xres1, tup, argEnv, ptr, Nat.reduceEqDiff, reduceIte, beq_self_eq_true, ne_eq, Nat.reduceAdd, Nat.reduceMul, Nat.reduceSub, abin_shl, abin_shr, load1V, loadV, storeV, cellsAt, getN, setN, allocV, lenL, lenS, bnd, oneC, Value.oneCell', Nat.reduceLeDiff, Nat.reduceLT, exists_eq_left', forall_const, reduceCtorEq, app_new, app_new0, List.append_assoc, Int.reduceToNat, Int.reduceLT, Int.reduceLE, Int.reduceEq, Int.reduceNe, Int.reduceBEq, IntKind.bits, bne_self_eq_false, Int.reducePow]
              exact ⟨⟨g8, g6, g5, g1⟩, g9, g12, rfl, rfl⟩
            · have d3 : (e.hear u2).2.2 = 6 := by rw [d1, hf2]; rfl
              rw [d3]
              simp only [sx, x_box, x_alloc, x_bslice, x_slice, x_append, x_b2s, xop, ev, evs, evParts, fillL, cellsL, Ai.get, Ai.put, stab, isNil?, if_false, if_true, addr?, int?, str?, agg?, bool?, shiftA, FnPost, xresL, xres1, tup, argEnv, ptr, Nat.reduceEqDiff, reduceIte, beq_self_eq_true, ne_eq, Nat.reduceAdd, Nat.reduceMul, Nat.reduceSub, abin_shl, abin_shr, load1V, loadV, storeV, cellsAt, getN, setN, allocV, lenL, lenS, bnd, oneC, Value.oneCell', Nat.reduceLeDiff, Nat.reduceLT, exists_eq_left', forall_const, reduceCtorEq, app_new, app_new0, List.append_assoc, Int.reduceToNat, Int.reduceLT, Int.reduceLE, Int.reduceEq, Int.reduceNe, Int.reduceBEq, IntKind.bits, bne_self_eq_false, Int.reducePow]
              exact ⟨⟨g8, g6, g5, g1⟩, rfl, g12, rfl, rfl⟩
          clear g8 g6 g5 g1 g9 g12
          rintro ρ7 h7 ⟨⟨g8, g6, g5, g1⟩, g9, g12, g13, rfl⟩
          simp only [sx, x_box, x_alloc, x_bslice, x_slice, x_append, x_b2s, xop, ev, evs, evParts, fillL, cellsL, Ai.get, Ai.put, stab, isNil?, if_false, if_true, addr?, int?, str?, agg?, bool?, shiftA, FnPost, xresL, xres1, tup, argEnv, ptr, Nat.reduceEqDiff, reduceIte, beq_self_eq_true, ne_eq, Nat.reduceAdd, Nat.reduceMul, Nat.reduceSub, abin_shl, abin_shr, load1V, loadV, storeV, cellsAt, getN, setN, allocV, lenL, lenS, bnd, oneC, Value.oneCell', Nat.reduceLeDiff, Nat.reduceLT, exists_eq_left', forall_const, reduceCtorEq, app_new, app_new0, List.append_assoc, Int.reduceToNat, Int.reduceLT, Int.reduceLE, Int.reduceEq, Int.reduceNe, Int.reduceBEq, IntKind.bits, bne_self_eq_false, Int.reducePow, g8, g6, g5, g1, g9, g12, g13, U6']
          refine xcall hh (by rfl) (by rfl) (by rfl) (by rfl) ?_
          rintro rr h8 ⟨⟨lv, rfl, V8, -⟩, w8⟩
          have F8 := w8
          obtain ⟨qv', ov', E8, F8, n8⟩ := F8
          have hMl7 := lt_of_get M6
          have M8 := (F8.2 M hMl7 S5.n).trans M6
          have n8' : ¬ foot X qv' ov' M := fun hf => by
            rcases n8 M hf with h1 | h1
            · exact S5.n h1
            · omega
          have U8 := (F8.2 U (lt_of_get U6) hnf).trans U6
          have z8 := E6.frz F8
          simp only [UP.cells] at U8
          have L8 := UV6.frz z8
          rcases d2 with d2 | ⟨d2, dk⟩
          · rw [d2] at V8 g13
            obtain ⟨qg, cells, rfl, -⟩ := id V8
            simp only [List.isEmpty_nil, Bool.not_true] at g13
            simp only [sx, x_box, x_alloc, x_bslice, x_slice, x_append, x_b2s, xop, ev, evs, evParts, fillL, cellsL, Ai.get, Ai.put, stab, isNil?, if_false, if_true, addr?, int?, str?, agg?, bool?, shiftA, FnPost, xresL, xres1, tup, argEnv, ptr, Nat.reduceEqDiff, reduceIte, beq_self_eq_true, ne_eq, Nat.reduceAdd, Nat.reduceMul, Nat.reduceSub, abin_shl, abin_shr, load1V, loadV, storeV, cellsAt, getN, setN, allocV, lenL, lenS, bnd, oneC, Value.oneCell', Nat.reduceLeDiff, Nat.reduceLT, exists_eq_left', forall_const, reduceCtorEq, app_new, app_new0, List.append_assoc, Int.reduceToNat, Int.reduceLT, Int.reduceLE, Int.reduceEq, Int.reduceNe, Int.reduceBEq, IntKind.bits, bne_self_eq_false, Int.reducePow, g8, g6, g5, g1, g9, g12, g13, eq_self, List.length_nil, Int.natCast_zero]
            exact ⟨⟨g8, g6, g5, g1⟩, ⟨_, _, _, _, _, _, ⟨E8, M8, X6, n8'⟩, by omega⟩, W5.frz (z6.trans z8)⟩
          · rw [d2] at V8 g13
            obtain ⟨qg, cells, rfl, -⟩ := id V8
            simp only [List.isEmpty_cons, Bool.not_false] at g13
            simp only [sx, x_box, x_alloc, x_slice, x_append, x_b2s, xop, ev, evs, evParts, fillL, cellsL, Ai.get, Ai.put, stab, isNil?, if_false, if_true, addr?, int?, str?, agg?, bool?, shiftA, FnPost, xresL, xres1, tup, argEnv, ptr, Nat.reduceEqDiff, reduceIte, beq_self_eq_true, ne_eq, Nat.reduceAdd, Nat.reduceMul, Nat.reduceSub, abin_shl, abin_shr, load1V, loadV, storeV, cellsAt, getN, setN, allocV, lenL, lenS, bnd, oneC, Value.oneCell', Nat.reduceLeDiff, Nat.reduceLT, exists_eq_left', forall_const, reduceCtorEq, app_new, app_new0, List.append_assoc, Int.reduceToNat, Int.reduceLT, Int.reduceLE, Int.reduceEq, Int.reduceNe, Int.reduceBEq, IntKind.bits, bne_self_eq_false, Int.reducePow, g8, g6, g5, g1, g9, g12, g13, eq_self, U8]
            refine bslice_run rfl rfl fun g9' R9 K9 hR9 hRl9 _ => ?_
            have V9 : ListV g9' (.slice qg 1 1) [u2.load] := by
              have := V8.kp K9
              simpa using this
            have W9 : ListW g9' (.slice (some ⟨R9, 0, none⟩) 1 1) [u2.load] := by
              have hl2 := H2.l2 dk
              have L9 := (L5.frz z6).frz (z8.trans K9.frz)
              refine ⟨[.slice ql u2.load.length cl], _, _, rfl, ?_, ⟨⟨L9, by omega, by omega⟩, trivial⟩⟩
              simp [firstV, cellsAt, hR9, getN]
            simp only [sx, x_box, x_alloc, x_slice, x_append, x_b2s, xop, ev, evs, evParts, fillL, cellsL, Ai.get, Ai.put, stab, isNil?, if_false, if_true, addr?, int?, str?, agg?, bool?, shiftA, FnPost, xresL, xres1, tup, argEnv, ptr, Nat.reduceEqDiff, reduceIte, beq_self_eq_true, ne_eq, Nat.reduceAdd, Nat.reduceMul, Nat.reduceSub, abin_shl, abin_shr, load1V, loadV, storeV, cellsAt, getN, setN, allocV, lenL, lenS, bnd, oneC, Value.oneCell', Nat.reduceLeDiff, Nat.reduceLT, exists_eq_left', forall_const, reduceCtorEq, app_new, app_new0, List.append_assoc, Int.reduceToNat, Int.reduceLT, Int.reduceLE, Int.reduceEq, Int.reduceNe, Int.reduceBEq, IntKind.bits, bne_self_eq_false, Int.reducePow]
            refine xcall (lists_okW V9 W9 (by simp)) (by rfl) (by rfl) (by rfl) (by rfl) ?_
            rintro rr h10 ⟨rfl, rfl⟩
            simp only [sx, x_box, x_alloc, x_bslice, x_slice, x_append, x_b2s, xop, ev, evs, evParts, fillL, cellsL, Ai.get, Ai.put, stab, isNil?, if_false, if_true, addr?, int?, str?, agg?, bool?, shiftA, FnPost, xresL, xres1, tup, argEnv, ptr, Nat.reduceEqDiff, reduceIte, beq_self_eq_true, ne_eq, Nat.reduceAdd, Nat.reduceMul, Nat.reduceSub, abin_shl, abin_shr, load1V, loadV, storeV, cellsAt, getN, setN, allocV, lenL, lenS, bnd, oneC, Value.oneCell', Nat.reduceLeDiff, Nat.reduceLT, exists_eq_left', forall_const, reduceCtorEq, app_new, app_new0, List.append_assoc, Int.reduceToNat, Int.reduceLT, Int.reduceLE, Int.reduceEq, Int.reduceNe, Int.reduceBEq, IntKind.bits, bne_self_eq_false, Int.reducePow, g8, g6, g5, g1, g9, g12, g13, eq_self]
            exact ⟨⟨g8, g6, g5, g1⟩, ⟨_, _, _, _, _, _, (⟨E8, M8, X6, n8'⟩ : SC _ _ _ _ _ _ _ _ _).kp K9, by omega⟩, W5.frz ((z6.trans z8).trans K9.frz)⟩
        · have hH : e.hear u2 = (e, [], 6) := by unfold BE.hear BE.st; rw [S.x.rd, hfl]; rfl
          simp only [hfl, if_true] at g9
          have h60 : ¬ (6 : Int) = 0 := by decide
          have hh := hear_ok S5.E UV5 ⟨H2.b.1, H2.f.1⟩ S.x.len
          rw [hH] at hh
          simp only [sx, x_box, x_alloc, x_bslice, x_slice, x_append, x_b2s, xop, ev, evs, evParts, fillL, cellsL, Ai.get, Ai.put, stab, isNil?, if_false, if_true, addr?, int?, str?, agg?, bool?, shiftA, FnPost, xresL, xres1, tup, argEnv, ptr, Nat.reduceEqDiff, reduceIte, beq_self_eq_true, ne_eq, Nat.reduceAdd, Nat.reduceMul, Nat.reduceSub, abin_shl, abin_shr, load1V, loadV, storeV, cellsAt, getN, setN, allocV, lenL, lenS, bnd, oneC, Value.oneCell', Nat.reduceLeDiff, Nat.reduceLT, exists_eq_left', forall_const, reduceCtorEq, app_new, app_new0, List.append_assoc, Int.reduceToNat, Int.reduceLT, Int.reduceLE, Int.reduceEq, Int.reduceNe, Int.reduceBEq, IntKind.bits, bne_self_eq_false, Int.reducePow, g8, g6, g5, g1, g9, g12, hM, hU, hfl, h60]
          refine xcall hh (by rfl) (by rfl) (by rfl) (by rfl) ?_
          rintro rr h6 ⟨⟨lv, rfl, V6, -⟩, w6⟩
          obtain ⟨qv', ov', E6, M6, n6, z6⟩ := S5.ended w6
          obtain ⟨qg, cells, rfl, -⟩ := id V6
          simp only [sx, x_box, x_alloc, x_bslice, x_slice, x_append, x_b2s, xop, ev, evs, evParts, fillL, cellsL, Ai.get, Ai.put, stab, isNil?, if_false, if_true, addr?, int?, str?, agg?, bool?, shiftA, FnPost, xresL, xres1, tup, argEnv, ptr, Nat.reduceEqDiff, reduceIte, beq_self_eq_true, ne_eq, Nat.reduceAdd, Nat.reduceMul, Nat.reduceSub, abin_shl, abin_shr, load1V, loadV, storeV, cellsAt, getN, setN, allocV, lenL, lenS, bnd, oneC, Value.oneCell', Nat.reduceLeDiff, Nat.reduceLT, exists_eq_left', forall_const, reduceCtorEq, app_new, app_new0, List.append_assoc, Int.reduceToNat, Int.reduceLT, Int.reduceLE, Int.reduceEq, Int.reduceNe, Int.reduceBEq, IntKind.bits, bne_self_eq_false, Int.reducePow, g8, g6, g5, g1, g9, g12, List.length_nil, Int.natCast_zero]
          exact ⟨⟨g8, g6, g5, g1⟩, ⟨_, _, _, _, _, _, ⟨E6, M6, S.x, n6⟩, by omega⟩, W5.frz z6⟩
  clear hM0 hM hMl W hB hr k1 k2 g8 g6 g5 g1 g9 L S hXg hXh hXa hXm
  rintro ρ2 h2 ⟨⟨g8, g6, g5, g1⟩, ⟨e, qv, ov, g, s, a, S, hgi⟩, W⟩
  have hXg := S.x.hg
  have hXh := S.x.h2
  have hXa := S.x.h1
  have hXm := S.x.h4
  have hw1 : IntKind.i64.wrap ((g : Int) - s) = ((g - s : Nat) : Int) := by rw [i64_wrap (by omega) (by omega)]; omega
  have hw2 : IntKind.i64.wrap ((s : Int) - a) = ((s - a : Nat) : Int) := by rw [i64_wrap (by omega) (by omega)]; omega
  have hql : e.q.length = g - s := by rw [S.x.q, lst_len]
  have hol : e.o.length = s - a := by rw [S.x.o, lst_len]
  have hM := S.m
  simp only [MC] at hM
  have hna := num_lt a
  have hrt := retrieve_ok (last := num a) S.E (by omega)
  rw [S.x.ret] at hrt
  simp only [sx, x_box, x_alloc, x_bslice, x_slice, x_append, x_b2s, xop, ev, evs, evParts, fillL, cellsL, Ai.get, Ai.put, stab, isNil?, if_false, if_true, addr?, int?, str?, agg?, bool?, shiftA, FnPost, xresL, xres1, tup, argEnv, ptr, Nat.reduceEqDiff, reduceIte, beq_self_eq_true, ne_eq, Nat.reduceAdd, Nat.reduceMul, Nat.reduceSub, abin_shl, abin_shr, load1V, loadV, storeV, cellsAt, getN, setN, allocV, lenL, lenS, bnd, oneC, Value.oneCell', Nat.reduceLeDiff, Nat.reduceLT, exists_eq_left', forall_const, reduceCtorEq, app_new, app_new0, List.append_assoc, Int.reduceToNat, Int.reduceLT, Int.reduceLE, Int.reduceEq, Int.reduceNe, Int.reduceBEq, IntKind.bits, bne_self_eq_false, Int.reducePow, g8, g6, g5, g1]
  refine xcall (waiting_ok S.E) (by rfl) (by rfl) (by rfl) (by rfl) ?_
  rintro r h3 ⟨rfl, rfl⟩
  simp only [sx, x_box, x_alloc, x_bslice, x_slice, x_append, x_b2s, xop, ev, evs, evParts, fillL, cellsL, Ai.get, Ai.put, stab, isNil?, if_false, if_true, addr?, int?, str?, agg?, bool?, shiftA, FnPost, xresL, xres1, tup, argEnv, ptr, Nat.reduceEqDiff, reduceIte, beq_self_eq_true, ne_eq, Nat.reduceAdd, Nat.reduceMul, Nat.reduceSub, abin_shl, abin_shr, load1V, loadV, storeV, cellsAt, getN, setN, allocV, lenL, lenS, bnd, oneC, Value.oneCell', Nat.reduceLeDiff, Nat.reduceLT, exists_eq_left', forall_const, reduceCtorEq, app_new, app_new0, List.append_assoc, Int.reduceToNat, Int.reduceLT, Int.reduceLE, Int.reduceEq, Int.reduceNe, Int.reduceBEq, IntKind.bits, bne_self_eq_false, Int.reducePow, g8, g6, g5, g1, hM]
  refine xcall (number_ok (k := a) (by omega)) (by rfl) (by rfl) (by rfl) (by rfl) ?_
  rintro r h4 ⟨rfl, rfl⟩
  simp only [sx, x_box, x_alloc, x_bslice, x_slice, x_append, x_b2s, xop, ev, evs, evParts, fillL, cellsL, Ai.get, Ai.put, stab, isNil?, if_false, if_true, addr?, int?, str?, agg?, bool?, shiftA, FnPost, xresL, xres1, tup, argEnv, ptr, Nat.reduceEqDiff, reduceIte, beq_self_eq_true, ne_eq, Nat.reduceAdd, Nat.reduceMul, Nat.reduceSub, abin_shl, abin_shr, load1V, loadV, storeV, cellsAt, getN, setN, allocV, lenL, lenS, bnd, oneC, Value.oneCell', Nat.reduceLeDiff, Nat.reduceLT, exists_eq_left', forall_const, reduceCtorEq, app_new, app_new0, List.append_assoc, Int.reduceToNat, Int.reduceLT, Int.reduceLE, Int.reduceEq, Int.reduceNe, Int.reduceBEq, IntKind.bits, bne_self_eq_false, Int.reducePow, g8, g6, g5, g1, hM]
  refine xcall hrt (by rfl) (by rfl) (by rfl) (by rfl) ?_
  rintro r h5 ⟨⟨lv, rfl, V5⟩, K5⟩
  have S5 := S.kp K5
  have hM5 := S5.m
  simp only [MC] at hM5
  simp only [sx, x_box, x_alloc, x_bslice, x_slice, x_append, x_b2s, xop, ev, evs, evParts, fillL, cellsL, Ai.get, Ai.put, stab, isNil?, if_false, if_true, addr?, int?, str?, agg?, bool?, shiftA, FnPost, xresL, xres1, tup, argEnv, ptr, Nat.reduceEqDiff, reduceIte, beq_self_eq_true, ne_eq, Nat.reduceAdd, Nat.reduceMul, Nat.reduceSub, abin_shl, abin_shr, load1V, loadV, storeV, cellsAt, getN, setN, allocV, lenL, lenS, bnd, oneC, Value.oneCell', Nat.reduceLeDiff, Nat.reduceLT, exists_eq_left', forall_const, reduceCtorEq, app_new, app_new0, List.append_assoc, Int.reduceToNat, Int.reduceLT, Int.reduceLE, Int.reduceEq, Int.reduceNe, Int.reduceBEq, IntKind.bits, bne_self_eq_false, Int.reducePow, g8, g6, g5, g1, hM5, hw1, hw2, hql, hol]
  refine xcall (failed_ok S5.E) (by rfl) (by rfl) (by rfl) (by rfl) ?_
  rintro r h6 ⟨rfl, rfl⟩
  have bs : ∀ b : Bool, (b == b) = true := fun b => by cases b <;> rfl
  simp only [sx, x_box, x_alloc, x_bslice, x_slice, x_append, x_b2s, xop, ev, evs, evParts, fillL, cellsL, Ai.get, Ai.put, stab, isNil?, if_false, if_true, addr?, int?, str?, agg?, bool?, shiftA, FnPost, xresL, xres1, tup, argEnv, ptr, Nat.reduceEqDiff, reduceIte, beq_self_eq_true, ne_eq, Nat.reduceAdd, Nat.reduceMul, Nat.reduceSub, abin_shl, abin_shr, load1V, loadV, storeV, cellsAt, getN, setN, allocV, lenL, lenS, bnd, oneC, Value.oneCell', Nat.reduceLeDiff, Nat.reduceLT, exists_eq_left', forall_const, reduceCtorEq, app_new, app_new0, List.append_assoc, Int.reduceToNat, Int.reduceLT, Int.reduceLE, Int.reduceEq, Int.reduceNe, Int.reduceBEq, IntKind.bits, bne_self_eq_false, Int.reducePow, g8, g6, g5, g1, hM5, bs]
  refine xcall (last_ok S5.E) (by rfl) (by rfl) (by rfl) (by rfl) ?_
  rintro r h7 ⟨rfl, rfl⟩
  simp only [sx, x_box, x_alloc, x_bslice, x_slice, x_append, x_b2s, xop, ev, evs, evParts, fillL, cellsL, Ai.get, Ai.put, stab, isNil?, if_false, if_true, addr?, int?, str?, agg?, bool?, shiftA, FnPost, xresL, xres1, tup, argEnv, ptr, Nat.reduceEqDiff, reduceIte, beq_self_eq_true, ne_eq, Nat.reduceAdd, Nat.reduceMul, Nat.reduceSub, abin_shl, abin_shr, load1V, loadV, storeV, cellsAt, getN, setN, allocV, lenL, lenS, bnd, oneC, Value.oneCell', Nat.reduceLeDiff, Nat.reduceLT, exists_eq_left', forall_const, reduceCtorEq, app_new, app_new0, List.append_assoc, Int.reduceToNat, Int.reduceLT, Int.reduceLE, Int.reduceEq, Int.reduceNe, Int.reduceBEq, IntKind.bits, bne_self_eq_false, Int.reducePow, g8, g6, g5, g1, hM5, eq_self]
  refine xcall (list_ok (a := a) (b := g) (by omega) (by omega)) (by rfl) (by rfl) (by rfl) (by rfl) ?_
  rintro r h8 ⟨Q8, K8⟩
  have S8 := S5.kp K8
  simp only [sx, x_box, x_alloc, x_bslice, x_slice, x_append, x_b2s, xop, ev, evs, evParts, fillL, cellsL, Ai.get, Ai.put, stab, isNil?, if_false, if_true, addr?, int?, str?, agg?, bool?, shiftA, FnPost, xresL, xres1, tup, argEnv, ptr, Nat.reduceEqDiff, reduceIte, beq_self_eq_true, ne_eq, Nat.reduceAdd, Nat.reduceMul, Nat.reduceSub, abin_shl, abin_shr, load1V, loadV, storeV, cellsAt, getN, setN, allocV, lenL, lenS, bnd, oneC, Value.oneCell', Nat.reduceLeDiff, Nat.reduceLT, exists_eq_left', forall_const, reduceCtorEq, app_new, app_new0, List.append_assoc, Int.reduceToNat, Int.reduceLT, Int.reduceLE, Int.reduceEq, Int.reduceNe, Int.reduceBEq, IntKind.bits, bne_self_eq_false, Int.reducePow, g8, g6, g5, g1]
  refine xcall (lists_ok (V5.kp K8) Q8 (by rw [lst_len]; omega)) (by rfl) (by rfl) (by rfl) (by rfl) ?_
  rintro r h9 ⟨rfl, rfl⟩
  simp only [sx, x_box, x_alloc, x_bslice, x_slice, x_append, x_b2s, xop, ev, evs, evParts, fillL, cellsL, Ai.get, Ai.put, stab, isNil?, if_false, if_true, addr?, int?, str?, agg?, bool?, shiftA, FnPost, xresL, xres1, tup, argEnv, ptr, Nat.reduceEqDiff, reduceIte, beq_self_eq_true, ne_eq, Nat.reduceAdd, Nat.reduceMul, Nat.reduceSub, abin_shl, abin_shr, load1V, loadV, storeV, cellsAt, getN, setN, allocV, lenL, lenS, bnd, oneC, Value.oneCell', Nat.reduceLeDiff, Nat.reduceLT, exists_eq_left', forall_const, reduceCtorEq, app_new, app_new0, List.append_assoc, Int.reduceToNat, Int.reduceLT, Int.reduceLE, Int.reduceEq, Int.reduceNe, Int.reduceBEq, IntKind.bits, bne_self_eq_false, Int.reducePow, g8, g6, g5, g1, eq_self, hwi]
  exact ⟨m - 1, by omega, i + 1, by omega, ⟨rfl, g6, g5, g1⟩, ⟨_, _, _, _, _, _, S8, hgi⟩, W.frz (K5.trans K8).frz⟩
end Go.Proofs.Ytcpcngamfncpdaa
