import Derived.Test.YtcpcngamfncpdaaD6
set_option linter.unusedVariables false
set_option linter.unusedSimpArgs false
namespace Go.Proofs.Ytcpcngamfncpdaa
open Go Go.Ai Go.Proofs

def BE.ret (e : BE) (last : Nat) : List (List Int) × Int := if e.rd = true then (if 127 < last ∨ e.o.length < ahd e.ack last then ([], 1) else (e.o.drop (ahd e.ack last) ++ e.q, 0)) else ([], 2)
theorem QAt.kp {h h' : AHeap} {sl : Value} {ls : List (List Int)} (q : QAt h sl ls) (k : Kp h h') : QAt h' sl ls := q.keep k.frz fun A hA => k.2 A (q.lt hA)
theorem LoadsR.kp {h h' : AHeap} {vs : List Value} {ls : List (List Int)} (l : LoadsR h vs ls) (k : Kp h h') : LoadsR h' vs ls := l.frz k.frz

set_option maxHeartbeats 4000000 in
theorem retrieve_ok {h : AHeap} {X : Nat} {e : BE} {qv ov : Value} {last : Nat} (E : BAt h X e qv ov) (hl : last < 256) : Valid Try.prog 18 [.pointer (some ⟨X, 0, none⟩), .int .u8 (last : Int)] h fun r h' => (∃ lv, r = .tuple #[lv, .int .i64 (e.ret last).2] ∧ ListV h' lv (e.ret last).1) ∧ Kp h h' := by
  refine v18 (by simp) ?_
  have hX := E.obj
  obtain ⟨oa, oc, hov⟩ := E.o.shape
  obtain ⟨qa, qc, hqv⟩ := E.q.shape
  subst hov hqv
  simp only [BE.cells] at hX
  unfold BE.ret
  by_cases hrd : e.rd = true
  rotate_left
  · rw [if_neg hrd]
    have hrd' : e.rd = false := by simpa using hrd
    simp only [X18, sx, x_box, x_alloc, x_bslice, x_slice, x_append, x_appz, x_b2s, x_s2b, x_mark, xop, ev, evs, evParts, fillL, cellsL, Ai.get, Ai.put, stab, isNil?, if_false, if_true, addr?, int?, str?, agg?, bool?, shiftA, FnPost, xresL, xres1, tup, argEnv, ptr, Nat.reduceEqDiff, reduceIte, beq_self_eq_true, ne_eq, Nat.reduceAdd, Nat.reduceMul, Nat.reduceSub, abin_shl, abin_shr, load1V, loadV, storeV, cellsAt, getN, setN, allocV, lenL, lenS, bnd, oneC, Value.oneCell', Nat.reduceLeDiff, Nat.reduceLT, exists_eq_left', forall_const, reduceCtorEq, app_new, app_new0, List.append_assoc, Int.reduceToNat, Int.reduceLT, Int.reduceLE, Int.reduceEq, Int.reduceNe, Int.reduceBEq, IntKind.bits, bne_self_eq_false, Int.reducePow, hX, hrd']
    exact ⟨⟨_, rfl, listV_nil _⟩, Kp.refl _⟩
  rw [if_pos hrd]
  simp only [X18, sx, x_box, x_alloc, x_bslice, x_slice, x_append, x_appz, x_b2s, x_s2b, x_mark, xop, ev, evs, evParts, fillL, cellsL, Ai.get, Ai.put, stab, isNil?, if_false, if_true, addr?, int?, str?, agg?, bool?, shiftA, FnPost, xresL, xres1, tup, argEnv, ptr, Nat.reduceEqDiff, reduceIte, beq_self_eq_true, ne_eq, Nat.reduceAdd, Nat.reduceMul, Nat.reduceSub, abin_shl, abin_shr, load1V, loadV, storeV, cellsAt, getN, setN, allocV, lenL, lenS, bnd, oneC, Value.oneCell', Nat.reduceLeDiff, Nat.reduceLT, exists_eq_left', forall_const, reduceCtorEq, app_new, app_new0, List.append_assoc, Int.reduceToNat, Int.reduceLT, Int.reduceLE, Int.reduceEq, Int.reduceNe, Int.reduceBEq, IntKind.bits, bne_self_eq_false, Int.reducePow, hX, hrd]
  refine xcall (ahead_ok (f := e.ack) (t := last) (by have := E.b2; omega) hl) (by rfl) (by rfl) (by rfl) (by rfl) ?_
  rintro r h' ⟨rfl, rfl⟩
  by_cases hb : 127 < last
  · have hb' : (127 : Int) < last := by omega
    rw [if_pos (.inl hb)]
    simp only [sx, x_box, x_alloc, x_bslice, x_slice, x_append, x_appz, x_b2s, x_s2b, x_mark, xop, ev, evs, evParts, fillL, cellsL, Ai.get, Ai.put, stab, isNil?, if_false, if_true, addr?, int?, str?, agg?, bool?, shiftA, FnPost, xresL, xres1, tup, argEnv, ptr, Nat.reduceEqDiff, reduceIte, beq_self_eq_true, ne_eq, Nat.reduceAdd, Nat.reduceMul, Nat.reduceSub, abin_shl, abin_shr, load1V, loadV, storeV, cellsAt, getN, setN, allocV, lenL, lenS, bnd, oneC, Value.oneCell', Nat.reduceLeDiff, Nat.reduceLT, exists_eq_left', forall_const, reduceCtorEq, app_new, app_new0, List.append_assoc, Int.reduceToNat, Int.reduceLT, Int.reduceLE, Int.reduceEq, Int.reduceNe, Int.reduceBEq, IntKind.bits, bne_self_eq_false, Int.reducePow, hX, hb']
    exact ⟨⟨_, rfl, listV_nil _⟩, Kp.refl _⟩
  have hb' : ¬ (127 : Int) < last := by omega
  by_cases hn : e.o.length < ahd e.ack last
  · have hn' : (e.o.length : Int) < ((ahd e.ack last : Nat) : Int) := by omega
    rw [if_pos (.inr hn)]
    simp only [sx, x_box, x_alloc, x_bslice, x_slice, x_append, x_appz, x_b2s, x_s2b, x_mark, xop, ev, evs, evParts, fillL, cellsL, Ai.get, Ai.put, stab, isNil?, if_false, if_true, addr?, int?, str?, agg?, bool?, shiftA, FnPost, xresL, xres1, tup, argEnv, ptr, Nat.reduceEqDiff, reduceIte, beq_self_eq_true, ne_eq, Nat.reduceAdd, Nat.reduceMul, Nat.reduceSub, abin_shl, abin_shr, load1V, loadV, storeV, cellsAt, getN, setN, allocV, lenL, lenS, bnd, oneC, Value.oneCell', Nat.reduceLeDiff, Nat.reduceLT, exists_eq_left', forall_const, reduceCtorEq, app_new, app_new0, List.append_assoc, Int.reduceToNat, Int.reduceLT, Int.reduceLE, Int.reduceEq, Int.reduceNe, Int.reduceBEq, IntKind.bits, bne_self_eq_false, Int.reducePow, hX, hb', hn']
    exact ⟨⟨_, rfl, listV_nil _⟩, Kp.refl _⟩
  have hn' : ¬ (e.o.length : Int) < ((ahd e.ack last : Nat) : Int) := by omega
  rw [if_neg (by rintro (h | h); exact hb h; exact hn h)]
  have hdl : (e.o.drop (ahd e.ack last)).length = e.o.length - ahd e.ack last := by simp
  have h4 := E.b4
  have h5 := E.b5
  generalize ahd e.ack last = n at *
  obtain ⟨sl', hsl, Q', hsb⟩ := E.o.behind (show n ≤ e.o.length by omega)
  obtain ⟨c1, a1, k1, hs1, f1, l1⟩ := Q'.first
  subst hs1
  obtain ⟨c2, a2, k2, hs2, f2, l2⟩ := E.q.first
  cases hs2
  simp only [sx, x_box, x_alloc, x_bslice, x_append, x_appz, x_b2s, x_s2b, x_mark, xop, ev, evs, evParts, fillL, cellsL, Ai.get, Ai.put, stab, isNil?, if_false, if_true, addr?, int?, str?, agg?, bool?, shiftA, FnPost, xresL, xres1, tup, argEnv, ptr, Nat.reduceEqDiff, reduceIte, beq_self_eq_true, ne_eq, Nat.reduceAdd, Nat.reduceMul, Nat.reduceSub, abin_shl, abin_shr, load1V, loadV, storeV, cellsAt, getN, setN, allocV, lenL, lenS, bnd, oneC, Value.oneCell', Nat.reduceLeDiff, Nat.reduceLT, exists_eq_left', forall_const, reduceCtorEq, app_new, app_new0, List.append_assoc, Int.reduceToNat, Int.reduceLT, Int.reduceLE, Int.reduceEq, Int.reduceNe, Int.reduceBEq, IntKind.bits, bne_self_eq_false, Int.reducePow, hX, hb', hn']
  rw [x_slice, hsl _ _ _ rfl rfl]
  have hp : PartsOk h' [Value.slice a1 (e.o.drop n).length k1, .slice qa e.q.length qc] [c1, c2] := by
    have g1 := firstV_len f1
    have g2 := firstV_len f2
    rw [Nat.mul_one] at g1 g2
    exact ⟨⟨a1, k1, by rw [g1], by rw [g1]; exact f1, l1.one⟩, ⟨qa, qc, by rw [g2], by rw [g2]; exact f2, l2.one⟩, trivial⟩
  have K1 : Kp h' (h' ++ [some ⟨true, [Value.slice a1 (e.o.drop n).length k1, .slice qa e.q.length qc]⟩]) := Kp.app _ _
  have hC : (h' ++ [some ⟨true, [Value.slice a1 (e.o.drop n).length k1, .slice qa e.q.length qc]⟩])[h'.length]? = some (some ⟨true, [Value.slice a1 (e.o.drop n).length k1, .slice qa e.q.length qc]⟩) := by rw [app_new0]; rfl
  simp only [sx, x_box, x_alloc, x_bslice, x_slice, x_append, x_appz, x_b2s, x_s2b, x_mark, xop, ev, evs, evParts, fillL, cellsL, Ai.get, Ai.put, stab, isNil?, if_false, if_true, addr?, int?, str?, agg?, bool?, shiftA, FnPost, xresL, xres1, tup, argEnv, ptr, Nat.reduceEqDiff, reduceIte, beq_self_eq_true, ne_eq, Nat.reduceAdd, Nat.reduceMul, Nat.reduceSub, abin_shl, abin_shr, load1V, loadV, storeV, cellsAt, getN, setN, allocV, lenL, lenS, bnd, oneC, Value.oneCell', Nat.reduceLeDiff, Nat.reduceLT, exists_eq_left', forall_const, reduceCtorEq, List.append_assoc, Int.reduceToNat, Int.reduceLT, Int.reduceLE, Int.reduceEq, Int.reduceNe, Int.reduceBEq, IntKind.bits, bne_self_eq_false, Int.reducePow, hX]
  have g1 := l1.len
  have g2 := l2.len
  have hlen : c1.length + c2.length ≤ 300 := by omega
  have l12 := (l1.kp K1).app (l2.kp K1)
  replace hp := hp.kp K1
  generalize h' ++ [some ⟨true, [Value.slice a1 (e.o.drop n).length k1, .slice qa e.q.length qc]⟩] = g at *
  refine xcall (concat_one (by_ := 24) (z := [.slice none 0 0]) rfl v39 v47 hC hp (by simp) (by simp; omega) (by simp; omega)) (by rfl) (by rfl) (by rfl) (by rfl) ?_
  rintro r g3 ⟨R3, K3, A3⟩
  have K13 := K1.trans K3
  have l3 := l12.kp K3
  have hR3 := R3.toO.first
  obtain ⟨ra, rc, hr, hra⟩ := R3.toO.shape
  subst hr
  have hflat : [c1, c2].flatten = c1 ++ c2 := by simp
  rw [hflat] at hR3 ⊢
  clear R3 A3 K3 hp l12 hC
  have hll : (e.o.drop n ++ e.q).length = (c1 ++ c2).length := by rw [List.length_append, List.length_append]; omega
  have hcl : (c1 ++ c2).length ≤ 300 := by rw [List.length_append]; omega
  generalize e.o.drop n ++ e.q = ls at *
  generalize c1 ++ c2 = cells at *
  simp only [sx, x_box, x_alloc, x_bslice, x_slice, x_append, x_appz, x_b2s, x_s2b, x_mark, xop, ev, evs, evParts, fillL, cellsL, Ai.get, Ai.put, stab, isNil?, if_false, if_true, addr?, int?, str?, agg?, bool?, shiftA, FnPost, xresL, xres1, tup, argEnv, ptr, Nat.reduceEqDiff, reduceIte, beq_self_eq_true, ne_eq, Nat.reduceAdd, Nat.reduceMul, Nat.reduceSub, abin_shl, abin_shr, load1V, loadV, storeV, cellsAt, getN, setN, allocV, lenL, lenS, bnd, oneC, Value.oneCell', Nat.reduceLeDiff, Nat.reduceLT, exists_eq_left', forall_const, reduceCtorEq, app_new, app_new0, List.append_assoc, Int.reduceToNat, Int.reduceLT, Int.reduceLE, Int.reduceEq, Int.reduceNe, Int.reduceBEq, IntKind.bits, bne_self_eq_false, Int.reducePow]
  refine xloop_cut (fun ρ g4 => ∃ sl, get ρ 7 = some sl ∧ QAt g4 sl ls ∧ Kp h' g4 ∧ ((ls.length = 0 ∧ sl = .slice none 0 0) ∨ ∃ A, sl = .slice (some ⟨A, 0, none⟩) ls.length (unk + 1))) ?_ ?_
  · refine xcode_loop (fun m ρ g4 => ∃ i sl, i + m = ls.length ∧ get ρ 53 = some (.int .i64 (i : Nat)) ∧ get ρ 52 = some (.int .i64 (ls.length : Nat)) ∧ get ρ 51 = some (.slice ra cells.length rc) ∧ get ρ 7 = some sl ∧ QAt g4 sl (ls.take i) ∧ Kp h' g4 ∧ (∀ A, slB sl = some A → h'.length ≤ A ∧ g3.length ≤ A) ∧ Kp g3 g4 ∧ ((i = 0 ∧ sl = .slice none 0 0) ∨ ∃ A, sl = .slice (some ⟨A, 0, none⟩) i (unk + 1))) ls.length
      ⟨0, _, by simp, rfl, by simp [Ai.get, hll], rfl, rfl, by simp; exact QAt.nil _, K13, by simp [slB], Kp.refl _, .inl ⟨rfl, rfl⟩⟩ ?_
    rintro m ρ g4 ⟨i, sl, him, g53, g52, g51, g7, Q4, K4, A4, K34, hsh⟩
    by_cases hlt : i < ls.length
    · have hlt' : (i : Int) < ls.length := by omega
      have hlt2 : (i : Int) < cells.length := by omega
      have hge : (0 : Int) ≤ i := by omega
      have hwi : IntKind.i64.wrap ((i : Int) + 1) = ((i + 1 : Nat) : Int) := by rw [i64_wrap] <;> omega
      cases ra with
      | none => simp only [firstV] at hR3; rw [if_neg (by omega)] at hR3; cases hR3
      | some a =>
      obtain ⟨b1, oo, v, b2, b3, b4⟩ := firstV_elem1 (K34.first hR3) (show i < cells.length by omega)
      obtain ⟨v', z, e1, e2, L⟩ := l3.get hlt
      rw [b4] at e1; cases e1
      have hts : ls.take (i + 1) = ls.take i ++ [z] := by rw [List.take_add_one, e2]; rfl
      have Lx := L
      obtain ⟨-, -, -, z0, z300⟩ := Lx
      simp only [sx, x_box, x_alloc, x_bslice, x_slice, x_append, x_appz, x_b2s, x_s2b, x_mark, xop, ev, evs, evParts, fillL, cellsL, Ai.get, Ai.put, stab, isNil?, if_false, if_true, addr?, int?, str?, agg?, bool?, shiftA, FnPost, xresL, xres1, tup, argEnv, ptr, Nat.reduceEqDiff, reduceIte, beq_self_eq_true, ne_eq, Nat.reduceAdd, Nat.reduceMul, Nat.reduceSub, abin_shl, abin_shr, load1V, loadV, storeV, cellsAt, getN, setN, allocV, lenL, lenS, bnd, oneC, Value.oneCell', Nat.reduceLeDiff, Nat.reduceLT, exists_eq_left', forall_const, reduceCtorEq, app_new, app_new0, List.append_assoc, Int.reduceToNat, Int.reduceLT, Int.reduceLE, Int.reduceEq, Int.reduceNe, Int.reduceBEq, IntKind.bits, bne_self_eq_false, Int.reducePow, g53, g52, g51, g7, hlt', hlt2, hge, b1, b2, b3, Nat.mul_one]
      refine xcall (copied_ok (L.frz K34.frz).w z0 z300) (by rfl) (by rfl) (by rfl) (by rfl) ?_
      rintro r g5 ⟨L5, K5⟩
      have Q5 := Q4.kp K5
      have L5' := L5
      obtain ⟨B5, hB5, -⟩ := L5'
      subst hB5
      have hk4 := K4.1
      have hk34 := K34.1
      have hk5 := K5.1
      have hti : (ls.take i).length = i := by simp; omega
      simp only [sx, x_box, x_alloc, x_bslice, x_slice, x_appz, x_b2s, x_s2b, x_mark, xop, ev, evs, evParts, fillL, cellsL, Ai.get, Ai.put, stab, isNil?, if_false, if_true, addr?, int?, str?, agg?, bool?, shiftA, FnPost, xresL, xres1, tup, argEnv, ptr, Nat.reduceEqDiff, reduceIte, beq_self_eq_true, ne_eq, Nat.reduceAdd, Nat.reduceMul, Nat.reduceSub, abin_shl, abin_shr, load1V, loadV, storeV, cellsAt, getN, setN, allocV, lenL, lenS, bnd, oneC, Value.oneCell', Nat.reduceLeDiff, Nat.reduceLT, exists_eq_left', forall_const, reduceCtorEq, app_new, app_new0, List.append_assoc, Int.reduceToNat, Int.reduceLT, Int.reduceLE, Int.reduceEq, Int.reduceNe, Int.reduceBEq, IntKind.bits, bne_self_eq_false, Int.reducePow, g53, g52, g51, g7]
      refine Q5.push L5 (by rfl) (by rfl) (by omega) fun g6 A' hA' hl6 Q6 hfr6 z6 => ?_
      rw [hti] at Q6 ⊢
      rw [← hts] at Q6
      have keep : ∀ g0 : AHeap, Kp g0 g5 → (∀ A, slB sl = some A → g0.length ≤ A) → Kp g0 g6 := fun g0 k0 kA => ⟨by have := k0.1; omega, fun B hB => by
        have := k0.1
        rw [hfr6 B (by omega) (fun e1 => by have := kA B e1; omega)]
        exact k0.2 B hB⟩
      simp only [sx, x_box, x_alloc, x_bslice, x_slice, x_append, x_appz, x_b2s, x_s2b, x_mark, xop, ev, evs, evParts, fillL, cellsL, Ai.get, Ai.put, stab, isNil?, if_false, if_true, addr?, int?, str?, agg?, bool?, shiftA, FnPost, xresL, xres1, tup, argEnv, ptr, Nat.reduceEqDiff, reduceIte, beq_self_eq_true, ne_eq, Nat.reduceAdd, Nat.reduceMul, Nat.reduceSub, abin_shl, abin_shr, load1V, loadV, storeV, cellsAt, getN, setN, allocV, lenL, lenS, bnd, oneC, Value.oneCell', Nat.reduceLeDiff, Nat.reduceLT, exists_eq_left', forall_const, reduceCtorEq, app_new, app_new0, List.append_assoc, Int.reduceToNat, Int.reduceLT, Int.reduceLE, Int.reduceEq, Int.reduceNe, Int.reduceBEq, IntKind.bits, bne_self_eq_false, Int.reducePow, g53, g52, g51, g7, hwi]
      exact ⟨m - 1, by omega, i + 1, _, by omega, rfl, rfl, Q6, keep h' (K4.trans K5) fun A hA => (A4 A hA).1, fun A hA => by simp [slB] at hA; omega, keep g3 (K34.trans K5) fun A hA => (A4 A hA).2, .inr ⟨A', rfl⟩⟩
    · have hlt' : ¬ (i : Int) < ls.length := by omega
      have hin : i = ls.length := by omega
      have ht : ls.take i = ls := by rw [hin, List.take_length]
      rw [ht] at Q4
      rw [hin] at hsh
      simp only [sx, x_box, x_alloc, x_bslice, x_slice, x_append, x_appz, x_b2s, x_s2b, x_mark, xop, ev, evs, evParts, fillL, cellsL, Ai.get, Ai.put, stab, isNil?, if_false, if_true, addr?, int?, str?, agg?, bool?, shiftA, FnPost, xresL, xres1, tup, argEnv, ptr, Nat.reduceEqDiff, reduceIte, beq_self_eq_true, ne_eq, Nat.reduceAdd, Nat.reduceMul, Nat.reduceSub, abin_shl, abin_shr, load1V, loadV, storeV, cellsAt, getN, setN, allocV, lenL, lenS, bnd, oneC, Value.oneCell', Nat.reduceLeDiff, Nat.reduceLT, exists_eq_left', forall_const, reduceCtorEq, app_new, app_new0, List.append_assoc, Int.reduceToNat, Int.reduceLT, Int.reduceLE, Int.reduceEq, Int.reduceNe, Int.reduceBEq, IntKind.bits, bne_self_eq_false, Int.reducePow, g53, g52, g51, g7, hlt']
      exact ⟨Q4, K4, hsh⟩
  · rintro ρ g4 ⟨sl, g7, Q4, K4, hsh⟩
    obtain ⟨cells4, a4, k4, hs4, f4, l4⟩ := Q4.first
    have hcl : Valid Try.prog 40 [sl] g4 fun r h2 => ListV h2 r ls ∧ h2 = g4 := by
      rcases hsh with ⟨h0, rfl⟩ | ⟨A, rfl⟩
      · refine (clip_nil v40 g4).mono ?_
        rintro r h2 ⟨rfl, rfl⟩
        have : ls = [] := List.eq_nil_of_length_eq_zero h0
        subst this
        exact ⟨listV_nil _, rfl⟩
      · refine (clip_ok v40 g4 A ls.length (unk + 1) (by unfold unk; omega) (.inr rfl)).mono ?_
        rintro r h2 ⟨rfl, rfl⟩
        cases hs4
        exact ⟨⟨_, cells4, rfl, by simpa only [firstV] using f4, l4, by omega⟩, rfl⟩
    simp only [sx, x_box, x_alloc, x_bslice, x_slice, x_append, x_appz, x_b2s, x_s2b, x_mark, xop, ev, evs, evParts, fillL, cellsL, Ai.get, Ai.put, stab, isNil?, if_false, if_true, addr?, int?, str?, agg?, bool?, shiftA, FnPost, xresL, xres1, tup, argEnv, ptr, Nat.reduceEqDiff, reduceIte, beq_self_eq_true, ne_eq, Nat.reduceAdd, Nat.reduceMul, Nat.reduceSub, abin_shl, abin_shr, load1V, loadV, storeV, cellsAt, getN, setN, allocV, lenL, lenS, bnd, oneC, Value.oneCell', Nat.reduceLeDiff, Nat.reduceLT, exists_eq_left', forall_const, reduceCtorEq, app_new, app_new0, List.append_assoc, Int.reduceToNat, Int.reduceLT, Int.reduceLE, Int.reduceEq, Int.reduceNe, Int.reduceBEq, IntKind.bits, bne_self_eq_false, Int.reducePow, g7]
    refine xcall hcl (by rfl) (by rfl) (by rfl) (by rfl) ?_
    rintro r h2 ⟨V, rfl⟩
    simp only [sx, x_box, x_alloc, x_bslice, x_slice, x_append, x_appz, x_b2s, x_s2b, x_mark, xop, ev, evs, evParts, fillL, cellsL, Ai.get, Ai.put, stab, isNil?, if_false, if_true, addr?, int?, str?, agg?, bool?, shiftA, FnPost, xresL, xres1, tup, argEnv, ptr, Nat.reduceEqDiff, reduceIte, beq_self_eq_true, ne_eq, Nat.reduceAdd, Nat.reduceMul, Nat.reduceSub, abin_shl, abin_shr, load1V, loadV, storeV, cellsAt, getN, setN, allocV, lenL, lenS, bnd, oneC, Value.oneCell', Nat.reduceLeDiff, Nat.reduceLT, exists_eq_left', forall_const, reduceCtorEq, app_new, app_new0, List.append_assoc, Int.reduceToNat, Int.reduceLT, Int.reduceLE, Int.reduceEq, Int.reduceNe, Int.reduceBEq, IntKind.bits, bne_self_eq_false, Int.reducePow]
    exact ⟨⟨_, rfl, V⟩, K4⟩
theorem retrieve_nil {h : AHeap} {v : Value} : Valid Try.prog 18 [.pointer none, v] h fun r h' => r = .tuple #[.slice none 0 0, .int .i64 2] ∧ h' = h := by
  refine v18 (by simp) ?_
  simp only [X18, sx, x_box, x_alloc, x_bslice, x_slice, x_append, x_appz, x_b2s, x_s2b, x_mark, xop, ev, evs, evParts, fillL, cellsL, Ai.get, Ai.put, stab, isNil?, if_false, if_true, addr?, int?, str?, agg?, bool?, shiftA, FnPost, xresL, xres1, tup, argEnv, ptr, Nat.reduceEqDiff, reduceIte, beq_self_eq_true, ne_eq, Nat.reduceAdd, Nat.reduceMul, Nat.reduceSub, abin_shl, abin_shr, load1V, loadV, storeV, cellsAt, getN, setN, allocV, lenL, lenS, bnd, oneC, Value.oneCell', Nat.reduceLeDiff, Nat.reduceLT, exists_eq_left', forall_const, reduceCtorEq, app_new, app_new0, List.append_assoc, Int.reduceToNat, Int.reduceLT, Int.reduceLE, Int.reduceEq, Int.reduceNe, Int.reduceBEq, IntKind.bits, bne_self_eq_false, Int.reducePow]
theorem hear_nil {h : AHeap} {v : Value} : Valid Try.prog 16 [.pointer none, v] h fun r h' => r = .tuple #[.slice none 0 0, .int .i64 2] ∧ Kp h h' := by
  refine v16 (by simp) ?_
  simp only [X16, sx, x_alloc, x_bslice, x_slice, x_append, x_appz, x_b2s, x_s2b, x_mark, xop, ev, evs, evParts, fillL, cellsL, Ai.get, Ai.put, stab, isNil?, if_false, if_true, addr?, int?, str?, agg?, bool?, shiftA, FnPost, xresL, xres1, tup, argEnv, ptr, Nat.reduceEqDiff, reduceIte, beq_self_eq_true, ne_eq, Nat.reduceAdd, Nat.reduceMul, Nat.reduceSub, abin_shl, abin_shr, load1V, loadV, storeV, cellsAt, getN, setN, allocV, lenL, lenS, bnd, oneC, Value.oneCell', Nat.reduceLeDiff, Nat.reduceLT, exists_eq_left', forall_const, reduceCtorEq, app_new, app_new0, List.append_assoc, Int.reduceToNat, Int.reduceLT, Int.reduceLE, Int.reduceEq, Int.reduceNe, Int.reduceBEq, IntKind.bits, bne_self_eq_false, Int.reducePow]
  refine box_run rfl fun g R K0 hR hRl _ => ?_
  simp only [sx, x_box, x_alloc, x_bslice, x_slice, x_append, x_appz, x_b2s, x_s2b, x_mark, xop, ev, evs, evParts, fillL, cellsL, Ai.get, Ai.put, stab, isNil?, if_false, if_true, addr?, int?, str?, agg?, bool?, shiftA, FnPost, xresL, xres1, tup, argEnv, ptr, Nat.reduceEqDiff, reduceIte, beq_self_eq_true, ne_eq, Nat.reduceAdd, Nat.reduceMul, Nat.reduceSub, abin_shl, abin_shr, load1V, loadV, storeV, cellsAt, getN, setN, allocV, lenL, lenS, bnd, oneC, Value.oneCell', Nat.reduceLeDiff, Nat.reduceLT, exists_eq_left', forall_const, reduceCtorEq, app_new, app_new0, List.append_assoc, Int.reduceToNat, Int.reduceLT, Int.reduceLE, Int.reduceEq, Int.reduceNe, Int.reduceBEq, IntKind.bits, bne_self_eq_false, Int.reducePow]
  refine xcall state_nil (by rfl) (by rfl) (by rfl) (by rfl) ?_
  rintro r h' ⟨rfl, rfl⟩
  simp only [sx, x_box, x_alloc, x_bslice, x_slice, x_append, x_appz, x_b2s, x_s2b, x_mark, xop, ev, evs, evParts, fillL, cellsL, Ai.get, Ai.put, stab, isNil?, if_false, if_true, addr?, int?, str?, agg?, bool?, shiftA, FnPost, xresL, xres1, tup, argEnv, ptr, Nat.reduceEqDiff, reduceIte, beq_self_eq_true, ne_eq, Nat.reduceAdd, Nat.reduceMul, Nat.reduceSub, abin_shl, abin_shr, load1V, loadV, storeV, cellsAt, getN, setN, allocV, lenL, lenS, bnd, oneC, Value.oneCell', Nat.reduceLeDiff, Nat.reduceLT, exists_eq_left', forall_const, reduceCtorEq, app_new, app_new0, List.append_assoc, Int.reduceToNat, Int.reduceLT, Int.reduceLE, Int.reduceEq, Int.reduceNe, Int.reduceBEq, IntKind.bits, bne_self_eq_false, Int.reducePow]
  exact K0
end Go.Proofs.Ytcpcngamfncpdaa
