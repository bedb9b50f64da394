import Derived.Test.YtcpcngamfncpdaaY6
set_option linter.unusedVariables false
set_option linter.unusedSimpArgs false
namespace Go.Proofs.Ytcpcngamfncpdaa
open Go Go.Ai Go.Proofs

set_option maxHeartbeats 4000000 in
set_option maxRecDepth 20000 in
theorem errors_calls {φ : Phi} {w : World} {h : AHeap} {u : UP} {q q2 : Option Addr} {n c n2 cp : Nat} {zs : List Int} {args' : List Value} (hR : Ro φ h w) (hg : GR φ) (ha : LR φ [.slice q n c, .agg (u.cells (.slice q2 n2 cp)).toArray] args')
    (hz : zs.length = n) (hu : u.load.length = n2) (W1 : n ≤ 1000000 → LoadW h (.slice q n c) zs) (W2 : n2 ≤ 1000000 → LoadW h (.slice q2 n2 cp) u.load) (hb : 0 ≤ u.back ∧ 0 ≤ u.fore) (hzb : ∀ z ∈ zs, 0 ≤ z ∧ z ≤ 255)
    (hfz : ∀ a, q = some a → n ≠ 0 → ∀ B s m, φ a.block = some (B, s, m) → w.frozen? ⟨B, s + a.off, none⟩ = false) :
    Calls Try.prog 7 args'.toArray w fun e w' => ∃ φ' h' r r', e = .returned r' ∧ Stp φ h w φ' h' w' ∧ VR φ' r r' ∧ r = .bool true := by
  refine calls_AW (rs := [.tmp 4]) Try.func7 body7 res7 hR.1 hg ha (by simp) (AW.head 18 cB XHd _ _ okB trH (errors_pre hz hu W1 W2 hb fun hn hn2 ρ h' H => ?_))
  have L2 := W2 (by omega)
  have L1 := W1 (by omega)
  rw [shT]
  refine AW.seq (AW.seq (AW.of_x trR ?_))
  obtain ⟨r0, K, ⟨r24, X, V, e, qv, ov, r23, r3, E⟩ | ⟨r24, hbd, X, V, A, B, r23, r3, O, hV, hVX, hVA, nX, nV, nA, nB⟩⟩ := H
  · simp only [XQ2, sx, x_box, x_alloc, x_bslice, x_slice, x_append, x_appz, x_b2s, x_s2b, x_mark, xop, ev, evs, evParts, fillL, cellsL, Ai.get, Ai.put, stab, isNil?, if_false, if_true, addr?, int?, str?, agg?, bool?, shiftA, FnPost, xresL, xres1, tup, argEnv, ptr, Nat.reduceEqDiff, reduceIte, beq_self_eq_true, ne_eq, Nat.reduceAdd, Nat.reduceMul, Nat.reduceSub, abin_shl, abin_shr, load1V, loadV, storeV, cellsAt, getN, setN, allocV, lenL, lenS, bnd, oneC, Value.oneCell', Nat.reduceLeDiff, Nat.reduceLT, exists_eq_left', forall_const, reduceCtorEq, app_new, app_new0, List.append_assoc, Int.reduceToNat, Int.reduceLT, Int.reduceLE, Int.reduceEq, Int.reduceNe, Int.reduceBEq, IntKind.bits, bne_self_eq_false, Int.reducePow, r24, kC_normal]
    refine AW.cond trO (v := false) rfl (fun h => by cases h) fun _ => AW.of_x (x := .skip) rfl ?_
    simp only [sx, x_box, x_alloc, x_bslice, x_slice, x_append, x_appz, x_b2s, x_s2b, x_mark, xop, ev, evs, evParts, fillL, cellsL, Ai.get, Ai.put, stab, isNil?, if_false, if_true, addr?, int?, str?, agg?, bool?, shiftA, FnPost, xresL, xres1, tup, argEnv, ptr, Nat.reduceEqDiff, reduceIte, beq_self_eq_true, ne_eq, Nat.reduceAdd, Nat.reduceMul, Nat.reduceSub, abin_shl, abin_shr, load1V, loadV, storeV, cellsAt, getN, setN, allocV, lenL, lenS, bnd, oneC, Value.oneCell', Nat.reduceLeDiff, Nat.reduceLT, exists_eq_left', forall_const, reduceCtorEq, app_new, app_new0, List.append_assoc, Int.reduceToNat, Int.reduceLT, Int.reduceLE, Int.reduceEq, Int.reduceNe, Int.reduceBEq, IntKind.bits, bne_self_eq_false, Int.reducePow, kC_normal]
    exact AW.of_x trE (errors_end ⟨X, V, e, qv, ov, r23, r3, E⟩ hb)
  simp only [XQ2, sx, x_box, x_alloc, x_bslice, x_slice, x_append, x_appz, x_b2s, x_s2b, x_mark, xop, ev, evs, evParts, fillL, cellsL, Ai.get, Ai.put, stab, isNil?, if_false, if_true, addr?, int?, str?, agg?, bool?, shiftA, FnPost, xresL, xres1, tup, argEnv, ptr, Nat.reduceEqDiff, reduceIte, beq_self_eq_true, ne_eq, Nat.reduceAdd, Nat.reduceMul, Nat.reduceSub, abin_shl, abin_shr, load1V, loadV, storeV, cellsAt, getN, setN, allocV, lenL, lenS, bnd, oneC, Value.oneCell', Nat.reduceLeDiff, Nat.reduceLT, exists_eq_left', forall_const, reduceCtorEq, app_new, app_new0, List.append_assoc, Int.reduceToNat, Int.reduceLT, Int.reduceLE, Int.reduceEq, Int.reduceNe, Int.reduceBEq, IntKind.bits, bne_self_eq_false, Int.reducePow, r24, kC_normal]
  refine AW.cond trO (v := true) rfl (fun _ => ?_) fun h => by cases h
  rw [shA]
  refine AW.seq (AW.of_x tr23 ?_)
  have hne : zs ≠ [] := fun e => by subst e; simp at hbd
  obtain ⟨q', c', e1, -, h1 | ⟨a, cs, rfl, hsp, hA, hgN⟩⟩ := L1
  · exact absurd h1 hne
  have hn' : n = zs.length := hz.symm
  subst hn'
  cases e1
  have hL1' : LoadW h' (.slice (some a) zs.length c) zs := ⟨_, _, rfl, by omega, .inr ⟨a, cs, rfl, hsp, K.get hA, hgN⟩⟩
  obtain ⟨q3, c3, e3, hf3, -⟩ := hL1'.first
  cases e3
  simp only [XA3, sx, x_box, x_alloc, x_bslice, x_slice, x_appz, x_b2s, x_s2b, x_mark, xop, ev, evs, evParts, fillL, cellsL, Ai.get, Ai.put, stab, isNil?, if_false, if_true, addr?, int?, str?, agg?, bool?, shiftA, FnPost, xresL, xres1, tup, argEnv, ptr, Nat.reduceEqDiff, reduceIte, beq_self_eq_true, ne_eq, Nat.reduceAdd, Nat.reduceMul, Nat.reduceSub, abin_shl, abin_shr, load1V, loadV, storeV, cellsAt, getN, setN, allocV, lenL, lenS, bnd, oneC, Value.oneCell', Nat.reduceLeDiff, Nat.reduceLT, exists_eq_left', forall_const, reduceCtorEq, app_new, app_new0, List.append_assoc, Int.reduceToNat, Int.reduceLT, Int.reduceLE, Int.reduceEq, Int.reduceNe, Int.reduceBEq, IntKind.bits, bne_self_eq_false, Int.reducePow, r0, kC_normal]
  refine append_run (k := 1) (by_ := 1) (n := 0) (m := zs.length) (rows := []) (news := bR zs) (sl := .slice none 0 0) (xv := .slice (some a) zs.length c) rfl (by decide) rfl rfl rfl hf3 (by rw [bR_len, Nat.mul_one]) (bR_one _) ⟨rfl, .inl ⟨rfl, rfl⟩⟩ (by omega) (by omega) (fun h0 => by omega) fun _ h2 D hD hD2 hl2 hfr => ?_
  rw [List.nil_append, Nat.zero_add] at *
  have K2 : Kp h' h2 := ⟨by omega, fun C hC => hfr C hC (by simp [slB])⟩
  have Kt := K.trans K2
  have hXl := lt_of_get O.1
  have hAl := lt_of_get O.2.1
  have hVl := lt_of_get hV
  have hKl := K.1
  simp only [sx, x_box, x_alloc, x_bslice, x_slice, x_append, x_appz, x_b2s, x_s2b, x_mark, xop, ev, evs, evParts, fillL, cellsL, Ai.get, Ai.put, stab, isNil?, if_false, if_true, addr?, int?, str?, agg?, bool?, shiftA, FnPost, xresL, xres1, tup, argEnv, ptr, Nat.reduceEqDiff, reduceIte, beq_self_eq_true, ne_eq, Nat.reduceAdd, Nat.reduceMul, Nat.reduceSub, abin_shl, abin_shr, load1V, loadV, storeV, cellsAt, getN, setN, allocV, lenL, lenS, bnd, oneC, Value.oneCell', Nat.reduceLeDiff, Nat.reduceLT, exists_eq_left', forall_const, reduceCtorEq, app_new, app_new0, List.append_assoc, Int.reduceToNat, Int.reduceLT, Int.reduceLE, Int.reduceEq, Int.reduceNe, Int.reduceBEq, IntKind.bits, bne_self_eq_false, Int.reducePow, kC_normal]
  obtain ⟨z0, hz0⟩ : ∃ z, zs[0]? = some z := ⟨_, List.getElem?_eq_getElem (by omega)⟩
  have hc0 : cs[a.off]? = some (.int .u8 z0) := by
    have := getN_get (i := 0) (v := .int .u8 z0) hgN (by simp [bR, hz0])
    simpa using this
  have hb0 := hzb z0 (List.mem_of_getElem? hz0)
  have ha2 := Kt.get hA
  have hl0 : (0 : Int) < (zs.length : Nat) := by omega

  have hco : a.off < cs.length := (List.getElem?_eq_some_iff.1 hc0).1
  have hAh := lt_of_get hA
  refine AW.lend hR (A0 := a.block) (k := a.off) (cells := cs) (ki := .u8) (n0 := z0) (n1 := IntKind.u8.wrap (z0 + 1)) hA hc0 (hfz a rfl (by omega))
    (M1 := fun ρ' => get ρ' 0 = some (.slice (some a) zs.length c) ∧ get ρ' 23 = some (.pointer (some ⟨X, 0, none⟩)) ∧ get ρ' 3 = some (.pointer (some ⟨V, 0, none⟩)) ∧ get ρ' 27 = some (.slice (some ⟨D, 0, none⟩) zs.length (unk + 1)))
    (M2 := ErN h.length u (.slice q2 n2 cp) (.slice (some a) zs.length c) zs D)
    l24 m24 s24 a24 b24 z24 g24 d24 l26 m26 s26 a26 b26 z26 g26 d26 tr25 ?_ ?_ ?_
  · simp only [x24, sx, x_box, x_alloc, x_bslice, x_slice, x_append, x_appz, x_b2s, x_s2b, x_mark, xop, ev, evs, evParts, fillL, cellsL, Ai.get, Ai.put, stab, isNil?, if_false, if_true, addr?, int?, str?, agg?, bool?, shiftA, FnPost, xresL, xres1, tup, argEnv, ptr, Nat.reduceEqDiff, reduceIte, beq_self_eq_true, ne_eq, Nat.reduceAdd, Nat.reduceMul, Nat.reduceSub, abin_shl, abin_shr, load1V, loadV, storeV, cellsAt, getN, setN, allocV, lenL, lenS, bnd, oneC, Value.oneCell', Nat.reduceLeDiff, Nat.reduceLT, exists_eq_left', forall_const, reduceCtorEq, app_new, app_new0, List.append_assoc, Int.reduceToNat, Int.reduceLT, Int.reduceLE, Int.reduceEq, Int.reduceNe, Int.reduceBEq, IntKind.bits, bne_self_eq_false, Int.reducePow, r0, hsp, hl0, ha2, hc0, Int.le_refl, Int.toNat_zero, Nat.mul_one]
    exact ⟨r23, r3⟩
  · rintro ρ' ⟨s0, s23, s3, s27⟩
    refine errors_mid hbd s0 s23 s3 s27 (A := A) (B := B) ⟨?_, ?_, ?_⟩ ?_ ?_ hVX hVA (by omega) (by omega) nX nV nA (by omega) (fun C hC => ?_) ?_
    · rw [lose_get nX]; exact K2.get O.1
    · rw [lose_get nA]; exact K2.get O.2.1
    · rw [lose_get nB]; exact K2.get O.2.2
    · rw [lose_get nV]; exact K2.get hV
    · rw [lose_get (by omega)]; exact hD2
    · unfold lose
      rw [List.getElem?_append_left (by simpa using hC), List.getElem?_replicate, if_pos hC]
    · rw [lose_len (by omega)]; omega
  · rintro ρ' g hgl ⟨s0, s27, s29, gD, nD, ⟨X', V', T, e, qv, ov, s23, s3, s28, F, E, gV, nV', nVl, nF, nT, un, lw, gT, LV⟩, gC⟩
    have hcs : (cs.set a.off (.int .u8 (IntKind.u8.wrap (z0 + 1))))[a.off]? = some (.int .u8 (IntKind.u8.wrap (z0 + 1))) := by
      rw [List.getElem?_set_self hco]
    have hgA : (g.set a.block (some ⟨false, cs.set a.off (.int .u8 (IntKind.u8.wrap (z0 + 1)))⟩))[a.block]? = some (some ⟨false, cs.set a.off (.int .u8 (IntKind.u8.wrap (z0 + 1)))⟩) := List.getElem?_set_self (by omega)
    have hw : IntKind.u8.wrap (IntKind.u8.wrap (z0 + 1) - 1) = z0 := by
      rw [u8_wrap_mod, u8_wrap_mod]; omega
    generalize hgg : g.set a.block (some ⟨false, cs.set a.off (.int .u8 (IntKind.u8.wrap (z0 + 1)))⟩) = g' at *
    simp only [x26, sx, x_box, x_alloc, x_bslice, x_slice, x_append, x_appz, x_b2s, x_s2b, x_mark, xop, ev, evs, evParts, fillL, cellsL, Ai.get, Ai.put, stab, isNil?, if_false, if_true, addr?, int?, str?, agg?, bool?, shiftA, FnPost, xresL, xres1, tup, argEnv, ptr, Nat.reduceEqDiff, reduceIte, beq_self_eq_true, ne_eq, Nat.reduceAdd, Nat.reduceMul, Nat.reduceSub, abin_shl, abin_shr, load1V, loadV, storeV, cellsAt, getN, setN, allocV, lenL, lenS, bnd, oneC, Value.oneCell', Nat.reduceLeDiff, Nat.reduceLT, exists_eq_left', forall_const, reduceCtorEq, app_new, app_new0, List.append_assoc, Int.reduceToNat, Int.reduceLT, Int.reduceLE, Int.reduceEq, Int.reduceNe, Int.reduceBEq, IntKind.bits, bne_self_eq_false, Int.reducePow, s0, hsp, hl0, hgA, hcs, hw, Int.le_refl, Int.toNat_zero, Nat.mul_one]
    have z : Frz g (regain h g) := fun C cs hC => by
      rcases Nat.lt_or_ge C h.length with hlt | hge
      · rw [gC C hlt] at hC; cases hC
      · rw [regain_ge hge]; exact hC
    have zh : Frz h (regain h g) := fun C cs hC => by
      rw [regain_lt (lt_of_get hC)]; exact hC
    have E' := E.keep z fun C hC => regain_ge (nF C hC)
    have gV' : (regain h g)[V']? = some (some ⟨true, u.cells (.slice q2 n2 cp)⟩) := by rw [regain_ge nVl]; exact gV
    have gT' : (regain h g)[T]? = some (some ⟨true, un.cells lw⟩) := by rw [regain_ge nT]; exact gT
    have gD' : (regain h g)[D]? = some (some ⟨true, bR zs⟩) := by rw [regain_ge nD]; exact gD
    have LV' := LV.frz z
    have L2' := L2.frz zh
    generalize regain h g = g2 at *
    obtain ⟨qw, rfl, hfw, -⟩ := LV'.first
    have hfD : firstV 1 g2 zs.length (.slice (some ⟨D, 0, none⟩) zs.length (unk + 1)) = some (bR zs) := by
      simp only [firstV, cellsAt, gD']
      rw [if_neg (by omega)]
      simp only [ne_eq, not_true_eq_false, if_false, Option.bind_some, Nat.mul_one]
      exact getN_all _ _ (by rw [bR_len])
    simp only [UP.cells] at gT'
    refine AW.of_x trTl ?_
    simp only [XTl, sx, x_box, x_alloc, x_bslice, x_slice, x_append, x_appz, x_b2s, x_s2b, x_mark, xop, ev, evs, evParts, fillL, cellsL, Ai.get, Ai.put, stab, isNil?, if_false, if_true, addr?, int?, str?, agg?, bool?, shiftA, FnPost, xresL, xres1, tup, argEnv, ptr, Nat.reduceEqDiff, reduceIte, beq_self_eq_true, ne_eq, Nat.reduceAdd, Nat.reduceMul, Nat.reduceSub, abin_shl, abin_shr, load1V, loadV, storeV, cellsAt, getN, setN, allocV, lenL, lenS, bnd, oneC, Value.oneCell', Nat.reduceLeDiff, Nat.reduceLT, exists_eq_left', forall_const, reduceCtorEq, app_new, app_new0, List.append_assoc, Int.reduceToNat, Int.reduceLT, Int.reduceLE, Int.reduceEq, Int.reduceNe, Int.reduceBEq, IntKind.bits, bne_self_eq_false, Int.reducePow, s29, s28, s27, gT']
    refine xcall (bytes_ok hfw hfD (by omega) rfl) (by rfl) (by rfl) (by rfl) (by rfl) ?_
    rintro r g3 ⟨rfl, e0⟩
    subst e0
    rw [if_pos rfl]
    simp only [sx, x_box, x_alloc, x_bslice, x_slice, x_append, x_appz, x_b2s, x_s2b, x_mark, xop, ev, evs, evParts, fillL, cellsL, Ai.get, Ai.put, stab, isNil?, if_false, if_true, addr?, int?, str?, agg?, bool?, shiftA, FnPost, xresL, xres1, tup, argEnv, ptr, Nat.reduceEqDiff, reduceIte, beq_self_eq_true, ne_eq, Nat.reduceAdd, Nat.reduceMul, Nat.reduceSub, abin_shl, abin_shr, load1V, loadV, storeV, cellsAt, getN, setN, allocV, lenL, lenS, bnd, oneC, Value.oneCell', Nat.reduceLeDiff, Nat.reduceLT, exists_eq_left', forall_const, reduceCtorEq, app_new, app_new0, List.append_assoc, Int.reduceToNat, Int.reduceLT, Int.reduceLE, Int.reduceEq, Int.reduceNe, Int.reduceBEq, IntKind.bits, bne_self_eq_false, Int.reducePow, kC_normal]
    exact AW.of_x trE (errors_end (n := h.length) ⟨X', V', e, qv, ov, s23, s3, F, E', gV', nV', nVl, nF, L2'⟩ hb)
end Go.Proofs.Ytcpcngamfncpdaa
