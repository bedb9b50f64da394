import Derived.Test.YtimfgagdfmmeeaaDoorT9
set_option linter.unusedVariables false
set_option linter.unusedSimpArgs false
namespace Go.Proofs.YtimfgagdfmmeeaaDoor
open Go Go.Ai Go.Proofs

theorem stf_ge : ∀ (l : List Int) (k : Nat), l.length ≤ (stf l k).length
  | [], k => Nat.zero_le _
  | b :: l, k => by
    rw [stf]
    split
    · have := stf_ge l 0; simp only [List.length_cons]; omega
    · split
      · have := stf_ge l 0; simp only [List.length_cons]; omega
      · have := stf_ge l (k + 1); simp only [List.length_cons]; omega
theorem stf_zeros : ∀ n k : Nat, (stf (List.replicate n 0) k).length = n
  | 0, k => rfl
  | n + 1, k => by rw [List.replicate_succ, stf_zero, List.length_cons, stf_zeros n 0]
theorem octL_one (b : Int) (n : Nat) : octL [b] n = List.replicate n b := by
  apply List.ext_getElem
  · rw [octL_len, List.length_replicate]
  · intro i h1 h2
    rw [octL_len] at h1
    have := octL_get (b := [b]) h1
    rw [List.getElem?_eq_getElem (by rw [octL_len]; exact h1)] at this
    rw [Option.some.inj this, List.getElem_replicate]
    have : i % [b].length = 0 := by rw [show [b].length = 1 from rfl]; omega
    rw [this]; rfl
theorem stf_255 (n : Nat) (hn : 0 < n) : 8 * n < (stf (ofL (octL [255] n)) 0).length := by
  obtain ⟨m, rfl⟩ : ∃ m, n = m + 1 := ⟨n - 1, by omega⟩
  rw [octL_one, List.replicate_succ]
  have e : ofL ((255 : Int) :: List.replicate m 255) = 1 :: 1 :: 1 :: 1 :: 1 :: 1 :: 1 :: 1 :: ofL (List.replicate m 255) := by
    have : digs 255 8 = [1, 1, 1, 1, 1, 1, 1, 1] := by decide
    simp [ofL, this]
  rw [e, stf_one _ (by decide), stf_one _ (by decide), stf_one _ (by decide), stf_one _ (by decide), stf_five _ (by decide)]
  have := stf_ge (1 :: 1 :: 1 :: ofL (List.replicate m 255)) 0
  simp only [List.length_cons, ofL_len, List.length_replicate] at this ⊢
  omega
/-- a content that is too long, then one that is not -/
theorem feed_long {a b : List Int} (ha : 280 < a.length) (hw : ¬ Wide b) (hb : ∀ z ∈ b, 0 ≤ z ∧ z ≤ 255) : Sc.new.feed (fl ++ stf (ofL a) 0 ++ fl ++ stf (ofL b) 0 ++ fl) = bare 1 [b] := by
  have h0 : Sc.new.feed fl = bare 0 [] := by
    rw [feed_fl0 (by simp [Sc.new]) (by simp [Sc.new]) (by simp [Sc.new])]
    unfold Sc.fin; rw [if_pos (.inl rfl)]; rfl
  have hl := ofL_len a
  obtain ⟨k, h1, h2⟩ := feed_stf (zs := ofL a) (s := bare 0 []) (ofL_bit a) rfl (by simp [bare]) (by simp [bare])
  have h3 : ((bare 0 []).feed (stf (ofL a) 0)).feed fl = bare 1 [] := by
    have h2' : (bare 0 []).feed (stf (ofL a) 0) = ⟨false, 0, k, 8 * a.length, (ofL a).take 2247, []⟩ := by
      refine h2.trans ?_
      simp only [bare, List.nil_append, hl, Nat.zero_add]
    rw [h2', feed_fl0 (by simp only [List.length_take]; omega) (by simp only; omega) (by simp only; omega)]
    unfold Sc.fin bare
    rw [if_neg (by simp; omega), if_pos (by simp only; omega)]
  have e : fl ++ stf (ofL a) 0 ++ fl ++ stf (ofL b) 0 ++ fl = fl ++ (stf (ofL a) 0 ++ (fl ++ (stf (ofL b) 0 ++ fl))) := by simp only [List.append_assoc]
  rw [e, feed_app, h0, feed_app, feed_app, h3, feed_one hw hb]
  rfl
theorem one_LV {g : AHeap} {q : Option Addr} {c0 c A : Nat} {l : List Int} (h0 : firstV 1 g l.length (.slice q l.length c0) = some (bR l)) (hA : g[A]? = some (some ⟨true, [.slice q l.length c0]⟩)) :
    LV g (some ⟨A, 0, none⟩) c [l] := by
  refine ⟨[.slice q l.length c0], ?_, ⟨q, c0, rfl, h0⟩, trivial⟩
  simp only [firstV, cellsAt, hA]
  rfl
set_option maxHeartbeats 8000000 in
set_option maxRecDepth 20000 in
theorem long_law {h : AHeap} {b : Int} {mo : Nat} (hF : Fl h) (hb : 0 ≤ b ∧ b ≤ 255) (hm : mo ≤ 65535) :
    Valid Tryd.prog 8 [.int .u8 b, .int .u16 (mo : Nat)] h fun r h' => r = .bool true := by
  refine v8 (by simp) ?_
  simp only [X8, sx, x_box, x_alloc, x_bslice, x_slice, x_append, x_appz, x_b2s, x_s2b, x_mark, xop, ev, evs, evParts, fillL, cellsL, Ai.get, Ai.put, stab, isNil?, if_false, if_true, addr?, int?, str?, agg?, bool?, shiftA, FnPost, xresL, xres1, tup, argEnv, ptr, Nat.reduceEqDiff, reduceIte, beq_self_eq_true, ne_eq, Nat.reduceAdd, Nat.reduceMul, Nat.reduceSub, abin_shl, abin_shr, load1V, loadV, storeV, cellsAt, getN, setN, allocV, lenL, lenS, bnd, oneC, Value.oneCell', Nat.reduceLeDiff, Nat.reduceLT, exists_eq_left', forall_const, reduceCtorEq, app_new, app_new0, List.append_assoc, Int.reduceToNat, Int.reduceLT, Int.reduceLE, Int.reduceEq, Int.reduceNe, Int.reduceBEq, IntKind.bits, bne_self_eq_false, Int.reducePow]
  refine xcall (stream_ok (s := ⟨#[48, 49, 49, 49, 49, 49, 49, 48]⟩) (by decide)) (by rfl) (by rfl) (by rfl) (by rfl) ?_
  rintro r g0 ⟨rfl, e0⟩
  have hfl : streamOf ⟨#[48, 49, 49, 49, 49, 49, 49, 48]⟩ = fl := by decide
  rw [hfl] at e0
  have K0 : Kp h g0 := by rw [e0]; exact Kp.app _ _
  have h8 : firstV 1 g0 fl.length (.slice (some ⟨h.length, 0, none⟩) 8 8) = some (bR fl) := by
    rw [e0]
    simp only [firstV, cellsAt, app_new0]
    rfl
  clear e0
  have hbb : ∀ n, ∀ z ∈ octL [b] n, 0 ≤ z ∧ z ≤ 255 := fun n => octL_byte (b := [b]) (fun z hz => by rw [List.mem_singleton.1 hz]; exact hb) n
  have first1 : ∀ {g : AHeap} {R : Nat} {v : Int}, g[R]? = some (some ⟨true, [.int .u8 v]⟩) → firstV 1 g 1 (.slice (some ⟨R, 0, none⟩) 1 1) = some (bR [v]) := fun {g R v} hR => by
    simp only [firstV, cellsAt, hR]; rfl
  have firstO : ∀ {g g' : AHeap} {zs : List Int} {n : Nat}, g' = g ++ [some ⟨true, bR zs⟩] → zs.length = n → firstV 1 g' n (.slice (some ⟨g.length, 0, none⟩) n n) = some (bR zs) := fun {g g' zs n} he hn => by
    rw [he]
    simp only [firstV, cellsAt, app_new0]
    split
    · rename_i h0
      have : zs = [] := List.eq_nil_of_length_eq_zero (by omega)
      rw [this]; rfl
    · simp only [ne_eq, not_true_eq_false, if_false, Option.map_some, Option.bind_some]
      rw [Nat.mul_one]
      exact getN_all _ _ (by rw [bR_len, hn])
  simp only [sx, x_box, x_alloc, x_slice, x_append, x_appz, x_b2s, x_s2b, x_mark, xop, ev, evs, evParts, fillL, cellsL, Ai.get, Ai.put, stab, isNil?, if_false, if_true, addr?, int?, str?, agg?, bool?, shiftA, FnPost, xresL, xres1, tup, argEnv, ptr, Nat.reduceEqDiff, reduceIte, beq_self_eq_true, ne_eq, Nat.reduceAdd, Nat.reduceMul, Nat.reduceSub, abin_shl, abin_shr, load1V, loadV, storeV, cellsAt, getN, setN, allocV, lenL, lenS, bnd, oneC, Value.oneCell', Nat.reduceLeDiff, Nat.reduceLT, exists_eq_left', forall_const, reduceCtorEq, app_new, app_new0, List.append_assoc, Int.reduceToNat, Int.reduceLT, Int.reduceLE, Int.reduceEq, Int.reduceNe, Int.reduceBEq, IntKind.bits, bne_self_eq_false, Int.reducePow]
  refine bslice_run rfl rfl fun g1 R1 K1 hR1 hl1 _ => ⟨trivial, ?_⟩
  simp only [sx, x_box, x_alloc, x_slice, x_append, x_appz, x_b2s, x_s2b, x_mark, xop, ev, evs, evParts, fillL, cellsL, Ai.get, Ai.put, stab, isNil?, if_false, if_true, addr?, int?, str?, agg?, bool?, shiftA, FnPost, xresL, xres1, tup, argEnv, ptr, Nat.reduceEqDiff, reduceIte, beq_self_eq_true, ne_eq, Nat.reduceAdd, Nat.reduceMul, Nat.reduceSub, abin_shl, abin_shr, load1V, loadV, storeV, cellsAt, getN, setN, allocV, lenL, lenS, bnd, oneC, Value.oneCell', Nat.reduceLeDiff, Nat.reduceLT, exists_eq_left', forall_const, reduceCtorEq, app_new, app_new0, List.append_assoc, Int.reduceToNat, Int.reduceLT, Int.reduceLE, Int.reduceEq, Int.reduceNe, Int.reduceBEq, IntKind.bits, bne_self_eq_false, Int.reducePow]
  refine xcall (octets11_ok (n := 280) (first1 hR1) (by omega) (by omega)) (by rfl) (by rfl) (by rfl) (by rfl) ?_
  rintro r g2 ⟨rfl, e2⟩
  have f2 := firstO e2 (octL_len _ _)
  have K2 : Kp g1 g2 := by rw [e2]; exact Kp.app _ _
  clear e2
  simp only [sx, x_box, x_alloc, x_slice, x_append, x_appz, x_b2s, x_s2b, x_mark, xop, ev, evs, evParts, fillL, cellsL, Ai.get, Ai.put, stab, isNil?, if_false, if_true, addr?, int?, str?, agg?, bool?, shiftA, FnPost, xresL, xres1, tup, argEnv, ptr, Nat.reduceEqDiff, reduceIte, beq_self_eq_true, ne_eq, Nat.reduceAdd, Nat.reduceMul, Nat.reduceSub, abin_shl, abin_shr, load1V, loadV, storeV, cellsAt, getN, setN, allocV, lenL, lenS, bnd, oneC, Value.oneCell', Nat.reduceLeDiff, Nat.reduceLT, exists_eq_left', forall_const, reduceCtorEq, app_new, app_new0, List.append_assoc, Int.reduceToNat, Int.reduceLT, Int.reduceLE, Int.reduceEq, Int.reduceNe, Int.reduceBEq, IntKind.bits, bne_self_eq_false, Int.reducePow]
  refine xcall (rof_ok f2 (by omega) (hbb 280)) (by rfl) (by rfl) (by rfl) (by rfl) ?_
  rintro r g3 ⟨RO, K3, -⟩
  have K3 : Kp g2 g3 := K3
  obtain ⟨q3, c3, rfl, f3⟩ := RO.shp
  have hl3 := ofL_len (octL [b] 280)
  rw [octL_len] at hl3
  simp only [sx, x_box, x_alloc, x_slice, x_append, x_appz, x_b2s, x_s2b, x_mark, xop, ev, evs, evParts, fillL, cellsL, Ai.get, Ai.put, stab, isNil?, if_false, if_true, addr?, int?, str?, agg?, bool?, shiftA, FnPost, xresL, xres1, tup, argEnv, ptr, Nat.reduceEqDiff, reduceIte, beq_self_eq_true, ne_eq, Nat.reduceAdd, Nat.reduceMul, Nat.reduceSub, abin_shl, abin_shr, load1V, loadV, storeV, cellsAt, getN, setN, allocV, lenL, lenS, bnd, oneC, Value.oneCell', Nat.reduceLeDiff, Nat.reduceLT, exists_eq_left', forall_const, reduceCtorEq, app_new, app_new0, List.append_assoc, Int.reduceToNat, Int.reduceLT, Int.reduceLE, Int.reduceEq, Int.reduceNe, Int.reduceBEq, IntKind.bits, bne_self_eq_false, Int.reducePow]
  refine xcall (rstuff_ok f3 (by omega) (ofL_bit _)) (by rfl) (by rfl) (by rfl) (by rfl) ?_
  rintro r g4 ⟨RS, K4, -⟩
  have K4 : Kp g3 g4 := K4
  obtain ⟨q4, c4, rfl, f4⟩ := RS.shp
  have hrem : ((mo : Nat) : Int).tmod 2000 = ((mo % 2000 : Nat) : Int) := by rw [Int.tmod_eq_emod_of_nonneg (by omega)]; omega
  have wc : IntKind.i64.wrap ((mo % 2000 : Nat) : Int) = ((mo % 2000 : Nat) : Int) := by rw [i64_wrap] <;> omega
  have w5 : IntKind.i64.wrap ((281 : Int) + ((mo % 2000 : Nat) : Int)) = ((281 + mo % 2000 : Nat) : Int) := by rw [i64_wrap] <;> omega
  simp only [sx, x_box, x_alloc, x_slice, x_append, x_appz, x_b2s, x_s2b, x_mark, xop, ev, evs, evParts, fillL, cellsL, Ai.get, Ai.put, stab, isNil?, if_false, if_true, addr?, int?, str?, agg?, bool?, shiftA, FnPost, xresL, xres1, tup, argEnv, ptr, Nat.reduceEqDiff, reduceIte, beq_self_eq_true, ne_eq, Nat.reduceAdd, Nat.reduceMul, Nat.reduceSub, abin_shl, abin_shr, load1V, loadV, storeV, cellsAt, getN, setN, allocV, lenL, lenS, bnd, oneC, Value.oneCell', Nat.reduceLeDiff, Nat.reduceLT, exists_eq_left', forall_const, reduceCtorEq, app_new, app_new0, List.append_assoc, Int.reduceToNat, Int.reduceLT, Int.reduceLE, Int.reduceEq, Int.reduceNe, Int.reduceBEq, IntKind.bits, bne_self_eq_false, Int.reducePow]
  refine bslice_run rfl rfl fun g5 R5 K5 hR5 hl5 _ => ⟨trivial, ?_⟩
  simp only [sx, x_box, x_alloc, x_slice, x_append, x_appz, x_b2s, x_s2b, x_mark, xop, ev, evs, evParts, fillL, cellsL, Ai.get, Ai.put, stab, isNil?, if_false, if_true, addr?, int?, str?, agg?, bool?, shiftA, FnPost, xresL, xres1, tup, argEnv, ptr, Nat.reduceEqDiff, reduceIte, beq_self_eq_true, ne_eq, Nat.reduceAdd, Nat.reduceMul, Nat.reduceSub, abin_shl, abin_shr, load1V, loadV, storeV, cellsAt, getN, setN, allocV, lenL, lenS, bnd, oneC, Value.oneCell', Nat.reduceLeDiff, Nat.reduceLT, exists_eq_left', forall_const, reduceCtorEq, app_new, app_new0, List.append_assoc, Int.reduceToNat, Int.reduceLT, Int.reduceLE, Int.reduceEq, Int.reduceNe, Int.reduceBEq, IntKind.bits, bne_self_eq_false, Int.reducePow, hrem, wc, w5]
  have hn2 : 281 + mo % 2000 ≤ 2280 := by omega
  have hn2' : 280 < 281 + mo % 2000 := by omega
  generalize 281 + mo % 2000 = n2 at *
  refine xcall (octets11_ok (n := n2) (first1 hR5) (by omega) (by omega)) (by rfl) (by rfl) (by rfl) (by rfl) ?_
  rintro r g6 ⟨rfl, e6⟩
  have f6 := firstO e6 (octL_len _ _)
  have K6 : Kp g5 g6 := by rw [e6]; exact Kp.app _ _
  clear e6
  simp only [sx, x_box, x_alloc, x_slice, x_append, x_appz, x_b2s, x_s2b, x_mark, xop, ev, evs, evParts, fillL, cellsL, Ai.get, Ai.put, stab, isNil?, if_false, if_true, addr?, int?, str?, agg?, bool?, shiftA, FnPost, xresL, xres1, tup, argEnv, ptr, Nat.reduceEqDiff, reduceIte, beq_self_eq_true, ne_eq, Nat.reduceAdd, Nat.reduceMul, Nat.reduceSub, abin_shl, abin_shr, load1V, loadV, storeV, cellsAt, getN, setN, allocV, lenL, lenS, bnd, oneC, Value.oneCell', Nat.reduceLeDiff, Nat.reduceLT, exists_eq_left', forall_const, reduceCtorEq, app_new, app_new0, List.append_assoc, Int.reduceToNat, Int.reduceLT, Int.reduceLE, Int.reduceEq, Int.reduceNe, Int.reduceBEq, IntKind.bits, bne_self_eq_false, Int.reducePow]
  refine xcall (rof_ok f6 (by omega) (hbb n2)) (by rfl) (by rfl) (by rfl) (by rfl) ?_
  rintro r g7 ⟨RO2, K7, -⟩
  have K7 : Kp g6 g7 := K7
  obtain ⟨q7, c7, rfl, f7⟩ := RO2.shp
  have hl7 := ofL_len (octL [b] n2)
  rw [octL_len] at hl7
  simp only [sx, x_box, x_alloc, x_slice, x_append, x_appz, x_b2s, x_s2b, x_mark, xop, ev, evs, evParts, fillL, cellsL, Ai.get, Ai.put, stab, isNil?, if_false, if_true, addr?, int?, str?, agg?, bool?, shiftA, FnPost, xresL, xres1, tup, argEnv, ptr, Nat.reduceEqDiff, reduceIte, beq_self_eq_true, ne_eq, Nat.reduceAdd, Nat.reduceMul, Nat.reduceSub, abin_shl, abin_shr, load1V, loadV, storeV, cellsAt, getN, setN, allocV, lenL, lenS, bnd, oneC, Value.oneCell', Nat.reduceLeDiff, Nat.reduceLT, exists_eq_left', forall_const, reduceCtorEq, app_new, app_new0, List.append_assoc, Int.reduceToNat, Int.reduceLT, Int.reduceLE, Int.reduceEq, Int.reduceNe, Int.reduceBEq, IntKind.bits, bne_self_eq_false, Int.reducePow]
  refine xcall (rstuff_ok f7 (by omega) (ofL_bit _)) (by rfl) (by rfl) (by rfl) (by rfl) ?_
  rintro r g8 ⟨RS2, K8, -⟩
  have K8 : Kp g7 g8 := K8
  obtain ⟨q8, c8, rfl, f8⟩ := RS2.shp
  have hs1 := stf_len (ofL (octL [b] 280)) 0 (ofL_bit _) (by decide)
  have hs2 := stf_len (ofL (octL [b] n2)) 0 (ofL_bit _) (by decide)
  have K48 : Kp g4 g8 := ((K5.trans K6).trans K7).trans K8
  have f4' := K48.first f4
  have h8' := (((K1.trans K2).trans (K3.trans K4)).trans K48).first h8
  have K08 : Kp h g8 := K0.trans (((K1.trans K2).trans (K3.trans K4)).trans K48)
  simp only [sx, x_box, x_alloc, x_slice, x_append, x_appz, x_b2s, x_s2b, x_mark, xop, ev, evs, evParts, fillL, cellsL, Ai.get, Ai.put, stab, isNil?, if_false, if_true, addr?, int?, str?, agg?, bool?, shiftA, FnPost, xresL, xres1, tup, argEnv, ptr, Nat.reduceEqDiff, reduceIte, beq_self_eq_true, ne_eq, Nat.reduceAdd, Nat.reduceMul, Nat.reduceSub, abin_shl, abin_shr, load1V, loadV, storeV, cellsAt, getN, setN, allocV, lenL, lenS, bnd, oneC, Value.oneCell', Nat.reduceLeDiff, Nat.reduceLT, exists_eq_left', forall_const, reduceCtorEq, app_new, app_new0, List.append_assoc, Int.reduceToNat, Int.reduceLT, Int.reduceLE, Int.reduceEq, Int.reduceNe, Int.reduceBEq, IntKind.bits, bne_self_eq_false, Int.reducePow]
  refine xcall newS_ok (by rfl) (by rfl) (by rfl) (by rfl) ?_
  rintro r g9 ⟨X, rfl, AX, K9, hX⟩
  have hXl := lt_of_get AX.obj
  have h89 := K9.1
  replace f4' := K9.first f4'
  replace h8' := K9.first h8'
  replace f8 := K9.first f8
  have hfl8 : fl.length = 8 := rfl
  simp only [sx, x_box, x_alloc, x_bslice, x_slice, x_appz, x_b2s, x_s2b, x_mark, xop, ev, evs, evParts, fillL, cellsL, Ai.get, Ai.put, stab, isNil?, if_false, if_true, addr?, int?, str?, agg?, bool?, shiftA, FnPost, xresL, xres1, tup, argEnv, ptr, Nat.reduceEqDiff, reduceIte, beq_self_eq_true, ne_eq, Nat.reduceAdd, Nat.reduceMul, Nat.reduceSub, abin_shl, abin_shr, load1V, loadV, storeV, cellsAt, getN, setN, allocV, lenL, lenS, bnd, oneC, Value.oneCell', Nat.reduceLeDiff, Nat.reduceLT, exists_eq_left', forall_const, reduceCtorEq, app_new, app_new0, List.append_assoc, Int.reduceToNat, Int.reduceLT, Int.reduceLE, Int.reduceEq, Int.reduceNe, Int.reduceBEq, IntKind.bits, bne_self_eq_false, Int.reducePow]
  refine RN.append (zs := []) (news := fl) (.inl ⟨rfl, rfl⟩) rfl rfl rfl h8' (by simp; omega) fun sA gA RA hlA hkA hAA _ => ?_
  rw [List.nil_append] at RA
  have KA : Kp g9 gA := ⟨hlA, fun B hB => hkA B hB (by simp [slB])⟩
  have hAA' : ∀ A, slB sA = some A → g9.length ≤ A := fun A hA => by
    rcases hAA A hA with h | h
    · cases h
    · exact h
  simp only [sx, x_box, x_alloc, x_bslice, x_slice, x_appz, x_b2s, x_s2b, x_mark, xop, ev, evs, evParts, fillL, cellsL, Ai.get, Ai.put, stab, isNil?, if_false, if_true, addr?, int?, str?, agg?, bool?, shiftA, FnPost, xresL, xres1, tup, argEnv, ptr, Nat.reduceEqDiff, reduceIte, beq_self_eq_true, ne_eq, Nat.reduceAdd, Nat.reduceMul, Nat.reduceSub, abin_shl, abin_shr, load1V, loadV, storeV, cellsAt, getN, setN, allocV, lenL, lenS, bnd, oneC, Value.oneCell', Nat.reduceLeDiff, Nat.reduceLT, exists_eq_left', forall_const, reduceCtorEq, app_new, app_new0, List.append_assoc, Int.reduceToNat, Int.reduceLT, Int.reduceLE, Int.reduceEq, Int.reduceNe, Int.reduceBEq, IntKind.bits, bne_self_eq_false, Int.reducePow]
  refine RN.append RA rfl rfl rfl (KA.first f8) (by omega) fun sB gB RB hlB hkB hAB _ => ?_
  have hAB' : ∀ A, slB sB = some A → g9.length ≤ A := fun A hA => by
    rcases hAB A hA with h | h
    · exact hAA' A h
    · omega
  have KB : Kp g9 gB := ⟨by omega, fun B hB => by rw [hkB B (by omega) (fun e => by have := hAA' B e; omega), KA.2 B hB]⟩
  simp only [sx, x_box, x_alloc, x_bslice, x_slice, x_appz, x_b2s, x_s2b, x_mark, xop, ev, evs, evParts, fillL, cellsL, Ai.get, Ai.put, stab, isNil?, if_false, if_true, addr?, int?, str?, agg?, bool?, shiftA, FnPost, xresL, xres1, tup, argEnv, ptr, Nat.reduceEqDiff, reduceIte, beq_self_eq_true, ne_eq, Nat.reduceAdd, Nat.reduceMul, Nat.reduceSub, abin_shl, abin_shr, load1V, loadV, storeV, cellsAt, getN, setN, allocV, lenL, lenS, bnd, oneC, Value.oneCell', Nat.reduceLeDiff, Nat.reduceLT, exists_eq_left', forall_const, reduceCtorEq, app_new, app_new0, List.append_assoc, Int.reduceToNat, Int.reduceLT, Int.reduceLE, Int.reduceEq, Int.reduceNe, Int.reduceBEq, IntKind.bits, bne_self_eq_false, Int.reducePow]
  refine RN.append RB rfl rfl rfl (KB.first h8') (by rw [List.length_append]; omega) fun sC gC RC hlC hkC hAC _ => ?_
  have hAC' : ∀ A, slB sC = some A → g9.length ≤ A := fun A hA => by
    rcases hAC A hA with h | h
    · exact hAB' A h
    · omega
  have KC : Kp g9 gC := ⟨by omega, fun B hB => by rw [hkC B (by omega) (fun e => by have := hAB' B e; omega), KB.2 B hB]⟩
  simp only [sx, x_box, x_alloc, x_bslice, x_slice, x_appz, x_b2s, x_s2b, x_mark, xop, ev, evs, evParts, fillL, cellsL, Ai.get, Ai.put, stab, isNil?, if_false, if_true, addr?, int?, str?, agg?, bool?, shiftA, FnPost, xresL, xres1, tup, argEnv, ptr, Nat.reduceEqDiff, reduceIte, beq_self_eq_true, ne_eq, Nat.reduceAdd, Nat.reduceMul, Nat.reduceSub, abin_shl, abin_shr, load1V, loadV, storeV, cellsAt, getN, setN, allocV, lenL, lenS, bnd, oneC, Value.oneCell', Nat.reduceLeDiff, Nat.reduceLT, exists_eq_left', forall_const, reduceCtorEq, app_new, app_new0, List.append_assoc, Int.reduceToNat, Int.reduceLT, Int.reduceLE, Int.reduceEq, Int.reduceNe, Int.reduceBEq, IntKind.bits, bne_self_eq_false, Int.reducePow]
  refine RN.append RC rfl rfl rfl (KC.first f4') (by simp only [List.length_append]; omega) fun sD gD RD hlD hkD hAD _ => ?_
  have hAD' : ∀ A, slB sD = some A → g9.length ≤ A := fun A hA => by
    rcases hAD A hA with h | h
    · exact hAC' A h
    · omega
  have KD : Kp g9 gD := ⟨by omega, fun B hB => by rw [hkD B (by omega) (fun e => by have := hAC' B e; omega), KC.2 B hB]⟩
  simp only [sx, x_box, x_alloc, x_bslice, x_slice, x_appz, x_b2s, x_s2b, x_mark, xop, ev, evs, evParts, fillL, cellsL, Ai.get, Ai.put, stab, isNil?, if_false, if_true, addr?, int?, str?, agg?, bool?, shiftA, FnPost, xresL, xres1, tup, argEnv, ptr, Nat.reduceEqDiff, reduceIte, beq_self_eq_true, ne_eq, Nat.reduceAdd, Nat.reduceMul, Nat.reduceSub, abin_shl, abin_shr, load1V, loadV, storeV, cellsAt, getN, setN, allocV, lenL, lenS, bnd, oneC, Value.oneCell', Nat.reduceLeDiff, Nat.reduceLT, exists_eq_left', forall_const, reduceCtorEq, app_new, app_new0, List.append_assoc, Int.reduceToNat, Int.reduceLT, Int.reduceLE, Int.reduceEq, Int.reduceNe, Int.reduceBEq, IntKind.bits, bne_self_eq_false, Int.reducePow]
  refine RN.append RD rfl rfl rfl (KD.first h8') (by simp only [List.length_append]; omega) fun sE gE RE hlE hkE hAE _ => ?_
  have hAE' : ∀ A, slB sE = some A → g9.length ≤ A := fun A hA => by
    rcases hAE A hA with h | h
    · exact hAD' A h
    · omega
  have KE : Kp g9 gE := ⟨by omega, fun B hB => by rw [hkE B (by omega) (fun e => by have := hAD' B e; omega), KD.2 B hB]⟩
  have hwide : ¬ Wide (octL [b] 280) := by unfold Wide; rw [octL_len]; omega
  have hfeed := feed_long (a := octL [b] n2) (b := octL [b] 280) (by rw [octL_len]; exact hn2') hwide (hbb 280)
  have hflb : Bits fl := fl_bits
  have hall : Bits (fl ++ stf (ofL (octL [b] n2)) 0 ++ fl ++ stf (ofL (octL [b] 280)) 0 ++ fl) := (((hflb.app (stf_bits (ofL_bit _))).app hflb).app (stf_bits (ofL_bit _))).app hflb
  have hallL : (fl ++ stf (ofL (octL [b] n2)) 0 ++ fl ++ stf (ofL (octL [b] 280)) 0 ++ fl).length ≤ 1048576 := by simp only [List.length_append]; omega
  obtain ⟨qs, cs, rfl, hfs⟩ := RE.shp
  have hqs : ∀ a, qs = some a → a.block < gE.length ∧ g9.length ≤ a.block := fun a ha => by
    subst ha
    refine ⟨?_, hAE' _ rfl⟩
    rcases RE with ⟨e, -⟩ | ⟨A, e, hA⟩
    · cases e
    · cases e; exact lt_of_get hA
  generalize fl ++ stf (ofL (octL [b] n2)) 0 ++ fl ++ stf (ofL (octL [b] 280)) 0 ++ fl = all at *
  simp only [sx, x_box, x_alloc, x_bslice, x_slice, x_append, x_appz, x_b2s, x_s2b, x_mark, xop, ev, evs, evParts, fillL, cellsL, Ai.get, Ai.put, stab, isNil?, if_false, if_true, addr?, int?, str?, agg?, bool?, shiftA, FnPost, xresL, xres1, tup, argEnv, ptr, Nat.reduceEqDiff, reduceIte, beq_self_eq_true, ne_eq, Nat.reduceAdd, Nat.reduceMul, Nat.reduceSub, abin_shl, abin_shr, load1V, loadV, storeV, cellsAt, getN, setN, allocV, lenL, lenS, bnd, oneC, Value.oneCell', Nat.reduceLeDiff, Nat.reduceLT, exists_eq_left', forall_const, reduceCtorEq, app_new, app_new0, List.append_assoc, Int.reduceToNat, Int.reduceLT, Int.reduceLE, Int.reduceEq, Int.reduceNe, Int.reduceBEq, IntKind.bits, bne_self_eq_false, Int.reducePow]
  refine xcall (fed_ok (AX.kp KE) Sc.Ok.nw (by omega) hfs hallL hall fun a ha => ⟨(hqs a ha).1, fun h => by have := ftS_nil h; have := (hqs a ha).2; omega⟩) (by rfl) (by rfl) (by rfl) (by rfl) ?_
  rintro r gF ⟨q1, kv1, rfl, V1, A1, F1, n1, b1⟩
  rw [hfeed] at V1 A1 ⊢
  have KF : Kp g8 gF := kp_past (K9.trans KE) F1 fun B h => by have := ftS_nil h; omega
  have V1 : FsV gF q1 [octL [b] 280] := V1
  simp only [sx, x_box, x_alloc, x_slice, x_append, x_appz, x_b2s, x_s2b, x_mark, xop, ev, evs, evParts, fillL, cellsL, Ai.get, Ai.put, stab, isNil?, if_false, if_true, addr?, int?, str?, agg?, bool?, shiftA, FnPost, xresL, xres1, tup, argEnv, ptr, Nat.reduceEqDiff, reduceIte, beq_self_eq_true, ne_eq, Nat.reduceAdd, Nat.reduceMul, Nat.reduceSub, abin_shl, abin_shr, load1V, loadV, storeV, cellsAt, getN, setN, allocV, lenL, lenS, bnd, oneC, Value.oneCell', Nat.reduceLeDiff, Nat.reduceLT, exists_eq_left', forall_const, reduceCtorEq, app_new, app_new0, List.append_assoc, Int.reduceToNat, Int.reduceLT, Int.reduceLE, Int.reduceEq, Int.reduceNe, Int.reduceBEq, IntKind.bits, bne_self_eq_false, Int.reducePow]
  refine bslice_run rfl rfl fun g10 R10 K10 hR10 hl10 _ => ⟨trivial, ?_⟩
  obtain ⟨N, hN⟩ : ∃ N : Nat, N = 131072 := ⟨131072, rfl⟩
  have hN' : (131072 : Int) = ((N : Nat) : Int) := by rw [hN]; rfl
  simp only [sx, x_box, x_alloc, x_slice, x_append, x_appz, x_b2s, x_s2b, x_mark, xop, ev, evs, evParts, fillL, cellsL, Ai.get, Ai.put, stab, isNil?, if_false, if_true, addr?, int?, str?, agg?, bool?, shiftA, FnPost, xresL, xres1, tup, argEnv, ptr, Nat.reduceEqDiff, reduceIte, beq_self_eq_true, ne_eq, Nat.reduceAdd, Nat.reduceMul, Nat.reduceSub, abin_shl, abin_shr, load1V, loadV, storeV, cellsAt, getN, setN, allocV, lenL, lenS, bnd, oneC, Value.oneCell', Nat.reduceLeDiff, Nat.reduceLT, exists_eq_left', forall_const, reduceCtorEq, app_new, app_new0, List.append_assoc, Int.reduceToNat, Int.reduceLT, Int.reduceLE, Int.reduceEq, Int.reduceNe, Int.reduceBEq, IntKind.bits, bne_self_eq_false, Int.reducePow]
  rw [hN']
  refine xcall (octets11_ok (n := N) (first1 hR10) (by omega) (by omega)) (by rfl) (by rfl) (by rfl) (by rfl) ?_
  rintro r g11 ⟨rfl, e11⟩
  have f11 := firstO e11 (octL_len _ _)
  have K11 : Kp g10 g11 := by rw [e11]; exact Kp.app _ _
  clear e11
  simp only [sx, x_box, x_alloc, x_slice, x_append, x_appz, x_b2s, x_s2b, x_mark, xop, ev, evs, evParts, fillL, cellsL, Ai.get, Ai.put, stab, isNil?, if_false, if_true, addr?, int?, str?, agg?, bool?, shiftA, FnPost, xresL, xres1, tup, argEnv, ptr, Nat.reduceEqDiff, reduceIte, beq_self_eq_true, ne_eq, Nat.reduceAdd, Nat.reduceMul, Nat.reduceSub, abin_shl, abin_shr, load1V, loadV, storeV, cellsAt, getN, setN, allocV, lenL, lenS, bnd, oneC, Value.oneCell', Nat.reduceLeDiff, Nat.reduceLT, exists_eq_left', forall_const, reduceCtorEq, app_new, app_new0, List.append_assoc, Int.reduceToNat, Int.reduceLT, Int.reduceLE, Int.reduceEq, Int.reduceNe, Int.reduceBEq, IntKind.bits, bne_self_eq_false, Int.reducePow]
  refine xcall (rof_ok f11 (by omega) (octL_byte (fun z hz => by rw [List.mem_singleton.1 hz]; decide) N)) (by rfl) (by rfl) (by rfl) (by rfl) ?_
  rintro r g12 ⟨RO3, K12, -⟩
  have K12 : Kp g11 g12 := K12
  obtain ⟨q12, c12, rfl, f12⟩ := RO3.shp
  have hl12 := ofL_len (octL [255] N)
  rw [octL_len] at hl12
  have hbig := stf_255 N (by omega)
  have hob := ofL_bit (octL [255] N)
  have hck : checkV (ofL (octL [255] N)) = 0 := checkV_zero (by omega) hob
  simp only [sx, x_box, x_alloc, x_slice, x_append, x_appz, x_b2s, x_s2b, x_mark, xop, ev, evs, evParts, fillL, cellsL, Ai.get, Ai.put, stab, isNil?, if_false, if_true, addr?, int?, str?, agg?, bool?, shiftA, FnPost, xresL, xres1, tup, argEnv, ptr, Nat.reduceEqDiff, reduceIte, beq_self_eq_true, ne_eq, Nat.reduceAdd, Nat.reduceMul, Nat.reduceSub, abin_shl, abin_shr, load1V, loadV, storeV, cellsAt, getN, setN, allocV, lenL, lenS, bnd, oneC, Value.oneCell', Nat.reduceLeDiff, Nat.reduceLT, exists_eq_left', forall_const, reduceCtorEq, app_new, app_new0, List.append_assoc, Int.reduceToNat, Int.reduceLT, Int.reduceLE, Int.reduceEq, Int.reduceNe, Int.reduceBEq, IntKind.bits, bne_self_eq_false, Int.reducePow]
  refine xcall (stuff_ok f12 (by omega) fun z hz => by rcases hob z hz with rfl | rfl <;> decide) (by rfl) (by rfl) (by rfl) (by rfl) ?_
  rintro r g13 (⟨h0, -⟩ | ⟨-, -, rfl, K13⟩ | ⟨-, hle, -⟩)
  · exact absurd hck h0
  rotate_left
  · omega
  have K13 : Kp g12 g13 := K13
  have K813 : Kp g8 g13 := (KF.trans K10).trans ((K11.trans K12).trans K13)
  simp only [sx, x_box, x_alloc, x_bslice, x_slice, x_append, x_appz, x_b2s, x_s2b, x_mark, xop, ev, evs, evParts, fillL, cellsL, Ai.get, Ai.put, stab, isNil?, if_false, if_true, addr?, int?, str?, agg?, bool?, shiftA, FnPost, xresL, xres1, tup, argEnv, ptr, Nat.reduceEqDiff, reduceIte, beq_self_eq_true, ne_eq, Nat.reduceAdd, Nat.reduceMul, Nat.reduceSub, abin_shl, abin_shr, load1V, loadV, storeV, cellsAt, getN, setN, allocV, lenL, lenS, bnd, oneC, Value.oneCell', Nat.reduceLeDiff, Nat.reduceLT, exists_eq_left', forall_const, reduceCtorEq, app_new, app_new0, List.append_assoc, Int.reduceToNat, Int.reduceLT, Int.reduceLE, Int.reduceEq, Int.reduceNe, Int.reduceBEq, IntKind.bits, bne_self_eq_false, Int.reducePow, Int.reduceMul, -List.reduceReplicate]
  obtain ⟨M, hM⟩ : ∃ M : Nat, M = 1048576 := ⟨1048576, rfl⟩
  rw [← hM]
  obtain ⟨g14, hg14⟩ : ∃ g14 : AHeap, g14 = g13 ++ [some ⟨true, (List.replicate M [Value.int .u8 0]).flatten⟩] := ⟨_, rfl⟩
  rw [← hg14]
  obtain ⟨K14, hl14, hf14⟩ := mk_first hg14
  clear hg14
  have hz14 : Bits (List.replicate M 0) := fun z hz => .inl (List.eq_of_mem_replicate hz)
  have hc14 : checkV (List.replicate M 0) = 0 := checkV_zero (by rw [List.length_replicate]; omega) hz14
  have hs14 := stf_zeros M 0
  refine xcall (stuff_ok hf14 (by omega) fun z hz => by rcases hz14 z hz with rfl | rfl <;> decide) (by rfl) (by rfl) (by rfl) (by rfl) ?_
  rintro r g15 (⟨h0, -⟩ | ⟨-, h0, -⟩ | ⟨-, -, R15, rfl, -, K15, -⟩)
  · exact absurd hc14 h0
  · omega
  have K15 : Kp g14 g15 := K15
  generalize (stf (List.replicate M 0) 0).length = sl15 at *
  simp only [sx, x_box, x_alloc, x_bslice, x_slice, x_append, x_appz, x_b2s, x_s2b, x_mark, xop, ev, evs, evParts, fillL, cellsL, Ai.get, Ai.put, stab, isNil?, if_false, if_true, addr?, int?, str?, agg?, bool?, shiftA, FnPost, xresL, xres1, tup, argEnv, ptr, Nat.reduceEqDiff, reduceIte, beq_self_eq_true, ne_eq, Nat.reduceAdd, Nat.reduceMul, Nat.reduceSub, abin_shl, abin_shr, load1V, loadV, storeV, cellsAt, getN, setN, allocV, lenL, lenS, bnd, oneC, Value.oneCell', Nat.reduceLeDiff, Nat.reduceLT, exists_eq_left', forall_const, reduceCtorEq, app_new, app_new0, List.append_assoc, Int.reduceToNat, Int.reduceLT, Int.reduceLE, Int.reduceEq, Int.reduceNe, Int.reduceBEq, IntKind.bits, bne_self_eq_false, Int.reducePow, Int.reduceMul, -List.reduceReplicate]
  obtain ⟨M2, hM2⟩ : ∃ M : Nat, M = 1048577 := ⟨1048577, rfl⟩
  rw [← hM2]
  obtain ⟨g16, hg16⟩ : ∃ g16 : AHeap, g16 = g15 ++ [some ⟨true, (List.replicate M2 [Value.int .u8 0]).flatten⟩] := ⟨_, rfl⟩
  rw [← hg16]
  obtain ⟨K16, hl16, hf16⟩ := mk_first hg16
  clear hg16
  have hc16 : checkV (List.replicate M2 0) = 3 := by unfold checkV; rw [if_pos (by rw [List.length_replicate]; omega)]
  refine xcall (unstuff_ok hf16 (by omega) fun z hz => by rw [List.eq_of_mem_replicate hz]; decide) (by rfl) (by rfl) (by rfl) (by rfl) ?_
  rintro r g17 (⟨-, rfl, e0⟩ | ⟨h0, -⟩ | ⟨h0, -⟩)
  rotate_left
  · rw [hc16] at h0; cases h0
  · rw [hc16] at h0; cases h0
  subst e0
  rw [hc16]
  have KFe : Kp gF g17 := ((K10.trans ((K11.trans K12).trans K13)).trans (K14.trans K15)).trans K16
  have V17 := V1.past KFe.frz (KFe.fr (fun _ => False)) fun _ _ _ h => h
  have A17 := A1.kp KFe
  simp only [sx, x_box, x_alloc, x_slice, x_append, x_appz, x_b2s, x_s2b, x_mark, xop, ev, evs, evParts, fillL, cellsL, Ai.get, Ai.put, stab, isNil?, if_false, if_true, addr?, int?, str?, agg?, bool?, shiftA, FnPost, xresL, xres1, tup, argEnv, ptr, Nat.reduceEqDiff, reduceIte, beq_self_eq_true, ne_eq, Nat.reduceAdd, Nat.reduceMul, Nat.reduceSub, abin_shl, abin_shr, load1V, loadV, storeV, cellsAt, getN, setN, allocV, lenL, lenS, bnd, oneC, Value.oneCell', Nat.reduceLeDiff, Nat.reduceLT, exists_eq_left', forall_const, reduceCtorEq, app_new, app_new0, List.append_assoc, Int.reduceToNat, Int.reduceLT, Int.reduceLE, Int.reduceEq, Int.reduceNe, Int.reduceBEq, IntKind.bits, bne_self_eq_false, Int.reducePow]
  refine bslice_run rfl rfl fun g18 R18 K18 hR18 hl18 _ => ⟨trivial, ?_⟩
  simp only [sx, x_box, x_alloc, x_slice, x_append, x_appz, x_b2s, x_s2b, x_mark, xop, ev, evs, evParts, fillL, cellsL, Ai.get, Ai.put, stab, isNil?, if_false, if_true, addr?, int?, str?, agg?, bool?, shiftA, FnPost, xresL, xres1, tup, argEnv, ptr, Nat.reduceEqDiff, reduceIte, beq_self_eq_true, ne_eq, Nat.reduceAdd, Nat.reduceMul, Nat.reduceSub, abin_shl, abin_shr, load1V, loadV, storeV, cellsAt, getN, setN, allocV, lenL, lenS, bnd, oneC, Value.oneCell', Nat.reduceLeDiff, Nat.reduceLT, exists_eq_left', forall_const, reduceCtorEq, app_new, app_new0, List.append_assoc, Int.reduceToNat, Int.reduceLT, Int.reduceLE, Int.reduceEq, Int.reduceNe, Int.reduceBEq, IntKind.bits, bne_self_eq_false, Int.reducePow]
  refine xcall (octets11_ok (n := 280) (first1 hR18) (by omega) (by omega)) (by rfl) (by rfl) (by rfl) (by rfl) ?_
  rintro r g19 ⟨rfl, e19⟩
  have f19 := firstO e19 (octL_len _ _)
  have K19 : Kp g18 g19 := by rw [e19]; exact Kp.app _ _
  clear e19
  simp only [sx, x_box, x_alloc, x_slice, x_append, x_appz, x_b2s, x_s2b, x_mark, xop, ev, evs, evParts, fillL, cellsL, Ai.get, Ai.put, stab, isNil?, if_false, if_true, addr?, int?, str?, agg?, bool?, shiftA, FnPost, xresL, xres1, tup, argEnv, ptr, Nat.reduceEqDiff, reduceIte, beq_self_eq_true, ne_eq, Nat.reduceAdd, Nat.reduceMul, Nat.reduceSub, abin_shl, abin_shr, load1V, loadV, storeV, cellsAt, getN, setN, allocV, lenL, lenS, bnd, oneC, Value.oneCell', Nat.reduceLeDiff, Nat.reduceLT, exists_eq_left', forall_const, reduceCtorEq, app_new, app_new0, List.append_assoc, Int.reduceToNat, Int.reduceLT, Int.reduceLE, Int.reduceEq, Int.reduceNe, Int.reduceBEq, IntKind.bits, bne_self_eq_false, Int.reducePow]
  refine bslice_run rfl rfl fun g20 R20 K20 hR20 hl20 _ => ⟨trivial, ?_⟩
  have K20' := (K18.trans K19).trans K20
  have V20 := V17.past K20'.frz (K20'.fr (fun _ => False)) fun _ _ _ h => h
  have A20 := A17.kp K20'
  have hol := octL_len [b] 280
  have L20 := one_LV (l := octL [b] 280) (c := 1) (c0 := 280) (q := some ⟨g18.length, 0, none⟩) (by rw [hol]; exact K20.first f19) (by rw [hol]; exact hR20)
  have hwz : ∀ z ∈ [octL [b] 280], z.length ≤ 1000000000 := fun z hz => by rw [List.mem_singleton.1 hz, hol]; omega
  simp only [sx, x_box, x_alloc, x_slice, x_append, x_appz, x_b2s, x_s2b, x_mark, xop, ev, evs, evParts, fillL, cellsL, Ai.get, Ai.put, stab, isNil?, if_false, if_true, addr?, int?, str?, agg?, bool?, shiftA, FnPost, xresL, xres1, tup, argEnv, ptr, Nat.reduceEqDiff, reduceIte, beq_self_eq_true, ne_eq, Nat.reduceAdd, Nat.reduceMul, Nat.reduceSub, abin_shl, abin_shr, load1V, loadV, storeV, cellsAt, getN, setN, allocV, lenL, lenS, bnd, oneC, Value.oneCell', Nat.reduceLeDiff, Nat.reduceLT, exists_eq_left', forall_const, reduceCtorEq, app_new, app_new0, List.append_assoc, Int.reduceToNat, Int.reduceLT, Int.reduceLE, Int.reduceEq, Int.reduceNe, Int.reduceBEq, IntKind.bits, bne_self_eq_false, Int.reducePow]
  refine xcall (lists_ok V20 L20 (by simp) hwz) (by rfl) (by rfl) (by rfl) (by rfl) ?_
  rintro r g21 ⟨rfl, e0⟩
  subst e0
  simp only [sx, x_box, x_alloc, x_slice, x_append, x_appz, x_b2s, x_s2b, x_mark, xop, ev, evs, evParts, fillL, cellsL, Ai.get, Ai.put, stab, isNil?, if_false, if_true, addr?, int?, str?, agg?, bool?, shiftA, FnPost, xresL, xres1, tup, argEnv, ptr, Nat.reduceEqDiff, reduceIte, beq_self_eq_true, ne_eq, Nat.reduceAdd, Nat.reduceMul, Nat.reduceSub, abin_shl, abin_shr, load1V, loadV, storeV, cellsAt, getN, setN, allocV, lenL, lenS, bnd, oneC, Value.oneCell', Nat.reduceLeDiff, Nat.reduceLT, exists_eq_left', forall_const, reduceCtorEq, app_new, app_new0, List.append_assoc, Int.reduceToNat, Int.reduceLT, Int.reduceLE, Int.reduceEq, Int.reduceNe, Int.reduceBEq, IntKind.bits, bne_self_eq_false, Int.reducePow]
  refine xcall (errors_ok A20) (by rfl) (by rfl) (by rfl) (by rfl) ?_
  rintro r g21 ⟨rfl, e0⟩
  subst e0
  have her : ((({ bare 1 [octL [b] 280] with fo := [] } : Sc).er : Nat) : Int) = 1 := rfl
  rw [her]
  simp only [sx, x_box, x_alloc, x_slice, x_append, x_appz, x_b2s, x_s2b, x_mark, xop, ev, evs, evParts, fillL, cellsL, Ai.get, Ai.put, stab, isNil?, if_false, if_true, addr?, int?, str?, agg?, bool?, shiftA, FnPost, xresL, xres1, tup, argEnv, ptr, Nat.reduceEqDiff, reduceIte, beq_self_eq_true, ne_eq, Nat.reduceAdd, Nat.reduceMul, Nat.reduceSub, abin_shl, abin_shr, load1V, loadV, storeV, cellsAt, getN, setN, allocV, lenL, lenS, bnd, oneC, Value.oneCell', Nat.reduceLeDiff, Nat.reduceLT, exists_eq_left', forall_const, reduceCtorEq, app_new, app_new0, List.append_assoc, Int.reduceToNat, Int.reduceLT, Int.reduceLE, Int.reduceEq, Int.reduceNe, Int.reduceBEq, IntKind.bits, bne_self_eq_false, Int.reducePow]
  refine xcall (lives_ok (hF.ext ((K08.trans KF).trans (KFe.trans K20')))) (by rfl) (by rfl) (by rfl) (by rfl) ?_
  rintro r g21 ⟨rfl, e0⟩
  subst e0
  simp only [sx, x_box, x_alloc, x_bslice, x_slice, x_append, x_appz, x_b2s, x_s2b, x_mark, xop, ev, evs, evParts, fillL, cellsL, Ai.get, Ai.put, stab, isNil?, if_false, if_true, addr?, int?, str?, agg?, bool?, shiftA, FnPost, xresL, xres1, tup, argEnv, ptr, Nat.reduceEqDiff, reduceIte, beq_self_eq_true, ne_eq, Nat.reduceAdd, Nat.reduceMul, Nat.reduceSub, abin_shl, abin_shr, load1V, loadV, storeV, cellsAt, getN, setN, allocV, lenL, lenS, bnd, oneC, Value.oneCell', Nat.reduceLeDiff, Nat.reduceLT, exists_eq_left', forall_const, reduceCtorEq, app_new, app_new0, List.append_assoc, Int.reduceToNat, Int.reduceLT, Int.reduceLE, Int.reduceEq, Int.reduceNe, Int.reduceBEq, IntKind.bits, bne_self_eq_false, Int.reducePow]
end Go.Proofs.YtimfgagdfmmeeaaDoor
