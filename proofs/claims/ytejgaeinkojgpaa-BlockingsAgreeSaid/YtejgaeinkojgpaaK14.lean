import Derived.Test.YtejgaeinkojgpaaK13
set_option linter.unusedVariables false
set_option linter.unusedSimpArgs false
namespace Go.Proofs.Ytejgaeinkojgpaa
open Go Go.Ai Go.Proofs

theorem u8_mod (n : Int) : IntKind.u8.wrap n = n % 256 := by
  unfold IntKind.wrap; simp [IntKind.bits, IntKind.signed]
def byt (n : Int) : Nat := (n % 256).toNat
theorem byt_cast (n : Int) : ((byt n : Nat) : Int) = n % 256 := by unfold byt; omega
def ser (s : Int) : List Nat := [byt s, byt (s / 256), byt (s / 65536), byt (s / 16777216)]
/-- the bytes of a message -/
def enc (m : Ms) : List Nat := byt m.kind :: ser m.serial ++ (if m.kind = 1 then [byt m.first, byt m.mask.length] ++ packB m.mask ++ packB m.on else [])
theorem shr_u32 {s : Int} {k : Nat} (hk : k ≤ 32) : abin .shr (.int .u32 s) (.int .u64 (k : Nat)) = some (.int .u32 (s / 2 ^ k)) := by
  rw [abin_shr, if_neg (by omega)]
  have h1 : min ((k : Nat) : Int).toNat IntKind.u32.bits = k := by rw [Int.toNat_natCast]; exact Nat.min_eq_left hk
  rw [h1, Int.fdiv_eq_ediv_of_nonneg _ (Int.le_of_lt (Int.pow_pos (by decide)))]
def EncP (h : AHeap) (m : Ms) (r : Value) (h' : AHeap) : Prop :=
  (¬ m.Ok ∧ r = .tuple #[.slice none 0 0, .int .i64 1] ∧ Kp h h') ∨
  (m.Ok ∧ ∃ A, r = .tuple #[.slice (some ⟨A, 0, none⟩) (enc m).length (enc m).length, .int .i64 0] ∧ h'[A]? = some (some ⟨true, bN (enc m)⟩) ∧ Kp h h' ∧ h.length ≤ A)
set_option maxHeartbeats 4000000 in
set_option maxRecDepth 20000 in
theorem encode_ok {h : AHeap} {v : Value} {m : Ms} (hm : MV h v m) (hn : m.mask.length ≤ 9223372036854775807) : Valid Try.prog 24 [v] h fun r h' => EncP h m r h' := by
  refine v24 (by simp) ?_
  obtain ⟨mv, ov, rfl, M, O⟩ := hm
  obtain ⟨mq, mc, rfl⟩ := M.shape
  obtain ⟨oq, oc, rfl⟩ := O.shape
  simp only [X24, Ms.cells, sx, x_alloc, x_bslice, x_slice, x_append, x_appz, x_b2s, xop, ev, evs, evParts, fillL, cellsL, Ai.get, Ai.put, stab, isNil?, if_false, if_true, addr?, int?, str?, agg?, bool?, shiftA, FnPost, xresL, xres1, tup, argEnv, ptr, Nat.reduceEqDiff, reduceIte, beq_self_eq_true, ne_eq, Nat.reduceAdd, Nat.reduceMul, Nat.reduceSub, abin_shl, abin_shr, load1V, loadV, storeV, cellsAt, getN, setN, allocV, lenL, lenS, bnd, oneC, Value.oneCell', Nat.reduceLeDiff, Nat.reduceLT, exists_eq_left', forall_const, reduceCtorEq, app_new, app_new0, List.append_assoc, Int.reduceToNat, Int.reduceLT, Int.reduceLE, Int.reduceEq, Int.reduceNe, Int.reduceBEq, IntKind.bits, bne_self_eq_false, Int.reducePow]
  refine box_run rfl fun g1 R K1 hR hRl _ => ⟨trivial, ?_⟩
  simp only [cellsL] at hR
  simp only [sx, x_box, x_alloc, x_bslice, x_slice, x_append, x_appz, x_b2s, xop, ev, evs, evParts, fillL, cellsL, Ai.get, Ai.put, stab, isNil?, if_false, if_true, addr?, int?, str?, agg?, bool?, shiftA, FnPost, xresL, xres1, tup, argEnv, ptr, Nat.reduceEqDiff, reduceIte, beq_self_eq_true, ne_eq, Nat.reduceAdd, Nat.reduceMul, Nat.reduceSub, abin_shl, abin_shr, load1V, loadV, storeV, cellsAt, getN, setN, allocV, lenL, lenS, bnd, oneC, Value.oneCell', Nat.reduceLeDiff, Nat.reduceLT, exists_eq_left', forall_const, reduceCtorEq, app_new, app_new0, List.append_assoc, Int.reduceToNat, Int.reduceLT, Int.reduceLE, Int.reduceEq, Int.reduceNe, Int.reduceBEq, IntKind.bits, bne_self_eq_false, Int.reducePow, hR]
  refine xcall (valid_ok (m := m) ⟨_, _, rfl, M.frz K1.frz, O.frz K1.frz⟩ hn) (by rfl) (by rfl) (by rfl) (by rfl) ?_
  rintro r g2 ⟨K2, b, rfl, hb⟩
  have hR2 := K2.get hR
  have KK := K1.trans K2
  cases b
  · simp only [sx, x_box, x_alloc, x_bslice, x_slice, x_append, x_appz, x_b2s, xop, ev, evs, evParts, fillL, cellsL, Ai.get, Ai.put, stab, isNil?, if_false, if_true, addr?, int?, str?, agg?, bool?, shiftA, FnPost, xresL, xres1, tup, argEnv, ptr, Nat.reduceEqDiff, reduceIte, beq_self_eq_true, ne_eq, Nat.reduceAdd, Nat.reduceMul, Nat.reduceSub, abin_shl, abin_shr, load1V, loadV, storeV, cellsAt, getN, setN, allocV, lenL, lenS, bnd, oneC, Value.oneCell', Nat.reduceLeDiff, Nat.reduceLT, exists_eq_left', forall_const, reduceCtorEq, app_new, app_new0, List.append_assoc, Int.reduceToNat, Int.reduceLT, Int.reduceLE, Int.reduceEq, Int.reduceNe, Int.reduceBEq, IntKind.bits, bne_self_eq_false, Int.reducePow]
    exact .inl ⟨fun h => (by have := hb.2 h; cases this), rfl, KK⟩
  have hok := hb.1 rfl
  have M2 := M.frz KK.frz
  have O2 := O.frz KK.frz
  have s8 : abin .shr (.int .u32 m.serial) (.int .u64 8) = some (.int .u32 (m.serial / 256)) := shr_u32 (k := 8) (by decide)
  have s16 : abin .shr (.int .u32 m.serial) (.int .u64 16) = some (.int .u32 (m.serial / 65536)) := shr_u32 (k := 16) (by decide)
  have s24 : abin .shr (.int .u32 m.serial) (.int .u64 24) = some (.int .u32 (m.serial / 16777216)) := shr_u32 (k := 24) (by decide)
  have hkc : ((byt m.kind : Nat) : Int) = m.kind := by rw [byt_cast]; rcases hok.1 with h | h <;> rw [h] <;> rfl
  have hR2t : ∀ t : AHeap, (g2 ++ t)[R]? = some (some ⟨true, [.int .u8 m.kind, .int .u32 m.serial, .int .i64 m.first, .slice mq m.mask.length mc, .slice oq m.on.length oc]⟩) := fun t => app_old hR2
  have hR2u : ∀ t u : AHeap, (g2 ++ t ++ u)[R]? = some (some ⟨true, [.int .u8 m.kind, .int .u32 m.serial, .int .i64 m.first, .slice mq m.mask.length mc, .slice oq m.on.length oc]⟩) := fun t u => app_old (hR2t t)
  have hb5 : [Value.int .u8 m.kind, .int .u8 (m.serial % 256), .int .u8 (m.serial / 256 % 256), .int .u8 (m.serial / 65536 % 256), .int .u8 (m.serial / 16777216 % 256)] = bN (byt m.kind :: ser m.serial) := by
    simp [bN, ser, byt_cast, hkc]
  rcases hok.1 with hk | hk
  · have hrest : 1 ≤ m.mask.length ∧ m.mask.length ≤ 32 ∧ m.on.length = m.mask.length := by
      obtain ⟨-, -, h1, ⟨h2, -⟩ | ⟨-, h2, h3, -⟩⟩ := hok
      · omega
      · exact ⟨h2, h3, h1⟩
    simp only [sx, x_box, x_alloc, x_bslice, x_slice, x_appz, x_b2s, xop, ev, evs, evParts, fillL, cellsL, Ai.get, Ai.put, stab, isNil?, if_false, if_true, addr?, int?, str?, agg?, bool?, shiftA, FnPost, xresL, xres1, tup, argEnv, ptr, Nat.reduceEqDiff, reduceIte, beq_self_eq_true, ne_eq, Nat.reduceAdd, Nat.reduceMul, Nat.reduceSub, abin_shl, load1V, loadV, storeV, cellsAt, getN, setN, allocV, lenL, lenS, bnd, oneC, Value.oneCell', Nat.reduceLeDiff, Nat.reduceLT, exists_eq_left', forall_const, reduceCtorEq, app_new, app_new0, Int.reduceToNat, Int.reduceLT, Int.reduceLE, Int.reduceEq, Int.reduceNe, Int.reduceBEq, IntKind.bits, bne_self_eq_false, Int.reducePow, hR2, hR2t, hR2u, s8, s16, s24, u8_mod, hk]
    rw [hk] at hb5
    simp only [hb5]
    have K3 : Kp g2 (g2 ++ [some ⟨true, bN (byt 1 :: ser m.serial)⟩]) := Kp.app _ _
    have h5 := app_one g2 (some ⟨true, bN (byt 1 :: ser m.serial)⟩)
    have l5 : (g2 ++ [some (AObj.mk true (bN (byt 1 :: ser m.serial)))]).length = g2.length + 1 := by simp
    have hb2 : [Value.int .u8 (m.first % 256), Value.int .u8 ((m.mask.length : Int) % 256)] = bN [byt m.first, byt m.mask.length] := by simp [bN, byt_cast]
    simp only [hb2]
    have K4 : Kp (g2 ++ [some ⟨true, bN (byt 1 :: ser m.serial)⟩]) (g2 ++ [some ⟨true, bN (byt 1 :: ser m.serial)⟩] ++ [some ⟨true, bN [byt m.first, byt m.mask.length]⟩]) := Kp.app _ _
    have h6 := app_one (g2 ++ [some (AObj.mk true (bN (byt 1 :: ser m.serial)))]) (some ⟨true, bN [byt m.first, byt m.mask.length]⟩)
    have h56 := K4.get h5
    have hR4 := K4.get (hR2t [some ⟨true, bN (byt 1 :: ser m.serial)⟩])
    rw [hk] at hR4
    have K34 := K3.trans K4
    have M4 := M2.frz K34.frz
    have O4 := O2.frz K34.frz
    simp only [List.length_append, List.length_cons, List.length_nil, Nat.zero_add] at h6 ⊢
    generalize g2 ++ [some (AObj.mk true (bN (byt 1 :: ser m.serial)))] ++ [some (AObj.mk true (bN [byt m.first, byt m.mask.length]))] = g4 at *
    refine xops_st (append_full (by_ := 1) (n := 5) (m := 2) (A := g2.length) (rows := bN (byt 1 :: ser m.serial)) (news := bN [byt m.first, byt m.mask.length]) rfl (by rfl) (by rfl) rfl (by simp only [firstV, cellsAt, h6]; simp [getN, bN]) h56 rfl (by decide) (by decide) (by decide) (by decide) ?_)
    have hR5 := app_old (t := [some ⟨true, bN (byt 1 :: ser m.serial) ++ bN [byt m.first, byt m.mask.length]⟩]) hR4
    have K5 : Kp g4 (g4 ++ [some ⟨true, bN (byt 1 :: ser m.serial) ++ bN [byt m.first, byt m.mask.length]⟩]) := Kp.app _ _
    have h7 := app_one g4 (some ⟨true, bN (byt 1 :: ser m.serial) ++ bN [byt m.first, byt m.mask.length]⟩)
    have M5 := M4.frz K5.frz
    have O5 := O4.frz K5.frz
    have l5' : (g4 ++ [some (AObj.mk true (bN (byt 1 :: ser m.serial) ++ bN [byt m.first, byt m.mask.length]))]).length = g4.length + 1 := by simp
    generalize g4 ++ [some (AObj.mk true (bN (byt 1 :: ser m.serial) ++ bN [byt m.first, byt m.mask.length]))] = g5 at *
    rw [← bN_app] at h7
    simp only [sx, x_box, x_alloc, x_bslice, x_slice, x_append, x_appz, x_b2s, xop, ev, evs, evParts, fillL, cellsL, Ai.get, Ai.put, stab, isNil?, if_false, if_true, addr?, int?, str?, agg?, bool?, shiftA, FnPost, xresL, xres1, tup, argEnv, ptr, Nat.reduceEqDiff, reduceIte, beq_self_eq_true, ne_eq, Nat.reduceAdd, Nat.reduceMul, Nat.reduceSub, abin_shl, abin_shr, load1V, loadV, storeV, cellsAt, getN, setN, allocV, lenL, lenS, bnd, oneC, Value.oneCell', Nat.reduceLeDiff, Nat.reduceLT, exists_eq_left', forall_const, reduceCtorEq, app_new, app_new0, List.append_assoc, Int.reduceToNat, Int.reduceLT, Int.reduceLE, Int.reduceEq, Int.reduceNe, Int.reduceBEq, IntKind.bits, bne_self_eq_false, Int.reducePow, hR5]
    have ne1 : m.mask ≠ [] := fun e => by rw [e] at hrest; simp at hrest
    have ne2 : m.on ≠ [] := fun e => by rw [e] at hrest; simp at hrest; omega
    refine xcall (pack_ok (n := 7) (RetN.all h7 (by simp [bN, ser])) M5 ne1 (by omega) (by omega)) (by rfl) (by rfl) (by rfl) (by rfl) ?_
    rintro r g6 ⟨⟨A1, rfl, hA1, hl1, hA1l⟩, l6, f6⟩
    have hRl2 := lt_of_get hR2
    have hR6 : g6[R]? = _ := (f6 R (lt_of_get hR5) (by simp [slB]; have := K34.1; omega)).trans hR5
    have O6 : BitsV g6 (.slice oq m.on.length oc) m.on := O5.frz fun X cs hX => by
      rw [f6 X (lt_of_get hX) (fun e => by simp [slB] at e; rw [← e, h7] at hX; cases hX)]; exact hX
    rw [← bN_app] at hA1
    simp only [sx, x_box, x_alloc, x_bslice, x_slice, x_append, x_appz, x_b2s, xop, ev, evs, evParts, fillL, cellsL, Ai.get, Ai.put, stab, isNil?, if_false, if_true, addr?, int?, str?, agg?, bool?, shiftA, FnPost, xresL, xres1, tup, argEnv, ptr, Nat.reduceEqDiff, reduceIte, beq_self_eq_true, ne_eq, Nat.reduceAdd, Nat.reduceMul, Nat.reduceSub, abin_shl, abin_shr, load1V, loadV, storeV, cellsAt, getN, setN, allocV, lenL, lenS, bnd, oneC, Value.oneCell', Nat.reduceLeDiff, Nat.reduceLT, exists_eq_left', forall_const, reduceCtorEq, app_new, app_new0, List.append_assoc, Int.reduceToNat, Int.reduceLT, Int.reduceLE, Int.reduceEq, Int.reduceNe, Int.reduceBEq, IntKind.bits, bne_self_eq_false, Int.reducePow, hR6]
    refine xcall (pack_ok (n := 7 + (m.mask.length + 7) / 8) (RetN.all hA1 (by rw [← bN_app] at hl1; rw [hl1, Nat.mul_one])) O6 ne2 (by omega) (by omega)) (by rfl) (by rfl) (by rfl) (by rfl) ?_
    rintro r g7 ⟨⟨A2, rfl, hA2, hl2, hA2l⟩, l7, f7⟩
    simp only [sx, x_box, x_alloc, x_bslice, x_slice, x_append, x_appz, x_b2s, xop, ev, evs, evParts, fillL, cellsL, Ai.get, Ai.put, stab, isNil?, if_false, if_true, addr?, int?, str?, agg?, bool?, shiftA, FnPost, xresL, xres1, tup, argEnv, ptr, Nat.reduceEqDiff, reduceIte, beq_self_eq_true, ne_eq, Nat.reduceAdd, Nat.reduceMul, Nat.reduceSub, abin_shl, abin_shr, load1V, loadV, storeV, cellsAt, getN, setN, allocV, lenL, lenS, bnd, oneC, Value.oneCell', Nat.reduceLeDiff, Nat.reduceLT, exists_eq_left', forall_const, reduceCtorEq, app_new, app_new0, List.append_assoc, Int.reduceToNat, Int.reduceLT, Int.reduceLE, Int.reduceEq, Int.reduceNe, Int.reduceBEq, IntKind.bits, bne_self_eq_false, Int.reducePow]
    refine xcall (clip_ok v40 _ A2 (7 + (m.mask.length + 7) / 8 + (m.on.length + 7) / 8) (unk + 1) (by unfold unk; omega) (.inr rfl)) (by rfl) (by rfl) (by rfl) (by rfl) ?_
    rintro r h' ⟨rfl, rfl⟩
    simp only [sx, x_box, x_alloc, x_bslice, x_slice, x_append, x_appz, x_b2s, xop, ev, evs, evParts, fillL, cellsL, Ai.get, Ai.put, stab, isNil?, if_false, if_true, addr?, int?, str?, agg?, bool?, shiftA, FnPost, xresL, xres1, tup, argEnv, ptr, Nat.reduceEqDiff, reduceIte, beq_self_eq_true, ne_eq, Nat.reduceAdd, Nat.reduceMul, Nat.reduceSub, abin_shl, abin_shr, load1V, loadV, storeV, cellsAt, getN, setN, allocV, lenL, lenS, bnd, oneC, Value.oneCell', Nat.reduceLeDiff, Nat.reduceLT, exists_eq_left', forall_const, reduceCtorEq, app_new, app_new0, List.append_assoc, Int.reduceToNat, Int.reduceLT, Int.reduceLE, Int.reduceEq, Int.reduceNe, Int.reduceBEq, IntKind.bits, bne_self_eq_false, Int.reducePow]
    have he : enc m = byt 1 :: ser m.serial ++ [byt m.first, byt m.mask.length] ++ packB m.mask ++ packB m.on := by unfold enc; rw [if_pos hk, hk]; simp
    rw [← bN_app] at hA2 hl2
    have hlen : (enc m).length = 7 + (m.mask.length + 7) / 8 + (m.on.length + 7) / 8 := by rw [he, ← bN_len]; exact hl2
    have k3 := K34.1
    refine .inr ⟨hok, A2, ?_, ?_, ⟨by have := KK.1; omega, fun B hB => ?_⟩, by have := KK.1; omega⟩
    · rw [hlen]
    · rw [he]; exact hA2
    · have := KK.1
      rw [f7 B (by omega) (by simp [slB]; omega), f6 B (by omega) (by simp [slB]; omega), K5.2 B (by omega), K34.2 B (by omega), KK.2 B hB]
  · simp only [sx, x_box, x_alloc, x_bslice, x_slice, x_append, x_appz, x_b2s, xop, ev, evs, evParts, fillL, cellsL, Ai.get, Ai.put, stab, isNil?, if_false, if_true, addr?, int?, str?, agg?, bool?, shiftA, FnPost, xresL, xres1, tup, argEnv, ptr, Nat.reduceEqDiff, reduceIte, beq_self_eq_true, ne_eq, Nat.reduceAdd, Nat.reduceMul, Nat.reduceSub, abin_shl, load1V, loadV, storeV, cellsAt, getN, setN, allocV, lenL, lenS, bnd, oneC, Value.oneCell', Nat.reduceLeDiff, Nat.reduceLT, exists_eq_left', forall_const, reduceCtorEq, app_new, app_new0, List.append_assoc, Int.reduceToNat, Int.reduceLT, Int.reduceLE, Int.reduceEq, Int.reduceNe, Int.reduceBEq, IntKind.bits, bne_self_eq_false, Int.reducePow, hR2, hR2t, s8, s16, s24, u8_mod, hk]
    rw [hk] at hb5
    simp only [hb5]
    refine xcall (clip_ok v40 _ g2.length 5 5 (by unfold unk; omega) (.inl rfl)) (by rfl) (by rfl) (by rfl) (by rfl) ?_
    rintro r h' ⟨rfl, rfl⟩
    simp only [sx, x_box, x_alloc, x_bslice, x_slice, x_append, x_appz, x_b2s, xop, ev, evs, evParts, fillL, cellsL, Ai.get, Ai.put, stab, isNil?, if_false, if_true, addr?, int?, str?, agg?, bool?, shiftA, FnPost, xresL, xres1, tup, argEnv, ptr, Nat.reduceEqDiff, reduceIte, beq_self_eq_true, ne_eq, Nat.reduceAdd, Nat.reduceMul, Nat.reduceSub, abin_shl, abin_shr, load1V, loadV, storeV, cellsAt, getN, setN, allocV, lenL, lenS, bnd, oneC, Value.oneCell', Nat.reduceLeDiff, Nat.reduceLT, exists_eq_left', forall_const, reduceCtorEq, app_new, app_new0, List.append_assoc, Int.reduceToNat, Int.reduceLT, Int.reduceLE, Int.reduceEq, Int.reduceNe, Int.reduceBEq, IntKind.bits, bne_self_eq_false, Int.reducePow]
    have he : enc m = byt m.kind :: ser m.serial := by unfold enc; rw [if_neg (by omega)]; simp
    refine .inr ⟨hok, g2.length, ?_, ?_, KK.trans (Kp.app _ _), KK.1⟩
    · rw [he]; rfl
    · rw [he, hk]; exact app_one _ _
end Go.Proofs.Ytejgaeinkojgpaa
