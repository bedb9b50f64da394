import Derived.Test.YtcpcngamfncpdaaS4
set_option linter.unusedVariables false
set_option linter.unusedSimpArgs false
namespace Go.Proofs.Ytcpcngamfncpdaa
open Go Go.Ai Go.Proofs

/-- a unit of the script, cut -/
def HrM (h0 : AHeap) (M2 T U : Nat) (cs : List Value) (ρ : Env) (h : AHeap) : Prop := get ρ 3 = some (.pointer (some ⟨M2, 0, none⟩)) ∧ get ρ 4 = some (.pointer (some ⟨T, 0, none⟩)) ∧ get ρ 5 = some (.pointer (some ⟨U, 0, none⟩)) ∧ Kp h0 h ∧ h[M2]? = some (some ⟨true, cs⟩) ∧ h[T]? = some (some ⟨true, zeroC⟩) ∧ ∃ u lv, U4 u ∧ h[U]? = some (some ⟨true, u.cells lv⟩) ∧ LoadW h lv u.load
set_option maxHeartbeats 8000000 in
set_option maxRecDepth 20000 in
/-- the unit of an act, near the end's numbers -/
theorem near_ok {h : AHeap} {k a b c d e : Int} {lq : Option Addr} {ln lc : Nat} {bs : List Int} {y : BE} {g s x : Nat} (X : EX y g s x) (k4 : 0 ≤ a ∧ a ≤ 255) (k5 : 0 ≤ b ∧ b ≤ 255) (k6 : 0 ≤ c ∧ c ≤ 255) (k7 : 0 ≤ d ∧ d ≤ 255) (k8 : 0 ≤ e ∧ e ≤ 65535) (k9 : bs.length = ln) (L : LoadU h (.slice lq ln lc) bs) :
    Valid Try.prog 32 [.agg #[.int .u8 k, .int .u8 a, .int .u8 b, .int .u8 c, .int .u8 d, .int .u16 e, .slice lq ln lc], .agg (MC y g s x).toArray] h fun r h' => ∃ u lv, r = .agg (u.cells lv).toArray ∧ U4 u ∧ LoadW h' lv u.load ∧ Kp h h' := by
  refine v32 (by simp) ?_
  simp only [X32, MC, sx, x_bslice, x_slice, x_append, x_b2s, xop, ev, evs, evParts, fillL, cellsL, Ai.get, Ai.put, stab, isNil?, if_false, if_true, addr?, int?, str?, agg?, bool?, shiftA, FnPost, xresL, xres1, tup, argEnv, ptr, Nat.reduceEqDiff, reduceIte, beq_self_eq_true, ne_eq, Nat.reduceAdd, Nat.reduceMul, Nat.reduceSub, abin_shl, abin_shr, load1V, loadV, storeV, cellsAt, getN, setN, allocV, lenL, lenS, bnd, oneC, Value.oneCell', Nat.reduceLeDiff, Nat.reduceLT, exists_eq_left', forall_const, reduceCtorEq, app_new, app_new0, List.append_assoc, Int.reduceToNat, Int.reduceLT, Int.reduceLE, Int.reduceEq, Int.reduceNe, Int.reduceBEq, IntKind.bits, bne_self_eq_false, Int.reducePow]
  refine box_run rfl fun g1 A K1 hA hAl _ => ?_
  simp only [sx, x_bslice, x_slice, x_append, x_b2s, xop, ev, evs, evParts, fillL, cellsL, Ai.get, Ai.put, stab, isNil?, if_false, if_true, addr?, int?, str?, agg?, bool?, shiftA, FnPost, xresL, xres1, tup, argEnv, ptr, Nat.reduceEqDiff, reduceIte, beq_self_eq_true, ne_eq, Nat.reduceAdd, Nat.reduceMul, Nat.reduceSub, abin_shl, abin_shr, load1V, loadV, storeV, cellsAt, getN, setN, allocV, lenL, lenS, bnd, oneC, Value.oneCell', Nat.reduceLeDiff, Nat.reduceLT, exists_eq_left', forall_const, reduceCtorEq, app_new, app_new0, List.append_assoc, Int.reduceToNat, Int.reduceLT, Int.reduceLE, Int.reduceEq, Int.reduceNe, Int.reduceBEq, IntKind.bits, bne_self_eq_false, Int.reducePow]
  refine box_run rfl fun g2 M2 K2 hM hMl _ => ?_
  simp only [cellsL] at hA hM
  simp only [sx, x_box, x_bslice, x_slice, x_append, x_b2s, xop, ev, evs, evParts, fillL, cellsL, Ai.get, Ai.put, stab, isNil?, if_false, if_true, addr?, int?, str?, agg?, bool?, shiftA, FnPost, xresL, xres1, tup, argEnv, ptr, Nat.reduceEqDiff, reduceIte, beq_self_eq_true, ne_eq, Nat.reduceAdd, Nat.reduceMul, Nat.reduceSub, abin_shl, abin_shr, load1V, loadV, storeV, cellsAt, getN, setN, allocV, lenL, lenS, bnd, oneC, Value.oneCell', Nat.reduceLeDiff, Nat.reduceLT, exists_eq_left', forall_const, reduceCtorEq, app_new, app_new0, List.append_assoc, Int.reduceToNat, Int.reduceLT, Int.reduceLE, Int.reduceEq, Int.reduceNe, Int.reduceBEq, IntKind.bits, bne_self_eq_false, Int.reducePow]
  refine alloc_run fun g3 T K3 hT hTl _ => ?_
  have hA3 := K3.get (K2.get hA)
  have hM3 := K3.get hM
  have K03 := (K1.trans K2).trans K3
  have L3 := L.frz K03.frz
  simp only [sx, x_box, x_bslice, x_slice, x_append, x_b2s, xop, ev, evs, evParts, fillL, cellsL, Ai.get, Ai.put, stab, isNil?, if_false, if_true, addr?, int?, str?, agg?, bool?, shiftA, FnPost, xresL, xres1, tup, argEnv, ptr, Nat.reduceEqDiff, reduceIte, beq_self_eq_true, ne_eq, Nat.reduceAdd, Nat.reduceMul, Nat.reduceSub, abin_shl, abin_shr, load1V, loadV, storeV, cellsAt, getN, setN, allocV, lenL, lenS, bnd, oneC, Value.oneCell', Nat.reduceLeDiff, Nat.reduceLT, exists_eq_left', forall_const, reduceCtorEq, app_new, app_new0, List.append_assoc, Int.reduceToNat, Int.reduceLT, Int.reduceLE, Int.reduceEq, Int.reduceNe, Int.reduceBEq, IntKind.bits, bne_self_eq_false, Int.reducePow, hA3]
  refine xcall (of4_ok k4 k5 k6 k7 k8 k9 L3) (by rfl) (by rfl) (by rfl) (by rfl) ?_
  rintro r g4 ⟨u, lv, rfl, hu, lw1, lw2, K4⟩
  have L4 : LoadW g4 lv u.load := by
    by_cases hk : u.kind = 2
    · exact (lw1 hk).w
    · rw [lw2 hk, hu.l1 hk]; exact ⟨none, 0, rfl, by simp, .inl rfl⟩
  obtain ⟨ql, cl, rfl, -⟩ := id L4
  simp only [UP.cells]
  simp only [sx, x_box, x_bslice, x_slice, x_append, x_b2s, xop, ev, evs, evParts, fillL, cellsL, Ai.get, Ai.put, stab, isNil?, if_false, if_true, addr?, int?, str?, agg?, bool?, shiftA, FnPost, xresL, xres1, tup, argEnv, ptr, Nat.reduceEqDiff, reduceIte, beq_self_eq_true, ne_eq, Nat.reduceAdd, Nat.reduceMul, Nat.reduceSub, abin_shl, abin_shr, load1V, loadV, storeV, cellsAt, getN, setN, allocV, lenL, lenS, bnd, oneC, Value.oneCell', Nat.reduceLeDiff, Nat.reduceLT, exists_eq_left', forall_const, reduceCtorEq, app_new, app_new0, List.append_assoc, Int.reduceToNat, Int.reduceLT, Int.reduceLE, Int.reduceEq, Int.reduceNe, Int.reduceBEq, IntKind.bits, bne_self_eq_false, Int.reducePow]
  refine alloc_run fun g5 U K5 hU hUl _ => ?_
  have hMt := lt_of_get hM3
  have hTt := lt_of_get hT
  have hK4 := K4.1
  have hUM : U ≠ M2 := by omega
  have hUT : U ≠ T := by omega
  have hMT : M2 ≠ T := by omega
  simp only [sx, x_box, x_alloc, x_bslice, x_slice, x_append, x_b2s, xop, ev, evs, evParts, fillL, cellsL, Ai.get, Ai.put, stab, isNil?, if_false, if_true, addr?, int?, str?, agg?, bool?, shiftA, FnPost, xresL, xres1, tup, argEnv, ptr, Nat.reduceEqDiff, reduceIte, beq_self_eq_true, ne_eq, Nat.reduceAdd, Nat.reduceMul, Nat.reduceSub, abin_shl, abin_shr, load1V, loadV, storeV, cellsAt, getN, setN, allocV, lenL, lenS, bnd, oneC, Value.oneCell', Nat.reduceLeDiff, Nat.reduceLT, exists_eq_left', forall_const, reduceCtorEq, app_new, app_new0, List.append_assoc, Int.reduceToNat, Int.reduceLT, Int.reduceLE, Int.reduceEq, Int.reduceNe, Int.reduceBEq, IntKind.bits, bne_self_eq_false, Int.reducePow, hU]
  have U6 := set_same hU (some ⟨true, u.cells (.slice ql u.load.length cl)⟩)
  have z6 : Kp g4 (g5.set U (some ⟨true, u.cells (.slice ql u.load.length cl)⟩)) := K5.set (by omega) _
  have K6 : Kp h (g5.set U (some ⟨true, u.cells (.slice ql u.load.length cl)⟩)) := (K03.trans K4).trans z6
  have M6 := z6.get (K4.get hM3)
  have T6 := z6.get (K4.get hT)
  have L6 := L4.frz z6.frz
  have hUh : h.length ≤ U := by have := K03.1; omega
  simp only [UP.cells] at U6 z6 K6 M6 T6 L6
  generalize (g5.set U (some ⟨true, [Value.int .u8 u.back, .bool u.bb, .int .u8 u.fore, .bool u.fb, .int .u8 u.kind, .int .u8 u.st, .slice ql u.load.length cl]⟩)) = g6 at *
  simp only [sx, x_box, x_alloc, x_bslice, x_slice, x_append, x_b2s, xop, ev, evs, evParts, fillL, cellsL, Ai.get, Ai.put, stab, isNil?, if_false, if_true, addr?, int?, str?, agg?, bool?, shiftA, FnPost, xresL, xres1, tup, argEnv, ptr, Nat.reduceEqDiff, reduceIte, beq_self_eq_true, ne_eq, Nat.reduceAdd, Nat.reduceMul, Nat.reduceSub, abin_shl, abin_shr, load1V, loadV, storeV, cellsAt, getN, setN, allocV, lenL, lenS, bnd, oneC, Value.oneCell', Nat.reduceLeDiff, Nat.reduceLT, exists_eq_left', forall_const, reduceCtorEq, app_new, app_new0, List.append_assoc, Int.reduceToNat, Int.reduceLT, Int.reduceLE, Int.reduceEq, Int.reduceNe, Int.reduceBEq, IntKind.bits, bne_self_eq_false, Int.reducePow, U6]
  refine xcond_cut (HrM h M2 T U (MC y g s x)) ?_ ?_
  · by_cases hk : u.kind = 2
    · obtain ⟨B2, e1, b2, b3, b4⟩ := lw1 hk
      cases e1
      have hl2 := hu.l2 hk
      have hu2 : ¬ unk ≤ u.load.length := by unfold unk; omega
      have c2 : (2 : Int) ≤ (u.load.length : Nat) := by omega
      have hl0 : ¬ u.load.length = 0 := by omega
      have ht2 : (u.load.take 2).length = 2 := by rw [List.length_take]; omega
      have W2 : LoadW g6 (.slice (some ⟨B2, 0, none⟩) 2 u.load.length) (u.load.take 2) := by
        refine ⟨_, _, by rw [ht2], by omega, .inr ⟨_, _, rfl, rfl, z6.get b2, ?_⟩⟩
        rw [ht2]
        refine (getN_eq _ _ _ _).2 ⟨?_, by simp [bR, List.map_take]⟩
        simp [bR]; omega
      simp only [sx, x_box, x_alloc, x_bslice, x_slice, x_append, x_b2s, xop, ev, evs, evParts, fillL, cellsL, Ai.get, Ai.put, stab, isNil?, if_false, if_true, addr?, int?, str?, agg?, bool?, shiftA, FnPost, xresL, xres1, tup, argEnv, ptr, Nat.reduceEqDiff, reduceIte, beq_self_eq_true, ne_eq, Nat.reduceAdd, Nat.reduceMul, Nat.reduceSub, abin_shl, abin_shr, load1V, loadV, storeV, cellsAt, getN, setN, allocV, lenL, lenS, bnd, oneC, Value.oneCell', Nat.reduceLeDiff, Nat.reduceLT, exists_eq_left', forall_const, reduceCtorEq, app_new, app_new0, List.append_assoc, Int.reduceToNat, Int.reduceLT, Int.reduceLE, Int.reduceEq, Int.reduceNe, Int.reduceBEq, IntKind.bits, bne_self_eq_false, Int.reducePow, hk, U6, hu2, c2, hl0, Nat.sub_zero]
      refine ⟨rfl, rfl, rfl, K6.set hUh _, (set_far hUM _ _).trans M6, (set_far hUT _ _).trans T6, { u with load := u.load.take 2 }, .slice (some ⟨B2, 0, none⟩) 2 u.load.length, ⟨hu.b, hu.f, hu.k, hu.s, hu.s1, fun h => absurd hk h, fun _ => by show 2 ≤ (u.load.take 2).length ∧ (u.load.take 2).length ≤ 273; omega⟩, ?_, W2.frz (frz_set U6 _)⟩
      rw [set_same U6]
      simp only [UP.cells, hk]
    · simp only [sx, x_box, x_alloc, x_bslice, x_slice, x_append, x_b2s, xop, ev, evs, evParts, fillL, cellsL, Ai.get, Ai.put, stab, isNil?, if_false, if_true, addr?, int?, str?, agg?, bool?, shiftA, FnPost, xresL, xres1, tup, argEnv, ptr, Nat.reduceEqDiff, reduceIte, beq_self_eq_true, ne_eq, Nat.reduceAdd, Nat.reduceMul, Nat.reduceSub, abin_shl, abin_shr, load1V, loadV, storeV, cellsAt, getN, setN, allocV, lenL, lenS, bnd, oneC, Value.oneCell', Nat.reduceLeDiff, Nat.reduceLT, exists_eq_left', forall_const, reduceCtorEq, app_new, app_new0, List.append_assoc, Int.reduceToNat, Int.reduceLT, Int.reduceLE, Int.reduceEq, Int.reduceNe, Int.reduceBEq, IntKind.bits, bne_self_eq_false, Int.reducePow, hk]
      exact ⟨rfl, rfl, rfl, K6, M6, T6, u, _, hu, U6, L6⟩
  clear L L3 L4 L6 U6 M6 T6 K6 z6 lw1 lw2 hA hM hT hA3 hM3 hU hu
  rintro ρ2 h4 ⟨g3', g4', g5', K7, M7, T7, u, lv, hu, U7, L7⟩
  have hM := M7
  simp only [MC] at hM
  have hU0 := U7
  have hU := U7
  simp only [UP.cells] at hU
  simp only [zeroC] at T7
  have hub := hu.b
  have huf := hu.f
  have hna := num_lt x
  have hac := X.h7
  have hXm3 := X.h3
  have hXa := X.h1
  have hXh := X.h2
  have hXg := X.hg
  have w1 : IntKind.i64.wrap u.back = u.back := i64_wrap (by omega) (by omega)
  have w2 : IntKind.i64.wrap ((s : Int) - x) = ((s - x : Nat) : Int) := by rw [i64_wrap (by omega) (by omega)]; omega
  have w3 : IntKind.i64.wrap (((s - x : Nat) : Int) + 2) = ((s - x + 2 : Nat) : Int) := by rw [i64_wrap (by omega) (by omega)]; omega
  have w4 : ¬ ((s - x + 2 : Nat) : Int) = 0 := by omega
  obtain ⟨r, hr, hrl⟩ : ∃ r : Nat, u.back.tmod ((s - x + 2 : Nat) : Int) = (r : Int) ∧ r < s - x + 2 := by
    obtain ⟨z, hz⟩ : ∃ z : Nat, u.back = z := ⟨u.back.toNat, by omega⟩
    exact ⟨z % (s - x + 2), by rw [hz, Int.tmod_eq_emod_of_nonneg (by omega)]; omega, Nat.mod_lt _ (by omega)⟩
  have w5 : IntKind.i64.wrap ((num x : Nat) : Int) = ((num x : Nat) : Int) := i64_wrap (by omega) (by omega)
  have w6 : IntKind.i64.wrap (((num x : Nat) : Int) + r) = ((num x + r : Nat) : Int) := by rw [i64_wrap (by omega) (by omega)]; omega
  have w7 : ((num x + r : Nat) : Int).tmod 128 = (((num x + r) % 128 : Nat) : Int) := by rw [Int.tmod_eq_emod_of_nonneg (by omega)]; omega
  have w8 : IntKind.u8.wrap (((num x + r) % 128 : Nat) : Int) = (((num x + r) % 128 : Nat) : Int) := u8_wrap (by omega) (by omega)
  have v1 : IntKind.i64.wrap u.fore = u.fore := i64_wrap (by omega) (by omega)
  have v2 : IntKind.i64.wrap (y.acc : Int) = (y.acc : Int) := i64_wrap (by omega) (by omega)
  obtain ⟨z, hz⟩ : ∃ z : Nat, u.fore = z := ⟨u.fore.toNat, by omega⟩
  have hp : (z : Int).tmod 3 = ((z % 3 : Nat) : Int) := by rw [Int.tmod_eq_emod_of_nonneg (by omega)]; omega
  have hq : (z : Int).tdiv 100 = ((z / 100 : Nat) : Int) := by rw [Int.tdiv_eq_ediv_of_nonneg (by omega)]; omega
  have v0 : IntKind.i64.wrap ((z / 100 : Nat) : Int) = ((z / 100 : Nat) : Int) := i64_wrap (by omega) (by omega)
  have v3 : IntKind.i64.wrap ((y.acc : Int) + ((z % 3 : Nat) : Int)) = ((y.acc + z % 3 : Nat) : Int) := by rw [i64_wrap (by omega) (by omega)]; omega
  have v4 : IntKind.i64.wrap (127 * ((z / 100 : Nat) : Int)) = ((127 * (z / 100) : Nat) : Int) := by rw [i64_wrap (by omega) (by omega)]; omega
  have v5 : IntKind.i64.wrap (((y.acc + z % 3 : Nat) : Int) + ((127 * (z / 100) : Nat) : Int)) = ((y.acc + z % 3 + 127 * (z / 100) : Nat) : Int) := by rw [i64_wrap (by omega) (by omega)]; omega
  have v6 : ((y.acc + z % 3 + 127 * (z / 100) : Nat) : Int).tmod 128 = (((y.acc + z % 3 + 127 * (z / 100)) % 128 : Nat) : Int) := by rw [Int.tmod_eq_emod_of_nonneg (by omega)]; omega
  have v7 : IntKind.u8.wrap (((y.acc + z % 3 + 127 * (z / 100)) % 128 : Nat) : Int) = (((y.acc + z % 3 + 127 * (z / 100)) % 128 : Nat) : Int) := u8_wrap (by omega) (by omega)
  have n128 : ¬ (128 : Int) = 0 := by decide
  have n3 : ¬ (3 : Int) = 0 := by decide
  have n100 : ¬ (100 : Int) = 0 := by decide
  obtain ⟨ql, cl, rfl, -⟩ := id L7
  rw [hz] at hU v1
  simp only [sx, x_box, x_alloc, x_bslice, x_slice, x_append, x_b2s, xop, ev, evs, evParts, fillL, cellsL, Ai.get, Ai.put, stab, isNil?, if_false, if_true, addr?, int?, str?, agg?, bool?, shiftA, FnPost, xresL, xres1, tup, argEnv, ptr, Nat.reduceEqDiff, reduceIte, beq_self_eq_true, ne_eq, Nat.reduceAdd, Nat.reduceMul, Nat.reduceSub, abin_shl, abin_shr, load1V, loadV, storeV, cellsAt, getN, setN, allocV, lenL, lenS, bnd, oneC, Value.oneCell', Nat.reduceLeDiff, Nat.reduceLT, exists_eq_left', forall_const, reduceCtorEq, app_new, app_new0, List.append_assoc, Int.reduceToNat, Int.reduceLT, Int.reduceLE, Int.reduceEq, Int.reduceNe, Int.reduceBEq, IntKind.bits, bne_self_eq_false, Int.reducePow, g3', g4', g5', hM, hU, w1, w2, w3, w4, hr]
  refine xcall (number_ok (k := x) (by omega)) (by rfl) (by rfl) (by rfl) (by rfl) ?_
  rintro rr h5 ⟨rfl, rfl⟩
  have sUM := set_far hUM
  have sUT := set_far hUT
  have sTU := set_far hUT.symm
  simp only [sx, x_box, x_alloc, x_bslice, x_slice, x_append, x_b2s, xop, ev, evs, evParts, fillL, cellsL, Ai.get, Ai.put, stab, isNil?, if_false, if_true, addr?, int?, str?, agg?, bool?, shiftA, FnPost, xresL, xres1, tup, argEnv, ptr, Nat.reduceEqDiff, reduceIte, beq_self_eq_true, ne_eq, Nat.reduceAdd, Nat.reduceMul, Nat.reduceSub, abin_shl, abin_shr, load1V, loadV, storeV, cellsAt, getN, setN, allocV, lenL, lenS, bnd, oneC, Value.oneCell', Nat.reduceLeDiff, Nat.reduceLT, exists_eq_left', forall_const, reduceCtorEq, app_new, app_new0, List.append_assoc, Int.reduceToNat, Int.reduceLT, Int.reduceLE, Int.reduceEq, Int.reduceNe, Int.reduceBEq, IntKind.bits, bne_self_eq_false, Int.reducePow, g3', g4', g5', hM, hU, T7, w1, w2, w3, w4, hr, w5, w6, w7, w8, n128, n3, n100, v1, v2, hp, hq, v0, v3, v4, v5, v6, v7, set_here, sUM, sUT, sTU, List.set_set]
  have hTh : h.length ≤ T := by have := K7.1; have := K3.1; omega
  refine ⟨{ u with back := (((num x + r) % 128 : Nat) : Int), fore := (((y.acc + z % 3 + 127 * (z / 100)) % 128 : Nat) : Int) }, .slice ql u.load.length cl, rfl, ⟨by show 0 ≤ (((num x + r) % 128 : Nat) : Int) ∧ (((num x + r) % 128 : Nat) : Int) < 128; omega, by show 0 ≤ (((y.acc + z % 3 + 127 * (z / 100)) % 128 : Nat) : Int) ∧ (((y.acc + z % 3 + 127 * (z / 100)) % 128 : Nat) : Int) < 128; omega, hu.k, hu.s, hu.s1, hu.l1, hu.l2⟩, ?_, (K7.set hUh _).set hTh _⟩
  refine L7.frz fun Y cs hY => ?_
  have y1 : U ≠ Y := fun e => by rw [← e, hU0] at hY; cases hY
  have y3 : T ≠ Y := fun e => by rw [← e, T7] at hY; cases hY
  simp only [set_far y1, set_far y3]; exact hY
end Go.Proofs.Ytcpcngamfncpdaa
