import Derived.Test.YtimfgagdfmmeeaaDoorG2
set_option linter.unusedVariables false
set_option linter.unusedSimpArgs false
namespace Go.Proofs.YtimfgagdfmmeeaaDoor
open Go Go.Ai Go.Proofs

/-- Clip where the room is known -/
theorem clipK_ok {h : AHeap} {R n c : Nat} (hc : c < unk) (hn : n ≤ c) : Valid Tryd.prog 36 [.slice (some ⟨R, 0, none⟩) n c] h fun r h' => r = .slice (some ⟨R, 0, none⟩) n n ∧ h' = h := by
  refine v36 (by simp) ?_
  have hx : ∀ (ρ : Env) (x hi mx : XA), ev ρ x = some (.slice (some ⟨R, 0, none⟩) n c) → ev ρ hi = some (.int .i64 (n : Nat)) → ev ρ mx = some (.int .i64 (n : Nat)) → xop (.slice 1 x none (some hi) (some mx)) ρ h = some (.slice (some ⟨R, 0, none⟩) n n, h) := fun ρ x hi mx e1 e2 e3 => by
    have hu : ¬ unk ≤ c := by omega
    have hi' : (n : Int) ≤ (c : Nat) := by omega
    simp [xop, e1, e2, e3, bnd, int?, hu, hi', hn, shiftA]
  simp only [X36, sx, x_box, x_alloc, x_bslice, x_append, x_appz, x_b2s, x_s2b, x_mark, xop, ev, evs, evParts, fillL, cellsL, Ai.get, Ai.put, stab, isNil?, if_false, if_true, addr?, int?, str?, agg?, bool?, shiftA, FnPost, xresL, xres1, tup, argEnv, ptr, Nat.reduceEqDiff, reduceIte, beq_self_eq_true, ne_eq, Nat.reduceAdd, Nat.reduceMul, Nat.reduceSub, abin_shl, abin_shr, load1V, loadV, storeV, cellsAt, getN, setN, allocV, lenL, lenS, bnd, oneC, Value.oneCell', Nat.reduceLeDiff, Nat.reduceLT, exists_eq_left', forall_const, reduceCtorEq, app_new, app_new0, List.append_assoc, Int.reduceToNat, Int.reduceLT, Int.reduceLE, Int.reduceEq, Int.reduceNe, Int.reduceBEq, IntKind.bits, bne_self_eq_false, Int.reducePow]
  rw [x_slice, hx _ _ _ _ rfl rfl rfl]
  simp only [sx, x_box, x_alloc, x_bslice, x_slice, x_append, x_appz, x_b2s, x_s2b, x_mark, xop, ev, evs, evParts, fillL, cellsL, Ai.get, Ai.put, stab, isNil?, if_false, if_true, addr?, int?, str?, agg?, bool?, shiftA, FnPost, xresL, xres1, tup, argEnv, ptr, Nat.reduceEqDiff, reduceIte, beq_self_eq_true, ne_eq, Nat.reduceAdd, Nat.reduceMul, Nat.reduceSub, abin_shl, abin_shr, load1V, loadV, storeV, cellsAt, getN, setN, allocV, lenL, lenS, bnd, oneC, Value.oneCell', Nat.reduceLeDiff, Nat.reduceLT, exists_eq_left', forall_const, reduceCtorEq, app_new, app_new0, List.append_assoc, Int.reduceToNat, Int.reduceLT, Int.reduceLE, Int.reduceEq, Int.reduceNe, Int.reduceBEq, IntKind.bits, bne_self_eq_false, Int.reducePow]
theorem first_pre {h : AHeap} {R n c : Nat} {w : Bool} {a t : List Int} (hR : h[R]? = some (some ⟨w, bR (a ++ t)⟩)) (hn : a.length = n) : firstV 1 h n (.slice (some ⟨R, 0, none⟩) n c) = some (bR a) := by
  simp only [firstV]
  split
  · rename_i h0
    have : a = [] := List.eq_nil_of_length_eq_zero (by omega)
    rw [this]; rfl
  · simp only [ne_eq, not_true_eq_false, if_false, cellsAt, hR, Option.bind_some, Nat.mul_one]
    refine (getN_eq _ _ _ _).2 ⟨?_, ?_⟩
    · rw [bR_len, List.length_append]; split <;> omega
    · unfold bR; rw [List.map_append, List.drop_zero, List.take_left' (by rw [List.length_map]; exact hn)]
def SuI (g : AHeap) (q : Option Addr) (n c cc : Nat) (zs : List Int) (m : Nat) (ρ : Env) (h : AHeap) : Prop := ∃ (i k : Nat) (out : List Int), i + m = n ∧ get ρ 16 = some (.int .i64 (i : Nat)) ∧ get ρ 15 = some (.int .i64 (n : Nat)) ∧ get ρ 14 = some (.slice q n c) ∧ get ρ 3 = some (.slice (some ⟨g.length, 0, none⟩) out.length cc) ∧ get ρ 4 = some (.int .i64 (k : Nat)) ∧ Ext g h ∧
  h[g.length]? = some (some ⟨true, bR (out ++ List.replicate (cc - out.length) 0)⟩) ∧ stf zs 0 = out ++ stf (zs.drop i) k ∧ k < 5
def SuE (g : AHeap) (cc : Nat) (zs : List Int) (ρ : Env) (h : AHeap) : Prop := get ρ 3 = some (.slice (some ⟨g.length, 0, none⟩) (stf zs 0).length cc) ∧ Ext g h ∧ h[g.length]? = some (some ⟨true, bR (stf zs 0 ++ List.replicate (cc - (stf zs 0).length) 0)⟩)
/-- one more byte where there is room -/
theorem room_push {K : Env → AHeap → Prop} {r : List XOper} {ρ : Env} {g h : AHeap} {R c : Nat} {out : List Int} {z : Int} {d : Option Nat} {s x : XA} (E : Ext g h) (hRg : R = g.length)
    (hs : ev ρ s = some (.slice (some ⟨R, 0, none⟩) out.length c)) (hx : ev ρ x = some (.slice (some ⟨h.length, 0, none⟩) 1 1)) (hR : h[R]? = some (some ⟨true, bR (out ++ List.replicate (c - out.length) 0)⟩)) (hc : c < 140737488355328) (hroom : out.length + 1 ≤ c)
    (hK : ∀ h', Ext g h' → h'[R]? = some (some ⟨true, bR ((out ++ [z]) ++ List.replicate (c - (out ++ [z]).length) 0)⟩) → xops Tryd.prog K r (put d (.slice (some ⟨R, 0, none⟩) (out ++ [z]).length c) ρ) h') : xops Tryd.prog K (⟨d, none, .append 1 1 [.int .u8 0] s x, []⟩ :: r) ρ (h ++ [some ⟨true, [.int .u8 z]⟩]) := by
  have hRl := lt_of_get hR
  have hR2 : (h ++ [some (AObj.mk true [.int .u8 z])])[R]? = some (some ⟨true, bR (out ++ List.replicate (c - out.length) 0)⟩) := by rw [List.getElem?_append_left hRl]; exact hR
  have hf : firstV 1 (h ++ [some (AObj.mk true [.int .u8 z])]) 1 (.slice (some ⟨h.length, 0, none⟩) 1 1) = some (bR [z]) := by
    simp only [firstV, cellsAt, app_new0]
    simp
    rfl
  refine append_room (R := R) (n := out.length) (m := 1) (c := c) (zs := out ++ List.replicate (c - out.length) 0) (news := [z]) rfl hs hx rfl hf rfl hR2 (by unfold unk; omega) hroom (by simp; omega) (by omega) (by omega) ?_
  have e1 : (out ++ List.replicate (c - out.length) (0 : Int)).take out.length ++ [z] ++ (out ++ List.replicate (c - out.length) (0 : Int)).drop (out.length + 1) = (out ++ [z]) ++ List.replicate (c - (out ++ [z]).length) 0 := by
    rw [List.take_left' rfl, ← List.drop_drop, List.drop_left' rfl, List.drop_replicate, List.length_append]
    rw [show c - out.length - 1 = c - (out.length + [z].length) by simp; omega]
  rw [e1]
  have := hK ((h ++ [some (AObj.mk true [.int .u8 z])]).set R (some ⟨true, bR ((out ++ [z]) ++ List.replicate (c - (out ++ [z]).length) 0)⟩)) ((E.trans (Ext.app _ _)).set (by omega) _) (set_same hR2 _)
  rw [List.length_append] at this ⊢
  exact this
set_option maxHeartbeats 1000000 in
theorem stuffed_ok {h : AHeap} {q : Option Addr} {n c : Nat} {zs : List Int} (hf : firstV 1 h n (.slice q n c) = some (bR zs)) (hn : n ≤ 1048576) (hb : Bits zs) :
    Valid Tryd.prog 34 [.slice q n c] h fun r h' => ∃ R, r = .slice (some ⟨R, 0, none⟩) (stf zs 0).length (stf zs 0).length ∧ firstV 1 h' (stf zs 0).length r = some (bR (stf zs 0)) ∧ Ext h h' ∧ h.length ≤ R ∧ R < h'.length := by
  refine v34 (by simp) ?_
  have hzl := firstV_len hf
  rw [bR_len, Nat.mul_one] at hzl
  have htot := stf_len zs 0 hb (by decide)
  have w1 : IntKind.i64.wrap ((n : Int).tdiv 5) = ((n / 5 : Nat) : Int) := by rw [Int.tdiv_eq_ediv_of_nonneg (by omega), i64_wrap] <;> omega
  have w2 : IntKind.i64.wrap ((n : Int) + ((n / 5 : Nat) : Int)) = ((n + n / 5 : Nat) : Int) := by rw [i64_wrap] <;> omega
  have h1 : ((n + n / 5 : Nat) : Int) * 1 ≤ 140737488355328 := by omega
  have h2 : ((n + n / 5 : Nat) : Int) ≤ 9223372036854775807 := by omega
  have h3 : (0 : Int) ≤ ((n + n / 5 : Nat) : Int) := by omega
  rw [Nat.add_zero, hzl] at htot
  obtain ⟨cc, hcc⟩ : ∃ cc, n + n / 5 = cc := ⟨_, rfl⟩
  rw [hcc] at htot h1 h2 h3 w2
  simp only [X34, sx, x_box, x_alloc, x_bslice, x_slice, x_append, x_appz, x_b2s, x_s2b, x_mark, xop, ev, evs, evParts, fillL, cellsL, Ai.get, Ai.put, stab, isNil?, if_false, if_true, addr?, int?, str?, agg?, bool?, shiftA, FnPost, xresL, xres1, tup, argEnv, ptr, Nat.reduceEqDiff, reduceIte, beq_self_eq_true, ne_eq, Nat.reduceAdd, Nat.reduceMul, Nat.reduceSub, abin_shl, abin_shr, load1V, loadV, storeV, cellsAt, getN, setN, allocV, lenL, lenS, bnd, oneC, Value.oneCell', Nat.reduceLeDiff, Nat.reduceLT, exists_eq_left', forall_const, reduceCtorEq, app_new, app_new0, List.append_assoc, Int.reduceToNat, Int.reduceLT, Int.reduceLE, Int.reduceEq, Int.reduceNe, Int.reduceBEq, IntKind.bits, bne_self_eq_false, Int.reducePow, w1, w2, h1, h2, h3, Int.le_refl, zeros_bR]
  refine xloop_cut (SuE h cc zs) ?_ ?_
  · refine xcode_loop (SuI h q n c cc zs) n ⟨0, 0, [], by omega, rfl, rfl, rfl, rfl, rfl, Ext.app _ _, by rw [app_new0]; simp, by simp, by decide⟩ ?_
    rintro m ρ g ⟨i, k, out, him, r16, r15, r14, r3, r4, E, hR, hst, hk⟩
    by_cases hi : i < n
    · have hi' : (i : Int) < (n : Nat) := by omega
      have hi0 : (0 : Int) ≤ (i : Int) := by omega
      have wi : IntKind.i64.wrap ((i : Int) + 1) = ((i + 1 : Nat) : Int) := by rw [i64_wrap] <;> omega
      have wk : IntKind.i64.wrap ((k : Int) + 1) = ((k + 1 : Nat) : Int) := by rw [i64_wrap] <;> omega
      obtain ⟨a, o, z, rfl, a1, a2, a3, a4⟩ := elemB (E.first hf) hi
      have hz := hb z (List.mem_of_getElem? a4)
      have hdr := drop_at a4
      rw [hdr] at hst
      have hlen : (stf zs 0).length = out.length + (stf (z :: zs.drop (i + 1)) k).length := by rw [hst, List.length_append]
      rcases hz with rfl | rfl
      · rw [stf_zero] at hst hlen
        simp only [List.length_cons] at hlen
        simp only [sx, x_box, x_alloc, x_bslice, x_slice, x_appz, x_b2s, x_s2b, x_mark, xop, ev, evs, evParts, fillL, cellsL, Ai.get, Ai.put, stab, isNil?, if_false, if_true, addr?, int?, str?, agg?, bool?, shiftA, FnPost, xresL, xres1, tup, argEnv, ptr, Nat.reduceEqDiff, reduceIte, beq_self_eq_true, ne_eq, Nat.reduceAdd, Nat.reduceMul, Nat.reduceSub, abin_shl, abin_shr, load1V, loadV, storeV, cellsAt, getN, setN, allocV, lenL, lenS, bnd, oneC, Value.oneCell', Nat.reduceLeDiff, Nat.reduceLT, exists_eq_left', forall_const, reduceCtorEq, app_new, app_new0, List.append_assoc, Int.reduceToNat, Int.reduceLT, Int.reduceLE, Int.reduceEq, Int.reduceNe, Int.reduceBEq, IntKind.bits, bne_self_eq_false, Int.reducePow, r16, r15, r14, r3, hi', hi0, a1, a2, a3, Nat.mul_one]
        refine room_push E rfl rfl rfl hR (by omega) (by omega) fun h' E' hR' => ?_
        simp only [sx, x_box, x_alloc, x_bslice, x_slice, x_append, x_appz, x_b2s, x_s2b, x_mark, xop, ev, evs, evParts, fillL, cellsL, Ai.get, Ai.put, stab, isNil?, if_false, if_true, addr?, int?, str?, agg?, bool?, shiftA, FnPost, xresL, xres1, tup, argEnv, ptr, Nat.reduceEqDiff, reduceIte, beq_self_eq_true, ne_eq, Nat.reduceAdd, Nat.reduceMul, Nat.reduceSub, abin_shl, abin_shr, load1V, loadV, storeV, cellsAt, getN, setN, allocV, lenL, lenS, bnd, oneC, Value.oneCell', Nat.reduceLeDiff, Nat.reduceLT, exists_eq_left', forall_const, reduceCtorEq, app_new, app_new0, List.append_assoc, Int.reduceToNat, Int.reduceLT, Int.reduceLE, Int.reduceEq, Int.reduceNe, Int.reduceBEq, IntKind.bits, bne_self_eq_false, Int.reducePow, r4, r16, wk, wi]
        exact ⟨m - 1, by omega, i + 1, 0, out ++ [0], by omega, rfl, r15, r14, by simp [Ai.get], rfl, E', hR', by rw [hst]; simp, by decide⟩
      · by_cases hk5 : k + 1 = 5
        · have hk5' : ((k + 1 : Nat) : Int) = 5 := by omega
          rw [stf_five _ hk5] at hst hlen
          simp only [List.length_cons] at hlen
          simp only [sx, x_box, x_alloc, x_bslice, x_slice, x_appz, x_b2s, x_s2b, x_mark, xop, ev, evs, evParts, fillL, cellsL, Ai.get, Ai.put, stab, isNil?, if_false, if_true, addr?, int?, str?, agg?, bool?, shiftA, FnPost, xresL, xres1, tup, argEnv, ptr, Nat.reduceEqDiff, reduceIte, beq_self_eq_true, ne_eq, Nat.reduceAdd, Nat.reduceMul, Nat.reduceSub, abin_shl, abin_shr, load1V, loadV, storeV, cellsAt, getN, setN, allocV, lenL, lenS, bnd, oneC, Value.oneCell', Nat.reduceLeDiff, Nat.reduceLT, exists_eq_left', forall_const, reduceCtorEq, app_new, app_new0, List.append_assoc, Int.reduceToNat, Int.reduceLT, Int.reduceLE, Int.reduceEq, Int.reduceNe, Int.reduceBEq, IntKind.bits, bne_self_eq_false, Int.reducePow, r16, r15, r14, r3, hi', hi0, a1, a2, a3, Nat.mul_one]
          refine room_push E rfl rfl rfl hR (by omega) (by omega) fun h' E' hR' => ?_
          simp only [sx, x_box, x_alloc, x_bslice, x_slice, x_appz, x_b2s, x_s2b, x_mark, xop, ev, evs, evParts, fillL, cellsL, Ai.get, Ai.put, stab, isNil?, if_false, if_true, addr?, int?, str?, agg?, bool?, shiftA, FnPost, xresL, xres1, tup, argEnv, ptr, Nat.reduceEqDiff, reduceIte, beq_self_eq_true, ne_eq, Nat.reduceAdd, Nat.reduceMul, Nat.reduceSub, abin_shl, abin_shr, load1V, loadV, storeV, cellsAt, getN, setN, allocV, lenL, lenS, bnd, oneC, Value.oneCell', Nat.reduceLeDiff, Nat.reduceLT, exists_eq_left', forall_const, reduceCtorEq, app_new, app_new0, List.append_assoc, Int.reduceToNat, Int.reduceLT, Int.reduceLE, Int.reduceEq, Int.reduceNe, Int.reduceBEq, IntKind.bits, bne_self_eq_false, Int.reducePow, r4, r16, wk, hk5']
          refine room_push (out := out ++ [1]) E' rfl (by simp [ev, Ai.get]) rfl hR' (by omega) (by simp; omega) fun h2 E2 hR2 => ?_
          simp only [sx, x_box, x_alloc, x_bslice, x_slice, x_append, x_appz, x_b2s, x_s2b, x_mark, xop, ev, evs, evParts, fillL, cellsL, Ai.get, Ai.put, stab, isNil?, if_false, if_true, addr?, int?, str?, agg?, bool?, shiftA, FnPost, xresL, xres1, tup, argEnv, ptr, Nat.reduceEqDiff, reduceIte, beq_self_eq_true, ne_eq, Nat.reduceAdd, Nat.reduceMul, Nat.reduceSub, abin_shl, abin_shr, load1V, loadV, storeV, cellsAt, getN, setN, allocV, lenL, lenS, bnd, oneC, Value.oneCell', Nat.reduceLeDiff, Nat.reduceLT, exists_eq_left', forall_const, reduceCtorEq, app_new, app_new0, List.append_assoc, Int.reduceToNat, Int.reduceLT, Int.reduceLE, Int.reduceEq, Int.reduceNe, Int.reduceBEq, IntKind.bits, bne_self_eq_false, Int.reducePow, r4, r16, wk, wi]
          exact ⟨m - 1, by omega, i + 1, 0, out ++ [1] ++ [0], by omega, rfl, r15, r14, by simp [Ai.get], rfl, E2, hR2, by rw [hst]; simp, by decide⟩
        · have hk5' : ¬ ((k + 1 : Nat) : Int) = 5 := by omega
          rw [stf_one _ hk5] at hst hlen
          simp only [List.length_cons] at hlen
          simp only [sx, x_box, x_alloc, x_bslice, x_slice, x_appz, x_b2s, x_s2b, x_mark, xop, ev, evs, evParts, fillL, cellsL, Ai.get, Ai.put, stab, isNil?, if_false, if_true, addr?, int?, str?, agg?, bool?, shiftA, FnPost, xresL, xres1, tup, argEnv, ptr, Nat.reduceEqDiff, reduceIte, beq_self_eq_true, ne_eq, Nat.reduceAdd, Nat.reduceMul, Nat.reduceSub, abin_shl, abin_shr, load1V, loadV, storeV, cellsAt, getN, setN, allocV, lenL, lenS, bnd, oneC, Value.oneCell', Nat.reduceLeDiff, Nat.reduceLT, exists_eq_left', forall_const, reduceCtorEq, app_new, app_new0, List.append_assoc, Int.reduceToNat, Int.reduceLT, Int.reduceLE, Int.reduceEq, Int.reduceNe, Int.reduceBEq, IntKind.bits, bne_self_eq_false, Int.reducePow, r16, r15, r14, r3, hi', hi0, a1, a2, a3, Nat.mul_one]
          refine room_push E rfl rfl rfl hR (by omega) (by omega) fun h' E' hR' => ?_
          simp only [sx, x_box, x_alloc, x_bslice, x_slice, x_append, x_appz, x_b2s, x_s2b, x_mark, xop, ev, evs, evParts, fillL, cellsL, Ai.get, Ai.put, stab, isNil?, if_false, if_true, addr?, int?, str?, agg?, bool?, shiftA, FnPost, xresL, xres1, tup, argEnv, ptr, Nat.reduceEqDiff, reduceIte, beq_self_eq_true, ne_eq, Nat.reduceAdd, Nat.reduceMul, Nat.reduceSub, abin_shl, abin_shr, load1V, loadV, storeV, cellsAt, getN, setN, allocV, lenL, lenS, bnd, oneC, Value.oneCell', Nat.reduceLeDiff, Nat.reduceLT, exists_eq_left', forall_const, reduceCtorEq, app_new, app_new0, List.append_assoc, Int.reduceToNat, Int.reduceLT, Int.reduceLE, Int.reduceEq, Int.reduceNe, Int.reduceBEq, IntKind.bits, bne_self_eq_false, Int.reducePow, r4, r16, wk, wi, hk5']
          exact ⟨m - 1, by omega, i + 1, k + 1, out ++ [1], by omega, rfl, r15, r14, by simp [Ai.get], rfl, E', hR', by rw [hst]; simp, by omega⟩
    · have hi' : ¬ (i : Int) < (n : Nat) := by omega
      have hin : i = n := by omega
      subst hin
      rw [List.drop_eq_nil_of_le (by omega), stf, List.append_nil] at hst
      simp only [sx, x_box, x_alloc, x_bslice, x_slice, x_append, x_appz, x_b2s, x_s2b, x_mark, xop, ev, evs, evParts, fillL, cellsL, Ai.get, Ai.put, stab, isNil?, if_false, if_true, addr?, int?, str?, agg?, bool?, shiftA, FnPost, xresL, xres1, tup, argEnv, ptr, Nat.reduceEqDiff, reduceIte, beq_self_eq_true, ne_eq, Nat.reduceAdd, Nat.reduceMul, Nat.reduceSub, abin_shl, abin_shr, load1V, loadV, storeV, cellsAt, getN, setN, allocV, lenL, lenS, bnd, oneC, Value.oneCell', Nat.reduceLeDiff, Nat.reduceLT, exists_eq_left', forall_const, reduceCtorEq, app_new, app_new0, List.append_assoc, Int.reduceToNat, Int.reduceLT, Int.reduceLE, Int.reduceEq, Int.reduceNe, Int.reduceBEq, IntKind.bits, bne_self_eq_false, Int.reducePow, r16, r15, hi']
      unfold SuE
      rw [hst]
      exact ⟨r3, E, hR⟩
  · rintro ρ g ⟨r3, E, hR⟩
    simp only [sx, x_box, x_alloc, x_bslice, x_slice, x_append, x_appz, x_b2s, x_s2b, x_mark, xop, ev, evs, evParts, fillL, cellsL, Ai.get, Ai.put, stab, isNil?, if_false, if_true, addr?, int?, str?, agg?, bool?, shiftA, FnPost, xresL, xres1, tup, argEnv, ptr, Nat.reduceEqDiff, reduceIte, beq_self_eq_true, ne_eq, Nat.reduceAdd, Nat.reduceMul, Nat.reduceSub, abin_shl, abin_shr, load1V, loadV, storeV, cellsAt, getN, setN, allocV, lenL, lenS, bnd, oneC, Value.oneCell', Nat.reduceLeDiff, Nat.reduceLT, exists_eq_left', forall_const, reduceCtorEq, app_new, app_new0, List.append_assoc, Int.reduceToNat, Int.reduceLT, Int.reduceLE, Int.reduceEq, Int.reduceNe, Int.reduceBEq, IntKind.bits, bne_self_eq_false, Int.reducePow, r3]
    refine xcall (clipK_ok (by unfold unk; omega) htot) (by rfl) (by rfl) (by rfl) (by rfl) ?_
    rintro r g2 ⟨rfl, e0⟩
    subst e0
    simp only [sx, x_box, x_alloc, x_bslice, x_slice, x_append, x_appz, x_b2s, x_s2b, x_mark, xop, ev, evs, evParts, fillL, cellsL, Ai.get, Ai.put, stab, isNil?, if_false, if_true, addr?, int?, str?, agg?, bool?, shiftA, FnPost, xresL, xres1, tup, argEnv, ptr, Nat.reduceEqDiff, reduceIte, beq_self_eq_true, ne_eq, Nat.reduceAdd, Nat.reduceMul, Nat.reduceSub, abin_shl, abin_shr, load1V, loadV, storeV, cellsAt, getN, setN, allocV, lenL, lenS, bnd, oneC, Value.oneCell', Nat.reduceLeDiff, Nat.reduceLT, exists_eq_left', forall_const, reduceCtorEq, app_new, app_new0, List.append_assoc, Int.reduceToNat, Int.reduceLT, Int.reduceLE, Int.reduceEq, Int.reduceNe, Int.reduceBEq, IntKind.bits, bne_self_eq_false, Int.reducePow]
    exact ⟨h.length, rfl, first_pre hR rfl, E, Nat.le_refl _, lt_of_get hR⟩
end Go.Proofs.YtimfgagdfmmeeaaDoor
