import Derived.Test.YtkonlakldafbeaaB8
import Derived.Test.YtkonlakldafbeaaRun
set_option linter.unusedVariables false
set_option linter.unusedSimpArgs false
namespace Go.Proofs.Ytkonlakldafbeaa
open Go Go.Ai Go.Proofs

theorem rcheck_ok {h : AHeap} {q : Option Addr} {n c : Nat} {zs : List Int} (hf : firstV 1 h n (.slice q n c) = some (bR zs)) (hn : n ≤ 1152921504606846976) :
    Valid Try.prog 13 [.slice q n c] h fun r h' => r = .int .i64 (checkV zs) ∧ h' = h := by
  refine v13 (by simp) ?_
  have hl := firstV_len hf
  rw [bR_len, Nat.mul_one] at hl
  unfold checkV
  rw [hl]
  by_cases hb : 1048576 < n
  · have hb' : (1048576 : Int) < n := by omega
    simp [X13, x_mv, x_pick, x_box, x_alloc, x_build, x_bslice, x_load1, x_loadN, x_store, x_nilck, x_bin, x_beq, x_isnil, x_eqs, x_un, x_conv, x_faddr, x_field1, x_fieldN, x_iaddr, x_iaddrA, x_idxA1, x_idxAN, x_idxS, x_slice, x_sliceS, x_sliceA, x_len, x_lenK, x_cap, x_mm, x_append, x_copy, x_mkslice, x_appz, x_b2s, x_extract, x_mkfunc, xcode_skip, xcode_region, xcode_seq, xcode_cond, xcode_block, xcode_scope, xcode_exit, xcode_ret, xcode_both, kSeq_normal, kSeq_ret, kSeq_exit, kBlock_normal, kBlock_ret, kBlock_exit, kScope_normal, kScope_ret, kScope_exit, kLoop_normal, kLoop_ret, kLoop_exit, xcond_true, xcond_false, xthen_some, xthen_none, xgrd_true, xgrd_false, xops_g, xops_nil, xop, ev, evs, evParts, fillL, cellsL, Ai.get, Ai.put, Option.map_some, Option.map_none, guardv_none, guardv_t, guardv_f, gdT_bool, gdF_bool, gdT_undef, gdF_undef, stab, true_and, and_true, Option.bind_some, Option.bind_none, isNil?, Bool.false_eq_true, if_false, if_true, Option.isNone_some, Option.isNone_none, Option.isSome_some, Option.isSome_none, addr?, int?, str?, agg?, bool?, shiftA, FnPost, xresL, xres1, tup, argEnv, ptr, Nat.reduceEqDiff, reduceIte, beq_self_eq_true, ne_eq, not_true_eq_false, not_false_eq_true, List.getElem?_cons_zero, List.getElem?_cons_succ, Nat.zero_add, Nat.add_zero, Bool.not_true, Bool.not_false, Nat.reduceAdd, Nat.reduceMul, Nat.reduceSub, abin_add, abin_sub, abin_mul, abin_eql, abin_neq, abin_lss, abin_leq, abin_gtr, abin_geq, abin_quo, abin_rem, abin_shl, abin_shr, abin_seql, abin_sneq, aun_not, aun_neg, load1V, loadV, storeV, cellsAt, getN, setN, allocV, lenL, lenS, bnd, List.length_cons, List.length_nil, List.all_cons, List.all_nil, oneC, Value.oneCell', Bool.and_self, List.set_cons_zero, List.set_cons_succ, Nat.reduceLeDiff, and_self, Nat.reduceLT, Value.bool.injEq, Option.some.injEq, exists_eq_left', false_implies, true_implies, forall_const, reduceCtorEq, Bool.true_eq_false, app_new, app_new0, set_new, set_new0, List.append_assoc, List.cons_append, List.nil_append, List.length_append, Int.reduceToNat, Int.reduceLT, Int.reduceLE, Int.reduceEq, Int.reduceNe, Int.reduceBEq, decide_true, decide_false, IntKind.bits, bne_self_eq_false, Option.bind_eq_bind, Option.pure_def, app_newS, app_new0S, set_newS, set_new0S, List.length_set, Int.cast_ofNat_Int, Int.reducePow, Nat.min_eq_left, Int.toNat_natCast, hb, hb']
  · have hb' : ¬ (1048576 : Int) < n := by omega
    simp only [X13, x_mv, x_pick, x_box, x_alloc, x_build, x_bslice, x_load1, x_loadN, x_store, x_nilck, x_bin, x_beq, x_isnil, x_eqs, x_un, x_conv, x_faddr, x_field1, x_fieldN, x_iaddr, x_iaddrA, x_idxA1, x_idxAN, x_idxS, x_slice, x_sliceS, x_sliceA, x_len, x_lenK, x_cap, x_mm, x_append, x_copy, x_mkslice, x_appz, x_b2s, x_extract, x_mkfunc, xcode_skip, xcode_region, xcode_seq, xcode_cond, xcode_block, xcode_scope, xcode_exit, xcode_ret, xcode_both, kSeq_normal, kSeq_ret, kSeq_exit, kBlock_normal, kBlock_ret, kBlock_exit, kScope_normal, kScope_ret, kScope_exit, kLoop_normal, kLoop_ret, kLoop_exit, xcond_true, xcond_false, xthen_some, xthen_none, xgrd_true, xgrd_false, xops_g, xops_nil, xop, ev, evs, evParts, fillL, cellsL, Ai.get, Ai.put, Option.map_some, Option.map_none, guardv_none, guardv_t, guardv_f, gdT_bool, gdF_bool, gdT_undef, gdF_undef, stab, true_and, and_true, Option.bind_some, Option.bind_none, isNil?, Bool.false_eq_true, if_false, if_true, Option.isNone_some, Option.isNone_none, Option.isSome_some, Option.isSome_none, addr?, int?, str?, agg?, bool?, shiftA, FnPost, xresL, xres1, tup, argEnv, ptr, Nat.reduceEqDiff, reduceIte, beq_self_eq_true, ne_eq, not_true_eq_false, not_false_eq_true, List.getElem?_cons_zero, List.getElem?_cons_succ, Nat.zero_add, Nat.add_zero, Bool.not_true, Bool.not_false, Nat.reduceAdd, Nat.reduceMul, Nat.reduceSub, abin_add, abin_sub, abin_mul, abin_eql, abin_neq, abin_lss, abin_leq, abin_gtr, abin_geq, abin_quo, abin_rem, abin_shl, abin_shr, abin_seql, abin_sneq, aun_not, aun_neg, load1V, loadV, storeV, cellsAt, getN, setN, allocV, lenL, lenS, bnd, List.length_cons, List.length_nil, List.all_cons, List.all_nil, oneC, Value.oneCell', Bool.and_self, List.set_cons_zero, List.set_cons_succ, Nat.reduceLeDiff, and_self, Nat.reduceLT, Value.bool.injEq, Option.some.injEq, exists_eq_left', false_implies, true_implies, forall_const, reduceCtorEq, Bool.true_eq_false, app_new, app_new0, set_new, set_new0, List.append_assoc, List.cons_append, List.nil_append, List.length_append, Int.reduceToNat, Int.reduceLT, Int.reduceLE, Int.reduceEq, Int.reduceNe, Int.reduceBEq, decide_true, decide_false, IntKind.bits, bne_self_eq_false, Option.bind_eq_bind, Option.pure_def, app_newS, app_new0S, set_newS, set_new0S, List.length_set, Int.cast_ofNat_Int, Int.reducePow, Nat.min_eq_left, Int.toNat_natCast, hb', hb]
    refine xcode_loop (fun m ρ h' => ∃ i, i + m = n ∧ get ρ 3 = some (.int .i64 (i : Nat)) ∧ get ρ 0 = some (.slice q n c) ∧ h' = h ∧ ∀ j (z : Int), j < i → zs[j]? = some z → ¬ 1 < z) n ⟨0, by simp, rfl, rfl, rfl, fun j z h => by omega⟩ ?_
    rintro m ρ h' ⟨i, him, g3, g0, rfl, hp⟩
    by_cases hlt : i < n
    · have hlt' : (i : Int) < n := by omega
      have hge : (0 : Int) ≤ i := by omega
      have hw : IntKind.i64.wrap ((i : Int) + 1) = ((i + 1 : Nat) : Int) := by rw [i64_wrap] <;> omega
      obtain ⟨a, o, z, rfl, a1, a2, a3, a4⟩ := elemB hf hlt
      by_cases hz : 1 < z
      · have e : ∃ z ∈ zs, 1 < z := ⟨z, List.mem_of_getElem? a4, hz⟩
        simp only [x_mv, x_pick, x_box, x_alloc, x_build, x_bslice, x_load1, x_loadN, x_store, x_nilck, x_bin, x_beq, x_isnil, x_eqs, x_un, x_conv, x_faddr, x_field1, x_fieldN, x_iaddr, x_iaddrA, x_idxA1, x_idxAN, x_idxS, x_slice, x_sliceS, x_sliceA, x_len, x_lenK, x_cap, x_mm, x_append, x_copy, x_mkslice, x_appz, x_b2s, x_extract, x_mkfunc, xcode_skip, xcode_region, xcode_seq, xcode_cond, xcode_block, xcode_scope, xcode_exit, xcode_ret, xcode_both, kSeq_normal, kSeq_ret, kSeq_exit, kBlock_normal, kBlock_ret, kBlock_exit, kScope_normal, kScope_ret, kScope_exit, kLoop_normal, kLoop_ret, kLoop_exit, xcond_true, xcond_false, xthen_some, xthen_none, xgrd_true, xgrd_false, xops_g, xops_nil, xop, ev, evs, evParts, fillL, cellsL, Ai.get, Ai.put, Option.map_some, Option.map_none, guardv_none, guardv_t, guardv_f, gdT_bool, gdF_bool, gdT_undef, gdF_undef, stab, true_and, and_true, Option.bind_some, Option.bind_none, isNil?, Bool.false_eq_true, if_false, if_true, Option.isNone_some, Option.isNone_none, Option.isSome_some, Option.isSome_none, addr?, int?, str?, agg?, bool?, shiftA, FnPost, xresL, xres1, tup, argEnv, ptr, Nat.reduceEqDiff, reduceIte, beq_self_eq_true, ne_eq, not_true_eq_false, not_false_eq_true, List.getElem?_cons_zero, List.getElem?_cons_succ, Nat.zero_add, Nat.add_zero, Bool.not_true, Bool.not_false, Nat.reduceAdd, Nat.reduceMul, Nat.reduceSub, abin_add, abin_sub, abin_mul, abin_eql, abin_neq, abin_lss, abin_leq, abin_gtr, abin_geq, abin_quo, abin_rem, abin_shl, abin_shr, abin_seql, abin_sneq, aun_not, aun_neg, load1V, loadV, storeV, cellsAt, getN, setN, allocV, lenL, lenS, bnd, List.length_cons, List.length_nil, List.all_cons, List.all_nil, oneC, Value.oneCell', Bool.and_self, List.set_cons_zero, List.set_cons_succ, Nat.reduceLeDiff, and_self, Nat.reduceLT, Value.bool.injEq, Option.some.injEq, exists_eq_left', false_implies, true_implies, forall_const, reduceCtorEq, Bool.true_eq_false, app_new, app_new0, set_new, set_new0, List.append_assoc, List.cons_append, List.nil_append, List.length_append, Int.reduceToNat, Int.reduceLT, Int.reduceLE, Int.reduceEq, Int.reduceNe, Int.reduceBEq, decide_true, decide_false, IntKind.bits, bne_self_eq_false, Option.bind_eq_bind, Option.pure_def, app_newS, app_new0S, set_newS, set_new0S, List.length_set, Int.cast_ofNat_Int, Int.reducePow, Nat.min_eq_left, Int.toNat_natCast, g3, g0, hlt', hge, a1, a2, a3, Nat.mul_one, hz, e]
      · simp only [x_mv, x_pick, x_box, x_alloc, x_build, x_bslice, x_load1, x_loadN, x_store, x_nilck, x_bin, x_beq, x_isnil, x_eqs, x_un, x_conv, x_faddr, x_field1, x_fieldN, x_iaddr, x_iaddrA, x_idxA1, x_idxAN, x_idxS, x_slice, x_sliceS, x_sliceA, x_len, x_lenK, x_cap, x_mm, x_append, x_copy, x_mkslice, x_appz, x_b2s, x_extract, x_mkfunc, xcode_skip, xcode_region, xcode_seq, xcode_cond, xcode_block, xcode_scope, xcode_exit, xcode_ret, xcode_both, kSeq_normal, kSeq_ret, kSeq_exit, kBlock_normal, kBlock_ret, kBlock_exit, kScope_normal, kScope_ret, kScope_exit, kLoop_normal, kLoop_ret, kLoop_exit, xcond_true, xcond_false, xthen_some, xthen_none, xgrd_true, xgrd_false, xops_g, xops_nil, xop, ev, evs, evParts, fillL, cellsL, Ai.get, Ai.put, Option.map_some, Option.map_none, guardv_none, guardv_t, guardv_f, gdT_bool, gdF_bool, gdT_undef, gdF_undef, stab, true_and, and_true, Option.bind_some, Option.bind_none, isNil?, Bool.false_eq_true, if_false, if_true, Option.isNone_some, Option.isNone_none, Option.isSome_some, Option.isSome_none, addr?, int?, str?, agg?, bool?, shiftA, FnPost, xresL, xres1, tup, argEnv, ptr, Nat.reduceEqDiff, reduceIte, beq_self_eq_true, ne_eq, not_true_eq_false, not_false_eq_true, List.getElem?_cons_zero, List.getElem?_cons_succ, Nat.zero_add, Nat.add_zero, Bool.not_true, Bool.not_false, Nat.reduceAdd, Nat.reduceMul, Nat.reduceSub, abin_add, abin_sub, abin_mul, abin_eql, abin_neq, abin_lss, abin_leq, abin_gtr, abin_geq, abin_quo, abin_rem, abin_shl, abin_shr, abin_seql, abin_sneq, aun_not, aun_neg, load1V, loadV, storeV, cellsAt, getN, setN, allocV, lenL, lenS, bnd, List.length_cons, List.length_nil, List.all_cons, List.all_nil, oneC, Value.oneCell', Bool.and_self, List.set_cons_zero, List.set_cons_succ, Nat.reduceLeDiff, and_self, Nat.reduceLT, Value.bool.injEq, Option.some.injEq, exists_eq_left', false_implies, true_implies, forall_const, reduceCtorEq, Bool.true_eq_false, app_new, app_new0, set_new, set_new0, List.append_assoc, List.cons_append, List.nil_append, List.length_append, Int.reduceToNat, Int.reduceLT, Int.reduceLE, Int.reduceEq, Int.reduceNe, Int.reduceBEq, decide_true, decide_false, IntKind.bits, bne_self_eq_false, Option.bind_eq_bind, Option.pure_def, app_newS, app_new0S, set_newS, set_new0S, List.length_set, Int.cast_ofNat_Int, Int.reducePow, Nat.min_eq_left, Int.toNat_natCast, g3, g0, hlt', hge, a1, a2, a3, Nat.mul_one, hz, hw]
        refine ⟨m - 1, by omega, i + 1, by omega, rfl, fun j y hj hy => ?_⟩
        rcases Nat.lt_or_ge j i with h | h
        · exact hp j y h hy
        · rw [show j = i by omega, a4] at hy; cases hy; exact hz
    · have hlt' : ¬ (i : Int) < n := by omega
      have e : ¬ ∃ z ∈ zs, 1 < z := by
        rintro ⟨z, hz, h1⟩
        obtain ⟨j, hj, rfl⟩ := List.mem_iff_getElem.1 hz
        exact hp j _ (by omega) (List.getElem?_eq_getElem hj) h1
      simp only [x_mv, x_pick, x_box, x_alloc, x_build, x_bslice, x_load1, x_loadN, x_store, x_nilck, x_bin, x_beq, x_isnil, x_eqs, x_un, x_conv, x_faddr, x_field1, x_fieldN, x_iaddr, x_iaddrA, x_idxA1, x_idxAN, x_idxS, x_slice, x_sliceS, x_sliceA, x_len, x_lenK, x_cap, x_mm, x_append, x_copy, x_mkslice, x_appz, x_b2s, x_extract, x_mkfunc, xcode_skip, xcode_region, xcode_seq, xcode_cond, xcode_block, xcode_scope, xcode_exit, xcode_ret, xcode_both, kSeq_normal, kSeq_ret, kSeq_exit, kBlock_normal, kBlock_ret, kBlock_exit, kScope_normal, kScope_ret, kScope_exit, kLoop_normal, kLoop_ret, kLoop_exit, xcond_true, xcond_false, xthen_some, xthen_none, xgrd_true, xgrd_false, xops_g, xops_nil, xop, ev, evs, evParts, fillL, cellsL, Ai.get, Ai.put, Option.map_some, Option.map_none, guardv_none, guardv_t, guardv_f, gdT_bool, gdF_bool, gdT_undef, gdF_undef, stab, true_and, and_true, Option.bind_some, Option.bind_none, isNil?, Bool.false_eq_true, if_false, if_true, Option.isNone_some, Option.isNone_none, Option.isSome_some, Option.isSome_none, addr?, int?, str?, agg?, bool?, shiftA, FnPost, xresL, xres1, tup, argEnv, ptr, Nat.reduceEqDiff, reduceIte, beq_self_eq_true, ne_eq, not_true_eq_false, not_false_eq_true, List.getElem?_cons_zero, List.getElem?_cons_succ, Nat.zero_add, Nat.add_zero, Bool.not_true, Bool.not_false, Nat.reduceAdd, Nat.reduceMul, Nat.reduceSub, abin_add, abin_sub, abin_mul, abin_eql, abin_neq, abin_lss, abin_leq, abin_gtr, abin_geq, abin_quo, abin_rem, abin_shl, abin_shr, abin_seql, abin_sneq, aun_not, aun_neg, load1V, loadV, storeV, cellsAt, getN, setN, allocV, lenL, lenS, bnd, List.length_cons, List.length_nil, List.all_cons, List.all_nil, oneC, Value.oneCell', Bool.and_self, List.set_cons_zero, List.set_cons_succ, Nat.reduceLeDiff, and_self, Nat.reduceLT, Value.bool.injEq, Option.some.injEq, exists_eq_left', false_implies, true_implies, forall_const, reduceCtorEq, Bool.true_eq_false, app_new, app_new0, set_new, set_new0, List.append_assoc, List.cons_append, List.nil_append, List.length_append, Int.reduceToNat, Int.reduceLT, Int.reduceLE, Int.reduceEq, Int.reduceNe, Int.reduceBEq, decide_true, decide_false, IntKind.bits, bne_self_eq_false, Option.bind_eq_bind, Option.pure_def, app_newS, app_new0S, set_newS, set_new0S, List.length_set, Int.cast_ofNat_Int, Int.reducePow, Nat.min_eq_left, Int.toNat_natCast, g3, g0, hlt', e]

theorem lit_first (g : AHeap) (zs : List Int) {n : Nat} (hn : n = zs.length) : firstV 1 (g ++ [some ⟨true, bR zs⟩]) n (.slice (some ⟨g.length, 0, none⟩) n n) = some (bR zs) := by
  subst hn
  simp only [firstV, cellsAt, app_new0, List.getElem?_cons_zero]
  split
  · rename_i h0; rw [List.eq_nil_of_length_eq_zero h0]; rfl
  · simp only [ne_eq, not_true_eq_false, if_false, Option.bind_some]
    exact getN_all _ _ (by rw [bR_len, Nat.mul_one])
theorem lit_firstI (g : AHeap) (zs : List Int) {n : Nat} (hn : n = zs.length) : firstV 1 (g ++ [some ⟨true, iR zs⟩]) n (.slice (some ⟨g.length, 0, none⟩) n n) = some (iR zs) := by
  subst hn
  simp only [firstV, cellsAt, app_new0, List.getElem?_cons_zero]
  split
  · rename_i h0; rw [List.eq_nil_of_length_eq_zero h0]; rfl
  · simp only [ne_eq, not_true_eq_false, if_false, Option.bind_some]
    exact getN_all _ _ (by rw [iR_len, Nat.mul_one])
theorem blk_first {g : AHeap} {R n c : Nat} {zs : List Int} (hg : g[R]? = some (some ⟨true, bR zs⟩)) (hn : n = zs.length) : firstV 1 g n (.slice (some ⟨R, 0, none⟩) n c) = some (bR zs) := by
  subst hn
  simp only [firstV, cellsAt, hg]
  split
  · rename_i h0; rw [List.eq_nil_of_length_eq_zero h0]; rfl
  · simp only [ne_eq, not_true_eq_false, if_false, Option.bind_some]
    exact getN_all _ _ (by rw [bR_len, Nat.mul_one])

/-- a copy that is appended to: g is the heap before it -/
def RX (g h : AHeap) (sl : Value) (zs : List Int) : Prop := RN h sl zs ∧ Ext g h ∧ ∀ A, slB sl = some A → g.length ≤ A
theorem RX.nil (h : AHeap) : RX h h (.slice none 0 0) [] := ⟨.inl ⟨rfl, rfl⟩, Ext.refl h, by simp [slB]⟩
theorem RX.ext {g h h' : AHeap} {sl : Value} {zs : List Int} (r : RX g h sl zs) (e : Ext h h') : RX g h' sl zs := ⟨r.1.ext e, r.2.1.trans e, r.2.2⟩
theorem RX.run {K : Env → AHeap → Prop} {r : List XOper} {ρ : Env} {g h : AHeap} {zs news : List Int} {d : Option Nat} {s x : XA} {sl : Value} {q : Option Addr} {m c : Nat} (R : RX g h sl zs)
    (hs : ev ρ s = some sl) (hx : ev ρ x = some (.slice q m c)) (hf : firstV 1 g m (.slice q m c) = some (bR news)) (hb : zs.length + m ≤ 1048576)
    (hK : ∀ sl' h', RX g h' sl' (zs ++ news) → xops Try.prog K r (put d sl' ρ) h') :
    xops Try.prog K (⟨d, none, .append 1 1 [.int .u8 0] s x, []⟩ :: r) ρ h := by
  have hml := firstV_len hf
  rw [bR_len, Nat.mul_one] at hml
  subst hml
  refine R.1.append hs hx rfl (R.2.1.first hf) hb fun sl' h' R' hl hfr hsl hor => ?_
  refine hK sl' h' ⟨R', ⟨by have := R.2.1.1; omega, fun B hB => ?_⟩, fun A hA => ?_⟩
  · have := R.2.1.1
    rw [hfr B (by omega) (fun e => by have := R.2.2 B e; omega)]
    exact R.2.1.2 B hB
  · rcases hsl A hA with h1 | h1
    · exact R.2.2 A h1
    · have := R.2.1.1; omega
/-- a view of it -/
theorem RX.first {g h : AHeap} {sl : Value} {zs : List Int} (r : RX g h sl zs) : ∃ q c, sl = .slice q zs.length c ∧ firstV 1 h zs.length (.slice q zs.length c) = some (bR zs) ∧ (∀ a, q = some a → a.spot = none) ∧ ((zs.length ≤ c ∧ c < unk) ∨ (c = unk + 1 ∧ q ≠ none)) := by
  rcases r.1 with ⟨rfl, rfl⟩ | ⟨A, rfl, hA⟩
  · exact ⟨none, 0, rfl, rfl, by simp, .inl ⟨by simp, by unfold unk; omega⟩⟩
  · exact ⟨_, _, rfl, blk_first hA rfl, fun a ha => by cases ha; rfl, .inr ⟨rfl, by simp⟩⟩

def octC (zs : List Int) : Int := if checkV zs ≠ 0 then checkV zs else if zs.length % 8 ≠ 0 then 5 else 0
theorem octets_any {h : AHeap} {q : Option Addr} {n c : Nat} {zs : List Int} (hf : firstV 1 h n (.slice q n c) = some (bR zs)) (hn : n ≤ 1048576) (hp : ∀ z ∈ zs, 0 ≤ z) (hcap : (n ≤ c ∧ c < unk) ∨ (c = unk + 1 ∧ q ≠ none)) (hsp : ∀ a, q = some a → a.spot = none) :
    Valid Try.prog 12 [.slice q n c] h fun r h' => Ext h h' ∧ ((octC zs ≠ 0 ∧ r = .tuple #[.slice none 0 0, .int .i64 (octC zs)]) ∨ (octC zs = 0 ∧ ∃ R, r = .tuple #[.slice (some ⟨R, 0, none⟩) (octs zs).length (octs zs).length, .int .i64 0] ∧ h'[R]? = some (some ⟨true, bR (octs zs)⟩))) := by
  have hzl := firstV_len hf
  rw [bR_len, Nat.mul_one] at hzl
  unfold octC
  by_cases hc : checkV zs = 0
  · rw [if_neg (by simp [hc])]
    by_cases hw : zs.length % 8 = 0
    · rw [if_neg (by simp [hw])]
      refine (octets_ok hf hn hc hp (by omega) hcap hsp).mono ?_
      rintro r h' ⟨R, rfl, -, -, E, hR⟩
      refine ⟨E, .inr ⟨rfl, R, ?_, hR⟩⟩
      rw [octs_len, hzl]
    · rw [if_pos hw]
      refine (octets_width hf (by omega) hc (by omega)).mono ?_
      rintro r h' ⟨rfl, E⟩
      exact ⟨E, .inl ⟨by decide, rfl⟩⟩
  · rw [if_pos hc]
    refine (octets_bad hf (by omega) hc).mono ?_
    rintro r h' ⟨rfl, E⟩
    exact ⟨E, .inl ⟨hc, rfl⟩⟩
end Go.Proofs.Ytkonlakldafbeaa
