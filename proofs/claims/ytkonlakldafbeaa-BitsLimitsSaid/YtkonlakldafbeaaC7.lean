import Derived.Test.YtkonlakldafbeaaC4
import Derived.Test.YtkonlakldafbeaaAiXa
import Derived.Test.YtkonlakldafbeaaC5
set_option linter.unusedVariables false
set_option linter.unusedSimpArgs false
namespace Go.Proofs.Ytkonlakldafbeaa
open Go Go.Ai Go.Proofs

theorem bytesFold : ∀ (zs : List Int) (b : ByteArray), (∀ z ∈ zs, 0 ≤ z ∧ z ≤ 255) → ∃ s : ByteArray, (bR zs).foldlM (fun (s : ByteArray) v => match v with | .int .u8 n => some (s.push (UInt8.ofNat n.toNat)) | _ => none) b = some s ∧ streamOf s = streamOf b ++ zs.map (· % 2)
  | [], b, _ => ⟨b, rfl, by simp⟩
  | z :: zs, b, h => by
    obtain ⟨s, h1, h2⟩ := bytesFold zs (b.push (UInt8.ofNat z.toNat)) fun y hy => h y (by simp [hy])
    refine ⟨s, by simpa [bR, List.foldlM_cons] using h1, ?_⟩
    rw [h2]
    have hz := h z (by simp)
    have e : streamOf (b.push (UInt8.ofNat z.toNat)) = streamOf b ++ [z % 2] := by
      unfold streamOf
      rw [show (b.push (UInt8.ofNat z.toNat)).data = b.data.push (UInt8.ofNat z.toNat) from rfl]
      simp only [Array.toList_push, List.map_append, List.map_cons, List.map_nil]
      congr 2
      have : (UInt8.ofNat z.toNat).toNat = z.toNat := by simp [UInt8.toNat_ofNat']; omega
      rw [this]; omega
    rw [e, List.append_assoc]; rfl
theorem bytes_str {zs : List Int} (h : ∀ z ∈ zs, 0 ≤ z ∧ z ≤ 255) : ∃ s : ByteArray, bytesOf (bR zs) = some s ∧ streamOf s = zs.map (· % 2) := by
  cases zs with
  | nil => exact ⟨ByteArray.empty, rfl, rfl⟩
  | cons z zs =>
    obtain ⟨s, h1, h2⟩ := bytesFold (z :: zs) ByteArray.empty h
    exact ⟨s, h1, by rw [h2]; rfl⟩
theorem b2s_run {ρ : Env} {h : AHeap} {x : XA} {qs : Option Addr} {m cs : Nat} {zs : List Int} {str : ByteArray} (hx : ev ρ x = some (.slice qs m cs)) (hf : firstV 1 h m (.slice qs m cs) = some (bR zs)) (hb : bytesOf (bR zs) = some str) : xop (.b2s x) ρ h = some (.string str, h) := by
  cases qs with
  | none =>
    simp only [firstV] at hf
    split at hf
    · have hz : [] = bR zs := Option.some.inj hf
      have : bytesOf [] = some ByteArray.empty := rfl
      rw [← hz, this] at hb
      cases hb
      simp [xop, hx]
    · cases hf
  | some a =>
    simp only [firstV] at hf
    simp only [xop, hx, Option.bind_some]
    by_cases h0 : m = 0
    · rw [if_pos h0] at hf ⊢
      cases hz : bR zs with
      | nil => rw [hz] at hb; simp [hb]
      | cons y ys => rw [hz] at hf; cases hf
    · rw [if_neg h0] at hf ⊢
      split at hf
      · cases hf
      · rename_i hsp
        simp only [loadV, if_neg hsp]
        rw [Nat.mul_one] at hf
        rw [hf]
        simp [hb]

/-- the long stream -/
def sL (N : Nat) (bad : Bool) : List Int := if bad then (List.replicate N (0 : Int)).set 0 9 else List.replicate N 0
theorem sL_len (N : Nat) (bad : Bool) : (sL N bad).length = N := by unfold sL; cases bad <;> simp
theorem sL_byte (N : Nat) (bad : Bool) : ∀ z ∈ sL N bad, 0 ≤ z ∧ z ≤ 255 := by
  intro z hz
  unfold sL at hz
  cases bad
  · have := List.eq_of_mem_replicate (by simpa using hz); omega
  · rcases List.mem_or_eq_of_mem_set (show z ∈ (List.replicate N (0 : Int)).set 0 9 by simpa using hz) with h | h
    · have := List.eq_of_mem_replicate h; omega
    · omega
theorem sL_drop (N : Nat) (bad : Bool) : ∀ z ∈ (sL N bad).drop 1, z = 0 := by
  intro z hz
  unfold sL at hz
  cases bad
  · exact List.eq_of_mem_replicate (List.mem_of_mem_drop (by simpa using hz))
  · obtain ⟨i, hi, rfl⟩ := List.mem_iff_getElem.1 hz
    simp only [if_true, List.getElem_drop]
    rw [List.getElem_set_ne (by omega)]
    simp
theorem checkV_big {zs : List Int} (h : 1048576 < zs.length) : checkV zs = 3 := by unfold checkV; rw [if_pos h]
theorem checkV_zero {zs : List Int} (h : zs.length ≤ 1048576) (h0 : ∀ z ∈ zs, z = 0) : checkV zs = 0 := by
  unfold checkV
  rw [if_neg (by omega), if_neg]
  rintro ⟨z, hz, h1⟩
  rw [h0 z hz] at h1; omega

set_option maxHeartbeats 4000000 in
set_option maxRecDepth 20000 in
theorem limits_law {h : AHeap} {more : Int} {bad : Bool} (hm : 0 ≤ more ∧ more ≤ 255) :
    Valid Try.prog 9 [.int .u8 more, .bool bad] h fun r h' => r = .bool true := by
  refine v9 (by simp) ?_
  have h7 : ¬ (7 : Int) = 0 := by decide
  obtain ⟨K, hK, hK1, hK7⟩ : ∃ K : Nat, IntKind.i64.wrap (1 + IntKind.i64.wrap (more.tmod 7)) = (K : Int) ∧ 1 ≤ K ∧ K ≤ 7 := by
    have e : more.tmod 7 = more % 7 := Int.tmod_eq_emod_of_nonneg hm.1
    rw [e, i64_wrap (n := more % 7) (by omega) (by omega), i64_wrap (by omega) (by omega)]
    exact ⟨(1 + more % 7).toNat, by omega, by omega, by omega⟩
  obtain ⟨N, hN⟩ : ∃ N : Nat, N = 1048576 + K := ⟨_, rfl⟩
  have hNw : IntKind.i64.wrap (1048576 + (K : Int)) = (N : Int) := by rw [i64_wrap (by omega) (by omega)]; omega
  have h1 : (N : Int) * 1 ≤ 140737488355328 := by omega
  have h2 : (N : Int) ≤ 9223372036854775807 := by omega
  have h3 : (0 : Int) ≤ N := by omega
  have hNn : ¬ (N : Int) < 1 := by omega
  have h4 : (0 : Int) < N := by omega
  simp only [X9, x_mv, x_pick, x_box, x_alloc, x_build, x_bslice, x_load1, x_loadN, x_store, x_nilck, x_bin, x_beq, x_isnil, x_eqs, x_un, x_conv, x_faddr, x_field1, x_fieldN, x_iaddr, x_iaddrA, x_idxA1, x_idxAN, x_idxS, x_slice, x_sliceS, x_sliceA, x_len, x_lenK, x_cap, x_mm, x_append, x_copy, x_mkslice, x_appz, x_b2s, x_extract, x_mkfunc, xcode_skip, xcode_region, xcode_seq, xcode_cond, xcode_block, xcode_scope, xcode_exit, xcode_ret, xcode_both, kSeq_normal, kSeq_ret, kSeq_exit, kBlock_normal, kBlock_ret, kBlock_exit, kScope_normal, kScope_ret, kScope_exit, kLoop_normal, kLoop_ret, kLoop_exit, xcond_true, xcond_false, xthen_some, xthen_none, xgrd_true, xgrd_false, xops_g, xops_nil, xop, ev, evs, evParts, fillL, cellsL, Ai.get, Ai.put, Option.map_some, Option.map_none, guardv_none, guardv_t, guardv_f, gdT_bool, gdF_bool, gdT_undef, gdF_undef, stab, true_and, and_true, Option.bind_some, Option.bind_none, isNil?, Bool.false_eq_true, if_false, if_true, Option.isNone_some, Option.isNone_none, Option.isSome_some, Option.isSome_none, addr?, int?, str?, agg?, bool?, shiftA, FnPost, xresL, xres1, tup, argEnv, ptr, Nat.reduceEqDiff, reduceIte, beq_self_eq_true, ne_eq, not_true_eq_false, not_false_eq_true, List.getElem?_cons_zero, List.getElem?_cons_succ, Nat.zero_add, Nat.add_zero, Bool.not_true, Bool.not_false, Nat.reduceAdd, Nat.reduceMul, Nat.reduceSub, abin_add, abin_sub, abin_mul, abin_eql, abin_neq, abin_lss, abin_leq, abin_gtr, abin_geq, abin_quo, abin_rem, abin_shl, abin_shr, abin_seql, abin_sneq, aun_not, aun_neg, load1V, loadV, storeV, cellsAt, getN, setN, allocV, lenL, lenS, bnd, List.length_cons, List.length_nil, List.all_cons, List.all_nil, oneC, Value.oneCell', Bool.and_self, List.set_cons_zero, List.set_cons_succ, Nat.reduceLeDiff, and_self, Nat.reduceLT, Value.bool.injEq, Option.some.injEq, exists_eq_left', false_implies, true_implies, forall_const, reduceCtorEq, Bool.true_eq_false, app_new, app_new0, set_new, set_new0, List.append_assoc, List.cons_append, List.nil_append, List.length_append, Int.reduceToNat, Int.reduceLT, Int.reduceLE, Int.reduceEq, Int.reduceNe, Int.reduceBEq, decide_true, decide_false, IntKind.bits, bne_self_eq_false, Option.bind_eq_bind, Option.pure_def, app_newS, app_new0S, set_newS, set_new0S, List.length_set, Int.cast_ofNat_Int, Int.reducePow, Nat.min_eq_left, Int.toNat_natCast, h7, hK, hNw, h1, h2, h3, Int.le_refl, zeros_bR]
  refine xcond_cut (fun ρ h' => get ρ 6 = some (.slice (some ⟨h.length, 0, none⟩) N N) ∧ get ρ 5 = some (.int .i64 (K : Int)) ∧ h' = h ++ [some ⟨true, bR (sL N bad)⟩]) ?_ ?_
  · have hle : 1 ≤ (bR (List.replicate N 0)).length := by rw [bR_len, List.length_replicate]; omega
    cases bad
    · simp only [x_mv, x_pick, x_box, x_alloc, x_build, x_bslice, x_load1, x_loadN, x_store, x_nilck, x_bin, x_beq, x_isnil, x_eqs, x_un, x_conv, x_faddr, x_field1, x_fieldN, x_iaddr, x_iaddrA, x_idxA1, x_idxAN, x_idxS, x_slice, x_sliceS, x_sliceA, x_len, x_lenK, x_cap, x_mm, x_append, x_copy, x_mkslice, x_appz, x_b2s, x_extract, x_mkfunc, xcode_skip, xcode_region, xcode_seq, xcode_cond, xcode_block, xcode_scope, xcode_exit, xcode_ret, xcode_both, kSeq_normal, kSeq_ret, kSeq_exit, kBlock_normal, kBlock_ret, kBlock_exit, kScope_normal, kScope_ret, kScope_exit, kLoop_normal, kLoop_ret, kLoop_exit, xcond_true, xcond_false, xthen_some, xthen_none, xgrd_true, xgrd_false, xops_g, xops_nil, xop, ev, evs, evParts, fillL, cellsL, Ai.get, Ai.put, Option.map_some, Option.map_none, guardv_none, guardv_t, guardv_f, gdT_bool, gdF_bool, gdT_undef, gdF_undef, stab, true_and, and_true, Option.bind_some, Option.bind_none, isNil?, Bool.false_eq_true, if_false, if_true, Option.isNone_some, Option.isNone_none, Option.isSome_some, Option.isSome_none, addr?, int?, str?, agg?, bool?, shiftA, FnPost, xresL, xres1, tup, argEnv, ptr, Nat.reduceEqDiff, reduceIte, beq_self_eq_true, ne_eq, not_true_eq_false, not_false_eq_true, List.getElem?_cons_zero, List.getElem?_cons_succ, Nat.zero_add, Nat.add_zero, Bool.not_true, Bool.not_false, Nat.reduceAdd, Nat.reduceMul, Nat.reduceSub, abin_add, abin_sub, abin_mul, abin_eql, abin_neq, abin_lss, abin_leq, abin_gtr, abin_geq, abin_quo, abin_rem, abin_shl, abin_shr, abin_seql, abin_sneq, aun_not, aun_neg, load1V, loadV, storeV, cellsAt, getN, setN, allocV, lenL, lenS, bnd, List.length_cons, List.length_nil, List.all_cons, List.all_nil, oneC, Value.oneCell', Bool.and_self, List.set_cons_zero, List.set_cons_succ, Nat.reduceLeDiff, and_self, Nat.reduceLT, Value.bool.injEq, Option.some.injEq, exists_eq_left', false_implies, true_implies, forall_const, reduceCtorEq, Bool.true_eq_false, app_new, app_new0, set_new, set_new0, List.append_assoc, List.cons_append, List.nil_append, List.length_append, Int.reduceToNat, Int.reduceLT, Int.reduceLE, Int.reduceEq, Int.reduceNe, Int.reduceBEq, decide_true, decide_false, IntKind.bits, bne_self_eq_false, Option.bind_eq_bind, Option.pure_def, app_newS, app_new0S, set_newS, set_new0S, List.length_set, Int.cast_ofNat_Int, Int.reducePow, Nat.min_eq_left, Int.toNat_natCast]; simp [sL]
    · simp only [x_mv, x_pick, x_box, x_alloc, x_build, x_bslice, x_load1, x_loadN, x_store, x_nilck, x_bin, x_beq, x_isnil, x_eqs, x_un, x_conv, x_faddr, x_field1, x_fieldN, x_iaddr, x_iaddrA, x_idxA1, x_idxAN, x_idxS, x_slice, x_sliceS, x_sliceA, x_len, x_lenK, x_cap, x_mm, x_append, x_copy, x_mkslice, x_appz, x_b2s, x_extract, x_mkfunc, xcode_skip, xcode_region, xcode_seq, xcode_cond, xcode_block, xcode_scope, xcode_exit, xcode_ret, xcode_both, kSeq_normal, kSeq_ret, kSeq_exit, kBlock_normal, kBlock_ret, kBlock_exit, kScope_normal, kScope_ret, kScope_exit, kLoop_normal, kLoop_ret, kLoop_exit, xcond_true, xcond_false, xthen_some, xthen_none, xgrd_true, xgrd_false, xops_g, xops_nil, xop, ev, evs, evParts, fillL, cellsL, Ai.get, Ai.put, Option.map_some, Option.map_none, guardv_none, guardv_t, guardv_f, gdT_bool, gdF_bool, gdT_undef, gdF_undef, stab, true_and, and_true, Option.bind_some, Option.bind_none, isNil?, Bool.false_eq_true, if_false, if_true, Option.isNone_some, Option.isNone_none, Option.isSome_some, Option.isSome_none, addr?, int?, str?, agg?, bool?, shiftA, FnPost, xresL, xres1, tup, argEnv, ptr, Nat.reduceEqDiff, reduceIte, beq_self_eq_true, ne_eq, not_true_eq_false, not_false_eq_true, List.getElem?_cons_zero, List.getElem?_cons_succ, Nat.zero_add, Nat.add_zero, Bool.not_true, Bool.not_false, Nat.reduceAdd, Nat.reduceMul, Nat.reduceSub, abin_add, abin_sub, abin_mul, abin_eql, abin_neq, abin_lss, abin_leq, abin_gtr, abin_geq, abin_quo, abin_rem, abin_shl, abin_shr, abin_seql, abin_sneq, aun_not, aun_neg, load1V, loadV, storeV, cellsAt, getN, setN, allocV, lenL, lenS, bnd, List.length_cons, List.length_nil, List.all_cons, List.all_nil, oneC, Value.oneCell', Bool.and_self, List.set_cons_zero, List.set_cons_succ, Nat.reduceLeDiff, and_self, Nat.reduceLT, Value.bool.injEq, Option.some.injEq, exists_eq_left', false_implies, true_implies, forall_const, reduceCtorEq, Bool.true_eq_false, app_new, app_new0, set_new, set_new0, List.append_assoc, List.cons_append, List.nil_append, List.length_append, Int.reduceToNat, Int.reduceLT, Int.reduceLE, Int.reduceEq, Int.reduceNe, Int.reduceBEq, decide_true, decide_false, IntKind.bits, bne_self_eq_false, Option.bind_eq_bind, Option.pure_def, app_newS, app_new0S, set_newS, set_new0S, List.length_set, Int.cast_ofNat_Int, Int.reducePow, Nat.min_eq_left, Int.toNat_natCast, h4, hle, Nat.mul_one, bR_set]; simp [sL]
  rintro ρ g ⟨g6, g5, hg⟩
  have hB : g[h.length]? = some (some ⟨true, bR (sL N bad)⟩) := by rw [hg, app_new0]; rfl
  clear hg
  generalize h.length = B at *
  have hSl := sL_len N bad
  have hSb := sL_byte N bad
  have hS0 := sL_drop N bad
  generalize sL N bad = S at *
  have hcS : checkV S = 3 := checkV_big (by omega)
  have hSp : ∀ z ∈ S, 0 ≤ z := fun z hz => (hSb z hz).1
  have fS : firstV 1 g N (.slice (some ⟨B, 0, none⟩) N N) = some (bR S) := blk_first hB hSl.symm
  have fF : firstV 1 g 1048576 (.slice (some ⟨B, 0 + 1, none⟩) 1048576 (N - 1)) = some (bR ((S.drop 1).take 1048576)) := firstV_part (n := N) (c := N) (a := ⟨B, 0, none⟩) fS (by omega)
  have hFl : ((S.drop 1).take 1048576).length = 1048576 := by rw [List.length_take, List.length_drop]; omega
  have hF0 : ∀ z ∈ (S.drop 1).take 1048576, z = 0 := fun z hz => hS0 z (List.mem_of_mem_take hz)
  generalize (S.drop 1).take 1048576 = F at *
  have hcF : checkV F = 0 := checkV_zero (by omega) hF0
  have hu : ¬ unk ≤ N := by unfold unk; omega
  have hu1 : ¬ unk ≤ N - 1 := by unfold unk; omega
  have hs1 : (1048577 : Int) ≤ N := by omega
  have hs2 : ¬ N = 1 := by omega
  simp only [x_mv, x_pick, x_box, x_alloc, x_build, x_bslice, x_load1, x_loadN, x_store, x_nilck, x_bin, x_beq, x_isnil, x_eqs, x_un, x_conv, x_faddr, x_field1, x_fieldN, x_iaddr, x_iaddrA, x_idxA1, x_idxAN, x_idxS, x_slice, x_sliceS, x_sliceA, x_len, x_lenK, x_cap, x_mm, x_append, x_copy, x_mkslice, x_appz, x_b2s, x_extract, x_mkfunc, xcode_skip, xcode_region, xcode_seq, xcode_cond, xcode_block, xcode_scope, xcode_exit, xcode_ret, xcode_both, kSeq_normal, kSeq_ret, kSeq_exit, kBlock_normal, kBlock_ret, kBlock_exit, kScope_normal, kScope_ret, kScope_exit, kLoop_normal, kLoop_ret, kLoop_exit, xcond_true, xcond_false, xthen_some, xthen_none, xgrd_true, xgrd_false, xops_g, xops_nil, xop, ev, evs, evParts, fillL, cellsL, Ai.get, Ai.put, Option.map_some, Option.map_none, guardv_none, guardv_t, guardv_f, gdT_bool, gdF_bool, gdT_undef, gdF_undef, stab, true_and, and_true, Option.bind_some, Option.bind_none, isNil?, Bool.false_eq_true, if_false, if_true, Option.isNone_some, Option.isNone_none, Option.isSome_some, Option.isSome_none, addr?, int?, str?, agg?, bool?, shiftA, FnPost, xresL, xres1, tup, argEnv, ptr, Nat.reduceEqDiff, reduceIte, beq_self_eq_true, ne_eq, not_true_eq_false, not_false_eq_true, List.getElem?_cons_zero, List.getElem?_cons_succ, Nat.zero_add, Nat.add_zero, Bool.not_true, Bool.not_false, Nat.reduceAdd, Nat.reduceMul, Nat.reduceSub, abin_add, abin_sub, abin_mul, abin_eql, abin_neq, abin_lss, abin_leq, abin_gtr, abin_geq, abin_quo, abin_rem, abin_shl, abin_shr, abin_seql, abin_sneq, aun_not, aun_neg, load1V, loadV, storeV, cellsAt, getN, setN, allocV, lenL, lenS, bnd, List.length_cons, List.length_nil, List.all_cons, List.all_nil, oneC, Value.oneCell', Bool.and_self, List.set_cons_zero, List.set_cons_succ, Nat.reduceLeDiff, and_self, Nat.reduceLT, Value.bool.injEq, Option.some.injEq, exists_eq_left', false_implies, true_implies, forall_const, reduceCtorEq, Bool.true_eq_false, app_new, app_new0, set_new, set_new0, List.append_assoc, List.cons_append, List.nil_append, List.length_append, Int.reduceToNat, Int.reduceLT, Int.reduceLE, Int.reduceEq, Int.reduceNe, Int.reduceBEq, decide_true, decide_false, IntKind.bits, bne_self_eq_false, Option.bind_eq_bind, Option.pure_def, app_newS, app_new0S, set_newS, set_new0S, List.length_set, Int.cast_ofNat_Int, Int.reducePow, Nat.min_eq_left, Int.toNat_natCast, g6, g5, hu, hs1, hs2, Nat.mul_one, Nat.le_refl, Int.le_refl]
  refine xcall (octets_bad fS (by omega) (by rw [hcS]; decide)) (by rfl) (by rfl) (by rfl) (by rfl) ?_
  rintro r g1 ⟨rfl, E1⟩
  rw [hcS]
  replace hB := E1.get hB
  replace fS := E1.first fS
  replace fF := E1.first fF
  clear E1
  simp only [x_mv, x_pick, x_box, x_alloc, x_build, x_bslice, x_load1, x_loadN, x_store, x_nilck, x_bin, x_beq, x_isnil, x_eqs, x_un, x_conv, x_faddr, x_field1, x_fieldN, x_iaddr, x_iaddrA, x_idxA1, x_idxAN, x_idxS, x_slice, x_sliceS, x_sliceA, x_len, x_lenK, x_cap, x_mm, x_append, x_copy, x_mkslice, x_appz, x_b2s, x_extract, x_mkfunc, xcode_skip, xcode_region, xcode_seq, xcode_cond, xcode_block, xcode_scope, xcode_exit, xcode_ret, xcode_both, kSeq_normal, kSeq_ret, kSeq_exit, kBlock_normal, kBlock_ret, kBlock_exit, kScope_normal, kScope_ret, kScope_exit, kLoop_normal, kLoop_ret, kLoop_exit, xcond_true, xcond_false, xthen_some, xthen_none, xgrd_true, xgrd_false, xops_g, xops_nil, xop, ev, evs, evParts, fillL, cellsL, Ai.get, Ai.put, Option.map_some, Option.map_none, guardv_none, guardv_t, guardv_f, gdT_bool, gdF_bool, gdT_undef, gdF_undef, stab, true_and, and_true, Option.bind_some, Option.bind_none, isNil?, Bool.false_eq_true, if_false, if_true, Option.isNone_some, Option.isNone_none, Option.isSome_some, Option.isSome_none, addr?, int?, str?, agg?, bool?, shiftA, FnPost, xresL, xres1, tup, argEnv, ptr, Nat.reduceEqDiff, reduceIte, beq_self_eq_true, ne_eq, not_true_eq_false, not_false_eq_true, List.getElem?_cons_zero, List.getElem?_cons_succ, Nat.zero_add, Nat.add_zero, Bool.not_true, Bool.not_false, Nat.reduceAdd, Nat.reduceMul, Nat.reduceSub, abin_add, abin_sub, abin_mul, abin_eql, abin_neq, abin_lss, abin_leq, abin_gtr, abin_geq, abin_quo, abin_rem, abin_shl, abin_shr, abin_seql, abin_sneq, aun_not, aun_neg, load1V, loadV, storeV, cellsAt, getN, setN, allocV, lenL, lenS, bnd, List.length_cons, List.length_nil, List.all_cons, List.all_nil, oneC, Value.oneCell', Bool.and_self, List.set_cons_zero, List.set_cons_succ, Nat.reduceLeDiff, and_self, Nat.reduceLT, Value.bool.injEq, Option.some.injEq, exists_eq_left', false_implies, true_implies, forall_const, reduceCtorEq, Bool.true_eq_false, app_new, app_new0, set_new, set_new0, List.append_assoc, List.cons_append, List.nil_append, List.length_append, Int.reduceToNat, Int.reduceLT, Int.reduceLE, Int.reduceEq, Int.reduceNe, Int.reduceBEq, decide_true, decide_false, IntKind.bits, bne_self_eq_false, Option.bind_eq_bind, Option.pure_def, app_newS, app_new0S, set_newS, set_new0S, List.length_set, Int.cast_ofNat_Int, Int.reducePow, Nat.min_eq_left, Int.toNat_natCast, g6, g5]
  have hput : putC S 9 99 = 3 := by unfold putC; rw [if_pos (by rw [hcS]; decide), hcS]
  refine xcall (put_bad (v := 9) (w := 99) fS (by omega) (by decide) (by rw [hput]; decide)) (by rfl) (by rfl) (by rfl) (by rfl) ?_
  rintro r g2 ⟨rfl, E2⟩
  rw [hput]
  replace hB := E2.get hB
  replace fS := E2.first fS
  replace fF := E2.first fF
  clear E2
  simp only [x_mv, x_pick, x_box, x_alloc, x_build, x_bslice, x_load1, x_loadN, x_store, x_nilck, x_bin, x_beq, x_isnil, x_eqs, x_un, x_conv, x_faddr, x_field1, x_fieldN, x_iaddr, x_iaddrA, x_idxA1, x_idxAN, x_idxS, x_slice, x_sliceS, x_sliceA, x_len, x_lenK, x_cap, x_mm, x_append, x_copy, x_mkslice, x_appz, x_b2s, x_extract, x_mkfunc, xcode_skip, xcode_region, xcode_seq, xcode_cond, xcode_block, xcode_scope, xcode_exit, xcode_ret, xcode_both, kSeq_normal, kSeq_ret, kSeq_exit, kBlock_normal, kBlock_ret, kBlock_exit, kScope_normal, kScope_ret, kScope_exit, kLoop_normal, kLoop_ret, kLoop_exit, xcond_true, xcond_false, xthen_some, xthen_none, xgrd_true, xgrd_false, xops_g, xops_nil, xop, ev, evs, evParts, fillL, cellsL, Ai.get, Ai.put, Option.map_some, Option.map_none, guardv_none, guardv_t, guardv_f, gdT_bool, gdF_bool, gdT_undef, gdF_undef, stab, true_and, and_true, Option.bind_some, Option.bind_none, isNil?, Bool.false_eq_true, if_false, if_true, Option.isNone_some, Option.isNone_none, Option.isSome_some, Option.isSome_none, addr?, int?, str?, agg?, bool?, shiftA, FnPost, xresL, xres1, tup, argEnv, ptr, Nat.reduceEqDiff, reduceIte, beq_self_eq_true, ne_eq, not_true_eq_false, not_false_eq_true, List.getElem?_cons_zero, List.getElem?_cons_succ, Nat.zero_add, Nat.add_zero, Bool.not_true, Bool.not_false, Nat.reduceAdd, Nat.reduceMul, Nat.reduceSub, abin_add, abin_sub, abin_mul, abin_eql, abin_neq, abin_lss, abin_leq, abin_gtr, abin_geq, abin_quo, abin_rem, abin_shl, abin_shr, abin_seql, abin_sneq, aun_not, aun_neg, load1V, loadV, storeV, cellsAt, getN, setN, allocV, lenL, lenS, bnd, List.length_cons, List.length_nil, List.all_cons, List.all_nil, oneC, Value.oneCell', Bool.and_self, List.set_cons_zero, List.set_cons_succ, Nat.reduceLeDiff, and_self, Nat.reduceLT, Value.bool.injEq, Option.some.injEq, exists_eq_left', false_implies, true_implies, forall_const, reduceCtorEq, Bool.true_eq_false, app_new, app_new0, set_new, set_new0, List.append_assoc, List.cons_append, List.nil_append, List.length_append, Int.reduceToNat, Int.reduceLT, Int.reduceLE, Int.reduceEq, Int.reduceNe, Int.reduceBEq, decide_true, decide_false, IntKind.bits, bne_self_eq_false, Option.bind_eq_bind, Option.pure_def, app_newS, app_new0S, set_newS, set_new0S, List.length_set, Int.cast_ofNat_Int, Int.reducePow, Nat.min_eq_left, Int.toNat_natCast, g6, g5]
  have hget : getC S (-1) 99 = 3 := by unfold getC; rw [if_pos (by rw [hcS]; decide), hcS]
  refine xcall (get_bad (at_ := -1) (w := 99) fS (by omega) (by rw [hget]; decide)) (by rfl) (by rfl) (by rfl) (by rfl) ?_
  rintro r g3 ⟨rfl, E3⟩
  rw [hget]
  replace hB := E3.get hB
  replace fS := E3.first fS
  replace fF := E3.first fF
  clear E3
  simp only [x_mv, x_pick, x_box, x_alloc, x_build, x_bslice, x_load1, x_loadN, x_store, x_nilck, x_bin, x_beq, x_isnil, x_eqs, x_un, x_conv, x_faddr, x_field1, x_fieldN, x_iaddr, x_iaddrA, x_idxA1, x_idxAN, x_idxS, x_slice, x_sliceS, x_sliceA, x_len, x_lenK, x_cap, x_mm, x_append, x_copy, x_mkslice, x_appz, x_b2s, x_extract, x_mkfunc, xcode_skip, xcode_region, xcode_seq, xcode_cond, xcode_block, xcode_scope, xcode_exit, xcode_ret, xcode_both, kSeq_normal, kSeq_ret, kSeq_exit, kBlock_normal, kBlock_ret, kBlock_exit, kScope_normal, kScope_ret, kScope_exit, kLoop_normal, kLoop_ret, kLoop_exit, xcond_true, xcond_false, xthen_some, xthen_none, xgrd_true, xgrd_false, xops_g, xops_nil, xop, ev, evs, evParts, fillL, cellsL, Ai.get, Ai.put, Option.map_some, Option.map_none, guardv_none, guardv_t, guardv_f, gdT_bool, gdF_bool, gdT_undef, gdF_undef, stab, true_and, and_true, Option.bind_some, Option.bind_none, isNil?, Bool.false_eq_true, if_false, if_true, Option.isNone_some, Option.isNone_none, Option.isSome_some, Option.isSome_none, addr?, int?, str?, agg?, bool?, shiftA, FnPost, xresL, xres1, tup, argEnv, ptr, Nat.reduceEqDiff, reduceIte, beq_self_eq_true, ne_eq, not_true_eq_false, not_false_eq_true, List.getElem?_cons_zero, List.getElem?_cons_succ, Nat.zero_add, Nat.add_zero, Bool.not_true, Bool.not_false, Nat.reduceAdd, Nat.reduceMul, Nat.reduceSub, abin_add, abin_sub, abin_mul, abin_eql, abin_neq, abin_lss, abin_leq, abin_gtr, abin_geq, abin_quo, abin_rem, abin_shl, abin_shr, abin_seql, abin_sneq, aun_not, aun_neg, load1V, loadV, storeV, cellsAt, getN, setN, allocV, lenL, lenS, bnd, List.length_cons, List.length_nil, List.all_cons, List.all_nil, oneC, Value.oneCell', Bool.and_self, List.set_cons_zero, List.set_cons_succ, Nat.reduceLeDiff, and_self, Nat.reduceLT, Value.bool.injEq, Option.some.injEq, exists_eq_left', false_implies, true_implies, forall_const, reduceCtorEq, Bool.true_eq_false, app_new, app_new0, set_new, set_new0, List.append_assoc, List.cons_append, List.nil_append, List.length_append, Int.reduceToNat, Int.reduceLT, Int.reduceLE, Int.reduceEq, Int.reduceNe, Int.reduceBEq, decide_true, decide_false, IntKind.bits, bne_self_eq_false, Option.bind_eq_bind, Option.pure_def, app_newS, app_new0S, set_newS, set_new0S, List.length_set, Int.cast_ofNat_Int, Int.reducePow, Nat.min_eq_left, Int.toNat_natCast, g6, g5]
  have E4 : Ext g3 (g3 ++ [some ⟨true, [.int .i64 (-1)]⟩]) := Ext.app _ _
  have fI : firstV 1 (g3 ++ [some ⟨true, [.int .i64 (-1)]⟩]) 1 (.slice (some ⟨g3.length, 0, none⟩) 1 1) = some (iR [-1]) := by
    simp only [firstV, cellsAt, app_new0]; simp [getN, iR]
  have hfl : flipC S [-1] = 3 := by unfold flipC; rw [if_pos (by rw [hcS]; decide), hcS]
  replace hB := E4.get hB
  replace fS := E4.first fS
  replace fF := E4.first fF
  refine xcall (flip_bad (ats := [-1]) fS (by omega) fI (by omega) (by rw [hfl]; decide)) (by rfl) (by rfl) (by rfl) (by rfl) ?_
  clear E4 fI
  rintro r g5' ⟨rfl, E5⟩
  rw [hfl]
  replace hB := E5.get hB
  replace fS := E5.first fS
  replace fF := E5.first fF
  clear E5
  simp only [x_mv, x_pick, x_box, x_alloc, x_build, x_bslice, x_load1, x_loadN, x_store, x_nilck, x_bin, x_beq, x_isnil, x_eqs, x_un, x_conv, x_faddr, x_field1, x_fieldN, x_iaddr, x_iaddrA, x_idxA1, x_idxAN, x_idxS, x_slice, x_sliceS, x_sliceA, x_len, x_lenK, x_cap, x_mm, x_append, x_copy, x_mkslice, x_appz, x_b2s, x_extract, x_mkfunc, xcode_skip, xcode_region, xcode_seq, xcode_cond, xcode_block, xcode_scope, xcode_exit, xcode_ret, xcode_both, kSeq_normal, kSeq_ret, kSeq_exit, kBlock_normal, kBlock_ret, kBlock_exit, kScope_normal, kScope_ret, kScope_exit, kLoop_normal, kLoop_ret, kLoop_exit, xcond_true, xcond_false, xthen_some, xthen_none, xgrd_true, xgrd_false, xops_g, xops_nil, xop, ev, evs, evParts, fillL, cellsL, Ai.get, Ai.put, Option.map_some, Option.map_none, guardv_none, guardv_t, guardv_f, gdT_bool, gdF_bool, gdT_undef, gdF_undef, stab, true_and, and_true, Option.bind_some, Option.bind_none, isNil?, Bool.false_eq_true, if_false, if_true, Option.isNone_some, Option.isNone_none, Option.isSome_some, Option.isSome_none, addr?, int?, str?, agg?, bool?, shiftA, FnPost, xresL, xres1, tup, argEnv, ptr, Nat.reduceEqDiff, reduceIte, beq_self_eq_true, ne_eq, not_true_eq_false, not_false_eq_true, List.getElem?_cons_zero, List.getElem?_cons_succ, Nat.zero_add, Nat.add_zero, Bool.not_true, Bool.not_false, Nat.reduceAdd, Nat.reduceMul, Nat.reduceSub, abin_add, abin_sub, abin_mul, abin_eql, abin_neq, abin_lss, abin_leq, abin_gtr, abin_geq, abin_quo, abin_rem, abin_shl, abin_shr, abin_seql, abin_sneq, aun_not, aun_neg, load1V, loadV, storeV, cellsAt, getN, setN, allocV, lenL, lenS, bnd, List.length_cons, List.length_nil, List.all_cons, List.all_nil, oneC, Value.oneCell', Bool.and_self, List.set_cons_zero, List.set_cons_succ, Nat.reduceLeDiff, and_self, Nat.reduceLT, Value.bool.injEq, Option.some.injEq, exists_eq_left', false_implies, true_implies, forall_const, reduceCtorEq, Bool.true_eq_false, app_new, app_new0, set_new, set_new0, List.append_assoc, List.cons_append, List.nil_append, List.length_append, Int.reduceToNat, Int.reduceLT, Int.reduceLE, Int.reduceEq, Int.reduceNe, Int.reduceBEq, decide_true, decide_false, IntKind.bits, bne_self_eq_false, Option.bind_eq_bind, Option.pure_def, app_newS, app_new0S, set_newS, set_new0S, List.length_set, Int.cast_ofNat_Int, Int.reducePow, Nat.min_eq_left, Int.toNat_natCast, g6, g5]
  have E6 : Ext g5' (g5' ++ [some ⟨true, [.int .u8 2]⟩]) := Ext.app _ _
  have f2 : firstV 1 (g5' ++ [some ⟨true, [.int .u8 2]⟩]) 1 (.slice (some ⟨g5'.length, 0, none⟩) 1 1) = some (bR [2]) := by
    simp only [firstV, cellsAt, app_new0]; simp [getN, bR]
  have hap : apartC [2] S = 1 := by unfold apartC; rw [if_pos (by decide)]; decide
  replace hB := E6.get hB
  replace fS := E6.first fS
  replace fF := E6.first fF
  refine xcall (apart_bad f2 fS (by omega) (by omega) (by rw [hap]; decide)) (by rfl) (by rfl) (by rfl) (by rfl) ?_
  clear E6 f2
  rintro r g7 ⟨rfl, E7⟩
  rw [hap]
  replace hB := E7.get hB
  replace fS := E7.first fS
  replace fF := E7.first fF
  clear E7
  simp only [x_mv, x_pick, x_box, x_alloc, x_build, x_bslice, x_load1, x_loadN, x_store, x_nilck, x_bin, x_beq, x_isnil, x_eqs, x_un, x_conv, x_faddr, x_field1, x_fieldN, x_iaddr, x_iaddrA, x_idxA1, x_idxAN, x_idxS, x_slice, x_sliceS, x_sliceA, x_len, x_lenK, x_cap, x_mm, x_append, x_copy, x_mkslice, x_appz, x_b2s, x_extract, x_mkfunc, xcode_skip, xcode_region, xcode_seq, xcode_cond, xcode_block, xcode_scope, xcode_exit, xcode_ret, xcode_both, kSeq_normal, kSeq_ret, kSeq_exit, kBlock_normal, kBlock_ret, kBlock_exit, kScope_normal, kScope_ret, kScope_exit, kLoop_normal, kLoop_ret, kLoop_exit, xcond_true, xcond_false, xthen_some, xthen_none, xgrd_true, xgrd_false, xops_g, xops_nil, xop, ev, evs, evParts, fillL, cellsL, Ai.get, Ai.put, Option.map_some, Option.map_none, guardv_none, guardv_t, guardv_f, gdT_bool, gdF_bool, gdT_undef, gdF_undef, stab, true_and, and_true, Option.bind_some, Option.bind_none, isNil?, Bool.false_eq_true, if_false, if_true, Option.isNone_some, Option.isNone_none, Option.isSome_some, Option.isSome_none, addr?, int?, str?, agg?, bool?, shiftA, FnPost, xresL, xres1, tup, argEnv, ptr, Nat.reduceEqDiff, reduceIte, beq_self_eq_true, ne_eq, not_true_eq_false, not_false_eq_true, List.getElem?_cons_zero, List.getElem?_cons_succ, Nat.zero_add, Nat.add_zero, Bool.not_true, Bool.not_false, Nat.reduceAdd, Nat.reduceMul, Nat.reduceSub, abin_add, abin_sub, abin_mul, abin_eql, abin_neq, abin_lss, abin_leq, abin_gtr, abin_geq, abin_quo, abin_rem, abin_shl, abin_shr, abin_seql, abin_sneq, aun_not, aun_neg, load1V, loadV, storeV, cellsAt, getN, setN, allocV, lenL, lenS, bnd, List.length_cons, List.length_nil, List.all_cons, List.all_nil, oneC, Value.oneCell', Bool.and_self, List.set_cons_zero, List.set_cons_succ, Nat.reduceLeDiff, and_self, Nat.reduceLT, Value.bool.injEq, Option.some.injEq, exists_eq_left', false_implies, true_implies, forall_const, reduceCtorEq, Bool.true_eq_false, app_new, app_new0, set_new, set_new0, List.append_assoc, List.cons_append, List.nil_append, List.length_append, Int.reduceToNat, Int.reduceLT, Int.reduceLE, Int.reduceEq, Int.reduceNe, Int.reduceBEq, decide_true, decide_false, IntKind.bits, bne_self_eq_false, Option.bind_eq_bind, Option.pure_def, app_newS, app_new0S, set_newS, set_new0S, List.length_set, Int.cast_ofNat_Int, Int.reducePow, Nat.min_eq_left, Int.toNat_natCast, g6, g5]
  have E8 : Ext g7 (g7 ++ [some ⟨true, [.int .u8 2]⟩]) := Ext.app _ _
  have f2 : firstV 1 (g7 ++ [some ⟨true, [.int .u8 2]⟩]) 1 (.slice (some ⟨g7.length, 0, none⟩) 1 1) = some (bR [2]) := by
    simp only [firstV, cellsAt, app_new0]; simp [getN, bR]
  have hap2 : apartC S [2] = 3 := by unfold apartC; rw [if_pos (by rw [hcS]; decide), hcS]
  replace hB := E8.get hB
  replace fS := E8.first fS
  replace fF := E8.first fF
  refine xcall (apart_bad fS f2 (by omega) (by omega) (by rw [hap2]; decide)) (by rfl) (by rfl) (by rfl) (by rfl) ?_
  clear E8 f2
  rintro r g9 ⟨rfl, E9⟩
  rw [hap2]
  replace hB := E9.get hB
  replace fS := E9.first fS
  replace fF := E9.first fF
  clear E9
  simp only [x_mv, x_pick, x_box, x_alloc, x_build, x_bslice, x_load1, x_loadN, x_store, x_nilck, x_bin, x_beq, x_isnil, x_eqs, x_un, x_conv, x_faddr, x_field1, x_fieldN, x_iaddr, x_iaddrA, x_idxA1, x_idxAN, x_idxS, x_slice, x_sliceS, x_sliceA, x_len, x_lenK, x_cap, x_mm, x_append, x_copy, x_mkslice, x_appz, x_b2s, x_extract, x_mkfunc, xcode_skip, xcode_region, xcode_seq, xcode_cond, xcode_block, xcode_scope, xcode_exit, xcode_ret, xcode_both, kSeq_normal, kSeq_ret, kSeq_exit, kBlock_normal, kBlock_ret, kBlock_exit, kScope_normal, kScope_ret, kScope_exit, kLoop_normal, kLoop_ret, kLoop_exit, xcond_true, xcond_false, xthen_some, xthen_none, xgrd_true, xgrd_false, xops_g, xops_nil, xop, ev, evs, evParts, fillL, cellsL, Ai.get, Ai.put, Option.map_some, Option.map_none, guardv_none, guardv_t, guardv_f, gdT_bool, gdF_bool, gdT_undef, gdF_undef, stab, true_and, and_true, Option.bind_some, Option.bind_none, isNil?, Bool.false_eq_true, if_false, if_true, Option.isNone_some, Option.isNone_none, Option.isSome_some, Option.isSome_none, addr?, int?, str?, agg?, bool?, shiftA, FnPost, xresL, xres1, tup, argEnv, ptr, Nat.reduceEqDiff, reduceIte, beq_self_eq_true, ne_eq, not_true_eq_false, not_false_eq_true, List.getElem?_cons_zero, List.getElem?_cons_succ, Nat.zero_add, Nat.add_zero, Bool.not_true, Bool.not_false, Nat.reduceAdd, Nat.reduceMul, Nat.reduceSub, abin_add, abin_sub, abin_mul, abin_eql, abin_neq, abin_lss, abin_leq, abin_gtr, abin_geq, abin_quo, abin_rem, abin_shl, abin_shr, abin_seql, abin_sneq, aun_not, aun_neg, load1V, loadV, storeV, cellsAt, getN, setN, allocV, lenL, lenS, bnd, List.length_cons, List.length_nil, List.all_cons, List.all_nil, oneC, Value.oneCell', Bool.and_self, List.set_cons_zero, List.set_cons_succ, Nat.reduceLeDiff, and_self, Nat.reduceLT, Value.bool.injEq, Option.some.injEq, exists_eq_left', false_implies, true_implies, forall_const, reduceCtorEq, Bool.true_eq_false, app_new, app_new0, set_new, set_new0, List.append_assoc, List.cons_append, List.nil_append, List.length_append, Int.reduceToNat, Int.reduceLT, Int.reduceLE, Int.reduceEq, Int.reduceNe, Int.reduceBEq, decide_true, decide_false, IntKind.bits, bne_self_eq_false, Option.bind_eq_bind, Option.pure_def, app_newS, app_new0S, set_newS, set_new0S, List.length_set, Int.cast_ofNat_Int, Int.reducePow, Nat.min_eq_left, Int.toNat_natCast, g6, g5]
  refine xcall (text_still fS (by omega) hSp) (by rfl) (by rfl) (by rfl) (by rfl) ?_
  rintro r g10 ⟨rfl, rfl⟩
  rw [hcS]
  obtain ⟨str, hstr, hstr2⟩ := bytes_str hSb
  have hsz : str.size = N := by rw [← streamOf_len, hstr2, List.length_map, hSl]
  simp only [x_mv, x_pick, x_box, x_alloc, x_build, x_bslice, x_load1, x_loadN, x_store, x_nilck, x_bin, x_beq, x_isnil, x_eqs, x_un, x_conv, x_faddr, x_field1, x_fieldN, x_iaddr, x_iaddrA, x_idxA1, x_idxAN, x_idxS, x_slice, x_sliceS, x_sliceA, x_len, x_lenK, x_cap, x_mm, x_append, x_copy, x_mkslice, x_appz, x_extract, x_mkfunc, xcode_skip, xcode_region, xcode_seq, xcode_cond, xcode_block, xcode_scope, xcode_exit, xcode_ret, xcode_both, kSeq_normal, kSeq_ret, kSeq_exit, kBlock_normal, kBlock_ret, kBlock_exit, kScope_normal, kScope_ret, kScope_exit, kLoop_normal, kLoop_ret, kLoop_exit, xcond_true, xcond_false, xthen_some, xthen_none, xgrd_true, xgrd_false, xops_g, xops_nil, xop, ev, evs, evParts, fillL, cellsL, Ai.get, Ai.put, Option.map_some, Option.map_none, guardv_none, guardv_t, guardv_f, gdT_bool, gdF_bool, gdT_undef, gdF_undef, stab, true_and, and_true, Option.bind_some, Option.bind_none, isNil?, Bool.false_eq_true, if_false, if_true, Option.isNone_some, Option.isNone_none, Option.isSome_some, Option.isSome_none, addr?, int?, str?, agg?, bool?, shiftA, FnPost, xresL, xres1, tup, argEnv, ptr, Nat.reduceEqDiff, reduceIte, beq_self_eq_true, ne_eq, not_true_eq_false, not_false_eq_true, List.getElem?_cons_zero, List.getElem?_cons_succ, Nat.zero_add, Nat.add_zero, Bool.not_true, Bool.not_false, Nat.reduceAdd, Nat.reduceMul, Nat.reduceSub, abin_add, abin_sub, abin_mul, abin_eql, abin_neq, abin_lss, abin_leq, abin_gtr, abin_geq, abin_quo, abin_rem, abin_shl, abin_shr, abin_seql, abin_sneq, aun_not, aun_neg, load1V, loadV, storeV, cellsAt, getN, setN, allocV, lenL, lenS, bnd, List.length_cons, List.length_nil, List.all_cons, List.all_nil, oneC, Value.oneCell', Bool.and_self, List.set_cons_zero, List.set_cons_succ, Nat.reduceLeDiff, and_self, Nat.reduceLT, Value.bool.injEq, Option.some.injEq, exists_eq_left', false_implies, true_implies, forall_const, reduceCtorEq, Bool.true_eq_false, app_new, app_new0, set_new, set_new0, List.append_assoc, List.cons_append, List.nil_append, List.length_append, Int.reduceToNat, Int.reduceLT, Int.reduceLE, Int.reduceEq, Int.reduceNe, Int.reduceBEq, decide_true, decide_false, IntKind.bits, bne_self_eq_false, Option.bind_eq_bind, Option.pure_def, app_newS, app_new0S, set_newS, set_new0S, List.length_set, Int.cast_ofNat_Int, Int.reducePow, Nat.min_eq_left, Int.toNat_natCast, g6, g5]
  rw [x_b2s, b2s_run (qs := some ⟨B, 0, none⟩) (m := N) (cs := N) (zs := S) (str := str) rfl fS hstr]
  simp only [x_mv, x_pick, x_box, x_alloc, x_build, x_bslice, x_load1, x_loadN, x_store, x_nilck, x_bin, x_beq, x_isnil, x_eqs, x_un, x_conv, x_faddr, x_field1, x_fieldN, x_iaddr, x_iaddrA, x_idxA1, x_idxAN, x_idxS, x_slice, x_sliceS, x_sliceA, x_len, x_lenK, x_cap, x_mm, x_append, x_copy, x_mkslice, x_appz, x_b2s, x_extract, x_mkfunc, xcode_skip, xcode_region, xcode_seq, xcode_cond, xcode_block, xcode_scope, xcode_exit, xcode_ret, xcode_both, kSeq_normal, kSeq_ret, kSeq_exit, kBlock_normal, kBlock_ret, kBlock_exit, kScope_normal, kScope_ret, kScope_exit, kLoop_normal, kLoop_ret, kLoop_exit, xcond_true, xcond_false, xthen_some, xthen_none, xgrd_true, xgrd_false, xops_g, xops_nil, xop, ev, evs, evParts, fillL, cellsL, Ai.get, Ai.put, Option.map_some, Option.map_none, guardv_none, guardv_t, guardv_f, gdT_bool, gdF_bool, gdT_undef, gdF_undef, stab, true_and, and_true, Option.bind_some, Option.bind_none, isNil?, Bool.false_eq_true, if_false, if_true, Option.isNone_some, Option.isNone_none, Option.isSome_some, Option.isSome_none, addr?, int?, str?, agg?, bool?, shiftA, FnPost, xresL, xres1, tup, argEnv, ptr, Nat.reduceEqDiff, reduceIte, beq_self_eq_true, ne_eq, not_true_eq_false, not_false_eq_true, List.getElem?_cons_zero, List.getElem?_cons_succ, Nat.zero_add, Nat.add_zero, Bool.not_true, Bool.not_false, Nat.reduceAdd, Nat.reduceMul, Nat.reduceSub, abin_add, abin_sub, abin_mul, abin_eql, abin_neq, abin_lss, abin_leq, abin_gtr, abin_geq, abin_quo, abin_rem, abin_shl, abin_shr, abin_seql, abin_sneq, aun_not, aun_neg, load1V, loadV, storeV, cellsAt, getN, setN, allocV, lenL, lenS, bnd, List.length_cons, List.length_nil, List.all_cons, List.all_nil, oneC, Value.oneCell', Bool.and_self, List.set_cons_zero, List.set_cons_succ, Nat.reduceLeDiff, and_self, Nat.reduceLT, Value.bool.injEq, Option.some.injEq, exists_eq_left', false_implies, true_implies, forall_const, reduceCtorEq, Bool.true_eq_false, app_new, app_new0, set_new, set_new0, List.append_assoc, List.cons_append, List.nil_append, List.length_append, Int.reduceToNat, Int.reduceLT, Int.reduceLE, Int.reduceEq, Int.reduceNe, Int.reduceBEq, decide_true, decide_false, IntKind.bits, bne_self_eq_false, Option.bind_eq_bind, Option.pure_def, app_newS, app_new0S, set_newS, set_new0S, List.length_set, Int.cast_ofNat_Int, Int.reducePow, Nat.min_eq_left, Int.toNat_natCast, g6, g5]
  have hpc : parseC str = 3 := by unfold parseC; rw [if_pos (by omega)]
  refine xcall (parse_ok (s := str) (by omega)) (by rfl) (by rfl) (by rfl) (by rfl) ?_
  rintro r g11 ⟨E11, ⟨-, rfl⟩ | ⟨h1, _⟩⟩
  rotate_left
  · rw [hpc] at h1; cases h1
  rw [hpc]
  replace hB := E11.get hB
  replace fS := E11.first fS
  replace fF := E11.first fF
  clear E11
  simp only [x_mv, x_pick, x_box, x_alloc, x_build, x_bslice, x_load1, x_loadN, x_store, x_nilck, x_bin, x_beq, x_isnil, x_eqs, x_un, x_conv, x_faddr, x_field1, x_fieldN, x_iaddr, x_iaddrA, x_idxA1, x_idxAN, x_idxS, x_slice, x_sliceS, x_sliceA, x_len, x_lenK, x_cap, x_mm, x_append, x_copy, x_mkslice, x_appz, x_b2s, x_extract, x_mkfunc, xcode_skip, xcode_region, xcode_seq, xcode_cond, xcode_block, xcode_scope, xcode_exit, xcode_ret, xcode_both, kSeq_normal, kSeq_ret, kSeq_exit, kBlock_normal, kBlock_ret, kBlock_exit, kScope_normal, kScope_ret, kScope_exit, kLoop_normal, kLoop_ret, kLoop_exit, xcond_true, xcond_false, xthen_some, xthen_none, xgrd_true, xgrd_false, xops_g, xops_nil, xop, ev, evs, evParts, fillL, cellsL, Ai.get, Ai.put, Option.map_some, Option.map_none, guardv_none, guardv_t, guardv_f, gdT_bool, gdF_bool, gdT_undef, gdF_undef, stab, true_and, and_true, Option.bind_some, Option.bind_none, isNil?, Bool.false_eq_true, if_false, if_true, Option.isNone_some, Option.isNone_none, Option.isSome_some, Option.isSome_none, addr?, int?, str?, agg?, bool?, shiftA, FnPost, xresL, xres1, tup, argEnv, ptr, Nat.reduceEqDiff, reduceIte, beq_self_eq_true, ne_eq, not_true_eq_false, not_false_eq_true, List.getElem?_cons_zero, List.getElem?_cons_succ, Nat.zero_add, Nat.add_zero, Bool.not_true, Bool.not_false, Nat.reduceAdd, Nat.reduceMul, Nat.reduceSub, abin_add, abin_sub, abin_mul, abin_eql, abin_neq, abin_lss, abin_leq, abin_gtr, abin_geq, abin_quo, abin_rem, abin_shl, abin_shr, abin_seql, abin_sneq, aun_not, aun_neg, load1V, loadV, storeV, cellsAt, getN, setN, allocV, lenL, lenS, bnd, List.length_cons, List.length_nil, List.all_cons, List.all_nil, oneC, Value.oneCell', Bool.and_self, List.set_cons_zero, List.set_cons_succ, Nat.reduceLeDiff, and_self, Nat.reduceLT, Value.bool.injEq, Option.some.injEq, exists_eq_left', false_implies, true_implies, forall_const, reduceCtorEq, Bool.true_eq_false, app_new, app_new0, set_new, set_new0, List.append_assoc, List.cons_append, List.nil_append, List.length_append, Int.reduceToNat, Int.reduceLT, Int.reduceLE, Int.reduceEq, Int.reduceNe, Int.reduceBEq, decide_true, decide_false, IntKind.bits, bne_self_eq_false, Option.bind_eq_bind, Option.pure_def, app_newS, app_new0S, set_newS, set_new0S, List.length_set, Int.cast_ofNat_Int, Int.reducePow, Nat.min_eq_left, Int.toNat_natCast, g6, g5]
  have hpF : putC F 0 1 = 3 := by
    unfold putC
    rw [if_neg (by simp [hcF]), if_neg (by decide), if_pos (by omega)]
  refine xcall (put_bad (v := 0) (w := 1) fF (by omega) (by decide) (by rw [hpF]; decide)) (by rfl) (by rfl) (by rfl) (by rfl) ?_
  rintro r g12 ⟨rfl, E12⟩
  rw [hpF]
  replace hB := E12.get hB
  replace fS := E12.first fS
  replace fF := E12.first fF
  clear E12
  obtain ⟨M, hM⟩ : ∃ M : Nat, M + K = 1048576 := ⟨1048576 - K, by omega⟩
  have hwk : IntKind.i64.wrap (1048576 - (K : Int)) = ((M : Nat) : Int) := by rw [i64_wrap (by omega) (by omega)]; omega
  have hs3 : ((M : Nat) : Int) ≤ ((N - 1 : Nat) : Int) := by omega
  have hs4 : (0 : Int) ≤ ((M : Nat) : Int) := by omega
  have hs5 : ¬ N - 1 = 0 := by omega
  have fG : firstV 1 g12 (M) (.slice (some ⟨B, 0 + 1, none⟩) (M) (N - 1)) = some (bR ((F.drop 0).take (M))) := firstV_part (lo := 0) (len := M) (n := 1048576) (c := N - 1) (a := ⟨B, 0 + 1, none⟩) fF (by omega)
  have hGl : ((F.drop 0).take (M)).length = M := by rw [List.length_take, List.length_drop]; omega
  have hG0 : ∀ z ∈ (F.drop 0).take (M), z = 0 := fun z hz => hF0 z (List.mem_of_mem_drop (List.mem_of_mem_take hz))
  generalize (F.drop 0).take (M) = G at *
  have hpG : putC G 1 K = 0 := by
    have hcG : checkV G = 0 := checkV_zero (by omega) hG0
    unfold putC
    rw [if_neg (by simp [hcG]), if_neg, if_neg (by omega)]
    rintro (h | h | ⟨_, h⟩)
    · omega
    · omega
    · rw [Int.toNat_natCast, Nat.div_eq_of_lt (Nat.one_lt_two_pow (by omega))] at h; omega
  simp only [x_mv, x_pick, x_box, x_alloc, x_build, x_bslice, x_load1, x_loadN, x_store, x_nilck, x_bin, x_beq, x_isnil, x_eqs, x_un, x_conv, x_faddr, x_field1, x_fieldN, x_iaddr, x_iaddrA, x_idxA1, x_idxAN, x_idxS, x_slice, x_sliceS, x_sliceA, x_len, x_lenK, x_cap, x_mm, x_append, x_copy, x_mkslice, x_appz, x_b2s, x_extract, x_mkfunc, xcode_skip, xcode_region, xcode_seq, xcode_cond, xcode_block, xcode_scope, xcode_exit, xcode_ret, xcode_both, kSeq_normal, kSeq_ret, kSeq_exit, kBlock_normal, kBlock_ret, kBlock_exit, kScope_normal, kScope_ret, kScope_exit, kLoop_normal, kLoop_ret, kLoop_exit, xcond_true, xcond_false, xthen_some, xthen_none, xgrd_true, xgrd_false, xops_g, xops_nil, xop, ev, evs, evParts, fillL, cellsL, Ai.get, Ai.put, Option.map_some, Option.map_none, guardv_none, guardv_t, guardv_f, gdT_bool, gdF_bool, gdT_undef, gdF_undef, stab, true_and, and_true, Option.bind_some, Option.bind_none, isNil?, Bool.false_eq_true, if_false, if_true, Option.isNone_some, Option.isNone_none, Option.isSome_some, Option.isSome_none, addr?, int?, str?, agg?, bool?, shiftA, FnPost, xresL, xres1, tup, argEnv, ptr, Nat.reduceEqDiff, reduceIte, beq_self_eq_true, ne_eq, not_true_eq_false, not_false_eq_true, List.getElem?_cons_zero, List.getElem?_cons_succ, Nat.zero_add, Nat.add_zero, Bool.not_true, Bool.not_false, Nat.reduceAdd, Nat.reduceMul, Nat.reduceSub, abin_add, abin_sub, abin_mul, abin_eql, abin_neq, abin_lss, abin_leq, abin_gtr, abin_geq, abin_quo, abin_rem, abin_shl, abin_shr, abin_seql, abin_sneq, aun_not, aun_neg, load1V, loadV, storeV, cellsAt, getN, setN, allocV, lenL, lenS, bnd, List.length_cons, List.length_nil, List.all_cons, List.all_nil, oneC, Value.oneCell', Bool.and_self, List.set_cons_zero, List.set_cons_succ, Nat.reduceLeDiff, and_self, Nat.reduceLT, Value.bool.injEq, Option.some.injEq, exists_eq_left', false_implies, true_implies, forall_const, reduceCtorEq, Bool.true_eq_false, app_new, app_new0, set_new, set_new0, List.append_assoc, List.cons_append, List.nil_append, List.length_append, Int.reduceToNat, Int.reduceLT, Int.reduceLE, Int.reduceEq, Int.reduceNe, Int.reduceBEq, decide_true, decide_false, IntKind.bits, bne_self_eq_false, Option.bind_eq_bind, Option.pure_def, app_newS, app_new0S, set_newS, set_new0S, List.length_set, Int.cast_ofNat_Int, Int.reducePow, Nat.min_eq_left, Int.toNat_natCast, g6, g5, hwk, hu1, hs3, hs4, hs5, Nat.zero_mul, Nat.sub_zero]
  refine xcall (put_any (v := 1) (w := (K : Int)) fG (by omega) (by decide)) (by rfl) (by rfl) (by rfl) (by rfl) ?_
  rintro r g13 ⟨E13, o, rfl, ⟨h1, _⟩ | ⟨-, k, q', hk, -, rfl, hq', f'⟩⟩
  · exact absurd hpG h1
  obtain rfl : K = k := by omega
  rw [hpG]
  replace fS := E13.first fS
  replace fF := E13.first fF
  have hlen : ((M + K : Nat) : Int) = 1048576 := by omega
  simp only [x_mv, x_pick, x_box, x_alloc, x_build, x_bslice, x_load1, x_loadN, x_store, x_nilck, x_bin, x_beq, x_isnil, x_eqs, x_un, x_conv, x_faddr, x_field1, x_fieldN, x_iaddr, x_iaddrA, x_idxA1, x_idxAN, x_idxS, x_slice, x_sliceS, x_sliceA, x_len, x_lenK, x_cap, x_mm, x_append, x_copy, x_mkslice, x_appz, x_b2s, x_extract, x_mkfunc, xcode_skip, xcode_region, xcode_seq, xcode_cond, xcode_block, xcode_scope, xcode_exit, xcode_ret, xcode_both, kSeq_normal, kSeq_ret, kSeq_exit, kBlock_normal, kBlock_ret, kBlock_exit, kScope_normal, kScope_ret, kScope_exit, kLoop_normal, kLoop_ret, kLoop_exit, xcond_true, xcond_false, xthen_some, xthen_none, xgrd_true, xgrd_false, xops_g, xops_nil, xop, ev, evs, evParts, fillL, cellsL, Ai.get, Ai.put, Option.map_some, Option.map_none, guardv_none, guardv_t, guardv_f, gdT_bool, gdF_bool, gdT_undef, gdF_undef, stab, true_and, and_true, Option.bind_some, Option.bind_none, isNil?, Bool.false_eq_true, if_false, if_true, Option.isNone_some, Option.isNone_none, Option.isSome_some, Option.isSome_none, addr?, int?, str?, agg?, bool?, shiftA, FnPost, xresL, xres1, tup, argEnv, ptr, Nat.reduceEqDiff, reduceIte, beq_self_eq_true, ne_eq, not_true_eq_false, not_false_eq_true, List.getElem?_cons_zero, List.getElem?_cons_succ, Nat.zero_add, Nat.add_zero, Bool.not_true, Bool.not_false, Nat.reduceAdd, Nat.reduceMul, Nat.reduceSub, abin_add, abin_sub, abin_mul, abin_eql, abin_neq, abin_lss, abin_leq, abin_gtr, abin_geq, abin_quo, abin_rem, abin_shl, abin_shr, abin_seql, abin_sneq, aun_not, aun_neg, load1V, loadV, storeV, cellsAt, getN, setN, allocV, lenL, lenS, bnd, List.length_cons, List.length_nil, List.all_cons, List.all_nil, oneC, Value.oneCell', Bool.and_self, List.set_cons_zero, List.set_cons_succ, Nat.reduceLeDiff, and_self, Nat.reduceLT, Value.bool.injEq, Option.some.injEq, exists_eq_left', false_implies, true_implies, forall_const, reduceCtorEq, Bool.true_eq_false, app_new, app_new0, set_new, set_new0, List.append_assoc, List.cons_append, List.nil_append, List.length_append, Int.reduceToNat, Int.reduceLT, Int.reduceLE, Int.reduceEq, Int.reduceNe, Int.reduceBEq, decide_true, decide_false, IntKind.bits, bne_self_eq_false, Option.bind_eq_bind, Option.pure_def, app_newS, app_new0S, set_newS, set_new0S, List.length_set, Int.cast_ofNat_Int, Int.reducePow, Nat.min_eq_left, Int.toNat_natCast, g6, g5, hlen]
  refine xcall (check_still fF (by omega)) (by rfl) (by rfl) (by rfl) (by rfl) ?_
  rintro r h' ⟨rfl, rfl⟩
  rw [hcF]
  simp only [x_mv, x_pick, x_box, x_alloc, x_build, x_bslice, x_load1, x_loadN, x_store, x_nilck, x_bin, x_beq, x_isnil, x_eqs, x_un, x_conv, x_faddr, x_field1, x_fieldN, x_iaddr, x_iaddrA, x_idxA1, x_idxAN, x_idxS, x_slice, x_sliceS, x_sliceA, x_len, x_lenK, x_cap, x_mm, x_append, x_copy, x_mkslice, x_appz, x_b2s, x_extract, x_mkfunc, xcode_skip, xcode_region, xcode_seq, xcode_cond, xcode_block, xcode_scope, xcode_exit, xcode_ret, xcode_both, kSeq_normal, kSeq_ret, kSeq_exit, kBlock_normal, kBlock_ret, kBlock_exit, kScope_normal, kScope_ret, kScope_exit, kLoop_normal, kLoop_ret, kLoop_exit, xcond_true, xcond_false, xthen_some, xthen_none, xgrd_true, xgrd_false, xops_g, xops_nil, xop, ev, evs, evParts, fillL, cellsL, Ai.get, Ai.put, Option.map_some, Option.map_none, guardv_none, guardv_t, guardv_f, gdT_bool, gdF_bool, gdT_undef, gdF_undef, stab, true_and, and_true, Option.bind_some, Option.bind_none, isNil?, Bool.false_eq_true, if_false, if_true, Option.isNone_some, Option.isNone_none, Option.isSome_some, Option.isSome_none, addr?, int?, str?, agg?, bool?, shiftA, FnPost, xresL, xres1, tup, argEnv, ptr, Nat.reduceEqDiff, reduceIte, beq_self_eq_true, ne_eq, not_true_eq_false, not_false_eq_true, List.getElem?_cons_zero, List.getElem?_cons_succ, Nat.zero_add, Nat.add_zero, Bool.not_true, Bool.not_false, Nat.reduceAdd, Nat.reduceMul, Nat.reduceSub, abin_add, abin_sub, abin_mul, abin_eql, abin_neq, abin_lss, abin_leq, abin_gtr, abin_geq, abin_quo, abin_rem, abin_shl, abin_shr, abin_seql, abin_sneq, aun_not, aun_neg, load1V, loadV, storeV, cellsAt, getN, setN, allocV, lenL, lenS, bnd, List.length_cons, List.length_nil, List.all_cons, List.all_nil, oneC, Value.oneCell', Bool.and_self, List.set_cons_zero, List.set_cons_succ, Nat.reduceLeDiff, and_self, Nat.reduceLT, Value.bool.injEq, Option.some.injEq, exists_eq_left', false_implies, true_implies, forall_const, reduceCtorEq, Bool.true_eq_false, app_new, app_new0, set_new, set_new0, List.append_assoc, List.cons_append, List.nil_append, List.length_append, Int.reduceToNat, Int.reduceLT, Int.reduceLE, Int.reduceEq, Int.reduceNe, Int.reduceBEq, decide_true, decide_false, IntKind.bits, bne_self_eq_false, Option.bind_eq_bind, Option.pure_def, app_newS, app_new0S, set_newS, set_new0S, List.length_set, Int.cast_ofNat_Int, Int.reducePow, Nat.min_eq_left, Int.toNat_natCast, g6, g5]
  refine xcall (check_still fS (by omega)) (by rfl) (by rfl) (by rfl) (by rfl) ?_
  rintro r h' ⟨rfl, rfl⟩
  rw [hcS]
  simp only [x_mv, x_pick, x_box, x_alloc, x_build, x_bslice, x_load1, x_loadN, x_store, x_nilck, x_bin, x_beq, x_isnil, x_eqs, x_un, x_conv, x_faddr, x_field1, x_fieldN, x_iaddr, x_iaddrA, x_idxA1, x_idxAN, x_idxS, x_slice, x_sliceS, x_sliceA, x_len, x_lenK, x_cap, x_mm, x_append, x_copy, x_mkslice, x_appz, x_b2s, x_extract, x_mkfunc, xcode_skip, xcode_region, xcode_seq, xcode_cond, xcode_block, xcode_scope, xcode_exit, xcode_ret, xcode_both, kSeq_normal, kSeq_ret, kSeq_exit, kBlock_normal, kBlock_ret, kBlock_exit, kScope_normal, kScope_ret, kScope_exit, kLoop_normal, kLoop_ret, kLoop_exit, xcond_true, xcond_false, xthen_some, xthen_none, xgrd_true, xgrd_false, xops_g, xops_nil, xop, ev, evs, evParts, fillL, cellsL, Ai.get, Ai.put, Option.map_some, Option.map_none, guardv_none, guardv_t, guardv_f, gdT_bool, gdF_bool, gdT_undef, gdF_undef, stab, true_and, and_true, Option.bind_some, Option.bind_none, isNil?, Bool.false_eq_true, if_false, if_true, Option.isNone_some, Option.isNone_none, Option.isSome_some, Option.isSome_none, addr?, int?, str?, agg?, bool?, shiftA, FnPost, xresL, xres1, tup, argEnv, ptr, Nat.reduceEqDiff, reduceIte, beq_self_eq_true, ne_eq, not_true_eq_false, not_false_eq_true, List.getElem?_cons_zero, List.getElem?_cons_succ, Nat.zero_add, Nat.add_zero, Bool.not_true, Bool.not_false, Nat.reduceAdd, Nat.reduceMul, Nat.reduceSub, abin_add, abin_sub, abin_mul, abin_eql, abin_neq, abin_lss, abin_leq, abin_gtr, abin_geq, abin_quo, abin_rem, abin_shl, abin_shr, abin_seql, abin_sneq, aun_not, aun_neg, load1V, loadV, storeV, cellsAt, getN, setN, allocV, lenL, lenS, bnd, List.length_cons, List.length_nil, List.all_cons, List.all_nil, oneC, Value.oneCell', Bool.and_self, List.set_cons_zero, List.set_cons_succ, Nat.reduceLeDiff, and_self, Nat.reduceLT, Value.bool.injEq, Option.some.injEq, exists_eq_left', false_implies, true_implies, forall_const, reduceCtorEq, Bool.true_eq_false, app_new, app_new0, set_new, set_new0, List.append_assoc, List.cons_append, List.nil_append, List.length_append, Int.reduceToNat, Int.reduceLT, Int.reduceLE, Int.reduceEq, Int.reduceNe, Int.reduceBEq, decide_true, decide_false, IntKind.bits, bne_self_eq_false, Option.bind_eq_bind, Option.pure_def, app_newS, app_new0S, set_newS, set_new0S, List.length_set, Int.cast_ofNat_Int, Int.reducePow, Nat.min_eq_left, Int.toNat_natCast, g6, g5]
  refine xcall (lives_ok _) (by rfl) (by rfl) (by rfl) (by rfl) ?_
  rintro r h' ⟨rfl, rfl⟩
  simp only [x_mv, x_pick, x_box, x_alloc, x_build, x_bslice, x_load1, x_loadN, x_store, x_nilck, x_bin, x_beq, x_isnil, x_eqs, x_un, x_conv, x_faddr, x_field1, x_fieldN, x_iaddr, x_iaddrA, x_idxA1, x_idxAN, x_idxS, x_slice, x_sliceS, x_sliceA, x_len, x_lenK, x_cap, x_mm, x_append, x_copy, x_mkslice, x_appz, x_b2s, x_extract, x_mkfunc, xcode_skip, xcode_region, xcode_seq, xcode_cond, xcode_block, xcode_scope, xcode_exit, xcode_ret, xcode_both, kSeq_normal, kSeq_ret, kSeq_exit, kBlock_normal, kBlock_ret, kBlock_exit, kScope_normal, kScope_ret, kScope_exit, kLoop_normal, kLoop_ret, kLoop_exit, xcond_true, xcond_false, xthen_some, xthen_none, xgrd_true, xgrd_false, xops_g, xops_nil, xop, ev, evs, evParts, fillL, cellsL, Ai.get, Ai.put, Option.map_some, Option.map_none, guardv_none, guardv_t, guardv_f, gdT_bool, gdF_bool, gdT_undef, gdF_undef, stab, true_and, and_true, Option.bind_some, Option.bind_none, isNil?, Bool.false_eq_true, if_false, if_true, Option.isNone_some, Option.isNone_none, Option.isSome_some, Option.isSome_none, addr?, int?, str?, agg?, bool?, shiftA, FnPost, xresL, xres1, tup, argEnv, ptr, Nat.reduceEqDiff, reduceIte, beq_self_eq_true, ne_eq, not_true_eq_false, not_false_eq_true, List.getElem?_cons_zero, List.getElem?_cons_succ, Nat.zero_add, Nat.add_zero, Bool.not_true, Bool.not_false, Nat.reduceAdd, Nat.reduceMul, Nat.reduceSub, abin_add, abin_sub, abin_mul, abin_eql, abin_neq, abin_lss, abin_leq, abin_gtr, abin_geq, abin_quo, abin_rem, abin_shl, abin_shr, abin_seql, abin_sneq, aun_not, aun_neg, load1V, loadV, storeV, cellsAt, getN, setN, allocV, lenL, lenS, bnd, List.length_cons, List.length_nil, List.all_cons, List.all_nil, oneC, Value.oneCell', Bool.and_self, List.set_cons_zero, List.set_cons_succ, Nat.reduceLeDiff, and_self, Nat.reduceLT, Value.bool.injEq, Option.some.injEq, exists_eq_left', false_implies, true_implies, forall_const, reduceCtorEq, Bool.true_eq_false, app_new, app_new0, set_new, set_new0, List.append_assoc, List.cons_append, List.nil_append, List.length_append, Int.reduceToNat, Int.reduceLT, Int.reduceLE, Int.reduceEq, Int.reduceNe, Int.reduceBEq, decide_true, decide_false, IntKind.bits, bne_self_eq_false, Option.bind_eq_bind, Option.pure_def, app_newS, app_new0S, set_newS, set_new0S, List.length_set, Int.cast_ofNat_Int, Int.reducePow, Nat.min_eq_left, Int.toNat_natCast]
def limitsSh : List (Bool × List Cl) := [(false, [.leaf (.int .u8)]), (false, [.leaf .bool])]
theorem limits_sh {h : AHeap} {vs : List Value} (hs : SmallArgs h limitsSh vs) : Valid Try.prog 9 vs h fun r _ => r = .bool true := by
  obtain ⟨v1, r, rfl, h1, hs2⟩ := hs.cons_inv
  obtain ⟨v2, r, rfl, h2, hs3⟩ := hs2.cons_inv
  obtain rfl := hs3.nil_inv
  obtain ⟨m, rfl, wm⟩ := h1.one
  obtain ⟨b, rfl⟩ := h2.one
  exact limits_law (bounds_u8 wm)
end Go.Proofs.Ytkonlakldafbeaa
