import Derived.Test.YtkbpfebohpdgbaaG2
set_option linter.unusedVariables false
set_option linter.unusedSimpArgs false
namespace Go.Proofs.Ytkbpfebohpdgbaa
open Go Go.Ai Go.Proofs

theorem number_ok2 {h : AHeap} {k : Nat} (hk : k ≤ 1000000) : Valid Try.prog 15 [.int .i64 (k : Int)] h fun r h' => r = .int .u8 (num k : Nat) ∧ h' = h := number_ok hk
/-- a number of loads that is far from the limits -/
theorem lim_far {n k : Nat} (hn : n ≤ 60) (hk : k ≤ n) : limAt 127 65535 k = false := by
  have := tot_lst k
  unfold limAt
  simp only [Bool.or_eq_false_iff, decide_eq_false_iff_not]
  omega
theorem tot_drop (x m : Nat) (h : x ≤ m) : tot (lst x m) ≤ tot (lst 0 m) := by
  have : lst 0 m = lst 0 x ++ lst x m := (lst_app (Nat.zero_le _) h).symm
  rw [this, tot_app]; omega
theorem far2 {n x : Nat} (hn : n ≤ 60) (hx : x ≤ n) : (decide (127 ≤ n - x) || decide (65535 ≤ tot (lst x n))) = false := by
  have h1 := tot_drop x n hx
  have h2 := tot_lst n
  simp only [Bool.or_eq_false_iff, decide_eq_false_iff_not]
  omega
/-- all n are sent, x of them told as taken; the next one is load pos -/
def YE (n pos x : Nat) : BE := FE 127 65535 n n (pos - x) false x
theorem ye_choose {n pos x : Nat} (hn : n ≤ 60) (hx : x < n) (hp : pos ≤ n) (hxp : x ≤ pos) :
    (YE n pos x).choose = (YE n ((if pos = n then x else pos) + 1) x, (if pos = n then x else pos), some (msg (if pos = n then x else pos))) := by
  unfold YE
  rw [fe_turn hx (far2 hn (by omega)) (.inr rfl)]
  by_cases h : pos = n
  · have e1 : (pos - x) % (n - x) = 0 := by rw [h]; exact Nat.mod_self _
    have e2 : (x + 0) % 128 = x := Nat.mod_eq_of_lt (by omega)
    have e3 : x + 1 - x = 0 + 1 := by omega
    rw [e1, if_pos h, e2, e3]; rfl
  · have e1 : (pos - x) % (n - x) = pos - x := Nat.mod_eq_of_lt (by omega)
    have e2 : x + (pos - x) = pos := by omega
    have e3 : pos % 128 = pos := Nat.mod_eq_of_lt (by omega)
    have e4 : pos + 1 - x = pos - x + 1 := by omega
    rw [e1, if_neg h, e2, e3, e4]
theorem ce_full (n : Nat) : (CE 127 65535 n n) = YE n 0 0 := rfl
def cycU (x : Nat) : UP := ⟨(num x : Nat), false, 127, false, 0, 0, []⟩
theorem ye_hear {n pos x : Nat} (hn : n ≤ 60) (hx : x < n) (hp : pos ≤ n) : (YE n pos 0).hear (cycU x) = (YE n (max pos x) x, [], 0) := by
  have hl := num_lt x
  have h1 : chk (cycU x) = 0 := by
    unfold chk cycU; dsimp only
    rw [if_neg (by omega), if_neg (by simp)]
  have h4 : ahd (num 0) (num x) = x := by unfold ahd num; omega
  unfold BE.hear
  have e1 : (YE n pos 0).st = 0 := rfl
  rw [e1, h1, if_neg (by simp), if_neg (by simp), if_neg (show ¬ (cycU x).kind = 1 by show ¬ (0 : Int) = 1; decide)]
  have e2 : (cycU x).back.toNat = num x := by simp [cycU]
  have ho : (YE n pos 0).o.length = n := lst_len 0 n
  have e4 : ahd (YE n pos 0).ack (num x) = x := h4
  rw [e2, ho, e4, if_neg (by omega), if_neg (by show ¬ ((0 : Int) = 2 ∧ _); simp)]
  have e3 : ((YE n pos 0).abn false).ackd (num x) = YE n (max pos x) x := by
    unfold BE.ackd BE.abn YE FE
    simp only [h4, Nat.sub_zero]
    have : (lst 0 n).drop x = lst x n := by rw [lst_drop (by omega), Nat.zero_add]
    rw [this, show max pos x - x = pos - x by omega]
  rw [e3]
/-- one byte more -/
theorem RetN.pushB {K : Env → AHeap → Prop} {r : List XOper} {ρ : Env} {h : AHeap} {n : Nat} {rows : List Value} {d : Option Nat} {s x : XA} {sl v : Value} (R : RetN 1 h sl n rows) (hv : oneC v = true)
    (hs : ev ρ s = some sl) (hx : ev ρ x = some (.slice (some ⟨h.length, 0, none⟩) 1 1)) (hb : n < 1000000)
    (hK : ∀ h' A', h.length < A' → h'.length = A' + 1 → RetN 1 h' (.slice (some ⟨A', 0, none⟩) (n + 1) (unk + 1)) (n + 1) (rows ++ [v]) → (∀ B, B < h.length → slB sl ≠ some B → h'[B]? = h[B]?) → Frz h h' → xops Try.prog K r (put d (.slice (some ⟨A', 0, none⟩) (n + 1) (unk + 1)) ρ) h') :
    xops Try.prog K (⟨d, none, .append 1 1 [.int .u8 0] s x, []⟩ :: r) ρ (h ++ [some ⟨true, [v]⟩]) := by
  have hlt : ∀ B, slB sl = some B → B < h.length := fun B hB => by obtain ⟨cs, h1⟩ := R.own hB; exact lt_of_get h1
  have R2 : RetN 1 (h ++ [some ⟨true, [v]⟩]) sl n rows := R.keep fun A hA => List.getElem?_append_left (hlt A hA)
  have hf : firstV 1 (h ++ [some ⟨true, [v]⟩]) 1 (.slice (some ⟨h.length, 0, none⟩) 1 1) = some [v] := by
    simp only [firstV, cellsAt, app_new0]; simp [getN]
  refine append_run (k := 1) (by_ := 1) (n := n) (m := 1) (rows := rows) (news := [v]) (sl := sl) (xv := .slice (some ⟨h.length, 0, none⟩) 1 1) rfl (by decide) hs hx rfl hf rfl (by simp [hv]) R2.toO (by omega) (by omega) (fun h0 => by omega) (fun _ h' A' hA' hg hl' hfr => ?_)
  simp only [List.length_append, List.length_cons, List.length_nil, Nat.zero_add] at hA' hl' hfr
  have hfr' : ∀ B, B < h.length → slB sl ≠ some B → h'[B]? = h[B]? := fun B hB hne => by rw [hfr B (by omega) hne, List.getElem?_append_left hB]
  have hz : Frz h h' := fun B cs hB => by
    rw [hfr' B (lt_of_get hB) (fun e => by obtain ⟨cs', h1⟩ := R.own e; rw [h1] at hB; cases hB)]; exact hB
  have hAl := lt_of_get hg
  exact hK h' A' (by omega) (by omega) (RetN.all hg (by rw [List.length_append, R.1]; simp)) hfr' hz
def CycI1 (X n : Nat) (b c : Value) (m' : Nat) (ρ : Env) (h : AHeap) : Prop := ∃ i qv ov, i + m' = n ∧ get ρ 10 = some (.int .i64 (i : Nat)) ∧ get ρ 7 = some (.int .i64 (n : Nat)) ∧ get ρ 8 = some (.pointer (some ⟨X, 0, none⟩)) ∧ get ρ 1 = some b ∧ get ρ 2 = some c ∧ BAt h X (CE 127 65535 i 0) qv ov
def CycM1 (X n : Nat) (b c : Value) (ρ : Env) (h : AHeap) : Prop := ∃ qv ov, get ρ 7 = some (.int .i64 (n : Nat)) ∧ get ρ 8 = some (.pointer (some ⟨X, 0, none⟩)) ∧ get ρ 1 = some b ∧ get ρ 2 = some c ∧ BAt h X (CE 127 65535 n 0) qv ov
/-- the fore numbers of n units -/
def ForI (X n : Nat) (qv ov : Value) (h0 : AHeap) (m' : Nat) (ρ : Env) (h : AHeap) : Prop := ∃ i sl zs qv' ov', i + m' = n ∧ zs.length = i ∧ get ρ 6 = some (.int .i64 (i : Nat)) ∧ get ρ 1 = some (.int .i64 (n : Nat)) ∧ get ρ 0 = some (.pointer (some ⟨X, 0, none⟩)) ∧ get ρ 5 = some sl ∧ RetN 1 h sl i (bR zs) ∧ BAt h X (CE 127 65535 n i) qv' ov' ∧ ∀ B, slB sl = some B → ¬ foot X qv' ov' B
set_option maxHeartbeats 8000000 in
set_option maxRecDepth 20000 in
/-- n units of an end that has n loads to send -/
theorem fores_ok {h : AHeap} {X n : Nat} {qv ov : Value} (hn : n ≤ 60) (E : BAt h X (CE 127 65535 n 0) qv ov) : Valid Try.prog 12 [.pointer (some ⟨X, 0, none⟩), .int .i64 (n : Int)] h fun r h' => (∃ q c, r = .slice q n c) ∧ ∃ qv' ov', BAt h' X (CE 127 65535 n n) qv' ov' := by
  refine v12 (by simp) ?_
  simp only [X12, x_mv, x_pick, x_box, x_alloc, x_build, x_bslice, x_load1, x_loadN, x_store, x_nilck, x_bin, x_beq, x_isnil, x_eqs, x_un, x_conv, x_faddr, x_field1, x_fieldN, x_iaddr, x_iaddrA, x_idxA1, x_idxAN, x_idxS, x_slice, x_sliceS, x_sliceA, x_len, x_lenK, x_cap, x_mm, x_append, x_copy, x_mkslice, x_appz, x_b2s, x_extract, x_mkfunc, xcode_skip, xcode_region, xcode_seq, xcode_cond, xcode_block, xcode_scope, xcode_exit, xcode_ret, xcode_both, kSeq_normal, kSeq_ret, kSeq_exit, kBlock_normal, kBlock_ret, kBlock_exit, kScope_normal, kScope_ret, kScope_exit, kLoop_normal, kLoop_ret, kLoop_exit, xcond_true, xcond_false, xthen_some, xthen_none, xgrd_true, xgrd_false, xops_g, xops_nil, xop, ev, evs, evParts, fillL, cellsL, Ai.get, Ai.put, Option.map_some, Option.map_none, guardv_none, guardv_t, guardv_f, gdT_bool, gdF_bool, gdT_undef, gdF_undef, stab, true_and, and_true, Option.bind_some, Option.bind_none, isNil?, Bool.false_eq_true, if_false, if_true, Option.isNone_some, Option.isNone_none, Option.isSome_some, Option.isSome_none, addr?, int?, str?, agg?, bool?, shiftA, FnPost, xresL, xres1, tup, argEnv, ptr, Nat.reduceEqDiff, reduceIte, beq_self_eq_true, ne_eq, not_true_eq_false, not_false_eq_true, List.getElem?_cons_zero, List.getElem?_cons_succ, Nat.zero_add, Nat.add_zero, Bool.not_true, Bool.not_false, Nat.reduceAdd, Nat.reduceMul, Nat.reduceSub, abin_add, abin_sub, abin_mul, abin_eql, abin_neq, abin_lss, abin_leq, abin_gtr, abin_geq, abin_quo, abin_rem, abin_shl, abin_shr, abin_seql, abin_sneq, aun_not, aun_neg, load1V, loadV, storeV, cellsAt, getN, setN, allocV, lenL, lenS, bnd, List.length_cons, List.length_nil, List.all_cons, List.all_nil, oneC, Value.oneCell', Bool.and_self, List.set_cons_zero, List.set_cons_succ, Nat.reduceLeDiff, and_self, Nat.reduceLT, Value.bool.injEq, Option.some.injEq, exists_eq_left', false_implies, true_implies, forall_const, reduceCtorEq, Bool.true_eq_false, app_new, app_new0, set_new, set_new0, List.append_assoc, List.cons_append, List.nil_append, List.length_append, Int.reduceToNat, Int.reduceLT, Int.reduceLE, Int.reduceEq, Int.reduceNe, Int.reduceBEq, decide_true, decide_false, IntKind.bits, bne_self_eq_false, Option.bind_eq_bind, Option.pure_def, app_newS, app_new0S, set_newS, set_new0S, List.length_set, Int.cast_ofNat_Int, Int.reducePow, Nat.min_eq_left, Int.toNat_natCast]
  refine xloop_cut (fun ρ h' => (∃ q c, get ρ 5 = some (.slice q n c)) ∧ ∃ qv' ov', BAt h' X (CE 127 65535 n n) qv' ov') ?_ ?_
  · refine xcode_loop (ForI X n qv ov h) n ⟨0, .slice none 0 0, [], qv, ov, by omega, rfl, rfl, rfl, rfl, rfl, RetN.nil 1 h, E, by simp [slB]⟩ ?_
    clear E
    rintro m' ρ h1 ⟨i, sl, zs, qv1, ov1, him, hzl, g6, g1, g0, g5, R, E, D⟩
    by_cases hlt : i < n
    · have hlt' : (i : Int) < n := by omega
      have hwi : IntKind.i64.wrap ((i : Int) + 1) = ((i + 1 : Nat) : Int) := by rw [i64_wrap] <;> omega
      simp only [x_mv, x_pick, x_box, x_alloc, x_build, x_bslice, x_load1, x_loadN, x_store, x_nilck, x_bin, x_beq, x_isnil, x_eqs, x_un, x_conv, x_faddr, x_field1, x_fieldN, x_iaddr, x_iaddrA, x_idxA1, x_idxAN, x_idxS, x_slice, x_sliceS, x_sliceA, x_len, x_lenK, x_cap, x_mm, x_append, x_copy, x_mkslice, x_appz, x_b2s, x_extract, x_mkfunc, xcode_skip, xcode_region, xcode_seq, xcode_cond, xcode_block, xcode_scope, xcode_exit, xcode_ret, xcode_both, kSeq_normal, kSeq_ret, kSeq_exit, kBlock_normal, kBlock_ret, kBlock_exit, kScope_normal, kScope_ret, kScope_exit, kLoop_normal, kLoop_ret, kLoop_exit, xcond_true, xcond_false, xthen_some, xthen_none, xgrd_true, xgrd_false, xops_g, xops_nil, xop, ev, evs, evParts, fillL, cellsL, Ai.get, Ai.put, Option.map_some, Option.map_none, guardv_none, guardv_t, guardv_f, gdT_bool, gdF_bool, gdT_undef, gdF_undef, stab, true_and, and_true, Option.bind_some, Option.bind_none, isNil?, Bool.false_eq_true, if_false, if_true, Option.isNone_some, Option.isNone_none, Option.isSome_some, Option.isSome_none, addr?, int?, str?, agg?, bool?, shiftA, FnPost, xresL, xres1, tup, argEnv, ptr, Nat.reduceEqDiff, reduceIte, beq_self_eq_true, ne_eq, not_true_eq_false, not_false_eq_true, List.getElem?_cons_zero, List.getElem?_cons_succ, Nat.zero_add, Nat.add_zero, Bool.not_true, Bool.not_false, Nat.reduceAdd, Nat.reduceMul, Nat.reduceSub, abin_add, abin_sub, abin_mul, abin_eql, abin_neq, abin_lss, abin_leq, abin_gtr, abin_geq, abin_quo, abin_rem, abin_shl, abin_shr, abin_seql, abin_sneq, aun_not, aun_neg, load1V, loadV, storeV, cellsAt, getN, setN, allocV, lenL, lenS, bnd, List.length_cons, List.length_nil, List.all_cons, List.all_nil, oneC, Value.oneCell', Bool.and_self, List.set_cons_zero, List.set_cons_succ, Nat.reduceLeDiff, and_self, Nat.reduceLT, Value.bool.injEq, Option.some.injEq, exists_eq_left', false_implies, true_implies, forall_const, reduceCtorEq, Bool.true_eq_false, app_new, app_new0, set_new, set_new0, List.append_assoc, List.cons_append, List.nil_append, List.length_append, Int.reduceToNat, Int.reduceLT, Int.reduceLE, Int.reduceEq, Int.reduceNe, Int.reduceBEq, decide_true, decide_false, IntKind.bits, bne_self_eq_false, Option.bind_eq_bind, Option.pure_def, app_newS, app_new0S, set_newS, set_new0S, List.length_set, Int.cast_ofNat_Int, Int.reducePow, Nat.min_eq_left, Int.toNat_natCast, g6, g1, g0, g5, hlt']
      have hnx := next_okV E
      rw [next_eq rfl (ce_new1 hlt (lim_far hn (by omega)))] at hnx
      simp only [Option.isSome_some, if_true, Option.getD_some] at hnx
      refine xcall hnx (by rfl) (by rfl) (by rfl) (by rfl) ?_
      rintro r2 h2 ⟨⟨lv, rfl, hW, hV⟩, qv2, ov2, E2, F2, D2⟩
      have hV := hV trivial
      obtain ⟨BL, rfl, -⟩ := id hV
      have hn1 : ∀ A, slB sl = some A → A < h1.length := fun A hA => by obtain ⟨cs, k⟩ := R.own hA; exact lt_of_get k
      have R2 : RetN 1 h2 sl i (bR zs) := R.keep fun A hA => F2.2 A (hn1 A hA) (D A hA)
      have D2' : ∀ B, slB sl = some B → ¬ foot X qv2 ov2 B := fun B hB hf => by
        rcases D2 B hf with k | k
        · exact D B hB k
        · have := hn1 B hB; omega
      have hl2 := F2.1
      simp only [x_mv, x_pick, x_box, x_build, x_bslice, x_load1, x_loadN, x_store, x_nilck, x_bin, x_beq, x_isnil, x_eqs, x_un, x_conv, x_faddr, x_field1, x_fieldN, x_iaddr, x_iaddrA, x_idxA1, x_idxAN, x_idxS, x_slice, x_sliceS, x_sliceA, x_len, x_lenK, x_cap, x_mm, x_append, x_copy, x_mkslice, x_appz, x_b2s, x_extract, x_mkfunc, xcode_skip, xcode_region, xcode_seq, xcode_cond, xcode_block, xcode_scope, xcode_exit, xcode_ret, xcode_both, kSeq_normal, kSeq_ret, kSeq_exit, kBlock_normal, kBlock_ret, kBlock_exit, kScope_normal, kScope_ret, kScope_exit, kLoop_normal, kLoop_ret, kLoop_exit, xcond_true, xcond_false, xthen_some, xthen_none, xgrd_true, xgrd_false, xops_g, xops_nil, xop, ev, evs, evParts, fillL, cellsL, Ai.get, Ai.put, Option.map_some, Option.map_none, guardv_none, guardv_t, guardv_f, gdT_bool, gdF_bool, gdT_undef, gdF_undef, stab, true_and, and_true, Option.bind_some, Option.bind_none, isNil?, Bool.false_eq_true, if_false, if_true, Option.isNone_some, Option.isNone_none, Option.isSome_some, Option.isSome_none, addr?, int?, str?, agg?, bool?, shiftA, FnPost, xresL, xres1, tup, argEnv, ptr, Nat.reduceEqDiff, reduceIte, beq_self_eq_true, ne_eq, not_true_eq_false, not_false_eq_true, List.getElem?_cons_zero, List.getElem?_cons_succ, Nat.zero_add, Nat.add_zero, Bool.not_true, Bool.not_false, Nat.reduceAdd, Nat.reduceMul, Nat.reduceSub, abin_add, abin_sub, abin_mul, abin_eql, abin_neq, abin_lss, abin_leq, abin_gtr, abin_geq, abin_quo, abin_rem, abin_shl, abin_shr, abin_seql, abin_sneq, aun_not, aun_neg, load1V, loadV, storeV, cellsAt, getN, setN, allocV, lenL, lenS, bnd, List.length_cons, List.length_nil, List.all_cons, List.all_nil, oneC, Value.oneCell', Bool.and_self, List.set_cons_zero, List.set_cons_succ, Nat.reduceLeDiff, and_self, Nat.reduceLT, Value.bool.injEq, Option.some.injEq, exists_eq_left', false_implies, true_implies, forall_const, reduceCtorEq, Bool.true_eq_false, app_new, app_new0, set_new, set_new0, List.append_assoc, List.cons_append, List.nil_append, List.length_append, Int.reduceToNat, Int.reduceLT, Int.reduceLE, Int.reduceEq, Int.reduceNe, Int.reduceBEq, decide_true, decide_false, IntKind.bits, bne_self_eq_false, Option.bind_eq_bind, Option.pure_def, app_newS, app_new0S, set_newS, set_new0S, List.length_set, Int.cast_ofNat_Int, Int.reducePow, Nat.min_eq_left, Int.toNat_natCast]
      refine alloc_run fun g3 U K3 hU hUl _ => ?_
      have E3 := E2.kp K3
      have R3 : RetN 1 g3 sl i (bR zs) := R2.keep fun A hA => K3.2 A (by have := hn1 A hA; omega)
      have nU : ∀ B, foot X qv2 ov2 B → B ≠ U := fun B hB e1 => by have := E2.lt hB; omega
      have fa : (CE 127 65535 n i).acc = 127 := rfl
      obtain ⟨E4, z4⟩ := E3.aside hU nU [.int .u8 127, .bool true, .int .u8 ((i % 128 : Nat) : Int), .bool true, .int .u8 2, .int .u8 0, .slice (some ⟨BL, 0, none⟩) (msg i).length (msg i).length]
      have R4 : RetN 1 (g3.set U (some ⟨true, [.int .u8 127, .bool true, .int .u8 ((i % 128 : Nat) : Int), .bool true, .int .u8 2, .int .u8 0, .slice (some ⟨BL, 0, none⟩) (msg i).length (msg i).length]⟩)) sl i (bR zs) := R3.keep fun A hA => set_ne (fun e1 => by have := hn1 A hA; omega) _
      have U4 := set_same hU (some ⟨true, [.int .u8 127, .bool true, .int .u8 ((i % 128 : Nat) : Int), .bool true, .int .u8 2, .int .u8 0, .slice (some ⟨BL, 0, none⟩) (msg i).length (msg i).length]⟩)
      simp only [x_mv, x_pick, x_box, x_alloc, x_build, x_bslice, x_load1, x_loadN, x_store, x_nilck, x_bin, x_beq, x_isnil, x_eqs, x_un, x_conv, x_faddr, x_field1, x_fieldN, x_iaddr, x_iaddrA, x_idxA1, x_idxAN, x_idxS, x_slice, x_sliceS, x_sliceA, x_len, x_lenK, x_cap, x_mm, x_copy, x_mkslice, x_appz, x_b2s, x_extract, x_mkfunc, xcode_skip, xcode_region, xcode_seq, xcode_cond, xcode_block, xcode_scope, xcode_exit, xcode_ret, xcode_both, kSeq_normal, kSeq_ret, kSeq_exit, kBlock_normal, kBlock_ret, kBlock_exit, kScope_normal, kScope_ret, kScope_exit, kLoop_normal, kLoop_ret, kLoop_exit, xcond_true, xcond_false, xthen_some, xthen_none, xgrd_true, xgrd_false, xops_g, xops_nil, xop, ev, evs, evParts, fillL, cellsL, Ai.get, Ai.put, Option.map_some, Option.map_none, guardv_none, guardv_t, guardv_f, gdT_bool, gdF_bool, gdT_undef, gdF_undef, stab, true_and, and_true, Option.bind_some, Option.bind_none, isNil?, Bool.false_eq_true, if_false, if_true, Option.isNone_some, Option.isNone_none, Option.isSome_some, Option.isSome_none, addr?, int?, str?, agg?, bool?, shiftA, FnPost, xresL, xres1, tup, argEnv, ptr, Nat.reduceEqDiff, reduceIte, beq_self_eq_true, ne_eq, not_true_eq_false, not_false_eq_true, List.getElem?_cons_zero, List.getElem?_cons_succ, Nat.zero_add, Nat.add_zero, Bool.not_true, Bool.not_false, Nat.reduceAdd, Nat.reduceMul, Nat.reduceSub, abin_add, abin_sub, abin_mul, abin_eql, abin_neq, abin_lss, abin_leq, abin_gtr, abin_geq, abin_quo, abin_rem, abin_shl, abin_shr, abin_seql, abin_sneq, aun_not, aun_neg, load1V, loadV, storeV, cellsAt, getN, setN, allocV, lenL, lenS, bnd, List.length_cons, List.length_nil, List.all_cons, List.all_nil, oneC, Value.oneCell', Bool.and_self, List.set_cons_zero, List.set_cons_succ, Nat.reduceLeDiff, and_self, Nat.reduceLT, Value.bool.injEq, Option.some.injEq, exists_eq_left', false_implies, true_implies, forall_const, reduceCtorEq, Bool.true_eq_false, app_new, app_new0, set_new, set_new0, List.append_assoc, List.cons_append, List.nil_append, List.length_append, Int.reduceToNat, Int.reduceLT, Int.reduceLE, Int.reduceEq, Int.reduceNe, Int.reduceBEq, decide_true, decide_false, IntKind.bits, bne_self_eq_false, Option.bind_eq_bind, Option.pure_def, app_newS, app_new0S, set_newS, set_new0S, List.length_set, Int.cast_ofNat_Int, Int.reducePow, Nat.min_eq_left, Int.toNat_natCast, hU, UP.cells, set_here, fa, g6, g1, g0, g5]
      have hg3 := K3.1
      have hlU := lt_of_get hU
      have hgl : g3.length = (g3.set U (some (⟨true, [.int .u8 127, .bool true, .int .u8 ((i % 128 : Nat) : Int), .bool true, .int .u8 2, .int .u8 0, .slice (some ⟨BL, 0, none⟩) (msg i).length (msg i).length]⟩ : AObj))).length := by simp
      have hg3' : g3.length = U + 1 := by omega
      rw [hgl]
      generalize (g3.set U (some ⟨true, [.int .u8 127, .bool true, .int .u8 ((i % 128 : Nat) : Int), .bool true, .int .u8 2, .int .u8 0, .slice (some ⟨BL, 0, none⟩) (msg i).length (msg i).length]⟩)) = g4 at *
      refine R4.pushB (by rfl) (by rfl) (by rfl) (by omega) fun h5 A' hA' hl5 R5 hfr5 z5 => ?_
      have E5 : BAt h5 X (CE 127 65535 n (i + 1)) qv2 ov2 := E4.keep z5 fun B hB => hfr5 B (E4.lt hB) fun e1 => D2' B e1 hB
      simp only [x_mv, x_pick, x_box, x_alloc, x_build, x_bslice, x_load1, x_loadN, x_store, x_nilck, x_bin, x_beq, x_isnil, x_eqs, x_un, x_conv, x_faddr, x_field1, x_fieldN, x_iaddr, x_iaddrA, x_idxA1, x_idxAN, x_idxS, x_slice, x_sliceS, x_sliceA, x_len, x_lenK, x_cap, x_mm, x_append, x_copy, x_mkslice, x_appz, x_b2s, x_extract, x_mkfunc, xcode_skip, xcode_region, xcode_seq, xcode_cond, xcode_block, xcode_scope, xcode_exit, xcode_ret, xcode_both, kSeq_normal, kSeq_ret, kSeq_exit, kBlock_normal, kBlock_ret, kBlock_exit, kScope_normal, kScope_ret, kScope_exit, kLoop_normal, kLoop_ret, kLoop_exit, xcond_true, xcond_false, xthen_some, xthen_none, xgrd_true, xgrd_false, xops_g, xops_nil, xop, ev, evs, evParts, fillL, cellsL, Ai.get, Ai.put, Option.map_some, Option.map_none, guardv_none, guardv_t, guardv_f, gdT_bool, gdF_bool, gdT_undef, gdF_undef, stab, true_and, and_true, Option.bind_some, Option.bind_none, isNil?, Bool.false_eq_true, if_false, if_true, Option.isNone_some, Option.isNone_none, Option.isSome_some, Option.isSome_none, addr?, int?, str?, agg?, bool?, shiftA, FnPost, xresL, xres1, tup, argEnv, ptr, Nat.reduceEqDiff, reduceIte, beq_self_eq_true, ne_eq, not_true_eq_false, not_false_eq_true, List.getElem?_cons_zero, List.getElem?_cons_succ, Nat.zero_add, Nat.add_zero, Bool.not_true, Bool.not_false, Nat.reduceAdd, Nat.reduceMul, Nat.reduceSub, abin_add, abin_sub, abin_mul, abin_eql, abin_neq, abin_lss, abin_leq, abin_gtr, abin_geq, abin_quo, abin_rem, abin_shl, abin_shr, abin_seql, abin_sneq, aun_not, aun_neg, load1V, loadV, storeV, cellsAt, getN, setN, allocV, lenL, lenS, bnd, List.length_cons, List.length_nil, List.all_cons, List.all_nil, oneC, Value.oneCell', Bool.and_self, List.set_cons_zero, List.set_cons_succ, Nat.reduceLeDiff, and_self, Nat.reduceLT, Value.bool.injEq, Option.some.injEq, exists_eq_left', false_implies, true_implies, forall_const, reduceCtorEq, Bool.true_eq_false, app_new, app_new0, set_new, set_new0, List.append_assoc, List.cons_append, List.nil_append, List.length_append, Int.reduceToNat, Int.reduceLT, Int.reduceLE, Int.reduceEq, Int.reduceNe, Int.reduceBEq, decide_true, decide_false, IntKind.bits, bne_self_eq_false, Option.bind_eq_bind, Option.pure_def, app_newS, app_new0S, set_newS, set_new0S, List.length_set, Int.cast_ofNat_Int, Int.reducePow, Nat.min_eq_left, Int.toNat_natCast, g6, g1, g0, g5, hwi]
      refine ⟨m' - 1, by omega, i + 1, _, zs ++ [((i % 128 : Nat) : Int)], qv2, ov2, by omega, by simp [hzl], rfl, g1, g0, rfl, ?_, E5, fun B hB hf => ?_⟩
      · unfold bR at R5 ⊢; rw [List.map_append]; exact R5
      · simp [slB] at hB
        have := E4.lt hf
        omega
    · have hlt' : ¬ (i : Int) < n := by omega
      have hin : i = n := by omega
      subst hin
      simp only [x_mv, x_pick, x_box, x_alloc, x_build, x_bslice, x_load1, x_loadN, x_store, x_nilck, x_bin, x_beq, x_isnil, x_eqs, x_un, x_conv, x_faddr, x_field1, x_fieldN, x_iaddr, x_iaddrA, x_idxA1, x_idxAN, x_idxS, x_slice, x_sliceS, x_sliceA, x_len, x_lenK, x_cap, x_mm, x_append, x_copy, x_mkslice, x_appz, x_b2s, x_extract, x_mkfunc, xcode_skip, xcode_region, xcode_seq, xcode_cond, xcode_block, xcode_scope, xcode_exit, xcode_ret, xcode_both, kSeq_normal, kSeq_ret, kSeq_exit, kBlock_normal, kBlock_ret, kBlock_exit, kScope_normal, kScope_ret, kScope_exit, kLoop_normal, kLoop_ret, kLoop_exit, xcond_true, xcond_false, xthen_some, xthen_none, xgrd_true, xgrd_false, xops_g, xops_nil, xop, ev, evs, evParts, fillL, cellsL, Ai.get, Ai.put, Option.map_some, Option.map_none, guardv_none, guardv_t, guardv_f, gdT_bool, gdF_bool, gdT_undef, gdF_undef, stab, true_and, and_true, Option.bind_some, Option.bind_none, isNil?, Bool.false_eq_true, if_false, if_true, Option.isNone_some, Option.isNone_none, Option.isSome_some, Option.isSome_none, addr?, int?, str?, agg?, bool?, shiftA, FnPost, xresL, xres1, tup, argEnv, ptr, Nat.reduceEqDiff, reduceIte, beq_self_eq_true, ne_eq, not_true_eq_false, not_false_eq_true, List.getElem?_cons_zero, List.getElem?_cons_succ, Nat.zero_add, Nat.add_zero, Bool.not_true, Bool.not_false, Nat.reduceAdd, Nat.reduceMul, Nat.reduceSub, abin_add, abin_sub, abin_mul, abin_eql, abin_neq, abin_lss, abin_leq, abin_gtr, abin_geq, abin_quo, abin_rem, abin_shl, abin_shr, abin_seql, abin_sneq, aun_not, aun_neg, load1V, loadV, storeV, cellsAt, getN, setN, allocV, lenL, lenS, bnd, List.length_cons, List.length_nil, List.all_cons, List.all_nil, oneC, Value.oneCell', Bool.and_self, List.set_cons_zero, List.set_cons_succ, Nat.reduceLeDiff, and_self, Nat.reduceLT, Value.bool.injEq, Option.some.injEq, exists_eq_left', false_implies, true_implies, forall_const, reduceCtorEq, Bool.true_eq_false, app_new, app_new0, set_new, set_new0, List.append_assoc, List.cons_append, List.nil_append, List.length_append, Int.reduceToNat, Int.reduceLT, Int.reduceLE, Int.reduceEq, Int.reduceNe, Int.reduceBEq, decide_true, decide_false, IntKind.bits, bne_self_eq_false, Option.bind_eq_bind, Option.pure_def, app_newS, app_new0S, set_newS, set_new0S, List.length_set, Int.cast_ofNat_Int, Int.reducePow, Nat.min_eq_left, Int.toNat_natCast, g6, g1, g0, g5, hlt']
      obtain ⟨q, c, rfl⟩ : ∃ q c, sl = .slice q i c := by
        rcases R.2 with ⟨rfl, h0⟩ | ⟨A, off, cells, rfl, -⟩
        · exact ⟨none, 0, by rw [h0]⟩
        · exact ⟨_, _, rfl⟩
      exact ⟨⟨q, c, rfl⟩, _, _, E⟩
  · rintro ρ h2 ⟨⟨q, c, g5⟩, qv2, ov2, E2⟩
    simp only [x_mv, x_pick, x_box, x_alloc, x_build, x_bslice, x_load1, x_loadN, x_store, x_nilck, x_bin, x_beq, x_isnil, x_eqs, x_un, x_conv, x_faddr, x_field1, x_fieldN, x_iaddr, x_iaddrA, x_idxA1, x_idxAN, x_idxS, x_slice, x_sliceS, x_sliceA, x_len, x_lenK, x_cap, x_mm, x_append, x_copy, x_mkslice, x_appz, x_b2s, x_extract, x_mkfunc, xcode_skip, xcode_region, xcode_seq, xcode_cond, xcode_block, xcode_scope, xcode_exit, xcode_ret, xcode_both, kSeq_normal, kSeq_ret, kSeq_exit, kBlock_normal, kBlock_ret, kBlock_exit, kScope_normal, kScope_ret, kScope_exit, kLoop_normal, kLoop_ret, kLoop_exit, xcond_true, xcond_false, xthen_some, xthen_none, xgrd_true, xgrd_false, xops_g, xops_nil, xop, ev, evs, evParts, fillL, cellsL, Ai.get, Ai.put, Option.map_some, Option.map_none, guardv_none, guardv_t, guardv_f, gdT_bool, gdF_bool, gdT_undef, gdF_undef, stab, true_and, and_true, Option.bind_some, Option.bind_none, isNil?, Bool.false_eq_true, if_false, if_true, Option.isNone_some, Option.isNone_none, Option.isSome_some, Option.isSome_none, addr?, int?, str?, agg?, bool?, shiftA, FnPost, xresL, xres1, tup, argEnv, ptr, Nat.reduceEqDiff, reduceIte, beq_self_eq_true, ne_eq, not_true_eq_false, not_false_eq_true, List.getElem?_cons_zero, List.getElem?_cons_succ, Nat.zero_add, Nat.add_zero, Bool.not_true, Bool.not_false, Nat.reduceAdd, Nat.reduceMul, Nat.reduceSub, abin_add, abin_sub, abin_mul, abin_eql, abin_neq, abin_lss, abin_leq, abin_gtr, abin_geq, abin_quo, abin_rem, abin_shl, abin_shr, abin_seql, abin_sneq, aun_not, aun_neg, load1V, loadV, storeV, cellsAt, getN, setN, allocV, lenL, lenS, bnd, List.length_cons, List.length_nil, List.all_cons, List.all_nil, oneC, Value.oneCell', Bool.and_self, List.set_cons_zero, List.set_cons_succ, Nat.reduceLeDiff, and_self, Nat.reduceLT, Value.bool.injEq, Option.some.injEq, exists_eq_left', false_implies, true_implies, forall_const, reduceCtorEq, Bool.true_eq_false, app_new, app_new0, set_new, set_new0, List.append_assoc, List.cons_append, List.nil_append, List.length_append, Int.reduceToNat, Int.reduceLT, Int.reduceLE, Int.reduceEq, Int.reduceNe, Int.reduceBEq, decide_true, decide_false, IntKind.bits, bne_self_eq_false, Option.bind_eq_bind, Option.pure_def, app_newS, app_new0S, set_newS, set_new0S, List.length_set, Int.cast_ofNat_Int, Int.reducePow, Nat.min_eq_left, Int.toNat_natCast, g5]
    exact ⟨⟨q, c, rfl⟩, _, _, E2⟩
end Go.Proofs.Ytkbpfebohpdgbaa
