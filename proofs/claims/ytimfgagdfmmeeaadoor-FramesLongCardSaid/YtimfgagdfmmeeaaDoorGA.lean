import Derived.Test.YtimfgagdfmmeeaaDoorFA
set_option linter.unusedVariables false
set_option linter.unusedSimpArgs false
namespace Go.Proofs.YtimfgagdfmmeeaaDoor
open Go Go.Ai Go.Proofs

/-- bits -/
def Bits (l : List Int) : Prop := ∀ z ∈ l, z = 0 ∨ z = 1
theorem Bits.tail {b : Int} {l : List Int} (h : Bits (b :: l)) : Bits l := fun z hz => h z (List.mem_cons_of_mem _ hz)
theorem Bits.app {a b : List Int} (h : Bits a) (k : Bits b) : Bits (a ++ b) := fun z hz => (List.mem_append.1 hz).elim (h z) (k z)
theorem Bits.drop {l : List Int} (h : Bits l) (n : Nat) : Bits (l.drop n) := fun z hz => h z (List.mem_of_mem_drop hz)
theorem Bits.take {l : List Int} (h : Bits l) (n : Nat) : Bits (l.take n) := fun z hz => h z (List.mem_of_mem_take hz)
/-- a stream is stuffed; k ones stand before it -/
def stf : List Int → Nat → List Int
  | [], _ => []
  | b :: l, k => if b = 0 then 0 :: stf l 0 else if k + 1 = 5 then b :: 0 :: stf l 0 else b :: stf l (k + 1)
/-- .. and back -/
def unst : List Int → Nat → Option (List Int)
  | [], k => if k = 5 then none else some []
  | b :: l, k => if k = 5 then (if b = 1 then none else unst l 0) else (unst l (if b = 1 then k + 1 else 0)).map (b :: ·)
theorem stf_zero (l : List Int) (k : Nat) : stf (0 :: l) k = 0 :: stf l 0 := by rw [stf, if_pos rfl]
theorem stf_five (l : List Int) {k : Nat} (h : k + 1 = 5) : stf (1 :: l) k = 1 :: 0 :: stf l 0 := by rw [stf, if_neg (by decide), if_pos h]
theorem stf_one (l : List Int) {k : Nat} (h : ¬ k + 1 = 5) : stf (1 :: l) k = 1 :: stf l (k + 1) := by rw [stf, if_neg (by decide), if_neg h]
theorem stf_bits : ∀ {l : List Int} {k : Nat}, Bits l → Bits (stf l k)
  | [], k, _ => fun z hz => by cases hz
  | b :: l, k, h => by
    rcases h b List.mem_cons_self with rfl | rfl
    · rw [stf_zero]
      intro z hz
      rcases List.mem_cons.1 hz with rfl | hz
      · exact .inl rfl
      · exact stf_bits h.tail z hz
    · by_cases hk : k + 1 = 5
      · rw [stf_five l hk]
        intro z hz
        rcases List.mem_cons.1 hz with rfl | hz
        · exact .inr rfl
        · rcases List.mem_cons.1 hz with rfl | hz
          · exact .inl rfl
          · exact stf_bits h.tail z hz
      · rw [stf_one l hk]
        intro z hz
        rcases List.mem_cons.1 hz with rfl | hz
        · exact .inr rfl
        · exact stf_bits h.tail z hz
theorem stf_len : ∀ (l : List Int) (k : Nat), Bits l → k < 5 → (stf l k).length ≤ l.length + (l.length + k) / 5
  | [], k, _, _ => by simp [stf]
  | b :: l, k, h, hk => by
    rcases h b List.mem_cons_self with rfl | rfl
    · rw [stf_zero]
      have := stf_len l 0 h.tail (by decide)
      simp only [List.length_cons]; omega
    · by_cases hk5 : k + 1 = 5
      · rw [stf_five l hk5]
        have := stf_len l 0 h.tail (by decide)
        simp only [List.length_cons]; omega
      · rw [stf_one l hk5]
        have := stf_len l (k + 1) h.tail (by omega)
        simp only [List.length_cons]; omega
theorem unst_stf : ∀ {l : List Int} {k : Nat}, Bits l → k < 5 → unst (stf l k) k = some l
  | [], k, _, hk => by rw [stf, unst, if_neg (by omega)]
  | b :: l, k, h, hk => by
    rcases h b List.mem_cons_self with rfl | rfl
    · rw [stf_zero, unst, if_neg (by omega), if_neg (by decide), unst_stf h.tail (by decide)]; rfl
    · by_cases hk5 : k + 1 = 5
      · rw [stf_five l hk5, unst, if_neg (by omega), if_pos rfl, hk5, unst, if_pos rfl, if_neg (by decide), unst_stf h.tail (by decide)]; rfl
      · rw [stf_one l hk5, unst, if_neg (by omega), if_pos rfl, unst_stf h.tail (by omega)]; rfl
theorem stf_unst : ∀ {l : List Int} {k : Nat} {b : List Int}, Bits l → k ≤ 5 → unst l k = some b → (k < 5 → stf b k = l) ∧ (k = 5 → l = 0 :: stf b 0) ∧ Bits b
  | [], k, b, _, hk, h => by
    rw [unst] at h
    split at h
    · cases h
    · cases h; exact ⟨fun _ => rfl, fun e => by omega, fun z hz => by cases hz⟩
  | x :: l, k, b, hx, hk, h => by
    rw [unst] at h
    by_cases h5 : k = 5
    · rw [if_pos h5] at h
      rcases hx x List.mem_cons_self with rfl | rfl
      · rw [if_neg (by decide)] at h
        obtain ⟨h1, -, h2⟩ := stf_unst hx.tail (by decide) h
        exact ⟨fun e => by omega, fun _ => by rw [h1 (by decide)], h2⟩
      · rw [if_pos rfl] at h; cases h
    · rw [if_neg h5] at h
      obtain ⟨c, hc, rfl⟩ := Option.map_eq_some_iff.1 h
      rcases hx x List.mem_cons_self with rfl | rfl
      · rw [if_neg (by decide)] at hc
        obtain ⟨h1, -, h2⟩ := stf_unst hx.tail (by decide) hc
        exact ⟨fun _ => by rw [stf_zero, h1 (by decide)], fun e => absurd e h5, fun z hz => by
          rcases List.mem_cons.1 hz with rfl | hz
          · exact .inl rfl
          · exact h2 z hz⟩
      · rw [if_pos rfl] at hc
        obtain ⟨h1, h3, h2⟩ := stf_unst hx.tail (by omega) hc
        refine ⟨fun hk4 => ?_, fun e => absurd e h5, fun z hz => ?_⟩
        · by_cases h6 : k + 1 = 5
          · rw [stf_five c h6, h3 h6]
          · rw [stf_one c h6, h1 (by omega)]
        · rcases List.mem_cons.1 hz with rfl | hz
          · exact .inr rfl
          · exact h2 z hz
theorem run_stf : ∀ {l : List Int} {k m : Nat}, Bits l → k < 5 → m ≤ 5 → ((stf l k).foldl (runStep 1) (m, k)).1 ≤ 5
  | [], k, m, _, _, hm => hm
  | b :: l, k, m, h, hk, hm => by
    have s1 : ∀ m k : Nat, runStep 1 (m, k) 1 = (max m (k + 1), k + 1) := fun m k => rfl
    have s0 : ∀ m k : Nat, runStep 1 (m, k) 0 = (max m 0, 0) := fun m k => rfl
    rcases h b List.mem_cons_self with rfl | rfl
    · rw [stf_zero, List.foldl_cons, s0]
      exact run_stf h.tail (by decide) (by omega)
    · by_cases hk5 : k + 1 = 5
      · rw [stf_five l hk5, List.foldl_cons, s1, List.foldl_cons, s0]
        exact run_stf h.tail (by decide) (by omega)
      · rw [stf_one l hk5, List.foldl_cons, s1]
        exact run_stf h.tail (by omega) (by omega)
/-- ones at the end -/
def tr (l : List Int) : Nat := (l.reverse.takeWhile fun x => decide (x = 1)).length
theorem tr_nil : tr [] = 0 := rfl
theorem tr_snoc (l : List Int) (b : Int) : tr (l ++ [b]) = if b = 1 then tr l + 1 else 0 := by
  unfold tr
  rw [List.reverse_append]
  simp only [List.reverse_cons, List.reverse_nil, List.nil_append, List.singleton_append, List.takeWhile_cons]
  by_cases h : b = 1
  · rw [if_pos h]; simp [h]
  · rw [if_neg h]; simp [h]
theorem tr_le (l : List Int) : tr l ≤ l.length := by
  unfold tr
  have := (List.takeWhile_prefix (p := fun x : Int => decide (x = 1)) (l := l.reverse)).length_le
  simpa using this
/-- Ones -/
def OnI (g : AHeap) (q : Option Addr) (n c at' : Nat) (zs : List Int) (m : Nat) (ρ : Env) (h : AHeap) : Prop := ∃ k : Nat, k + m = at' ∧ get ρ 5 = some (.int .i64 (k : Nat)) ∧ get ρ 0 = some (.slice q n c) ∧ get ρ 1 = some (.int .i64 (at' : Nat)) ∧ h = g ∧ tr (zs.take at') = k + tr (zs.take (at' - k))
def OnE (g : AHeap) (at' : Nat) (zs : List Int) (ρ : Env) (h : AHeap) : Prop := get ρ 5 = some (.int .i64 (tr (zs.take at') : Nat)) ∧ h = g
theorem ones_ok {h : AHeap} {q : Option Addr} {n c at' : Nat} {zs : List Int} (hf : firstV 1 h n (.slice q n c) = some (bR zs)) (hn : n ≤ 1048576 * 2) (hat : at' ≤ n) :
    Valid Tryd.prog 30 [.slice q n c, .int .i64 (at' : Int)] h fun r h' => r = .int .i64 (tr (zs.take at') : Nat) ∧ h' = h := by
  refine v30 (by simp) ?_
  have hzl := firstV_len hf
  rw [bR_len, Nat.mul_one] at hzl
  simp only [X30, sx, x_box, x_alloc, x_bslice, x_slice, x_append, x_appz, x_b2s, x_s2b, x_mark, xop, ev, evs, evParts, fillL, cellsL, Ai.get, Ai.put, stab, isNil?, if_false, if_true, addr?, int?, str?, agg?, bool?, shiftA, FnPost, xresL, xres1, tup, argEnv, ptr, Nat.reduceEqDiff, reduceIte, beq_self_eq_true, ne_eq, Nat.reduceAdd, Nat.reduceMul, Nat.reduceSub, abin_shl, abin_shr, load1V, loadV, storeV, cellsAt, getN, setN, allocV, lenL, lenS, bnd, oneC, Value.oneCell', Nat.reduceLeDiff, Nat.reduceLT, exists_eq_left', forall_const, reduceCtorEq, app_new, app_new0, List.append_assoc, Int.reduceToNat, Int.reduceLT, Int.reduceLE, Int.reduceEq, Int.reduceNe, Int.reduceBEq, IntKind.bits, bne_self_eq_false, Int.reducePow]
  refine xloop_cut (OnE h at' zs) ?_ ?_
  · refine xcode_loop (OnI h q n c at' zs) at' ⟨0, by omega, rfl, rfl, rfl, rfl, by simp⟩ ?_
    rintro m ρ g ⟨k, hkm, r5, r0, r1, e0, ht⟩
    subst e0
    have w1 : IntKind.i64.wrap ((at' : Int) - (k : Int)) = ((at' - k : Nat) : Int) := by rw [i64_wrap] <;> omega
    have w2 : IntKind.i64.wrap (((at' - k : Nat) : Int) - 1) = ((at' - k : Nat) : Int) - 1 := by rw [i64_wrap] <;> omega
    have w3 : IntKind.i64.wrap ((k : Int) + 1) = ((k + 1 : Nat) : Int) := by rw [i64_wrap] <;> omega
    by_cases hk : k < at'
    · have hgt : (0 : Int) < ((at' - k : Nat) : Int) := by omega
      obtain ⟨a, o, z, rfl, a1, a2, a3, a4⟩ := elemB hf (i := at' - k - 1) (by omega)
      have hi0 : (0 : Int) ≤ ((at' - k : Nat) : Int) - 1 := by omega
      have hi1 : ((at' - k : Nat) : Int) - 1 < (n : Nat) := by omega
      have hix : (((at' - k : Nat) : Int) - 1).toNat = at' - k - 1 := by omega
      have hsn : zs.take (at' - k) = zs.take (at' - k - 1) ++ [z] := by
        have := take_snoc a4
        rw [show at' - k - 1 + 1 = at' - k by omega] at this; exact this
      by_cases hz : z = 1
      · subst hz
        simp only [sx, x_box, x_alloc, x_bslice, x_slice, x_append, x_appz, x_b2s, x_s2b, x_mark, xop, ev, evs, evParts, fillL, cellsL, Ai.get, Ai.put, stab, isNil?, if_false, if_true, addr?, int?, str?, agg?, bool?, shiftA, FnPost, xresL, xres1, tup, argEnv, ptr, Nat.reduceEqDiff, reduceIte, beq_self_eq_true, ne_eq, Nat.reduceAdd, Nat.reduceMul, Nat.reduceSub, abin_shl, abin_shr, load1V, loadV, storeV, cellsAt, getN, setN, allocV, lenL, lenS, bnd, oneC, Value.oneCell', Nat.reduceLeDiff, Nat.reduceLT, exists_eq_left', forall_const, reduceCtorEq, app_new, app_new0, List.append_assoc, Int.reduceToNat, Int.reduceLT, Int.reduceLE, Int.reduceEq, Int.reduceNe, Int.reduceBEq, IntKind.bits, bne_self_eq_false, Int.reducePow, r5, r0, r1, w1, w2, w3, hgt, hi0, hi1, hix, a1, a2, a3, Nat.mul_one]
        refine ⟨m - 1, by omega, k + 1, by omega, rfl, r0, r1, rfl, ?_⟩
        rw [ht, hsn, tr_snoc, if_pos rfl, show at' - (k + 1) = at' - k - 1 by omega]; omega
      · simp only [sx, x_box, x_alloc, x_bslice, x_slice, x_append, x_appz, x_b2s, x_s2b, x_mark, xop, ev, evs, evParts, fillL, cellsL, Ai.get, Ai.put, stab, isNil?, if_false, if_true, addr?, int?, str?, agg?, bool?, shiftA, FnPost, xresL, xres1, tup, argEnv, ptr, Nat.reduceEqDiff, reduceIte, beq_self_eq_true, ne_eq, Nat.reduceAdd, Nat.reduceMul, Nat.reduceSub, abin_shl, abin_shr, load1V, loadV, storeV, cellsAt, getN, setN, allocV, lenL, lenS, bnd, oneC, Value.oneCell', Nat.reduceLeDiff, Nat.reduceLT, exists_eq_left', forall_const, reduceCtorEq, app_new, app_new0, List.append_assoc, Int.reduceToNat, Int.reduceLT, Int.reduceLE, Int.reduceEq, Int.reduceNe, Int.reduceBEq, IntKind.bits, bne_self_eq_false, Int.reducePow, r5, r0, r1, w1, w2, w3, hgt, hi0, hi1, hix, a1, a2, a3, Nat.mul_one, hz]
        refine ⟨r5.trans ?_, rfl⟩
        rw [ht, hsn, tr_snoc, if_neg hz]; rfl
    · have hgt : ¬ (0 : Int) < ((at' - k : Nat) : Int) := by omega
      simp only [sx, x_box, x_alloc, x_bslice, x_slice, x_append, x_appz, x_b2s, x_s2b, x_mark, xop, ev, evs, evParts, fillL, cellsL, Ai.get, Ai.put, stab, isNil?, if_false, if_true, addr?, int?, str?, agg?, bool?, shiftA, FnPost, xresL, xres1, tup, argEnv, ptr, Nat.reduceEqDiff, reduceIte, beq_self_eq_true, ne_eq, Nat.reduceAdd, Nat.reduceMul, Nat.reduceSub, abin_shl, abin_shr, load1V, loadV, storeV, cellsAt, getN, setN, allocV, lenL, lenS, bnd, oneC, Value.oneCell', Nat.reduceLeDiff, Nat.reduceLT, exists_eq_left', forall_const, reduceCtorEq, app_new, app_new0, List.append_assoc, Int.reduceToNat, Int.reduceLT, Int.reduceLE, Int.reduceEq, Int.reduceNe, Int.reduceBEq, IntKind.bits, bne_self_eq_false, Int.reducePow, r5, r0, r1, w1, hgt]
      refine ⟨r5.trans ?_, rfl⟩
      rw [ht, show at' - k = 0 by omega, List.take_zero, tr_nil]; rfl
  · rintro ρ g ⟨r5, e0⟩
    subst e0
    simp only [sx, x_box, x_alloc, x_bslice, x_slice, x_append, x_appz, x_b2s, x_s2b, x_mark, xop, ev, evs, evParts, fillL, cellsL, Ai.get, Ai.put, stab, isNil?, if_false, if_true, addr?, int?, str?, agg?, bool?, shiftA, FnPost, xresL, xres1, tup, argEnv, ptr, Nat.reduceEqDiff, reduceIte, beq_self_eq_true, ne_eq, Nat.reduceAdd, Nat.reduceMul, Nat.reduceSub, abin_shl, abin_shr, load1V, loadV, storeV, cellsAt, getN, setN, allocV, lenL, lenS, bnd, oneC, Value.oneCell', Nat.reduceLeDiff, Nat.reduceLT, exists_eq_left', forall_const, reduceCtorEq, app_new, app_new0, List.append_assoc, Int.reduceToNat, Int.reduceLT, Int.reduceLE, Int.reduceEq, Int.reduceNe, Int.reduceBEq, IntKind.bits, bne_self_eq_false, Int.reducePow, r5]

theorem RN.shp {h : AHeap} {sl : Value} {zs : List Int} (r : RN h sl zs) : ∃ q c, sl = .slice q zs.length c ∧ firstV 1 h zs.length (.slice q zs.length c) = some (bR zs) := by
  rcases r with ⟨rfl, rfl⟩ | ⟨A, rfl, h1⟩
  · exact ⟨none, 0, rfl, rfl⟩
  · refine ⟨_, _, rfl, ?_⟩
    simp only [firstV]
    split
    · rename_i h0; rw [List.eq_nil_of_length_eq_zero h0]; rfl
    · simp only [ne_eq, not_true_eq_false, if_false, cellsAt, h1, Option.bind_some, Nat.mul_one]
      exact getN_all _ _ (bR_len _).symm
theorem drop_at {zs : List Int} {i : Nat} {z : Int} (h : zs[i]? = some z) : zs.drop i = z :: zs.drop (i + 1) := by
  obtain ⟨hi, rfl⟩ := List.getElem?_eq_some_iff.1 h
  exact List.drop_eq_getElem_cons hi
def RsI (g : AHeap) (q : Option Addr) (n c : Nat) (zs : List Int) (m : Nat) (ρ : Env) (h : AHeap) : Prop := ∃ (i k : Nat) (sl : Value) (out : List Int), i + m = n ∧ get ρ 4 = some (.int .i64 (i : Nat)) ∧ get ρ 0 = some (.slice q n c) ∧ get ρ 3 = some sl ∧ RN h sl out ∧ Ext g h ∧ (∀ A, slB sl = some A → g.length ≤ A) ∧ stf zs 0 = out ++ stf (zs.drop i) k ∧ tr out = k ∧ k < 5 ∧ out.length ≤ 2 * i
def RsE (g : AHeap) (zs : List Int) (ρ : Env) (h : AHeap) : Prop := ∃ sl : Value, get ρ 3 = some sl ∧ RN h sl (stf zs 0) ∧ Ext g h ∧ ∀ A, slB sl = some A → g.length ≤ A
/-- the reference's Stuff -/
theorem rstuff_ok {h : AHeap} {q : Option Addr} {n c : Nat} {zs : List Int} (hf : firstV 1 h n (.slice q n c) = some (bR zs)) (hn : n ≤ 1048576) (hb : Bits zs) :
    Valid Tryd.prog 25 [.slice q n c] h fun r h' => RN h' r (stf zs 0) ∧ Ext h h' ∧ ∀ A, slB r = some A → h.length ≤ A := by
  refine v25 (by simp) ?_
  have hzl := firstV_len hf
  rw [bR_len, Nat.mul_one] at hzl
  simp only [X25, sx, x_box, x_alloc, x_bslice, x_slice, x_append, x_appz, x_b2s, x_s2b, x_mark, xop, ev, evs, evParts, fillL, cellsL, Ai.get, Ai.put, stab, isNil?, if_false, if_true, addr?, int?, str?, agg?, bool?, shiftA, FnPost, xresL, xres1, tup, argEnv, ptr, Nat.reduceEqDiff, reduceIte, beq_self_eq_true, ne_eq, Nat.reduceAdd, Nat.reduceMul, Nat.reduceSub, abin_shl, abin_shr, load1V, loadV, storeV, cellsAt, getN, setN, allocV, lenL, lenS, bnd, oneC, Value.oneCell', Nat.reduceLeDiff, Nat.reduceLT, exists_eq_left', forall_const, reduceCtorEq, app_new, app_new0, List.append_assoc, Int.reduceToNat, Int.reduceLT, Int.reduceLE, Int.reduceEq, Int.reduceNe, Int.reduceBEq, IntKind.bits, bne_self_eq_false, Int.reducePow]
  refine xloop_cut (RsE h zs) ?_ ?_
  · refine xcode_loop (RsI h q n c zs) n ⟨0, 0, .slice none 0 0, [], by omega, rfl, rfl, rfl, .inl ⟨rfl, rfl⟩, Ext.refl _, (fun A hA => by cases hA), by simp, rfl, by decide, by simp⟩ ?_
    rintro m ρ g ⟨i, k, sl, out, him, r4, r0, r3, R, E, hgl, hst, htr, hk, hol⟩
    by_cases hi : i < n
    · have hi' : (i : Int) < (n : Nat) := by omega
      have hi0 : (0 : Int) ≤ (i : Int) := by omega
      have wi : IntKind.i64.wrap ((i : Int) + 1) = ((i + 1 : Nat) : Int) := by rw [i64_wrap] <;> omega
      obtain ⟨a, o, z, rfl, a1, a2, a3, a4⟩ := elemB (E.first hf) hi
      have hz := hb z (List.mem_of_getElem? a4)
      have hdr := drop_at a4
      simp only [sx, x_box, x_alloc, x_bslice, x_slice, x_appz, x_b2s, x_s2b, x_mark, xop, ev, evs, evParts, fillL, cellsL, Ai.get, Ai.put, stab, isNil?, if_false, if_true, addr?, int?, str?, agg?, bool?, shiftA, FnPost, xresL, xres1, tup, argEnv, ptr, Nat.reduceEqDiff, reduceIte, beq_self_eq_true, ne_eq, Nat.reduceAdd, Nat.reduceMul, Nat.reduceSub, abin_shl, abin_shr, load1V, loadV, storeV, cellsAt, getN, setN, allocV, lenL, lenS, bnd, oneC, Value.oneCell', Nat.reduceLeDiff, Nat.reduceLT, exists_eq_left', forall_const, reduceCtorEq, app_new, app_new0, List.append_assoc, Int.reduceToNat, Int.reduceLT, Int.reduceLE, Int.reduceEq, Int.reduceNe, Int.reduceBEq, IntKind.bits, bne_self_eq_false, Int.reducePow, r4, r0, r3, hi', hi0, a1, a2, a3, Nat.mul_one]
      refine RN.push R E hgl rfl rfl (by omega) fun sl' g2 R2 E2 hgl2 => ?_
      obtain ⟨q2, c2, rfl, hf2⟩ := R2.shp
      have hl2 : (out ++ [z]).length = out.length + 1 := by simp
      simp only [sx, x_box, x_alloc, x_bslice, x_slice, x_appz, x_b2s, x_s2b, x_mark, xop, ev, evs, evParts, fillL, cellsL, Ai.get, Ai.put, stab, isNil?, if_false, if_true, addr?, int?, str?, agg?, bool?, shiftA, FnPost, xresL, xres1, tup, argEnv, ptr, Nat.reduceEqDiff, reduceIte, beq_self_eq_true, ne_eq, Nat.reduceAdd, Nat.reduceMul, Nat.reduceSub, abin_shl, abin_shr, load1V, loadV, storeV, cellsAt, getN, setN, allocV, lenL, lenS, bnd, oneC, Value.oneCell', Nat.reduceLeDiff, Nat.reduceLT, exists_eq_left', forall_const, reduceCtorEq, app_new, app_new0, List.append_assoc, Int.reduceToNat, Int.reduceLT, Int.reduceLE, Int.reduceEq, Int.reduceNe, Int.reduceBEq, IntKind.bits, bne_self_eq_false, Int.reducePow]
      rw [hl2] at hf2 R2 hgl2
      refine xcall (ones_ok (at' := out.length + 1) hf2 (by omega) (Nat.le_refl _)) (by rfl) (by rfl) (by rfl) (by rfl) ?_
      rintro r g3 ⟨rfl, e0⟩
      subst e0
      rw [List.take_of_length_le (by omega), tr_snoc, htr]
      by_cases h5 : z = 1 ∧ k + 1 = 5
      · obtain ⟨rfl, hk5⟩ := h5
        rw [if_pos rfl, hk5]
        simp only [sx, x_box, x_alloc, x_bslice, x_slice, x_appz, x_b2s, x_s2b, x_mark, xop, ev, evs, evParts, fillL, cellsL, Ai.get, Ai.put, stab, isNil?, if_false, if_true, addr?, int?, str?, agg?, bool?, shiftA, FnPost, xresL, xres1, tup, argEnv, ptr, Nat.reduceEqDiff, reduceIte, beq_self_eq_true, ne_eq, Nat.reduceAdd, Nat.reduceMul, Nat.reduceSub, abin_shl, abin_shr, load1V, loadV, storeV, cellsAt, getN, setN, allocV, lenL, lenS, bnd, oneC, Value.oneCell', Nat.reduceLeDiff, Nat.reduceLT, exists_eq_left', forall_const, reduceCtorEq, app_new, app_new0, List.append_assoc, Int.reduceToNat, Int.reduceLT, Int.reduceLE, Int.reduceEq, Int.reduceNe, Int.reduceBEq, IntKind.bits, bne_self_eq_false, Int.reducePow]
        refine RN.push R2 E2 hgl2 rfl rfl (by simp; omega) fun sl3 g4 R3 E3 hgl3 => ?_
        simp only [sx, x_box, x_alloc, x_bslice, x_slice, x_append, x_appz, x_b2s, x_s2b, x_mark, xop, ev, evs, evParts, fillL, cellsL, Ai.get, Ai.put, stab, isNil?, if_false, if_true, addr?, int?, str?, agg?, bool?, shiftA, FnPost, xresL, xres1, tup, argEnv, ptr, Nat.reduceEqDiff, reduceIte, beq_self_eq_true, ne_eq, Nat.reduceAdd, Nat.reduceMul, Nat.reduceSub, abin_shl, abin_shr, load1V, loadV, storeV, cellsAt, getN, setN, allocV, lenL, lenS, bnd, oneC, Value.oneCell', Nat.reduceLeDiff, Nat.reduceLT, exists_eq_left', forall_const, reduceCtorEq, app_new, app_new0, List.append_assoc, Int.reduceToNat, Int.reduceLT, Int.reduceLE, Int.reduceEq, Int.reduceNe, Int.reduceBEq, IntKind.bits, bne_self_eq_false, Int.reducePow, r4, wi]
        refine ⟨m - 1, by omega, i + 1, 0, sl3, out ++ [1] ++ [0], by omega, rfl, r0, rfl, R3, E3, hgl3, ?_, ?_, by decide, by simp; omega⟩
        · rw [hst, hdr, stf_five _ hk5]; simp
        · rw [tr_snoc, if_neg (by decide)]
      · have h5' : ¬ ((if z = 1 then k + 1 else 0 : Nat) : Int) = 5 := by
          split <;> omega
        simp only [sx, x_box, x_alloc, x_bslice, x_slice, x_append, x_appz, x_b2s, x_s2b, x_mark, xop, ev, evs, evParts, fillL, cellsL, Ai.get, Ai.put, stab, isNil?, if_false, if_true, addr?, int?, str?, agg?, bool?, shiftA, FnPost, xresL, xres1, tup, argEnv, ptr, Nat.reduceEqDiff, reduceIte, beq_self_eq_true, ne_eq, Nat.reduceAdd, Nat.reduceMul, Nat.reduceSub, abin_shl, abin_shr, load1V, loadV, storeV, cellsAt, getN, setN, allocV, lenL, lenS, bnd, oneC, Value.oneCell', Nat.reduceLeDiff, Nat.reduceLT, exists_eq_left', forall_const, reduceCtorEq, app_new, app_new0, List.append_assoc, Int.reduceToNat, Int.reduceLT, Int.reduceLE, Int.reduceEq, Int.reduceNe, Int.reduceBEq, IntKind.bits, bne_self_eq_false, Int.reducePow, r4, wi, h5']
        refine ⟨m - 1, by omega, i + 1, if z = 1 then k + 1 else 0, _, out ++ [z], by omega, rfl, r0, rfl, R2, E2, hgl2, ?_, by rw [tr_snoc, htr], by split <;> omega, by simp; omega⟩
        rcases hz with rfl | rfl
        · rw [hst, hdr, stf_zero, if_neg (by decide)]; simp
        · rw [hst, hdr, stf_one _ (fun e => h5 ⟨rfl, e⟩), if_pos rfl]; simp
    · have hi' : ¬ (i : Int) < (n : Nat) := by omega
      have hin : i = n := by omega
      subst hin
      simp only [sx, x_box, x_alloc, x_bslice, x_slice, x_append, x_appz, x_b2s, x_s2b, x_mark, xop, ev, evs, evParts, fillL, cellsL, Ai.get, Ai.put, stab, isNil?, if_false, if_true, addr?, int?, str?, agg?, bool?, shiftA, FnPost, xresL, xres1, tup, argEnv, ptr, Nat.reduceEqDiff, reduceIte, beq_self_eq_true, ne_eq, Nat.reduceAdd, Nat.reduceMul, Nat.reduceSub, abin_shl, abin_shr, load1V, loadV, storeV, cellsAt, getN, setN, allocV, lenL, lenS, bnd, oneC, Value.oneCell', Nat.reduceLeDiff, Nat.reduceLT, exists_eq_left', forall_const, reduceCtorEq, app_new, app_new0, List.append_assoc, Int.reduceToNat, Int.reduceLT, Int.reduceLE, Int.reduceEq, Int.reduceNe, Int.reduceBEq, IntKind.bits, bne_self_eq_false, Int.reducePow, r4, r0, hi']
      refine ⟨sl, r3, ?_, E, hgl⟩
      rw [hst, List.drop_eq_nil_of_le (by omega), stf, List.append_nil]; exact R
  · rintro ρ g ⟨sl, r3, R, E, hgl⟩
    simp only [sx, x_box, x_alloc, x_bslice, x_slice, x_append, x_appz, x_b2s, x_s2b, x_mark, xop, ev, evs, evParts, fillL, cellsL, Ai.get, Ai.put, stab, isNil?, if_false, if_true, addr?, int?, str?, agg?, bool?, shiftA, FnPost, xresL, xres1, tup, argEnv, ptr, Nat.reduceEqDiff, reduceIte, beq_self_eq_true, ne_eq, Nat.reduceAdd, Nat.reduceMul, Nat.reduceSub, abin_shl, abin_shr, load1V, loadV, storeV, cellsAt, getN, setN, allocV, lenL, lenS, bnd, oneC, Value.oneCell', Nat.reduceLeDiff, Nat.reduceLT, exists_eq_left', forall_const, reduceCtorEq, app_new, app_new0, List.append_assoc, Int.reduceToNat, Int.reduceLT, Int.reduceLE, Int.reduceEq, Int.reduceNe, Int.reduceBEq, IntKind.bits, bne_self_eq_false, Int.reducePow, r3]
    exact ⟨R, E, hgl⟩

/-- Clip where the room is known -/
theorem clipK_ok {h : AHeap} {R n c : Nat} (hc : c < unk) (hn : n ≤ c) : Valid Tryd.prog 36 [.slice (some ⟨R, 0, none⟩) n c] h fun r h' => r = .slice (some ⟨R, 0, none⟩) n n ∧ h' = h := by
  refine v36 (by simp) ?_
  have hx : ∀ (ρ : Env) (x hi mx : XA), ev ρ x = some (.slice (some ⟨R, 0, none⟩) n c) → ev ρ hi = some (.int .i64 (n : Nat)) → ev ρ mx = some (.int .i64 (n : Nat)) → xop (.slice 1 x none (some hi) (some mx)) ρ h = some (.slice (some ⟨R, 0, none⟩) n n, h) := fun ρ x hi mx e1 e2 e3 => by
    have hu : ¬ unk ≤ c := by omega
    have hi' : (n : Int) ≤ (c : Nat) := by omega
    simp [xop, e1, e2, e3, bnd, int?, hu, hi', hn, shiftA]
  simp only [X36, sx, x_box, x_alloc, x_bslice, x_append, x_appz, x_b2s, x_s2b, x_mark, xop, ev, evs, evParts, fillL, cellsL, Ai.get, Ai.put, stab, isNil?, if_false, if_true, addr?, int?, str?, agg?, bool?, shiftA, FnPost, xresL, xres1, tup, argEnv, ptr, Nat.reduceEqDiff, reduceIte, beq_self_eq_true, ne_eq, Nat.reduceAdd, Nat.reduceMul, Nat.reduceSub, abin_shl, abin_shr, load1V, loadV, storeV, cellsAt, getN, setN, allocV, lenL, lenS, bnd, oneC, Value.oneCell', Nat.reduceLeDiff, Nat.reduceLT, exists_eq_left', forall_const, reduceCtorEq, app_new, app_new0, List.append_assoc, Int.reduceToNat, Int.reduceLT, Int.reduceLE, Int.reduceEq, Int.reduceNe, Int.reduceBEq, IntKind.bits, bne_self_eq_false, Int.reducePow]
  rw [x_slice, hx _ _ _ _ rfl rfl rfl]
  simp only [sx, x_box, x_alloc, x_bslice, x_slice, x_append, x_appz, x_b2s, x_s2b, x_mark, xop, ev, evs, evParts, fillL, cellsL, Ai.get, Ai.put, stab, isNil?, if_false, if_true, addr?, int?, str?, agg?, bool?, shiftA, FnPost, xresL, xres1, tup, argEnv, ptr, Nat.reduceEqDiff, reduceIte, beq_self_eq_true, ne_eq, Nat.reduceAdd, Nat.reduceMul, Nat.reduceSub, abin_shl, abin_shr, load1V, loadV, storeV, cellsAt, getN, setN, allocV, lenL, lenS, bnd, oneC, Value.oneCell', Nat.reduceLeDiff, Nat.reduceLT, exists_eq_left', forall_const, reduceCtorEq, app_new, app_new0, List.append_assoc, Int.reduceToNat, Int.reduceLT, Int.reduceLE, Int.reduceEq, Int.reduceNe, Int.reduceBEq, IntKind.bits, bne_self_eq_false, Int.reducePow]
theorem first_pre {h : AHeap} {R n c : Nat} {w : Bool} {a t : List Int} (hR : h[R]? = some (some ⟨w, bR (a ++ t)⟩)) (hn : a.length = n) : firstV 1 h n (.slice (some ⟨R, 0, none⟩) n c) = some (bR a) := by
  simp only [firstV]
  split
  · rename_i h0
    have : a = [] := List.eq_nil_of_length_eq_zero (by omega)
    rw [this]; rfl
  · simp only [ne_eq, not_true_eq_false, if_false, cellsAt, hR, Option.bind_some, Nat.mul_one]
    refine (getN_eq _ _ _ _).2 ⟨?_, ?_⟩
    · rw [bR_len, List.length_append]; split <;> omega
    · unfold bR; rw [List.map_append, List.drop_zero, List.take_left' (by rw [List.length_map]; exact hn)]
def SuI (g : AHeap) (q : Option Addr) (n c cc : Nat) (zs : List Int) (m : Nat) (ρ : Env) (h : AHeap) : Prop := ∃ (i k : Nat) (out : List Int), i + m = n ∧ get ρ 16 = some (.int .i64 (i : Nat)) ∧ get ρ 15 = some (.int .i64 (n : Nat)) ∧ get ρ 14 = some (.slice q n c) ∧ get ρ 3 = some (.slice (some ⟨g.length, 0, none⟩) out.length cc) ∧ get ρ 4 = some (.int .i64 (k : Nat)) ∧ Ext g h ∧
  h[g.length]? = some (some ⟨true, bR (out ++ List.replicate (cc - out.length) 0)⟩) ∧ stf zs 0 = out ++ stf (zs.drop i) k ∧ k < 5
def SuE (g : AHeap) (cc : Nat) (zs : List Int) (ρ : Env) (h : AHeap) : Prop := get ρ 3 = some (.slice (some ⟨g.length, 0, none⟩) (stf zs 0).length cc) ∧ Ext g h ∧ h[g.length]? = some (some ⟨true, bR (stf zs 0 ++ List.replicate (cc - (stf zs 0).length) 0)⟩)
/-- one more byte where there is room -/
theorem room_push {K : Env → AHeap → Prop} {r : List XOper} {ρ : Env} {g h : AHeap} {R c : Nat} {out : List Int} {z : Int} {d : Option Nat} {s x : XA} (E : Ext g h) (hRg : R = g.length)
    (hs : ev ρ s = some (.slice (some ⟨R, 0, none⟩) out.length c)) (hx : ev ρ x = some (.slice (some ⟨h.length, 0, none⟩) 1 1)) (hR : h[R]? = some (some ⟨true, bR (out ++ List.replicate (c - out.length) 0)⟩)) (hc : c < 140737488355328) (hroom : out.length + 1 ≤ c)
    (hK : ∀ h', Ext g h' → h'[R]? = some (some ⟨true, bR ((out ++ [z]) ++ List.replicate (c - (out ++ [z]).length) 0)⟩) → xops Tryd.prog K r (put d (.slice (some ⟨R, 0, none⟩) (out ++ [z]).length c) ρ) h') : xops Tryd.prog K (⟨d, none, .append 1 1 [.int .u8 0] s x, []⟩ :: r) ρ (h ++ [some ⟨true, [.int .u8 z]⟩]) := by
  have hRl := lt_of_get hR
  have hR2 : (h ++ [some (AObj.mk true [.int .u8 z])])[R]? = some (some ⟨true, bR (out ++ List.replicate (c - out.length) 0)⟩) := by rw [List.getElem?_append_left hRl]; exact hR
  have hf : firstV 1 (h ++ [some (AObj.mk true [.int .u8 z])]) 1 (.slice (some ⟨h.length, 0, none⟩) 1 1) = some (bR [z]) := by
    simp only [firstV, cellsAt, app_new0]
    simp
    rfl
  refine append_room (R := R) (n := out.length) (m := 1) (c := c) (zs := out ++ List.replicate (c - out.length) 0) (news := [z]) rfl hs hx rfl hf rfl hR2 (by unfold unk; omega) hroom (by simp; omega) (by omega) (by omega) ?_
  have e1 : (out ++ List.replicate (c - out.length) (0 : Int)).take out.length ++ [z] ++ (out ++ List.replicate (c - out.length) (0 : Int)).drop (out.length + 1) = (out ++ [z]) ++ List.replicate (c - (out ++ [z]).length) 0 := by
    rw [List.take_left' rfl, ← List.drop_drop, List.drop_left' rfl, List.drop_replicate, List.length_append]
    rw [show c - out.length - 1 = c - (out.length + [z].length) by simp; omega]
  rw [e1]
  have := hK ((h ++ [some (AObj.mk true [.int .u8 z])]).set R (some ⟨true, bR ((out ++ [z]) ++ List.replicate (c - (out ++ [z]).length) 0)⟩)) ((E.trans (Ext.app _ _)).set (by omega) _) (set_same hR2 _)
  rw [List.length_append] at this ⊢
  exact this
set_option maxHeartbeats 1000000 in
theorem stuffed_ok {h : AHeap} {q : Option Addr} {n c : Nat} {zs : List Int} (hf : firstV 1 h n (.slice q n c) = some (bR zs)) (hn : n ≤ 1048576) (hb : Bits zs) :
    Valid Tryd.prog 34 [.slice q n c] h fun r h' => ∃ R, r = .slice (some ⟨R, 0, none⟩) (stf zs 0).length (stf zs 0).length ∧ firstV 1 h' (stf zs 0).length r = some (bR (stf zs 0)) ∧ Ext h h' ∧ h.length ≤ R ∧ R < h'.length := by
  refine v34 (by simp) ?_
  have hzl := firstV_len hf
  rw [bR_len, Nat.mul_one] at hzl
  have htot := stf_len zs 0 hb (by decide)
  have w1 : IntKind.i64.wrap ((n : Int).tdiv 5) = ((n / 5 : Nat) : Int) := by rw [Int.tdiv_eq_ediv_of_nonneg (by omega), i64_wrap] <;> omega
  have w2 : IntKind.i64.wrap ((n : Int) + ((n / 5 : Nat) : Int)) = ((n + n / 5 : Nat) : Int) := by rw [i64_wrap] <;> omega
  have h1 : ((n + n / 5 : Nat) : Int) * 1 ≤ 140737488355328 := by omega
  have h2 : ((n + n / 5 : Nat) : Int) ≤ 9223372036854775807 := by omega
  have h3 : (0 : Int) ≤ ((n + n / 5 : Nat) : Int) := by omega
  rw [Nat.add_zero, hzl] at htot
  obtain ⟨cc, hcc⟩ : ∃ cc, n + n / 5 = cc := ⟨_, rfl⟩
  rw [hcc] at htot h1 h2 h3 w2
  simp only [X34, sx, x_box, x_alloc, x_bslice, x_slice, x_append, x_appz, x_b2s, x_s2b, x_mark, xop, ev, evs, evParts, fillL, cellsL, Ai.get, Ai.put, stab, isNil?, if_false, if_true, addr?, int?, str?, agg?, bool?, shiftA, FnPost, xresL, xres1, tup, argEnv, ptr, Nat.reduceEqDiff, reduceIte, beq_self_eq_true, ne_eq, Nat.reduceAdd, Nat.reduceMul, Nat.reduceSub, abin_shl, abin_shr, load1V, loadV, storeV, cellsAt, getN, setN, allocV, lenL, lenS, bnd, oneC, Value.oneCell', Nat.reduceLeDiff, Nat.reduceLT, exists_eq_left', forall_const, reduceCtorEq, app_new, app_new0, List.append_assoc, Int.reduceToNat, Int.reduceLT, Int.reduceLE, Int.reduceEq, Int.reduceNe, Int.reduceBEq, IntKind.bits, bne_self_eq_false, Int.reducePow, w1, w2, h1, h2, h3, Int.le_refl, zeros_bR]
  refine xloop_cut (SuE h cc zs) ?_ ?_
  · refine xcode_loop (SuI h q n c cc zs) n ⟨0, 0, [], by omega, rfl, rfl, rfl, rfl, rfl, Ext.app _ _, by rw [app_new0]; simp, by simp, by decide⟩ ?_
    rintro m ρ g ⟨i, k, out, him, r16, r15, r14, r3, r4, E, hR, hst, hk⟩
    by_cases hi : i < n
    · have hi' : (i : Int) < (n : Nat) := by omega
      have hi0 : (0 : Int) ≤ (i : Int) := by omega
      have wi : IntKind.i64.wrap ((i : Int) + 1) = ((i + 1 : Nat) : Int) := by rw [i64_wrap] <;> omega
      have wk : IntKind.i64.wrap ((k : Int) + 1) = ((k + 1 : Nat) : Int) := by rw [i64_wrap] <;> omega
      obtain ⟨a, o, z, rfl, a1, a2, a3, a4⟩ := elemB (E.first hf) hi
      have hz := hb z (List.mem_of_getElem? a4)
      have hdr := drop_at a4
      rw [hdr] at hst
      have hlen : (stf zs 0).length = out.length + (stf (z :: zs.drop (i + 1)) k).length := by rw [hst, List.length_append]
      rcases hz with rfl | rfl
      · rw [stf_zero] at hst hlen
        simp only [List.length_cons] at hlen
        simp only [sx, x_box, x_alloc, x_bslice, x_slice, x_appz, x_b2s, x_s2b, x_mark, xop, ev, evs, evParts, fillL, cellsL, Ai.get, Ai.put, stab, isNil?, if_false, if_true, addr?, int?, str?, agg?, bool?, shiftA, FnPost, xresL, xres1, tup, argEnv, ptr, Nat.reduceEqDiff, reduceIte, beq_self_eq_true, ne_eq, Nat.reduceAdd, Nat.reduceMul, Nat.reduceSub, abin_shl, abin_shr, load1V, loadV, storeV, cellsAt, getN, setN, allocV, lenL, lenS, bnd, oneC, Value.oneCell', Nat.reduceLeDiff, Nat.reduceLT, exists_eq_left', forall_const, reduceCtorEq, app_new, app_new0, List.append_assoc, Int.reduceToNat, Int.reduceLT, Int.reduceLE, Int.reduceEq, Int.reduceNe, Int.reduceBEq, IntKind.bits, bne_self_eq_false, Int.reducePow, r16, r15, r14, r3, hi', hi0, a1, a2, a3, Nat.mul_one]
        refine room_push E rfl rfl rfl hR (by omega) (by omega) fun h' E' hR' => ?_
        simp only [sx, x_box, x_alloc, x_bslice, x_slice, x_append, x_appz, x_b2s, x_s2b, x_mark, xop, ev, evs, evParts, fillL, cellsL, Ai.get, Ai.put, stab, isNil?, if_false, if_true, addr?, int?, str?, agg?, bool?, shiftA, FnPost, xresL, xres1, tup, argEnv, ptr, Nat.reduceEqDiff, reduceIte, beq_self_eq_true, ne_eq, Nat.reduceAdd, Nat.reduceMul, Nat.reduceSub, abin_shl, abin_shr, load1V, loadV, storeV, cellsAt, getN, setN, allocV, lenL, lenS, bnd, oneC, Value.oneCell', Nat.reduceLeDiff, Nat.reduceLT, exists_eq_left', forall_const, reduceCtorEq, app_new, app_new0, List.append_assoc, Int.reduceToNat, Int.reduceLT, Int.reduceLE, Int.reduceEq, Int.reduceNe, Int.reduceBEq, IntKind.bits, bne_self_eq_false, Int.reducePow, r4, r16, wk, wi]
        exact ⟨m - 1, by omega, i + 1, 0, out ++ [0], by omega, rfl, r15, r14, by simp [Ai.get], rfl, E', hR', by rw [hst]; simp, by decide⟩
      · by_cases hk5 : k + 1 = 5
        · have hk5' : ((k + 1 : Nat) : Int) = 5 := by omega
          rw [stf_five _ hk5] at hst hlen
          simp only [List.length_cons] at hlen
          simp only [sx, x_box, x_alloc, x_bslice, x_slice, x_appz, x_b2s, x_s2b, x_mark, xop, ev, evs, evParts, fillL, cellsL, Ai.get, Ai.put, stab, isNil?, if_false, if_true, addr?, int?, str?, agg?, bool?, shiftA, FnPost, xresL, xres1, tup, argEnv, ptr, Nat.reduceEqDiff, reduceIte, beq_self_eq_true, ne_eq, Nat.reduceAdd, Nat.reduceMul, Nat.reduceSub, abin_shl, abin_shr, load1V, loadV, storeV, cellsAt, getN, setN, allocV, lenL, lenS, bnd, oneC, Value.oneCell', Nat.reduceLeDiff, Nat.reduceLT, exists_eq_left', forall_const, reduceCtorEq, app_new, app_new0, List.append_assoc, Int.reduceToNat, Int.reduceLT, Int.reduceLE, Int.reduceEq, Int.reduceNe, Int.reduceBEq, IntKind.bits, bne_self_eq_false, Int.reducePow, r16, r15, r14, r3, hi', hi0, a1, a2, a3, Nat.mul_one]
          refine room_push E rfl rfl rfl hR (by omega) (by omega) fun h' E' hR' => ?_
          simp only [sx, x_box, x_alloc, x_bslice, x_slice, x_appz, x_b2s, x_s2b, x_mark, xop, ev, evs, evParts, fillL, cellsL, Ai.get, Ai.put, stab, isNil?, if_false, if_true, addr?, int?, str?, agg?, bool?, shiftA, FnPost, xresL, xres1, tup, argEnv, ptr, Nat.reduceEqDiff, reduceIte, beq_self_eq_true, ne_eq, Nat.reduceAdd, Nat.reduceMul, Nat.reduceSub, abin_shl, abin_shr, load1V, loadV, storeV, cellsAt, getN, setN, allocV, lenL, lenS, bnd, oneC, Value.oneCell', Nat.reduceLeDiff, Nat.reduceLT, exists_eq_left', forall_const, reduceCtorEq, app_new, app_new0, List.append_assoc, Int.reduceToNat, Int.reduceLT, Int.reduceLE, Int.reduceEq, Int.reduceNe, Int.reduceBEq, IntKind.bits, bne_self_eq_false, Int.reducePow, r4, r16, wk, hk5']
          refine room_push (out := out ++ [1]) E' rfl (by simp [ev, Ai.get]) rfl hR' (by omega) (by simp; omega) fun h2 E2 hR2 => ?_
          simp only [sx, x_box, x_alloc, x_bslice, x_slice, x_append, x_appz, x_b2s, x_s2b, x_mark, xop, ev, evs, evParts, fillL, cellsL, Ai.get, Ai.put, stab, isNil?, if_false, if_true, addr?, int?, str?, agg?, bool?, shiftA, FnPost, xresL, xres1, tup, argEnv, ptr, Nat.reduceEqDiff, reduceIte, beq_self_eq_true, ne_eq, Nat.reduceAdd, Nat.reduceMul, Nat.reduceSub, abin_shl, abin_shr, load1V, loadV, storeV, cellsAt, getN, setN, allocV, lenL, lenS, bnd, oneC, Value.oneCell', Nat.reduceLeDiff, Nat.reduceLT, exists_eq_left', forall_const, reduceCtorEq, app_new, app_new0, List.append_assoc, Int.reduceToNat, Int.reduceLT, Int.reduceLE, Int.reduceEq, Int.reduceNe, Int.reduceBEq, IntKind.bits, bne_self_eq_false, Int.reducePow, r4, r16, wk, wi]
          exact ⟨m - 1, by omega, i + 1, 0, out ++ [1] ++ [0], by omega, rfl, r15, r14, by simp [Ai.get], rfl, E2, hR2, by rw [hst]; simp, by decide⟩
        · have hk5' : ¬ ((k + 1 : Nat) : Int) = 5 := by omega
          rw [stf_one _ hk5] at hst hlen
          simp only [List.length_cons] at hlen
          simp only [sx, x_box, x_alloc, x_bslice, x_slice, x_appz, x_b2s, x_s2b, x_mark, xop, ev, evs, evParts, fillL, cellsL, Ai.get, Ai.put, stab, isNil?, if_false, if_true, addr?, int?, str?, agg?, bool?, shiftA, FnPost, xresL, xres1, tup, argEnv, ptr, Nat.reduceEqDiff, reduceIte, beq_self_eq_true, ne_eq, Nat.reduceAdd, Nat.reduceMul, Nat.reduceSub, abin_shl, abin_shr, load1V, loadV, storeV, cellsAt, getN, setN, allocV, lenL, lenS, bnd, oneC, Value.oneCell', Nat.reduceLeDiff, Nat.reduceLT, exists_eq_left', forall_const, reduceCtorEq, app_new, app_new0, List.append_assoc, Int.reduceToNat, Int.reduceLT, Int.reduceLE, Int.reduceEq, Int.reduceNe, Int.reduceBEq, IntKind.bits, bne_self_eq_false, Int.reducePow, r16, r15, r14, r3, hi', hi0, a1, a2, a3, Nat.mul_one]
          refine room_push E rfl rfl rfl hR (by omega) (by omega) fun h' E' hR' => ?_
          simp only [sx, x_box, x_alloc, x_bslice, x_slice, x_append, x_appz, x_b2s, x_s2b, x_mark, xop, ev, evs, evParts, fillL, cellsL, Ai.get, Ai.put, stab, isNil?, if_false, if_true, addr?, int?, str?, agg?, bool?, shiftA, FnPost, xresL, xres1, tup, argEnv, ptr, Nat.reduceEqDiff, reduceIte, beq_self_eq_true, ne_eq, Nat.reduceAdd, Nat.reduceMul, Nat.reduceSub, abin_shl, abin_shr, load1V, loadV, storeV, cellsAt, getN, setN, allocV, lenL, lenS, bnd, oneC, Value.oneCell', Nat.reduceLeDiff, Nat.reduceLT, exists_eq_left', forall_const, reduceCtorEq, app_new, app_new0, List.append_assoc, Int.reduceToNat, Int.reduceLT, Int.reduceLE, Int.reduceEq, Int.reduceNe, Int.reduceBEq, IntKind.bits, bne_self_eq_false, Int.reducePow, r4, r16, wk, wi, hk5']
          exact ⟨m - 1, by omega, i + 1, k + 1, out ++ [1], by omega, rfl, r15, r14, by simp [Ai.get], rfl, E', hR', by rw [hst]; simp, by omega⟩
    · have hi' : ¬ (i : Int) < (n : Nat) := by omega
      have hin : i = n := by omega
      subst hin
      rw [List.drop_eq_nil_of_le (by omega), stf, List.append_nil] at hst
      simp only [sx, x_box, x_alloc, x_bslice, x_slice, x_append, x_appz, x_b2s, x_s2b, x_mark, xop, ev, evs, evParts, fillL, cellsL, Ai.get, Ai.put, stab, isNil?, if_false, if_true, addr?, int?, str?, agg?, bool?, shiftA, FnPost, xresL, xres1, tup, argEnv, ptr, Nat.reduceEqDiff, reduceIte, beq_self_eq_true, ne_eq, Nat.reduceAdd, Nat.reduceMul, Nat.reduceSub, abin_shl, abin_shr, load1V, loadV, storeV, cellsAt, getN, setN, allocV, lenL, lenS, bnd, oneC, Value.oneCell', Nat.reduceLeDiff, Nat.reduceLT, exists_eq_left', forall_const, reduceCtorEq, app_new, app_new0, List.append_assoc, Int.reduceToNat, Int.reduceLT, Int.reduceLE, Int.reduceEq, Int.reduceNe, Int.reduceBEq, IntKind.bits, bne_self_eq_false, Int.reducePow, r16, r15, hi']
      unfold SuE
      rw [hst]
      exact ⟨r3, E, hR⟩
  · rintro ρ g ⟨r3, E, hR⟩
    simp only [sx, x_box, x_alloc, x_bslice, x_slice, x_append, x_appz, x_b2s, x_s2b, x_mark, xop, ev, evs, evParts, fillL, cellsL, Ai.get, Ai.put, stab, isNil?, if_false, if_true, addr?, int?, str?, agg?, bool?, shiftA, FnPost, xresL, xres1, tup, argEnv, ptr, Nat.reduceEqDiff, reduceIte, beq_self_eq_true, ne_eq, Nat.reduceAdd, Nat.reduceMul, Nat.reduceSub, abin_shl, abin_shr, load1V, loadV, storeV, cellsAt, getN, setN, allocV, lenL, lenS, bnd, oneC, Value.oneCell', Nat.reduceLeDiff, Nat.reduceLT, exists_eq_left', forall_const, reduceCtorEq, app_new, app_new0, List.append_assoc, Int.reduceToNat, Int.reduceLT, Int.reduceLE, Int.reduceEq, Int.reduceNe, Int.reduceBEq, IntKind.bits, bne_self_eq_false, Int.reducePow, r3]
    refine xcall (clipK_ok (by unfold unk; omega) htot) (by rfl) (by rfl) (by rfl) (by rfl) ?_
    rintro r g2 ⟨rfl, e0⟩
    subst e0
    simp only [sx, x_box, x_alloc, x_bslice, x_slice, x_append, x_appz, x_b2s, x_s2b, x_mark, xop, ev, evs, evParts, fillL, cellsL, Ai.get, Ai.put, stab, isNil?, if_false, if_true, addr?, int?, str?, agg?, bool?, shiftA, FnPost, xresL, xres1, tup, argEnv, ptr, Nat.reduceEqDiff, reduceIte, beq_self_eq_true, ne_eq, Nat.reduceAdd, Nat.reduceMul, Nat.reduceSub, abin_shl, abin_shr, load1V, loadV, storeV, cellsAt, getN, setN, allocV, lenL, lenS, bnd, oneC, Value.oneCell', Nat.reduceLeDiff, Nat.reduceLT, exists_eq_left', forall_const, reduceCtorEq, app_new, app_new0, List.append_assoc, Int.reduceToNat, Int.reduceLT, Int.reduceLE, Int.reduceEq, Int.reduceNe, Int.reduceBEq, IntKind.bits, bne_self_eq_false, Int.reducePow]
    exact ⟨h.length, rfl, first_pre hR rfl, E, Nat.le_refl _, lt_of_get hR⟩

theorem checkV_zero {zs : List Int} (hl : zs.length ≤ 1048576) (hb : Bits zs) : checkV zs = 0 := by
  unfold checkV
  rw [if_neg (by omega), if_neg]
  rintro ⟨z, hz, h1⟩
  rcases hb z hz with rfl | rfl <;> omega
theorem RN.cr {h : AHeap} {sl : Value} {zs : List Int} (r : RN h sl zs) : CR h sl zs := by
  rcases r with ⟨rfl, rfl⟩ | ⟨A, rfl, hA⟩
  · exact .inl ⟨rfl, .inl rfl⟩
  · exact .inr ⟨A, rfl, hA⟩
def StuffP (h : AHeap) (zs : List Int) (r : Value) (h' : AHeap) : Prop := (checkV zs ≠ 0 ∧ r = .tuple #[.slice none 0 0, .int .i64 (checkV zs)] ∧ h' = h) ∨ (checkV zs = 0 ∧ 1048576 < (stf zs 0).length ∧ r = .tuple #[.slice none 0 0, .int .i64 3] ∧ Ext h h') ∨
  (checkV zs = 0 ∧ (stf zs 0).length ≤ 1048576 ∧ ∃ R, r = .tuple #[.slice (some ⟨R, 0, none⟩) (stf zs 0).length (stf zs 0).length, .int .i64 0] ∧ firstV 1 h' (stf zs 0).length (.slice (some ⟨R, 0, none⟩) (stf zs 0).length (stf zs 0).length) = some (bR (stf zs 0)) ∧ Ext h h' ∧ h.length ≤ R ∧ R < h'.length)
theorem stuff_ok {h : AHeap} {q : Option Addr} {n c : Nat} {zs : List Int} (hf : firstV 1 h n (.slice q n c) = some (bR zs)) (hn : n ≤ 1152921504606846976) (hp : ∀ z ∈ zs, 0 ≤ z) :
    Valid Tryd.prog 27 [.slice q n c] h fun r h' => StuffP h zs r h' := by
  refine v27 (by simp) ?_
  have hzl := firstV_len hf
  rw [bR_len, Nat.mul_one] at hzl
  simp only [X27, sx, x_box, x_alloc, x_bslice, x_slice, x_append, x_appz, x_b2s, x_s2b, x_mark, xop, ev, evs, evParts, fillL, cellsL, Ai.get, Ai.put, stab, isNil?, if_false, if_true, addr?, int?, str?, agg?, bool?, shiftA, FnPost, xresL, xres1, tup, argEnv, ptr, Nat.reduceEqDiff, reduceIte, beq_self_eq_true, ne_eq, Nat.reduceAdd, Nat.reduceMul, Nat.reduceSub, abin_shl, abin_shr, load1V, loadV, storeV, cellsAt, getN, setN, allocV, lenL, lenS, bnd, oneC, Value.oneCell', Nat.reduceLeDiff, Nat.reduceLT, exists_eq_left', forall_const, reduceCtorEq, app_new, app_new0, List.append_assoc, Int.reduceToNat, Int.reduceLT, Int.reduceLE, Int.reduceEq, Int.reduceNe, Int.reduceBEq, IntKind.bits, bne_self_eq_false, Int.reducePow]
  refine xcall (check_still hf hn) (by rfl) (by rfl) (by rfl) (by rfl) ?_
  rintro r g ⟨rfl, e0⟩
  subst e0
  by_cases hc : checkV zs = 0
  · obtain ⟨hl, hb⟩ := checkV_bits hc hp
    simp only [sx, x_box, x_alloc, x_bslice, x_slice, x_append, x_appz, x_b2s, x_s2b, x_mark, xop, ev, evs, evParts, fillL, cellsL, Ai.get, Ai.put, stab, isNil?, if_false, if_true, addr?, int?, str?, agg?, bool?, shiftA, FnPost, xresL, xres1, tup, argEnv, ptr, Nat.reduceEqDiff, reduceIte, beq_self_eq_true, ne_eq, Nat.reduceAdd, Nat.reduceMul, Nat.reduceSub, abin_shl, abin_shr, load1V, loadV, storeV, cellsAt, getN, setN, allocV, lenL, lenS, bnd, oneC, Value.oneCell', Nat.reduceLeDiff, Nat.reduceLT, exists_eq_left', forall_const, reduceCtorEq, app_new, app_new0, List.append_assoc, Int.reduceToNat, Int.reduceLT, Int.reduceLE, Int.reduceEq, Int.reduceNe, Int.reduceBEq, IntKind.bits, bne_self_eq_false, Int.reducePow, hc]
    refine xcall (stuffed_ok hf (by omega) hb) (by rfl) (by rfl) (by rfl) (by rfl) ?_
    rintro r g2 ⟨R, rfl, hf2, E, hR1, hR2⟩
    by_cases hL : 1048576 < (stf zs 0).length
    · have hL' : (1048576 : Int) < ((stf zs 0).length : Nat) := by omega
      simp only [sx, x_box, x_alloc, x_bslice, x_slice, x_append, x_appz, x_b2s, x_s2b, x_mark, xop, ev, evs, evParts, fillL, cellsL, Ai.get, Ai.put, stab, isNil?, if_false, if_true, addr?, int?, str?, agg?, bool?, shiftA, FnPost, xresL, xres1, tup, argEnv, ptr, Nat.reduceEqDiff, reduceIte, beq_self_eq_true, ne_eq, Nat.reduceAdd, Nat.reduceMul, Nat.reduceSub, abin_shl, abin_shr, load1V, loadV, storeV, cellsAt, getN, setN, allocV, lenL, lenS, bnd, oneC, Value.oneCell', Nat.reduceLeDiff, Nat.reduceLT, exists_eq_left', forall_const, reduceCtorEq, app_new, app_new0, List.append_assoc, Int.reduceToNat, Int.reduceLT, Int.reduceLE, Int.reduceEq, Int.reduceNe, Int.reduceBEq, IntKind.bits, bne_self_eq_false, Int.reducePow, hL']
      exact .inr (.inl ⟨hc, hL, rfl, E⟩)
    · have hL' : ¬ (1048576 : Int) < ((stf zs 0).length : Nat) := by omega
      simp only [sx, x_box, x_alloc, x_bslice, x_slice, x_append, x_appz, x_b2s, x_s2b, x_mark, xop, ev, evs, evParts, fillL, cellsL, Ai.get, Ai.put, stab, isNil?, if_false, if_true, addr?, int?, str?, agg?, bool?, shiftA, FnPost, xresL, xres1, tup, argEnv, ptr, Nat.reduceEqDiff, reduceIte, beq_self_eq_true, ne_eq, Nat.reduceAdd, Nat.reduceMul, Nat.reduceSub, abin_shl, abin_shr, load1V, loadV, storeV, cellsAt, getN, setN, allocV, lenL, lenS, bnd, oneC, Value.oneCell', Nat.reduceLeDiff, Nat.reduceLT, exists_eq_left', forall_const, reduceCtorEq, app_new, app_new0, List.append_assoc, Int.reduceToNat, Int.reduceLT, Int.reduceLE, Int.reduceEq, Int.reduceNe, Int.reduceBEq, IntKind.bits, bne_self_eq_false, Int.reducePow, hL']
      exact .inr (.inr ⟨hc, by omega, R, rfl, hf2, E, hR1, hR2⟩)
  · simp only [sx, x_box, x_alloc, x_bslice, x_slice, x_append, x_appz, x_b2s, x_s2b, x_mark, xop, ev, evs, evParts, fillL, cellsL, Ai.get, Ai.put, stab, isNil?, if_false, if_true, addr?, int?, str?, agg?, bool?, shiftA, FnPost, xresL, xres1, tup, argEnv, ptr, Nat.reduceEqDiff, reduceIte, beq_self_eq_true, ne_eq, Nat.reduceAdd, Nat.reduceMul, Nat.reduceSub, abin_shl, abin_shr, load1V, loadV, storeV, cellsAt, getN, setN, allocV, lenL, lenS, bnd, oneC, Value.oneCell', Nat.reduceLeDiff, Nat.reduceLT, exists_eq_left', forall_const, reduceCtorEq, app_new, app_new0, List.append_assoc, Int.reduceToNat, Int.reduceLT, Int.reduceLE, Int.reduceEq, Int.reduceNe, Int.reduceBEq, IntKind.bits, bne_self_eq_false, Int.reducePow, hc]
    exact .inl ⟨hc, rfl, rfl⟩
def UnP (h : AHeap) (zs : List Int) (r : Value) (h' : AHeap) : Prop := (checkV zs ≠ 0 ∧ r = .tuple #[.slice none 0 0, .int .i64 (checkV zs)] ∧ h' = h) ∨ (checkV zs = 0 ∧ unst zs 0 = none ∧ r = .tuple #[.slice none 0 0, .int .i64 4] ∧ Ext h h') ∨
  (checkV zs = 0 ∧ ∃ b q, unst zs 0 = some b ∧ r = .tuple #[.slice q b.length b.length, .int .i64 0] ∧ firstV 1 h' b.length (.slice q b.length b.length) = some (bR b) ∧ Ext h h')
def UnI (g : AHeap) (q : Option Addr) (n c : Nat) (zs : List Int) (m : Nat) (ρ : Env) (h : AHeap) : Prop := ∃ (i k : Nat) (sl : Value) (out : List Int), i + m = n ∧ get ρ 16 = some (.int .i64 (i : Nat)) ∧ get ρ 15 = some (.int .i64 (n : Nat)) ∧ get ρ 14 = some (.slice q n c) ∧ get ρ 5 = some sl ∧ get ρ 6 = some (.int .i64 (k : Nat)) ∧ RN h sl out ∧ Ext g h ∧ (∀ A, slB sl = some A → g.length ≤ A) ∧ unst zs 0 = (unst (zs.drop i) k).map (out ++ ·) ∧ k ≤ 5 ∧ out.length ≤ i
def UnE (g : AHeap) (zs : List Int) (ρ : Env) (h : AHeap) : Prop := ∃ (k : Nat) (sl : Value) (out : List Int), get ρ 5 = some sl ∧ get ρ 6 = some (.int .i64 (k : Nat)) ∧ RN h sl out ∧ Ext g h ∧ unst zs 0 = (if k = 5 then none else some out) ∧ k ≤ 5 ∧ out.length ≤ 1048576
def UnR (g : AHeap) (zs : List Int) (ρ : Env) (h : AHeap) : Prop := get ρ 2 = some (.slice none 0 0) ∧ get ρ 3 = some (.int .i64 4) ∧ unst zs 0 = none ∧ Ext g h
set_option maxHeartbeats 1000000 in
theorem unstuff_ok {h : AHeap} {q : Option Addr} {n c : Nat} {zs : List Int} (hf : firstV 1 h n (.slice q n c) = some (bR zs)) (hn : n ≤ 1152921504606846976) (hp : ∀ z ∈ zs, 0 ≤ z) :
    Valid Tryd.prog 28 [.slice q n c] h fun r h' => UnP h zs r h' := by
  refine v28 (by simp) ?_
  have hzl := firstV_len hf
  rw [bR_len, Nat.mul_one] at hzl
  simp only [X28, sx, x_box, x_alloc, x_bslice, x_slice, x_append, x_appz, x_b2s, x_s2b, x_mark, xop, ev, evs, evParts, fillL, cellsL, Ai.get, Ai.put, stab, isNil?, if_false, if_true, addr?, int?, str?, agg?, bool?, shiftA, FnPost, xresL, xres1, tup, argEnv, ptr, Nat.reduceEqDiff, reduceIte, beq_self_eq_true, ne_eq, Nat.reduceAdd, Nat.reduceMul, Nat.reduceSub, abin_shl, abin_shr, load1V, loadV, storeV, cellsAt, getN, setN, allocV, lenL, lenS, bnd, oneC, Value.oneCell', Nat.reduceLeDiff, Nat.reduceLT, exists_eq_left', forall_const, reduceCtorEq, app_new, app_new0, List.append_assoc, Int.reduceToNat, Int.reduceLT, Int.reduceLE, Int.reduceEq, Int.reduceNe, Int.reduceBEq, IntKind.bits, bne_self_eq_false, Int.reducePow]
  refine xcall (check_still hf hn) (by rfl) (by rfl) (by rfl) (by rfl) ?_
  rintro r g ⟨rfl, e0⟩
  subst e0
  by_cases hc : checkV zs = 0
  rotate_left
  · simp only [sx, x_box, x_alloc, x_bslice, x_slice, x_append, x_appz, x_b2s, x_s2b, x_mark, xop, ev, evs, evParts, fillL, cellsL, Ai.get, Ai.put, stab, isNil?, if_false, if_true, addr?, int?, str?, agg?, bool?, shiftA, FnPost, xresL, xres1, tup, argEnv, ptr, Nat.reduceEqDiff, reduceIte, beq_self_eq_true, ne_eq, Nat.reduceAdd, Nat.reduceMul, Nat.reduceSub, abin_shl, abin_shr, load1V, loadV, storeV, cellsAt, getN, setN, allocV, lenL, lenS, bnd, oneC, Value.oneCell', Nat.reduceLeDiff, Nat.reduceLT, exists_eq_left', forall_const, reduceCtorEq, app_new, app_new0, List.append_assoc, Int.reduceToNat, Int.reduceLT, Int.reduceLE, Int.reduceEq, Int.reduceNe, Int.reduceBEq, IntKind.bits, bne_self_eq_false, Int.reducePow, hc]
    exact .inl ⟨hc, rfl, rfl⟩
  obtain ⟨hl, hb⟩ := checkV_bits hc hp
  simp only [sx, x_box, x_alloc, x_bslice, x_slice, x_append, x_appz, x_b2s, x_s2b, x_mark, xop, ev, evs, evParts, fillL, cellsL, Ai.get, Ai.put, stab, isNil?, if_false, if_true, addr?, int?, str?, agg?, bool?, shiftA, FnPost, xresL, xres1, tup, argEnv, ptr, Nat.reduceEqDiff, reduceIte, beq_self_eq_true, ne_eq, Nat.reduceAdd, Nat.reduceMul, Nat.reduceSub, abin_shl, abin_shr, load1V, loadV, storeV, cellsAt, getN, setN, allocV, lenL, lenS, bnd, oneC, Value.oneCell', Nat.reduceLeDiff, Nat.reduceLT, exists_eq_left', forall_const, reduceCtorEq, app_new, app_new0, List.append_assoc, Int.reduceToNat, Int.reduceLT, Int.reduceLE, Int.reduceEq, Int.reduceNe, Int.reduceBEq, IntKind.bits, bne_self_eq_false, Int.reducePow, hc]
  refine xloop_cut2 (UnE g zs) (UnR g zs) ?_ ?_ ?_
  · refine xcode_loop (UnI g q n c zs) n ⟨0, 0, .slice none 0 0, [], by omega, rfl, rfl, rfl, rfl, rfl, .inl ⟨rfl, rfl⟩, Ext.refl _, (fun A hA => by cases hA), by simp, by decide, by simp⟩ ?_
    rintro m ρ g2 ⟨i, k, sl, out, him, r16, r15, r14, r5, r6, R, E, hgl, hst, hk, hol⟩
    by_cases hi : i < n
    · have hi' : (i : Int) < (n : Nat) := by omega
      have hi0 : (0 : Int) ≤ (i : Int) := by omega
      have wi : IntKind.i64.wrap ((i : Int) + 1) = ((i + 1 : Nat) : Int) := by rw [i64_wrap] <;> omega
      have wk : IntKind.i64.wrap ((k : Int) + 1) = ((k + 1 : Nat) : Int) := by rw [i64_wrap] <;> omega
      obtain ⟨a, o, z, rfl, a1, a2, a3, a4⟩ := elemB (E.first hf) hi
      have hz := hb z (List.mem_of_getElem? a4)
      have hdr := drop_at a4
      rw [hdr, unst] at hst
      by_cases hk5 : k = 5
      · have hk5' : ((k : Nat) : Int) = 5 := by omega
        rw [if_pos hk5] at hst
        rcases hz with rfl | rfl
        · rw [if_neg (by decide)] at hst
          simp only [sx, x_box, x_alloc, x_bslice, x_slice, x_append, x_appz, x_b2s, x_s2b, x_mark, xop, ev, evs, evParts, fillL, cellsL, Ai.get, Ai.put, stab, isNil?, if_false, if_true, addr?, int?, str?, agg?, bool?, shiftA, FnPost, xresL, xres1, tup, argEnv, ptr, Nat.reduceEqDiff, reduceIte, beq_self_eq_true, ne_eq, Nat.reduceAdd, Nat.reduceMul, Nat.reduceSub, abin_shl, abin_shr, load1V, loadV, storeV, cellsAt, getN, setN, allocV, lenL, lenS, bnd, oneC, Value.oneCell', Nat.reduceLeDiff, Nat.reduceLT, exists_eq_left', forall_const, reduceCtorEq, app_new, app_new0, List.append_assoc, Int.reduceToNat, Int.reduceLT, Int.reduceLE, Int.reduceEq, Int.reduceNe, Int.reduceBEq, IntKind.bits, bne_self_eq_false, Int.reducePow, r16, r15, r14, r5, r6, hi', hi0, a1, a2, a3, Nat.mul_one, hk5', wi]
          exact ⟨m - 1, by omega, i + 1, 0, sl, out, by omega, rfl, r15, r14, r5, rfl, R, E, hgl, hst, by decide, by omega⟩
        · rw [if_pos rfl] at hst
          simp only [sx, x_box, x_alloc, x_bslice, x_slice, x_append, x_appz, x_b2s, x_s2b, x_mark, xop, ev, evs, evParts, fillL, cellsL, Ai.get, Ai.put, stab, isNil?, if_false, if_true, addr?, int?, str?, agg?, bool?, shiftA, FnPost, xresL, xres1, tup, argEnv, ptr, Nat.reduceEqDiff, reduceIte, beq_self_eq_true, ne_eq, Nat.reduceAdd, Nat.reduceMul, Nat.reduceSub, abin_shl, abin_shr, load1V, loadV, storeV, cellsAt, getN, setN, allocV, lenL, lenS, bnd, oneC, Value.oneCell', Nat.reduceLeDiff, Nat.reduceLT, exists_eq_left', forall_const, reduceCtorEq, app_new, app_new0, List.append_assoc, Int.reduceToNat, Int.reduceLT, Int.reduceLE, Int.reduceEq, Int.reduceNe, Int.reduceBEq, IntKind.bits, bne_self_eq_false, Int.reducePow, r16, r15, r14, r5, r6, hi', hi0, a1, a2, a3, Nat.mul_one, hk5', wi]
          exact .inr ⟨rfl, rfl, hst, E⟩
      · have hk5' : ¬ ((k : Nat) : Int) = 5 := by omega
        rw [if_neg hk5] at hst
        rcases hz with rfl | rfl
        · rw [if_neg (by decide)] at hst
          simp only [sx, x_box, x_alloc, x_bslice, x_slice, x_appz, x_b2s, x_s2b, x_mark, xop, ev, evs, evParts, fillL, cellsL, Ai.get, Ai.put, stab, isNil?, if_false, if_true, addr?, int?, str?, agg?, bool?, shiftA, FnPost, xresL, xres1, tup, argEnv, ptr, Nat.reduceEqDiff, reduceIte, beq_self_eq_true, ne_eq, Nat.reduceAdd, Nat.reduceMul, Nat.reduceSub, abin_shl, abin_shr, load1V, loadV, storeV, cellsAt, getN, setN, allocV, lenL, lenS, bnd, oneC, Value.oneCell', Nat.reduceLeDiff, Nat.reduceLT, exists_eq_left', forall_const, reduceCtorEq, app_new, app_new0, List.append_assoc, Int.reduceToNat, Int.reduceLT, Int.reduceLE, Int.reduceEq, Int.reduceNe, Int.reduceBEq, IntKind.bits, bne_self_eq_false, Int.reducePow, r16, r15, r14, r5, r6, hi', hi0, a1, a2, a3, Nat.mul_one, hk5', wi]
          refine RN.push R E hgl rfl rfl (by omega) fun sl' g3 R2 E2 hgl2 => ?_
          simp only [sx, x_box, x_alloc, x_bslice, x_slice, x_append, x_appz, x_b2s, x_s2b, x_mark, xop, ev, evs, evParts, fillL, cellsL, Ai.get, Ai.put, stab, isNil?, if_false, if_true, addr?, int?, str?, agg?, bool?, shiftA, FnPost, xresL, xres1, tup, argEnv, ptr, Nat.reduceEqDiff, reduceIte, beq_self_eq_true, ne_eq, Nat.reduceAdd, Nat.reduceMul, Nat.reduceSub, abin_shl, abin_shr, load1V, loadV, storeV, cellsAt, getN, setN, allocV, lenL, lenS, bnd, oneC, Value.oneCell', Nat.reduceLeDiff, Nat.reduceLT, exists_eq_left', forall_const, reduceCtorEq, app_new, app_new0, List.append_assoc, Int.reduceToNat, Int.reduceLT, Int.reduceLE, Int.reduceEq, Int.reduceNe, Int.reduceBEq, IntKind.bits, bne_self_eq_false, Int.reducePow, r16, r15, wi]
          exact ⟨m - 1, by omega, i + 1, 0, sl', out ++ [0], by omega, rfl, r15, r14, rfl, rfl, R2, E2, hgl2, by rw [hst, Option.map_map]; congr 1; funext x; simp, by decide, by simp; omega⟩
        · rw [if_pos rfl] at hst
          simp only [sx, x_box, x_alloc, x_bslice, x_slice, x_appz, x_b2s, x_s2b, x_mark, xop, ev, evs, evParts, fillL, cellsL, Ai.get, Ai.put, stab, isNil?, if_false, if_true, addr?, int?, str?, agg?, bool?, shiftA, FnPost, xresL, xres1, tup, argEnv, ptr, Nat.reduceEqDiff, reduceIte, beq_self_eq_true, ne_eq, Nat.reduceAdd, Nat.reduceMul, Nat.reduceSub, abin_shl, abin_shr, load1V, loadV, storeV, cellsAt, getN, setN, allocV, lenL, lenS, bnd, oneC, Value.oneCell', Nat.reduceLeDiff, Nat.reduceLT, exists_eq_left', forall_const, reduceCtorEq, app_new, app_new0, List.append_assoc, Int.reduceToNat, Int.reduceLT, Int.reduceLE, Int.reduceEq, Int.reduceNe, Int.reduceBEq, IntKind.bits, bne_self_eq_false, Int.reducePow, r16, r15, r14, r5, r6, hi', hi0, a1, a2, a3, Nat.mul_one, hk5', wi, wk]
          refine RN.push R E hgl rfl rfl (by omega) fun sl' g3 R2 E2 hgl2 => ?_
          simp only [sx, x_box, x_alloc, x_bslice, x_slice, x_append, x_appz, x_b2s, x_s2b, x_mark, xop, ev, evs, evParts, fillL, cellsL, Ai.get, Ai.put, stab, isNil?, if_false, if_true, addr?, int?, str?, agg?, bool?, shiftA, FnPost, xresL, xres1, tup, argEnv, ptr, Nat.reduceEqDiff, reduceIte, beq_self_eq_true, ne_eq, Nat.reduceAdd, Nat.reduceMul, Nat.reduceSub, abin_shl, abin_shr, load1V, loadV, storeV, cellsAt, getN, setN, allocV, lenL, lenS, bnd, oneC, Value.oneCell', Nat.reduceLeDiff, Nat.reduceLT, exists_eq_left', forall_const, reduceCtorEq, app_new, app_new0, List.append_assoc, Int.reduceToNat, Int.reduceLT, Int.reduceLE, Int.reduceEq, Int.reduceNe, Int.reduceBEq, IntKind.bits, bne_self_eq_false, Int.reducePow, r16, r15, wi]
          exact ⟨m - 1, by omega, i + 1, k + 1, sl', out ++ [1], by omega, rfl, r15, r14, rfl, rfl, R2, E2, hgl2, by rw [hst, Option.map_map]; congr 1; funext x; simp, by omega, by simp; omega⟩
    · have hi' : ¬ (i : Int) < (n : Nat) := by omega
      have hin : i = n := by omega
      subst hin
      rw [List.drop_eq_nil_of_le (by omega), unst] at hst
      simp only [sx, x_box, x_alloc, x_bslice, x_slice, x_append, x_appz, x_b2s, x_s2b, x_mark, xop, ev, evs, evParts, fillL, cellsL, Ai.get, Ai.put, stab, isNil?, if_false, if_true, addr?, int?, str?, agg?, bool?, shiftA, FnPost, xresL, xres1, tup, argEnv, ptr, Nat.reduceEqDiff, reduceIte, beq_self_eq_true, ne_eq, Nat.reduceAdd, Nat.reduceMul, Nat.reduceSub, abin_shl, abin_shr, load1V, loadV, storeV, cellsAt, getN, setN, allocV, lenL, lenS, bnd, oneC, Value.oneCell', Nat.reduceLeDiff, Nat.reduceLT, exists_eq_left', forall_const, reduceCtorEq, app_new, app_new0, List.append_assoc, Int.reduceToNat, Int.reduceLT, Int.reduceLE, Int.reduceEq, Int.reduceNe, Int.reduceBEq, IntKind.bits, bne_self_eq_false, Int.reducePow, r16, r15, hi']
      refine .inl ⟨k, sl, out, r5, r6, R, E, ?_, hk, by omega⟩
      rw [hst]; split <;> simp
  · rintro ρ g2 ⟨k, sl, out, r5, r6, R, E, hst, hk, hol⟩
    by_cases hk5 : k = 5
    · have hk5' : ((k : Nat) : Int) = 5 := by omega
      rw [if_pos hk5] at hst
      simp only [sx, x_box, x_alloc, x_bslice, x_slice, x_append, x_appz, x_b2s, x_s2b, x_mark, xop, ev, evs, evParts, fillL, cellsL, Ai.get, Ai.put, stab, isNil?, if_false, if_true, addr?, int?, str?, agg?, bool?, shiftA, FnPost, xresL, xres1, tup, argEnv, ptr, Nat.reduceEqDiff, reduceIte, beq_self_eq_true, ne_eq, Nat.reduceAdd, Nat.reduceMul, Nat.reduceSub, abin_shl, abin_shr, load1V, loadV, storeV, cellsAt, getN, setN, allocV, lenL, lenS, bnd, oneC, Value.oneCell', Nat.reduceLeDiff, Nat.reduceLT, exists_eq_left', forall_const, reduceCtorEq, app_new, app_new0, List.append_assoc, Int.reduceToNat, Int.reduceLT, Int.reduceLE, Int.reduceEq, Int.reduceNe, Int.reduceBEq, IntKind.bits, bne_self_eq_false, Int.reducePow, r5, r6, hk5']
      exact .inr (.inl ⟨hc, hst, rfl, E⟩)
    · have hk5' : ¬ ((k : Nat) : Int) = 5 := by omega
      rw [if_neg hk5] at hst
      simp only [sx, x_box, x_alloc, x_bslice, x_slice, x_append, x_appz, x_b2s, x_s2b, x_mark, xop, ev, evs, evParts, fillL, cellsL, Ai.get, Ai.put, stab, isNil?, if_false, if_true, addr?, int?, str?, agg?, bool?, shiftA, FnPost, xresL, xres1, tup, argEnv, ptr, Nat.reduceEqDiff, reduceIte, beq_self_eq_true, ne_eq, Nat.reduceAdd, Nat.reduceMul, Nat.reduceSub, abin_shl, abin_shr, load1V, loadV, storeV, cellsAt, getN, setN, allocV, lenL, lenS, bnd, oneC, Value.oneCell', Nat.reduceLeDiff, Nat.reduceLT, exists_eq_left', forall_const, reduceCtorEq, app_new, app_new0, List.append_assoc, Int.reduceToNat, Int.reduceLT, Int.reduceLE, Int.reduceEq, Int.reduceNe, Int.reduceBEq, IntKind.bits, bne_self_eq_false, Int.reducePow, r5, r6, hk5']
      refine xcall (clipR_ok R.cr (by omega)) (by rfl) (by rfl) (by rfl) (by rfl) ?_
      rintro r g3 ⟨⟨qr, rfl, -⟩, hf2, -, e0⟩
      subst e0
      simp only [sx, x_box, x_alloc, x_bslice, x_slice, x_append, x_appz, x_b2s, x_s2b, x_mark, xop, ev, evs, evParts, fillL, cellsL, Ai.get, Ai.put, stab, isNil?, if_false, if_true, addr?, int?, str?, agg?, bool?, shiftA, FnPost, xresL, xres1, tup, argEnv, ptr, Nat.reduceEqDiff, reduceIte, beq_self_eq_true, ne_eq, Nat.reduceAdd, Nat.reduceMul, Nat.reduceSub, abin_shl, abin_shr, load1V, loadV, storeV, cellsAt, getN, setN, allocV, lenL, lenS, bnd, oneC, Value.oneCell', Nat.reduceLeDiff, Nat.reduceLT, exists_eq_left', forall_const, reduceCtorEq, app_new, app_new0, List.append_assoc, Int.reduceToNat, Int.reduceLT, Int.reduceLE, Int.reduceEq, Int.reduceNe, Int.reduceBEq, IntKind.bits, bne_self_eq_false, Int.reducePow]
      exact .inr (.inr ⟨hc, out, qr, hst, rfl, hf2, E⟩)
  · rintro ρ g2 ⟨r2, r3, hst, E⟩
    simp only [sx, x_box, x_alloc, x_bslice, x_slice, x_append, x_appz, x_b2s, x_s2b, x_mark, xop, ev, evs, evParts, fillL, cellsL, Ai.get, Ai.put, stab, isNil?, if_false, if_true, addr?, int?, str?, agg?, bool?, shiftA, FnPost, xresL, xres1, tup, argEnv, ptr, Nat.reduceEqDiff, reduceIte, beq_self_eq_true, ne_eq, Nat.reduceAdd, Nat.reduceMul, Nat.reduceSub, abin_shl, abin_shr, load1V, loadV, storeV, cellsAt, getN, setN, allocV, lenL, lenS, bnd, oneC, Value.oneCell', Nat.reduceLeDiff, Nat.reduceLT, exists_eq_left', forall_const, reduceCtorEq, app_new, app_new0, List.append_assoc, Int.reduceToNat, Int.reduceLT, Int.reduceLE, Int.reduceEq, Int.reduceNe, Int.reduceBEq, IntKind.bits, bne_self_eq_false, Int.reducePow, r2, r3]
    exact .inr (.inl ⟨hc, hst, rfl, E⟩)
end Go.Proofs.YtimfgagdfmmeeaaDoor
