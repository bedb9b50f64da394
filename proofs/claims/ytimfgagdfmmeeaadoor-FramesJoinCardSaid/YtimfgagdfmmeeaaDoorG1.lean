import Derived.Test.YtimfgagdfmmeeaaDoorF5
set_option linter.unusedVariables false
set_option linter.unusedSimpArgs false
namespace Go.Proofs.YtimfgagdfmmeeaaDoor
open Go Go.Ai Go.Proofs

/-- bits -/
def Bits (l : List Int) : Prop := ∀ z ∈ l, z = 0 ∨ z = 1
theorem Bits.tail {b : Int} {l : List Int} (h : Bits (b :: l)) : Bits l := fun z hz => h z (List.mem_cons_of_mem _ hz)
theorem Bits.app {a b : List Int} (h : Bits a) (k : Bits b) : Bits (a ++ b) := fun z hz => (List.mem_append.1 hz).elim (h z) (k z)
theorem Bits.drop {l : List Int} (h : Bits l) (n : Nat) : Bits (l.drop n) := fun z hz => h z (List.mem_of_mem_drop hz)
theorem Bits.take {l : List Int} (h : Bits l) (n : Nat) : Bits (l.take n) := fun z hz => h z (List.mem_of_mem_take hz)
/-- a stream is stuffed; k ones stand before it -/
def stf : List Int → Nat → List Int
  | [], _ => []
  | b :: l, k => if b = 0 then 0 :: stf l 0 else if k + 1 = 5 then b :: 0 :: stf l 0 else b :: stf l (k + 1)
/-- .. and back -/
def unst : List Int → Nat → Option (List Int)
  | [], k => if k = 5 then none else some []
  | b :: l, k => if k = 5 then (if b = 1 then none else unst l 0) else (unst l (if b = 1 then k + 1 else 0)).map (b :: ·)
theorem stf_zero (l : List Int) (k : Nat) : stf (0 :: l) k = 0 :: stf l 0 := by rw [stf, if_pos rfl]
theorem stf_five (l : List Int) {k : Nat} (h : k + 1 = 5) : stf (1 :: l) k = 1 :: 0 :: stf l 0 := by rw [stf, if_neg (by decide), if_pos h]
theorem stf_one (l : List Int) {k : Nat} (h : ¬ k + 1 = 5) : stf (1 :: l) k = 1 :: stf l (k + 1) := by rw [stf, if_neg (by decide), if_neg h]
theorem stf_bits : ∀ {l : List Int} {k : Nat}, Bits l → Bits (stf l k)
  | [], k, _ => fun z hz => by cases hz
  | b :: l, k, h => by
    rcases h b List.mem_cons_self with rfl | rfl
    · rw [stf_zero]
      intro z hz
      rcases List.mem_cons.1 hz with rfl | hz
      · exact .inl rfl
      · exact stf_bits h.tail z hz
    · by_cases hk : k + 1 = 5
      · rw [stf_five l hk]
        intro z hz
        rcases List.mem_cons.1 hz with rfl | hz
        · exact .inr rfl
        · rcases List.mem_cons.1 hz with rfl | hz
          · exact .inl rfl
          · exact stf_bits h.tail z hz
      · rw [stf_one l hk]
        intro z hz
        rcases List.mem_cons.1 hz with rfl | hz
        · exact .inr rfl
        · exact stf_bits h.tail z hz
theorem stf_len : ∀ (l : List Int) (k : Nat), Bits l → k < 5 → (stf l k).length ≤ l.length + (l.length + k) / 5
  | [], k, _, _ => by simp [stf]
  | b :: l, k, h, hk => by
    rcases h b List.mem_cons_self with rfl | rfl
    · rw [stf_zero]
      have := stf_len l 0 h.tail (by decide)
      simp only [List.length_cons]; omega
    · by_cases hk5 : k + 1 = 5
      · rw [stf_five l hk5]
        have := stf_len l 0 h.tail (by decide)
        simp only [List.length_cons]; omega
      · rw [stf_one l hk5]
        have := stf_len l (k + 1) h.tail (by omega)
        simp only [List.length_cons]; omega
theorem unst_stf : ∀ {l : List Int} {k : Nat}, Bits l → k < 5 → unst (stf l k) k = some l
  | [], k, _, hk => by rw [stf, unst, if_neg (by omega)]
  | b :: l, k, h, hk => by
    rcases h b List.mem_cons_self with rfl | rfl
    · rw [stf_zero, unst, if_neg (by omega), if_neg (by decide), unst_stf h.tail (by decide)]; rfl
    · by_cases hk5 : k + 1 = 5
      · rw [stf_five l hk5, unst, if_neg (by omega), if_pos rfl, hk5, unst, if_pos rfl, if_neg (by decide), unst_stf h.tail (by decide)]; rfl
      · rw [stf_one l hk5, unst, if_neg (by omega), if_pos rfl, unst_stf h.tail (by omega)]; rfl
theorem stf_unst : ∀ {l : List Int} {k : Nat} {b : List Int}, Bits l → k ≤ 5 → unst l k = some b → (k < 5 → stf b k = l) ∧ (k = 5 → l = 0 :: stf b 0) ∧ Bits b
  | [], k, b, _, hk, h => by
    rw [unst] at h
    split at h
    · cases h
    · cases h; exact ⟨fun _ => rfl, fun e => by omega, fun z hz => by cases hz⟩
  | x :: l, k, b, hx, hk, h => by
    rw [unst] at h
    by_cases h5 : k = 5
    · rw [if_pos h5] at h
      rcases hx x List.mem_cons_self with rfl | rfl
      · rw [if_neg (by decide)] at h
        obtain ⟨h1, -, h2⟩ := stf_unst hx.tail (by decide) h
        exact ⟨fun e => by omega, fun _ => by rw [h1 (by decide)], h2⟩
      · rw [if_pos rfl] at h; cases h
    · rw [if_neg h5] at h
      obtain ⟨c, hc, rfl⟩ := Option.map_eq_some_iff.1 h
      rcases hx x List.mem_cons_self with rfl | rfl
      · rw [if_neg (by decide)] at hc
        obtain ⟨h1, -, h2⟩ := stf_unst hx.tail (by decide) hc
        exact ⟨fun _ => by rw [stf_zero, h1 (by decide)], fun e => absurd e h5, fun z hz => by
          rcases List.mem_cons.1 hz with rfl | hz
          · exact .inl rfl
          · exact h2 z hz⟩
      · rw [if_pos rfl] at hc
        obtain ⟨h1, h3, h2⟩ := stf_unst hx.tail (by omega) hc
        refine ⟨fun hk4 => ?_, fun e => absurd e h5, fun z hz => ?_⟩
        · by_cases h6 : k + 1 = 5
          · rw [stf_five c h6, h3 h6]
          · rw [stf_one c h6, h1 (by omega)]
        · rcases List.mem_cons.1 hz with rfl | hz
          · exact .inr rfl
          · exact h2 z hz
theorem run_stf : ∀ {l : List Int} {k m : Nat}, Bits l → k < 5 → m ≤ 5 → ((stf l k).foldl (runStep 1) (m, k)).1 ≤ 5
  | [], k, m, _, _, hm => hm
  | b :: l, k, m, h, hk, hm => by
    have s1 : ∀ m k : Nat, runStep 1 (m, k) 1 = (max m (k + 1), k + 1) := fun m k => rfl
    have s0 : ∀ m k : Nat, runStep 1 (m, k) 0 = (max m 0, 0) := fun m k => rfl
    rcases h b List.mem_cons_self with rfl | rfl
    · rw [stf_zero, List.foldl_cons, s0]
      exact run_stf h.tail (by decide) (by omega)
    · by_cases hk5 : k + 1 = 5
      · rw [stf_five l hk5, List.foldl_cons, s1, List.foldl_cons, s0]
        exact run_stf h.tail (by decide) (by omega)
      · rw [stf_one l hk5, List.foldl_cons, s1]
        exact run_stf h.tail (by omega) (by omega)
/-- ones at the end -/
def tr (l : List Int) : Nat := (l.reverse.takeWhile fun x => decide (x = 1)).length
theorem tr_nil : tr [] = 0 := rfl
theorem tr_snoc (l : List Int) (b : Int) : tr (l ++ [b]) = if b = 1 then tr l + 1 else 0 := by
  unfold tr
  rw [List.reverse_append]
  simp only [List.reverse_cons, List.reverse_nil, List.nil_append, List.singleton_append, List.takeWhile_cons]
  by_cases h : b = 1
  · rw [if_pos h]; simp [h]
  · rw [if_neg h]; simp [h]
theorem tr_le (l : List Int) : tr l ≤ l.length := by
  unfold tr
  have := (List.takeWhile_prefix (p := fun x : Int => decide (x = 1)) (l := l.reverse)).length_le
  simpa using this
/-- Ones -/
def OnI (g : AHeap) (q : Option Addr) (n c at' : Nat) (zs : List Int) (m : Nat) (ρ : Env) (h : AHeap) : Prop := ∃ k : Nat, k + m = at' ∧ get ρ 5 = some (.int .i64 (k : Nat)) ∧ get ρ 0 = some (.slice q n c) ∧ get ρ 1 = some (.int .i64 (at' : Nat)) ∧ h = g ∧ tr (zs.take at') = k + tr (zs.take (at' - k))
def OnE (g : AHeap) (at' : Nat) (zs : List Int) (ρ : Env) (h : AHeap) : Prop := get ρ 5 = some (.int .i64 (tr (zs.take at') : Nat)) ∧ h = g
theorem ones_ok {h : AHeap} {q : Option Addr} {n c at' : Nat} {zs : List Int} (hf : firstV 1 h n (.slice q n c) = some (bR zs)) (hn : n ≤ 1048576 * 2) (hat : at' ≤ n) :
    Valid Tryd.prog 30 [.slice q n c, .int .i64 (at' : Int)] h fun r h' => r = .int .i64 (tr (zs.take at') : Nat) ∧ h' = h := by
  refine v30 (by simp) ?_
  have hzl := firstV_len hf
  rw [bR_len, Nat.mul_one] at hzl
  simp only [X30, sx, x_box, x_alloc, x_bslice, x_slice, x_append, x_appz, x_b2s, x_s2b, x_mark, xop, ev, evs, evParts, fillL, cellsL, Ai.get, Ai.put, stab, isNil?, if_false, if_true, addr?, int?, str?, agg?, bool?, shiftA, FnPost, xresL, xres1, tup, argEnv, ptr, Nat.reduceEqDiff, reduceIte, beq_self_eq_true, ne_eq, Nat.reduceAdd, Nat.reduceMul, Nat.reduceSub, abin_shl, abin_shr, load1V, loadV, storeV, cellsAt, getN, setN, allocV, lenL, lenS, bnd, oneC, Value.oneCell', Nat.reduceLeDiff, Nat.reduceLT, exists_eq_left', forall_const, reduceCtorEq, app_new, app_new0, List.append_assoc, Int.reduceToNat, Int.reduceLT, Int.reduceLE, Int.reduceEq, Int.reduceNe, Int.reduceBEq, IntKind.bits, bne_self_eq_false, Int.reducePow]
  refine xloop_cut (OnE h at' zs) ?_ ?_
  · refine xcode_loop (OnI h q n c at' zs) at' ⟨0, by omega, rfl, rfl, rfl, rfl, by simp⟩ ?_
    rintro m ρ g ⟨k, hkm, r5, r0, r1, e0, ht⟩
    subst e0
    have w1 : IntKind.i64.wrap ((at' : Int) - (k : Int)) = ((at' - k : Nat) : Int) := by rw [i64_wrap] <;> omega
    have w2 : IntKind.i64.wrap (((at' - k : Nat) : Int) - 1) = ((at' - k : Nat) : Int) - 1 := by rw [i64_wrap] <;> omega
    have w3 : IntKind.i64.wrap ((k : Int) + 1) = ((k + 1 : Nat) : Int) := by rw [i64_wrap] <;> omega
    by_cases hk : k < at'
    · have hgt : (0 : Int) < ((at' - k : Nat) : Int) := by omega
      obtain ⟨a, o, z, rfl, a1, a2, a3, a4⟩ := elemB hf (i := at' - k - 1) (by omega)
      have hi0 : (0 : Int) ≤ ((at' - k : Nat) : Int) - 1 := by omega
      have hi1 : ((at' - k : Nat) : Int) - 1 < (n : Nat) := by omega
      have hix : (((at' - k : Nat) : Int) - 1).toNat = at' - k - 1 := by omega
      have hsn : zs.take (at' - k) = zs.take (at' - k - 1) ++ [z] := by
        have := take_snoc a4
        rw [show at' - k - 1 + 1 = at' - k by omega] at this; exact this
      by_cases hz : z = 1
      · subst hz
        simp only [sx, x_box, x_alloc, x_bslice, x_slice, x_append, x_appz, x_b2s, x_s2b, x_mark, xop, ev, evs, evParts, fillL, cellsL, Ai.get, Ai.put, stab, isNil?, if_false, if_true, addr?, int?, str?, agg?, bool?, shiftA, FnPost, xresL, xres1, tup, argEnv, ptr, Nat.reduceEqDiff, reduceIte, beq_self_eq_true, ne_eq, Nat.reduceAdd, Nat.reduceMul, Nat.reduceSub, abin_shl, abin_shr, load1V, loadV, storeV, cellsAt, getN, setN, allocV, lenL, lenS, bnd, oneC, Value.oneCell', Nat.reduceLeDiff, Nat.reduceLT, exists_eq_left', forall_const, reduceCtorEq, app_new, app_new0, List.append_assoc, Int.reduceToNat, Int.reduceLT, Int.reduceLE, Int.reduceEq, Int.reduceNe, Int.reduceBEq, IntKind.bits, bne_self_eq_false, Int.reducePow, r5, r0, r1, w1, w2, w3, hgt, hi0, hi1, hix, a1, a2, a3, Nat.mul_one]
        refine ⟨m - 1, by omega, k + 1, by omega, rfl, r0, r1, rfl, ?_⟩
        rw [ht, hsn, tr_snoc, if_pos rfl, show at' - (k + 1) = at' - k - 1 by omega]; omega
      · simp only [sx, x_box, x_alloc, x_bslice, x_slice, x_append, x_appz, x_b2s, x_s2b, x_mark, xop, ev, evs, evParts, fillL, cellsL, Ai.get, Ai.put, stab, isNil?, if_false, if_true, addr?, int?, str?, agg?, bool?, shiftA, FnPost, xresL, xres1, tup, argEnv, ptr, Nat.reduceEqDiff, reduceIte, beq_self_eq_true, ne_eq, Nat.reduceAdd, Nat.reduceMul, Nat.reduceSub, abin_shl, abin_shr, load1V, loadV, storeV, cellsAt, getN, setN, allocV, lenL, lenS, bnd, oneC, Value.oneCell', Nat.reduceLeDiff, Nat.reduceLT, exists_eq_left', forall_const, reduceCtorEq, app_new, app_new0, List.append_assoc, Int.reduceToNat, Int.reduceLT, Int.reduceLE, Int.reduceEq, Int.reduceNe, Int.reduceBEq, IntKind.bits, bne_self_eq_false, Int.reducePow, r5, r0, r1, w1, w2, w3, hgt, hi0, hi1, hix, a1, a2, a3, Nat.mul_one, hz]
        refine ⟨r5.trans ?_, rfl⟩
        rw [ht, hsn, tr_snoc, if_neg hz]; rfl
    · have hgt : ¬ (0 : Int) < ((at' - k : Nat) : Int) := by omega
      simp only [sx, x_box, x_alloc, x_bslice, x_slice, x_append, x_appz, x_b2s, x_s2b, x_mark, xop, ev, evs, evParts, fillL, cellsL, Ai.get, Ai.put, stab, isNil?, if_false, if_true, addr?, int?, str?, agg?, bool?, shiftA, FnPost, xresL, xres1, tup, argEnv, ptr, Nat.reduceEqDiff, reduceIte, beq_self_eq_true, ne_eq, Nat.reduceAdd, Nat.reduceMul, Nat.reduceSub, abin_shl, abin_shr, load1V, loadV, storeV, cellsAt, getN, setN, allocV, lenL, lenS, bnd, oneC, Value.oneCell', Nat.reduceLeDiff, Nat.reduceLT, exists_eq_left', forall_const, reduceCtorEq, app_new, app_new0, List.append_assoc, Int.reduceToNat, Int.reduceLT, Int.reduceLE, Int.reduceEq, Int.reduceNe, Int.reduceBEq, IntKind.bits, bne_self_eq_false, Int.reducePow, r5, r0, r1, w1, hgt]
      refine ⟨r5.trans ?_, rfl⟩
      rw [ht, show at' - k = 0 by omega, List.take_zero, tr_nil]; rfl
  · rintro ρ g ⟨r5, e0⟩
    subst e0
    simp only [sx, x_box, x_alloc, x_bslice, x_slice, x_append, x_appz, x_b2s, x_s2b, x_mark, xop, ev, evs, evParts, fillL, cellsL, Ai.get, Ai.put, stab, isNil?, if_false, if_true, addr?, int?, str?, agg?, bool?, shiftA, FnPost, xresL, xres1, tup, argEnv, ptr, Nat.reduceEqDiff, reduceIte, beq_self_eq_true, ne_eq, Nat.reduceAdd, Nat.reduceMul, Nat.reduceSub, abin_shl, abin_shr, load1V, loadV, storeV, cellsAt, getN, setN, allocV, lenL, lenS, bnd, oneC, Value.oneCell', Nat.reduceLeDiff, Nat.reduceLT, exists_eq_left', forall_const, reduceCtorEq, app_new, app_new0, List.append_assoc, Int.reduceToNat, Int.reduceLT, Int.reduceLE, Int.reduceEq, Int.reduceNe, Int.reduceBEq, IntKind.bits, bne_self_eq_false, Int.reducePow, r5]
end Go.Proofs.YtimfgagdfmmeeaaDoor
