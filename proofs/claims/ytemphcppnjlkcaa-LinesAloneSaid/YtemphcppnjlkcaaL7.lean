import Derived.Test.YtemphcppnjlkcaaL6
set_option linter.unusedVariables false
set_option linter.unusedSimpArgs false
namespace Go.Proofs.Ytemphcppnjlkcaa
open Go Go.Ai Go.Proofs

/-- the bursts that have arrived -/
def ripe (us : List Bu) (now : Int) : List Bu := us.takeWhile fun u => decide (u.due ≤ now)
def bitsU (us : List Bu) : List Int := us.flatMap Bu.bits
theorem takeWhile_eq (p : Bu → Bool) : ∀ (us : List Bu) (i : Nat), (∀ j, j < i → ∀ u, us[j]? = some u → p u = true) → (∀ u, us[i]? = some u → p u = false) → i ≤ us.length → us.takeWhile p = us.take i
  | [], i, _, _, _ => by simp
  | u :: us, 0, _, h2, _ => by simp [List.takeWhile_cons, h2 u rfl]
  | u :: us, i + 1, h1, h2, h3 => by
    rw [List.takeWhile_cons, if_pos (h1 0 (by omega) u rfl), List.take_succ_cons]
    rw [takeWhile_eq p us i (fun j hj v hv => h1 (j + 1) (by omega) v (by simpa using hv)) (fun v hv => h2 v (by simpa using hv)) (by simpa using h3)]
theorem bitsU_take (us : List Bu) (i : Nat) : (bitsU (us.take i)).length ≤ (bitsU us).length := by
  have : bitsU us = bitsU (us.take i) ++ bitsU (us.drop i) := by
    unfold bitsU; rw [← List.flatMap_append, List.take_append_drop]
  rw [this]; simp
theorem bitsU_snoc {us : List Bu} {i : Nat} {u : Bu} (h : us[i]? = some u) : bitsU (us.take (i + 1)) = bitsU (us.take i) ++ u.bits := by
  have : us.take (i + 1) = us.take i ++ [u] := by rw [List.take_add_one, h]; rfl
  unfold bitsU; rw [this, List.flatMap_append]; simp

section
variable {h : AHeap} {X : Nat} {delay now sent waiting : Int} {l : List Nz} {nq : Option Addr} {nc : Nat} {usl : Value} {us : List Bu}

/-- a burst, where it lies -/
theorem und_elem (L : LineAt h X delay now sent waiting l nq nc usl us) {i : Nat} {u : Bu} (hu : us[i]? = some u) : ∃ A off c o, usl = .slice (some ⟨A, off, none⟩) us.length c ∧ h[A]? = some (some o) ∧ o.cells[off + i * 2]? = some (.int .i64 u.due) ∧ o.cells[off + i * 2 + 1]? = some u.v := by
  have hi := (List.getElem?_eq_some_iff.1 hu).1
  obtain ⟨g1, g2⟩ := rowsU_get hu
  rcases L.und with ⟨h1, ⟨_, h0⟩ | ⟨_, _, h0⟩ | ⟨A, off, cells, rfl, hA, hg⟩⟩
  · omega
  · omega
  · obtain ⟨e3, e4⟩ := (getN_eq _ _ _ _).1 hg
    rw [if_neg (by omega)] at e3
    refine ⟨A, off, _, _, rfl, hA, ?_, ?_⟩
    · rw [e4, List.getElem?_take, if_pos (by omega), List.getElem?_drop] at g1; exact g1
    · rw [e4, List.getElem?_take, if_pos (by omega), List.getElem?_drop, ← Nat.add_assoc] at g2; exact g2

set_option maxHeartbeats 2000000 in
theorem take_ok2 (L : LineAt h X delay now sent waiting l nq nc usl us) (hbs : (bitsU us).length ≤ 1048576) (hul : us.length ≤ 1048576) (hw0 : 0 ≤ waiting) (hw1 : waiting ≤ 1048576) :
    Valid Try.prog 17 [ptr X 0] h fun r h' => ∃ usl' q, LineAt h' X delay now sent (waiting - (bitsU (ripe us now)).length) l nq nc usl' (us.drop (ripe us now).length) ∧ FrL h h' X usl ∧ (slB usl' = slB usl) ∧
      r = .slice q (bitsU (ripe us now)).length (bitsU (ripe us now)).length ∧ firstV 1 h' (bitsU (ripe us now)).length r = some (bR (bitsU (ripe us now))) ∧ ∀ a, q = some a → h.length ≤ a.block := by
  refine v17 (by simp) ?_
  simp only [X17, sx, x_box, x_alloc, x_bslice, x_slice, x_append, x_b2s, xop, ev, evs, evParts, fillL, cellsL, Ai.get, Ai.put, stab, isNil?, if_false, if_true, addr?, int?, str?, agg?, bool?, shiftA, FnPost, xresL, xres1, tup, argEnv, ptr, Nat.reduceEqDiff, reduceIte, beq_self_eq_true, ne_eq, Nat.reduceAdd, Nat.reduceMul, Nat.reduceSub, abin_shl, abin_shr, load1V, loadV, storeV, cellsAt, getN, setN, allocV, lenL, lenS, bnd, oneC, Value.oneCell', Nat.reduceLeDiff, Nat.reduceLT, exists_eq_left', forall_const, reduceCtorEq, app_new, app_new0, List.append_assoc, Int.reduceToNat, Int.reduceLT, Int.reduceLE, Int.reduceEq, Int.reduceNe, Int.reduceBEq, IntKind.bits, bne_self_eq_false, Int.reducePow]
  refine xcode_loop (fun m ρ h' => ∃ i sl, i + m = us.length ∧ get ρ 4 = some (.int .i64 (i : Nat)) ∧ get ρ 3 = some sl ∧ get ρ 0 = some (ptr X 0) ∧ Ext h h' ∧ Ret 1 h' sl (bitsU (us.take i)).length (bR (bitsU (us.take i))) ∧ (∀ A, slB sl = some A → h.length ≤ A) ∧
    ∀ j, j < i → ∀ u, us[j]? = some u → u.due ≤ now) us.length ⟨0, .slice none 0 0, by simp, rfl, rfl, rfl, Ext.refl h, ⟨by simp [bitsU, bR], .inl ⟨rfl, by simp [bitsU]⟩⟩, by simp [slB], fun j h => by omega⟩ ?_
  rintro m ρ h1 ⟨i, sl, him, g4, g3, g0, E1, R1, A1, hp⟩
  have L1 := L.ext E1
  have hX1 := L1.obj
  have hXl := lt_of_get L.obj
  unfold lineC at hX1
  unfold ptr at g0
  obtain ⟨uq, uc, rfl, husp⟩ := L.und.shape
  obtain ⟨sq, sc, rfl, hsq⟩ := R1.shape
  have hge : (0 : Int) ≤ i := by omega
  by_cases hlt : i < us.length ∧ us[i]?.all (fun u => decide (u.due ≤ now)) = true
  · obtain ⟨hlt, hdue⟩ := hlt
    have hlt' : (i : Int) < us.length := by omega
    have hu : us[i]? = some us[i] := List.getElem?_eq_getElem hlt
    obtain ⟨A, off, c, o, e1, e2, e3, e4⟩ := und_elem L1 hu
    obtain ⟨b1, b2⟩ := L1.bits us[i] (List.getElem_mem hlt)
    rw [hu] at hdue
    have hsn := bitsU_snoc hu
    have hle := bitsU_take us (i + 1)
    rw [hsn, List.length_append] at hle
    generalize us[i] = u at *
    simp at hdue
    have hw : IntKind.i64.wrap ((i : Int) + 1) = ((i + 1 : Nat) : Int) := by rw [i64_wrap] <;> omega
    cases e1
    obtain ⟨bq, bc, hbv⟩ := b1.len
    have b3 := b1.first
    rw [hbv] at e4 b3
    simp only [sx, x_box, x_alloc, x_bslice, x_slice, x_b2s, xop, ev, evs, evParts, fillL, cellsL, Ai.get, Ai.put, stab, isNil?, if_false, if_true, addr?, int?, str?, agg?, bool?, shiftA, FnPost, xresL, xres1, tup, argEnv, ptr, Nat.reduceEqDiff, reduceIte, beq_self_eq_true, ne_eq, Nat.reduceAdd, Nat.reduceMul, Nat.reduceSub, abin_shl, abin_shr, load1V, loadV, storeV, cellsAt, getN, setN, allocV, lenL, lenS, bnd, oneC, Value.oneCell', Nat.reduceLeDiff, Nat.reduceLT, exists_eq_left', forall_const, reduceCtorEq, app_new, app_new0, List.append_assoc, Int.reduceToNat, Int.reduceLT, Int.reduceLE, Int.reduceEq, Int.reduceNe, Int.reduceBEq, IntKind.bits, bne_self_eq_false, Int.reducePow, g4, g3, g0, hX1, hlt', hge, e2, e3, e4, hdue]
    have hp2 : ∀ j, j < i + 1 → ∀ v, us[j]? = some v → v.due ≤ now := fun j hj v hv => by
      rcases Nat.lt_or_ge j i with h | h
      · exact hp j h v hv
      · rw [show j = i by omega, hu] at hv; cases hv; exact hdue
    refine append_run (k := 1) (by_ := 1) (n := (bitsU (us.take i)).length) (m := u.bits.length) (rows := bR (bitsU (us.take i))) (news := bR u.bits) (sl := .slice sq (bitsU (us.take i)).length sc) (xv := .slice bq u.bits.length bc) ?_ ?_ ?_ ?_ ?_ b3 (by rw [bR_len, Nat.mul_one]) (bR_one _) R1.toO (by omega) (by omega) ?_ ?_
    · rfl
    · decide
    · rfl
    · rfl
    · rfl
    · intro h0
      have hnil : u.bits = [] := List.eq_nil_of_length_eq_zero h0
      rw [hnil, List.append_nil] at hsn
      simp only [sx, x_box, x_alloc, x_bslice, x_slice, x_append, x_b2s, xop, ev, evs, evParts, fillL, cellsL, Ai.get, Ai.put, stab, isNil?, if_false, if_true, addr?, int?, str?, agg?, bool?, shiftA, FnPost, xresL, xres1, tup, argEnv, ptr, Nat.reduceEqDiff, reduceIte, beq_self_eq_true, ne_eq, Nat.reduceAdd, Nat.reduceMul, Nat.reduceSub, abin_shl, abin_shr, load1V, loadV, storeV, cellsAt, getN, setN, allocV, lenL, lenS, bnd, oneC, Value.oneCell', Nat.reduceLeDiff, Nat.reduceLT, exists_eq_left', forall_const, reduceCtorEq, app_new, app_new0, List.append_assoc, Int.reduceToNat, Int.reduceLT, Int.reduceLE, Int.reduceEq, Int.reduceNe, Int.reduceBEq, IntKind.bits, bne_self_eq_false, Int.reducePow, g4, g3, g0, hw]
      refine ⟨m - 1, by omega, i + 1, _, by omega, rfl, rfl, E1, ?_, A1, hp2⟩
      rw [hsn]; exact R1
    · intro h0 h3 A' hA' hg hl3 hfr
      simp only [sx, x_box, x_alloc, x_bslice, x_slice, x_append, x_b2s, xop, ev, evs, evParts, fillL, cellsL, Ai.get, Ai.put, stab, isNil?, if_false, if_true, addr?, int?, str?, agg?, bool?, shiftA, FnPost, xresL, xres1, tup, argEnv, ptr, Nat.reduceEqDiff, reduceIte, beq_self_eq_true, ne_eq, Nat.reduceAdd, Nat.reduceMul, Nat.reduceSub, abin_shl, abin_shr, load1V, loadV, storeV, cellsAt, getN, setN, allocV, lenL, lenS, bnd, oneC, Value.oneCell', Nat.reduceLeDiff, Nat.reduceLT, exists_eq_left', forall_const, reduceCtorEq, app_new, app_new0, List.append_assoc, Int.reduceToNat, Int.reduceLT, Int.reduceLE, Int.reduceEq, Int.reduceNe, Int.reduceBEq, IntKind.bits, bne_self_eq_false, Int.reducePow, g4, g3, g0, hw]
      refine ⟨m - 1, by omega, i + 1, _, by omega, rfl, rfl, ⟨by have := E1.1; omega, fun B hB => ?_⟩, ?_, fun A hA => by cases hA; exact Nat.le_trans E1.1 hA', hp2⟩
      · rw [hfr B (Nat.lt_of_lt_of_le hB E1.1) (fun e => by have := A1 B e; omega), E1.2 B hB]
      · rw [hsn]
        refine ⟨by rw [bR_len, Nat.mul_one], .inr (.inr ⟨A', by rw [List.length_append], ?_⟩)⟩
        rw [hg, bR_append]
  · have hile : i ≤ us.length := by omega
    have hrip : ripe us now = us.take i := by
      refine takeWhile_eq _ us i (fun j hj u hu => by simpa using hp j hj u hu) (fun u hu => ?_) hile
      have hi := (List.getElem?_eq_some_iff.1 hu).1
      have := fun e => hlt ⟨hi, e⟩
      rw [hu] at this
      simpa using this
    have hlr : (us.take i).length = i := by simp; omega
    rw [hrip, hlr]
    have hgo : i < us.length → ∃ u, us[i]? = some u ∧ ¬ u.due ≤ now := fun hi => by
      refine ⟨us[i], List.getElem?_eq_getElem hi, fun hd => hlt ⟨hi, ?_⟩⟩
      rw [List.getElem?_eq_getElem hi]; simpa using hd
    have hlen : (bitsU (us.take i)).length ≤ 1048576 := Nat.le_trans (bitsU_take us i) hbs
    clear hlt hrip hp
    generalize bitsU (us.take i) = out at *
    refine xcode_mono _ (Q := fun e ρ h' => e = .exit 0 ∧ get ρ 4 = some (.int .i64 (i : Nat)) ∧ get ρ 3 = some (.slice sq out.length sc) ∧ get ρ 0 = some (.pointer (some ⟨X, 0, none⟩)) ∧ h' = h1) ?_ ?_
    · by_cases hi : i < us.length
      · have hlt' : (i : Int) < us.length := by omega
        obtain ⟨u, hu, hd⟩ := hgo hi
        obtain ⟨A, off, c, o, e1, e2, e3, e4⟩ := und_elem L1 hu
        cases e1
        simp only [sx, x_box, x_alloc, x_bslice, x_slice, x_append, x_b2s, xop, ev, evs, evParts, fillL, cellsL, Ai.get, Ai.put, stab, isNil?, if_false, if_true, addr?, int?, str?, agg?, bool?, shiftA, FnPost, xresL, xres1, tup, argEnv, ptr, Nat.reduceEqDiff, reduceIte, beq_self_eq_true, ne_eq, Nat.reduceAdd, Nat.reduceMul, Nat.reduceSub, abin_shl, abin_shr, load1V, loadV, storeV, cellsAt, getN, setN, allocV, lenL, lenS, bnd, oneC, Value.oneCell', Nat.reduceLeDiff, Nat.reduceLT, exists_eq_left', forall_const, reduceCtorEq, app_new, app_new0, List.append_assoc, Int.reduceToNat, Int.reduceLT, Int.reduceLE, Int.reduceEq, Int.reduceNe, Int.reduceBEq, IntKind.bits, bne_self_eq_false, Int.reducePow, g4, g3, g0, hX1, hlt', hge, e2, e3, hd]
      · have hlt' : ¬ (i : Int) < us.length := by omega
        simp only [sx, x_box, x_alloc, x_bslice, x_slice, x_append, x_b2s, xop, ev, evs, evParts, fillL, cellsL, Ai.get, Ai.put, stab, isNil?, if_false, if_true, addr?, int?, str?, agg?, bool?, shiftA, FnPost, xresL, xres1, tup, argEnv, ptr, Nat.reduceEqDiff, reduceIte, beq_self_eq_true, ne_eq, Nat.reduceAdd, Nat.reduceMul, Nat.reduceSub, abin_shl, abin_shr, load1V, loadV, storeV, cellsAt, getN, setN, allocV, lenL, lenS, bnd, oneC, Value.oneCell', Nat.reduceLeDiff, Nat.reduceLT, exists_eq_left', forall_const, reduceCtorEq, app_new, app_new0, List.append_assoc, Int.reduceToNat, Int.reduceLT, Int.reduceLE, Int.reduceEq, Int.reduceNe, Int.reduceBEq, IntKind.bits, bne_self_eq_false, Int.reducePow, g4, g3, g0, hX1, hlt']
    clear g4 g3 g0 hgo ρ
    rintro e ρ h1 ⟨rfl, g4, g3, g0, rfl⟩
    simp only [sx, x_box, x_alloc, x_bslice, x_slice, x_append, x_b2s, xop, ev, evs, evParts, fillL, cellsL, Ai.get, Ai.put, stab, isNil?, if_false, if_true, addr?, int?, str?, agg?, bool?, shiftA, FnPost, xresL, xres1, tup, argEnv, ptr, Nat.reduceEqDiff, reduceIte, beq_self_eq_true, ne_eq, Nat.reduceAdd, Nat.reduceMul, Nat.reduceSub, abin_shl, abin_shr, load1V, loadV, storeV, cellsAt, getN, setN, allocV, lenL, lenS, bnd, oneC, Value.oneCell', Nat.reduceLeDiff, Nat.reduceLT, exists_eq_left', forall_const, reduceCtorEq, app_new, app_new0, List.append_assoc, Int.reduceToNat, Int.reduceLT, Int.reduceLE, Int.reduceEq, Int.reduceNe, Int.reduceBEq, IntKind.bits, bne_self_eq_false, Int.reducePow, g4, g3, g0, hX1]
    refine xthen_cut (fun ρ h2 => get ρ 3 = some (.slice sq out.length sc) ∧ get ρ 0 = some (.pointer (some ⟨X, 0, none⟩)) ∧ ∃ q' c', RetO 2 h1 (.slice q' (us.length - i) c') (us.length - i) (rowsU (us.drop i)) ∧ slB (.slice q' (us.length - i) c') = slB (.slice uq us.length uc) ∧
      h2 = h1.set X (some ⟨true, lineC delay (.slice nq l.length nc) now sent waiting (.slice q' (us.length - i) c')⟩)) ?_ ?_
    · have hrd : (rowsU (us.drop i)).length = (us.length - i) * 2 := by rw [rowsU_len]; simp
      have hile' : (i : Int) ≤ us.length := by omega
      rcases L1.und with ⟨u1, ⟨e, h0⟩ | ⟨A, e, h0⟩ | ⟨A, off, cells, e, hA, hg⟩⟩ <;> simp only [Value.slice.injEq] at e <;> obtain ⟨rfl, -, rfl⟩ := e
      · have hi0 : i = 0 := by omega
        have hus : us = [] := List.eq_nil_of_length_eq_zero h0
        subst hi0 hus
        have hu : ¬ unk ≤ 0 := by decide
        simp only [sx, x_box, x_alloc, x_bslice, x_slice, x_append, x_b2s, xop, ev, evs, evParts, fillL, cellsL, Ai.get, Ai.put, stab, isNil?, if_false, if_true, addr?, int?, str?, agg?, bool?, shiftA, FnPost, xresL, xres1, tup, argEnv, ptr, Nat.reduceEqDiff, reduceIte, beq_self_eq_true, ne_eq, Nat.reduceAdd, Nat.reduceMul, Nat.reduceSub, abin_shl, abin_shr, load1V, loadV, storeV, cellsAt, getN, setN, allocV, lenL, lenS, bnd, oneC, Value.oneCell', Nat.reduceLeDiff, Nat.reduceLT, exists_eq_left', forall_const, reduceCtorEq, app_new, app_new0, List.append_assoc, Int.reduceToNat, Int.reduceLT, Int.reduceLE, Int.reduceEq, Int.reduceNe, Int.reduceBEq, IntKind.bits, bne_self_eq_false, Int.reducePow, hu, g3, g0, hX1]
        exact ⟨none, 0, ⟨hrd, .inl ⟨rfl, rfl⟩⟩, rfl, rfl⟩
      · have hi0 : i = 0 := by omega
        have hus : us = [] := List.eq_nil_of_length_eq_zero h0
        subst hi0 hus
        have hu : ¬ unk ≤ 0 := by decide
        simp only [sx, x_box, x_alloc, x_bslice, x_slice, x_append, x_b2s, xop, ev, evs, evParts, fillL, cellsL, Ai.get, Ai.put, stab, isNil?, if_false, if_true, addr?, int?, str?, agg?, bool?, shiftA, FnPost, xresL, xres1, tup, argEnv, ptr, Nat.reduceEqDiff, reduceIte, beq_self_eq_true, ne_eq, Nat.reduceAdd, Nat.reduceMul, Nat.reduceSub, abin_shl, abin_shr, load1V, loadV, storeV, cellsAt, getN, setN, allocV, lenL, lenS, bnd, oneC, Value.oneCell', Nat.reduceLeDiff, Nat.reduceLT, exists_eq_left', forall_const, reduceCtorEq, app_new, app_new0, List.append_assoc, Int.reduceToNat, Int.reduceLT, Int.reduceLE, Int.reduceEq, Int.reduceNe, Int.reduceBEq, IntKind.bits, bne_self_eq_false, Int.reducePow, hu, g3, g0, hX1]
        exact ⟨_, 0, ⟨hrd, .inr (.inl ⟨A, rfl, rfl⟩)⟩, rfl, rfl⟩
      · have hu : unk ≤ unk + 2 := by omega
        simp only [sx, x_box, x_alloc, x_bslice, x_slice, x_append, x_b2s, xop, ev, evs, evParts, fillL, cellsL, Ai.get, Ai.put, stab, isNil?, if_false, if_true, addr?, int?, str?, agg?, bool?, shiftA, FnPost, xresL, xres1, tup, argEnv, ptr, Nat.reduceEqDiff, reduceIte, beq_self_eq_true, ne_eq, Nat.reduceAdd, Nat.reduceMul, Nat.reduceSub, abin_shl, abin_shr, load1V, loadV, storeV, cellsAt, getN, setN, allocV, lenL, lenS, bnd, oneC, Value.oneCell', Nat.reduceLeDiff, Nat.reduceLT, exists_eq_left', forall_const, reduceCtorEq, app_new, app_new0, List.append_assoc, Int.reduceToNat, Int.reduceLT, Int.reduceLE, Int.reduceEq, Int.reduceNe, Int.reduceBEq, IntKind.bits, bne_self_eq_false, Int.reducePow, hu, hge, hile', g3, g0, hX1, or_self]
        refine ⟨_, _, ⟨hrd, .inr (.inr ⟨A, off + i * 2, cells, rfl, hA, ?_⟩)⟩, rfl, rfl⟩
        obtain ⟨e3, e4⟩ := (getN_eq _ _ _ _).1 hg
        refine (getN_eq _ _ _ _).2 ⟨by split <;> split at e3 <;> omega, ?_⟩
        rw [← rowsU_drop, e4, List.drop_take, List.drop_drop]
        congr 1
        omega
    clear g4 g3 g0 ρ
    rintro ρ h2 ⟨g3, g0, q', c', R2, hsb, rfl⟩
    have hw : IntKind.i64.wrap (waiting - (out.length : Nat)) = waiting - (out.length : Nat) := i64_wrap (by omega) (by omega)
    have hset := set_same L1.obj
    unfold lineC at hset
    simp only [sx, x_box, x_alloc, x_bslice, x_slice, x_append, x_b2s, xop, ev, evs, evParts, fillL, cellsL, Ai.get, Ai.put, stab, isNil?, if_false, if_true, addr?, int?, str?, agg?, bool?, shiftA, FnPost, xresL, xres1, tup, argEnv, ptr, Nat.reduceEqDiff, reduceIte, beq_self_eq_true, ne_eq, Nat.reduceAdd, Nat.reduceMul, Nat.reduceSub, abin_shl, abin_shr, load1V, loadV, storeV, cellsAt, getN, setN, allocV, lenL, lenS, bnd, oneC, Value.oneCell', Nat.reduceLeDiff, Nat.reduceLT, exists_eq_left', forall_const, reduceCtorEq, app_new, app_new0, List.append_assoc, Int.reduceToNat, Int.reduceLT, Int.reduceLE, Int.reduceEq, Int.reduceNe, Int.reduceBEq, IntKind.bits, bne_self_eq_false, Int.reducePow, lineC, g3, g0, hset, hw, List.set_set]
    have hXl1 := lt_of_get L1.obj
    have hcl : ∀ (h9 : AHeap), Ret 1 h9 (.slice sq out.length sc) out.length (bR out) → Valid Try.prog 28 [.slice sq out.length sc] h9 fun r h' => h' = h9 ∧ ∃ q, r = .slice q out.length out.length ∧ firstV 1 h9 out.length r = some (bR out) ∧ ∀ a, q = some a → h.length ≤ a.block := fun h9 R9 => by
      have hf9 := R9.first
      rcases R9 with ⟨_, ⟨e, h0⟩ | ⟨A, e, h0⟩ | ⟨A, e, hA⟩⟩ <;> simp only [Value.slice.injEq] at e <;> obtain ⟨rfl, -, rfl⟩ := e
      · have ho : out = [] := List.eq_nil_of_length_eq_zero h0
        subst ho
        refine (clip_nil v28 h9).mono ?_
        rintro r h' ⟨rfl, rfl⟩
        exact ⟨rfl, none, rfl, rfl, by simp⟩
      · have ho : out = [] := List.eq_nil_of_length_eq_zero h0
        subst ho
        refine (clip_ok v28 h9 A 0 0 (by decide) (.inl rfl)).mono ?_
        rintro r h' ⟨rfl, rfl⟩
        exact ⟨rfl, _, rfl, rfl, fun a ha => by cases ha; exact A1 A rfl⟩
      · refine (clip_ok v28 h9 A out.length (unk + 1) (by unfold unk; omega) (.inr rfl)).mono ?_
        rintro r h' ⟨rfl, rfl⟩
        refine ⟨rfl, _, rfl, ?_, fun a ha => by cases ha; exact A1 A rfl⟩
        simpa only [firstV] using hf9
    have hXs : slB (.slice sq out.length sc) ≠ some X := fun e => by have := A1 X e; omega
    refine xcall (hcl _ (R1.keep fun A x hA hx => by rw [set_ne (fun e => hXs (by rw [e]; exact hA))]; exact hx)) (by rfl) (by rfl) (by rfl) (by rfl) ?_
    rintro r h3 ⟨rfl, q, rfl, hfq, hqa⟩
    simp only [sx, x_box, x_alloc, x_bslice, x_slice, x_append, x_b2s, xop, ev, evs, evParts, fillL, cellsL, Ai.get, Ai.put, stab, isNil?, if_false, if_true, addr?, int?, str?, agg?, bool?, shiftA, FnPost, xresL, xres1, tup, argEnv, ptr, Nat.reduceEqDiff, reduceIte, beq_self_eq_true, ne_eq, Nat.reduceAdd, Nat.reduceMul, Nat.reduceSub, abin_shl, abin_shr, load1V, loadV, storeV, cellsAt, getN, setN, allocV, lenL, lenS, bnd, oneC, Value.oneCell', Nat.reduceLeDiff, Nat.reduceLT, exists_eq_left', forall_const, reduceCtorEq, app_new, app_new0, List.append_assoc, Int.reduceToNat, Int.reduceLT, Int.reduceLE, Int.reduceEq, Int.reduceNe, Int.reduceBEq, IntKind.bits, bne_self_eq_false, Int.reducePow]
    have hg : ∀ B, B ≠ X → (h1.set X (some ⟨true, lineC delay (.slice nq l.length nc) now sent (waiting - (out.length : Nat)) (.slice q' (us.length - i) c')⟩))[B]? = h1[B]? := fun B hB => set_ne (Ne.symm hB) _
    refine ⟨.slice q' (us.length - i) c', q, ⟨?_, ?_, ?_, ?_, ?_, ?_⟩, ⟨by have := E1.1; simpa using this, fun B hB b1 b2 => ?_⟩, hsb, rfl, hfq, hqa⟩
    · exact set_same L1.obj _
    · exact first_fr L1.noise fun a ha => hg _ (L1.nlt a ha).1
    · intro a ha
      exact ⟨(L1.nlt a ha).1, by rw [hsb]; exact (L1.nlt a ha).2.1, by simpa using (L1.nlt a ha).2.2⟩
    · rw [show (us.drop i).length = us.length - i by simp]
      exact R2.keep fun A x hA hx => by rw [set_ne (fun e => by rw [hsb] at hA; exact (L1.ult A hA).1 e.symm)]; exact hx
    · intro A hA
      rw [hsb] at hA
      exact ⟨(L1.ult A hA).1, by simpa using (L1.ult A hA).2⟩
    · intro u hu
      obtain ⟨b1, b2⟩ := L1.bits u (List.mem_of_mem_drop hu)
      exact ⟨b1.keep fun A x hA hx => by rw [set_ne (fun e => (b2 A hA).1 e.symm)]; exact hx, fun A hA => ⟨(b2 A hA).1, by rw [hsb]; exact (b2 A hA).2.1, by simpa using (b2 A hA).2.2⟩⟩
    · rw [set_ne (Ne.symm b1), E1.2 B hB]
theorem take_ok (L : LineAt h X delay now sent waiting l nq nc usl us) (hbs : (bitsU us).length ≤ 1048576) (hul : us.length ≤ 1048576) (hw0 : 0 ≤ waiting) (hw1 : waiting ≤ 1048576) :
    Valid Try.prog 17 [ptr X 0] h fun r h' => ∃ usl' q, LineAt h' X delay now sent (waiting - (bitsU (ripe us now)).length) l nq nc usl' (us.drop (ripe us now).length) ∧ FrL h h' X usl ∧ (slB usl' = slB usl) ∧
      r = .slice q (bitsU (ripe us now)).length (bitsU (ripe us now)).length ∧ firstV 1 h' (bitsU (ripe us now)).length r = some (bR (bitsU (ripe us now))) := by
  refine (take_ok2 L hbs hul hw0 hw1).mono ?_
  rintro r h' ⟨usl', q, h1, h2, h3, h4, h5, -⟩
  exact ⟨usl', q, h1, h2, h3, h4, h5⟩
end
end Go.Proofs.Ytemphcppnjlkcaa
