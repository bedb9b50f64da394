import Derived.Test.YtemphcppnjlkcaaM1
set_option linter.unusedVariables false
set_option linter.unusedSimpArgs false
namespace Go.Proofs.Ytemphcppnjlkcaa
open Go Go.Ai Go.Proofs

/-- a row of plain spots -/
theorem spot3 {rows : List Value} {n : Nat} (h : ∀ i, i < n → ∀ (j : Nat) (l : Leaf), [Leaf.int .u8, .int .u8, .int .u16][j]? = some l → ∃ u, rows[i * 3 + j]? = some u ∧ LeafOk l u) {i : Nat} (hi : i < n) :
    ∃ (a b d : Int), rows[i * 3]? = some (.int .u8 a) ∧ rows[i * 3 + 1]? = some (.int .u8 b) ∧ rows[i * 3 + 2]? = some (.int .u16 d) ∧ 0 ≤ a ∧ a ≤ 255 ∧ 0 ≤ b ∧ 0 ≤ d ∧ d ≤ 65535 := by
  obtain ⟨u0, h0, a, rfl, w0⟩ := h i hi 0 _ rfl
  obtain ⟨u1, h1, b, rfl, w1⟩ := h i hi 1 _ rfl
  obtain ⟨u2, h2, d, rfl, w2⟩ := h i hi 2 _ rfl
  have b0 := bounds_u8 w0
  have b1 := bounds_u8 w1
  have b2 := bounds_u16 w2
  exact ⟨a, b, d, h0, h1, h2, b0.1, b0.2, b1.1, b2.1, b2.2⟩
/-- a disturbance out of plain data -/
def goodN (x : Nz) : Prop := 0 ≤ x.at_ ∧ x.at_ ≤ 255 ∧ 0 ≤ x.kind ∧ x.kind ≤ 2 ∧ 0 ≤ x.bit ∧ x.bit ≤ 65535

set_option maxHeartbeats 2000000 in
theorem ofN_ok {h : AHeap} {d : Int} {q : Option Addr} {n c : Nat} {rows : List Value} (hd0 : 0 ≤ d) (hf : firstV 3 h n (.slice q n c) = some rows) (hn : n ≤ 9223372036854775807)
    (hrow : ∀ i, i < n → ∀ (j : Nat) (l : Leaf), [Leaf.int .u8, .int .u8, .int .u16][j]? = some l → ∃ u, rows[i * 3 + j]? = some u ∧ LeafOk l u) :
    Valid Try.prog 10 [.agg #[.int .u8 d, .slice q n c]] h fun r h' => ∃ dl l sl, r = .tuple #[.int .i64 dl, sl] ∧ 1 ≤ dl ∧ dl ≤ 8 ∧ l.length ≤ 40 ∧ (∀ x ∈ l, goodN x) ∧ Ret 3 h' sl l.length (rowsN l) ∧ Ext h h' ∧ ∀ A, slB sl = some A → h.length ≤ A ∧ A < h'.length := by
  refine v10 (by simp) ?_
  simp only [X10, sx, x_box, x_alloc, x_bslice, x_slice, x_append, x_b2s, xop, ev, evs, evParts, fillL, cellsL, Ai.get, Ai.put, stab, isNil?, if_false, if_true, addr?, int?, str?, agg?, bool?, shiftA, FnPost, xresL, xres1, tup, argEnv, ptr, Nat.reduceEqDiff, reduceIte, beq_self_eq_true, ne_eq, Nat.reduceAdd, Nat.reduceMul, Nat.reduceSub, abin_shl, abin_shr, load1V, loadV, storeV, cellsAt, getN, setN, allocV, lenL, lenS, bnd, oneC, Value.oneCell', Nat.reduceLeDiff, Nat.reduceLT, exists_eq_left', forall_const, reduceCtorEq, app_new, app_new0, List.append_assoc, Int.reduceToNat, Int.reduceLT, Int.reduceLE, Int.reduceEq, Int.reduceNe, Int.reduceBEq, IntKind.bits, bne_self_eq_false, Int.reducePow]
  refine xcode_loop (fun k ρ h' => ∃ i l sl, i + k = n ∧ i ≤ 40 ∧ get ρ 5 = some (.int .i64 (i : Nat)) ∧ get ρ 4 = some sl ∧ get ρ 1 = some (.pointer (some ⟨h.length, 0, none⟩)) ∧ l.length = i ∧ (∀ x ∈ l, goodN x) ∧ Ret 3 h' sl l.length (rowsN l) ∧ Ext (h ++ [some ⟨true, [.int .u8 d, .slice q n c]⟩]) h' ∧
    ∀ A, slB sl = some A → h.length + 1 ≤ A ∧ A < h'.length) n ⟨0, [], .slice none 0 0, by simp, by omega, rfl, rfl, rfl, rfl, by simp, ⟨rfl, .inl ⟨rfl, rfl⟩⟩, Ext.refl _, by simp [slB]⟩ ?_
  have m0 : 0 ≤ d.tmod 8 := Int.tmod_nonneg _ hd0
  have m1 : d.tmod 8 < 8 := Int.tmod_lt_of_pos _ (by omega)
  have w1 : IntKind.i64.wrap (d.tmod 8) = d.tmod 8 := i64_wrap (by omega) (by omega)
  have w2 : IntKind.i64.wrap (1 + d.tmod 8) = 1 + d.tmod 8 := i64_wrap (by omega) (by omega)
  have h8 : ¬ (8 : Int) = 0 := by decide
  rintro k ρ h1 ⟨i, l, sl, hik, hi40, g5, g4, g1, rfl, hgood, R1, E1, B1⟩
  have hbox : h1[h.length]? = some (some ⟨true, [.int .u8 d, .slice q n c]⟩) := E1.get (by rw [app_new0]; rfl)
  have hE0 : Ext h h1 := (Ext.app _ _).trans E1
  obtain ⟨sq, sc, rfl, _⟩ := R1.shape
  by_cases hlt : l.length < n
  · have hlt' : (l.length : Int) < n := by omega
    by_cases h40 : l.length < 40
    · have h40' : (l.length : Int) < 40 := by omega
      have hge : (0 : Int) ≤ l.length := by omega
      have hw : IntKind.i64.wrap ((l.length : Int) + 1) = ((l.length + 1 : Nat) : Int) := by rw [i64_wrap] <;> omega
      obtain ⟨a, b, e, r0, r1, r2, b0, b1, b2, b3, b4⟩ := spot3 hrow hlt
      cases q with
      | none => simp only [firstV] at hf; rw [if_neg (by omega)] at hf; cases hf
      | some qa =>
        obtain ⟨a1, oo, a2, a3⟩ := firstV_cell (hE0.first hf) (by omega)
        have c0 := a3 (l.length * 3) (by omega)
        have c1 := a3 (l.length * 3 + 1) (by omega)
        have c2 := a3 (l.length * 3 + 2) (by omega)
        rw [r0] at c0
        rw [r1, ← Nat.add_assoc] at c1
        rw [r2, ← Nat.add_assoc] at c2
        have wa : IntKind.i64.wrap a = a := i64_wrap (by omega) (by omega)
        have we : IntKind.i64.wrap e = e := i64_wrap (by omega) (by omega)
        have h3 : ¬ (3 : Int) = 0 := by decide
        simp only [sx, x_box, x_alloc, x_bslice, x_slice, x_b2s, xop, ev, evs, evParts, fillL, cellsL, Ai.get, Ai.put, stab, isNil?, if_false, if_true, addr?, int?, str?, agg?, bool?, shiftA, FnPost, xresL, xres1, tup, argEnv, ptr, Nat.reduceEqDiff, reduceIte, beq_self_eq_true, ne_eq, Nat.reduceAdd, Nat.reduceMul, Nat.reduceSub, abin_shl, abin_shr, load1V, loadV, storeV, cellsAt, getN, setN, allocV, lenL, lenS, bnd, oneC, Value.oneCell', Nat.reduceLeDiff, Nat.reduceLT, exists_eq_left', forall_const, reduceCtorEq, app_new, app_new0, List.append_assoc, Int.reduceToNat, Int.reduceLT, Int.reduceLE, Int.reduceEq, Int.reduceNe, Int.reduceBEq, IntKind.bits, bne_self_eq_false, Int.reducePow, g5, g4, g1, hbox, hlt', h40', hge, a1, a2, c0, c1, c2, wa, we, h3]
        refine push_run (k := 3) (by_ := 24) (n := l.length) (m := 1) (rows := rowsN l) (C := h1.length) (news := [.int .i64 a, .int .u8 (b.tmod 3), .int .i64 e]) ?_ ?_ ?_ ?_ ?_ ?_ ?_ ?_ (R1.keep fun A x _ hx => app_old hx) (by omega) (by omega) ?_
        · rfl
        · decide
        · rfl
        · rfl
        · rw [app_new0]; rfl
        · decide
        · rfl
        · rfl
        intro h4 A4 hA4 hg4 hl4 hfr4
        simp only [List.length_append, List.length_cons, List.length_nil, Nat.zero_add] at hA4 hl4 hfr4
        have hm0 : 0 ≤ b.tmod 3 := Int.tmod_nonneg _ b2
        have hm1 : b.tmod 3 < 3 := Int.tmod_lt_of_pos _ (by omega)
        have hlK := E1.1
        simp at hlK
        simp only [sx, x_box, x_alloc, x_bslice, x_slice, x_append, x_b2s, xop, ev, evs, evParts, fillL, cellsL, Ai.get, Ai.put, stab, isNil?, if_false, if_true, addr?, int?, str?, agg?, bool?, shiftA, FnPost, xresL, xres1, tup, argEnv, ptr, Nat.reduceEqDiff, reduceIte, beq_self_eq_true, ne_eq, Nat.reduceAdd, Nat.reduceMul, Nat.reduceSub, abin_shl, abin_shr, load1V, loadV, storeV, cellsAt, getN, setN, allocV, lenL, lenS, bnd, oneC, Value.oneCell', Nat.reduceLeDiff, Nat.reduceLT, exists_eq_left', forall_const, reduceCtorEq, app_new, app_new0, List.append_assoc, Int.reduceToNat, Int.reduceLT, Int.reduceLE, Int.reduceEq, Int.reduceNe, Int.reduceBEq, IntKind.bits, bne_self_eq_false, Int.reducePow, g5, g4, g1, hw]
        refine ⟨k - 1, by omega, l.length + 1, l ++ [⟨a, b.tmod 3, e⟩], _, by omega, by omega, rfl, rfl, by simp, ?_, ?_, ⟨by simp; omega, fun B hB => ?_⟩, fun A hA => ?_⟩
        · intro x hx
          rcases List.mem_append.1 hx with hx | hx
          · exact hgood x hx
          · simp at hx; subst hx; exact ⟨b0, b1, hm0, by simp; omega, b3, b4⟩
        · refine ⟨by rw [rowsN_len], .inr (.inr ⟨A4, by simp, ?_⟩)⟩
          rw [hg4]; simp [rowsN, Nz.cells]
        · have hB' : B < h.length + 1 := by simpa using hB
          rw [hfr4 B (by omega) (fun e => by have := (B1 B e).1; omega), List.getElem?_append_left (by omega), E1.2 B hB]
        · simp [slB] at hA; subst hA
          have := lt_of_get hg4
          exact ⟨by omega, by omega⟩
    · have h40' : ¬ (l.length : Int) < 40 := by omega
      simp only [sx, x_box, x_alloc, x_bslice, x_slice, x_append, x_b2s, xop, ev, evs, evParts, fillL, cellsL, Ai.get, Ai.put, stab, isNil?, if_false, if_true, addr?, int?, str?, agg?, bool?, shiftA, FnPost, xresL, xres1, tup, argEnv, ptr, Nat.reduceEqDiff, reduceIte, beq_self_eq_true, ne_eq, Nat.reduceAdd, Nat.reduceMul, Nat.reduceSub, abin_shl, abin_shr, load1V, loadV, storeV, cellsAt, getN, setN, allocV, lenL, lenS, bnd, oneC, Value.oneCell', Nat.reduceLeDiff, Nat.reduceLT, exists_eq_left', forall_const, reduceCtorEq, app_new, app_new0, List.append_assoc, Int.reduceToNat, Int.reduceLT, Int.reduceLE, Int.reduceEq, Int.reduceNe, Int.reduceBEq, IntKind.bits, bne_self_eq_false, Int.reducePow, g5, g4, g1, hbox, hlt', h40', h8, w1, w2]
      exact ⟨_, l, _, rfl, by omega, by omega, hi40, hgood, R1, hE0, fun A hA => ⟨by have := B1 A hA; omega, (B1 A hA).2⟩⟩
  · have hlt' : ¬ (l.length : Int) < n := by omega
    simp only [sx, x_box, x_alloc, x_bslice, x_slice, x_append, x_b2s, xop, ev, evs, evParts, fillL, cellsL, Ai.get, Ai.put, stab, isNil?, if_false, if_true, addr?, int?, str?, agg?, bool?, shiftA, FnPost, xresL, xres1, tup, argEnv, ptr, Nat.reduceEqDiff, reduceIte, beq_self_eq_true, ne_eq, Nat.reduceAdd, Nat.reduceMul, Nat.reduceSub, abin_shl, abin_shr, load1V, loadV, storeV, cellsAt, getN, setN, allocV, lenL, lenS, bnd, oneC, Value.oneCell', Nat.reduceLeDiff, Nat.reduceLT, exists_eq_left', forall_const, reduceCtorEq, app_new, app_new0, List.append_assoc, Int.reduceToNat, Int.reduceLT, Int.reduceLE, Int.reduceEq, Int.reduceNe, Int.reduceBEq, IntKind.bits, bne_self_eq_false, Int.reducePow, g5, g4, g1, hbox, hlt', h8, w1, w2]
    exact ⟨_, l, _, rfl, by omega, by omega, hi40, hgood, R1, hE0, fun A hA => ⟨by have := B1 A hA; omega, (B1 A hA).2⟩⟩
theorem good_wrong {l : List Nz} (h : ∀ x ∈ l, goodN x) : ¬ wrongN l := fun ⟨x, hx, hw⟩ => by
  have := h x hx
  unfold goodN at this
  omega
theorem good_bit {l : List Nz} (h : ∀ x ∈ l, goodN x) : ∀ x ∈ l, 0 ≤ x.bit := fun x hx => (h x hx).2.2.2.2.1
end Go.Proofs.Ytemphcppnjlkcaa
