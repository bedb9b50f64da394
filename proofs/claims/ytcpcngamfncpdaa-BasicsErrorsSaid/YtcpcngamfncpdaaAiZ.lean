/- Slices that are looked through (the library's IndexFunc, ContainsFunc), and appended. Generic. -/
import Derived.Test.YtcpcngamfncpdaaAiU
import Derived.Test.YtcpcngamfncpdaaAiT
set_option linter.unusedVariables false
set_option linter.unusedSimpArgs false
namespace Go.Ai
open Go
variable {P : Program} {f : FuncId}

theorem i64_wrap {n : Int} (h1 : -9223372036854775808 ≤ n) (h2 : n ≤ 9223372036854775807) : IntKind.i64.wrap n = n := by
  rw [IntKind.wrap_i64]; omega

/-- an element of a slice, where it lies -/
theorem firstV_elem {k n c : Nat} {h : AHeap} {a : Addr} {rows : List Value} (hf : firstV k h n (.slice (some a) n c) = some rows) (hk : 0 < k) {i : Nat} (hi : i < n) :
    a.spot = none ∧ ∃ o, h[a.block]? = some (some o) ∧ getN o.cells (a.off + i * k) k = some ((rows.drop (i * k)).take k) := by
  simp only [firstV] at hf
  rw [if_neg (by omega)] at hf
  split at hf
  · cases hf
  · rename_i h1
    refine ⟨by simpa using h1, ?_⟩
    obtain ⟨cs, e1, e2⟩ := Option.bind_eq_some_iff.1 hf
    unfold cellsAt at e1
    split at e1
    · rename_i o ho
      cases e1
      refine ⟨o, ho, ?_⟩
      obtain ⟨e3, e4⟩ := (getN_eq _ _ _ _).1 e2
      have hpos : 0 < n * k := Nat.mul_pos (by omega) hk
      rw [if_neg (by omega)] at e3
      have hik : i * k + k ≤ n * k := by rw [← Nat.succ_mul]; exact Nat.mul_le_mul_right _ hi
      refine (getN_eq _ _ _ _).2 ⟨by rw [if_neg (by omega)]; omega, ?_⟩
      rw [e4, List.drop_take, List.take_take, List.drop_drop]
      congr 1
      omega
    · cases e1
theorem firstV_elem1 {n c : Nat} {h : AHeap} {a : Addr} {rows : List Value} (hf : firstV 1 h n (.slice (some a) n c) = some rows) {i : Nat} (hi : i < n) :
    a.spot = none ∧ ∃ o v, h[a.block]? = some (some o) ∧ o.cells[a.off + i]? = some v ∧ rows[i]? = some v := by
  obtain ⟨h1, o, h2, h3⟩ := firstV_elem hf (by decide) hi
  have hl := firstV_len hf
  rw [Nat.mul_one] at h3 hl
  refine ⟨h1, o, rows[i]'(by omega), h2, ?_, by simp⟩
  simp only [getN, Option.map_some] at h3
  split at h3
  · rename_i v hv
    rw [hv]
    simp at h3
    have := congrArg (fun l : List Value => l[0]?) h3
    simp at this
    rw [this, List.getElem?_eq_getElem (by omega)]
  · cases h3

/-- the body of IndexFunc -/
def XIndex (k : Nat) (ld : XOp) : XCode := (.seq (.region [⟨(some 4), none, (.mv (.c (.int .i64 (0)))), []⟩]) (.seq (.seq (.region [⟨(some 6), none, (.mv (.t 0)), []⟩, ⟨(some 7), none, (.len true (.t 6)), []⟩, ⟨(some 8), none, (.mv (.c (.int .i64 (0)))), []⟩]) (.block 0 (.loop (.seq (.region [⟨(some 9), none, (.bin .lss (.t 8) (.t 7)), []⟩]) (.seq (.cond (.t 9) .skip (.exit 0)) (.seq (.block 1 (.seq (.region [⟨(some 10), none, (.mv (.t 8)), []⟩, ⟨(some 5), none, (.mv (.t 10)), []⟩]) (.seq (.region [⟨(some 11), none, (.mv (.t 1)), []⟩, ⟨(some 12), none, (.mv (.t 0)), []⟩, ⟨(some 13), none, (.mv (.t 5)), []⟩, ⟨(some 14), none, (.iaddr k (.t 12) (.t 13)), []⟩, ⟨(some 15), none, ld, []⟩, ⟨(some 16), none, (.call (.t 11) [(.t 15)]), []⟩]) (.cond (.t 16) (.seq (.region [⟨(some 17), none, (.mv (.t 5)), []⟩, ⟨(some 4), none, (.mv (.t 17)), []⟩]) .ret) .skip)))) (.region [⟨(some 18), none, (.bin .add (.t 8) (.c (.int .i64 (1)))), []⟩, ⟨(some 8), none, (.mv (.t 18)), []⟩]))))))) (.seq (.region [⟨(some 4), none, (.mv (.c (.int .i64 (-1)))), []⟩]) .ret)))
/-- the body of ContainsFunc -/
def XContains (g : FuncId) : XCode := (.seq (.region [⟨(some 4), none, (.mv (.c (.bool false))), []⟩]) (.seq (.region [⟨(some 5), none, (.mv (.t 0)), []⟩, ⟨(some 6), none, (.mv (.t 1)), []⟩, ⟨(some 7), none, (.call (.c (.func (.func g) #[] #[])) [(.t 5), (.t 6)]), []⟩, ⟨(some 8), none, (.bin .geq (.t 7) (.c (.int .i64 (0)))), []⟩, ⟨(some 4), none, (.mv (.t 8)), []⟩]) .ret))

def IndexPost (h : AHeap) (n : Nat) (p : Nat → Bool) (r : Value) (h' : AHeap) : Prop := (∃ J, h' = h ++ J) ∧ ((r = .int .i64 (-1) ∧ ∀ i, i < n → p i = false) ∨ ∃ i, i < n ∧ p i = true ∧ r = .int .i64 (i : Nat))

theorem index1_ok (vf : ∀ {args : List Value} {h : AHeap} {Q : Value → AHeap → Prop}, args.length ≤ 19 → xcode P (XIndex 1 (.load1 (.t 14))) (FnPost [(.tmp 4)] Q) (argEnv 0 args) h → Valid P f args h Q)
    {h : AHeap} {a : Option Addr} {n c : Nat} {rows : List Value} (hn : n ≤ 1152921504606846976) (hf : firstV 1 h n (.slice a n c) = some rows) (p : Nat → Bool) {g : FuncId} {caps : Array Value}
    (hcl : ∀ J i v, i < n → rows[i]? = some v → Valid P g (v :: caps.toList) (h ++ J) fun r h' => r = .bool (p i) ∧ ∃ J', h' = h ++ J ++ J') :
    Valid P f [.slice a n c, .func (.func g) #[] caps] h fun r h' => IndexPost h n p r h' := by
  refine vf (by simp) ?_
  simp only [XIndex, sx, x_box, x_alloc, x_bslice, x_slice, x_append, x_appz, x_b2s, x_s2b, x_mark, xop, ev, evs, evParts, fillL, cellsL, Ai.get, Ai.put, stab, isNil?, if_false, if_true, addr?, int?, str?, agg?, bool?, shiftA, FnPost, xresL, xres1, tup, argEnv, ptr, Nat.reduceEqDiff, reduceIte, beq_self_eq_true, ne_eq, Nat.reduceAdd, Nat.reduceMul, Nat.reduceSub, abin_shl, abin_shr, load1V, loadV, storeV, cellsAt, getN, setN, allocV, lenL, lenS, bnd, oneC, Value.oneCell', Nat.reduceLeDiff, Nat.reduceLT, exists_eq_left', forall_const, reduceCtorEq, app_new, app_new0, List.append_assoc, Int.reduceToNat, Int.reduceLT, Int.reduceLE, Int.reduceEq, Int.reduceNe, Int.reduceBEq, IntKind.bits, bne_self_eq_false, Int.reducePow]
  refine xcode_loop (fun m ρ h' => ∃ i J, i + m = n ∧ get ρ 8 = some (.int .i64 (i : Nat)) ∧ get ρ 7 = some (.int .i64 n) ∧ get ρ 0 = some (.slice a n c) ∧ get ρ 1 = some (.func (.func g) #[] caps) ∧ h' = h ++ J ∧ ∀ j, j < i → p j = false) n
    ⟨0, [], by simp, rfl, rfl, rfl, rfl, by simp, fun j h => by omega⟩ ?_
  rintro m ρ h' ⟨i, J, him, g8, g7, g0, g1, rfl, hp⟩
  by_cases hlt : i < n
  · have hlt' : (i : Int) < n := by omega
    have hge : (0 : Int) ≤ i := by omega
    have hw : IntKind.i64.wrap ((i : Int) + 1) = ((i + 1 : Nat) : Int) := by rw [i64_wrap] <;> omega
    cases a with
    | none => simp [firstV] at hf; omega
    | some a =>
      obtain ⟨h1, o, v, h2, h3, h4⟩ := firstV_elem1 hf hlt
      simp only [sx, x_box, x_alloc, x_bslice, x_slice, x_append, x_appz, x_b2s, x_s2b, x_mark, xop, ev, evs, evParts, fillL, cellsL, Ai.get, Ai.put, stab, isNil?, if_false, if_true, addr?, int?, str?, agg?, bool?, shiftA, FnPost, xresL, xres1, tup, argEnv, ptr, Nat.reduceEqDiff, reduceIte, beq_self_eq_true, ne_eq, Nat.reduceAdd, Nat.reduceMul, Nat.reduceSub, abin_shl, abin_shr, load1V, loadV, storeV, cellsAt, getN, setN, allocV, lenL, lenS, bnd, oneC, Value.oneCell', Nat.reduceLeDiff, Nat.reduceLT, exists_eq_left', forall_const, reduceCtorEq, app_new, app_new0, List.append_assoc, Int.reduceToNat, Int.reduceLT, Int.reduceLE, Int.reduceEq, Int.reduceNe, Int.reduceBEq, IntKind.bits, bne_self_eq_false, Int.reducePow, g8, g7, g0, g1, hlt', hge, h1, app_old h2, h3, Nat.mul_one]
      refine xcall (hcl J i v hlt h4) (by rfl) (by rfl) (by rfl) (by rfl) ?_
      rintro r h' ⟨rfl, J', rfl⟩
      cases hpi : p i with
      | true =>
        simp only [sx, x_box, x_alloc, x_bslice, x_slice, x_append, x_appz, x_b2s, x_s2b, x_mark, xop, ev, evs, evParts, fillL, cellsL, Ai.get, Ai.put, stab, isNil?, if_false, if_true, addr?, int?, str?, agg?, bool?, shiftA, FnPost, xresL, xres1, tup, argEnv, ptr, Nat.reduceEqDiff, reduceIte, beq_self_eq_true, ne_eq, Nat.reduceAdd, Nat.reduceMul, Nat.reduceSub, abin_shl, abin_shr, load1V, loadV, storeV, cellsAt, getN, setN, allocV, lenL, lenS, bnd, oneC, Value.oneCell', Nat.reduceLeDiff, Nat.reduceLT, exists_eq_left', forall_const, reduceCtorEq, app_new, app_new0, List.append_assoc, Int.reduceToNat, Int.reduceLT, Int.reduceLE, Int.reduceEq, Int.reduceNe, Int.reduceBEq, IntKind.bits, bne_self_eq_false, Int.reducePow, g8, g7, g0, g1]
        exact ⟨⟨_, rfl⟩, .inr ⟨i, hlt, hpi, rfl⟩⟩
      | false =>
        simp only [sx, x_box, x_alloc, x_bslice, x_slice, x_append, x_appz, x_b2s, x_s2b, x_mark, xop, ev, evs, evParts, fillL, cellsL, Ai.get, Ai.put, stab, isNil?, if_false, if_true, addr?, int?, str?, agg?, bool?, shiftA, FnPost, xresL, xres1, tup, argEnv, ptr, Nat.reduceEqDiff, reduceIte, beq_self_eq_true, ne_eq, Nat.reduceAdd, Nat.reduceMul, Nat.reduceSub, abin_shl, abin_shr, load1V, loadV, storeV, cellsAt, getN, setN, allocV, lenL, lenS, bnd, oneC, Value.oneCell', Nat.reduceLeDiff, Nat.reduceLT, exists_eq_left', forall_const, reduceCtorEq, app_new, app_new0, List.append_assoc, Int.reduceToNat, Int.reduceLT, Int.reduceLE, Int.reduceEq, Int.reduceNe, Int.reduceBEq, IntKind.bits, bne_self_eq_false, Int.reducePow, g8, g7, g0, g1, hw]
        refine ⟨m - 1, by omega, i + 1, J ++ J', by omega, rfl, by simp, fun j hj => ?_⟩
        rcases Nat.lt_or_ge j i with h | h
        · exact hp j h
        · rw [show j = i by omega]; exact hpi
  · have hlt' : ¬ (i : Int) < n := by omega
    simp only [sx, x_box, x_alloc, x_bslice, x_slice, x_append, x_appz, x_b2s, x_s2b, x_mark, xop, ev, evs, evParts, fillL, cellsL, Ai.get, Ai.put, stab, isNil?, if_false, if_true, addr?, int?, str?, agg?, bool?, shiftA, FnPost, xresL, xres1, tup, argEnv, ptr, Nat.reduceEqDiff, reduceIte, beq_self_eq_true, ne_eq, Nat.reduceAdd, Nat.reduceMul, Nat.reduceSub, abin_shl, abin_shr, load1V, loadV, storeV, cellsAt, getN, setN, allocV, lenL, lenS, bnd, oneC, Value.oneCell', Nat.reduceLeDiff, Nat.reduceLT, exists_eq_left', forall_const, reduceCtorEq, app_new, app_new0, List.append_assoc, Int.reduceToNat, Int.reduceLT, Int.reduceLE, Int.reduceEq, Int.reduceNe, Int.reduceBEq, IntKind.bits, bne_self_eq_false, Int.reducePow, g8, g7, g0, g1, hlt']
    exact ⟨⟨_, rfl⟩, .inl ⟨rfl, fun j hj => hp j (by omega)⟩⟩

theorem indexN_ok {k : Nat} (hk : 0 < k) (vf : ∀ {args : List Value} {h : AHeap} {Q : Value → AHeap → Prop}, args.length ≤ 19 → xcode P (XIndex k (.loadN k (.t 14))) (FnPost [(.tmp 4)] Q) (argEnv 0 args) h → Valid P f args h Q)
    {h : AHeap} {a : Option Addr} {n c : Nat} {rows : List Value} (hn : n ≤ 1152921504606846976) (hf : firstV k h n (.slice a n c) = some rows) (p : Nat → Bool) {g : FuncId} {caps : Array Value}
    (hcl : ∀ J i, i < n → Valid P g (.agg ((rows.drop (i * k)).take k).toArray :: caps.toList) (h ++ J) fun r h' => r = .bool (p i) ∧ ∃ J', h' = h ++ J ++ J') :
    Valid P f [.slice a n c, .func (.func g) #[] caps] h fun r h' => IndexPost h n p r h' := by
  refine vf (by simp) ?_
  simp only [XIndex, sx, x_box, x_alloc, x_bslice, x_slice, x_append, x_appz, x_b2s, x_s2b, x_mark, xop, ev, evs, evParts, fillL, cellsL, Ai.get, Ai.put, stab, isNil?, if_false, if_true, addr?, int?, str?, agg?, bool?, shiftA, FnPost, xresL, xres1, tup, argEnv, ptr, Nat.reduceEqDiff, reduceIte, beq_self_eq_true, ne_eq, Nat.reduceAdd, Nat.reduceMul, Nat.reduceSub, abin_shl, abin_shr, load1V, loadV, storeV, cellsAt, getN, setN, allocV, lenL, lenS, bnd, oneC, Value.oneCell', Nat.reduceLeDiff, Nat.reduceLT, exists_eq_left', forall_const, reduceCtorEq, app_new, app_new0, List.append_assoc, Int.reduceToNat, Int.reduceLT, Int.reduceLE, Int.reduceEq, Int.reduceNe, Int.reduceBEq, IntKind.bits, bne_self_eq_false, Int.reducePow]
  refine xcode_loop (fun m ρ h' => ∃ i J, i + m = n ∧ get ρ 8 = some (.int .i64 (i : Nat)) ∧ get ρ 7 = some (.int .i64 n) ∧ get ρ 0 = some (.slice a n c) ∧ get ρ 1 = some (.func (.func g) #[] caps) ∧ h' = h ++ J ∧ ∀ j, j < i → p j = false) n
    ⟨0, [], by simp, rfl, rfl, rfl, rfl, by simp, fun j h => by omega⟩ ?_
  rintro m ρ h' ⟨i, J, him, g8, g7, g0, g1, rfl, hp⟩
  by_cases hlt : i < n
  · have hlt' : (i : Int) < n := by omega
    have hge : (0 : Int) ≤ i := by omega
    have hw : IntKind.i64.wrap ((i : Int) + 1) = ((i + 1 : Nat) : Int) := by rw [i64_wrap] <;> omega
    cases a with
    | none => simp [firstV] at hf; omega
    | some a =>
      obtain ⟨h1, o, h2, h3⟩ := firstV_elem hf hk hlt
      simp only [sx, x_box, x_alloc, x_bslice, x_slice, x_append, x_appz, x_b2s, x_s2b, x_mark, xop, ev, evs, evParts, fillL, cellsL, Ai.get, Ai.put, stab, isNil?, if_false, if_true, addr?, int?, str?, agg?, bool?, shiftA, FnPost, xresL, xres1, tup, argEnv, ptr, Nat.reduceEqDiff, reduceIte, beq_self_eq_true, ne_eq, Nat.reduceAdd, Nat.reduceMul, Nat.reduceSub, abin_shl, abin_shr, load1V, loadV, storeV, cellsAt, setN, allocV, lenL, lenS, bnd, oneC, Value.oneCell', Nat.reduceLeDiff, Nat.reduceLT, exists_eq_left', forall_const, reduceCtorEq, app_new, app_new0, List.append_assoc, Int.reduceToNat, Int.reduceLT, Int.reduceLE, Int.reduceEq, Int.reduceNe, Int.reduceBEq, IntKind.bits, bne_self_eq_false, Int.reducePow, g8, g7, g0, g1, hlt', hge, h1, app_old h2, h3]
      refine xcall (hcl J i hlt) (by rfl) (by rfl) (by rfl) (by rfl) ?_
      rintro r h' ⟨rfl, J', rfl⟩
      cases hpi : p i with
      | true =>
        simp only [sx, x_box, x_alloc, x_bslice, x_slice, x_append, x_appz, x_b2s, x_s2b, x_mark, xop, ev, evs, evParts, fillL, cellsL, Ai.get, Ai.put, stab, isNil?, if_false, if_true, addr?, int?, str?, agg?, bool?, shiftA, FnPost, xresL, xres1, tup, argEnv, ptr, Nat.reduceEqDiff, reduceIte, beq_self_eq_true, ne_eq, Nat.reduceAdd, Nat.reduceMul, Nat.reduceSub, abin_shl, abin_shr, load1V, loadV, storeV, cellsAt, getN, setN, allocV, lenL, lenS, bnd, oneC, Value.oneCell', Nat.reduceLeDiff, Nat.reduceLT, exists_eq_left', forall_const, reduceCtorEq, app_new, app_new0, List.append_assoc, Int.reduceToNat, Int.reduceLT, Int.reduceLE, Int.reduceEq, Int.reduceNe, Int.reduceBEq, IntKind.bits, bne_self_eq_false, Int.reducePow, g8, g7, g0, g1]
        exact ⟨⟨_, rfl⟩, .inr ⟨i, hlt, hpi, rfl⟩⟩
      | false =>
        simp only [sx, x_box, x_alloc, x_bslice, x_slice, x_append, x_appz, x_b2s, x_s2b, x_mark, xop, ev, evs, evParts, fillL, cellsL, Ai.get, Ai.put, stab, isNil?, if_false, if_true, addr?, int?, str?, agg?, bool?, shiftA, FnPost, xresL, xres1, tup, argEnv, ptr, Nat.reduceEqDiff, reduceIte, beq_self_eq_true, ne_eq, Nat.reduceAdd, Nat.reduceMul, Nat.reduceSub, abin_shl, abin_shr, load1V, loadV, storeV, cellsAt, getN, setN, allocV, lenL, lenS, bnd, oneC, Value.oneCell', Nat.reduceLeDiff, Nat.reduceLT, exists_eq_left', forall_const, reduceCtorEq, app_new, app_new0, List.append_assoc, Int.reduceToNat, Int.reduceLT, Int.reduceLE, Int.reduceEq, Int.reduceNe, Int.reduceBEq, IntKind.bits, bne_self_eq_false, Int.reducePow, g8, g7, g0, g1, hw]
        refine ⟨m - 1, by omega, i + 1, J ++ J', by omega, rfl, by simp, fun j hj => ?_⟩
        rcases Nat.lt_or_ge j i with h | h
        · exact hp j h
        · rw [show j = i by omega]; exact hpi
  · have hlt' : ¬ (i : Int) < n := by omega
    simp only [sx, x_box, x_alloc, x_bslice, x_slice, x_append, x_appz, x_b2s, x_s2b, x_mark, xop, ev, evs, evParts, fillL, cellsL, Ai.get, Ai.put, stab, isNil?, if_false, if_true, addr?, int?, str?, agg?, bool?, shiftA, FnPost, xresL, xres1, tup, argEnv, ptr, Nat.reduceEqDiff, reduceIte, beq_self_eq_true, ne_eq, Nat.reduceAdd, Nat.reduceMul, Nat.reduceSub, abin_shl, abin_shr, load1V, loadV, storeV, cellsAt, getN, setN, allocV, lenL, lenS, bnd, oneC, Value.oneCell', Nat.reduceLeDiff, Nat.reduceLT, exists_eq_left', forall_const, reduceCtorEq, app_new, app_new0, List.append_assoc, Int.reduceToNat, Int.reduceLT, Int.reduceLE, Int.reduceEq, Int.reduceNe, Int.reduceBEq, IntKind.bits, bne_self_eq_false, Int.reducePow, g8, g7, g0, g1, hlt']
    exact ⟨⟨_, rfl⟩, .inl ⟨rfl, fun j hj => hp j (by omega)⟩⟩

theorem contains_ok {g : FuncId} (vf : ∀ {args : List Value} {h : AHeap} {Q : Value → AHeap → Prop}, args.length ≤ 9 → xcode P (XContains g) (FnPost [(.tmp 4)] Q) (argEnv 0 args) h → Valid P f args h Q)
    {h : AHeap} {v fv : Value} {n : Nat} {p : Nat → Bool} (hi : Valid P g [v, fv] h fun r h' => IndexPost h n p r h') :
    Valid P f [v, fv] h fun r h' => r = .bool (decide (∃ i, i < n ∧ p i = true)) ∧ ∃ J, h' = h ++ J := by
  refine vf (by simp) ?_
  simp only [XContains, sx, x_box, x_alloc, x_bslice, x_slice, x_append, x_appz, x_b2s, x_s2b, x_mark, xop, ev, evs, evParts, fillL, cellsL, Ai.get, Ai.put, stab, isNil?, if_false, if_true, addr?, int?, str?, agg?, bool?, shiftA, FnPost, xresL, xres1, tup, argEnv, ptr, Nat.reduceEqDiff, reduceIte, beq_self_eq_true, ne_eq, Nat.reduceAdd, Nat.reduceMul, Nat.reduceSub, abin_shl, abin_shr, load1V, loadV, storeV, cellsAt, getN, setN, allocV, lenL, lenS, bnd, oneC, Value.oneCell', Nat.reduceLeDiff, Nat.reduceLT, exists_eq_left', forall_const, reduceCtorEq, app_new, app_new0, List.append_assoc, Int.reduceToNat, Int.reduceLT, Int.reduceLE, Int.reduceEq, Int.reduceNe, Int.reduceBEq, IntKind.bits, bne_self_eq_false, Int.reducePow]
  refine xcall hi (by rfl) (by rfl) (by rfl) (by rfl) ?_
  rintro r h' ⟨⟨J, rfl⟩, ⟨rfl, h1⟩ | ⟨i, h1, h2, rfl⟩⟩
  · have : ¬ ∃ i, i < n ∧ p i = true := fun ⟨i, a, b⟩ => by rw [h1 i a] at b; cases b
    simp only [sx, x_box, x_alloc, x_bslice, x_slice, x_append, x_appz, x_b2s, x_s2b, x_mark, xop, ev, evs, evParts, fillL, cellsL, Ai.get, Ai.put, stab, isNil?, if_false, if_true, addr?, int?, str?, agg?, bool?, shiftA, FnPost, xresL, xres1, tup, argEnv, ptr, Nat.reduceEqDiff, reduceIte, beq_self_eq_true, ne_eq, Nat.reduceAdd, Nat.reduceMul, Nat.reduceSub, abin_shl, abin_shr, load1V, loadV, storeV, cellsAt, getN, setN, allocV, lenL, lenS, bnd, oneC, Value.oneCell', Nat.reduceLeDiff, Nat.reduceLT, exists_eq_left', forall_const, reduceCtorEq, app_new, app_new0, List.append_assoc, Int.reduceToNat, Int.reduceLT, Int.reduceLE, Int.reduceEq, Int.reduceNe, Int.reduceBEq, IntKind.bits, bne_self_eq_false, Int.reducePow, this]
    exact ⟨_, rfl⟩
  · have : ∃ i, i < n ∧ p i = true := ⟨i, h1, h2⟩
    have h3 : (0 : Int) ≤ i := by omega
    simp only [sx, x_box, x_alloc, x_bslice, x_slice, x_append, x_appz, x_b2s, x_s2b, x_mark, xop, ev, evs, evParts, fillL, cellsL, Ai.get, Ai.put, stab, isNil?, if_false, if_true, addr?, int?, str?, agg?, bool?, shiftA, FnPost, xresL, xres1, tup, argEnv, ptr, Nat.reduceEqDiff, reduceIte, beq_self_eq_true, ne_eq, Nat.reduceAdd, Nat.reduceMul, Nat.reduceSub, abin_shl, abin_shr, load1V, loadV, storeV, cellsAt, getN, setN, allocV, lenL, lenS, bnd, oneC, Value.oneCell', Nat.reduceLeDiff, Nat.reduceLT, exists_eq_left', forall_const, reduceCtorEq, app_new, app_new0, List.append_assoc, Int.reduceToNat, Int.reduceLT, Int.reduceLE, Int.reduceEq, Int.reduceNe, Int.reduceBEq, IntKind.bits, bne_self_eq_false, Int.reducePow, this, h3]
    exact ⟨_, rfl⟩

theorem firstV_keep {k n : Nat} {h h2 : AHeap} {v : Value} {rows : List Value} (hf : firstV k h n v = some rows) (hk : ∀ (B : Nat) x, h[B]? = some x → h2[B]? = some x) : firstV k h2 n v = some rows := by
  cases v with
  | slice q l c =>
    cases q with
    | none => exact hf
    | some a =>
      simp only [firstV] at hf ⊢
      split at hf
      · rename_i h0; rw [if_pos h0]; exact hf
      · rename_i h0
        rw [if_neg h0]
        split at hf
        · cases hf
        · rename_i h1
          rw [if_neg h1]
          obtain ⟨cs, h2', h3⟩ := Option.bind_eq_some_iff.1 hf
          unfold cellsAt at h2' ⊢
          split at h2'
          · rename_i o ho; rw [hk _ _ ho]; cases h2'; exact h3
          · cases h2'
  | string s => exact hf
  | _ => exact hf

/-- a slice that is appended to (it may begin in the middle of its array) -/
def RetO (k : Nat) (h : AHeap) (sl : Value) (n : Nat) (rows : List Value) : Prop := rows.length = n * k ∧
  ((sl = .slice none 0 0 ∧ n = 0) ∨ (∃ A, sl = .slice (some ⟨A, 0, none⟩) 0 0 ∧ n = 0) ∨ ∃ A off cells, sl = .slice (some ⟨A, off, none⟩) n (unk + k) ∧ h[A]? = some (some ⟨true, cells⟩) ∧ getN cells off (n * k) = some rows)
theorem RetO.shape {k n : Nat} {h : AHeap} {sl : Value} {rows : List Value} (r : RetO k h sl n rows) : ∃ q c, sl = .slice q n c ∧ ∀ a, q = some a → a.spot = none := by
  rcases r with ⟨_, ⟨rfl, rfl⟩ | ⟨A, rfl, rfl⟩ | ⟨A, off, cells, rfl, _⟩⟩
  · exact ⟨_, _, rfl, fun a h => by cases h⟩
  · exact ⟨_, _, rfl, fun a h => by cases h; rfl⟩
  · exact ⟨_, _, rfl, fun a h => by cases h; rfl⟩
theorem RetO.keep {k n : Nat} {h h' : AHeap} {sl : Value} {rows : List Value} (r : RetO k h sl n rows) (hk : ∀ A x, slB sl = some A → h[A]? = some x → h'[A]? = some x) : RetO k h' sl n rows := by
  rcases r with ⟨h1, h2 | h2 | ⟨A, off, cells, rfl, h3, h4⟩⟩
  · exact ⟨h1, .inl h2⟩
  · exact ⟨h1, .inr (.inl h2)⟩
  · exact ⟨h1, .inr (.inr ⟨A, off, cells, rfl, hk A _ rfl h3, h4⟩)⟩
theorem RetO.first {k n : Nat} {h : AHeap} {sl : Value} {rows : List Value} (r : RetO k h sl n rows) : firstV k h n sl = some rows := by
  rcases r with ⟨h1, ⟨rfl, rfl⟩ | ⟨A, rfl, rfl⟩ | ⟨A, off, cells, rfl, h3, h4⟩⟩
  · have : rows = [] := List.eq_nil_of_length_eq_zero (by simpa using h1)
    subst this; simp [firstV]
  · have : rows = [] := List.eq_nil_of_length_eq_zero (by simpa using h1)
    subst this; simp [firstV]
  · simp only [firstV]
    split
    · rename_i h0; subst h0
      have : rows = [] := List.eq_nil_of_length_eq_zero (by simpa using h1)
      rw [this]
    · simp only [ne_eq, not_true_eq_false, if_false, cellsAt, h3, Option.bind_some]
      exact h4
theorem Ret.toO {k n : Nat} {h : AHeap} {sl : Value} {rows : List Value} (r : Ret k h sl n rows) : RetO k h sl n rows := by
  rcases r with ⟨h1, h2 | h2 | ⟨A, rfl, h3⟩⟩
  · exact ⟨h1, .inl h2⟩
  · exact ⟨h1, .inr (.inl h2)⟩
  · exact ⟨h1, .inr (.inr ⟨A, 0, rows, rfl, h3, getN_all _ _ h1.symm⟩)⟩

/-- anything is appended -/
theorem append_run {k by_ : Nat} {z : List Value} (hz : z.length = k) (hk : 0 < k) {K : Env → AHeap → Prop} {r : List XOper} {ρ : Env} {h : AHeap} {n m : Nat} {rows news : List Value} {d : Option Nat} {s x : XA} {sl xv : Value}
    (hs : ev ρ s = some sl) (hx : ev ρ x = some xv) (hl : lenV xv = some m) (hf : firstV k h m xv = some news) (hnl : news.length = m * k) (h1 : news.all oneC = true) (hR : RetO k h sl n rows) (hb : (n + m) * by_ ≤ 140737488355328) (hb2 : n + m ≤ 9223372036854775807)
    (hK0 : m = 0 → xops P K r (put d sl ρ) h)
    (hK : m ≠ 0 → ∀ h' A', h.length ≤ A' → h'[A']? = some (some ⟨true, rows ++ news⟩) → h'.length = h.length + 1 → (∀ B, B < h.length → slB sl ≠ some B → h'[B]? = h[B]?) → xops P K r (put d (.slice (some ⟨A', 0, none⟩) (n + m) (unk + k)) ρ) h') :
    xops P K (⟨d, none, .append k by_ z s x, []⟩ :: r) ρ h := by
  have hu : ¬ unk ≤ 0 := by decide
  rw [x_append]
  simp only [xop, hs, hx, Option.bind_some, hl, hf, hz, hk, and_self, if_true]
  have new0 : ∀ (h : AHeap) (o : Option AObj), (h ++ [o])[h.length]? = some o := fun h o => by simp
  have old0 : ∀ (h : AHeap) (o : Option AObj) (B : Nat), B < h.length → (h ++ [o])[B]? = h[B]? := fun h o B hB => by rw [List.getElem?_append_left hB]
  by_cases hm : m = 0
  · subst hm
    have hK0 := hK0 rfl
    rcases hR with ⟨hl, ⟨rfl, rfl⟩ | ⟨A, rfl, rfl⟩ | ⟨A, off, cells, rfl, hA, hg⟩⟩
    · simp only [appendV, and_self, if_true, xthen_some, stab, true_and]; exact hK0
    · simp only [appendV, ne_eq, not_true_eq_false, if_false, if_true, Nat.le_refl, xthen_some, stab, true_and]; exact hK0
    · have : n ≤ unk + k := by have : 9223372036854775807 ≤ unk := by decide
                               omega
      simp only [appendV, ne_eq, not_true_eq_false, if_false, if_true, this, xthen_some, stab, true_and]; exact hK0
  · have hK := hK hm
    rcases hR with ⟨hl, ⟨rfl, rfl⟩ | ⟨A, rfl, rfl⟩ | ⟨A, off, cells, rfl, hA, hg⟩⟩
    · have hr0 : rows = [] := List.eq_nil_of_length_eq_zero (by simpa using hl)
      subst hr0
      simp only [appendV, and_self, if_true]
      rw [if_neg hm, if_pos ⟨by simpa using hb, by omega⟩]
      simp only [xthen_some, stab, true_and]
      have := hK (h ++ [some ⟨true, news⟩]) h.length (Nat.le_refl _) (new0 h _) (by simp) (fun B hB _ => old0 h _ B hB)
      simpa using this
    · have hr0 : rows = [] := List.eq_nil_of_length_eq_zero (by simpa using hl)
      subst hr0
      simp only [appendV, ne_eq, not_true_eq_false, if_false, hu]
      rw [if_neg hm, if_neg (by omega), if_neg (by omega), if_pos trivial]
      simp only [xthen_some, stab, true_and]
      have := hK (h ++ [some ⟨true, news⟩]) h.length (Nat.le_refl _) (new0 h _) (by simp) (fun B hB _ => old0 h _ B hB)
      simpa using this
    · simp only [appendV, ne_eq, not_true_eq_false, if_false]
      rw [if_neg hm, if_neg (by omega), if_pos (by omega), if_pos trivial]
      simp only [hA, h1, and_self, if_true, hg, Option.bind_some, xthen_some, stab, true_and]
      refine hK (h.set A none ++ [some ⟨true, rows ++ news⟩]) h.length (Nat.le_refl _) ?_ (by simp) (fun B hB hne => ?_)
      · simp
      · rw [old0 _ _ B (by simpa using hB), set_ne (fun e => hne (by simp [slB, e]))]

/-- numbers as cells -/
def bR (zs : List Int) : List Value := zs.map (Value.int .u8)
theorem bR_len (zs : List Int) : (bR zs).length = zs.length := by simp [bR]
theorem bR_append (a b : List Int) : bR (a ++ b) = bR a ++ bR b := by simp [bR]
theorem bR_get (zs : List Int) (i : Nat) : (bR zs)[i]? = zs[i]?.map (Value.int .u8) := by simp [bR]
theorem bR_set (zs : List Int) (i : Nat) (z : Int) : (bR zs).set i (.int .u8 z) = bR (zs.set i z) := by simp [bR, List.map_set]
theorem bR_one (zs : List Int) : (bR zs).all oneC = true := by
  rw [List.all_eq_true]; intro v hv
  obtain ⟨z, _, rfl⟩ := List.mem_map.1 hv
  rfl
theorem bR_take (zs : List Int) (n : Nat) : (bR zs).take n = bR (zs.take n) := by simp [bR, List.map_take]
theorem bR_inj : ∀ {a b : List Int}, bR a = bR b → a = b
  | [], [], _ => rfl
  | [], _ :: _, h => by simp [bR] at h
  | _ :: _, [], h => by simp [bR] at h
  | x :: a, y :: b, h => by
    simp only [bR, List.map_cons, List.cons.injEq, Value.int.injEq, true_and] at h
    rw [h.1, bR_inj h.2]
theorem zeros_bR (n : Nat) : (List.replicate n [Value.int .u8 0]).flatten = bR (List.replicate n 0) := by
  induction n with
  | zero => rfl
  | succ n ih => simp only [List.replicate_succ, List.flatten_cons, ih]; rfl
/-- a list that is written from its start on -/
def filled (L : List Int) (i n : Nat) : List Int := L.take i ++ List.replicate (n - i) 0
theorem filled_len {L : List Int} {i n : Nat} (h : i ≤ n) (hL : L.length = n) : (filled L i n).length = n := by simp [filled]; omega
theorem filled_set {L : List Int} {i n : Nat} (hi : i < n) (hL : L.length = n) : (filled L i n).set i (L[i]'(by omega)) = filled L (i + 1) n := by
  unfold filled
  rw [List.set_append_right _ _ (by simp; omega)]
  have e1 : i - (L.take i).length = 0 := by simp; omega
  have e2 : L.take (i + 1) = L.take i ++ [L[i]'(by omega)] := by rw [List.take_add_one, List.getElem?_eq_getElem (by omega)]; rfl
  rw [e1, e2, show n - i = (n - (i + 1)) + 1 by omega, List.replicate_succ, List.set_cons_zero, List.append_assoc]
  rfl
theorem filled_zero (L : List Int) (n : Nat) : filled L 0 n = List.replicate n 0 := by simp [filled]
theorem filled_all {L : List Int} {n : Nat} (h : L.length = n) : filled L n n = L := by simp [filled, ← h]
section
variable {k : IntKind} {a b : Int}
theorem abin_and : abin .and (.int k a) (.int k b) = some (.int k (k.wrap ((BitVec.ofInt k.bits a &&& BitVec.ofInt k.bits b).toNat : Int))) := by simp [abin, binOp, Op.intBits, semVal, pure]
theorem abin_or : abin .or (.int k a) (.int k b) = some (.int k (k.wrap ((BitVec.ofInt k.bits a ||| BitVec.ofInt k.bits b).toNat : Int))) := by simp [abin, binOp, Op.intBits, semVal, pure]
theorem abin_xor : abin .xor (.int k a) (.int k b) = some (.int k (k.wrap ((BitVec.ofInt k.bits a ^^^ BitVec.ofInt k.bits b).toNat : Int))) := by simp [abin, binOp, Op.intBits, semVal, pure]
end
set_option maxRecDepth 10000 in
theorem and1 (b : UInt8) : IntKind.u8.wrap ((BitVec.ofInt 8 (b.toNat : Int) &&& BitVec.ofInt 8 1).toNat : Int) = (b.toNat % 2 : Nat) := by
  have : ∀ b : Fin 256, IntKind.u8.wrap ((BitVec.ofInt 8 (b.val : Int) &&& BitVec.ofInt 8 1).toNat : Int) = (b.val % 2 : Nat) := by decide +kernel
  exact this ⟨b.toNat, b.toNat_lt⟩
theorem abin_and1 (b : UInt8) : abin .and (.int .u8 (b.toNat : Int)) (.int .u8 1) = some (.int .u8 ((b.toNat % 2 : Nat) : Int)) := by rw [abin_and]; exact congrArg (fun n => some (Value.int .u8 n)) (and1 b)
theorem abin_xor0 : abin .xor (.int .u8 0) (.int .u8 1) = some (.int .u8 1) := by rw [abin_xor]; rfl
theorem abin_xor1 : abin .xor (.int .u8 1) (.int .u8 1) = some (.int .u8 0) := by rw [abin_xor]; rfl
/-- the lowest bits of a text's bytes -/
def streamOf (s : ByteArray) : List Int := s.data.toList.map fun b => ((b.toNat % 2 : Nat) : Int)
theorem streamOf_len (s : ByteArray) : (streamOf s).length = s.size := by unfold streamOf; rw [List.length_map]; rfl
theorem streamOf_get {s : ByteArray} {i : Nat} (h : i < s.size) : ∃ b : UInt8, s[i]? = some b ∧ (streamOf s)[i]'(by rw [streamOf_len]; exact h) = ((b.toNat % 2 : Nat) : Int) := by
  refine ⟨s[i], getElem?_pos s i h, ?_⟩
  simp only [streamOf, List.getElem_map, Array.getElem_toList]
  rfl
theorem streamOf_bit (s : ByteArray) : ∀ z ∈ streamOf s, z = 0 ∨ z = 1 := by
  intro z hz
  simp only [streamOf, List.mem_map] at hz
  obtain ⟨b, _, rfl⟩ := hz
  omega
end Go.Ai
