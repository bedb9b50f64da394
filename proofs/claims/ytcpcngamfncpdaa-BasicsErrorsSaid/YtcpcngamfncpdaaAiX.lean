/- Closed runs with an oracle for functions that the small language does not take; slices that are looked through by closures that make nothing. Generic. -/
import Derived.Test.YtcpcngamfncpdaaAiZ
import Derived.Test.YtcpcngamfncpdaaAiV
set_option linter.unusedVariables false
set_option linter.unusedSimpArgs false
namespace Go.Ai
open Go

def funRunO (T : Tab) (C0 : Orc) : Nat → Orc
  | 0, _, _, _ => none
  | n + 1, f, args, h =>
    match T f with
    | some (x, rs, nt) =>
      if args.length ≤ nt then
        match codeRun (funRunO T C0 n) (n + 1) x (argEnv 0 args) h with
        | some (.normal, ρ, h') => match xresL ρ h' rs with | some vs => some (tup vs, h') | none => none
        | some (.ret, ρ, h') => match xresL ρ h' rs with | some vs => some (tup vs, h') | none => none
        | _ => none
      else none
    | none => C0 f args h

section
variable {P : Program}
theorem funRunO_sure {T : Tab} {C0 : Orc} (hT : TabOk P T) (hC0 : Sure P C0) : ∀ n, Sure P (funRunO T C0 n)
  | 0 => fun f args h r h' hr => by simp [funRunO] at hr
  | n + 1 => fun f args h r h' hr => by
    simp only [funRunO] at hr
    split at hr
    · rename_i x rs nt e1
      split at hr
      · rename_i hlen
        have fin : ∀ (e : Exit) ρ h2 vs, codeRun (funRunO T C0 n) (n + 1) x (argEnv 0 args) h = some (e, ρ, h2) → (match e with | .normal | .ret => True | _ => False) → xresL ρ h2 rs = some vs → tup vs = r → h2 = h' → Valid P f args h fun v h2 => v = r ∧ h2 = h' := by
          intro e ρ h2 vs hrun hek hvs hv hh
          subst hv; subst hh
          refine hT f x rs nt e1 args h _ hlen (xcode_mono x (codeRun_sound (funRunO_sure hT hC0 n) x _ _ ρ h h2 e hrun (fun _ => rfl)) ?_)
          rintro e2 ρ2 h3 ⟨rfl, hs, rfl⟩
          exact ⟨hek, vs, by rw [← xresL_congr hs]; exact hvs, rfl, rfl⟩
        split at hr
        · rename_i ρ h2 e2
          split at hr
          · rename_i vs e3; cases hr; exact fin _ _ _ _ e2 trivial e3 rfl rfl
          · cases hr
        · rename_i ρ h2 e2
          split at hr
          · rename_i vs e3; cases hr; exact fin _ _ _ _ e2 trivial e3 rfl rfl
          · cases hr
        · cases hr
      · cases hr
    · exact hC0 _ _ _ _ _ hr
end

section
variable {P : Program} {f : FuncId}
def IndexStill (h : AHeap) (n : Nat) (p : Nat → Bool) (r : Value) (h' : AHeap) : Prop := h' = h ∧ ((r = .int .i64 (-1) ∧ ∀ i, i < n → p i = false) ∨ ∃ i, i < n ∧ p i = true ∧ r = .int .i64 (i : Nat))
theorem index1_still (vf : ∀ {args : List Value} {h : AHeap} {Q : Value → AHeap → Prop}, args.length ≤ 19 → xcode P (XIndex 1 (.load1 (.t 14))) (FnPost [(.tmp 4)] Q) (argEnv 0 args) h → Valid P f args h Q)
    {h : AHeap} {a : Option Addr} {n c : Nat} {rows : List Value} (hn : n ≤ 1152921504606846976) (hf : firstV 1 h n (.slice a n c) = some rows) (p : Nat → Bool) {g : FuncId} {caps : Array Value}
    (hcl : ∀ i v, i < n → rows[i]? = some v → Valid P g (v :: caps.toList) h fun r h' => r = .bool (p i) ∧ h' = h) :
    Valid P f [.slice a n c, .func (.func g) #[] caps] h fun r h' => IndexStill h n p r h' := by
  refine vf (by simp) ?_
  simp only [XIndex, sx, x_box, x_alloc, x_bslice, x_slice, x_append, x_appz, x_b2s, x_s2b, x_mark, xop, ev, evs, evParts, fillL, cellsL, Ai.get, Ai.put, stab, isNil?, if_false, if_true, addr?, int?, str?, agg?, bool?, shiftA, FnPost, xresL, xres1, tup, argEnv, ptr, Nat.reduceEqDiff, reduceIte, beq_self_eq_true, ne_eq, Nat.reduceAdd, Nat.reduceMul, Nat.reduceSub, abin_shl, abin_shr, load1V, loadV, storeV, cellsAt, getN, setN, allocV, lenL, lenS, bnd, oneC, Value.oneCell', Nat.reduceLeDiff, Nat.reduceLT, exists_eq_left', forall_const, reduceCtorEq, app_new, app_new0, List.append_assoc, Int.reduceToNat, Int.reduceLT, Int.reduceLE, Int.reduceEq, Int.reduceNe, Int.reduceBEq, IntKind.bits, bne_self_eq_false, Int.reducePow]
  refine xcode_loop (fun m ρ h' => ∃ i, i + m = n ∧ get ρ 8 = some (.int .i64 (i : Nat)) ∧ get ρ 7 = some (.int .i64 n) ∧ get ρ 0 = some (.slice a n c) ∧ get ρ 1 = some (.func (.func g) #[] caps) ∧ h' = h ∧ ∀ j, j < i → p j = false) n
    ⟨0, by simp, rfl, rfl, rfl, rfl, rfl, fun j h => by omega⟩ ?_
  rintro m ρ h' ⟨i, him, g8, g7, g0, g1, rfl, hp⟩
  by_cases hlt : i < n
  · have hlt' : (i : Int) < n := by omega
    have hge : (0 : Int) ≤ i := by omega
    have hw : IntKind.i64.wrap ((i : Int) + 1) = ((i + 1 : Nat) : Int) := by rw [i64_wrap] <;> omega
    cases a with
    | none => simp [firstV] at hf; omega
    | some a =>
      obtain ⟨h1, o, v, h2, h3, h4⟩ := firstV_elem1 hf hlt
      simp only [sx, x_box, x_alloc, x_bslice, x_slice, x_append, x_appz, x_b2s, x_s2b, x_mark, xop, ev, evs, evParts, fillL, cellsL, Ai.get, Ai.put, stab, isNil?, if_false, if_true, addr?, int?, str?, agg?, bool?, shiftA, FnPost, xresL, xres1, tup, argEnv, ptr, Nat.reduceEqDiff, reduceIte, beq_self_eq_true, ne_eq, Nat.reduceAdd, Nat.reduceMul, Nat.reduceSub, abin_shl, abin_shr, load1V, loadV, storeV, cellsAt, getN, setN, allocV, lenL, lenS, bnd, oneC, Value.oneCell', Nat.reduceLeDiff, Nat.reduceLT, exists_eq_left', forall_const, reduceCtorEq, app_new, app_new0, List.append_assoc, Int.reduceToNat, Int.reduceLT, Int.reduceLE, Int.reduceEq, Int.reduceNe, Int.reduceBEq, IntKind.bits, bne_self_eq_false, Int.reducePow, g8, g7, g0, g1, hlt', hge, h1, h2, h3, Nat.mul_one]
      refine xcall (hcl i v hlt h4) (by rfl) (by rfl) (by rfl) (by rfl) ?_
      rintro r h' ⟨rfl, rfl⟩
      cases hpi : p i with
      | true =>
        simp only [sx, x_box, x_alloc, x_bslice, x_slice, x_append, x_appz, x_b2s, x_s2b, x_mark, xop, ev, evs, evParts, fillL, cellsL, Ai.get, Ai.put, stab, isNil?, if_false, if_true, addr?, int?, str?, agg?, bool?, shiftA, FnPost, xresL, xres1, tup, argEnv, ptr, Nat.reduceEqDiff, reduceIte, beq_self_eq_true, ne_eq, Nat.reduceAdd, Nat.reduceMul, Nat.reduceSub, abin_shl, abin_shr, load1V, loadV, storeV, cellsAt, getN, setN, allocV, lenL, lenS, bnd, oneC, Value.oneCell', Nat.reduceLeDiff, Nat.reduceLT, exists_eq_left', forall_const, reduceCtorEq, app_new, app_new0, List.append_assoc, Int.reduceToNat, Int.reduceLT, Int.reduceLE, Int.reduceEq, Int.reduceNe, Int.reduceBEq, IntKind.bits, bne_self_eq_false, Int.reducePow, g8, g7, g0, g1]
        exact ⟨rfl, .inr ⟨i, hlt, hpi, rfl⟩⟩
      | false =>
        simp only [sx, x_box, x_alloc, x_bslice, x_slice, x_append, x_appz, x_b2s, x_s2b, x_mark, xop, ev, evs, evParts, fillL, cellsL, Ai.get, Ai.put, stab, isNil?, if_false, if_true, addr?, int?, str?, agg?, bool?, shiftA, FnPost, xresL, xres1, tup, argEnv, ptr, Nat.reduceEqDiff, reduceIte, beq_self_eq_true, ne_eq, Nat.reduceAdd, Nat.reduceMul, Nat.reduceSub, abin_shl, abin_shr, load1V, loadV, storeV, cellsAt, getN, setN, allocV, lenL, lenS, bnd, oneC, Value.oneCell', Nat.reduceLeDiff, Nat.reduceLT, exists_eq_left', forall_const, reduceCtorEq, app_new, app_new0, List.append_assoc, Int.reduceToNat, Int.reduceLT, Int.reduceLE, Int.reduceEq, Int.reduceNe, Int.reduceBEq, IntKind.bits, bne_self_eq_false, Int.reducePow, g8, g7, g0, g1, hw]
        refine ⟨m - 1, by omega, i + 1, by omega, rfl, fun j hj => ?_⟩
        rcases Nat.lt_or_ge j i with h | h
        · exact hp j h
        · rw [show j = i by omega]; exact hpi
  · have hlt' : ¬ (i : Int) < n := by omega
    simp only [sx, x_box, x_alloc, x_bslice, x_slice, x_append, x_appz, x_b2s, x_s2b, x_mark, xop, ev, evs, evParts, fillL, cellsL, Ai.get, Ai.put, stab, isNil?, if_false, if_true, addr?, int?, str?, agg?, bool?, shiftA, FnPost, xresL, xres1, tup, argEnv, ptr, Nat.reduceEqDiff, reduceIte, beq_self_eq_true, ne_eq, Nat.reduceAdd, Nat.reduceMul, Nat.reduceSub, abin_shl, abin_shr, load1V, loadV, storeV, cellsAt, getN, setN, allocV, lenL, lenS, bnd, oneC, Value.oneCell', Nat.reduceLeDiff, Nat.reduceLT, exists_eq_left', forall_const, reduceCtorEq, app_new, app_new0, List.append_assoc, Int.reduceToNat, Int.reduceLT, Int.reduceLE, Int.reduceEq, Int.reduceNe, Int.reduceBEq, IntKind.bits, bne_self_eq_false, Int.reducePow, g8, g7, g0, g1, hlt']
    exact ⟨rfl, .inl ⟨rfl, fun j hj => hp j (by omega)⟩⟩
theorem contains_still {g : FuncId} (vf : ∀ {args : List Value} {h : AHeap} {Q : Value → AHeap → Prop}, args.length ≤ 9 → xcode P (XContains g) (FnPost [(.tmp 4)] Q) (argEnv 0 args) h → Valid P f args h Q)
    {h : AHeap} {v fv : Value} {n : Nat} {p : Nat → Bool} (hi : Valid P g [v, fv] h fun r h' => IndexStill h n p r h') :
    Valid P f [v, fv] h fun r h' => r = .bool (decide (∃ i, i < n ∧ p i = true)) ∧ h' = h := by
  refine vf (by simp) ?_
  simp only [XContains, sx, x_box, x_alloc, x_bslice, x_slice, x_append, x_appz, x_b2s, x_s2b, x_mark, xop, ev, evs, evParts, fillL, cellsL, Ai.get, Ai.put, stab, isNil?, if_false, if_true, addr?, int?, str?, agg?, bool?, shiftA, FnPost, xresL, xres1, tup, argEnv, ptr, Nat.reduceEqDiff, reduceIte, beq_self_eq_true, ne_eq, Nat.reduceAdd, Nat.reduceMul, Nat.reduceSub, abin_shl, abin_shr, load1V, loadV, storeV, cellsAt, getN, setN, allocV, lenL, lenS, bnd, oneC, Value.oneCell', Nat.reduceLeDiff, Nat.reduceLT, exists_eq_left', forall_const, reduceCtorEq, app_new, app_new0, List.append_assoc, Int.reduceToNat, Int.reduceLT, Int.reduceLE, Int.reduceEq, Int.reduceNe, Int.reduceBEq, IntKind.bits, bne_self_eq_false, Int.reducePow]
  refine xcall hi (by rfl) (by rfl) (by rfl) (by rfl) ?_
  rintro r h' ⟨rfl, ⟨rfl, h1⟩ | ⟨i, h1, h2, rfl⟩⟩
  · have : ¬ ∃ i, i < n ∧ p i = true := fun ⟨i, a, b⟩ => by rw [h1 i a] at b; cases b
    simp only [sx, x_box, x_alloc, x_bslice, x_slice, x_append, x_appz, x_b2s, x_s2b, x_mark, xop, ev, evs, evParts, fillL, cellsL, Ai.get, Ai.put, stab, isNil?, if_false, if_true, addr?, int?, str?, agg?, bool?, shiftA, FnPost, xresL, xres1, tup, argEnv, ptr, Nat.reduceEqDiff, reduceIte, beq_self_eq_true, ne_eq, Nat.reduceAdd, Nat.reduceMul, Nat.reduceSub, abin_shl, abin_shr, load1V, loadV, storeV, cellsAt, getN, setN, allocV, lenL, lenS, bnd, oneC, Value.oneCell', Nat.reduceLeDiff, Nat.reduceLT, exists_eq_left', forall_const, reduceCtorEq, app_new, app_new0, List.append_assoc, Int.reduceToNat, Int.reduceLT, Int.reduceLE, Int.reduceEq, Int.reduceNe, Int.reduceBEq, IntKind.bits, bne_self_eq_false, Int.reducePow, this]
  · have : ∃ i, i < n ∧ p i = true := ⟨i, h1, h2⟩
    have h3 : (0 : Int) ≤ i := by omega
    simp only [sx, x_box, x_alloc, x_bslice, x_slice, x_append, x_appz, x_b2s, x_s2b, x_mark, xop, ev, evs, evParts, fillL, cellsL, Ai.get, Ai.put, stab, isNil?, if_false, if_true, addr?, int?, str?, agg?, bool?, shiftA, FnPost, xresL, xres1, tup, argEnv, ptr, Nat.reduceEqDiff, reduceIte, beq_self_eq_true, ne_eq, Nat.reduceAdd, Nat.reduceMul, Nat.reduceSub, abin_shl, abin_shr, load1V, loadV, storeV, cellsAt, getN, setN, allocV, lenL, lenS, bnd, oneC, Value.oneCell', Nat.reduceLeDiff, Nat.reduceLT, exists_eq_left', forall_const, reduceCtorEq, app_new, app_new0, List.append_assoc, Int.reduceToNat, Int.reduceLT, Int.reduceLE, Int.reduceEq, Int.reduceNe, Int.reduceBEq, IntKind.bits, bne_self_eq_false, Int.reducePow, this, h3]
end
end Go.Ai
