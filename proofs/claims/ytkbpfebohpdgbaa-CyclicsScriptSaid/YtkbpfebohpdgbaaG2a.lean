import Derived.Test.YtkbpfebohpdgbaaG1
set_option linter.unusedVariables false
set_option linter.unusedSimpArgs false
namespace Go.Proofs.Ytkbpfebohpdgbaa
open Go Go.Ai Go.Proofs

def szL (a : Int) : Nat := 1 + (a % 127).toNat
def szO (b : Int) : Nat := 1 + (b % 65535).toNat
theorem of_ok {h : AHeap} {a b : Int} (ha : 0 ≤ a ∧ a ≤ 255) (hb : 0 ≤ b ∧ b ≤ 65535) : Valid Try.prog 17 [.agg #[.int .u8 a, .int .u16 b]] h fun r h' => r = .tuple #[.int .i64 (szL a : Nat), .int .i64 (szO b : Nat)] ∧ Kp h h' := by
  refine v17 (by simp) ?_
  have h1 : ¬ (127 : Int) = 0 := by decide
  have h2 : ¬ (65535 : Int) = 0 := by decide
  have e1 : IntKind.i64.wrap (1 + IntKind.i64.wrap (a.tmod 127)) = ((szL a : Nat) : Int) := by
    rw [Int.tmod_eq_emod_of_nonneg ha.1]; unfold szL
    rw [i64_wrap (n := a % 127) (by omega) (by omega), i64_wrap (by omega) (by omega)]; omega
  have e2 : IntKind.i64.wrap (1 + (IntKind.i64.wrap b).tmod 65535) = ((szO b : Nat) : Int) := by
    rw [i64_wrap (n := b) (by omega) (by omega), Int.tmod_eq_emod_of_nonneg hb.1]; unfold szO
    rw [i64_wrap (by omega) (by omega)]; omega
  simp only [X17, sx, x_alloc, x_bslice, x_slice, x_append, x_b2s, xop, ev, evs, evParts, fillL, cellsL, Ai.get, Ai.put, stab, isNil?, if_false, if_true, addr?, int?, str?, agg?, bool?, shiftA, FnPost, xresL, xres1, tup, argEnv, ptr, Nat.reduceEqDiff, reduceIte, beq_self_eq_true, ne_eq, Nat.reduceAdd, Nat.reduceMul, Nat.reduceSub, abin_shl, abin_shr, load1V, loadV, storeV, cellsAt, getN, setN, allocV, lenL, lenS, bnd, oneC, Value.oneCell', Nat.reduceLeDiff, Nat.reduceLT, exists_eq_left', forall_const, reduceCtorEq, app_new, app_new0, List.append_assoc, Int.reduceToNat, Int.reduceLT, Int.reduceLE, Int.reduceEq, Int.reduceNe, Int.reduceBEq, IntKind.bits, bne_self_eq_false, Int.reducePow]
  refine box_run rfl fun g R K0 hR hRl _ => ?_
  simp only [cellsL] at hR
  simp only [sx, x_box, x_alloc, x_bslice, x_slice, x_append, x_b2s, xop, ev, evs, evParts, fillL, cellsL, Ai.get, Ai.put, stab, isNil?, if_false, if_true, addr?, int?, str?, agg?, bool?, shiftA, FnPost, xresL, xres1, tup, argEnv, ptr, Nat.reduceEqDiff, reduceIte, beq_self_eq_true, ne_eq, Nat.reduceAdd, Nat.reduceMul, Nat.reduceSub, abin_shl, abin_shr, load1V, loadV, storeV, cellsAt, getN, setN, allocV, lenL, lenS, bnd, oneC, Value.oneCell', Nat.reduceLeDiff, Nat.reduceLT, exists_eq_left', forall_const, reduceCtorEq, app_new, app_new0, List.append_assoc, Int.reduceToNat, Int.reduceLT, Int.reduceLE, Int.reduceEq, Int.reduceNe, Int.reduceBEq, IntKind.bits, bne_self_eq_false, Int.reducePow, hR, h1, h2, e1, e2]
  exact K0
theorem sz_le (a b : Int) : (1 ≤ szL a ∧ szL a ≤ 127) ∧ (1 ≤ szO b ∧ szO b ≤ 65535) := by unfold szL szO; omega
theorem next_eq {e e' : BE} {n : Nat} {z : Option (List Int)} (hf : e.fl = false) (hc : e.choose = (e', n, z)) : e.next = (e', ⟨e.acc, true, n, true, (if z.isSome = true then 2 else 0), 0, z.getD []⟩, 0) := by
  unfold BE.next BE.unit
  have : e.st = 0 := by unfold BE.st; rw [hf]; rfl
  rw [this, hc, if_neg (by simp)]
end Go.Proofs.Ytkbpfebohpdgbaa
