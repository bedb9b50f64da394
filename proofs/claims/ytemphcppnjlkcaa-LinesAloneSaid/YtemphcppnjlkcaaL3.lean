import Derived.Test.YtemphcppnjlkcaaL2
set_option linter.unusedVariables false
set_option linter.unusedSimpArgs false
namespace Go.Proofs.Ytemphcppnjlkcaa
open Go Go.Ai Go.Proofs

/-- what was there is there still -/
def Ext (h h' : AHeap) : Prop := h.length ≤ h'.length ∧ ∀ B, B < h.length → h'[B]? = h[B]?
theorem Ext.refl (h : AHeap) : Ext h h := ⟨Nat.le_refl _, fun _ _ => rfl⟩
theorem Ext.app (h t : AHeap) : Ext h (h ++ t) := ⟨by simp, fun B hB => List.getElem?_append_left hB⟩
theorem Ext.trans {a b c : AHeap} (h : Ext a b) (k : Ext b c) : Ext a c := ⟨Nat.le_trans h.1 k.1, fun B hB => by rw [k.2 B (Nat.lt_of_lt_of_le hB h.1), h.2 B hB]⟩
theorem Ext.get {a b : AHeap} (h : Ext a b) {B : Nat} {x : Option AObj} (hB : a[B]? = some x) : b[B]? = some x := by rw [h.2 B (lt_of_get hB)]; exact hB
theorem Ext.set {a b : AHeap} (h : Ext a b) {R : Nat} (hR : a.length ≤ R) (o : Option AObj) : Ext a (b.set R o) := ⟨by simpa using h.1, fun B hB => by rw [set_ne (by omega)]; exact h.2 B hB⟩
theorem Ext.first {a b : AHeap} (h : Ext a b) {k n : Nat} {v : Value} {rows : List Value} (hf : firstV k a n v = some rows) : firstV k b n v = some rows := firstV_keep hf fun B x hB => h.get hB

structure Nz where
  at_ : Int
  kind : Int
  bit : Int
def Nz.cells (x : Nz) : List Value := [.int .i64 x.at_, .int .u8 x.kind, .int .i64 x.bit]
def rowsN (l : List Nz) : List Value := l.flatMap Nz.cells
theorem rowsN_len (l : List Nz) : (rowsN l).length = l.length * 3 := by
  induction l with
  | nil => rfl
  | cons c cs ih => simp only [rowsN, List.flatMap_cons, List.length_append, List.length_cons] at ih ⊢; rw [ih]; simp [Nz.cells]; omega
theorem rowsN_get : ∀ {l : List Nz} {i : Nat} {x : Nz}, l[i]? = some x → ((rowsN l).drop (i * 3)).take 3 = x.cells
  | [], i, x, h => by simp at h
  | y :: l, 0, x, h => by simp at h; subst h; simp [rowsN, Nz.cells]
  | y :: l, i + 1, x, h => by
    have : (rowsN (y :: l)).drop ((i + 1) * 3) = (rowsN l).drop (i * 3) := by
      rw [show (i + 1) * 3 = 3 + i * 3 by omega, ← List.drop_drop]; rfl
    rw [this]; exact rowsN_get (by simpa using h)

/-- a line's object -/
def lineC (delay : Int) (nsl : Value) (now sent waiting : Int) (usl : Value) : List Value := [.int .i64 delay, nsl, .int .i64 now, .int .i64 sent, .int .i64 waiting, usl]

def hasN (l : List Nz) (sent k : Int) : Prop := ∃ x ∈ l, x.at_ = sent ∧ x.kind = k
instance (l : List Nz) (sent k : Int) : Decidable (hasN l sent k) := by unfold hasN; infer_instance
def wrongN (l : List Nz) : Prop := ∃ x ∈ l, x.at_ < 0 ∨ x.bit < 0 ∨ 2 < x.kind
instance (l : List Nz) : Decidable (wrongN l) := by unfold wrongN; infer_instance

theorem any_iff {l : List Nz} {n : Nat} (hl : l.length = n) (p : Nz → Prop) [DecidablePred p] (d : Nz) : (∃ i, i < n ∧ decide (p (l.getD i d)) = true) ↔ ∃ x ∈ l, p x := by
  constructor
  · rintro ⟨i, hi, h1⟩
    refine ⟨l[i]'(by omega), List.getElem_mem _, ?_⟩
    have : l.getD i d = l[i]'(by omega) := by simp [List.getD_eq_getElem?_getD, List.getElem?_eq_getElem (show i < l.length by omega)]
    rw [this] at h1; simpa using h1
  · rintro ⟨z, hz, h1⟩
    obtain ⟨i, hi, rfl⟩ := List.mem_iff_getElem.1 hz
    exact ⟨i, by omega, by simp [List.getD_eq_getElem?_getD, hi, h1]⟩

theorem has_ok {h : AHeap} {X b0 : Nat} {delay now sent waiting k : Int} {q : Option Addr} {n c : Nat} {usl : Value} {l : List Nz} (hX : h[X]? = some (some ⟨true, lineC delay (.slice q n c) now sent waiting usl⟩)) (hb : h[b0]? = some (some ⟨true, [ptr X 0]⟩))
    (hf : firstV 3 h n (.slice q n c) = some (rowsN l)) (hn : n ≤ 1152921504606846976) :
    Valid Try.prog 32 [.int .u8 k, ptr b0 0] h fun r h' => r = .bool (decide (hasN l sent k)) ∧ Ext h h' := by
  refine v32 (by simp) ?_
  have hl := firstV_len hf
  rw [rowsN_len] at hl
  have hl' : l.length = n := by omega
  have hX2 := hX
  unfold lineC at hX
  unfold ptr at hb
  simp only [X32, sx, x_box, x_alloc, x_bslice, x_slice, x_append, x_b2s, xop, ev, evs, evParts, fillL, cellsL, Ai.get, Ai.put, stab, isNil?, if_false, if_true, addr?, int?, str?, agg?, bool?, shiftA, FnPost, xresL, xres1, tup, argEnv, ptr, Nat.reduceEqDiff, reduceIte, beq_self_eq_true, ne_eq, Nat.reduceAdd, Nat.reduceMul, Nat.reduceSub, abin_shl, abin_shr, load1V, loadV, storeV, cellsAt, getN, setN, allocV, lenL, lenS, bnd, oneC, Value.oneCell', Nat.reduceLeDiff, Nat.reduceLT, exists_eq_left', forall_const, reduceCtorEq, app_new, app_new0, List.append_assoc, Int.reduceToNat, Int.reduceLT, Int.reduceLE, Int.reduceEq, Int.reduceNe, Int.reduceBEq, IntKind.bits, bne_self_eq_false, Int.reducePow, app_old hb, app_old hX]
  have hcl : ∀ J i, i < n → Valid Try.prog 33 (.agg (((rowsN l).drop (i * 3)).take 3).toArray :: (#[.pointer (some ⟨b0, 0, none⟩), .pointer (some ⟨h.length, 0, none⟩)] : Array Value).toList) ((h ++ [some ⟨true, [.int .u8 k]⟩]) ++ J) fun r h' => r = .bool (decide ((l.getD i ⟨0, 0, 0⟩).at_ = sent ∧ (l.getD i ⟨0, 0, 0⟩).kind = k)) ∧ ∃ J', h' = (h ++ [some ⟨true, [.int .u8 k]⟩]) ++ J ++ J' := fun J i hi => by
    have hx : l[i]? = some (l[i]'(by omega)) := List.getElem?_eq_getElem (by omega)
    have e : l.getD i ⟨0, 0, 0⟩ = l[i]'(by omega) := by simp [List.getD_eq_getElem?_getD, hx]
    rw [rowsN_get hx, e]
    generalize l[i]'(by omega) = x
    refine v33 (by simp) ?_
    simp only [X33, sx, x_box, x_alloc, x_bslice, x_slice, x_append, x_b2s, xop, ev, evs, evParts, fillL, cellsL, Ai.get, Ai.put, stab, isNil?, if_false, if_true, addr?, int?, str?, agg?, bool?, shiftA, FnPost, xresL, xres1, tup, argEnv, ptr, Nat.reduceEqDiff, reduceIte, beq_self_eq_true, ne_eq, Nat.reduceAdd, Nat.reduceMul, Nat.reduceSub, abin_shl, abin_shr, load1V, loadV, storeV, cellsAt, getN, setN, allocV, lenL, lenS, bnd, oneC, Value.oneCell', Nat.reduceLeDiff, Nat.reduceLT, exists_eq_left', forall_const, reduceCtorEq, app_new, app_new0, List.append_assoc, Int.reduceToNat, Int.reduceLT, Int.reduceLE, Int.reduceEq, Int.reduceNe, Int.reduceBEq, IntKind.bits, bne_self_eq_false, Int.reducePow, Nz.cells, app_old hb, app_old hX]
    by_cases h1 : x.at_ = sent
    · by_cases h2 : x.kind = k <;> simp [sx, x_box, x_alloc, x_bslice, x_slice, x_append, x_b2s, xop, ev, evs, evParts, fillL, cellsL, Ai.get, Ai.put, stab, isNil?, if_false, if_true, addr?, int?, str?, agg?, bool?, shiftA, FnPost, xresL, xres1, tup, argEnv, ptr, Nat.reduceEqDiff, reduceIte, beq_self_eq_true, ne_eq, Nat.reduceAdd, Nat.reduceMul, Nat.reduceSub, abin_shl, abin_shr, load1V, loadV, storeV, cellsAt, getN, setN, allocV, lenL, lenS, bnd, oneC, Value.oneCell', Nat.reduceLeDiff, Nat.reduceLT, exists_eq_left', forall_const, reduceCtorEq, app_new, app_new0, List.append_assoc, Int.reduceToNat, Int.reduceLT, Int.reduceLE, Int.reduceEq, Int.reduceNe, Int.reduceBEq, IntKind.bits, bne_self_eq_false, Int.reducePow, h1, h2, app_old hb, app_old hX]
    · simp [sx, x_box, x_alloc, x_bslice, x_slice, x_append, x_b2s, xop, ev, evs, evParts, fillL, cellsL, Ai.get, Ai.put, stab, isNil?, if_false, if_true, addr?, int?, str?, agg?, bool?, shiftA, FnPost, xresL, xres1, tup, argEnv, ptr, Nat.reduceEqDiff, reduceIte, beq_self_eq_true, ne_eq, Nat.reduceAdd, Nat.reduceMul, Nat.reduceSub, abin_shl, abin_shr, load1V, loadV, storeV, cellsAt, getN, setN, allocV, lenL, lenS, bnd, oneC, Value.oneCell', Nat.reduceLeDiff, Nat.reduceLT, exists_eq_left', forall_const, reduceCtorEq, app_new, app_new0, List.append_assoc, Int.reduceToNat, Int.reduceLT, Int.reduceLE, Int.reduceEq, Int.reduceNe, Int.reduceBEq, IntKind.bits, bne_self_eq_false, Int.reducePow, h1, app_old hb, app_old hX]
  refine xcall (contains_ok v24 (indexN_ok (by decide) v29 hn (firstV_app hf) (fun i => decide ((l.getD i ⟨0, 0, 0⟩).at_ = sent ∧ (l.getD i ⟨0, 0, 0⟩).kind = k)) hcl)) (by rfl) (by rfl) (by rfl) (by rfl) ?_
  rintro r h' ⟨rfl, J, rfl⟩
  have e := any_iff hl' (fun x => x.at_ = sent ∧ x.kind = k) ⟨0, 0, 0⟩
  have e2 : decide (∃ i, i < n ∧ decide ((l.getD i ⟨0, 0, 0⟩).at_ = sent ∧ (l.getD i ⟨0, 0, 0⟩).kind = k) = true) = decide (hasN l sent k) := by
    unfold hasN; exact decide_eq_decide.2 e
  simp only [sx, x_box, x_alloc, x_bslice, x_slice, x_append, x_b2s, xop, ev, evs, evParts, fillL, cellsL, Ai.get, Ai.put, stab, isNil?, if_false, if_true, addr?, int?, str?, agg?, bool?, shiftA, FnPost, xresL, xres1, tup, argEnv, ptr, Nat.reduceEqDiff, reduceIte, beq_self_eq_true, ne_eq, Nat.reduceAdd, Nat.reduceMul, Nat.reduceSub, abin_shl, abin_shr, load1V, loadV, storeV, cellsAt, getN, setN, allocV, lenL, lenS, bnd, oneC, Value.oneCell', Nat.reduceLeDiff, Nat.reduceLT, exists_eq_left', forall_const, reduceCtorEq, app_new, app_new0, List.append_assoc, Int.reduceToNat, Int.reduceLT, Int.reduceLE, Int.reduceEq, Int.reduceNe, Int.reduceBEq, IntKind.bits, bne_self_eq_false, Int.reducePow, e2]
  exact Ext.app _ _
end Go.Proofs.Ytemphcppnjlkcaa
