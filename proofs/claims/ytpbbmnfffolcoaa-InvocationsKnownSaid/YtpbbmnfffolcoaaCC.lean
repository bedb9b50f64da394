import Derived.Test.YtpbbmnfffolcoaaCB
import Derived.Test.YtpbbmnfffolcoaaE1
set_option linter.unusedVariables false
set_option linter.unusedSimpArgs false
namespace Go.Proofs.Ytpbbmnfffolcoaa
open Go Go.Ai Go.Proofs

/-- a list of endings, as long as its room -/
def EndL (h : AHeap) (r : Value) (es : List En) : Prop := ∃ q cells, r = .slice q es.length es.length ∧ firstV 4 h es.length r = some cells ∧ EndsR h cells es
theorem EQ.clip {h : AHeap} {v : Value} {es : List En} (q : EQ h v es) (hl : es.length < 1000000) : ∃ a, (∃ cells, firstV 4 h es.length (.slice a es.length es.length) = some cells ∧ EndsR h cells es) ∧ (∀ x, a = some x → slB v = some x.block) ∧ ∀ (ρ : Env) (x hi mx : XA), ev ρ x = some v → ev ρ hi = some (.int .i64 (es.length : Nat)) → ev ρ mx = some (.int .i64 (es.length : Nat)) → xop (.slice 4 x none (some hi) (some mx)) ρ h = some (.slice a es.length es.length, h) := by
  obtain ⟨cells, R, M⟩ := q
  have hf := R.toO.first
  obtain ⟨hl', ⟨h1, h2⟩ | ⟨X, off, cs, h1, hX, hg⟩⟩ := R
  · subst h1
    have : es = [] := List.eq_nil_of_length_eq_zero h2
    subst this
    have hu : ¬ unk ≤ 0 := by decide
    refine ⟨none, ⟨cells, hf, M⟩, by simp, fun ρ x hi mx e1 e2 e3 => ?_⟩
    simp [xop, e1, e2, e3, bnd, int?, hu]
  · subst h1
    refine ⟨some ⟨X, off, none⟩, ⟨cells, by simpa only [firstV] using hf, M⟩, fun x hx => by cases hx; rfl, fun ρ x hi mx e1 e2 e3 => ?_⟩
    have hu : unk ≤ unk + 4 := by omega
    have hu2 : ¬ unk ≤ es.length := by unfold unk; omega
    by_cases h0 : es.length = 0
    · simp [xop, e1, e2, e3, bnd, int?, hu, hu2, h0, unk, shiftA]
    · simp [xop, e1, e2, e3, bnd, int?, hu, hu2, h0, shiftA]
theorem clipE_ok {h : AHeap} {v : Value} {es : List En} (q : EQ h v es) (hl : es.length < 1000000) : Valid Try.prog 26 [v] h fun r h' => h' = h ∧ ∃ a, r = .slice a es.length es.length ∧ (∃ cells, firstV 4 h es.length r = some cells ∧ EndsR h cells es) ∧ ∀ x, a = some x → slB v = some x.block := by
  refine v26 (by simp) ?_
  obtain ⟨a, f, hs, hx⟩ := q.clip hl
  obtain ⟨a', c', hv⟩ : ∃ a c, v = .slice a es.length c := by
    obtain ⟨_, R, _⟩ := q
    obtain ⟨_, ⟨h1, h2⟩ | ⟨X, off, cs, h1, _, _⟩⟩ := R
    · exact ⟨none, 0, by rw [h1, h2]⟩
    · exact ⟨_, _, h1⟩
  subst hv
  simp only [X26, sx, x_box, x_alloc, x_bslice, x_append, x_appz, x_b2s, x_s2b, x_mark, xop, ev, evs, evParts, fillL, cellsL, Ai.get, Ai.put, stab, isNil?, if_false, if_true, addr?, int?, str?, agg?, bool?, shiftA, FnPost, xresL, xres1, tup, argEnv, ptr, Nat.reduceEqDiff, reduceIte, beq_self_eq_true, ne_eq, Nat.reduceAdd, Nat.reduceMul, Nat.reduceSub, abin_shl, abin_shr, load1V, loadV, storeV, cellsAt, getN, setN, allocV, lenL, lenS, bnd, oneC, Value.oneCell', Nat.reduceLeDiff, Nat.reduceLT, exists_eq_left', forall_const, reduceCtorEq, app_new, app_new0, List.append_assoc, Int.reduceToNat, Int.reduceLT, Int.reduceLE, Int.reduceEq, Int.reduceNe, Int.reduceBEq, IntKind.bits, bne_self_eq_false, Int.reducePow]
  rw [x_slice, hx _ _ _ _ rfl rfl rfl]
  simp only [sx, x_box, x_alloc, x_bslice, x_slice, x_append, x_appz, x_b2s, x_s2b, x_mark, xop, ev, evs, evParts, fillL, cellsL, Ai.get, Ai.put, stab, isNil?, if_false, if_true, addr?, int?, str?, agg?, bool?, shiftA, FnPost, xresL, xres1, tup, argEnv, ptr, Nat.reduceEqDiff, reduceIte, beq_self_eq_true, ne_eq, Nat.reduceAdd, Nat.reduceMul, Nat.reduceSub, abin_shl, abin_shr, load1V, loadV, storeV, cellsAt, getN, setN, allocV, lenL, lenS, bnd, oneC, Value.oneCell', Nat.reduceLeDiff, Nat.reduceLT, exists_eq_left', forall_const, reduceCtorEq, app_new, app_new0, List.append_assoc, Int.reduceToNat, Int.reduceLT, Int.reduceLE, Int.reduceEq, Int.reduceNe, Int.reduceBEq, IntKind.bits, bne_self_eq_false, Int.reducePow]
  exact ⟨a, rfl, f, hs⟩
theorem ends_ok {h : AHeap} {B : Nat} {b : Bk} {rs : List (Iv × Value)} {dv : Value} (A : BkAt h B b rs dv) (hl : b.es.length < 1000000) : Valid Try.prog 11 [.pointer (some ⟨B, 0, none⟩)] h fun r h' => EndL h' r b.es ∧ BkAt h' B { b with es := [] } rs (.slice none 0 0) ∧ h'.length = h.length ∧ (∀ X, X ≠ B → h'[X]? = h[X]?) ∧ ∀ X, slB r = some X → slB dv = some X := by
  refine v11 (by simp) ?_
  have hB := A.obj
  have eL1 := tailL A.n (.int .i64 (b.nx : Int)) dv
  have e1 := tail1 A.n (.int .i64 (b.nx : Int)) dv
  have eS := tailS1 A.n (.int .i64 (b.nx : Int)) dv (.slice none 0 0)
  have le514 : 514 ≤ 514 := by decide
  simp only [X11, sx, x_box, x_alloc, x_bslice, x_slice, x_append, x_appz, x_b2s, x_s2b, x_mark, xop, ev, evs, evParts, fillL, cellsL, Ai.get, Ai.put, stab, isNil?, if_false, if_true, addr?, int?, str?, agg?, bool?, shiftA, FnPost, xresL, xres1, tup, argEnv, ptr, Nat.reduceEqDiff, reduceIte, beq_self_eq_true, ne_eq, Nat.reduceAdd, Nat.reduceMul, Nat.reduceSub, abin_shl, abin_shr, load1V, loadV, storeV, cellsAt, getN, setN, allocV, lenL, lenS, bnd, oneC, Value.oneCell', Nat.reduceLeDiff, Nat.reduceLT, exists_eq_left', forall_const, reduceCtorEq, app_new, app_new0, List.append_assoc, Int.reduceToNat, Int.reduceLT, Int.reduceLE, Int.reduceEq, Int.reduceNe, Int.reduceBEq, IntKind.bits, bne_self_eq_false, Int.reducePow, hB, e1]
  refine xcall (clipE_ok A.eq hl) (by rfl) (by rfl) (by rfl) (by rfl) ?_
  rintro r h' ⟨rfl, q, rfl, ⟨cells, hf, M⟩, hq⟩
  simp only [sx, x_box, x_alloc, x_bslice, x_slice, x_append, x_appz, x_b2s, x_s2b, x_mark, xop, ev, evs, evParts, fillL, cellsL, Ai.get, Ai.put, stab, isNil?, if_false, if_true, addr?, int?, str?, agg?, bool?, shiftA, FnPost, xresL, xres1, tup, argEnv, ptr, Nat.reduceEqDiff, reduceIte, beq_self_eq_true, ne_eq, Nat.reduceAdd, Nat.reduceMul, Nat.reduceSub, abin_shl, abin_shr, load1V, loadV, storeV, cellsAt, getN, setN, allocV, lenL, lenS, bnd, oneC, Value.oneCell', Nat.reduceLeDiff, Nat.reduceLT, exists_eq_left', forall_const, reduceCtorEq, app_new, app_new0, List.append_assoc, Int.reduceToNat, Int.reduceLT, Int.reduceLE, Int.reduceEq, Int.reduceNe, Int.reduceBEq, IntKind.bits, bne_self_eq_false, Int.reducePow, hB, eL1, eS, le514]
  have hdo : slB dv ≠ some B := fun e => A.s B e rfl
  have z : Frz h' (h'.set B (some ⟨true, rowsB rs ++ [.int .i64 (b.nx : Int), .slice none 0 0]⟩)) := fun X cs hX => by
    rw [set_ne (fun e => by subst e; rw [hB] at hX; cases hX)]; exact hX
  refine ⟨⟨q, cells, rfl, ?_, M.frz z⟩, ⟨List.getElem?_set_self (lt_of_get hB), A.fst, A.n, A.nx, fun x hx => (A.pv x hx).frz z, EQ.nil _, fun X hX => by cases hX⟩, fun X hX => set_ne (fun e => hX e.symm) _, fun X hX => ?_⟩
  · cases q with
    | none => exact hf
    | some a => simpa only [firstV, cellsAt, set_ne (show B ≠ a.block from fun e => hdo (by rw [e]; exact hq a rfl))] using hf
  · cases q with
    | none => cases hX
    | some a => cases hX; exact hq a rfl
/-- any bytes make a string -/
theorem bytesFold' : ∀ (l : List Nat) (b : ByteArray), ∃ s : ByteArray, (bN l).foldlM (fun (s : ByteArray) v => match v with | .int .u8 n => some (s.push (UInt8.ofNat n.toNat)) | _ => none) b = some s
  | [], b => ⟨b, rfl⟩
  | z :: l, b => by
    obtain ⟨s, h1⟩ := bytesFold' l (b.push (UInt8.ofNat z))
    exact ⟨s, by simpa [bN, List.foldlM_cons] using h1⟩
theorem bytes_any (l : List Nat) : ∃ s : ByteArray, bytesOf (bN l) = some s := by
  cases l with
  | nil => exact ⟨ByteArray.empty, rfl⟩
  | cons z l => exact bytesFold' (z :: l) ByteArray.empty
theorem same_ok {h : AHeap} {e : En} {v1 v2 : Value} (h1 : BytesV h v1 e.val) (h2 : BytesV h v2 e.val) : Valid Try.prog 12 [.agg (e.cells v1).toArray, .agg (e.cells v2).toArray] h fun r h' => r = .bool true ∧ Kp h h' := by
  refine v12 (by simp) ?_
  obtain ⟨q1, c1, rfl⟩ := h1.shape
  obtain ⟨q2, c2, rfl⟩ := h2.shape
  obtain ⟨str, hstr⟩ := bytes_any e.val
  simp only [X12, En.cells, sx, x_alloc, x_bslice, x_slice, x_append, x_appz, x_s2b, x_mark, xop, ev, evs, evParts, fillL, cellsL, Ai.get, Ai.put, stab, isNil?, if_false, if_true, addr?, int?, str?, agg?, bool?, shiftA, FnPost, xresL, xres1, tup, argEnv, ptr, Nat.reduceEqDiff, reduceIte, beq_self_eq_true, ne_eq, Nat.reduceAdd, Nat.reduceMul, Nat.reduceSub, abin_shl, abin_shr, load1V, loadV, storeV, cellsAt, getN, setN, allocV, lenL, lenS, bnd, oneC, Value.oneCell', Nat.reduceLeDiff, Nat.reduceLT, exists_eq_left', forall_const, reduceCtorEq, app_new, app_new0, List.append_assoc, Int.reduceToNat, Int.reduceLT, Int.reduceLE, Int.reduceEq, Int.reduceNe, Int.reduceBEq, IntKind.bits, bne_self_eq_false, Int.reducePow]
  refine box_run rfl fun g1 R1 K1 hR1 hRl1 hg1 => ⟨trivial, ?_⟩
  simp only [sx, x_alloc, x_bslice, x_slice, x_append, x_appz, x_s2b, x_mark, xop, ev, evs, evParts, fillL, cellsL, Ai.get, Ai.put, stab, isNil?, if_false, if_true, addr?, int?, str?, agg?, bool?, shiftA, FnPost, xresL, xres1, tup, argEnv, ptr, Nat.reduceEqDiff, reduceIte, beq_self_eq_true, ne_eq, Nat.reduceAdd, Nat.reduceMul, Nat.reduceSub, abin_shl, abin_shr, load1V, loadV, storeV, cellsAt, getN, setN, allocV, lenL, lenS, bnd, oneC, Value.oneCell', Nat.reduceLeDiff, Nat.reduceLT, exists_eq_left', forall_const, reduceCtorEq, app_new, app_new0, List.append_assoc, Int.reduceToNat, Int.reduceLT, Int.reduceLE, Int.reduceEq, Int.reduceNe, Int.reduceBEq, IntKind.bits, bne_self_eq_false, Int.reducePow]
  refine box_run rfl fun g2 R2 K2 hR2 hRl2 hg2 => ⟨trivial, ?_⟩
  simp only [cellsL] at hR1 hR2
  have hR1' := K2.get hR1
  have V1 := (h1.frz (K1.trans K2).frz).first
  have V2 := (h2.frz (K1.trans K2).frz).first
  simp only [sx, x_box, x_alloc, x_bslice, x_slice, x_append, x_appz, x_s2b, x_mark, xop, ev, evs, evParts, fillL, cellsL, Ai.get, Ai.put, stab, isNil?, if_false, if_true, addr?, int?, str?, agg?, bool?, shiftA, FnPost, xresL, xres1, tup, argEnv, ptr, Nat.reduceEqDiff, reduceIte, beq_self_eq_true, ne_eq, Nat.reduceAdd, Nat.reduceMul, Nat.reduceSub, abin_shl, abin_shr, load1V, loadV, storeV, cellsAt, getN, setN, allocV, lenL, lenS, bnd, oneC, Value.oneCell', Nat.reduceLeDiff, Nat.reduceLT, exists_eq_left', forall_const, reduceCtorEq, app_new, app_new0, List.append_assoc, Int.reduceToNat, Int.reduceLT, Int.reduceLE, Int.reduceEq, Int.reduceNe, Int.reduceBEq, IntKind.bits, bne_self_eq_false, Int.reducePow, hR1', hR2]
  rw [x_b2s, b2s_first (by rfl) V1 hstr]
  simp only [sx, x_box, x_alloc, x_bslice, x_slice, x_append, x_appz, x_s2b, x_mark, xop, ev, evs, evParts, fillL, cellsL, Ai.get, Ai.put, stab, isNil?, if_false, if_true, addr?, int?, str?, agg?, bool?, shiftA, FnPost, xresL, xres1, tup, argEnv, ptr, Nat.reduceEqDiff, reduceIte, beq_self_eq_true, ne_eq, Nat.reduceAdd, Nat.reduceMul, Nat.reduceSub, abin_shl, abin_shr, load1V, loadV, storeV, cellsAt, getN, setN, allocV, lenL, lenS, bnd, oneC, Value.oneCell', Nat.reduceLeDiff, Nat.reduceLT, exists_eq_left', forall_const, reduceCtorEq, app_new, app_new0, List.append_assoc, Int.reduceToNat, Int.reduceLT, Int.reduceLE, Int.reduceEq, Int.reduceNe, Int.reduceBEq, IntKind.bits, bne_self_eq_false, Int.reducePow, hR1', hR2]
  rw [x_b2s, b2s_first (by rfl) V2 hstr]
  simp only [sx, x_box, x_alloc, x_bslice, x_slice, x_append, x_appz, x_s2b, x_mark, xop, ev, evs, evParts, fillL, cellsL, Ai.get, Ai.put, stab, isNil?, if_false, if_true, addr?, int?, str?, agg?, bool?, shiftA, FnPost, xresL, xres1, tup, argEnv, ptr, Nat.reduceEqDiff, reduceIte, beq_self_eq_true, ne_eq, Nat.reduceAdd, Nat.reduceMul, Nat.reduceSub, abin_shl, abin_shr, load1V, loadV, storeV, cellsAt, getN, setN, allocV, lenL, lenS, bnd, oneC, Value.oneCell', Nat.reduceLeDiff, Nat.reduceLT, exists_eq_left', forall_const, reduceCtorEq, app_new, app_new0, List.append_assoc, Int.reduceToNat, Int.reduceLT, Int.reduceLE, Int.reduceEq, Int.reduceNe, Int.reduceBEq, IntKind.bits, bne_self_eq_false, Int.reducePow, hR1', hR2]
  exact K1.trans K2

/-- an act -/
structure Ac where
  a0 : Nat
  a1 : Nat
  a2 : Nat
  a3 : Nat
  val : List Nat
def Ac.cells (a : Ac) (v : Value) : List Value := [.int .u8 (a.a0 : Int), .int .u8 (a.a1 : Int), .int .u8 (a.a2 : Int), .int .u8 (a.a3 : Int), v]
structure Ac.Ok (a : Ac) : Prop where
  h0 : a.a0 < 256
  h1 : a.a1 < 256
  h2 : a.a2 < 256
  h3 : a.a3 < 256
  hv : ∀ n ∈ a.val, n < 256
/-- the answer that it tells -/
def Ac.msg (a : Ac) : Cm := if a.a2 / 4 % 4 = 3 then ⟨5, ((a.a1 % 8 : Nat) : Int) - 1, 0, 0, ((a.a3 % 7 + 1 : Nat) : Int), []⟩ else ⟨((a.a2 / 4 % 4 + 2 : Nat) : Int), ((a.a1 % 8 : Nat) : Int), 0, ((a.a3 % 2 : Nat) : Int), 0, a.val⟩
theorem Ac.msg_rej {a : Ac} (h : a.a2 / 4 % 4 = 3) : a.msg = ⟨5, ((a.a1 % 8 : Nat) : Int) - 1, 0, 0, ((a.a3 % 7 + 1 : Nat) : Int), []⟩ := if_pos h
theorem Ac.msg_ans {a : Ac} (h : ¬ a.a2 / 4 % 4 = 3) : a.msg = ⟨((a.a2 / 4 % 4 + 2 : Nat) : Int), ((a.a1 % 8 : Nat) : Int), 0, ((a.a3 % 2 : Nat) : Int), 0, a.val⟩ := if_neg h
theorem u8_wrap {n : Int} (h1 : 0 ≤ n) (h2 : n ≤ 255) : IntKind.u8.wrap n = n := by
  rw [IntKind.wrap_u8]; omega
theorem Ac.msg_ok (a : Ac) : okC a.msg ∧ a.msg.k ≠ 1 := by
  by_cases h : a.a2 / 4 % 4 = 3
  · rw [Ac.msg_rej h]
    exact ⟨.inr (.inr ⟨rfl, ⟨by simp only; omega, by simp only; omega⟩, rfl, rfl, rfl, by simp only; omega, by simp only; omega⟩), by simp only; omega⟩
  · rw [Ac.msg_ans h]
    exact ⟨.inr (.inl ⟨by simp only; omega, ⟨by simp only; omega, by simp only; omega⟩, rfl, ⟨by simp only; omega, by simp only; omega⟩, rfl⟩), by simp only; omega⟩
theorem Ac.msg_val {a : Ac} {P : List Nat → Prop} (h0 : P []) (h : P a.val) : P a.msg.val := by
  unfold Ac.msg; split
  · exact h0
  · exact h
theorem ret_frz {h g : AHeap} {sl : Value} {bs : List Nat} (K : Kp h g) (r : Ret 1 g sl bs.length (bN bs)) (hn : ∀ X, slB sl = some X → h.length ≤ X) : ∃ A, h.length ≤ A ∧ BytesV (frzAt g A) sl bs := by
  rcases r with ⟨_, ⟨rfl, h0⟩ | ⟨A, rfl, h0⟩ | ⟨A, rfl, hA⟩⟩
  · have := List.eq_nil_of_length_eq_zero h0; subst this
    exact ⟨g.length, K.1, BytesV.nil _⟩
  · have := List.eq_nil_of_length_eq_zero h0; subst this
    exact ⟨A, hn A rfl, ⟨some _, 0, rfl, .inl rfl⟩⟩
  · refine ⟨A, hn A rfl, ⟨_, _, rfl, .inr ⟨_, _, rfl, rfl, ?_, getN_all _ _ (bN_len _).symm⟩⟩⟩
    rw [frzAt_own hA]; exact List.getElem?_set_self (lt_of_get hA)
/-- behind the copy of the bytes -/
def AnM (h0 : AHeap) (a : Ac) (v : Value) (ρ : Env) (h : AHeap) : Prop := ∃ (R1 R2 R3 : Nat) (q : Option Addr) (c : Nat), Kp h0 h ∧ get ρ 1 = some (.pointer (some ⟨R1, 0, none⟩)) ∧ get ρ 2 = some (.pointer (some ⟨R2, 0, none⟩)) ∧ get ρ 3 = some (.pointer (some ⟨R3, 0, none⟩)) ∧
  h[R1]? = some (some ⟨true, a.cells v⟩) ∧ h[R2]? = some (some ⟨true, [.int .u8 0, .int .i64 0, .int .i64 0, .int .i64 0, .int .u8 0, .slice none 0 0]⟩) ∧ h[R3]? = some (some ⟨true, [.int .u8 ((a.a2 / 4 % 4 + 2 : Nat) : Int), .int .i64 ((a.a1 % 8 : Nat) : Int), .int .i64 0, .int .i64 ((a.a3 % 2 : Nat) : Int), .int .u8 0, .slice q a.val.length c]⟩) ∧
  h0.length ≤ R2 ∧ Ret 1 h (.slice q a.val.length c) a.val.length (bN a.val) ∧ (∀ X, slB (.slice q a.val.length c) = some X → h0.length ≤ X ∧ X ≠ R2)
theorem an_fin {h g : AHeap} {a : Ac} {v : Value} {ρ : Env} {R1 R2 R3 : Nat} {q : Option Addr} {c : Nat} {z : Option AObj} (K : Kp h g) (r1 : get ρ 1 = some (.pointer (some ⟨R1, 0, none⟩))) (r2 : get ρ 2 = some (.pointer (some ⟨R2, 0, none⟩))) (r3 : get ρ 3 = some (.pointer (some ⟨R3, 0, none⟩)))
    (h1 : g[R1]? = some (some ⟨true, a.cells v⟩)) (h2 : g[R2]? = some (some ⟨true, [.int .u8 0, .int .i64 0, .int .i64 0, .int .i64 0, .int .u8 0, .slice none 0 0]⟩)) (h3 : g[R3]? = some z) (l2 : h.length ≤ R2) (l3 : h.length ≤ R3) (n1 : R1 ≠ R3) (n2 : R2 ≠ R3)
    (R : Ret 1 g (.slice q a.val.length c) a.val.length (bN a.val)) (hs : ∀ X, slB (.slice q a.val.length c) = some X → h.length ≤ X ∧ X ≠ R2 ∧ X ≠ R3) :
    AnM h a v ρ (g.set R3 (some ⟨true, [.int .u8 ((a.a2 / 4 % 4 + 2 : Nat) : Int), .int .i64 ((a.a1 % 8 : Nat) : Int), .int .i64 0, .int .i64 ((a.a3 % 2 : Nat) : Int), .int .u8 0, .slice q a.val.length c]⟩)) :=
  ⟨R1, R2, R3, q, c, K.set l3 _, r1, r2, r3, (set_ne n1.symm _).trans h1, (set_ne n2.symm _).trans h2, List.getElem?_set_self (lt_of_get h3), l2, R.keep fun X x hX hx => (set_ne (hs X hX).2.2.symm _).trans hx, fun X hX => ⟨(hs X hX).1, (hs X hX).2.1⟩⟩
set_option maxHeartbeats 4000000 in
theorem answer_ok {h : AHeap} {a : Ac} {v : Value} (o : a.Ok) (hv : PartOk h v (bN a.val)) (hl : a.val.length ≤ 1000000) : Valid Try.prog 16 [.agg (a.cells v).toArray] h fun r h' => Kp h h' ∧ CMV h' r a.msg := by
  refine Valid.freezeA ?_
  refine v16 (by simp) ?_
  obtain ⟨q, c, rfl, hf, h1⟩ := hv
  rw [bN_len] at hf
  have o1 := o.h1
  have o2 := o.h2
  have o3 := o.h3
  have e2 : IntKind.u8.wrap ((a.a2 : Int).tdiv 4) = ((a.a2 / 4 : Nat) : Int) := by rw [Int.tdiv_eq_ediv_of_nonneg (by omega), u8_wrap (by omega) (by omega)]; omega
  have e2' : ((a.a2 / 4 : Nat) : Int).tmod 4 = ((a.a2 / 4 % 4 : Nat) : Int) := by rw [Int.tmod_eq_emod_of_nonneg (by omega)]; omega
  have e2'' : IntKind.u8.wrap (2 + ((a.a2 / 4 % 4 : Nat) : Int)) = ((a.a2 / 4 % 4 + 2 : Nat) : Int) := by rw [u8_wrap (by omega) (by omega)]; omega
  have e1 : (a.a1 : Int).tmod 8 = ((a.a1 % 8 : Nat) : Int) := by rw [Int.tmod_eq_emod_of_nonneg (by omega)]; omega
  have e1' : IntKind.i64.wrap ((a.a1 % 8 : Nat) : Int) = ((a.a1 % 8 : Nat) : Int) := by rw [i64_wrap] <;> omega
  have e1'' : IntKind.i64.wrap (((a.a1 % 8 : Nat) : Int) - 1) = ((a.a1 % 8 : Nat) : Int) - 1 := by rw [i64_wrap] <;> omega
  have e3 : (a.a3 : Int).tmod 2 = ((a.a3 % 2 : Nat) : Int) := by rw [Int.tmod_eq_emod_of_nonneg (by omega)]; omega
  have e3' : IntKind.i64.wrap ((a.a3 % 2 : Nat) : Int) = ((a.a3 % 2 : Nat) : Int) := by rw [i64_wrap] <;> omega
  have e7 : (a.a3 : Int).tmod 7 = ((a.a3 % 7 : Nat) : Int) := by rw [Int.tmod_eq_emod_of_nonneg (by omega)]; omega
  have e7' : IntKind.u8.wrap (1 + ((a.a3 % 7 : Nat) : Int)) = ((a.a3 % 7 + 1 : Nat) : Int) := by rw [u8_wrap (by omega) (by omega)]; omega
  simp only [X16, Ac.cells, bN_len, sx, x_slice, x_appz, x_b2s, x_s2b, x_mark, xop, ev, evs, evParts, fillL, cellsL, Ai.get, Ai.put, stab, isNil?, if_false, if_true, addr?, int?, str?, agg?, bool?, shiftA, FnPost, xresL, xres1, tup, argEnv, ptr, Nat.reduceEqDiff, reduceIte, beq_self_eq_true, ne_eq, Nat.reduceAdd, Nat.reduceMul, Nat.reduceSub, abin_shl, abin_shr, load1V, loadV, storeV, cellsAt, getN, setN, allocV, lenL, lenS, bnd, oneC, Value.oneCell', Nat.reduceLeDiff, Nat.reduceLT, exists_eq_left', forall_const, reduceCtorEq, app_new, app_new0, List.append_assoc, Int.reduceToNat, Int.reduceLT, Int.reduceLE, Int.reduceEq, Int.reduceNe, Int.reduceBEq, IntKind.bits, bne_self_eq_false, Int.reducePow]
  refine box_run rfl fun g1 R1 K1 hR1 hRl1 hg1 => ⟨trivial, ?_⟩
  simp only [cellsL] at hR1
  simp only [sx, x_slice, x_appz, x_b2s, x_s2b, x_mark, xop, ev, evs, evParts, fillL, cellsL, Ai.get, Ai.put, stab, isNil?, if_false, if_true, addr?, int?, str?, agg?, bool?, shiftA, FnPost, xresL, xres1, tup, argEnv, ptr, Nat.reduceEqDiff, reduceIte, beq_self_eq_true, ne_eq, Nat.reduceAdd, Nat.reduceMul, Nat.reduceSub, abin_shl, abin_shr, load1V, loadV, storeV, cellsAt, getN, setN, allocV, lenL, lenS, bnd, oneC, Value.oneCell', Nat.reduceLeDiff, Nat.reduceLT, exists_eq_left', forall_const, reduceCtorEq, app_new, app_new0, List.append_assoc, Int.reduceToNat, Int.reduceLT, Int.reduceLE, Int.reduceEq, Int.reduceNe, Int.reduceBEq, IntKind.bits, bne_self_eq_false, Int.reducePow]
  refine alloc_run fun g2 R2 K2 hR2 hRl2 hg2 => ⟨trivial, ?_⟩
  have hR1' := K2.get hR1
  have hRl := lt_of_get hR1
  have K12 := K1.trans K2
  have l2 := K1.1
  have hRl2' : h.length ≤ R2 := by omega
  have l12 := K12.1
  rw [xops_nil, kSeq_normal, xcode_seq]
  have hne12 : R1 ≠ R2 := by omega
  refine xcode_cut (AnM h a (.slice q a.val.length c)) ?_ ?_
  · have hf12 := K12.first hf
    simp only [sx, x_slice, x_appz, x_b2s, x_s2b, x_mark, xop, ev, evs, evParts, fillL, cellsL, Ai.get, Ai.put, stab, isNil?, if_false, if_true, addr?, int?, str?, agg?, bool?, shiftA, FnPost, xresL, xres1, tup, argEnv, ptr, Nat.reduceEqDiff, reduceIte, beq_self_eq_true, ne_eq, Nat.reduceAdd, Nat.reduceMul, Nat.reduceSub, abin_shl, abin_shr, load1V, loadV, storeV, cellsAt, getN, setN, allocV, lenL, lenS, bnd, oneC, Value.oneCell', Nat.reduceLeDiff, Nat.reduceLT, exists_eq_left', forall_const, reduceCtorEq, app_new, app_new0, List.append_assoc, Int.reduceToNat, Int.reduceLT, Int.reduceLE, Int.reduceEq, Int.reduceNe, Int.reduceBEq, IntKind.bits, bne_self_eq_false, Int.reducePow, hR1', e2, e2', e2'', e1, e1', e3, e3']
    refine ⟨bs0_run fun g3 R3 K3 hR3 hRl3 => ⟨?_, ?_⟩, ?_⟩
    · simp only [sx, x_slice, x_appz, x_b2s, x_s2b, x_mark, xop, ev, evs, evParts, fillL, cellsL, Ai.get, Ai.put, stab, isNil?, if_false, if_true, addr?, int?, str?, agg?, bool?, shiftA, FnPost, xresL, xres1, tup, argEnv, ptr, Nat.reduceEqDiff, reduceIte, beq_self_eq_true, ne_eq, Nat.reduceAdd, Nat.reduceMul, Nat.reduceSub, abin_shl, abin_shr, load1V, loadV, storeV, cellsAt, getN, setN, allocV, lenL, lenS, bnd, oneC, Value.oneCell', Nat.reduceLeDiff, Nat.reduceLT, exists_eq_left', forall_const, reduceCtorEq, app_new, app_new0, List.append_assoc, Int.reduceToNat, Int.reduceLT, Int.reduceLE, Int.reduceEq, Int.reduceNe, Int.reduceBEq, IntKind.bits, bne_self_eq_false, Int.reducePow, K3.get hR1']
    · have hR13 := K3.get hR1'
      have hR23 := K3.get hR2
      have hR1n := lt_of_get hR1'
      have hR2n := lt_of_get hR2
      simp only [sx, x_slice, x_appz, x_b2s, x_s2b, x_mark, xop, ev, evs, evParts, fillL, cellsL, Ai.get, Ai.put, stab, isNil?, if_false, if_true, addr?, int?, str?, agg?, bool?, shiftA, FnPost, xresL, xres1, tup, argEnv, ptr, Nat.reduceEqDiff, reduceIte, beq_self_eq_true, ne_eq, Nat.reduceAdd, Nat.reduceMul, Nat.reduceSub, abin_shl, abin_shr, load1V, loadV, storeV, cellsAt, getN, setN, allocV, lenL, lenS, bnd, oneC, Value.oneCell', Nat.reduceLeDiff, Nat.reduceLT, exists_eq_left', forall_const, reduceCtorEq, app_new, app_new0, List.append_assoc, Int.reduceToNat, Int.reduceLT, Int.reduceLE, Int.reduceEq, Int.reduceNe, Int.reduceBEq, IntKind.bits, bne_self_eq_false, Int.reducePow]
      refine ⟨?_, ?_⟩
      · refine mappK_run (k := 1) (by_ := 1) (g0 := g2) (n := 0) (m := a.val.length) (rows := []) (news := bN a.val) (sl := .slice (some ⟨R3, 0, none⟩) 0 0) (xv := .slice q a.val.length c) rfl (by decide) K3 (fun X hX => by cases hX; exact hRl3) rfl rfl rfl (K3.first hf12) (by rw [bN_len]; omega) h1 ⟨rfl, .inr (.inl ⟨R3, rfl, rfl⟩)⟩ (fun X hX => by cases hX; exact ⟨_, hR3⟩) (by omega) (by omega) fun g4 sl' K4 n4 Rt O4 k4 nn4 => ⟨?_, ?_⟩
        · simp only [sx, x_slice, x_appz, x_b2s, x_s2b, x_mark, xop, ev, evs, evParts, fillL, cellsL, Ai.get, Ai.put, stab, isNil?, if_false, if_true, addr?, int?, str?, agg?, bool?, shiftA, FnPost, xresL, xres1, tup, argEnv, ptr, Nat.reduceEqDiff, reduceIte, beq_self_eq_true, ne_eq, Nat.reduceAdd, Nat.reduceMul, Nat.reduceSub, abin_shl, abin_shr, load1V, loadV, storeV, cellsAt, getN, setN, allocV, lenL, lenS, bnd, oneC, Value.oneCell', Nat.reduceLeDiff, Nat.reduceLT, exists_eq_left', forall_const, reduceCtorEq, app_new, app_new0, List.append_assoc, Int.reduceToNat, Int.reduceLT, Int.reduceLE, Int.reduceEq, Int.reduceNe, Int.reduceBEq, IntKind.bits, bne_self_eq_false, Int.reducePow, k4 R1 _ (by simp [slB]; omega) hR13]
        have hR14 := k4 R1 _ (by simp [slB]; omega) hR13
        have hR24 := k4 R2 _ (by simp [slB]; omega) hR23
        rw [Nat.zero_add, List.nil_append] at Rt
        obtain ⟨q', c', rfl, -⟩ := Rt.shape
        simp only [sx, x_slice, x_appz, x_b2s, x_s2b, x_mark, xop, ev, evs, evParts, fillL, cellsL, Ai.get, Ai.put, stab, isNil?, if_false, if_true, addr?, int?, str?, agg?, bool?, shiftA, FnPost, xresL, xres1, tup, argEnv, ptr, Nat.reduceEqDiff, reduceIte, beq_self_eq_true, ne_eq, Nat.reduceAdd, Nat.reduceMul, Nat.reduceSub, abin_shl, abin_shr, load1V, loadV, storeV, cellsAt, getN, setN, allocV, lenL, lenS, bnd, oneC, Value.oneCell', Nat.reduceLeDiff, Nat.reduceLT, exists_eq_left', forall_const, reduceCtorEq, app_new, app_new0, List.append_assoc, Int.reduceToNat, Int.reduceLT, Int.reduceLE, Int.reduceEq, Int.reduceNe, Int.reduceBEq, IntKind.bits, bne_self_eq_false, Int.reducePow]
        refine alloc_run fun g5 R5 K5 hR5 hRl5 hg5 => ⟨?_, ?_⟩
        · simp only [sx, x_slice, x_appz, x_b2s, x_s2b, x_mark, xop, ev, evs, evParts, fillL, cellsL, Ai.get, Ai.put, stab, isNil?, if_false, if_true, addr?, int?, str?, agg?, bool?, shiftA, FnPost, xresL, xres1, tup, argEnv, ptr, Nat.reduceEqDiff, reduceIte, beq_self_eq_true, ne_eq, Nat.reduceAdd, Nat.reduceMul, Nat.reduceSub, abin_shl, abin_shr, load1V, loadV, storeV, cellsAt, getN, setN, allocV, lenL, lenS, bnd, oneC, Value.oneCell', Nat.reduceLeDiff, Nat.reduceLT, exists_eq_left', forall_const, reduceCtorEq, app_new, app_new0, List.append_assoc, Int.reduceToNat, Int.reduceLT, Int.reduceLE, Int.reduceEq, Int.reduceNe, Int.reduceBEq, IntKind.bits, bne_self_eq_false, Int.reducePow, K5.get hR14]
        have hle := K4.1
        have hR4n := lt_of_get hR14
        have hR24n := lt_of_get hR24
        simp only [sx, x_slice, x_appz, x_b2s, x_s2b, x_mark, xop, ev, evs, evParts, fillL, cellsL, Ai.get, Ai.put, stab, isNil?, if_false, if_true, addr?, int?, str?, agg?, bool?, shiftA, FnPost, xresL, xres1, tup, argEnv, ptr, Nat.reduceEqDiff, reduceIte, beq_self_eq_true, ne_eq, Nat.reduceAdd, Nat.reduceMul, Nat.reduceSub, abin_shl, abin_shr, load1V, loadV, storeV, cellsAt, getN, setN, allocV, lenL, lenS, bnd, oneC, Value.oneCell', Nat.reduceLeDiff, Nat.reduceLT, exists_eq_left', forall_const, reduceCtorEq, app_new, app_new0, List.append_assoc, Int.reduceToNat, Int.reduceLT, Int.reduceLE, Int.reduceEq, Int.reduceNe, Int.reduceBEq, IntKind.bits, bne_self_eq_false, Int.reducePow, hR5]
        have K25 := K4.trans K5
        exact an_fin (K12.trans K25) rfl rfl rfl (K5.get hR14) (K5.get hR24) hR5 hRl2' (by omega) (by omega) (by omega) (Rt.keep fun X x hX hx => K5.get hx) fun X hX => by
          have h6 := n4 X hX
          have h7 := O4.lt hX
          exact ⟨by omega, by omega, by omega⟩
      · -- the new object first, then the bytes
        refine alloc_run fun g5 R5 K5 hR5 hRl5 hg5 => ⟨?_, ?_⟩
        · simp only [sx, x_slice, x_appz, x_b2s, x_s2b, x_mark, xop, ev, evs, evParts, fillL, cellsL, Ai.get, Ai.put, stab, isNil?, if_false, if_true, addr?, int?, str?, agg?, bool?, shiftA, FnPost, xresL, xres1, tup, argEnv, ptr, Nat.reduceEqDiff, reduceIte, beq_self_eq_true, ne_eq, Nat.reduceAdd, Nat.reduceMul, Nat.reduceSub, abin_shl, abin_shr, load1V, loadV, storeV, cellsAt, getN, setN, allocV, lenL, lenS, bnd, oneC, Value.oneCell', Nat.reduceLeDiff, Nat.reduceLT, exists_eq_left', forall_const, reduceCtorEq, app_new, app_new0, List.append_assoc, Int.reduceToNat, Int.reduceLT, Int.reduceLE, Int.reduceEq, Int.reduceNe, Int.reduceBEq, IntKind.bits, bne_self_eq_false, Int.reducePow, K5.get hR13]
        have hR15 := K5.get hR13
        have hR25 := K5.get hR23
        have hR35 := K5.get hR3
        have K35 := K3.trans K5
        have hR3n := lt_of_get hR3
        simp only [sx, x_slice, x_appz, x_b2s, x_s2b, x_mark, xop, ev, evs, evParts, fillL, cellsL, Ai.get, Ai.put, stab, isNil?, if_false, if_true, addr?, int?, str?, agg?, bool?, shiftA, FnPost, xresL, xres1, tup, argEnv, ptr, Nat.reduceEqDiff, reduceIte, beq_self_eq_true, ne_eq, Nat.reduceAdd, Nat.reduceMul, Nat.reduceSub, abin_shl, abin_shr, load1V, loadV, storeV, cellsAt, getN, setN, allocV, lenL, lenS, bnd, oneC, Value.oneCell', Nat.reduceLeDiff, Nat.reduceLT, exists_eq_left', forall_const, reduceCtorEq, app_new, app_new0, List.append_assoc, Int.reduceToNat, Int.reduceLT, Int.reduceLE, Int.reduceEq, Int.reduceNe, Int.reduceBEq, IntKind.bits, bne_self_eq_false, Int.reducePow]
        refine mappK_run (k := 1) (by_ := 1) (g0 := g2) (n := 0) (m := a.val.length) (rows := []) (news := bN a.val) (sl := .slice (some ⟨R3, 0, none⟩) 0 0) (xv := .slice q a.val.length c) rfl (by decide) K35 (fun X hX => by cases hX; exact hRl3) rfl rfl rfl (K35.first hf12) (by rw [bN_len]; omega) h1 ⟨rfl, .inr (.inl ⟨R3, rfl, rfl⟩)⟩ (fun X hX => by cases hX; exact ⟨_, hR35⟩) (by omega) (by omega) fun g6 sl' K6 n4 Rt O4 k4 nn4 => ⟨?_, ?_⟩
        · simp only [sx, x_slice, x_appz, x_b2s, x_s2b, x_mark, xop, ev, evs, evParts, fillL, cellsL, Ai.get, Ai.put, stab, isNil?, if_false, if_true, addr?, int?, str?, agg?, bool?, shiftA, FnPost, xresL, xres1, tup, argEnv, ptr, Nat.reduceEqDiff, reduceIte, beq_self_eq_true, ne_eq, Nat.reduceAdd, Nat.reduceMul, Nat.reduceSub, abin_shl, abin_shr, load1V, loadV, storeV, cellsAt, getN, setN, allocV, lenL, lenS, bnd, oneC, Value.oneCell', Nat.reduceLeDiff, Nat.reduceLT, exists_eq_left', forall_const, reduceCtorEq, app_new, app_new0, List.append_assoc, Int.reduceToNat, Int.reduceLT, Int.reduceLE, Int.reduceEq, Int.reduceNe, Int.reduceBEq, IntKind.bits, bne_self_eq_false, Int.reducePow, k4 R1 _ (by simp [slB]; omega) hR15]
        have hR16 := k4 R1 _ (by simp [slB]; omega) hR15
        have hR26 := k4 R2 _ (by simp [slB]; omega) hR25
        have hR56 := k4 R5 _ (by simp [slB]; omega) hR5
        rw [Nat.zero_add, List.nil_append] at Rt
        obtain ⟨q', c', rfl, -⟩ := Rt.shape
        simp only [sx, x_slice, x_appz, x_b2s, x_s2b, x_mark, xop, ev, evs, evParts, fillL, cellsL, Ai.get, Ai.put, stab, isNil?, if_false, if_true, addr?, int?, str?, agg?, bool?, shiftA, FnPost, xresL, xres1, tup, argEnv, ptr, Nat.reduceEqDiff, reduceIte, beq_self_eq_true, ne_eq, Nat.reduceAdd, Nat.reduceMul, Nat.reduceSub, abin_shl, abin_shr, load1V, loadV, storeV, cellsAt, getN, setN, allocV, lenL, lenS, bnd, oneC, Value.oneCell', Nat.reduceLeDiff, Nat.reduceLT, exists_eq_left', forall_const, reduceCtorEq, app_new, app_new0, List.append_assoc, Int.reduceToNat, Int.reduceLT, Int.reduceLE, Int.reduceEq, Int.reduceNe, Int.reduceBEq, IntKind.bits, bne_self_eq_false, Int.reducePow, hR56]
        have x1 : h.length ≤ R3 := by omega
        have x2 : R3 ≠ R2 := by omega
        have x3 : R3 ≠ R5 := by omega
        exact an_fin (K12.trans K6) rfl rfl rfl hR16 hR26 hR56 hRl2' (by omega) (by omega) (by omega) Rt fun X hX => by
          have h6 := n4 X hX
          rcases nn4 X hX with h7 | h7
          · cases h7; exact ⟨x1, x2, x3⟩
          · have := lt_of_get hR5; exact ⟨by omega, by omega, by omega⟩
    · refine alloc_run fun g3 R3 K3 hR3 hRl3 hg3 => ⟨?_, ?_⟩
      · simp only [sx, x_slice, x_appz, x_b2s, x_s2b, x_mark, xop, ev, evs, evParts, fillL, cellsL, Ai.get, Ai.put, stab, isNil?, if_false, if_true, addr?, int?, str?, agg?, bool?, shiftA, FnPost, xresL, xres1, tup, argEnv, ptr, Nat.reduceEqDiff, reduceIte, beq_self_eq_true, ne_eq, Nat.reduceAdd, Nat.reduceMul, Nat.reduceSub, abin_shl, abin_shr, load1V, loadV, storeV, cellsAt, getN, setN, allocV, lenL, lenS, bnd, oneC, Value.oneCell', Nat.reduceLeDiff, Nat.reduceLT, exists_eq_left', forall_const, reduceCtorEq, app_new, app_new0, List.append_assoc, Int.reduceToNat, Int.reduceLT, Int.reduceLE, Int.reduceEq, Int.reduceNe, Int.reduceBEq, IntKind.bits, bne_self_eq_false, Int.reducePow, K3.get hR1']
      have hR13 := K3.get hR1'
      have hR23 := K3.get hR2
      have hR1n := lt_of_get hR1'
      have hR2n := lt_of_get hR2
      simp only [sx, x_slice, x_appz, x_b2s, x_s2b, x_mark, xop, ev, evs, evParts, fillL, cellsL, Ai.get, Ai.put, stab, isNil?, if_false, if_true, addr?, int?, str?, agg?, bool?, shiftA, FnPost, xresL, xres1, tup, argEnv, ptr, Nat.reduceEqDiff, reduceIte, beq_self_eq_true, ne_eq, Nat.reduceAdd, Nat.reduceMul, Nat.reduceSub, abin_shl, abin_shr, load1V, loadV, storeV, cellsAt, getN, setN, allocV, lenL, lenS, bnd, oneC, Value.oneCell', Nat.reduceLeDiff, Nat.reduceLT, exists_eq_left', forall_const, reduceCtorEq, app_new, app_new0, List.append_assoc, Int.reduceToNat, Int.reduceLT, Int.reduceLE, Int.reduceEq, Int.reduceNe, Int.reduceBEq, IntKind.bits, bne_self_eq_false, Int.reducePow]
      refine bs0_run fun g5 R5 K5 hR5 hRl5 => ⟨?_, ?_⟩
      · simp only [sx, x_slice, x_appz, x_b2s, x_s2b, x_mark, xop, ev, evs, evParts, fillL, cellsL, Ai.get, Ai.put, stab, isNil?, if_false, if_true, addr?, int?, str?, agg?, bool?, shiftA, FnPost, xresL, xres1, tup, argEnv, ptr, Nat.reduceEqDiff, reduceIte, beq_self_eq_true, ne_eq, Nat.reduceAdd, Nat.reduceMul, Nat.reduceSub, abin_shl, abin_shr, load1V, loadV, storeV, cellsAt, getN, setN, allocV, lenL, lenS, bnd, oneC, Value.oneCell', Nat.reduceLeDiff, Nat.reduceLT, exists_eq_left', forall_const, reduceCtorEq, app_new, app_new0, List.append_assoc, Int.reduceToNat, Int.reduceLT, Int.reduceLE, Int.reduceEq, Int.reduceNe, Int.reduceBEq, IntKind.bits, bne_self_eq_false, Int.reducePow, K5.get hR13]
      have hR15 := K5.get hR13
      have hR25 := K5.get hR23
      have hR35 := K5.get hR3
      have K35 := K3.trans K5
      have hR3n := lt_of_get hR3
      simp only [sx, x_slice, x_appz, x_b2s, x_s2b, x_mark, xop, ev, evs, evParts, fillL, cellsL, Ai.get, Ai.put, stab, isNil?, if_false, if_true, addr?, int?, str?, agg?, bool?, shiftA, FnPost, xresL, xres1, tup, argEnv, ptr, Nat.reduceEqDiff, reduceIte, beq_self_eq_true, ne_eq, Nat.reduceAdd, Nat.reduceMul, Nat.reduceSub, abin_shl, abin_shr, load1V, loadV, storeV, cellsAt, getN, setN, allocV, lenL, lenS, bnd, oneC, Value.oneCell', Nat.reduceLeDiff, Nat.reduceLT, exists_eq_left', forall_const, reduceCtorEq, app_new, app_new0, List.append_assoc, Int.reduceToNat, Int.reduceLT, Int.reduceLE, Int.reduceEq, Int.reduceNe, Int.reduceBEq, IntKind.bits, bne_self_eq_false, Int.reducePow]
      refine mappK_run (k := 1) (by_ := 1) (g0 := g2) (n := 0) (m := a.val.length) (rows := []) (news := bN a.val) (sl := .slice (some ⟨R5, 0, none⟩) 0 0) (xv := .slice q a.val.length c) rfl (by decide) K35 (fun X hX => by cases hX; exact Nat.le_trans K3.1 hRl5) rfl rfl rfl (K35.first hf12) (by rw [bN_len]; omega) h1 ⟨rfl, .inr (.inl ⟨R5, rfl, rfl⟩)⟩ (fun X hX => by cases hX; exact ⟨_, hR5⟩) (by omega) (by omega) fun g6 sl' K6 n4 Rt O4 k4 nn4 => ⟨?_, ?_⟩
      · simp only [sx, x_slice, x_appz, x_b2s, x_s2b, x_mark, xop, ev, evs, evParts, fillL, cellsL, Ai.get, Ai.put, stab, isNil?, if_false, if_true, addr?, int?, str?, agg?, bool?, shiftA, FnPost, xresL, xres1, tup, argEnv, ptr, Nat.reduceEqDiff, reduceIte, beq_self_eq_true, ne_eq, Nat.reduceAdd, Nat.reduceMul, Nat.reduceSub, abin_shl, abin_shr, load1V, loadV, storeV, cellsAt, getN, setN, allocV, lenL, lenS, bnd, oneC, Value.oneCell', Nat.reduceLeDiff, Nat.reduceLT, exists_eq_left', forall_const, reduceCtorEq, app_new, app_new0, List.append_assoc, Int.reduceToNat, Int.reduceLT, Int.reduceLE, Int.reduceEq, Int.reduceNe, Int.reduceBEq, IntKind.bits, bne_self_eq_false, Int.reducePow, k4 R1 _ (by simp [slB]; omega) hR15]
      have hR16 := k4 R1 _ (by simp [slB]; omega) hR15
      have hR26 := k4 R2 _ (by simp [slB]; omega) hR25
      have hR36 := k4 R3 _ (by simp [slB]; omega) hR35
      rw [Nat.zero_add, List.nil_append] at Rt
      obtain ⟨q', c', rfl, -⟩ := Rt.shape
      simp only [sx, x_slice, x_appz, x_b2s, x_s2b, x_mark, xop, ev, evs, evParts, fillL, cellsL, Ai.get, Ai.put, stab, isNil?, if_false, if_true, addr?, int?, str?, agg?, bool?, shiftA, FnPost, xresL, xres1, tup, argEnv, ptr, Nat.reduceEqDiff, reduceIte, beq_self_eq_true, ne_eq, Nat.reduceAdd, Nat.reduceMul, Nat.reduceSub, abin_shl, abin_shr, load1V, loadV, storeV, cellsAt, getN, setN, allocV, lenL, lenS, bnd, oneC, Value.oneCell', Nat.reduceLeDiff, Nat.reduceLT, exists_eq_left', forall_const, reduceCtorEq, app_new, app_new0, List.append_assoc, Int.reduceToNat, Int.reduceLT, Int.reduceLE, Int.reduceEq, Int.reduceNe, Int.reduceBEq, IntKind.bits, bne_self_eq_false, Int.reducePow, hR36]
      have x0 := K3.1
      have x1 : h.length ≤ R5 := by omega
      have x2 : R5 ≠ R2 := by omega
      have x3 : R5 ≠ R3 := by omega
      exact an_fin (K12.trans K6) rfl rfl rfl hR16 hR26 hR36 hRl2' (by omega) (by omega) (by omega) Rt fun X hX => by
        have h6 := n4 X hX
        rcases nn4 X hX with h7 | h7
        · cases h7; exact ⟨x1, x2, x3⟩
        · have := lt_of_get hR5; exact ⟨by omega, by omega, by omega⟩
  · clear l12 l2 hRl hRl2' hR1' hR2 hR1 hRl2 hRl1 hg1 hg2 hne12 K1 K2 K12 hf h1
    rintro ρ g ⟨R1, R2, R3, q', c', K, r1, r2, r3, hR1, hR2, hR3, hl2, Rt, hs⟩
    simp only [Ac.cells] at hR1
    have hR2s : ∀ y : Option AObj, (g.set R2 y)[R2]? = some y := fun y => List.getElem?_set_self (lt_of_get hR2)
    rw [kSeq_normal]
    by_cases hk : a.a2 / 4 % 4 = 3
    · have hk5 : ((a.a2 / 4 % 4 + 2 : Nat) : Int) = 5 := by omega
      rw [Ac.msg_rej hk]
      simp only [sx, x_slice, x_appz, x_b2s, x_s2b, x_mark, xop, ev, evs, evParts, fillL, cellsL, Ai.get, Ai.put, stab, isNil?, if_false, if_true, addr?, int?, str?, agg?, bool?, shiftA, FnPost, xresL, xres1, tup, argEnv, ptr, Nat.reduceEqDiff, reduceIte, beq_self_eq_true, ne_eq, Nat.reduceAdd, Nat.reduceMul, Nat.reduceSub, abin_shl, abin_shr, load1V, loadV, storeV, cellsAt, getN, setN, allocV, lenL, lenS, bnd, oneC, Value.oneCell', Nat.reduceLeDiff, Nat.reduceLT, exists_eq_left', forall_const, reduceCtorEq, app_new, app_new0, List.append_assoc, Int.reduceToNat, Int.reduceLT, Int.reduceLE, Int.reduceEq, Int.reduceNe, Int.reduceBEq, IntKind.bits, bne_self_eq_false, Int.reducePow, r1, r2, r3, hR1, hR2, hR2s, hR3, hk5, e1'', e7, e7']
      refine ⟨(g.set R2 (some ⟨true, [.int .u8 5, .int .i64 (((a.a1 % 8 : Nat) : Int) - 1), .int .i64 0, .int .i64 0, .int .u8 ((a.a3 % 7 + 1 : Nat) : Int), .slice none 0 0]⟩)).length, ?_⟩
      rw [frzAt_end]
      exact ⟨K.set hl2 _, _, rfl, BytesV.nil _⟩
    · have hk5 : ¬ ((a.a2 / 4 % 4 + 2 : Nat) : Int) = 5 := by omega
      rw [Ac.msg_ans hk]
      simp only [sx, x_slice, x_appz, x_b2s, x_s2b, x_mark, xop, ev, evs, evParts, fillL, cellsL, Ai.get, Ai.put, stab, isNil?, if_false, if_true, addr?, int?, str?, agg?, bool?, shiftA, FnPost, xresL, xres1, tup, argEnv, ptr, Nat.reduceEqDiff, reduceIte, beq_self_eq_true, ne_eq, Nat.reduceAdd, Nat.reduceMul, Nat.reduceSub, abin_shl, abin_shr, load1V, loadV, storeV, cellsAt, getN, setN, allocV, lenL, lenS, bnd, oneC, Value.oneCell', Nat.reduceLeDiff, Nat.reduceLT, exists_eq_left', forall_const, reduceCtorEq, app_new, app_new0, List.append_assoc, Int.reduceToNat, Int.reduceLT, Int.reduceLE, Int.reduceEq, Int.reduceNe, Int.reduceBEq, IntKind.bits, bne_self_eq_false, Int.reducePow, r1, r2, r3, hR1, hR2, hR2s, hR3, hk5]
      have Rt2 := Rt.keep (h' := g.set R2 (some ⟨true, [.int .u8 ((a.a2 / 4 % 4 + 2 : Nat) : Int), .int .i64 ((a.a1 % 8 : Nat) : Int), .int .i64 0, .int .i64 ((a.a3 % 2 : Nat) : Int), .int .u8 0, .slice q' a.val.length c']⟩)) fun X x hX hx => (set_ne (hs X hX).2.symm _).trans hx
      obtain ⟨A, hA, V⟩ := ret_frz (K.set hl2 _) Rt2 fun X hX => (hs X hX).1
      exact ⟨A, frzAt_kp (K.set hl2 _) hA, _, rfl, V⟩
end Go.Proofs.Ytpbbmnfffolcoaa
