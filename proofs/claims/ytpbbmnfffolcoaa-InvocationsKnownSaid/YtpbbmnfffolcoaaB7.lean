import Derived.Test.YtpbbmnfffolcoaaB6
set_option linter.unusedVariables false
set_option linter.unusedSimpArgs false
namespace Go.Proofs.Ytpbbmnfffolcoaa
open Go Go.Ai Go.Proofs

def Bk.row (b : Bk) (m : Cm) : Iv := b.is[m.id.toNat]?.getD iv0
def Bk.heard (b : Bk) (m : Cm) : Bk × Option Int :=
  if m.k = 5 then (if b.isO m.id = true then b.over m.id.toNat 3 m.pr [] else b, none)
  else if b.isO m.id = false then (b, some 6)
  else if fitsB (b.row m) m = false then (b.over m.id.toNat 3 7 [], some 7)
  else if m.k = 3 then (⟨b.is.set m.id.toNat { b.row m with pb := (b.row m).pb ++ m.val }, b.nx, b.es⟩, none)
  else if m.k = 4 then (b.over m.id.toNat 2 m.cd m.val, none)
  else (b.over m.id.toNat 1 0 ((b.row m).pb ++ m.val), none)
def zC : Value := .agg #[.int .u8 0, .int .i64 0, .int .i64 0, .int .i64 0, .int .u8 0, .slice none 0 0]
def HearP (h : AHeap) (B : Nat) (b : Bk) (dv : Value) (m : Cm) (r : Value) (h' : AHeap) : Prop :=
  (2000 < m.val.length ∧ r = .tuple #[zC, .bool false, .int .i64 3] ∧ Kp h h') ∨
  (m.val.length ≤ 2000 ∧ (¬ okC m ∨ m.k = 1) ∧ r = .tuple #[zC, .bool false, .int .i64 1] ∧ Kp h h') ∨
  (m.val.length ≤ 2000 ∧ okC m ∧ m.k ≠ 1 ∧ WentB h h' B (b.heard m).1 dv ∧ r = match (b.heard m).2 with
    | none => .tuple #[zC, .bool false, .int .i64 0]
    | some p => .tuple #[.agg #[.int .u8 5, .int .i64 m.id, .int .i64 0, .int .i64 0, .int .u8 p, .slice none 0 0], .bool true, .int .i64 0])
theorem WentB.fin {h g h' : AHeap} {B : Nat} {b' : Bk} {dv : Value} (K : Kp h g) (W : WentB g h' B b' dv) (hd : ∀ X, ftB B dv X → X < h.length) {R : Nat} (hR : h.length ≤ R) (hRg : R < g.length) {cells : List Value} (ho : h'[R]? = some (some ⟨true, cells⟩)) (o : Option AObj) : WentB h (h'.set R o) B b' dv := by
  obtain ⟨rs', dv', A, F, n⟩ := W
  have hRn : ¬ ftB B dv' R := fun e => by
    rcases n R e with h1 | h1
    · have := hd R h1; omega
    · omega
  have z : Frz h' (h'.set R o) := fun X cs hX => by
    rw [set_ne (fun e => by subst e; rw [ho] at hX; cases hX)]; exact hX
  refine ⟨rs', dv', ⟨by rw [set_ne (fun e => hRn (.inl e))]; exact A.obj, A.fst, A.n, A.nx, fun x hx => (A.pv x hx).frz z, A.eq.keep z fun X hX => set_ne (fun e => hRn (.inr (by rw [e]; exact hX))) _, A.s⟩, ?_, fun X hX => ?_⟩
  · exact ((K.fr (ftB B dv)).trans F fun X hX => .inl hX).aside hR o
  · rcases n X hX with h1 | h1
    · exact .inl h1
    · have := K.1; exact .inr (by omega)
theorem cat2f {h : AHeap} {C : Nat} {v1 v2 : Value} {b1 b2 : List Nat} (hC : h[C]? = some (some ⟨true, [v1, v2]⟩)) (h1 : BytesV h v1 b1) (h2 : BytesV h v2 b2) (l1 : b1.length ≤ 1000000) (l2 : b2.length ≤ 1000000) : Valid Try.prog 30 [.slice (some ⟨C, 0, none⟩) 2 2] h fun r h' => Kp h h' ∧ BytesV h' r (b1 ++ b2) := by
  refine Valid.freezeA ((cat2_ok hC h1 h2 l1 l2).mono ?_)
  rintro r h' ⟨R, K, hA⟩
  rcases R with ⟨e, rfl | ⟨A, cs, rfl, hAA⟩⟩ | ⟨A, rfl, hAA⟩
  · have : b1 ++ b2 = [] := List.eq_nil_of_length_eq_zero (by rw [← bN_len, e]; rfl)
    rw [this]
    exact ⟨h'.length, by rw [frzAt_end]; exact ⟨K, BytesV.nil _⟩⟩
  · have : b1 ++ b2 = [] := List.eq_nil_of_length_eq_zero (by rw [← bN_len, e]; rfl)
    rw [this]
    exact ⟨h'.length, by rw [frzAt_end]; exact ⟨K, _, _, rfl, .inl rfl⟩⟩
  · rw [bN_len]
    exact ⟨A, frzAt_kp K (hA A rfl), _, _, rfl, .inr ⟨_, _, rfl, rfl, by rw [frzAt_own hAA]; exact List.getElem?_set_self (lt_of_get hAA), getN_all _ _ (bN_len _).symm⟩⟩
set_option maxHeartbeats 16000000 in
set_option maxRecDepth 20000 in
theorem hear_ok {h : AHeap} {B : Nat} {b : Bk} {rs : List (Iv × Value)} {dv v : Value} {m : Cm} (A : BkAt h B b rs dv) (hm : CMV h v m) (hpb : ∀ x ∈ b.is, x.pb.length ≤ 65536) (hel : b.es.length ≤ 1000000) :
    Valid Try.prog 17 [.pointer (some ⟨B, 0, none⟩), v] h fun r h' => HearP h B b dv m r h' := by
  refine v17 (by simp) ?_
  obtain ⟨vv, rfl, V⟩ := hm
  obtain ⟨q, c, rfl⟩ := V.shape
  have hft : ∀ X, ftB B dv X → X < h.length := fun X hX => by
    rcases hX with rfl | hX
    · exact lt_of_get A.obj
    · exact A.eq.lt hX
  simp only [X17, Cm.cells, sx, x_bslice, x_slice, x_append, x_appz, x_b2s, x_s2b, x_mark, xop, ev, evs, evParts, fillL, cellsL, Ai.get, Ai.put, stab, isNil?, if_false, if_true, addr?, int?, str?, agg?, bool?, shiftA, FnPost, xresL, xres1, tup, argEnv, ptr, Nat.reduceEqDiff, reduceIte, beq_self_eq_true, ne_eq, Nat.reduceAdd, Nat.reduceMul, Nat.reduceSub, abin_shl, abin_shr, load1V, loadV, storeV, cellsAt, getN, setN, allocV, lenL, lenS, bnd, oneC, Value.oneCell', Nat.reduceLeDiff, Nat.reduceLT, exists_eq_left', forall_const, reduceCtorEq, app_new, app_new0, List.append_assoc, Int.reduceToNat, Int.reduceLT, Int.reduceLE, Int.reduceEq, Int.reduceNe, Int.reduceBEq, IntKind.bits, bne_self_eq_false, Int.reducePow]
  refine box_run rfl fun g1 R3 K1 hR3 hRl3 hg1 => ⟨trivial, ?_⟩
  simp only [cellsL] at hR3
  simp only [sx, x_box, x_bslice, x_slice, x_append, x_appz, x_b2s, x_s2b, x_mark, xop, ev, evs, evParts, fillL, cellsL, Ai.get, Ai.put, stab, isNil?, if_false, if_true, addr?, int?, str?, agg?, bool?, shiftA, FnPost, xresL, xres1, tup, argEnv, ptr, Nat.reduceEqDiff, reduceIte, beq_self_eq_true, ne_eq, Nat.reduceAdd, Nat.reduceMul, Nat.reduceSub, abin_shl, abin_shr, load1V, loadV, storeV, cellsAt, getN, setN, allocV, lenL, lenS, bnd, oneC, Value.oneCell', Nat.reduceLeDiff, Nat.reduceLT, exists_eq_left', forall_const, reduceCtorEq, app_new, app_new0, List.append_assoc, Int.reduceToNat, Int.reduceLT, Int.reduceLE, Int.reduceEq, Int.reduceNe, Int.reduceBEq, IntKind.bits, bne_self_eq_false, Int.reducePow]
  refine alloc_run fun g2 R4 K2 hR4 hRl4 hg2 => ?_
  have hR3' := K2.get hR3
  have KK := K1.trans K2
  have A2 := A.kp KK
  have V2 := V.frz KK.frz
  have h34 : R3 ≠ R4 := by have := lt_of_get hR3; omega
  have hR4h : h.length ≤ R4 := Nat.le_trans K1.1 hRl4
  have hl6 : ∀ a b c d e f : Value, getN [a, b, c, d, e, f] 0 6 = some [a, b, c, d, e, f] := fun a b c d e f => rfl
  simp only [sx, x_box, x_alloc, x_bslice, x_slice, x_append, x_appz, x_b2s, x_s2b, x_mark, xop, ev, evs, evParts, fillL, cellsL, Ai.get, Ai.put, stab, isNil?, if_false, if_true, addr?, int?, str?, agg?, bool?, shiftA, FnPost, xresL, xres1, tup, argEnv, ptr, Nat.reduceEqDiff, reduceIte, beq_self_eq_true, ne_eq, Nat.reduceAdd, Nat.reduceMul, Nat.reduceSub, abin_shl, abin_shr, load1V, loadV, storeV, cellsAt, setN, allocV, lenL, lenS, bnd, oneC, Value.oneCell', Nat.reduceLeDiff, Nat.reduceLT, exists_eq_left', forall_const, reduceCtorEq, app_new, app_new0, List.append_assoc, Int.reduceToNat, Int.reduceLT, Int.reduceLE, Int.reduceEq, Int.reduceNe, Int.reduceBEq, IntKind.bits, bne_self_eq_false, Int.reducePow, hR3', hl6]
  refine xcall (check_ok (m := m) ⟨_, rfl, V2⟩) (by rfl) (by rfl) (by rfl) (by rfl) ?_
  rintro r g3 ⟨K3, e, rfl, he⟩
  have hR43 := K3.get hR4
  have hR33 := K3.get hR3'
  have A3 := A2.kp K3
  have V3 := V2.frz K3.frz
  have K03 := KK.trans K3
  have hR4s : ∀ x : Option AObj, (g3.set R4 x)[R4]? = some x := fun x => List.getElem?_set_self (lt_of_get hR43)
  have hR4l : R4 < g3.length := lt_of_get hR43
  have e00 : ¬ (0 : Int) ≠ 0 := by decide
  rcases he with ⟨h1, rfl⟩ | ⟨h1, hok, rfl⟩ | ⟨h1, hno, rfl⟩
  · have e30 : (3 : Int) ≠ 0 := by decide
    simp only [sx, x_box, x_alloc, x_bslice, x_slice, x_append, x_appz, x_b2s, x_s2b, x_mark, xop, ev, evs, evParts, fillL, cellsL, Ai.get, Ai.put, stab, isNil?, if_false, if_true, addr?, int?, str?, agg?, bool?, shiftA, FnPost, xresL, xres1, tup, argEnv, ptr, Nat.reduceEqDiff, reduceIte, beq_self_eq_true, ne_eq, Nat.reduceAdd, Nat.reduceMul, Nat.reduceSub, abin_shl, abin_shr, load1V, loadV, storeV, cellsAt, getN, setN, allocV, lenL, lenS, bnd, oneC, Value.oneCell', Nat.reduceLeDiff, Nat.reduceLT, exists_eq_left', forall_const, reduceCtorEq, app_new, app_new0, List.append_assoc, Int.reduceToNat, Int.reduceLT, Int.reduceLE, Int.reduceEq, Int.reduceNe, Int.reduceBEq, IntKind.bits, bne_self_eq_false, Int.reducePow, e30, hR43, hR4s]
    exact .inl ⟨h1, rfl, K03.set hR4h _⟩
  rotate_left
  · have e10 : (1 : Int) ≠ 0 := by decide
    simp only [sx, x_box, x_alloc, x_bslice, x_slice, x_append, x_appz, x_b2s, x_s2b, x_mark, xop, ev, evs, evParts, fillL, cellsL, Ai.get, Ai.put, stab, isNil?, if_false, if_true, addr?, int?, str?, agg?, bool?, shiftA, FnPost, xresL, xres1, tup, argEnv, ptr, Nat.reduceEqDiff, reduceIte, beq_self_eq_true, ne_eq, Nat.reduceAdd, Nat.reduceMul, Nat.reduceSub, abin_shl, abin_shr, load1V, loadV, storeV, cellsAt, getN, setN, allocV, lenL, lenS, bnd, oneC, Value.oneCell', Nat.reduceLeDiff, Nat.reduceLT, exists_eq_left', forall_const, reduceCtorEq, app_new, app_new0, List.append_assoc, Int.reduceToNat, Int.reduceLT, Int.reduceLE, Int.reduceEq, Int.reduceNe, Int.reduceBEq, IntKind.bits, bne_self_eq_false, Int.reducePow, e10, hR43, hR4s]
    exact .inr (.inl ⟨h1, .inl hno, rfl, K03.set hR4h _⟩)
  by_cases k1 : m.k = 1
  · simp only [sx, x_box, x_alloc, x_bslice, x_slice, x_append, x_appz, x_b2s, x_s2b, x_mark, xop, ev, evs, evParts, fillL, cellsL, Ai.get, Ai.put, stab, isNil?, if_false, if_true, addr?, int?, str?, agg?, bool?, shiftA, FnPost, xresL, xres1, tup, argEnv, ptr, Nat.reduceEqDiff, reduceIte, beq_self_eq_true, ne_eq, Nat.reduceAdd, Nat.reduceMul, Nat.reduceSub, abin_shl, abin_shr, load1V, loadV, storeV, cellsAt, getN, setN, allocV, lenL, lenS, bnd, oneC, Value.oneCell', Nat.reduceLeDiff, Nat.reduceLT, exists_eq_left', forall_const, reduceCtorEq, app_new, app_new0, List.append_assoc, Int.reduceToNat, Int.reduceLT, Int.reduceLE, Int.reduceEq, Int.reduceNe, Int.reduceBEq, IntKind.bits, bne_self_eq_false, Int.reducePow, e00, hR33, k1, hR43, hR4s]
    exact .inr (.inl ⟨h1, .inr k1, rfl, K03.set hR4h _⟩)
  simp only [sx, x_box, x_alloc, x_bslice, x_slice, x_append, x_appz, x_b2s, x_s2b, x_mark, xop, ev, evs, evParts, fillL, cellsL, Ai.get, Ai.put, stab, isNil?, if_false, if_true, addr?, int?, str?, agg?, bool?, shiftA, FnPost, xresL, xres1, tup, argEnv, ptr, Nat.reduceEqDiff, reduceIte, beq_self_eq_true, ne_eq, Nat.reduceAdd, Nat.reduceMul, Nat.reduceSub, abin_shl, abin_shr, load1V, loadV, storeV, cellsAt, getN, setN, allocV, lenL, lenS, bnd, oneC, Value.oneCell', Nat.reduceLeDiff, Nat.reduceLT, exists_eq_left', forall_const, reduceCtorEq, app_new, app_new0, List.append_assoc, Int.reduceToNat, Int.reduceLT, Int.reduceLE, Int.reduceEq, Int.reduceNe, Int.reduceBEq, IntKind.bits, bne_self_eq_false, Int.reducePow, e00, hR33, k1]
  refine xcall (is_ok (id := m.id) A3) (by rfl) (by rfl) (by rfl) (by rfl) ?_
  rintro r g4 ⟨rfl, e0⟩
  subst e0
  have hB3 := A3.obj
  -- a way that ends: the book, the answer
  have mkz : ∀ (g' : AHeap) (b' : Bk), WentB g4 g' B b' dv → g'[R4]? = some (some ⟨true, [.int .u8 0, .int .i64 0, .int .i64 0, .int .i64 0, .int .u8 0, .slice none 0 0]⟩) → (b.heard m) = (b', none) → ∀ o, HearP h B b dv m (.tuple #[zC, .bool false, .int .i64 0]) (g'.set R4 o) := fun g' b' W hR e o => .inr (.inr ⟨h1, hok, k1, by rw [e]; exact W.fin K03 hft hR4h hR4l hR o, by rw [e]⟩)
  have mkp : ∀ (g' : AHeap) (b' : Bk) (p : Int), WentB g4 g' B b' dv → g'[R4]? = some (some ⟨true, [.int .u8 0, .int .i64 0, .int .i64 0, .int .i64 0, .int .u8 0, .slice none 0 0]⟩) → (b.heard m) = (b', some p) → ∀ o, HearP h B b dv m (.tuple #[.agg #[.int .u8 5, .int .i64 m.id, .int .i64 0, .int .i64 0, .int .u8 p, .slice none 0 0], .bool true, .int .i64 0]) (g'.set R4 o) := fun g' b' p W hR e o => .inr (.inr ⟨h1, hok, k1, by rw [e]; exact W.fin K03 hft hR4h hR4l hR o, by rw [e]⟩)
  have keep4 : ∀ {g' : AHeap} {b' : Bk}, WentB g4 g' B b' dv → g'[R4]? = some (some ⟨true, [.int .u8 0, .int .i64 0, .int .i64 0, .int .i64 0, .int .u8 0, .slice none 0 0]⟩) := fun {g' b'} W => by
    obtain ⟨_, _, _, F, _⟩ := W
    exact F.get hR43 fun hf => by have := hft _ hf; omega
  have hk4 : Kp g4 g4 := Kp.refl _
  have W0 : WentB g4 g4 B b dv := A3.same hk4
  have hpr : m.k = 5 → IntKind.i64.wrap m.pr = m.pr := fun h5 => by
    rw [i64_wrap] <;> (unfold okC at hok; omega)
  have hid0 : ∀ {x : Bool}, b.isO m.id = true → ∃ i : Nat, m.id = (i : Int) ∧ i < 128 := fun {x} ho => by
    unfold Bk.isO at ho
    rw [Bool.and_eq_true, decide_eq_true_iff] at ho
    exact ⟨m.id.toNat, by omega, by omega⟩
  have ov : ∀ {how code : Int} {vv : Value} {bs : List Nat} {g : AHeap}, BkAt g B b rs dv → b.isO m.id = true → CatP g B vv bs → bs.length ≤ 10000000 → Valid Try.prog 27 [.pointer (some ⟨B, 0, none⟩), .int .i64 m.id, .int .u8 how, .int .i64 code, vv] g fun r h' => WentB g h' B (b.over m.id.toNat how code bs) dv := fun {how code vv bs g} A ho hc hl => by
    obtain ⟨i, hi, hi'⟩ := hid0 (x := true) ho
    rw [hi, Int.toNat_natCast]
    exact over_ok A hi' hc hl hel
  by_cases k5 : m.k = 5
  · cases ho : b.isO m.id
    · simp only [sx, x_box, x_alloc, x_bslice, x_slice, x_append, x_appz, x_b2s, x_s2b, x_mark, xop, ev, evs, evParts, fillL, cellsL, Ai.get, Ai.put, stab, isNil?, if_false, if_true, addr?, int?, str?, agg?, bool?, shiftA, FnPost, xresL, xres1, tup, argEnv, ptr, Nat.reduceEqDiff, reduceIte, beq_self_eq_true, ne_eq, Nat.reduceAdd, Nat.reduceMul, Nat.reduceSub, abin_shl, abin_shr, load1V, loadV, storeV, cellsAt, getN, setN, allocV, lenL, lenS, bnd, oneC, Value.oneCell', Nat.reduceLeDiff, Nat.reduceLT, exists_eq_left', forall_const, reduceCtorEq, app_new, app_new0, List.append_assoc, Int.reduceToNat, Int.reduceLT, Int.reduceLE, Int.reduceEq, Int.reduceNe, Int.reduceBEq, IntKind.bits, bne_self_eq_false, Int.reducePow, hR33, k5, hR43, hR4s]
      exact mkz g4 b W0 hR43 (by unfold Bk.heard; rw [if_pos k5, ho]; rfl) _
    · simp only [sx, x_box, x_alloc, x_bslice, x_slice, x_append, x_appz, x_b2s, x_s2b, x_mark, xop, ev, evs, evParts, fillL, cellsL, Ai.get, Ai.put, stab, isNil?, if_false, if_true, addr?, int?, str?, agg?, bool?, shiftA, FnPost, xresL, xres1, tup, argEnv, ptr, Nat.reduceEqDiff, reduceIte, beq_self_eq_true, ne_eq, Nat.reduceAdd, Nat.reduceMul, Nat.reduceSub, abin_shl, abin_shr, load1V, loadV, storeV, cellsAt, getN, setN, allocV, lenL, lenS, bnd, oneC, Value.oneCell', Nat.reduceLeDiff, Nat.reduceLT, exists_eq_left', forall_const, reduceCtorEq, app_new, app_new0, List.append_assoc, Int.reduceToNat, Int.reduceLT, Int.reduceLE, Int.reduceEq, Int.reduceNe, Int.reduceBEq, IntKind.bits, bne_self_eq_false, Int.reducePow, hR33, k5, hpr k5]
      refine xcall (ov A3 ho cat_nil (by decide)) (by rfl) (by rfl) (by rfl) (by rfl) ?_
      intro r g5 W
      have h5 := keep4 W
      have hs5 : ∀ x : Option AObj, (g5.set R4 x)[R4]? = some x := fun x => List.getElem?_set_self (lt_of_get h5)
      simp only [sx, x_box, x_alloc, x_bslice, x_slice, x_append, x_appz, x_b2s, x_s2b, x_mark, xop, ev, evs, evParts, fillL, cellsL, Ai.get, Ai.put, stab, isNil?, if_false, if_true, addr?, int?, str?, agg?, bool?, shiftA, FnPost, xresL, xres1, tup, argEnv, ptr, Nat.reduceEqDiff, reduceIte, beq_self_eq_true, ne_eq, Nat.reduceAdd, Nat.reduceMul, Nat.reduceSub, abin_shl, abin_shr, load1V, loadV, storeV, cellsAt, getN, setN, allocV, lenL, lenS, bnd, oneC, Value.oneCell', Nat.reduceLeDiff, Nat.reduceLT, exists_eq_left', forall_const, reduceCtorEq, app_new, app_new0, List.append_assoc, Int.reduceToNat, Int.reduceLT, Int.reduceLE, Int.reduceEq, Int.reduceNe, Int.reduceBEq, IntKind.bits, bne_self_eq_false, Int.reducePow, h5, hs5]
      exact mkz g5 _ W h5 (by unfold Bk.heard; rw [if_pos k5, ho]; rfl) _
  cases ho : b.isO m.id
  · simp only [sx, x_box, x_alloc, x_bslice, x_slice, x_append, x_appz, x_b2s, x_s2b, x_mark, xop, ev, evs, evParts, fillL, cellsL, Ai.get, Ai.put, stab, isNil?, if_false, if_true, addr?, int?, str?, agg?, bool?, shiftA, FnPost, xresL, xres1, tup, argEnv, ptr, Nat.reduceEqDiff, reduceIte, beq_self_eq_true, ne_eq, Nat.reduceAdd, Nat.reduceMul, Nat.reduceSub, abin_shl, abin_shr, load1V, loadV, storeV, cellsAt, getN, setN, allocV, lenL, lenS, bnd, oneC, Value.oneCell', Nat.reduceLeDiff, Nat.reduceLT, exists_eq_left', forall_const, reduceCtorEq, app_new, app_new0, List.append_assoc, Int.reduceToNat, Int.reduceLT, Int.reduceLE, Int.reduceEq, Int.reduceNe, Int.reduceBEq, IntKind.bits, bne_self_eq_false, Int.reducePow, hR33, k5]
    refine xcall (reject_ok (id := m.id) (p := 6)) (by rfl) (by rfl) (by rfl) (by rfl) ?_
    rintro r g5 ⟨rfl, K5⟩
    have W := A3.same K5
    have h5 := keep4 W
    have hs5 : ∀ x : Option AObj, (g5.set R4 x)[R4]? = some x := fun x => List.getElem?_set_self (lt_of_get h5)
    simp only [sx, x_box, x_alloc, x_bslice, x_slice, x_append, x_appz, x_b2s, x_s2b, x_mark, xop, ev, evs, evParts, fillL, cellsL, Ai.get, Ai.put, stab, isNil?, if_false, if_true, addr?, int?, str?, agg?, bool?, shiftA, FnPost, xresL, xres1, tup, argEnv, ptr, Nat.reduceEqDiff, reduceIte, beq_self_eq_true, ne_eq, Nat.reduceAdd, Nat.reduceMul, Nat.reduceSub, abin_shl, abin_shr, load1V, loadV, storeV, cellsAt, getN, setN, allocV, lenL, lenS, bnd, oneC, Value.oneCell', Nat.reduceLeDiff, Nat.reduceLT, exists_eq_left', forall_const, reduceCtorEq, app_new, app_new0, List.append_assoc, Int.reduceToNat, Int.reduceLT, Int.reduceLE, Int.reduceEq, Int.reduceNe, Int.reduceBEq, IntKind.bits, bne_self_eq_false, Int.reducePow, h5, hs5]
    exact mkp g5 _ _ W h5 (by unfold Bk.heard; rw [if_neg k5, if_pos ho]) _
  obtain ⟨i, hid, hi⟩ := hid0 (x := true) ho
  obtain ⟨⟨x1, xv⟩, hx, hix⟩ := A3.cls hi
  obtain ⟨qx, cx, rfl⟩ : ∃ qx cx, xv = .slice qx x1.pb.length cx := (A3.pv _ (List.mem_of_getElem? hx)).shape
  have hrow : b.row m = x1 := by unfold Bk.row; rw [hid, Int.toNat_natCast, hix]; rfl
  have hi0 : (0 : Int) ≤ (i : Int) := by omega
  have hi1 : (i : Int) < 128 := by omega
  have eL := tailL A3.n (.int .i64 (b.nx : Int)) dv
  have hle4 : i * 4 + 4 ≤ 514 := by omega
  obtain ⟨hg4, hgj⟩ := rowsB_get (t := [.int .i64 (b.nx : Int), dv]) hx
  have hpv : BytesV g4 (.slice qx x1.pb.length cx) x1.pb := A3.pv _ (List.mem_of_getElem? hx)
  have hpl : x1.pb.length ≤ 65536 := hpb x1 (List.mem_of_getElem? hix)
  simp only [sx, x_box, x_alloc, x_bslice, x_slice, x_append, x_appz, x_b2s, x_s2b, x_mark, xop, ev, evs, evParts, fillL, cellsL, Ai.get, Ai.put, stab, isNil?, if_false, if_true, addr?, int?, str?, agg?, bool?, shiftA, FnPost, xresL, xres1, tup, argEnv, ptr, Nat.reduceEqDiff, reduceIte, beq_self_eq_true, ne_eq, Nat.reduceAdd, Nat.reduceMul, Nat.reduceSub, abin_shl, abin_shr, load1V, loadV, storeV, cellsAt, setN, allocV, lenL, lenS, bnd, oneC, Value.oneCell', Nat.reduceLeDiff, Nat.reduceLT, exists_eq_left', forall_const, reduceCtorEq, app_new, app_new0, List.append_assoc, Int.reduceToNat, Int.reduceLT, Int.reduceLE, Int.reduceEq, Int.reduceNe, Int.reduceBEq, IntKind.bits, bne_self_eq_false, Int.reducePow, hR33, k5, hid, hi0, hi1, hB3, hg4, hl6]
  have V' : CMV g4 (.agg #[.int .u8 m.k, .int .i64 (i : Int), .int .i64 m.lk, .int .i64 m.cd, .int .u8 m.pr, .slice q m.val.length c]) m := ⟨_, by simp only [Cm.cells, hid], V3⟩
  have ov' := @ov
  have ho' : b.isO (i : Int) = true := by rw [← hid]; exact ho
  rw [hid, Int.toNat_natCast] at ov'
  rw [hid] at mkp
  have mkI : ∀ {g5 g6 : AHeap} {b' : Bk}, Kp g4 g5 → WentB g5 g6 B b' dv → WentB g4 g6 B b' dv := fun {g5 g6 b'} K5 W => by
    obtain ⟨rs', dv', A', F, n⟩ := W
    refine ⟨rs', dv', A', (K5.fr _).trans F fun X hX => .inl hX, fun X hX => ?_⟩
    have := K5.1
    rcases n X hX with h | h
    · exact .inl h
    · exact .inr (by omega)
  refine xcall (fits_ok hpv V' (by omega) (by omega)) (by rfl) (by rfl) (by rfl) (by rfl) ?_
  rintro r g5 ⟨rfl, K5⟩
  have A5 := A3.kp K5
  have V5 := V3.frz K5.frz
  have hR35 := K5.get hR33
  have hR45 := K5.get hR43
  rw [hid] at hR35
  cases hfi : fitsB x1 m
  · simp only [sx, x_box, x_alloc, x_bslice, x_slice, x_append, x_appz, x_b2s, x_s2b, x_mark, xop, ev, evs, evParts, fillL, cellsL, Ai.get, Ai.put, stab, isNil?, if_false, if_true, addr?, int?, str?, agg?, bool?, shiftA, FnPost, xresL, xres1, tup, argEnv, ptr, Nat.reduceEqDiff, reduceIte, beq_self_eq_true, ne_eq, Nat.reduceAdd, Nat.reduceMul, Nat.reduceSub, abin_shl, abin_shr, load1V, loadV, storeV, cellsAt, getN, setN, allocV, lenL, lenS, bnd, oneC, Value.oneCell', Nat.reduceLeDiff, Nat.reduceLT, exists_eq_left', forall_const, reduceCtorEq, app_new, app_new0, List.append_assoc, Int.reduceToNat, Int.reduceLT, Int.reduceLE, Int.reduceEq, Int.reduceNe, Int.reduceBEq, IntKind.bits, bne_self_eq_false, Int.reducePow, hR35]
    refine xcall (ov' A5 ho' cat_nil (by decide)) (by rfl) (by rfl) (by rfl) (by rfl) ?_
    intro r g6 W
    have h36 : g6[R3]? = some (some ⟨true, [.int .u8 m.k, .int .i64 (i : Int), .int .i64 m.lk, .int .i64 m.cd, .int .u8 m.pr, .slice q m.val.length c]⟩) := by
      obtain ⟨_, _, _, F, _⟩ := W
      exact F.get hR35 fun hf => by have := hft _ hf; omega
    have W4 := mkI K5 W
    simp only [sx, x_box, x_alloc, x_bslice, x_slice, x_append, x_appz, x_b2s, x_s2b, x_mark, xop, ev, evs, evParts, fillL, cellsL, Ai.get, Ai.put, stab, isNil?, if_false, if_true, addr?, int?, str?, agg?, bool?, shiftA, FnPost, xresL, xres1, tup, argEnv, ptr, Nat.reduceEqDiff, reduceIte, beq_self_eq_true, ne_eq, Nat.reduceAdd, Nat.reduceMul, Nat.reduceSub, abin_shl, abin_shr, load1V, loadV, storeV, cellsAt, getN, setN, allocV, lenL, lenS, bnd, oneC, Value.oneCell', Nat.reduceLeDiff, Nat.reduceLT, exists_eq_left', forall_const, reduceCtorEq, app_new, app_new0, List.append_assoc, Int.reduceToNat, Int.reduceLT, Int.reduceLE, Int.reduceEq, Int.reduceNe, Int.reduceBEq, IntKind.bits, bne_self_eq_false, Int.reducePow, h36]
    refine xcall (reject_ok (id := (i : Int)) (p := 7)) (by rfl) (by rfl) (by rfl) (by rfl) ?_
    rintro r g7 ⟨rfl, K7⟩
    have W7 : WentB g4 g7 B (b.over m.id.toNat 3 7 []) dv := by
      obtain ⟨rs', dv', A', F, n⟩ := W4
      rw [hid]
      exact ⟨rs', dv', A'.kp K7, F.trans (K7.fr _) fun X hX => .inl hX, n⟩
    have h5 := keep4 W7
    have hs5 : ∀ x : Option AObj, (g7.set R4 x)[R4]? = some x := fun x => List.getElem?_set_self (lt_of_get h5)
    simp only [sx, x_box, x_alloc, x_bslice, x_slice, x_append, x_appz, x_b2s, x_s2b, x_mark, xop, ev, evs, evParts, fillL, cellsL, Ai.get, Ai.put, stab, isNil?, if_false, if_true, addr?, int?, str?, agg?, bool?, shiftA, FnPost, xresL, xres1, tup, argEnv, ptr, Nat.reduceEqDiff, reduceIte, beq_self_eq_true, ne_eq, Nat.reduceAdd, Nat.reduceMul, Nat.reduceSub, abin_shl, abin_shr, load1V, loadV, storeV, cellsAt, getN, setN, allocV, lenL, lenS, bnd, oneC, Value.oneCell', Nat.reduceLeDiff, Nat.reduceLT, exists_eq_left', forall_const, reduceCtorEq, app_new, app_new0, List.append_assoc, Int.reduceToNat, Int.reduceLT, Int.reduceLE, Int.reduceEq, Int.reduceNe, Int.reduceBEq, IntKind.bits, bne_self_eq_false, Int.reducePow, h5, hs5]
    exact mkp g7 _ _ W7 h5 (by unfold Bk.heard; rw [if_neg k5, if_neg (by rw [ho]; decide), if_pos (by rw [hrow]; exact hfi)]) _
  have hB5 := A5.obj
  have h3c := hgj 3 (by decide)
  have hc3 : (rwC (x1, .slice qx x1.pb.length cx))[3]? = some (Value.slice qx x1.pb.length cx) := rfl
  rw [hc3] at h3c
  have hpv5 := hpv.frz K5.frz
  have kk : m.k = 2 ∨ m.k = 3 ∨ m.k = 4 := by unfold okC at hok; omega
  have n35 : ¬ (b.isO m.id = false) := by rw [ho]; decide
  have nfi : ¬ (fitsB (b.row m) m = false) := by rw [hrow, hfi]; decide
  by_cases k3 : m.k = 3
  · have z : m.k ≠ 2 := by omega
    have hR35' := (Kp.app g5 [some (AObj.mk true [Value.slice qx x1.pb.length cx, .slice q m.val.length c])]).get hR35
    rw [k3] at hR35'
    simp only [sx, x_box, x_alloc, x_bslice, x_slice, x_append, x_appz, x_b2s, x_s2b, x_mark, xop, ev, evs, evParts, fillL, cellsL, Ai.get, Ai.put, stab, isNil?, if_false, if_true, addr?, int?, str?, agg?, bool?, shiftA, FnPost, xresL, xres1, tup, argEnv, ptr, Nat.reduceEqDiff, reduceIte, beq_self_eq_true, ne_eq, Nat.reduceAdd, Nat.reduceMul, Nat.reduceSub, abin_shl, abin_shr, load1V, loadV, storeV, cellsAt, getN, setN, allocV, lenL, lenS, bnd, oneC, Value.oneCell', Nat.reduceLeDiff, Nat.reduceLT, exists_eq_left', forall_const, reduceCtorEq, app_new, app_new0, List.append_assoc, Int.reduceToNat, Int.reduceLT, Int.reduceLE, Int.reduceEq, Int.reduceNe, Int.reduceBEq, IntKind.bits, bne_self_eq_false, Int.reducePow, hR35, k3, hi0, hi1, hB5, h3c, hR35']
    have K6 := Kp.app g5 [some (AObj.mk true [Value.slice qx x1.pb.length cx, .slice q m.val.length c])]
    have hR6 := app_one g5 (some (AObj.mk true [Value.slice qx x1.pb.length cx, .slice q m.val.length c]))
    have h36 := K6.get hR35
    rw [k3] at h36
    generalize g5 ++ [some (AObj.mk true [Value.slice qx x1.pb.length cx, .slice q m.val.length c])] = g6 at *
    refine xcall (cat2f hR6 (hpv5.frz K6.frz) (V5.frz K6.frz) (by omega) (by omega)) (by rfl) (by rfl) (by rfl) (by rfl) ?_
    rintro r g7 ⟨K7, V7⟩
    obtain ⟨qr, cr, hre⟩ := V7.shape
    rw [List.length_append] at hre
    subst hre
    have h37 := K7.get h36
    have A7 := (A5.kp K6).kp K7
    have hB7 := A7.obj
    have K57 := (K5.trans K6).trans K7
    have A8 := A7.put (b' := ⟨b.is.set i { x1 with pb := x1.pb ++ m.val }, b.nx, b.es⟩) (rs' := rs.set i ({ x1 with pb := x1.pb ++ m.val }, Value.slice qr (x1.pb.length + m.val.length) cr)) (by rw [List.map_set, A7.fst]) (by rw [List.length_set, A7.n]) A7.nx rfl fun y hy => by
      rcases List.mem_or_eq_of_mem_set hy with h | rfl
      · exact .inl h
      · exact .inr V7
    have eS := rowsB_set3 (t := [.int .i64 (b.nx : Int), dv]) (.slice qr (x1.pb.length + m.val.length) cr) (x1.pb ++ m.val) hx
    have hle3 : i * 4 + 3 + 1 ≤ 514 := by omega
    have hlt3 : i * 4 + 3 < 514 := by omega
    have W8 : WentB g4 _ B _ dv := WentB.of A8 (((K57.fr _).trans (Fr.set (S := (· = B)) _ rfl) fun X hX => .inl hX))
    have h5 := keep4 W8
    have hs5 := fun x : Option AObj => List.getElem?_set_self (a := x) (lt_of_get h5)
    simp only [sx, x_box, x_alloc, x_bslice, x_slice, x_append, x_appz, x_b2s, x_s2b, x_mark, xop, ev, evs, evParts, fillL, cellsL, Ai.get, Ai.put, stab, isNil?, if_false, if_true, addr?, int?, str?, agg?, bool?, shiftA, FnPost, xresL, xres1, tup, argEnv, ptr, Nat.reduceEqDiff, reduceIte, beq_self_eq_true, ne_eq, Nat.reduceAdd, Nat.reduceMul, Nat.reduceSub, abin_shl, abin_shr, load1V, loadV, storeV, cellsAt, getN, setN, allocV, lenL, lenS, bnd, oneC, Value.oneCell', Nat.reduceLeDiff, Nat.reduceLT, exists_eq_left', forall_const, reduceCtorEq, app_new, app_new0, List.append_assoc, Int.reduceToNat, Int.reduceLT, Int.reduceLE, Int.reduceEq, Int.reduceNe, Int.reduceBEq, IntKind.bits, bne_self_eq_false, Int.reducePow, h37, hi0, hi1, hB7, eL, hle3, hlt3, eS, h5, hs5]
    exact mkz _ _ W8 h5 (by unfold Bk.heard; rw [if_neg k5, if_neg n35, if_neg nfi, if_pos k3, hid, hrow]; rfl) _
  · by_cases k4 : m.k = 4
    · simp only [sx, x_box, x_alloc, x_bslice, x_slice, x_append, x_appz, x_b2s, x_s2b, x_mark, xop, ev, evs, evParts, fillL, cellsL, Ai.get, Ai.put, stab, isNil?, if_false, if_true, addr?, int?, str?, agg?, bool?, shiftA, FnPost, xresL, xres1, tup, argEnv, ptr, Nat.reduceEqDiff, reduceIte, beq_self_eq_true, ne_eq, Nat.reduceAdd, Nat.reduceMul, Nat.reduceSub, abin_shl, abin_shr, load1V, loadV, storeV, cellsAt, getN, setN, allocV, lenL, lenS, bnd, oneC, Value.oneCell', Nat.reduceLeDiff, Nat.reduceLT, exists_eq_left', forall_const, reduceCtorEq, app_new, app_new0, List.append_assoc, Int.reduceToNat, Int.reduceLT, Int.reduceLE, Int.reduceEq, Int.reduceNe, Int.reduceBEq, IntKind.bits, bne_self_eq_false, Int.reducePow, hR35, k4, hi0, hi1, hB5, h3c]
      have K6 := Kp.app g5 [some (AObj.mk true [.slice none 0 0, .slice q m.val.length c])]
      have hR6 := app_one g5 (some (AObj.mk true [.slice none 0 0, .slice q m.val.length c]))
      generalize g5 ++ [some (AObj.mk true [.slice none 0 0, .slice q m.val.length c])] = g6 at *
      have A6 := A5.kp K6
      have cp := cat_two A6.obj hR6 (fun e => by have := lt_of_get hB5; omega) (BytesV.nil g6) (V5.frz K6.frz) (by simp) (by omega)
      rw [List.nil_append] at cp
      refine xcall (ov' A6 ho' cp (by omega)) (by rfl) (by rfl) (by rfl) (by rfl) ?_
      intro r g7 W
      have W7 := mkI (K5.trans K6) W
      have h5 := keep4 W7
      have hs5 := fun x : Option AObj => List.getElem?_set_self (a := x) (lt_of_get h5)
      simp only [sx, x_box, x_alloc, x_bslice, x_slice, x_append, x_appz, x_b2s, x_s2b, x_mark, xop, ev, evs, evParts, fillL, cellsL, Ai.get, Ai.put, stab, isNil?, if_false, if_true, addr?, int?, str?, agg?, bool?, shiftA, FnPost, xresL, xres1, tup, argEnv, ptr, Nat.reduceEqDiff, reduceIte, beq_self_eq_true, ne_eq, Nat.reduceAdd, Nat.reduceMul, Nat.reduceSub, abin_shl, abin_shr, load1V, loadV, storeV, cellsAt, getN, setN, allocV, lenL, lenS, bnd, oneC, Value.oneCell', Nat.reduceLeDiff, Nat.reduceLT, exists_eq_left', forall_const, reduceCtorEq, app_new, app_new0, List.append_assoc, Int.reduceToNat, Int.reduceLT, Int.reduceLE, Int.reduceEq, Int.reduceNe, Int.reduceBEq, IntKind.bits, bne_self_eq_false, Int.reducePow, h5, hs5]
      exact mkz g7 _ W7 h5 (by unfold Bk.heard; rw [if_neg k5, if_neg n35, if_neg nfi, if_neg k3, if_pos k4, hid]; rfl) _
    · have k2 : m.k = 2 := by omega
      have hR3s := fun x : Option AObj => List.getElem?_set_self (a := x) (lt_of_get hR35)
      have hR3B : R3 ≠ B := fun e => by have := hft B (.inl rfl); omega
      have hB5' := fun x : Option AObj => (set_ne hR3B x (h := g5)).trans hB5
      simp only [sx, x_box, x_alloc, x_bslice, x_slice, x_append, x_appz, x_b2s, x_s2b, x_mark, xop, ev, evs, evParts, fillL, cellsL, Ai.get, Ai.put, stab, isNil?, if_false, if_true, addr?, int?, str?, agg?, bool?, shiftA, FnPost, xresL, xres1, tup, argEnv, ptr, Nat.reduceEqDiff, reduceIte, beq_self_eq_true, ne_eq, Nat.reduceAdd, Nat.reduceMul, Nat.reduceSub, abin_shl, abin_shr, load1V, loadV, storeV, cellsAt, getN, setN, allocV, lenL, lenS, bnd, oneC, Value.oneCell', Nat.reduceLeDiff, Nat.reduceLT, exists_eq_left', forall_const, reduceCtorEq, app_new, app_new0, List.append_assoc, Int.reduceToNat, Int.reduceLT, Int.reduceLE, Int.reduceEq, Int.reduceNe, Int.reduceBEq, IntKind.bits, bne_self_eq_false, Int.reducePow, hR35, k2, hi0, hi1, hB5, h3c, hR3s]
      have F5 : Fr (· = R3) g5 (g5.set R3 (some ⟨true, [.int .u8 2, .int .i64 (i : Int), .int .i64 m.lk, .int .i64 0, .int .u8 m.pr, .slice q m.val.length c]⟩)) := Fr.set _ rfl
      have A5' : BkAt (g5.set R3 (some ⟨true, [.int .u8 2, .int .i64 (i : Int), .int .i64 m.lk, .int .i64 0, .int .u8 m.pr, .slice q m.val.length c]⟩)) B b rs dv := by
        have z : Frz g5 (g5.set R3 (some ⟨true, [.int .u8 2, .int .i64 (i : Int), .int .i64 m.lk, .int .i64 0, .int .u8 m.pr, .slice q m.val.length c]⟩)) := fun X cs hX => by
          rw [set_ne (fun e => by subst e; rw [hR35] at hX; cases hX)]; exact hX
        exact ⟨hB5' _, A5.fst, A5.n, A5.nx, fun y hy => (A5.pv y hy).frz z, A5.eq.keep z fun X hX => set_ne (fun e => by have := hft X (.inr hX); omega) _, A5.s⟩
      have V5' : BytesV (g5.set R3 (some ⟨true, [.int .u8 2, .int .i64 (i : Int), .int .i64 m.lk, .int .i64 0, .int .u8 m.pr, .slice q m.val.length c]⟩)) (.slice q m.val.length c) m.val := V5.frz fun X cs hX => by
        rw [set_ne (fun e => by subst e; rw [hR35] at hX; cases hX)]; exact hX
      have hpv5' : BytesV (g5.set R3 (some ⟨true, [.int .u8 2, .int .i64 (i : Int), .int .i64 m.lk, .int .i64 0, .int .u8 m.pr, .slice q m.val.length c]⟩)) (.slice qx x1.pb.length cx) x1.pb := hpv5.frz fun X cs hX => by
        rw [set_ne (fun e => by subst e; rw [hR35] at hX; cases hX)]; exact hX
      have hln : (g5.set R3 (some (AObj.mk true [.int .u8 2, .int .i64 (i : Int), .int .i64 m.lk, .int .i64 0, .int .u8 m.pr, .slice q m.val.length c]))).length = g5.length := by simp
      have hR45' : (g5.set R3 (some (AObj.mk true [.int .u8 2, .int .i64 (i : Int), .int .i64 m.lk, .int .i64 0, .int .u8 m.pr, .slice q m.val.length c])))[R4]? = _ := (set_ne h34 _).trans hR45
      have K05 : Kp h (g5.set R3 (some (AObj.mk true [.int .u8 2, .int .i64 (i : Int), .int .i64 m.lk, .int .i64 0, .int .u8 m.pr, .slice q m.val.length c]))) := (K03.trans K5).set hRl3 _
      rw [← hln]
      generalize g5.set R3 (some (AObj.mk true [.int .u8 2, .int .i64 (i : Int), .int .i64 m.lk, .int .i64 0, .int .u8 m.pr, .slice q m.val.length c])) = g5' at *
      have K6 := Kp.app g5' [some (AObj.mk true [.slice qx x1.pb.length cx, .slice q m.val.length c])]
      have hR6 := app_one g5' (some (AObj.mk true [.slice qx x1.pb.length cx, .slice q m.val.length c]))
      generalize g5' ++ [some (AObj.mk true [.slice qx x1.pb.length cx, .slice q m.val.length c])] = g6 at *
      have A6 := A5'.kp K6
      have hlB := lt_of_get hB5
      have cp := cat_two A6.obj hR6 (fun e => by omega) (hpv5'.frz K6.frz) (V5'.frz K6.frz) (by omega) (by omega)
      refine xcall (ov' A6 ho' cp (by simp; omega)) (by rfl) (by rfl) (by rfl) (by rfl) ?_
      intro r g7 W
      have h5 : g7[R4]? = some (some ⟨true, [.int .u8 0, .int .i64 0, .int .i64 0, .int .i64 0, .int .u8 0, .slice none 0 0]⟩) := by
        obtain ⟨_, _, _, F, _⟩ := W
        exact F.get (K6.get hR45') fun hf => by have := hft _ hf; omega
      have hs5 := fun x : Option AObj => List.getElem?_set_self (a := x) (lt_of_get h5)
      simp only [sx, x_box, x_alloc, x_bslice, x_slice, x_append, x_appz, x_b2s, x_s2b, x_mark, xop, ev, evs, evParts, fillL, cellsL, Ai.get, Ai.put, stab, isNil?, if_false, if_true, addr?, int?, str?, agg?, bool?, shiftA, FnPost, xresL, xres1, tup, argEnv, ptr, Nat.reduceEqDiff, reduceIte, beq_self_eq_true, ne_eq, Nat.reduceAdd, Nat.reduceMul, Nat.reduceSub, abin_shl, abin_shr, load1V, loadV, storeV, cellsAt, getN, setN, allocV, lenL, lenS, bnd, oneC, Value.oneCell', Nat.reduceLeDiff, Nat.reduceLT, exists_eq_left', forall_const, reduceCtorEq, app_new, app_new0, List.append_assoc, Int.reduceToNat, Int.reduceLT, Int.reduceLE, Int.reduceEq, Int.reduceNe, Int.reduceBEq, IntKind.bits, bne_self_eq_false, Int.reducePow, h5, hs5]
      have W7 := W.fin (K05.trans K6) hft hR4h (lt_of_get (K6.get hR45')) h5
      refine .inr (.inr ⟨h1, hok, k1, ?_, ?_⟩)
      · have e : (b.heard m).1 = b.over i 1 0 (x1.pb ++ m.val) := by unfold Bk.heard; rw [if_neg k5, if_neg n35, if_neg nfi, if_neg k3, if_neg k4, hid, hrow]; rfl
        rw [e]; exact W7 _
      · have e : (b.heard m).2 = none := by unfold Bk.heard; rw [if_neg k5, if_neg n35, if_neg nfi, if_neg k3, if_neg k4]
        rw [e]; rfl
end Go.Proofs.Ytpbbmnfffolcoaa
