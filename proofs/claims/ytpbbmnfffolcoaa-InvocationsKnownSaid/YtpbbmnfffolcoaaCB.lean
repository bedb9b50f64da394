import Derived.Test.YtpbbmnfffolcoaaCA
set_option linter.unusedVariables false
set_option linter.unusedSimpArgs false
namespace Go.Proofs.Ytpbbmnfffolcoaa
open Go Go.Ai Go.Proofs

theorem iter_skip {f : Bk → Nat → Bk} (hf : ∀ b i, b.isO (i : Int) = false → f b i = b) {b : Bk} {i : Nat} : ∀ n, (∀ id, i ≤ id → id < i + n → (iterB f b i).isO (id : Int) = false) → iterB f b (i + n) = iterB f b i
  | 0, _ => rfl
  | n + 1, h => by
    have ih := iter_skip hf n fun id h1 h2 => h id h1 (by omega)
    rw [← Nat.add_assoc, iterB_succ, ih]
    exact hf _ _ (h (i + n) (by omega) (by omega))
theorem close1_no (b : Bk) (i : Nat) (h : b.isO (i : Int) = false) : b.close1 i = b := by
  unfold Bk.close1; rw [h, if_neg (by decide)]
theorem pos_mono (b : Bk) {i j : Nat} (h : i ≤ j) : b.pos i ≤ b.pos j := by
  unfold Bk.pos
  rw [show b.is.take i = (b.is.take j).take i by rw [List.take_take, Nat.min_eq_left h]]
  conv => rhs; rw [← List.take_append_drop i (b.is.take j)]
  rw [List.countP_append]; omega
theorem pos_zero (b : Bk) : b.pos 0 = 0 := by unfold Bk.pos; simp
/-- the next open one behind a number -/
theorem ops_next {b : Bk} {i : Nat} {e : Nat × Iv} (hn : b.is.length = 128) (he : b.ops[b.pos i]? = some e) : i ≤ e.1 ∧ e.1 < 128 ∧ ∀ id, i ≤ id → id < e.1 → b.isO (id : Int) = false := by
  obtain ⟨h1, h2, h3⟩ := ops_place he
  have hl := (List.getElem?_eq_some_iff.1 h1).1
  refine ⟨?_, by omega, fun id h4 h5 => ?_⟩
  · rcases Nat.lt_or_ge e.1 i with h | h
    · exfalso
      have h6 := pos_mono b (i := e.1 + 1) (j := i) (by omega)
      have h7 : b.pos (e.1 + 1) = b.pos e.1 + 1 := by
        unfold Bk.pos
        rw [List.take_add_one, h1, List.countP_append]; simp [h2]
      omega
    · exact h
  · cases ho : b.isO (id : Int) with
    | false => rfl
    | true =>
      exfalso
      obtain ⟨x, hx⟩ : ∃ x, b.is[id]? = some x := ⟨_, List.getElem?_eq_getElem (by omega)⟩
      rw [isO_at (by omega) hx] at ho
      have h6 := pos_mono b h4
      have hat := ops_at hx ho
      rcases Nat.lt_or_ge (b.pos i) (b.pos id) with h | h
      · have := pos_lt hx he h; omega
      · have : b.pos i = b.pos id := by omega
        rw [this] at he
        rw [hat] at he
        have := congrArg Prod.fst (Option.some.inj he)
        simp only at this
        omega
theorem ops_end {b : Bk} {i : Nat} (hn : b.is.length = 128) (he : b.cnt ≤ b.pos i) : ∀ id, i ≤ id → id < 128 → b.isO (id : Int) = false := fun id h4 h5 => by
  cases ho : b.isO (id : Int) with
  | false => rfl
  | true =>
    exfalso
    obtain ⟨x, hx⟩ : ∃ x, b.is[id]? = some x := ⟨_, List.getElem?_eq_getElem (by omega)⟩
    rw [isO_at (by omega) hx] at ho
    have h6 := pos_mono b h4
    have := (List.getElem?_eq_some_iff.1 (ops_at hx ho)).1
    rw [ops_len] at this
    omega
theorem pos_set {b : Bk} {i : Nat} {x : Iv} (hx : b.is[i]? = some x) (y : Iv) (nx : Nat) (es : List En) : Bk.pos ⟨b.is.set i y, nx, es⟩ (i + 1) = b.pos i + if opn y = true then 1 else 0 := by
  have hl := (List.getElem?_eq_some_iff.1 hx).1
  unfold Bk.pos
  simp only
  rw [List.take_add_one, List.take_set_of_le (by omega), List.getElem?_set_self hl, List.countP_append]
  simp [List.countP_cons]
/-- a row is put in anew -/
theorem OpR.upd : ∀ {c : List Value} {l : List (Nat × Iv)} {k : Nat} {e : Nat × Iv}, OpR c l → l[k]? = some e → ∀ (w : Int), OpR (c.set (k * 5 + 3) (.int .i64 w)) (l.set k (e.1, { e.2 with wt := w }))
  | _, [], k, e, _, h, w => by simp at h
  | _, d :: l, 0, e, ⟨s, r, h1, h2, h3⟩, h, w => by
    simp at h; subst h
    exact ⟨s, r, by rw [h1]; simp [mrow], h2, h3⟩
  | _, d :: l, k + 1, e, ⟨s, r, h1, h2, h3⟩, h, w => by
    refine ⟨s, r.set (k * 5 + 3) (.int .i64 w), ?_, h2, OpR.upd h3 (by simpa using h) w⟩
    have e5 : (k + 1) * 5 + 3 = (mrow d s).length + (k * 5 + 3) := by simp [mrow]; omega
    rw [h1, e5, List.set_append_right _ _ (by omega)]; simp
theorem OpR.upd4 : ∀ {c : List Value} {l : List (Nat × Iv)} {k : Nat} {e : Nat × Iv}, OpR c l → l[k]? = some e → ∀ (s' : ByteArray), OpR (c.set (k * 5 + 4) (.string s')) (l.set k (e.1, { e.2 with pb := bOf s' }))
  | _, [], k, e, _, h, w => by simp at h
  | _, d :: l, 0, e, ⟨s, r, h1, h2, h3⟩, h, w => by
    simp at h; subst h
    exact ⟨w, r, by rw [h1]; simp [mrow], rfl, h3⟩
  | _, d :: l, k + 1, e, ⟨s, r, h1, h2, h3⟩, h, w => by
    refine ⟨s, r.set (k * 5 + 4) (.string w), ?_, h2, OpR.upd4 h3 (by simpa using h) w⟩
    have e5 : (k + 1) * 5 + 4 = (mrow d s).length + (k * 5 + 4) := by simp [mrow]; omega
    rw [h1, e5, List.set_append_right _ _ (by omega)]; simp
theorem ops_upd {b : Bk} {k : Nat} {e : Nat × Iv} (he : b.ops[k]? = some e) (y : Iv) (hy : opn y = true) (nx : Nat) (es : List En) : Bk.ops ⟨b.is.set e.1 y, nx, es⟩ = b.ops.set k (e.1, y) := by
  obtain ⟨h1, h2, h3⟩ := ops_place he
  obtain ⟨L, R, l1, l2, l3, l4, l5⟩ := ops_split h1
  rw [l5, l2, if_pos h2, if_pos hy, h3, ← l1]
  simp
theorem MAt.putRow {h : AHeap} {M R : Nat} {b b' : Bk} {zv : Value} {cells' : List Value} (A : MAt h M b (.slice (some ⟨R, 0, none⟩) b.cnt (unk + 5)) zv) (o : OpR cells' b'.ops) (hl : b'.ops.length = b.cnt) (e1 : b'.nx = b.nx) (e2 : b'.es = b.es) (e3 : b'.is.length = 128) :
    MAt (h.set R (some ⟨true, cells'⟩)) M b' (.slice (some ⟨R, 0, none⟩) b.cnt (unk + 5)) zv := by
  obtain ⟨cs, hR⟩ := A.l1 R rfl
  have hRM := A.s1 R rfl
  have z : Frz h (h.set R (some ⟨true, cells'⟩)) := fun X cs' hX => by
    rw [set_ne (fun e => by subst e; rw [hR] at hX; cases hX)]; exact hX
  have k2 : ∀ X, slB zv = some X → (h.set R (some ⟨true, cells'⟩))[X]? = h[X]? := fun X hX => set_ne (fun e => by subst e; exact A.s3 _ rfl hX) _
  have hRs : (h.set R (some ⟨true, cells'⟩))[R]? = some (some ⟨true, cells'⟩) := List.getElem?_set_self (lt_of_get hR)
  obtain ⟨c2, r2, o2⟩ := A.en
  exact ⟨by rw [e1, set_ne hRM]; exact A.obj, ⟨cells', ⟨by rw [o.len], .inr (.inr ⟨R, by rw [hl], hRs⟩)⟩, o⟩, ⟨c2, by rw [e2]; exact r2.keep fun X x hX hx => by rw [k2 X hX]; exact hx, by rw [e2]; exact o2.frz z⟩, e3, by rw [e1]; exact A.nx, A.s1, A.s2, A.s3, fun X hX => by cases hX; exact ⟨_, hRs⟩, A.l2.keep k2⟩

theorem WentM.go {h g h' : AHeap} {M : Nat} {b2 : Bk} {ov zv ov0 zv0 : Value} (W : WentM g h' M b2 ov zv) (F : Fr (ftM M ov0 zv0) h g) (n : ∀ X, ftM M ov zv X → ftM M ov0 zv0 X ∨ h.length ≤ X) : WentM h h' M b2 ov0 zv0 := by
  obtain ⟨o2, z2, A2, F2, n2⟩ := W
  refine ⟨o2, z2, A2, F.trans F2 n, fun X hX => ?_⟩
  have := F.1
  rcases n2 X hX with h | h
  · exact n X h
  · exact .inr (by omega)
def MtI (h0 : AHeap) (M : Nat) (b : Bk) (ov zv : Value) (m : Nat) (ρ : Env) (h : AHeap) : Prop := ∃ i, i + m = 128 ∧ get ρ 2 = some (.int .i64 (((iterB Bk.tick1 b i).pos i : Nat) : Int)) ∧ get ρ 0 = some (.pointer (some ⟨M, 0, none⟩)) ∧ WentM h0 h M (iterB Bk.tick1 b i) ov zv ∧ (iterB Bk.tick1 b i).Ok
def MtE (h0 : AHeap) (M : Nat) (b : Bk) (ov zv : Value) (ρ : Env) (h : AHeap) : Prop := WentM h0 h M b.tick ov zv
theorem atIs {b : Bk} {i : Nat} {x : Iv} (hn : b.is.length = 128) (hx : b.is[i]? = some x) (ho : opn x = true) : b.isO (i : Int) = true := by
  rw [isO_at (by have := (List.getElem?_eq_some_iff.1 hx).1; omega) hx]; exact ho
set_option maxHeartbeats 8000000 in
set_option maxRecDepth 20000 in
theorem mtick_ok {h : AHeap} {M : Nat} {b : Bk} {ov zv : Value} (A : MAt h M b ov zv) (ok : b.Ok) (hel : b.es.length ≤ 999000) : Valid Try.prog 25 [.pointer (some ⟨M, 0, none⟩)] h fun r h' => WentM h h' M b.tick ov zv := by
  refine v25 (by simp) ?_
  simp only [X25, sx, x_box, x_alloc, x_bslice, x_slice, x_append, x_appz, x_b2s, x_s2b, x_mark, xop, ev, evs, evParts, fillL, cellsL, Ai.get, Ai.put, stab, isNil?, if_false, if_true, addr?, int?, str?, agg?, bool?, shiftA, FnPost, xresL, xres1, tup, argEnv, ptr, Nat.reduceEqDiff, reduceIte, beq_self_eq_true, ne_eq, Nat.reduceAdd, Nat.reduceMul, Nat.reduceSub, abin_shl, abin_shr, load1V, loadV, storeV, cellsAt, getN, setN, allocV, lenL, lenS, bnd, oneC, Value.oneCell', Nat.reduceLeDiff, Nat.reduceLT, exists_eq_left', forall_const, reduceCtorEq, app_new, app_new0, List.append_assoc, Int.reduceToNat, Int.reduceLT, Int.reduceLE, Int.reduceEq, Int.reduceNe, Int.reduceBEq, IntKind.bits, bne_self_eq_false, Int.reducePow]
  refine xloop_cut (MtE h M b ov zv) ?_ ?_
  rotate_left
  · intro ρ h' e0
    simp only [sx, x_box, x_alloc, x_bslice, x_slice, x_append, x_appz, x_b2s, x_s2b, x_mark, xop, ev, evs, evParts, fillL, cellsL, Ai.get, Ai.put, stab, isNil?, if_false, if_true, addr?, int?, str?, agg?, bool?, shiftA, FnPost, xresL, xres1, tup, argEnv, ptr, Nat.reduceEqDiff, reduceIte, beq_self_eq_true, ne_eq, Nat.reduceAdd, Nat.reduceMul, Nat.reduceSub, abin_shl, abin_shr, load1V, loadV, storeV, cellsAt, getN, setN, allocV, lenL, lenS, bnd, oneC, Value.oneCell', Nat.reduceLeDiff, Nat.reduceLT, exists_eq_left', forall_const, reduceCtorEq, app_new, app_new0, List.append_assoc, Int.reduceToNat, Int.reduceLT, Int.reduceLE, Int.reduceEq, Int.reduceNe, Int.reduceBEq, IntKind.bits, bne_self_eq_false, Int.reducePow]
    first | exact e0 | exact ⟨⟨_, rfl⟩, e0⟩
  refine xcode_loop (MtI h M b ov zv) 128 ⟨0, by omega, (by show _ = some (Value.int .i64 ((b.pos 0 : Nat) : Int)); rw [pos_zero]; rfl), rfl, A.same (Kp.refl _), ok⟩ ?_
  clear A
  rintro m ρ g ⟨i, him, g2, g0, ⟨ov1, zv1, A, F, n⟩, ok⟩
  have he := iter_es tick1_es b i
  have hcl : (iterB Bk.tick1 b i).cnt ≤ 128 := by unfold Bk.cnt; exact Nat.le_trans List.countP_le_length (by have := A.n; omega)
  obtain ⟨q, c, hov⟩ := A.lenV
  have hM := A.obj
  generalize hbb : iterB Bk.tick1 b i = bb at *
  by_cases hj : bb.pos i < bb.cnt
  rotate_left
  · have hj' : ¬ ((bb.pos i : Nat) : Int) < (bb.cnt : Nat) := by omega
    subst hov
    simp only [sx, x_box, x_alloc, x_bslice, x_slice, x_append, x_appz, x_b2s, x_s2b, x_mark, xop, ev, evs, evParts, fillL, cellsL, Ai.get, Ai.put, stab, isNil?, if_false, if_true, addr?, int?, str?, agg?, bool?, shiftA, FnPost, xresL, xres1, tup, argEnv, ptr, Nat.reduceEqDiff, reduceIte, beq_self_eq_true, ne_eq, Nat.reduceAdd, Nat.reduceMul, Nat.reduceSub, abin_shl, abin_shr, load1V, loadV, storeV, cellsAt, getN, setN, allocV, lenL, lenS, bnd, oneC, Value.oneCell', Nat.reduceLeDiff, Nat.reduceLT, exists_eq_left', forall_const, reduceCtorEq, app_new, app_new0, List.append_assoc, Int.reduceToNat, Int.reduceLT, Int.reduceLE, Int.reduceEq, Int.reduceNe, Int.reduceBEq, IntKind.bits, bne_self_eq_false, Int.reducePow, g2, g0, hM, hj']
    have hend := ops_end A.n (i := i) (by omega)
    have : b.tick = bb := by
      have e1 := iter_skip (f := Bk.tick1) (b := b) (i := i) (fun b i h => tick1_no h) (128 - i) (fun id h1 h2 => by rw [hbb]; exact hend id h1 (by omega))
      rw [show i + (128 - i) = 128 by omega] at e1
      exact e1.trans hbb
    show WentM h g M b.tick ov zv
    rw [this]
    exact ⟨_, zv1, A, F, n⟩
  have hj' : ((bb.pos i : Nat) : Int) < (bb.cnt : Nat) := by omega
  have hj0 : (0 : Int) ≤ ((bb.pos i : Nat) : Int) := by omega
  rcases A.rows with ⟨h0, -⟩ | ⟨R, cells, rfl, hR, o⟩
  · omega
  clear hov
  obtain ⟨e, hee⟩ : ∃ e, bb.ops[bb.pos i]? = some e := ⟨_, List.getElem?_eq_getElem (by rw [ops_len]; exact hj)⟩
  obtain ⟨p1, p2, p3⟩ := ops_place hee
  obtain ⟨q1, q2, q3⟩ := ops_next A.n hee
  have hO := atIs A.n p1 p2
  have hskip : iterB Bk.tick1 b (e.1 + 1) = bb.tick1 e.1 := by
    have e1 := iter_skip (f := Bk.tick1) (b := b) (i := i) (fun b i h => tick1_no h) (e.1 - i) (fun id h1 h2 => by rw [hbb]; exact q3 id h1 (by omega))
    rw [show i + (e.1 - i) = e.1 by omega] at e1
    rw [iterB_succ, e1, hbb]
  have ok' : (iterB Bk.tick1 b (e.1 + 1)).Ok := by rw [hskip]; exact tick1_ok ok A.n _
  obtain ⟨se, hse, hg5, hjj⟩ := o.get hee
  have h3c := hjj 3 (by decide)
  have r3 : (mrow e se)[3]? = some (.int .i64 e.2.wt) := rfl
  rw [r3] at h3c
  have hmem := List.mem_of_getElem? p1
  have hw := ok.wt _ hmem
  have ww : IntKind.i64.wrap (e.2.wt - 1) = e.2.wt - 1 := by rw [i64_wrap] <;> omega
  have hk5 : bb.pos i * 5 + 5 ≤ cells.length := by rw [o.len, ops_len]; omega
  have hle : bb.pos i * 5 + 3 + 1 ≤ cells.length := by omega
  have hMR : R ≠ M := A.s1 R rfl
  have o2 := o.upd hee (e.2.wt - 1)
  have hy : opn { e.2 with wt := e.2.wt - 1 } = true := p2
  have hops2 := ops_upd hee { e.2 with wt := e.2.wt - 1 } hy bb.nx bb.es
  rw [← hops2] at o2
  have A2 := A.putRow (b' := ⟨bb.is.set e.1 { e.2 with wt := e.2.wt - 1 }, bb.nx, bb.es⟩) o2 (by rw [hops2, List.length_set, ops_len]) rfl rfl (by show (bb.is.set _ _).length = 128; rw [List.length_set]; exact A.n)
  have hRs : ∀ y : Option AObj, (g.set R y)[R]? = some y := fun y => List.getElem?_set_self (lt_of_get hR)
  have hMs : ∀ y : Option AObj, (g.set R y)[M]? = _ := fun y => (set_ne hMR y).trans hM
  have h3c' : (cells.set (bb.pos i * 5 + 3) (.int .i64 (e.2.wt - 1)))[bb.pos i * 5 + 3]? = some (.int .i64 (e.2.wt - 1)) := List.getElem?_set_self (by omega)
  have h2c' : (cells.set (bb.pos i * 5 + 3) (.int .i64 (e.2.wt - 1)))[bb.pos i * 5 + 2]? = some (.int .u8 e.2.cl) := by
    rw [List.getElem?_set_ne (by omega), hjj 2 (by decide)]; rfl
  have hlc : (cells.set (bb.pos i * 5 + 3) (.int .i64 (e.2.wt - 1))).length = cells.length := List.length_set
  simp only [sx, x_box, x_alloc, x_bslice, x_slice, x_append, x_appz, x_b2s, x_s2b, x_mark, xop, ev, evs, evParts, fillL, cellsL, Ai.get, Ai.put, stab, isNil?, if_false, if_true, addr?, int?, str?, agg?, bool?, shiftA, FnPost, xresL, xres1, tup, argEnv, ptr, Nat.reduceEqDiff, reduceIte, beq_self_eq_true, ne_eq, Nat.reduceAdd, Nat.reduceMul, Nat.reduceSub, abin_shl, abin_shr, load1V, loadV, storeV, cellsAt, getN, setN, allocV, lenL, lenS, bnd, oneC, Value.oneCell', Nat.reduceLeDiff, Nat.reduceLT, exists_eq_left', forall_const, reduceCtorEq, app_new, app_new0, List.append_assoc, Int.reduceToNat, Int.reduceLT, Int.reduceLE, Int.reduceEq, Int.reduceNe, Int.reduceBEq, IntKind.bits, bne_self_eq_false, Int.reducePow, g2, g0, hM, hj', hj0, hR, h3c, ww, hle, hMs, hRs]
  have F2 : Fr (ftM M (.slice (some ⟨R, 0, none⟩) bb.cnt (unk + 5)) zv1) g (g.set R (some ⟨true, cells.set (bb.pos i * 5 + 3) (.int .i64 (e.2.wt - 1))⟩)) := Fr.set _ (.inr (.inl rfl))
  have hM2 := hMs (some ⟨true, cells.set (bb.pos i * 5 + 3) (.int .i64 (e.2.wt - 1))⟩)
  have hR2 := hRs (some ⟨true, cells.set (bb.pos i * 5 + 3) (.int .i64 (e.2.wt - 1))⟩)
  generalize cells.set (bb.pos i * 5 + 3) (Value.int .i64 (e.2.wt - 1)) = cells2 at *
  generalize g.set R (some (AObj.mk true cells2)) = g3 at *
  have wj : IntKind.i64.wrap (((bb.pos i : Nat) : Int) + 1) = ((bb.pos i + 1 : Nat) : Int) := by rw [i64_wrap] <;> omega
  have ex : bb.is[e.1]? = some e.2 := p1
  by_cases hw1 : 0 < e.2.wt - 1
  · have ht := tick1_go hO p1 hw1
    simp only [sx, x_box, x_alloc, x_bslice, x_slice, x_append, x_appz, x_b2s, x_s2b, x_mark, xop, ev, evs, evParts, fillL, cellsL, Ai.get, Ai.put, stab, isNil?, if_false, if_true, addr?, int?, str?, agg?, bool?, shiftA, FnPost, xresL, xres1, tup, argEnv, ptr, Nat.reduceEqDiff, reduceIte, beq_self_eq_true, ne_eq, Nat.reduceAdd, Nat.reduceMul, Nat.reduceSub, abin_shl, abin_shr, load1V, loadV, storeV, cellsAt, getN, setN, allocV, lenL, lenS, bnd, oneC, Value.oneCell', Nat.reduceLeDiff, Nat.reduceLT, exists_eq_left', forall_const, reduceCtorEq, app_new, app_new0, List.append_assoc, Int.reduceToNat, Int.reduceLT, Int.reduceLE, Int.reduceEq, Int.reduceNe, Int.reduceBEq, IntKind.bits, bne_self_eq_false, Int.reducePow, h3c', hw1, g2, wj]
    refine ⟨128 - (e.1 + 1), by omega, e.1 + 1, by omega, ?_, g0, ?_, ok'⟩
    · have : (iterB Bk.tick1 b (e.1 + 1)).pos (e.1 + 1) = bb.pos i + 1 := by
        rw [hskip, ht, pos_set p1, if_pos hy, p3]
      rw [this]; rfl
    · rw [hskip, ht]
      exact WentM.go ⟨_, _, A2, F2, fun X hX => .inl hX⟩ F n
  have hopsk : Bk.ops ⟨bb.is.set e.1 { e.2 with wt := e.2.wt - 1 }, bb.nx, bb.es⟩ = bb.ops.set (bb.pos i) (e.1, { e.2 with wt := e.2.wt - 1 }) := hops2
  have he2 : (Bk.ops ⟨bb.is.set e.1 { e.2 with wt := e.2.wt - 1 }, bb.nx, bb.es⟩)[bb.pos i]? = some (e.1, { e.2 with wt := e.2.wt - 1 }) := by
    rw [hopsk]; exact List.getElem?_set_self (by rw [ops_len]; exact hj)
  have wj1 : IntKind.i64.wrap (((bb.pos i : Nat) : Int) - 1) = ((bb.pos i : Nat) : Int) - 1 := by rw [i64_wrap] <;> omega
  have wj2 : IntKind.i64.wrap ((((bb.pos i : Nat) : Int) - 1) + 1) = ((bb.pos i : Nat) : Int) := by rw [i64_wrap] <;> omega
  have em : ByteArray.mk #[] = ByteArray.empty := rfl
  have hov : ∀ {how : Int}, Valid Try.prog 24 [.pointer (some ⟨M, 0, none⟩), .int .i64 ((bb.pos i : Nat) : Int), .int .u8 how, .int .i64 0, .string ByteArray.empty] g3 fun r h' => WentM h h' M (bb.over e.1 how 0 []) ov zv := fun {how} => (mover_ok A2 he2 (by show bb.es.length ≤ 1000000; omega)).mono fun r h' W => by
    have W1 : WentM g h' M (bb.over e.1 how 0 []) (.slice (some ⟨R, 0, none⟩) bb.cnt (unk + 5)) zv1 := by
      have := W.go F2 fun X hX => .inl hX
      unfold Bk.over at this ⊢
      rw [List.set_set] at this
      exact this
    exact W1.go F n
  have hpos : ∀ {how : Int}, (bb.over e.1 how 0 []).pos (e.1 + 1) = bb.pos i := fun {how} => by
    unfold Bk.over
    rw [pos_set p1, if_neg (by decide), p3, Nat.add_zero]
  have two : ∀ {how : Int} {g4 : AHeap} {ρ4 : Env}, bb.tick1 e.1 = bb.over e.1 how 0 [] → WentM h g4 M (bb.over e.1 how 0 []) ov zv → get ρ4 2 = some (.int .i64 ((bb.pos i : Nat) : Int)) → get ρ4 0 = some (.pointer (some ⟨M, 0, none⟩)) → ∃ m', m' < m ∧ MtI h M b ov zv m' ρ4 g4 := fun {how g4 ρ4} ht W k2 k0 => by
    refine ⟨128 - (e.1 + 1), by omega, e.1 + 1, by omega, ?_, k0, ?_, ok'⟩
    · rw [hskip, ht, hpos]; exact k2
    · rw [hskip, ht]; exact W
  by_cases c2 : e.2.cl = 2
  · have ht := tick1_res hO p1 hw1 (.inl c2)
    simp only [sx, x_box, x_alloc, x_bslice, x_slice, x_append, x_appz, x_b2s, x_s2b, x_mark, xop, ev, evs, evParts, fillL, cellsL, Ai.get, Ai.put, stab, isNil?, if_false, if_true, addr?, int?, str?, agg?, bool?, shiftA, FnPost, xresL, xres1, tup, argEnv, ptr, Nat.reduceEqDiff, reduceIte, beq_self_eq_true, ne_eq, Nat.reduceAdd, Nat.reduceMul, Nat.reduceSub, abin_shl, abin_shr, load1V, loadV, storeV, cellsAt, getN, setN, allocV, lenL, lenS, bnd, oneC, Value.oneCell', Nat.reduceLeDiff, Nat.reduceLT, exists_eq_left', forall_const, reduceCtorEq, app_new, app_new0, List.append_assoc, Int.reduceToNat, Int.reduceLT, Int.reduceLE, Int.reduceEq, Int.reduceNe, Int.reduceBEq, IntKind.bits, bne_self_eq_false, Int.reducePow, h3c', h2c', hw1, g2, g0, hM2, hR2, hj', hj0, c2, em]
    refine xcall hov (by rfl) (by rfl) (by rfl) (by rfl) ?_
    intro r g4 W
    simp only [sx, x_box, x_alloc, x_bslice, x_slice, x_append, x_appz, x_b2s, x_s2b, x_mark, xop, ev, evs, evParts, fillL, cellsL, Ai.get, Ai.put, stab, isNil?, if_false, if_true, addr?, int?, str?, agg?, bool?, shiftA, FnPost, xresL, xres1, tup, argEnv, ptr, Nat.reduceEqDiff, reduceIte, beq_self_eq_true, ne_eq, Nat.reduceAdd, Nat.reduceMul, Nat.reduceSub, abin_shl, abin_shr, load1V, loadV, storeV, cellsAt, getN, setN, allocV, lenL, lenS, bnd, oneC, Value.oneCell', Nat.reduceLeDiff, Nat.reduceLT, exists_eq_left', forall_const, reduceCtorEq, app_new, app_new0, List.append_assoc, Int.reduceToNat, Int.reduceLT, Int.reduceLE, Int.reduceEq, Int.reduceNe, Int.reduceBEq, IntKind.bits, bne_self_eq_false, Int.reducePow, g2, wj1, wj2]
    exact two ht W rfl g0
  by_cases c4 : e.2.cl = 4
  · have ht := tick1_res hO p1 hw1 (.inr c4)
    have c42 : ¬ (4 : Int) = 2 := by decide
    simp only [sx, x_box, x_alloc, x_bslice, x_slice, x_append, x_appz, x_b2s, x_s2b, x_mark, xop, ev, evs, evParts, fillL, cellsL, Ai.get, Ai.put, stab, isNil?, if_false, if_true, addr?, int?, str?, agg?, bool?, shiftA, FnPost, xresL, xres1, tup, argEnv, ptr, Nat.reduceEqDiff, reduceIte, beq_self_eq_true, ne_eq, Nat.reduceAdd, Nat.reduceMul, Nat.reduceSub, abin_shl, abin_shr, load1V, loadV, storeV, cellsAt, getN, setN, allocV, lenL, lenS, bnd, oneC, Value.oneCell', Nat.reduceLeDiff, Nat.reduceLT, exists_eq_left', forall_const, reduceCtorEq, app_new, app_new0, List.append_assoc, Int.reduceToNat, Int.reduceLT, Int.reduceLE, Int.reduceEq, Int.reduceNe, Int.reduceBEq, IntKind.bits, bne_self_eq_false, Int.reducePow, h3c', h2c', hw1, g2, g0, hM2, hR2, hj', hj0, c4, c42, em]
    refine xcall hov (by rfl) (by rfl) (by rfl) (by rfl) ?_
    intro r g4 W
    simp only [sx, x_box, x_alloc, x_bslice, x_slice, x_append, x_appz, x_b2s, x_s2b, x_mark, xop, ev, evs, evParts, fillL, cellsL, Ai.get, Ai.put, stab, isNil?, if_false, if_true, addr?, int?, str?, agg?, bool?, shiftA, FnPost, xresL, xres1, tup, argEnv, ptr, Nat.reduceEqDiff, reduceIte, beq_self_eq_true, ne_eq, Nat.reduceAdd, Nat.reduceMul, Nat.reduceSub, abin_shl, abin_shr, load1V, loadV, storeV, cellsAt, getN, setN, allocV, lenL, lenS, bnd, oneC, Value.oneCell', Nat.reduceLeDiff, Nat.reduceLT, exists_eq_left', forall_const, reduceCtorEq, app_new, app_new0, List.append_assoc, Int.reduceToNat, Int.reduceLT, Int.reduceLE, Int.reduceEq, Int.reduceNe, Int.reduceBEq, IntKind.bits, bne_self_eq_false, Int.reducePow, g2, wj1, wj2]
    exact two ht W rfl g0
  · have ht := tick1_out hO p1 hw1 (fun h => h.elim c2 c4)
    simp only [sx, x_box, x_alloc, x_bslice, x_slice, x_append, x_appz, x_b2s, x_s2b, x_mark, xop, ev, evs, evParts, fillL, cellsL, Ai.get, Ai.put, stab, isNil?, if_false, if_true, addr?, int?, str?, agg?, bool?, shiftA, FnPost, xresL, xres1, tup, argEnv, ptr, Nat.reduceEqDiff, reduceIte, beq_self_eq_true, ne_eq, Nat.reduceAdd, Nat.reduceMul, Nat.reduceSub, abin_shl, abin_shr, load1V, loadV, storeV, cellsAt, getN, setN, allocV, lenL, lenS, bnd, oneC, Value.oneCell', Nat.reduceLeDiff, Nat.reduceLT, exists_eq_left', forall_const, reduceCtorEq, app_new, app_new0, List.append_assoc, Int.reduceToNat, Int.reduceLT, Int.reduceLE, Int.reduceEq, Int.reduceNe, Int.reduceBEq, IntKind.bits, bne_self_eq_false, Int.reducePow, h3c', h2c', hw1, g2, g0, hM2, hR2, hj', hj0, c2, c4, em]
    refine xcall hov (by rfl) (by rfl) (by rfl) (by rfl) ?_
    intro r g4 W
    simp only [sx, x_box, x_alloc, x_bslice, x_slice, x_append, x_appz, x_b2s, x_s2b, x_mark, xop, ev, evs, evParts, fillL, cellsL, Ai.get, Ai.put, stab, isNil?, if_false, if_true, addr?, int?, str?, agg?, bool?, shiftA, FnPost, xresL, xres1, tup, argEnv, ptr, Nat.reduceEqDiff, reduceIte, beq_self_eq_true, ne_eq, Nat.reduceAdd, Nat.reduceMul, Nat.reduceSub, abin_shl, abin_shr, load1V, loadV, storeV, cellsAt, getN, setN, allocV, lenL, lenS, bnd, oneC, Value.oneCell', Nat.reduceLeDiff, Nat.reduceLT, exists_eq_left', forall_const, reduceCtorEq, app_new, app_new0, List.append_assoc, Int.reduceToNat, Int.reduceLT, Int.reduceLE, Int.reduceEq, Int.reduceNe, Int.reduceBEq, IntKind.bits, bne_self_eq_false, Int.reducePow, g2, wj1, wj2]
    exact two ht W rfl g0

theorem bOf_push (b : ByteArray) (n : Nat) (h : n < 256) : bOf (b.push (UInt8.ofNat n)) = bOf b ++ [n] := by
  unfold bOf
  show (b.data.push (UInt8.ofNat n)).toList.map UInt8.toNat = _
  rw [Array.toList_push, List.map_append]
  congr 1
  simp [UInt8.toNat_ofNat', Nat.mod_eq_of_lt h]
theorem bytesFold : ∀ (l : List Nat) (b : ByteArray), (∀ n ∈ l, n < 256) → ∃ s : ByteArray, (bN l).foldlM (fun (s : ByteArray) v => match v with | .int .u8 n => some (s.push (UInt8.ofNat n.toNat)) | _ => none) b = some s ∧ bOf s = bOf b ++ l
  | [], b, _ => ⟨b, rfl, by simp⟩
  | z :: l, b, hb => by
    obtain ⟨s, h1, h2⟩ := bytesFold l (b.push (UInt8.ofNat z)) fun n hn => hb n (List.mem_cons_of_mem _ hn)
    refine ⟨s, by simpa [bN, List.foldlM_cons] using h1, ?_⟩
    rw [h2, bOf_push _ _ (hb z List.mem_cons_self)]; simp
theorem bytes_str {l : List Nat} (hb : ∀ n ∈ l, n < 256) : ∃ s : ByteArray, bytesOf (bN l) = some s ∧ bOf s = l := by
  cases l with
  | nil => exact ⟨ByteArray.empty, rfl, rfl⟩
  | cons z l =>
    obtain ⟨s, h1, h2⟩ := bytesFold (z :: l) ByteArray.empty hb
    exact ⟨s, h1, by rw [h2]; rfl⟩
theorem b2s_first {ρ : Env} {h : AHeap} {x : XA} {qs : Option Addr} {m cs : Nat} {l : List Nat} {str : ByteArray} (hx : ev ρ x = some (.slice qs m cs)) (hf : firstV 1 h m (.slice qs m cs) = some (bN l)) (hb : bytesOf (bN l) = some str) : xop (.b2s x) ρ h = some (.string str, h) := by
  cases qs with
  | none =>
    simp only [firstV] at hf
    split at hf
    · have hz : [] = bN l := Option.some.inj hf
      have : bytesOf [] = some ByteArray.empty := rfl
      rw [← hz, this] at hb
      cases hb
      simp [xop, hx]
    · cases hf
  | some a =>
    simp only [firstV] at hf
    simp only [xop, hx, Option.bind_some]
    by_cases h0 : m = 0
    · rw [if_pos h0] at hf ⊢
      cases hz : bN l with
      | nil => rw [hz] at hb; simp [hb]
      | cons y ys => rw [hz] at hf; cases hf
    · rw [if_neg h0] at hf ⊢
      split at hf
      · cases hf
      · rename_i hsp
        simp only [loadV, if_neg hsp]
        rw [Nat.mul_one] at hf
        rw [hf]
        simp [hb]
theorem bOf_app (s t : ByteArray) : bOf (s ++ t) = bOf s ++ bOf t := by
  unfold bOf
  have : (s ++ t).data = s.data ++ t.data := by simp
  rw [this]; simp
theorem bOf_len (s : ByteArray) : s.size = (bOf s).length := by unfold bOf; rw [List.length_map]; rfl
theorem abin_sadd {s t : ByteArray} (h : s.size + t.size ≤ 9223372036854775807) : abin .add (.string s) (.string t) = some (.string (s ++ t)) := by
  have : ¬ (9223372036854775807 : Int) < (s.size : Int) + (t.size : Int) := by omega
  simp [abin, binOp, Op.stringOp, semVal, pure, this]
def pOf : Option Int → Int
  | none => 0
  | some p => p
theorem mem_ops {b : Bk} {e : Nat × Iv} {k : Nat} (h : b.ops[k]? = some e) : e.2 ∈ b.is := List.mem_of_getElem? (ops_place h).1
set_option maxHeartbeats 16000000 in
set_option maxRecDepth 20000 in
theorem mhear_ok {h : AHeap} {M : Nat} {b : Bk} {ov zv v : Value} {m : Cm} (A : MAt h M b ov zv) (ok : b.Ok) (hm : CMV h v m) (hk : okC m) (hk1 : m.k ≠ 1) (hval : ∀ n ∈ m.val, n < 256) (hvl : m.val.length ≤ 2000) (hel : b.es.length ≤ 999000) :
    Valid Try.prog 23 [.pointer (some ⟨M, 0, none⟩), v] h fun r h' => r = .int .u8 (pOf (b.heard m).2) ∧ WentM h h' M (b.heard m).1 ov zv := by
  refine v23 (by simp) ?_
  obtain ⟨vv, rfl, V⟩ := hm
  obtain ⟨q, c, rfl⟩ := V.shape
  obtain ⟨str, hstr, hbs⟩ := bytes_str hval
  simp only [X23, Cm.cells, sx, x_alloc, x_bslice, x_slice, x_append, x_appz, x_b2s, x_s2b, x_mark, xop, ev, evs, evParts, fillL, cellsL, Ai.get, Ai.put, stab, isNil?, if_false, if_true, addr?, int?, str?, agg?, bool?, shiftA, FnPost, xresL, xres1, tup, argEnv, ptr, Nat.reduceEqDiff, reduceIte, beq_self_eq_true, ne_eq, Nat.reduceAdd, Nat.reduceMul, Nat.reduceSub, abin_shl, abin_shr, load1V, loadV, storeV, cellsAt, getN, setN, allocV, lenL, lenS, bnd, oneC, Value.oneCell', Nat.reduceLeDiff, Nat.reduceLT, exists_eq_left', forall_const, reduceCtorEq, app_new, app_new0, List.append_assoc, Int.reduceToNat, Int.reduceLT, Int.reduceLE, Int.reduceEq, Int.reduceNe, Int.reduceBEq, IntKind.bits, bne_self_eq_false, Int.reducePow]
  refine box_run rfl fun g1 R3 K1 hR3 hRl3 hg1 => ⟨trivial, ?_⟩
  simp only [cellsL] at hR3
  have A1 := A.kp K1
  have V1 := V.frz K1.frz
  simp only [sx, x_box, x_alloc, x_bslice, x_slice, x_append, x_appz, x_b2s, x_s2b, x_mark, xop, ev, evs, evParts, fillL, cellsL, Ai.get, Ai.put, stab, isNil?, if_false, if_true, addr?, int?, str?, agg?, bool?, shiftA, FnPost, xresL, xres1, tup, argEnv, ptr, Nat.reduceEqDiff, reduceIte, beq_self_eq_true, ne_eq, Nat.reduceAdd, Nat.reduceMul, Nat.reduceSub, abin_shl, abin_shr, load1V, loadV, storeV, cellsAt, getN, setN, allocV, lenL, lenS, bnd, oneC, Value.oneCell', Nat.reduceLeDiff, Nat.reduceLT, exists_eq_left', forall_const, reduceCtorEq, app_new, app_new0, List.append_assoc, Int.reduceToNat, Int.reduceLT, Int.reduceLE, Int.reduceEq, Int.reduceNe, Int.reduceBEq, IntKind.bits, bne_self_eq_false, Int.reducePow, hR3]
  refine xcall (at_ok (id := m.id) A1) (by rfl) (by rfl) (by rfl) (by rfl) ?_
  rintro r g ⟨rfl, e0⟩
  subst e0
  have em : ByteArray.mk #[] = ByteArray.empty := rfl
  have wgo : ∀ {g' : AHeap} {b' : Bk}, WentM g g' M b' ov zv → WentM h g' M b' ov zv := fun {g' b'} W => W.go (K1.fr _) fun X hX => .inl hX
  have wsame : WentM h g M b ov zv := wgo (A1.same (Kp.refl _))
  have kk : m.k = 2 ∨ m.k = 3 ∨ m.k = 4 ∨ m.k = 5 := by unfold okC at hk; omega
  cases ho : b.isO m.id
  · have ea : b.atI m.id = -1 := atI_lt ho
    have e1 : ¬ (0 : Int) ≤ -1 := by decide
    have e2 : (-1 : Int) < 0 := by decide
    rw [ea]
    by_cases k5 : m.k = 5
    · simp only [sx, x_box, x_alloc, x_bslice, x_slice, x_append, x_appz, x_b2s, x_s2b, x_mark, xop, ev, evs, evParts, fillL, cellsL, Ai.get, Ai.put, stab, isNil?, if_false, if_true, addr?, int?, str?, agg?, bool?, shiftA, FnPost, xresL, xres1, tup, argEnv, ptr, Nat.reduceEqDiff, reduceIte, beq_self_eq_true, ne_eq, Nat.reduceAdd, Nat.reduceMul, Nat.reduceSub, abin_shl, abin_shr, load1V, loadV, storeV, cellsAt, getN, setN, allocV, lenL, lenS, bnd, oneC, Value.oneCell', Nat.reduceLeDiff, Nat.reduceLT, exists_eq_left', forall_const, reduceCtorEq, app_new, app_new0, List.append_assoc, Int.reduceToNat, Int.reduceLT, Int.reduceLE, Int.reduceEq, Int.reduceNe, Int.reduceBEq, IntKind.bits, bne_self_eq_false, Int.reducePow, hR3, k5, e1]
      have hh : b.heard m = (b, none) := by unfold Bk.heard; rw [if_pos k5, ho]; rfl
      rw [hh]
      exact ⟨rfl, wsame⟩
    · simp only [sx, x_box, x_alloc, x_bslice, x_slice, x_append, x_appz, x_b2s, x_s2b, x_mark, xop, ev, evs, evParts, fillL, cellsL, Ai.get, Ai.put, stab, isNil?, if_false, if_true, addr?, int?, str?, agg?, bool?, shiftA, FnPost, xresL, xres1, tup, argEnv, ptr, Nat.reduceEqDiff, reduceIte, beq_self_eq_true, ne_eq, Nat.reduceAdd, Nat.reduceMul, Nat.reduceSub, abin_shl, abin_shr, load1V, loadV, storeV, cellsAt, getN, setN, allocV, lenL, lenS, bnd, oneC, Value.oneCell', Nat.reduceLeDiff, Nat.reduceLT, exists_eq_left', forall_const, reduceCtorEq, app_new, app_new0, List.append_assoc, Int.reduceToNat, Int.reduceLT, Int.reduceLE, Int.reduceEq, Int.reduceNe, Int.reduceBEq, IntKind.bits, bne_self_eq_false, Int.reducePow, hR3, k5, e2]
      have hh : b.heard m = (b, some 6) := by unfold Bk.heard; rw [if_neg k5, if_pos ho]
      rw [hh]
      exact ⟨rfl, wsame⟩
  obtain ⟨i, hid, hi⟩ := isO_nat ho
  obtain ⟨x, hx⟩ : ∃ x, b.is[i]? = some x := ⟨_, List.getElem?_eq_getElem (by have := A.n; omega)⟩
  have hox : opn x = true := by rw [hid, isO_at hi hx] at ho; exact ho
  have ea : b.atI m.id = (b.pos i : Int) := by rw [hid]; exact atI_nat hx A.n hox
  have hat := ops_at hx hox
  rw [ea]
  have e1 : (0 : Int) ≤ (b.pos i : Int) := by omega
  have e2 : ¬ (b.pos i : Int) < 0 := by omega
  have hov : ∀ {how code : Int} {s : ByteArray} {g' : AHeap}, MAt g' M b ov zv → Valid Try.prog 24 [.pointer (some ⟨M, 0, none⟩), .int .i64 (b.pos i : Int), .int .u8 how, .int .i64 code, .string s] g' fun r h' => WentM g' h' M (b.over i how code (bOf s)) ov zv := fun {how code s g'} A => mover_ok A hat (by omega)
  have hpr : m.k = 5 → IntKind.i64.wrap m.pr = m.pr := fun h5 => by
    rw [i64_wrap] <;> (unfold okC at hk; omega)
  by_cases k5 : m.k = 5
  · simp only [sx, x_box, x_alloc, x_bslice, x_slice, x_append, x_appz, x_b2s, x_s2b, x_mark, xop, ev, evs, evParts, fillL, cellsL, Ai.get, Ai.put, stab, isNil?, if_false, if_true, addr?, int?, str?, agg?, bool?, shiftA, FnPost, xresL, xres1, tup, argEnv, ptr, Nat.reduceEqDiff, reduceIte, beq_self_eq_true, ne_eq, Nat.reduceAdd, Nat.reduceMul, Nat.reduceSub, abin_shl, abin_shr, load1V, loadV, storeV, cellsAt, getN, setN, allocV, lenL, lenS, bnd, oneC, Value.oneCell', Nat.reduceLeDiff, Nat.reduceLT, exists_eq_left', forall_const, reduceCtorEq, app_new, app_new0, List.append_assoc, Int.reduceToNat, Int.reduceLT, Int.reduceLE, Int.reduceEq, Int.reduceNe, Int.reduceBEq, IntKind.bits, bne_self_eq_false, Int.reducePow, hR3, k5, e1, hpr k5, em]
    refine xcall (hov A1) (by rfl) (by rfl) (by rfl) (by rfl) ?_
    intro r g2 W
    simp only [sx, x_box, x_alloc, x_bslice, x_slice, x_append, x_appz, x_b2s, x_s2b, x_mark, xop, ev, evs, evParts, fillL, cellsL, Ai.get, Ai.put, stab, isNil?, if_false, if_true, addr?, int?, str?, agg?, bool?, shiftA, FnPost, xresL, xres1, tup, argEnv, ptr, Nat.reduceEqDiff, reduceIte, beq_self_eq_true, ne_eq, Nat.reduceAdd, Nat.reduceMul, Nat.reduceSub, abin_shl, abin_shr, load1V, loadV, storeV, cellsAt, getN, setN, allocV, lenL, lenS, bnd, oneC, Value.oneCell', Nat.reduceLeDiff, Nat.reduceLT, exists_eq_left', forall_const, reduceCtorEq, app_new, app_new0, List.append_assoc, Int.reduceToNat, Int.reduceLT, Int.reduceLE, Int.reduceEq, Int.reduceNe, Int.reduceBEq, IntKind.bits, bne_self_eq_false, Int.reducePow]
    have hh : b.heard m = (b.over i 3 m.pr [], none) := by unfold Bk.heard; rw [if_pos k5, if_pos ho, hid]; rfl
    rw [hh]
    exact ⟨rfl, wgo W⟩
  rcases A1.rows with ⟨h0, -⟩ | ⟨R, cells, rfl, hR, o⟩
  · have := (List.getElem?_eq_some_iff.1 hat).1
    rw [ops_len] at this; omega
  obtain ⟨se, hse, hg5, hjj⟩ := o.get hat
  have hlt : b.pos i < b.cnt := by rw [← ops_len]; exact (List.getElem?_eq_some_iff.1 hat).1
  have hlt' : (b.pos i : Int) < (b.cnt : Nat) := by omega
  have hM := A1.obj
  have g5 : getN cells (b.pos i * 5) 5 = some (mrow (i, x) se) := hg5
  simp only [sx, x_box, x_bslice, x_slice, x_append, x_appz, x_b2s, x_s2b, x_mark, xop, ev, evs, evParts, fillL, cellsL, Ai.get, Ai.put, stab, isNil?, if_false, if_true, addr?, int?, str?, agg?, bool?, shiftA, FnPost, xresL, xres1, tup, argEnv, ptr, Nat.reduceEqDiff, reduceIte, beq_self_eq_true, ne_eq, Nat.reduceAdd, Nat.reduceMul, Nat.reduceSub, abin_shl, abin_shr, load1V, loadV, storeV, cellsAt, setN, allocV, lenL, lenS, bnd, oneC, Value.oneCell', Nat.reduceLeDiff, Nat.reduceLT, exists_eq_left', forall_const, reduceCtorEq, app_new, app_new0, List.append_assoc, Int.reduceToNat, Int.reduceLT, Int.reduceLE, Int.reduceEq, Int.reduceNe, Int.reduceBEq, IntKind.bits, bne_self_eq_false, Int.reducePow, hR3, k5, e2, hM, e1, hlt', hR, g5]
  refine alloc_run fun g2 T K2 hT hTl _ => ⟨trivial, ?_⟩
  have hTs : ∀ y : Option AObj, (g2.set T y)[T]? = some y := fun y => List.getElem?_set_self (lt_of_get hT)
  have K3 := K2.set hTl (some ⟨true, mrow (i, x) se⟩)
  have hT3 := hTs (some ⟨true, mrow (i, x) se⟩)
  simp only [mrow] at hT3 K3
  have hR33 := K3.get hR3
  have A3 := A1.kp K3
  have V3 := V1.frz K3.frz
  have hR3' := K3.get hR
  have hM3 := K3.get hM
  have hsz : se.size = x.pb.length := by rw [bOf_len, hse]
  have hsz2 : str.size = m.val.length := by rw [bOf_len, hbs]
  have hxp := ok.pb _ (mem_ops hat)
  have hxc := ok.cl _ (mem_ops hat)
  simp only at hxp hxc
  have hxc0 : x.cl ≠ 0 := by unfold opn at hox; simpa using hox
  have hrow : b.row m = x := by unfold Bk.row; rw [hid, Int.toNat_natCast, hx]; rfl
  have n35 : ¬ (b.isO m.id = false) := by rw [ho]; decide
  have hrej : fitsB x m = false → b.heard m = (b.over i 3 7 [], some 7) := fun hf => by unfold Bk.heard; rw [if_neg k5, if_neg n35, if_pos (by rw [hrow]; exact hf), hid]; rfl
  have hfit : fitsB x m = true → b.heard m = if m.k = 3 then (⟨b.is.set i { x with pb := x.pb ++ m.val }, b.nx, b.es⟩, none) else if m.k = 4 then (b.over i 2 m.cd m.val, none) else (b.over i 1 0 (x.pb ++ m.val), none) := fun hf => by
    unfold Bk.heard; rw [if_neg k5, if_neg n35, if_neg (by rw [hrow, hf]; decide), hid, hrow]; rfl
  simp only [sx, x_box, x_alloc, x_bslice, x_slice, x_append, x_appz, x_s2b, x_mark, xop, ev, evs, evParts, fillL, cellsL, Ai.get, Ai.put, stab, isNil?, if_false, if_true, addr?, int?, str?, agg?, bool?, shiftA, FnPost, xresL, xres1, tup, argEnv, ptr, Nat.reduceEqDiff, reduceIte, beq_self_eq_true, ne_eq, Nat.reduceAdd, Nat.reduceMul, Nat.reduceSub, abin_shl, abin_shr, load1V, loadV, storeV, cellsAt, getN, setN, allocV, lenL, lenS, bnd, oneC, Value.oneCell', Nat.reduceLeDiff, Nat.reduceLT, exists_eq_left', forall_const, reduceCtorEq, app_new, app_new0, List.append_assoc, Int.reduceToNat, Int.reduceLT, Int.reduceLE, Int.reduceEq, Int.reduceNe, Int.reduceBEq, IntKind.bits, bne_self_eq_false, Int.reducePow, hT, mrow]
  generalize g2.set T (some (AObj.mk true [Value.int .i64 (i : Int), .int .i64 x.op, .int .u8 x.cl, .int .i64 x.wt, .string se])) = g3 at *
  have wg3 : ∀ {g' : AHeap} {b' : Bk}, WentM g3 g' M b' (.slice (some ⟨R, 0, none⟩) b.cnt (unk + 5)) zv → WentM h g' M b' (.slice (some ⟨R, 0, none⟩) b.cnt (unk + 5)) zv := fun {g' b'} W => wgo (W.go (K3.fr _) fun X hX => .inl hX)
  have hV3 := V3.first
  by_cases k4 : m.k = 4
  · have k43 : ¬ (4 : Int) = 3 := by decide
    by_cases c1 : x.cl = 1
    · simp only [sx, x_box, x_alloc, x_bslice, x_slice, x_append, x_appz, x_s2b, x_mark, xop, ev, evs, evParts, fillL, cellsL, Ai.get, Ai.put, stab, isNil?, if_false, if_true, addr?, int?, str?, agg?, bool?, shiftA, FnPost, xresL, xres1, tup, argEnv, ptr, Nat.reduceEqDiff, reduceIte, beq_self_eq_true, ne_eq, Nat.reduceAdd, Nat.reduceMul, Nat.reduceSub, abin_shl, abin_shr, load1V, loadV, storeV, cellsAt, getN, setN, allocV, lenL, lenS, bnd, oneC, Value.oneCell', Nat.reduceLeDiff, Nat.reduceLT, exists_eq_left', forall_const, reduceCtorEq, app_new, app_new0, List.append_assoc, Int.reduceToNat, Int.reduceLT, Int.reduceLE, Int.reduceEq, Int.reduceNe, Int.reduceBEq, IntKind.bits, bne_self_eq_false, Int.reducePow, hR33, hT3, k4, c1]
      rw [x_b2s, b2s_first (by rfl) hV3 hstr]
      simp only [sx, x_box, x_alloc, x_bslice, x_slice, x_append, x_appz, x_b2s, x_s2b, x_mark, xop, ev, evs, evParts, fillL, cellsL, Ai.get, Ai.put, stab, isNil?, if_false, if_true, addr?, int?, str?, agg?, bool?, shiftA, FnPost, xresL, xres1, tup, argEnv, ptr, Nat.reduceEqDiff, reduceIte, beq_self_eq_true, ne_eq, Nat.reduceAdd, Nat.reduceMul, Nat.reduceSub, abin_shl, abin_shr, load1V, loadV, storeV, cellsAt, getN, setN, allocV, lenL, lenS, bnd, oneC, Value.oneCell', Nat.reduceLeDiff, Nat.reduceLT, exists_eq_left', forall_const, reduceCtorEq, app_new, app_new0, List.append_assoc, Int.reduceToNat, Int.reduceLT, Int.reduceLE, Int.reduceEq, Int.reduceNe, Int.reduceBEq, IntKind.bits, bne_self_eq_false, Int.reducePow]
      refine xcall (hov A3) (by rfl) (by rfl) (by rfl) (by rfl) ?_
      intro r g4 W
      simp only [sx, x_box, x_alloc, x_bslice, x_slice, x_append, x_appz, x_b2s, x_s2b, x_mark, xop, ev, evs, evParts, fillL, cellsL, Ai.get, Ai.put, stab, isNil?, if_false, if_true, addr?, int?, str?, agg?, bool?, shiftA, FnPost, xresL, xres1, tup, argEnv, ptr, Nat.reduceEqDiff, reduceIte, beq_self_eq_true, ne_eq, Nat.reduceAdd, Nat.reduceMul, Nat.reduceSub, abin_shl, abin_shr, load1V, loadV, storeV, cellsAt, getN, setN, allocV, lenL, lenS, bnd, oneC, Value.oneCell', Nat.reduceLeDiff, Nat.reduceLT, exists_eq_left', forall_const, reduceCtorEq, app_new, app_new0, List.append_assoc, Int.reduceToNat, Int.reduceLT, Int.reduceLE, Int.reduceEq, Int.reduceNe, Int.reduceBEq, IntKind.bits, bne_self_eq_false, Int.reducePow]
      rw [hfit (by unfold fitsB; rw [if_pos k4]; simp [c1]), if_neg (by omega), if_pos k4]
      rw [hbs] at W
      exact ⟨rfl, wg3 W⟩
    by_cases c2 : x.cl = 2
    · have c21 : ¬ (2 : Int) = 1 := by decide
      simp only [sx, x_box, x_alloc, x_bslice, x_slice, x_append, x_appz, x_s2b, x_mark, xop, ev, evs, evParts, fillL, cellsL, Ai.get, Ai.put, stab, isNil?, if_false, if_true, addr?, int?, str?, agg?, bool?, shiftA, FnPost, xresL, xres1, tup, argEnv, ptr, Nat.reduceEqDiff, reduceIte, beq_self_eq_true, ne_eq, Nat.reduceAdd, Nat.reduceMul, Nat.reduceSub, abin_shl, abin_shr, load1V, loadV, storeV, cellsAt, getN, setN, allocV, lenL, lenS, bnd, oneC, Value.oneCell', Nat.reduceLeDiff, Nat.reduceLT, exists_eq_left', forall_const, reduceCtorEq, app_new, app_new0, List.append_assoc, Int.reduceToNat, Int.reduceLT, Int.reduceLE, Int.reduceEq, Int.reduceNe, Int.reduceBEq, IntKind.bits, bne_self_eq_false, Int.reducePow, hR33, hT3, k4, c2, c21]
      rw [x_b2s, b2s_first (by rfl) hV3 hstr]
      simp only [sx, x_box, x_alloc, x_bslice, x_slice, x_append, x_appz, x_b2s, x_s2b, x_mark, xop, ev, evs, evParts, fillL, cellsL, Ai.get, Ai.put, stab, isNil?, if_false, if_true, addr?, int?, str?, agg?, bool?, shiftA, FnPost, xresL, xres1, tup, argEnv, ptr, Nat.reduceEqDiff, reduceIte, beq_self_eq_true, ne_eq, Nat.reduceAdd, Nat.reduceMul, Nat.reduceSub, abin_shl, abin_shr, load1V, loadV, storeV, cellsAt, getN, setN, allocV, lenL, lenS, bnd, oneC, Value.oneCell', Nat.reduceLeDiff, Nat.reduceLT, exists_eq_left', forall_const, reduceCtorEq, app_new, app_new0, List.append_assoc, Int.reduceToNat, Int.reduceLT, Int.reduceLE, Int.reduceEq, Int.reduceNe, Int.reduceBEq, IntKind.bits, bne_self_eq_false, Int.reducePow]
      refine xcall (hov A3) (by rfl) (by rfl) (by rfl) (by rfl) ?_
      intro r g4 W
      simp only [sx, x_box, x_alloc, x_bslice, x_slice, x_append, x_appz, x_b2s, x_s2b, x_mark, xop, ev, evs, evParts, fillL, cellsL, Ai.get, Ai.put, stab, isNil?, if_false, if_true, addr?, int?, str?, agg?, bool?, shiftA, FnPost, xresL, xres1, tup, argEnv, ptr, Nat.reduceEqDiff, reduceIte, beq_self_eq_true, ne_eq, Nat.reduceAdd, Nat.reduceMul, Nat.reduceSub, abin_shl, abin_shr, load1V, loadV, storeV, cellsAt, getN, setN, allocV, lenL, lenS, bnd, oneC, Value.oneCell', Nat.reduceLeDiff, Nat.reduceLT, exists_eq_left', forall_const, reduceCtorEq, app_new, app_new0, List.append_assoc, Int.reduceToNat, Int.reduceLT, Int.reduceLE, Int.reduceEq, Int.reduceNe, Int.reduceBEq, IntKind.bits, bne_self_eq_false, Int.reducePow]
      rw [hfit (by unfold fitsB; rw [if_pos k4]; simp [c2]), if_neg (by omega), if_pos k4]
      rw [hbs] at W
      exact ⟨rfl, wg3 W⟩
    simp only [sx, x_box, x_alloc, x_bslice, x_slice, x_append, x_appz, x_s2b, x_mark, xop, ev, evs, evParts, fillL, cellsL, Ai.get, Ai.put, stab, isNil?, if_false, if_true, addr?, int?, str?, agg?, bool?, shiftA, FnPost, xresL, xres1, tup, argEnv, ptr, Nat.reduceEqDiff, reduceIte, beq_self_eq_true, ne_eq, Nat.reduceAdd, Nat.reduceMul, Nat.reduceSub, abin_shl, abin_shr, load1V, loadV, storeV, cellsAt, getN, setN, allocV, lenL, lenS, bnd, oneC, Value.oneCell', Nat.reduceLeDiff, Nat.reduceLT, exists_eq_left', forall_const, reduceCtorEq, app_new, app_new0, List.append_assoc, Int.reduceToNat, Int.reduceLT, Int.reduceLE, Int.reduceEq, Int.reduceNe, Int.reduceBEq, IntKind.bits, bne_self_eq_false, Int.reducePow, hR33, hT3, k4, c1, c2, em]
    refine xcall (hov A3) (by rfl) (by rfl) (by rfl) (by rfl) ?_
    intro r g4 W
    simp only [sx, x_box, x_alloc, x_bslice, x_slice, x_append, x_appz, x_b2s, x_s2b, x_mark, xop, ev, evs, evParts, fillL, cellsL, Ai.get, Ai.put, stab, isNil?, if_false, if_true, addr?, int?, str?, agg?, bool?, shiftA, FnPost, xresL, xres1, tup, argEnv, ptr, Nat.reduceEqDiff, reduceIte, beq_self_eq_true, ne_eq, Nat.reduceAdd, Nat.reduceMul, Nat.reduceSub, abin_shl, abin_shr, load1V, loadV, storeV, cellsAt, getN, setN, allocV, lenL, lenS, bnd, oneC, Value.oneCell', Nat.reduceLeDiff, Nat.reduceLT, exists_eq_left', forall_const, reduceCtorEq, app_new, app_new0, List.append_assoc, Int.reduceToNat, Int.reduceLT, Int.reduceLE, Int.reduceEq, Int.reduceNe, Int.reduceBEq, IntKind.bits, bne_self_eq_false, Int.reducePow]
    rw [hrej (by unfold fitsB; rw [if_pos k4]; simp [c1, c2])]
    exact ⟨rfl, wg3 W⟩
  have efit : fitsB x m = decide (m.cd = x.op ∧ (x.cl = 1 ∨ x.cl = 3) ∧ x.pb.length + m.val.length ≤ 65536) := by unfold fitsB; rw [if_neg k4]
  by_cases d1 : m.cd = x.op
  rotate_left
  · simp only [sx, x_box, x_alloc, x_bslice, x_slice, x_append, x_appz, x_s2b, x_mark, xop, ev, evs, evParts, fillL, cellsL, Ai.get, Ai.put, stab, isNil?, if_false, if_true, addr?, int?, str?, agg?, bool?, shiftA, FnPost, xresL, xres1, tup, argEnv, ptr, Nat.reduceEqDiff, reduceIte, beq_self_eq_true, ne_eq, Nat.reduceAdd, Nat.reduceMul, Nat.reduceSub, abin_shl, abin_shr, load1V, loadV, storeV, cellsAt, getN, setN, allocV, lenL, lenS, bnd, oneC, Value.oneCell', Nat.reduceLeDiff, Nat.reduceLT, exists_eq_left', forall_const, reduceCtorEq, app_new, app_new0, List.append_assoc, Int.reduceToNat, Int.reduceLT, Int.reduceLE, Int.reduceEq, Int.reduceNe, Int.reduceBEq, IntKind.bits, bne_self_eq_false, Int.reducePow, hR33, hT3, k4, d1, em]
    refine xcall (hov A3) (by rfl) (by rfl) (by rfl) (by rfl) ?_
    intro r g4 W
    simp only [sx, x_box, x_alloc, x_bslice, x_slice, x_append, x_appz, x_b2s, x_s2b, x_mark, xop, ev, evs, evParts, fillL, cellsL, Ai.get, Ai.put, stab, isNil?, if_false, if_true, addr?, int?, str?, agg?, bool?, shiftA, FnPost, xresL, xres1, tup, argEnv, ptr, Nat.reduceEqDiff, reduceIte, beq_self_eq_true, ne_eq, Nat.reduceAdd, Nat.reduceMul, Nat.reduceSub, abin_shl, abin_shr, load1V, loadV, storeV, cellsAt, getN, setN, allocV, lenL, lenS, bnd, oneC, Value.oneCell', Nat.reduceLeDiff, Nat.reduceLT, exists_eq_left', forall_const, reduceCtorEq, app_new, app_new0, List.append_assoc, Int.reduceToNat, Int.reduceLT, Int.reduceLE, Int.reduceEq, Int.reduceNe, Int.reduceBEq, IntKind.bits, bne_self_eq_false, Int.reducePow]
    rw [hrej (by rw [efit]; simp [d1])]
    exact ⟨rfl, wg3 W⟩
  have d1' : ¬ m.cd ≠ x.op := fun h => h d1
  by_cases c2 : x.cl = 2
  · simp only [sx, x_box, x_alloc, x_bslice, x_slice, x_append, x_appz, x_s2b, x_mark, xop, ev, evs, evParts, fillL, cellsL, Ai.get, Ai.put, stab, isNil?, if_false, if_true, addr?, int?, str?, agg?, bool?, shiftA, FnPost, xresL, xres1, tup, argEnv, ptr, Nat.reduceEqDiff, reduceIte, beq_self_eq_true, ne_eq, Nat.reduceAdd, Nat.reduceMul, Nat.reduceSub, abin_shl, abin_shr, load1V, loadV, storeV, cellsAt, getN, setN, allocV, lenL, lenS, bnd, oneC, Value.oneCell', Nat.reduceLeDiff, Nat.reduceLT, exists_eq_left', forall_const, reduceCtorEq, app_new, app_new0, List.append_assoc, Int.reduceToNat, Int.reduceLT, Int.reduceLE, Int.reduceEq, Int.reduceNe, Int.reduceBEq, IntKind.bits, bne_self_eq_false, Int.reducePow, hR33, hT3, k4, d1', c2, em]
    refine xcall (hov A3) (by rfl) (by rfl) (by rfl) (by rfl) ?_
    intro r g4 W
    simp only [sx, x_box, x_alloc, x_bslice, x_slice, x_append, x_appz, x_b2s, x_s2b, x_mark, xop, ev, evs, evParts, fillL, cellsL, Ai.get, Ai.put, stab, isNil?, if_false, if_true, addr?, int?, str?, agg?, bool?, shiftA, FnPost, xresL, xres1, tup, argEnv, ptr, Nat.reduceEqDiff, reduceIte, beq_self_eq_true, ne_eq, Nat.reduceAdd, Nat.reduceMul, Nat.reduceSub, abin_shl, abin_shr, load1V, loadV, storeV, cellsAt, getN, setN, allocV, lenL, lenS, bnd, oneC, Value.oneCell', Nat.reduceLeDiff, Nat.reduceLT, exists_eq_left', forall_const, reduceCtorEq, app_new, app_new0, List.append_assoc, Int.reduceToNat, Int.reduceLT, Int.reduceLE, Int.reduceEq, Int.reduceNe, Int.reduceBEq, IntKind.bits, bne_self_eq_false, Int.reducePow]
    rw [hrej (by rw [efit]; simp [c2])]
    exact ⟨rfl, wg3 W⟩
  by_cases c4 : x.cl = 4
  · have c42 : ¬ (4 : Int) = 2 := by decide
    simp only [sx, x_box, x_alloc, x_bslice, x_slice, x_append, x_appz, x_s2b, x_mark, xop, ev, evs, evParts, fillL, cellsL, Ai.get, Ai.put, stab, isNil?, if_false, if_true, addr?, int?, str?, agg?, bool?, shiftA, FnPost, xresL, xres1, tup, argEnv, ptr, Nat.reduceEqDiff, reduceIte, beq_self_eq_true, ne_eq, Nat.reduceAdd, Nat.reduceMul, Nat.reduceSub, abin_shl, abin_shr, load1V, loadV, storeV, cellsAt, getN, setN, allocV, lenL, lenS, bnd, oneC, Value.oneCell', Nat.reduceLeDiff, Nat.reduceLT, exists_eq_left', forall_const, reduceCtorEq, app_new, app_new0, List.append_assoc, Int.reduceToNat, Int.reduceLT, Int.reduceLE, Int.reduceEq, Int.reduceNe, Int.reduceBEq, IntKind.bits, bne_self_eq_false, Int.reducePow, hR33, hT3, k4, d1', c4, c42, em]
    refine xcall (hov A3) (by rfl) (by rfl) (by rfl) (by rfl) ?_
    intro r g4 W
    simp only [sx, x_box, x_alloc, x_bslice, x_slice, x_append, x_appz, x_b2s, x_s2b, x_mark, xop, ev, evs, evParts, fillL, cellsL, Ai.get, Ai.put, stab, isNil?, if_false, if_true, addr?, int?, str?, agg?, bool?, shiftA, FnPost, xresL, xres1, tup, argEnv, ptr, Nat.reduceEqDiff, reduceIte, beq_self_eq_true, ne_eq, Nat.reduceAdd, Nat.reduceMul, Nat.reduceSub, abin_shl, abin_shr, load1V, loadV, storeV, cellsAt, getN, setN, allocV, lenL, lenS, bnd, oneC, Value.oneCell', Nat.reduceLeDiff, Nat.reduceLT, exists_eq_left', forall_const, reduceCtorEq, app_new, app_new0, List.append_assoc, Int.reduceToNat, Int.reduceLT, Int.reduceLE, Int.reduceEq, Int.reduceNe, Int.reduceBEq, IntKind.bits, bne_self_eq_false, Int.reducePow]
    rw [hrej (by rw [efit]; simp [c4])]
    exact ⟨rfl, wg3 W⟩
  have c13 : x.cl = 1 ∨ x.cl = 3 := by omega
  have ws : IntKind.i64.wrap ((se.size : Int) + (m.val.length : Int)) = ((x.pb.length + m.val.length : Nat) : Int) := by rw [hsz, i64_wrap] <;> omega
  by_cases hl : x.pb.length + m.val.length ≤ 65536
  rotate_left
  · have hl' : (65536 : Int) < ((x.pb.length + m.val.length : Nat) : Int) := by omega
    simp only [sx, x_box, x_alloc, x_bslice, x_slice, x_append, x_appz, x_s2b, x_mark, xop, ev, evs, evParts, fillL, cellsL, Ai.get, Ai.put, stab, isNil?, if_false, if_true, addr?, int?, str?, agg?, bool?, shiftA, FnPost, xresL, xres1, tup, argEnv, ptr, Nat.reduceEqDiff, reduceIte, beq_self_eq_true, ne_eq, Nat.reduceAdd, Nat.reduceMul, Nat.reduceSub, abin_shl, abin_shr, load1V, loadV, storeV, cellsAt, getN, setN, allocV, lenL, lenS, bnd, oneC, Value.oneCell', Nat.reduceLeDiff, Nat.reduceLT, exists_eq_left', forall_const, reduceCtorEq, app_new, app_new0, List.append_assoc, Int.reduceToNat, Int.reduceLT, Int.reduceLE, Int.reduceEq, Int.reduceNe, Int.reduceBEq, IntKind.bits, bne_self_eq_false, Int.reducePow, hR33, hT3, k4, d1', c2, c4, ws, hl', em]
    refine xcall (hov A3) (by rfl) (by rfl) (by rfl) (by rfl) ?_
    intro r g4 W
    simp only [sx, x_box, x_alloc, x_bslice, x_slice, x_append, x_appz, x_b2s, x_s2b, x_mark, xop, ev, evs, evParts, fillL, cellsL, Ai.get, Ai.put, stab, isNil?, if_false, if_true, addr?, int?, str?, agg?, bool?, shiftA, FnPost, xresL, xres1, tup, argEnv, ptr, Nat.reduceEqDiff, reduceIte, beq_self_eq_true, ne_eq, Nat.reduceAdd, Nat.reduceMul, Nat.reduceSub, abin_shl, abin_shr, load1V, loadV, storeV, cellsAt, getN, setN, allocV, lenL, lenS, bnd, oneC, Value.oneCell', Nat.reduceLeDiff, Nat.reduceLT, exists_eq_left', forall_const, reduceCtorEq, app_new, app_new0, List.append_assoc, Int.reduceToNat, Int.reduceLT, Int.reduceLE, Int.reduceEq, Int.reduceNe, Int.reduceBEq, IntKind.bits, bne_self_eq_false, Int.reducePow]
    rw [hrej (by rw [efit]; simp [hl])]
    exact ⟨rfl, wg3 W⟩
  have hl' : ¬ (65536 : Int) < ((x.pb.length + m.val.length : Nat) : Int) := by omega
  have hf1 : fitsB x m = true := by rw [efit]; simp only [d1, c13, hl, and_self, decide_true]
  have hcat := abin_sadd (s := se) (t := str) (by omega)
  have hbc : bOf (se ++ str) = x.pb ++ m.val := by rw [bOf_app, hse, hbs]
  by_cases k3 : m.k = 3
  · simp only [sx, x_box, x_alloc, x_bslice, x_slice, x_append, x_appz, x_s2b, x_mark, xop, ev, evs, evParts, fillL, cellsL, Ai.get, Ai.put, stab, isNil?, if_false, if_true, addr?, int?, str?, agg?, bool?, shiftA, FnPost, xresL, xres1, tup, argEnv, ptr, Nat.reduceEqDiff, reduceIte, beq_self_eq_true, ne_eq, Nat.reduceAdd, Nat.reduceMul, Nat.reduceSub, abin_shl, abin_shr, load1V, loadV, storeV, cellsAt, getN, setN, allocV, lenL, lenS, bnd, oneC, Value.oneCell', Nat.reduceLeDiff, Nat.reduceLT, exists_eq_left', forall_const, reduceCtorEq, app_new, app_new0, List.append_assoc, Int.reduceToNat, Int.reduceLT, Int.reduceLE, Int.reduceEq, Int.reduceNe, Int.reduceBEq, IntKind.bits, bne_self_eq_false, Int.reducePow, hR33, hT3, k4, d1', c2, c4, ws, hl', k3, hM3, hR3', e1, hlt']
    rw [x_b2s, b2s_first (by rfl) hV3 hstr]
    have hk5 : b.pos i * 5 + 5 ≤ cells.length := by rw [o.len, ops_len]; omega
    have hle : b.pos i * 5 + 4 + 1 ≤ cells.length := by omega
    have o4 := o.upd4 hat (se ++ str)
    have hy : opn { x with pb := bOf (se ++ str) } = true := hox
    have hops2 := ops_upd hat { x with pb := bOf (se ++ str) } hy b.nx b.es
    have hops3 : Bk.ops ⟨b.is.set i { x with pb := bOf (se ++ str) }, b.nx, b.es⟩ = b.ops.set (b.pos i) (i, { x with pb := bOf (se ++ str) }) := hops2
    simp only at o4
    rw [← hops3] at o4
    have A4 := A3.putRow (b' := ⟨b.is.set i { x with pb := bOf (se ++ str) }, b.nx, b.es⟩) o4 (by rw [hops3, List.length_set, ops_len]) rfl rfl (by show (b.is.set _ _).length = 128; rw [List.length_set]; exact A1.n)
    rw [hbc] at A4
    simp only [sx, x_box, x_alloc, x_bslice, x_slice, x_append, x_appz, x_b2s, x_s2b, x_mark, xop, ev, evs, evParts, fillL, cellsL, Ai.get, Ai.put, stab, isNil?, if_false, if_true, addr?, int?, str?, agg?, bool?, shiftA, FnPost, xresL, xres1, tup, argEnv, ptr, Nat.reduceEqDiff, reduceIte, beq_self_eq_true, ne_eq, Nat.reduceAdd, Nat.reduceMul, Nat.reduceSub, abin_shl, abin_shr, load1V, loadV, storeV, cellsAt, getN, setN, allocV, lenL, lenS, bnd, oneC, Value.oneCell', Nat.reduceLeDiff, Nat.reduceLT, exists_eq_left', forall_const, reduceCtorEq, app_new, app_new0, List.append_assoc, Int.reduceToNat, Int.reduceLT, Int.reduceLE, Int.reduceEq, Int.reduceNe, Int.reduceBEq, IntKind.bits, bne_self_eq_false, Int.reducePow, hcat, hM3, hR3', e1, hlt', hle]
    rw [hfit hf1, if_pos k3]
    exact ⟨rfl, wg3 ⟨_, _, A4, Fr.set _ (.inr (.inl rfl)), fun X hX => .inl hX⟩⟩
  · simp only [sx, x_box, x_alloc, x_bslice, x_slice, x_append, x_appz, x_s2b, x_mark, xop, ev, evs, evParts, fillL, cellsL, Ai.get, Ai.put, stab, isNil?, if_false, if_true, addr?, int?, str?, agg?, bool?, shiftA, FnPost, xresL, xres1, tup, argEnv, ptr, Nat.reduceEqDiff, reduceIte, beq_self_eq_true, ne_eq, Nat.reduceAdd, Nat.reduceMul, Nat.reduceSub, abin_shl, abin_shr, load1V, loadV, storeV, cellsAt, getN, setN, allocV, lenL, lenS, bnd, oneC, Value.oneCell', Nat.reduceLeDiff, Nat.reduceLT, exists_eq_left', forall_const, reduceCtorEq, app_new, app_new0, List.append_assoc, Int.reduceToNat, Int.reduceLT, Int.reduceLE, Int.reduceEq, Int.reduceNe, Int.reduceBEq, IntKind.bits, bne_self_eq_false, Int.reducePow, hR33, hT3, k4, d1', c2, c4, ws, hl', k3]
    rw [x_b2s, b2s_first (by rfl) hV3 hstr]
    simp only [sx, x_box, x_alloc, x_bslice, x_slice, x_append, x_appz, x_b2s, x_s2b, x_mark, xop, ev, evs, evParts, fillL, cellsL, Ai.get, Ai.put, stab, isNil?, if_false, if_true, addr?, int?, str?, agg?, bool?, shiftA, FnPost, xresL, xres1, tup, argEnv, ptr, Nat.reduceEqDiff, reduceIte, beq_self_eq_true, ne_eq, Nat.reduceAdd, Nat.reduceMul, Nat.reduceSub, abin_shl, abin_shr, load1V, loadV, storeV, cellsAt, getN, setN, allocV, lenL, lenS, bnd, oneC, Value.oneCell', Nat.reduceLeDiff, Nat.reduceLT, exists_eq_left', forall_const, reduceCtorEq, app_new, app_new0, List.append_assoc, Int.reduceToNat, Int.reduceLT, Int.reduceLE, Int.reduceEq, Int.reduceNe, Int.reduceBEq, IntKind.bits, bne_self_eq_false, Int.reducePow, hcat]
    refine xcall (hov A3) (by rfl) (by rfl) (by rfl) (by rfl) ?_
    intro r g4 W
    simp only [sx, x_box, x_alloc, x_bslice, x_slice, x_append, x_appz, x_b2s, x_s2b, x_mark, xop, ev, evs, evParts, fillL, cellsL, Ai.get, Ai.put, stab, isNil?, if_false, if_true, addr?, int?, str?, agg?, bool?, shiftA, FnPost, xresL, xres1, tup, argEnv, ptr, Nat.reduceEqDiff, reduceIte, beq_self_eq_true, ne_eq, Nat.reduceAdd, Nat.reduceMul, Nat.reduceSub, abin_shl, abin_shr, load1V, loadV, storeV, cellsAt, getN, setN, allocV, lenL, lenS, bnd, oneC, Value.oneCell', Nat.reduceLeDiff, Nat.reduceLT, exists_eq_left', forall_const, reduceCtorEq, app_new, app_new0, List.append_assoc, Int.reduceToNat, Int.reduceLT, Int.reduceLE, Int.reduceEq, Int.reduceNe, Int.reduceBEq, IntKind.bits, bne_self_eq_false, Int.reducePow]
    rw [hfit hf1, if_neg k3, if_neg k4]
    rw [hbc] at W
    exact ⟨rfl, wg3 W⟩
end Go.Proofs.Ytpbbmnfffolcoaa
