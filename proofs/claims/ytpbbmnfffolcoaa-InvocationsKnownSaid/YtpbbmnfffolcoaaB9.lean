import Derived.Test.YtpbbmnfffolcoaaB8
set_option linter.unusedVariables false
set_option linter.unusedSimpArgs false
namespace Go.Proofs.Ytpbbmnfffolcoaa
open Go Go.Ai Go.Proofs

def iterB (f : Bk → Nat → Bk) (b : Bk) : Nat → Bk
  | 0 => b
  | n + 1 => f (iterB f b n) n
theorem iterB_succ (f : Bk → Nat → Bk) (b : Bk) (n : Nat) : iterB f b (n + 1) = f (iterB f b n) n := rfl
/-- what holds of every book -/
structure Bk.Ok (b : Bk) : Prop where
  wt : ∀ x ∈ b.is, 0 ≤ x.wt ∧ x.wt ≤ 1048576
  pb : ∀ x ∈ b.is, x.pb.length ≤ 65536
  cl : ∀ x ∈ b.is, 0 ≤ x.cl ∧ x.cl ≤ 4
theorem Bk.Ok.setI {b : Bk} (o : b.Ok) {i : Nat} {x : Iv} (h1 : 0 ≤ x.wt ∧ x.wt ≤ 1048576) (h2 : x.pb.length ≤ 65536) (h3 : 0 ≤ x.cl ∧ x.cl ≤ 4) {nx : Nat} {es : List En} : Bk.Ok ⟨b.is.set i x, nx, es⟩ :=
  ⟨fun y hy => (List.mem_or_eq_of_mem_set hy).elim (o.wt y) (fun e => by rw [e]; exact h1), fun y hy => (List.mem_or_eq_of_mem_set hy).elim (o.pb y) (fun e => by rw [e]; exact h2), fun y hy => (List.mem_or_eq_of_mem_set hy).elim (o.cl y) (fun e => by rw [e]; exact h3)⟩
theorem Bk.Ok.over {b : Bk} (o : b.Ok) (i : Nat) (how code : Int) (bs : List Nat) : (b.over i how code bs).Ok := o.setI (by decide) (by decide) (by decide)
def Bk.close1 (b : Bk) (i : Nat) : Bk := if b.isO (i : Int) = true then b.over i 5 0 [] else b
def Bk.tick1 (b : Bk) (i : Nat) : Bk := if b.isO (i : Int) = true then
    let x := b.is[i]?.getD iv0
    if 0 < x.wt - 1 then ⟨b.is.set i { x with wt := x.wt - 1 }, b.nx, b.es⟩ else if x.cl = 2 ∨ x.cl = 4 then b.over i 1 0 [] else b.over i 4 0 []
  else b
theorem tick1_no {b : Bk} {i : Nat} (h : b.isO (i : Int) = false) : b.tick1 i = b := by
  unfold Bk.tick1; rw [h, if_neg (by decide)]
theorem tick1_go {b : Bk} {i : Nat} {x : Iv} (h : b.isO (i : Int) = true) (hx : b.is[i]? = some x) (hw : 0 < x.wt - 1) : b.tick1 i = ⟨b.is.set i { x with wt := x.wt - 1 }, b.nx, b.es⟩ := by
  unfold Bk.tick1; rw [h, if_pos rfl, hx]
  exact if_pos hw
theorem tick1_res {b : Bk} {i : Nat} {x : Iv} (h : b.isO (i : Int) = true) (hx : b.is[i]? = some x) (hw : ¬ 0 < x.wt - 1) (hc : x.cl = 2 ∨ x.cl = 4) : b.tick1 i = b.over i 1 0 [] := by
  unfold Bk.tick1; rw [h, if_pos rfl, hx]
  exact (if_neg hw).trans (if_pos hc)
theorem tick1_out {b : Bk} {i : Nat} {x : Iv} (h : b.isO (i : Int) = true) (hx : b.is[i]? = some x) (hw : ¬ 0 < x.wt - 1) (hc : ¬ (x.cl = 2 ∨ x.cl = 4)) : b.tick1 i = b.over i 4 0 [] := by
  unfold Bk.tick1; rw [h, if_pos rfl, hx]
  exact (if_neg hw).trans (if_neg hc)
theorem close1_ok {b : Bk} (o : b.Ok) (i : Nat) : (b.close1 i).Ok := by
  unfold Bk.close1; split
  · exact o.over _ _ _ _
  · exact o
theorem close1_es (b : Bk) (i : Nat) : (b.close1 i).es.length ≤ b.es.length + 1 := by
  unfold Bk.close1; split
  · simp [Bk.over]
  · omega
theorem tick1_es (b : Bk) (i : Nat) : (b.tick1 i).es.length ≤ b.es.length + 1 := by
  unfold Bk.tick1; split
  · simp only
    split
    · simp
    · split <;> simp [Bk.over]
  · omega
theorem isO_mem {b : Bk} {i : Nat} (h : b.isO (i : Int) = true) (hl : b.is.length = 128) : (b.is[i]?.getD iv0) ∈ b.is := by
  obtain ⟨k, hk, hk'⟩ := isO_nat h
  have : i = k := by omega
  subst this
  rw [List.getElem?_eq_getElem (by omega)]
  exact List.getElem_mem _
theorem tick1_ok {b : Bk} (o : b.Ok) (hl : b.is.length = 128) (i : Nat) : (b.tick1 i).Ok := by
  unfold Bk.tick1; split
  · rename_i h
    have hm := isO_mem h hl
    have h1 := o.wt _ hm
    have h2 := o.pb _ hm
    simp only
    split
    · exact o.setI (x := { (b.is[i]?.getD iv0) with wt := (b.is[i]?.getD iv0).wt - 1 }) (show 0 ≤ (b.is[i]?.getD iv0).wt - 1 ∧ (b.is[i]?.getD iv0).wt - 1 ≤ 1048576 from by omega) h2 (show 0 ≤ (b.is[i]?.getD iv0).cl ∧ (b.is[i]?.getD iv0).cl ≤ 4 from o.cl _ hm)
    · split <;> exact o.over _ _ _ _
  · exact o
theorem iter_inv {f : Bk → Nat → Bk} {P : Bk → Prop} (hf : ∀ b i, P b → P (f b i)) {b : Bk} (h : P b) : ∀ n, P (iterB f b n)
  | 0 => h
  | n + 1 => hf _ _ (iter_inv hf h n)
theorem iter_es {f : Bk → Nat → Bk} (hf : ∀ b i, (f b i).es.length ≤ b.es.length + 1) (b : Bk) : ∀ n, (iterB f b n).es.length ≤ b.es.length + n
  | 0 => Nat.le_refl _
  | n + 1 => by have := iter_es hf b n; have := hf (iterB f b n) n; show (f (iterB f b n) n).es.length ≤ _; omega
def Bk.close (b : Bk) : Bk := iterB Bk.close1 b 128
def Bk.tick (b : Bk) : Bk := iterB Bk.tick1 b 128
def ClI (h0 : AHeap) (B : Nat) (b : Bk) (dv : Value) (m : Nat) (ρ : Env) (h : AHeap) : Prop := ∃ i : Nat, i + m = 128 ∧ get ρ 3 = some (.int .i64 (i : Nat)) ∧ get ρ 0 = some (.pointer (some ⟨B, 0, none⟩)) ∧ WentB h0 h B (iterB Bk.close1 b i) dv
def ClE (h0 : AHeap) (B : Nat) (b : Bk) (dv : Value) (ρ : Env) (h : AHeap) : Prop := WentB h0 h B b.close dv
set_option maxHeartbeats 4000000 in
theorem close_ok {h : AHeap} {B : Nat} {b : Bk} {rs : List (Iv × Value)} {dv : Value} (A : BkAt h B b rs dv) (hel : b.es.length ≤ 999000) : Valid Try.prog 19 [.pointer (some ⟨B, 0, none⟩)] h fun r h' => WentB h h' B b.close dv := by
  refine v19 (by simp) ?_
  simp only [X19, sx, x_box, x_alloc, x_bslice, x_slice, x_append, x_appz, x_b2s, x_s2b, x_mark, xop, ev, evs, evParts, fillL, cellsL, Ai.get, Ai.put, stab, isNil?, if_false, if_true, addr?, int?, str?, agg?, bool?, shiftA, FnPost, xresL, xres1, tup, argEnv, ptr, Nat.reduceEqDiff, reduceIte, beq_self_eq_true, ne_eq, Nat.reduceAdd, Nat.reduceMul, Nat.reduceSub, abin_shl, abin_shr, load1V, loadV, storeV, cellsAt, getN, setN, allocV, lenL, lenS, bnd, oneC, Value.oneCell', Nat.reduceLeDiff, Nat.reduceLT, exists_eq_left', forall_const, reduceCtorEq, app_new, app_new0, List.append_assoc, Int.reduceToNat, Int.reduceLT, Int.reduceLE, Int.reduceEq, Int.reduceNe, Int.reduceBEq, IntKind.bits, bne_self_eq_false, Int.reducePow]
  refine xloop_cut (ClE h B b dv) ?_ ?_
  · refine xcode_loop (ClI h B b dv) 128 ⟨0, by omega, rfl, rfl, A.same (Kp.refl _)⟩ ?_
    rintro m ρ g ⟨i, him, g3, g0, W⟩
    by_cases hi : i < 128
    · have hi' : (i : Int) < 128 := by omega
      have wi : IntKind.i64.wrap ((i : Int) + 1) = ((i + 1 : Nat) : Int) := by rw [i64_wrap] <;> omega
      obtain ⟨rs1, dv1, A1, F1, n1⟩ := W
      have he := iter_es close1_es b i
      simp only [sx, x_box, x_alloc, x_bslice, x_slice, x_append, x_appz, x_b2s, x_s2b, x_mark, xop, ev, evs, evParts, fillL, cellsL, Ai.get, Ai.put, stab, isNil?, if_false, if_true, addr?, int?, str?, agg?, bool?, shiftA, FnPost, xresL, xres1, tup, argEnv, ptr, Nat.reduceEqDiff, reduceIte, beq_self_eq_true, ne_eq, Nat.reduceAdd, Nat.reduceMul, Nat.reduceSub, abin_shl, abin_shr, load1V, loadV, storeV, cellsAt, getN, setN, allocV, lenL, lenS, bnd, oneC, Value.oneCell', Nat.reduceLeDiff, Nat.reduceLT, exists_eq_left', forall_const, reduceCtorEq, app_new, app_new0, List.append_assoc, Int.reduceToNat, Int.reduceLT, Int.reduceLE, Int.reduceEq, Int.reduceNe, Int.reduceBEq, IntKind.bits, bne_self_eq_false, Int.reducePow, g3, g0, hi']
      refine xcall (is_ok (id := (i : Int)) A1) (by rfl) (by rfl) (by rfl) (by rfl) ?_
      rintro r h2 ⟨rfl, e0⟩
      subst e0
      cases ho : (iterB Bk.close1 b i).isO (i : Int)
      · simp only [sx, x_box, x_alloc, x_bslice, x_slice, x_append, x_appz, x_b2s, x_s2b, x_mark, xop, ev, evs, evParts, fillL, cellsL, Ai.get, Ai.put, stab, isNil?, if_false, if_true, addr?, int?, str?, agg?, bool?, shiftA, FnPost, xresL, xres1, tup, argEnv, ptr, Nat.reduceEqDiff, reduceIte, beq_self_eq_true, ne_eq, Nat.reduceAdd, Nat.reduceMul, Nat.reduceSub, abin_shl, abin_shr, load1V, loadV, storeV, cellsAt, getN, setN, allocV, lenL, lenS, bnd, oneC, Value.oneCell', Nat.reduceLeDiff, Nat.reduceLT, exists_eq_left', forall_const, reduceCtorEq, app_new, app_new0, List.append_assoc, Int.reduceToNat, Int.reduceLT, Int.reduceLE, Int.reduceEq, Int.reduceNe, Int.reduceBEq, IntKind.bits, bne_self_eq_false, Int.reducePow, g3, wi]
        refine ⟨m - 1, by omega, i + 1, by omega, rfl, g0, ?_⟩
        rw [iterB_succ]
        rw [Bk.close1]
        rw [ho, if_neg (by decide)]
        exact ⟨rs1, dv1, A1, F1, n1⟩
      · simp only [sx, x_box, x_alloc, x_bslice, x_slice, x_append, x_appz, x_b2s, x_s2b, x_mark, xop, ev, evs, evParts, fillL, cellsL, Ai.get, Ai.put, stab, isNil?, if_false, if_true, addr?, int?, str?, agg?, bool?, shiftA, FnPost, xresL, xres1, tup, argEnv, ptr, Nat.reduceEqDiff, reduceIte, beq_self_eq_true, ne_eq, Nat.reduceAdd, Nat.reduceMul, Nat.reduceSub, abin_shl, abin_shr, load1V, loadV, storeV, cellsAt, getN, setN, allocV, lenL, lenS, bnd, oneC, Value.oneCell', Nat.reduceLeDiff, Nat.reduceLT, exists_eq_left', forall_const, reduceCtorEq, app_new, app_new0, List.append_assoc, Int.reduceToNat, Int.reduceLT, Int.reduceLE, Int.reduceEq, Int.reduceNe, Int.reduceBEq, IntKind.bits, bne_self_eq_false, Int.reducePow, g0]
        refine xcall (over_ok A1 hi cat_nil (by decide) (by omega)) (by rfl) (by rfl) (by rfl) (by rfl) ?_
        intro r h3 W2
        simp only [sx, x_box, x_alloc, x_bslice, x_slice, x_append, x_appz, x_b2s, x_s2b, x_mark, xop, ev, evs, evParts, fillL, cellsL, Ai.get, Ai.put, stab, isNil?, if_false, if_true, addr?, int?, str?, agg?, bool?, shiftA, FnPost, xresL, xres1, tup, argEnv, ptr, Nat.reduceEqDiff, reduceIte, beq_self_eq_true, ne_eq, Nat.reduceAdd, Nat.reduceMul, Nat.reduceSub, abin_shl, abin_shr, load1V, loadV, storeV, cellsAt, getN, setN, allocV, lenL, lenS, bnd, oneC, Value.oneCell', Nat.reduceLeDiff, Nat.reduceLT, exists_eq_left', forall_const, reduceCtorEq, app_new, app_new0, List.append_assoc, Int.reduceToNat, Int.reduceLT, Int.reduceLE, Int.reduceEq, Int.reduceNe, Int.reduceBEq, IntKind.bits, bne_self_eq_false, Int.reducePow, g3, wi]
        refine ⟨m - 1, by omega, i + 1, by omega, rfl, g0, ?_⟩
        rw [iterB_succ]
        rw [Bk.close1]
        rw [ho, if_pos rfl]
        obtain ⟨rs2, dv2, A2, F2, n2⟩ := W2
        refine ⟨rs2, dv2, A2, F1.trans F2 n1, fun X hX => ?_⟩
        have := F1.1
        rcases n2 X hX with h | h
        · exact n1 X h
        · exact .inr (by omega)
    · have hi' : ¬ (i : Int) < 128 := by omega
      have : i = 128 := by omega
      subst this
      simp only [sx, x_box, x_alloc, x_bslice, x_slice, x_append, x_appz, x_b2s, x_s2b, x_mark, xop, ev, evs, evParts, fillL, cellsL, Ai.get, Ai.put, stab, isNil?, if_false, if_true, addr?, int?, str?, agg?, bool?, shiftA, FnPost, xresL, xres1, tup, argEnv, ptr, Nat.reduceEqDiff, reduceIte, beq_self_eq_true, ne_eq, Nat.reduceAdd, Nat.reduceMul, Nat.reduceSub, abin_shl, abin_shr, load1V, loadV, storeV, cellsAt, getN, setN, allocV, lenL, lenS, bnd, oneC, Value.oneCell', Nat.reduceLeDiff, Nat.reduceLT, exists_eq_left', forall_const, reduceCtorEq, app_new, app_new0, List.append_assoc, Int.reduceToNat, Int.reduceLT, Int.reduceLE, Int.reduceEq, Int.reduceNe, Int.reduceBEq, IntKind.bits, bne_self_eq_false, Int.reducePow, g3, hi']
      exact W
  · intro ρ h' e0
    simp only [sx, x_box, x_alloc, x_bslice, x_slice, x_append, x_appz, x_b2s, x_s2b, x_mark, xop, ev, evs, evParts, fillL, cellsL, Ai.get, Ai.put, stab, isNil?, if_false, if_true, addr?, int?, str?, agg?, bool?, shiftA, FnPost, xresL, xres1, tup, argEnv, ptr, Nat.reduceEqDiff, reduceIte, beq_self_eq_true, ne_eq, Nat.reduceAdd, Nat.reduceMul, Nat.reduceSub, abin_shl, abin_shr, load1V, loadV, storeV, cellsAt, getN, setN, allocV, lenL, lenS, bnd, oneC, Value.oneCell', Nat.reduceLeDiff, Nat.reduceLT, exists_eq_left', forall_const, reduceCtorEq, app_new, app_new0, List.append_assoc, Int.reduceToNat, Int.reduceLT, Int.reduceLE, Int.reduceEq, Int.reduceNe, Int.reduceBEq, IntKind.bits, bne_self_eq_false, Int.reducePow]
    first | exact e0 | exact ⟨⟨_, rfl⟩, e0⟩
def TkI (h0 : AHeap) (B : Nat) (b : Bk) (dv : Value) (m : Nat) (ρ : Env) (h : AHeap) : Prop := ∃ i : Nat, i + m = 128 ∧ get ρ 4 = some (.int .i64 (i : Nat)) ∧ get ρ 0 = some (.pointer (some ⟨B, 0, none⟩)) ∧ WentB h0 h B (iterB Bk.tick1 b i) dv ∧ (iterB Bk.tick1 b i).Ok
def TkE (h0 : AHeap) (B : Nat) (b : Bk) (dv : Value) (ρ : Env) (h : AHeap) : Prop := WentB h0 h B b.tick dv
set_option maxHeartbeats 4000000 in
theorem tick_ok {h : AHeap} {B : Nat} {b : Bk} {rs : List (Iv × Value)} {dv : Value} (A : BkAt h B b rs dv) (o : b.Ok) (hel : b.es.length ≤ 999000) : Valid Try.prog 20 [.pointer (some ⟨B, 0, none⟩)] h fun r h' => WentB h h' B b.tick dv := by
  refine v20 (by simp) ?_
  simp only [X20, sx, x_box, x_alloc, x_bslice, x_slice, x_append, x_appz, x_b2s, x_s2b, x_mark, xop, ev, evs, evParts, fillL, cellsL, Ai.get, Ai.put, stab, isNil?, if_false, if_true, addr?, int?, str?, agg?, bool?, shiftA, FnPost, xresL, xres1, tup, argEnv, ptr, Nat.reduceEqDiff, reduceIte, beq_self_eq_true, ne_eq, Nat.reduceAdd, Nat.reduceMul, Nat.reduceSub, abin_shl, abin_shr, load1V, loadV, storeV, cellsAt, getN, setN, allocV, lenL, lenS, bnd, oneC, Value.oneCell', Nat.reduceLeDiff, Nat.reduceLT, exists_eq_left', forall_const, reduceCtorEq, app_new, app_new0, List.append_assoc, Int.reduceToNat, Int.reduceLT, Int.reduceLE, Int.reduceEq, Int.reduceNe, Int.reduceBEq, IntKind.bits, bne_self_eq_false, Int.reducePow]
  refine xloop_cut (TkE h B b dv) ?_ ?_
  · refine xcode_loop (TkI h B b dv) 128 ⟨0, by omega, rfl, rfl, A.same (Kp.refl _), o⟩ ?_
    rintro m ρ g ⟨i, him, g3, g0, W, ok⟩
    by_cases hi : i < 128
    · have hi' : (i : Int) < 128 := by omega
      have wi : IntKind.i64.wrap ((i : Int) + 1) = ((i + 1 : Nat) : Int) := by rw [i64_wrap] <;> omega
      obtain ⟨rs1, dv1, A1, F1, n1⟩ := W
      have he := iter_es tick1_es b i
      have ok' := tick1_ok ok A1.len i
      simp only [sx, x_box, x_alloc, x_bslice, x_slice, x_append, x_appz, x_b2s, x_s2b, x_mark, xop, ev, evs, evParts, fillL, cellsL, Ai.get, Ai.put, stab, isNil?, if_false, if_true, addr?, int?, str?, agg?, bool?, shiftA, FnPost, xresL, xres1, tup, argEnv, ptr, Nat.reduceEqDiff, reduceIte, beq_self_eq_true, ne_eq, Nat.reduceAdd, Nat.reduceMul, Nat.reduceSub, abin_shl, abin_shr, load1V, loadV, storeV, cellsAt, getN, setN, allocV, lenL, lenS, bnd, oneC, Value.oneCell', Nat.reduceLeDiff, Nat.reduceLT, exists_eq_left', forall_const, reduceCtorEq, app_new, app_new0, List.append_assoc, Int.reduceToNat, Int.reduceLT, Int.reduceLE, Int.reduceEq, Int.reduceNe, Int.reduceBEq, IntKind.bits, bne_self_eq_false, Int.reducePow, g3, g0, hi']
      refine xcall (is_ok (id := (i : Int)) A1) (by rfl) (by rfl) (by rfl) (by rfl) ?_
      rintro r h2 ⟨rfl, e0⟩
      subst e0
      have step : ∀ {g' : AHeap}, WentB h2 g' B ((iterB Bk.tick1 b i).tick1 i) dv1 → WentB h g' B (iterB Bk.tick1 b (i + 1)) dv := fun {g'} W2 => by
        rw [iterB_succ]
        obtain ⟨rs2, dv2, A2, F2, n2⟩ := W2
        refine ⟨rs2, dv2, A2, F1.trans F2 n1, fun X hX => ?_⟩
        have := F1.1
        rcases n2 X hX with h | h
        · exact n1 X h
        · exact .inr (by omega)
      cases ho : (iterB Bk.tick1 b i).isO (i : Int)
      · simp only [sx, x_box, x_alloc, x_bslice, x_slice, x_append, x_appz, x_b2s, x_s2b, x_mark, xop, ev, evs, evParts, fillL, cellsL, Ai.get, Ai.put, stab, isNil?, if_false, if_true, addr?, int?, str?, agg?, bool?, shiftA, FnPost, xresL, xres1, tup, argEnv, ptr, Nat.reduceEqDiff, reduceIte, beq_self_eq_true, ne_eq, Nat.reduceAdd, Nat.reduceMul, Nat.reduceSub, abin_shl, abin_shr, load1V, loadV, storeV, cellsAt, getN, setN, allocV, lenL, lenS, bnd, oneC, Value.oneCell', Nat.reduceLeDiff, Nat.reduceLT, exists_eq_left', forall_const, reduceCtorEq, app_new, app_new0, List.append_assoc, Int.reduceToNat, Int.reduceLT, Int.reduceLE, Int.reduceEq, Int.reduceNe, Int.reduceBEq, IntKind.bits, bne_self_eq_false, Int.reducePow, g3, wi]
        refine ⟨m - 1, by omega, i + 1, by omega, rfl, g0, step ?_, (by rw [iterB_succ]; exact ok')⟩
        rw [tick1_no ho]
        exact A1.same (Kp.refl _)
      · obtain ⟨x, hx, hix⟩ := A1.cls hi
        obtain ⟨hg4, hgj⟩ := rowsB_get (t := [.int .i64 ((iterB Bk.tick1 b i).nx : Int), dv1]) hx
        have h1c := hgj 1 (by decide)
        have h2c := hgj 2 (by decide)
        have r1 : (rwC x)[1]? = some (.int .u8 x.1.cl) := rfl
        have r2 : (rwC x)[2]? = some (.int .i64 x.1.wt) := rfl
        rw [r1] at h1c
        rw [r2] at h2c
        have hm := isO_mem ho A1.len
        rw [hix] at hm
        have hw := ok.wt _ hm
        simp only [Option.getD_some] at hw
        have ww : IntKind.i64.wrap (x.1.wt - 1) = x.1.wt - 1 := by rw [i64_wrap] <;> omega
        have hi0 : (0 : Int) ≤ (i : Int) := by omega
        have hB := A1.obj
        have eL := tailL A1.n (.int .i64 ((iterB Bk.tick1 b i).nx : Int)) dv1
        have eS := rowsB_set1 (t := [.int .i64 ((iterB Bk.tick1 b i).nx : Int), dv1]) (x.1.wt - 1) hx
        have hle : i * 4 + 2 + 1 ≤ 514 := by omega
        have hlt : i * 4 + 2 < 514 := by omega
        have A2 := A1.put (b' := ⟨(iterB Bk.tick1 b i).is.set i { x.1 with wt := x.1.wt - 1 }, (iterB Bk.tick1 b i).nx, (iterB Bk.tick1 b i).es⟩) (rs' := rs1.set i ({ x.1 with wt := x.1.wt - 1 }, x.2)) (by rw [List.map_set, A1.fst]) (by rw [List.length_set, A1.n]) A1.nx rfl fun y hy => by
          rcases List.mem_or_eq_of_mem_set hy with h | rfl
          · exact .inl h
          · exact .inr (A1.pv x (List.mem_of_getElem? hx))
        have hx2 : (rs1.set i ({ x.1 with wt := x.1.wt - 1 }, x.2))[i]? = some ({ x.1 with wt := x.1.wt - 1 }, x.2) := List.getElem?_set_self (List.getElem?_eq_some_iff.1 hx).1
        obtain ⟨hg4', hgj'⟩ := rowsB_get (t := [.int .i64 ((iterB Bk.tick1 b i).nx : Int), dv1]) hx2
        have h1c' := hgj' 1 (by decide)
        have h2c' := hgj' 2 (by decide)
        have r1' : (rwC ({ x.1 with wt := x.1.wt - 1 }, x.2))[1]? = some (.int .u8 x.1.cl) := rfl
        have r2' : (rwC ({ x.1 with wt := x.1.wt - 1 }, x.2))[2]? = some (.int .i64 (x.1.wt - 1)) := rfl
        rw [r1'] at h1c'
        rw [r2'] at h2c'
        have hB2 := A2.obj
        simp only at hB2
        have FS : Fr (ftB B dv1) h2 (h2.set B (some ⟨true, rowsB (rs1.set i ({ x.1 with wt := x.1.wt - 1 }, x.2)) ++ [.int .i64 ((iterB Bk.tick1 b i).nx : Int), dv1]⟩)) := Fr.set _ (.inl rfl)
        have ex : (iterB Bk.tick1 b i).is[i]?.getD iv0 = x.1 := by rw [hix]; rfl
        have overs : ∀ {how : Int} {g' : AHeap}, WentB (h2.set B (some ⟨true, rowsB (rs1.set i ({ x.1 with wt := x.1.wt - 1 }, x.2)) ++ [.int .i64 ((iterB Bk.tick1 b i).nx : Int), dv1]⟩)) g' B (Bk.over ⟨(iterB Bk.tick1 b i).is.set i { x.1 with wt := x.1.wt - 1 }, (iterB Bk.tick1 b i).nx, (iterB Bk.tick1 b i).es⟩ i how 0 []) dv1 → WentB h2 g' B ((iterB Bk.tick1 b i).over i how 0 []) dv1 := fun {how g'} W2 => by
          obtain ⟨rs2, dv2, A', F2, n2⟩ := W2
          unfold Bk.over at A' ⊢
          rw [List.set_set] at A'
          refine ⟨rs2, dv2, A', FS.trans F2 fun X hX => .inl hX, fun X hX => ?_⟩
          rcases n2 X hX with h | h
          · exact .inl h
          · exact .inr (by simpa using h)
        simp only [sx, x_box, x_alloc, x_bslice, x_slice, x_append, x_appz, x_b2s, x_s2b, x_mark, xop, ev, evs, evParts, fillL, cellsL, Ai.get, Ai.put, stab, isNil?, if_false, if_true, addr?, int?, str?, agg?, bool?, shiftA, FnPost, xresL, xres1, tup, argEnv, ptr, Nat.reduceEqDiff, reduceIte, beq_self_eq_true, ne_eq, Nat.reduceAdd, Nat.reduceMul, Nat.reduceSub, abin_shl, abin_shr, load1V, loadV, storeV, cellsAt, getN, setN, allocV, lenL, lenS, bnd, oneC, Value.oneCell', Nat.reduceLeDiff, Nat.reduceLT, exists_eq_left', forall_const, reduceCtorEq, app_new, app_new0, List.append_assoc, Int.reduceToNat, Int.reduceLT, Int.reduceLE, Int.reduceEq, Int.reduceNe, Int.reduceBEq, IntKind.bits, bne_self_eq_false, Int.reducePow, g3, g0, hi', hi0, hB, h2c, eL, hle, hlt, ww, eS]
        generalize hgen : h2.set B (some (AObj.mk true (rowsB (rs1.set i ({ x.1 with wt := x.1.wt - 1 }, x.2)) ++ [Value.int .i64 ((iterB Bk.tick1 b i).nx : Int), dv1]))) = g5 at *
        obtain ⟨cs5, hcs5⟩ : ∃ cs, cs = rowsB (rs1.set i ({ x.1 with wt := x.1.wt - 1 }, x.2)) ++ [Value.int .i64 ((iterB Bk.tick1 b i).nx : Int), dv1] := ⟨_, rfl⟩
        rw [← hcs5] at hB2 h2c' h1c'
        by_cases hw1 : 0 < x.1.wt - 1
        · simp only [sx, x_box, x_alloc, x_bslice, x_slice, x_append, x_appz, x_b2s, x_s2b, x_mark, xop, ev, evs, evParts, fillL, cellsL, Ai.get, Ai.put, stab, isNil?, if_false, if_true, addr?, int?, str?, agg?, bool?, shiftA, FnPost, xresL, xres1, tup, argEnv, ptr, Nat.reduceEqDiff, reduceIte, beq_self_eq_true, ne_eq, Nat.reduceAdd, Nat.reduceMul, Nat.reduceSub, abin_shl, abin_shr, load1V, loadV, storeV, cellsAt, getN, setN, allocV, lenL, lenS, bnd, oneC, Value.oneCell', Nat.reduceLeDiff, Nat.reduceLT, exists_eq_left', forall_const, reduceCtorEq, app_new, app_new0, List.append_assoc, Int.reduceToNat, Int.reduceLT, Int.reduceLE, Int.reduceEq, Int.reduceNe, Int.reduceBEq, IntKind.bits, bne_self_eq_false, Int.reducePow, hB2, h2c', hw1, g3, wi]
          refine ⟨m - 1, by omega, i + 1, by omega, rfl, g0, step ?_, (by rw [iterB_succ]; exact ok')⟩
          rw [tick1_go ho hix hw1]
          exact ⟨_, _, A2, FS, fun X hX => .inl hX⟩
        · have over' : ∀ {how : Int}, Valid Try.prog 27 [.pointer (some ⟨B, 0, none⟩), .int .i64 (i : Int), .int .u8 how, .int .i64 0, .slice none 0 0] g5 fun r h' => WentB h2 h' B ((iterB Bk.tick1 b i).over i how 0 []) dv1 := fun {how} => (over_ok A2 hi cat_nil (by decide) (by simp only; omega)).mono fun r h' W2 => overs W2
          by_cases c2 : x.1.cl = 2
          · simp only [sx, x_box, x_alloc, x_bslice, x_slice, x_append, x_appz, x_b2s, x_s2b, x_mark, xop, ev, evs, evParts, fillL, cellsL, Ai.get, Ai.put, stab, isNil?, if_false, if_true, addr?, int?, str?, agg?, bool?, shiftA, FnPost, xresL, xres1, tup, argEnv, ptr, Nat.reduceEqDiff, reduceIte, beq_self_eq_true, ne_eq, Nat.reduceAdd, Nat.reduceMul, Nat.reduceSub, abin_shl, abin_shr, load1V, loadV, storeV, cellsAt, getN, setN, allocV, lenL, lenS, bnd, oneC, Value.oneCell', Nat.reduceLeDiff, Nat.reduceLT, exists_eq_left', forall_const, reduceCtorEq, app_new, app_new0, List.append_assoc, Int.reduceToNat, Int.reduceLT, Int.reduceLE, Int.reduceEq, Int.reduceNe, Int.reduceBEq, IntKind.bits, bne_self_eq_false, Int.reducePow, hB2, h2c', h1c', hw1, c2, g0]
            refine xcall over' (by rfl) (by rfl) (by rfl) (by rfl) ?_
            intro r g6 W2
            simp only [sx, x_box, x_alloc, x_bslice, x_slice, x_append, x_appz, x_b2s, x_s2b, x_mark, xop, ev, evs, evParts, fillL, cellsL, Ai.get, Ai.put, stab, isNil?, if_false, if_true, addr?, int?, str?, agg?, bool?, shiftA, FnPost, xresL, xres1, tup, argEnv, ptr, Nat.reduceEqDiff, reduceIte, beq_self_eq_true, ne_eq, Nat.reduceAdd, Nat.reduceMul, Nat.reduceSub, abin_shl, abin_shr, load1V, loadV, storeV, cellsAt, getN, setN, allocV, lenL, lenS, bnd, oneC, Value.oneCell', Nat.reduceLeDiff, Nat.reduceLT, exists_eq_left', forall_const, reduceCtorEq, app_new, app_new0, List.append_assoc, Int.reduceToNat, Int.reduceLT, Int.reduceLE, Int.reduceEq, Int.reduceNe, Int.reduceBEq, IntKind.bits, bne_self_eq_false, Int.reducePow, g3, wi]
            refine ⟨m - 1, by omega, i + 1, by omega, rfl, g0, step ?_, (by rw [iterB_succ]; exact ok')⟩
            rw [tick1_res ho hix hw1 (.inl c2)]
            exact W2
          by_cases c4 : x.1.cl = 4
          · have c42 : ¬ (4 : Int) = 2 := by decide
            simp only [sx, x_box, x_alloc, x_bslice, x_slice, x_append, x_appz, x_b2s, x_s2b, x_mark, xop, ev, evs, evParts, fillL, cellsL, Ai.get, Ai.put, stab, isNil?, if_false, if_true, addr?, int?, str?, agg?, bool?, shiftA, FnPost, xresL, xres1, tup, argEnv, ptr, Nat.reduceEqDiff, reduceIte, beq_self_eq_true, ne_eq, Nat.reduceAdd, Nat.reduceMul, Nat.reduceSub, abin_shl, abin_shr, load1V, loadV, storeV, cellsAt, getN, setN, allocV, lenL, lenS, bnd, oneC, Value.oneCell', Nat.reduceLeDiff, Nat.reduceLT, exists_eq_left', forall_const, reduceCtorEq, app_new, app_new0, List.append_assoc, Int.reduceToNat, Int.reduceLT, Int.reduceLE, Int.reduceEq, Int.reduceNe, Int.reduceBEq, IntKind.bits, bne_self_eq_false, Int.reducePow, hB2, h2c', h1c', hw1, c4, c42, g0]
            refine xcall over' (by rfl) (by rfl) (by rfl) (by rfl) ?_
            intro r g6 W2
            simp only [sx, x_box, x_alloc, x_bslice, x_slice, x_append, x_appz, x_b2s, x_s2b, x_mark, xop, ev, evs, evParts, fillL, cellsL, Ai.get, Ai.put, stab, isNil?, if_false, if_true, addr?, int?, str?, agg?, bool?, shiftA, FnPost, xresL, xres1, tup, argEnv, ptr, Nat.reduceEqDiff, reduceIte, beq_self_eq_true, ne_eq, Nat.reduceAdd, Nat.reduceMul, Nat.reduceSub, abin_shl, abin_shr, load1V, loadV, storeV, cellsAt, getN, setN, allocV, lenL, lenS, bnd, oneC, Value.oneCell', Nat.reduceLeDiff, Nat.reduceLT, exists_eq_left', forall_const, reduceCtorEq, app_new, app_new0, List.append_assoc, Int.reduceToNat, Int.reduceLT, Int.reduceLE, Int.reduceEq, Int.reduceNe, Int.reduceBEq, IntKind.bits, bne_self_eq_false, Int.reducePow, g3, wi]
            refine ⟨m - 1, by omega, i + 1, by omega, rfl, g0, step ?_, (by rw [iterB_succ]; exact ok')⟩
            rw [tick1_res ho hix hw1 (.inr c4)]
            exact W2
          · simp only [sx, x_box, x_alloc, x_bslice, x_slice, x_append, x_appz, x_b2s, x_s2b, x_mark, xop, ev, evs, evParts, fillL, cellsL, Ai.get, Ai.put, stab, isNil?, if_false, if_true, addr?, int?, str?, agg?, bool?, shiftA, FnPost, xresL, xres1, tup, argEnv, ptr, Nat.reduceEqDiff, reduceIte, beq_self_eq_true, ne_eq, Nat.reduceAdd, Nat.reduceMul, Nat.reduceSub, abin_shl, abin_shr, load1V, loadV, storeV, cellsAt, getN, setN, allocV, lenL, lenS, bnd, oneC, Value.oneCell', Nat.reduceLeDiff, Nat.reduceLT, exists_eq_left', forall_const, reduceCtorEq, app_new, app_new0, List.append_assoc, Int.reduceToNat, Int.reduceLT, Int.reduceLE, Int.reduceEq, Int.reduceNe, Int.reduceBEq, IntKind.bits, bne_self_eq_false, Int.reducePow, hB2, h2c', h1c', hw1, c2, c4, g0]
            refine xcall over' (by rfl) (by rfl) (by rfl) (by rfl) ?_
            intro r g6 W2
            simp only [sx, x_box, x_alloc, x_bslice, x_slice, x_append, x_appz, x_b2s, x_s2b, x_mark, xop, ev, evs, evParts, fillL, cellsL, Ai.get, Ai.put, stab, isNil?, if_false, if_true, addr?, int?, str?, agg?, bool?, shiftA, FnPost, xresL, xres1, tup, argEnv, ptr, Nat.reduceEqDiff, reduceIte, beq_self_eq_true, ne_eq, Nat.reduceAdd, Nat.reduceMul, Nat.reduceSub, abin_shl, abin_shr, load1V, loadV, storeV, cellsAt, getN, setN, allocV, lenL, lenS, bnd, oneC, Value.oneCell', Nat.reduceLeDiff, Nat.reduceLT, exists_eq_left', forall_const, reduceCtorEq, app_new, app_new0, List.append_assoc, Int.reduceToNat, Int.reduceLT, Int.reduceLE, Int.reduceEq, Int.reduceNe, Int.reduceBEq, IntKind.bits, bne_self_eq_false, Int.reducePow, g3, wi]
            refine ⟨m - 1, by omega, i + 1, by omega, rfl, g0, step ?_, (by rw [iterB_succ]; exact ok')⟩
            rw [tick1_out ho hix hw1 (fun h => h.elim c2 c4)]
            exact W2
    · have hi' : ¬ (i : Int) < 128 := by omega
      have : i = 128 := by omega
      subst this
      simp only [sx, x_box, x_alloc, x_bslice, x_slice, x_append, x_appz, x_b2s, x_s2b, x_mark, xop, ev, evs, evParts, fillL, cellsL, Ai.get, Ai.put, stab, isNil?, if_false, if_true, addr?, int?, str?, agg?, bool?, shiftA, FnPost, xresL, xres1, tup, argEnv, ptr, Nat.reduceEqDiff, reduceIte, beq_self_eq_true, ne_eq, Nat.reduceAdd, Nat.reduceMul, Nat.reduceSub, abin_shl, abin_shr, load1V, loadV, storeV, cellsAt, getN, setN, allocV, lenL, lenS, bnd, oneC, Value.oneCell', Nat.reduceLeDiff, Nat.reduceLT, exists_eq_left', forall_const, reduceCtorEq, app_new, app_new0, List.append_assoc, Int.reduceToNat, Int.reduceLT, Int.reduceLE, Int.reduceEq, Int.reduceNe, Int.reduceBEq, IntKind.bits, bne_self_eq_false, Int.reducePow, g3, hi']
      exact W
  · intro ρ h' e0
    simp only [sx, x_box, x_alloc, x_bslice, x_slice, x_append, x_appz, x_b2s, x_s2b, x_mark, xop, ev, evs, evParts, fillL, cellsL, Ai.get, Ai.put, stab, isNil?, if_false, if_true, addr?, int?, str?, agg?, bool?, shiftA, FnPost, xresL, xres1, tup, argEnv, ptr, Nat.reduceEqDiff, reduceIte, beq_self_eq_true, ne_eq, Nat.reduceAdd, Nat.reduceMul, Nat.reduceSub, abin_shl, abin_shr, load1V, loadV, storeV, cellsAt, getN, setN, allocV, lenL, lenS, bnd, oneC, Value.oneCell', Nat.reduceLeDiff, Nat.reduceLT, exists_eq_left', forall_const, reduceCtorEq, app_new, app_new0, List.append_assoc, Int.reduceToNat, Int.reduceLT, Int.reduceLE, Int.reduceEq, Int.reduceNe, Int.reduceBEq, IntKind.bits, bne_self_eq_false, Int.reducePow]
    first | exact e0 | exact ⟨⟨_, rfl⟩, e0⟩
end Go.Proofs.Ytpbbmnfffolcoaa
