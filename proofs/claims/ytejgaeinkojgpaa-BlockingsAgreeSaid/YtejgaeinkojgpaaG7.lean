import Derived.Test.YtejgaeinkojgpaaG4
set_option linter.unusedVariables false
set_option linter.unusedSimpArgs false
namespace Go.Proofs.Ytejgaeinkojgpaa
open Go Go.Ai Go.Proofs

def CodesA (h : AHeap) (q : Option Addr) (cs : List Int) : Prop := ∀ (j : Nat) (z : Int), cs[j]? = some z → (0 ≤ z ∧ z ≤ 65535) ∧ ∃ a o, q = some a ∧ a.spot = none ∧ h[a.block]? = some (some o) ∧ o.cells[a.off + j]? = some (.int .u16 z)
theorem CodesA.kp {h h' : AHeap} {q : Option Addr} {cs : List Int} (v : CodesA h q cs) (k : Kp h h') : CodesA h' q cs := fun j z hz => by
  obtain ⟨b, a, o, e, h1, h2, h3⟩ := v j z hz
  exact ⟨b, a, o, e, h1, k.get h2, h3⟩
/-- an act's cells -/
def ActC (h : AHeap) (cells : List Value) : Prop := ∃ (kd : Int) (sd on : Bool) (cq : Option Addr) (cc : Nat) (cs : List Int), cells = [.int .u8 kd, .bool sd, .slice cq cs.length cc, .bool on] ∧ (0 ≤ kd ∧ kd ≤ 255) ∧ cs.length ≤ 9223372036854775807 ∧ CodesA h cq cs
def ActsA (h : AHeap) (q : Option Addr) (n : Nat) : Prop := n = 0 ∨ ∃ B rows, q = some ⟨B, 0, none⟩ ∧ h[B]? = some (some ⟨false, rows⟩) ∧ ∀ i, i < n → ∃ cells, getN rows (i * 4) 4 = some cells ∧ ActC h cells
/-- the act's side is known -/
def AgY (h0 : AHeap) (DS WO XO n Da Db : Nat) (q : Option Addr) (nA c : Nat) (i : Nat) (σ : Bool → Sd) (ρ : Env) (h : AHeap) : Prop := ∃ R cells k, Rk q nA c n Da Db DS WO XO ρ ∧ get ρ 16 = some (.int .i64 (i : Nat)) ∧ get ρ 17 = some (ptr R) ∧ get ρ 18 = some (.int .i64 ((Bool.toNat k : Nat) : Int)) ∧ Ag h0 h DS WO XO n Da Db σ ∧ h[R]? = some (some ⟨true, cells⟩) ∧ ActC h0 cells ∧ h0.length ≤ R ∧ ∀ j, ¬ FN DS WO XO σ j R
/-- the act's kind is known -/
def AgZ (q : Option Addr) (nA c n Da Db DS WO XO i R : Nat) (k : Bool) (r6 : Int) (j : Nat) (b : Bool) (g : AHeap) (ρ : Env) (h : AHeap) : Prop := Rk q nA c n Da Db DS WO XO ρ ∧ get ρ 16 = some (.int .i64 (i : Nat)) ∧ get ρ 17 = some (.pointer (some ⟨R, 0, none⟩)) ∧ get ρ 18 = some (.int .i64 ((Bool.toNat k : Nat) : Int)) ∧ get ρ 96 = some (.int .u8 r6) ∧ get ρ j = some (.bool b) ∧ h = g
/-- the codes of an act -/
def CoA (h0 : AHeap) (DS WO XO n Da Db : Nat) (q : Option Addr) (nA c : Nat) (i R : Nat) (k : Bool) (σ : Bool → Sd) (cells : List Value) (cs : List Int) (on : Bool) (m : Nat) (ρ : Env) (h : AHeap) : Prop := ∃ j v, j + m = min cs.length 40 ∧ Rk q nA c n Da Db DS WO XO ρ ∧ get ρ 16 = some (.int .i64 (i : Nat)) ∧ get ρ 17 = some (.pointer (some ⟨R, 0, none⟩)) ∧ get ρ 18 = some (.int .i64 ((Bool.toNat k : Nat) : Int)) ∧ get ρ 20 = some (.int .i64 (j : Nat)) ∧ get ρ 19 = some v ∧
  NET h0 h DS WO XO n (upd σ k { σ k with want := (cdA n cs j).foldl (fun l z => l.set z.toNat on) (σ k).want }) ∧ h[R]? = some (some ⟨true, cells⟩) ∧ CvA h0 h DS WO XO σ R v (cdA n cs j)
def CoE (h0 : AHeap) (DS WO XO n Da Db : Nat) (q : Option Addr) (nA c : Nat) (i R : Nat) (k : Bool) (σ : Bool → Sd) (cells : List Value) (on : Bool) (ρ : Env) (h : AHeap) : Prop := ∃ zs v, Rk q nA c n Da Db DS WO XO ρ ∧ get ρ 16 = some (.int .i64 (i : Nat)) ∧ get ρ 17 = some (.pointer (some ⟨R, 0, none⟩)) ∧ get ρ 18 = some (.int .i64 ((Bool.toNat k : Nat) : Int)) ∧ get ρ 19 = some v ∧ zs.length ≤ 40 ∧ (∀ z ∈ zs, 0 ≤ z ∧ z < (n : Int)) ∧
  NET h0 h DS WO XO n (upd σ k { σ k with want := zs.foldl (fun l z => l.set z.toNat on) (σ k).want }) ∧ h[R]? = some (some ⟨true, cells⟩) ∧ CvA h0 h DS WO XO σ R v zs
/-- the act is chosen -/
def AgX (h0 : AHeap) (DS WO XO n Da Db : Nat) (q : Option Addr) (nA c : Nat) (i : Nat) (σ : Bool → Sd) (ρ : Env) (h : AHeap) : Prop := ∃ R cells, Rk q nA c n Da Db DS WO XO ρ ∧ get ρ 16 = some (.int .i64 (i : Nat)) ∧ get ρ 17 = some (ptr R) ∧ Ag h0 h DS WO XO n Da Db σ ∧ h[R]? = some (some ⟨true, cells⟩) ∧ ActC h0 cells ∧ h0.length ≤ R ∧ ∀ j, ¬ FN DS WO XO σ j R
set_option maxHeartbeats 32000000 in
set_option maxRecDepth 20000 in
theorem agree_law {h : AHeap} {many again : Nat} {q : Option Addr} {nA c : Nat} (hm : many < 256) (ha : again < 256) (hA : nA ≤ 9223372036854775807) (W : ActsA h q nA) :
    Valid Try.prog 6 [.int .u8 (many : Nat), .int .u8 (again : Nat), .slice q nA c] h fun r h' => r = .bool true := by
  refine v6 (by simp) ?_
  by_cases hbig : 50 < nA
  · have hbig' : (50 : Int) < nA := by omega
    simp only [X6, sx, x_box, x_alloc, x_bslice, x_slice, x_append, x_appz, x_b2s, xop, ev, evs, evParts, fillL, cellsL, Ai.get, Ai.put, stab, isNil?, if_false, if_true, addr?, int?, str?, agg?, bool?, shiftA, FnPost, xresL, xres1, tup, argEnv, ptr, Nat.reduceEqDiff, reduceIte, beq_self_eq_true, ne_eq, Nat.reduceAdd, Nat.reduceMul, Nat.reduceSub, abin_shl, abin_shr, load1V, loadV, storeV, cellsAt, getN, setN, allocV, lenL, lenS, bnd, oneC, Value.oneCell', Nat.reduceLeDiff, Nat.reduceLT, exists_eq_left', forall_const, reduceCtorEq, app_new, app_new0, List.append_assoc, Int.reduceToNat, Int.reduceLT, Int.reduceLE, Int.reduceEq, Int.reduceNe, Int.reduceBEq, IntKind.bits, bne_self_eq_false, Int.reducePow, hbig']
    refine xcall (lives_ok _) (by rfl) (by rfl) (by rfl) (by rfl) ?_
    rintro r h' rfl
    simp only [sx, x_box, x_alloc, x_bslice, x_slice, x_append, x_appz, x_b2s, xop, ev, evs, evParts, fillL, cellsL, Ai.get, Ai.put, stab, isNil?, if_false, if_true, addr?, int?, str?, agg?, bool?, shiftA, FnPost, xresL, xres1, tup, argEnv, ptr, Nat.reduceEqDiff, reduceIte, beq_self_eq_true, ne_eq, Nat.reduceAdd, Nat.reduceMul, Nat.reduceSub, abin_shl, abin_shr, load1V, loadV, storeV, cellsAt, getN, setN, allocV, lenL, lenS, bnd, oneC, Value.oneCell', Nat.reduceLeDiff, Nat.reduceLT, exists_eq_left', forall_const, reduceCtorEq, app_new, app_new0, List.append_assoc, Int.reduceToNat, Int.reduceLT, Int.reduceLE, Int.reduceEq, Int.reduceNe, Int.reduceBEq, IntKind.bits, bne_self_eq_false, Int.reducePow]
  have hbig' : ¬ (50 : Int) < nA := by omega
  have n80 : ¬ (80 : Int) = 0 := by decide
  have n8 : ¬ (8 : Int) = 0 := by decide
  have q1 : ((many : Nat) : Int).tmod 80 = ((many % 80 : Nat) : Int) := by rw [Int.tmod_eq_emod_of_nonneg (by omega)]; omega
  have q2 : IntKind.i64.wrap ((many % 80 : Nat) : Int) = ((many % 80 : Nat) : Int) := i64_wrap (by omega) (by omega)
  have q3 : IntKind.i64.wrap (1 + ((many % 80 : Nat) : Int)) = ((1 + many % 80 : Nat) : Int) := by rw [i64_wrap] <;> omega
  have q4 : ((again : Nat) : Int).tmod 8 = ((again % 8 : Nat) : Int) := by rw [Int.tmod_eq_emod_of_nonneg (by omega)]; omega
  have q5 : IntKind.i64.wrap ((again % 8 : Nat) : Int) = ((again % 8 : Nat) : Int) := i64_wrap (by omega) (by omega)
  have q6 : IntKind.i64.wrap (1 + ((again % 8 : Nat) : Int)) = ((1 + again % 8 : Nat) : Int) := by rw [i64_wrap] <;> omega
  simp only [X6, sx, x_box, x_slice, x_append, x_appz, x_b2s, xop, ev, evs, evParts, fillL, cellsL, Ai.get, Ai.put, stab, isNil?, if_false, if_true, addr?, int?, str?, agg?, bool?, shiftA, FnPost, xresL, xres1, tup, argEnv, ptr, Nat.reduceEqDiff, reduceIte, beq_self_eq_true, ne_eq, Nat.reduceAdd, Nat.reduceMul, Nat.reduceSub, abin_shl, abin_shr, load1V, loadV, storeV, cellsAt, getN, setN, allocV, lenL, lenS, bnd, oneC, Value.oneCell', Nat.reduceLeDiff, Nat.reduceLT, exists_eq_left', forall_const, reduceCtorEq, app_new, app_new0, List.append_assoc, Int.reduceToNat, Int.reduceLT, Int.reduceLE, Int.reduceEq, Int.reduceNe, Int.reduceBEq, IntKind.bits, bne_self_eq_false, Int.reducePow, hbig', n80, n8, q1, q2, q3, q4, q5, q6]
  have hN1 : 1 ≤ 1 + many % 80 := by omega
  have hN80 : 1 + many % 80 ≤ 80 := by omega
  have hE1 : 1 ≤ 1 + again % 8 := by omega
  have hE8 : 1 + again % 8 ≤ 8 := by omega
  generalize 1 + many % 80 = n at *
  generalize 1 + again % 8 = ev' at *
  clear q1 q2 q3 q4 q5 q6 hm ha
  refine xcall (group_ok (n := n) hN1 (by omega)) (by rfl) (by rfl) (by rfl) (by rfl) ?_
  rintro r h1 ⟨Ga, La, rfl, ga, K1, hGa, hLa⟩
  simp only [sx, x_box, x_slice, x_append, x_appz, x_b2s, xop, ev, evs, evParts, fillL, cellsL, Ai.get, Ai.put, stab, isNil?, if_false, if_true, addr?, int?, str?, agg?, bool?, shiftA, FnPost, xresL, xres1, tup, argEnv, ptr, Nat.reduceEqDiff, reduceIte, beq_self_eq_true, ne_eq, Nat.reduceAdd, Nat.reduceMul, Nat.reduceSub, abin_shl, abin_shr, load1V, loadV, storeV, cellsAt, getN, setN, allocV, lenL, lenS, bnd, oneC, Value.oneCell', Nat.reduceLeDiff, Nat.reduceLT, exists_eq_left', forall_const, reduceCtorEq, app_new, app_new0, List.append_assoc, Int.reduceToNat, Int.reduceLT, Int.reduceLE, Int.reduceEq, Int.reduceNe, Int.reduceBEq, IntKind.bits, bne_self_eq_false, Int.reducePow]
  refine xcall (new_ok (again := (ev' : Int)) ga) (by rfl) (by rfl) (by rfl) (by rfl) ?_
  rintro r h2 (⟨hbad, -⟩ | ⟨-, -, Da, Ta, rfl, A0, K2, hDa, hTa⟩)
  · rw [isF_free] at hbad; rcases hbad with h | h
    · omega
    · cases h
  simp only [sx, x_box, x_slice, x_append, x_appz, x_b2s, xop, ev, evs, evParts, fillL, cellsL, Ai.get, Ai.put, stab, isNil?, if_false, if_true, addr?, int?, str?, agg?, bool?, shiftA, FnPost, xresL, xres1, tup, argEnv, ptr, Nat.reduceEqDiff, reduceIte, beq_self_eq_true, ne_eq, Nat.reduceAdd, Nat.reduceMul, Nat.reduceSub, abin_shl, abin_shr, load1V, loadV, storeV, cellsAt, getN, setN, allocV, lenL, lenS, bnd, oneC, Value.oneCell', Nat.reduceLeDiff, Nat.reduceLT, exists_eq_left', forall_const, reduceCtorEq, app_new, app_new0, List.append_assoc, Int.reduceToNat, Int.reduceLT, Int.reduceLE, Int.reduceEq, Int.reduceNe, Int.reduceBEq, IntKind.bits, bne_self_eq_false, Int.reducePow]
  refine xcall (group_ok (n := n) hN1 (by omega)) (by rfl) (by rfl) (by rfl) (by rfl) ?_
  rintro r h3 ⟨Gb, Lb, rfl, gb, K3, hGb, hLb⟩
  simp only [sx, x_box, x_slice, x_append, x_appz, x_b2s, xop, ev, evs, evParts, fillL, cellsL, Ai.get, Ai.put, stab, isNil?, if_false, if_true, addr?, int?, str?, agg?, bool?, shiftA, FnPost, xresL, xres1, tup, argEnv, ptr, Nat.reduceEqDiff, reduceIte, beq_self_eq_true, ne_eq, Nat.reduceAdd, Nat.reduceMul, Nat.reduceSub, abin_shl, abin_shr, load1V, loadV, storeV, cellsAt, getN, setN, allocV, lenL, lenS, bnd, oneC, Value.oneCell', Nat.reduceLeDiff, Nat.reduceLT, exists_eq_left', forall_const, reduceCtorEq, app_new, app_new0, List.append_assoc, Int.reduceToNat, Int.reduceLT, Int.reduceLE, Int.reduceEq, Int.reduceNe, Int.reduceBEq, IntKind.bits, bne_self_eq_false, Int.reducePow]
  refine xcall (new_ok (again := (ev' : Int)) gb) (by rfl) (by rfl) (by rfl) (by rfl) ?_
  rintro r h4 (⟨hbad, -⟩ | ⟨-, -, Db, Tb, rfl, B0, K4, hDb, hTb⟩)
  · rw [isF_free] at hbad; rcases hbad with h | h
    · omega
    · cases h
  have m0 : ¬ (0 : Int) ≠ 0 := by decide
  have c5 : (0 : Int) ≤ (n : Nat) := by omega
  have c6 : ((n : Nat) : Int) * 1 ≤ 140737488355328 := by omega
  have c7 : ((n : Nat) : Int) ≤ 9223372036854775807 := by omega
  have hz : (List.replicate n [Value.bool false]).flatten = bB (List.replicate n false) := by
    unfold bB; simp
  simp only [sx, x_box, x_alloc, x_bslice, x_slice, x_append, x_appz, x_b2s, xop, ev, evs, evParts, fillL, cellsL, Ai.get, Ai.put, stab, isNil?, if_false, if_true, addr?, int?, str?, agg?, bool?, shiftA, FnPost, xresL, xres1, tup, argEnv, ptr, Nat.reduceEqDiff, reduceIte, beq_self_eq_true, ne_eq, Nat.reduceAdd, Nat.reduceMul, Nat.reduceSub, abin_shl, abin_shr, load1V, loadV, storeV, cellsAt, getN, setN, allocV, lenL, lenS, bnd, oneC, Value.oneCell', Nat.reduceLeDiff, Nat.reduceLT, exists_eq_left', forall_const, reduceCtorEq, app_new, app_new0, List.append_assoc, Int.reduceToNat, Int.reduceLT, Int.reduceLE, Int.reduceEq, Int.reduceNe, Int.reduceBEq, IntKind.bits, bne_self_eq_false, Int.reducePow, Ai.ptr, m0, c5, c6, c7, Int.le_refl, hz]
  have KK := ((K1.trans K2).trans K3).trans K4
  have net0 := NET.start (n := n) (M := h2.length) KK ((A0.kp K3).kp K4) B0 (fun X hX => by
    obtain ⟨i, hX⟩ := hX
    have hlt := A0.lt hX
    refine And.intro ?_ hlt
    have := K1.1
    rcases hX with h | h | h | h | ⟨-, h⟩
    · have := h.2; omega
    · have := h.2; omega
    · have := h.2; omega
    · have := h.2; omega
    · cases h) (fun X hX => by
    obtain ⟨i, hX⟩ := hX
    have := K3.1
    rcases hX with h | h | h | h | ⟨-, h⟩
    · have := h.2; omega
    · have := h.2; omega
    · have := h.2; omega
    · have := h.2; omega
    · cases h) (by have := K1.1; have := K2.1; omega)
  simp only [ptr] at net0
  generalize h4.length + 1 = WO at *
  generalize h4.length + 2 = XO at *
  generalize h4.length + 3 = Na at *
  generalize h4.length + 4 = Nb at *
  generalize h4.length = DS at *
  have ag0 : Ag h (h4 ++ [some (AObj.mk true [.pointer (some ⟨Da, 0, none⟩), .pointer (some ⟨Db, 0, none⟩)]), some (AObj.mk true [.slice none 0 0, .slice none 0 0]), some (AObj.mk true [.slice (some ⟨Na, 0, none⟩) n n, .slice (some ⟨Nb, 0, none⟩) n n]), some (AObj.mk true (bB (List.replicate n false))), some (AObj.mk true (bB (List.replicate n false)))]) DS WO XO n Da Db
      (fun k => if k then ⟨Db, Gb, Lb, Tb, DK.fresh (List.replicate n ⟨false, false⟩) ev', .pointer none, .slice none 0 0, .slice none 0 0, [], Nb, List.replicate n false⟩ else ⟨Da, Ga, La, Ta, DK.fresh (List.replicate n ⟨false, false⟩) ev', .pointer none, .slice none 0 0, .slice none 0 0, [], Na, List.replicate n false⟩) := by
    refine ⟨net0, ⟨rfl, rfl⟩, PP.mk false (Pr.fresh (by omega)), fun k => ?_⟩
    cases k <;> simp [DK.locals, DK.fresh]
  generalize hσ : (fun k : Bool => if k = true then (⟨Db, Gb, Lb, Tb, DK.fresh (List.replicate n ⟨false, false⟩) ev', .pointer none, .slice none 0 0, .slice none 0 0, [], Nb, List.replicate n false⟩ : Sd) else ⟨Da, Ga, La, Ta, DK.fresh (List.replicate n ⟨false, false⟩) ev', .pointer none, .slice none 0 0, .slice none 0 0, [], Na, List.replicate n false⟩) = σ0 at *
  have l0 : ∀ k, (σ0 k).d.last ≤ ((0 : Nat) : Int) := fun k => by rw [← hσ]; cases k <;> exact Int.le_refl 0
  have o0 : ∀ k, (σ0 k).d.out = [] := fun k => by rw [← hσ]; cases k <;> rfl
  have t0 : tot σ0 ≤ 0 := by rw [← hσ]; exact Nat.le_refl 0
  generalize h4 ++ [some (AObj.mk true [.pointer (some ⟨Da, 0, none⟩), .pointer (some ⟨Db, 0, none⟩)]), some (AObj.mk true [.slice none 0 0, .slice none 0 0]), some (AObj.mk true [.slice (some ⟨Na, 0, none⟩) n n, .slice (some ⟨Nb, 0, none⟩) n n]), some (AObj.mk true (bB (List.replicate n false))), some (AObj.mk true (bB (List.replicate n false)))] = h5 at *
  clear net0 hσ KK K1 K2 K3 K4 ga gb A0 B0 hGa hLa hGb hLb hDa hTa hDb hTb
  refine xloop_cut (AgE h DS WO XO n Da Db) ?_ ?_
  · refine xcode_loop (AgI h DS WO XO n Da Db q nA c) (nA + 200) ⟨0, σ0, by omega, ⟨rfl, rfl, rfl, rfl, rfl, rfl, rfl⟩, rfl, ag0, l0, o0, t0⟩ ?_
    clear ag0 l0 o0 t0 hz c5 c6 c7
    rintro m ρ g ⟨i, σ, him, ⟨r2, r7, r9, r11, r13, r14, r15⟩, r16, A, hla, hou, hto⟩
    have wl : IntKind.i64.wrap ((nA : Int) + 200) = ((nA + 200 : Nat) : Int) := by rw [i64_wrap] <;> omega
    by_cases hi : i < nA + 200
    rotate_left
    · have hi' : ¬ (i : Int) < ((nA + 200 : Nat) : Int) := by omega
      simp only [sx, x_box, x_alloc, x_bslice, x_slice, x_append, x_appz, x_b2s, xop, ev, evs, evParts, fillL, cellsL, Ai.get, Ai.put, stab, isNil?, if_false, if_true, addr?, int?, str?, agg?, bool?, shiftA, FnPost, xresL, xres1, tup, argEnv, ptr, Nat.reduceEqDiff, reduceIte, beq_self_eq_true, ne_eq, Nat.reduceAdd, Nat.reduceMul, Nat.reduceSub, abin_shl, abin_shr, load1V, loadV, storeV, cellsAt, getN, setN, allocV, lenL, lenS, bnd, oneC, Value.oneCell', Nat.reduceLeDiff, Nat.reduceLT, exists_eq_left', forall_const, reduceCtorEq, app_new, app_new0, List.append_assoc, Int.reduceToNat, Int.reduceLT, Int.reduceLE, Int.reduceEq, Int.reduceNe, Int.reduceBEq, IntKind.bits, bne_self_eq_false, Int.reducePow, r16, r2, wl, hi']
      exact ⟨σ, r7, r9, r11, r13, r14, r15, A, fun k => by have := hla k; omega, hou, by omega⟩
    have hi' : (i : Int) < ((nA + 200 : Nat) : Int) := by omega
    have hi0 : (0 : Int) ≤ i := by omega
    have wi : IntKind.i64.wrap ((i : Int) + 1) = ((i + 1 : Nat) : Int) := by rw [i64_wrap] <;> omega
    have n3 : ¬ (3 : Int) = 0 := by decide
    have n2 : ¬ (2 : Int) = 0 := by decide
    have u1 : ((i : Nat) : Int).tmod 3 = ((i % 3 : Nat) : Int) := by rw [Int.tmod_eq_emod_of_nonneg (by omega)]; omega
    have u2 : IntKind.i64.wrap (2 + ((i % 3 : Nat) : Int)) = ((2 + i % 3 : Nat) : Int) := by rw [i64_wrap] <;> omega
    have u3 : IntKind.u8.wrap ((2 + i % 3 : Nat) : Int) = ((2 + i % 3 : Nat) : Int) := by rw [u8_mod]; omega
    have u4 : IntKind.i64.wrap (((i : Nat) : Int).tdiv 3) = ((i / 3 : Nat) : Int) := by
      rw [Int.tdiv_eq_ediv_of_nonneg (by omega), i64_wrap (by omega) (by omega)]; omega
    have u5 : (((i / 3 : Nat) : Int)).tmod 2 = ((i / 3 % 2 : Nat) : Int) := by rw [Int.tmod_eq_emod_of_nonneg (by omega)]; omega
    simp only [sx, x_box, x_bslice, x_slice, x_append, x_appz, x_b2s, xop, ev, evs, evParts, fillL, cellsL, Ai.get, Ai.put, stab, isNil?, if_false, if_true, addr?, int?, str?, agg?, bool?, shiftA, FnPost, xresL, xres1, tup, argEnv, ptr, Nat.reduceEqDiff, reduceIte, beq_self_eq_true, ne_eq, Nat.reduceAdd, Nat.reduceMul, Nat.reduceSub, abin_shl, abin_shr, load1V, loadV, storeV, cellsAt, getN, setN, allocV, lenL, lenS, bnd, oneC, Value.oneCell', Nat.reduceLeDiff, Nat.reduceLT, exists_eq_left', forall_const, reduceCtorEq, app_new, app_new0, List.append_assoc, Int.reduceToNat, Int.reduceLT, Int.reduceLE, Int.reduceEq, Int.reduceNe, Int.reduceBEq, IntKind.bits, bne_self_eq_false, Int.reducePow, abin_quo, abin_rem, r16, r2, wl, hi', n3, n2, u1, u2, u3, u4, u5]
    refine alloc_run fun g2 R KR hR hRl hRe => ?_
    have hRs : ∀ x : Option AObj, (g2.set R x)[R]? = some x := fun x => List.getElem?_set_self (lt_of_get hR)
    have hRn : ∀ j, ¬ FN DS WO XO σ j R := fun j hf => by have := A.net.lt hf; omega
    have hRh : h.length ≤ R := Nat.le_trans A.net.kp.1 hRl
    have A2 : ∀ x : Option AObj, Ag h (g2.set R x) DS WO XO n Da Db σ := fun x => A.keep (KR.set hRl x)
    simp only [sx, x_box, x_alloc, x_bslice, x_slice, x_append, x_appz, x_b2s, xop, ev, evs, evParts, fillL, cellsL, Ai.get, Ai.put, stab, isNil?, if_false, if_true, addr?, int?, str?, agg?, bool?, shiftA, FnPost, xresL, xres1, tup, argEnv, ptr, Nat.reduceEqDiff, reduceIte, beq_self_eq_true, ne_eq, Nat.reduceAdd, Nat.reduceMul, Nat.reduceSub, abin_shl, abin_shr, load1V, loadV, storeV, cellsAt, getN, setN, allocV, lenL, lenS, bnd, oneC, Value.oneCell', Nat.reduceLeDiff, Nat.reduceLT, exists_eq_left', forall_const, reduceCtorEq, app_new, app_new0, List.append_assoc, Int.reduceToNat, Int.reduceLT, Int.reduceLE, Int.reduceEq, Int.reduceNe, Int.reduceBEq, IntKind.bits, bne_self_eq_false, Int.reducePow, r16, r2, hR]
    refine xcond_cut (AgX h DS WO XO n Da Db q nA c i σ) ?_ ?_
    · by_cases hin : i < nA
      · have hin' : (i : Int) < (nA : Int) := by omega
        obtain ⟨AB, rows, rfl, hAB, hrows⟩ := W.resolve_left (by omega)
        obtain ⟨cells, hc, hact⟩ := hrows i hin
        obtain ⟨kd, sd, on, cq, cc, cs, rfl, a1, a2, a3⟩ := hact
        have hABg := (A2 (some (AObj.mk true [Value.int IntKind.u8 ((2 + i % 3 : Nat) : Int), .bool (decide (((i / 3 % 2 : Nat) : Int) = 0)), .slice none 0 0, .bool false]))).net.kp.get hAB
        simp only [sx, x_box, x_alloc, x_bslice, x_slice, x_append, x_appz, x_b2s, xop, ev, evs, evParts, fillL, cellsL, Ai.get, Ai.put, stab, isNil?, if_false, if_true, addr?, int?, str?, agg?, bool?, shiftA, FnPost, xresL, xres1, tup, argEnv, ptr, Nat.reduceEqDiff, reduceIte, beq_self_eq_true, ne_eq, Nat.reduceAdd, Nat.reduceMul, Nat.reduceSub, abin_shl, abin_shr, load1V, loadV, storeV, cellsAt, setN, allocV, lenL, lenS, bnd, oneC, Value.oneCell', Nat.reduceLeDiff, Nat.reduceLT, exists_eq_left', forall_const, reduceCtorEq, app_new, app_new0, List.append_assoc, Int.reduceToNat, Int.reduceLT, Int.reduceLE, Int.reduceEq, Int.reduceNe, Int.reduceBEq, IntKind.bits, bne_self_eq_false, Int.reducePow, r16, r2, hin', hi0, hABg, hc, hRs, List.set_set]
        exact ⟨R, _, ⟨r2, r7, r9, r11, r13, r14, r15⟩, r16, rfl, A2 _, hRs _, ⟨kd, sd, on, cq, cc, cs, rfl, a1, a2, a3⟩, hRh, hRn⟩
      · have hin' : ¬ (i : Int) < (nA : Int) := by omega
        simp only [sx, x_box, x_alloc, x_bslice, x_slice, x_append, x_appz, x_b2s, xop, ev, evs, evParts, fillL, cellsL, Ai.get, Ai.put, stab, isNil?, if_false, if_true, addr?, int?, str?, agg?, bool?, shiftA, FnPost, xresL, xres1, tup, argEnv, ptr, Nat.reduceEqDiff, reduceIte, beq_self_eq_true, ne_eq, Nat.reduceAdd, Nat.reduceMul, Nat.reduceSub, abin_shl, abin_shr, load1V, loadV, storeV, cellsAt, getN, setN, allocV, lenL, lenS, bnd, oneC, Value.oneCell', Nat.reduceLeDiff, Nat.reduceLT, exists_eq_left', forall_const, reduceCtorEq, app_new, app_new0, List.append_assoc, Int.reduceToNat, Int.reduceLT, Int.reduceLE, Int.reduceEq, Int.reduceNe, Int.reduceBEq, IntKind.bits, bne_self_eq_false, Int.reducePow, hin']
        exact ⟨R, _, ⟨r2, r7, r9, r11, r13, r14, r15⟩, r16, rfl, A2 _, hRs _, ⟨((2 + i % 3 : Nat) : Int), _, false, none, 0, [], rfl, by omega, by simp, fun j z hz => by simp at hz⟩, hRh, hRn⟩
    clear A A2 hR hRs hRn hRh KR hRl r2 r7 r9 r11 r13 r14 r15 r16
    rintro ρ g ⟨R, cells, ⟨r2, r7, r9, r11, r13, r14, r15⟩, r16, r17, A, hR, hact, hRh, hRn⟩
    obtain ⟨kd, sd, on, cq, cc, cs, rfl, a1, a2, a3⟩ := hact
    simp only [ptr] at r17
    simp only [sx, x_box, x_alloc, x_bslice, x_slice, x_append, x_appz, x_b2s, xop, ev, evs, evParts, fillL, cellsL, Ai.get, Ai.put, stab, isNil?, if_false, if_true, addr?, int?, str?, agg?, bool?, shiftA, FnPost, xresL, xres1, tup, argEnv, ptr, Nat.reduceEqDiff, reduceIte, beq_self_eq_true, ne_eq, Nat.reduceAdd, Nat.reduceMul, Nat.reduceSub, abin_shl, abin_shr, load1V, loadV, storeV, cellsAt, getN, setN, allocV, lenL, lenS, bnd, oneC, Value.oneCell', Nat.reduceLeDiff, Nat.reduceLT, exists_eq_left', forall_const, reduceCtorEq, app_new, app_new0, List.append_assoc, Int.reduceToNat, Int.reduceLT, Int.reduceLE, Int.reduceEq, Int.reduceNe, Int.reduceBEq, IntKind.bits, bne_self_eq_false, Int.reducePow, r17, hR]
    refine xcond_cut (AgY h DS WO XO n Da Db q nA c i σ) ?_ ?_
    · cases sd
      · simp only [sx, x_box, x_alloc, x_bslice, x_slice, x_append, x_appz, x_b2s, xop, ev, evs, evParts, fillL, cellsL, Ai.get, Ai.put, stab, isNil?, if_false, if_true, addr?, int?, str?, agg?, bool?, shiftA, FnPost, xresL, xres1, tup, argEnv, ptr, Nat.reduceEqDiff, reduceIte, beq_self_eq_true, ne_eq, Nat.reduceAdd, Nat.reduceMul, Nat.reduceSub, abin_shl, abin_shr, load1V, loadV, storeV, cellsAt, getN, setN, allocV, lenL, lenS, bnd, oneC, Value.oneCell', Nat.reduceLeDiff, Nat.reduceLT, exists_eq_left', forall_const, reduceCtorEq, app_new, app_new0, List.append_assoc, Int.reduceToNat, Int.reduceLT, Int.reduceLE, Int.reduceEq, Int.reduceNe, Int.reduceBEq, IntKind.bits, bne_self_eq_false, Int.reducePow]
        exact ⟨R, _, false, ⟨r2, r7, r9, r11, r13, r14, r15⟩, r16, r17, rfl, A, hR, ⟨kd, _, on, cq, cc, cs, rfl, a1, a2, a3⟩, hRh, hRn⟩
      · simp only [sx, x_box, x_alloc, x_bslice, x_slice, x_append, x_appz, x_b2s, xop, ev, evs, evParts, fillL, cellsL, Ai.get, Ai.put, stab, isNil?, if_false, if_true, addr?, int?, str?, agg?, bool?, shiftA, FnPost, xresL, xres1, tup, argEnv, ptr, Nat.reduceEqDiff, reduceIte, beq_self_eq_true, ne_eq, Nat.reduceAdd, Nat.reduceMul, Nat.reduceSub, abin_shl, abin_shr, load1V, loadV, storeV, cellsAt, getN, setN, allocV, lenL, lenS, bnd, oneC, Value.oneCell', Nat.reduceLeDiff, Nat.reduceLT, exists_eq_left', forall_const, reduceCtorEq, app_new, app_new0, List.append_assoc, Int.reduceToNat, Int.reduceLT, Int.reduceLE, Int.reduceEq, Int.reduceNe, Int.reduceBEq, IntKind.bits, bne_self_eq_false, Int.reducePow]
        exact ⟨R, _, true, ⟨r2, r7, r9, r11, r13, r14, r15⟩, r16, r17, rfl, A, hR, ⟨kd, _, on, cq, cc, cs, rfl, a1, a2, a3⟩, hRh, hRn⟩
    clear A hR a1 a2 a3 hRh hRn r2 r7 r9 r11 r13 r14 r15 r16 r17
    rintro ρ g ⟨R, cells, k, ⟨r2, r7, r9, r11, r13, r14, r15⟩, r16, r17, r18, A, hR, hact, hRh, hRn⟩
    obtain ⟨kd, sd, on, cq, cc, cs, rfl, a1, a2, a3⟩ := hact
    simp only [ptr] at r17
    have hk0 : (0 : Int) ≤ ((Bool.toNat k : Nat) : Int) := by omega
    have hk2n : Bool.toNat k < 2 := by cases k <;> decide
    have hk2 : ((Bool.toNat k : Nat) : Int) < 2 := by omega
    have m00 : ¬ (0 : Int) ≠ 0 := by decide
    have hlk := hla k
    rw [kSeq_normal, xcode_seq]
    refine xcode_cut (AgM h DS WO XO n Da Db q nA c i) ?_ ?_
    · have n6 : ¬ (6 : Int) = 0 := by decide
      simp only [sx, x_box, x_alloc, x_bslice, x_slice, x_append, x_appz, x_b2s, xop, ev, evs, evParts, fillL, cellsL, Ai.get, Ai.put, stab, isNil?, if_false, if_true, addr?, int?, str?, agg?, bool?, shiftA, FnPost, xresL, xres1, tup, argEnv, ptr, Nat.reduceEqDiff, reduceIte, beq_self_eq_true, ne_eq, Nat.reduceAdd, Nat.reduceMul, Nat.reduceSub, abin_shl, abin_shr, load1V, loadV, storeV, cellsAt, getN, setN, allocV, lenL, lenS, bnd, oneC, Value.oneCell', Nat.reduceLeDiff, Nat.reduceLT, exists_eq_left', forall_const, reduceCtorEq, app_new, app_new0, List.append_assoc, Int.reduceToNat, Int.reduceLT, Int.reduceLE, Int.reduceEq, Int.reduceNe, Int.reduceBEq, IntKind.bits, bne_self_eq_false, Int.reducePow, abin_rem, n6, r17, hR]
      generalize kd.tmod 6 = r6
      obtain ⟨b1, hb1⟩ : ∃ b : Bool, (b = true ↔ r6 = 0 ∨ r6 = 1) := ⟨decide (r6 = 0 ∨ r6 = 1), decide_eq_true_iff⟩
      refine xcond_cut (AgZ q nA c n Da Db DS WO XO i R k r6 122 b1 g) ?_ ?_
      · by_cases z0 : r6 = 0
        · obtain rfl : b1 = true := hb1.2 (.inl z0)
          simp only [sx, x_box, x_alloc, x_bslice, x_slice, x_append, x_appz, x_b2s, xop, ev, evs, evParts, fillL, cellsL, Ai.get, Ai.put, stab, isNil?, if_false, if_true, addr?, int?, str?, agg?, bool?, shiftA, FnPost, xresL, xres1, tup, argEnv, ptr, Nat.reduceEqDiff, reduceIte, beq_self_eq_true, ne_eq, Nat.reduceAdd, Nat.reduceMul, Nat.reduceSub, abin_shl, abin_shr, load1V, loadV, storeV, cellsAt, getN, setN, allocV, lenL, lenS, bnd, oneC, Value.oneCell', Nat.reduceLeDiff, Nat.reduceLT, exists_eq_left', forall_const, reduceCtorEq, app_new, app_new0, List.append_assoc, Int.reduceToNat, Int.reduceLT, Int.reduceLE, Int.reduceEq, Int.reduceNe, Int.reduceBEq, IntKind.bits, bne_self_eq_false, Int.reducePow, z0]
          exact ⟨⟨r2, r7, r9, r11, r13, r14, r15⟩, r16, r17, r18, rfl, rfl, rfl⟩
        · by_cases z1 : r6 = 1
          · obtain rfl : b1 = true := hb1.2 (.inr z1)
            have z10 : ¬ (1 : Int) = 0 := by decide
            simp only [sx, x_box, x_alloc, x_bslice, x_slice, x_append, x_appz, x_b2s, xop, ev, evs, evParts, fillL, cellsL, Ai.get, Ai.put, stab, isNil?, if_false, if_true, addr?, int?, str?, agg?, bool?, shiftA, FnPost, xresL, xres1, tup, argEnv, ptr, Nat.reduceEqDiff, reduceIte, beq_self_eq_true, ne_eq, Nat.reduceAdd, Nat.reduceMul, Nat.reduceSub, abin_shl, abin_shr, load1V, loadV, storeV, cellsAt, getN, setN, allocV, lenL, lenS, bnd, oneC, Value.oneCell', Nat.reduceLeDiff, Nat.reduceLT, exists_eq_left', forall_const, reduceCtorEq, app_new, app_new0, List.append_assoc, Int.reduceToNat, Int.reduceLT, Int.reduceLE, Int.reduceEq, Int.reduceNe, Int.reduceBEq, IntKind.bits, bne_self_eq_false, Int.reducePow, z1, z10]
            exact ⟨⟨r2, r7, r9, r11, r13, r14, r15⟩, r16, r17, r18, rfl, rfl, rfl⟩
          · obtain rfl : b1 = false := by cases b1; rfl; exact absurd (hb1.1 rfl) (by omega)
            simp only [sx, x_box, x_alloc, x_bslice, x_slice, x_append, x_appz, x_b2s, xop, ev, evs, evParts, fillL, cellsL, Ai.get, Ai.put, stab, isNil?, if_false, if_true, addr?, int?, str?, agg?, bool?, shiftA, FnPost, xresL, xres1, tup, argEnv, ptr, Nat.reduceEqDiff, reduceIte, beq_self_eq_true, ne_eq, Nat.reduceAdd, Nat.reduceMul, Nat.reduceSub, abin_shl, abin_shr, load1V, loadV, storeV, cellsAt, getN, setN, allocV, lenL, lenS, bnd, oneC, Value.oneCell', Nat.reduceLeDiff, Nat.reduceLT, exists_eq_left', forall_const, reduceCtorEq, app_new, app_new0, List.append_assoc, Int.reduceToNat, Int.reduceLT, Int.reduceLE, Int.reduceEq, Int.reduceNe, Int.reduceBEq, IntKind.bits, bne_self_eq_false, Int.reducePow, z0, z1]
            exact ⟨⟨r2, r7, r9, r11, r13, r14, r15⟩, r16, r17, r18, rfl, rfl, rfl⟩
      clear r2 r7 r9 r11 r13 r14 r15 r16 r17 r18
      rintro ρ g' ⟨⟨r2, r7, r9, r11, r13, r14, r15⟩, r16, r17, r18, r96, r122, e0⟩
      subst e0
      simp only [sx, x_box, x_alloc, x_bslice, x_slice, x_append, x_appz, x_b2s, xop, ev, evs, evParts, fillL, cellsL, Ai.get, Ai.put, stab, isNil?, if_false, if_true, addr?, int?, str?, agg?, bool?, shiftA, FnPost, xresL, xres1, tup, argEnv, ptr, Nat.reduceEqDiff, reduceIte, beq_self_eq_true, ne_eq, Nat.reduceAdd, Nat.reduceMul, Nat.reduceSub, abin_shl, abin_shr, load1V, loadV, storeV, cellsAt, getN, setN, allocV, lenL, lenS, bnd, oneC, Value.oneCell', Nat.reduceLeDiff, Nat.reduceLT, exists_eq_left', forall_const, reduceCtorEq, app_new, app_new0, List.append_assoc, Int.reduceToNat, Int.reduceLT, Int.reduceLE, Int.reduceEq, Int.reduceNe, Int.reduceBEq, IntKind.bits, bne_self_eq_false, Int.reducePow, r122]
      cases b1
      · have AS := A.net.A k
        have P := A.pp k
        have hto := tot_k σ k
        have hwo := A.net.wo
        have hds := A.net.ds
        have hwk : (two fun k => (σ k).w)[Bool.toNat k]? = some (σ k).w := two_get _ k
        have hdk : (two fun k => ptr (σ k).D)[Bool.toNat k]? = some (ptr (σ k).D) := two_get _ k
        have twl : ∀ f, (two f).length = 2 := fun f => rfl
        have hle : Bool.toNat k + 1 ≤ 2 := by omega
        simp only [ptr] at hds hdk
        have hlk0 := P.ab.l0
        simp only [sx, x_box, x_alloc, x_bslice, x_slice, x_append, x_appz, x_b2s, xop, ev, evs, evParts, fillL, cellsL, Ai.get, Ai.put, stab, isNil?, if_false, if_true, addr?, int?, str?, agg?, bool?, shiftA, FnPost, xresL, xres1, tup, argEnv, ptr, Nat.reduceEqDiff, reduceIte, beq_self_eq_true, ne_eq, Nat.reduceAdd, Nat.reduceMul, Nat.reduceSub, abin_shl, abin_shr, load1V, loadV, storeV, cellsAt, getN, setN, allocV, lenL, lenS, bnd, oneC, Value.oneCell', Nat.reduceLeDiff, Nat.reduceLT, exists_eq_left', forall_const, reduceCtorEq, app_new, app_new0, List.append_assoc, Int.reduceToNat, Int.reduceLT, Int.reduceLE, Int.reduceEq, Int.reduceNe, Int.reduceBEq, IntKind.bits, bne_self_eq_false, Int.reducePow, r96]
        obtain ⟨b2, hb2⟩ : ∃ b : Bool, (b = true ↔ r6 = 2 ∨ r6 = 3) := ⟨decide (r6 = 2 ∨ r6 = 3), decide_eq_true_iff⟩
        refine xcond_cut (AgZ q nA c n Da Db DS WO XO i R k r6 170 b2 g') ?_ ?_
        · by_cases z2 : r6 = 2
          · obtain rfl : b2 = true := hb2.2 (.inl z2)
            simp only [sx, x_box, x_alloc, x_bslice, x_slice, x_append, x_appz, x_b2s, xop, ev, evs, evParts, fillL, cellsL, Ai.get, Ai.put, stab, isNil?, if_false, if_true, addr?, int?, str?, agg?, bool?, shiftA, FnPost, xresL, xres1, tup, argEnv, ptr, Nat.reduceEqDiff, reduceIte, beq_self_eq_true, ne_eq, Nat.reduceAdd, Nat.reduceMul, Nat.reduceSub, abin_shl, abin_shr, load1V, loadV, storeV, cellsAt, getN, setN, allocV, lenL, lenS, bnd, oneC, Value.oneCell', Nat.reduceLeDiff, Nat.reduceLT, exists_eq_left', forall_const, reduceCtorEq, app_new, app_new0, List.append_assoc, Int.reduceToNat, Int.reduceLT, Int.reduceLE, Int.reduceEq, Int.reduceNe, Int.reduceBEq, IntKind.bits, bne_self_eq_false, Int.reducePow, z2]
            exact ⟨⟨r2, r7, r9, r11, r13, r14, r15⟩, r16, r17, r18, by rw [← z2]; exact r96, rfl, rfl⟩
          · by_cases z3 : r6 = 3
            · obtain rfl : b2 = true := hb2.2 (.inr z3)
              have z32 : ¬ (3 : Int) = 2 := by decide
              have r96' : get ρ 96 = some (.int .u8 3) := by rw [← z3]; exact r96
              simp only [sx, x_box, x_alloc, x_bslice, x_slice, x_append, x_appz, x_b2s, xop, ev, evs, evParts, fillL, cellsL, Ai.get, Ai.put, stab, isNil?, if_false, if_true, addr?, int?, str?, agg?, bool?, shiftA, FnPost, xresL, xres1, tup, argEnv, ptr, Nat.reduceEqDiff, reduceIte, beq_self_eq_true, ne_eq, Nat.reduceAdd, Nat.reduceMul, Nat.reduceSub, abin_shl, abin_shr, load1V, loadV, storeV, cellsAt, getN, setN, allocV, lenL, lenS, bnd, oneC, Value.oneCell', Nat.reduceLeDiff, Nat.reduceLT, exists_eq_left', forall_const, reduceCtorEq, app_new, app_new0, List.append_assoc, Int.reduceToNat, Int.reduceLT, Int.reduceLE, Int.reduceEq, Int.reduceNe, Int.reduceBEq, IntKind.bits, bne_self_eq_false, Int.reducePow, r96', z3, z32]
              exact ⟨⟨r2, r7, r9, r11, r13, r14, r15⟩, r16, r17, r18, r96', rfl, rfl⟩
            · obtain rfl : b2 = false := by cases b2; rfl; exact absurd (hb2.1 rfl) (by omega)
              simp only [sx, x_box, x_alloc, x_bslice, x_slice, x_append, x_appz, x_b2s, xop, ev, evs, evParts, fillL, cellsL, Ai.get, Ai.put, stab, isNil?, if_false, if_true, addr?, int?, str?, agg?, bool?, shiftA, FnPost, xresL, xres1, tup, argEnv, ptr, Nat.reduceEqDiff, reduceIte, beq_self_eq_true, ne_eq, Nat.reduceAdd, Nat.reduceMul, Nat.reduceSub, abin_shl, abin_shr, load1V, loadV, storeV, cellsAt, getN, setN, allocV, lenL, lenS, bnd, oneC, Value.oneCell', Nat.reduceLeDiff, Nat.reduceLT, exists_eq_left', forall_const, reduceCtorEq, app_new, app_new0, List.append_assoc, Int.reduceToNat, Int.reduceLT, Int.reduceLE, Int.reduceEq, Int.reduceNe, Int.reduceBEq, IntKind.bits, bne_self_eq_false, Int.reducePow, r96, z2, z3]
              exact ⟨⟨r2, r7, r9, r11, r13, r14, r15⟩, r16, r17, r18, r96, rfl, rfl⟩
        clear r2 r7 r9 r11 r13 r14 r15 r16 r17 r18 r96 r122
        rintro ρ g'' ⟨⟨r2, r7, r9, r11, r13, r14, r15⟩, r16, r17, r18, r96, r170, e0⟩
        subst e0
        simp only [ptr] at r14
        simp only [sx, x_box, x_alloc, x_bslice, x_slice, x_append, x_appz, x_b2s, xop, ev, evs, evParts, fillL, cellsL, Ai.get, Ai.put, stab, isNil?, if_false, if_true, addr?, int?, str?, agg?, bool?, shiftA, FnPost, xresL, xres1, tup, argEnv, ptr, Nat.reduceEqDiff, reduceIte, beq_self_eq_true, ne_eq, Nat.reduceAdd, Nat.reduceMul, Nat.reduceSub, abin_shl, abin_shr, load1V, loadV, storeV, cellsAt, getN, setN, allocV, lenL, lenS, bnd, oneC, Value.oneCell', Nat.reduceLeDiff, Nat.reduceLT, exists_eq_left', forall_const, reduceCtorEq, app_new, app_new0, List.append_assoc, Int.reduceToNat, Int.reduceLT, Int.reduceLE, Int.reduceEq, Int.reduceNe, Int.reduceBEq, IntKind.bits, bne_self_eq_false, Int.reducePow, r170]
        cases b2
        · by_cases z4 : r6 = 4
          · -- Tick
            simp only [sx, x_box, x_alloc, x_bslice, x_slice, x_append, x_appz, x_b2s, xop, ev, evs, evParts, fillL, cellsL, Ai.get, Ai.put, stab, isNil?, if_false, if_true, addr?, int?, str?, agg?, bool?, shiftA, FnPost, xresL, xres1, tup, argEnv, ptr, Nat.reduceEqDiff, reduceIte, beq_self_eq_true, ne_eq, Nat.reduceAdd, Nat.reduceMul, Nat.reduceSub, abin_shl, abin_shr, load1V, loadV, storeV, cellsAt, getN, setN, allocV, lenL, lenS, bnd, oneC, Value.oneCell', Nat.reduceLeDiff, Nat.reduceLT, exists_eq_left', forall_const, reduceCtorEq, app_new, app_new0, List.append_assoc, Int.reduceToNat, Int.reduceLT, Int.reduceLE, Int.reduceEq, Int.reduceNe, Int.reduceBEq, IntKind.bits, bne_self_eq_false, Int.reducePow, r96, z4, r13, r18, hk0, hk2, hds, hdk, Nat.mul_one, Nat.zero_add]
            refine xcall (tick_ok AS (by omega) (fun m hm => by have := (P.ab.opk hm).2.2.len; omega)) (by rfl) (by rfl) (by rfl) (by rfl) ?_
            rintro r g2 Wt
            obtain ⟨opv2, outv2, S2⟩ := A.net.went k Wt
            obtain ⟨k1, k2, k3, -⟩ := tick_sh (σ k).d P.ab.ag
            have kl := tick_len (σ k).d
            simp only [sx, x_box, x_alloc, x_bslice, x_slice, x_append, x_appz, x_b2s, xop, ev, evs, evParts, fillL, cellsL, Ai.get, Ai.put, stab, isNil?, if_false, if_true, addr?, int?, str?, agg?, bool?, shiftA, FnPost, xresL, xres1, tup, argEnv, ptr, Nat.reduceEqDiff, reduceIte, beq_self_eq_true, ne_eq, Nat.reduceAdd, Nat.reduceMul, Nat.reduceSub, abin_shl, abin_shr, load1V, loadV, storeV, cellsAt, getN, setN, allocV, lenL, lenS, bnd, oneC, Value.oneCell', Nat.reduceLeDiff, Nat.reduceLT, exists_eq_left', forall_const, reduceCtorEq, app_new, app_new0, List.append_assoc, Int.reduceToNat, Int.reduceLT, Int.reduceLE, Int.reduceEq, Int.reduceNe, Int.reduceBEq, IntKind.bits, bne_self_eq_false, Int.reducePow]
            refine ⟨_, ⟨r2, r7, r9, r11, r13, r14, r15⟩, r16, ⟨S2, A.ids.upd k rfl, PP.mk k ?_, allk k ?_ ?_⟩, allk k ?_ ?_, ?_⟩
            · rw [upd_self, upd_not]; exact P.tick
            · show (upd σ k _ k).want = (upd σ k _ k).d.locals
              rw [upd_self]
              show (σ k).want = (σ k).d.tick.locals
              rw [A.wn k]; unfold DK.locals; rw [k1]
            · show (upd σ k _ (!k)).want = (upd σ k _ (!k)).d.locals
              rw [upd_not]; exact A.wn (!k)
            · show (upd σ k _ k).d.last ≤ _
              rw [upd_self]
              show (σ k).d.tick.last ≤ _
              omega
            · show (upd σ k _ (!k)).d.last ≤ _
              rw [upd_not]; have := hla (!k); omega
            · rw [tot_k _ k, upd_self, upd_not]
              show (σ k).ms.length + (σ k).d.tick.out.length + _ + _ ≤ _
              omega
          · -- a message is lost, or comes twice
            simp only [sx, x_box, x_alloc, x_bslice, x_slice, x_append, x_appz, x_b2s, xop, ev, evs, evParts, fillL, cellsL, Ai.get, Ai.put, stab, isNil?, if_false, if_true, addr?, int?, str?, agg?, bool?, shiftA, FnPost, xresL, xres1, tup, argEnv, ptr, Nat.reduceEqDiff, reduceIte, beq_self_eq_true, ne_eq, Nat.reduceAdd, Nat.reduceMul, Nat.reduceSub, abin_shl, abin_shr, load1V, loadV, storeV, cellsAt, getN, setN, allocV, lenL, lenS, bnd, oneC, Value.oneCell', Nat.reduceLeDiff, Nat.reduceLT, exists_eq_left', forall_const, reduceCtorEq, app_new, app_new0, List.append_assoc, Int.reduceToNat, Int.reduceLT, Int.reduceLE, Int.reduceEq, Int.reduceNe, Int.reduceBEq, IntKind.bits, bne_self_eq_false, Int.reducePow, r96, z4]
            cases hms : (σ k).ms with
            | nil =>
              obtain ⟨wa, wc, hw⟩ := (A.net.q k).shp
              rw [hms] at hw
              rw [hw] at hwk
              have h00 : ¬ (0 : Int) < ((([] : List Ms).length : Nat) : Int) := by decide
              simp only [sx, x_box, x_alloc, x_bslice, x_slice, x_append, x_appz, x_b2s, xop, ev, evs, evParts, fillL, cellsL, Ai.get, Ai.put, stab, isNil?, if_false, if_true, addr?, int?, str?, agg?, bool?, shiftA, FnPost, xresL, xres1, tup, argEnv, ptr, Nat.reduceEqDiff, reduceIte, beq_self_eq_true, ne_eq, Nat.reduceAdd, Nat.reduceMul, Nat.reduceSub, abin_shl, abin_shr, load1V, loadV, storeV, cellsAt, getN, setN, allocV, lenL, lenS, bnd, oneC, Value.oneCell', Nat.reduceLeDiff, Nat.reduceLT, exists_eq_left', forall_const, reduceCtorEq, app_new, app_new0, List.append_assoc, Int.reduceToNat, Int.reduceLT, Int.reduceLE, Int.reduceEq, Int.reduceNe, Int.reduceBEq, IntKind.bits, bne_self_eq_false, Int.reducePow, r14, r18, hk0, hk2, hwo, hwk, h00, Nat.mul_one, Nat.zero_add]
              exact ⟨σ, ⟨r2, r7, r9, r11, r13, r14, r15⟩, r16, A, fun j => by have := hla j; omega, by omega⟩
            | cons m0 ms0 =>
              obtain ⟨A', off, wc, cells, mv, ov, hw, hA', hg, M, O⟩ := (A.net.q k).elem (j := 0) (m := m0) (by rw [hms]; rfl)
              rw [hw] at hwk
              have hmem : m0 ∈ (σ k).ms := by rw [hms]; exact List.mem_cons_self ..
              have hln : (σ k).ms.length = ms0.length + 1 := by rw [hms]; rfl
              have h00 : (0 : Int) < (((σ k).ms.length : Nat) : Int) := by omega
              have i00 : (0 : Int) ≤ 0 := by decide
              have t0 : (0 : Int).toNat = 0 := rfl
              rw [Nat.zero_mul, Nat.add_zero] at hg
              have hq := A.net.q k
              rw [hms, hw] at hq
              cases on
              · -- twice
                obtain ⟨mq, mc, rfl⟩ := M.shape
                obtain ⟨oq, oc, rfl⟩ := O.shape
                simp only [Ms.cells] at hg
                have Kb := Kp.app g'' [some (AObj.mk true [Value.int IntKind.u8 m0.kind, .int .u32 m0.serial, .int .i64 m0.first, .slice mq m0.mask.length mc, .slice oq m0.on.length oc])]
                have hwo2 := Kb.get hwo
                simp only [sx, x_box, x_alloc, x_bslice, x_slice, x_appz, x_b2s, xop, ev, evs, evParts, fillL, cellsL, Ai.get, Ai.put, stab, isNil?, if_false, if_true, addr?, int?, str?, agg?, bool?, shiftA, FnPost, xresL, xres1, tup, argEnv, ptr, Nat.reduceEqDiff, reduceIte, beq_self_eq_true, ne_eq, Nat.reduceAdd, Nat.reduceMul, Nat.reduceSub, abin_shl, abin_shr, load1V, loadV, storeV, cellsAt, setN, allocV, lenL, lenS, bnd, oneC, Value.oneCell', Nat.reduceLeDiff, Nat.reduceLT, exists_eq_left', forall_const, reduceCtorEq, app_new, app_new0, List.append_assoc, Int.reduceToNat, Int.reduceLT, Int.reduceLE, Int.reduceEq, Int.reduceNe, Int.reduceBEq, IntKind.bits, bne_self_eq_false, Int.reducePow, r14, r17, r18, hR, hk0, hk2, hwo, hwo2, hwk, h00, i00, t0, hA', hg, Nat.mul_one, Nat.zero_mul, Nat.add_zero, Nat.zero_add]
                have hx1 := app_one g'' (some (AObj.mk true [Value.int IntKind.u8 m0.kind, .int .u32 m0.serial, .int .i64 m0.first, .slice mq m0.mask.length mc, .slice oq m0.on.length oc]))
                have A1 := A.keep Kb
                have M1 := M.frz Kb.frz
                have O1 := O.frz Kb.frz
                generalize g'' ++ [some (AObj.mk true [Value.int IntKind.u8 m0.kind, .int .u32 m0.serial, .int .i64 m0.first, .slice mq m0.mask.length mc, .slice oq m0.on.length oc])] = g2 at *
                have hq2 := A1.net.q k
                rw [hw] at hq2
                refine MQ.app_run (ms' := [m0]) (cells' := [Value.int IntKind.u8 m0.kind, .int .u32 m0.serial, .int .i64 m0.first, .slice mq m0.mask.length mc, .slice oq m0.on.length oc]) (xv := .slice (some ⟨g''.length, 0, none⟩) 1 1) rfl hq2 rfl rfl rfl (slice1 hx1 rfl) ⟨_, _, [], rfl, M1, O1, rfl⟩ (by simp; omega) fun g3 w' hl3 hf3 Q' hw' => ?_
                obtain ⟨wa', wc', hwv⟩ := Q'.shp
                have el : ((σ k).ms ++ [m0]).length = (σ k).ms.length + 1 := by simp
                rw [el] at hwv
                subst hwv
                obtain ⟨hwo3, S2⟩ := A1.net.wire k hl3 (by rw [hw]; exact hf3) Q' (by rw [hw]; exact hw')
                simp only [sx, x_box, x_alloc, x_bslice, x_slice, x_append, x_appz, x_b2s, xop, ev, evs, evParts, fillL, cellsL, Ai.get, Ai.put, stab, isNil?, if_false, if_true, addr?, int?, str?, agg?, bool?, shiftA, FnPost, xresL, xres1, tup, argEnv, ptr, Nat.reduceEqDiff, reduceIte, beq_self_eq_true, ne_eq, Nat.reduceAdd, Nat.reduceMul, Nat.reduceSub, abin_shl, abin_shr, load1V, loadV, storeV, cellsAt, getN, setN, allocV, lenL, lenS, bnd, oneC, Value.oneCell', Nat.reduceLeDiff, Nat.reduceLT, exists_eq_left', forall_const, reduceCtorEq, app_new, app_new0, List.append_assoc, Int.reduceToNat, Int.reduceLT, Int.reduceLE, Int.reduceEq, Int.reduceNe, Int.reduceBEq, IntKind.bits, bne_self_eq_false, Int.reducePow, r14, r18, hk0, hk2, hwo3, twl, hle, Nat.mul_one, Nat.zero_add]
                refine ⟨_, ⟨r2, r7, r9, r11, r13, r14, r15⟩, r16, ⟨S2, A.ids.upd k rfl, PP.mk k ?_, allk k ?_ ?_⟩, allk k ?_ ?_, ?_⟩
                · rw [upd_self, upd_not]; exact P.sub (fun m h => h) (fun m h => by
                    rcases List.mem_append.1 h with h | h
                    · exact h
                    · have : m = m0 := by simpa using h
                      subst this; exact hmem)
                · show (upd σ k _ k).want = (upd σ k _ k).d.locals
                  rw [upd_self]; exact A.wn k
                · show (upd σ k _ (!k)).want = (upd σ k _ (!k)).d.locals
                  rw [upd_not]; exact A.wn (!k)
                · show (upd σ k _ k).d.last ≤ _
                  rw [upd_self]; show (σ k).d.last ≤ _; omega
                · show (upd σ k _ (!k)).d.last ≤ _
                  rw [upd_not]; have := hla (!k); omega
                · rw [tot_k _ k, upd_self, upd_not]
                  show ((σ k).ms ++ [m0]).length + (σ k).d.out.length + _ + _ ≤ _
                  rw [List.length_append, List.length_singleton]; omega
              · -- lost
                obtain ⟨w', hxop, Q', hsl⟩ := hq.pop
                obtain ⟨wa', wc', rfl⟩ := Q'.shp
                have S2 := (A.net.wire k (w' := .slice wa' ms0.length wc') (ms' := ms0) (Nat.le_refl _) (fun _ _ _ => rfl) Q' (fun B hB => .inl (by rw [hw]; exact hsl B hB))).2
                simp only [sx, x_box, x_alloc, x_bslice, x_append, x_appz, x_b2s, xop, ev, evs, evParts, fillL, cellsL, Ai.get, Ai.put, stab, isNil?, if_false, if_true, addr?, int?, str?, agg?, bool?, shiftA, FnPost, xresL, xres1, tup, argEnv, ptr, Nat.reduceEqDiff, reduceIte, beq_self_eq_true, ne_eq, Nat.reduceAdd, Nat.reduceMul, Nat.reduceSub, abin_shl, abin_shr, load1V, loadV, storeV, cellsAt, getN, setN, allocV, lenL, lenS, bnd, oneC, Value.oneCell', Nat.reduceLeDiff, Nat.reduceLT, exists_eq_left', forall_const, reduceCtorEq, app_new, app_new0, List.append_assoc, Int.reduceToNat, Int.reduceLT, Int.reduceLE, Int.reduceEq, Int.reduceNe, Int.reduceBEq, IntKind.bits, bne_self_eq_false, Int.reducePow, r14, r17, r18, hR, hk0, hk2, hwo, hwk, h00, Nat.mul_one, Nat.zero_add]
                rw [x_slice, hxop _ _ _ (by rfl) (by rfl)]
                simp only [sx, x_box, x_alloc, x_bslice, x_append, x_appz, x_b2s, xop, ev, evs, evParts, fillL, cellsL, Ai.get, Ai.put, stab, isNil?, if_false, if_true, addr?, int?, str?, agg?, bool?, shiftA, FnPost, xresL, xres1, tup, argEnv, ptr, Nat.reduceEqDiff, reduceIte, beq_self_eq_true, ne_eq, Nat.reduceAdd, Nat.reduceMul, Nat.reduceSub, abin_shl, abin_shr, load1V, loadV, storeV, cellsAt, getN, setN, allocV, lenL, lenS, bnd, oneC, Value.oneCell', Nat.reduceLeDiff, Nat.reduceLT, exists_eq_left', forall_const, reduceCtorEq, app_new, app_new0, List.append_assoc, Int.reduceToNat, Int.reduceLT, Int.reduceLE, Int.reduceEq, Int.reduceNe, Int.reduceBEq, IntKind.bits, bne_self_eq_false, Int.reducePow, r14, r18, hk0, hk2, hwo, twl, hle, Nat.mul_one, Nat.zero_add]
                refine ⟨_, ⟨r2, r7, r9, r11, r13, r14, r15⟩, r16, ⟨S2, A.ids.upd k rfl, PP.mk k ?_, allk k ?_ ?_⟩, allk k ?_ ?_, ?_⟩
                · rw [upd_self, upd_not]; exact P.sub (fun m h => h) (fun m h => by rw [hms]; exact List.mem_cons_of_mem _ h)
                · show (upd σ k _ k).want = (upd σ k _ k).d.locals
                  rw [upd_self]; exact A.wn k
                · show (upd σ k _ (!k)).want = (upd σ k _ (!k)).d.locals
                  rw [upd_not]; exact A.wn (!k)
                · show (upd σ k _ k).d.last ≤ _
                  rw [upd_self]; show (σ k).d.last ≤ _; omega
                · show (upd σ k _ (!k)).d.last ≤ _
                  rw [upd_not]; have := hla (!k); omega
                · rw [tot_k _ k, upd_self, upd_not]
                  show ms0.length + (σ k).d.out.length + _ + _ ≤ _
                  omega
        · -- Hear
          cases hms : (σ k).ms with
          | nil =>
            obtain ⟨wa, wc, hw⟩ := (A.net.q k).shp
            rw [hms] at hw
            rw [hw] at hwk
            have h00 : ¬ (0 : Int) < ((([] : List Ms).length : Nat) : Int) := by decide
            simp only [sx, x_box, x_alloc, x_bslice, x_slice, x_append, x_appz, x_b2s, xop, ev, evs, evParts, fillL, cellsL, Ai.get, Ai.put, stab, isNil?, if_false, if_true, addr?, int?, str?, agg?, bool?, shiftA, FnPost, xresL, xres1, tup, argEnv, ptr, Nat.reduceEqDiff, reduceIte, beq_self_eq_true, ne_eq, Nat.reduceAdd, Nat.reduceMul, Nat.reduceSub, abin_shl, abin_shr, load1V, loadV, storeV, cellsAt, getN, setN, allocV, lenL, lenS, bnd, oneC, Value.oneCell', Nat.reduceLeDiff, Nat.reduceLT, exists_eq_left', forall_const, reduceCtorEq, app_new, app_new0, List.append_assoc, Int.reduceToNat, Int.reduceLT, Int.reduceLE, Int.reduceEq, Int.reduceNe, Int.reduceBEq, IntKind.bits, bne_self_eq_false, Int.reducePow, r14, r18, hk0, hk2, hwo, hwk, h00, Nat.mul_one, Nat.zero_add]
            exact ⟨σ, ⟨r2, r7, r9, r11, r13, r14, r15⟩, r16, A, fun j => by have := hla j; omega, by omega⟩
          | cons m0 ms0 =>
            obtain ⟨A', off, wc, cells, mv, ov, hw, hA', hg, M, O⟩ := (A.net.q k).elem (j := 0) (m := m0) (by rw [hms]; rfl)
            rw [hw] at hwk
            have hmem : m0 ∈ (σ k).ms := by rw [hms]; exact List.mem_cons_self ..
            have hln : (σ k).ms.length = ms0.length + 1 := by rw [hms]; rfl
            have h00 : (0 : Int) < (((σ k).ms.length : Nat) : Int) := by omega
            have i00 : (0 : Int) ≤ 0 := by decide
            have t0 : (0 : Int).toNat = 0 := rfl
            rw [Nat.zero_mul, Nat.add_zero] at hg
            simp only [sx, x_box, x_alloc, x_bslice, x_slice, x_append, x_appz, x_b2s, xop, ev, evs, evParts, fillL, cellsL, Ai.get, Ai.put, stab, isNil?, if_false, if_true, addr?, int?, str?, agg?, bool?, shiftA, FnPost, xresL, xres1, tup, argEnv, ptr, Nat.reduceEqDiff, reduceIte, beq_self_eq_true, ne_eq, Nat.reduceAdd, Nat.reduceMul, Nat.reduceSub, abin_shl, abin_shr, load1V, loadV, storeV, cellsAt, setN, allocV, lenL, lenS, bnd, oneC, Value.oneCell', Nat.reduceLeDiff, Nat.reduceLT, exists_eq_left', forall_const, reduceCtorEq, app_new, app_new0, List.append_assoc, Int.reduceToNat, Int.reduceLT, Int.reduceLE, Int.reduceEq, Int.reduceNe, Int.reduceBEq, IntKind.bits, bne_self_eq_false, Int.reducePow, r13, r14, r18, hk0, hk2, hwo, hwk, hds, hdk, h00, i00, t0, hA', hg, Nat.mul_one, Nat.zero_mul, Nat.add_zero, Nat.zero_add]
            have hfl := (P.fit hmem).1.len
            refine xcall (hear_ok (m := m0) AS ⟨mv, ov, rfl, M, O⟩ (by omega) (by omega)) (by rfl) (by rfl) (by rfl) (by rfl) ?_
            intro r g2 hP
            obtain ⟨rfl, Wt⟩ := P.heard hmem hP
            obtain ⟨opv2, outv2, S1⟩ := A.net.went k Wt
            obtain ⟨h1n, h2n, h3n, h4n, -⟩ := P.hear_n (by omega) (by omega) hmem
            have gw : ∀ j, (upd σ k { σ k with d := (σ k).d.hr m0, opv := opv2, outv := outv2 } j).w = (σ j).w := upd_w rfl
            have hwo2 := S1.wo
            simp only [gw] at hwo2
            have hq := S1.q k
            rw [upd_self] at hq
            have hq' : MQ g2 (σ k).w (m0 :: ms0) := by rw [← hms]; exact hq
            rw [hw] at hq'
            obtain ⟨w', hxop, Q', hsl⟩ := hq'.pop
            obtain ⟨wa', wc', rfl⟩ := Q'.shp
            have S2 := (S1.wire k (w' := .slice wa' ms0.length wc') (ms' := ms0) (Nat.le_refl _) (fun _ _ _ => rfl) Q' (fun B hB => .inl (by rw [upd_self]; show slB (σ k).w = some B; rw [hw]; exact hsl B hB))).2
            rw [upd_upd, upd_self] at S2
            simp only [gw] at S2
            simp only [sx, x_box, x_alloc, x_bslice, x_append, x_appz, x_b2s, xop, ev, evs, evParts, fillL, cellsL, Ai.get, Ai.put, stab, isNil?, if_false, if_true, addr?, int?, str?, agg?, bool?, shiftA, FnPost, xresL, xres1, tup, argEnv, ptr, Nat.reduceEqDiff, reduceIte, beq_self_eq_true, ne_eq, Nat.reduceAdd, Nat.reduceMul, Nat.reduceSub, abin_shl, abin_shr, load1V, loadV, storeV, cellsAt, getN, setN, allocV, lenL, lenS, bnd, oneC, Value.oneCell', Nat.reduceLeDiff, Nat.reduceLT, exists_eq_left', forall_const, reduceCtorEq, app_new, app_new0, List.append_assoc, Int.reduceToNat, Int.reduceLT, Int.reduceLE, Int.reduceEq, Int.reduceNe, Int.reduceBEq, IntKind.bits, bne_self_eq_false, Int.reducePow, m00, r14, r18, hk0, hk2, hwo2, hwk, Nat.mul_one, Nat.zero_add]
            rw [x_slice, hxop _ _ _ (by rfl) (by rfl)]
            simp only [sx, x_box, x_alloc, x_bslice, x_append, x_appz, x_b2s, xop, ev, evs, evParts, fillL, cellsL, Ai.get, Ai.put, stab, isNil?, if_false, if_true, addr?, int?, str?, agg?, bool?, shiftA, FnPost, xresL, xres1, tup, argEnv, ptr, Nat.reduceEqDiff, reduceIte, beq_self_eq_true, ne_eq, Nat.reduceAdd, Nat.reduceMul, Nat.reduceSub, abin_shl, abin_shr, load1V, loadV, storeV, cellsAt, getN, setN, allocV, lenL, lenS, bnd, oneC, Value.oneCell', Nat.reduceLeDiff, Nat.reduceLT, exists_eq_left', forall_const, reduceCtorEq, app_new, app_new0, List.append_assoc, Int.reduceToNat, Int.reduceLT, Int.reduceLE, Int.reduceEq, Int.reduceNe, Int.reduceBEq, IntKind.bits, bne_self_eq_false, Int.reducePow, r14, r18, hk0, hk2, hwo2, twl, hle, Nat.mul_one, Nat.zero_add]
            refine ⟨_, ⟨r2, r7, r9, r11, r13, r14, r15⟩, r16, ⟨S2, A.ids.upd k rfl, PP.mk k ?_, allk k ?_ ?_⟩, allk k ?_ ?_, ?_⟩
            · rw [upd_self, upd_not]; exact (P.hear (by omega) (by omega) hmem).sub (fun m h => h) (fun m h => by rw [hms]; exact List.mem_cons_of_mem _ h)
            · show (upd σ k _ k).want = (upd σ k _ k).d.locals
              rw [upd_self]
              show (σ k).want = ((σ k).d.hr m0).locals
              rw [A.wn k, h4n]
            · show (upd σ k _ (!k)).want = (upd σ k _ (!k)).d.locals
              rw [upd_not]; exact A.wn (!k)
            · show (upd σ k _ k).d.last ≤ _
              rw [upd_self]
              show ((σ k).d.hr m0).last ≤ _
              omega
            · show (upd σ k _ (!k)).d.last ≤ _
              rw [upd_not]; have := hla (!k); omega
            · rw [tot_k _ k, upd_self, upd_not]
              show ms0.length + ((σ k).d.hr m0).out.length + _ + _ ≤ _
              omega
      · -- SetAll
        simp only [sx, x_box, x_alloc, x_bslice, x_slice, x_append, x_appz, x_b2s, xop, ev, evs, evParts, fillL, cellsL, Ai.get, Ai.put, stab, isNil?, if_false, if_true, addr?, int?, str?, agg?, bool?, shiftA, FnPost, xresL, xres1, tup, argEnv, ptr, Nat.reduceEqDiff, reduceIte, beq_self_eq_true, ne_eq, Nat.reduceAdd, Nat.reduceMul, Nat.reduceSub, abin_shl, abin_shr, load1V, loadV, storeV, cellsAt, getN, setN, allocV, lenL, lenS, bnd, oneC, Value.oneCell', Nat.reduceLeDiff, Nat.reduceLT, exists_eq_left', forall_const, reduceCtorEq, app_new, app_new0, List.append_assoc, Int.reduceToNat, Int.reduceLT, Int.reduceLE, Int.reduceEq, Int.reduceNe, Int.reduceBEq, IntKind.bits, bne_self_eq_false, Int.reducePow]
        refine xloop_cut (CoE h DS WO XO n Da Db q nA c i R k σ [.int .u8 kd, .bool sd, .slice cq cs.length cc, .bool on] on) ?_ ?_
        · refine xcode_loop (CoA h DS WO XO n Da Db q nA c i R k σ [.int .u8 kd, .bool sd, .slice cq cs.length cc, .bool on] cs on) (min cs.length 40) ⟨0, .slice none 0 0, by omega, ⟨r2, r7, r9, r11, r13, r14, r15⟩, r16, r17, r18, rfl, rfl, ?_, hR, RetN.nil 1 _, fun B hB => by cases hB⟩ ?_
          · have e : (upd σ k { σ k with want := (cdA n cs 0).foldl (fun l z => l.set z.toNat on) (σ k).want }) = σ := upd_same σ k
            rw [e]; exact A.net
          have hwl : (σ k).want.length = n := by rw [A.wn k, DK.locals_len]; exact (A.pp k).ab.cl
          clear r2 r7 r9 r11 r13 r14 r15 r16 r17 r18 r96 r122 hR A
          rintro m ρ g1 ⟨j, v, hjm, ⟨r2, r7, r9, r11, r13, r14, r15⟩, r16, r17, r18, r20, r19, S, hR, C⟩
          by_cases hj1 : j < cs.length
          rotate_left
          · have hj1' : ¬ (j : Int) < cs.length := by omega
            simp only [sx, x_box, x_alloc, x_bslice, x_slice, x_append, x_appz, x_b2s, xop, ev, evs, evParts, fillL, cellsL, Ai.get, Ai.put, stab, isNil?, if_false, if_true, addr?, int?, str?, agg?, bool?, shiftA, FnPost, xresL, xres1, tup, argEnv, ptr, Nat.reduceEqDiff, reduceIte, beq_self_eq_true, ne_eq, Nat.reduceAdd, Nat.reduceMul, Nat.reduceSub, abin_shl, abin_shr, load1V, loadV, storeV, cellsAt, getN, setN, allocV, lenL, lenS, bnd, oneC, Value.oneCell', Nat.reduceLeDiff, Nat.reduceLT, exists_eq_left', forall_const, reduceCtorEq, app_new, app_new0, List.append_assoc, Int.reduceToNat, Int.reduceLT, Int.reduceLE, Int.reduceEq, Int.reduceNe, Int.reduceBEq, IntKind.bits, bne_self_eq_false, Int.reducePow, r17, r20, hR, hj1']
            exact ⟨cdA n cs j, v, ⟨r2, r7, r9, r11, r13, r14, r15⟩, r16, r17, r18, r19, by rw [cdA_len]; omega, cdA_in hN1 cs j, S, hR, C⟩
          have hj1' : (j : Int) < cs.length := by omega
          by_cases hj2 : j < 40
          rotate_left
          · have hj2' : ¬ (j : Int) < 40 := by omega
            simp only [sx, x_box, x_alloc, x_bslice, x_slice, x_append, x_appz, x_b2s, xop, ev, evs, evParts, fillL, cellsL, Ai.get, Ai.put, stab, isNil?, if_false, if_true, addr?, int?, str?, agg?, bool?, shiftA, FnPost, xresL, xres1, tup, argEnv, ptr, Nat.reduceEqDiff, reduceIte, beq_self_eq_true, ne_eq, Nat.reduceAdd, Nat.reduceMul, Nat.reduceSub, abin_shl, abin_shr, load1V, loadV, storeV, cellsAt, getN, setN, allocV, lenL, lenS, bnd, oneC, Value.oneCell', Nat.reduceLeDiff, Nat.reduceLT, exists_eq_left', forall_const, reduceCtorEq, app_new, app_new0, List.append_assoc, Int.reduceToNat, Int.reduceLT, Int.reduceLE, Int.reduceEq, Int.reduceNe, Int.reduceBEq, IntKind.bits, bne_self_eq_false, Int.reducePow, r17, r20, hR, hj1', hj2']
            exact ⟨cdA n cs j, v, ⟨r2, r7, r9, r11, r13, r14, r15⟩, r16, r17, r18, r19, by rw [cdA_len]; omega, cdA_in hN1 cs j, S, hR, C⟩
          have hj2' : (j : Int) < 40 := by omega
          have hj0 : (0 : Int) ≤ j := by omega
          obtain ⟨z, hz⟩ : ∃ z, cs[j]? = some z := ⟨_, List.getElem?_eq_getElem hj1⟩
          obtain ⟨⟨z1, z2⟩, ca, co, rfl, c1, c2, c3⟩ := a3 j z hz
          have c2g := S.kp.get c2
          have w1 : IntKind.i64.wrap z = z := i64_wrap (by omega) (by omega)
          have wy0 := Int.emod_nonneg z (show ((n : Nat) : Int) ≠ 0 by omega)
          have wy1 := Int.emod_lt_of_pos z (show (0 : Int) < ((n : Nat) : Int) by omega)
          obtain ⟨y, hy⟩ : ∃ y : Nat, z % (n : Int) = y := ⟨(z % (n : Int)).toNat, by omega⟩
          have w2 : z.tmod (n : Int) = (y : Int) := by rw [Int.tmod_eq_emod_of_nonneg z1, hy]
          have hyN : y < n := by omega
          have ecs := cdA_snoc n hz
          rw [hy] at ecs
          have eln : (cdA n cs j).length = j := by rw [cdA_len]; omega
          have wN : ¬ ((n : Nat) : Int) = 0 := by omega
          have w3 : IntKind.i64.wrap ((j : Int) + 1) = ((j + 1 : Nat) : Int) := by rw [i64_wrap] <;> omega
          simp only [sx, x_box, x_alloc, x_bslice, x_slice, x_appz, x_b2s, xop, ev, evs, evParts, fillL, cellsL, Ai.get, Ai.put, stab, isNil?, if_false, if_true, addr?, int?, str?, agg?, bool?, shiftA, FnPost, xresL, xres1, tup, argEnv, ptr, Nat.reduceEqDiff, reduceIte, beq_self_eq_true, ne_eq, Nat.reduceAdd, Nat.reduceMul, Nat.reduceSub, abin_shl, abin_shr, load1V, loadV, storeV, cellsAt, getN, setN, allocV, lenL, lenS, bnd, oneC, Value.oneCell', Nat.reduceLeDiff, Nat.reduceLT, exists_eq_left', forall_const, reduceCtorEq, app_new, app_new0, List.append_assoc, Int.reduceToNat, Int.reduceLT, Int.reduceLE, Int.reduceEq, Int.reduceNe, Int.reduceBEq, IntKind.bits, bne_self_eq_false, Int.reducePow, abin_rem, r17, r20, r7, r19, hR, hj1', hj2', hj0, c1, c2g, c3, w1, w2, wN, Nat.mul_one, Nat.zero_add]
          have Kb := Kp.app g1 [some (AObj.mk true [Value.int IntKind.i64 (y : Int)])]
          have hx1 := app_one g1 (some (AObj.mk true [Value.int IntKind.i64 (y : Int)]))
          have C1 := C.keep Kb
          have S1 := S.keep Kb
          have hR1 := Kb.get hR
          have hlb : (g1 ++ [some (AObj.mk true [Value.int IntKind.i64 (y : Int)])]).length = g1.length + 1 := by simp
          generalize g1 ++ [some (AObj.mk true [Value.int IntKind.i64 (y : Int)])] = g2 at *
          have hf1 : firstV 1 g2 1 (.slice (some ⟨g1.length, 0, none⟩) 1 1) = some [.int .i64 (y : Int)] := by simp [firstV, cellsAt, hx1, getN]
          refine append_run (k := 1) (by_ := 8) (n := (cdA n cs j).length) (m := 1) (rows := (cdA n cs j).map (.int .i64)) (news := [.int .i64 (y : Int)]) (sl := v) (xv := .slice (some ⟨g1.length, 0, none⟩) 1 1) rfl (by decide) rfl rfl rfl hf1 rfl rfl C1.ret.toO (by omega) (by omega) (fun h0 => by omega) (fun _ g3 A' hA' hg hl' hfr => ?_)
          have S2 := S1.app (by omega) hfr (fun B hB => C1.ret.own hB) fun B hB => ⟨(C1.ap B hB).1, fun j hf => (C1.ap B hB).2.2 j (FN.want.1 hf)⟩
          have hR2 : g3[R]? = some (some (AObj.mk true [.int .u8 kd, .bool sd, .slice (some ca) cs.length cc, .bool on])) := by
            rw [hfr R (lt_of_get hR1) fun e => (C1.ap R e).2.1 rfl]; exact hR1
          have C2 : CvA h g3 DS WO XO σ R (.slice (some ⟨A', 0, none⟩) ((cdA n cs j).length + 1) (unk + 1)) (cdA n cs (j + 1)) := by
            have el : (cdA n cs j).length + 1 = (cdA n cs (j + 1)).length := by rw [ecs]; simp
            rw [el]
            refine CvA.mk ?_ ?_
            · refine RetN.all ?_ (by simp)
              rw [hg, ecs]; simp
            · intro B hB
              obtain rfl : A' = B := Option.some.inj hB
              have := S1.kp.1
              have lR := lt_of_get hR1
              exact ⟨by omega, by omega, fun j hf => by have := S1.lt (FN.want.2 hf); omega⟩
          have c2g3 := S2.kp.get c2
          have hxo := S2.xo
          have hnw := S2.nw k
          have hN : (upd σ k { σ k with want := (cdA n cs j).foldl (fun l z => l.set z.toNat on) (σ k).want } k).N = (σ k).N := by rw [upd_self]
          have hgN : ∀ i : Bool, (upd σ k { σ k with want := (cdA n cs j).foldl (fun l z => l.set z.toNat on) (σ k).want } i).N = (σ i).N := fun i => by unfold upd; split; rename_i h; rw [h]; rfl
          rw [upd_self] at hnw
          simp only [hgN] at hxo
          simp only at hnw
          have hx2 : (two fun k => Value.slice (some ⟨(σ k).N, 0, none⟩) n n)[Bool.toNat k]? = some (.slice (some ⟨(σ k).N, 0, none⟩) n n) := two_get _ k
          have hyn : (y : Int) < ((n : Nat) : Int) := by omega
          have hy0 : (0 : Int) ≤ (y : Int) := by omega
          have fl : ((cdA n cs j).foldl (fun l z => l.set z.toNat on) (σ k).want).length = n := by rw [fold_len]; exact hwl
          have hle : y + 1 ≤ (bB ((cdA n cs j).foldl (fun l z => l.set z.toNat on) (σ k).want)).length := by rw [bB_len, fl]; omega
          have efl : (cdA n cs (j + 1)).foldl (fun l z => l.set z.toNat on) (σ k).want = ((cdA n cs j).foldl (fun l z => l.set z.toNat on) (σ k).want).set y on := by rw [ecs, List.foldl_append]; rfl
          have S3 := S2.want k ((cdA n cs (j + 1)).foldl (fun l z => l.set z.toNat on) (σ k).want)
          rw [upd_upd, upd_self] at S3
          rw [efl] at S3
          have hRN : (σ k).N ≠ R := fun e => hRn (7 + k.toNat) (by rw [← e]; exact fnN k)
          simp only [sx, x_box, x_alloc, x_bslice, x_slice, x_append, x_appz, x_b2s, xop, ev, evs, evParts, fillL, cellsL, Ai.get, Ai.put, stab, isNil?, if_false, if_true, addr?, int?, str?, agg?, bool?, shiftA, FnPost, xresL, xres1, tup, argEnv, ptr, Nat.reduceEqDiff, reduceIte, beq_self_eq_true, ne_eq, Nat.reduceAdd, Nat.reduceMul, Nat.reduceSub, abin_shl, abin_shr, load1V, loadV, storeV, cellsAt, getN, setN, allocV, lenL, lenS, bnd, oneC, Value.oneCell', Nat.reduceLeDiff, Nat.reduceLT, exists_eq_left', forall_const, reduceCtorEq, app_new, app_new0, List.append_assoc, Int.reduceToNat, Int.reduceLT, Int.reduceLE, Int.reduceEq, Int.reduceNe, Int.reduceBEq, IntKind.bits, bne_self_eq_false, Int.reducePow, abin_rem, r17, r18, r15, r20, r7, hR2, hxo, hx2, hk0, hk2, hj1', hj2', hj0, c1, c2g3, c3, w1, w2, wN, w3, hnw, hyn, hy0, hle, Nat.mul_one, Nat.zero_add, bB_set]
          refine ⟨m - 1, by omega, j + 1, _, by omega, ⟨r2, r7, r9, r11, r13, r14, r15⟩, r16, r17, r18, rfl, rfl, by rw [efl]; exact S3, ?_, ?_⟩
          · rw [set_ne hRN]; exact hR2
          · exact CvA.mk (C2.ret.keep fun A hA => set_ne (fun e => (C2.ap A hA).2.2 (7 + k.toNat) (by rw [← e]; exact fnN k)) _) C2.ap
        · clear r2 r7 r9 r11 r13 r14 r15 r16 r17 r18 r96 r122 hR
          rintro ρ g1 ⟨zs, v, ⟨r2, r7, r9, r11, r13, r14, r15⟩, r16, r17, r18, r19, hzl, hzr, S, hR, C⟩
          obtain ⟨zq, zk, rfl⟩ := C.ret.shp
          have V : CdV g1 zq zk zs := ⟨C.ret.toO.first, fun a ha => C.ret.lt (by subst ha; rfl)⟩
          have hVL : ∀ a, zq = some a → a.block ≠ (σ k).L := fun a ha e => (C.ap a.block (by subst ha; rfl)).2.2 (3 + k.toNat) (fnD k ⟨2, .inr (.inr (.inl ⟨rfl, e⟩))⟩)
          have hds := S.ds
          have hgD : ∀ i : Bool, (upd σ k { σ k with want := zs.foldl (fun l z => l.set z.toNat on) (σ k).want } i).D = (σ i).D := fun i => by unfold upd; split; rename_i h; rw [h]; rfl
          simp only [hgD] at hds
          have hdk : (two fun k => ptr (σ k).D)[Bool.toNat k]? = some (ptr (σ k).D) := two_get _ k
          have AS := S.A k
          rw [upd_self] at AS
          simp only at AS
          have P := A.pp k
          have hcl := P.ab.cl
          have hto := tot_k σ k
          simp only [ptr] at hds hdk
          simp only [sx, x_box, x_alloc, x_bslice, x_slice, x_append, x_appz, x_b2s, xop, ev, evs, evParts, fillL, cellsL, Ai.get, Ai.put, stab, isNil?, if_false, if_true, addr?, int?, str?, agg?, bool?, shiftA, FnPost, xresL, xres1, tup, argEnv, ptr, Nat.reduceEqDiff, reduceIte, beq_self_eq_true, ne_eq, Nat.reduceAdd, Nat.reduceMul, Nat.reduceSub, abin_shl, abin_shr, load1V, loadV, storeV, cellsAt, getN, setN, allocV, lenL, lenS, bnd, oneC, Value.oneCell', Nat.reduceLeDiff, Nat.reduceLT, exists_eq_left', forall_const, reduceCtorEq, app_new, app_new0, List.append_assoc, Int.reduceToNat, Int.reduceLT, Int.reduceLE, Int.reduceEq, Int.reduceNe, Int.reduceBEq, IntKind.bits, bne_self_eq_false, Int.reducePow, r13, r17, r18, r19, hR, hds, hdk, hk0, hk2, Nat.mul_one, Nat.zero_add]
          refine xcall (setall_ok (on := on) AS V hVL (by omega) (by omega)) (by rfl) (by rfl) (by rfl) (by rfl) ?_
          rintro r g2 (⟨-, rfl, Wt⟩ | ⟨hno, -⟩)
          rotate_left
          · rw [hcl] at hno
            have : zs.all (inR n) = true := List.all_eq_true.2 fun z hz => by have := hzr z hz; simp [inR]; omega
            rw [this] at hno; cases hno
          obtain ⟨opv2, outv2, S2⟩ := S.went k (d' := (σ k).d.setAll on zs) (by rw [upd_self]; exact Wt)
          rw [upd_upd, upd_self] at S2
          obtain ⟨n1, n2, n3⟩ := P.setAll_n (by omega) on zs
          simp only [sx, x_box, x_alloc, x_bslice, x_slice, x_append, x_appz, x_b2s, xop, ev, evs, evParts, fillL, cellsL, Ai.get, Ai.put, stab, isNil?, if_false, if_true, addr?, int?, str?, agg?, bool?, shiftA, FnPost, xresL, xres1, tup, argEnv, ptr, Nat.reduceEqDiff, reduceIte, beq_self_eq_true, ne_eq, Nat.reduceAdd, Nat.reduceMul, Nat.reduceSub, abin_shl, abin_shr, load1V, loadV, storeV, cellsAt, getN, setN, allocV, lenL, lenS, bnd, oneC, Value.oneCell', Nat.reduceLeDiff, Nat.reduceLT, exists_eq_left', forall_const, reduceCtorEq, app_new, app_new0, List.append_assoc, Int.reduceToNat, Int.reduceLT, Int.reduceLE, Int.reduceEq, Int.reduceNe, Int.reduceBEq, IntKind.bits, bne_self_eq_false, Int.reducePow, m00]
          refine ⟨_, ⟨r2, r7, r9, r11, r13, r14, r15⟩, r16, ⟨S2, A.ids.upd k rfl, PP.mk k ?_, allk k ?_ ?_⟩, allk k ?_ ?_, ?_⟩
          · rw [upd_self, upd_not]; exact P.setAll (by omega) (by omega) on zs
          · show (upd σ k _ k).want = (upd σ k _ k).d.locals
            rw [upd_self]
            show zs.foldl (fun l z => l.set z.toNat on) (σ k).want = ((σ k).d.setAll on zs).locals
            rw [n3, A.wn k]
          · show (upd σ k _ (!k)).want = (upd σ k _ (!k)).d.locals
            rw [upd_not]; exact A.wn (!k)
          · show (upd σ k _ k).d.last ≤ _
            rw [upd_self]
            show ((σ k).d.setAll on zs).last ≤ _
            omega
          · show (upd σ k _ (!k)).d.last ≤ _
            rw [upd_not]; have := hla (!k); omega
          · rw [tot_k _ k, upd_self, upd_not]
            show (σ k).ms.length + ((σ k).d.setAll on zs).out.length + _ + _ ≤ _
            omega
    · clear A hR hRn hla hou hto r2 r7 r9 r11 r13 r14 r15 r16 r17 r18 a1 a2 a3 hlk hk0 hk2n hk2
      rintro ρ g ⟨σ, ⟨r2, r7, r9, r11, r13, r14, r15⟩, r16, A, hla, hto⟩
      have tw0 : ∀ f, (two f)[0]? = some (f false) := fun f => rfl
      have tw1 : ∀ f, (two f)[1]? = some (f true) := fun f => rfl
      have twl : ∀ f, (two f).length = 2 := fun f => rfl
      have i00 : (0 : Int) ≤ 0 := by decide
      have i01 : (0 : Int) ≤ 1 := by decide
      have i02 : (0 : Int) < 2 := by decide
      have i12 : (1 : Int) < 2 := by decide
      have t0 : (0 : Int).toNat = 0 := rfl
      have t1 : (1 : Int).toNat = 1 := rfl
      have n12 : 1 + 1 ≤ 2 := by decide
      have n02 : 0 + 1 ≤ 2 := by decide
      simp only [ptr] at r9 r11 r14 r15
      have hwo := A.net.wo
      have AS := A.net.A false
      have hol := tot_k σ false
      have rD := r9
      rw [← A.ids.1] at rD
      simp only [sx, x_box, x_alloc, x_bslice, x_slice, x_appz, x_b2s, xop, ev, evs, evParts, fillL, cellsL, Ai.get, Ai.put, stab, isNil?, if_false, if_true, addr?, int?, str?, agg?, bool?, shiftA, FnPost, xresL, xres1, tup, argEnv, ptr, Nat.reduceEqDiff, reduceIte, beq_self_eq_true, ne_eq, Nat.reduceAdd, Nat.reduceMul, Nat.reduceSub, abin_shl, abin_shr, load1V, loadV, storeV, cellsAt, getN, setN, allocV, lenL, lenS, bnd, oneC, Value.oneCell', Nat.reduceLeDiff, Nat.reduceLT, exists_eq_left', forall_const, reduceCtorEq, app_new, app_new0, List.append_assoc, Int.reduceToNat, Int.reduceLT, Int.reduceLE, Int.reduceEq, Int.reduceNe, Int.reduceBEq, IntKind.bits, bne_self_eq_false, Int.reducePow, r14, rD, hwo, tw1, i01, i12, t1, Nat.mul_one, Nat.zero_mul]
      refine xcall (taken_ok AS (by omega)) (by rfl) (by rfl) (by rfl) (by rfl) ?_
      rintro r g1 ⟨M, A1, off, F1, -⟩
      obtain ⟨opv1, outv1, S1⟩ := A.net.went false ⟨_, .slice none 0 0, A1, F1, fun B hB => .inl (ft_nil hB)⟩
      have gw : ∀ j, (upd σ false { σ false with d := { (σ false).d with out := [] }, opv := opv1, outv := outv1 } j).w = (σ j).w := upd_w rfl
      have hwo1 := S1.wo
      simp only [gw] at hwo1
      obtain ⟨rq, cells', rfl, hf, R⟩ := M
      simp only [sx, x_box, x_alloc, x_bslice, x_slice, x_appz, x_b2s, xop, ev, evs, evParts, fillL, cellsL, Ai.get, Ai.put, stab, isNil?, if_false, if_true, addr?, int?, str?, agg?, bool?, shiftA, FnPost, xresL, xres1, tup, argEnv, ptr, Nat.reduceEqDiff, reduceIte, beq_self_eq_true, ne_eq, Nat.reduceAdd, Nat.reduceMul, Nat.reduceSub, abin_shl, abin_shr, load1V, loadV, storeV, cellsAt, getN, setN, allocV, lenL, lenS, bnd, oneC, Value.oneCell', Nat.reduceLeDiff, Nat.reduceLT, exists_eq_left', forall_const, reduceCtorEq, app_new, app_new0, List.append_assoc, Int.reduceToNat, Int.reduceLT, Int.reduceLE, Int.reduceEq, Int.reduceNe, Int.reduceBEq, IntKind.bits, bne_self_eq_false, Int.reducePow, hwo1, tw1, i01, i12, t1, Nat.mul_one, Nat.zero_mul]
      have hq1 : MQ g1 (σ true).w (σ true).ms := S1.q true
      refine MQ.app_run (ms' := (σ false).d.out) rfl hq1 rfl rfl rfl hf R (by simp at hol; omega) fun g2 w' hl2 hf2 Q' hw' => ?_
      obtain ⟨wa, wc, hwv⟩ := Q'.shp
      have el : ((σ true).ms ++ (σ false).d.out).length = (σ true).ms.length + (σ false).d.out.length := by simp
      rw [el] at hwv
      subst hwv
      obtain ⟨hwo2, S2⟩ := S1.wire true hl2 hf2 Q' hw'
      simp only [gw] at hwo2
      obtain ⟨σ', e'⟩ : ∃ x, x = upd (upd σ false { σ false with d := { (σ false).d with out := [] }, opv := opv1, outv := outv1 }) (!false) { σ (!false) with w := .slice wa ((σ true).ms.length + (σ false).d.out.length) wc, ms := (σ (!false)).ms ++ (σ false).d.out } := ⟨_, rfl⟩
      have S3 : NET h (g2.set WO (some ⟨true, (two fun j => (upd σ false { σ false with d := { (σ false).d with out := [] }, opv := opv1, outv := outv1 } j).w).set 1 (.slice wa ((σ true).ms.length + (σ false).d.out.length) wc)⟩)) DS WO XO n σ' := by
        rw [e']; exact S2
      simp only [gw] at S3
      obtain ⟨A', f1, f2, f3, f4, f5, f6⟩ := A.take2 false e' S3
      simp only [sx, x_box, x_alloc, x_bslice, x_slice, x_appz, x_b2s, xop, ev, evs, evParts, fillL, cellsL, Ai.get, Ai.put, stab, isNil?, if_false, if_true, addr?, int?, str?, agg?, bool?, shiftA, FnPost, xresL, xres1, tup, argEnv, ptr, Nat.reduceEqDiff, reduceIte, beq_self_eq_true, ne_eq, Nat.reduceAdd, Nat.reduceMul, Nat.reduceSub, abin_shl, abin_shr, load1V, loadV, storeV, cellsAt, getN, setN, allocV, lenL, lenS, bnd, oneC, Value.oneCell', Nat.reduceLeDiff, Nat.reduceLT, exists_eq_left', forall_const, reduceCtorEq, app_new, app_new0, List.append_assoc, Int.reduceToNat, Int.reduceLT, Int.reduceLE, Int.reduceEq, Int.reduceNe, Int.reduceBEq, IntKind.bits, bne_self_eq_false, Int.reducePow, r14, hwo2, twl, i01, i12, t1, n12, Nat.mul_one, Nat.zero_mul]
      generalize g2.set WO (some (AObj.mk true ((two fun j => (σ j).w).set 1 (.slice wa ((σ true).ms.length + (σ false).d.out.length) wc)))) = g3 at *
      clear S1 S2 S3 AS A1 F1 hf R hq1 hf2 Q' hw' hwo1 hwo2 gw hl2 e' hwo rD hol el
      clear A
      have A := A'
      clear A'
      have hou1 := f1
      have hms1 := f2
      have hd1 := f3
      have hms2 := f4
      have htt1 := f5
      have hll1 := f6
      clear f1 f2 f3 f4 f5 f6
      have hwo := A.net.wo
      have AS := A.net.A true
      have hol := tot_k σ' true
      have rD := r11
      rw [← A.ids.2] at rD
      simp only [sx, x_box, x_alloc, x_bslice, x_slice, x_appz, x_b2s, xop, ev, evs, evParts, fillL, cellsL, Ai.get, Ai.put, stab, isNil?, if_false, if_true, addr?, int?, str?, agg?, bool?, shiftA, FnPost, xresL, xres1, tup, argEnv, ptr, Nat.reduceEqDiff, reduceIte, beq_self_eq_true, ne_eq, Nat.reduceAdd, Nat.reduceMul, Nat.reduceSub, abin_shl, abin_shr, load1V, loadV, storeV, cellsAt, getN, setN, allocV, lenL, lenS, bnd, oneC, Value.oneCell', Nat.reduceLeDiff, Nat.reduceLT, exists_eq_left', forall_const, reduceCtorEq, app_new, app_new0, List.append_assoc, Int.reduceToNat, Int.reduceLT, Int.reduceLE, Int.reduceEq, Int.reduceNe, Int.reduceBEq, IntKind.bits, bne_self_eq_false, Int.reducePow, r14, rD, hwo, tw0, i00, i02, t0, Nat.mul_one, Nat.zero_mul]
      refine xcall (taken_ok AS (by omega)) (by rfl) (by rfl) (by rfl) (by rfl) ?_
      rintro r g1 ⟨M, A1, off, F1, -⟩
      obtain ⟨opv1, outv1, S1⟩ := A.net.went true ⟨_, .slice none 0 0, A1, F1, fun B hB => .inl (ft_nil hB)⟩
      have gw : ∀ j, (upd σ' true { σ' true with d := { (σ' true).d with out := [] }, opv := opv1, outv := outv1 } j).w = (σ' j).w := upd_w rfl
      have hwo1 := S1.wo
      simp only [gw] at hwo1
      obtain ⟨rq, cells', rfl, hf, R⟩ := M
      simp only [sx, x_box, x_alloc, x_bslice, x_slice, x_appz, x_b2s, xop, ev, evs, evParts, fillL, cellsL, Ai.get, Ai.put, stab, isNil?, if_false, if_true, addr?, int?, str?, agg?, bool?, shiftA, FnPost, xresL, xres1, tup, argEnv, ptr, Nat.reduceEqDiff, reduceIte, beq_self_eq_true, ne_eq, Nat.reduceAdd, Nat.reduceMul, Nat.reduceSub, abin_shl, abin_shr, load1V, loadV, storeV, cellsAt, getN, setN, allocV, lenL, lenS, bnd, oneC, Value.oneCell', Nat.reduceLeDiff, Nat.reduceLT, exists_eq_left', forall_const, reduceCtorEq, app_new, app_new0, List.append_assoc, Int.reduceToNat, Int.reduceLT, Int.reduceLE, Int.reduceEq, Int.reduceNe, Int.reduceBEq, IntKind.bits, bne_self_eq_false, Int.reducePow, hwo1, tw0, i00, i02, t0, Nat.mul_one, Nat.zero_mul]
      have hq1 : MQ g1 (σ' false).w (σ' false).ms := S1.q false
      refine MQ.app_run (ms' := (σ' true).d.out) rfl hq1 rfl rfl rfl hf R (by simp at hol; omega) fun g2 w' hl2 hf2 Q' hw' => ?_
      obtain ⟨wa, wc, hwv⟩ := Q'.shp
      have el : ((σ' false).ms ++ (σ' true).d.out).length = (σ' false).ms.length + (σ' true).d.out.length := by simp
      rw [el] at hwv
      subst hwv
      obtain ⟨hwo2, S2⟩ := S1.wire false hl2 hf2 Q' hw'
      simp only [gw] at hwo2
      obtain ⟨σ'', e'⟩ : ∃ x, x = upd (upd σ' true { σ' true with d := { (σ' true).d with out := [] }, opv := opv1, outv := outv1 }) (!true) { σ' (!true) with w := .slice wa ((σ' false).ms.length + (σ' true).d.out.length) wc, ms := (σ' (!true)).ms ++ (σ' true).d.out } := ⟨_, rfl⟩
      have S3 : NET h (g2.set WO (some ⟨true, (two fun j => (upd σ' true { σ' true with d := { (σ' true).d with out := [] }, opv := opv1, outv := outv1 } j).w).set 0 (.slice wa ((σ' false).ms.length + (σ' true).d.out.length) wc)⟩)) DS WO XO n σ'' := by
        rw [e']; exact S2
      simp only [gw] at S3
      obtain ⟨A', f1, f2, f3, f4, f5, f6⟩ := A.take2 true e' S3
      simp only [sx, x_box, x_alloc, x_bslice, x_slice, x_appz, x_b2s, xop, ev, evs, evParts, fillL, cellsL, Ai.get, Ai.put, stab, isNil?, if_false, if_true, addr?, int?, str?, agg?, bool?, shiftA, FnPost, xresL, xres1, tup, argEnv, ptr, Nat.reduceEqDiff, reduceIte, beq_self_eq_true, ne_eq, Nat.reduceAdd, Nat.reduceMul, Nat.reduceSub, abin_shl, abin_shr, load1V, loadV, storeV, cellsAt, getN, setN, allocV, lenL, lenS, bnd, oneC, Value.oneCell', Nat.reduceLeDiff, Nat.reduceLT, exists_eq_left', forall_const, reduceCtorEq, app_new, app_new0, List.append_assoc, Int.reduceToNat, Int.reduceLT, Int.reduceLE, Int.reduceEq, Int.reduceNe, Int.reduceBEq, IntKind.bits, bne_self_eq_false, Int.reducePow, r14, hwo2, twl, i00, i02, t0, n02, Nat.mul_one, Nat.zero_mul]
      generalize g2.set WO (some (AObj.mk true ((two fun j => (σ' j).w).set 0 (.slice wa ((σ' false).ms.length + (σ' true).d.out.length) wc)))) = g4 at *
      clear S1 S2 S3 AS A1 F1 hf R hq1 hf2 Q' hw' hwo1 hwo2 gw hl2 e' hwo rD hol el
      clear A
      have A := A'
      clear A'
      have houf : ∀ j, (σ'' j).d.out = [] := allk true (by rw [f1]) (by show (σ'' (!true)).d.out = []; rw [f3]; show (σ' false).d.out = []; rw [hou1])
      have hlaf : ∀ j, (σ'' j).d.last ≤ (i : Int) + 1 := fun j => by rw [f6, hll1]; exact hla j
      have htof : tot σ'' ≤ i + 1 := by rw [f5, htt1]; exact hto
      clear f1 f2 f3 f4 f5 f6 hou1 hms1 hd1 hms2 htt1 hll1 hla hto
      generalize σ'' = τ at *
      refine xloop_cut (ChE h DS WO XO n Da Db q nA c i τ) ?_ ?_
      · refine xcode_loop (ChO h DS WO XO n Da Db q nA c i τ) 2 ⟨0, by omega, ⟨r2, r7, r9, r11, r13, r14, r15⟩, r16, rfl, A⟩ ?_
        clear A r2 r7 r9 r11 r13 r14 r15 r16
        rintro m1 ρ g ⟨j, hjm, ⟨r2, r7, r9, r11, r13, r14, r15⟩, r16, r21, A⟩
        by_cases hj : j < 2
        rotate_left
        · have hj' : ¬ (j : Int) < 2 := by omega
          simp only [sx, x_box, x_alloc, x_bslice, x_slice, x_append, x_appz, x_b2s, xop, ev, evs, evParts, fillL, cellsL, Ai.get, Ai.put, stab, isNil?, if_false, if_true, addr?, int?, str?, agg?, bool?, shiftA, FnPost, xresL, xres1, tup, argEnv, ptr, Nat.reduceEqDiff, reduceIte, beq_self_eq_true, ne_eq, Nat.reduceAdd, Nat.reduceMul, Nat.reduceSub, abin_shl, abin_shr, load1V, loadV, storeV, cellsAt, getN, setN, allocV, lenL, lenS, bnd, oneC, Value.oneCell', Nat.reduceLeDiff, Nat.reduceLT, exists_eq_left', forall_const, reduceCtorEq, app_new, app_new0, List.append_assoc, Int.reduceToNat, Int.reduceLT, Int.reduceLE, Int.reduceEq, Int.reduceNe, Int.reduceBEq, IntKind.bits, bne_self_eq_false, Int.reducePow, r21, hj']
          exact ⟨⟨r2, r7, r9, r11, r13, r14, r15⟩, r16, A⟩
        have hj' : (j : Int) < 2 := by omega
        have wj : IntKind.i64.wrap ((j : Int) + 1) = ((j + 1 : Nat) : Int) := by rw [i64_wrap] <;> omega
        obtain ⟨k, hk⟩ : ∃ k : Bool, j = k.toNat := by
          match j, hj with
          | 0, _ => exact ⟨false, rfl⟩
          | 1, _ => exact ⟨true, rfl⟩
        subst hk
        simp only [sx, x_box, x_alloc, x_bslice, x_slice, x_append, x_appz, x_b2s, xop, ev, evs, evParts, fillL, cellsL, Ai.get, Ai.put, stab, isNil?, if_false, if_true, addr?, int?, str?, agg?, bool?, shiftA, FnPost, xresL, xres1, tup, argEnv, ptr, Nat.reduceEqDiff, reduceIte, beq_self_eq_true, ne_eq, Nat.reduceAdd, Nat.reduceMul, Nat.reduceSub, abin_shl, abin_shr, load1V, loadV, storeV, cellsAt, getN, setN, allocV, lenL, lenS, bnd, oneC, Value.oneCell', Nat.reduceLeDiff, Nat.reduceLT, exists_eq_left', forall_const, reduceCtorEq, app_new, app_new0, List.append_assoc, Int.reduceToNat, Int.reduceLT, Int.reduceLE, Int.reduceEq, Int.reduceNe, Int.reduceBEq, IntKind.bits, bne_self_eq_false, Int.reducePow, r21, hj']
        refine xloop_cut (ChF h DS WO XO n Da Db q nA c i τ k) ?_ ?_
        rotate_left
        · clear A r2 r7 r9 r11 r13 r14 r15 r16 r21
          rintro ρ g ⟨⟨r2, r7, r9, r11, r13, r14, r15⟩, r16, r21, A⟩
          simp only [sx, x_box, x_alloc, x_bslice, x_slice, x_append, x_appz, x_b2s, xop, ev, evs, evParts, fillL, cellsL, Ai.get, Ai.put, stab, isNil?, if_false, if_true, addr?, int?, str?, agg?, bool?, shiftA, FnPost, xresL, xres1, tup, argEnv, ptr, Nat.reduceEqDiff, reduceIte, beq_self_eq_true, ne_eq, Nat.reduceAdd, Nat.reduceMul, Nat.reduceSub, abin_shl, abin_shr, load1V, loadV, storeV, cellsAt, getN, setN, allocV, lenL, lenS, bnd, oneC, Value.oneCell', Nat.reduceLeDiff, Nat.reduceLT, exists_eq_left', forall_const, reduceCtorEq, app_new, app_new0, List.append_assoc, Int.reduceToNat, Int.reduceLT, Int.reduceLE, Int.reduceEq, Int.reduceNe, Int.reduceBEq, IntKind.bits, bne_self_eq_false, Int.reducePow, r21, wj]
          exact ⟨m1 - 1, by omega, k.toNat + 1, by omega, ⟨r2, r7, r9, r11, r13, r14, r15⟩, r16, rfl, A⟩
        refine xcode_loop (ChI h DS WO XO n Da Db q nA c i τ k) n ⟨0, by omega, ⟨r2, r7, r9, r11, r13, r14, r15⟩, r16, r21, rfl, A⟩ ?_
        clear A r2 r7 r9 r11 r13 r14 r15 r16 r21
        rintro m2 ρ g ⟨x, hxm, ⟨r2, r7, r9, r11, r13, r14, r15⟩, r16, r21, r22, A⟩
        by_cases hx : x < n
        rotate_left
        · have hx' : ¬ (x : Int) < ((n : Nat) : Int) := by omega
          simp only [sx, x_box, x_alloc, x_bslice, x_slice, x_append, x_appz, x_b2s, xop, ev, evs, evParts, fillL, cellsL, Ai.get, Ai.put, stab, isNil?, if_false, if_true, addr?, int?, str?, agg?, bool?, shiftA, FnPost, xresL, xres1, tup, argEnv, ptr, Nat.reduceEqDiff, reduceIte, beq_self_eq_true, ne_eq, Nat.reduceAdd, Nat.reduceMul, Nat.reduceSub, abin_shl, abin_shr, load1V, loadV, storeV, cellsAt, getN, setN, allocV, lenL, lenS, bnd, oneC, Value.oneCell', Nat.reduceLeDiff, Nat.reduceLT, exists_eq_left', forall_const, reduceCtorEq, app_new, app_new0, List.append_assoc, Int.reduceToNat, Int.reduceLT, Int.reduceLE, Int.reduceEq, Int.reduceNe, Int.reduceBEq, IntKind.bits, bne_self_eq_false, Int.reducePow, r22, r7, hx']
          exact ⟨⟨r2, r7, r9, r11, r13, r14, r15⟩, r16, r21, A⟩
        have hx' : (x : Int) < ((n : Nat) : Int) := by omega
        have hx0 : (0 : Int) ≤ (x : Int) := by omega
        have wx : IntKind.i64.wrap ((x : Int) + 1) = ((x + 1 : Nat) : Int) := by rw [i64_wrap] <;> omega
        have hk0 : (0 : Int) ≤ ((Bool.toNat k : Nat) : Int) := by omega
        have hq0 : (0 : Int) ≤ ((Bool.toNat (!k) : Nat) : Int) := by omega
        have hq2 : ((Bool.toNat (!k) : Nat) : Int) < 2 := by cases k <;> decide
        have wk : IntKind.i64.wrap (1 - ((Bool.toNat k : Nat) : Int)) = ((Bool.toNat (!k) : Nat) : Int) := by cases k <;> decide
        have P := A.pp k
        have hwl : (τ k).want.length = n := by rw [A.wn k, DK.locals_len]; exact P.ab.cl
        have ew := List.getElem?_eq_getElem (l := (τ k).want) (i := x) (by omega)
        generalize (τ k).want[x]'(by omega) = w at ew
        have cw := bB_get ew
        have elo : (τ k).d.locals[x]? = some w := by rw [← A.wn k]; exact ew
        have hlo := DK.loc_at elo
        have hds := A.net.ds
        have hxo := A.net.xo
        have hnw := A.net.nw k
        have hdk : (two fun k => ptr (τ k).D)[Bool.toNat k]? = some (ptr (τ k).D) := two_get _ k
        have hdq : (two fun k => ptr (τ k).D)[Bool.toNat (!k)]? = some (ptr (τ (!k)).D) := two_get _ (!k)
        have hxk : (two fun k => Value.slice (some ⟨(τ k).N, 0, none⟩) n n)[Bool.toNat k]? = some (.slice (some ⟨(τ k).N, 0, none⟩) n n) := two_get _ k
        simp only [ptr] at hds hdk hdq r15
        have hww : (w != w) = false := by simp
        simp only [sx, x_box, x_alloc, x_bslice, x_slice, x_append, x_appz, x_b2s, xop, ev, evs, evParts, fillL, cellsL, Ai.get, Ai.put, stab, isNil?, if_false, if_true, addr?, int?, str?, agg?, bool?, shiftA, FnPost, xresL, xres1, tup, argEnv, ptr, Nat.reduceEqDiff, reduceIte, beq_self_eq_true, ne_eq, Nat.reduceAdd, Nat.reduceMul, Nat.reduceSub, abin_shl, abin_shr, load1V, loadV, storeV, cellsAt, getN, setN, allocV, lenL, lenS, bnd, oneC, Value.oneCell', Nat.reduceLeDiff, Nat.reduceLT, exists_eq_left', forall_const, reduceCtorEq, app_new, app_new0, List.append_assoc, Int.reduceToNat, Int.reduceLT, Int.reduceLE, Int.reduceEq, Int.reduceNe, Int.reduceBEq, IntKind.bits, bne_self_eq_false, Int.reducePow, r22, r7, r13, r21, r15, hx', hk0, hj', hds, hdk, hxo, hxk, hx0, hnw, cw, Nat.mul_one, Nat.zero_add]
        refine xcall (local_ok (k := (x : Int)) (A.net.A k)) (by rfl) (by rfl) (by rfl) (by rfl) ?_
        rintro r g1 ⟨rfl, K1⟩
        have hds1 := K1.get hds
        have hxo1 := K1.get hxo
        have hnw1 := K1.get hnw
        have A1 := A.keep K1
        rw [hlo]
        simp only [sx, x_box, x_alloc, x_bslice, x_slice, x_append, x_appz, x_b2s, xop, ev, evs, evParts, fillL, cellsL, Ai.get, Ai.put, stab, isNil?, if_false, if_true, addr?, int?, str?, agg?, bool?, shiftA, FnPost, xresL, xres1, tup, argEnv, ptr, Nat.reduceEqDiff, reduceIte, beq_self_eq_true, ne_eq, Nat.reduceAdd, Nat.reduceMul, Nat.reduceSub, abin_shl, abin_shr, load1V, loadV, storeV, cellsAt, getN, setN, allocV, lenL, lenS, bnd, oneC, Value.oneCell', Nat.reduceLeDiff, Nat.reduceLT, exists_eq_left', forall_const, reduceCtorEq, app_new, app_new0, List.append_assoc, Int.reduceToNat, Int.reduceLT, Int.reduceLE, Int.reduceEq, Int.reduceNe, Int.reduceBEq, IntKind.bits, bne_self_eq_false, Int.reducePow, r22, r7, r13, r21, r15, hx', hk0, hj', hds1, hdk, hxo1, hxk, hx0, hnw1, cw, hww, Nat.mul_one, Nat.zero_add]
        refine xcall (rest_ok (A1.net.A k)) (by rfl) (by rfl) (by rfl) (by rfl) ?_
        rintro r g2 ⟨rfl, rfl⟩
        cases hop : (τ k).d.op with
        | some y =>
          have h1 : (some y).isNone = false := rfl
          simp only [sx, x_box, x_alloc, x_bslice, x_slice, x_append, x_appz, x_b2s, xop, ev, evs, evParts, fillL, cellsL, Ai.get, Ai.put, stab, isNil?, if_false, if_true, addr?, int?, str?, agg?, bool?, shiftA, FnPost, xresL, xres1, tup, argEnv, ptr, Nat.reduceEqDiff, reduceIte, beq_self_eq_true, ne_eq, Nat.reduceAdd, Nat.reduceMul, Nat.reduceSub, abin_shl, abin_shr, load1V, loadV, storeV, cellsAt, getN, setN, allocV, lenL, lenS, bnd, oneC, Value.oneCell', Nat.reduceLeDiff, Nat.reduceLT, exists_eq_left', forall_const, reduceCtorEq, app_new, app_new0, List.append_assoc, Int.reduceToNat, Int.reduceLT, Int.reduceLE, Int.reduceEq, Int.reduceNe, Int.reduceBEq, IntKind.bits, bne_self_eq_false, Int.reducePow, h1, r22, wx]
          exact ⟨m2 - 1, by omega, x + 1, by omega, ⟨r2, r7, r9, r11, r13, r14, r15⟩, r16, r21, rfl, A1⟩
        | none =>
          have h1 : (none : Option Ms).isNone = true := rfl
          have ere : (τ (!k)).d.res[x]? = some w := by rw [P.rest hop]; exact elo
          have hre := DK.res_at ere
          simp only [sx, x_box, x_alloc, x_bslice, x_slice, x_append, x_appz, x_b2s, xop, ev, evs, evParts, fillL, cellsL, Ai.get, Ai.put, stab, isNil?, if_false, if_true, addr?, int?, str?, agg?, bool?, shiftA, FnPost, xresL, xres1, tup, argEnv, ptr, Nat.reduceEqDiff, reduceIte, beq_self_eq_true, ne_eq, Nat.reduceAdd, Nat.reduceMul, Nat.reduceSub, abin_shl, abin_shr, load1V, loadV, storeV, cellsAt, getN, setN, allocV, lenL, lenS, bnd, oneC, Value.oneCell', Nat.reduceLeDiff, Nat.reduceLT, exists_eq_left', forall_const, reduceCtorEq, app_new, app_new0, List.append_assoc, Int.reduceToNat, Int.reduceLT, Int.reduceLE, Int.reduceEq, Int.reduceNe, Int.reduceBEq, IntKind.bits, bne_self_eq_false, Int.reducePow, h1, r22, r7, r13, r21, r15, hx', hk0, hj', wk, hq0, hq2, hds1, hdk, hdq, hxo1, hxk, hx0, hnw1, cw, Nat.mul_one, Nat.zero_add]
          refine xcall (remote_ok (k := (x : Int)) (A1.net.A (!k))) (by rfl) (by rfl) (by rfl) (by rfl) ?_
          rintro r g3 ⟨rfl, K3⟩
          have hxo3 := K3.get hxo1
          have hnw3 := K3.get hnw1
          rw [hre]
          simp only [sx, x_box, x_alloc, x_bslice, x_slice, x_append, x_appz, x_b2s, xop, ev, evs, evParts, fillL, cellsL, Ai.get, Ai.put, stab, isNil?, if_false, if_true, addr?, int?, str?, agg?, bool?, shiftA, FnPost, xresL, xres1, tup, argEnv, ptr, Nat.reduceEqDiff, reduceIte, beq_self_eq_true, ne_eq, Nat.reduceAdd, Nat.reduceMul, Nat.reduceSub, abin_shl, abin_shr, load1V, loadV, storeV, cellsAt, getN, setN, allocV, lenL, lenS, bnd, oneC, Value.oneCell', Nat.reduceLeDiff, Nat.reduceLT, exists_eq_left', forall_const, reduceCtorEq, app_new, app_new0, List.append_assoc, Int.reduceToNat, Int.reduceLT, Int.reduceLE, Int.reduceEq, Int.reduceNe, Int.reduceBEq, IntKind.bits, bne_self_eq_false, Int.reducePow, hxo3, hxk, hnw3, cw, hww, r22, wx]
          exact ⟨m2 - 1, by omega, x + 1, by omega, ⟨r2, r7, r9, r11, r13, r14, r15⟩, r16, r21, rfl, A1.keep K3⟩
      · clear A r2 r7 r9 r11 r13 r14 r15 r16
        rintro ρ g ⟨⟨r2, r7, r9, r11, r13, r14, r15⟩, r16, A⟩
        simp only [sx, x_box, x_alloc, x_bslice, x_slice, x_append, x_appz, x_b2s, xop, ev, evs, evParts, fillL, cellsL, Ai.get, Ai.put, stab, isNil?, if_false, if_true, addr?, int?, str?, agg?, bool?, shiftA, FnPost, xresL, xres1, tup, argEnv, ptr, Nat.reduceEqDiff, reduceIte, beq_self_eq_true, ne_eq, Nat.reduceAdd, Nat.reduceMul, Nat.reduceSub, abin_shl, abin_shr, load1V, loadV, storeV, cellsAt, getN, setN, allocV, lenL, lenS, bnd, oneC, Value.oneCell', Nat.reduceLeDiff, Nat.reduceLT, exists_eq_left', forall_const, reduceCtorEq, app_new, app_new0, List.append_assoc, Int.reduceToNat, Int.reduceLT, Int.reduceLE, Int.reduceEq, Int.reduceNe, Int.reduceBEq, IntKind.bits, bne_self_eq_false, Int.reducePow, r16, wi]
        exact ⟨m - 1, by omega, i + 1, τ, by omega, ⟨r2, r7, r9, r11, r13, r14, r15⟩, rfl, A, fun j => by have := hlaf j; omega, houf, htof⟩
  · clear W hbig hbig' n80 n8
    rintro ρ g ⟨σ, r7, r9, r11, r13, r14, r15, A, hla, hou, hto⟩
    simp only [ptr] at r9 r11 r14 r15
    have tw0 : ∀ f, (two f)[0]? = some (f false) := fun f => rfl
    have tw1 : ∀ f, (two f)[1]? = some (f true) := fun f => rfl
    have twl : ∀ f, (two f).length = 2 := fun f => rfl
    have i00 : (0 : Int) ≤ 0 := by decide
    have i01 : (0 : Int) ≤ 1 := by decide
    have i02 : (0 : Int) < 2 := by decide
    have i12 : (1 : Int) < 2 := by decide
    have t0 : (0 : Int).toNat = 0 := rfl
    have t1 : (1 : Int).toNat = 1 := rfl
    have n12 : 1 + 1 ≤ 2 := by decide
    have n02 : 0 + 1 ≤ 2 := by decide
    simp only [sx, x_box, x_alloc, x_bslice, x_slice, x_append, x_appz, x_b2s, xop, ev, evs, evParts, fillL, cellsL, Ai.get, Ai.put, stab, isNil?, if_false, if_true, addr?, int?, str?, agg?, bool?, shiftA, FnPost, xresL, xres1, tup, argEnv, ptr, Nat.reduceEqDiff, reduceIte, beq_self_eq_true, ne_eq, Nat.reduceAdd, Nat.reduceMul, Nat.reduceSub, abin_shl, abin_shr, load1V, loadV, storeV, cellsAt, getN, setN, allocV, lenL, lenS, bnd, oneC, Value.oneCell', Nat.reduceLeDiff, Nat.reduceLT, exists_eq_left', forall_const, reduceCtorEq, app_new, app_new0, List.append_assoc, Int.reduceToNat, Int.reduceLT, Int.reduceLE, Int.reduceEq, Int.reduceNe, Int.reduceBEq, IntKind.bits, bne_self_eq_false, Int.reducePow]
    refine xloop_cut (LvE h DS WO XO n Da Db) ?_ ?_
    · refine xcode_loop (LvI h DS WO XO n Da Db) 2000 ⟨0, σ, by omega, ⟨r7, r9, r11, r13, r14, r15⟩, rfl, A, ⟨fun k => ?_, fun k => ?_, fun k => ?_⟩⟩ ?_
      · have := hla k; have := dif_le n (σ k).d; omega
      · have := tot_k σ k; rw [hou (!k)]; simp only [List.length_nil]; omega
      · exact (T.init (A.pp k).ab.ag hN80).mono (by omega) (by omega)
      clear A hla hou hto r7 r9 r11 r13 r14 r15
      rintro m ρ g ⟨t, σ, htm, ⟨r7, r9, r11, r13, r14, r15⟩, r23, A, V⟩
      by_cases ht : t < 2000
      rotate_left
      · have ht' : ¬ (t : Int) < 2000 := by omega
        simp only [sx, x_box, x_alloc, x_bslice, x_slice, x_append, x_appz, x_b2s, xop, ev, evs, evParts, fillL, cellsL, Ai.get, Ai.put, stab, isNil?, if_false, if_true, addr?, int?, str?, agg?, bool?, shiftA, FnPost, xresL, xres1, tup, argEnv, ptr, Nat.reduceEqDiff, reduceIte, beq_self_eq_true, ne_eq, Nat.reduceAdd, Nat.reduceMul, Nat.reduceSub, abin_shl, abin_shr, load1V, loadV, storeV, cellsAt, getN, setN, allocV, lenL, lenS, bnd, oneC, Value.oneCell', Nat.reduceLeDiff, Nat.reduceLT, exists_eq_left', forall_const, reduceCtorEq, app_new, app_new0, List.append_assoc, Int.reduceToNat, Int.reduceLT, Int.reduceLE, Int.reduceEq, Int.reduceNe, Int.reduceBEq, IntKind.bits, bne_self_eq_false, Int.reducePow, r23, ht']
        exact ⟨σ, ⟨r7, r9, r11, r13, r14, r15⟩, A, fun k => T.zero ((V.tt k).mono (by omega) (by omega))⟩
      have ht' : (t : Int) < 2000 := by omega
      have wt : IntKind.i64.wrap ((t : Int) + 1) = ((t + 1 : Nat) : Int) := by rw [i64_wrap] <;> omega
      have r9' := r9
      have r11' := r11
      rw [← A.ids.1] at r9'
      rw [← A.ids.2] at r11'
      simp only [sx, x_box, x_alloc, x_bslice, x_slice, x_append, x_appz, x_b2s, xop, ev, evs, evParts, fillL, cellsL, Ai.get, Ai.put, stab, isNil?, if_false, if_true, addr?, int?, str?, agg?, bool?, shiftA, FnPost, xresL, xres1, tup, argEnv, ptr, Nat.reduceEqDiff, reduceIte, beq_self_eq_true, ne_eq, Nat.reduceAdd, Nat.reduceMul, Nat.reduceSub, abin_shl, abin_shr, load1V, loadV, storeV, cellsAt, getN, setN, allocV, lenL, lenS, bnd, oneC, Value.oneCell', Nat.reduceLeDiff, Nat.reduceLT, exists_eq_left', forall_const, reduceCtorEq, app_new, app_new0, List.append_assoc, Int.reduceToNat, Int.reduceLT, Int.reduceLE, Int.reduceEq, Int.reduceNe, Int.reduceBEq, IntKind.bits, bne_self_eq_false, Int.reducePow, r23, ht', r9']
      refine xcall (rest_ok (A.net.A false)) (by rfl) (by rfl) (by rfl) (by rfl) ?_
      rintro r g' ⟨rfl, e0⟩
      subst e0
      simp only [sx, x_box, x_alloc, x_bslice, x_slice, x_append, x_appz, x_b2s, xop, ev, evs, evParts, fillL, cellsL, Ai.get, Ai.put, stab, isNil?, if_false, if_true, addr?, int?, str?, agg?, bool?, shiftA, FnPost, xresL, xres1, tup, argEnv, ptr, Nat.reduceEqDiff, reduceIte, beq_self_eq_true, ne_eq, Nat.reduceAdd, Nat.reduceMul, Nat.reduceSub, abin_shl, abin_shr, load1V, loadV, storeV, cellsAt, getN, setN, allocV, lenL, lenS, bnd, oneC, Value.oneCell', Nat.reduceLeDiff, Nat.reduceLT, exists_eq_left', forall_const, reduceCtorEq, app_new, app_new0, List.append_assoc, Int.reduceToNat, Int.reduceLT, Int.reduceLE, Int.reduceEq, Int.reduceNe, Int.reduceBEq, IntKind.bits, bne_self_eq_false, Int.reducePow]
      refine xgrd_cut (LvX n Da Db DS WO XO t (!((σ false).d.op.isNone && (σ true).d.op.isNone)) g') ?_ ?_
      · cases hna : (σ false).d.op.isNone
        · simp only [sx, x_box, x_alloc, x_bslice, x_slice, x_append, x_appz, x_b2s, xop, ev, evs, evParts, fillL, cellsL, Ai.get, Ai.put, stab, isNil?, if_false, if_true, addr?, int?, str?, agg?, bool?, shiftA, FnPost, xresL, xres1, tup, argEnv, ptr, Nat.reduceEqDiff, reduceIte, beq_self_eq_true, ne_eq, Nat.reduceAdd, Nat.reduceMul, Nat.reduceSub, abin_shl, abin_shr, load1V, loadV, storeV, cellsAt, getN, setN, allocV, lenL, lenS, bnd, oneC, Value.oneCell', Nat.reduceLeDiff, Nat.reduceLT, exists_eq_left', forall_const, reduceCtorEq, app_new, app_new0, List.append_assoc, Int.reduceToNat, Int.reduceLT, Int.reduceLE, Int.reduceEq, Int.reduceNe, Int.reduceBEq, IntKind.bits, bne_self_eq_false, Int.reducePow, Bool.false_and]
          exact ⟨⟨r7, r9, r11, r13, r14, r15⟩, r23, rfl, rfl⟩
        · simp only [sx, x_box, x_alloc, x_bslice, x_slice, x_append, x_appz, x_b2s, xop, ev, evs, evParts, fillL, cellsL, Ai.get, Ai.put, stab, isNil?, if_false, if_true, addr?, int?, str?, agg?, bool?, shiftA, FnPost, xresL, xres1, tup, argEnv, ptr, Nat.reduceEqDiff, reduceIte, beq_self_eq_true, ne_eq, Nat.reduceAdd, Nat.reduceMul, Nat.reduceSub, abin_shl, abin_shr, load1V, loadV, storeV, cellsAt, getN, setN, allocV, lenL, lenS, bnd, oneC, Value.oneCell', Nat.reduceLeDiff, Nat.reduceLT, exists_eq_left', forall_const, reduceCtorEq, app_new, app_new0, List.append_assoc, Int.reduceToNat, Int.reduceLT, Int.reduceLE, Int.reduceEq, Int.reduceNe, Int.reduceBEq, IntKind.bits, bne_self_eq_false, Int.reducePow, Bool.true_and, r11']
          refine xcall (rest_ok (A.net.A true)) (by rfl) (by rfl) (by rfl) (by rfl) ?_
          rintro r g'' ⟨rfl, e0⟩
          subst e0
          simp only [sx, x_box, x_alloc, x_bslice, x_slice, x_append, x_appz, x_b2s, xop, ev, evs, evParts, fillL, cellsL, Ai.get, Ai.put, stab, isNil?, if_false, if_true, addr?, int?, str?, agg?, bool?, shiftA, FnPost, xresL, xres1, tup, argEnv, ptr, Nat.reduceEqDiff, reduceIte, beq_self_eq_true, ne_eq, Nat.reduceAdd, Nat.reduceMul, Nat.reduceSub, abin_shl, abin_shr, load1V, loadV, storeV, cellsAt, getN, setN, allocV, lenL, lenS, bnd, oneC, Value.oneCell', Nat.reduceLeDiff, Nat.reduceLT, exists_eq_left', forall_const, reduceCtorEq, app_new, app_new0, List.append_assoc, Int.reduceToNat, Int.reduceLT, Int.reduceLE, Int.reduceEq, Int.reduceNe, Int.reduceBEq, IntKind.bits, bne_self_eq_false, Int.reducePow]
          exact ⟨⟨r7, r9, r11, r13, r14, r15⟩, r23, rfl, rfl⟩
      clear r7 r9 r11 r13 r14 r15 r23 r9' r11'
      rintro ρ g'' ⟨⟨r7, r9, r11, r13, r14, r15⟩, r23, r270, e0⟩
      subst e0
      by_cases hrest : ((σ false).d.op.isNone && (σ true).d.op.isNone) = true
      · rw [hrest] at r270
        simp only [sx, x_box, x_alloc, x_bslice, x_slice, x_append, x_appz, x_b2s, xop, ev, evs, evParts, fillL, cellsL, Ai.get, Ai.put, stab, isNil?, if_false, if_true, addr?, int?, str?, agg?, bool?, shiftA, FnPost, xresL, xres1, tup, argEnv, ptr, Nat.reduceEqDiff, reduceIte, beq_self_eq_true, ne_eq, Nat.reduceAdd, Nat.reduceMul, Nat.reduceSub, abin_shl, abin_shr, load1V, loadV, storeV, cellsAt, getN, setN, allocV, lenL, lenS, bnd, oneC, Value.oneCell', Nat.reduceLeDiff, Nat.reduceLT, exists_eq_left', forall_const, reduceCtorEq, app_new, app_new0, List.append_assoc, Int.reduceToNat, Int.reduceLT, Int.reduceLE, Int.reduceEq, Int.reduceNe, Int.reduceBEq, IntKind.bits, bne_self_eq_false, Int.reducePow, r270]
        refine ⟨σ, ⟨r7, r9, r11, r13, r14, r15⟩, A, allk false ?_ ?_⟩
        · have := (Bool.and_eq_true_iff.1 hrest).1; simpa using this
        · have := (Bool.and_eq_true_iff.1 hrest).2; simpa using this
      rw [Bool.not_eq_true] at hrest
      rw [hrest] at r270
      have r9' := r9
      rw [← A.ids.1] at r9'
      have hlen : ∀ j x, (σ j).d.op = some x → x.mask.length ≤ 1000000 ∧ x.on.length ≤ 1000000 := fun j x hx => by have := ((A.pp j).ab.opk hx).2.2.len; omega
      have holn : ∀ j, (σ j).d.out.length ≤ 300 + t := fun j => by
        have := V.fl (!j)
        rw [Bool.not_not] at this
        omega
      simp only [sx, x_box, x_alloc, x_bslice, x_slice, x_append, x_appz, x_b2s, xop, ev, evs, evParts, fillL, cellsL, Ai.get, Ai.put, stab, isNil?, if_false, if_true, addr?, int?, str?, agg?, bool?, shiftA, FnPost, xresL, xres1, tup, argEnv, ptr, Nat.reduceEqDiff, reduceIte, beq_self_eq_true, ne_eq, Nat.reduceAdd, Nat.reduceMul, Nat.reduceSub, abin_shl, abin_shr, load1V, loadV, storeV, cellsAt, getN, setN, allocV, lenL, lenS, bnd, oneC, Value.oneCell', Nat.reduceLeDiff, Nat.reduceLT, exists_eq_left', forall_const, reduceCtorEq, app_new, app_new0, List.append_assoc, Int.reduceToNat, Int.reduceLT, Int.reduceLE, Int.reduceEq, Int.reduceNe, Int.reduceBEq, IntKind.bits, bne_self_eq_false, Int.reducePow, r270, r9']
      refine xcall (tick_ok (A.net.A false) (by have := holn false; omega) (hlen false)) (by rfl) (by rfl) (by rfl) (by rfl) ?_
      rintro r g1 Wt
      obtain ⟨σ1, A1, d1, d1', m1⟩ := A.tick2 false Wt
      have d1' : (σ1 true).d = (σ true).d := d1'
      have r11' := r11
      rw [← A1.ids.2] at r11'
      simp only [sx, x_box, x_alloc, x_bslice, x_slice, x_append, x_appz, x_b2s, xop, ev, evs, evParts, fillL, cellsL, Ai.get, Ai.put, stab, isNil?, if_false, if_true, addr?, int?, str?, agg?, bool?, shiftA, FnPost, xresL, xres1, tup, argEnv, ptr, Nat.reduceEqDiff, reduceIte, beq_self_eq_true, ne_eq, Nat.reduceAdd, Nat.reduceMul, Nat.reduceSub, abin_shl, abin_shr, load1V, loadV, storeV, cellsAt, getN, setN, allocV, lenL, lenS, bnd, oneC, Value.oneCell', Nat.reduceLeDiff, Nat.reduceLT, exists_eq_left', forall_const, reduceCtorEq, app_new, app_new0, List.append_assoc, Int.reduceToNat, Int.reduceLT, Int.reduceLE, Int.reduceEq, Int.reduceNe, Int.reduceBEq, IntKind.bits, bne_self_eq_false, Int.reducePow, r11']
      refine xcall (tick_ok (A1.net.A true) (by rw [d1']; have := holn true; omega) (by rw [d1']; exact hlen true)) (by rfl) (by rfl) (by rfl) (by rfl) ?_
      rintro r g2 Wt2
      obtain ⟨σ2, A2, d2, d2', m2⟩ := A1.tick2 true Wt2
      have d2' : (σ2 false).d = (σ1 false).d := d2'
      have df : (σ2 false).d = (σ false).d.tick := by rw [d2', d1]
      have dt : (σ2 true).d = (σ true).d.tick := by rw [d2, d1']
      have dm : ∀ j, (σ2 j).ms = (σ j).ms := fun j => by rw [m2, m1]
      obtain ⟨p, hp⟩ : ∃ p, 2000 - t = p + 1 := ⟨1999 - t, by omega⟩
      have V2t : ∀ k, T n (σ2 k).d (σ2 (!k)).d (σ2 (!k)).ms (σ2 k).ms (p + 1) p := by
        have tf := V.tt false
        have tt := V.tt true
        rw [hp] at tf tt
        refine allk false ?_ ?_
        · show T n (σ2 false).d (σ2 true).d (σ2 true).ms (σ2 false).ms (p + 1) p
          rw [df, dt, dm, dm]
          exact ((tf : T n (σ false).d (σ true).d (σ true).ms (σ false).ms (p + 1) (p + 1)).tickS (A.pp false).ab).tickR ((A.pp false).tick).ba
        · show T n (σ2 true).d (σ2 false).d (σ2 false).ms (σ2 true).ms (p + 1) p
          rw [df, dt, dm, dm]
          exact ((tt : T n (σ true).d (σ false).d (σ false).ms (σ true).ms (p + 1) (p + 1)).tickS (A.pp true).ab).tickR ((A.pp true).tick).ba
      have V2l : ∀ k, (σ2 k).d.last + dif n (σ2 k).d ≤ 400 := by
        refine allk false ?_ ?_
        · rw [df, (dif_tick (n := n) (A.pp false).ab.ag).1, (dif_tick (n := n) (A.pp false).ab.ag).2]; exact V.ld false
        · show (σ2 true).d.last + dif n (σ2 true).d ≤ 400
          rw [dt, (dif_tick (n := n) (A.pp true).ab.ag).1, (dif_tick (n := n) (A.pp true).ab.ag).2]; exact V.ld true
      have V2f : ∀ k, (σ2 k).ms.length + (σ2 (!k)).d.out.length ≤ 301 + t := by
        have h1 := tick_len (σ false).d
        have h2 := tick_len (σ true).d
        have h3 := V.fl false
        have h4 := V.fl true
        simp only [Bool.not_false, Bool.not_true] at h3 h4
        refine allk false ?_ ?_
        · show (σ2 false).ms.length + (σ2 true).d.out.length ≤ _
          rw [dm, dt]; omega
        · show (σ2 true).ms.length + (σ2 false).d.out.length ≤ _
          rw [dm, df]; omega
      clear V A A1 Wt Wt2 d1 d1' d2 d2' m1 m2 df dt dm hlen holn r9' r11' hrest r270
      have A := A2
      clear A2
      have hf0 := V2f false
      have hf1 := V2f true
      simp only [Bool.not_false, Bool.not_true] at hf0 hf1
      simp only [sx, x_box, x_alloc, x_bslice, x_slice, x_appz, x_b2s, xop, ev, evs, evParts, fillL, cellsL, Ai.get, Ai.put, stab, isNil?, if_false, if_true, addr?, int?, str?, agg?, bool?, shiftA, FnPost, xresL, xres1, tup, argEnv, ptr, Nat.reduceEqDiff, reduceIte, beq_self_eq_true, ne_eq, Nat.reduceAdd, Nat.reduceMul, Nat.reduceSub, abin_shl, abin_shr, load1V, loadV, storeV, cellsAt, getN, setN, allocV, lenL, lenS, bnd, oneC, Value.oneCell', Nat.reduceLeDiff, Nat.reduceLT, exists_eq_left', forall_const, reduceCtorEq, app_new, app_new0, List.append_assoc, Int.reduceToNat, Int.reduceLT, Int.reduceLE, Int.reduceEq, Int.reduceNe, Int.reduceBEq, IntKind.bits, bne_self_eq_false, Int.reducePow, r14]
      have hwo := A.net.wo
      have AS := A.net.A false
      have hol := tot_k σ2 false
      have rD := r9
      rw [← A.ids.1] at rD
      simp only [sx, x_box, x_alloc, x_bslice, x_slice, x_appz, x_b2s, xop, ev, evs, evParts, fillL, cellsL, Ai.get, Ai.put, stab, isNil?, if_false, if_true, addr?, int?, str?, agg?, bool?, shiftA, FnPost, xresL, xres1, tup, argEnv, ptr, Nat.reduceEqDiff, reduceIte, beq_self_eq_true, ne_eq, Nat.reduceAdd, Nat.reduceMul, Nat.reduceSub, abin_shl, abin_shr, load1V, loadV, storeV, cellsAt, getN, setN, allocV, lenL, lenS, bnd, oneC, Value.oneCell', Nat.reduceLeDiff, Nat.reduceLT, exists_eq_left', forall_const, reduceCtorEq, app_new, app_new0, List.append_assoc, Int.reduceToNat, Int.reduceLT, Int.reduceLE, Int.reduceEq, Int.reduceNe, Int.reduceBEq, IntKind.bits, bne_self_eq_false, Int.reducePow, r14, rD, hwo, tw1, i01, i12, t1, Nat.mul_one, Nat.zero_mul]
      refine xcall (taken_ok AS (by omega)) (by rfl) (by rfl) (by rfl) (by rfl) ?_
      rintro r g1 ⟨M, A1, off, F1, -⟩
      obtain ⟨opv1, outv1, S1⟩ := A.net.went false ⟨_, .slice none 0 0, A1, F1, fun B hB => .inl (ft_nil hB)⟩
      have gw : ∀ j, (upd σ2 false { σ2 false with d := { (σ2 false).d with out := [] }, opv := opv1, outv := outv1 } j).w = (σ2 j).w := upd_w rfl
      have hwo1 := S1.wo
      simp only [gw] at hwo1
      obtain ⟨rq, cells', rfl, hf, R⟩ := M
      simp only [sx, x_box, x_alloc, x_bslice, x_slice, x_appz, x_b2s, xop, ev, evs, evParts, fillL, cellsL, Ai.get, Ai.put, stab, isNil?, if_false, if_true, addr?, int?, str?, agg?, bool?, shiftA, FnPost, xresL, xres1, tup, argEnv, ptr, Nat.reduceEqDiff, reduceIte, beq_self_eq_true, ne_eq, Nat.reduceAdd, Nat.reduceMul, Nat.reduceSub, abin_shl, abin_shr, load1V, loadV, storeV, cellsAt, getN, setN, allocV, lenL, lenS, bnd, oneC, Value.oneCell', Nat.reduceLeDiff, Nat.reduceLT, exists_eq_left', forall_const, reduceCtorEq, app_new, app_new0, List.append_assoc, Int.reduceToNat, Int.reduceLT, Int.reduceLE, Int.reduceEq, Int.reduceNe, Int.reduceBEq, IntKind.bits, bne_self_eq_false, Int.reducePow, hwo1, tw1, i01, i12, t1, Nat.mul_one, Nat.zero_mul]
      have hq1 : MQ g1 (σ2 true).w (σ2 true).ms := S1.q true
      refine MQ.app_run (ms' := (σ2 false).d.out) rfl hq1 rfl rfl rfl hf R (by simp at hol; omega) fun g2 w' hl2 hf2 Q' hw' => ?_
      obtain ⟨wa, wc, hwv⟩ := Q'.shp
      have el : ((σ2 true).ms ++ (σ2 false).d.out).length = (σ2 true).ms.length + (σ2 false).d.out.length := by simp
      rw [el] at hwv
      subst hwv
      obtain ⟨hwo2, S2⟩ := S1.wire true hl2 hf2 Q' hw'
      simp only [gw] at hwo2
      obtain ⟨σ2', e'⟩ : ∃ x, x = upd (upd σ2 false { σ2 false with d := { (σ2 false).d with out := [] }, opv := opv1, outv := outv1 }) (!false) { σ2 (!false) with w := .slice wa ((σ2 true).ms.length + (σ2 false).d.out.length) wc, ms := (σ2 (!false)).ms ++ (σ2 false).d.out } := ⟨_, rfl⟩
      have S3 : NET h (g2.set WO (some ⟨true, (two fun j => (upd σ2 false { σ2 false with d := { (σ2 false).d with out := [] }, opv := opv1, outv := outv1 } j).w).set 1 (.slice wa ((σ2 true).ms.length + (σ2 false).d.out.length) wc)⟩)) DS WO XO n σ2' := by
        rw [e']; exact S2
      simp only [gw] at S3
      obtain ⟨A', f1, f2, f3, f4, f5, f6⟩ := A.take2 false e' S3
      simp only [sx, x_box, x_alloc, x_bslice, x_slice, x_appz, x_b2s, xop, ev, evs, evParts, fillL, cellsL, Ai.get, Ai.put, stab, isNil?, if_false, if_true, addr?, int?, str?, agg?, bool?, shiftA, FnPost, xresL, xres1, tup, argEnv, ptr, Nat.reduceEqDiff, reduceIte, beq_self_eq_true, ne_eq, Nat.reduceAdd, Nat.reduceMul, Nat.reduceSub, abin_shl, abin_shr, load1V, loadV, storeV, cellsAt, getN, setN, allocV, lenL, lenS, bnd, oneC, Value.oneCell', Nat.reduceLeDiff, Nat.reduceLT, exists_eq_left', forall_const, reduceCtorEq, app_new, app_new0, List.append_assoc, Int.reduceToNat, Int.reduceLT, Int.reduceLE, Int.reduceEq, Int.reduceNe, Int.reduceBEq, IntKind.bits, bne_self_eq_false, Int.reducePow, r14, hwo2, twl, i01, i12, t1, n12, Nat.mul_one, Nat.zero_mul]
      generalize g2.set WO (some (AObj.mk true ((two fun j => (σ2 j).w).set 1 (.slice wa ((σ2 true).ms.length + (σ2 false).d.out.length) wc)))) = g3 at *
      clear S1 S2 S3 AS A1 F1 hf R hq1 hf2 Q' hw' hwo1 hwo2 gw hl2 e' hwo rD hol el
      clear A
      have A := A'
      clear A'
      have hou1 := f1
      have hms1 := f2
      have hd1 := f3
      have hms2 := f4
      have hbt : tot σ2' ≤ 602 + 2 * t := by
        rw [f5, tot_k σ2 false]
        show (σ2 false).ms.length + (σ2 false).d.out.length + (σ2 true).ms.length + (σ2 true).d.out.length ≤ _
        omega
      clear f1 f2 f3 f4 f5 f6
      have hwo := A.net.wo
      have AS := A.net.A true
      have hol := tot_k σ2' true
      have rD := r11
      rw [← A.ids.2] at rD
      simp only [sx, x_box, x_alloc, x_bslice, x_slice, x_appz, x_b2s, xop, ev, evs, evParts, fillL, cellsL, Ai.get, Ai.put, stab, isNil?, if_false, if_true, addr?, int?, str?, agg?, bool?, shiftA, FnPost, xresL, xres1, tup, argEnv, ptr, Nat.reduceEqDiff, reduceIte, beq_self_eq_true, ne_eq, Nat.reduceAdd, Nat.reduceMul, Nat.reduceSub, abin_shl, abin_shr, load1V, loadV, storeV, cellsAt, getN, setN, allocV, lenL, lenS, bnd, oneC, Value.oneCell', Nat.reduceLeDiff, Nat.reduceLT, exists_eq_left', forall_const, reduceCtorEq, app_new, app_new0, List.append_assoc, Int.reduceToNat, Int.reduceLT, Int.reduceLE, Int.reduceEq, Int.reduceNe, Int.reduceBEq, IntKind.bits, bne_self_eq_false, Int.reducePow, r14, rD, hwo, tw0, i00, i02, t0, Nat.mul_one, Nat.zero_mul]
      refine xcall (taken_ok AS (by omega)) (by rfl) (by rfl) (by rfl) (by rfl) ?_
      rintro r g1 ⟨M, A1, off, F1, -⟩
      obtain ⟨opv1, outv1, S1⟩ := A.net.went true ⟨_, .slice none 0 0, A1, F1, fun B hB => .inl (ft_nil hB)⟩
      have gw : ∀ j, (upd σ2' true { σ2' true with d := { (σ2' true).d with out := [] }, opv := opv1, outv := outv1 } j).w = (σ2' j).w := upd_w rfl
      have hwo1 := S1.wo
      simp only [gw] at hwo1
      obtain ⟨rq, cells', rfl, hf, R⟩ := M
      simp only [sx, x_box, x_alloc, x_bslice, x_slice, x_appz, x_b2s, xop, ev, evs, evParts, fillL, cellsL, Ai.get, Ai.put, stab, isNil?, if_false, if_true, addr?, int?, str?, agg?, bool?, shiftA, FnPost, xresL, xres1, tup, argEnv, ptr, Nat.reduceEqDiff, reduceIte, beq_self_eq_true, ne_eq, Nat.reduceAdd, Nat.reduceMul, Nat.reduceSub, abin_shl, abin_shr, load1V, loadV, storeV, cellsAt, getN, setN, allocV, lenL, lenS, bnd, oneC, Value.oneCell', Nat.reduceLeDiff, Nat.reduceLT, exists_eq_left', forall_const, reduceCtorEq, app_new, app_new0, List.append_assoc, Int.reduceToNat, Int.reduceLT, Int.reduceLE, Int.reduceEq, Int.reduceNe, Int.reduceBEq, IntKind.bits, bne_self_eq_false, Int.reducePow, hwo1, tw0, i00, i02, t0, Nat.mul_one, Nat.zero_mul]
      have hq1 : MQ g1 (σ2' false).w (σ2' false).ms := S1.q false
      refine MQ.app_run (ms' := (σ2' true).d.out) rfl hq1 rfl rfl rfl hf R (by simp at hol; omega) fun g2 w' hl2 hf2 Q' hw' => ?_
      obtain ⟨wa, wc, hwv⟩ := Q'.shp
      have el : ((σ2' false).ms ++ (σ2' true).d.out).length = (σ2' false).ms.length + (σ2' true).d.out.length := by simp
      rw [el] at hwv
      subst hwv
      obtain ⟨hwo2, S2⟩ := S1.wire false hl2 hf2 Q' hw'
      simp only [gw] at hwo2
      obtain ⟨σ2'', e'⟩ : ∃ x, x = upd (upd σ2' true { σ2' true with d := { (σ2' true).d with out := [] }, opv := opv1, outv := outv1 }) (!true) { σ2' (!true) with w := .slice wa ((σ2' false).ms.length + (σ2' true).d.out.length) wc, ms := (σ2' (!true)).ms ++ (σ2' true).d.out } := ⟨_, rfl⟩
      have S3 : NET h (g2.set WO (some ⟨true, (two fun j => (upd σ2' true { σ2' true with d := { (σ2' true).d with out := [] }, opv := opv1, outv := outv1 } j).w).set 0 (.slice wa ((σ2' false).ms.length + (σ2' true).d.out.length) wc)⟩)) DS WO XO n σ2'' := by
        rw [e']; exact S2
      simp only [gw] at S3
      obtain ⟨A', f1, f2, f3, f4, f5, f6⟩ := A.take2 true e' S3
      simp only [sx, x_box, x_alloc, x_bslice, x_slice, x_appz, x_b2s, xop, ev, evs, evParts, fillL, cellsL, Ai.get, Ai.put, stab, isNil?, if_false, if_true, addr?, int?, str?, agg?, bool?, shiftA, FnPost, xresL, xres1, tup, argEnv, ptr, Nat.reduceEqDiff, reduceIte, beq_self_eq_true, ne_eq, Nat.reduceAdd, Nat.reduceMul, Nat.reduceSub, abin_shl, abin_shr, load1V, loadV, storeV, cellsAt, getN, setN, allocV, lenL, lenS, bnd, oneC, Value.oneCell', Nat.reduceLeDiff, Nat.reduceLT, exists_eq_left', forall_const, reduceCtorEq, app_new, app_new0, List.append_assoc, Int.reduceToNat, Int.reduceLT, Int.reduceLE, Int.reduceEq, Int.reduceNe, Int.reduceBEq, IntKind.bits, bne_self_eq_false, Int.reducePow, r14, hwo2, twl, i00, i02, t0, n02, Nat.mul_one, Nat.zero_mul]
      generalize g2.set WO (some (AObj.mk true ((two fun j => (σ2' j).w).set 0 (.slice wa ((σ2' false).ms.length + (σ2' true).d.out.length) wc)))) = g4 at *
      clear S1 S2 S3 AS A1 F1 hf R hq1 hf2 Q' hw' hwo1 hwo2 gw hl2 e' hwo rD hol el
      clear A
      have A := A'
      clear A'
      have ou1 : (σ2' false).d = { (σ2 false).d with out := [] } := hou1
      have ms1 : (σ2' false).ms = (σ2 false).ms := hms1
      have dd1 : (σ2' true).d = (σ2 true).d := hd1
      have ms2 : (σ2' true).ms = (σ2 true).ms ++ (σ2 false).d.out := hms2
      have ou2 : (σ2'' true).d = { (σ2' true).d with out := [] } := f1
      have ms3 : (σ2'' true).ms = (σ2' true).ms := f2
      have dd2 : (σ2'' false).d = (σ2' false).d := f3
      have ms4 : (σ2'' false).ms = (σ2' false).ms ++ (σ2' true).d.out := f4
      have df : (σ2'' false).d = { (σ2 false).d with out := [] } := dd2.trans ou1
      have dt : (σ2'' true).d = { (σ2 true).d with out := [] } := by rw [ou2, dd1]
      have mf : (σ2'' false).ms = (σ2 false).ms ++ (σ2 true).d.out := by rw [ms4, ms1, dd1]
      have mt : (σ2'' true).ms = (σ2 true).ms ++ (σ2 false).d.out := by rw [ms3, ms2]
      have H0 : Hg n t p 0 σ2'' := by
        refine ⟨allk false ?_ ?_, fun k hk => by omega, allk false ?_ ?_, allk false ?_ ?_, allk (P := fun k => 0 ≤ Bool.toNat k → (σ2'' k).d.out = []) false ?_ ?_, allk false ?_ ?_⟩
        · show (σ2'' false).d.last + dif n (σ2'' false).d ≤ 400
          rw [df]; exact V2l false
        · show (σ2'' true).d.last + dif n (σ2'' true).d ≤ 400
          rw [dt]; exact V2l true
        · rw [mf, List.length_append]; exact hf0
        · show (σ2'' true).ms.length ≤ _
          rw [mt, List.length_append]; exact hf1
        · rw [df]; exact Nat.zero_le _
        · show (σ2'' true).d.out.length ≤ _
          rw [dt]; exact Nat.zero_le _
        · intro _; rw [df]
        · intro _; show (σ2'' true).d.out = []; rw [dt]
        · show Q n (σ2'' false).d (σ2'' true).d (σ2'' true).ms (σ2'' false).ms p
          rw [df, dt, mf, mt]
          exact (T.takeR (T.takeS (V2t false : T n (σ2 false).d (σ2 true).d (σ2 true).ms (σ2 false).ms (p + 1) p))).q rfl rfl
        · show Q n (σ2'' true).d (σ2'' false).d (σ2'' false).ms (σ2'' true).ms p
          rw [df, dt, mf, mt]
          exact (T.takeR (T.takeS (V2t true : T n (σ2 true).d (σ2 false).d (σ2 false).ms (σ2 true).ms (p + 1) p))).q rfl rfl
      clear V2t V2l V2f ou1 ms1 dd1 ms2 ou2 ms3 dd2 ms4 df dt mf mt hou1 hms1 hd1 hms2 f1 f2 f3 f4 f5 f6 hf0 hf1
      generalize σ2'' = τ at *
      obtain ⟨hg1, hg2⟩ : True ∧ True := ⟨trivial, trivial⟩
      refine xloop_cut (HgE h DS WO XO n Da Db t p) ?_ ?_
      · refine xcode_loop (HgI h DS WO XO n Da Db t p) 2 ⟨0, τ, by omega, ⟨r7, r9, r11, r13, r14, r15⟩, r23, rfl, A, H0⟩ ?_
        clear A H0 r7 r9 r11 r13 r14 r15 r23 hbt
        rintro m1 ρ g ⟨j, σ, hjm, ⟨r7, r9, r11, r13, r14, r15⟩, r23, r24, A, H⟩
        by_cases hj : j < 2
        rotate_left
        · have hj' : ¬ (j : Int) < 2 := by omega
          simp only [sx, x_box, x_alloc, x_bslice, x_slice, x_append, x_appz, x_b2s, xop, ev, evs, evParts, fillL, cellsL, Ai.get, Ai.put, stab, isNil?, if_false, if_true, addr?, int?, str?, agg?, bool?, shiftA, FnPost, xresL, xres1, tup, argEnv, ptr, Nat.reduceEqDiff, reduceIte, beq_self_eq_true, ne_eq, Nat.reduceAdd, Nat.reduceMul, Nat.reduceSub, abin_shl, abin_shr, load1V, loadV, storeV, cellsAt, getN, setN, allocV, lenL, lenS, bnd, oneC, Value.oneCell', Nat.reduceLeDiff, Nat.reduceLT, exists_eq_left', forall_const, reduceCtorEq, app_new, app_new0, List.append_assoc, Int.reduceToNat, Int.reduceLT, Int.reduceLE, Int.reduceEq, Int.reduceNe, Int.reduceBEq, IntKind.bits, bne_self_eq_false, Int.reducePow, r24, hj']
          exact ⟨σ, ⟨r7, r9, r11, r13, r14, r15⟩, r23, A, by
            have : j = 2 := by omega
            rw [← this]; exact H⟩
        have hj' : (j : Int) < 2 := by omega
        have wj : IntKind.i64.wrap ((j : Int) + 1) = ((j + 1 : Nat) : Int) := by rw [i64_wrap] <;> omega
        obtain ⟨k, hk⟩ : ∃ k : Bool, j = k.toNat := by
          match j, hj with
          | 0, _ => exact ⟨false, rfl⟩
          | 1, _ => exact ⟨true, rfl⟩
        subst hk
        have hk0 : (0 : Int) ≤ ((Bool.toNat k : Nat) : Int) := by omega
        have hk2n : Bool.toNat k < 2 := by cases k <;> decide
        have hle : Bool.toNat k + 1 ≤ 2 := by omega
        simp only [sx, x_box, x_alloc, x_bslice, x_slice, x_append, x_appz, x_b2s, xop, ev, evs, evParts, fillL, cellsL, Ai.get, Ai.put, stab, isNil?, if_false, if_true, addr?, int?, str?, agg?, bool?, shiftA, FnPost, xresL, xres1, tup, argEnv, ptr, Nat.reduceEqDiff, reduceIte, beq_self_eq_true, ne_eq, Nat.reduceAdd, Nat.reduceMul, Nat.reduceSub, abin_shl, abin_shr, load1V, loadV, storeV, cellsAt, getN, setN, allocV, lenL, lenS, bnd, oneC, Value.oneCell', Nat.reduceLeDiff, Nat.reduceLT, exists_eq_left', forall_const, reduceCtorEq, app_new, app_new0, List.append_assoc, Int.reduceToNat, Int.reduceLT, Int.reduceLE, Int.reduceEq, Int.reduceNe, Int.reduceBEq, IntKind.bits, bne_self_eq_false, Int.reducePow, r24, hj']
        refine xloop_cut (HnE h DS WO XO n Da Db t p k (σ k).ms (σ (!k)).ms (σ (!k)).d) ?_ ?_
        · have hLb := H.ms k
          refine xcode_loop (HnI h DS WO XO n Da Db t p k (σ k).ms (σ (!k)).ms (σ (!k)).d) (σ k).ms.length ⟨0, σ, by omega, ⟨r7, r9, r11, r13, r14, r15⟩, r23, r24, rfl, A, ⟨H.ld k, rfl, rfl, rfl, by rw [H.o0 k (Nat.le_refl _)]; exact Nat.zero_le _, H.qq k, by have := H.qq (!k); rw [Bool.not_not] at this; exact this⟩⟩ ?_
          clear A H r7 r9 r11 r13 r14 r15 r23 r24
          generalize (σ k).ms = L at *
          generalize (σ (!k)).ms = L' at *
          generalize (σ (!k)).d = d' at *
          clear σ
          rintro m2 ρ g ⟨x, σ, hxm, ⟨r7, r9, r11, r13, r14, r15⟩, r23, r24, r25, A, H⟩
          have hwo := A.net.wo
          have hds := A.net.ds
          have hwk : (two fun k => (σ k).w)[Bool.toNat k]? = some (σ k).w := two_get _ k
          have hdk : (two fun k => ptr (σ k).D)[Bool.toNat k]? = some (ptr (σ k).D) := two_get _ k
          simp only [ptr] at hds hdk
          by_cases hx : x < L.length
          rotate_left
          · obtain ⟨wa, wc, hw⟩ := (A.net.q k).shp
            rw [H.ms] at hw
            rw [hw] at hwk
            have hx' : ¬ (x : Int) < ((L.length : Nat) : Int) := by omega
            simp only [sx, x_box, x_alloc, x_bslice, x_slice, x_append, x_appz, x_b2s, xop, ev, evs, evParts, fillL, cellsL, Ai.get, Ai.put, stab, isNil?, if_false, if_true, addr?, int?, str?, agg?, bool?, shiftA, FnPost, xresL, xres1, tup, argEnv, ptr, Nat.reduceEqDiff, reduceIte, beq_self_eq_true, ne_eq, Nat.reduceAdd, Nat.reduceMul, Nat.reduceSub, abin_shl, abin_shr, load1V, loadV, storeV, cellsAt, getN, setN, allocV, lenL, lenS, bnd, oneC, Value.oneCell', Nat.reduceLeDiff, Nat.reduceLT, exists_eq_left', forall_const, reduceCtorEq, app_new, app_new0, List.append_assoc, Int.reduceToNat, Int.reduceLT, Int.reduceLE, Int.reduceEq, Int.reduceNe, Int.reduceBEq, IntKind.bits, bne_self_eq_false, Int.reducePow, r25, r24, r14, hk0, hj', hwo, hwk, hx', Nat.mul_one, Nat.zero_add]
            have ex : x = L.length := by omega
            rw [ex] at H
            exact ⟨σ, ⟨r7, r9, r11, r13, r14, r15⟩, r23, r24, A, H⟩
          have hx' : (x : Int) < ((L.length : Nat) : Int) := by omega
          have hx0 : (0 : Int) ≤ (x : Int) := by omega
          have wx : IntKind.i64.wrap ((x : Int) + 1) = ((x + 1 : Nat) : Int) := by rw [i64_wrap] <;> omega
          have em := List.getElem?_eq_getElem (l := L) hx
          have edr : L.drop x = L[x]'hx :: L.drop (x + 1) := List.drop_eq_getElem_cons hx
          generalize L[x]'hx = m0 at em edr
          have hmL : m0 ∈ (σ k).ms := by rw [H.ms]; exact List.mem_of_getElem? em
          obtain ⟨A', off, wc, cells, mv, ov, hw, hA', hg, M, O⟩ := (A.net.q k).elem (j := x) (m := m0) (by rw [H.ms]; exact em)
          rw [H.ms] at hw
          rw [hw] at hwk
          have P := A.pp k
          have hfl := (P.fit hmL).1.len
          have hou := H.ou
          have hld := H.ld
          have hl0 := P.ab.l0
          have hdn := dif_le n (σ k).d
          simp only [sx, x_box, x_alloc, x_bslice, x_slice, x_append, x_appz, x_b2s, xop, ev, evs, evParts, fillL, cellsL, Ai.get, Ai.put, stab, isNil?, if_false, if_true, addr?, int?, str?, agg?, bool?, shiftA, FnPost, xresL, xres1, tup, argEnv, ptr, Nat.reduceEqDiff, reduceIte, beq_self_eq_true, ne_eq, Nat.reduceAdd, Nat.reduceMul, Nat.reduceSub, abin_shl, abin_shr, load1V, loadV, storeV, cellsAt, setN, allocV, lenL, lenS, bnd, oneC, Value.oneCell', Nat.reduceLeDiff, Nat.reduceLT, exists_eq_left', forall_const, reduceCtorEq, app_new, app_new0, List.append_assoc, Int.reduceToNat, Int.reduceLT, Int.reduceLE, Int.reduceEq, Int.reduceNe, Int.reduceBEq, IntKind.bits, bne_self_eq_false, Int.reducePow, r25, r24, r14, r13, hk0, hj', hwo, hwk, hds, hdk, hx', hx0, hA', hg, Nat.mul_one, Nat.zero_add]
          refine xcall (hear_ok (m := m0) (A.net.A k) ⟨mv, ov, rfl, M, O⟩ (by omega) (by omega)) (by rfl) (by rfl) (by rfl) (by rfl) ?_
          intro r g2 hP
          obtain ⟨rfl, Wt⟩ := P.heard hmL hP
          obtain ⟨opv2, outv2, S1⟩ := A.net.went k Wt
          obtain ⟨h1n, h2n, h3n, h4n, -⟩ := P.hear_n (by omega) (by omega) hmL
          simp only [sx, x_box, x_alloc, x_bslice, x_slice, x_append, x_appz, x_b2s, xop, ev, evs, evParts, fillL, cellsL, Ai.get, Ai.put, stab, isNil?, if_false, if_true, addr?, int?, str?, agg?, bool?, shiftA, FnPost, xresL, xres1, tup, argEnv, ptr, Nat.reduceEqDiff, reduceIte, beq_self_eq_true, ne_eq, Nat.reduceAdd, Nat.reduceMul, Nat.reduceSub, abin_shl, abin_shr, load1V, loadV, storeV, cellsAt, getN, setN, allocV, lenL, lenS, bnd, oneC, Value.oneCell', Nat.reduceLeDiff, Nat.reduceLT, exists_eq_left', forall_const, reduceCtorEq, app_new, app_new0, List.append_assoc, Int.reduceToNat, Int.reduceLT, Int.reduceLE, Int.reduceEq, Int.reduceNe, Int.reduceBEq, IntKind.bits, bne_self_eq_false, Int.reducePow, r25, wx]
          refine ⟨m2 - 1, by omega, x + 1, _, by omega, ⟨r7, r9, r11, r13, r14, r15⟩, r23, r24, rfl, ⟨S1, A.ids.upd k rfl, PP.mk k ?_, allk k ?_ ?_⟩, ⟨?_, ?_, ?_, ?_, ?_, ?_, ?_⟩⟩
          · rw [upd_self, upd_not]; exact P.hear (by omega) (by omega) hmL
          · show (upd σ k _ k).want = (upd σ k _ k).d.locals
            rw [upd_self]
            show (σ k).want = ((σ k).d.hr m0).locals
            rw [A.wn k, h4n]
          · show (upd σ k _ (!k)).want = (upd σ k _ (!k)).d.locals
            rw [upd_not]; exact A.wn (!k)
          · rw [upd_self]; show ((σ k).d.hr m0).last + dif n ((σ k).d.hr m0) ≤ 400; omega
          · rw [upd_self]; exact H.ms
          · rw [upd_not]; exact H.ms'
          · rw [upd_not]; exact H.de
          · rw [upd_self]; show ((σ k).d.hr m0).out.length ≤ _; omega
          · rw [upd_self]
            have q := H.q1
            rw [edr] at q
            rw [H.de] at P
            exact q.hearS P (by omega) (by omega) hmL
          · rw [upd_self]
            have q := H.q2
            rw [edr] at q
            exact q.hearR
        · have HB := H
          clear A r7 r9 r11 r13 r14 r15 r23 r24
          rintro ρ g ⟨σ', ⟨r7, r9, r11, r13, r14, r15⟩, r23, r24, A, H⟩
          have hwo := A.net.wo
          obtain ⟨-, S2⟩ := A.net.wire k (w' := .slice none 0 0) (ms' := []) (Nat.le_refl _) (fun _ _ _ => rfl) (MQ.nil _) (fun B hB => by cases hB)
          simp only [sx, x_box, x_alloc, x_bslice, x_slice, x_append, x_appz, x_b2s, xop, ev, evs, evParts, fillL, cellsL, Ai.get, Ai.put, stab, isNil?, if_false, if_true, addr?, int?, str?, agg?, bool?, shiftA, FnPost, xresL, xres1, tup, argEnv, ptr, Nat.reduceEqDiff, reduceIte, beq_self_eq_true, ne_eq, Nat.reduceAdd, Nat.reduceMul, Nat.reduceSub, abin_shl, abin_shr, load1V, loadV, storeV, cellsAt, getN, setN, allocV, lenL, lenS, bnd, oneC, Value.oneCell', Nat.reduceLeDiff, Nat.reduceLT, exists_eq_left', forall_const, reduceCtorEq, app_new, app_new0, List.append_assoc, Int.reduceToNat, Int.reduceLT, Int.reduceLE, Int.reduceEq, Int.reduceNe, Int.reduceBEq, IntKind.bits, bne_self_eq_false, Int.reducePow, r24, r14, hk0, hj', hwo, twl, hle, wj, Nat.mul_one, Nat.zero_add]
          have P := A.pp k
          have hdr : (σ k).ms.drop (σ k).ms.length = [] := List.drop_length
          refine ⟨m1 - 1, by omega, k.toNat + 1, _, by omega, ⟨r7, r9, r11, r13, r14, r15⟩, r23, rfl, ⟨S2, A.ids.upd k rfl, PP.mk k ?_, allk k ?_ ?_⟩, ⟨allk k ?_ ?_, ?_, allk k ?_ ?_, allk k ?_ ?_, ?_, allk k ?_ ?_⟩⟩
          · rw [upd_self, upd_not]; exact P.sub (fun m h => h) (fun m h => by cases h)
          · show (upd σ' k _ k).want = (upd σ' k _ k).d.locals
            rw [upd_self]; exact A.wn k
          · show (upd σ' k _ (!k)).want = (upd σ' k _ (!k)).d.locals
            rw [upd_not]; exact A.wn (!k)
          · rw [upd_self]; exact H.ld
          · rw [upd_not, H.de]; exact HB.ld (!k)
          · refine allk (P := fun j => Bool.toNat j < Bool.toNat k + 1 → (upd σ' k { σ' k with w := .slice none 0 0, ms := [] } j).ms = []) k ?_ ?_
            · intro _; rw [upd_self]
            · intro hlt
              rw [upd_not, H.ms']
              exact HB.em (!k) (by revert hlt; cases k <;> decide)
          · rw [upd_self]; exact Nat.zero_le _
          · rw [upd_not, H.ms']; exact HB.ms (!k)
          · rw [upd_self]; exact Nat.le_trans H.ou (HB.ms k)
          · rw [upd_not, H.de]; exact HB.ou (!k)
          · refine allk (P := fun j => Bool.toNat k + 1 ≤ Bool.toNat j → (upd σ' k { σ' k with w := .slice none 0 0, ms := [] } j).d.out = []) k ?_ ?_
            · intro hlt; omega
            · intro hlt
              rw [upd_not, H.de]
              exact HB.o0 (!k) (by omega)
          · rw [upd_self, upd_not]
            have q := H.q1
            rw [hdr] at q
            rw [H.ms', H.de]; exact q
          · rw [Bool.not_not, upd_self, upd_not]
            have q := H.q2
            rw [hdr] at q
            rw [H.ms', H.de]; exact q
      · clear A H0 r7 r9 r11 r13 r14 r15 r23 hbt
        rintro ρ g ⟨σ, ⟨r7, r9, r11, r13, r14, r15⟩, r23, A, H⟩
        have hem : ∀ k, (σ k).ms = [] := fun k => H.em k (by cases k <;> decide)
        simp only [sx, x_box, x_alloc, x_bslice, x_slice, x_append, x_appz, x_b2s, xop, ev, evs, evParts, fillL, cellsL, Ai.get, Ai.put, stab, isNil?, if_false, if_true, addr?, int?, str?, agg?, bool?, shiftA, FnPost, xresL, xres1, tup, argEnv, ptr, Nat.reduceEqDiff, reduceIte, beq_self_eq_true, ne_eq, Nat.reduceAdd, Nat.reduceMul, Nat.reduceSub, abin_shl, abin_shr, load1V, loadV, storeV, cellsAt, getN, setN, allocV, lenL, lenS, bnd, oneC, Value.oneCell', Nat.reduceLeDiff, Nat.reduceLT, exists_eq_left', forall_const, reduceCtorEq, app_new, app_new0, List.append_assoc, Int.reduceToNat, Int.reduceLT, Int.reduceLE, Int.reduceEq, Int.reduceNe, Int.reduceBEq, IntKind.bits, bne_self_eq_false, Int.reducePow, r23, wt]
        refine ⟨m - 1, by omega, t + 1, σ, by omega, ⟨r7, r9, r11, r13, r14, r15⟩, rfl, A, ⟨H.ld, fun k => ?_, fun k => ?_⟩⟩
        · rw [hem k]
          have := H.ou (!k)
          simp only [List.length_nil]; omega
        · have e : 2000 - (t + 1) = p := by omega
          have q := H.qq k
          rw [e]
          rw [hem k, hem (!k)] at q ⊢
          exact q.t
    · clear A hla hou hto r7 r9 r11 r13 r14 r15
      rintro ρ g ⟨σ, ⟨r7, r9, r11, r13, r14, r15⟩, A, hop⟩
      simp only [sx, x_box, x_alloc, x_bslice, x_slice, x_append, x_appz, x_b2s, xop, ev, evs, evParts, fillL, cellsL, Ai.get, Ai.put, stab, isNil?, if_false, if_true, addr?, int?, str?, agg?, bool?, shiftA, FnPost, xresL, xres1, tup, argEnv, ptr, Nat.reduceEqDiff, reduceIte, beq_self_eq_true, ne_eq, Nat.reduceAdd, Nat.reduceMul, Nat.reduceSub, abin_shl, abin_shr, load1V, loadV, storeV, cellsAt, getN, setN, allocV, lenL, lenS, bnd, oneC, Value.oneCell', Nat.reduceLeDiff, Nat.reduceLT, exists_eq_left', forall_const, reduceCtorEq, app_new, app_new0, List.append_assoc, Int.reduceToNat, Int.reduceLT, Int.reduceLE, Int.reduceEq, Int.reduceNe, Int.reduceBEq, IntKind.bits, bne_self_eq_false, Int.reducePow]
      refine xloop_cut (LaE h DS WO XO n Da Db σ) ?_ ?_
      · refine xcode_loop (LaI h DS WO XO n Da Db σ) n ⟨0, by omega, ⟨r7, r9, r11, r13, r14, r15⟩, rfl, A⟩ ?_
        clear A r7 r9 r11 r13 r14 r15
        rintro m ρ g ⟨x, hxm, ⟨r7, r9, r11, r13, r14, r15⟩, r26, A⟩
        by_cases hx : x < n
        rotate_left
        · have hx' : ¬ (x : Int) < ((n : Nat) : Int) := by omega
          simp only [sx, x_box, x_alloc, x_bslice, x_slice, x_append, x_appz, x_b2s, xop, ev, evs, evParts, fillL, cellsL, Ai.get, Ai.put, stab, isNil?, if_false, if_true, addr?, int?, str?, agg?, bool?, shiftA, FnPost, xresL, xres1, tup, argEnv, ptr, Nat.reduceEqDiff, reduceIte, beq_self_eq_true, ne_eq, Nat.reduceAdd, Nat.reduceMul, Nat.reduceSub, abin_shl, abin_shr, load1V, loadV, storeV, cellsAt, getN, setN, allocV, lenL, lenS, bnd, oneC, Value.oneCell', Nat.reduceLeDiff, Nat.reduceLT, exists_eq_left', forall_const, reduceCtorEq, app_new, app_new0, List.append_assoc, Int.reduceToNat, Int.reduceLT, Int.reduceLE, Int.reduceEq, Int.reduceNe, Int.reduceBEq, IntKind.bits, bne_self_eq_false, Int.reducePow, r26, r7, hx']
          exact ⟨⟨r7, r9, r11, r13, r14, r15⟩, A⟩
        have hx' : (x : Int) < ((n : Nat) : Int) := by omega
        have hx0 : (0 : Int) ≤ (x : Int) := by omega
        have wx : IntKind.i64.wrap ((x : Int) + 1) = ((x + 1 : Nat) : Int) := by rw [i64_wrap] <;> omega
        have hwl : ∀ k, (σ k).want.length = n := fun k => by rw [A.wn k, DK.locals_len]; exact (A.pp k).ab.cl
        have ef := List.getElem?_eq_getElem (l := (σ false).want) (i := x) (by rw [hwl]; exact hx)
        have et := List.getElem?_eq_getElem (l := (σ true).want) (i := x) (by rw [hwl]; exact hx)
        generalize (σ false).want[x]'(by rw [hwl]; exact hx) = wf at ef
        generalize (σ true).want[x]'(by rw [hwl]; exact hx) = wtt at et
        have cf := bB_get ef
        have ct := bB_get et
        have ra : (σ false).d.res[x]? = some wtt := by
          have := (A.pp true).rest (hop true)
          have : (σ false).d.res = (σ true).d.locals := this
          rw [this, ← A.wn true]; exact et
        have rb : (σ true).d.res[x]? = some wf := by
          have := (A.pp false).rest (hop false)
          have : (σ true).d.res = (σ false).d.locals := this
          rw [this, ← A.wn false]; exact ef
        have ba := DK.res_at ra
        have bb := DK.res_at rb
        have hxo := A.net.xo
        have hnf := A.net.nw false
        have hnt := A.net.nw true
        have r9' := r9
        have r11' := r11
        rw [← A.ids.1] at r9'
        rw [← A.ids.2] at r11'
        have hwf : (wf != wf) = false := by simp
        have hwt : (wtt != wtt) = false := by simp
        simp only [sx, x_box, x_alloc, x_bslice, x_slice, x_append, x_appz, x_b2s, xop, ev, evs, evParts, fillL, cellsL, Ai.get, Ai.put, stab, isNil?, if_false, if_true, addr?, int?, str?, agg?, bool?, shiftA, FnPost, xresL, xres1, tup, argEnv, ptr, Nat.reduceEqDiff, reduceIte, beq_self_eq_true, ne_eq, Nat.reduceAdd, Nat.reduceMul, Nat.reduceSub, abin_shl, abin_shr, load1V, loadV, storeV, cellsAt, getN, setN, allocV, lenL, lenS, bnd, oneC, Value.oneCell', Nat.reduceLeDiff, Nat.reduceLT, exists_eq_left', forall_const, reduceCtorEq, app_new, app_new0, List.append_assoc, Int.reduceToNat, Int.reduceLT, Int.reduceLE, Int.reduceEq, Int.reduceNe, Int.reduceBEq, IntKind.bits, bne_self_eq_false, Int.reducePow, r26, r7, r9', r15, hx', hxo, tw1, i01, i12, t1, hx0, hnt, ct, Nat.mul_one, Nat.zero_mul, Nat.zero_add]
        refine xcall (remote_ok (k := (x : Int)) (A.net.A false)) (by rfl) (by rfl) (by rfl) (by rfl) ?_
        rintro r g1 ⟨rfl, K1⟩
        have hxo1 := K1.get hxo
        have hnf1 := K1.get hnf
        have hnt1 := K1.get hnt
        have A1 := A.keep K1
        rw [ba]
        simp only [sx, x_box, x_alloc, x_bslice, x_slice, x_append, x_appz, x_b2s, xop, ev, evs, evParts, fillL, cellsL, Ai.get, Ai.put, stab, isNil?, if_false, if_true, addr?, int?, str?, agg?, bool?, shiftA, FnPost, xresL, xres1, tup, argEnv, ptr, Nat.reduceEqDiff, reduceIte, beq_self_eq_true, ne_eq, Nat.reduceAdd, Nat.reduceMul, Nat.reduceSub, abin_shl, abin_shr, load1V, loadV, storeV, cellsAt, getN, setN, allocV, lenL, lenS, bnd, oneC, Value.oneCell', Nat.reduceLeDiff, Nat.reduceLT, exists_eq_left', forall_const, reduceCtorEq, app_new, app_new0, List.append_assoc, Int.reduceToNat, Int.reduceLT, Int.reduceLE, Int.reduceEq, Int.reduceNe, Int.reduceBEq, IntKind.bits, bne_self_eq_false, Int.reducePow, r26, r7, r11', r15, hx', hxo1, tw0, tw1, i00, i02, i01, i12, t0, t1, hx0, hnf1, hnt1, cf, ct, hwt, Nat.mul_one, Nat.zero_mul, Nat.zero_add]
        refine xcall (remote_ok (k := (x : Int)) (A1.net.A true)) (by rfl) (by rfl) (by rfl) (by rfl) ?_
        rintro r g2 ⟨rfl, K2⟩
        have hxo2 := K2.get hxo1
        have hnf2 := K2.get hnf1
        rw [bb]
        simp only [sx, x_box, x_alloc, x_bslice, x_slice, x_append, x_appz, x_b2s, xop, ev, evs, evParts, fillL, cellsL, Ai.get, Ai.put, stab, isNil?, if_false, if_true, addr?, int?, str?, agg?, bool?, shiftA, FnPost, xresL, xres1, tup, argEnv, ptr, Nat.reduceEqDiff, reduceIte, beq_self_eq_true, ne_eq, Nat.reduceAdd, Nat.reduceMul, Nat.reduceSub, abin_shl, abin_shr, load1V, loadV, storeV, cellsAt, getN, setN, allocV, lenL, lenS, bnd, oneC, Value.oneCell', Nat.reduceLeDiff, Nat.reduceLT, exists_eq_left', forall_const, reduceCtorEq, app_new, app_new0, List.append_assoc, Int.reduceToNat, Int.reduceLT, Int.reduceLE, Int.reduceEq, Int.reduceNe, Int.reduceBEq, IntKind.bits, bne_self_eq_false, Int.reducePow, hxo2, tw0, i00, i02, t0, hnf2, cf, hwf, r26, wx, Nat.mul_one, Nat.zero_mul, Nat.zero_add]
        exact ⟨m - 1, by omega, x + 1, by omega, ⟨r7, r9, r11, r13, r14, r15⟩, rfl, A1.keep K2⟩
      · clear A r7 r9 r11 r13 r14 r15
        rintro ρ g ⟨⟨r7, r9, r11, r13, r14, r15⟩, A⟩
        have r9' := r9
        have r11' := r11
        rw [← A.ids.1] at r9'
        rw [← A.ids.2] at r11'
        simp only [sx, x_box, x_alloc, x_bslice, x_slice, x_append, x_appz, x_b2s, xop, ev, evs, evParts, fillL, cellsL, Ai.get, Ai.put, stab, isNil?, if_false, if_true, addr?, int?, str?, agg?, bool?, shiftA, FnPost, xresL, xres1, tup, argEnv, ptr, Nat.reduceEqDiff, reduceIte, beq_self_eq_true, ne_eq, Nat.reduceAdd, Nat.reduceMul, Nat.reduceSub, abin_shl, abin_shr, load1V, loadV, storeV, cellsAt, getN, setN, allocV, lenL, lenS, bnd, oneC, Value.oneCell', Nat.reduceLeDiff, Nat.reduceLT, exists_eq_left', forall_const, reduceCtorEq, app_new, app_new0, List.append_assoc, Int.reduceToNat, Int.reduceLT, Int.reduceLE, Int.reduceEq, Int.reduceNe, Int.reduceBEq, IntKind.bits, bne_self_eq_false, Int.reducePow, r9']
        refine xcall (rest_ok (A.net.A false)) (by rfl) (by rfl) (by rfl) (by rfl) ?_
        rintro r g' ⟨rfl, e0⟩
        subst e0
        rw [hop false]
        have h1 : (none : Option Ms).isNone = true := rfl
        simp only [sx, x_box, x_alloc, x_bslice, x_slice, x_append, x_appz, x_b2s, xop, ev, evs, evParts, fillL, cellsL, Ai.get, Ai.put, stab, isNil?, if_false, if_true, addr?, int?, str?, agg?, bool?, shiftA, FnPost, xresL, xres1, tup, argEnv, ptr, Nat.reduceEqDiff, reduceIte, beq_self_eq_true, ne_eq, Nat.reduceAdd, Nat.reduceMul, Nat.reduceSub, abin_shl, abin_shr, load1V, loadV, storeV, cellsAt, getN, setN, allocV, lenL, lenS, bnd, oneC, Value.oneCell', Nat.reduceLeDiff, Nat.reduceLT, exists_eq_left', forall_const, reduceCtorEq, app_new, app_new0, List.append_assoc, Int.reduceToNat, Int.reduceLT, Int.reduceLE, Int.reduceEq, Int.reduceNe, Int.reduceBEq, IntKind.bits, bne_self_eq_false, Int.reducePow, h1, r11']
        refine xcall (rest_ok (A.net.A true)) (by rfl) (by rfl) (by rfl) (by rfl) ?_
        rintro r g'' ⟨rfl, e0⟩
        subst e0
        rw [hop true]
        simp only [sx, x_box, x_alloc, x_bslice, x_slice, x_append, x_appz, x_b2s, xop, ev, evs, evParts, fillL, cellsL, Ai.get, Ai.put, stab, isNil?, if_false, if_true, addr?, int?, str?, agg?, bool?, shiftA, FnPost, xresL, xres1, tup, argEnv, ptr, Nat.reduceEqDiff, reduceIte, beq_self_eq_true, ne_eq, Nat.reduceAdd, Nat.reduceMul, Nat.reduceSub, abin_shl, abin_shr, load1V, loadV, storeV, cellsAt, getN, setN, allocV, lenL, lenS, bnd, oneC, Value.oneCell', Nat.reduceLeDiff, Nat.reduceLT, exists_eq_left', forall_const, reduceCtorEq, app_new, app_new0, List.append_assoc, Int.reduceToNat, Int.reduceLT, Int.reduceLE, Int.reduceEq, Int.reduceNe, Int.reduceBEq, IntKind.bits, bne_self_eq_false, Int.reducePow, h1]
        refine xcall (lives_ok _) (by rfl) (by rfl) (by rfl) (by rfl) ?_
        rintro r h' rfl
        simp only [sx, x_box, x_alloc, x_bslice, x_slice, x_append, x_appz, x_b2s, xop, ev, evs, evParts, fillL, cellsL, Ai.get, Ai.put, stab, isNil?, if_false, if_true, addr?, int?, str?, agg?, bool?, shiftA, FnPost, xresL, xres1, tup, argEnv, ptr, Nat.reduceEqDiff, reduceIte, beq_self_eq_true, ne_eq, Nat.reduceAdd, Nat.reduceMul, Nat.reduceSub, abin_shl, abin_shr, load1V, loadV, storeV, cellsAt, getN, setN, allocV, lenL, lenS, bnd, oneC, Value.oneCell', Nat.reduceLeDiff, Nat.reduceLT, exists_eq_left', forall_const, reduceCtorEq, app_new, app_new0, List.append_assoc, Int.reduceToNat, Int.reduceLT, Int.reduceLE, Int.reduceEq, Int.reduceNe, Int.reduceBEq, IntKind.bits, bne_self_eq_false, Int.reducePow]
end Go.Proofs.Ytejgaeinkojgpaa
