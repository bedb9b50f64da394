import Derived.Test.YtejgaeinkojgpaaK8
set_option linter.unusedVariables false
set_option linter.unusedSimpArgs false
namespace Go.Proofs.Ytejgaeinkojgpaa
open Go Go.Ai Go.Proofs

def ackM (s : Int) : Ms := ⟨2, s, 0, [], []⟩
def DK.ackd (d : DK) (s : Int) : DK := match d.op with
  | some x => if x.serial = s then DK.next { d with op := none } else d
  | none => d
def setM (m : Ms) (cs : List Ci) : Nat → List Ci
  | 0 => cs
  | i + 1 => if m.mask[i]? = some true then setC (setM m cs i) true (m.on[i]?.getD false) (m.first.toNat + i) else setM m cs i
theorem setM_len (m : Ms) (cs : List Ci) : ∀ i, (setM m cs i).length = cs.length
  | 0 => rfl
  | i + 1 => by unfold setM; split <;> simp [setC_len, setM_len m cs i]
def DK.got (d : DK) (m : Ms) : DK := if d.heard < m.serial then { d with heard := m.serial, cs := setM m d.cs m.mask.length } else d
def DK.heardS (d : DK) (m : Ms) : DK := { d.got m with out := d.out ++ [ackM m.serial] }
theorem DK.got_out (d : DK) (m : Ms) : (d.got m).out = d.out := by unfold DK.got; split <;> rfl
theorem DK.ackd_none (d : DK) (h : d.op = none) (s : Int) : d.ackd s = d := by cases d; cases h; rfl
theorem DK.ackd_some (d : DK) {x : Ms} (h : d.op = some x) (s : Int) : d.ackd s = if x.serial = s then DK.next { d with op := none } else d := by cases d; cases h; rfl
section
variable {h : AHeap} {D G L T : Nat} {d : DK} {opv outv : Value}
/-- what Hear answers, and what it leaves -/
def HearP (h : AHeap) (D G L T : Nat) (d : DK) (outv : Value) (m : Ms) (r : Value) (h' : AHeap) : Prop :=
  (¬ (m.Ok ∧ m.first + m.mask.length ≤ d.cs.length) ∧ r = .int .i64 1 ∧ WentD h h' D G L T d outv) ∨
  (m.Ok ∧ m.first + m.mask.length ≤ d.cs.length ∧ m.kind = 2 ∧ r = .int .i64 0 ∧ WentD h h' D G L T (d.ackd m.serial) outv) ∨
  (m.Ok ∧ m.first + m.mask.length ≤ d.cs.length ∧ m.kind = 1 ∧ r = .int .i64 0 ∧ WentD h h' D G L T (d.heardS m) outv)
def HrI (h0 : AHeap) (D G L T R : Nat) (d : DK) (opv outv : Value) (mq : Option Addr) (mc : Nat) (m : Ms) (f : Nat) (ρ : Env) (h : AHeap) : Prop := ∃ i, i + f = m.mask.length ∧ get ρ 69 = some (.int .i64 (i : Nat)) ∧ get ρ 68 = some (.int .i64 (m.mask.length : Nat)) ∧ get ρ 67 = some (.slice mq m.mask.length mc) ∧ get ρ 0 = some (.pointer (some ⟨D, 0, none⟩)) ∧ get ρ 3 = some (.pointer (some ⟨R, 0, none⟩)) ∧
  DAt h D G L T { d with heard := m.serial, cs := setM m d.cs i } opv outv ∧ Fr (· = L) h0 h
def HrM (h0 : AHeap) (D G L T R : Nat) (d : DK) (opv outv : Value) (m : Ms) (ρ : Env) (h : AHeap) : Prop := get ρ 0 = some (.pointer (some ⟨D, 0, none⟩)) ∧ get ρ 3 = some (.pointer (some ⟨R, 0, none⟩)) ∧ DAt h D G L T (d.got m) opv outv ∧ Fr (ftD D G L T outv) h0 h ∧ h[R]? = h0[R]?
theorem WentD.kp {g : AHeap} {d' : DK} (K : Kp h g) {h' : AHeap} (w : WentD g h' D G L T d' outv) : WentD h h' D G L T d' outv := by
  obtain ⟨opv', outv', A, F, n⟩ := w
  exact ⟨opv', outv', A, (K.fr _).trans F fun B h => .inl h, fun B hB => (n B hB).imp id fun h1 => by have := K.1; omega⟩
theorem WentD.fr {g : AHeap} {d' : DK} (K : Fr (ftD D G L T outv) h g) {h' : AHeap} (w : WentD g h' D G L T d' outv) : WentD h h' D G L T d' outv := by
  obtain ⟨opv', outv', A, F, n⟩ := w
  exact ⟨opv', outv', A, K.trans F fun B h => .inl h, fun B hB => (n B hB).imp id fun h1 => by have := K.1; omega⟩
set_option maxHeartbeats 8000000 in
set_option maxRecDepth 20000 in
theorem hear_ok {v : Value} {m : Ms} (A : DAt h D G L T d opv outv) (hm : MV h v m) (hn : m.mask.length ≤ 9223372036854775807) (hl : d.out.length < 100000) :
    Valid Try.prog 16 [.pointer (some ⟨D, 0, none⟩), v] h fun r h' => HearP h D G L T d outv m r h' := by
  refine v16 (by simp) ?_
  obtain ⟨mv, ov, rfl, M, O⟩ := hm
  obtain ⟨mq, mc, rfl⟩ := M.shape
  obtain ⟨oq, oc, rfl⟩ := O.shape
  simp only [X16, Ms.cells, sx, x_alloc, x_bslice, x_slice, x_append, x_appz, x_b2s, xop, ev, evs, evParts, fillL, cellsL, Ai.get, Ai.put, stab, isNil?, if_false, if_true, addr?, int?, str?, agg?, bool?, shiftA, FnPost, xresL, xres1, tup, argEnv, ptr, Nat.reduceEqDiff, reduceIte, beq_self_eq_true, ne_eq, Nat.reduceAdd, Nat.reduceMul, Nat.reduceSub, abin_shl, abin_shr, load1V, loadV, storeV, cellsAt, getN, setN, allocV, lenL, lenS, bnd, oneC, Value.oneCell', Nat.reduceLeDiff, Nat.reduceLT, exists_eq_left', forall_const, reduceCtorEq, app_new, app_new0, List.append_assoc, Int.reduceToNat, Int.reduceLT, Int.reduceLE, Int.reduceEq, Int.reduceNe, Int.reduceBEq, IntKind.bits, bne_self_eq_false, Int.reducePow]
  refine box_run rfl fun g1 R K1 hR hRl _ => ⟨trivial, ?_⟩
  simp only [cellsL] at hR
  have A1 := A.kp K1
  simp only [sx, x_box, x_alloc, x_bslice, x_slice, x_append, x_appz, x_b2s, xop, ev, evs, evParts, fillL, cellsL, Ai.get, Ai.put, stab, isNil?, if_false, if_true, addr?, int?, str?, agg?, bool?, shiftA, FnPost, xresL, xres1, tup, argEnv, ptr, Nat.reduceEqDiff, reduceIte, beq_self_eq_true, ne_eq, Nat.reduceAdd, Nat.reduceMul, Nat.reduceSub, abin_shl, abin_shr, load1V, loadV, storeV, cellsAt, getN, setN, allocV, lenL, lenS, bnd, oneC, Value.oneCell', Nat.reduceLeDiff, Nat.reduceLT, exists_eq_left', forall_const, reduceCtorEq, app_new, app_new0, List.append_assoc, Int.reduceToNat, Int.reduceLT, Int.reduceLE, Int.reduceEq, Int.reduceNe, Int.reduceBEq, IntKind.bits, bne_self_eq_false, Int.reducePow]
  refine xcall (none_ok A1) (by rfl) (by rfl) (by rfl) (by rfl) ?_
  rintro r g1' ⟨rfl, rfl⟩
  simp only [sx, x_box, x_alloc, x_bslice, x_slice, x_append, x_appz, x_b2s, xop, ev, evs, evParts, fillL, cellsL, Ai.get, Ai.put, stab, isNil?, if_false, if_true, addr?, int?, str?, agg?, bool?, shiftA, FnPost, xresL, xres1, tup, argEnv, ptr, Nat.reduceEqDiff, reduceIte, beq_self_eq_true, ne_eq, Nat.reduceAdd, Nat.reduceMul, Nat.reduceSub, abin_shl, abin_shr, load1V, loadV, storeV, cellsAt, getN, setN, allocV, lenL, lenS, bnd, oneC, Value.oneCell', Nat.reduceLeDiff, Nat.reduceLT, exists_eq_left', forall_const, reduceCtorEq, app_new, app_new0, List.append_assoc, Int.reduceToNat, Int.reduceLT, Int.reduceLE, Int.reduceEq, Int.reduceNe, Int.reduceBEq, IntKind.bits, bne_self_eq_false, Int.reducePow, hR]
  refine xcall (valid_ok (m := m) ⟨_, _, rfl, M.frz K1.frz, O.frz K1.frz⟩ hn) (by rfl) (by rfl) (by rfl) (by rfl) ?_
  rintro r g2 ⟨K2, b, rfl, hb⟩
  have A2 := A1.kp K2
  have hR2 := K2.get hR
  have K12 := K1.trans K2
  have M2 := M.frz K12.frz
  have O2 := O.frz K12.frz
  have hD2 := A2.obj
  simp only [DCells] at hD2
  cases b
  · simp only [sx, x_box, x_alloc, x_bslice, x_slice, x_append, x_appz, x_b2s, xop, ev, evs, evParts, fillL, cellsL, Ai.get, Ai.put, stab, isNil?, if_false, if_true, addr?, int?, str?, agg?, bool?, shiftA, FnPost, xresL, xres1, tup, argEnv, ptr, Nat.reduceEqDiff, reduceIte, beq_self_eq_true, ne_eq, Nat.reduceAdd, Nat.reduceMul, Nat.reduceSub, abin_shl, abin_shr, load1V, loadV, storeV, cellsAt, getN, setN, allocV, lenL, lenS, bnd, oneC, Value.oneCell', Nat.reduceLeDiff, Nat.reduceLT, exists_eq_left', forall_const, reduceCtorEq, app_new, app_new0, List.append_assoc, Int.reduceToNat, Int.reduceLT, Int.reduceLE, Int.reduceEq, Int.reduceNe, Int.reduceBEq, IntKind.bits, bne_self_eq_false, Int.reducePow]
    refine .inl ⟨fun h => ?_, rfl, A.same K12⟩
    have := hb.2 h.1; cases this
  have hok := hb.1 rfl
  have hbig := A.g.big
  have hfm : 0 ≤ m.first ∧ m.first + m.mask.length ≤ 256 ∧ m.mask.length ≤ 32 := by
    obtain ⟨-, -, -, ⟨-, h1, h2⟩ | ⟨-, -, h1, h2, h3, -⟩⟩ := hok <;> omega
  have hwf : IntKind.i64.wrap (m.first + (m.mask.length : Int)) = m.first + (m.mask.length : Int) := i64_wrap (by omega) (by omega)
  simp only [sx, x_box, x_alloc, x_bslice, x_slice, x_append, x_appz, x_b2s, xop, ev, evs, evParts, fillL, cellsL, Ai.get, Ai.put, stab, isNil?, if_false, if_true, addr?, int?, str?, agg?, bool?, shiftA, FnPost, xresL, xres1, tup, argEnv, ptr, Nat.reduceEqDiff, reduceIte, beq_self_eq_true, ne_eq, Nat.reduceAdd, Nat.reduceMul, Nat.reduceSub, abin_shl, abin_shr, load1V, loadV, storeV, cellsAt, getN, setN, allocV, lenL, lenS, bnd, oneC, Value.oneCell', Nat.reduceLeDiff, Nat.reduceLT, exists_eq_left', forall_const, reduceCtorEq, app_new, app_new0, List.append_assoc, Int.reduceToNat, Int.reduceLT, Int.reduceLE, Int.reduceEq, Int.reduceNe, Int.reduceBEq, IntKind.bits, bne_self_eq_false, Int.reducePow, hR2, hD2, hwf]
  refine xcall (size_ok A2.g) (by rfl) (by rfl) (by rfl) (by rfl) ?_
  rintro r g2' ⟨rfl, rfl⟩
  by_cases hsz : (d.cs.length : Int) < m.first + m.mask.length
  · simp only [sx, x_box, x_alloc, x_bslice, x_slice, x_append, x_appz, x_b2s, xop, ev, evs, evParts, fillL, cellsL, Ai.get, Ai.put, stab, isNil?, if_false, if_true, addr?, int?, str?, agg?, bool?, shiftA, FnPost, xresL, xres1, tup, argEnv, ptr, Nat.reduceEqDiff, reduceIte, beq_self_eq_true, ne_eq, Nat.reduceAdd, Nat.reduceMul, Nat.reduceSub, abin_shl, abin_shr, load1V, loadV, storeV, cellsAt, getN, setN, allocV, lenL, lenS, bnd, oneC, Value.oneCell', Nat.reduceLeDiff, Nat.reduceLT, exists_eq_left', forall_const, reduceCtorEq, app_new, app_new0, List.append_assoc, Int.reduceToNat, Int.reduceLT, Int.reduceLE, Int.reduceEq, Int.reduceNe, Int.reduceBEq, IntKind.bits, bne_self_eq_false, Int.reducePow, hR2, hsz]
    exact .inl ⟨fun h => by omega, rfl, A.same K12⟩
  have hsz' : m.first + m.mask.length ≤ d.cs.length := by omega
  have hRn : R ≠ D := by have := A.lt (i := 0) (B := D) (.inl ⟨rfl, rfl⟩); omega
  obtain ⟨hk, hs0, hlen, hrest⟩ := id hok
  rcases hk with hk | hk
  rotate_left
  · -- an Ack
    rcases Option.eq_none_or_eq_some d.op with hop | ⟨x, hop⟩
    · have ho := A2.op
      rw [hop] at ho
      unfold OpAt at ho
      subst ho
      simp only [sx, x_box, x_alloc, x_bslice, x_slice, x_append, x_appz, x_b2s, xop, ev, evs, evParts, fillL, cellsL, Ai.get, Ai.put, stab, isNil?, if_false, if_true, addr?, int?, str?, agg?, bool?, shiftA, FnPost, xresL, xres1, tup, argEnv, ptr, Nat.reduceEqDiff, reduceIte, beq_self_eq_true, ne_eq, Nat.reduceAdd, Nat.reduceMul, Nat.reduceSub, abin_shl, abin_shr, load1V, loadV, storeV, cellsAt, getN, setN, allocV, lenL, lenS, bnd, oneC, Value.oneCell', Nat.reduceLeDiff, Nat.reduceLT, exists_eq_left', forall_const, reduceCtorEq, app_new, app_new0, List.append_assoc, Int.reduceToNat, Int.reduceLT, Int.reduceLE, Int.reduceEq, Int.reduceNe, Int.reduceBEq, IntKind.bits, bne_self_eq_false, Int.reducePow, hR2, hsz, hk, hD2]
      exact .inr (.inl ⟨hok, hsz', hk, rfl, by rw [d.ackd_none hop]; exact A.same K12⟩)
    · have ho := A2.op
      rw [hop] at ho
      obtain ⟨X, xm, xo, rfl, hX, -, -⟩ := ho
      simp only [Ms.cells] at hX
      by_cases hsx : x.serial = m.serial
      · have A3 := A2.setD (d' := { d with op := none }) (opv' := .pointer none) (outv' := outv) rfl rfl rfl A2.out fun B h => h
        have F3 := A2.fset (some ⟨true, DCells G T { d with op := none } (.pointer none) outv⟩)
        simp only [DCells] at A3 F3
        simp only [sx, x_box, x_alloc, x_bslice, x_slice, x_append, x_appz, x_b2s, xop, ev, evs, evParts, fillL, cellsL, Ai.get, Ai.put, stab, isNil?, if_false, if_true, addr?, int?, str?, agg?, bool?, shiftA, FnPost, xresL, xres1, tup, argEnv, ptr, Nat.reduceEqDiff, reduceIte, beq_self_eq_true, ne_eq, Nat.reduceAdd, Nat.reduceMul, Nat.reduceSub, abin_shl, abin_shr, load1V, loadV, storeV, cellsAt, getN, setN, allocV, lenL, lenS, bnd, oneC, Value.oneCell', Nat.reduceLeDiff, Nat.reduceLT, exists_eq_left', forall_const, reduceCtorEq, app_new, app_new0, List.append_assoc, Int.reduceToNat, Int.reduceLT, Int.reduceLE, Int.reduceEq, Int.reduceNe, Int.reduceBEq, IntKind.bits, bne_self_eq_false, Int.reducePow, hR2, hsz, hk, hD2, hX, hsx, set_here]
        refine xcall (next_ok A3 hl) (by rfl) (by rfl) (by rfl) (by rfl) ?_
        rintro r h3 W
        simp only [sx, x_box, x_alloc, x_bslice, x_slice, x_append, x_appz, x_b2s, xop, ev, evs, evParts, fillL, cellsL, Ai.get, Ai.put, stab, isNil?, if_false, if_true, addr?, int?, str?, agg?, bool?, shiftA, FnPost, xresL, xres1, tup, argEnv, ptr, Nat.reduceEqDiff, reduceIte, beq_self_eq_true, ne_eq, Nat.reduceAdd, Nat.reduceMul, Nat.reduceSub, abin_shl, abin_shr, load1V, loadV, storeV, cellsAt, getN, setN, allocV, lenL, lenS, bnd, oneC, Value.oneCell', Nat.reduceLeDiff, Nat.reduceLT, exists_eq_left', forall_const, reduceCtorEq, app_new, app_new0, List.append_assoc, Int.reduceToNat, Int.reduceLT, Int.reduceLE, Int.reduceEq, Int.reduceNe, Int.reduceBEq, IntKind.bits, bne_self_eq_false, Int.reducePow]
        refine .inr (.inl ⟨hok, hsz', hk, rfl, ?_⟩)
        rw [d.ackd_some hop, if_pos hsx]
        exact (W.fr F3).kp K12
      · simp only [sx, x_box, x_alloc, x_bslice, x_slice, x_append, x_appz, x_b2s, xop, ev, evs, evParts, fillL, cellsL, Ai.get, Ai.put, stab, isNil?, if_false, if_true, addr?, int?, str?, agg?, bool?, shiftA, FnPost, xresL, xres1, tup, argEnv, ptr, Nat.reduceEqDiff, reduceIte, beq_self_eq_true, ne_eq, Nat.reduceAdd, Nat.reduceMul, Nat.reduceSub, abin_shl, abin_shr, load1V, loadV, storeV, cellsAt, getN, setN, allocV, lenL, lenS, bnd, oneC, Value.oneCell', Nat.reduceLeDiff, Nat.reduceLT, exists_eq_left', forall_const, reduceCtorEq, app_new, app_new0, List.append_assoc, Int.reduceToNat, Int.reduceLT, Int.reduceLE, Int.reduceEq, Int.reduceNe, Int.reduceBEq, IntKind.bits, bne_self_eq_false, Int.reducePow, hR2, hsz, hk, hD2, hX, hsx]
        refine .inr (.inl ⟨hok, hsz', hk, rfl, ?_⟩)
        rw [d.ackd_some hop, if_neg hsx]
        exact A.same K12
  have k2 : ¬ (1 : Int) = 2 := by decide
  simp only [sx, x_box, x_alloc, x_bslice, x_slice, x_append, x_appz, x_b2s, xop, ev, evs, evParts, fillL, cellsL, Ai.get, Ai.put, stab, isNil?, if_false, if_true, addr?, int?, str?, agg?, bool?, shiftA, FnPost, xresL, xres1, tup, argEnv, ptr, Nat.reduceEqDiff, reduceIte, beq_self_eq_true, ne_eq, Nat.reduceAdd, Nat.reduceMul, Nat.reduceSub, abin_shl, abin_shr, load1V, loadV, storeV, cellsAt, getN, setN, allocV, lenL, lenS, bnd, oneC, Value.oneCell', Nat.reduceLeDiff, Nat.reduceLT, exists_eq_left', forall_const, reduceCtorEq, app_new, app_new0, List.append_assoc, Int.reduceToNat, Int.reduceLT, Int.reduceLE, Int.reduceEq, Int.reduceNe, Int.reduceBEq, IntKind.bits, bne_self_eq_false, Int.reducePow, hR2, hsz, hk, k2, hD2]
  refine xcond_cut (HrM g2' D G L T R d opv outv m) ?_ ?_
  · by_cases hgt : d.heard < m.serial
    · have A3 := A2.setD' (d' := { d with heard := m.serial }) rfl rfl rfl rfl
      have F3 := A2.fset (some ⟨true, DCells G T { d with heard := m.serial } opv outv⟩)
      have z3 := frz_set A2.obj (some ⟨true, DCells G T { d with heard := m.serial } opv outv⟩)
      have hR3 : (g2'.set D (some ⟨true, DCells G T { d with heard := m.serial } opv outv⟩))[R]? = g2'[R]? := set_ne hRn.symm _
      have M3 := M2.frz z3
      have O3 := O2.frz z3
      simp only [DCells] at A3 F3 hR3 M3 O3
      simp only [sx, x_box, x_alloc, x_bslice, x_slice, x_append, x_appz, x_b2s, xop, ev, evs, evParts, fillL, cellsL, Ai.get, Ai.put, stab, isNil?, if_false, if_true, addr?, int?, str?, agg?, bool?, shiftA, FnPost, xresL, xres1, tup, argEnv, ptr, Nat.reduceEqDiff, reduceIte, beq_self_eq_true, ne_eq, Nat.reduceAdd, Nat.reduceMul, Nat.reduceSub, abin_shl, abin_shr, load1V, loadV, storeV, cellsAt, getN, setN, allocV, lenL, lenS, bnd, oneC, Value.oneCell', Nat.reduceLeDiff, Nat.reduceLT, exists_eq_left', forall_const, reduceCtorEq, app_new, app_new0, List.append_assoc, Int.reduceToNat, Int.reduceLT, Int.reduceLE, Int.reduceEq, Int.reduceNe, Int.reduceBEq, IntKind.bits, bne_self_eq_false, Int.reducePow, hgt, hR2, hD2, set_here, set_far hRn.symm]
      generalize (g2'.set D (some (AObj.mk true [Value.pointer (some ⟨G, 0, none⟩), .int .i64 d.again, .int .i64 d.age, .slice (some ⟨T, 0, none⟩) d.cs.length d.cs.length, .int .u32 d.last, .int .u32 m.serial, opv, outv]))) = g3 at *
      have hgot : d.got m = { d with heard := m.serial, cs := setM m d.cs m.mask.length } := by unfold DK.got; rw [if_pos hgt]
      have hLl := A.lt (i := 2) (B := L) (.inr (.inr (.inl ⟨rfl, rfl⟩)))
      have hR3' := hR3.trans hR2
      refine xloop_cut (fun ρ h' => get ρ 0 = some (.pointer (some ⟨D, 0, none⟩)) ∧ get ρ 3 = some (.pointer (some ⟨R, 0, none⟩)) ∧ DAt h' D G L T { d with heard := m.serial, cs := setM m d.cs m.mask.length } opv outv ∧ Fr (· = L) g3 h') ?_ ?_
      · refine xcode_loop (HrI g3 D G L T R d opv outv mq mc m) m.mask.length ⟨0, by omega, rfl, rfl, rfl, rfl, rfl, A3, Fr.refl _ _⟩ ?_
        rintro f ρ h4 ⟨i, hif, g69, g68, g67, g0, g3', A4, F4⟩
        by_cases hlt : i < m.mask.length
        · have hlt' : (i : Int) < m.mask.length := by omega
          have hlo : (i : Int) < m.on.length := by omega
          have hge : (0 : Int) ≤ i := by omega
          have hwi : IntKind.i64.wrap ((i : Int) + 1) = ((i + 1 : Nat) : Int) := by rw [i64_wrap] <;> omega
          have hwfi : IntKind.i64.wrap (m.first + (i : Int)) = m.first + (i : Int) := i64_wrap (by omega) (by omega)
          have z4 : Frz g3 h4 := F4.frz fun B cs hB e => by subst hB; rw [A3.g.row] at e; cases e
          have M4 := M3.frz z4
          have O4 := O3.frz z4
          have em := List.getElem?_eq_getElem hlt
          have eo := List.getElem?_eq_getElem (l := m.on) (i := i) (by omega)
          generalize m.mask[i] = y at em
          generalize m.on[i]'(by omega) = x at eo
          obtain ⟨-, a, cs1, rfl, a1, a2, a3⟩ := M4.elem em
          obtain ⟨-, b, cs2, rfl, b1, b2, b3⟩ := O4.elem eo
          have hR4 : h4[R]? = _ := (F4.2 R (lt_of_get hR3') (show R ≠ L by omega)).trans hR3'
          have hD4 := A4.obj
          simp only [DCells] at hD4
          cases y
          · simp only [sx, x_box, x_alloc, x_bslice, x_slice, x_append, x_appz, x_b2s, xop, ev, evs, evParts, fillL, cellsL, Ai.get, Ai.put, stab, isNil?, if_false, if_true, addr?, int?, str?, agg?, bool?, shiftA, FnPost, xresL, xres1, tup, argEnv, ptr, Nat.reduceEqDiff, reduceIte, beq_self_eq_true, ne_eq, Nat.reduceAdd, Nat.reduceMul, Nat.reduceSub, abin_shl, abin_shr, load1V, loadV, storeV, cellsAt, getN, setN, allocV, lenL, lenS, bnd, oneC, Value.oneCell', Nat.reduceLeDiff, Nat.reduceLT, exists_eq_left', forall_const, reduceCtorEq, app_new, app_new0, List.append_assoc, Int.reduceToNat, Int.reduceLT, Int.reduceLE, Int.reduceEq, Int.reduceNe, Int.reduceBEq, IntKind.bits, bne_self_eq_false, Int.reducePow, g69, g68, g67, g0, g3', hlt', hge, a1, a2, a3, Nat.mul_one, hwi]
            refine ⟨f - 1, by omega, i + 1, by omega, rfl, g68, g67, g0, g3', ?_, F4⟩
            have : setM m d.cs (i + 1) = setM m d.cs i := by rw [setM, em]; rfl
            rw [this]; exact A4
          · simp only [sx, x_box, x_alloc, x_bslice, x_slice, x_append, x_appz, x_b2s, xop, ev, evs, evParts, fillL, cellsL, Ai.get, Ai.put, stab, isNil?, if_false, if_true, addr?, int?, str?, agg?, bool?, shiftA, FnPost, xresL, xres1, tup, argEnv, ptr, Nat.reduceEqDiff, reduceIte, beq_self_eq_true, ne_eq, Nat.reduceAdd, Nat.reduceMul, Nat.reduceSub, abin_shl, abin_shr, load1V, loadV, storeV, cellsAt, getN, setN, allocV, lenL, lenS, bnd, oneC, Value.oneCell', Nat.reduceLeDiff, Nat.reduceLT, exists_eq_left', forall_const, reduceCtorEq, app_new, app_new0, List.append_assoc, Int.reduceToNat, Int.reduceLT, Int.reduceLE, Int.reduceEq, Int.reduceNe, Int.reduceBEq, IntKind.bits, bne_self_eq_false, Int.reducePow, g69, g68, g67, g0, g3', hlt', hlo, hge, a1, a2, a3, b1, b2, b3, hR4, hD4, Nat.mul_one, hwfi]
            refine xcall (A4.gset (z := m.first + i) (r := true) (on := x) (by simp only [inR, setM_len, decide_eq_true_eq]; omega)) (by rfl) (by rfl) (by rfl) (by rfl) ?_
            rintro r h5 ⟨rfl, A5, F5⟩
            simp only [sx, x_box, x_alloc, x_bslice, x_slice, x_append, x_appz, x_b2s, xop, ev, evs, evParts, fillL, cellsL, Ai.get, Ai.put, stab, isNil?, if_false, if_true, addr?, int?, str?, agg?, bool?, shiftA, FnPost, xresL, xres1, tup, argEnv, ptr, Nat.reduceEqDiff, reduceIte, beq_self_eq_true, ne_eq, Nat.reduceAdd, Nat.reduceMul, Nat.reduceSub, abin_shl, abin_shr, load1V, loadV, storeV, cellsAt, getN, setN, allocV, lenL, lenS, bnd, oneC, Value.oneCell', Nat.reduceLeDiff, Nat.reduceLT, exists_eq_left', forall_const, reduceCtorEq, app_new, app_new0, List.append_assoc, Int.reduceToNat, Int.reduceLT, Int.reduceLE, Int.reduceEq, Int.reduceNe, Int.reduceBEq, IntKind.bits, bne_self_eq_false, Int.reducePow, g69, g68, g67, g0, g3', hwi]
            refine ⟨f - 1, by omega, i + 1, by omega, rfl, g68, g67, g0, g3', ?_, F4.trans F5 fun B h => .inl h⟩
            have : setM m d.cs (i + 1) = setC (setM m d.cs i) true x (m.first + i).toNat := by
              rw [setM, em, if_pos rfl, eo]
              congr 1
              omega
            rw [this]; exact A5
        · have hlt' : ¬ (i : Int) < m.mask.length := by omega
          have : i = m.mask.length := by omega
          subst this
          simp only [sx, x_box, x_alloc, x_bslice, x_slice, x_append, x_appz, x_b2s, xop, ev, evs, evParts, fillL, cellsL, Ai.get, Ai.put, stab, isNil?, if_false, if_true, addr?, int?, str?, agg?, bool?, shiftA, FnPost, xresL, xres1, tup, argEnv, ptr, Nat.reduceEqDiff, reduceIte, beq_self_eq_true, ne_eq, Nat.reduceAdd, Nat.reduceMul, Nat.reduceSub, abin_shl, abin_shr, load1V, loadV, storeV, cellsAt, getN, setN, allocV, lenL, lenS, bnd, oneC, Value.oneCell', Nat.reduceLeDiff, Nat.reduceLT, exists_eq_left', forall_const, reduceCtorEq, app_new, app_new0, List.append_assoc, Int.reduceToNat, Int.reduceLT, Int.reduceLE, Int.reduceEq, Int.reduceNe, Int.reduceBEq, IntKind.bits, bne_self_eq_false, Int.reducePow, g69, g68, g67, g0, g3', hlt']
          exact ⟨A4, F4⟩
      · rintro ρ h4 ⟨g0, g3', A4, F4⟩
        simp only [sx, x_box, x_alloc, x_bslice, x_slice, x_append, x_appz, x_b2s, xop, ev, evs, evParts, fillL, cellsL, Ai.get, Ai.put, stab, isNil?, if_false, if_true, addr?, int?, str?, agg?, bool?, shiftA, FnPost, xresL, xres1, tup, argEnv, ptr, Nat.reduceEqDiff, reduceIte, beq_self_eq_true, ne_eq, Nat.reduceAdd, Nat.reduceMul, Nat.reduceSub, abin_shl, abin_shr, load1V, loadV, storeV, cellsAt, getN, setN, allocV, lenL, lenS, bnd, oneC, Value.oneCell', Nat.reduceLeDiff, Nat.reduceLT, exists_eq_left', forall_const, reduceCtorEq, app_new, app_new0, List.append_assoc, Int.reduceToNat, Int.reduceLT, Int.reduceLE, Int.reduceEq, Int.reduceNe, Int.reduceBEq, IntKind.bits, bne_self_eq_false, Int.reducePow]
        refine ⟨g0, g3', by rw [hgot]; exact A4, F3.trans ⟨F4.1, fun B hB hn => F4.2 B hB fun e => hn ⟨2, .inr (.inr (.inl ⟨rfl, e⟩))⟩⟩ fun B h => .inl h, ?_⟩
        rw [F4.2 R (lt_of_get hR3') (show R ≠ L by omega)]; exact hR3
    · have hgot : d.got m = d := by unfold DK.got; rw [if_neg hgt]
      simp only [sx, x_box, x_alloc, x_bslice, x_slice, x_append, x_appz, x_b2s, xop, ev, evs, evParts, fillL, cellsL, Ai.get, Ai.put, stab, isNil?, if_false, if_true, addr?, int?, str?, agg?, bool?, shiftA, FnPost, xresL, xres1, tup, argEnv, ptr, Nat.reduceEqDiff, reduceIte, beq_self_eq_true, ne_eq, Nat.reduceAdd, Nat.reduceMul, Nat.reduceSub, abin_shl, abin_shr, load1V, loadV, storeV, cellsAt, getN, setN, allocV, lenL, lenS, bnd, oneC, Value.oneCell', Nat.reduceLeDiff, Nat.reduceLT, exists_eq_left', forall_const, reduceCtorEq, app_new, app_new0, List.append_assoc, Int.reduceToNat, Int.reduceLT, Int.reduceLE, Int.reduceEq, Int.reduceNe, Int.reduceBEq, IntKind.bits, bne_self_eq_false, Int.reducePow, hgt]
      exact ⟨rfl, rfl, by rw [hgot]; exact A2, Fr.refl _ _, rfl⟩
  · rintro ρ h4 ⟨g0, g3', A4, F4, hR4⟩
    have hR4' := hR4.trans hR2
    simp only [sx, x_box, x_alloc, x_bslice, x_slice, x_append, x_appz, x_b2s, xop, ev, evs, evParts, fillL, cellsL, Ai.get, Ai.put, stab, isNil?, if_false, if_true, addr?, int?, str?, agg?, bool?, shiftA, FnPost, xresL, xres1, tup, argEnv, ptr, Nat.reduceEqDiff, reduceIte, beq_self_eq_true, ne_eq, Nat.reduceAdd, Nat.reduceMul, Nat.reduceSub, abin_shl, abin_shr, load1V, loadV, storeV, cellsAt, getN, setN, allocV, lenL, lenS, bnd, oneC, Value.oneCell', Nat.reduceLeDiff, Nat.reduceLT, exists_eq_left', forall_const, reduceCtorEq, app_new, app_new0, List.append_assoc, Int.reduceToNat, Int.reduceLT, Int.reduceLE, Int.reduceEq, Int.reduceNe, Int.reduceBEq, IntKind.bits, bne_self_eq_false, Int.reducePow, g0, g3', hR4']
    refine xcall (send_ok A4 (m := ackM m.serial) ⟨.slice none 0 0, .slice none 0 0, rfl, BitsV.nil _, BitsV.nil _⟩ (by simp [ackM]) (by simp [ackM]) (by rw [d.got_out]; exact hl)) (by rfl) (by rfl) (by rfl) (by rfl) ?_
    rintro r h5 W
    simp only [sx, x_box, x_alloc, x_bslice, x_slice, x_append, x_appz, x_b2s, xop, ev, evs, evParts, fillL, cellsL, Ai.get, Ai.put, stab, isNil?, if_false, if_true, addr?, int?, str?, agg?, bool?, shiftA, FnPost, xresL, xres1, tup, argEnv, ptr, Nat.reduceEqDiff, reduceIte, beq_self_eq_true, ne_eq, Nat.reduceAdd, Nat.reduceMul, Nat.reduceSub, abin_shl, abin_shr, load1V, loadV, storeV, cellsAt, getN, setN, allocV, lenL, lenS, bnd, oneC, Value.oneCell', Nat.reduceLeDiff, Nat.reduceLT, exists_eq_left', forall_const, reduceCtorEq, app_new, app_new0, List.append_assoc, Int.reduceToNat, Int.reduceLT, Int.reduceLE, Int.reduceEq, Int.reduceNe, Int.reduceBEq, IntKind.bits, bne_self_eq_false, Int.reducePow]
    refine .inr (.inr ⟨hok, hsz', hk, rfl, ?_⟩)
    have := (W.fr F4).kp K12
    rw [d.got_out] at this
    exact this
end
end Go.Proofs.Ytejgaeinkojgpaa
