import Derived.Test.YtejgaeinkojgpaaK3
set_option linter.unusedVariables false
set_option linter.unusedSimpArgs false
namespace Go.Proofs.Ytejgaeinkojgpaa
open Go Go.Ai Go.Proofs

theorem frz_set {h : AHeap} {X : Nat} {c : List Value} (hX : h[X]? = some (some ⟨true, c⟩)) (o : Option AObj) : Frz h (h.set X o) := fun B cs hB => by
  rw [set_ne (fun e1 => by rw [← e1, hX] at hB; cases hB)]; exact hB
section
variable {h : AHeap} {D G L T : Nat} {d : DK} {opv outv : Value}
/-- numbers, the open message, the list turn -/
theorem DAt.setD (A : DAt h D G L T d opv outv) {d' : DK} {opv' outv' : Value} (hc : d'.cs = d.cs) (ht : d'.told = d.told) (ho : OpAt h opv' d'.op) (hq : MQ h outv' d'.out) (hs : ∀ B, slB outv' = some B → slB outv = some B) : DAt (h.set D (some ⟨true, DCells G T d' opv' outv'⟩)) D G L T d' opv' outv' := by
  have z := frz_set A.obj (some ⟨true, DCells G T d' opv' outv'⟩)
  have hk : ∀ i B, FD D G L T outv i B → i ≠ 0 → (h.set D (some ⟨true, DCells G T d' opv' outv'⟩))[B]? = h[B]? := fun i B hB h0 => set_ne (fun e => h0 (A.s i 0 B hB (.inl ⟨rfl, e.symm⟩))) _
  have tr : ∀ i B, FD D G L T outv' i B → FD D G L T outv i B := by
    rintro i B (hi | hi | hi | hi | ⟨h4, hi⟩)
    · exact .inl hi
    · exact .inr (.inl hi)
    · exact .inr (.inr (.inl hi))
    · exact .inr (.inr (.inr (.inl hi)))
    · exact .inr (.inr (.inr (.inr ⟨h4, hs B hi⟩)))
  refine ⟨set_same A.obj _, ?_, ?_, ?_, ho.frz z, hq.keep z fun B hB => hk 4 B (.inr (.inr (.inr (.inr ⟨rfl, hs B hB⟩)))) (by decide), fun i j B h1 h2 => A.s i j B (tr i B h1) (tr j B h2)⟩
  · rw [hc]; exact A.g.keep (hk 1 G (.inr (.inl ⟨rfl, rfl⟩)) (by decide)) (hk 2 L (.inr (.inr (.inl ⟨rfl, rfl⟩))) (by decide))
  · rw [hk 3 T (.inr (.inr (.inr (.inl ⟨rfl, rfl⟩)))) (by decide), ht]; exact A.t
  · rw [ht, hc]; exact A.tl
theorem DAt.setD' (A : DAt h D G L T d opv outv) {d' : DK} (hc : d'.cs = d.cs) (ht : d'.told = d.told) (ho : d'.op = d.op) (hq : d'.out = d.out) : DAt (h.set D (some ⟨true, DCells G T d' opv outv⟩)) D G L T d' opv outv :=
  A.setD hc ht (by rw [ho]; exact A.op) (by rw [hq]; exact A.out) fun B h => h
theorem DAt.fset (A : DAt h D G L T d opv outv) (o : Option AObj) : Fr (ftD D G L T outv) h (h.set D o) := Fr.set o ⟨0, .inl ⟨rfl, rfl⟩⟩
/-- a list of messages, as long as its room -/
def MsgL (h : AHeap) (r : Value) (ms : List Ms) : Prop := ∃ q cells, r = .slice q ms.length ms.length ∧ firstV 5 h ms.length r = some cells ∧ MsgsR h cells ms
theorem MQ.clip {h : AHeap} {v : Value} {ms : List Ms} (q : MQ h v ms) (hl : ms.length < 1000000) : ∃ a, (∃ cells, firstV 5 h ms.length (.slice a ms.length ms.length) = some cells ∧ MsgsR h cells ms) ∧ (∀ x, a = some x → slB v = some x.block) ∧ ∀ (ρ : Env) (x hi mx : XA), ev ρ x = some v → ev ρ hi = some (.int .i64 (ms.length : Nat)) → ev ρ mx = some (.int .i64 (ms.length : Nat)) → xop (.slice 5 x none (some hi) (some mx)) ρ h = some (.slice a ms.length ms.length, h) := by
  obtain ⟨cells, R, M⟩ := q
  have hf := R.toO.first
  obtain ⟨hl', ⟨h1, h2⟩ | ⟨X, off, cs, h1, hX, hg⟩⟩ := R
  · subst h1
    have : ms = [] := List.eq_nil_of_length_eq_zero h2
    subst this
    have hu : ¬ unk ≤ 0 := by decide
    refine ⟨none, ⟨cells, hf, M⟩, by simp, fun ρ x hi mx e1 e2 e3 => ?_⟩
    simp [xop, e1, e2, e3, bnd, int?, hu]
  · subst h1
    refine ⟨some ⟨X, off, none⟩, ⟨cells, by simpa only [firstV] using hf, M⟩, fun x hx => by cases hx; rfl, fun ρ x hi mx e1 e2 e3 => ?_⟩
    have hu : unk ≤ unk + 5 := by omega
    have hu2 : ¬ unk ≤ ms.length := by unfold unk; omega
    by_cases h0 : ms.length = 0
    · simp [xop, e1, e2, e3, bnd, int?, hu, hu2, h0, unk, shiftA]
    · simp [xop, e1, e2, e3, bnd, int?, hu, hu2, h0, shiftA]
theorem clipM_ok {v : Value} {ms : List Ms} (q : MQ h v ms) (hl : ms.length < 1000000) : Valid Try.prog 33 [v] h fun r h' => h' = h ∧ ∃ a, r = .slice a ms.length ms.length ∧ (∃ cells, firstV 5 h ms.length r = some cells ∧ MsgsR h cells ms) ∧ ∀ x, a = some x → slB v = some x.block := by
  refine v33 (by simp) ?_
  obtain ⟨a, f, hs, hx⟩ := q.clip hl
  obtain ⟨a', c', hv⟩ : ∃ a c, v = .slice a ms.length c := by
    obtain ⟨_, R, _⟩ := q
    obtain ⟨_, ⟨h1, h2⟩ | ⟨X, off, cs, h1, _, _⟩⟩ := R
    · exact ⟨none, 0, by rw [h1, h2]⟩
    · exact ⟨_, _, h1⟩
  subst hv
  simp only [X33, sx, x_box, x_alloc, x_bslice, x_append, x_appz, x_b2s, xop, ev, evs, evParts, fillL, cellsL, Ai.get, Ai.put, stab, isNil?, if_false, if_true, addr?, int?, str?, agg?, bool?, shiftA, FnPost, xresL, xres1, tup, argEnv, ptr, Nat.reduceEqDiff, reduceIte, beq_self_eq_true, ne_eq, Nat.reduceAdd, Nat.reduceMul, Nat.reduceSub, abin_shl, abin_shr, load1V, loadV, storeV, cellsAt, getN, setN, allocV, lenL, lenS, bnd, oneC, Value.oneCell', Nat.reduceLeDiff, Nat.reduceLT, exists_eq_left', forall_const, reduceCtorEq, app_new, app_new0, List.append_assoc, Int.reduceToNat, Int.reduceLT, Int.reduceLE, Int.reduceEq, Int.reduceNe, Int.reduceBEq, IntKind.bits, bne_self_eq_false, Int.reducePow]
  rw [x_slice, hx _ _ _ _ rfl rfl rfl]
  simp only [sx, x_box, x_alloc, x_bslice, x_slice, x_append, x_appz, x_b2s, xop, ev, evs, evParts, fillL, cellsL, Ai.get, Ai.put, stab, isNil?, if_false, if_true, addr?, int?, str?, agg?, bool?, shiftA, FnPost, xresL, xres1, tup, argEnv, ptr, Nat.reduceEqDiff, reduceIte, beq_self_eq_true, ne_eq, Nat.reduceAdd, Nat.reduceMul, Nat.reduceSub, abin_shl, abin_shr, load1V, loadV, storeV, cellsAt, getN, setN, allocV, lenL, lenS, bnd, oneC, Value.oneCell', Nat.reduceLeDiff, Nat.reduceLT, exists_eq_left', forall_const, reduceCtorEq, app_new, app_new0, List.append_assoc, Int.reduceToNat, Int.reduceLT, Int.reduceLE, Int.reduceEq, Int.reduceNe, Int.reduceBEq, IntKind.bits, bne_self_eq_false, Int.reducePow]
  exact ⟨a, rfl, f, hs⟩
theorem take_ok (A : DAt h D G L T d opv outv) (hl : d.out.length < 1000000) : Valid Try.prog 13 [.pointer (some ⟨D, 0, none⟩)] h fun r h' => MsgL h' r d.out ∧ DAt h' D G L T { d with out := [] } opv (.slice none 0 0) ∧ h'.length = h.length ∧ (∀ B, B ≠ D → h'[B]? = h[B]?) ∧ ∀ a n c, r = .slice (some a) n c → slB outv = some a.block := by
  refine v13 (by simp) ?_
  have hD := A.obj
  simp only [DCells] at hD
  simp only [X13, sx, x_box, x_alloc, x_bslice, x_slice, x_append, x_appz, x_b2s, xop, ev, evs, evParts, fillL, cellsL, Ai.get, Ai.put, stab, isNil?, if_false, if_true, addr?, int?, str?, agg?, bool?, shiftA, FnPost, xresL, xres1, tup, argEnv, ptr, Nat.reduceEqDiff, reduceIte, beq_self_eq_true, ne_eq, Nat.reduceAdd, Nat.reduceMul, Nat.reduceSub, abin_shl, abin_shr, load1V, loadV, storeV, cellsAt, getN, setN, allocV, lenL, lenS, bnd, oneC, Value.oneCell', Nat.reduceLeDiff, Nat.reduceLT, exists_eq_left', forall_const, reduceCtorEq, app_new, app_new0, List.append_assoc, Int.reduceToNat, Int.reduceLT, Int.reduceLE, Int.reduceEq, Int.reduceNe, Int.reduceBEq, IntKind.bits, bne_self_eq_false, Int.reducePow]
  refine xcall (none_ok A) (by rfl) (by rfl) (by rfl) (by rfl) ?_
  rintro r h' ⟨rfl, rfl⟩
  simp only [sx, x_box, x_alloc, x_bslice, x_slice, x_append, x_appz, x_b2s, xop, ev, evs, evParts, fillL, cellsL, Ai.get, Ai.put, stab, isNil?, if_false, if_true, addr?, int?, str?, agg?, bool?, shiftA, FnPost, xresL, xres1, tup, argEnv, ptr, Nat.reduceEqDiff, reduceIte, beq_self_eq_true, ne_eq, Nat.reduceAdd, Nat.reduceMul, Nat.reduceSub, abin_shl, abin_shr, load1V, loadV, storeV, cellsAt, getN, setN, allocV, lenL, lenS, bnd, oneC, Value.oneCell', Nat.reduceLeDiff, Nat.reduceLT, exists_eq_left', forall_const, reduceCtorEq, app_new, app_new0, List.append_assoc, Int.reduceToNat, Int.reduceLT, Int.reduceLE, Int.reduceEq, Int.reduceNe, Int.reduceBEq, IntKind.bits, bne_self_eq_false, Int.reducePow, hD]
  refine xcall (clipM_ok A.out hl) (by rfl) (by rfl) (by rfl) (by rfl) ?_
  rintro r h' ⟨rfl, q, rfl, ⟨cells, hf, M⟩, hq⟩
  simp only [sx, x_box, x_alloc, x_bslice, x_slice, x_append, x_appz, x_b2s, xop, ev, evs, evParts, fillL, cellsL, Ai.get, Ai.put, stab, isNil?, if_false, if_true, addr?, int?, str?, agg?, bool?, shiftA, FnPost, xresL, xres1, tup, argEnv, ptr, Nat.reduceEqDiff, reduceIte, beq_self_eq_true, ne_eq, Nat.reduceAdd, Nat.reduceMul, Nat.reduceSub, abin_shl, abin_shr, load1V, loadV, storeV, cellsAt, getN, setN, allocV, lenL, lenS, bnd, oneC, Value.oneCell', Nat.reduceLeDiff, Nat.reduceLT, exists_eq_left', forall_const, reduceCtorEq, app_new, app_new0, List.append_assoc, Int.reduceToNat, Int.reduceLT, Int.reduceLE, Int.reduceEq, Int.reduceNe, Int.reduceBEq, IntKind.bits, bne_self_eq_false, Int.reducePow, hD]
  have hdo : slB outv ≠ some D := fun e => by have := A.s 0 4 D (.inl ⟨rfl, rfl⟩) (.inr (.inr (.inr (.inr ⟨rfl, e⟩)))); cases this
  have z := frz_set A.obj (some ⟨true, DCells G T { d with out := [] } opv (.slice none 0 0)⟩)
  refine ⟨⟨q, cells, rfl, ?_, M.frz z⟩, A.setD (d' := { d with out := [] }) (opv' := opv) (outv' := .slice none 0 0) rfl rfl A.op (MQ.nil _) (by simp [slB]), fun B hB => set_ne (fun e => hB e.symm) _, fun a n c e => by cases e; exact hq a rfl⟩
  cases q with
  | none => exact hf
  | some a => simpa only [firstV, cellsAt, set_ne (show D ≠ a.block from fun e => hdo (by rw [e]; exact hq a rfl))] using hf
/-- Tick -/
def DK.tick (d : DK) : DK := match d.op with
  | none => d
  | some m => if d.again ≤ IntKind.i64.wrap (d.age + 1) then { d with age := 0, out := d.out ++ [m] } else { d with age := IntKind.i64.wrap (d.age + 1) }
theorem DK.tick_none (d : DK) (h : d.op = none) : d.tick = d := by cases d; cases h; rfl
theorem DK.tick_some (d : DK) {m : Ms} (h : d.op = some m) : d.tick = if d.again ≤ IntKind.i64.wrap (d.age + 1) then { d with age := 0, out := d.out ++ [m] } else { d with age := IntKind.i64.wrap (d.age + 1) } := by cases d; cases h; rfl
theorem tick_ok (A : DAt h D G L T d opv outv) (hl : d.out.length < 100000) (hm : ∀ m, d.op = some m → m.mask.length ≤ 1000000 ∧ m.on.length ≤ 1000000) : Valid Try.prog 21 [.pointer (some ⟨D, 0, none⟩)] h fun r h' => WentD h h' D G L T d.tick outv := by
  refine v21 (by simp) ?_
  have hD := A.obj
  have ho := A.op
  simp only [DCells] at hD
  simp only [X21, sx, x_box, x_alloc, x_bslice, x_slice, x_append, x_appz, x_b2s, xop, ev, evs, evParts, fillL, cellsL, Ai.get, Ai.put, stab, isNil?, if_false, if_true, addr?, int?, str?, agg?, bool?, shiftA, FnPost, xresL, xres1, tup, argEnv, ptr, Nat.reduceEqDiff, reduceIte, beq_self_eq_true, ne_eq, Nat.reduceAdd, Nat.reduceMul, Nat.reduceSub, abin_shl, abin_shr, load1V, loadV, storeV, cellsAt, getN, setN, allocV, lenL, lenS, bnd, oneC, Value.oneCell', Nat.reduceLeDiff, Nat.reduceLT, exists_eq_left', forall_const, reduceCtorEq, app_new, app_new0, List.append_assoc, Int.reduceToNat, Int.reduceLT, Int.reduceLE, Int.reduceEq, Int.reduceNe, Int.reduceBEq, IntKind.bits, bne_self_eq_false, Int.reducePow]
  refine xcall (none_ok A) (by rfl) (by rfl) (by rfl) (by rfl) ?_
  rintro r h' ⟨rfl, rfl⟩
  rcases Option.eq_none_or_eq_some d.op with hop | ⟨m, hop⟩
  · rw [hop] at ho
    unfold OpAt at ho
    subst ho
    rw [d.tick_none hop]
    simp only [sx, x_box, x_alloc, x_bslice, x_slice, x_append, x_appz, x_b2s, xop, ev, evs, evParts, fillL, cellsL, Ai.get, Ai.put, stab, isNil?, if_false, if_true, addr?, int?, str?, agg?, bool?, shiftA, FnPost, xresL, xres1, tup, argEnv, ptr, Nat.reduceEqDiff, reduceIte, beq_self_eq_true, ne_eq, Nat.reduceAdd, Nat.reduceMul, Nat.reduceSub, abin_shl, abin_shr, load1V, loadV, storeV, cellsAt, getN, setN, allocV, lenL, lenS, bnd, oneC, Value.oneCell', Nat.reduceLeDiff, Nat.reduceLT, exists_eq_left', forall_const, reduceCtorEq, app_new, app_new0, List.append_assoc, Int.reduceToNat, Int.reduceLT, Int.reduceLE, Int.reduceEq, Int.reduceNe, Int.reduceBEq, IntKind.bits, bne_self_eq_false, Int.reducePow, hD]
    exact A.same (Kp.refl _)
  · rw [hop] at ho
    rw [d.tick_some hop]
    obtain ⟨O, mv, ov, rfl, hO, M, N⟩ := ho
    obtain ⟨m1, m2⟩ := hm m hop
    have hOD : D ≠ O := fun e => by rw [← e, A.obj] at hO; cases hO
    by_cases hag : d.again ≤ IntKind.i64.wrap (d.age + 1)
    · have A1 := A.setD' (d' := { d with age := 0 }) rfl rfl rfl rfl
      have z1 := frz_set A.obj (some ⟨true, DCells G T { d with age := 0 } (.pointer (some ⟨O, 0, none⟩)) outv⟩)
      have f1 := A.fset (some ⟨true, DCells G T { d with age := 0 } (.pointer (some ⟨O, 0, none⟩)) outv⟩)
      have hl1 : (h'.set D (some (AObj.mk true (DCells G T { d with age := 0 } (.pointer (some ⟨O, 0, none⟩)) outv)))).length = h'.length := by simp
      have hO1 := z1 _ _ hO
      have M1 := M.frz z1
      have N1 := N.frz z1
      simp only [if_pos hag]
      simp only [DCells] at A1 hO1 M1 N1 f1 hl1
      simp only [Ms.cells] at hO hO1
      simp only [sx, x_box, x_alloc, x_bslice, x_slice, x_append, x_appz, x_b2s, xop, ev, evs, evParts, fillL, cellsL, Ai.get, Ai.put, stab, isNil?, if_false, if_true, addr?, int?, str?, agg?, bool?, shiftA, FnPost, xresL, xres1, tup, argEnv, ptr, Nat.reduceEqDiff, reduceIte, beq_self_eq_true, ne_eq, Nat.reduceAdd, Nat.reduceMul, Nat.reduceSub, abin_shl, abin_shr, load1V, loadV, storeV, cellsAt, getN, setN, allocV, lenL, lenS, bnd, oneC, Value.oneCell', Nat.reduceLeDiff, Nat.reduceLT, exists_eq_left', forall_const, reduceCtorEq, app_new, app_new0, List.append_assoc, Int.reduceToNat, Int.reduceLT, Int.reduceLE, Int.reduceEq, Int.reduceNe, Int.reduceBEq, IntKind.bits, bne_self_eq_false, Int.reducePow, hD, hag, set_here, List.set_set, set_far hOD, hO]
      refine xcall (send_ok A1 (m := m) ⟨mv, ov, rfl, M1, N1⟩ m1 m2 hl) (by rfl) (by rfl) (by rfl) (by rfl) ?_
      rintro r h2 ⟨opv', outv', A2, f2, n2⟩
      simp only [sx, x_box, x_alloc, x_bslice, x_slice, x_append, x_appz, x_b2s, xop, ev, evs, evParts, fillL, cellsL, Ai.get, Ai.put, stab, isNil?, if_false, if_true, addr?, int?, str?, agg?, bool?, shiftA, FnPost, xresL, xres1, tup, argEnv, ptr, Nat.reduceEqDiff, reduceIte, beq_self_eq_true, ne_eq, Nat.reduceAdd, Nat.reduceMul, Nat.reduceSub, abin_shl, abin_shr, load1V, loadV, storeV, cellsAt, getN, setN, allocV, lenL, lenS, bnd, oneC, Value.oneCell', Nat.reduceLeDiff, Nat.reduceLT, exists_eq_left', forall_const, reduceCtorEq, app_new, app_new0, List.append_assoc, Int.reduceToNat, Int.reduceLT, Int.reduceLE, Int.reduceEq, Int.reduceNe, Int.reduceBEq, IntKind.bits, bne_self_eq_false, Int.reducePow]
      exact ⟨opv', outv', A2, f1.trans f2 (fun B h => .inl h), fun B hB => by rw [← hl1]; exact n2 B hB⟩
    · simp only [if_neg hag]
      have A1 := A.setD' (d' := { d with age := IntKind.i64.wrap (d.age + 1) }) rfl rfl rfl rfl
      have f1 := A.fset (some ⟨true, DCells G T { d with age := IntKind.i64.wrap (d.age + 1) } (.pointer (some ⟨O, 0, none⟩)) outv⟩)
      simp only [DCells] at A1 f1
      simp only [sx, x_box, x_alloc, x_bslice, x_slice, x_append, x_appz, x_b2s, xop, ev, evs, evParts, fillL, cellsL, Ai.get, Ai.put, stab, isNil?, if_false, if_true, addr?, int?, str?, agg?, bool?, shiftA, FnPost, xresL, xres1, tup, argEnv, ptr, Nat.reduceEqDiff, reduceIte, beq_self_eq_true, ne_eq, Nat.reduceAdd, Nat.reduceMul, Nat.reduceSub, abin_shl, abin_shr, load1V, loadV, storeV, cellsAt, getN, setN, allocV, lenL, lenS, bnd, oneC, Value.oneCell', Nat.reduceLeDiff, Nat.reduceLT, exists_eq_left', forall_const, reduceCtorEq, app_new, app_new0, List.append_assoc, Int.reduceToNat, Int.reduceLT, Int.reduceLE, Int.reduceEq, Int.reduceNe, Int.reduceBEq, IntKind.bits, bne_self_eq_false, Int.reducePow, hD, hag, set_here]
      exact ⟨_, outv, A1, f1, fun B hB => .inl hB⟩
/-- the local blocks -/
def DK.locals (d : DK) : List Bool := d.cs.map Ci.lo
theorem DK.blk_at (d : DK) {i : Nat} {c : Ci} (h : d.cs[i]? = some c) : d.blkAt false (i : Int) = c.lo := by
  unfold DK.blkAt; rw [if_pos (by omega)]; simp [h]
def LcI (h0 : AHeap) (D S n : Nat) (d : DK) (f : Nat) (ρ : Env) (h : AHeap) : Prop := ∃ i zs, i + f = n ∧ get ρ 13 = some (.int .i64 (i : Nat)) ∧ get ρ 12 = some (.int .i64 (n : Nat)) ∧ get ρ 3 = some (.slice (some ⟨S, 0, none⟩) n n) ∧ get ρ 0 = some (.pointer (some ⟨D, 0, none⟩)) ∧ Kp h0 h ∧ h[S]? = some (some ⟨true, bB zs⟩) ∧ zs.length = n ∧ zs.take i = d.locals.take i
theorem locals_ok (A : DAt h D G L T d opv outv) : Valid Try.prog 45 [.pointer (some ⟨D, 0, none⟩)] h fun r h' => ∃ S, r = .slice (some ⟨S, 0, none⟩) d.cs.length d.cs.length ∧ h'[S]? = some (some ⟨true, bB d.locals⟩) ∧ Kp h h' ∧ h.length ≤ S := by
  refine v45 (by simp) ?_
  have hD := A.obj
  simp only [DCells] at hD
  have hb := A.g.big
  have c5 : (0 : Int) ≤ (d.cs.length : Nat) := by omega
  have c6 : ((d.cs.length : Nat) : Int) * 1 ≤ 140737488355328 := by omega
  have c7 : ((d.cs.length : Nat) : Int) ≤ 9223372036854775807 := by omega
  have hz : (List.replicate d.cs.length [Value.bool false]).flatten = bB (List.replicate d.cs.length false) := by
    unfold bB; simp
  simp only [X45, sx, x_box, x_alloc, x_bslice, x_slice, x_append, x_appz, x_b2s, xop, ev, evs, evParts, fillL, cellsL, Ai.get, Ai.put, stab, isNil?, if_false, if_true, addr?, int?, str?, agg?, bool?, shiftA, FnPost, xresL, xres1, tup, argEnv, ptr, Nat.reduceEqDiff, reduceIte, beq_self_eq_true, ne_eq, Nat.reduceAdd, Nat.reduceMul, Nat.reduceSub, abin_shl, abin_shr, load1V, loadV, storeV, cellsAt, getN, setN, allocV, lenL, lenS, bnd, oneC, Value.oneCell', Nat.reduceLeDiff, Nat.reduceLT, exists_eq_left', forall_const, reduceCtorEq, app_new, app_new0, List.append_assoc, Int.reduceToNat, Int.reduceLT, Int.reduceLE, Int.reduceEq, Int.reduceNe, Int.reduceBEq, IntKind.bits, bne_self_eq_false, Int.reducePow, hD, c5, c6, c7, Int.le_refl, hz]
  have K1 : Kp h (h ++ [some ⟨true, bB (List.replicate d.cs.length false)⟩]) := Kp.app _ _
  have hS : (h ++ [some ⟨true, bB (List.replicate d.cs.length false)⟩])[h.length]? = some (some ⟨true, bB (List.replicate d.cs.length false)⟩) := app_new0
  generalize h ++ [some ⟨true, bB (List.replicate d.cs.length false)⟩] = h1 at *
  refine xcode_loop (LcI h D h.length d.cs.length d) d.cs.length ⟨0, _, by omega, rfl, rfl, rfl, rfl, K1, hS, by simp, by simp⟩ ?_
  clear K1 hS hD h1 hz
  rintro f ρ h1 ⟨i, zs, hif, g13, g12, g3, g0, K, hS, hzl, htk⟩
  have hll : d.locals.length = d.cs.length := by simp [DK.locals]
  by_cases hlt : i < d.cs.length
  · have hlt' : (i : Int) < (d.cs.length : Nat) := by omega
    have hge : (0 : Int) ≤ i := by omega
    have hwi : IntKind.i64.wrap ((i : Int) + 1) = ((i + 1 : Nat) : Int) := by rw [i64_wrap] <;> omega
    have hc := List.getElem?_eq_getElem (l := d.cs) (i := i) hlt
    have hlo : d.locals[i]? = some (d.cs[i]'hlt).lo := by simp [DK.locals, hc]
    have hbk := d.blk_at hc
    generalize d.cs[i]'hlt = c at hc hlo hbk
    simp only [sx, x_box, x_alloc, x_bslice, x_slice, x_append, x_appz, x_b2s, xop, ev, evs, evParts, fillL, cellsL, Ai.get, Ai.put, stab, isNil?, if_false, if_true, addr?, int?, str?, agg?, bool?, shiftA, FnPost, xresL, xres1, tup, argEnv, ptr, Nat.reduceEqDiff, reduceIte, beq_self_eq_true, ne_eq, Nat.reduceAdd, Nat.reduceMul, Nat.reduceSub, abin_shl, abin_shr, load1V, loadV, storeV, cellsAt, getN, setN, allocV, lenL, lenS, bnd, oneC, Value.oneCell', Nat.reduceLeDiff, Nat.reduceLT, exists_eq_left', forall_const, reduceCtorEq, app_new, app_new0, List.append_assoc, Int.reduceToNat, Int.reduceLT, Int.reduceLE, Int.reduceEq, Int.reduceNe, Int.reduceBEq, IntKind.bits, bne_self_eq_false, Int.reducePow, g13, g12, g3, g0, hlt']
    refine xcall (local_ok (k := (i : Nat)) (A.kp K)) (by rfl) (by rfl) (by rfl) (by rfl) ?_
    rintro r h2 ⟨rfl, K2⟩
    have hS2 := K2.get hS
    have hle : i + 1 ≤ (bB zs).length := by rw [bB_len]; omega
    rw [hbk]
    simp only [sx, x_box, x_alloc, x_bslice, x_slice, x_append, x_appz, x_b2s, xop, ev, evs, evParts, fillL, cellsL, Ai.get, Ai.put, stab, isNil?, if_false, if_true, addr?, int?, str?, agg?, bool?, shiftA, FnPost, xresL, xres1, tup, argEnv, ptr, Nat.reduceEqDiff, reduceIte, beq_self_eq_true, ne_eq, Nat.reduceAdd, Nat.reduceMul, Nat.reduceSub, abin_shl, abin_shr, load1V, loadV, storeV, cellsAt, getN, setN, allocV, lenL, lenS, bnd, oneC, Value.oneCell', Nat.reduceLeDiff, Nat.reduceLT, exists_eq_left', forall_const, reduceCtorEq, app_new, app_new0, List.append_assoc, Int.reduceToNat, Int.reduceLT, Int.reduceLE, Int.reduceEq, Int.reduceNe, Int.reduceBEq, IntKind.bits, bne_self_eq_false, Int.reducePow, g13, g12, g3, g0, hlt', hge, hS2, hle, Nat.mul_one, hwi, bB_set]
    refine ⟨f - 1, by omega, i + 1, zs.set i c.lo, by omega, rfl, g12, g3, g0, (K.trans K2).set (Nat.le_refl _) _, set_same hS2 _, by simpa using hzl, ?_⟩
    apply List.ext_getElem?
    intro j
    rw [List.getElem?_take, List.getElem?_take]
    by_cases hj : j < i + 1
    · rw [if_pos hj, if_pos hj]
      by_cases e : i = j
      · subst e
        rw [List.getElem?_set_self (by omega), hlo]
      · rw [List.getElem?_set_ne e]
        have := congrArg (fun l : List Bool => l[j]?) htk
        simp only [List.getElem?_take] at this
        rw [if_pos (by omega), if_pos (by omega)] at this
        exact this
    · rw [if_neg hj, if_neg hj]
  · have hlt' : ¬ (i : Int) < (d.cs.length : Nat) := by omega
    have : i = d.cs.length := by omega
    subst this
    rw [List.take_of_length_le (by omega), List.take_of_length_le (by omega)] at htk
    subst htk
    simp only [sx, x_box, x_alloc, x_bslice, x_slice, x_append, x_appz, x_b2s, xop, ev, evs, evParts, fillL, cellsL, Ai.get, Ai.put, stab, isNil?, if_false, if_true, addr?, int?, str?, agg?, bool?, shiftA, FnPost, xresL, xres1, tup, argEnv, ptr, Nat.reduceEqDiff, reduceIte, beq_self_eq_true, ne_eq, Nat.reduceAdd, Nat.reduceMul, Nat.reduceSub, abin_shl, abin_shr, load1V, loadV, storeV, cellsAt, getN, setN, allocV, lenL, lenS, bnd, oneC, Value.oneCell', Nat.reduceLeDiff, Nat.reduceLT, exists_eq_left', forall_const, reduceCtorEq, app_new, app_new0, List.append_assoc, Int.reduceToNat, Int.reduceLT, Int.reduceLE, Int.reduceEq, Int.reduceNe, Int.reduceBEq, IntKind.bits, bne_self_eq_false, Int.reducePow, g13, g12, g3, g0, hlt']
    exact ⟨_, rfl, hS, K, Nat.le_refl _⟩
end
end Go.Proofs.Ytejgaeinkojgpaa
