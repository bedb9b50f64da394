import Derived.Test.YtejgaeinkojgpaaK6
set_option linter.unusedVariables false
set_option linter.unusedSimpArgs false
namespace Go.Proofs.Ytejgaeinkojgpaa
open Go Go.Ai Go.Proofs

/-- numbers in view -/
def CdV (h : AHeap) (q : Option Addr) (c : Nat) (zs : List Int) : Prop := firstV 1 h zs.length (.slice q zs.length c) = some (zs.map (.int .i64)) ∧ ∀ a, q = some a → a.block < h.length
theorem CdV.keep {h h' : AHeap} {q : Option Addr} {c : Nat} {zs : List Int} (v : CdV h q c zs) (hl : h.length ≤ h'.length) (hk : ∀ a, q = some a → h'[a.block]? = h[a.block]?) : CdV h' q c zs := by
  refine ⟨?_, fun a ha => Nat.lt_of_lt_of_le (v.2 a ha) hl⟩
  cases q with
  | none => exact v.1
  | some a => simpa only [firstV, cellsAt, hk a rfl] using v.1
theorem CdV.kp {h h' : AHeap} {q : Option Addr} {c : Nat} {zs : List Int} (v : CdV h q c zs) (k : Kp h h') : CdV h' q c zs := v.keep k.1 fun a ha => k.2 a.block (v.2 a ha)
theorem CdV.elem {h : AHeap} {q : Option Addr} {c : Nat} {zs : List Int} (v : CdV h q c zs) {i : Nat} {z : Int} (hz : zs[i]? = some z) : ∃ a o, q = some a ∧ a.spot = none ∧ h[a.block]? = some (some o) ∧ o.cells[a.off + i]? = some (.int .i64 z) := by
  have hi := (List.getElem?_eq_some_iff.1 hz).1
  obtain ⟨f, -⟩ := v
  cases q with
  | none =>
    have := firstV_len f
    simp only [firstV] at f
    split at f
    · omega
    · cases f
  | some a =>
    obtain ⟨h1, o, v, h2, h3, h4⟩ := firstV_elem1 f hi
    refine ⟨a, o, rfl, h1, h2, ?_⟩
    rw [List.getElem?_map, hz] at h4
    rw [h3, ← h4]; rfl
def inR (n : Nat) (z : Int) : Bool := decide (0 ≤ z ∧ z < n)
section
variable {h : AHeap} {D G L T : Nat} {d : DK} {opv outv : Value}
theorem bad_ok {R : Nat} {z : Int} (A : DAt h D G L T d opv outv) (hR : h[R]? = some (some ⟨true, [.pointer (some ⟨D, 0, none⟩)]⟩)) : Valid Try.prog 31 [.int .i64 z, .pointer (some ⟨R, 0, none⟩)] h fun r h' => r = .bool (!inR d.cs.length z) ∧ h' = h := by
  refine v31 (by simp) ?_
  have hD := A.obj
  simp only [DCells] at hD
  unfold inR
  by_cases h0 : z < 0
  · have h0' : ¬ (0 ≤ z) := by omega
    simp only [X31, sx, x_box, x_alloc, x_bslice, x_slice, x_append, x_appz, x_b2s, xop, ev, evs, evParts, fillL, cellsL, Ai.get, Ai.put, stab, isNil?, if_false, if_true, addr?, int?, str?, agg?, bool?, shiftA, FnPost, xresL, xres1, tup, argEnv, ptr, Nat.reduceEqDiff, reduceIte, beq_self_eq_true, ne_eq, Nat.reduceAdd, Nat.reduceMul, Nat.reduceSub, abin_shl, abin_shr, load1V, loadV, storeV, cellsAt, getN, setN, allocV, lenL, lenS, bnd, oneC, Value.oneCell', Nat.reduceLeDiff, Nat.reduceLT, exists_eq_left', forall_const, reduceCtorEq, app_new, app_new0, List.append_assoc, Int.reduceToNat, Int.reduceLT, Int.reduceLE, Int.reduceEq, Int.reduceNe, Int.reduceBEq, IntKind.bits, bne_self_eq_false, Int.reducePow, h0, h0', false_and]
  · have h0' : 0 ≤ z := by omega
    simp only [X31, sx, x_box, x_alloc, x_bslice, x_slice, x_append, x_appz, x_b2s, xop, ev, evs, evParts, fillL, cellsL, Ai.get, Ai.put, stab, isNil?, if_false, if_true, addr?, int?, str?, agg?, bool?, shiftA, FnPost, xresL, xres1, tup, argEnv, ptr, Nat.reduceEqDiff, reduceIte, beq_self_eq_true, ne_eq, Nat.reduceAdd, Nat.reduceMul, Nat.reduceSub, abin_shl, abin_shr, load1V, loadV, storeV, cellsAt, getN, setN, allocV, lenL, lenS, bnd, oneC, Value.oneCell', Nat.reduceLeDiff, Nat.reduceLT, exists_eq_left', forall_const, reduceCtorEq, app_new, app_new0, List.append_assoc, Int.reduceToNat, Int.reduceLT, Int.reduceLE, Int.reduceEq, Int.reduceNe, Int.reduceBEq, IntKind.bits, bne_self_eq_false, Int.reducePow, h0, hR, hD]
    refine xcall (size_ok A.g) (by rfl) (by rfl) (by rfl) (by rfl) ?_
    rintro r h' ⟨rfl, rfl⟩
    by_cases h1 : (d.cs.length : Int) ≤ z
    · have h1' : ¬ (z < (d.cs.length : Int)) := by omega
      simp only [sx, x_box, x_alloc, x_bslice, x_slice, x_append, x_appz, x_b2s, xop, ev, evs, evParts, fillL, cellsL, Ai.get, Ai.put, stab, isNil?, if_false, if_true, addr?, int?, str?, agg?, bool?, shiftA, FnPost, xresL, xres1, tup, argEnv, ptr, Nat.reduceEqDiff, reduceIte, beq_self_eq_true, ne_eq, Nat.reduceAdd, Nat.reduceMul, Nat.reduceSub, abin_shl, abin_shr, load1V, loadV, storeV, cellsAt, getN, setN, allocV, lenL, lenS, bnd, oneC, Value.oneCell', Nat.reduceLeDiff, Nat.reduceLT, exists_eq_left', forall_const, reduceCtorEq, app_new, app_new0, List.append_assoc, Int.reduceToNat, Int.reduceLT, Int.reduceLE, Int.reduceEq, Int.reduceNe, Int.reduceBEq, IntKind.bits, bne_self_eq_false, Int.reducePow, h1, h1', h0', and_false]
    · have h1' : z < (d.cs.length : Int) := by omega
      simp only [sx, x_box, x_alloc, x_bslice, x_slice, x_append, x_appz, x_b2s, xop, ev, evs, evParts, fillL, cellsL, Ai.get, Ai.put, stab, isNil?, if_false, if_true, addr?, int?, str?, agg?, bool?, shiftA, FnPost, xresL, xres1, tup, argEnv, ptr, Nat.reduceEqDiff, reduceIte, beq_self_eq_true, ne_eq, Nat.reduceAdd, Nat.reduceMul, Nat.reduceSub, abin_shl, abin_shr, load1V, loadV, storeV, cellsAt, getN, setN, allocV, lenL, lenS, bnd, oneC, Value.oneCell', Nat.reduceLeDiff, Nat.reduceLT, exists_eq_left', forall_const, reduceCtorEq, app_new, app_new0, List.append_assoc, Int.reduceToNat, Int.reduceLT, Int.reduceLE, Int.reduceEq, Int.reduceNe, Int.reduceBEq, IntKind.bits, bne_self_eq_false, Int.reducePow, h1, h1', h0']
def IfI (h0 : AHeap) (R : Nat) (q : Option Addr) (c : Nat) (n : Nat) (zs : List Int) (m : Nat) (ρ : Env) (h : AHeap) : Prop := ∃ i, i + m = zs.length ∧ get ρ 8 = some (.int .i64 (i : Nat)) ∧ get ρ 7 = some (.int .i64 (zs.length : Nat)) ∧ get ρ 0 = some (.slice q zs.length c) ∧ get ρ 1 = some (.func (.func 31) #[] #[.pointer (some ⟨R, 0, none⟩)]) ∧ h = h0 ∧ ∀ z ∈ zs.take i, inR n z = true
theorem indexf_ok {R : Nat} {q : Option Addr} {c : Nat} {zs : List Int} (A : DAt h D G L T d opv outv) (hR : h[R]? = some (some ⟨true, [.pointer (some ⟨D, 0, none⟩)]⟩)) (V : CdV h q c zs) (hn : zs.length ≤ 1000000) :
    Valid Try.prog 44 [.slice q zs.length c, .func (.func 31) #[] #[.pointer (some ⟨R, 0, none⟩)]] h fun r h' => h' = h ∧ ∃ k : Int, r = .int .i64 k ∧ (0 ≤ k ↔ zs.all (inR d.cs.length) = false) := by
  refine v44 (by simp) ?_
  simp only [X44, sx, x_box, x_alloc, x_bslice, x_slice, x_append, x_appz, x_b2s, xop, ev, evs, evParts, fillL, cellsL, Ai.get, Ai.put, stab, isNil?, if_false, if_true, addr?, int?, str?, agg?, bool?, shiftA, FnPost, xresL, xres1, tup, argEnv, ptr, Nat.reduceEqDiff, reduceIte, beq_self_eq_true, ne_eq, Nat.reduceAdd, Nat.reduceMul, Nat.reduceSub, abin_shl, abin_shr, load1V, loadV, storeV, cellsAt, getN, setN, allocV, lenL, lenS, bnd, oneC, Value.oneCell', Nat.reduceLeDiff, Nat.reduceLT, exists_eq_left', forall_const, reduceCtorEq, app_new, app_new0, List.append_assoc, Int.reduceToNat, Int.reduceLT, Int.reduceLE, Int.reduceEq, Int.reduceNe, Int.reduceBEq, IntKind.bits, bne_self_eq_false, Int.reducePow]
  refine xcode_loop (IfI h R q c d.cs.length zs) zs.length ⟨0, by omega, rfl, rfl, rfl, rfl, rfl, by simp⟩ ?_
  rintro m ρ h1 ⟨i, him, g8, g7, g0, g1, rfl, hall⟩
  by_cases hlt : i < zs.length
  · have hlt' : (i : Int) < zs.length := by omega
    have hge : (0 : Int) ≤ i := by omega
    have hwi : IntKind.i64.wrap ((i : Int) + 1) = ((i + 1 : Nat) : Int) := by rw [i64_wrap] <;> omega
    have ez := List.getElem?_eq_getElem hlt
    generalize zs[i] = z at ez
    obtain ⟨a, o, rfl, a1, a2, a3⟩ := V.elem ez
    simp only [sx, x_box, x_alloc, x_bslice, x_slice, x_append, x_appz, x_b2s, xop, ev, evs, evParts, fillL, cellsL, Ai.get, Ai.put, stab, isNil?, if_false, if_true, addr?, int?, str?, agg?, bool?, shiftA, FnPost, xresL, xres1, tup, argEnv, ptr, Nat.reduceEqDiff, reduceIte, beq_self_eq_true, ne_eq, Nat.reduceAdd, Nat.reduceMul, Nat.reduceSub, abin_shl, abin_shr, load1V, loadV, storeV, cellsAt, getN, setN, allocV, lenL, lenS, bnd, oneC, Value.oneCell', Nat.reduceLeDiff, Nat.reduceLT, exists_eq_left', forall_const, reduceCtorEq, app_new, app_new0, List.append_assoc, Int.reduceToNat, Int.reduceLT, Int.reduceLE, Int.reduceEq, Int.reduceNe, Int.reduceBEq, IntKind.bits, bne_self_eq_false, Int.reducePow, g8, g7, g0, g1, hlt', hge, a1, a2, a3, Nat.mul_one]
    refine xcall (bad_ok (z := z) A hR) (by rfl) (by rfl) (by rfl) (by simp) ?_
    rintro r h2 ⟨rfl, rfl⟩
    cases hb : inR d.cs.length z
    · simp only [sx, x_box, x_alloc, x_bslice, x_slice, x_append, x_appz, x_b2s, xop, ev, evs, evParts, fillL, cellsL, Ai.get, Ai.put, stab, isNil?, if_false, if_true, addr?, int?, str?, agg?, bool?, shiftA, FnPost, xresL, xres1, tup, argEnv, ptr, Nat.reduceEqDiff, reduceIte, beq_self_eq_true, ne_eq, Nat.reduceAdd, Nat.reduceMul, Nat.reduceSub, abin_shl, abin_shr, load1V, loadV, storeV, cellsAt, getN, setN, allocV, lenL, lenS, bnd, oneC, Value.oneCell', Nat.reduceLeDiff, Nat.reduceLT, exists_eq_left', forall_const, reduceCtorEq, app_new, app_new0, List.append_assoc, Int.reduceToNat, Int.reduceLT, Int.reduceLE, Int.reduceEq, Int.reduceNe, Int.reduceBEq, IntKind.bits, bne_self_eq_false, Int.reducePow, g8, g7, g0, g1]
      refine ⟨_, rfl, ?_⟩
      have : zs.all (inR d.cs.length) = false := by
        rw [List.all_eq_false]
        exact ⟨z, List.mem_of_getElem? ez, by rw [hb]; simp⟩
      simp [this]
    · simp only [sx, x_box, x_alloc, x_bslice, x_slice, x_append, x_appz, x_b2s, xop, ev, evs, evParts, fillL, cellsL, Ai.get, Ai.put, stab, isNil?, if_false, if_true, addr?, int?, str?, agg?, bool?, shiftA, FnPost, xresL, xres1, tup, argEnv, ptr, Nat.reduceEqDiff, reduceIte, beq_self_eq_true, ne_eq, Nat.reduceAdd, Nat.reduceMul, Nat.reduceSub, abin_shl, abin_shr, load1V, loadV, storeV, cellsAt, getN, setN, allocV, lenL, lenS, bnd, oneC, Value.oneCell', Nat.reduceLeDiff, Nat.reduceLT, exists_eq_left', forall_const, reduceCtorEq, app_new, app_new0, List.append_assoc, Int.reduceToNat, Int.reduceLT, Int.reduceLE, Int.reduceEq, Int.reduceNe, Int.reduceBEq, IntKind.bits, bne_self_eq_false, Int.reducePow, g8, g7, g0, g1, hwi]
      refine ⟨m - 1, by omega, i + 1, by omega, rfl, g7, g0, g1, rfl, fun y hy => ?_⟩
      rw [List.take_add_one, ez] at hy
      rcases List.mem_append.1 hy with hy | hy
      · exact hall y hy
      · simp at hy; rw [hy]; exact hb
  · have hlt' : ¬ (i : Int) < zs.length := by omega
    simp only [sx, x_box, x_alloc, x_bslice, x_slice, x_append, x_appz, x_b2s, xop, ev, evs, evParts, fillL, cellsL, Ai.get, Ai.put, stab, isNil?, if_false, if_true, addr?, int?, str?, agg?, bool?, shiftA, FnPost, xresL, xres1, tup, argEnv, ptr, Nat.reduceEqDiff, reduceIte, beq_self_eq_true, ne_eq, Nat.reduceAdd, Nat.reduceMul, Nat.reduceSub, abin_shl, abin_shr, load1V, loadV, storeV, cellsAt, getN, setN, allocV, lenL, lenS, bnd, oneC, Value.oneCell', Nat.reduceLeDiff, Nat.reduceLT, exists_eq_left', forall_const, reduceCtorEq, app_new, app_new0, List.append_assoc, Int.reduceToNat, Int.reduceLT, Int.reduceLE, Int.reduceEq, Int.reduceNe, Int.reduceBEq, IntKind.bits, bne_self_eq_false, Int.reducePow, g8, g7, g0, g1, hlt']
    rw [List.take_of_length_le (by omega)] at hall
    refine ⟨_, rfl, ?_⟩
    have : zs.all (inR d.cs.length) = true := List.all_eq_true.2 hall
    simp [this]
theorem containsf_ok {R : Nat} {q : Option Addr} {c : Nat} {zs : List Int} (A : DAt h D G L T d opv outv) (hR : h[R]? = some (some ⟨true, [.pointer (some ⟨D, 0, none⟩)]⟩)) (V : CdV h q c zs) (hn : zs.length ≤ 1000000) :
    Valid Try.prog 30 [.slice q zs.length c, .func (.func 31) #[] #[.pointer (some ⟨R, 0, none⟩)]] h fun r h' => r = .bool (!zs.all (inR d.cs.length)) ∧ h' = h := by
  refine v30 (by simp) ?_
  simp only [X30, sx, x_box, x_alloc, x_bslice, x_slice, x_append, x_appz, x_b2s, xop, ev, evs, evParts, fillL, cellsL, Ai.get, Ai.put, stab, isNil?, if_false, if_true, addr?, int?, str?, agg?, bool?, shiftA, FnPost, xresL, xres1, tup, argEnv, ptr, Nat.reduceEqDiff, reduceIte, beq_self_eq_true, ne_eq, Nat.reduceAdd, Nat.reduceMul, Nat.reduceSub, abin_shl, abin_shr, load1V, loadV, storeV, cellsAt, getN, setN, allocV, lenL, lenS, bnd, oneC, Value.oneCell', Nat.reduceLeDiff, Nat.reduceLT, exists_eq_left', forall_const, reduceCtorEq, app_new, app_new0, List.append_assoc, Int.reduceToNat, Int.reduceLT, Int.reduceLE, Int.reduceEq, Int.reduceNe, Int.reduceBEq, IntKind.bits, bne_self_eq_false, Int.reducePow]
  refine xcall (indexf_ok A hR V hn) (by rfl) (by rfl) (by rfl) (by rfl) ?_
  rintro r h1 ⟨rfl, k, rfl, hk⟩
  cases hb : zs.all (inR d.cs.length)
  · have h0 : 0 ≤ k := hk.2 hb
    simp only [sx, x_box, x_alloc, x_bslice, x_slice, x_append, x_appz, x_b2s, xop, ev, evs, evParts, fillL, cellsL, Ai.get, Ai.put, stab, isNil?, if_false, if_true, addr?, int?, str?, agg?, bool?, shiftA, FnPost, xresL, xres1, tup, argEnv, ptr, Nat.reduceEqDiff, reduceIte, beq_self_eq_true, ne_eq, Nat.reduceAdd, Nat.reduceMul, Nat.reduceSub, abin_shl, abin_shr, load1V, loadV, storeV, cellsAt, getN, setN, allocV, lenL, lenS, bnd, oneC, Value.oneCell', Nat.reduceLeDiff, Nat.reduceLT, exists_eq_left', forall_const, reduceCtorEq, app_new, app_new0, List.append_assoc, Int.reduceToNat, Int.reduceLT, Int.reduceLE, Int.reduceEq, Int.reduceNe, Int.reduceBEq, IntKind.bits, bne_self_eq_false, Int.reducePow, h0]
  · have h0 : ¬ 0 ≤ k := fun h => by rw [hk.1 h] at hb; cases hb
    simp only [sx, x_box, x_alloc, x_bslice, x_slice, x_append, x_appz, x_b2s, xop, ev, evs, evParts, fillL, cellsL, Ai.get, Ai.put, stab, isNil?, if_false, if_true, addr?, int?, str?, agg?, bool?, shiftA, FnPost, xresL, xres1, tup, argEnv, ptr, Nat.reduceEqDiff, reduceIte, beq_self_eq_true, ne_eq, Nat.reduceAdd, Nat.reduceMul, Nat.reduceSub, abin_shl, abin_shr, load1V, loadV, storeV, cellsAt, getN, setN, allocV, lenL, lenS, bnd, oneC, Value.oneCell', Nat.reduceLeDiff, Nat.reduceLT, exists_eq_left', forall_const, reduceCtorEq, app_new, app_new0, List.append_assoc, Int.reduceToNat, Int.reduceLT, Int.reduceLE, Int.reduceEq, Int.reduceNe, Int.reduceBEq, IntKind.bits, bne_self_eq_false, Int.reducePow, h0]
/-- the group's circuits -/
def setC (cs : List Ci) (r on : Bool) (k : Nat) : List Ci := match cs[k]? with
  | some c => cs.set k (c.put r on)
  | none => cs
theorem setC_len (cs : List Ci) (r on : Bool) (k : Nat) : (setC cs r on k).length = cs.length := by
  unfold setC; split <;> simp
def setLs (cs : List Ci) (on : Bool) (zs : List Int) : List Ci := zs.foldl (fun cs z => setC cs false on z.toNat) cs
theorem setLs_len (cs : List Ci) (on : Bool) (zs : List Int) : (setLs cs on zs).length = cs.length := by
  induction zs generalizing cs with
  | nil => rfl
  | cons z zs ih => rw [setLs, List.foldl_cons]; exact (ih _).trans (setC_len _ _ _ _)
theorem setLs_snoc (cs : List Ci) (on : Bool) (zs : List Int) (z : Int) : setLs cs on (zs ++ [z]) = setC (setLs cs on zs) false on z.toNat := by
  unfold setLs; rw [List.foldl_append]; rfl
theorem DAt.setG (A : DAt h D G L T d opv outv) {h' : AHeap} {cs : List Ci} (g : GAt h' G L cs) (hl : cs.length = d.cs.length) (fr : Fr (· = L) h h') : DAt h' D G L T { d with cs := cs } opv outv := by
  have z : Frz h h' := fr.frz fun B cs hB e => by subst hB; rw [A.g.row] at e; cases e
  have k : ∀ i B, FD D G L T outv i B → i ≠ 2 → h'[B]? = h[B]? := fun i B hB h2 => fr.2 B (A.lt hB) fun e => h2 (A.s i 2 B hB (.inr (.inr (.inl ⟨rfl, e⟩))))
  have ho := A.obj
  refine ⟨(k 0 D (.inl ⟨rfl, rfl⟩) (by decide)).trans (ho.trans ?_), g, (k 3 T (.inr (.inr (.inr (.inl ⟨rfl, rfl⟩)))) (by decide)).trans A.t, A.tl.trans hl.symm, A.op.frz z, A.out.keep z fun B hB => k 4 B (.inr (.inr (.inr (.inr ⟨rfl, hB⟩)))) (by decide), A.s⟩
  simp only [DCells, hl]
/-- one circuit is set -/
theorem DAt.gset (A : DAt h D G L T d opv outv) {z : Int} {r on : Bool} (hz : inR d.cs.length z = true) : Valid Try.prog 23 [.pointer (some ⟨G, 0, none⟩), .int .i64 z, .int .u8 (bkI r), .bool on] h fun v h' => v = .int .i64 0 ∧ DAt h' D G L T { d with cs := setC d.cs r on z.toNat } opv outv ∧ Fr (· = L) h h' := by
  have hz' : 0 ≤ z ∧ z < d.cs.length := by simpa [inR] using hz
  obtain ⟨k, rfl⟩ : ∃ k : Nat, z = k := ⟨z.toNat, by omega⟩
  have hc := List.getElem?_eq_getElem (l := d.cs) (i := k) (by omega)
  refine (gset_in A.g hc).mono ?_
  rintro v h' ⟨rfl, g, f⟩
  have e : setC d.cs r on (k : Int).toNat = d.cs.set k ((d.cs[k]'(by omega)).put r on) := by
    unfold setC; simp only [Int.toNat_natCast, hc]
  rw [e]
  exact ⟨rfl, A.setG g (by simp) f, f⟩
def SaI (h0 : AHeap) (D G L T R : Nat) (d : DK) (opv outv : Value) (on : Bool) (q : Option Addr) (c : Nat) (zs : List Int) (m : Nat) (ρ : Env) (h : AHeap) : Prop := ∃ i, i + m = zs.length ∧ get ρ 18 = some (.int .i64 (i : Nat)) ∧ get ρ 17 = some (.int .i64 (zs.length : Nat)) ∧ get ρ 16 = some (.slice q zs.length c) ∧ get ρ 3 = some (.pointer (some ⟨R, 0, none⟩)) ∧ get ρ 2 = some (.bool on) ∧
  DAt h D G L T { d with cs := setLs d.cs on (zs.take i) } opv outv ∧ Fr (· = L) h0 h
def DK.setAll (d : DK) (on : Bool) (zs : List Int) : DK := DK.next { d with cs := setLs d.cs on zs }
theorem setall_ok {q : Option Addr} {c : Nat} {zs : List Int} {on : Bool} (A : DAt h D G L T d opv outv) (V : CdV h q c zs) (hL : ∀ a, q = some a → a.block ≠ L) (hn : zs.length ≤ 1000000) (hl : d.out.length < 100000) :
    Valid Try.prog 12 [.pointer (some ⟨D, 0, none⟩), .slice q zs.length c, .bool on] h fun r h' => (zs.all (inR d.cs.length) = true ∧ r = .int .i64 0 ∧ WentD h h' D G L T (d.setAll on zs) outv) ∨ (zs.all (inR d.cs.length) = false ∧ r = .int .i64 1 ∧ Kp h h') := by
  refine v12 (by simp) ?_
  simp only [X12, sx, x_alloc, x_bslice, x_slice, x_append, x_appz, x_b2s, xop, ev, evs, evParts, fillL, cellsL, Ai.get, Ai.put, stab, isNil?, if_false, if_true, addr?, int?, str?, agg?, bool?, shiftA, FnPost, xresL, xres1, tup, argEnv, ptr, Nat.reduceEqDiff, reduceIte, beq_self_eq_true, ne_eq, Nat.reduceAdd, Nat.reduceMul, Nat.reduceSub, abin_shl, abin_shr, load1V, loadV, storeV, cellsAt, getN, setN, allocV, lenL, lenS, bnd, oneC, Value.oneCell', Nat.reduceLeDiff, Nat.reduceLT, exists_eq_left', forall_const, reduceCtorEq, app_new, app_new0, List.append_assoc, Int.reduceToNat, Int.reduceLT, Int.reduceLE, Int.reduceEq, Int.reduceNe, Int.reduceBEq, IntKind.bits, bne_self_eq_false, Int.reducePow]
  refine box_run rfl fun g1 R K1 hR hRl _ => ⟨trivial, ?_⟩
  have A1 := A.kp K1
  simp only [cellsL] at hR
  have V1 := V.kp K1
  simp only [sx, x_box, x_alloc, x_bslice, x_slice, x_append, x_appz, x_b2s, xop, ev, evs, evParts, fillL, cellsL, Ai.get, Ai.put, stab, isNil?, if_false, if_true, addr?, int?, str?, agg?, bool?, shiftA, FnPost, xresL, xres1, tup, argEnv, ptr, Nat.reduceEqDiff, reduceIte, beq_self_eq_true, ne_eq, Nat.reduceAdd, Nat.reduceMul, Nat.reduceSub, abin_shl, abin_shr, load1V, loadV, storeV, cellsAt, getN, setN, allocV, lenL, lenS, bnd, oneC, Value.oneCell', Nat.reduceLeDiff, Nat.reduceLT, exists_eq_left', forall_const, reduceCtorEq, app_new, app_new0, List.append_assoc, Int.reduceToNat, Int.reduceLT, Int.reduceLE, Int.reduceEq, Int.reduceNe, Int.reduceBEq, IntKind.bits, bne_self_eq_false, Int.reducePow, hR]
  refine xcall (none_ok A1) (by rfl) (by rfl) (by rfl) (by rfl) ?_
  rintro r g1' ⟨rfl, rfl⟩
  simp only [sx, x_box, x_alloc, x_bslice, x_slice, x_append, x_appz, x_b2s, xop, ev, evs, evParts, fillL, cellsL, Ai.get, Ai.put, stab, isNil?, if_false, if_true, addr?, int?, str?, agg?, bool?, shiftA, FnPost, xresL, xres1, tup, argEnv, ptr, Nat.reduceEqDiff, reduceIte, beq_self_eq_true, ne_eq, Nat.reduceAdd, Nat.reduceMul, Nat.reduceSub, abin_shl, abin_shr, load1V, loadV, storeV, cellsAt, getN, setN, allocV, lenL, lenS, bnd, oneC, Value.oneCell', Nat.reduceLeDiff, Nat.reduceLT, exists_eq_left', forall_const, reduceCtorEq, app_new, app_new0, List.append_assoc, Int.reduceToNat, Int.reduceLT, Int.reduceLE, Int.reduceEq, Int.reduceNe, Int.reduceBEq, IntKind.bits, bne_self_eq_false, Int.reducePow, hR]
  refine xcall (containsf_ok A1 hR V1 hn) (by rfl) (by rfl) (by rfl) (by rfl) ?_
  rintro r g2 ⟨rfl, rfl⟩
  have hLl := A.lt (i := 2) (B := L) (.inr (.inr (.inl ⟨rfl, rfl⟩)))
  have hDl := A.lt (i := 0) (B := D) (.inl ⟨rfl, rfl⟩)
  cases hb : zs.all (inR d.cs.length)
  · simp only [sx, x_box, x_alloc, x_bslice, x_slice, x_append, x_appz, x_b2s, xop, ev, evs, evParts, fillL, cellsL, Ai.get, Ai.put, stab, isNil?, if_false, if_true, addr?, int?, str?, agg?, bool?, shiftA, FnPost, xresL, xres1, tup, argEnv, ptr, Nat.reduceEqDiff, reduceIte, beq_self_eq_true, ne_eq, Nat.reduceAdd, Nat.reduceMul, Nat.reduceSub, abin_shl, abin_shr, load1V, loadV, storeV, cellsAt, getN, setN, allocV, lenL, lenS, bnd, oneC, Value.oneCell', Nat.reduceLeDiff, Nat.reduceLT, exists_eq_left', forall_const, reduceCtorEq, app_new, app_new0, List.append_assoc, Int.reduceToNat, Int.reduceLT, Int.reduceLE, Int.reduceEq, Int.reduceNe, Int.reduceBEq, IntKind.bits, bne_self_eq_false, Int.reducePow]
    exact .inr K1
  simp only [sx, x_box, x_alloc, x_bslice, x_slice, x_append, x_appz, x_b2s, xop, ev, evs, evParts, fillL, cellsL, Ai.get, Ai.put, stab, isNil?, if_false, if_true, addr?, int?, str?, agg?, bool?, shiftA, FnPost, xresL, xres1, tup, argEnv, ptr, Nat.reduceEqDiff, reduceIte, beq_self_eq_true, ne_eq, Nat.reduceAdd, Nat.reduceMul, Nat.reduceSub, abin_shl, abin_shr, load1V, loadV, storeV, cellsAt, getN, setN, allocV, lenL, lenS, bnd, oneC, Value.oneCell', Nat.reduceLeDiff, Nat.reduceLT, exists_eq_left', forall_const, reduceCtorEq, app_new, app_new0, List.append_assoc, Int.reduceToNat, Int.reduceLT, Int.reduceLE, Int.reduceEq, Int.reduceNe, Int.reduceBEq, IntKind.bits, bne_self_eq_false, Int.reducePow]
  refine xloop_cut (fun ρ h' => get ρ 3 = some (.pointer (some ⟨R, 0, none⟩)) ∧ DAt h' D G L T { d with cs := setLs d.cs on zs } opv outv ∧ Fr (· = L) g2 h') ?_ ?_
  · refine xcode_loop (SaI g2 D G L T R d opv outv on q c zs) zs.length ⟨0, by omega, rfl, rfl, rfl, rfl, rfl, A1, Fr.refl _ _⟩ ?_
    rintro m ρ h1 ⟨i, him, g18, g17, g16, g3, g2', A2, F2⟩
    by_cases hlt : i < zs.length
    · have hlt' : (i : Int) < zs.length := by omega
      have hge : (0 : Int) ≤ i := by omega
      have hwi : IntKind.i64.wrap ((i : Int) + 1) = ((i + 1 : Nat) : Int) := by rw [i64_wrap] <;> omega
      have ez := List.getElem?_eq_getElem hlt
      generalize zs[i] = z at ez
      have V2 := V1.keep (h' := h1) F2.1 fun a ha => F2.2 a.block (V1.2 a ha) (hL a ha)
      obtain ⟨a, o, rfl, a1, a2, a3⟩ := V2.elem ez
      have hR2 : h1[R]? = some (some ⟨true, [.pointer (some ⟨D, 0, none⟩)]⟩) := by rw [F2.2 R (lt_of_get hR) (show R ≠ L by omega)]; exact hR
      have hD2 := A2.obj
      simp only [DCells] at hD2
      have hzr : inR d.cs.length z = true := List.all_eq_true.1 hb z (List.mem_of_getElem? ez)
      simp only [sx, x_box, x_alloc, x_bslice, x_slice, x_append, x_appz, x_b2s, xop, ev, evs, evParts, fillL, cellsL, Ai.get, Ai.put, stab, isNil?, if_false, if_true, addr?, int?, str?, agg?, bool?, shiftA, FnPost, xresL, xres1, tup, argEnv, ptr, Nat.reduceEqDiff, reduceIte, beq_self_eq_true, ne_eq, Nat.reduceAdd, Nat.reduceMul, Nat.reduceSub, abin_shl, abin_shr, load1V, loadV, storeV, cellsAt, getN, setN, allocV, lenL, lenS, bnd, oneC, Value.oneCell', Nat.reduceLeDiff, Nat.reduceLT, exists_eq_left', forall_const, reduceCtorEq, app_new, app_new0, List.append_assoc, Int.reduceToNat, Int.reduceLT, Int.reduceLE, Int.reduceEq, Int.reduceNe, Int.reduceBEq, IntKind.bits, bne_self_eq_false, Int.reducePow, g18, g17, g16, g3, g2', hlt', hge, a1, a2, a3, hR2, hD2, Nat.mul_one]
      refine xcall (A2.gset (z := z) (r := false) (on := on) (by simp only [setLs_len]; exact hzr)) (by rfl) (by rfl) (by rfl) (by rfl) ?_
      rintro r h2 ⟨rfl, A3, F3⟩
      simp only [sx, x_box, x_alloc, x_bslice, x_slice, x_append, x_appz, x_b2s, xop, ev, evs, evParts, fillL, cellsL, Ai.get, Ai.put, stab, isNil?, if_false, if_true, addr?, int?, str?, agg?, bool?, shiftA, FnPost, xresL, xres1, tup, argEnv, ptr, Nat.reduceEqDiff, reduceIte, beq_self_eq_true, ne_eq, Nat.reduceAdd, Nat.reduceMul, Nat.reduceSub, abin_shl, abin_shr, load1V, loadV, storeV, cellsAt, getN, setN, allocV, lenL, lenS, bnd, oneC, Value.oneCell', Nat.reduceLeDiff, Nat.reduceLT, exists_eq_left', forall_const, reduceCtorEq, app_new, app_new0, List.append_assoc, Int.reduceToNat, Int.reduceLT, Int.reduceLE, Int.reduceEq, Int.reduceNe, Int.reduceBEq, IntKind.bits, bne_self_eq_false, Int.reducePow, g18, g17, g16, g3, g2', hwi]
      refine ⟨m - 1, by omega, i + 1, by omega, rfl, g17, g16, g3, g2', ?_, F2.trans F3 fun B h => .inl h⟩
      rw [List.take_add_one, ez]
      simp only [Option.toList_some, setLs_snoc]
      exact A3
    · have hlt' : ¬ (i : Int) < zs.length := by omega
      simp only [sx, x_box, x_alloc, x_bslice, x_slice, x_append, x_appz, x_b2s, xop, ev, evs, evParts, fillL, cellsL, Ai.get, Ai.put, stab, isNil?, if_false, if_true, addr?, int?, str?, agg?, bool?, shiftA, FnPost, xresL, xres1, tup, argEnv, ptr, Nat.reduceEqDiff, reduceIte, beq_self_eq_true, ne_eq, Nat.reduceAdd, Nat.reduceMul, Nat.reduceSub, abin_shl, abin_shr, load1V, loadV, storeV, cellsAt, getN, setN, allocV, lenL, lenS, bnd, oneC, Value.oneCell', Nat.reduceLeDiff, Nat.reduceLT, exists_eq_left', forall_const, reduceCtorEq, app_new, app_new0, List.append_assoc, Int.reduceToNat, Int.reduceLT, Int.reduceLE, Int.reduceEq, Int.reduceNe, Int.reduceBEq, IntKind.bits, bne_self_eq_false, Int.reducePow, g18, g17, g16, g3, g2', hlt']
      rw [List.take_of_length_le (by omega)] at A2
      exact ⟨A2, F2⟩
  · rintro ρ h1 ⟨g3, A2, F2⟩
    have hR2 : h1[R]? = some (some ⟨true, [.pointer (some ⟨D, 0, none⟩)]⟩) := by rw [F2.2 R (lt_of_get hR) (show R ≠ L by omega)]; exact hR
    simp only [sx, x_box, x_alloc, x_bslice, x_slice, x_append, x_appz, x_b2s, xop, ev, evs, evParts, fillL, cellsL, Ai.get, Ai.put, stab, isNil?, if_false, if_true, addr?, int?, str?, agg?, bool?, shiftA, FnPost, xresL, xres1, tup, argEnv, ptr, Nat.reduceEqDiff, reduceIte, beq_self_eq_true, ne_eq, Nat.reduceAdd, Nat.reduceMul, Nat.reduceSub, abin_shl, abin_shr, load1V, loadV, storeV, cellsAt, getN, setN, allocV, lenL, lenS, bnd, oneC, Value.oneCell', Nat.reduceLeDiff, Nat.reduceLT, exists_eq_left', forall_const, reduceCtorEq, app_new, app_new0, List.append_assoc, Int.reduceToNat, Int.reduceLT, Int.reduceLE, Int.reduceEq, Int.reduceNe, Int.reduceBEq, IntKind.bits, bne_self_eq_false, Int.reducePow, g3, hR2]
    refine xcall (next_ok A2 hl) (by rfl) (by rfl) (by rfl) (by rfl) ?_
    rintro r h2 ⟨opv', outv', A3, F3, n3⟩
    simp only [sx, x_box, x_alloc, x_bslice, x_slice, x_append, x_appz, x_b2s, xop, ev, evs, evParts, fillL, cellsL, Ai.get, Ai.put, stab, isNil?, if_false, if_true, addr?, int?, str?, agg?, bool?, shiftA, FnPost, xresL, xres1, tup, argEnv, ptr, Nat.reduceEqDiff, reduceIte, beq_self_eq_true, ne_eq, Nat.reduceAdd, Nat.reduceMul, Nat.reduceSub, abin_shl, abin_shr, load1V, loadV, storeV, cellsAt, getN, setN, allocV, lenL, lenS, bnd, oneC, Value.oneCell', Nat.reduceLeDiff, Nat.reduceLT, exists_eq_left', forall_const, reduceCtorEq, app_new, app_new0, List.append_assoc, Int.reduceToNat, Int.reduceLT, Int.reduceLE, Int.reduceEq, Int.reduceNe, Int.reduceBEq, IntKind.bits, bne_self_eq_false, Int.reducePow]
    refine .inl ⟨opv', outv', A3, ?_, fun B hB => ?_⟩
    · refine ((K1.fr _).trans ⟨F2.1, fun B hB hn => F2.2 B hB fun e => hn ⟨2, .inr (.inr (.inl ⟨rfl, e⟩))⟩⟩ fun B h => .inl h).trans F3 fun B h => .inl h
    · rcases n3 B hB with h1 | h1
      · exact .inl h1
      · have := F2.1; have := K1.1; exact .inr (by omega)
end
end Go.Proofs.Ytejgaeinkojgpaa
