import Derived.Test.YtejgaeinkojgpaaK2
set_option linter.unusedVariables false
set_option linter.unusedSimpArgs false
namespace Go.Proofs.Ytejgaeinkojgpaa
open Go Go.Ai Go.Proofs

/-- an object is written no more, if it is one -/
def frzAt (h : AHeap) (A : Nat) : AHeap := match h[A]? with
  | some (some o) => if o.own = true then h.set A (some ⟨false, o.cells⟩) else h
  | _ => h
theorem frzAt_own {h : AHeap} {A : Nat} {cs : List Value} (hA : h[A]? = some (some ⟨true, cs⟩)) : frzAt h A = h.set A (some ⟨false, cs⟩) := by
  unfold frzAt; rw [hA]; rfl
theorem frzAt_end (h : AHeap) : frzAt h h.length = h := by
  unfold frzAt; rw [List.getElem?_eq_none (Nat.le_refl _)]
theorem frzAt_len (h : AHeap) (A : Nat) : (frzAt h A).length = h.length := by
  unfold frzAt; split
  · split <;> simp
  · rfl
theorem frzAt_ne {h : AHeap} {A B : Nat} (hB : A ≠ B) : (frzAt h A)[B]? = h[B]? := by
  unfold frzAt; split
  · split
    · exact set_ne hB _
    · rfl
  · rfl
theorem frzAt_frz (h : AHeap) (A : Nat) : Frz h (frzAt h A) := fun B cs hB => by
  by_cases e : A = B
  · subst e
    unfold frzAt; rw [hB]; exact hB
  · rw [frzAt_ne e]; exact hB
theorem frzAt_set {h : AHeap} {A D : Nat} (hA : A ≠ D) (o : Option AObj) : frzAt (h.set D o) A = (frzAt h A).set D o := by
  unfold frzAt
  rw [set_ne hA.symm]
  split
  · split
    · exact List.set_comm _ _ hA.symm
    · rfl
  · rfl
/-- two copies of bits are written no more -/
theorem bits_frz2 {h : AHeap} {q1 q2 : Option Addr} {b1 b2 : List Bool} {X Y N : Nat} (o1 : b1 = [] ∨ ∃ B, q1 = some ⟨B, 0, none⟩ ∧ X ≤ B ∧ B < Y ∧ h[B]? = some (some ⟨true, bB b1⟩)) (o2 : b2 = [] ∨ ∃ B, q2 = some ⟨B, 0, none⟩ ∧ Y ≤ B ∧ B < N ∧ h[B]? = some (some ⟨true, bB b2⟩)) (hX : X ≤ Y) (hY : Y ≤ N) (hN : N ≤ h.length) :
    ∃ A B, X ≤ A ∧ X ≤ B ∧ (A < N ∨ A = h.length) ∧ (B < N ∨ B = h.length) ∧ BitsV (frzAt (frzAt h A) B) (.slice q1 b1.length b1.length) b1 ∧ BitsV (frzAt (frzAt h A) B) (.slice q2 b2.length b2.length) b2 := by
  have nilB : ∀ (g : AHeap) (q : Option Addr), BitsV g (.slice q ([] : List Bool).length ([] : List Bool).length) [] := fun g q => ⟨q, 0, rfl, .inl rfl⟩
  have mk : ∀ (g : AHeap) (B : Nat) (bs : List Bool), g[B]? = some (some ⟨true, bB bs⟩) → BitsV (frzAt g B) (.slice (some ⟨B, 0, none⟩) bs.length bs.length) bs := fun g B bs hg =>
    ⟨_, _, rfl, .inr ⟨_, _, rfl, rfl, by rw [frzAt_own hg]; exact set_same hg _, getN_all _ _ (bB_len bs).symm⟩⟩
  rcases o1 with rfl | ⟨B1, rfl, k1, k2, k3⟩
  · rcases o2 with rfl | ⟨B2, rfl, j1, j2, j3⟩
    · exact ⟨h.length, h.length, by omega, by omega, .inr rfl, .inr rfl, nilB _ _, nilB _ _⟩
    · exact ⟨h.length, B2, by omega, by omega, .inr rfl, .inl j2, nilB _ _, by rw [frzAt_end]; exact mk h B2 b2 j3⟩
  · rcases o2 with rfl | ⟨B2, rfl, j1, j2, j3⟩
    · refine ⟨B1, h.length, by omega, by omega, .inl (by omega), .inr rfl, ?_, nilB _ _⟩
      have := mk h B1 b1 k3
      rw [← frzAt_len h B1, frzAt_end]; exact this
    · exact ⟨B1, B2, by omega, by omega, .inl (by omega), .inl j2, (mk h B1 b1 k3).frz (frzAt_frz _ _), mk _ B2 b2 (by rw [frzAt_ne (by omega)]; exact j3)⟩
theorem frzAt_kp {h h' : AHeap} (k : Kp h h') {A : Nat} (hA : h.length ≤ A) : Kp h (frzAt h' A) := ⟨by rw [frzAt_len]; exact k.1, fun B hB => by rw [frzAt_ne (by omega)]; exact k.2 B hB⟩
theorem Valid.freezeA {P : Program} {f : FuncId} {args : List Value} {h : AHeap} {Q : Value → AHeap → Prop} (v : Valid P f args h fun r h' => ∃ A, Q r (frzAt h' A)) : Valid P f args h Q :=
  Valid.freeze (v.mono fun r h' ⟨A, hQ⟩ => by
    unfold frzAt at hQ
    split at hQ
    · rename_i o ho
      split at hQ
      · rename_i hw
        obtain ⟨w, cs⟩ := o
        simp only at hw; subst hw
        exact .inr ⟨A, cs, ho, hQ⟩
      · exact .inl hQ
    · exact .inl hQ)
/-- a copy of bits -/
theorem own_bits {h h1 : AHeap} {r : Value} {bs : List Bool} (o : Own h h1 r 1 (bB bs)) : ∃ q, r = .slice q bs.length bs.length ∧ (bs = [] ∨ ∃ B, q = some ⟨B, 0, none⟩ ∧ h.length ≤ B ∧ h1[B]? = some (some ⟨true, bB bs⟩)) := by
  rcases o with ⟨rfl, e⟩ | ⟨B, n, rfl, k1, k2, k3, k4⟩
  · have : bs = [] := List.eq_nil_of_length_eq_zero (by rw [← bB_len, e]; rfl)
    subst this
    exact ⟨none, rfl, .inl rfl⟩
  · rw [bB_len, Nat.mul_one] at k2
    subst k2
    refine ⟨_, rfl, ?_⟩
    by_cases h0 : bs = []
    · exact .inl h0
    · exact .inr ⟨B, rfl, k1, k4 (fun e => h0 (List.eq_nil_of_length_eq_zero e))⟩
/-- .. that is written no more -/
theorem bits_frz {h : AHeap} {q : Option Addr} {bs : List Bool} {X : Nat} (o : bs = [] ∨ ∃ B, q = some ⟨B, 0, none⟩ ∧ X ≤ B ∧ h[B]? = some (some ⟨true, bB bs⟩)) (hX : X ≤ h.length) : ∃ A, X ≤ A ∧ BitsV (frzAt h A) (.slice q bs.length bs.length) bs := by
  rcases o with rfl | ⟨B, rfl, hB, ho⟩
  · exact ⟨h.length, hX, q, 0, rfl, .inl rfl⟩
  · refine ⟨B, hB, _, _, rfl, .inr ⟨_, _, rfl, rfl, ?_, getN_all _ _ (bB_len bs).symm⟩⟩
    rw [frzAt_own ho]; exact set_same ho _
/-- Clone, and what Clip makes of it -/
theorem clone_b {h : AHeap} {q : Option Addr} {n c : Nat} {bs : List Bool} (hf : firstV 1 h n (.slice q n c) = some (bB bs)) (hn : n ≤ 1000000) :
    Valid Try.prog 48 [.slice q n c] h fun r h' => Kp h h' ∧ Valid Try.prog 47 [r] h' fun r2 h2 => h2 = h' ∧ Own h h' r2 1 (bB bs) := by
  refine (clone_ok (k := 1) (by_ := 1) (z := [.bool false]) rfl (by decide) v48 hf (by omega) (by omega)).mono ?_
  have hl := firstV_len hf
  rintro r h' (⟨rfl, rfl, e, rfl⟩ | ⟨rfl, e, rfl, rfl⟩ | ⟨h0, rfl, rfl⟩)
  · refine ⟨Kp.refl _, (clip_nil v47 h').mono ?_⟩
    rintro r2 h2 ⟨rfl, rfl⟩
    exact ⟨rfl, .inl ⟨rfl, e⟩⟩
  · refine ⟨Kp.app _ _, (clip_ok v47 _ h.length 0 0 (by decide) (.inl rfl)).mono ?_⟩
    rintro r2 h2 ⟨rfl, rfl⟩
    exact ⟨rfl, .inr ⟨h.length, 0, rfl, Nat.le_refl _, by rw [e]; rfl, by decide, by simp⟩⟩
  · refine ⟨Kp.app _ _, (clip_ok v47 _ (h.length + 1) n (unk + 1) (by unfold unk; omega) (.inr rfl)).mono ?_⟩
    rintro r2 h2 ⟨rfl, rfl⟩
    exact ⟨rfl, .inr ⟨h.length + 1, n, rfl, by omega, hl, by unfold unk; omega, fun _ => by rw [app_new]; rfl⟩⟩
section
variable {h : AHeap} {D G L T : Nat} {d : DK} {opv outv : Value}
/-- the desk's list of messages grows -/
theorem DAt.setOut {h' : AHeap} {m : Ms} {A' : Nat} {cells : List Value} (A : DAt h D G L T d opv outv) (z : Frz h h') (hl : h.length ≤ A') (hfr : ∀ i B, FD D G L T outv i B → i ≠ 4 → h'[B]? = h[B]?)
    (hg : h'[A']? = some (some ⟨true, cells⟩)) (hr : MsgsR h' cells (d.out ++ [m])) : DAt (h'.set D (some ⟨true, DCells G T d opv (.slice (some ⟨A', 0, none⟩) (d.out.length + 1) (unk + 5))⟩)) D G L T { d with out := d.out ++ [m] } opv (.slice (some ⟨A', 0, none⟩) (d.out.length + 1) (unk + 5)) := by
  have hD : h'[D]? = some (some ⟨true, DCells G T d opv outv⟩) := by rw [hfr 0 D (.inl ⟨rfl, rfl⟩) (by decide)]; exact A.obj
  have zS : Frz h' (h'.set D (some ⟨true, DCells G T d opv (.slice (some ⟨A', 0, none⟩) (d.out.length + 1) (unk + 5))⟩)) := fun B cs hB => by
    rw [set_ne (fun e1 => by rw [← e1, hD] at hB; cases hB)]; exact hB
  have hk : ∀ i B, FD D G L T outv i B → i ≠ 0 → i ≠ 4 → (h'.set D (some ⟨true, DCells G T d opv (.slice (some ⟨A', 0, none⟩) (d.out.length + 1) (unk + 5))⟩))[B]? = h[B]? := fun i B hB h0 h4 => by
    rw [set_ne (fun e => h0 (A.s i 0 B hB (.inl ⟨rfl, e.symm⟩)))]; exact hfr i B hB h4
  have hDl := A.lt (i := 0) (B := D) (.inl ⟨rfl, rfl⟩)
  refine ⟨set_same hD _, A.g.keep (hk 1 G (.inr (.inl ⟨rfl, rfl⟩)) (by decide) (by decide)) (hk 2 L (.inr (.inr (.inl ⟨rfl, rfl⟩))) (by decide) (by decide)), by rw [hk 3 T (.inr (.inr (.inr (.inl ⟨rfl, rfl⟩)))) (by decide) (by decide)]; exact A.t, A.tl, A.op.frz (z.trans zS), ⟨cells, ?_, hr.frz zS⟩, fun i j B h1 h2 => ?_⟩
  · rw [List.length_append]
    refine RetN.all (by rw [set_ne (by omega)]; exact hg) ?_
    rw [hr.len, List.length_append]; rfl
  · have tr : ∀ i, FD D G L T (.slice (some ⟨A', 0, none⟩) (d.out.length + 1) (unk + 5)) i B → (i ≠ 4 ∧ FD D G L T outv i B) ∨ (i = 4 ∧ B = A') := fun i hi => by
      rcases hi with hi | hi | hi | hi | ⟨h4, hi⟩
      · exact .inl ⟨by omega, .inl hi⟩
      · exact .inl ⟨by omega, .inr (.inl hi)⟩
      · exact .inl ⟨by omega, .inr (.inr (.inl hi))⟩
      · exact .inl ⟨by omega, .inr (.inr (.inr (.inl hi)))⟩
      · simp [slB] at hi; exact .inr ⟨h4, hi.symm⟩
    rcases tr i h1 with ⟨i1, i2⟩ | ⟨i1, i2⟩
    · rcases tr j h2 with ⟨j1, j2⟩ | ⟨j1, j2⟩
      · exact A.s i j B i2 j2
      · have := A.lt i2; omega
    · rcases tr j h2 with ⟨j1, j2⟩ | ⟨j1, j2⟩
      · have := A.lt j2; omega
      · omega
set_option maxHeartbeats 4000000 in
theorem send_ok {v : Value} {m : Ms} (A : DAt h D G L T d opv outv) (hm : MV h v m) (b1 : m.mask.length ≤ 1000000) (b2 : m.on.length ≤ 1000000) (bo : d.out.length < 100000) : Valid Try.prog 35 [.pointer (some ⟨D, 0, none⟩), v] h fun r h' => WentD h h' D G L T { d with out := d.out ++ [m] } outv := by
  refine Valid.freezeA (Valid.freezeA ?_)
  refine v35 (by simp) ?_
  obtain ⟨mv, ov, rfl, M, O⟩ := hm
  obtain ⟨mq, mc, rfl, mf⟩ := M.first
  obtain ⟨oq, oc, rfl, of⟩ := O.first
  simp only [X35, Ms.cells, sx, x_alloc, x_bslice, x_slice, x_append, x_appz, x_b2s, xop, ev, evs, evParts, fillL, cellsL, Ai.get, Ai.put, stab, isNil?, if_false, if_true, addr?, int?, str?, agg?, bool?, shiftA, FnPost, xresL, xres1, tup, argEnv, ptr, Nat.reduceEqDiff, reduceIte, beq_self_eq_true, ne_eq, Nat.reduceAdd, Nat.reduceMul, Nat.reduceSub, abin_shl, abin_shr, load1V, loadV, storeV, cellsAt, getN, setN, allocV, lenL, lenS, bnd, oneC, Value.oneCell', Nat.reduceLeDiff, Nat.reduceLT, exists_eq_left', forall_const, reduceCtorEq, app_new, app_new0, List.append_assoc, Int.reduceToNat, Int.reduceLT, Int.reduceLE, Int.reduceEq, Int.reduceNe, Int.reduceBEq, IntKind.bits, bne_self_eq_false, Int.reducePow]
  refine box_run rfl fun g1 R K1 hR hRl _ => ?_
  simp only [cellsL] at hR
  simp only [sx, x_box, x_alloc, x_bslice, x_slice, x_append, x_appz, x_b2s, xop, ev, evs, evParts, fillL, cellsL, Ai.get, Ai.put, stab, isNil?, if_false, if_true, addr?, int?, str?, agg?, bool?, shiftA, FnPost, xresL, xres1, tup, argEnv, ptr, Nat.reduceEqDiff, reduceIte, beq_self_eq_true, ne_eq, Nat.reduceAdd, Nat.reduceMul, Nat.reduceSub, abin_shl, abin_shr, load1V, loadV, storeV, cellsAt, getN, setN, allocV, lenL, lenS, bnd, oneC, Value.oneCell', Nat.reduceLeDiff, Nat.reduceLT, exists_eq_left', forall_const, reduceCtorEq, app_new, app_new0, List.append_assoc, Int.reduceToNat, Int.reduceLT, Int.reduceLE, Int.reduceEq, Int.reduceNe, Int.reduceBEq, IntKind.bits, bne_self_eq_false, Int.reducePow, hR]
  refine xcall (clone_b (K1.first mf) b1) (by rfl) (by rfl) (by rfl) (by rfl) ?_
  rintro r1 g2 ⟨K2, hV⟩
  have hR2 := K2.get hR
  simp only [sx, x_box, x_alloc, x_bslice, x_slice, x_append, x_appz, x_b2s, xop, ev, evs, evParts, fillL, cellsL, Ai.get, Ai.put, stab, isNil?, if_false, if_true, addr?, int?, str?, agg?, bool?, shiftA, FnPost, xresL, xres1, tup, argEnv, ptr, Nat.reduceEqDiff, reduceIte, beq_self_eq_true, ne_eq, Nat.reduceAdd, Nat.reduceMul, Nat.reduceSub, abin_shl, abin_shr, load1V, loadV, storeV, cellsAt, getN, setN, allocV, lenL, lenS, bnd, oneC, Value.oneCell', Nat.reduceLeDiff, Nat.reduceLT, exists_eq_left', forall_const, reduceCtorEq, app_new, app_new0, List.append_assoc, Int.reduceToNat, Int.reduceLT, Int.reduceLE, Int.reduceEq, Int.reduceNe, Int.reduceBEq, IntKind.bits, bne_self_eq_false, Int.reducePow, hR2]
  refine xcall hV (by rfl) (by rfl) (by rfl) (by rfl) ?_
  rintro r2 g3 ⟨rfl, O1⟩
  simp only [sx, x_box, x_alloc, x_bslice, x_slice, x_append, x_appz, x_b2s, xop, ev, evs, evParts, fillL, cellsL, Ai.get, Ai.put, stab, isNil?, if_false, if_true, addr?, int?, str?, agg?, bool?, shiftA, FnPost, xresL, xres1, tup, argEnv, ptr, Nat.reduceEqDiff, reduceIte, beq_self_eq_true, ne_eq, Nat.reduceAdd, Nat.reduceMul, Nat.reduceSub, abin_shl, abin_shr, load1V, loadV, storeV, cellsAt, getN, setN, allocV, lenL, lenS, bnd, oneC, Value.oneCell', Nat.reduceLeDiff, Nat.reduceLT, exists_eq_left', forall_const, reduceCtorEq, app_new, app_new0, List.append_assoc, Int.reduceToNat, Int.reduceLT, Int.reduceLE, Int.reduceEq, Int.reduceNe, Int.reduceBEq, IntKind.bits, bne_self_eq_false, Int.reducePow, hR2]
  refine xcall (clone_b (K2.first (K1.first of)) b2) (by rfl) (by rfl) (by rfl) (by rfl) ?_
  rintro r3 g4 ⟨K4, hV2⟩
  simp only [sx, x_box, x_alloc, x_bslice, x_slice, x_append, x_appz, x_b2s, xop, ev, evs, evParts, fillL, cellsL, Ai.get, Ai.put, stab, isNil?, if_false, if_true, addr?, int?, str?, agg?, bool?, shiftA, FnPost, xresL, xres1, tup, argEnv, ptr, Nat.reduceEqDiff, reduceIte, beq_self_eq_true, ne_eq, Nat.reduceAdd, Nat.reduceMul, Nat.reduceSub, abin_shl, abin_shr, load1V, loadV, storeV, cellsAt, getN, setN, allocV, lenL, lenS, bnd, oneC, Value.oneCell', Nat.reduceLeDiff, Nat.reduceLT, exists_eq_left', forall_const, reduceCtorEq, app_new, app_new0, List.append_assoc, Int.reduceToNat, Int.reduceLT, Int.reduceLE, Int.reduceEq, Int.reduceNe, Int.reduceBEq, IntKind.bits, bne_self_eq_false, Int.reducePow]
  refine xcall hV2 (by rfl) (by rfl) (by rfl) (by rfl) ?_
  rintro r4 g5 ⟨rfl, O2⟩
  obtain ⟨q1, rfl, f1⟩ := own_bits O1
  obtain ⟨q2, rfl, f2⟩ := own_bits O2
  have hR4 := K4.get hR2
  have KK := (K1.trans K2).trans K4
  have A4 := A.kp KK
  have hD := A4.obj
  have hDl := A.lt (i := 0) (B := D) (.inl ⟨rfl, rfl⟩)
  have hRD : R ≠ D := by omega
  obtain ⟨cells, RO, MR⟩ := A4.out
  simp only [DCells] at hD
  obtain ⟨oq', oc', hov⟩ : ∃ a c, outv = .slice a d.out.length c := by
    obtain ⟨_, ⟨rfl, h0⟩ | ⟨X, off, cs, rfl, -⟩⟩ := id RO
    · exact ⟨_, _, by rw [h0]⟩
    · exact ⟨_, _, rfl⟩
  subst hov
  have sRD := set_far hRD
  have hDa : ∀ (o : Option AObj) (t : AHeap), (List.set g5 R o ++ t)[D]? = some (some ⟨true, [.pointer (some ⟨G, 0, none⟩), .int .i64 d.again, .int .i64 d.age, .slice (some ⟨T, 0, none⟩) d.cs.length d.cs.length, .int .u32 d.last, .int .u32 d.heard, opv, .slice oq' d.out.length oc']⟩) := fun o t => app_old ((sRD _ _).trans hD)
  simp only [sx, x_box, x_alloc, x_bslice, x_slice, x_appz, x_b2s, xop, ev, evs, evParts, fillL, cellsL, Ai.get, Ai.put, stab, isNil?, if_false, if_true, addr?, int?, str?, agg?, bool?, shiftA, FnPost, xresL, xres1, tup, argEnv, ptr, Nat.reduceEqDiff, reduceIte, beq_self_eq_true, ne_eq, Nat.reduceAdd, Nat.reduceMul, Nat.reduceSub, abin_shl, abin_shr, load1V, loadV, storeV, cellsAt, getN, setN, allocV, lenL, lenS, bnd, oneC, Value.oneCell', Nat.reduceLeDiff, Nat.reduceLT, exists_eq_left', forall_const, reduceCtorEq, app_new, app_new0, Int.reduceToNat, Int.reduceLT, Int.reduceLE, Int.reduceEq, Int.reduceNe, Int.reduceBEq, IntKind.bits, bne_self_eq_false, Int.reducePow, hR4, hD, hDa, set_here, sRD, List.set_set]
  have K6 : Kp h (g5.set R (some ⟨true, m.cells (.slice q1 m.mask.length m.mask.length) (.slice q2 m.on.length m.on.length)⟩) ++ [some ⟨true, m.cells (.slice q1 m.mask.length m.mask.length) (.slice q2 m.on.length m.on.length)⟩]) := (KK.set (by have := K1.1; omega) _).trans (Kp.app _ _)
  have z6 : Kp g5 (g5 ++ ([] : AHeap)) := by rw [List.append_nil]; exact Kp.refl _
  have h6B : (g5.set R (some ⟨true, m.cells (.slice q1 m.mask.length m.mask.length) (.slice q2 m.on.length m.on.length)⟩) ++ [some ⟨true, m.cells (.slice q1 m.mask.length m.mask.length) (.slice q2 m.on.length m.on.length)⟩])[g5.length]? = some (some ⟨true, m.cells (.slice q1 m.mask.length m.mask.length) (.slice q2 m.on.length m.on.length)⟩) := by
    rw [List.getElem?_append_right (by simp)]; simp
  have k6 : ∀ B : Nat, B ≠ R → B < g5.length → (g5.set R (some ⟨true, m.cells (.slice q1 m.mask.length m.mask.length) (.slice q2 m.on.length m.on.length)⟩) ++ [some ⟨true, m.cells (.slice q1 m.mask.length m.mask.length) (.slice q2 m.on.length m.on.length)⟩])[B]? = g5[B]? := fun B hB hlt => by
    rw [List.getElem?_append_left (by simpa using hlt), set_ne hB.symm]
  have hlen6 : (List.set g5 R (some (AObj.mk true (m.cells (.slice q1 m.mask.length m.mask.length) (.slice q2 m.on.length m.on.length)))) ++ [some (AObj.mk true (m.cells (.slice q1 m.mask.length m.mask.length) (.slice q2 m.on.length m.on.length)))]).length = g5.length + 1 := by simp
  simp only [Ms.cells] at K6 h6B k6 hlen6
  generalize (List.set g5 R (some (AObj.mk true [Value.int .u8 m.kind, .int .u32 m.serial, .int .i64 m.first, .slice q1 m.mask.length m.mask.length, .slice q2 m.on.length m.on.length])) ++ [some (AObj.mk true [Value.int .u8 m.kind, .int .u32 m.serial, .int .i64 m.first, .slice q1 m.mask.length m.mask.length, .slice q2 m.on.length m.on.length])]) = g6 at *
  have A6 := A.kp K6
  obtain ⟨cells6, RO6, MR6⟩ := A6.out
  refine append_run (k := 5) (by_ := 64) (n := d.out.length) (m := 1) (rows := cells6) (news := m.cells (.slice q1 m.mask.length m.mask.length) (.slice q2 m.on.length m.on.length)) (sl := .slice oq' d.out.length oc') (xv := .slice (some ⟨g5.length, 0, none⟩) 1 1) rfl (by decide) rfl rfl rfl (by simp [firstV, cellsAt, h6B, getN, Ms.cells]) rfl rfl RO6.toO (by omega) (by omega) (fun h0 => by omega) (fun _ g7 A' hA' hg7 hl7 hfr7 => ?_)
  have hne4 : ∀ i B, FD D G L T (.slice oq' d.out.length oc') i B → i ≠ 4 → g7[B]? = h[B]? := fun i B hB h4 => by
    rw [hfr7 B (by have := A6.lt hB; omega) (fun e => h4 (A.s i 4 B hB (.inr (.inr (.inr (.inr ⟨rfl, e⟩)))))), K6.2 B (A.lt hB)]
  have hD7 := hne4 0 D (.inl ⟨rfl, rfl⟩) (by decide)
  rw [A.obj] at hD7
  have hD7' := hD7
  simp only [DCells] at hD7
  have z7 : Frz g6 g7 := fun B cs hB => by
    rw [hfr7 B (lt_of_get hB) (fun e => by obtain ⟨cs', h1⟩ := RO6.own e; rw [h1] at hB; cases hB)]; exact hB
  simp only [sx, x_box, x_alloc, x_bslice, x_slice, x_append, x_appz, x_b2s, xop, ev, evs, evParts, fillL, cellsL, Ai.get, Ai.put, stab, isNil?, if_false, if_true, addr?, int?, str?, agg?, bool?, shiftA, FnPost, xresL, xres1, tup, argEnv, ptr, Nat.reduceEqDiff, reduceIte, beq_self_eq_true, ne_eq, Nat.reduceAdd, Nat.reduceMul, Nat.reduceSub, abin_shl, abin_shr, load1V, loadV, storeV, cellsAt, getN, setN, allocV, lenL, lenS, bnd, oneC, Value.oneCell', Nat.reduceLeDiff, Nat.reduceLT, exists_eq_left', forall_const, reduceCtorEq, app_new, app_new0, List.append_assoc, Int.reduceToNat, Int.reduceLT, Int.reduceLE, Int.reduceEq, Int.reduceNe, Int.reduceBEq, IntKind.bits, bne_self_eq_false, Int.reducePow, hD7, set_here]
  have hKl := KK.1
  have hg5 : g5.length ≤ A' := by omega
  have o1 : m.mask = [] ∨ ∃ B, q1 = some ⟨B, 0, none⟩ ∧ h.length ≤ B ∧ B < g3.length ∧ g7[B]? = some (some ⟨true, bB m.mask⟩) := f1.imp id fun ⟨B, e1, e2, e3⟩ => by
    have hBl := lt_of_get (K4.get e3)
    have hnR : B ≠ R := fun e => by
      have := K4.get e3
      rw [e, hR4] at this
      have hc := congrArg (fun x : Option (Option AObj) => x.map fun y => y.map fun z => z.cells[0]?) this
      simp only [Option.map_some, List.getElem?_cons_zero, Option.some.injEq] at hc
      cases hm : m.mask with
      | nil => rw [hm] at hc; simp [bB] at hc
      | cons b bs => rw [hm] at hc; simp [bB] at hc
    refine ⟨B, e1, by have := K1.1; omega, lt_of_get e3, ?_⟩
    rw [hfr7 B (by omega) (fun e => ?_), k6 B hnR hBl]
    · exact K4.get e3
    · have h1 := RO.own e
      obtain ⟨cs', h1⟩ := h1
      have := A.lt (i := 4) (B := B) (.inr (.inr (.inr (.inr ⟨rfl, e⟩))))
      have := K1.1
      omega
  have o2 : m.on = [] ∨ ∃ B, q2 = some ⟨B, 0, none⟩ ∧ g3.length ≤ B ∧ B < g5.length ∧ g7[B]? = some (some ⟨true, bB m.on⟩) := f2.imp id fun ⟨B, e1, e2, e3⟩ => by
    have hBl := lt_of_get e3
    have hnR : B ≠ R := fun e => by have := lt_of_get hR2; omega
    have hK2 := K2.1
    have hK1 := K1.1
    refine ⟨B, e1, e2, hBl, ?_⟩
    rw [hfr7 B (by omega) (fun e => ?_), k6 B hnR hBl]
    · exact e3
    · have := A.lt (i := 4) (B := B) (.inr (.inr (.inr (.inr ⟨rfl, e⟩))))
      omega
  have hK2l := K2.1
  have hK1l := K1.1
  have hg7l := lt_of_get hg7
  obtain ⟨P, S, p1, p2, p3, p4, p5, p6⟩ := bits_frz2 o1 o2 (by omega) K4.1 (show g5.length ≤ g7.length by omega)
  refine ⟨P, S, ?_⟩
  rw [frzAt_set (show P ≠ D by omega), frzAt_set (show S ≠ D by omega)]
  have hPS : ∀ B, B ≠ P → B ≠ S → (frzAt (frzAt g7 P) S)[B]? = g7[B]? := fun B h1 h2 => by rw [frzAt_ne h2.symm, frzAt_ne h1.symm]
  have z8 : Frz g7 (frzAt (frzAt g7 P) S) := (frzAt_frz _ _).trans (frzAt_frz _ _)
  have hA'8 := hPS A' (by omega) (by omega)
  have hfin := A.setOut (h' := frzAt (frzAt g7 P) S) (m := m) (A' := A') ((K6.frz.trans z7).trans z8) (by omega) (fun i B hB h4 => by
    have hBl := A.lt hB
    rw [hPS B (by omega) (by omega)]; exact hne4 i B hB h4) (by rw [hA'8]; exact hg7) (MsgsR.push p5 p6 ((MR6.frz z7).frz z8))
  refine ⟨opv, _, hfin, ⟨?_, fun B hB hn => ?_⟩, fun B hB => ?_⟩
  · rw [List.length_set, frzAt_len, frzAt_len]; omega
  · rw [set_ne (fun e => hn ⟨0, .inl ⟨rfl, e.symm⟩⟩), hPS B (by omega) (by omega), hfr7 B (by omega) (fun e => hn ⟨4, .inr (.inr (.inr (.inr ⟨rfl, e⟩)))⟩), K6.2 B hB]
  · obtain ⟨i, hi | hi | hi | hi | ⟨h4, hi⟩⟩ := hB
    · exact .inl ⟨i, .inl hi⟩
    · exact .inl ⟨i, .inr (.inl hi)⟩
    · exact .inl ⟨i, .inr (.inr (.inl hi))⟩
    · exact .inl ⟨i, .inr (.inr (.inr (.inl hi)))⟩
    · simp [slB] at hi; exact .inr (by omega)
end
end Go.Proofs.Ytejgaeinkojgpaa
