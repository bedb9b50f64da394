import Derived.Test.YtejgaeinkojgpaaK5
import Derived.Test.YtejgaeinkojgpaaAiXf
set_option linter.unusedVariables false
set_option linter.unusedSimpArgs false
namespace Go.Proofs.Ytejgaeinkojgpaa
open Go Go.Ai Go.Proofs

theorem Valid.preA {P : Program} {f : FuncId} {args : List Value} {h : AHeap} {Q : Value → AHeap → Prop} (A : Nat) (v : Valid P f args (frzAt h A) Q) : Valid P f args h Q := by
  unfold frzAt at v
  split at v
  · rename_i o ho
    split at v
    · rename_i hw
      obtain ⟨w, cs⟩ := o
      simp only at hw; subst hw
      exact Valid.pre ho v
    · exact v
  · exact v
theorem MB.old {h X Y Z W : AHeap} {N O : Nat} {k s f : Int} {mv ov : Value} {mask on : List Bool} (m : MB h N O k s f mv ov mask on)
    (hX : Kp h X) (fY : ∀ B, B < X.length → slB mv ≠ some B → Y[B]? = X[B]?) (lY : Y.length = X.length + 1) (hZ : Kp Y Z) (fW : ∀ B, B < Z.length → slB ov ≠ some B → W[B]? = Z[B]?) :
    W[O]? = some (some ⟨true, [.int .u8 k, .int .u32 s, .int .i64 f, mv, ov]⟩) := by
  have hO := lt_of_get m.obj
  have hXl := hX.1
  have hZl := hZ.1
  rw [fW O (by omega) (fun e => (m.n2 O e).2 rfl), hZ.2 O (by omega), fY O (by omega) (fun e => (m.n1 O e).2 rfl), hX.2 O hO]
  exact m.obj
theorem app_one (g : AHeap) (o : Option AObj) : (g ++ [o])[g.length]? = some o := by simp
theorem bits1 {g : AHeap} {R : Nat} {b : Bool} (h : g[R]? = some (some ⟨true, [.bool b]⟩)) : firstV 1 g 1 (.slice (some ⟨R, 0, none⟩) 1 1) = some [.bool b] := by
  simp only [firstV, cellsAt, h]; simp [getN]
/-- two bits are appended -/
theorem MB.pair {h X Y Z W : AHeap} {N O : Nat} {k s f : Int} {mv ov : Value} {mask on : List Bool} {a b : Bool} {A1 A2 : Nat} (m : MB h N O k s f mv ov mask on)
    (hX : Kp h X) (hA1 : X.length ≤ A1) (r1 : RetN 1 Y (.slice (some ⟨A1, 0, none⟩) (mask.length + 1) (unk + 1)) (mask ++ [a]).length (bB (mask ++ [a]))) (fY : ∀ B, B < X.length → slB mv ≠ some B → Y[B]? = X[B]?) (lY : Y.length = X.length + 1)
    (hZ : Kp Y Z) (hA2 : Z.length ≤ A2) (r2 : RetN 1 W (.slice (some ⟨A2, 0, none⟩) (on.length + 1) (unk + 1)) (on ++ [b]).length (bB (on ++ [b]))) (fW : ∀ B, B < Z.length → slB ov ≠ some B → W[B]? = Z[B]?) (lW : W.length = Z.length + 1) :
    (∀ B, B < N → B < h.length → (W.set O (some ⟨true, [.int .u8 k, .int .u32 s, .int .i64 f, .slice (some ⟨A1, 0, none⟩) (mask.length + 1) (unk + 1), .slice (some ⟨A2, 0, none⟩) (on.length + 1) (unk + 1)]⟩))[B]? = h[B]?) ∧
    MB (W.set O (some ⟨true, [.int .u8 k, .int .u32 s, .int .i64 f, .slice (some ⟨A1, 0, none⟩) (mask.length + 1) (unk + 1), .slice (some ⟨A2, 0, none⟩) (on.length + 1) (unk + 1)]⟩)) N O k s f (.slice (some ⟨A1, 0, none⟩) (mask.length + 1) (unk + 1)) (.slice (some ⟨A2, 0, none⟩) (on.length + 1) (unk + 1)) (mask ++ [a]) (on ++ [b]) := by
  have hO := lt_of_get m.obj
  have hXl := hX.1
  have hZl := hZ.1
  have hA1l : A1 < Y.length := r1.lt (B := A1) rfl
  have hn0 := m.n0
  have old : ∀ B, B < h.length → slB mv ≠ some B → slB ov ≠ some B → W[B]? = h[B]? := fun B hB h1 h2 => by
    rw [fW B (by omega) h2, hZ.2 B (by omega), fY B (by omega) h1, hX.2 B hB]
  have hWO := old O hO (fun e => (m.n1 O e).2 rfl) (fun e => (m.n2 O e).2 rfl)
  refine ⟨fun B hB hl => ?_, ?_⟩
  · rw [set_ne (by omega), old B hl (fun e => by have := (m.n1 B e).1; omega) (fun e => by have := (m.n2 B e).1; omega)]
  · refine ⟨by rw [set_here, hWO, m.obj]; rfl, ?_, ?_, hn0, ?_, ?_, ?_⟩
    · refine r1.keep fun B hB => ?_
      simp [slB] at hB; subst hB
      rw [set_ne (by omega), fW A1 (by omega) (fun e => by have := m.o.lt e; omega), hZ.2 A1 hA1l]
    · refine r2.keep fun B hB => ?_
      simp [slB] at hB; subst hB
      rw [set_ne (by omega)]
    · intro B hB; simp [slB] at hB; omega
    · intro B hB; simp [slB] at hB; omega
    · intro B hB; simp [slB] at hB ⊢; omega
def Rg (D S O n i : Nat) (b : Bool) (ρ : Env) : Prop := get ρ 0 = some (.pointer (some ⟨D, 0, none⟩)) ∧ get ρ 2 = some (.slice (some ⟨S, 0, none⟩) n n) ∧ get ρ 3 = some (.pointer (some ⟨O, 0, none⟩)) ∧ get ρ 4 = some (.int .i64 (i : Nat)) ∧ get ρ 5 = some (.bool b) ∧ get ρ 34 = some (.slice (some ⟨S, 0, none⟩) n n) ∧ get ρ 35 = some (.int .i64 (n : Nat)) ∧ get ρ 36 = some (.int .i64 (i : Nat))
def PairM (h0 : AHeap) (N D S O n i : Nat) (b : Bool) (k s f : Int) (mask on : List Bool) (ρ : Env) (h : AHeap) : Prop := Rg D S O n i b ρ ∧ (∃ mv ov, MB h N O k s f mv ov mask on) ∧ (∀ B, B < N → h[B]? = h0[B]?) ∧ h0.length ≤ h.length
def PadI (h0 : AHeap) (N D S O n i : Nat) (b : Bool) (k s f : Int) (mask on : List Bool) (p : Nat) (m : Nat) (ρ : Env) (h : AHeap) : Prop := ∃ j, j + m = p ∧ PairM h0 N D S O n i b k s f (mask ++ List.replicate j false) (on ++ List.replicate j false) ρ h
/-- the desk and the message, between two steps -/
structure NSt (h0 : AHeap) (N D G L T O : Nat) (d : DK) (opv outv : Value) (k s : Int) (x : NX) (h : AHeap) : Prop where
  mb : ∃ mv ov, MB h N O k s x.first mv ov x.mask x.on
  dk : DAt h D G L T { d with told := x.told } opv outv
  fr : ∀ B, B < N → B ≠ T → h[B]? = h0[B]?
  len : h0.length ≤ h.length
def NI (h0 : AHeap) (N D G L T O S : Nat) (d : DK) (opv outv : Value) (k s : Int) (x0 : NX) (m : Nat) (ρ : Env) (h : AHeap) : Prop := ∃ i x, i + m = d.cs.length ∧ get ρ 0 = some (.pointer (some ⟨D, 0, none⟩)) ∧ get ρ 2 = some (.slice (some ⟨S, 0, none⟩) d.cs.length d.cs.length) ∧ get ρ 3 = some (.pointer (some ⟨O, 0, none⟩)) ∧ get ρ 34 = some (.slice (some ⟨S, 0, none⟩) d.cs.length d.cs.length) ∧ get ρ 35 = some (.int .i64 (d.cs.length : Nat)) ∧ get ρ 36 = some (.int .i64 (i : Nat)) ∧
  NSt h0 N D G L T O d opv outv k s x h ∧ NOk d.cs.length i x ∧ nx (d.locals.drop i) i x = nx d.locals 0 x0
def NE (h0 : AHeap) (N D G L T O : Nat) (d : DK) (opv outv : Value) (k s : Int) (x0 : NX) (ρ : Env) (h : AHeap) : Prop := get ρ 0 = some (.pointer (some ⟨D, 0, none⟩)) ∧ get ρ 3 = some (.pointer (some ⟨O, 0, none⟩)) ∧ NSt h0 N D G L T O d opv outv k s (nx d.locals 0 x0) h ∧ ∃ i, i ≤ d.cs.length ∧ NOk d.cs.length i (nx d.locals 0 x0)
theorem NE.of {h0 : AHeap} {N D G L T O : Nat} {d : DK} {opv outv : Value} {k s : Int} {x0 x : NX} {ρ : Env} {h : AHeap} {i : Nat} (hx : x = nx d.locals 0 x0) (g0 : get ρ 0 = some (.pointer (some ⟨D, 0, none⟩))) (g3 : get ρ 3 = some (.pointer (some ⟨O, 0, none⟩))) (st : NSt h0 N D G L T O d opv outv k s x h) (hi : i ≤ d.cs.length) (nok : NOk d.cs.length i x) : NE h0 N D G L T O d opv outv k s x0 ρ h := by
  subst hx; exact ⟨g0, g3, st, i, hi, nok⟩
/-- behind the window's test -/
def WinM (hc : AHeap) (D S O n i : Nat) (b c : Bool) (ρ : Env) (h : AHeap) : Prop := Rg D S O n i b ρ ∧ get ρ 54 = some (.bool c) ∧ h = hc
def DK.msg (d : DK) : Ms := ⟨1, IntKind.u32.wrap (d.last + 1), (nx d.locals 0 ⟨-1, [], [], d.told⟩).first, (nx d.locals 0 ⟨-1, [], [], d.told⟩).mask, (nx d.locals 0 ⟨-1, [], [], d.told⟩).on⟩
def DK.went (d : DK) : DK := { d with last := IntKind.u32.wrap (d.last + 1), told := (nx d.locals 0 ⟨-1, [], [], d.told⟩).told, op := some d.msg, age := 0, out := d.out ++ [d.msg] }
def DK.next (d : DK) : DK := if d.op.isSome = true ∨ d.locals = d.told then d else d.went
theorem RetN.fz {h : AHeap} {v : Value} {bs : List Bool} (R : RetN 1 h v bs.length (bB bs)) : ∃ A, (slB v = some A ∨ A = h.length) ∧ BitsV (frzAt h A) v bs := by
  obtain ⟨_, ⟨h1, h2⟩ | ⟨X, off, cs, h1, hX, hg⟩⟩ := R
  · have : bs = [] := List.eq_nil_of_length_eq_zero h2
    subst this h1
    exact ⟨h.length, .inr rfl, BitsV.nil _⟩
  · subst h1
    refine ⟨X, .inl rfl, _, _, rfl, .inr ⟨_, _, rfl, rfl, by rw [frzAt_own hX]; exact set_same hX _, by simpa using hg⟩⟩
section
variable {h : AHeap} {D G L T : Nat} {d : DK} {opv outv : Value}
theorem DAt.setT (A : DAt h D G L T d opv outv) {h' : AHeap} {tl : List Bool} (fr : ∀ B, B < h.length → B ≠ T → h'[B]? = h[B]?) (hT : h'[T]? = some (some ⟨true, bB tl⟩)) (hl : tl.length = d.told.length) : DAt h' D G L T { d with told := tl } opv outv := by
  have z : Frz h h' := fun B cs hB => by
    rw [fr B (lt_of_get hB) (fun e => by rw [e, A.t] at hB; cases hB)]; exact hB
  have k : ∀ i B, FD D G L T outv i B → i ≠ 3 → h'[B]? = h[B]? := fun i B hB h3 => fr B (A.lt hB) fun e => h3 (A.s i 3 B hB (.inr (.inr (.inr (.inl ⟨rfl, e⟩)))))
  exact ⟨(k 0 D (.inl ⟨rfl, rfl⟩) (by decide)).trans A.obj, A.g.keep (k 1 G (.inr (.inl ⟨rfl, rfl⟩)) (by decide)) (k 2 L (.inr (.inr (.inl ⟨rfl, rfl⟩))) (by decide)), hT, by simp only; rw [hl]; exact A.tl, A.op.frz z, A.out.keep z fun B hB => k 4 B (.inr (.inr (.inr (.inr ⟨rfl, hB⟩)))) (by decide), A.s⟩
theorem DK.locals_len (d : DK) : d.locals.length = d.cs.length := by simp [DK.locals]
set_option maxHeartbeats 8000000 in
set_option maxRecDepth 20000 in
theorem next_ok (A : DAt h D G L T d opv outv) (hl : d.out.length < 100000) : Valid Try.prog 32 [.pointer (some ⟨D, 0, none⟩)] h fun r h' => WentD h h' D G L T d.next outv := by
  refine v32 (by simp) ?_
  simp only [X32, sx, x_box, x_alloc, x_bslice, x_slice, x_append, x_appz, x_b2s, xop, ev, evs, evParts, fillL, cellsL, Ai.get, Ai.put, stab, isNil?, if_false, if_true, addr?, int?, str?, agg?, bool?, shiftA, FnPost, xresL, xres1, tup, argEnv, ptr, Nat.reduceEqDiff, reduceIte, beq_self_eq_true, ne_eq, Nat.reduceAdd, Nat.reduceMul, Nat.reduceSub, abin_shl, abin_shr, load1V, loadV, storeV, cellsAt, getN, setN, allocV, lenL, lenS, bnd, oneC, Value.oneCell', Nat.reduceLeDiff, Nat.reduceLT, exists_eq_left', forall_const, reduceCtorEq, app_new, app_new0, List.append_assoc, Int.reduceToNat, Int.reduceLT, Int.reduceLE, Int.reduceEq, Int.reduceNe, Int.reduceBEq, IntKind.bits, bne_self_eq_false, Int.reducePow]
  refine xcall (locals_ok A) (by rfl) (by rfl) (by rfl) (by rfl) ?_
  rintro r h1 ⟨S, rfl, hS, K1, hSl⟩
  have A1 := A.kp K1
  have hD := A1.obj
  have ho := A1.op
  simp only [DCells] at hD
  rcases Option.eq_none_or_eq_some d.op with hop | ⟨m, hop⟩
  rotate_left
  · rw [hop] at ho
    obtain ⟨O, mv, ov, rfl, -⟩ := ho
    simp only [sx, x_box, x_alloc, x_bslice, x_slice, x_append, x_appz, x_b2s, xop, ev, evs, evParts, fillL, cellsL, Ai.get, Ai.put, stab, isNil?, if_false, if_true, addr?, int?, str?, agg?, bool?, shiftA, FnPost, xresL, xres1, tup, argEnv, ptr, Nat.reduceEqDiff, reduceIte, beq_self_eq_true, ne_eq, Nat.reduceAdd, Nat.reduceMul, Nat.reduceSub, abin_shl, abin_shr, load1V, loadV, storeV, cellsAt, getN, setN, allocV, lenL, lenS, bnd, oneC, Value.oneCell', Nat.reduceLeDiff, Nat.reduceLT, exists_eq_left', forall_const, reduceCtorEq, app_new, app_new0, List.append_assoc, Int.reduceToNat, Int.reduceLT, Int.reduceLE, Int.reduceEq, Int.reduceNe, Int.reduceBEq, IntKind.bits, bne_self_eq_false, Int.reducePow, hD]
    unfold DK.next
    rw [if_pos (.inl (by rw [hop]; rfl))]
    exact A.same K1
  rw [hop] at ho
  unfold OpAt at ho
  subst ho
  have hbig := A.g.big
  have hpos := A.g.pos
  simp only [sx, x_box, x_alloc, x_bslice, x_slice, x_append, x_appz, x_b2s, xop, ev, evs, evParts, fillL, cellsL, Ai.get, Ai.put, stab, isNil?, if_false, if_true, addr?, int?, str?, agg?, bool?, shiftA, FnPost, xresL, xres1, tup, argEnv, ptr, Nat.reduceEqDiff, reduceIte, beq_self_eq_true, ne_eq, Nat.reduceAdd, Nat.reduceMul, Nat.reduceSub, abin_shl, abin_shr, load1V, loadV, storeV, cellsAt, getN, setN, allocV, lenL, lenS, bnd, oneC, Value.oneCell', Nat.reduceLeDiff, Nat.reduceLT, exists_eq_left', forall_const, reduceCtorEq, app_new, app_new0, List.append_assoc, Int.reduceToNat, Int.reduceLT, Int.reduceLE, Int.reduceEq, Int.reduceNe, Int.reduceBEq, IntKind.bits, bne_self_eq_false, Int.reducePow, hD]
  refine xcall (eqb_ok hS A1.t (d.locals_len) A.tl (by omega)) (by rfl) (by rfl) (by rfl) (by rfl) ?_
  rintro r h2 ⟨rfl, rfl⟩
  by_cases hlt : d.locals = d.told
  · simp only [sx, x_box, x_alloc, x_bslice, x_slice, x_append, x_appz, x_b2s, xop, ev, evs, evParts, fillL, cellsL, Ai.get, Ai.put, stab, isNil?, if_false, if_true, addr?, int?, str?, agg?, bool?, shiftA, FnPost, xresL, xres1, tup, argEnv, ptr, Nat.reduceEqDiff, reduceIte, beq_self_eq_true, ne_eq, Nat.reduceAdd, Nat.reduceMul, Nat.reduceSub, abin_shl, abin_shr, load1V, loadV, storeV, cellsAt, getN, setN, allocV, lenL, lenS, bnd, oneC, Value.oneCell', Nat.reduceLeDiff, Nat.reduceLT, exists_eq_left', forall_const, reduceCtorEq, app_new, app_new0, List.append_assoc, Int.reduceToNat, Int.reduceLT, Int.reduceLE, Int.reduceEq, Int.reduceNe, Int.reduceBEq, IntKind.bits, bne_self_eq_false, Int.reducePow, hlt]
    unfold DK.next
    rw [if_pos (.inr hlt)]
    exact A.same K1
  have hnx : d.next = d.went := by unfold DK.next; rw [if_neg (by rw [hop]; rintro (h | h); cases h; exact hlt h)]
  rw [hnx]
  simp only [sx, x_alloc, x_bslice, x_slice, x_append, x_appz, x_b2s, xop, ev, evs, evParts, fillL, cellsL, Ai.get, Ai.put, stab, isNil?, if_false, if_true, addr?, int?, str?, agg?, bool?, shiftA, FnPost, xresL, xres1, tup, argEnv, ptr, Nat.reduceEqDiff, reduceIte, beq_self_eq_true, ne_eq, Nat.reduceAdd, Nat.reduceMul, Nat.reduceSub, abin_shl, abin_shr, load1V, loadV, storeV, cellsAt, getN, setN, allocV, lenL, lenS, bnd, oneC, Value.oneCell', Nat.reduceLeDiff, Nat.reduceLT, exists_eq_left', forall_const, reduceCtorEq, app_new, app_new0, List.append_assoc, Int.reduceToNat, Int.reduceLT, Int.reduceLE, Int.reduceEq, Int.reduceNe, Int.reduceBEq, IntKind.bits, bne_self_eq_false, Int.reducePow, hlt, hD, set_here, List.set_set]
  have A2 := A1.setD' (d' := { d with last := IntKind.u32.wrap (d.last + 1) }) rfl rfl rfl rfl
  have F2 : Fr (ftD D G L T outv) h (h2.set D (some ⟨true, DCells G T { d with last := IntKind.u32.wrap (d.last + 1) } (.pointer none) outv⟩)) := (K1.fr _).trans (A1.fset _) fun B h => .inl h
  have hS2 : (h2.set D (some ⟨true, DCells G T { d with last := IntKind.u32.wrap (d.last + 1) } (.pointer none) outv⟩))[S]? = some (some ⟨true, bB d.locals⟩) := by
    rw [set_ne (by have := A.lt (i := 0) (B := D) (.inl ⟨rfl, rfl⟩); omega)]; exact hS
  simp only [DCells] at A2 F2 hS2
  generalize (h2.set D (some (AObj.mk true [Value.pointer (some ⟨G, 0, none⟩), .int .i64 d.again, .int .i64 d.age, .slice (some ⟨T, 0, none⟩) d.cs.length d.cs.length, .int .u32 (IntKind.u32.wrap (d.last + 1)), .int .u32 d.heard, .pointer none, outv]))) = h3 at *
  refine box_run rfl fun h0 O K3 hO hOl hOl2 => ?_
  refine ⟨trivial, ?_⟩
  have A3 := A2.kp K3
  simp only [cellsL] at hO
  have hS3 := K3.get hS2
  have hSl3 := lt_of_get hS2
  simp only [sx, x_box, x_alloc, x_bslice, x_slice, x_append, x_appz, x_b2s, xop, ev, evs, evParts, fillL, cellsL, Ai.get, Ai.put, stab, isNil?, if_false, if_true, addr?, int?, str?, agg?, bool?, shiftA, FnPost, xresL, xres1, tup, argEnv, ptr, Nat.reduceEqDiff, reduceIte, beq_self_eq_true, ne_eq, Nat.reduceAdd, Nat.reduceMul, Nat.reduceSub, abin_shl, abin_shr, load1V, loadV, storeV, cellsAt, getN, setN, allocV, lenL, lenS, bnd, oneC, Value.oneCell', Nat.reduceLeDiff, Nat.reduceLT, exists_eq_left', forall_const, reduceCtorEq, app_new, app_new0, List.append_assoc, Int.reduceToNat, Int.reduceLT, Int.reduceLE, Int.reduceEq, Int.reduceNe, Int.reduceBEq, IntKind.bits, bne_self_eq_false, Int.reducePow]
  refine xloop_cut (NE h0 h3.length D G L T O { d with last := IntKind.u32.wrap (d.last + 1) } (.pointer none) outv 1 (IntKind.u32.wrap (d.last + 1)) ⟨-1, [], [], d.told⟩) ?_ ?_
  · refine xcode_loop (NI h0 h3.length D G L T O S { d with last := IntKind.u32.wrap (d.last + 1) } (.pointer none) outv 1 (IntKind.u32.wrap (d.last + 1)) ⟨-1, [], [], d.told⟩) d.cs.length ?_ ?_
    · refine ⟨0, ⟨-1, [], [], d.told⟩, by simp, rfl, rfl, rfl, rfl, rfl, rfl, ⟨⟨_, _, ⟨hO, RetN.nil 1 _, RetN.nil 1 _, hOl, by simp [slB], by simp [slB], by simp [slB]⟩⟩, A3, fun B _ _ => rfl, Nat.le_refl _⟩, ⟨.inl rfl, Nat.le_refl _, rfl, A.tl, fun _ => rfl, fun h => by cases h⟩, by simp⟩
    · rintro f ρ hc ⟨i, x, hif, g0, g2, g3, g34, g35, g36, ⟨⟨mv, ov, M⟩, AE, frE, lE⟩, nok, hnx2⟩
      have hif' : i + f = d.cs.length := hif
      have hK3l := K3.1
      have hDl := A2.lt (i := 0) (B := D) (.inl ⟨rfl, rfl⟩)
      have hTl := A2.lt (i := 3) (B := T) (.inr (.inr (.inr (.inl ⟨rfl, rfl⟩))))
      have hTh := A.lt (i := 3) (B := T) (.inr (.inr (.inr (.inl ⟨rfl, rfl⟩))))
      have hDT : D ≠ T := fun e => by have := A2.s 0 3 D (.inl ⟨rfl, rfl⟩) (.inr (.inr (.inr (.inl ⟨rfl, e⟩)))); cases this
      have hSc : hc[S]? = some (some ⟨true, bB d.locals⟩) := by rw [frE S hSl3 (by omega)]; exact hS3
      have hDc := AE.obj
      have hTc := AE.t
      simp only [DCells] at hDc
      have hMc := M.obj
      have hll := d.locals_len
      have hDO : D ≠ O := by omega
      by_cases hi : i < d.cs.length
      · have hi' : (i : Int) < d.cs.length := by omega
        have hi0 : (0 : Int) ≤ i := by omega
        have hwi : IntKind.i64.wrap ((i : Int) + 1) = ((i + 1 : Nat) : Int) := by rw [i64_wrap] <;> omega
        have eb := List.getElem?_eq_getElem (l := d.locals) (i := i) (by omega)
        have et := List.getElem?_eq_getElem (l := x.told) (i := i) (by have := nok.t; simp only at this; omega)
        have hdr : d.locals.drop i = d.locals[i]'(by omega) :: d.locals.drop (i + 1) := List.drop_eq_getElem_cons (by omega)
        generalize d.locals[i]'(by omega) = b at eb hdr
        generalize x.told[i]'(by have := nok.t; simp only at this; omega) = t at et
        have cb := bB_get eb
        have ct := bB_get et
        have hx2 : (if 0 ≤ x.first ∧ x.first + 32 ≤ i then x else if x.told[i]? = some b then nx (d.locals.drop (i + 1)) (i + 1) x else nx (d.locals.drop (i + 1)) (i + 1) (x.add i b)) = nx d.locals 0 ⟨-1, [], [], d.told⟩ := by
          have : nx (d.locals.drop i) i x = nx d.locals 0 ⟨-1, [], [], d.told⟩ := hnx2
          rw [hdr] at this; exact this
        have hf1 := nok.f1
        have hw32 : IntKind.i64.wrap (x.first + 32) = x.first + 32 := i64_wrap (by omega) (by omega)
        simp only [sx, x_box, x_alloc, x_bslice, x_slice, x_append, x_appz, x_b2s, xop, ev, evs, evParts, fillL, cellsL, Ai.get, Ai.put, stab, isNil?, if_false, if_true, addr?, int?, str?, agg?, bool?, shiftA, FnPost, xresL, xres1, tup, argEnv, ptr, Nat.reduceEqDiff, reduceIte, beq_self_eq_true, ne_eq, Nat.reduceAdd, Nat.reduceMul, Nat.reduceSub, abin_shl, abin_shr, load1V, loadV, storeV, cellsAt, getN, setN, allocV, lenL, lenS, bnd, oneC, Value.oneCell', Nat.reduceLeDiff, Nat.reduceLT, exists_eq_left', forall_const, reduceCtorEq, app_new, app_new0, List.append_assoc, Int.reduceToNat, Int.reduceLT, Int.reduceLE, Int.reduceEq, Int.reduceNe, Int.reduceBEq, IntKind.bits, bne_self_eq_false, Int.reducePow, g0, g2, g3, g34, g35, g36, hi', hi0, hSc, cb, hMc, Nat.mul_one, Nat.zero_add]
        refine xgrd_cut (WinM hc D S O d.cs.length i b (decide (0 ≤ x.first ∧ x.first + 32 ≤ i))) ?_ ?_
        · by_cases h0 : 0 ≤ x.first
          · have h0' : ¬ x.first < 0 := by omega
            by_cases h32 : x.first + 32 ≤ i
            · simp only [sx, x_box, x_alloc, x_bslice, x_slice, x_append, x_appz, x_b2s, xop, ev, evs, evParts, fillL, cellsL, Ai.get, Ai.put, stab, isNil?, if_false, if_true, addr?, int?, str?, agg?, bool?, shiftA, FnPost, xresL, xres1, tup, argEnv, ptr, Nat.reduceEqDiff, reduceIte, beq_self_eq_true, ne_eq, Nat.reduceAdd, Nat.reduceMul, Nat.reduceSub, abin_shl, abin_shr, load1V, loadV, storeV, cellsAt, getN, setN, allocV, lenL, lenS, bnd, oneC, Value.oneCell', Nat.reduceLeDiff, Nat.reduceLT, exists_eq_left', forall_const, reduceCtorEq, app_new, app_new0, List.append_assoc, Int.reduceToNat, Int.reduceLT, Int.reduceLE, Int.reduceEq, Int.reduceNe, Int.reduceBEq, IntKind.bits, bne_self_eq_false, Int.reducePow, g3, hMc, h0, hw32, h32]
              exact ⟨⟨g0, g2, g3, rfl, rfl, g34, g35, g36⟩, rfl, rfl⟩
            · simp only [sx, x_box, x_alloc, x_bslice, x_slice, x_append, x_appz, x_b2s, xop, ev, evs, evParts, fillL, cellsL, Ai.get, Ai.put, stab, isNil?, if_false, if_true, addr?, int?, str?, agg?, bool?, shiftA, FnPost, xresL, xres1, tup, argEnv, ptr, Nat.reduceEqDiff, reduceIte, beq_self_eq_true, ne_eq, Nat.reduceAdd, Nat.reduceMul, Nat.reduceSub, abin_shl, abin_shr, load1V, loadV, storeV, cellsAt, getN, setN, allocV, lenL, lenS, bnd, oneC, Value.oneCell', Nat.reduceLeDiff, Nat.reduceLT, exists_eq_left', forall_const, reduceCtorEq, app_new, app_new0, List.append_assoc, Int.reduceToNat, Int.reduceLT, Int.reduceLE, Int.reduceEq, Int.reduceNe, Int.reduceBEq, IntKind.bits, bne_self_eq_false, Int.reducePow, g3, hMc, h0, hw32, h32]
              exact ⟨⟨g0, g2, g3, rfl, rfl, g34, g35, g36⟩, rfl, rfl⟩
          · simp only [sx, x_box, x_alloc, x_bslice, x_slice, x_append, x_appz, x_b2s, xop, ev, evs, evParts, fillL, cellsL, Ai.get, Ai.put, stab, isNil?, if_false, if_true, addr?, int?, str?, agg?, bool?, shiftA, FnPost, xresL, xres1, tup, argEnv, ptr, Nat.reduceEqDiff, reduceIte, beq_self_eq_true, ne_eq, Nat.reduceAdd, Nat.reduceMul, Nat.reduceSub, abin_shl, abin_shr, load1V, loadV, storeV, cellsAt, getN, setN, allocV, lenL, lenS, bnd, oneC, Value.oneCell', Nat.reduceLeDiff, Nat.reduceLT, exists_eq_left', forall_const, reduceCtorEq, app_new, app_new0, List.append_assoc, Int.reduceToNat, Int.reduceLT, Int.reduceLE, Int.reduceEq, Int.reduceNe, Int.reduceBEq, IntKind.bits, bne_self_eq_false, Int.reducePow, g3, hMc, h0]
            exact ⟨⟨g0, g2, g3, rfl, rfl, g34, g35, g36⟩, rfl, rfl⟩
        rintro ρ1 h1 ⟨⟨g0, g2, g3, g4, g5, g34, g35, g36⟩, g54, rfl⟩
        by_cases hst : 0 ≤ x.first ∧ x.first + 32 ≤ i
        · rw [if_pos hst] at hx2
          simp only [sx, x_box, x_alloc, x_bslice, x_slice, x_append, x_appz, x_b2s, xop, ev, evs, evParts, fillL, cellsL, Ai.get, Ai.put, stab, isNil?, if_false, if_true, addr?, int?, str?, agg?, bool?, shiftA, FnPost, xresL, xres1, tup, argEnv, ptr, Nat.reduceEqDiff, reduceIte, beq_self_eq_true, ne_eq, Nat.reduceAdd, Nat.reduceMul, Nat.reduceSub, abin_shl, abin_shr, load1V, loadV, storeV, cellsAt, getN, setN, allocV, lenL, lenS, bnd, oneC, Value.oneCell', Nat.reduceLeDiff, Nat.reduceLT, exists_eq_left', forall_const, reduceCtorEq, app_new, app_new0, List.append_assoc, Int.reduceToNat, Int.reduceLT, Int.reduceLE, Int.reduceEq, Int.reduceNe, Int.reduceBEq, IntKind.bits, bne_self_eq_false, Int.reducePow, g54, hst]
          exact NE.of (x := x) hx2 g0 g3 ⟨⟨mv, ov, M⟩, AE, frE, lE⟩ (Nat.le_of_lt hi) nok
        rw [if_neg hst] at hx2
        simp only [sx, x_box, x_alloc, x_bslice, x_slice, x_append, x_appz, x_b2s, xop, ev, evs, evParts, fillL, cellsL, Ai.get, Ai.put, stab, isNil?, if_false, if_true, addr?, int?, str?, agg?, bool?, shiftA, FnPost, xresL, xres1, tup, argEnv, ptr, Nat.reduceEqDiff, reduceIte, beq_self_eq_true, ne_eq, Nat.reduceAdd, Nat.reduceMul, Nat.reduceSub, abin_shl, abin_shr, load1V, loadV, storeV, cellsAt, getN, setN, allocV, lenL, lenS, bnd, oneC, Value.oneCell', Nat.reduceLeDiff, Nat.reduceLT, exists_eq_left', forall_const, reduceCtorEq, app_new, app_new0, List.append_assoc, Int.reduceToNat, Int.reduceLT, Int.reduceLE, Int.reduceEq, Int.reduceNe, Int.reduceBEq, IntKind.bits, bne_self_eq_false, Int.reducePow, g54, hst, g0, g2, g3, g4, g5, g34, g35, g36, hDc, hTc, hi0, hi', ct, Nat.mul_one, Nat.zero_add]
        by_cases hbt : b = t
        · subst hbt
          rw [if_pos et] at hx2
          have hxx : (b == b) = true := by simp
          simp only [sx, x_box, x_alloc, x_bslice, x_slice, x_append, x_appz, x_b2s, xop, ev, evs, evParts, fillL, cellsL, Ai.get, Ai.put, stab, isNil?, if_false, if_true, addr?, int?, str?, agg?, bool?, shiftA, FnPost, xresL, xres1, tup, argEnv, ptr, Nat.reduceEqDiff, reduceIte, beq_self_eq_true, ne_eq, Nat.reduceAdd, Nat.reduceMul, Nat.reduceSub, abin_shl, abin_shr, load1V, loadV, storeV, cellsAt, getN, setN, allocV, lenL, lenS, bnd, oneC, Value.oneCell', Nat.reduceLeDiff, Nat.reduceLT, exists_eq_left', forall_const, reduceCtorEq, app_new, app_new0, List.append_assoc, Int.reduceToNat, Int.reduceLT, Int.reduceLE, Int.reduceEq, Int.reduceNe, Int.reduceBEq, IntKind.bits, bne_self_eq_false, Int.reducePow, hxx, g36, hwi]
          exact ⟨f - 1, by omega, i + 1, x, by omega, g0, g2, g3, g34, g35, rfl, ⟨⟨mv, ov, M⟩, AE, frE, lE⟩, nok.keep, hx2⟩
        have hxx : (b == t) = false := by simpa using hbt
        have hne : ¬ x.told[i]? = some b := fun e => hbt (by rw [et] at e; exact (Option.some.inj e).symm)
        rw [if_neg hne] at hx2
        simp only [sx, x_box, x_alloc, x_bslice, x_slice, x_append, x_appz, x_b2s, xop, ev, evs, evParts, fillL, cellsL, Ai.get, Ai.put, stab, isNil?, if_false, if_true, addr?, int?, str?, agg?, bool?, shiftA, FnPost, xresL, xres1, tup, argEnv, ptr, Nat.reduceEqDiff, reduceIte, beq_self_eq_true, ne_eq, Nat.reduceAdd, Nat.reduceMul, Nat.reduceSub, abin_shl, abin_shr, load1V, loadV, storeV, cellsAt, getN, setN, allocV, lenL, lenS, bnd, oneC, Value.oneCell', Nat.reduceLeDiff, Nat.reduceLT, exists_eq_left', forall_const, reduceCtorEq, app_new, app_new0, List.append_assoc, Int.reduceToNat, Int.reduceLT, Int.reduceLE, Int.reduceEq, Int.reduceNe, Int.reduceBEq, IntKind.bits, bne_self_eq_false, Int.reducePow, hxx, g3, hMc]
        refine xcond_cut (PairM h1 h3.length D S O d.cs.length i b 1 (IntKind.u32.wrap (d.last + 1)) (x.fst i : Nat) x.mask x.on) ?_ ?_
        · by_cases h0 : x.first < 0
          · have hfs : x.fst i = i := by unfold NX.fst; rw [if_pos h0]
            simp only [sx, x_box, x_alloc, x_bslice, x_slice, x_append, x_appz, x_b2s, xop, ev, evs, evParts, fillL, cellsL, Ai.get, Ai.put, stab, isNil?, if_false, if_true, addr?, int?, str?, agg?, bool?, shiftA, FnPost, xresL, xres1, tup, argEnv, ptr, Nat.reduceEqDiff, reduceIte, beq_self_eq_true, ne_eq, Nat.reduceAdd, Nat.reduceMul, Nat.reduceSub, abin_shl, abin_shr, load1V, loadV, storeV, cellsAt, getN, setN, allocV, lenL, lenS, bnd, oneC, Value.oneCell', Nat.reduceLeDiff, Nat.reduceLT, exists_eq_left', forall_const, reduceCtorEq, app_new, app_new0, List.append_assoc, Int.reduceToNat, Int.reduceLT, Int.reduceLE, Int.reduceEq, Int.reduceNe, Int.reduceBEq, IntKind.bits, bne_self_eq_false, Int.reducePow, h0, g3, g4, hMc]
            refine ⟨⟨g0, g2, g3, g4, g5, g34, g35, g36⟩, ⟨mv, ov, ?_⟩, fun B hB => set_ne (by omega) _, by simp⟩
            rw [hfs]
            exact ⟨set_same hMc _, M.m.keep fun B hB => set_ne (fun e => (M.n1 B hB).2 e.symm) _, M.o.keep fun B hB => set_ne (fun e => (M.n2 B hB).2 e.symm) _, M.n0, M.n1, M.n2, M.n3⟩
          · have hfs : ((x.fst i : Nat) : Int) = x.first := by unfold NX.fst; rw [if_neg h0]; omega
            simp only [sx, x_box, x_alloc, x_bslice, x_slice, x_append, x_appz, x_b2s, xop, ev, evs, evParts, fillL, cellsL, Ai.get, Ai.put, stab, isNil?, if_false, if_true, addr?, int?, str?, agg?, bool?, shiftA, FnPost, xresL, xres1, tup, argEnv, ptr, Nat.reduceEqDiff, reduceIte, beq_self_eq_true, ne_eq, Nat.reduceAdd, Nat.reduceMul, Nat.reduceSub, abin_shl, abin_shr, load1V, loadV, storeV, cellsAt, getN, setN, allocV, lenL, lenS, bnd, oneC, Value.oneCell', Nat.reduceLeDiff, Nat.reduceLT, exists_eq_left', forall_const, reduceCtorEq, app_new, app_new0, List.append_assoc, Int.reduceToNat, Int.reduceLT, Int.reduceLE, Int.reduceEq, Int.reduceNe, Int.reduceBEq, IntKind.bits, bne_self_eq_false, Int.reducePow, h0]
            refine ⟨⟨g0, g2, g3, g4, g5, g34, g35, g36⟩, ⟨mv, ov, ?_⟩, fun B hB => rfl, Nat.le_refl _⟩
            rw [hfs]; exact M
        rintro ρ2 h2' ⟨⟨g0, g2, g3, g4, g5, g34, g35, g36⟩, ⟨mv2, ov2, M2⟩, fr2, l2⟩
        simp only [sx, x_box, x_alloc, x_bslice, x_slice, x_append, x_appz, x_b2s, xop, ev, evs, evParts, fillL, cellsL, Ai.get, Ai.put, stab, isNil?, if_false, if_true, addr?, int?, str?, agg?, bool?, shiftA, FnPost, xresL, xres1, tup, argEnv, ptr, Nat.reduceEqDiff, reduceIte, beq_self_eq_true, ne_eq, Nat.reduceAdd, Nat.reduceMul, Nat.reduceSub, abin_shl, abin_shr, load1V, loadV, storeV, cellsAt, getN, setN, allocV, lenL, lenS, bnd, oneC, Value.oneCell', Nat.reduceLeDiff, Nat.reduceLT, exists_eq_left', forall_const, reduceCtorEq, app_new, app_new0, List.append_assoc, Int.reduceToNat, Int.reduceLT, Int.reduceLE, Int.reduceEq, Int.reduceNe, Int.reduceBEq, IntKind.bits, bne_self_eq_false, Int.reducePow]
        have hml := nok.m
        have hel := nok.e
        have hfi : x.fst i ≤ i := by unfold NX.fst; split <;> omega
        have hpl : x.pad i ≤ i - x.mask.length := by unfold NX.pad; omega
        have hwf : IntKind.i64.wrap ((i : Int) - (x.fst i : Nat)) = ((i - x.fst i : Nat) : Int) := by rw [i64_wrap] <;> omega
        refine xloop_cut (PairM h1 h3.length D S O d.cs.length i b 1 (IntKind.u32.wrap (d.last + 1)) (x.fst i : Nat) (x.mask ++ List.replicate (x.pad i) false) (x.on ++ List.replicate (x.pad i) false)) ?_ ?_
        · refine xcode_loop (PadI h1 h3.length D S O d.cs.length i b 1 (IntKind.u32.wrap (d.last + 1)) (x.fst i : Nat) x.mask x.on (x.pad i)) (x.pad i) ⟨0, by omega, ⟨g0, g2, g3, g4, g5, g34, g35, g36⟩, ⟨mv2, ov2, by simpa using M2⟩, fr2, l2⟩ ?_
          clear g0 g2 g3 g4 g5 g34 g35 g36 M2 fr2 l2
          rintro q ρ3 h4 ⟨j, hj, ⟨g0, g2, g3, g4, g5, g34, g35, g36⟩, ⟨mv3, ov3, M3⟩, fr3, l3⟩
          have hM3 := M3.obj
          obtain ⟨ma, mc, hmv⟩ := M3.m.shp
          obtain ⟨oa, oc, hov⟩ := M3.o.shp
          subst hmv hov
          have hml3 : (x.mask ++ List.replicate j false).length = x.mask.length + j := by simp
          have hol3 : (x.on ++ List.replicate j false).length = x.on.length + j := by simp
          have hmk2 : x.mask ++ List.replicate (j + 1) false = (x.mask ++ List.replicate j false) ++ [false] := by rw [List.replicate_succ', List.append_assoc]
          have hok2 : x.on ++ List.replicate (j + 1) false = (x.on ++ List.replicate j false) ++ [false] := by rw [List.replicate_succ', List.append_assoc]
          have hmk3 : x.mask ++ List.replicate (x.pad i) false = x.mask ++ List.replicate (x.pad i) false := rfl
          by_cases hjp : j < x.pad i
          · have hlt : (((x.mask ++ List.replicate j false).length : Nat) : Int) < ((i - x.fst i : Nat) : Int) := by rw [hml3]; unfold NX.pad at hjp; omega
            rw [hml3] at hlt
            generalize hmk : x.mask ++ List.replicate j false = mk at *
            generalize hok : x.on ++ List.replicate j false = ok at *
            rw [← hml3] at hlt
            have hM3t : ∀ t : AHeap, (h4 ++ t)[O]? = h4[O]? := fun t => List.getElem?_append_left (lt_of_get hM3)
            have hM3u : ∀ t u : AHeap, (h4 ++ t ++ u)[O]? = h4[O]? := fun t u => by rw [List.append_assoc]; exact hM3t _
            have hn3l := hml3
            have hn3o := hol3
            simp only [sx, x_box, x_alloc, x_bslice, x_slice, x_appz, x_b2s, xop, ev, evs, evParts, fillL, cellsL, Ai.get, Ai.put, stab, isNil?, if_false, if_true, addr?, int?, str?, agg?, bool?, shiftA, FnPost, xresL, xres1, tup, argEnv, ptr, Nat.reduceEqDiff, reduceIte, beq_self_eq_true, ne_eq, Nat.reduceAdd, Nat.reduceMul, Nat.reduceSub, abin_shl, abin_shr, load1V, loadV, storeV, cellsAt, getN, setN, allocV, lenL, lenS, bnd, oneC, Value.oneCell', Nat.reduceLeDiff, Nat.reduceLT, exists_eq_left', forall_const, reduceCtorEq, app_new, app_new0, Int.reduceToNat, Int.reduceLT, Int.reduceLE, Int.reduceEq, Int.reduceNe, Int.reduceBEq, IntKind.bits, bne_self_eq_false, Int.reducePow, g3, g4, hM3, hwf, hlt, hM3t, hM3u]
            refine and_cut3 (PairM h1 h3.length D S O d.cs.length i b 1 (IntKind.u32.wrap (d.last + 1)) (x.fst i : Nat) (mk ++ [false]) (ok ++ [false])) ?_ ?_ ?_ ?_
            · have kX : Kp h4 (h4 ++ [some (AObj.mk true [Value.bool false])]) := Kp.app _ _
              have hbX := app_one (h4) (some (AObj.mk true [Value.bool false]))
              generalize h4 ++ [some (AObj.mk true [Value.bool false])] = X at *
              refine xops_st (push1 (M3.keep fun B _ hB => kX.2 B hB).m (by rfl) (by rfl) (by rfl) (bits1 hbX) (by omega) fun Y A1 hA1 hA1l lY r1 fY => ?_)
              have hYO := M3.old kX fY lY (Kp.refl _) (fun B _ _ => rfl)
              have hYt : ∀ t : AHeap, (Y ++ t)[O]? = Y[O]? := fun t => List.getElem?_append_left (lt_of_get hYO)
              simp only [sx, x_box, x_alloc, x_bslice, x_slice, x_appz, x_b2s, xop, ev, evs, evParts, fillL, cellsL, Ai.get, Ai.put, stab, isNil?, if_false, if_true, addr?, int?, str?, agg?, bool?, shiftA, FnPost, xresL, xres1, tup, argEnv, ptr, Nat.reduceEqDiff, reduceIte, beq_self_eq_true, ne_eq, Nat.reduceAdd, Nat.reduceMul, Nat.reduceSub, abin_shl, abin_shr, load1V, loadV, storeV, cellsAt, getN, setN, allocV, lenL, lenS, bnd, oneC, Value.oneCell', Nat.reduceLeDiff, Nat.reduceLT, exists_eq_left', forall_const, reduceCtorEq, app_new, app_new0, Int.reduceToNat, Int.reduceLT, Int.reduceLE, Int.reduceEq, Int.reduceNe, Int.reduceBEq, IntKind.bits, bne_self_eq_false, Int.reducePow, hYO, hYt]
              have kZ : Kp Y (Y ++ [some (AObj.mk true [Value.bool false])]) := Kp.app _ _
              have hbZ := app_one (Y) (some (AObj.mk true [Value.bool false]))
              generalize Y ++ [some (AObj.mk true [Value.bool false])] = Z at *
              have ro : RetN 1 Z (.slice oa ok.length oc) _ _ := M3.o.keep fun B hB => by rw [kZ.2 B (by have := M3.o.lt hB; have := kX.1; omega), fY B (by have := M3.o.lt hB; have := kX.1; omega) (fun e => M3.n3 B e hB), kX.2 B (M3.o.lt hB)]
              refine push1 ro (by rfl) (by rfl) (by rfl) (bits1 hbZ) (by omega) fun W A2 hA2 hA2l lW r2 fW => ?_
              have hWO := M3.old kX fY lY kZ fW
              simp only [sx, x_box, x_alloc, x_bslice, x_slice, x_appz, x_b2s, xop, ev, evs, evParts, fillL, cellsL, Ai.get, Ai.put, stab, isNil?, if_false, if_true, addr?, int?, str?, agg?, bool?, shiftA, FnPost, xresL, xres1, tup, argEnv, ptr, Nat.reduceEqDiff, reduceIte, beq_self_eq_true, ne_eq, Nat.reduceAdd, Nat.reduceMul, Nat.reduceSub, abin_shl, abin_shr, load1V, loadV, storeV, cellsAt, getN, setN, allocV, lenL, lenS, bnd, oneC, Value.oneCell', Nat.reduceLeDiff, Nat.reduceLT, exists_eq_left', forall_const, reduceCtorEq, app_new, app_new0, Int.reduceToNat, Int.reduceLT, Int.reduceLE, Int.reduceEq, Int.reduceNe, Int.reduceBEq, IntKind.bits, bne_self_eq_false, Int.reducePow, hWO, set_here, List.set_set]
              obtain ⟨q1, q2⟩ := M3.pair kX hA1 r1 fY lY kZ hA2 r2 fW lW
              refine ⟨⟨g0, g2, g3, g4, g5, g34, g35, g36⟩, ⟨_, _, q2⟩, fun B hB => ?_, ?_⟩
              · rw [q1 B hB (by omega)]; exact fr3 B hB
              · have := kX.1; have := kZ.1; rw [List.length_set]; omega
            · have k1 : Kp h4 (h4 ++ [some (AObj.mk true [Value.bool false])]) := Kp.app _ _
              have hb1 := app_one (h4) (some (AObj.mk true [Value.bool false]))
              have hl1 : (h4 ++ [some (AObj.mk true [Value.bool false])]).length = h4.length + 1 := by simp
              have k2 : Kp (h4 ++ [some (AObj.mk true [Value.bool false])]) (h4 ++ [some (AObj.mk true [Value.bool false])] ++ [some (AObj.mk true [Value.bool false])]) := Kp.app _ _
              have hb2 := app_one (h4 ++ [some (AObj.mk true [Value.bool false])]) (some (AObj.mk true [Value.bool false]))
              have hl2 : (h4 ++ [some (AObj.mk true [Value.bool false])] ++ [some (AObj.mk true [Value.bool false])]).length = h4.length + 2 := by simp
              rw [hl1] at hb2
              have hb1' := k2.get hb1
              have kX := k1.trans k2
              generalize h4 ++ [some (AObj.mk true [Value.bool false])] ++ [some (AObj.mk true [Value.bool false])] = X at *
              refine xops_st (push1 (M3.keep fun B _ hB => kX.2 B hB).m (by rfl) (by rfl) (by rfl) (bits1 hb1') (by omega) fun Y A1 hA1 hA1l lY r1 fY => ?_)
              have hYO := M3.old kX fY lY (Kp.refl _) (fun B _ _ => rfl)
              simp only [sx, x_box, x_alloc, x_bslice, x_slice, x_appz, x_b2s, xop, ev, evs, evParts, fillL, cellsL, Ai.get, Ai.put, stab, isNil?, if_false, if_true, addr?, int?, str?, agg?, bool?, shiftA, FnPost, xresL, xres1, tup, argEnv, ptr, Nat.reduceEqDiff, reduceIte, beq_self_eq_true, ne_eq, Nat.reduceAdd, Nat.reduceMul, Nat.reduceSub, abin_shl, abin_shr, load1V, loadV, storeV, cellsAt, getN, setN, allocV, lenL, lenS, bnd, oneC, Value.oneCell', Nat.reduceLeDiff, Nat.reduceLT, exists_eq_left', forall_const, reduceCtorEq, app_new, app_new0, Int.reduceToNat, Int.reduceLT, Int.reduceLE, Int.reduceEq, Int.reduceNe, Int.reduceBEq, IntKind.bits, bne_self_eq_false, Int.reducePow, hYO]
              have ro : RetN 1 Y (.slice oa ok.length oc) _ _ := M3.o.keep fun B hB => by rw [fY B (by have := M3.o.lt hB; have := kX.1; omega) (fun e => M3.n3 B e hB), kX.2 B (M3.o.lt hB)]
              have hbo := (fY _ (lt_of_get hb2) (fun e => by have := M3.m.lt e; omega)).trans hb2
              refine push1 ro (by rfl) (by rfl) (by rfl) (bits1 hbo) (by omega) fun W A2 hA2 hA2l lW r2 fW => ?_
              have hWO := M3.old kX fY lY (Kp.refl Y) fW
              simp only [sx, x_box, x_alloc, x_bslice, x_slice, x_appz, x_b2s, xop, ev, evs, evParts, fillL, cellsL, Ai.get, Ai.put, stab, isNil?, if_false, if_true, addr?, int?, str?, agg?, bool?, shiftA, FnPost, xresL, xres1, tup, argEnv, ptr, Nat.reduceEqDiff, reduceIte, beq_self_eq_true, ne_eq, Nat.reduceAdd, Nat.reduceMul, Nat.reduceSub, abin_shl, abin_shr, load1V, loadV, storeV, cellsAt, getN, setN, allocV, lenL, lenS, bnd, oneC, Value.oneCell', Nat.reduceLeDiff, Nat.reduceLT, exists_eq_left', forall_const, reduceCtorEq, app_new, app_new0, Int.reduceToNat, Int.reduceLT, Int.reduceLE, Int.reduceEq, Int.reduceNe, Int.reduceBEq, IntKind.bits, bne_self_eq_false, Int.reducePow, hWO, set_here, List.set_set]
              obtain ⟨q1, q2⟩ := M3.pair kX hA1 r1 fY lY (Kp.refl Y) hA2 r2 fW lW
              refine ⟨⟨g0, g2, g3, g4, g5, g34, g35, g36⟩, ⟨_, _, q2⟩, fun B hB => ?_, ?_⟩
              · rw [q1 B hB (by omega)]; exact fr3 B hB
              · have := kX.1; have := (Kp.refl Y).1; rw [List.length_set]; omega
            · have k1 : Kp h4 (h4 ++ [some (AObj.mk true [Value.bool false])]) := Kp.app _ _
              have hb1 := app_one (h4) (some (AObj.mk true [Value.bool false]))
              have hl1 : (h4 ++ [some (AObj.mk true [Value.bool false])]).length = h4.length + 1 := by simp
              have k2 : Kp (h4 ++ [some (AObj.mk true [Value.bool false])]) (h4 ++ [some (AObj.mk true [Value.bool false])] ++ [some (AObj.mk true [Value.bool false])]) := Kp.app _ _
              have hb2 := app_one (h4 ++ [some (AObj.mk true [Value.bool false])]) (some (AObj.mk true [Value.bool false]))
              have hl2 : (h4 ++ [some (AObj.mk true [Value.bool false])] ++ [some (AObj.mk true [Value.bool false])]).length = h4.length + 2 := by simp
              rw [hl1] at hb2
              have hb1' := k2.get hb1
              have kX := k1.trans k2
              generalize h4 ++ [some (AObj.mk true [Value.bool false])] ++ [some (AObj.mk true [Value.bool false])] = X at *
              refine xops_st (push1 (M3.keep fun B _ hB => kX.2 B hB).m (by rfl) (by rfl) (by rfl) (bits1 hb2) (by omega) fun Y A1 hA1 hA1l lY r1 fY => ?_)
              have hYO := M3.old kX fY lY (Kp.refl _) (fun B _ _ => rfl)
              simp only [sx, x_box, x_alloc, x_bslice, x_slice, x_appz, x_b2s, xop, ev, evs, evParts, fillL, cellsL, Ai.get, Ai.put, stab, isNil?, if_false, if_true, addr?, int?, str?, agg?, bool?, shiftA, FnPost, xresL, xres1, tup, argEnv, ptr, Nat.reduceEqDiff, reduceIte, beq_self_eq_true, ne_eq, Nat.reduceAdd, Nat.reduceMul, Nat.reduceSub, abin_shl, abin_shr, load1V, loadV, storeV, cellsAt, getN, setN, allocV, lenL, lenS, bnd, oneC, Value.oneCell', Nat.reduceLeDiff, Nat.reduceLT, exists_eq_left', forall_const, reduceCtorEq, app_new, app_new0, Int.reduceToNat, Int.reduceLT, Int.reduceLE, Int.reduceEq, Int.reduceNe, Int.reduceBEq, IntKind.bits, bne_self_eq_false, Int.reducePow, hYO]
              have ro : RetN 1 Y (.slice oa ok.length oc) _ _ := M3.o.keep fun B hB => by rw [fY B (by have := M3.o.lt hB; have := kX.1; omega) (fun e => M3.n3 B e hB), kX.2 B (M3.o.lt hB)]
              have hbo := (fY _ (lt_of_get hb1') (fun e => by have := M3.m.lt e; omega)).trans hb1'
              refine push1 ro (by rfl) (by rfl) (by rfl) (bits1 hbo) (by omega) fun W A2 hA2 hA2l lW r2 fW => ?_
              have hWO := M3.old kX fY lY (Kp.refl Y) fW
              simp only [sx, x_box, x_alloc, x_bslice, x_slice, x_appz, x_b2s, xop, ev, evs, evParts, fillL, cellsL, Ai.get, Ai.put, stab, isNil?, if_false, if_true, addr?, int?, str?, agg?, bool?, shiftA, FnPost, xresL, xres1, tup, argEnv, ptr, Nat.reduceEqDiff, reduceIte, beq_self_eq_true, ne_eq, Nat.reduceAdd, Nat.reduceMul, Nat.reduceSub, abin_shl, abin_shr, load1V, loadV, storeV, cellsAt, getN, setN, allocV, lenL, lenS, bnd, oneC, Value.oneCell', Nat.reduceLeDiff, Nat.reduceLT, exists_eq_left', forall_const, reduceCtorEq, app_new, app_new0, Int.reduceToNat, Int.reduceLT, Int.reduceLE, Int.reduceEq, Int.reduceNe, Int.reduceBEq, IntKind.bits, bne_self_eq_false, Int.reducePow, hWO, set_here, List.set_set]
              obtain ⟨q1, q2⟩ := M3.pair kX hA1 r1 fY lY (Kp.refl Y) hA2 r2 fW lW
              refine ⟨⟨g0, g2, g3, g4, g5, g34, g35, g36⟩, ⟨_, _, q2⟩, fun B hB => ?_, ?_⟩
              · rw [q1 B hB (by omega)]; exact fr3 B hB
              · have := kX.1; have := (Kp.refl Y).1; rw [List.length_set]; omega
            rintro ρ4 h5 PM
            simp only [sx, x_box, x_alloc, x_bslice, x_slice, x_append, x_appz, x_b2s, xop, ev, evs, evParts, fillL, cellsL, Ai.get, Ai.put, stab, isNil?, if_false, if_true, addr?, int?, str?, agg?, bool?, shiftA, FnPost, xresL, xres1, tup, argEnv, ptr, Nat.reduceEqDiff, reduceIte, beq_self_eq_true, ne_eq, Nat.reduceAdd, Nat.reduceMul, Nat.reduceSub, abin_shl, abin_shr, load1V, loadV, storeV, cellsAt, getN, setN, allocV, lenL, lenS, bnd, oneC, Value.oneCell', Nat.reduceLeDiff, Nat.reduceLT, exists_eq_left', forall_const, reduceCtorEq, app_new, app_new0, List.append_assoc, Int.reduceToNat, Int.reduceLT, Int.reduceLE, Int.reduceEq, Int.reduceNe, Int.reduceBEq, IntKind.bits, bne_self_eq_false, Int.reducePow]
            exact ⟨q - 1, by omega, j + 1, by omega, by rw [hmk2, hok2]; exact PM⟩
          · have hlt : ¬ (((x.mask ++ List.replicate j false).length : Nat) : Int) < ((i - x.fst i : Nat) : Int) := by rw [hml3]; unfold NX.pad at hjp; omega
            have hjq : j = x.pad i := by omega
            subst hjq
            generalize x.mask ++ List.replicate (x.pad i) false = mk at *
            generalize x.on ++ List.replicate (x.pad i) false = ok at *
            simp only [sx, x_box, x_alloc, x_bslice, x_slice, x_append, x_appz, x_b2s, xop, ev, evs, evParts, fillL, cellsL, Ai.get, Ai.put, stab, isNil?, if_false, if_true, addr?, int?, str?, agg?, bool?, shiftA, FnPost, xresL, xres1, tup, argEnv, ptr, Nat.reduceEqDiff, reduceIte, beq_self_eq_true, ne_eq, Nat.reduceAdd, Nat.reduceMul, Nat.reduceSub, abin_shl, abin_shr, load1V, loadV, storeV, cellsAt, getN, setN, allocV, lenL, lenS, bnd, oneC, Value.oneCell', Nat.reduceLeDiff, Nat.reduceLT, exists_eq_left', forall_const, reduceCtorEq, app_new, app_new0, List.append_assoc, Int.reduceToNat, Int.reduceLT, Int.reduceLE, Int.reduceEq, Int.reduceNe, Int.reduceBEq, IntKind.bits, bne_self_eq_false, Int.reducePow, g3, g4, hM3, hwf, hlt]
            exact ⟨⟨g0, g2, g3, g4, g5, g34, g35, g36⟩, ⟨_, _, M3⟩, fr3, l3⟩
        rintro ρ3 h4 ⟨⟨g0, g2, g3, g4, g5, g34, g35, g36⟩, ⟨mv3, ov3, M3⟩, fr3, l3⟩
        clear M2 fr2 l2
        have hM3 := M3.obj
        obtain ⟨ma, mc, hmv⟩ := M3.m.shp
        obtain ⟨oa, oc, hov⟩ := M3.o.shp
        subst hmv hov
        have hml3 : (x.mask ++ List.replicate (x.pad i) false).length = x.mask.length + x.pad i := by simp
        have hol3 : (x.on ++ List.replicate (x.pad i) false).length = x.on.length + x.pad i := by simp
        generalize hmk : x.mask ++ List.replicate (x.pad i) false = mk at *
        generalize hok : x.on ++ List.replicate (x.pad i) false = ok at *
        have hM3t : ∀ t : AHeap, (h4 ++ t)[O]? = h4[O]? := fun t => List.getElem?_append_left (lt_of_get hM3)
        have hM3u : ∀ t u : AHeap, (h4 ++ t ++ u)[O]? = h4[O]? := fun t u => by rw [List.append_assoc]; exact hM3t _
        simp only [sx, x_box, x_alloc, x_bslice, x_slice, x_appz, x_b2s, xop, ev, evs, evParts, fillL, cellsL, Ai.get, Ai.put, stab, isNil?, if_false, if_true, addr?, int?, str?, agg?, bool?, shiftA, FnPost, xresL, xres1, tup, argEnv, ptr, Nat.reduceEqDiff, reduceIte, beq_self_eq_true, ne_eq, Nat.reduceAdd, Nat.reduceMul, Nat.reduceSub, abin_shl, abin_shr, load1V, loadV, storeV, cellsAt, getN, setN, allocV, lenL, lenS, bnd, oneC, Value.oneCell', Nat.reduceLeDiff, Nat.reduceLT, exists_eq_left', forall_const, reduceCtorEq, app_new, app_new0, Int.reduceToNat, Int.reduceLT, Int.reduceLE, Int.reduceEq, Int.reduceNe, Int.reduceBEq, IntKind.bits, bne_self_eq_false, Int.reducePow, g3, g4, g5, hM3, hM3t, hM3u]
        refine and_cut3 (PairM h1 h3.length D S O d.cs.length i b 1 (IntKind.u32.wrap (d.last + 1)) (x.fst i : Nat) (mk ++ [true]) (ok ++ [b])) ?_ ?_ ?_ ?_
        · have kX : Kp h4 (h4 ++ [some (AObj.mk true [Value.bool true])]) := Kp.app _ _
          have hbX := app_one (h4) (some (AObj.mk true [Value.bool true]))
          generalize h4 ++ [some (AObj.mk true [Value.bool true])] = X at *
          refine xops_st (push1 (M3.keep fun B _ hB => kX.2 B hB).m (by rfl) (by rfl) (by rfl) (bits1 hbX) (by omega) fun Y A1 hA1 hA1l lY r1 fY => ?_)
          have hYO := M3.old kX fY lY (Kp.refl _) (fun B _ _ => rfl)
          have hYt : ∀ t : AHeap, (Y ++ t)[O]? = Y[O]? := fun t => List.getElem?_append_left (lt_of_get hYO)
          simp only [sx, x_box, x_alloc, x_bslice, x_slice, x_appz, x_b2s, xop, ev, evs, evParts, fillL, cellsL, Ai.get, Ai.put, stab, isNil?, if_false, if_true, addr?, int?, str?, agg?, bool?, shiftA, FnPost, xresL, xres1, tup, argEnv, ptr, Nat.reduceEqDiff, reduceIte, beq_self_eq_true, ne_eq, Nat.reduceAdd, Nat.reduceMul, Nat.reduceSub, abin_shl, abin_shr, load1V, loadV, storeV, cellsAt, getN, setN, allocV, lenL, lenS, bnd, oneC, Value.oneCell', Nat.reduceLeDiff, Nat.reduceLT, exists_eq_left', forall_const, reduceCtorEq, app_new, app_new0, Int.reduceToNat, Int.reduceLT, Int.reduceLE, Int.reduceEq, Int.reduceNe, Int.reduceBEq, IntKind.bits, bne_self_eq_false, Int.reducePow, hYO, hYt, g3, g4, g5]
          have kZ : Kp Y (Y ++ [some (AObj.mk true [Value.bool b])]) := Kp.app _ _
          have hbZ := app_one Y (some (AObj.mk true [Value.bool b]))
          generalize Y ++ [some (AObj.mk true [Value.bool b])] = Z at *
          have ro : RetN 1 Z (.slice oa ok.length oc) _ _ := M3.o.keep fun B hB => by rw [kZ.2 B (by have := M3.o.lt hB; have := kX.1; omega), fY B (by have := M3.o.lt hB; have := kX.1; omega) (fun e => M3.n3 B e hB), kX.2 B (M3.o.lt hB)]
          refine push1 ro (by rfl) (by rfl) (by rfl) (bits1 hbZ) (by omega) fun W A2 hA2 hA2l lW r2 fW => ?_
          have hWO := M3.old kX fY lY kZ fW
          simp only [sx, x_box, x_alloc, x_bslice, x_slice, x_appz, x_b2s, xop, ev, evs, evParts, fillL, cellsL, Ai.get, Ai.put, stab, isNil?, if_false, if_true, addr?, int?, str?, agg?, bool?, shiftA, FnPost, xresL, xres1, tup, argEnv, ptr, Nat.reduceEqDiff, reduceIte, beq_self_eq_true, ne_eq, Nat.reduceAdd, Nat.reduceMul, Nat.reduceSub, abin_shl, abin_shr, load1V, loadV, storeV, cellsAt, getN, setN, allocV, lenL, lenS, bnd, oneC, Value.oneCell', Nat.reduceLeDiff, Nat.reduceLT, exists_eq_left', forall_const, reduceCtorEq, app_new, app_new0, Int.reduceToNat, Int.reduceLT, Int.reduceLE, Int.reduceEq, Int.reduceNe, Int.reduceBEq, IntKind.bits, bne_self_eq_false, Int.reducePow, hWO, set_here, List.set_set]
          obtain ⟨q1, q2⟩ := M3.pair kX hA1 r1 fY lY kZ hA2 r2 fW lW
          refine ⟨⟨g0, g2, g3, g4, g5, g34, g35, g36⟩, ⟨_, _, q2⟩, fun B hB => ?_, ?_⟩
          · rw [q1 B hB (by omega)]; exact fr3 B hB
          · have := kX.1; have := kZ.1; rw [List.length_set]; omega
        · have k1 : Kp h4 (h4 ++ [some (AObj.mk true [Value.bool true])]) := Kp.app _ _
          have hb1 := app_one (h4) (some (AObj.mk true [Value.bool true]))
          have hl1 : (h4 ++ [some (AObj.mk true [Value.bool true])]).length = h4.length + 1 := by simp
          have k2 : Kp (h4 ++ [some (AObj.mk true [Value.bool true])]) (h4 ++ [some (AObj.mk true [Value.bool true])] ++ [some (AObj.mk true [Value.bool b])]) := Kp.app _ _
          have hb2 := app_one (h4 ++ [some (AObj.mk true [Value.bool true])]) (some (AObj.mk true [Value.bool b]))
          have hl2 : (h4 ++ [some (AObj.mk true [Value.bool true])] ++ [some (AObj.mk true [Value.bool b])]).length = h4.length + 2 := by simp
          rw [hl1] at hb2
          have hb1' := k2.get hb1
          have kX := k1.trans k2
          generalize h4 ++ [some (AObj.mk true [Value.bool true])] ++ [some (AObj.mk true [Value.bool b])] = X at *
          refine xops_st (push1 (M3.keep fun B _ hB => kX.2 B hB).m (by rfl) (by rfl) (by rfl) (bits1 hb1') (by omega) fun Y A1 hA1 hA1l lY r1 fY => ?_)
          have hYO := M3.old kX fY lY (Kp.refl _) (fun B _ _ => rfl)
          simp only [sx, x_box, x_alloc, x_bslice, x_slice, x_appz, x_b2s, xop, ev, evs, evParts, fillL, cellsL, Ai.get, Ai.put, stab, isNil?, if_false, if_true, addr?, int?, str?, agg?, bool?, shiftA, FnPost, xresL, xres1, tup, argEnv, ptr, Nat.reduceEqDiff, reduceIte, beq_self_eq_true, ne_eq, Nat.reduceAdd, Nat.reduceMul, Nat.reduceSub, abin_shl, abin_shr, load1V, loadV, storeV, cellsAt, getN, setN, allocV, lenL, lenS, bnd, oneC, Value.oneCell', Nat.reduceLeDiff, Nat.reduceLT, exists_eq_left', forall_const, reduceCtorEq, app_new, app_new0, Int.reduceToNat, Int.reduceLT, Int.reduceLE, Int.reduceEq, Int.reduceNe, Int.reduceBEq, IntKind.bits, bne_self_eq_false, Int.reducePow, hYO, g3, g4, g5]
          have ro : RetN 1 Y (.slice oa ok.length oc) _ _ := M3.o.keep fun B hB => by rw [fY B (by have := M3.o.lt hB; have := kX.1; omega) (fun e => M3.n3 B e hB), kX.2 B (M3.o.lt hB)]
          have hbo := (fY _ (lt_of_get hb2) (fun e => by have := M3.m.lt e; omega)).trans hb2
          refine push1 ro (by rfl) (by rfl) (by rfl) (bits1 hbo) (by omega) fun W A2 hA2 hA2l lW r2 fW => ?_
          have hWO := M3.old kX fY lY (Kp.refl Y) fW
          simp only [sx, x_box, x_alloc, x_bslice, x_slice, x_appz, x_b2s, xop, ev, evs, evParts, fillL, cellsL, Ai.get, Ai.put, stab, isNil?, if_false, if_true, addr?, int?, str?, agg?, bool?, shiftA, FnPost, xresL, xres1, tup, argEnv, ptr, Nat.reduceEqDiff, reduceIte, beq_self_eq_true, ne_eq, Nat.reduceAdd, Nat.reduceMul, Nat.reduceSub, abin_shl, abin_shr, load1V, loadV, storeV, cellsAt, getN, setN, allocV, lenL, lenS, bnd, oneC, Value.oneCell', Nat.reduceLeDiff, Nat.reduceLT, exists_eq_left', forall_const, reduceCtorEq, app_new, app_new0, Int.reduceToNat, Int.reduceLT, Int.reduceLE, Int.reduceEq, Int.reduceNe, Int.reduceBEq, IntKind.bits, bne_self_eq_false, Int.reducePow, hWO, set_here, List.set_set]
          obtain ⟨q1, q2⟩ := M3.pair kX hA1 r1 fY lY (Kp.refl Y) hA2 r2 fW lW
          refine ⟨⟨g0, g2, g3, g4, g5, g34, g35, g36⟩, ⟨_, _, q2⟩, fun B hB => ?_, ?_⟩
          · rw [q1 B hB (by omega)]; exact fr3 B hB
          · have := kX.1; have := (Kp.refl Y).1; rw [List.length_set]; omega
        · have k1 : Kp h4 (h4 ++ [some (AObj.mk true [Value.bool b])]) := Kp.app _ _
          have hb1 := app_one (h4) (some (AObj.mk true [Value.bool b]))
          have hl1 : (h4 ++ [some (AObj.mk true [Value.bool b])]).length = h4.length + 1 := by simp
          have k2 : Kp (h4 ++ [some (AObj.mk true [Value.bool b])]) (h4 ++ [some (AObj.mk true [Value.bool b])] ++ [some (AObj.mk true [Value.bool true])]) := Kp.app _ _
          have hb2 := app_one (h4 ++ [some (AObj.mk true [Value.bool b])]) (some (AObj.mk true [Value.bool true]))
          have hl2 : (h4 ++ [some (AObj.mk true [Value.bool b])] ++ [some (AObj.mk true [Value.bool true])]).length = h4.length + 2 := by simp
          rw [hl1] at hb2
          have hb1' := k2.get hb1
          have kX := k1.trans k2
          generalize h4 ++ [some (AObj.mk true [Value.bool b])] ++ [some (AObj.mk true [Value.bool true])] = X at *
          refine xops_st (push1 (M3.keep fun B _ hB => kX.2 B hB).m (by rfl) (by rfl) (by rfl) (bits1 hb2) (by omega) fun Y A1 hA1 hA1l lY r1 fY => ?_)
          have hYO := M3.old kX fY lY (Kp.refl _) (fun B _ _ => rfl)
          simp only [sx, x_box, x_alloc, x_bslice, x_slice, x_appz, x_b2s, xop, ev, evs, evParts, fillL, cellsL, Ai.get, Ai.put, stab, isNil?, if_false, if_true, addr?, int?, str?, agg?, bool?, shiftA, FnPost, xresL, xres1, tup, argEnv, ptr, Nat.reduceEqDiff, reduceIte, beq_self_eq_true, ne_eq, Nat.reduceAdd, Nat.reduceMul, Nat.reduceSub, abin_shl, abin_shr, load1V, loadV, storeV, cellsAt, getN, setN, allocV, lenL, lenS, bnd, oneC, Value.oneCell', Nat.reduceLeDiff, Nat.reduceLT, exists_eq_left', forall_const, reduceCtorEq, app_new, app_new0, Int.reduceToNat, Int.reduceLT, Int.reduceLE, Int.reduceEq, Int.reduceNe, Int.reduceBEq, IntKind.bits, bne_self_eq_false, Int.reducePow, hYO, g3, g4, g5]
          have ro : RetN 1 Y (.slice oa ok.length oc) _ _ := M3.o.keep fun B hB => by rw [fY B (by have := M3.o.lt hB; have := kX.1; omega) (fun e => M3.n3 B e hB), kX.2 B (M3.o.lt hB)]
          have hbo := (fY _ (lt_of_get hb1') (fun e => by have := M3.m.lt e; omega)).trans hb1'
          refine push1 ro (by rfl) (by rfl) (by rfl) (bits1 hbo) (by omega) fun W A2 hA2 hA2l lW r2 fW => ?_
          have hWO := M3.old kX fY lY (Kp.refl Y) fW
          simp only [sx, x_box, x_alloc, x_bslice, x_slice, x_appz, x_b2s, xop, ev, evs, evParts, fillL, cellsL, Ai.get, Ai.put, stab, isNil?, if_false, if_true, addr?, int?, str?, agg?, bool?, shiftA, FnPost, xresL, xres1, tup, argEnv, ptr, Nat.reduceEqDiff, reduceIte, beq_self_eq_true, ne_eq, Nat.reduceAdd, Nat.reduceMul, Nat.reduceSub, abin_shl, abin_shr, load1V, loadV, storeV, cellsAt, getN, setN, allocV, lenL, lenS, bnd, oneC, Value.oneCell', Nat.reduceLeDiff, Nat.reduceLT, exists_eq_left', forall_const, reduceCtorEq, app_new, app_new0, Int.reduceToNat, Int.reduceLT, Int.reduceLE, Int.reduceEq, Int.reduceNe, Int.reduceBEq, IntKind.bits, bne_self_eq_false, Int.reducePow, hWO, set_here, List.set_set]
          obtain ⟨q1, q2⟩ := M3.pair kX hA1 r1 fY lY (Kp.refl Y) hA2 r2 fW lW
          refine ⟨⟨g0, g2, g3, g4, g5, g34, g35, g36⟩, ⟨_, _, q2⟩, fun B hB => ?_, ?_⟩
          · rw [q1 B hB (by omega)]; exact fr3 B hB
          · have := kX.1; have := (Kp.refl Y).1; rw [List.length_set]; omega
        rintro ρ4 h5 ⟨⟨g0, g2, g3, g4, g5, g34, g35, g36⟩, ⟨mv5, ov5, M5⟩, fr5, l5⟩
        have hD5 := (fr5 D hDl).trans hDc
        have hT5 := (fr5 T hTl).trans hTc
        have hle : i + 1 ≤ (bB x.told).length := by rw [bB_len]; have := nok.t; simp only at this; omega
        simp only [sx, x_box, x_alloc, x_bslice, x_slice, x_append, x_appz, x_b2s, xop, ev, evs, evParts, fillL, cellsL, Ai.get, Ai.put, stab, isNil?, if_false, if_true, addr?, int?, str?, agg?, bool?, shiftA, FnPost, xresL, xres1, tup, argEnv, ptr, Nat.reduceEqDiff, reduceIte, beq_self_eq_true, ne_eq, Nat.reduceAdd, Nat.reduceMul, Nat.reduceSub, abin_shl, abin_shr, load1V, loadV, storeV, cellsAt, getN, setN, allocV, lenL, lenS, bnd, oneC, Value.oneCell', Nat.reduceLeDiff, Nat.reduceLT, exists_eq_left', forall_const, reduceCtorEq, app_new, app_new0, List.append_assoc, Int.reduceToNat, Int.reduceLT, Int.reduceLE, Int.reduceEq, Int.reduceNe, Int.reduceBEq, IntKind.bits, bne_self_eq_false, Int.reducePow, g0, g4, g5, hD5, hT5, hi0, hi', hle, bB_set, g36, hwi, Nat.mul_one, Nat.zero_add]
        have h6T := set_same hT5 (some ⟨true, bB (x.told.set i b)⟩)
        have f6 : ∀ B, B < h3.length → B ≠ T → (h5.set T (some (AObj.mk true (bB (x.told.set i b)))))[B]? = h0[B]? := fun B hB hn => by rw [set_ne (fun e => hn e.symm), fr5 B hB, frE B hB hn]
        refine ⟨f - 1, by omega, i + 1, x.add i b, by omega, g0, g2, g3, g34, g35, rfl, ⟨⟨mv5, ov5, ?_⟩, ?_, f6, ?_⟩, nok.step b, hx2⟩
        · have e1 : (x.add i b).mask = mk ++ [true] := by rw [← hmk]; rfl
          have e2 : (x.add i b).on = ok ++ [b] := by rw [← hok]; rfl
          rw [e1, e2]
          exact M5.keep fun B hB _ => set_ne (by omega) _
        · exact A2.setT (fun B hB hn => (f6 B hB hn).trans (K3.2 B hB)) h6T (show (x.told.set i b).length = d.told.length by rw [List.length_set]; exact nok.t.trans A2.tl.symm)
        · rw [List.length_set]; omega
      · have hi' : ¬ (i : Int) < d.cs.length := by omega
        simp only [sx, x_box, x_alloc, x_bslice, x_slice, x_append, x_appz, x_b2s, xop, ev, evs, evParts, fillL, cellsL, Ai.get, Ai.put, stab, isNil?, if_false, if_true, addr?, int?, str?, agg?, bool?, shiftA, FnPost, xresL, xres1, tup, argEnv, ptr, Nat.reduceEqDiff, reduceIte, beq_self_eq_true, ne_eq, Nat.reduceAdd, Nat.reduceMul, Nat.reduceSub, abin_shl, abin_shr, load1V, loadV, storeV, cellsAt, getN, setN, allocV, lenL, lenS, bnd, oneC, Value.oneCell', Nat.reduceLeDiff, Nat.reduceLT, exists_eq_left', forall_const, reduceCtorEq, app_new, app_new0, List.append_assoc, Int.reduceToNat, Int.reduceLT, Int.reduceLE, Int.reduceEq, Int.reduceNe, Int.reduceBEq, IntKind.bits, bne_self_eq_false, Int.reducePow, g35, g36, hi']
        have hz : x = nx d.locals 0 ⟨-1, [], [], d.told⟩ := by
          have : nx (d.locals.drop i) i x = nx d.locals 0 ⟨-1, [], [], d.told⟩ := hnx2
          rw [List.drop_eq_nil_of_le (by omega)] at this
          exact this
        exact NE.of (x := x) hz g0 g3 ⟨⟨mv, ov, M⟩, AE, frE, lE⟩ (show i ≤ d.cs.length by omega) nok
  · rintro ρ hE ⟨g0, g3, ⟨⟨mv, ov, M⟩, AE, frE, lE⟩, i, hi, nok⟩
    have hDE := AE.obj
    simp only [DCells] at hDE
    have hME := M.obj
    have hDl := A2.lt (i := 0) (B := D) (.inl ⟨rfl, rfl⟩)
    have hTl := A2.lt (i := 3) (B := T) (.inr (.inr (.inr (.inl ⟨rfl, rfl⟩))))
    have hDT : D ≠ T := fun e => by have := A2.s 0 3 D (.inl ⟨rfl, rfl⟩) (.inr (.inr (.inr (.inl ⟨rfl, e⟩)))); cases this
    have hDO : D ≠ O := by omega
    have hK3l := K3.1
    simp only [sx, x_box, x_alloc, x_bslice, x_slice, x_append, x_appz, x_b2s, xop, ev, evs, evParts, fillL, cellsL, Ai.get, Ai.put, stab, isNil?, if_false, if_true, addr?, int?, str?, agg?, bool?, shiftA, FnPost, xresL, xres1, tup, argEnv, ptr, Nat.reduceEqDiff, reduceIte, beq_self_eq_true, ne_eq, Nat.reduceAdd, Nat.reduceMul, Nat.reduceSub, abin_shl, abin_shr, load1V, loadV, storeV, cellsAt, getN, setN, allocV, lenL, lenS, bnd, oneC, Value.oneCell', Nat.reduceLeDiff, Nat.reduceLT, exists_eq_left', forall_const, reduceCtorEq, app_new, app_new0, List.append_assoc, Int.reduceToNat, Int.reduceLT, Int.reduceLE, Int.reduceEq, Int.reduceNe, Int.reduceBEq, IntKind.bits, bne_self_eq_false, Int.reducePow, g0, g3, hDE, set_here, set_far hDO, hME, List.set_set]
    -- the message is written no more
    have m1 : RetN 1 (frzAt hE O) mv _ _ := M.m.keep fun B hB => frzAt_ne (fun e => (M.n1 B hB).2 e.symm)
    obtain ⟨P, hP, bm⟩ := m1.fz
    have m2 : RetN 1 (frzAt (frzAt hE O) P) ov _ _ := M.o.keep fun B hB => by
      rw [frzAt_ne (fun e => ?_), frzAt_ne (fun e => (M.n2 B hB).2 e.symm)]
      rcases hP with hP | hP
      · exact M.n3 P hP (by rw [e]; exact hB)
      · have := M.o.lt hB; rw [frzAt_len] at hP; omega
    obtain ⟨R, hR, bo⟩ := m2.fz
    have hPn : h3.length ≤ P := by
      rcases hP with hP | hP
      · exact (M.n1 P hP).1
      · rw [frzAt_len] at hP; omega
    have hRn : h3.length ≤ R := by
      rcases hR with hR | hR
      · exact (M.n2 R hR).1
      · rw [frzAt_len, frzAt_len] at hR; omega
    have bm2 := bm.frz (frzAt_frz _ R)
    have hM2 : (frzAt (frzAt (frzAt hE O) P) R)[O]? = some (some ⟨false, d.msg.cells mv ov⟩) := by
      refine frzAt_frz _ R _ _ (frzAt_frz _ P _ _ ?_)
      rw [frzAt_own hME]; exact set_same hME _
    have z3 : Frz hE (frzAt (frzAt (frzAt hE O) P) R) := ((frzAt_frz _ _).trans (frzAt_frz _ _)).trans (frzAt_frz _ _)
    have lo : ∀ B, B < h3.length → (frzAt (frzAt (frzAt hE O) P) R)[B]? = hE[B]? := fun B hB => by rw [frzAt_ne (by omega), frzAt_ne (by omega), frzAt_ne (by omega)]
    have len3 : (frzAt (frzAt (frzAt hE O) P) R).length = hE.length := by rw [frzAt_len, frzAt_len, frzAt_len]
    have AF := AE.keep z3 fun i B hB => lo B (A2.lt hB)
    have mov : ∀ o : Option AObj, frzAt (frzAt (frzAt (hE.set D o) O) P) R = (frzAt (frzAt (frzAt hE O) P) R).set D o := fun o => by
      rw [frzAt_set (by omega), frzAt_set (by omega), frzAt_set (by omega)]
    have hcell : ∀ o, hE.set D o = hE.set D o := fun _ => rfl
    generalize frzAt (frzAt (frzAt hE O) P) R = hF at *
    have A5 := AF.setD (d' := { d with last := IntKind.u32.wrap (d.last + 1), told := (nx d.locals 0 ⟨-1, [], [], d.told⟩).told, op := some d.msg, age := 0 }) (opv' := .pointer (some ⟨O, 0, none⟩)) (outv' := outv) rfl rfl ⟨O, mv, ov, rfl, hM2, bm2, bo⟩ AF.out fun B h => h
    have z5 := frz_set AF.obj (some ⟨true, DCells G T { d with last := IntKind.u32.wrap (d.last + 1), told := (nx d.locals 0 ⟨-1, [], [], d.told⟩).told, op := some d.msg, age := 0 } (.pointer (some ⟨O, 0, none⟩)) outv⟩)
    have hm := nok.m
    have he := nok.e
    have S5 := send_ok A5 (m := d.msg) ⟨mv, ov, rfl, bm2.frz z5, bo.frz z5⟩ (show d.msg.mask.length ≤ _ by simp only [DK.msg]; have : i ≤ d.cs.length := hi; have : (nx d.locals 0 ⟨-1, [], [], d.told⟩).mask.length ≤ i := hm; omega) (show d.msg.on.length ≤ _ by simp only [DK.msg]; have : i ≤ d.cs.length := hi; have h1 : (nx d.locals 0 ⟨-1, [], [], d.told⟩).mask.length ≤ i := hm; have h2 : (nx d.locals 0 ⟨-1, [], [], d.told⟩).on.length = (nx d.locals 0 ⟨-1, [], [], d.told⟩).mask.length := he; omega) hl
    have S6 := Valid.preA O (Valid.preA P (Valid.preA R (by rw [mov]; exact S5)))
    refine xcall S6 (by rfl) (by rfl) (by rfl) (by rfl) ?_
    rintro r h6 ⟨opv', outv', A6, f6, n6⟩
    simp only [sx, x_box, x_alloc, x_bslice, x_slice, x_append, x_appz, x_b2s, xop, ev, evs, evParts, fillL, cellsL, Ai.get, Ai.put, stab, isNil?, if_false, if_true, addr?, int?, str?, agg?, bool?, shiftA, FnPost, xresL, xres1, tup, argEnv, ptr, Nat.reduceEqDiff, reduceIte, beq_self_eq_true, ne_eq, Nat.reduceAdd, Nat.reduceMul, Nat.reduceSub, abin_shl, abin_shr, load1V, loadV, storeV, cellsAt, getN, setN, allocV, lenL, lenS, bnd, oneC, Value.oneCell', Nat.reduceLeDiff, Nat.reduceLT, exists_eq_left', forall_const, reduceCtorEq, app_new, app_new0, List.append_assoc, Int.reduceToNat, Int.reduceLT, Int.reduceLE, Int.reduceEq, Int.reduceNe, Int.reduceBEq, IntKind.bits, bne_self_eq_false, Int.reducePow]
    refine ⟨opv', outv', A6, ⟨?_, fun B hB hn => ?_⟩, fun B hB => ?_⟩
    · have := f6.1; have := F2.1; rw [List.length_set] at *; omega
    · have hF2l := F2.1
      rw [f6.2 B (by rw [List.length_set]; omega) hn, set_ne (fun e => hn ⟨0, .inl ⟨rfl, e.symm⟩⟩), lo B (by omega), frE B (by omega) (fun e => hn ⟨3, .inr (.inr (.inr (.inl ⟨rfl, e⟩)))⟩), K3.2 B (by omega), F2.2 B hB hn]
    · rcases n6 B hB with h1 | h1
      · exact .inl h1
      · rw [List.length_set] at h1; have := F2.1; exact .inr (by omega)
end
end Go.Proofs.Ytejgaeinkojgpaa
