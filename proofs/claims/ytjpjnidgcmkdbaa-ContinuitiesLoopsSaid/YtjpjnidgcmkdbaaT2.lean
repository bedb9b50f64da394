import Derived.Test.YtjpjnidgcmkdbaaT1
set_option linter.unusedVariables false
set_option linter.unusedSimpArgs false
namespace Go.Proofs.Ytjpjnidgcmkdbaa
open Go Go.Ai Go.Proofs

structure Cir where
  st : Int
  age : Int
  tries : Int
  lp : Bool
def Cir.cells (c : Cir) : List Value := cirC c.st c.age c.tries c.lp
def rowsC (cs : List Cir) : List Value := cs.flatMap Cir.cells
structure Msg where
  kind : Int
  code : Int
  good : Bool
def Msg.cells (m : Msg) : List Value := [.int .u8 m.kind, .int .i64 m.code, .bool m.good]
def rowsM (ms : List Msg) : List Value := ms.flatMap Msg.cells

theorem rowsC_len (cs : List Cir) : (rowsC cs).length = cs.length * 4 := by
  induction cs with
  | nil => rfl
  | cons c cs ih => simp only [rowsC, List.flatMap_cons, List.length_append, List.length_cons] at ih ⊢; rw [ih]; simp [Cir.cells, cirC]; omega
theorem rowsM_len (cs : List Msg) : (rowsM cs).length = cs.length * 3 := by
  induction cs with
  | nil => rfl
  | cons c cs ih => simp only [rowsM, List.flatMap_cons, List.length_append, List.length_cons] at ih ⊢; rw [ih]; simp [Msg.cells]; omega
theorem rowsC_get {cs : List Cir} {c : Cir} : ∀ {i : Nat} (j : Nat), j < 4 → cs[i]? = some c → (rowsC cs)[i * 4 + j]? = c.cells[j]? := by
  induction cs with
  | nil => intro i j _ h; simp at h
  | cons d cs ih =>
    intro i j hj h
    have hd : (rowsC (d :: cs)) = d.cells ++ rowsC cs := rfl
    have h4 : d.cells.length = 4 := rfl
    cases i with
    | zero => simp at h; subst h; rw [hd, List.getElem?_append_left (by omega)]; congr 1; omega
    | succ i => rw [hd, List.getElem?_append_right (by omega), h4, show (i + 1) * 4 + j - 4 = i * 4 + j by omega]; exact ih j hj (by simpa using h)
theorem rowsC_set {cs : List Cir} {c : Cir} (e : Cir) : ∀ {i : Nat} {l : List Value}, cs[i]? = some c → l.length = cs.length * 4 → (∀ j, j < 4 → l[i * 4 + j]? = e.cells[j]?) → (∀ k, k < i * 4 ∨ i * 4 + 4 ≤ k → l[k]? = (rowsC cs)[k]?) → l = rowsC (cs.set i e) := by
  intro i l hi hl h1 h2
  have hlt := (List.getElem?_eq_some_iff.1 hi).1
  apply List.ext_getElem?
  intro k
  rcases Nat.lt_or_ge k (cs.length * 4) with hk | hk
  · have hq : k / 4 < cs.length := by omega
    by_cases hki : k / 4 = i
    · have : k = i * 4 + k % 4 := by omega
      rw [this, h1 _ (by omega), rowsC_get (c := e) _ (by omega) (by simp [hlt])]
    · rw [h2 k (by omega)]
      have hc := List.getElem?_eq_getElem hq
      have : k = (k / 4) * 4 + k % 4 := by omega
      rw [this, rowsC_get _ (by omega) hc, rowsC_get (cs := cs.set i e) _ (by omega) (by rw [List.getElem?_set_ne (Ne.symm hki)]; exact hc)]
  · rw [List.getElem?_eq_none (by omega), List.getElem?_eq_none (by rw [rowsC_len]; simpa using hk)]

/-- an end in the heap -/
structure EndAt (h : AHeap) (X L : Nat) (w p m : Int) (cs : List Cir) (sl : Value) (ms : List Msg) : Prop where
  obj : h[X]? = some (some ⟨true, endC w p m (.slice (some ⟨L, 0, none⟩) cs.length cs.length) sl⟩)
  row : h[L]? = some (some ⟨true, rowsC cs⟩)
  out : Ret 3 h sl ms.length (rowsM ms)
  ne : X ≠ L
  n1 : slB sl ≠ some X
  n2 : slB sl ≠ some L
  n3 : ∀ A, slB sl = some A → A < h.length
  pos : cs.length ≠ 0
  big : cs.length ≤ 256

theorem EndAt.keep {h h' : AHeap} {X L : Nat} {w p m : Int} {cs : List Cir} {sl : Value} {ms : List Msg} (E : EndAt h X L w p m cs sl ms) (hl : h.length ≤ h'.length) (hk : ∀ B, B = X ∨ B = L ∨ slB sl = some B → h'[B]? = h[B]?) : EndAt h' X L w p m cs sl ms :=
  ⟨by rw [hk _ (.inl rfl)]; exact E.obj, by rw [hk _ (.inr (.inl rfl))]; exact E.row, E.out.keep fun A x hA hx => by rw [hk A (.inr (.inr hA))]; exact hx, E.ne, E.n1, E.n2, fun A hA => Nat.lt_of_lt_of_le (E.n3 A hA) hl, E.pos, E.big⟩
theorem EndAt.app {h : AHeap} {X L : Nat} {w p m : Int} {cs : List Cir} {sl : Value} {ms : List Msg} (E : EndAt h X L w p m cs sl ms) (t : AHeap) : EndAt (h ++ t) X L w p m cs sl ms :=
  ⟨app_old E.obj, app_old E.row, E.out.keep fun A x hA hx => app_old hx, E.ne, E.n1, E.n2, fun A hA => by have := E.n3 A hA; simp; omega, E.pos, E.big⟩

set_option maxHeartbeats 1000000 in
theorem send_ok {h : AHeap} {X L : Nat} {w p m : Int} {cs : List Cir} {sl : Value} {ms : List Msg} {kd code : Int} {good : Bool} (E : EndAt h X L w p m cs sl ms) (hn : ms.length < 65536) :
    Valid Try.prog 22 [ptr X 0, .int .u8 kd, .int .i64 code, .bool good] h fun r h' => ∃ sl', EndAt h' X L w p m cs sl' (ms ++ [⟨kd, code, good⟩]) ∧ (∃ A, slB sl' = some A ∧ h.length ≤ A) ∧ h.length ≤ h'.length ∧ ∀ B, B < h.length → B ≠ X → slB sl ≠ some B → h'[B]? = h[B]? := by
  refine v22 (by simp) ?_
  have hX := E.obj
  have hXl := lt_of_get hX
  have hLl := lt_of_get E.row
  unfold endC at hX
  obtain ⟨q, cc, rfl, hq⟩ := E.out.shape
  simp only [X22, sx, x_box, x_alloc, x_bslice, x_slice, x_b2s, xop, ev, evs, evParts, fillL, cellsL, Ai.get, Ai.put, stab, isNil?, if_false, if_true, addr?, int?, str?, agg?, bool?, shiftA, FnPost, xresL, xres1, tup, argEnv, ptr, Nat.reduceEqDiff, reduceIte, beq_self_eq_true, ne_eq, Nat.reduceAdd, Nat.reduceMul, Nat.reduceSub, abin_shl, abin_shr, load1V, loadV, storeV, cellsAt, getN, setN, allocV, lenL, lenS, bnd, oneC, Value.oneCell', Nat.reduceLeDiff, Nat.reduceLT, exists_eq_left', forall_const, reduceCtorEq, app_new, app_new0, List.append_assoc, Int.reduceToNat, Int.reduceLT, Int.reduceLE, Int.reduceEq, Int.reduceNe, Int.reduceBEq, IntKind.bits, bne_self_eq_false, Int.reducePow, hX]
  refine push_run (k := 3) (by_ := 24) (n := ms.length) (m := 1) (rows := rowsM ms) (C := h.length) (news := [.int .u8 kd, .int .i64 code, .bool good]) ?_ ?_ ?_ ?_ ?_ ?_ ?_ ?_ (E.out.keep fun A x hA hx => app_old hx) (by omega) (by omega) ?_
  · rfl
  · decide
  · rfl
  · rfl
  · rw [app_new0]; rfl
  · decide
  · rfl
  · rfl
  intro h3 A' hA' hg hl3 hfr
  simp at hA' hl3
  have hX3 : h3[X]? = some (some ⟨true, [.int .i64 w, .int .i64 p, .int .i64 m, .slice (some ⟨L, 0, none⟩) cs.length cs.length, .slice q ms.length cc]⟩) := by
    rw [hfr X (by simp; omega) E.n1]; exact app_old hX
  have hset3 := set_same hX3
  simp only [sx, x_box, x_alloc, x_bslice, x_slice, x_append, x_b2s, xop, ev, evs, evParts, fillL, cellsL, Ai.get, Ai.put, stab, isNil?, if_false, if_true, addr?, int?, str?, agg?, bool?, shiftA, FnPost, xresL, xres1, tup, argEnv, ptr, Nat.reduceEqDiff, reduceIte, beq_self_eq_true, ne_eq, Nat.reduceAdd, Nat.reduceMul, Nat.reduceSub, abin_shl, abin_shr, load1V, loadV, storeV, cellsAt, getN, setN, allocV, lenL, lenS, bnd, oneC, Value.oneCell', Nat.reduceLeDiff, Nat.reduceLT, exists_eq_left', forall_const, reduceCtorEq, app_new, app_new0, List.append_assoc, Int.reduceToNat, Int.reduceLT, Int.reduceLE, Int.reduceEq, Int.reduceNe, Int.reduceBEq, IntKind.bits, bne_self_eq_false, Int.reducePow, hX3]
  have hne : X ≠ A' := by omega
  refine ⟨.slice (some ⟨A', 0, none⟩) (ms.length + 1) (unk + 3), ⟨hset3 _, ?_, ?_, E.ne, ?_, ?_, ?_, E.pos, E.big⟩, ⟨A', rfl, by omega⟩, by omega, fun B hB h1 h2 => ?_⟩
  · rw [set_ne E.ne, hfr L (by simp; omega) E.n2]; exact app_old E.row
  · refine ⟨by rw [rowsM_len], .inr (.inr ⟨A', by simp, ?_⟩)⟩
    rw [set_ne hne, hg]
    simp [rowsM, Msg.cells]
  · simp [slB]; omega
  · simp [slB]; omega
  · intro A hA; simp [slB] at hA; subst hA; simp; have := lt_of_get hg; omega
  · rw [set_ne (Ne.symm h1), hfr B (by simp; omega) h2, List.getElem?_append_left hB]

theorem enter_ok {h : AHeap} {L i : Nat} {rows : List Value} {s : Int} (hL : h[L]? = some (some ⟨true, rows⟩)) (hi : i + 1 < rows.length) :
    Valid Try.prog 23 [.pointer (some ⟨L, i, none⟩), .int .u8 s] h fun r h' => h' = h.set L (some ⟨true, (rows.set i (.int .u8 s)).set (i + 1) (.int .i64 0)⟩) := by
  refine v23 (by simp) ?_
  have h1 : i + 1 ≤ rows.length := by omega
  have h2 : i + 1 + 1 ≤ rows.length := by omega
  have hset := set_same hL
  simp only [X23, sx, x_box, x_alloc, x_bslice, x_slice, x_append, x_b2s, xop, ev, evs, evParts, fillL, cellsL, Ai.get, Ai.put, stab, isNil?, if_false, if_true, addr?, int?, str?, agg?, bool?, shiftA, FnPost, xresL, xres1, tup, argEnv, ptr, Nat.reduceEqDiff, reduceIte, beq_self_eq_true, ne_eq, Nat.reduceAdd, Nat.reduceMul, Nat.reduceSub, abin_shl, abin_shr, load1V, loadV, storeV, cellsAt, getN, setN, allocV, lenL, lenS, bnd, oneC, Value.oneCell', Nat.reduceLeDiff, Nat.reduceLT, exists_eq_left', forall_const, reduceCtorEq, app_new, app_new0, List.append_assoc, Int.reduceToNat, Int.reduceLT, Int.reduceLE, Int.reduceEq, Int.reduceNe, Int.reduceBEq, IntKind.bits, bne_self_eq_false, Int.reducePow, hL, h1, h2, hset, List.set_set]
  exact ⟨_, rfl⟩

theorem enter_cir {h : AHeap} {X L : Nat} {w p m : Int} {cs : List Cir} {sl : Value} {ms : List Msg} {i : Nat} {c : Cir} {s : Int} (E : EndAt h X L w p m cs sl ms) (hc : cs[i]? = some c) :
    Valid Try.prog 23 [.pointer (some ⟨L, i * 4, none⟩), .int .u8 s] h fun r h' => EndAt h' X L w p m (cs.set i ⟨s, 0, c.tries, c.lp⟩) sl ms ∧ h'.length = h.length ∧ ∀ B, B ≠ L → h'[B]? = h[B]? := by
  have hlt := (List.getElem?_eq_some_iff.1 hc).1
  refine (enter_ok E.row (by rw [rowsC_len]; omega)).mono ?_
  rintro r h' rfl
  have hfr : ∀ B, B ≠ L → (h.set L (some ⟨true, ((rowsC cs).set (i * 4) (.int .u8 s)).set (i * 4 + 1) (.int .i64 0)⟩))[B]? = h[B]? := fun B hB => set_ne (Ne.symm hB) _
  refine ⟨⟨?_, ?_, E.out.keep fun A x hA hx => ?_, E.ne, E.n1, E.n2, fun A hA => by simpa using E.n3 A hA, by simpa using E.pos, by simpa using E.big⟩, by simp, hfr⟩
  · rw [hfr _ E.ne]; simpa using E.obj
  · rw [set_same E.row]
    refine congrArg (fun l => some (some (AObj.mk true l))) (rowsC_set (c := c) _ hc (by simp [rowsC_len]) ?_ ?_)
    · intro j hj
      have h4 : i * 4 + 3 < (rowsC cs).length := by rw [rowsC_len]; omega
      rcases j with _ | _ | _ | _ | j
      · simp [List.getElem?_set, Cir.cells, cirC]; omega
      · simp [List.getElem?_set, Cir.cells, cirC]; omega
      · rw [List.getElem?_set_ne (by omega), List.getElem?_set_ne (by omega), rowsC_get 2 (by omega) hc]; rfl
      · rw [List.getElem?_set_ne (by omega), List.getElem?_set_ne (by omega), rowsC_get 3 (by omega) hc]; rfl
      · omega
    · intro k hk
      rw [List.getElem?_set_ne (by omega), List.getElem?_set_ne (by omega)]
  · rw [hfr _ (fun e => E.n2 (by rw [← e]; exact hA))]; exact hx
end Go.Proofs.Ytjpjnidgcmkdbaa
