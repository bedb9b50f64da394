import Derived.Test.YtemphcppnjlkcaaL3
set_option linter.unusedVariables false
set_option linter.unusedSimpArgs false
namespace Go.Proofs.Ytemphcppnjlkcaa
open Go Go.Ai Go.Proofs

/-- a burst under way -/
structure Bu where
  due : Int
  v : Value
  bits : List Int
def Bu.cells (u : Bu) : List Value := [.int .i64 u.due, u.v]
def rowsU (us : List Bu) : List Value := us.flatMap Bu.cells
theorem rowsU_len (l : List Bu) : (rowsU l).length = l.length * 2 := by
  induction l with
  | nil => rfl
  | cons c cs ih => simp only [rowsU, List.flatMap_cons, List.length_append, List.length_cons] at ih ⊢; rw [ih]; simp [Bu.cells]; omega
theorem rowsU_get : ∀ {l : List Bu} {i : Nat} {x : Bu}, l[i]? = some x → (rowsU l)[i * 2]? = some (.int .i64 x.due) ∧ (rowsU l)[i * 2 + 1]? = some x.v
  | [], i, x, h => by simp at h
  | y :: l, 0, x, h => by simp at h; subst h; exact ⟨rfl, rfl⟩
  | y :: l, i + 1, x, h => by
    have e1 : (rowsU (y :: l))[(i + 1) * 2]? = (rowsU l)[i * 2]? := by
      rw [show (i + 1) * 2 = i * 2 + 1 + 1 by omega]; rfl
    have e2 : (rowsU (y :: l))[(i + 1) * 2 + 1]? = (rowsU l)[i * 2 + 1]? := by
      rw [show (i + 1) * 2 + 1 = i * 2 + 1 + 1 + 1 by omega]; rfl
    rw [e1, e2]; exact rowsU_get (by simpa using h)
theorem rowsU_drop : ∀ (l : List Bu) (k : Nat), (rowsU l).drop (k * 2) = rowsU (l.drop k)
  | l, 0 => by simp
  | [], k + 1 => by simp [rowsU]
  | y :: l, k + 1 => by rw [show (k + 1) * 2 = 2 + k * 2 by omega, ← List.drop_drop]; exact rowsU_drop l k

/-- bits in a block of their own, or none -/
def BV (h : AHeap) (v : Value) (zs : List Int) : Prop := (v = .slice none 0 0 ∧ zs = []) ∨
  ∃ R c cells, v = .slice (some ⟨R, 0, none⟩) zs.length c ∧ c < unk ∧ h[R]? = some (some ⟨true, cells⟩) ∧ getN cells 0 zs.length = some (bR zs)
theorem BV.first {h : AHeap} {v : Value} {zs : List Int} (b : BV h v zs) : firstV 1 h zs.length v = some (bR zs) := by
  rcases b with ⟨rfl, rfl⟩ | ⟨R, c, cells, rfl, _, h1, h2⟩
  · simp [firstV, bR]
  · simp only [firstV]
    split
    · rename_i h0
      have : zs = [] := List.eq_nil_of_length_eq_zero h0
      subst this; rfl
    · simp only [ne_eq, not_true_eq_false, if_false, cellsAt, h1, Option.bind_some, Nat.mul_one]; exact h2
theorem BV.len {h : AHeap} {v : Value} {zs : List Int} (b : BV h v zs) : ∃ q c, v = .slice q zs.length c := by
  rcases b with ⟨rfl, rfl⟩ | ⟨R, c, cells, rfl, _⟩
  · exact ⟨_, _, rfl⟩
  · exact ⟨_, _, rfl⟩
theorem BV.keep {h h' : AHeap} {v : Value} {zs : List Int} (b : BV h v zs) (hk : ∀ A x, slB v = some A → h[A]? = some x → h'[A]? = some x) : BV h' v zs := by
  rcases b with b | ⟨R, c, cells, rfl, h1, h2, h3⟩
  · exact .inl b
  · exact .inr ⟨R, c, cells, rfl, h1, hk R _ rfl h2, h3⟩

/-- a line in the heap -/
structure LineAt (h : AHeap) (X : Nat) (delay now sent waiting : Int) (l : List Nz) (nq : Option Addr) (nc : Nat) (usl : Value) (us : List Bu) : Prop where
  obj : h[X]? = some (some ⟨true, lineC delay (.slice nq l.length nc) now sent waiting usl⟩)
  noise : firstV 3 h l.length (.slice nq l.length nc) = some (rowsN l)
  nlt : ∀ a, nq = some a → a.block ≠ X ∧ slB usl ≠ some a.block ∧ a.block < h.length
  und : RetO 2 h usl us.length (rowsU us)
  ult : ∀ A, slB usl = some A → A ≠ X ∧ A < h.length
  bits : ∀ u ∈ us, BV h u.v u.bits ∧ ∀ A, slB u.v = some A → A ≠ X ∧ slB usl ≠ some A ∧ A < h.length

theorem first_fr {k n c : Nat} {h h' : AHeap} {q : Option Addr} {rows : List Value} (hf : firstV k h n (.slice q n c) = some rows) (hk : ∀ a, q = some a → h'[a.block]? = h[a.block]?) : firstV k h' n (.slice q n c) = some rows := by
  cases q with
  | none => exact hf
  | some a => simpa only [firstV, cellsAt, hk a rfl] using hf
theorem LineAt.keep {h h' : AHeap} {X : Nat} {delay now sent waiting : Int} {l : List Nz} {nq : Option Addr} {nc : Nat} {usl : Value} {us : List Bu} (L : LineAt h X delay now sent waiting l nq nc usl us) (hl : h.length ≤ h'.length) (hk : ∀ B, B < h.length → h'[B]? = h[B]?) : LineAt h' X delay now sent waiting l nq nc usl us := by
  have hg : ∀ (B : Nat) x, h[B]? = some x → h'[B]? = some x := fun B x hB => by rw [hk B (lt_of_get hB)]; exact hB
  exact ⟨hg _ _ L.obj, first_fr L.noise fun a ha => hk _ (L.nlt a ha).2.2, fun a ha => ⟨(L.nlt a ha).1, (L.nlt a ha).2.1, Nat.lt_of_lt_of_le (L.nlt a ha).2.2 hl⟩, L.und.keep fun A x _ hx => hg _ _ hx,
    fun A hA => ⟨(L.ult A hA).1, Nat.lt_of_lt_of_le (L.ult A hA).2 hl⟩, fun u hu => ⟨(L.bits u hu).1.keep fun A x _ hx => hg _ _ hx, fun A hA => ⟨((L.bits u hu).2 A hA).1, ((L.bits u hu).2 A hA).2.1, Nat.lt_of_lt_of_le ((L.bits u hu).2 A hA).2.2 hl⟩⟩⟩
theorem LineAt.ext {h h' : AHeap} {X : Nat} {delay now sent waiting : Int} {l : List Nz} {nq : Option Addr} {nc : Nat} {usl : Value} {us : List Bu} (L : LineAt h X delay now sent waiting l nq nc usl us) (e : Ext h h') : LineAt h' X delay now sent waiting l nq nc usl us := L.keep e.1 e.2
/-- the object alone is written -/
theorem LineAt.put {h : AHeap} {X : Nat} {delay now sent waiting now' sent' waiting' : Int} {l : List Nz} {nq : Option Addr} {nc : Nat} {usl : Value} {us : List Bu} (L : LineAt h X delay now sent waiting l nq nc usl us) :
    LineAt (h.set X (some ⟨true, lineC delay (.slice nq l.length nc) now' sent' waiting' usl⟩)) X delay now' sent' waiting' l nq nc usl us := by
  have hg : ∀ B, B ≠ X → (h.set X (some ⟨true, lineC delay (.slice nq l.length nc) now' sent' waiting' usl⟩))[B]? = h[B]? := fun B hB => set_ne (Ne.symm hB) _
  exact ⟨set_same L.obj _, first_fr L.noise fun a ha => hg _ (L.nlt a ha).1, fun a ha => ⟨(L.nlt a ha).1, (L.nlt a ha).2.1, by simpa using (L.nlt a ha).2.2⟩, L.und.keep fun A x hA hx => by rw [hg _ (L.ult A hA).1]; exact hx,
    fun A hA => ⟨(L.ult A hA).1, by simpa using (L.ult A hA).2⟩, fun u hu => ⟨(L.bits u hu).1.keep fun A x hA hx => by rw [hg _ ((L.bits u hu).2 A hA).1]; exact hx, fun A hA => ⟨((L.bits u hu).2 A hA).1, ((L.bits u hu).2 A hA).2.1, by simpa using ((L.bits u hu).2 A hA).2.2⟩⟩⟩

/-- what an act on a line leaves alone -/
def FrL (h h' : AHeap) (X : Nat) (usl : Value) : Prop := h.length ≤ h'.length ∧ ∀ B, B < h.length → B ≠ X → slB usl ≠ some B → h'[B]? = h[B]?
theorem Ext.frL {h h' : AHeap} (e : Ext h h') (X : Nat) (usl : Value) : FrL h h' X usl := ⟨e.1, fun B hB _ _ => e.2 B hB⟩

section
variable {h : AHeap} {X : Nat} {delay now sent waiting : Int} {l : List Nz} {nq : Option Addr} {nc : Nat} {usl : Value} {us : List Bu}
theorem now_ok (L : LineAt h X delay now sent waiting l nq nc usl us) : Valid Try.prog 18 [ptr X 0] h fun r h' => r = .int .i64 now ∧ h' = h := by
  refine v18 (by simp) ?_
  have hX := L.obj
  unfold lineC at hX
  simp [X18, sx, x_box, x_alloc, x_bslice, x_slice, x_append, x_b2s, xop, ev, evs, evParts, fillL, cellsL, Ai.get, Ai.put, stab, isNil?, if_false, if_true, addr?, int?, str?, agg?, bool?, shiftA, FnPost, xresL, xres1, tup, argEnv, ptr, Nat.reduceEqDiff, reduceIte, beq_self_eq_true, ne_eq, Nat.reduceAdd, Nat.reduceMul, Nat.reduceSub, abin_shl, abin_shr, load1V, loadV, storeV, cellsAt, getN, setN, allocV, lenL, lenS, bnd, oneC, Value.oneCell', Nat.reduceLeDiff, Nat.reduceLT, exists_eq_left', forall_const, reduceCtorEq, app_new, app_new0, List.append_assoc, Int.reduceToNat, Int.reduceLT, Int.reduceLE, Int.reduceEq, Int.reduceNe, Int.reduceBEq, IntKind.bits, bne_self_eq_false, Int.reducePow, hX]
theorem bursts_ok (L : LineAt h X delay now sent waiting l nq nc usl us) : Valid Try.prog 19 [ptr X 0] h fun r h' => r = .int .i64 sent ∧ h' = h := by
  refine v19 (by simp) ?_
  have hX := L.obj
  unfold lineC at hX
  simp [X19, sx, x_box, x_alloc, x_bslice, x_slice, x_append, x_b2s, xop, ev, evs, evParts, fillL, cellsL, Ai.get, Ai.put, stab, isNil?, if_false, if_true, addr?, int?, str?, agg?, bool?, shiftA, FnPost, xresL, xres1, tup, argEnv, ptr, Nat.reduceEqDiff, reduceIte, beq_self_eq_true, ne_eq, Nat.reduceAdd, Nat.reduceMul, Nat.reduceSub, abin_shl, abin_shr, load1V, loadV, storeV, cellsAt, getN, setN, allocV, lenL, lenS, bnd, oneC, Value.oneCell', Nat.reduceLeDiff, Nat.reduceLT, exists_eq_left', forall_const, reduceCtorEq, app_new, app_new0, List.append_assoc, Int.reduceToNat, Int.reduceLT, Int.reduceLE, Int.reduceEq, Int.reduceNe, Int.reduceBEq, IntKind.bits, bne_self_eq_false, Int.reducePow, hX]
theorem waiting_ok (L : LineAt h X delay now sent waiting l nq nc usl us) : Valid Try.prog 20 [ptr X 0] h fun r h' => r = .int .i64 waiting ∧ h' = h := by
  refine v20 (by simp) ?_
  have hX := L.obj
  unfold lineC at hX
  simp [X20, sx, x_box, x_alloc, x_bslice, x_slice, x_append, x_b2s, xop, ev, evs, evParts, fillL, cellsL, Ai.get, Ai.put, stab, isNil?, if_false, if_true, addr?, int?, str?, agg?, bool?, shiftA, FnPost, xresL, xres1, tup, argEnv, ptr, Nat.reduceEqDiff, reduceIte, beq_self_eq_true, ne_eq, Nat.reduceAdd, Nat.reduceMul, Nat.reduceSub, abin_shl, abin_shr, load1V, loadV, storeV, cellsAt, getN, setN, allocV, lenL, lenS, bnd, oneC, Value.oneCell', Nat.reduceLeDiff, Nat.reduceLT, exists_eq_left', forall_const, reduceCtorEq, app_new, app_new0, List.append_assoc, Int.reduceToNat, Int.reduceLT, Int.reduceLE, Int.reduceEq, Int.reduceNe, Int.reduceBEq, IntKind.bits, bne_self_eq_false, Int.reducePow, hX]
theorem tick_ok (L : LineAt h X delay now sent waiting l nq nc usl us) (hd : delay ≠ 0) (h0 : 0 ≤ now) (h1 : now < 1048576) :
    Valid Try.prog 15 [ptr X 0] h fun r h' => r = .int .i64 0 ∧ LineAt h' X delay (now + 1) sent waiting l nq nc usl us ∧ h'.length = h.length ∧ ∀ B, B ≠ X → h'[B]? = h[B]? := by
  refine v15 (by simp) ?_
  have hX := L.obj
  have hP := L.put (now' := now + 1) (sent' := sent) (waiting' := waiting)
  unfold lineC at hX hP
  have h2 : ¬ now = 1048576 := by omega
  have hw : IntKind.i64.wrap (now + 1) = now + 1 := i64_wrap (by omega) (by omega)
  have hset := set_same hX
  simp only [X15, sx, x_box, x_alloc, x_bslice, x_slice, x_append, x_b2s, xop, ev, evs, evParts, fillL, cellsL, Ai.get, Ai.put, stab, isNil?, if_false, if_true, addr?, int?, str?, agg?, bool?, shiftA, FnPost, xresL, xres1, tup, argEnv, ptr, Nat.reduceEqDiff, reduceIte, beq_self_eq_true, ne_eq, Nat.reduceAdd, Nat.reduceMul, Nat.reduceSub, abin_shl, abin_shr, load1V, loadV, storeV, cellsAt, getN, setN, allocV, lenL, lenS, bnd, oneC, Value.oneCell', Nat.reduceLeDiff, Nat.reduceLT, exists_eq_left', forall_const, reduceCtorEq, app_new, app_new0, List.append_assoc, Int.reduceToNat, Int.reduceLT, Int.reduceLE, Int.reduceEq, Int.reduceNe, Int.reduceBEq, IntKind.bits, bne_self_eq_false, Int.reducePow, hX, hd, h2, hw]
  exact ⟨hP, fun B hB => set_ne (Ne.symm hB) _⟩
end

/-- New, by its arguments -/
theorem wrong_cl {h : AHeap} {l : List Nz} {n : Nat} (hl : l.length = n) : ∀ J i, i < n → Valid Try.prog 23 (.agg (((rowsN l).drop (i * 3)).take 3).toArray :: (#[] : Array Value).toList) (h ++ J) fun r h' =>
    r = .bool (decide ((l.getD i ⟨0, 0, 0⟩).at_ < 0 ∨ (l.getD i ⟨0, 0, 0⟩).bit < 0 ∨ 2 < (l.getD i ⟨0, 0, 0⟩).kind)) ∧ ∃ J', h' = h ++ J ++ J' := fun J i hi => by
  have hx : l[i]? = some (l[i]'(by omega)) := List.getElem?_eq_getElem (by omega)
  have e : l.getD i ⟨0, 0, 0⟩ = l[i]'(by omega) := by simp [List.getD_eq_getElem?_getD, hx]
  rw [rowsN_get hx, e]
  generalize l[i]'(by omega) = x
  refine v23 (by simp) ?_
  simp only [X23, sx, x_box, x_alloc, x_bslice, x_slice, x_append, x_b2s, xop, ev, evs, evParts, fillL, cellsL, Ai.get, Ai.put, stab, isNil?, if_false, if_true, addr?, int?, str?, agg?, bool?, shiftA, FnPost, xresL, xres1, tup, argEnv, ptr, Nat.reduceEqDiff, reduceIte, beq_self_eq_true, ne_eq, Nat.reduceAdd, Nat.reduceMul, Nat.reduceSub, abin_shl, abin_shr, load1V, loadV, storeV, cellsAt, getN, setN, allocV, lenL, lenS, bnd, oneC, Value.oneCell', Nat.reduceLeDiff, Nat.reduceLT, exists_eq_left', forall_const, reduceCtorEq, app_new, app_new0, List.append_assoc, Int.reduceToNat, Int.reduceLT, Int.reduceLE, Int.reduceEq, Int.reduceNe, Int.reduceBEq, IntKind.bits, bne_self_eq_false, Int.reducePow, Nz.cells]
  by_cases h1 : x.at_ < 0
  · simp [sx, x_box, x_alloc, x_bslice, x_slice, x_append, x_b2s, xop, ev, evs, evParts, fillL, cellsL, Ai.get, Ai.put, stab, isNil?, if_false, if_true, addr?, int?, str?, agg?, bool?, shiftA, FnPost, xresL, xres1, tup, argEnv, ptr, Nat.reduceEqDiff, reduceIte, beq_self_eq_true, ne_eq, Nat.reduceAdd, Nat.reduceMul, Nat.reduceSub, abin_shl, abin_shr, load1V, loadV, storeV, cellsAt, getN, setN, allocV, lenL, lenS, bnd, oneC, Value.oneCell', Nat.reduceLeDiff, Nat.reduceLT, exists_eq_left', forall_const, reduceCtorEq, app_new, app_new0, List.append_assoc, Int.reduceToNat, Int.reduceLT, Int.reduceLE, Int.reduceEq, Int.reduceNe, Int.reduceBEq, IntKind.bits, bne_self_eq_false, Int.reducePow, h1]
  · by_cases h2 : x.bit < 0
    · simp [sx, x_box, x_alloc, x_bslice, x_slice, x_append, x_b2s, xop, ev, evs, evParts, fillL, cellsL, Ai.get, Ai.put, stab, isNil?, if_false, if_true, addr?, int?, str?, agg?, bool?, shiftA, FnPost, xresL, xres1, tup, argEnv, ptr, Nat.reduceEqDiff, reduceIte, beq_self_eq_true, ne_eq, Nat.reduceAdd, Nat.reduceMul, Nat.reduceSub, abin_shl, abin_shr, load1V, loadV, storeV, cellsAt, getN, setN, allocV, lenL, lenS, bnd, oneC, Value.oneCell', Nat.reduceLeDiff, Nat.reduceLT, exists_eq_left', forall_const, reduceCtorEq, app_new, app_new0, List.append_assoc, Int.reduceToNat, Int.reduceLT, Int.reduceLE, Int.reduceEq, Int.reduceNe, Int.reduceBEq, IntKind.bits, bne_self_eq_false, Int.reducePow, h1, h2]
    · by_cases h3 : 2 < x.kind <;> simp [sx, x_box, x_alloc, x_bslice, x_slice, x_append, x_b2s, xop, ev, evs, evParts, fillL, cellsL, Ai.get, Ai.put, stab, isNil?, if_false, if_true, addr?, int?, str?, agg?, bool?, shiftA, FnPost, xresL, xres1, tup, argEnv, ptr, Nat.reduceEqDiff, reduceIte, beq_self_eq_true, ne_eq, Nat.reduceAdd, Nat.reduceMul, Nat.reduceSub, abin_shl, abin_shr, load1V, loadV, storeV, cellsAt, getN, setN, allocV, lenL, lenS, bnd, oneC, Value.oneCell', Nat.reduceLeDiff, Nat.reduceLT, exists_eq_left', forall_const, reduceCtorEq, app_new, app_new0, List.append_assoc, Int.reduceToNat, Int.reduceLT, Int.reduceLE, Int.reduceEq, Int.reduceNe, Int.reduceBEq, IntKind.bits, bne_self_eq_false, Int.reducePow, h1, h2, h3]
theorem wrong_ok {h : AHeap} {q : Option Addr} {c n : Nat} {l : List Nz} (hl : l.length = n) (hf : firstV 3 h n (.slice q n c) = some (rowsN l)) (hn : n ≤ 1024) :
    Valid Try.prog 24 [.slice q n c, .func (.func 23) #[] #[]] h fun r h' => r = .bool (decide (wrongN l)) ∧ ∃ J, h' = h ++ J := by
  refine (contains_ok v24 (indexN_ok (by decide) v29 (by omega) hf (fun i => decide ((l.getD i ⟨0, 0, 0⟩).at_ < 0 ∨ (l.getD i ⟨0, 0, 0⟩).bit < 0 ∨ 2 < (l.getD i ⟨0, 0, 0⟩).kind)) (wrong_cl hl))).mono ?_
  rintro r h' ⟨rfl, e⟩
  refine ⟨?_, e⟩
  congr 1
  exact decide_eq_decide.2 (any_iff hl (fun x => x.at_ < 0 ∨ x.bit < 0 ∨ 2 < x.kind) ⟨0, 0, 0⟩)

theorem new_ok {h : AHeap} {delay : Int} {q : Option Addr} {c n : Nat} {l : List Nz} (hl : l.length = n) (hf : firstV 3 h n (.slice q n c) = some (rowsN l)) (hn : n ≤ 1024) (hd1 : ¬ delay < 1) (hd2 : ¬ 64 < delay) (hw : ¬ wrongN l) :
    Valid Try.prog 11 [.int .i64 delay, .slice q n c] h fun r h' => ∃ X nq nc, r = .tuple #[ptr X 0, .int .i64 0] ∧ Ext h h' ∧ h.length ≤ X ∧ LineAt h' X delay 0 0 0 l nq nc (.slice none 0 0) [] ∧ ∀ a, nq = some a → h.length ≤ a.block := by
  refine v11 (by simp) ?_
  have h1 : ¬ 1024 < (n : Int) := by omega
  simp only [X11, sx, x_box, x_alloc, x_bslice, x_slice, x_append, x_b2s, xop, ev, evs, evParts, fillL, cellsL, Ai.get, Ai.put, stab, isNil?, if_false, if_true, addr?, int?, str?, agg?, bool?, shiftA, FnPost, xresL, xres1, tup, argEnv, ptr, Nat.reduceEqDiff, reduceIte, beq_self_eq_true, ne_eq, Nat.reduceAdd, Nat.reduceMul, Nat.reduceSub, abin_shl, abin_shr, load1V, loadV, storeV, cellsAt, getN, setN, allocV, lenL, lenS, bnd, oneC, Value.oneCell', Nat.reduceLeDiff, Nat.reduceLT, exists_eq_left', forall_const, reduceCtorEq, app_new, app_new0, List.append_assoc, Int.reduceToNat, Int.reduceLT, Int.reduceLE, Int.reduceEq, Int.reduceNe, Int.reduceBEq, IntKind.bits, bne_self_eq_false, Int.reducePow, h1, hd1, hd2]
  refine xcall (wrong_ok hl hf hn) (by rfl) (by rfl) (by rfl) (by rfl) ?_
  rintro r h1 ⟨rfl, J, rfl⟩
  simp only [sx, x_box, x_alloc, x_bslice, x_slice, x_append, x_b2s, xop, ev, evs, evParts, fillL, cellsL, Ai.get, Ai.put, stab, isNil?, if_false, if_true, addr?, int?, str?, agg?, bool?, shiftA, FnPost, xresL, xres1, tup, argEnv, ptr, Nat.reduceEqDiff, reduceIte, beq_self_eq_true, ne_eq, Nat.reduceAdd, Nat.reduceMul, Nat.reduceSub, abin_shl, abin_shr, load1V, loadV, storeV, cellsAt, getN, setN, allocV, lenL, lenS, bnd, oneC, Value.oneCell', Nat.reduceLeDiff, Nat.reduceLT, exists_eq_left', forall_const, reduceCtorEq, app_new, app_new0, List.append_assoc, Int.reduceToNat, Int.reduceLT, Int.reduceLE, Int.reduceEq, Int.reduceNe, Int.reduceBEq, IntKind.bits, bne_self_eq_false, Int.reducePow, hw]
  refine xcall (clone_ok (k := 3) (by_ := 24) (z := [.int .i64 0, .int .u8 0, .int .i64 0]) rfl (by decide) v25 (firstV_app hf) (by omega) (by omega)) (by rfl) (by rfl) (by rfl) (by rfl) ?_
  rintro r h2 (⟨h0, rfl, hr, rfl⟩ | ⟨h0, hr, rfl, rfl⟩ | ⟨h0, rfl, rfl⟩)
  · simp only [sx, x_box, x_alloc, x_bslice, x_slice, x_append, x_b2s, xop, ev, evs, evParts, fillL, cellsL, Ai.get, Ai.put, stab, isNil?, if_false, if_true, addr?, int?, str?, agg?, bool?, shiftA, FnPost, xresL, xres1, tup, argEnv, ptr, Nat.reduceEqDiff, reduceIte, beq_self_eq_true, ne_eq, Nat.reduceAdd, Nat.reduceMul, Nat.reduceSub, abin_shl, abin_shr, load1V, loadV, storeV, cellsAt, getN, setN, allocV, lenL, lenS, bnd, oneC, Value.oneCell', Nat.reduceLeDiff, Nat.reduceLT, exists_eq_left', forall_const, reduceCtorEq, app_new, app_new0, List.append_assoc, Int.reduceToNat, Int.reduceLT, Int.reduceLE, Int.reduceEq, Int.reduceNe, Int.reduceBEq, IntKind.bits, bne_self_eq_false, Int.reducePow]
    have hl0 : l = [] := List.eq_nil_of_length_eq_zero (by omega)
    subst hl0
    refine ⟨(h ++ J).length, none, 0, by simp [ptr], by rw [← List.append_assoc]; exact (Ext.app h J).trans (Ext.app _ _), by simp, ⟨?_, by simp [firstV, rowsN], fun a h => (by cases h), ⟨rfl, .inl ⟨rfl, rfl⟩⟩, by simp [slB], by simp⟩, fun a h => (by cases h)⟩
    rw [← List.append_assoc, app_new0]; rfl
  · simp only [sx, x_box, x_alloc, x_bslice, x_slice, x_append, x_b2s, xop, ev, evs, evParts, fillL, cellsL, Ai.get, Ai.put, stab, isNil?, if_false, if_true, addr?, int?, str?, agg?, bool?, shiftA, FnPost, xresL, xres1, tup, argEnv, ptr, Nat.reduceEqDiff, reduceIte, beq_self_eq_true, ne_eq, Nat.reduceAdd, Nat.reduceMul, Nat.reduceSub, abin_shl, abin_shr, load1V, loadV, storeV, cellsAt, getN, setN, allocV, lenL, lenS, bnd, oneC, Value.oneCell', Nat.reduceLeDiff, Nat.reduceLT, exists_eq_left', forall_const, reduceCtorEq, app_new, app_new0, List.append_assoc, Int.reduceToNat, Int.reduceLT, Int.reduceLE, Int.reduceEq, Int.reduceNe, Int.reduceBEq, IntKind.bits, bne_self_eq_false, Int.reducePow]
    have hl0 : l = [] := List.eq_nil_of_length_eq_zero (by omega)
    subst hl0
    refine ⟨(h ++ J).length + 1, some ⟨(h ++ J).length, 0, none⟩, 0, by simp [ptr], by rw [← List.append_assoc]; exact (Ext.app h J).trans (Ext.app _ _), by simp; omega, ⟨?_, by simp [firstV, rowsN], fun a h => (by cases h; simp [slB]), ⟨rfl, .inl ⟨rfl, rfl⟩⟩, by simp [slB], by simp⟩, fun a h => (by cases h; simp)⟩
    rw [← List.append_assoc, app_new]; simp [lineC]
  · simp only [sx, x_box, x_alloc, x_bslice, x_slice, x_append, x_b2s, xop, ev, evs, evParts, fillL, cellsL, Ai.get, Ai.put, stab, isNil?, if_false, if_true, addr?, int?, str?, agg?, bool?, shiftA, FnPost, xresL, xres1, tup, argEnv, ptr, Nat.reduceEqDiff, reduceIte, beq_self_eq_true, ne_eq, Nat.reduceAdd, Nat.reduceMul, Nat.reduceSub, abin_shl, abin_shr, load1V, loadV, storeV, cellsAt, getN, setN, allocV, lenL, lenS, bnd, oneC, Value.oneCell', Nat.reduceLeDiff, Nat.reduceLT, exists_eq_left', forall_const, reduceCtorEq, app_new, app_new0, List.append_assoc, Int.reduceToNat, Int.reduceLT, Int.reduceLE, Int.reduceEq, Int.reduceNe, Int.reduceBEq, IntKind.bits, bne_self_eq_false, Int.reducePow]
    subst hl
    refine ⟨(h ++ J).length + 2, some ⟨(h ++ J).length + 1, 0, none⟩, unk + 3, by simp [ptr], by rw [← List.append_assoc]; exact (Ext.app h J).trans (Ext.app _ _), by simp; omega, ⟨?_, ?_, fun a h => (by cases h; simp [slB]; omega), ⟨rfl, .inl ⟨rfl, rfl⟩⟩, by simp [slB], by simp⟩, fun a h => (by cases h; simp; omega)⟩
    · rw [← List.append_assoc, app_new]; simp [lineC]
    · have e : ∀ t, (h ++ (J ++ (some ⟨true, []⟩ :: some ⟨true, rowsN l⟩ :: t)))[(h ++ J).length + 1]? = some (some ⟨true, rowsN l⟩) := fun t => by rw [← List.append_assoc, app_new]; rfl
      simp only [firstV]
      rw [if_neg h0]
      simp only [ne_eq, not_true_eq_false, if_false, cellsAt, e, Option.bind_some]
      exact getN_all _ _ (by rw [rowsN_len])
end Go.Proofs.Ytemphcppnjlkcaa
