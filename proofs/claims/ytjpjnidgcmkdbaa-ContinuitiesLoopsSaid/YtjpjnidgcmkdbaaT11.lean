import Derived.Test.YtjpjnidgcmkdbaaT10
import Derived.Test.YtjpjnidgcmkdbaaT5
import Derived.Test.YtjpjnidgcmkdbaaAiZ
set_option linter.unusedVariables false
set_option linter.unusedSimpArgs false
namespace Go.Proofs.Ytjpjnidgcmkdbaa
open Go Go.Ai Go.Proofs

theorem first_same {k n c : Nat} {h h' : AHeap} {q : Option Addr} {rows : List Value} (hf : firstV k h n (.slice q n c) = some rows) (hk : ∀ a, q = some a → h'[a.block]? = h[a.block]?) : firstV k h' n (.slice q n c) = some rows := by
  cases q with
  | none => exact hf
  | some a => simpa only [firstV, cellsAt, hk a rfl] using hf
section
variable {h : AHeap} {X L : Nat} {w p m : Int} {cs : List Cir} {sl : Value} {ms : List Msg}
theorem take_ok (E : EndAt h X L w p m cs sl ms) (hn : ms.length < 65536) :
    Valid Try.prog 11 [ptr X 0] h fun r h' => EndAt h' X L w p m cs (.slice none 0 0) [] ∧ h'.length = h.length ∧ (∀ B, B ≠ X → h'[B]? = h[B]?) ∧ ∃ q, r = .slice q ms.length ms.length ∧ firstV 3 h' ms.length r = some (rowsM ms) ∧ (∀ a, q = some a → slB sl = some a.block) := by
  refine v11 (by simp) ?_
  have hX := E.obj
  unfold endC at hX
  simp only [X11, sx, x_box, x_alloc, x_bslice, x_slice, x_append, x_b2s, xop, ev, evs, evParts, fillL, cellsL, Ai.get, Ai.put, stab, isNil?, if_false, if_true, addr?, int?, str?, agg?, bool?, shiftA, FnPost, xresL, xres1, tup, argEnv, ptr, Nat.reduceEqDiff, reduceIte, beq_self_eq_true, ne_eq, Nat.reduceAdd, Nat.reduceMul, Nat.reduceSub, abin_shl, abin_shr, load1V, loadV, storeV, cellsAt, getN, setN, allocV, lenL, lenS, bnd, oneC, Value.oneCell', Nat.reduceLeDiff, Nat.reduceLT, exists_eq_left', forall_const, reduceCtorEq, app_new, app_new0, List.append_assoc, Int.reduceToNat, Int.reduceLT, Int.reduceLE, Int.reduceEq, Int.reduceNe, Int.reduceBEq, IntKind.bits, bne_self_eq_false, Int.reducePow]
  refine xcall (none_live E.obj E.pos) (by rfl) (by rfl) (by rfl) (by rfl) ?_
  rintro v h1 ⟨rfl, rfl⟩
  have hcl : Valid Try.prog 24 [sl] h1 fun r h' => h' = h1 ∧ ∃ q, r = .slice q ms.length ms.length ∧ firstV 3 h1 ms.length r = some (rowsM ms) ∧ (∀ a, q = some a → slB sl = some a.block) := by
    have hf := E.out.first
    rcases E.out with ⟨hl, ⟨rfl, h0⟩ | ⟨A, rfl, h0⟩ | ⟨A, rfl, hA⟩⟩
    · have ho : ms = [] := List.eq_nil_of_length_eq_zero h0
      subst ho
      refine (clip_nil v24 h1).mono ?_
      rintro r h' ⟨rfl, rfl⟩
      exact ⟨rfl, none, rfl, rfl, fun a h => by cases h⟩
    · have ho : ms = [] := List.eq_nil_of_length_eq_zero h0
      subst ho
      refine (clip_ok v24 h1 A 0 0 (by decide) (.inl rfl)).mono ?_
      rintro r h' ⟨rfl, rfl⟩
      exact ⟨rfl, _, rfl, rfl, fun a h => by cases h; rfl⟩
    · refine (clip_ok v24 h1 A ms.length (unk + 3) (by unfold unk; omega) (.inr rfl)).mono ?_
      rintro r h' ⟨rfl, rfl⟩
      refine ⟨rfl, _, rfl, ?_, fun a h => by cases h; rfl⟩
      simpa only [firstV] using hf
  simp only [sx, x_box, x_alloc, x_bslice, x_slice, x_append, x_b2s, xop, ev, evs, evParts, fillL, cellsL, Ai.get, Ai.put, stab, isNil?, if_false, if_true, addr?, int?, str?, agg?, bool?, shiftA, FnPost, xresL, xres1, tup, argEnv, ptr, Nat.reduceEqDiff, reduceIte, beq_self_eq_true, ne_eq, Nat.reduceAdd, Nat.reduceMul, Nat.reduceSub, abin_shl, abin_shr, load1V, loadV, storeV, cellsAt, getN, setN, allocV, lenL, lenS, bnd, oneC, Value.oneCell', Nat.reduceLeDiff, Nat.reduceLT, exists_eq_left', forall_const, reduceCtorEq, app_new, app_new0, List.append_assoc, Int.reduceToNat, Int.reduceLT, Int.reduceLE, Int.reduceEq, Int.reduceNe, Int.reduceBEq, IntKind.bits, bne_self_eq_false, Int.reducePow, hX]
  refine xcall hcl (by rfl) (by rfl) (by rfl) (by rfl) ?_
  rintro r h2 ⟨rfl, q, rfl, hf, hq⟩
  simp only [sx, x_box, x_alloc, x_bslice, x_slice, x_append, x_b2s, xop, ev, evs, evParts, fillL, cellsL, Ai.get, Ai.put, stab, isNil?, if_false, if_true, addr?, int?, str?, agg?, bool?, shiftA, FnPost, xresL, xres1, tup, argEnv, ptr, Nat.reduceEqDiff, reduceIte, beq_self_eq_true, ne_eq, Nat.reduceAdd, Nat.reduceMul, Nat.reduceSub, abin_shl, abin_shr, load1V, loadV, storeV, cellsAt, getN, setN, allocV, lenL, lenS, bnd, oneC, Value.oneCell', Nat.reduceLeDiff, Nat.reduceLT, exists_eq_left', forall_const, reduceCtorEq, app_new, app_new0, List.append_assoc, Int.reduceToNat, Int.reduceLT, Int.reduceLE, Int.reduceEq, Int.reduceNe, Int.reduceBEq, IntKind.bits, bne_self_eq_false, Int.reducePow, hX]
  have hg : ∀ B, B ≠ X → (h2.set X (some ⟨true, endC w p m (.slice (some ⟨L, 0, none⟩) cs.length cs.length) (.slice none 0 0)⟩))[B]? = h2[B]? := fun B hB => set_ne (Ne.symm hB) _
  refine ⟨⟨set_same E.obj _, ?_, ⟨rfl, .inl ⟨rfl, rfl⟩⟩, E.ne, by simp [slB], by simp [slB], by simp [slB], E.pos, E.big⟩, fun B hB => hg B hB, q, rfl, ?_, hq⟩
  · rw [set_ne E.ne]; exact E.row
  · refine first_same hf fun a ha => ?_
    exact set_ne (fun e => E.n1 (by rw [hq a ha, e])) _
theorem looped_ok {k : Int} {c : Cir} (E : EndAt h X L w p m cs sl ms) (h0 : 0 ≤ k) (h1 : k < cs.length) (hc : cs[k.toNat]? = some c) :
    Valid Try.prog 14 [ptr X 0, .int .i64 k] h fun r h' => r = .bool c.lp ∧ h' = h := by
  refine v14 (by simp) ?_
  have hX := E.obj
  have hL := E.row
  have g0 : (rowsC cs)[k.toNat * 4 + 3]? = some (.bool c.lp) := by rw [rowsC_get 3 (by omega) hc]; rfl
  simp only [X14, sx, x_box, x_alloc, x_bslice, x_slice, x_append, x_b2s, xop, ev, evs, evParts, fillL, cellsL, Ai.get, Ai.put, stab, isNil?, if_false, if_true, addr?, int?, str?, agg?, bool?, shiftA, FnPost, xresL, xres1, tup, argEnv, ptr, Nat.reduceEqDiff, reduceIte, beq_self_eq_true, ne_eq, Nat.reduceAdd, Nat.reduceMul, Nat.reduceSub, abin_shl, abin_shr, load1V, loadV, storeV, cellsAt, getN, setN, allocV, lenL, lenS, bnd, oneC, Value.oneCell', Nat.reduceLeDiff, Nat.reduceLT, exists_eq_left', forall_const, reduceCtorEq, app_new, app_new0, List.append_assoc, Int.reduceToNat, Int.reduceLT, Int.reduceLE, Int.reduceEq, Int.reduceNe, Int.reduceBEq, IntKind.bits, bne_self_eq_false, Int.reducePow]
  refine xcall (has_live E.obj E.pos) (by rfl) (by rfl) (by rfl) (by rfl) ?_
  rintro v h' ⟨rfl, rfl⟩
  unfold endC at hX
  simp [sx, x_box, x_alloc, x_bslice, x_slice, x_append, x_b2s, xop, ev, evs, evParts, fillL, cellsL, Ai.get, Ai.put, stab, isNil?, if_false, if_true, addr?, int?, str?, agg?, bool?, shiftA, FnPost, xresL, xres1, tup, argEnv, ptr, Nat.reduceEqDiff, reduceIte, beq_self_eq_true, ne_eq, Nat.reduceAdd, Nat.reduceMul, Nat.reduceSub, abin_shl, abin_shr, load1V, loadV, storeV, cellsAt, getN, setN, allocV, lenL, lenS, bnd, oneC, Value.oneCell', Nat.reduceLeDiff, Nat.reduceLT, exists_eq_left', forall_const, reduceCtorEq, app_new, app_new0, List.append_assoc, Int.reduceToNat, Int.reduceLT, Int.reduceLE, Int.reduceEq, Int.reduceNe, Int.reduceBEq, IntKind.bits, bne_self_eq_false, Int.reducePow, hX, h0, h1, hL, g0]
end

/-- an act on one circuit leaves the others -/
theorem actC_one (kind code : Int) (good : Bool) (c : Cir) : (actC kind code good c).2.length ≤ 1 ∧ ∀ x ∈ (actC kind code good c).2, x.code = code := by
  unfold actC
  split
  · split <;> simp
  · split
    · split <;> simp
    · split
      · split <;> simp
      · split
        · simp
        · unfold hearM; split <;> simp
theorem actOn_one (cs : List Cir) (kind code : Int) (good : Bool) : (actOn cs kind code good).1.length = cs.length ∧ (actOn cs kind code good).2.length ≤ 1 ∧ (∀ x ∈ (actOn cs kind code good).2, x.code = code) ∧
    ∀ i : Nat, (i : Int) ≠ code → (actOn cs kind code good).1[i]? = cs[i]? := by
  unfold actOn
  split
  · rename_i hk
    obtain ⟨c, hc⟩ := toNat_get hk.1 hk.2
    rw [hc]
    obtain ⟨h1, h2⟩ := actC_one kind code good c
    refine ⟨by simp, h1, h2, fun i hi => ?_⟩
    simp only
    rw [List.getElem?_set_ne (by omega)]
  · exact ⟨rfl, by simp, by simp, fun i _ => rfl⟩
theorem actS_len (w p m : Int) (cs : List Cir) (kind code : Int) (good : Bool) : (actS w p m cs kind code good).1.length = cs.length ∧ (actS w p m cs kind code good).2.length ≤ cs.length + 1 := by
  unfold actS
  split
  · have := tickN_len w p m cs cs.length
    exact ⟨this.1, by omega⟩
  · have := actOn_one cs kind code good
    exact ⟨this.1, by omega⟩
end Go.Proofs.Ytjpjnidgcmkdbaa
