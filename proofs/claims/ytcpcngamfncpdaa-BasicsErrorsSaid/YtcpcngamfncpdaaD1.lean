import Derived.Test.YtcpcngamfncpdaaX
import Derived.Test.YtcpcngamfncpdaaAiZ
set_option linter.unusedVariables false
set_option linter.unusedSimpArgs false
namespace Go.Proofs.Ytcpcngamfncpdaa
open Go Go.Ai Go.Proofs

/-- what was there is there still -/
def Ext (h h' : AHeap) : Prop := h.length ≤ h'.length ∧ ∀ B, B < h.length → h'[B]? = h[B]?
theorem Ext.refl (h : AHeap) : Ext h h := ⟨Nat.le_refl _, fun _ _ => rfl⟩
theorem Ext.app (h t : AHeap) : Ext h (h ++ t) := ⟨by simp, fun B hB => List.getElem?_append_left hB⟩
theorem Ext.trans {a b c : AHeap} (h : Ext a b) (k : Ext b c) : Ext a c := ⟨Nat.le_trans h.1 k.1, fun B hB => by rw [k.2 B (Nat.lt_of_lt_of_le hB h.1), h.2 B hB]⟩
theorem Ext.get {a b : AHeap} (h : Ext a b) {B : Nat} {x : Option AObj} (hB : a[B]? = some x) : b[B]? = some x := by rw [h.2 B (lt_of_get hB)]; exact hB
theorem Ext.set {a b : AHeap} (h : Ext a b) {R : Nat} (hR : a.length ≤ R) (o : Option AObj) : Ext a (b.set R o) := ⟨by simpa using h.1, fun B hB => by rw [set_ne (by omega)]; exact h.2 B hB⟩
theorem Ext.first {a b : AHeap} (h : Ext a b) {k n : Nat} {v : Value} {rows : List Value} (hf : firstV k a n v = some rows) : firstV k b n v = some rows := firstV_keep hf fun B x hB => h.get hB


theorem elemB {n c : Nat} {h : AHeap} {q : Option Addr} {zs : List Int} (hf : firstV 1 h n (.slice q n c) = some (bR zs)) {i : Nat} (hi : i < n) :
    ∃ a o z, q = some a ∧ a.spot = none ∧ h[a.block]? = some (some o) ∧ o.cells[a.off + i]? = some (.int .u8 z) ∧ zs[i]? = some z := by
  cases q with
  | none => simp [firstV] at hf; omega
  | some a =>
    obtain ⟨h1, o, v, h2, h3, h4⟩ := firstV_elem1 hf hi
    rw [bR_get] at h4
    obtain ⟨z, h5, rfl⟩ := Option.map_eq_some_iff.1 h4
    exact ⟨a, o, z, rfl, h1, h2, h3, h5⟩


theorem same_ok {h : AHeap} {qa qb : Option Addr} {n m ca cb : Nat} {za zb : List Int} (ha : firstV 1 h n (.slice qa n ca) = some (bR za)) (hb : firstV 1 h m (.slice qb m cb) = some (bR zb)) (hn : n ≤ 1152921504606846976) :
    Valid Try.prog 42 [.slice qa n ca, .slice qb m cb] h fun r h' => r = .bool (decide (za = zb)) ∧ h' = h := by
  refine v42 (by simp) ?_
  have la := firstV_len ha
  have lb := firstV_len hb
  rw [bR_len, Nat.mul_one] at la lb
  by_cases hnm : (n : Int) = m
  · have hnm' : n = m := by omega
    simp only [X42, sx, x_box, x_alloc, x_bslice, x_slice, x_append, x_appz, x_b2s, x_s2b, x_mark, xop, ev, evs, evParts, fillL, cellsL, Ai.get, Ai.put, stab, isNil?, if_false, if_true, addr?, int?, str?, agg?, bool?, shiftA, FnPost, xresL, xres1, tup, argEnv, ptr, Nat.reduceEqDiff, reduceIte, beq_self_eq_true, ne_eq, Nat.reduceAdd, Nat.reduceMul, Nat.reduceSub, abin_shl, abin_shr, load1V, loadV, storeV, cellsAt, getN, setN, allocV, lenL, lenS, bnd, oneC, Value.oneCell', Nat.reduceLeDiff, Nat.reduceLT, exists_eq_left', forall_const, reduceCtorEq, app_new, app_new0, List.append_assoc, Int.reduceToNat, Int.reduceLT, Int.reduceLE, Int.reduceEq, Int.reduceNe, Int.reduceBEq, IntKind.bits, bne_self_eq_false, Int.reducePow, hnm]
    refine xcode_loop (fun k ρ h' => ∃ i, i + k = n ∧ get ρ 5 = some (.int .i64 (i : Nat)) ∧ get ρ 0 = some (.slice qa n ca) ∧ get ρ 1 = some (.slice qb m cb) ∧ h' = h ∧ ∀ j, j < i → za[j]? = zb[j]?) n
      ⟨0, by simp, rfl, rfl, rfl, rfl, fun j h => by omega⟩ ?_
    rintro k ρ h' ⟨i, hik, g5, g0, g1, rfl, hp⟩
    by_cases hlt : i < n
    · have hlt' : (i : Int) < m := by omega
      have hlt2 : (i : Int) < n := by omega
      have hge : (0 : Int) ≤ i := by omega
      have hw : IntKind.i64.wrap ((i : Int) + 1) = ((i + 1 : Nat) : Int) := by rw [i64_wrap] <;> omega
      obtain ⟨a, oa, x, rfl, a1, a2, a3, a4⟩ := elemB ha hlt
      obtain ⟨b, ob, y, rfl, b1, b2, b3, b4⟩ := elemB hb (show i < m by omega)
      by_cases hxy : x = y
      · simp only [sx, x_box, x_alloc, x_bslice, x_slice, x_append, x_appz, x_b2s, x_s2b, x_mark, xop, ev, evs, evParts, fillL, cellsL, Ai.get, Ai.put, stab, isNil?, if_false, if_true, addr?, int?, str?, agg?, bool?, shiftA, FnPost, xresL, xres1, tup, argEnv, ptr, Nat.reduceEqDiff, reduceIte, beq_self_eq_true, ne_eq, Nat.reduceAdd, Nat.reduceMul, Nat.reduceSub, abin_shl, abin_shr, load1V, loadV, storeV, cellsAt, getN, setN, allocV, lenL, lenS, bnd, oneC, Value.oneCell', Nat.reduceLeDiff, Nat.reduceLT, exists_eq_left', forall_const, reduceCtorEq, app_new, app_new0, List.append_assoc, Int.reduceToNat, Int.reduceLT, Int.reduceLE, Int.reduceEq, Int.reduceNe, Int.reduceBEq, IntKind.bits, bne_self_eq_false, Int.reducePow, g5, g0, g1, hlt', hlt2, hge, a1, a2, a3, b1, b2, b3, hxy, Nat.mul_one, hw]
        refine ⟨k - 1, by omega, i + 1, by omega, rfl, fun j hj => ?_⟩
        rcases Nat.lt_or_ge j i with h | h
        · exact hp j h
        · rw [show j = i by omega, a4, b4, hxy]
      · have hne : ¬ za = zb := fun e => by rw [e, b4] at a4; cases a4; exact hxy rfl
        simp only [sx, x_box, x_alloc, x_bslice, x_slice, x_append, x_appz, x_b2s, x_s2b, x_mark, xop, ev, evs, evParts, fillL, cellsL, Ai.get, Ai.put, stab, isNil?, if_false, if_true, addr?, int?, str?, agg?, bool?, shiftA, FnPost, xresL, xres1, tup, argEnv, ptr, Nat.reduceEqDiff, reduceIte, beq_self_eq_true, ne_eq, Nat.reduceAdd, Nat.reduceMul, Nat.reduceSub, abin_shl, abin_shr, load1V, loadV, storeV, cellsAt, getN, setN, allocV, lenL, lenS, bnd, oneC, Value.oneCell', Nat.reduceLeDiff, Nat.reduceLT, exists_eq_left', forall_const, reduceCtorEq, app_new, app_new0, List.append_assoc, Int.reduceToNat, Int.reduceLT, Int.reduceLE, Int.reduceEq, Int.reduceNe, Int.reduceBEq, IntKind.bits, bne_self_eq_false, Int.reducePow, g5, g0, g1, hlt', hlt2, hge, a1, a2, a3, b1, b2, b3, hxy, Nat.mul_one, hne]
    · have hlt' : ¬ (i : Int) < n := by omega
      have he : za = zb := List.ext_getElem? fun j => by
        rcases Nat.lt_or_ge j n with h | h
        · exact hp j (by omega)
        · rw [List.getElem?_eq_none (by omega), List.getElem?_eq_none (by omega)]
      simp only [sx, x_box, x_alloc, x_bslice, x_slice, x_append, x_appz, x_b2s, x_s2b, x_mark, xop, ev, evs, evParts, fillL, cellsL, Ai.get, Ai.put, stab, isNil?, if_false, if_true, addr?, int?, str?, agg?, bool?, shiftA, FnPost, xresL, xres1, tup, argEnv, ptr, Nat.reduceEqDiff, reduceIte, beq_self_eq_true, ne_eq, Nat.reduceAdd, Nat.reduceMul, Nat.reduceSub, abin_shl, abin_shr, load1V, loadV, storeV, cellsAt, getN, setN, allocV, lenL, lenS, bnd, oneC, Value.oneCell', Nat.reduceLeDiff, Nat.reduceLT, exists_eq_left', forall_const, reduceCtorEq, app_new, app_new0, List.append_assoc, Int.reduceToNat, Int.reduceLT, Int.reduceLE, Int.reduceEq, Int.reduceNe, Int.reduceBEq, IntKind.bits, bne_self_eq_false, Int.reducePow, g5, g0, g1, hlt', he]
  · have hne : ¬ za = zb := fun e => by rw [e] at la; omega
    simp only [X42, sx, x_box, x_alloc, x_bslice, x_slice, x_append, x_appz, x_b2s, x_s2b, x_mark, xop, ev, evs, evParts, fillL, cellsL, Ai.get, Ai.put, stab, isNil?, if_false, if_true, addr?, int?, str?, agg?, bool?, shiftA, FnPost, xresL, xres1, tup, argEnv, ptr, Nat.reduceEqDiff, reduceIte, beq_self_eq_true, ne_eq, Nat.reduceAdd, Nat.reduceMul, Nat.reduceSub, abin_shl, abin_shr, load1V, loadV, storeV, cellsAt, getN, setN, allocV, lenL, lenS, bnd, oneC, Value.oneCell', Nat.reduceLeDiff, Nat.reduceLT, exists_eq_left', forall_const, reduceCtorEq, app_new, app_new0, List.append_assoc, Int.reduceToNat, Int.reduceLT, Int.reduceLE, Int.reduceEq, Int.reduceNe, Int.reduceBEq, IntKind.bits, bne_self_eq_false, Int.reducePow, hnm, hne]


theorem bytes_ok {h : AHeap} {qa qb : Option Addr} {n m ca cb : Nat} {za zb : List Int} (ha : firstV 1 h n (.slice qa n ca) = some (bR za)) (hb : firstV 1 h m (.slice qb m cb) = some (bR zb)) (hn : n ≤ 1152921504606846976) (hca : ca = n) :
    Valid Try.prog 28 [.slice qa n ca, .slice qb m cb] h fun r h' => r = .int .i64 (if za = zb then 0 else 1) ∧ h' = h := by
  refine v28 (by simp) ?_
  subst hca
  have h1 : ca < unk := by unfold unk; omega
  simp only [X28, sx, x_box, x_alloc, x_bslice, x_slice, x_append, x_appz, x_b2s, x_s2b, x_mark, xop, ev, evs, evParts, fillL, cellsL, Ai.get, Ai.put, stab, isNil?, if_false, if_true, addr?, int?, str?, agg?, bool?, shiftA, FnPost, xresL, xres1, tup, argEnv, ptr, Nat.reduceEqDiff, reduceIte, beq_self_eq_true, ne_eq, Nat.reduceAdd, Nat.reduceMul, Nat.reduceSub, abin_shl, abin_shr, load1V, loadV, storeV, cellsAt, getN, setN, allocV, lenL, lenS, bnd, oneC, Value.oneCell', Nat.reduceLeDiff, Nat.reduceLT, exists_eq_left', forall_const, reduceCtorEq, app_new, app_new0, List.append_assoc, Int.reduceToNat, Int.reduceLT, Int.reduceLE, Int.reduceEq, Int.reduceNe, Int.reduceBEq, IntKind.bits, bne_self_eq_false, Int.reducePow, h1, Int.lt_irrefl]
  refine xcall (same_ok ha hb hn) (by rfl) (by rfl) (by rfl) (by rfl) ?_
  rintro r h' ⟨rfl, rfl⟩
  by_cases he : za = zb <;> simp [sx, x_box, x_alloc, x_bslice, x_slice, x_append, x_appz, x_b2s, x_s2b, x_mark, xop, ev, evs, evParts, fillL, cellsL, Ai.get, Ai.put, stab, isNil?, if_false, if_true, addr?, int?, str?, agg?, bool?, shiftA, FnPost, xresL, xres1, tup, argEnv, ptr, Nat.reduceEqDiff, reduceIte, beq_self_eq_true, ne_eq, Nat.reduceAdd, Nat.reduceMul, Nat.reduceSub, abin_shl, abin_shr, load1V, loadV, storeV, cellsAt, getN, setN, allocV, lenL, lenS, bnd, oneC, Value.oneCell', Nat.reduceLeDiff, Nat.reduceLT, exists_eq_left', forall_const, reduceCtorEq, app_new, app_new0, List.append_assoc, Int.reduceToNat, Int.reduceLT, Int.reduceLE, Int.reduceEq, Int.reduceNe, Int.reduceBEq, IntKind.bits, bne_self_eq_false, Int.reducePow, he]


/-- a slice that is appended to: nil, or all of an array -/
def RN (h : AHeap) (sl : Value) (zs : List Int) : Prop := (sl = .slice none 0 0 ∧ zs = []) ∨ ∃ A, sl = .slice (some ⟨A, 0, none⟩) zs.length (unk + 1) ∧ h[A]? = some (some ⟨true, bR zs⟩)
theorem RN.ret {h : AHeap} {sl : Value} {zs : List Int} (r : RN h sl zs) : Ret 1 h sl zs.length (bR zs) := by
  rcases r with ⟨rfl, rfl⟩ | ⟨A, rfl, h1⟩
  · exact ⟨rfl, .inl ⟨rfl, rfl⟩⟩
  · exact ⟨by rw [bR_len, Nat.mul_one], .inr (.inr ⟨_, rfl, h1⟩)⟩
theorem RN.keep {h h' : AHeap} {sl : Value} {zs : List Int} (r : RN h sl zs) (hk : ∀ A x, slB sl = some A → h[A]? = some x → h'[A]? = some x) : RN h' sl zs := by
  rcases r with r | ⟨A, rfl, h1⟩
  · exact .inl r
  · exact .inr ⟨A, rfl, hk A _ rfl h1⟩
/-- appended to it -/
theorem RN.append {K : Env → AHeap → Prop} {r : List XOper} {ρ : Env} {h : AHeap} {zs news : List Int} {d : Option Nat} {s x : XA} {sl xv : Value} (R : RN h sl zs)
    (hs : ev ρ s = some sl) (hx : ev ρ x = some xv) (hl : lenV xv = some news.length) (hf : firstV 1 h news.length xv = some (bR news)) (hb : zs.length + news.length ≤ 1048576)
    (hK : ∀ sl' h', RN h' sl' (zs ++ news) → h.length ≤ h'.length → (∀ B, B < h.length → slB sl ≠ some B → h'[B]? = h[B]?) → (∀ A, slB sl' = some A → slB sl = some A ∨ (h.length ≤ A)) → (sl' = sl ∧ h' = h ∨ ∃ A, slB sl' = some A ∧ h.length ≤ A ∧ A < h'.length) → xops Try.prog K r (put d sl' ρ) h') :
    xops Try.prog K (⟨d, none, .append 1 1 [.int .u8 0] s x, []⟩ :: r) ρ h := by
  refine append_run (k := 1) (by_ := 1) (n := zs.length) (m := news.length) (rows := bR zs) (news := bR news) (sl := sl) (xv := xv) rfl (by decide) hs hx hl hf (by rw [bR_len, Nat.mul_one]) (bR_one _) R.ret.toO (by omega) (by omega) (fun h0 => ?_) (fun h0 h' A' hA' hg hl' hfr => ?_)
  · have : news = [] := List.eq_nil_of_length_eq_zero h0
    refine hK sl h (by rw [this, List.append_nil]; exact R) (Nat.le_refl _) (fun _ _ _ => rfl) (fun A hA => .inl hA) (.inl ⟨rfl, rfl⟩)
  · refine hK _ h' (.inr ⟨A', by rw [List.length_append], by rw [hg, bR_append]⟩) (by omega) hfr (fun A hA => ?_) (.inr ⟨A', rfl, hA', lt_of_get hg⟩)
    simp [slB] at hA; subst hA; exact .inr hA'


end Go.Proofs.Ytcpcngamfncpdaa
