/- Copies of slices (the library's Clone and Clip), and frames. Generic. -/
import Derived.Test.YtcpcngamfncpdaaAiS
set_option linter.unusedVariables false
set_option linter.unusedSimpArgs false
namespace Go.Ai
open Go
variable {P : Program} {f : FuncId}

/-- the body of Clone -/
def XClone (k by_ : Nat) (z : List Value) : XCode := (.seq (.region [⟨(some 2), none, (.mv (.c (.slice none 0 0))), []⟩]) (.seq (.seq (.region [⟨(some 3), none, (.mv (.t 0)), []⟩, ⟨(some 4), none, (.isnil false true (.t 3)), []⟩]) (.cond (.t 4) (.seq (.region [⟨(some 2), none, (.mv (.c (.slice none 0 0))), []⟩]) .ret) .skip)) (.seq (.region [⟨(some 5), none, (.bslice 0 [] []), []⟩, ⟨(some 6), none, (.mv (.t 0)), []⟩, ⟨(some 7), none, (.append k by_ z (.t 5) (.t 6)), []⟩, ⟨(some 2), none, (.mv (.t 7)), []⟩]) .ret)))
/-- the body of Clip -/
def XClip (k : Nat) : XCode := (.seq (.region [⟨(some 2), none, (.mv (.c (.slice none 0 0))), []⟩]) (.seq (.region [⟨(some 3), none, (.mv (.t 0)), []⟩, ⟨(some 4), none, (.mv (.t 0)), []⟩, ⟨(some 5), none, (.len true (.t 4)), []⟩, ⟨(some 6), none, (.mv (.t 0)), []⟩, ⟨(some 7), none, (.len true (.t 6)), []⟩, ⟨(some 8), none, (.slice k (.t 3) none (some (.t 5)) (some (.t 7))), []⟩, ⟨(some 2), none, (.mv (.t 8)), []⟩]) .ret))

theorem clone_ok {k by_ : Nat} {z : List Value} (hz : z.length = k) (hk : 0 < k) (vf : ∀ {args : List Value} {h : AHeap} {Q : Value → AHeap → Prop}, args.length ≤ 8 → xcode P (XClone k by_ z) (FnPost [(.tmp 2)] Q) (argEnv 0 args) h → Valid P f args h Q)
    {h : AHeap} {a : Option Addr} {n c : Nat} {rows : List Value} (hf : firstV k h n (.slice a n c) = some rows) (hb : n * by_ ≤ 140737488355328) (hn : n ≤ 9223372036854775807) :
    Valid P f [.slice a n c] h fun r h' => (n = 0 ∧ r = .slice none 0 0 ∧ rows = [] ∧ h' = h) ∨ (n = 0 ∧ rows = [] ∧ r = .slice (some ⟨h.length, 0, none⟩) 0 0 ∧ h' = h ++ [some ⟨true, []⟩]) ∨ (n ≠ 0 ∧ r = .slice (some ⟨h.length + 1, 0, none⟩) n (unk + k) ∧ h' = h ++ [some ⟨true, []⟩, some ⟨true, rows⟩]) := by
  refine vf (by simp) ?_
  have hl := firstV_len hf
  cases a with
  | none =>
    have h0 : n = 0 ∧ rows = [] := by
      simp only [firstV] at hf
      split at hf
      · cases hf; exact ⟨‹_›, rfl⟩
      · cases hf
    simp [XClone, sx, x_box, x_alloc, x_bslice, x_slice, x_append, x_appz, x_b2s, x_s2b, x_mark, xop, ev, evs, evParts, fillL, cellsL, Ai.get, Ai.put, stab, isNil?, if_false, if_true, addr?, int?, str?, agg?, bool?, shiftA, FnPost, xresL, xres1, tup, argEnv, ptr, Nat.reduceEqDiff, reduceIte, beq_self_eq_true, ne_eq, Nat.reduceAdd, Nat.reduceMul, Nat.reduceSub, abin_shl, abin_shr, load1V, loadV, storeV, cellsAt, getN, setN, allocV, lenL, lenS, bnd, oneC, Value.oneCell', Nat.reduceLeDiff, Nat.reduceLT, exists_eq_left', forall_const, reduceCtorEq, app_new, app_new0, List.append_assoc, Int.reduceToNat, Int.reduceLT, Int.reduceLE, Int.reduceEq, Int.reduceNe, Int.reduceBEq, IntKind.bits, bne_self_eq_false, Int.reducePow, h0.1, h0.2]
  | some a =>
    simp only [XClone, sx, x_box, x_alloc, x_bslice, x_slice, x_appz, x_b2s, x_s2b, x_mark, xop, ev, evs, evParts, fillL, cellsL, Ai.get, Ai.put, stab, isNil?, if_false, if_true, addr?, int?, str?, agg?, bool?, shiftA, FnPost, xresL, xres1, tup, argEnv, ptr, Nat.reduceEqDiff, reduceIte, beq_self_eq_true, ne_eq, Nat.reduceAdd, Nat.reduceMul, Nat.reduceSub, abin_shl, abin_shr, load1V, loadV, storeV, cellsAt, getN, setN, allocV, lenL, lenS, bnd, oneC, Value.oneCell', Nat.reduceLeDiff, Nat.reduceLT, exists_eq_left', forall_const, reduceCtorEq, app_new, app_new0, List.append_assoc, Int.reduceToNat, Int.reduceLT, Int.reduceLE, Int.reduceEq, Int.reduceNe, Int.reduceBEq, IntKind.bits, bne_self_eq_false, Int.reducePow]
    refine clone_run (k := k) (by_ := by_) (rows := rows) (a := some a) (n := n) (c := c) hz hk ?_ ?_ hf hb hn ?_
    · rfl
    · rfl
    rintro J v (⟨h0, rfl, rfl⟩ | ⟨h0, rfl, rfl⟩)
    · subst h0
      have hr : rows = [] := List.eq_nil_of_length_eq_zero (by simpa using hl)
      simp [sx, x_box, x_alloc, x_bslice, x_slice, x_append, x_appz, x_b2s, x_s2b, x_mark, xop, ev, evs, evParts, fillL, cellsL, Ai.get, Ai.put, stab, isNil?, if_false, if_true, addr?, int?, str?, agg?, bool?, shiftA, FnPost, xresL, xres1, tup, argEnv, ptr, Nat.reduceEqDiff, reduceIte, beq_self_eq_true, ne_eq, Nat.reduceAdd, Nat.reduceMul, Nat.reduceSub, abin_shl, abin_shr, load1V, loadV, storeV, cellsAt, getN, setN, allocV, lenL, lenS, bnd, oneC, Value.oneCell', Nat.reduceLeDiff, Nat.reduceLT, exists_eq_left', forall_const, reduceCtorEq, app_new, app_new0, List.append_assoc, Int.reduceToNat, Int.reduceLT, Int.reduceLE, Int.reduceEq, Int.reduceNe, Int.reduceBEq, IntKind.bits, bne_self_eq_false, Int.reducePow, hr]
    · simp [sx, x_box, x_alloc, x_bslice, x_slice, x_append, x_appz, x_b2s, x_s2b, x_mark, xop, ev, evs, evParts, fillL, cellsL, Ai.get, Ai.put, stab, isNil?, if_false, if_true, addr?, int?, str?, agg?, bool?, shiftA, FnPost, xresL, xres1, tup, argEnv, ptr, Nat.reduceEqDiff, reduceIte, beq_self_eq_true, ne_eq, Nat.reduceAdd, Nat.reduceMul, Nat.reduceSub, abin_shl, abin_shr, load1V, loadV, storeV, cellsAt, getN, setN, allocV, lenL, lenS, bnd, oneC, Value.oneCell', Nat.reduceLeDiff, Nat.reduceLT, exists_eq_left', forall_const, reduceCtorEq, app_new, app_new0, List.append_assoc, Int.reduceToNat, Int.reduceLT, Int.reduceLE, Int.reduceEq, Int.reduceNe, Int.reduceBEq, IntKind.bits, bne_self_eq_false, Int.reducePow, h0]

theorem clip_nil {k : Nat} (vf : ∀ {args : List Value} {h : AHeap} {Q : Value → AHeap → Prop}, args.length ≤ 9 → xcode P (XClip k) (FnPost [(.tmp 2)] Q) (argEnv 0 args) h → Valid P f args h Q) (h : AHeap) :
    Valid P f [.slice none 0 0] h fun r h' => r = .slice none 0 0 ∧ h' = h := by
  refine vf (by simp) ?_
  simp [XClip, sx, x_box, x_alloc, x_bslice, x_slice, x_append, x_appz, x_b2s, x_s2b, x_mark, xop, ev, evs, evParts, fillL, cellsL, Ai.get, Ai.put, stab, isNil?, if_false, if_true, addr?, int?, str?, agg?, bool?, shiftA, FnPost, xresL, xres1, tup, argEnv, ptr, Nat.reduceEqDiff, reduceIte, beq_self_eq_true, ne_eq, Nat.reduceAdd, Nat.reduceMul, Nat.reduceSub, abin_shl, abin_shr, load1V, loadV, storeV, cellsAt, getN, setN, allocV, lenL, lenS, bnd, oneC, Value.oneCell', Nat.reduceLeDiff, Nat.reduceLT, exists_eq_left', forall_const, reduceCtorEq, app_new, app_new0, List.append_assoc, Int.reduceToNat, Int.reduceLT, Int.reduceLE, Int.reduceEq, Int.reduceNe, Int.reduceBEq, IntKind.bits, bne_self_eq_false, Int.reducePow, unk]

theorem clip_ok {k : Nat} (vf : ∀ {args : List Value} {h : AHeap} {Q : Value → AHeap → Prop}, args.length ≤ 9 → xcode P (XClip k) (FnPost [(.tmp 2)] Q) (argEnv 0 args) h → Valid P f args h Q) (h : AHeap) (B n c : Nat) (hn : n < unk) (hc : c = n ∨ c = unk + k) :
    Valid P f [.slice (some ⟨B, 0, none⟩) n c] h fun r h' => r = .slice (some ⟨B, 0, none⟩) n n ∧ h' = h := by
  refine vf (by simp) ?_
  have hnu : ¬ unk ≤ n := by omega
  rcases hc with rfl | rfl
  · by_cases h0 : c = 0
    · subst h0; simp [XClip, sx, x_box, x_alloc, x_bslice, x_slice, x_append, x_appz, x_b2s, x_s2b, x_mark, xop, ev, evs, evParts, fillL, cellsL, Ai.get, Ai.put, stab, isNil?, if_false, if_true, addr?, int?, str?, agg?, bool?, shiftA, FnPost, xresL, xres1, tup, argEnv, ptr, Nat.reduceEqDiff, reduceIte, beq_self_eq_true, ne_eq, Nat.reduceAdd, Nat.reduceMul, Nat.reduceSub, abin_shl, abin_shr, load1V, loadV, storeV, cellsAt, getN, setN, allocV, lenL, lenS, bnd, oneC, Value.oneCell', Nat.reduceLeDiff, Nat.reduceLT, exists_eq_left', forall_const, reduceCtorEq, app_new, app_new0, List.append_assoc, Int.reduceToNat, Int.reduceLT, Int.reduceLE, Int.reduceEq, Int.reduceNe, Int.reduceBEq, IntKind.bits, bne_self_eq_false, Int.reducePow, unk]
    · simp [XClip, sx, x_box, x_alloc, x_bslice, x_slice, x_append, x_appz, x_b2s, x_s2b, x_mark, xop, ev, evs, evParts, fillL, cellsL, Ai.get, Ai.put, stab, isNil?, if_false, if_true, addr?, int?, str?, agg?, bool?, shiftA, FnPost, xresL, xres1, tup, argEnv, ptr, Nat.reduceEqDiff, reduceIte, beq_self_eq_true, ne_eq, Nat.reduceAdd, Nat.reduceMul, Nat.reduceSub, abin_shl, abin_shr, load1V, loadV, storeV, cellsAt, getN, setN, allocV, lenL, lenS, bnd, oneC, Value.oneCell', Nat.reduceLeDiff, Nat.reduceLT, exists_eq_left', forall_const, reduceCtorEq, app_new, app_new0, List.append_assoc, Int.reduceToNat, Int.reduceLT, Int.reduceLE, Int.reduceEq, Int.reduceNe, Int.reduceBEq, IntKind.bits, bne_self_eq_false, Int.reducePow, hnu, h0]
  · by_cases h0 : n = 0
    · subst h0; simp [XClip, sx, x_box, x_alloc, x_bslice, x_slice, x_append, x_appz, x_b2s, x_s2b, x_mark, xop, ev, evs, evParts, fillL, cellsL, Ai.get, Ai.put, stab, isNil?, if_false, if_true, addr?, int?, str?, agg?, bool?, shiftA, FnPost, xresL, xres1, tup, argEnv, ptr, Nat.reduceEqDiff, reduceIte, beq_self_eq_true, ne_eq, Nat.reduceAdd, Nat.reduceMul, Nat.reduceSub, abin_shl, abin_shr, load1V, loadV, storeV, cellsAt, getN, setN, allocV, lenL, lenS, bnd, oneC, Value.oneCell', Nat.reduceLeDiff, Nat.reduceLT, exists_eq_left', forall_const, reduceCtorEq, app_new, app_new0, List.append_assoc, Int.reduceToNat, Int.reduceLT, Int.reduceLE, Int.reduceEq, Int.reduceNe, Int.reduceBEq, IntKind.bits, bne_self_eq_false, Int.reducePow, hnu]
    · simp [XClip, sx, x_box, x_alloc, x_bslice, x_slice, x_append, x_appz, x_b2s, x_s2b, x_mark, xop, ev, evs, evParts, fillL, cellsL, Ai.get, Ai.put, stab, isNil?, if_false, if_true, addr?, int?, str?, agg?, bool?, shiftA, FnPost, xresL, xres1, tup, argEnv, ptr, Nat.reduceEqDiff, reduceIte, beq_self_eq_true, ne_eq, Nat.reduceAdd, Nat.reduceMul, Nat.reduceSub, abin_shl, abin_shr, load1V, loadV, storeV, cellsAt, getN, setN, allocV, lenL, lenS, bnd, oneC, Value.oneCell', Nat.reduceLeDiff, Nat.reduceLT, exists_eq_left', forall_const, reduceCtorEq, app_new, app_new0, List.append_assoc, Int.reduceToNat, Int.reduceLT, Int.reduceLE, Int.reduceEq, Int.reduceNe, Int.reduceBEq, IntKind.bits, bne_self_eq_false, Int.reducePow, hnu, h0]

/-- a copy, with all its room used: what comes of the heap -/
theorem copied_of {k : Nat} {h J : AHeap} {n : Nat} {rows : List Value} {r : Value} (hlen : rows.length = n * k) (hn : n < unk)
    (o : (n = 0 ∧ r = .slice none 0 0 ∧ rows = [] ∧ J = []) ∨ (n = 0 ∧ rows = [] ∧ r = .slice (some ⟨h.length, 0, none⟩) 0 0 ∧ J = [some ⟨true, []⟩]) ∨ (n ≠ 0 ∧ r = .slice (some ⟨h.length + 1, 0, none⟩) n n ∧ J = [some ⟨true, []⟩, some ⟨true, rows⟩])) : Own h (h ++ J) r k rows := by
  rcases o with ⟨rfl, rfl, rfl, rfl⟩ | ⟨rfl, rfl, rfl, rfl⟩ | ⟨h0, rfl, rfl⟩
  · exact .inl ⟨rfl, rfl⟩
  · exact .inr ⟨h.length, 0, rfl, Nat.le_refl _, by simp, by decide, by simp⟩
  · exact .inr ⟨h.length + 1, n, rfl, by omega, hlen, hn, fun _ => by rw [app_new]; rfl⟩

/-- Clip of Clone, as one call behind the other -/
theorem clone_clip {k by_ : Nat} {z : List Value} (hz : z.length = k) (hk : 0 < k) {g : FuncId}
    (vf : ∀ {args : List Value} {h : AHeap} {Q : Value → AHeap → Prop}, args.length ≤ 8 → xcode P (XClone k by_ z) (FnPost [(.tmp 2)] Q) (argEnv 0 args) h → Valid P f args h Q)
    (vg : ∀ {args : List Value} {h : AHeap} {Q : Value → AHeap → Prop}, args.length ≤ 9 → xcode P (XClip k) (FnPost [(.tmp 2)] Q) (argEnv 0 args) h → Valid P g args h Q)
    {h : AHeap} {a : Option Addr} {n c : Nat} {rows : List Value} (hf : firstV k h n (.slice a n c) = some rows) (hb : n * by_ ≤ 140737488355328) (hn : n ≤ 9223372036854775807) :
    Valid P f [.slice a n c] h fun r h' => Valid P g [r] h' fun r h' => ∃ J, h' = h ++ J ∧ Own h h' r k rows := by
  have hlen := firstV_len hf
  have hu : n < unk := Nat.lt_of_le_of_lt hn (by decide)
  refine (clone_ok hz hk vf hf hb hn).mono ?_
  rintro r h' (⟨h0, rfl, hr, rfl⟩ | ⟨h0, hr, rfl, rfl⟩ | ⟨h0, rfl, rfl⟩)
  · refine (clip_nil vg h').mono ?_
    rintro r h2 ⟨rfl, rfl⟩
    exact ⟨[], by simp, .inl ⟨rfl, hr⟩⟩
  · refine (clip_ok vg _ h.length 0 0 (by decide) (.inl rfl)).mono ?_
    rintro r h2 ⟨rfl, rfl⟩
    exact ⟨_, rfl, copied_of hlen hu (.inr (.inl ⟨h0, hr, rfl, rfl⟩))⟩
  · refine (clip_ok vg _ (h.length + 1) n (unk + k) hu (.inr rfl)).mono ?_
    rintro r h2 ⟨rfl, rfl⟩
    exact ⟨_, rfl, copied_of hlen hu (.inr (.inr ⟨h0, rfl, rfl⟩))⟩

/-- all but some old blocks is as it was -/
def Fr (S : Nat → Prop) (h h' : AHeap) : Prop := h.length ≤ h'.length ∧ ∀ B, B < h.length → ¬ S B → h'[B]? = h[B]?
theorem Fr.refl (S : Nat → Prop) (h : AHeap) : Fr S h h := ⟨Nat.le_refl _, fun _ _ _ => rfl⟩
theorem Fr.trans {S S1 : Nat → Prop} {h h1 h2 : AHeap} (a : Fr S h h1) (b : Fr S1 h1 h2) (hs : ∀ B, S1 B → S B ∨ h.length ≤ B) : Fr S h h2 :=
  ⟨Nat.le_trans a.1 b.1, fun B hB hn => by
    rw [b.2 B (Nat.lt_of_lt_of_le hB a.1) (fun h1 => by rcases hs B h1 with h | h; exact hn h; omega), a.2 B hB hn]⟩
theorem Fr.app (S : Nat → Prop) (h t : AHeap) : Fr S h (h ++ t) := ⟨by simp, fun B hB _ => by rw [List.getElem?_append_left hB]⟩
theorem Fr.set {S : Nat → Prop} {h : AHeap} {X : Nat} (o : Option AObj) (hX : S X) : Fr S h (h.set X o) := ⟨by simp, fun B _ hn => set_ne (fun e => hn (by rw [← e]; exact hX)) _⟩
theorem Fr.mono {S S' : Nat → Prop} {h h' : AHeap} (a : Fr S h h') (hs : ∀ B, S B → S' B) : Fr S' h h' := ⟨a.1, fun B hB hn => a.2 B hB fun h => hn (hs B h)⟩
theorem Fr.get {S : Nat → Prop} {h h' : AHeap} {X : Nat} {x : Option AObj} (a : Fr S h h') (hX : h[X]? = some x) (hn : ¬ S X) : h'[X]? = some x := by
  rw [a.2 X (List.getElem?_eq_some_iff.1 hX).1 hn]; exact hX
theorem Fr.lt {S : Nat → Prop} {h h' : AHeap} (a : Fr S h h') {B : Nat} (hB : B < h.length) : B < h'.length := Nat.lt_of_lt_of_le hB a.1
theorem lt_of_get {h : AHeap} {X : Nat} {x : Option AObj} (hX : h[X]? = some x) : X < h.length := (List.getElem?_eq_some_iff.1 hX).1
theorem set_app_set {h : AHeap} {X : Nat} {x : Option AObj} (hX : h[X]? = some x) (o o' : Option AObj) (t : AHeap) : (h.set X o ++ t).set X o' = h.set X o' ++ t := by
  rw [app_set (set_same hX o), List.set_set]
end Go.Ai
